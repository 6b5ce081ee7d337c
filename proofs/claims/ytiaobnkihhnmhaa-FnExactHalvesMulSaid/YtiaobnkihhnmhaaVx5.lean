/- Vx, part 6: the operations that touch their own temporary alone. -/
import Derived.Test.YtiaobnkihhnmhaaVx4
namespace Go.Vx
open Go.RowKit

/-- A value as a pure one reads it. -/
def RPV (w : World) (ok : Nat → Prop) (q : PV) (v : Value) : Prop := match q with
  | (true, xs) => ∃ cs : List Value, v = .agg cs.toArray ∧ All2 (PL.R w ok) xs cs
  | (false, xs) => ∃ x, xs = [x] ∧ PL.R w ok x v
def RRes (w : World) (ok : Nat → Prop) : Res → Value → Prop
  | .one q, v => RPV w ok q v
  | .tup qs, v => ∃ cs : List Value, v = .tuple cs.toArray ∧ All2 (RPV w ok) qs cs

/-- An array of the callee's own: block N j. -/
def FrA (w : World) (ei : TypeId) (N : Nat → Option Nat) (j : Nat) (l : List Int) (v : Value) : Prop :=
  (v = .slice none 0 0 ∧ l = []) ∨ ∃ g c cur, v = .slice (some ⟨g, 0, none⟩) l.length c ∧ N j = some g ∧ w.heap[g]? = some (.cells cur ei (0, 0)) ∧ l.length ≤ c ∧ c ≤ maxLen ∧ cur.size = c ∧ IntsAt w g 0 l
def FrLs (w : World) (ei : TypeId) (N : Nat → Option Nat) : Nat → List PL → List Value → Prop
  | _, [], [] => True
  | j, .ints l :: xs, c :: cs => FrA w ei N j l c ∧ FrLs w ei N (j + 1) xs cs
  | _, .arr _ _ :: _, _ => False
  | j, x :: xs, c :: cs => PL.R w (fun _ => False) x c ∧ FrLs w ei N (j + 1) xs cs
  | _, _, _ => False
def FrPV (w : World) (ei : TypeId) (N : Nat → Option Nat) (j : Nat) (q : PV) (v : Value) : Prop := match q with
  | (true, xs) => ∃ cs : List Value, v = .agg cs.toArray ∧ FrLs w ei N j xs cs
  | (false, xs) => ∃ x, xs = [x] ∧ FrLs w ei N j [x] [v]
def FrPVs (w : World) (ei : TypeId) (N : Nat → Option Nat) : Nat → List PV → List Value → Prop
  | _, [], [] => True
  | j, q :: qs, c :: cs => FrPV w ei N j q c ∧ FrPVs w ei N (j + q.2.length) qs cs
  | _, _, _ => False
def FrRes (w : World) (ei : TypeId) (N : Nat → Option Nat) : Res → Value → Prop
  | .one q, v => FrPV w ei N 0 q v
  | .tup qs, v => ∃ cs : List Value, v = .tuple cs.toArray ∧ FrPVs w ei N 0 qs cs

/-- What comes back (n: the heap's size before). -/
def DPost (ei : TypeId) (ok : Nat → Prop) (n : Nat) (w' : World) (r : Res) (v : Value) : Bool → Prop
  | false => RRes w' (fun b => ok b ∨ n ≤ b) r v
  | true => ∃ N : Nat → Option Nat, (∀ j b, N j = some b → n ≤ b ∧ b < w'.heap.size) ∧ (∀ j j' b, N j = some b → N j' = some b → j = j') ∧ FrRes w' ei N r v

/-- **What a call does**: function g, called with values that read as ps, returns a value that reads as r; nothing old has changed. fl: r's arrays are the call's own, each in a block for itself. -/
def DenS (P : Program) (ei : TypeId) (g : FuncId) (ps : List PV) (fl : Bool) (r : Res) : Prop :=
  (∃ fn, P.funcs[g]? = some fn ∧ (fn.name == "runtime.NumGoroutine") = false ∧ fn.body.isSome = true) ∧
  ∀ (ok : Nat → Prop) (w : World) (vs : List Value), All2 (RPV w ok) ps vs → Calls P g vs.toArray w fun e w' => ∃ v, e = .returned v ∧ Below w.heap.size w w' ∧ DPost ei ok w.heap.size w' r v fl

section
variable {F : Fr} {β : BM} {T : List FV} {a : Act} {w : World} {o : Oper} {Γ : Tab} {ei : TypeId} {Q : Exit → Act → World → Prop} {K : Act → World → Prop}

/-- What follows an operation: the temporary has its value, and the frame is as told. -/
def Nx (F : Fr) (T : List FV) (o : Oper) (a : Act) (K : Act → World → Prop) (k : FV → Prop) : Prop :=
  ∀ (f : FV) (β' : BM) (c : Value) (w' : World), k f → Sim F β' (put T o.dst f) (a.put o.dst c) w' → K (a.put o.dst c) w'

theorem y_value (h : Sim F β T a w) {k : FV → Prop} (hK : Nx F T o a K k) {f : FV} {c : Value} (hk : k f) (hr : (execOp a.eval o).run F.P w = .ok (.value c) w) (hc : RFV F β w f c) : o.wp F.P a w K Q :=
  wp_value hr (hK f β c w hk (h.put o.dst hc))

theorem y_move (h : Sim F β T a w) {k : FV → Prop} (hK : Nx F T o a K k) {x : Operand} (ho : o.op = .move x ∨ o.op = .assign x) (hk : k (opd T x)) : o.wp F.P a w K Q := by
  refine y_value h hK hk ?_ (opd_R h x)
  rcases ho with ho | ho <;> simp [execOp, ho]

theorem R_bool {F : Fr} {β : BM} {w : World} {t : Bool} {v : Value} (h : RFV F β w (.v false [.p (.bool t)]) v) : v = .bool t := by
  obtain ⟨x, hx, h⟩ := h
  cases hx
  exact h
theorem R_int {F : Fr} {β : BM} {w : World} {kd : IntKind} {t : Int} {v : Value} (h : RFV F β w (.v false [.p (.int kd t)]) v) : v = .int kd t := by
  obtain ⟨x, hx, h⟩ := h
  cases hx
  exact h
theorem R_v1 {F : Fr} {β : BM} {w : World} {s : Lf} {v : Value} (h : RFV F β w (.v false [s]) v) : RLf F β w s v := by
  obtain ⟨x, hx, h⟩ := h
  cases hx
  exact h

theorem y_pick (h : Sim F β T a w) {k : FV → Prop} (hK : Nx F T o a K k) {c x y : Operand} (ho : o.op = .pick c x y) {t : Bool}
    (hk : k (match t with | true => opd T x | false => opd T y)) (hc : opd T c = .v false [.p (.bool t)]) : o.wp F.P a w K Q := by
  have h1 := opd_R h c
  rw [hc] at h1
  have h1 := R_bool h1
  cases t with
  | true => exact y_value h hK hk (c := a.eval x) (by simp [execOp, ho, h1, asBool]) (opd_R h x)
  | false => exact y_value h hK hk (c := a.eval y) (by simp [execOp, ho, h1, asBool]) (opd_R h y)

theorem y_load (h : Sim F β T a w) {k : FV → Prop} (hK : Nx F T o a K k) (hT : tabB F.P ei Γ = true) {t : TypeId} {x : Operand} (ho : o.op = .load t x) {Den : FuncId → List PV → Bool → Res → Prop} (hY : Yk Γ ei Den o (opd T) k) : o.wp F.P a w K Q := by
  unfold Yk at hY
  simp only [ho] at hY
  split at hY
  · exact hY.elim
  rename_i r hr
  obtain ⟨hid, hrow⟩ := tab_row hT hr
  obtain ⟨hcs, hone⟩ := row_cells hrow
  rw [hid] at hcs hone
  have hx := opd_R h x
  split at hY
  · rename_i lab cs off hb
    rw [hb] at hx
    obtain ⟨g, cc, ty, hv, hb', hh, hall⟩ := hx
    split at hY
    · rename_i n hn
      obtain ⟨hle, hk⟩ := hY
      have hle : off + n ≤ cs.length := Nat.le_of_ble_eq_true hle
      have hlen := hall.length
      obtain ⟨h1, h2⟩ := hcs n hn
      have hrun := run_load_agg h1 h2 (w := w) (g := g) (o := off) (cs := (cc.toList.drop off).take n) (by simp at hlen ⊢; omega) (fun j v hj => by
        rw [List.getElem?_take] at hj
        split at hj
        · rw [List.getElem?_drop] at hj
          rw [cell_of_row w g (off + j) cc ty (0, 0) hh]
          simpa using hj
        · cases hj)
      exact y_value h hK hk (by simp [execOp, ho, Instr.loadAt, Instr.sureAddr, hv, hrun]) ⟨_, rfl, (hall.drop off).take n⟩
    · rename_i hn
      obtain ⟨y, hy, hk⟩ := hY
      obtain ⟨c, hc, hyc⟩ := hall.get off y hy
      have hcell : w.cell? ⟨g, off, none⟩ = some c := by rw [cell_of_row w g off cc ty (0, 0) hh]; simpa using hc
      have hrun := run_load_one (hone hn).1 hcell
      exact y_value h hK hk (by simp [execOp, ho, Instr.loadAt, Instr.sureAddr, hv, hrun]) ⟨y, rfl, hyc⟩
  · rename_i s i off hb
    rw [hb] at hx
    obtain ⟨g, o', n, c, x', hs, harr, hi, hv⟩ := hx
    obtain ⟨hn', hat⟩ := leaf_at hs harr (by omega)
    split at hY
    · rename_i l hl
      rw [harr] at hl
      cases hl
      split at hY
      · exact hY.elim
      · rename_i hn
        obtain ⟨z, hz, hoff, hk⟩ := hY
        subst hoff
        have hcell := hat i z hz
        have hrun := run_load_one (P := F.P) (hone hn).1 hcell
        refine y_value h hK hk (c := .int .i64 z) ?_ ⟨_, rfl, rfl⟩
        simp [execOp, ho, Instr.loadAt, Instr.sureAddr, hv, PL.wd, hrun]
    · rename_i kk l hl
      rw [harr] at hl
      cases hl
      obtain ⟨q, hq, hY⟩ := hY
      obtain ⟨hql, hcells⟩ := PL.Rows.get hat i q hq
      obtain ⟨cs, hall, hget⟩ := cells_list hcells
      have hlen := hall.length
      split at hY
      · rename_i n hn
        obtain ⟨hle, hk⟩ := hY
        have hle : off + n ≤ q.length := Nat.le_of_ble_eq_true hle
        obtain ⟨h1, h2⟩ := hcs n hn
        have hrun := run_load_agg h1 h2 (w := w) (g := g) (o := o' + i * kk + off) (cs := (cs.drop off).take n) (by simp; omega) (fun j v hj => by
          rw [List.getElem?_take] at hj
          split at hj
          · rw [List.getElem?_drop] at hj
            have := hget _ _ hj
            rw [← Nat.add_assoc] at this
            exact this
          · cases hj)
        refine y_value h hK hk ?_ ⟨_, rfl, all2_p (fun _ hg => hg) ((hall.drop off).take n)⟩
        simp [execOp, ho, Instr.loadAt, Instr.sureAddr, hv, PL.wd, hrun]
      · rename_i hn
        obtain ⟨y, hy, hk⟩ := hY
        obtain ⟨u, hu, hyu⟩ := hall.get off y hy
        have hrun := run_load_one (P := F.P) (hone hn).1 (hget _ _ hu)
        refine y_value h hK hk (c := u) ?_ ⟨_, rfl, hyu⟩
        simp [execOp, ho, Instr.loadAt, Instr.sureAddr, hv, PL.wd, hrun]
    · exact hY.elim
  · exact hY.elim

theorem run_bin {P : Program} {op : BinOp} {t : TypeId} {x y : Operand} {a b : Value} {w : World} {c : Value} (hg : (eqGuard op t x y a b).run P w = .ok () w) (h : (binOp op t a b).run P w = .ok c w) :
    ((do eqGuard op t x y a b; binOp op t a b : Sem Value)).run P w = .ok c w := by
  simp [Sem.run_bind, hg, h]

theorem eqg_int {P : Program} {op : BinOp} {t : TypeId} {x y : Operand} {kd : IntKind} {n : Int} {b : Value} {w : World} : (eqGuard op t x y (.int kd n) b).run P w = .ok () w := by
  rw [eqGuard_at_int]; rfl
theorem eqg_bool {P : Program} {op : BinOp} {t : TypeId} {x y : Operand} {n : Bool} {b : Value} {w : World} : (eqGuard op t x y (.bool n) b).run P w = .ok () w := by
  rw [eqGuard_at_bool]; rfl

theorem run_equal_bool {P : Program} {t : TypeId} (hu : P.underlying t = some .bool) (x y : Bool) (w : World) : (Op.equal t (.bool x) (.bool y)).run P w = .ok (x == y) w := by
  have : ∀ d, (Op.equalIn (d + 1) t (.bool x) (.bool y)).run P w = .ok (x == y) w := fun d => by
    unfold Op.equalIn
    rw [Sem.run_bind, run_underlying hu w]
    rfl
  exact this 9999
theorem run_eql_bool {P : Program} {t : TypeId} (hu : P.underlying t = some .bool) (x y : Bool) (w : World) : (binOp .eql t (.bool x) (.bool y)).run P w = .ok (.bool (x == y)) w := by
  show ((do pure (.bool (← Op.equal t (.bool x) (.bool y))) : Sem Value)).run P w = _
  rw [Sem.run_bind, run_equal_bool hu]
  rfl
theorem run_neq_bool {P : Program} {t : TypeId} (hu : P.underlying t = some .bool) (x y : Bool) (w : World) : (binOp .neq t (.bool x) (.bool y)).run P w = .ok (.bool (x != y)) w := by
  show ((do pure (.bool (!(← Op.equal t (.bool x) (.bool y)))) : Sem Value)).run P w = _
  rw [Sem.run_bind, run_equal_bool hu]
  rfl

theorem y_bin (h : Sim F β T a w) {k : FV → Prop} (hK : Nx F T o a K k) (hT : tabB F.P ei Γ = true) {op : BinOp} {t u : TypeId} {x y : Operand} (ho : o.op = .binOp op t x y u) {Den : FuncId → List PV → Bool → Res → Prop} (hY : Yk Γ ei Den o (opd T) k) : o.wp F.P a w K Q := by
  unfold Yk at hY
  simp only [ho] at hY
  have hx := opd_R h x
  have hy := opd_R h y
  split at hY
  · rename_i p q hp hq
    rw [hp] at hx
    rw [hq] at hy
    unfold binK at hY
    split at hY
    · rename_i kd m kd' n
      have hx := R_int hx
      have hy := R_int hy
      have done : ∀ {r : PL} {c : Value}, k (.v false [.p r]) → (binOp op t (.int kd m) (.int kd' n)).run F.P w = .ok c w → PL.R w (okU F β) r c → o.wp F.P a w K Q := by
        intro r c hk hr hc
        refine y_value h hK hk (c := c) ?_ ⟨_, rfl, hc⟩
        simp only [execOp, ho, hx, hy]
        rw [Sem.run_bind, run_bin eqg_int hr]
        rfl
      split at hY
      · obtain ⟨h0, z, hz, hk⟩ := hY
        refine done hk (c := .int kd z) ?_ rfl
        subst hz
        rw [binOp_shl]
        simp [Op.shift, show ¬ n < 0 by omega]
      · obtain ⟨h0, z, hz, hk⟩ := hY
        refine done hk (c := .int kd z) ?_ rfl
        subst hz
        rw [binOp_shr]
        simp [Op.shift, show ¬ n < 0 by omega]
      · obtain ⟨rfl, z, hz, hk⟩ := hY
        refine done hk (c := .int kd z) ?_ rfl
        subst hz
        rw [binOp_or, intBits_or]
        rfl
      obtain ⟨rfl, hY⟩ := hY
      split at hY
      · rename_i u' hu
        obtain ⟨z, hz, hk⟩ := hY
        refine done hk (c := .int kd z) ?_ rfl
        subst hz
        cases op <;> simp only [ariK] at hu <;> cases hu
        · rw [binOp_add]; rfl
        · rw [binOp_sub]; rfl
        · rw [binOp_mul]; rfl
      · split at hY
        · rename_i u' hu
          obtain ⟨z, hz, hk⟩ := hY
          refine done hk (c := .bool z) ?_ rfl
          subst hz
          cases op <;> simp only [cmpK] at hu <;> cases hu
          · rw [binOp_eql]; rfl
          · rw [binOp_neq]; simp only [Sem.run_pure]; congr 2; by_cases e : m = n <;> simp [e]
          · rw [binOp_lss]; rfl
          · rw [binOp_leq]; rfl
          · rw [binOp_gtr]; rfl
          · rw [binOp_geq]; rfl
        · cases op <;> dsimp only at hY <;> first | exact hY.elim | skip
          · obtain ⟨hn, z, hz, hk⟩ := hY
            refine done hk (c := .int kd z) ?_ rfl
            subst hz
            rw [binOp_quo]
            simp [Op.intDiv, hn]
          · obtain ⟨hn, z, hz, hk⟩ := hY
            refine done hk (c := .int kd z) ?_ rfl
            subst hz
            rw [binOp_rem]
            simp [Op.intDiv, hn]
    · rename_i m n
      have hx := R_bool hx
      have hy := R_bool hy
      have done : ∀ {r : PL} {c : Value}, k (.v false [.p r]) → (binOp op t (.bool m) (.bool n)).run F.P w = .ok c w → PL.R w (okU F β) r c → o.wp F.P a w K Q := by
        intro r c hk hr hc
        refine y_value h hK hk (c := c) ?_ ⟨_, rfl, hc⟩
        simp only [execOp, ho, hx, hy]
        rw [Sem.run_bind, run_bin eqg_bool hr]
        rfl
      have isb : (match Γ.get t with | some r => r.bool | none => false) = true → F.P.underlying t = some .bool := by
        intro hb
        split at hb
        · rename_i r hr
          obtain ⟨hid, hrow⟩ := tab_row hT hr
          exact row_bool hrow hb hid
        · cases hb
      split at hY
      · obtain ⟨hb, z, hz, hk⟩ := hY
        have hu := isb hb
        refine done hk (c := .bool z) ?_ rfl
        subst hz
        exact run_eql_bool hu m n w
      · obtain ⟨hb, z, hz, hk⟩ := hY
        have hu := isb hb
        refine done hk (c := .bool z) ?_ rfl
        subst hz
        exact run_neq_bool hu m n w
      · exact hY.elim
    · exact hY.elim
  · exact hY.elim

theorem y_un (h : Sim F β T a w) {k : FV → Prop} (hK : Nx F T o a K k) {op : UnOp} {t : TypeId} {x : Operand} (ho : o.op = .unOp op t x) {Den : FuncId → List PV → Bool → Res → Prop} (hY : Yk Γ ei Den o (opd T) k) : o.wp F.P a w K Q := by
  unfold Yk at hY
  simp only [ho] at hY
  have hx := opd_R h x
  split at hY
  · rename_i b hb
    rw [hb] at hx
    have hx := R_bool hx
    obtain ⟨z, hz, hk⟩ := hY
    subst hz
    exact y_value h hK hk (c := .bool !b) (by simp [execOp, ho, hx, Op.unary]) ⟨_, rfl, rfl⟩
  · rename_i kd n hb
    rw [hb] at hx
    have hx := R_int hx
    obtain ⟨z, hz, hk⟩ := hY
    subst hz
    exact y_value h hK hk (c := .int kd (kd.wrap (-n))) (by simp [execOp, ho, hx, Op.unary, Op.intArith]) ⟨_, rfl, rfl⟩
  · exact hY.elim

theorem y_fieldAddr (h : Sim F β T a w) {k : FV → Prop} (hK : Nx F T o a K k) (hT : tabB F.P ei Γ = true) {s : TypeId} {x : Operand} {fi : Nat} (ho : o.op = .fieldAddr s x fi) {Den : FuncId → List PV → Bool → Res → Prop} (hY : Yk Γ ei Den o (opd T) k) : o.wp F.P a w K Q := by
  unfold Yk at hY
  simp only [ho] at hY
  have hx := opd_R h x
  split at hY
  · rename_i id n offs z hr
    obtain ⟨hid, hrow⟩ := tab_row hT hr
    obtain ⟨fs, hu, hf, hsz⟩ := row_agg hrow rfl hid
    split at hY
    · exact hY.elim
    rename_i q hq
    obtain ⟨fd, hfd, hoff, h1, h2⟩ := fields_get hf hq
    have hfd' : fs[fi]? = some fd := by simpa using hfd
    have hne : ∃ n, sizeB F.P fd.type n = true ∧ n ≠ 0 := by
      cases hq2 : q.2 with
      | none => exact ⟨1, (h1 hq2).2, by decide⟩
      | some n => exact ⟨n, (h2 n hq2).2⟩
    obtain ⟨sz, hsz', hne⟩ := hne
    have place : ∀ g o', (fieldPlace ⟨g, o', none⟩ fd).run F.P w = .ok ⟨g, o' + q.1, none⟩ w := by
      intro g o'
      simp [fieldPlace, run_size hsz' w, hne, hoff, Addr.add_lit]
    split at hY
    · rename_i lab cs off hb
      rw [hb] at hx
      obtain ⟨g, cc, ty, hv, hb', hh, hall⟩ := hx
      refine y_value h hK hY (c := .pointer (some ⟨g, off + q.1, none⟩)) ?_ ⟨g, cc, ty, rfl, hb', hh, hall⟩
      simp [execOp, ho, Instr.fieldAt, run_underlying hu, hfd', Instr.sureAddr, hv, place]
    · rename_i l i off hb
      rw [hb] at hx
      obtain ⟨g, o', n', c, x', hs, harr, hi, hv⟩ := hx
      refine y_value h hK hY (c := .pointer (some ⟨g, o' + i * x'.wd + off + q.1, none⟩)) ?_ ⟨g, o', n', c, x', hs, harr, hi, by rw [Nat.add_assoc]⟩
      simp [execOp, ho, Instr.fieldAt, run_underlying hu, hfd', Instr.sureAddr, hv, place]
    · exact hY.elim
  · exact hY.elim

theorem y_field (h : Sim F β T a w) {k : FV → Prop} (hK : Nx F T o a K k) (hT : tabB F.P ei Γ = true) {s : TypeId} {x : Operand} {fi : Nat} (ho : o.op = .field s x fi) {Den : FuncId → List PV → Bool → Res → Prop} (hY : Yk Γ ei Den o (opd T) k) : o.wp F.P a w K Q := by
  unfold Yk at hY
  simp only [ho] at hY
  have hx := opd_R h x
  split at hY
  · rename_i id n offs z hr
    obtain ⟨hid, hrow⟩ := tab_row hT hr
    obtain ⟨fs, hu, hf, hsz⟩ := row_agg hrow rfl hid
    split at hY
    · exact hY.elim
    rename_i q hq
    obtain ⟨fd, hfd, hoff, h1, h2⟩ := fields_get hf hq
    have hfd' : fs[fi]? = some fd := by simpa using hfd
    split at hY
    · rename_i xs hb
      rw [hb] at hx
      obtain ⟨cs, hv, hall⟩ := hx
      split at hY
      · rename_i n' hn
        obtain ⟨hle, hk⟩ := hY
        have hle : q.1 + n' ≤ xs.length := Nat.le_of_ble_eq_true hle
        obtain ⟨hst, hsn, _⟩ := h2 n' hn
        refine y_value h hK hk (c := .agg ((cs.drop q.1).take n').toArray) ?_ ⟨_, rfl, (hall.drop _).take _⟩
        simp [execOp, ho, Instr.field, run_underlying hu, hfd', hv, asAgg, part, run_struct hst w, run_size hsn w, ← hoff]
      · rename_i hn
        obtain ⟨y, hy, hk⟩ := hY
        obtain ⟨hon, _⟩ := h1 hn
        obtain ⟨c, hc, hyc⟩ := hall.get q.1 y hy
        refine y_value h hK hk (c := c) ?_ ⟨y, rfl, hyc⟩
        simp [execOp, ho, Instr.field, run_underlying hu, hfd', hv, asAgg, part, run_one hon w, ← hoff, hc]
    · exact hY.elim
  · exact hY.elim

theorem y_indexAddr (h : Sim F β T a w) {k : FV → Prop} (hK : Nx F T o a K k) (hT : tabB F.P ei Γ = true) {t : TypeId} {x ix : Operand} (ho : o.op = .indexAddr t x ix) {Den : FuncId → List PV → Bool → Res → Prop} (hY : Yk Γ ei Den o (opd T) k) : o.wp F.P a w K Q := by
  unfold Yk at hY
  simp only [ho] at hY
  have hx := opd_R h x
  have hix := opd_R h ix
  split at hY
  · exact hY.elim
  rename_i r hr
  obtain ⟨hid, hrow⟩ := tab_row hT hr
  split at hY
  · rename_i s kd z hs hz
    rw [hs] at hx
    rw [hz] at hix
    have hx := R_v1 hx
    have hix := R_int hix
    split at hY
    · rename_i y hy
      obtain ⟨hty, i, rfl, hi, hk⟩ := hY
      obtain ⟨e, hu, hsz⟩ := row_arr (by unfold tabB at hT; rw [Bool.and_eq_true] at hT; exact hT.1) hrow hty hid
      obtain ⟨A, c, hv, h1, h2, h3⟩ := leaf_slice hx hy
      obtain ⟨g, o', rfl⟩ := h3 (by omega)
      refine y_value h hK hk (c := .pointer (some ⟨g, o' + i * y.wd, none⟩)) ?_ ⟨g, o', y.len, c, y, hv ▸ hx, hy, hi, rfl⟩
      simp [execOp, ho, Instr.indexAt, hix, asIntOf, hv, run_underlying hu, run_size hsz w, hi, Addr.add_lit]
    · exact hY.elim
  · exact hY.elim

theorem y_extract (h : Sim F β T a w) {k : FV → Prop} (hK : Nx F T o a K k) {x : Operand} {j : Nat} (ho : o.op = .extract x j) {Den : FuncId → List PV → Bool → Res → Prop} (hY : Yk Γ ei Den o (opd T) k) : o.wp F.P a w K Q := by
  unfold Yk at hY
  simp only [ho] at hY
  have hx := opd_R h x
  split at hY
  · rename_i vs hs
    rw [hs] at hx
    obtain ⟨cs, hv, hall⟩ := hx
    obtain ⟨q, hq, hk⟩ := hY
    obtain ⟨c, hc, hqc⟩ := hall.get j q hq
    exact y_value h hK hk (c := c) (by simp [execOp, ho, Instr.extract, hv, hc]) hqc
  · exact hY.elim
end
end Go.Vx
