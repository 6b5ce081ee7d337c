/- Vx5, Vx6 -/
import Derived.Test.YtpmgjmkobpeepaaGreatVGa
import Derived.Lib.ConvBytes
import Derived.Laws.BytesArg
set_option linter.unusedVariables false
set_option linter.unusedSectionVars false
set_option linter.unusedSimpArgs false
section
/- Vx, part 6: the operations that touch their own temporary alone. -/
namespace Go.Vx
open Go.RowKit

/-- A value as a pure one reads it. -/
def RPV (w : World) (ok : Nat → Prop) (q : PV) (v : Value) : Prop := match q with
 | (true, xs) => ∃ cs : List Value, v = .agg cs.toArray ∧ All2 (PL.R w ok) xs cs
 | (false, xs) => ∃ x, xs = [x] ∧ PL.R w ok x v
def RRes (w : World) (ok : Nat → Prop) : Res → Value → Prop
 | .one q, v => RPV w ok q v
 | .tup qs, v => ∃ cs : List Value, v = .tuple cs.toArray ∧ All2 (RPV w ok) qs cs

/-- An array of the callee's own: block N j. -/
def FrA (w : World) (ei : TypeId) (N : Nat → Option Nat) (j : Nat) (l : List Int) (v : Value) : Prop :=
 (v = .slice none 0 0 ∧ l = []) ∨ ∃ g c cur, v = .slice (some ⟨g, 0, none⟩) l.length c ∧ N j = some g ∧ w.heap[g]? = some (.cells cur ei (0, 0)) ∧ l.length ≤ c ∧ c ≤ maxLen ∧ cur.size = c ∧ IntsAt w g 0 l
def FrLs (w : World) (ei : TypeId) (N : Nat → Option Nat) : Nat → List PL → List Value → Prop
 | _, [], [] => True
 | j, .ints l :: xs, c :: cs => FrA w ei N j l c ∧ FrLs w ei N (j + 1) xs cs
 | j, .arr k l :: xs, c :: cs => DeepAt w ei (N j) (fun n => N (j + 1000 * (n + 1))) k l c ∧ FrLs w ei N (j + 1) xs cs
 | j, x :: xs, c :: cs => PL.R w (fun _ => False) x c ∧ FrLs w ei N (j + 1) xs cs
 | _, _, _ => False
def FrPV (w : World) (ei : TypeId) (N : Nat → Option Nat) (j : Nat) (q : PV) (v : Value) : Prop := match q with
 | (true, xs) => ∃ cs : List Value, v = .agg cs.toArray ∧ FrLs w ei N j xs cs
 | (false, xs) => ∃ x, xs = [x] ∧ FrLs w ei N j [x] [v]
def FrPVs (w : World) (ei : TypeId) (N : Nat → Option Nat) : Nat → List PV → List Value → Prop
 | _, [], [] => True
 | j, q :: qs, c :: cs => FrPV w ei N j q c ∧ FrPVs w ei N (j + q.2.length) qs cs
 | _, _, _ => False
def FrRes (w : World) (ei : TypeId) (N : Nat → Option Nat) : Res → Value → Prop
 | .one q, v => FrPV w ei N 0 q v
 | .tup qs, v => ∃ cs : List Value, v = .tuple cs.toArray ∧ FrPVs w ei N 0 qs cs

/-- What comes back (n: the heap's size before). -/
def DPost (ei : TypeId) (ok : Nat → Prop) (n : Nat) (w' : World) (r : Res) (v : Value) : Bool → Prop
 | false => RRes w' (fun b => ok b ∨ n ≤ b) r v
 | true => ∃ N : Nat → Option Nat, (∀ j b, N j = some b → n ≤ b ∧ b < w'.heap.size) ∧ (∀ j j' b, N j = some b → N j' = some b → j = j') ∧ FrRes w' ei N r v

/-- **What a call does**: function g, called with values that read as ps, returns a value that reads as r; nothing old has changed. fl: r's arrays are the call's own, each in a block for itself. -/
def DenS (P : Program) (ei : TypeId) (g : FuncId) (ps : List PV) (fl : Bool) (r : Res) : Prop :=
 (∃ fn, P.funcs[g]? = some fn ∧ (fn.name == "runtime.NumGoroutine") = false ∧ fn.body.isSome = true) ∧
 ∀ (ok : Nat → Prop) (w : World) (vs : List Value), Keeps P (fun _ => False) w → All2 (RPV w ok) ps vs → Calls P g vs.toArray w fun e w' => ∃ v, e = .returned v ∧ Below w.heap.size w w' ∧ DPost ei ok w.heap.size w' r v fl

section
variable {F : Fr} {β : BM} {T : List FV} {a : Act} {w : World} {o : Oper} {Γ : Tab} {ei : TypeId} {Q : Exit → Act → World → Prop} {K : Act → World → Prop}

/-- What follows an operation: the temporary has its value, and the frame is as told. -/
def Nx (F : Fr) (T : List FV) (o : Oper) (a : Act) (K : Act → World → Prop) (k : FV → Prop) : Prop :=
 ∀ (f : FV) (β' : BM) (c : Value) (w' : World), k f → Sim F β' (put T o.dst f) (a.put o.dst c) w' → K (a.put o.dst c) w'

theorem y_value (h : Sim F β T a w) {k : FV → Prop} (hK : Nx F T o a K k) {f : FV} {c : Value} (hk : k f) (hr : (execOp a.eval o).run F.P w = .ok (.value c) w) (hc : RFV F β w f c) : o.wp F.P a w K Q :=
 wp_value hr (hK f β c w hk (h.put o.dst hc))

theorem y_move (h : Sim F β T a w) {k : FV → Prop} (hK : Nx F T o a K k) {x : Operand} (ho : o.op = .move x ∨ o.op = .assign x) (hk : k (opd T x)) : o.wp F.P a w K Q := by
 refine y_value h hK hk ?_ (opd_R h x)
 rcases ho with ho | ho <;> simp [execOp, ho]

theorem R_bool {F : Fr} {β : BM} {w : World} {t : Bool} {v : Value} (h : RFV F β w (.v false [.p (.bool t)]) v) : v = .bool t := by
 obtain ⟨x, hx, h⟩ := h
 cases hx
 exact h
theorem R_int {F : Fr} {β : BM} {w : World} {kd : IntKind} {t : Int} {v : Value} (h : RFV F β w (.v false [.p (.int kd t)]) v) : v = .int kd t := by
 obtain ⟨x, hx, h⟩ := h
 cases hx
 exact h
theorem R_v1 {F : Fr} {β : BM} {w : World} {s : Lf} {v : Value} (h : RFV F β w (.v false [s]) v) : RLf F β w s v := by
 obtain ⟨x, hx, h⟩ := h
 cases hx
 exact h

theorem y_pick (h : Sim F β T a w) {k : FV → Prop} (hK : Nx F T o a K k) {c x y : Operand} (ho : o.op = .pick c x y) {t : Bool}
  (hk : k (match t with | true => opd T x | false => opd T y)) (hc : opd T c = .v false [.p (.bool t)]) : o.wp F.P a w K Q := by
 have h1 := opd_R h c
 rw [hc] at h1
 have h1 := R_bool h1
 cases t with
 | true => exact y_value h hK hk (c := a.eval x) (by simp [execOp, ho, h1, asBool]) (opd_R h x)
 | false => exact y_value h hK hk (c := a.eval y) (by simp [execOp, ho, h1, asBool]) (opd_R h y)

theorem R_v1' {F : Fr} {β : BM} {w : World} {x : Lf} {v : Value} (h : RFV F β w (.v false [x]) v) : RLf F β w x v := by
 obtain ⟨y, hy, h⟩ := h
 cases hy
 exact h
theorem kid_RLf {F : Fr} {β : BM} {w : World} {lab : Lab} {e : TypeId} {k2 : Nat} {l2 : List (List PL)} {n : Nat} {y : PL} {z : Lf} {u : Value} (hz : kidLf (.deep lab e k2 l2) n y = some z) (hkx : KidAt w e (β (kidL lab n)) y u) : RLf F β w z u := by
 cases y with
 | ints zz => cases hz; exact hkx
 | int kd zz => cases hz; exact hkx.2
 | bool zz => cases hz; exact hkx.2
 | str zz => cases hz; exact hkx.2
 | fn zz => cases hz; exact hkx.2
 | clo zz z2 => cases hz
 | pint zz => cases hz
 | darr zz z2 => cases hz
 | arr zz z2 => cases hz
/-- Cells in a row. -/
theorem kids_RLf {F : Fr} {β : BM} {w : World} {lab : Lab} {e : TypeId} {k2 : Nat} {l2 : List (List PL)} {cur : Array Value} : ∀ {ys : List PL} {n m : Nat} {zs : List Lf}, kidLfs (.deep lab e k2 l2) n ys = some zs →
  (∀ (j : Nat) (y : PL), ys[j]? = some y → ∃ u, cur[m + j]? = some u ∧ KidAt w e (β (kidL lab (n + j))) y u) → ∃ cs : List Value, All2 (RLf F β w) zs cs ∧ cs.length = ys.length ∧ ∀ (j : Nat) (c : Value), cs[j]? = some c → cur[m + j]? = some c
 | [], n, m, zs, hz, _ => by
  cases hz
  exact ⟨[], True.intro, rfl, fun j c h => by simp at h⟩
 | y :: ys, n, m, zs, hz, h => by
  unfold kidLfs at hz
  split at hz
  ·rename_i z zs' h1 h2
   cases hz
   obtain ⟨u, hu, hk⟩ := h 0 y rfl
   obtain ⟨cs, g1, g2, g3⟩ := kids_RLf (m := m + 1) h2 (fun j y' hy => by
    obtain ⟨u, hu, hk⟩ := h (j + 1) y' (by simpa using hy)
    exact ⟨u, by rw [show m + 1 + j = m + (j + 1) by omega]; exact hu, by rw [show n + 1 + j = n + (j + 1) by omega]; exact hk⟩)
   refine ⟨u :: cs, ⟨kid_RLf h1 hk, g1⟩, by simp [g2], fun j c hc => ?_⟩
   cases j with
   | zero => simp at hc; subst hc; exact hu
   | succ j =>
    have := g3 j c (by simpa using hc)
    rw [show m + (j + 1) = m + 1 + j by omega]
    exact this
  ·cases hz
theorem arr_darr {s : Lf} {kk : Nat} {l : List (List PL)} (h : s.arr? = some (.darr kk l)) : ∃ lab e, s = .deep lab e kk l := by
 cases s with
 | p x => cases x <;> cases h
 | own lab e x => cases x <;> cases h
 | deep lab e k l => cases h; exact ⟨lab, e, rfl⟩
 | nil => cases h
 | undef => cases h
 | kid lab e n l => cases h
theorem y_load (h : Sim F β T a w) {k : FV → Prop} (hK : Nx F T o a K k) (hT : tabB F.P ei Γ = true) {t : TypeId} {x : Operand} (ho : o.op = .load t x) {Den : FuncId → List PV → Bool → Res → Prop} (hY : Yk Γ ei Den o (opd T) k) : o.wp F.P a w K Q := by
 unfold Yk at hY
 simp only [ho] at hY
 split at hY
 ·exact hY.elim
 rename_i r hr
 obtain ⟨hid, hrow⟩ := tab_row hT hr
 obtain ⟨hcs, hone⟩ := row_cells hrow
 rw [hid] at hcs hone
 have hx := opd_R h x
 split at hY
 ·rename_i lab cs off hb
  rw [hb] at hx
  obtain ⟨g, cc, ty, hv, hb', hh, hall⟩ := hx
  split at hY
  ·rename_i n hn
   obtain ⟨hle, hk⟩ := hY
   have hle : off + n ≤ cs.length := Nat.le_of_ble_eq_true hle
   have hlen := hall.length
   obtain ⟨h1, h2⟩ := hcs n hn
   have hrun := run_load_agg h1 h2 (w := w) (g := g) (o := off) (cs := (cc.toList.drop off).take n) (by simp at hlen ⊢; omega) (fun j v hj => by
    rw [List.getElem?_take] at hj
    split at hj
    ·rw [List.getElem?_drop] at hj
     rw [cell_of_row w g (off + j) cc ty (0, 0) hh]
     simpa using hj
    ·cases hj)
   exact y_value h hK hk (by simp [execOp, ho, Instr.loadAt, Instr.sureAddr, hv, hrun]) ⟨_, rfl, (hall.drop off).take n⟩
  ·rename_i hn
   obtain ⟨y, hy, hk⟩ := hY
   obtain ⟨c, hc, hyc⟩ := hall.get off y hy
   have hcell : w.cell? ⟨g, off, none⟩ = some c := by rw [cell_of_row w g off cc ty (0, 0) hh]; simpa using hc
   have hrun := run_load_one (hone hn).1 hcell
   exact y_value h hK hk (by simp [execOp, ho, Instr.loadAt, Instr.sureAddr, hv, hrun]) ⟨y, rfl, hyc⟩
 ·rename_i s i off hb
  rw [hb] at hx
  obtain ⟨g, o', n, c, x', hs, harr, hi, hv⟩ := hx
  obtain ⟨hn', hat⟩ := leaf_at hs harr (by omega)
  split at hY
  ·rename_i l hl
   rw [harr] at hl
   cases hl
   split at hY
   ·exact hY.elim
   ·rename_i hn
    obtain ⟨z, hz, hoff, hk⟩ := hY
    subst hoff
    have hcell := hat i z hz
    have hrun := run_load_one (P := F.P) (hone hn).1 hcell
    refine y_value h hK hk (c := .int .i64 z) ?_ ⟨_, rfl, rfl⟩
    simp [execOp, ho, Instr.loadAt, Instr.sureAddr, hv, PL.wd, hrun]
  ·rename_i kk l hl
   rw [harr] at hl
   cases hl
   obtain ⟨q, hq, hY⟩ := hY
   obtain ⟨hql, hcells⟩ := PL.Rows.get hat i q hq
   obtain ⟨cs, hall, hget⟩ := cells_list hcells
   have hlen := hall.length
   split at hY
   ·rename_i n hn
    obtain ⟨hle, hk⟩ := hY
    have hle : off + n ≤ q.length := Nat.le_of_ble_eq_true hle
    obtain ⟨h1, h2⟩ := hcs n hn
    have hrun := run_load_agg h1 h2 (w := w) (g := g) (o := o' + i * kk + off) (cs := (cs.drop off).take n) (by simp; omega) (fun j v hj => by
     rw [List.getElem?_take] at hj
     split at hj
     ·rw [List.getElem?_drop] at hj
      have := hget _ _ hj
      rw [← Nat.add_assoc] at this
      exact this
     ·cases hj)
    refine y_value h hK hk ?_ ⟨_, rfl, all2_p (fun _ hg => hg) ((hall.drop off).take n)⟩
    simp [execOp, ho, Instr.loadAt, Instr.sureAddr, hv, PL.wd, hrun]
   ·rename_i hn
    obtain ⟨y, hy, hk⟩ := hY
    obtain ⟨u, hu, hyu⟩ := hall.get off y hy
    have hrun := run_load_one (P := F.P) (hone hn).1 (hget _ _ hu)
    refine y_value h hK hk (c := u) ?_ ⟨_, rfl, hyu⟩
    simp [execOp, ho, Instr.loadAt, Instr.sureAddr, hv, PL.wd, hrun]
  ·rename_i kk l hl
   rw [harr] at hl
   cases hl
   obtain ⟨q, hq, hY⟩ := hY
   split at hY
   ·rename_i n hn
    obtain ⟨hle, zs, hz, hk⟩ := hY
    have hle : off + n ≤ q.length := Nat.le_of_ble_eq_true hle
    obtain ⟨h1, h2⟩ := hcs n hn
    obtain ⟨lab, e, rfl⟩ := arr_darr harr
    ·rcases hs.2 with ⟨hv0, _⟩ | ⟨g', c', cur, e', hv0, hbl, hh, j1, j2, j3, j4⟩
     ·cases hv0
     ·cases hv0
      obtain ⟨m1, m2⟩ := j4 i q hq
      obtain ⟨cs, g1, g2, g3⟩ := kids_RLf (F := F) (m := i * kk + off) hz (fun j y hy => by
       rw [List.getElem?_take] at hy
       split at hy
       ·rw [List.getElem?_drop] at hy
        obtain ⟨u, hu, hkx⟩ := m2 (off + j) y hy
        exact ⟨u, by rw [Nat.add_assoc]; exact hu, by rw [Nat.add_assoc]; exact hkx⟩
       ·cases hy)
      have hrun := run_load_agg h1 h2 (w := w) (g := g) (o := i * kk + off) (cs := cs) (by rw [g2]; simp; omega) (fun j v hj => by
       have := g3 j v hj
       rw [cell_of_row w g _ cur e' (0, 0) hh]
       exact this)
      refine y_value h hK hk ?_ ⟨_, rfl, g1⟩
      simp [execOp, ho, Instr.loadAt, Instr.sureAddr, hv, PL.wd, hrun]
   ·rename_i hn
    obtain ⟨y, hy, z, hz, hk⟩ := hY
    cases s with
    | deep lab e k2 l2 =>
     cases harr
     rcases hs.2 with ⟨hv0, _⟩ | ⟨g', c', cur, e', hv0, hbl, hh, j1, j2, j3, j4⟩
     ·cases hv0
     ·cases hv0
      obtain ⟨m1, m2⟩ := j4 i q hq
      obtain ⟨u, hu, hkx⟩ := m2 off y hy
      have hcell : w.cell? ⟨g, i * kk + off, none⟩ = some u := by rw [cell_of_row w g _ cur e' (0, 0) hh]; exact hu
      have hrun := run_load_one (P := F.P) (hone hn).1 hcell
      refine y_value h hK hk (c := u) ?_ ⟨_, rfl, ?_⟩
      ·simp [execOp, ho, Instr.loadAt, Instr.sureAddr, hv, PL.wd, hrun]
      ·cases y with
       | ints zz => cases hz; exact hkx
       | int kd zz => cases hz; exact hkx.2
       | bool zz => cases hz; exact hkx.2
       | str zz => cases hz; exact hkx.2
       | fn zz => cases hz; exact hkx.2
       | clo zz z2 => cases hz
       | pint zz => cases hz
       | darr zz z2 => cases hz
       | arr zz z2 => cases hz
    | _ => cases hz
  ·exact hY.elim
 ·rename_i z hb
  rw [hb] at hx
  obtain ⟨g, o', hv, _, _, hc⟩ := (show PL.R w (okU F β) (.pint z) (a.eval x) from R_v1' hx)
  split at hY
  ·rename_i hn
   have hrun := run_load_one (P := F.P) (hone hn).1 hc
   exact y_value h hK hY (c := .int .i64 z) (by simp [execOp, ho, Instr.loadAt, Instr.sureAddr, hv, hrun]) ⟨_, rfl, rfl⟩
  ·exact hY.elim
 ·exact hY.elim

theorem run_bin {P : Program} {op : BinOp} {t : TypeId} {x y : Operand} {a b : Value} {w : World} {c : Value} (hg : (eqGuard op t x y a b).run P w = .ok () w) (h : (binOp op t a b).run P w = .ok c w) :
  ((do eqGuard op t x y a b; binOp op t a b : Sem Value)).run P w = .ok c w := by
 simp [Sem.run_bind, hg, h]

theorem eqg_int {P : Program} {op : BinOp} {t : TypeId} {x y : Operand} {kd : IntKind} {n : Int} {b : Value} {w : World} : (eqGuard op t x y (.int kd n) b).run P w = .ok () w := by
 rw [eqGuard_at_int]; rfl
theorem eqg_bool {P : Program} {op : BinOp} {t : TypeId} {x y : Operand} {n : Bool} {b : Value} {w : World} : (eqGuard op t x y (.bool n) b).run P w = .ok () w := by
 rw [eqGuard_at_bool]; rfl

theorem run_equal_bool {P : Program} {t : TypeId} (hu : P.underlying t = some .bool) (x y : Bool) (w : World) : (Op.equal t (.bool x) (.bool y)).run P w = .ok (x == y) w := by
 have : ∀ d, (Op.equalIn (d + 1) t (.bool x) (.bool y)).run P w = .ok (x == y) w := fun d => by
  unfold Op.equalIn
  rw [Sem.run_bind, run_underlying hu w]
  rfl
 exact this 9999
theorem run_eql_bool {P : Program} {t : TypeId} (hu : P.underlying t = some .bool) (x y : Bool) (w : World) : (binOp .eql t (.bool x) (.bool y)).run P w = .ok (.bool (x == y)) w := by
 show ((do pure (.bool (← Op.equal t (.bool x) (.bool y))) : Sem Value)).run P w = _
 rw [Sem.run_bind, run_equal_bool hu]
 rfl
theorem run_neq_bool {P : Program} {t : TypeId} (hu : P.underlying t = some .bool) (x y : Bool) (w : World) : (binOp .neq t (.bool x) (.bool y)).run P w = .ok (.bool (x != y)) w := by
 show ((do pure (.bool (!(← Op.equal t (.bool x) (.bool y)))) : Sem Value)).run P w = _
 rw [Sem.run_bind, run_equal_bool hu]
 rfl

theorem R_str {F : Fr} {β : BM} {w : World} {s : ByteArray} {v : Value} (h : RFV F β w (.v false [.p (.str s)]) v) : v = .string s := R_v1' h
theorem eqg_str {P : Program} {op : BinOp} {t : TypeId} {x y : Operand} {m : ByteArray} {b : Value} {w : World} : (eqGuard op t x y (.string m) b).run P w = .ok () w := by
 cases op <;> cases b <;> rfl
theorem y_bin (h : Sim F β T a w) {k : FV → Prop} (hK : Nx F T o a K k) (hT : tabB F.P ei Γ = true) {op : BinOp} {t u : TypeId} {x y : Operand} (ho : o.op = .binOp op t x y u) {Den : FuncId → List PV → Bool → Res → Prop} (hY : Yk Γ ei Den o (opd T) k) : o.wp F.P a w K Q := by
 unfold Yk at hY
 simp only [ho] at hY
 have hx := opd_R h x
 have hy := opd_R h y
 split at hY
 ·rename_i p q hp hq
  rw [hp] at hx
  rw [hq] at hy
  unfold binK at hY
  split at hY
  ·rename_i kd m kd' n
   have hx := R_int hx
   have hy := R_int hy
   have done : ∀ {r : PL} {c : Value}, k (.v false [.p r]) → (binOp op t (.int kd m) (.int kd' n)).run F.P w = .ok c w → PL.R w (okU F β) r c → o.wp F.P a w K Q := by
    intro r c hk hr hc
    refine y_value h hK hk (c := c) ?_ ⟨_, rfl, hc⟩
    simp only [execOp, ho, hx, hy]
    rw [Sem.run_bind, run_bin eqg_int hr]
    rfl
   split at hY
   ·obtain ⟨h0, z, hz, hk⟩ := hY
    refine done hk (c := .int kd z) ?_ rfl
    subst hz
    rw [binOp_shl]
    simp [Op.shift, show ¬ n < 0 by omega]
   ·obtain ⟨h0, z, hz, hk⟩ := hY
    refine done hk (c := .int kd z) ?_ rfl
    subst hz
    rw [binOp_shr]
    simp [Op.shift, show ¬ n < 0 by omega]
   ·obtain ⟨rfl, z, hz, hk⟩ := hY
    refine done hk (c := .int kd z) ?_ rfl
    subst hz
    rw [binOp_or, intBits_or]
    rfl
   ·obtain ⟨rfl, z, hz, hk⟩ := hY
    refine done hk (c := .int kd z) ?_ rfl
    subst hz
    rw [binOp_and, intBits_and]
    rfl
   obtain ⟨rfl, hY⟩ := hY
   split at hY
   ·rename_i u' hu
    obtain ⟨z, hz, hk⟩ := hY
    refine done hk (c := .int kd z) ?_ rfl
    subst hz
    cases op <;> simp only [ariK] at hu <;> cases hu
    ·rw [binOp_add]; rfl
    ·rw [binOp_sub]; rfl
    ·rw [binOp_mul]; rfl
   ·split at hY
    ·rename_i u' hu
     obtain ⟨z, hz, hk⟩ := hY
     refine done hk (c := .bool z) ?_ rfl
     subst hz
     cases op <;> simp only [cmpK] at hu <;> cases hu
     ·rw [binOp_eql]; rfl
     ·rw [binOp_neq]; simp only [Sem.run_pure]; congr 2; by_cases e : m = n <;> simp [e]
     ·rw [binOp_lss]; rfl
     ·rw [binOp_leq]; rfl
     ·rw [binOp_gtr]; rfl
     ·rw [binOp_geq]; rfl
    ·cases op <;> dsimp only at hY <;> first | exact hY.elim | skip
     ·obtain ⟨hn, z, hz, hk⟩ := hY
      refine done hk (c := .int kd z) ?_ rfl
      subst hz
      rw [binOp_quo]
      simp [Op.intDiv, hn]
     ·obtain ⟨hn, z, hz, hk⟩ := hY
      refine done hk (c := .int kd z) ?_ rfl
      subst hz
      rw [binOp_rem]
      simp [Op.intDiv, hn]
  ·rename_i m n
   have hx := R_bool hx
   have hy := R_bool hy
   have done : ∀ {r : PL} {c : Value}, k (.v false [.p r]) → (binOp op t (.bool m) (.bool n)).run F.P w = .ok c w → PL.R w (okU F β) r c → o.wp F.P a w K Q := by
    intro r c hk hr hc
    refine y_value h hK hk (c := c) ?_ ⟨_, rfl, hc⟩
    simp only [execOp, ho, hx, hy]
    rw [Sem.run_bind, run_bin eqg_bool hr]
    rfl
   have isb : (match Γ.get t with | some r => r.bool | none => false) = true → F.P.underlying t = some .bool := by
    intro hb
    split at hb
    ·rename_i r hr
     obtain ⟨hid, hrow⟩ := tab_row hT hr
     exact row_bool hrow hb hid
    ·cases hb
   split at hY
   ·obtain ⟨hb, z, hz, hk⟩ := hY
    have hu := isb hb
    refine done hk (c := .bool z) ?_ rfl
    subst hz
    exact run_eql_bool hu m n w
   ·obtain ⟨hb, z, hz, hk⟩ := hY
    have hu := isb hb
    refine done hk (c := .bool z) ?_ rfl
    subst hz
    exact run_neq_bool hu m n w
   ·exact hY.elim
  ·rename_i m n
   have hx := R_str hx
   have hy := R_str hy
   have done : ∀ {r : PL} {c : Value}, k (.v false [.p r]) → (Op.stringOp op m n).run F.P w = .ok c w → PL.R w (okU F β) r c → o.wp F.P a w K Q := by
    intro r c hk hr hc
    refine y_value h hK hk (c := c) ?_ ⟨_, rfl, hc⟩
    simp only [execOp, ho, hx, hy]
    rw [Sem.run_bind, run_bin eqg_str (c := c)]
    ·rfl
    ·unfold binOp; cases op <;> exact hr
   split at hY
   ·obtain ⟨hs, z, hz, hk⟩ := hY
    subst hz
    refine done hk (c := .string (m ++ n)) ?_ rfl
    unfold Op.stringOp
    dsimp only
    rw [if_neg (by show ¬ ((m.size + n.size : Nat) : Int) > 9223372036854775807; omega)]
    rfl
   ·obtain ⟨z, hz, hk⟩ := hY
    subst hz
    exact done hk (c := .bool (m.toList == n.toList)) rfl rfl
   ·obtain ⟨z, hz, hk⟩ := hY
    subst hz
    exact done hk (c := .bool (!(m.toList == n.toList))) rfl rfl
   ·exact hY.elim
  ·exact hY.elim
 ·exact hY.elim

theorem y_un (h : Sim F β T a w) {k : FV → Prop} (hK : Nx F T o a K k) {op : UnOp} {t : TypeId} {x : Operand} (ho : o.op = .unOp op t x) {Den : FuncId → List PV → Bool → Res → Prop} (hY : Yk Γ ei Den o (opd T) k) : o.wp F.P a w K Q := by
 unfold Yk at hY
 simp only [ho] at hY
 have hx := opd_R h x
 split at hY
 ·rename_i b hb
  rw [hb] at hx
  have hx := R_bool hx
  obtain ⟨z, hz, hk⟩ := hY
  subst hz
  exact y_value h hK hk (c := .bool !b) (by simp [execOp, ho, hx, Op.unary]) ⟨_, rfl, rfl⟩
 ·rename_i kd n hb
  rw [hb] at hx
  have hx := R_int hx
  obtain ⟨z, hz, hk⟩ := hY
  subst hz
  exact y_value h hK hk (c := .int kd (kd.wrap (-n))) (by simp [execOp, ho, hx, Op.unary, Op.intArith]) ⟨_, rfl, rfl⟩
 ·exact hY.elim

theorem y_fieldAddr (h : Sim F β T a w) {k : FV → Prop} (hK : Nx F T o a K k) (hT : tabB F.P ei Γ = true) {s : TypeId} {x : Operand} {fi : Nat} (ho : o.op = .fieldAddr s x fi) {Den : FuncId → List PV → Bool → Res → Prop} (hY : Yk Γ ei Den o (opd T) k) : o.wp F.P a w K Q := by
 unfold Yk at hY
 simp only [ho] at hY
 have hx := opd_R h x
 split at hY
 ·rename_i id n offs z hr
  obtain ⟨hid, hrow⟩ := tab_row hT hr
  obtain ⟨fs, hu, hf, hsz⟩ := row_agg hrow rfl hid
  split at hY
  ·exact hY.elim
  rename_i q hq
  obtain ⟨fd, hfd, hoff, h1, h2⟩ := fields_get hf hq
  have hfd' : fs[fi]? = some fd := by simpa using hfd
  have hne : ∃ n, sizeB F.P fd.type n = true ∧ n ≠ 0 := by
   cases hq2 : q.2 with
   | none => exact ⟨1, (h1 hq2).2, by decide⟩
   | some n => exact ⟨n, (h2 n hq2).2⟩
  obtain ⟨sz, hsz', hne⟩ := hne
  have place : ∀ g o', (fieldPlace ⟨g, o', none⟩ fd).run F.P w = .ok ⟨g, o' + q.1, none⟩ w := by
   intro g o'
   simp [fieldPlace, run_size hsz' w, hne, hoff, Addr.add_lit]
  split at hY
  ·rename_i lab cs off hb
   rw [hb] at hx
   obtain ⟨g, cc, ty, hv, hb', hh, hall⟩ := hx
   refine y_value h hK hY (c := .pointer (some ⟨g, off + q.1, none⟩)) ?_ ⟨g, cc, ty, rfl, hb', hh, hall⟩
   simp [execOp, ho, Instr.fieldAt, run_underlying hu, hfd', Instr.sureAddr, hv, place]
  ·rename_i l i off hb
   rw [hb] at hx
   obtain ⟨g, o', n', c, x', hs, harr, hi, hv⟩ := hx
   refine y_value h hK hY (c := .pointer (some ⟨g, o' + i * x'.wd + off + q.1, none⟩)) ?_ ⟨g, o', n', c, x', hs, harr, hi, by rw [Nat.add_assoc]⟩
   simp [execOp, ho, Instr.fieldAt, run_underlying hu, hfd', Instr.sureAddr, hv, place]
  ·exact hY.elim
 ·exact hY.elim

theorem y_field (h : Sim F β T a w) {k : FV → Prop} (hK : Nx F T o a K k) (hT : tabB F.P ei Γ = true) {s : TypeId} {x : Operand} {fi : Nat} (ho : o.op = .field s x fi) {Den : FuncId → List PV → Bool → Res → Prop} (hY : Yk Γ ei Den o (opd T) k) : o.wp F.P a w K Q := by
 unfold Yk at hY
 simp only [ho] at hY
 have hx := opd_R h x
 split at hY
 ·rename_i id n offs z hr
  obtain ⟨hid, hrow⟩ := tab_row hT hr
  obtain ⟨fs, hu, hf, hsz⟩ := row_agg hrow rfl hid
  split at hY
  ·exact hY.elim
  rename_i q hq
  obtain ⟨fd, hfd, hoff, h1, h2⟩ := fields_get hf hq
  have hfd' : fs[fi]? = some fd := by simpa using hfd
  split at hY
  ·rename_i xs hb
   rw [hb] at hx
   obtain ⟨cs, hv, hall⟩ := hx
   split at hY
   ·rename_i n' hn
    obtain ⟨hle, hk⟩ := hY
    have hle : q.1 + n' ≤ xs.length := Nat.le_of_ble_eq_true hle
    obtain ⟨hst, hsn, _⟩ := h2 n' hn
    refine y_value h hK hk (c := .agg ((cs.drop q.1).take n').toArray) ?_ ⟨_, rfl, (hall.drop _).take _⟩
    simp [execOp, ho, Instr.field, run_underlying hu, hfd', hv, asAgg, part, run_struct hst w, run_size hsn w, ← hoff]
   ·rename_i hn
    obtain ⟨y, hy, hk⟩ := hY
    obtain ⟨hon, _⟩ := h1 hn
    obtain ⟨c, hc, hyc⟩ := hall.get q.1 y hy
    refine y_value h hK hk (c := c) ?_ ⟨y, rfl, hyc⟩
    simp [execOp, ho, Instr.field, run_underlying hu, hfd', hv, asAgg, part, run_one hon w, ← hoff, hc]
  ·exact hY.elim
 ·exact hY.elim

theorem y_indexAddr (h : Sim F β T a w) {k : FV → Prop} (hK : Nx F T o a K k) (hT : tabB F.P ei Γ = true) {t : TypeId} {x ix : Operand} (ho : o.op = .indexAddr t x ix) {Den : FuncId → List PV → Bool → Res → Prop} (hY : Yk Γ ei Den o (opd T) k) : o.wp F.P a w K Q := by
 unfold Yk at hY
 simp only [ho] at hY
 have hx := opd_R h x
 have hix := opd_R h ix
 split at hY
 ·exact hY.elim
 rename_i r hr
 obtain ⟨hid, hrow⟩ := tab_row hT hr
 split at hY
 ·rename_i s kd z hs hz
  rw [hs] at hx
  rw [hz] at hix
  have hx := R_v1 hx
  have hix := R_int hix
  split at hY
  ·rename_i y hy
   obtain ⟨hty, i, rfl, hi, hk⟩ := hY
   obtain ⟨e, hu, hsz⟩ := row_idx (by unfold tabB at hT; rw [Bool.and_eq_true] at hT; exact hT.1) hrow hty hid
   obtain ⟨A, c, hv, h1, h2, h3⟩ := leaf_slice hx hy
   obtain ⟨g, o', rfl⟩ := h3 (by omega)
   refine y_value h hK hk (c := .pointer (some ⟨g, o' + i * y.wd, none⟩)) ?_ ⟨g, o', y.len, c, y, hv ▸ hx, hy, hi, rfl⟩
   simp [execOp, ho, Instr.indexAt, hix, asIntOf, hv, run_underlying hu, run_size hsz w, hi, Addr.add_lit]
  ·exact hY.elim
 ·exact hY.elim

theorem y_index (h : Sim F β T a w) {k : FV → Prop} (hK : Nx F T o a K k) (hT : tabB F.P ei Γ = true) {t : TypeId} {x ix : Operand} (ho : o.op = .index t x ix) {Den : FuncId → List PV → Bool → Res → Prop} (hY : Yk Γ ei Den o (opd T) k) : o.wp F.P a w K Q := by
 unfold Yk at hY
 simp only [ho] at hY
 have hx := opd_R h x
 have hi := opd_R h ix
 split at hY
 ·rename_i r s kd z hr hs hz
  rw [hs] at hx
  rw [hz] at hi
  have hx := R_str hx
  have hi := R_int hi
  obtain ⟨hst, i, rfl, b, hb, hk⟩ := hY
  obtain ⟨hid, hrow⟩ := tab_row hT hr
  have hu := row_str hrow hst hid
  refine y_value h hK hk (c := .int .u8 (b.toNat : Int)) ?_ ⟨_, rfl, rfl⟩
  simp only [execOp, ho, hx, hi]
  have : (Instr.index t (.string s) (.int kd (i : Int))).run F.P w = .ok (.int .u8 (b.toNat : Int)) w := by
   unfold Instr.index
   simp [Sem.run_bind, asIntOf, run_underlying hu, hb]
  rw [Sem.run_bind, this]
  rfl
 ·exact hY.elim

theorem y_extract (h : Sim F β T a w) {k : FV → Prop} (hK : Nx F T o a K k) {x : Operand} {j : Nat} (ho : o.op = .extract x j) {Den : FuncId → List PV → Bool → Res → Prop} (hY : Yk Γ ei Den o (opd T) k) : o.wp F.P a w K Q := by
 unfold Yk at hY
 simp only [ho] at hY
 have hx := opd_R h x
 split at hY
 ·rename_i vs hs
  rw [hs] at hx
  obtain ⟨cs, hv, hall⟩ := hx
  obtain ⟨q, hq, hk⟩ := hY
  obtain ⟨c, hc, hqc⟩ := hall.get j q hq
  exact y_value h hK hk (c := c) (by simp [execOp, ho, Instr.extract, hv, hc]) hqc
 ·exact hY.elim
end
end Go.Vx
end
section
/- Vx, part 7: variables in memory, lengths, calls; all quiet operations together. -/
namespace Go.Vx
open Go.RowKit

/-- A cell of the result (cs: the arguments' cells). -/
def RRL (cs : List Value) : RL → Value → Prop
 | .p x, v => ∀ (w : World) (ok : Nat → Prop), PL.R w ok x v
 | .nil, v => v = .slice none 0 0
 | .arg j, v => cs[j]? = some v
def RRV (cs : List Value) (r : Bool × List RL) (v : Value) : Prop := match r with
 | (true, xs) => ∃ us : List Value, v = .agg us.toArray ∧ All2 (RRL cs) xs us
 | (false, xs) => ∃ x, xs = [x] ∧ RRL cs x v
def RMRes (cs : List Value) : MRes → Value → Prop
 | .one q, v => RRV cs q v
 | .tup qs, v => ∃ us : List Value, v = .tuple us.toArray ∧ All2 (RRV cs) qs us
/-- The cells of several values, one behind the other. -/
def cellsOf (vs : List Value) : List Value := vs.flatMap fun v => v.cells.toList

/-- **What a call does that writes its arguments' arrays**: the arrays among the arguments lie each in a block for itself (block N j); behind the call the arguments read as qs; nothing else that is old has changed. -/
def DenM (P : Program) (ei : TypeId) (g : FuncId) (ps qs : List PV) (r : MRes) : Prop :=
 (∃ fn, P.funcs[g]? = some fn ∧ (fn.name == "runtime.NumGoroutine") = false ∧ fn.body.isSome = true) ∧
 ∀ (N : Nat → Option Nat) (w : World) (vs : List Value), Keeps P (fun k => ∃ j, N j = some k) w → (∀ j b, N j = some b → b < w.heap.size) → (∀ j j' b, N j = some b → N j' = some b → j = j') → FrPVs w ei N 0 ps vs →
  Calls P g vs.toArray w fun e w' => ∃ v, e = .returned v ∧ (w'.os = w.os ∧ w'.tape = w.tape ∧ w'.output = w.output ∧ w.heap.size ≤ w'.heap.size) ∧
   (∀ k, k < w.heap.size → (∀ j, N j ≠ some k) → w'.heap[k]? = w.heap[k]?) ∧ FrPVs w' ei N 0 qs vs ∧ RMRes (cellsOf vs) r v

/-- What a call hands back that writes all inner slices: a plain value, or the argument's first elements (`.darr n`). -/
def ResD (v : Value) (x : PL) (u : Value) : Prop := match x with
 | .darr n _ => ∃ A m c, v = .slice A m c ∧ u = .slice A n c
 | .arr 0 [] => u = .tuple #[]
 | x => ∀ (w2 : World) (ok : Nat → Prop), PL.R w2 ok x u
/-- **What a call does that writes a slice of structs with its inner slices**, all of them apart: block o, inner slice n in block B n. -/
def DenD1 (P : Program) (ei : TypeId) (g : FuncId) (k : Nat) (l : List (List PL)) (ps : List PV) (l' : List (List PL)) (x : PL) : Prop :=
 (∃ fn, P.funcs[g]? = some fn ∧ (fn.name == "runtime.NumGoroutine") = false ∧ fn.body.isSome = true) ∧
 ∀ (w : World) (v : Value) (vs : List Value) (o : Option Nat) (B : Nat → Option Nat), Keeps P (fun k => o = some k ∨ ∃ n, B n = some k) w → (∀ b, o = some b → b < w.heap.size) → (∀ n b, B n = some b → b < w.heap.size ∧ o ≠ some b) → (∀ n m b, B n = some b → B m = some b → n = m) →
  DeepAt w ei o B k l v → FrPVs w ei (fun _ => none) 0 ps vs →
  Calls P g (v :: vs).toArray w fun e w' => ∃ u, e = .returned u ∧ (w'.os = w.os ∧ w'.tape = w.tape ∧ w'.output = w.output ∧ w.heap.size ≤ w'.heap.size) ∧
   (∀ b, b < w.heap.size → o ≠ some b → (∀ n, B n ≠ some b) → w'.heap[b]? = w.heap[b]?) ∧ ResD v x u ∧
   ∃ B' : Nat → Option Nat, (∀ n b, B' n = some b → b < w'.heap.size ∧ o ≠ some b ∧ ((∃ m, B m = some b) ∨ w.heap.size ≤ b)) ∧ (∀ n m b, B' n = some b → B' m = some b → n = m) ∧ DeepAt w' ei o B' k l' v
/-- Facts on calls that write all inner slices; k = 0 stands for: a call that reads only. -/
def DenD (P : Program) (ei : TypeId) (g : FuncId) (k : Nat) (l : List (List PL)) (ps : List PV) (l' : List (List PL)) (x : PL) : Prop := match k with
 | 0 => DenS P ei g ps false (.one (false, [x]))
 | k + 1 => DenD1 P ei g (k + 1) l ps l' x
/-- **A call that hands back a new slice of structs**: it lies in a block of its own; what its cells hold is anyone's. -/
def DenH (P : Program) (g : FuncId) (ps : List PV) (e : TypeId) (k : Nat) (rows : List (List PL)) : Prop :=
 (∃ fn, P.funcs[g]? = some fn ∧ (fn.name == "runtime.NumGoroutine") = false ∧ fn.body.isSome = true) ∧
 ∀ (ok : Nat → Prop) (w : World) (vs : List Value), Keeps P (fun _ => False) w → All2 (RPV w ok) ps vs → Calls P g vs.toArray w fun ed w' => ∃ v, ed = .returned v ∧ Below w.heap.size w w' ∧
  ((v = .slice none 0 0 ∧ rows = []) ∨ ∃ b c cur, w.heap.size ≤ b ∧ v = .slice (some ⟨b, 0, none⟩) rows.length c ∧ w'.heap[b]? = some (.cells cur e (0, 0)) ∧ rows.length ≤ c ∧ c ≤ maxLen ∧ cur.size = c * k ∧
   PL.Rows w' (fun x => (ok x ∨ w.heap.size ≤ x) ∧ x ≠ b) k b 0 rows)

section
variable {F : Fr} {β : BM} {T : List FV} {a : Act} {w : World} {o : Oper} {Γ : Tab} {ei : TypeId} {Q : Exit → Act → World → Prop} {K : Act → World → Prop}

theorem y_len (h : Sim F β T a w) {k : FV → Prop} (hK : Nx F T o a K k) (hT : tabB F.P ei Γ = true) {c : Call} (ho : o.op = .call c) (hc : c.callee = .builtin .len) {Den : FuncId → List PV → Bool → Res → Prop} (hY : Yk Γ ei Den o (opd T) k) : o.wp F.P a w K Q := by
 unfold Yk at hY
 simp only [ho, hc] at hY
 split at hY
 ·rename_i x t hargs hts
  have hargs' : c.args = #[x] := by cases hq : c.args; rw [hq] at hargs; simp at hargs; rw [hargs]
  have hts' : c.argTypes = #[t] := by cases hq : c.argTypes; rw [hq] at hts; simp at hts; rw [hts]
  have hx := opd_R h x
  split at hY
  ·rename_i r s hr hs
   obtain ⟨hid, hrow⟩ := tab_row hT hr
   rw [hs] at hx
   have hv := R_str hx
   obtain ⟨hst, hk⟩ := hY
   have hu := row_str hrow hst hid
   refine y_value h hK hk (c := .int .i64 s.size) ?_ ⟨_, rfl, rfl⟩
   simp [execOp, ho, resolve, hc, hargs', hts', invoke, builtin, Builtin.len_, run_underlying hu, hv, goInt]
  ·rename_i r s _ hr hs
   obtain ⟨hid, hrow⟩ := tab_row hT hr
   rw [hs] at hx
   have hx := R_v1 hx
   split at hY
   ·rename_i y hy
    obtain ⟨hsl, hk⟩ := hY
    obtain ⟨e, hu⟩ := row_sl hrow hsl hid
    obtain ⟨A, cp, hv, _⟩ := leaf_slice hx hy
    refine y_value h hK hk (c := .int .i64 y.len) ?_ ⟨_, rfl, rfl⟩
    simp [execOp, ho, resolve, hc, hargs', hts', invoke, builtin, Builtin.len_, run_underlying hu, hv, goInt]
   ·exact hY.elim
  ·exact hY.elim
 ·exact hY.elim

/-- One new block, under the operation's own label. -/
def N1 (g : Nat) : Nat → Option Nat := fun j => if j = 0 then some g else none
theorem N1_lt {g m n : Nat} (h1 : m ≤ g) (h2 : g < n) : ∀ j b, N1 g j = some b → m ≤ b ∧ b < n := by
 intro j b hb
 unfold N1 at hb
 split at hb
 ·cases hb; exact ⟨h1, h2⟩
 ·cases hb
theorem N1_inj {g : Nat} : ∀ j j' b, N1 g j = some b → N1 g j' = some b → j = j' := by
 intro j j' b h1 h2
 unfold N1 at h1 h2
 split at h1 <;> split at h2
 ·omega
 ·cases h2
 ·cases h1
 ·cases h1
theorem relab_0 (β : BM) (d g : Nat) : relab β d (N1 g) (d, 0) = some g := by simp [relab, N1]

theorem y_newvar (h : Sim F β T a w) {k : FV → Prop} (hK : Nx F T o a K k) {t : TypeId} {c : Value} {cs : List Lf} {d : Nat} (hno : ∀ f ∈ T, ∀ j, f.has (d, j) = false)
  (hk : k (.box (d, 0) cs 0)) (hc : All2 (RLf F β w) cs c.cells.toList) (hcs : ∀ x ∈ cs, ∀ j, x.has (d, j) = false)
  (hr : (execOp a.eval o).run F.P w = .ok (.value (.pointer (some ⟨w.heap.size, 0, none⟩))) (w.alloc (.cells c.cells t))) : o.wp F.P a w K Q := by
 have hg := Grew.alloc w (.cells c.cells t)
 have h2 := h.label hg d (N1 w.heap.size) hno (N1_lt (Nat.le_refl _) (by simp)) N1_inj
 refine wp_value hr (hK (.box (d, 0) cs 0) _ _ _ hk (h2.put o.dst ?_))
 refine ⟨w.heap.size, c.cells, t, rfl, relab_0 _ _ _, heap_alloc_new w _, ?_⟩
 have m : Mv F β (relab β d (N1 w.heap.size)) w (w.alloc (.cells c.cells t)) := by
  refine ⟨hg.size, fun b hb hl => ⟨⟨hb.1, fun l hlb => ?_⟩, hg.old b hl⟩⟩
  unfold relab at hlb
  split at hlb
  ·have := N1_lt (Nat.le_refl _) (Nat.lt_succ_self _) _ _ hlb; omega
  ·exact hb.2 l hlb
 refine RLfs.move m (fun l b hl hb => ⟨?_, hg.old b (h.rng l b hb).1⟩) hc
 unfold relab
 rw [if_neg]
 ·exact hb
 ·intro e
  rw [List.any_eq_true] at hl
  obtain ⟨x, hx, hxl⟩ := hl
  have := hcs x hx l.2
  rw [← e, hxl] at this
  cases this

theorem constFV_has {v : Value} {l : Lab} : (constFV v).has l = false := by
 unfold constFV; split <;> rfl
theorem opd_has {d : Nat} (hno : ∀ f ∈ T, ∀ j, f.has (d, j) = false) (x : Operand) (j : Nat) : (opd T x).has (d, j) = false := by
 cases x with
 | tmp t =>
  show (T.getD t .any).has (d, j) = false
  by_cases ht : t < T.length
  ·have h1 : T.getD t .any = T[t] := by simp [List.getD, List.getElem?_eq_getElem ht]
   rw [h1]
   exact hno _ (List.getElem_mem ht) j
  ·have h1 : T.getD t .any = .any := by simp [List.getD, List.getElem?_eq_none (Nat.le_of_not_lt ht)]
   rw [h1]
   rfl
 | const v => exact constFV_has
 | global g => rfl
 | func f => simp [opd, FV.has, Lf.has]

theorem zero_has {d j : Nat} : ∀ {xs : List Lf} {cs : List Value}, zeroOkB xs cs = true → ∀ x ∈ xs, x.has (d, j) = false
 | [], _, _, x, hx => by cases hx
 | y :: xs, [], h, _, _ => by unfold zeroOkB at h; simp at h
 | y :: xs, c :: cs, h, x, hx => by
  rcases List.mem_cons.1 hx with rfl | hx
  ·cases x <;> first | rfl | (simp [zeroOkB] at h)
  ·refine zero_has (cs := cs) ?_ x hx
   unfold zeroOkB at h
   split at h <;> simp_all

theorem y_alloc (h : Sim F β T a w) {k : FV → Prop} (hK : Nx F T o a K k) (hT : tabB F.P ei Γ = true) (hno : ∀ f ∈ T, ∀ j, f.has (o.dst.getD 0, j) = false) {t : TypeId} (ho : o.op = .alloc t) {Den : FuncId → List PV → Bool → Res → Prop} (hY : Yk Γ ei Den o (opd T) k) : o.wp F.P a w K Q := by
 unfold Yk at hY
 simp only [ho] at hY
 split at hY
 ·rename_i r hr
  obtain ⟨hid, hrow⟩ := tab_row hT hr
  unfold rowB at hrow
  rw [Bool.and_eq_true, Bool.and_eq_true] at hrow
  have hz := hrow.1.2
  rw [hid] at hz
  split at hz
  ·rename_i i hi
   rw [Bool.and_eq_true] at hz
   have hz := hz.2
   split at hz
   ·rename_i z hzz
    refine y_newvar h hK hno hY (c := z) (t := t) (zero_ok hz) (fun x hx j => zero_has hz x hx) ?_
    simp [execOp, ho, Instr.alloc, zeroValue, typeInfo, hi, hzz, newVar, newRow]
   ·cases hz
  ·cases hz
 ·exact hY.elim

theorem cells_of_val {a' : Bool} {xs : List Lf} {v : Value} (h : RVal F β w a' xs v) : All2 (RLf F β w) xs v.cells.toList := by
 cases a' with
 | true => obtain ⟨cs, rfl, h⟩ := h; simpa [Value.cells] using h
 | false =>
  obtain ⟨x, rfl, h⟩ := h
  have h1 := R_one h
  cases v <;> first | exact ⟨h, True.intro⟩ | cases h1

theorem y_box (h : Sim F β T a w) {k : FV → Prop} (hK : Nx F T o a K k) (hno : ∀ f ∈ T, ∀ j, f.has (o.dst.getD 0, j) = false) {t : TypeId} {x : Operand} (ho : o.op = .box t x) {Den : FuncId → List PV → Bool → Res → Prop} (hY : Yk Γ ei Den o (opd T) k) : o.wp F.P a w K Q := by
 unfold Yk at hY
 simp only [ho] at hY
 have hx := opd_R h x
 split at hY
 ·rename_i r a' xs hr hs
  have hh := fun j => opd_has hno x j
  rw [hs] at hx hh
  refine y_newvar h hK hno hY (c := a.eval x) (t := t) (cells_of_val hx) (fun y hy j => ?_) ?_
  ·have := hh j
   simp only [FV.has, List.any_eq_false] at this
   simpa using this y hy
  ·simp [execOp, ho, Instr.box, newVar, newRow]
 ·exact hY.elim

/-! ### calls -/
/-- What may be read of a frame's: not owned, or owned. -/
def okAny (F : Fr) (β : BM) (g : Nat) : Prop := okU F β g ∨ ∃ l, β l = some g

theorem er_R (h : Sim F β T a w) {x : Lf} {y : PL} {v : Value} (he : erL x = some y) (hx : RLf F β w x v) : PL.R w (okAny F β) y v := by
 cases x with
 | undef => cases he
 | nil =>
  cases he
  unfold RLf at hx
  subst hx
  exact ⟨none, 0, rfl, Nat.le_refl _, by simp, .inl rfl⟩
 | p x =>
  cases he
  exact PL.R.move (Nat.le_refl _) (fun g hg _ => ⟨.inl hg, rfl⟩) _ _ hx
 | own l e x =>
  cases he
  obtain ⟨ha, hx⟩ := hx
  rcases hx with ⟨rfl, h0⟩ | ⟨g, c, cur, rfl, hb, hh, h1, h2, h3, h4⟩
  ·cases y <;> simp [PL.isArr] at ha
   ·rename_i l'
    have : l' = [] := by simpa [PL.len] using h0
    subst this
    exact ⟨none, 0, rfl, Nat.le_refl _, by simp, .inl rfl⟩
   ·rename_i k' l'
    have : l' = [] := by simpa [PL.len] using h0
    subst this
    exact ⟨none, 0, rfl, Nat.le_refl _, by simp, .inl rfl⟩
  ·have hlt := (h.rng l g hb).1
   cases y <;> simp [PL.isArr] at ha
   ·exact ⟨_, c, rfl, h1, h2, .inr ⟨g, 0, rfl, .inr ⟨l, hb⟩, hlt, h4⟩⟩
   ·exact ⟨_, c, rfl, h1, h2, .inr ⟨g, 0, rfl, .inr ⟨l, hb⟩, hlt, PL.Rows.move (Nat.le_refl _) (fun g hg _ => ⟨.inl hg, rfl⟩) rfl _ _ h4⟩⟩
 | deep l e k x =>
  cases he
  exact hx.2.R (fun g hg => .inr ⟨l, hg⟩) (fun n g hg => .inr ⟨kidL l n, hg⟩)
 | kid l e n x =>
  cases he
  exact KidAt.R (fun g hg => .inr ⟨kidL l n, hg⟩) (show KidAt w e (β (kidL l n)) (.ints x) v from hx)
theorem er_Ru {x : Lf} {y : PL} {v : Value} (hn : x.isOwn = false) (he : erL x = some y) (hx : RLf F β w x v) : PL.R w (okU F β) y v := by
 cases x with
 | undef => cases he
 | nil =>
  cases he
  unfold RLf at hx
  subst hx
  exact ⟨none, 0, rfl, Nat.le_refl _, by simp, .inl rfl⟩
 | p x => cases he; exact hx
 | own l e x => cases hn
 | deep l e k x => cases hn
 | kid l e n x => cases hn

theorem ers_R {ok : Nat → Prop} : ∀ {xs : List Lf} {ys : List PL} {cs : List Value}, (∀ x ∈ xs, ∀ y v, erL x = some y → RLf F β w x v → PL.R w ok y v) → erLs xs = some ys → All2 (RLf F β w) xs cs → All2 (PL.R w ok) ys cs
 | [], ys, [], _, he, _ => by cases he; exact True.intro
 | x :: xs, ys, c :: cs, hf, he, h => by
  unfold erLs at he
  split at he
  ·rename_i y ys' hy hys
   cases he
   exact ⟨hf x List.mem_cons_self y c hy h.1, ers_R (fun z hz => hf z (List.mem_cons_of_mem _ hz)) hys h.2⟩
  ·cases he
 | [], _, _ :: _, _, _, h => h.elim
 | _ :: _, _, [], _, _, h => h.elim

theorem erV_R {ok : Nat → Prop} {f : FV} {q : PV} {v : Value} (hf : ∀ x ∈ f.leaves, ∀ y v, erL x = some y → RLf F β w x v → PL.R w ok y v) (he : erV f = some q) (h : RFV F β w f v) : RPV w ok q v := by
 cases f with
 | v a' xs =>
  unfold erV at he
  dsimp only at he
  split at he
  ·rename_i ys hys
   cases he
   cases a' with
   | true =>
    obtain ⟨cs, rfl, h⟩ := h
    exact ⟨cs, rfl, ers_R hf hys h⟩
   | false =>
    obtain ⟨x, rfl, h⟩ := h
    unfold erLs at hys
    split at hys
    ·rename_i y ys' hy hys'
     cases hys
     cases hys'
     exact ⟨y, rfl, hf x (by simp [FV.leaves]) y v hy h⟩
    ·cases hys
  ·cases he
 | _ => cases he

theorem erVs_R {ok : Nat → Prop} : ∀ {fs : List FV} {qs : List PV} {vs : List Value}, (∀ f ∈ fs, ∀ x ∈ f.leaves, ∀ y v, erL x = some y → RLf F β w x v → PL.R w ok y v) → erVs fs = some qs → All2 (RFV F β w) fs vs → All2 (RPV w ok) qs vs
 | [], qs, [], _, he, _ => by cases he; exact True.intro
 | f :: fs, qs, c :: cs, hf, he, h => by
  unfold erVs at he
  split at he
  ·rename_i y ys' hy hys
   cases he
   exact ⟨erV_R (hf f List.mem_cons_self) hy h.1, erVs_R (fun z hz => hf z (List.mem_cons_of_mem _ hz)) hys h.2⟩
  ·cases he
 | [], _, _ :: _, _, _, h => h.elim
 | _ :: _, _, [], _, _, h => h.elim

theorem ops_R (h : Sim F β T a w) : ∀ xs : List Operand, All2 (RFV F β w) (xs.map (opd T)) (xs.map a.eval)
 | [] => True.intro
 | x :: xs => ⟨opd_R h x, ops_R h xs⟩


theorem noArr_R {w' : World} {ok ok' : Nat → Prop} {x : PL} {v : Value} (hn : x.isA = false) (h : PL.R w' ok x v) : PL.R w' ok' x v := by
 cases x <;> first | exact h | cases hn
theorem noArrs_R {w' : World} {ok ok' : Nat → Prop} : ∀ {xs : List PL} {cs : List Value}, (xs.all fun x => !x.isA) = true → All2 (PL.R w' ok) xs cs → All2 (PL.R w' ok') xs cs
 | [], [], _, _ => True.intro
 | x :: xs, c :: cs, hn, h => by
  rw [List.all_cons, Bool.and_eq_true] at hn
  exact ⟨noArr_R (by simpa using hn.1) h.1, noArrs_R hn.2 h.2⟩
 | [], _ :: _, _, h => h.elim
 | _ :: _, [], _, h => h.elim
theorem noArrV_R {w' : World} {ok ok' : Nat → Prop} {q : PV} {v : Value} (hn : (q.2.all fun x => !x.isA) = true) (h : RPV w' ok q v) : RPV w' ok' q v := by
 obtain ⟨b, xs⟩ := q
 cases b with
 | true => obtain ⟨cs, hv, h⟩ := h; exact ⟨cs, hv, noArrs_R hn h⟩
 | false => obtain ⟨x, rfl, h⟩ := h; exact ⟨x, rfl, noArr_R (by simpa using hn) h⟩
theorem noArrVs_R {w' : World} {ok ok' : Nat → Prop} : ∀ {qs : List PV} {cs : List Value}, (qs.all fun q => q.2.all fun x => !x.isA) = true → All2 (RPV w' ok) qs cs → All2 (RPV w' ok') qs cs
 | [], [], _, _ => True.intro
 | q :: qs, c :: cs, hn, h => by
  rw [List.all_cons, Bool.and_eq_true] at hn
  exact ⟨noArrV_R hn.1 h.1, noArrVs_R hn.2 h.2⟩
 | [], _ :: _, _, h => h.elim
 | _ :: _, [], _, h => h.elim
theorem noArrR_R {w' : World} {ok ok' : Nat → Prop} {r : Res} {v : Value} (hn : r.noArr = true) (h : RRes w' ok r v) : RRes w' ok' r v := by
 cases r with
 | one q => exact noArrV_R hn h
 | tup qs => obtain ⟨cs, hv, h⟩ := h; exact ⟨cs, hv, noArrVs_R hn h⟩

theorem RPV_val {w' : World} {ok : Nat → Prop} (hok : ∀ g, ok g → okU F β g) {q : PV} {v : Value} (h : RPV w' ok q v) : RVal F β w' q.1 (q.2.map .p) v := by
 obtain ⟨b, xs⟩ := q
 cases b with
 | true => obtain ⟨cs, hv, h⟩ := h; exact ⟨cs, hv, all2_p hok h⟩
 | false => obtain ⟨x, rfl, h⟩ := h; exact ⟨.p x, rfl, PL.R.move (Nat.le_refl _) (fun g hg _ => ⟨hok g hg, rfl⟩) x v h⟩
theorem RPVs_val {w' : World} {ok : Nat → Prop} (hok : ∀ g, ok g → okU F β g) : ∀ {qs : List PV} {cs : List Value}, All2 (RPV w' ok) qs cs → All2 (fun (q : Bool × List Lf) c => RVal F β w' q.1 q.2 c) (qs.map fun q => (q.1, q.2.map .p)) cs
 | [], [], _ => True.intro
 | q :: qs, c :: cs, h => ⟨RPV_val hok h.1, RPVs_val hok h.2⟩
 | [], _ :: _, h => h.elim
 | _ :: _, [], h => h.elim
theorem RRes_FV {w' : World} {ok : Nat → Prop} (hok : ∀ g, ok g → okU F β g) {d : Nat} {r : Res} {v : Value} (h : RRes w' ok r v) : RFV F β w' (labelR ei d false r) v := by
 cases r with
 | one q => exact RPV_val hok h
 | tup qs => obtain ⟨cs, hv, h⟩ := h; exact ⟨cs, hv, RPVs_val hok h⟩

theorem cells_one {v : Value} (h : v.oneCell' = true) : v.cells.toList = [v] := by
 cases v <;> first | rfl | (simp [Value.oneCell'] at h)
theorem FrL_one {w' : World} {N : Nat → Option Nat} {j : Nat} {x : PL} {v : Value} (h : FrLs w' ei N j [x] [v]) : v.oneCell' = true := by
 cases x with
 | ints l =>
  obtain ⟨h, _⟩ := h
  rcases h with ⟨rfl, _⟩ | ⟨g, c, cur, rfl, _⟩ <;> rfl
 | arr k l => exact h.1.one
 | _ => exact PL.R.one h.1
theorem Fr_Ls {w' : World} {d : Nat} {N : Nat → Option Nat} (hN : ∀ j, β (d, j) = N j) : ∀ {xs : List PL} {j : Nat} {cs : List Value}, (∀ i c, cs[i]? = some c → PinR F (d, j + i) c) → FrLs w' ei N j xs cs → All2 (RLf F β w') (labelP ei d j xs) cs
 | [], _, [], _, _ => True.intro
 | [], _, _ :: _, _, h => by simp [FrLs] at h
 | x :: xs, j, [], _, h => by cases x <;> simp [FrLs] at h
 | x :: xs, j, c :: cs, hp, h => by
  have hp2 : ∀ i c, cs[i]? = some c → PinR F (d, j + 1 + i) c := fun i c hc => by
   have := hp (i + 1) c (by simpa using hc)
   rwa [show j + (i + 1) = j + 1 + i by omega] at this
  cases x with
  | arr k l => exact ⟨⟨hp 0 c rfl, h.1.move (fun g hg => ⟨(hN j).trans hg, rfl⟩) (fun n g hg => ⟨(hN _).trans hg, rfl⟩)⟩, Fr_Ls hN hp2 h.2⟩
  | darr k l => exact h.1.1.elim
  | ints l =>
   obtain ⟨h1, h2⟩ := h
   refine ⟨⟨⟨rfl, hp 0 c rfl⟩, ?_⟩, Fr_Ls hN hp2 h2⟩
   rcases h1 with ⟨hv, hl⟩ | ⟨g, cp, cur, hv, hn, hh, h1, h3, h4, h5⟩
   ·exact .inl ⟨hv, by rw [hl]; rfl⟩
   ·exact .inr ⟨g, cp, cur, hv, (hN j).trans hn, hh, h1, h3, by simpa [PL.wd] using h4, h5⟩
  | clo f z => exact ((show PL.R w' (fun _ => False) (.clo f z) c from h.1).elim fun _ h => h.elim fun _ h => h.2.1.elim)
  | pint z => exact ((show PL.R w' (fun _ => False) (.pint z) c from h.1).elim fun _ h => h.elim fun _ h => h.2.1.elim)
  | _ => exact ⟨h.1, Fr_Ls hN hp2 h.2⟩
theorem FrLs_len {w' : World} {N : Nat → Option Nat} : ∀ {xs : List PL} {j : Nat} {cs : List Value}, FrLs w' ei N j xs cs → xs.length = cs.length
 | [], _, [], _ => rfl
 | [], _, _ :: _, h => by simp [FrLs] at h
 | x :: xs, j, [], h => by cases x <;> simp [FrLs] at h
 | x :: xs, j, c :: cs, h => by
  have : FrLs w' ei N (j + 1) xs cs := by
   cases x with
   | _ => exact h.2
  simp [FrLs_len this]
theorem FrPV_len {w' : World} {N : Nat → Option Nat} {q : PV} {j : Nat} {v : Value} (h : FrPV w' ei N j q v) : q.2.length = v.cells.toList.length := by
 obtain ⟨b, xs⟩ := q
 cases b with
 | true => obtain ⟨cs, rfl, h⟩ := h; simpa [Value.cells] using FrLs_len h
 | false =>
  obtain ⟨x, rfl, h⟩ := h
  rw [cells_one (FrL_one h)]
  rfl
theorem Fr_V {w' : World} {d : Nat} {N : Nat → Option Nat} (hN : ∀ j, β (d, j) = N j) {q : PV} {j : Nat} {v : Value} (hp : ∀ i c, v.cells.toList[i]? = some c → PinR F (d, j + i) c) (h : FrPV w' ei N j q v) : RVal F β w' q.1 (labelP ei d j q.2) v := by
 obtain ⟨b, xs⟩ := q
 cases b with
 | true => obtain ⟨cs, hv, h⟩ := h; subst hv; exact ⟨cs, rfl, Fr_Ls hN (by simpa [Value.cells] using hp) h⟩
 | false =>
  obtain ⟨x, rfl, h⟩ := h
  rw [cells_one (FrL_one h)] at hp
  have h1 := Fr_Ls (F := F) (β := β) hN hp h
  cases x <;> exact ⟨_, rfl, h1.1⟩
theorem Fr_Vs {w' : World} {d : Nat} {N : Nat → Option Nat} (hN : ∀ j, β (d, j) = N j) : ∀ {qs : List PV} {j : Nat} {cs : List Value}, (∀ i c, (cellsOf cs)[i]? = some c → PinR F (d, j + i) c) → FrPVs w' ei N j qs cs → All2 (fun (q : Bool × List Lf) c => RVal F β w' q.1 q.2 c) (labelVs ei d j qs) cs
 | [], _, [], _, _ => True.intro
 | [], _, _ :: _, _, h => by simp [FrPVs] at h
 | x :: xs, j, [], _, h => by simp [FrPVs] at h
 | (b, xs) :: qs, j, c :: cs, hp, h => by
  have hl := FrPV_len h.1
  refine ⟨Fr_V hN (fun i u hu => hp i u ?_) h.1, Fr_Vs hN (fun i u hu => ?_) h.2⟩
  ·unfold cellsOf
   rw [List.flatMap_cons, List.getElem?_append_left (List.getElem?_eq_some_iff.1 hu).1]
   exact hu
  ·have := hp (xs.length + i) u (by
    unfold cellsOf
    rw [List.flatMap_cons, List.getElem?_append_right (by dsimp only at hl; omega)]
    dsimp only at hl
    rw [← hl, Nat.add_sub_cancel_left]
    exact hu)
   rwa [← Nat.add_assoc] at this
theorem Fr_FV {w' : World} {d : Nat} (hd : d < 2000000) {N : Nat → Option Nat} (hN : ∀ j, β (d, j) = N j) {r : Res} {v : Value} (h : FrRes w' ei N r v) : RFV F β w' (labelR ei d true r) v := by
 cases r with
 | one q => exact Fr_V hN (fun _ _ _ => PinR.low hd) h
 | tup qs => obtain ⟨cs, hv, h⟩ := h; exact ⟨cs, hv, Fr_Vs hN (fun _ _ _ => PinR.low hd) h⟩

theorem Fr_Rs {w' : World} {N : Nat → Option Nat} {ok : Nat → Prop} (hN : ∀ j b, N j = some b → ok b) (hlt : ∀ j b, N j = some b → b < w'.heap.size) : ∀ {xs : List PL} {j : Nat} {cs : List Value}, FrLs w' ei N j xs cs → All2 (PL.R w' ok) xs cs
 | [], _, [], _ => True.intro
 | [], _, _ :: _, h => by simp [FrLs] at h
 | x :: xs, j, [], h => by cases x <;> simp [FrLs] at h
 | x :: xs, j, c :: cs, h => by
  cases x with
  | arr k l => exact ⟨h.1.R (fun g hg => hN _ g hg) (fun n g hg => hN _ g hg), Fr_Rs hN hlt h.2⟩
  | darr k l => exact h.1.1.elim
  | ints l =>
   obtain ⟨h1, h2⟩ := h
   refine ⟨?_, Fr_Rs hN hlt h2⟩
   rcases h1 with ⟨hv, hl⟩ | ⟨g, cp, cur, hv, hn, hh, h1, h3, h4, h5⟩
   ·subst hl
    exact ⟨none, 0, by rw [hv]; rfl, Nat.le_refl _, by simp, .inl rfl⟩
   ·exact ⟨_, cp, hv, h1, h3, .inr ⟨g, 0, rfl, hN j g hn, hlt j g hn, h5⟩⟩
  | clo f z => exact ((show PL.R w' (fun _ => False) (.clo f z) c from h.1).elim fun _ h => h.elim fun _ h => h.2.1.elim)
  | pint z => exact ((show PL.R w' (fun _ => False) (.pint z) c from h.1).elim fun _ h => h.elim fun _ h => h.2.1.elim)
  | _ => exact ⟨h.1, Fr_Rs hN hlt h.2⟩
theorem Fr_RPV {w' : World} {N : Nat → Option Nat} {ok : Nat → Prop} (hN : ∀ j b, N j = some b → ok b) (hlt : ∀ j b, N j = some b → b < w'.heap.size) {q : PV} {j : Nat} {v : Value} (h : FrPV w' ei N j q v) : RPV w' ok q v := by
 obtain ⟨b, xs⟩ := q
 cases b with
 | true => obtain ⟨cs, hv, h⟩ := h; exact ⟨cs, hv, Fr_Rs hN hlt h⟩
 | false => obtain ⟨x, rfl, h⟩ := h; exact ⟨_, rfl, (Fr_Rs hN hlt h).1⟩
theorem Fr_RPVs {w' : World} {N : Nat → Option Nat} {ok : Nat → Prop} (hN : ∀ j b, N j = some b → ok b) (hlt : ∀ j b, N j = some b → b < w'.heap.size) : ∀ {qs : List PV} {j : Nat} {cs : List Value}, FrPVs w' ei N j qs cs → All2 (RPV w' ok) qs cs
 | [], _, [], _ => True.intro
 | [], _, _ :: _, h => by simp [FrPVs] at h
 | x :: xs, j, [], h => by simp [FrPVs] at h
 | q :: qs, j, c :: cs, h => ⟨Fr_RPV hN hlt h.1, Fr_RPVs hN hlt h.2⟩
theorem Fr_RRes {w' : World} {N : Nat → Option Nat} {ok : Nat → Prop} (hN : ∀ j b, N j = some b → ok b) (hlt : ∀ j b, N j = some b → b < w'.heap.size) {r : Res} {v : Value} (h : FrRes w' ei N r v) : RRes w' ok r v := by
 cases r with
 | one q => exact Fr_RPV hN hlt h
 | tup qs => obtain ⟨cs, hv, h⟩ := h; exact ⟨cs, hv, Fr_RPVs hN hlt h⟩

theorem run_enter {P : Program} {c : Call} {f : Operand} {g : FuncId} {fn : Func} (ho : o.op = .call c) (hc : c.callee = .value f) (hf : a.eval f = .func (.func g) #[] #[])
  (hfn : P.funcs[g]? = some fn) (hname : (fn.name == "runtime.NumGoroutine") = false) (hb : fn.body.isSome = true) (w : World) : (execOp a.eval o).run P w = .ok (.enter g (c.args.map a.eval)) w := by
 have hb' : ¬ fn.body = none := by intro h; rw [h] at hb; cases hb
 have hname' : ¬ fn.name = "runtime.NumGoroutine" := by simpa using hname
 simp [execOp, ho, resolve, hc, Deferred.ofValue, hf, invoke, callFunc, hfn, hname', hb']

theorem run_enterC {P : Program} {c : Call} {f : Operand} {g : FuncId} {fn : Func} {caps : Array Value} (ho : o.op = .call c) (hc : c.callee = .value f) (hf : a.eval f = .func (.func g) #[] caps)
  (hfn : P.funcs[g]? = some fn) (hname : (fn.name == "runtime.NumGoroutine") = false) (hb : fn.body.isSome = true) (w : World) : (execOp a.eval o).run P w = .ok (.enter g (c.args.map a.eval ++ caps)) w := by
 have hb' : ¬ fn.body = none := by intro h; rw [h] at hb; cases hb
 have hname' : ¬ fn.name = "runtime.NumGoroutine" := by simpa using hname
 simp [execOp, ho, resolve, hc, Deferred.ofValue, hf, invoke, callFunc, hfn, hname', hb']
theorem fnc_R {f : FV} {v : Value} {g : FuncId} {cs : List FV} (h : f.fnc = some (g, cs)) (hr : RFV F β w f v) : ∃ caps : List Value, v = .func (.func g) #[] caps.toArray ∧ All2 (RFV F β w) cs caps := by
 unfold FV.fnc at h
 split at h
 ·cases h
  exact ⟨[], R_v1 hr, True.intro⟩
 ·cases h
  rename_i z
  obtain ⟨g', o', hv, hg, hlt, hc⟩ := (show PL.R w (okU F β) (.clo g z) v from R_v1 hr)
  exact ⟨[.pointer (some ⟨g', o', none⟩)], hv, ⟨_, rfl, g', o', rfl, hg, hlt, hc⟩, True.intro⟩
 ·cases h

theorem y_call (h : Sim F β T a w) {k : FV → Prop} (hK : Nx F T o a K k) (hd : o.dst.getD 0 < 1000000) (hno : ∀ f ∈ T, ∀ j, f.has (o.dst.getD 0, j) = false) {c : Call} {f : Operand} (ho : o.op = .call c) (hc : c.callee = .value f)
  {Den : FuncId → List PV → Bool → Res → Prop} (hD : ∀ g ps fl r, Den g ps fl r → DenS F.P ei g ps fl r) (hY : Yk Γ ei Den o (opd T) k) : o.wp F.P a w K Q := by
 unfold Yk at hY
 simp only [ho, hc] at hY
 have hf := opd_R h f
 split at hY
 ·rename_i g cs hg
  obtain ⟨caps, hf, hcs⟩ := fnc_R hg hf
  obtain ⟨ps, hps, fl, lb, r, hden, hok, hk⟩ := hY
  obtain ⟨⟨fn, hfn, hname, hb⟩, hcall⟩ := hD _ _ _ _ hden
  have hall := All2.append (ops_R h c.args.toList) hcs
  have hargs : (c.args.toList.map a.eval ++ caps).toArray = c.args.map a.eval ++ caps.toArray := by
   apply Array.ext'
   simp
  have hrun := run_enterC ho hc hf hfn hname hb w
  unfold Oper.wp
  rw [hrun, Oper.upon_enter, ← hargs]
  cases fl with
  | true =>
   have h1 := hcall (okAny F β) w _ (h.keeps fun _ hx => hx.elim) (erVs_R (fun f _ x _ y v he hx => er_R h he hx) hps hall)
   refine h1.mono fun e w' hh => ?_
   obtain ⟨v, rfl, hbel, N, hN1, hN2, hfr⟩ := hh
   cases lb with
   | true => exact hK _ _ v w' hk ((h.label (Grew.of_below hbel) _ N hno hN1 hN2).put o.dst (Fr_FV (Nat.lt_trans hd (by decide)) (fun j => by simp [relab]) hfr))
   | false => exact hK _ _ v w' hk ((h.grow (Grew.of_below hbel)).put o.dst (RRes_FV (ok := okU F β) (fun _ hg => hg) (Fr_RRes (fun j b hj => ⟨.inr (Nat.le_trans h.hsize (hN1 j b hj).1), fun l hl => by have := (h.rng l b hl).1; have := (hN1 j b hj).1; omega⟩) (fun j b hj => (hN1 j b hj).2) hfr)))
  | false =>
   unfold callOk at hok
   dsimp only at hok
   rw [Bool.or_eq_true] at hok
   have hnew : ∀ {w' : World}, Below w.heap.size w w' → ∀ b, (okU F β b ∨ w.heap.size ≤ b) → okU F β b := by
    intro w' _ b hb
    rcases hb with hb | hb
    ·exact hb
    ·exact ⟨.inr (Nat.le_trans h.hsize hb), fun l hl => by have := (h.rng l b hl).1; omega⟩
   rcases hok with hok | hok
   ·have h1 := hcall (okAny F β) w _ (h.keeps fun _ hx => hx.elim) (erVs_R (fun f _ x _ y v he hx => er_R h he hx) hps hall)
    refine h1.mono fun e w' hh => ?_
    obtain ⟨v, rfl, hbel, hr⟩ := hh
    exact hK _ _ v w' hk ((h.grow (Grew.of_below hbel)).put o.dst (RRes_FV (ok := okU F β) (fun _ hg => hg) (noArrR_R hok hr)))
   ·have h1 := hcall (okU F β) w _ (h.keeps fun _ hx => hx.elim) (erVs_R (fun f hf x hx y v he hr => er_Ru (by
     rw [List.all_eq_true] at hok
     have := hok f hf
     rw [List.all_eq_true] at this
     simpa using this x hx) he hr) hps hall)
    refine h1.mono fun e w' hh => ?_
    obtain ⟨v, rfl, hbel, hr⟩ := hh
    exact hK _ _ v w' hk ((h.grow (Grew.of_below hbel)).put o.dst (RRes_FV (hnew hbel) hr))
 ·exact hY.elim

theorem y_max (h : Sim F β T a w) {k : FV → Prop} (hK : Nx F T o a K k) {c : Call} (ho : o.op = .call c) (hc : c.callee = .builtin .max) {Den : FuncId → List PV → Bool → Res → Prop} (hY : Yk Γ ei Den o (opd T) k) : o.wp F.P a w K Q := by
 unfold Yk at hY
 simp only [ho, hc] at hY
 split at hY
 ·rename_i x y hargs
  have hargs' : c.args = #[x, y] := by cases hq : c.args; rw [hq] at hargs; simp at hargs; rw [hargs]
  have hx := opd_R h x
  have hy := opd_R h y
  split at hY
  ·rename_i kx u ky v hu hv
   rw [hu] at hx
   rw [hv] at hy
   have hx := R_int hx
   have hy := R_int hy
   obtain ⟨z, hz, hk⟩ := hY
   subst hz
   refine y_value h hK hk (c := .int kx (if v > u then v else u)) ?_ ⟨_, rfl, rfl⟩
   simp [execOp, ho, resolve, hc, hargs', invoke, builtin, Builtin.max_, Builtin.max2, hx, hy]
  ·exact hY.elim
 ·exact hY.elim

theorem y_convert (h : Sim F β T a w) {k : FV → Prop} (hK : Nx F T o a K k) (hT : tabB F.P ei Γ = true) {s d : TypeId} {x : Operand} (ho : o.op = .convert s d x) {Den : FuncId → List PV → Bool → Res → Prop} (hY : Yk Γ ei Den o (opd T) k) : o.wp F.P a w K Q := by
 unfold Yk at hY
 simp only [ho] at hY
 have hx := opd_R h x
 split at hY
 ·rename_i r id kd z0 kx z hr hd hs
  obtain ⟨hid, hrow⟩ := tab_row hT hr
  obtain ⟨hid2, hrow2⟩ := tab_row hT hd
  obtain ⟨d1, hu1⟩ := row_some hrow hid
  have hu2 := row_int hrow2 rfl hid2
  rw [hs] at hx
  have hx := R_int hx
  obtain ⟨u, hu, hk⟩ := hY
  subst hu
  refine y_value h hK hk (c := .int kd (kd.wrap z)) ?_ ⟨_, rfl, rfl⟩
  have : (convert s d (.int kx z)).run F.P w = .ok (.int kd (kd.wrap z)) w := by
   unfold convert
   rw [Sem.run_bind, run_underlying hu1 w]
   simp only [Result.andThen]
   rw [Sem.run_bind, run_underlying hu2 w]
   cases d1 <;> rfl
  simp [execOp, ho, hx, this]
 ·rename_i r id e kk b z0 str hr hd hs
  obtain ⟨hid, hrow⟩ := tab_row hT hr
  obtain ⟨hid2, hrow2⟩ := tab_row hT hd
  obtain ⟨d1, hu1⟩ := row_some hrow hid
  obtain ⟨he, hsz, hk⟩ := hY
  have hu2 : F.P.underlying d = some (.slice e) := row_slice_e hrow2 rfl hid2
  have hu3 : F.P.underlying e = some (.int .u8) := by
   split at he
   ·rename_i id3 z3 h3
    obtain ⟨hid3, hrow3⟩ := tab_row hT h3
    exact row_int hrow3 rfl hid3
   ·cases he
  rw [hs] at hx
  have hx := R_str hx
  have hrun := Lib.run_convert_string_bytes w s d e str hu1 hu2 hu3
  have hg : Grew w (Lib.bytesWorld w e str) := ⟨rfl, rfl, rfl, by rw [Lib.bytesWorld_size]; omega, fun k hk => Lib.bytesWorld_at_old w e str k hk⟩
  refine wp_value (by simp only [execOp, ho, hx]; rw [Sem.run_bind]; erw [hrun]; rfl) (hK _ _ _ _ hk ((h.grow hg).put o.dst ⟨_, rfl, ?_⟩))
  have hl : (byteRows str).length = str.size := by unfold byteRows; simp
  refine ⟨_, _, by rw [hl], by rw [hl]; exact grownCap_ge w _ _ _, grownCap_le_maxLen w _ _ _ (by simp only [maxLen]; omega), .inr ⟨w.heap.size, 0, rfl, ⟨.inr h.hsize, fun l hl => by have := (h.rng l _ hl).1; omega⟩, by rw [Lib.bytesWorld_size]; omega, PL.Rows.of_get fun i r hi => ?_⟩⟩
  unfold byteRows at hi
  rw [List.getElem?_map, Option.map_eq_some_iff] at hi
  obtain ⟨b8, hb8, rfl⟩ := hi
  refine ⟨rfl, PL.Cells.of_get fun q x hq => ?_⟩
  cases q with
  | succ q => cases hq
  | zero =>
   cases hq
   have hlt : i < str.size := by have := (List.getElem?_eq_some_iff.1 hb8).1; simpa using this
   refine ⟨_, by rw [show 0 + i * 1 + 0 = i by omega]; exact Lib.bytesWorld_cell w e str i hlt, ?_⟩
   rw [List.getD_eq_getElem?_getD, hb8]
   rfl
 ·rename_i id e kk0 b z0 r kk rows hr hd hs
  obtain ⟨hid, hrow⟩ := tab_row hT hr
  obtain ⟨hid2, hrow2⟩ := tab_row hT hd
  obtain ⟨hc, hpos, str, hstr, hk⟩ := hY
  rw [Bool.and_eq_true, Bool.and_eq_true] at hc
  obtain ⟨hkk, hst, he⟩ := hc
  have hkk := Nat.eq_of_beq_eq_true hkk
  subst hkk
  have hu1 : F.P.underlying s = some (.slice e) := row_slice_e hrow rfl hid
  have hu2 := row_str hrow2 hst hid2
  have hu3 : F.P.underlying e = some (.int .u8) := by
   split at he
   ·rename_i id3 z3 h3
    obtain ⟨hid3, hrow3⟩ := tab_row hT h3
    exact row_int hrow3 rfl hid3
   ·cases he
  rw [hs] at hx
  have hx : PL.R w (okU F β) (.arr 1 rows) (a.eval x) := R_v1' hx
  obtain ⟨A, c, hv, h1, h2, h3⟩ := hx
  rcases h3 with h3 | ⟨g, oo, rfl, hok, hlt, h3⟩
  ·rw [h3] at hpos; cases hpos
  have hlen : rows.length = str.size := by rw [← hstr]; unfold byteRows; simp
  have hrun := run_convert_bytes_arg (P := F.P) w s e hu1 hu3 g oo rows.length c (str.data.toList.map fun b => (b.toNat : Int)) (by rw [hlen]; simp) (fun i hi => by
   rw [hlen] at hi
   have hi2 : i < str.data.toList.length := by simpa using hi
   have hget : rows[i]? = some [.int .u8 ((str.data.toList[i]).toNat : Int)] := by rw [← hstr]; unfold byteRows; rw [List.getElem?_map, List.getElem?_eq_getElem hi2]; rfl
   obtain ⟨_, hcs⟩ := h3.get i _ hget
   obtain ⟨u, hu, hr2⟩ := hcs.get 0 _ rfl
   rw [show oo + i * 1 + 0 = oo + i by omega] at hu
   rw [hu, List.getD_eq_getElem?_getD, List.getElem?_map, List.getElem?_eq_getElem hi2]
   have hr2 : u = _ := hr2
   rw [hr2]
   rfl) d hu2
  have hse : strOfNums (str.data.toList.map fun b => (b.toNat : Int)) = str := by
   unfold strOfNums
   rw [List.map_map]
   have : (str.data.toList.map ((fun n : Int => UInt8.ofNat n.toNat) ∘ fun b : UInt8 => (b.toNat : Int))) = str.data.toList := by
    conv => rhs; rw [← List.map_id str.data.toList]
    refine List.map_congr_left fun b _ => ?_
    simp
   rw [this]
  rw [hse] at hrun
  refine y_value h hK hk (c := .string str) ?_ ⟨_, rfl, rfl⟩
  simp [execOp, ho, hv, hrun]
 ·exact hY.elim

theorem run_sl_bound {P : Program} {x : Value} {y i : Nat} {code : BoundsCode} {kx : IntKind} (hx : x = .int kx (i : Int)) (hi : i ≤ y) (w : World) : (Instr.sliceBound x y code).run P w = .ok i w := by
 subst hx
 simp [Instr.sliceBound, asIntOf, hi]
theorem bndA_some {d i : Nat} {f : FV} (h : bndA d i (some f)) : ∃ kx, f = .v false [.p (.int kx (i : Int))] := by
 unfold bndA at h
 split at h
 ·rename_i heq; cases heq
 ·rename_i heq; cases heq; subst h; exact ⟨_, rfl⟩
 ·exact h.elim
theorem bnd_val (h : Sim F β T a w) {d i : Nat} {lo : Option Operand} (hb : bndA d i (lo.map (opd T))) : (lo = none ∧ i = d) ∨ ∃ x kx, lo = some x ∧ a.eval x = .int kx (i : Int) := by
 cases lo with
 | none => exact .inl ⟨rfl, hb⟩
 | some x =>
  have hx := opd_R h x
  obtain ⟨kx, hf⟩ := bndA_some hb
  rw [hf] at hx
  exact .inr ⟨x, kx, rfl, R_int hx⟩
theorem tyArr_isArr {t : Ty} {y : PL} (h : tyArr t y = true) : y.isArr = true := by
 cases t <;> cases y <;> first | rfl | (simp [tyArr] at h)

theorem sub_R {ok : Nat → Prop} {y : PL} {A : Option Addr} {c i j : Nat} (h : PL.R w ok y (.slice A y.len c)) (hy : y.isArr = true) (hij : i ≤ j) (hj : j ≤ y.len) (hc : y.len ≤ c) (hm : c ≤ maxLen) :
  PL.R w ok (y.sub i j) (.slice (if c = i then A else A.map (·.add (i * y.wd))) (j - i) (c - i)) := by
 have hm' : c - i ≤ maxLen := Nat.le_trans (Nat.sub_le _ _) hm
 cases y <;> simp [PL.isArr] at hy
 ·rename_i l
  simp only [PL.len, PL.wd, PL.sub] at *
  unfold PL.R at h ⊢
  obtain ⟨A', c', hv, h1, h2, h⟩ := h
  cases hv
  have hl : ((l.take j).drop i).length = j - i := by simp; omega
  refine ⟨_, _, by rw [hl], by rw [hl]; omega, hm', ?_⟩
  by_cases he : j = i
  ·left
   apply List.eq_nil_of_length_eq_zero
   omega
  ·right
   rcases h with rfl | ⟨g, o, rfl, hok, hlt, h⟩
   ·simp at hj; omega
   ·refine ⟨g, o + i, by rw [if_neg (by omega)]; simp [Addr.add_lit], hok, hlt, fun q z hz => ?_⟩
    rw [List.getElem?_drop, List.getElem?_take] at hz
    split at hz
    ·rw [Nat.add_assoc]
     exact h _ _ hz
    ·cases hz
 ·rename_i k l
  simp only [PL.len, PL.wd, PL.sub] at *
  unfold PL.R at h ⊢
  obtain ⟨A', c', hv, h1, h2, h⟩ := h
  cases hv
  have hl : ((l.take j).drop i).length = j - i := by simp; omega
  refine ⟨_, _, by rw [hl], by rw [hl]; omega, hm', ?_⟩
  by_cases he : j = i
  ·left
   apply List.eq_nil_of_length_eq_zero
   omega
  ·right
   rcases h with rfl | ⟨g, o, rfl, hok, hlt, h⟩
   ·simp at hj; omega
   ·refine ⟨g, o + i * k, by rw [if_neg (by omega)]; simp [Addr.add_lit], hok, hlt, PL.Rows.of_get fun q z hz => ?_⟩
    rw [List.getElem?_drop, List.getElem?_take] at hz
    split at hz
    ·have := h.get _ _ hz
     rw [Nat.add_mul, ← Nat.add_assoc] at this
     exact this
    ·cases hz

theorem y_slice (h : Sim F β T a w) {k : FV → Prop} (hK : Nx F T o a K k) (hT : tabB F.P ei Γ = true) {t : TypeId} {x : Operand} {lo hi mx : Option Operand} (ho : o.op = .slice t x lo hi mx) {Den : FuncId → List PV → Bool → Res → Prop} (hY : Yk Γ ei Den o (opd T) k) : o.wp F.P a w K Q := by
 unfold Yk at hY
 simp only [ho] at hY
 have hx := opd_R h x
 split at hY
 ·exact hY.elim
 ·split at hY
  ·rename_i r s hr hs
   obtain ⟨hid, hrow⟩ := tab_row hT hr
   rw [hs] at hx
   have hv := R_str hx
   obtain ⟨hst, i, j, hi1, hj1, hij, hj2, z, hz, hk⟩ := hY
   subst hz
   have hu := row_str hrow hst hid
   refine y_value h hK hk (c := .string (s.extract i j)) ?_ ⟨_, rfl, rfl⟩
   have hb : (Instr.sliceBounds false s.size s.size (lo.map a.eval) (hi.map a.eval) none).run F.P w = .ok (i, j, s.size) w := by
    unfold Instr.sliceBounds
    rcases bnd_val h hi1 with ⟨rfl, rfl⟩ | ⟨xl, kl, rfl, hl⟩ <;> rcases bnd_val h hj1 with ⟨rfl, rfl⟩ | ⟨xh, kh, rfl, hh⟩
    ·simp
    ·simp [run_sl_bound hh hj2 w]
    ·simp [run_sl_bound hl hij w]
    ·simp [run_sl_bound hh hj2 w, run_sl_bound hl hij w]
   simp only [execOp, ho, Instr.sliceAt, Instr.slice, hv]
   simp [run_underlying hu, hb]
  ·rename_i r y _ hr hs
   obtain ⟨hid, hrow⟩ := tab_row hT hr
   rw [hs] at hx
   have hx : PL.R w (okU F β) y (a.eval x) := R_v1 hx
   obtain ⟨hty, i, j, hi1, hj1, hij, hj2, hk⟩ := hY
   obtain ⟨e, hu, hsz⟩ := row_arr (by unfold tabB at hT; rw [Bool.and_eq_true] at hT; exact hT.1) hrow hty hid
   have hyA : y.isArr = true := tyArr_isArr hty
   have hsl : ∃ A c, a.eval x = .slice A y.len c ∧ y.len ≤ c ∧ c ≤ maxLen := by
    cases y <;> simp [PL.isArr] at hyA
    ·obtain ⟨A, c, hv, h1, h2, _⟩ := hx; exact ⟨A, c, hv, h1, h2⟩
    ·obtain ⟨A, c, hv, h1, h2, _⟩ := hx; exact ⟨A, c, hv, h1, h2⟩
   obtain ⟨A, c, hv, h1, h2⟩ := hsl
   rw [hv] at hx
   have hres := sub_R hx hyA hij hj2 h1 h2
   refine y_value h hK hk (c := .slice (if c = i then A else A.map (·.add (i * y.wd))) (j - i) (c - i)) ?_ ⟨_, rfl, hres⟩
   have hb : (Instr.sliceBounds true y.len c (lo.map a.eval) (hi.map a.eval) none).run F.P w = .ok (i, j, c) w := by
    unfold Instr.sliceBounds
    rcases bnd_val h hi1 with ⟨rfl, rfl⟩ | ⟨xl, kl, rfl, hl⟩ <;> rcases bnd_val h hj1 with ⟨rfl, rfl⟩ | ⟨xh, kh, rfl, hh⟩
    ·simp
    ·simp [run_sl_bound hh (show j ≤ c by omega) w]
    ·simp [run_sl_bound hl hij w]
    ·simp [run_sl_bound hh (show j ≤ c by omega) w, run_sl_bound hl hij w]
   simp only [execOp, ho, Instr.sliceAt, Instr.slice, hv]
   simp [run_underlying hu, hb, run_size hsz w]
  ·rename_i r lab e0 kk l hr hs
   obtain ⟨hid, hrow⟩ := tab_row hT hr
   rw [hs] at hx
   have hx : RLf F β w (.own lab e0 (.arr kk l)) (a.eval x) := R_v1' hx
   obtain ⟨hty, i, j, hi1, hj1, hij, hj2, hil, hk⟩ := hY
   obtain ⟨e, hu, hsz⟩ := row_arr (by unfold tabB at hT; rw [Bool.and_eq_true] at hT; exact hT.1) hrow hty hid
   have hx0 := hx
   rcases hx.2 with ⟨_, h0⟩ | ⟨g, c, cur, hv, hb2, hh2, k1, k2, k3, k4⟩
   ·have : l.length = 0 := h0
    omega
   have hv : a.eval x = .slice (some ⟨g, 0, none⟩) l.length c := hv
   have k1 : l.length ≤ c := k1
   rw [hv] at hx0
   refine y_value h hK hk (c := .slice (some ⟨g, 0 + i * kk, none⟩) (j - i) (c - i)) ?_ ⟨g, 0, l.length, c, .arr kk l, hx0, rfl, ⟨hij, hj2⟩, rfl⟩
   have hb : (Instr.sliceBounds true l.length c (lo.map a.eval) (hi.map a.eval) none).run F.P w = .ok (i, j, c) w := by
    unfold Instr.sliceBounds
    rcases bnd_val h hi1 with ⟨rfl, rfl⟩ | ⟨xl, kl, rfl, hl⟩ <;> rcases bnd_val h hj1 with ⟨rfl, rfl⟩ | ⟨xh, kh, rfl, hh⟩
    ·simp
    ·simp [run_sl_bound hh (show j ≤ c by omega) w]
    ·simp [run_sl_bound hl hij w]
    ·simp [run_sl_bound hh (show j ≤ c by omega) w, run_sl_bound hl hij w]
   have hci : ¬ c = i := by omega
   have hsz : sizeB F.P e kk = true := hsz
   simp only [execOp, ho, Instr.sliceAt, Instr.slice, hv]
   simp [run_underlying hu, hb, run_size hsz w, hci, Addr.add]
   exact fun h => h.symm
  ·rename_i r lab e0 kk l hr hs
   obtain ⟨hid, hrow⟩ := tab_row hT hr
   rw [hs] at hx
   have hx : RLf F β w (.deep lab e0 kk l) (a.eval x) := R_v1' hx
   obtain ⟨hty, hlo, i, j, hi0, hj1, hij, hj2, hk⟩ := hY
   have hlo : lo = none := by cases lo <;> first | rfl | cases hlo
   subst hlo
   have hi0 : i = 0 := hi0
   subst hi0
   obtain ⟨e, hu, hsz⟩ := row_arr (by unfold tabB at hT; rw [Bool.and_eq_true] at hT; exact hT.1) hrow hty hid
   have hsz : sizeB F.P e kk = true := hsz
   obtain ⟨hpin, hx⟩ := hx
   have hsl : ∃ A c, a.eval x = .slice A l.length c ∧ l.length ≤ c := by
    rcases hx with ⟨hv, rfl⟩ | ⟨g, c, cur, e2, hv, _, _, k1, _⟩
    ·exact ⟨none, 0, hv, Nat.le_refl _⟩
    ·exact ⟨_, c, hv, k1⟩
   obtain ⟨A, c, hv, k1⟩ := hsl
   have hres : RLf F β w (.deep lab e0 kk (l.take j)) (.slice A j c) := by
    have hjl : (l.take j).length = j := by rw [List.length_take]; omega
    refine ⟨fun A' c' hp => ?_, ?_⟩
    ·obtain ⟨n, hn⟩ := hpin A' c' hp
     rw [hv] at hn
     cases hn
     exact ⟨j, rfl⟩
    ·rcases hx with ⟨hv2, rfl⟩ | ⟨g, c2, cur, e2, hv2, hb2, hh2, q1, q2, q3, q4⟩
     ·rw [hv] at hv2
      cases hv2
      have : j = 0 := by simpa using hj2
      subst this
      exact .inl ⟨rfl, rfl⟩
     ·rw [hv] at hv2
      cases hv2
      refine .inr ⟨g, c, cur, e2, by rw [hjl], hb2, hh2, by omega, q2, q3, fun i r hr => q4 i r ?_⟩
      rw [List.getElem?_take] at hr
      split at hr
      ·exact hr
      ·cases hr
   refine y_value h hK hk (c := .slice A j c) ?_ ⟨_, rfl, hres⟩
   have hb : (Instr.sliceBounds true l.length c (none : Option Value) (hi.map a.eval) none).run F.P w = .ok (0, j, c) w := by
    unfold Instr.sliceBounds
    rcases bnd_val h hj1 with ⟨rfl, rfl⟩ | ⟨xh, kh, rfl, hh⟩
    ·simp
    ·simp [run_sl_bound hh (show j ≤ c by omega) w]
   have hA : A.map (fun x => x.add 0) = A := by
    cases A with
    | none => rfl
    | some q => cases q with | mk b o s => cases s <;> simp [Addr.add]
   simp only [execOp, ho, Instr.sliceAt, Instr.slice, hv, Option.map_none]
   simp only [Sem.run_bind, run_underlying hu, hb, run_size hsz w, Result.andThen]
   simp [hA]
  ·exact hY.elim

/-! struct literals -/
theorem over_R {cs : List Lf} {cc : List Value} {xs : List Lf} {ds : List Value} {off : Nat} (h : All2 (RLf F β w) cs cc) (hx : All2 (RLf F β w) xs ds) : All2 (RLf F β w) (over cs off xs) (cc.take off ++ ds ++ cc.drop (off + ds.length)) := by
 unfold over
 rw [hx.length]
 exact ((h.take off).append hx).append (h.drop _)
theorem set_fold : ∀ (ds : List Value) (cc : Array Value) (off k : Nat), off + k + ds.length ≤ cc.size →
  ((ds.zipIdx k).foldl (fun cs (q : Value × Nat) => cs.setIfInBounds (off + q.2) q.1) cc).toList = cc.toList.take (off + k) ++ ds ++ cc.toList.drop (off + k + ds.length)
 | [], cc, off, k, _ => by simp
 | d :: ds, cc, off, k, hl => by
  simp only [List.length_cons] at hl
  rw [List.zipIdx_cons, List.foldl_cons]
  have := set_fold ds (cc.setIfInBounds (off + k) d) off (k + 1) (by simp; omega)
  rw [this]
  apply List.ext_getElem?
  intro q
  simp only [Array.toList_setIfInBounds, List.getElem?_append, List.length_append, List.length_take, List.length_set, Array.length_toList, List.length_cons, List.getElem?_take, List.getElem?_drop, List.getElem?_set]
  have e1 : min (off + (k + 1)) cc.size = off + k + 1 := by omega
  have e2 : min (off + k) cc.size = off + k := by omega
  rw [e1, e2]
  by_cases h1 : q < off + k
  ·simp [show q < off + k + 1 + ds.length by omega, show q < off + k + 1 by omega, show q < off + k + (ds.length + 1) by omega, h1, show ¬ off + k = q by omega, show q < off + (k + 1) by omega]
  ·by_cases h2 : q = off + k
   ·subst h2
    simp [show off + k < off + k + 1 + ds.length by omega, show off + k < cc.size by omega, show off + k < off + (k + 1) by omega]
   ·by_cases h3 : q < off + k + 1 + ds.length
    ·simp [h3, show ¬ q < off + k + 1 by omega, show q < off + k + (ds.length + 1) by omega, h1]
     rw [show q - (off + k) = (q - (off + k + 1)) + 1 by omega, List.getElem?_cons_succ]
    ·simp [h3, show ¬ q < off + k + (ds.length + 1) by omega]
     rw [show off + (k + 1) + ds.length + (q - (off + k + 1 + ds.length)) = q by omega, show off + k + (ds.length + 1) + (q - (off + k + (ds.length + 1))) = q by omega]
     rw [if_neg (by omega)]

theorem fill_R {offs : List (Nat × Option Nat)} {pl : Nat → Option (Nat × Nat)} (hpl : ∀ i, pl i = (offs[i]?).map fun q => (q.1, q.2.getD 1)) : ∀ {ps : List (Nat × FV)} {vs : List (Nat × Value)} {cs cs' : List Lf} {cc : Array Value},
  All2 (fun (p : Nat × FV) (v : Nat × Value) => p.1 = v.1 ∧ RFV F β w p.2 v.2) ps vs → fillA offs ps cs = some cs' → All2 (RLf F β w) cs cc.toList → ∃ cc', Instr.fill pl cc vs = some cc' ∧ All2 (RLf F β w) cs' cc'.toList
 | [], [], cs, cs', cc, _, hf, h => by cases hf; exact ⟨cc, rfl, h⟩
 | (i, f) :: ps, (i', v) :: vs, cs, cs', cc, hp, hf, h => by
  obtain ⟨⟨hi, hv⟩, hp⟩ := hp
  dsimp only at hi hv
  subst hi
  unfold fillA at hf
  split at hf
  ·rename_i b xs q hq
   split at hf
   ·rename_i hb
    rw [Bool.and_eq_true] at hb
    have h1 := Nat.eq_of_beq_eq_true hb.1
    have h2 := Nat.le_of_ble_eq_true hb.2
    have hc := cells_of_val hv
    have hl := hc.length
    have hl2 := h.length
    have hsz : v.cells.size = xs.length := by rw [hl]; simp
    have hpi : pl i = some (q.1, q.2.getD 1) := by rw [hpl, hq]; rfl
    unfold Instr.fill
    rw [hpi]
    dsimp only
    have hcc : cc.size = cs.length := by rw [hl2]; simp
    rw [if_neg (by rw [hsz, h1, hcc]; simp; omega)]
    refine fill_R hpl hp hf ?_
    have := set_fold v.cells.toList cc q.1 0 (by simp at hl2 ⊢; omega)
    simp only [Nat.add_zero] at this
    have e : (v.cells.zipIdx.foldl (fun cs (x : Value × Nat) => match x with | (c, j) => cs.setIfInBounds (q.1 + j) c) cc) = ((v.cells.toList.zipIdx 0).foldl (fun cs (x : Value × Nat) => cs.setIfInBounds (q.1 + x.2) x.1) cc) := by
     rw [← Array.foldl_toList, Array.toList_zipIdx]
    rw [e, this]
    exact over_R h hc
   ·cases hf
  ·cases hf
 | [], _ :: _, _, _, _, h, _, _ => h.elim
 | _ :: _, [], _, _, _, h, _, _ => h.elim

theorem places_run {P : Program} (g : Field → Sem (Nat × Nat)) (hg : ∀ f, g f = (do pure (f.offset, ← sizeOf f.type))) (w : World) : ∀ {qs : List (Nat × Option Nat)} {fs : List Field}, fieldsB P qs fs = true → (fs.mapM g).run P w = .ok (qs.map fun q => (q.1, q.2.getD 1)) w
 | [], [], _ => by simp
 | q :: qs, f :: fs, h => by
  obtain ⟨fd, hfd, hoff, h1, h2⟩ := fields_get (i := 0) (q := q) h rfl
  simp at hfd
  subst hfd
  have hs : (sizeOf f.type).run P w = .ok (q.2.getD 1) w := by
   cases hq : q.2 with
   | none => exact run_size (h1 hq).2 w
   | some n => exact run_size (h2 n hq).2.1 w
  unfold fieldsB at h
  rw [Bool.and_eq_true] at h
  have ih := places_run g hg w h.2
  simp [List.mapM_cons, hg, hs, hoff] at ih ⊢
  simp [ih]
 | [], _ :: _, h => by simp [fieldsB] at h
 | _ :: _, [], h => by simp [fieldsB] at h

theorem row_zero {P : Program} {t : TypeId} {r : TyRow} (h : rowB P ei r = true) (hi : r.id = t) : ∃ i z, P.info? t = some i ∧ i.zero = some z ∧ i.size = r.zero.length ∧ zeroOkB r.zero z.cells.toList = true := by
 unfold rowB at h
 rw [Bool.and_eq_true, Bool.and_eq_true] at h
 have h := h.1.2
 rw [hi] at h
 split at h
 ·rename_i i hinfo
  rw [Bool.and_eq_true] at h
  have h2 := h.2
  split at h2
  ·rename_i z hz
   exact ⟨i, z, hinfo, hz, by simpa using h.1, h2⟩
  ·cases h2
 ·cases h

theorem parts_R (h : Sim F β T a w) : ∀ ps : List (Nat × Operand), All2 (fun (p : Nat × FV) (v : Nat × Value) => p.1 = v.1 ∧ RFV F β w p.2 v.2) (ps.map fun q => (q.1, opd T q.2)) (ps.map fun q => (q.1, a.eval q.2))
 | [] => True.intro
 | (i, x) :: ps => ⟨⟨rfl, opd_R h x⟩, parts_R h ps⟩

theorem y_build (h : Sim F β T a w) {k : FV → Prop} (hK : Nx F T o a K k) (hT : tabB F.P ei Γ = true) {t : TypeId} {parts : Array (Nat × Operand)} (ho : o.op = .build t parts) {Den : FuncId → List PV → Bool → Res → Prop} (hY : Yk Γ ei Den o (opd T) k) : o.wp F.P a w K Q := by
 unfold Yk at hY
 simp only [ho] at hY
 split at hY
 ·rename_i id n offs zero hr
  obtain ⟨hid, hrow⟩ := tab_row hT hr
  obtain ⟨fs, hu, hf, hsz⟩ := row_agg hrow rfl hid
  obtain ⟨i, z, hi, hz, hzs, hzo⟩ := row_zero hrow hid
  split at hY
  ·rename_i cs hcs
   obtain ⟨cc, hfill, hall⟩ := fill_R (F := F) (β := β) (w := w) (offs := offs) (pl := fun i => (offs.map fun q => (q.1, q.2.getD 1)).toArray[i]?) (fun i => by simp) (parts_R h parts.toList) hcs (zero_ok (F := F) (β := β) (w := w) hzo)
   refine y_value h hK hY (c := .agg cc) ?_ ⟨cc.toList, by simp, hall⟩
   have hpl := places_run (P := F.P) (fun f => do pure (f.offset, ← sizeOf f.type)) (fun _ => rfl) w hf
   have hp2 : (parts.map fun (q : Nat × Operand) => (q.1, a.eval q.2)).toList = parts.toList.map fun q => (q.1, a.eval q.2) := by simp
   have hrun : (Instr.build t (parts.map fun (q : Nat × Operand) => (q.1, a.eval q.2))).run F.P w = .ok (.agg cc) w := by
    unfold Instr.build
    have e : fs = fs.toList.toArray := by simp
    rw [e] at hu
    simp only [Sem.run_bind, zeroValue, typeInfo, run_program, Result.andThen, hi, Sem.run_pure, hz, run_underlying hu]
    rw [List.mapM_toArray]
    simp only [Sem.run_map]
    erw [hpl]
    simp only [Result.andThen, hp2]
    erw [hfill]
    rfl
   simp only [execOp, ho]
   rw [Sem.run_bind]
   erw [hrun]
   rfl
  ·exact hY.elim
 ·exact hY.elim

theorem fill_step {sz i : Nat} {v : Value} {cc : Array Value} {rest : List (Nat × Value)} (hv : v.cells.size = sz) (hl : i * sz + sz ≤ cc.size) :
  ∃ c1 : Array Value, Instr.fill (fun i => some (i * sz, sz)) cc ((i, v) :: rest) = Instr.fill (fun i => some (i * sz, sz)) c1 rest ∧ c1.toList = cc.toList.take (i * sz) ++ v.cells.toList ++ cc.toList.drop (i * sz + sz) := by
 refine ⟨v.cells.zipIdx.foldl (fun cs (x : Value × Nat) => match x with | (c, j) => cs.setIfInBounds (i * sz + j) c) cc, ?_, ?_⟩
 ·conv => lhs; unfold Instr.fill
  dsimp only
  rw [if_neg (by rw [hv]; simp; omega)]
 ·have := set_fold v.cells.toList cc (i * sz) 0 (by simp; omega)
  simp only [Nat.add_zero, Array.length_toList, hv] at this
  rw [← this, ← Array.foldl_toList, Array.toList_zipIdx]
theorem get_mid {α : Type} {cc : List α} {mid : List α} {i q : Nat} (hi : i ≤ cc.length) : (cc.take i ++ mid ++ cc.drop (i + mid.length))[q]? = if q < i then cc[q]? else if q < i + mid.length then mid[q - i]? else cc[q]? := by
 simp only [List.getElem?_append, List.length_append, List.length_take, List.getElem?_take, List.getElem?_drop]
 rw [Nat.min_eq_left hi]
 by_cases h1 : q < i
 ·simp [h1, show q < i + mid.length by omega]
 ·by_cases h2 : q < i + mid.length
  ·simp [h1, h2]
  ·simp [h1, h2]
   rw [show i + mid.length + (q - (i + mid.length)) = q by omega]

theorem rows_fill {kk : Nat} : ∀ {ps : List (Nat × FV)} {vs : List (Nat × Value)} {j : Nat} {rows : List (List PL)} {cc : Array Value}, All2 (fun (p : Nat × FV) (v : Nat × Value) => p.1 = v.1 ∧ RFV F β w p.2 v.2) ps vs → rowsA kk j ps = some rows →
  (j + rows.length) * kk ≤ cc.size → ∃ cc', Instr.fill (fun i => some (i * kk, kk)) cc vs = some cc' ∧ cc'.size = cc.size ∧ (∀ q, q < j * kk → cc'[q]? = cc[q]?) ∧
   ∀ q r, rows[q]? = some r → r.length = kk ∧ ∀ m x, r[m]? = some x → ∃ u, cc'[(j + q) * kk + m]? = some u ∧ PL.R w (okU F β) x u
 | [], [], j, rows, cc, _, hr, _ => by cases hr; exact ⟨cc, rfl, rfl, fun _ _ => rfl, fun q r h => by simp at h⟩
 | (i, f) :: ps, (i', v) :: vs, j, rows, cc, hp, hr, hl => by
  obtain ⟨⟨hi, hv⟩, hp⟩ := hp
  dsimp only at hi hv
  subst hi
  unfold rowsA at hr
  split at hr
  ·rename_i b xs rs hij hrs
   split at hr
   ·rename_i ys hys hk
    cases hr
    have hij := Nat.eq_of_beq_eq_true hij
    have hk := Nat.eq_of_beq_eq_true hk
    subst hij
    have hc := cells_of_val hv
    have hlen := hc.length
    have hsz : v.cells.size = kk := by rw [← hk, hlen]; simp
    simp only [List.length_cons] at hl
    have hl1 : i * kk + kk ≤ cc.size := by
     have : (i + 1) * kk ≤ (i + (rs.length + 1)) * kk := Nat.mul_le_mul_right _ (by omega)
     rw [Nat.add_mul, Nat.one_mul] at this
     omega
    obtain ⟨c1, h1, h2⟩ := fill_step (rest := vs) hsz hl1
    have hc1 : c1.size = cc.size := by
     rw [← Array.length_toList, h2]
     simp [hsz]
     omega
    obtain ⟨cc', h3, h4, h5, h6⟩ := rows_fill (j := i + 1) (cc := c1) hp hrs (by rw [hc1]; rw [show i + 1 + rs.length = i + (rs.length + 1) by omega]; exact hl)
    refine ⟨cc', h1.trans h3, h4.trans hc1, fun q hq => ?_, fun q r hr => ?_⟩
    ·have hsz2 : v.cells.toList.length = kk := by simp [hsz]
     have := get_mid (cc := cc.toList) (mid := v.cells.toList) (i := i * kk) (q := q) (by simp; omega)
     rw [hsz2] at this
     rw [h5 q (by rw [Nat.add_mul]; omega), ← Array.getElem?_toList, h2, this, if_pos hq]
     simp
    ·cases q with
     | zero =>
      simp at hr
      subst hr
      have hun : ∀ {xs : List Lf} {ys : List PL} {cs : List Value}, unLs xs = some ys → All2 (RLf F β w) xs cs → All2 (PL.R w (okU F β)) ys cs := by
       intro xs
       induction xs with
       | nil => intro ys cs h hh; cases h; cases cs <;> exact hh
       | cons x xs ih =>
        intro ys cs h hh
        unfold unLs at h
        split at h
        ·rename_i y ys' hy hys'
         cases h
         cases cs with
         | nil => exact hh.elim
         | cons c cs =>
          refine ⟨?_, ih hys' hh.2⟩
          cases x with
          | undef => cases hy
          | nil =>
           cases hy
           have hx := hh.1
           unfold RLf at hx
           subst hx
           exact ⟨none, 0, rfl, Nat.le_refl _, by simp, .inl rfl⟩
          | p x => cases hy; exact hh.1
          | _ => cases hy
        ·cases h
      have hall := hun hys hc
      refine ⟨by rw [hall.length, ← hlen, hk], fun m x hx => ?_⟩
      obtain ⟨u, hu, hxu⟩ := hall.get m x hx
      refine ⟨u, ?_, hxu⟩
      have hm : m < kk := by
       have := (List.getElem?_eq_some_iff.1 hu).1
       rw [← hlen, hk] at this
       exact this
      rw [Nat.add_zero, h5 _ (by rw [Nat.add_mul]; omega), ← Array.getElem?_toList, h2]
      have hsz2 : v.cells.toList.length = kk := by simp [hsz]
      have := get_mid (cc := cc.toList) (mid := v.cells.toList) (i := i * kk) (q := i * kk + m) (by simp; omega)
      rw [hsz2] at this
      rw [this, if_neg (by omega), if_pos (by omega), show i * kk + m - i * kk = m by omega]
      exact hu
     | succ q =>
      obtain ⟨g1, g2⟩ := h6 q r (by simpa using hr)
      refine ⟨g1, fun m x hx => ?_⟩
      rw [show i + (q + 1) = i + 1 + q by omega]
      exact g2 m x hx
   ·cases hr
  ·cases hr
 | [], _ :: _, _, _, _, h, _, _ => h.elim
 | _ :: _, [], _, _, _, h, _, _ => h.elim

theorem ints_rows : ∀ {ps : List (Nat × FV)} {j : Nat} {zs : List Int}, intsA j ps = some zs → rowsA 1 j ps = some (zs.map fun z => [.int .i64 z])
 | [], _, _, h => by cases h; rfl
 | (i, f) :: ps, j, zs, h => by
  unfold intsA at h
  split at h
  ·rename_i z zs' hij hzs
   cases h
   unfold rowsA
   rw [hij, ints_rows hzs]
   rfl
  ·cases h

theorem run_buildSlice {P : Program} {t e : TypeId} {n kk : Nat} {vs : Array (Nat × Value)} {i : TypeInfo} {z : Value} (hu : P.underlying t = some (.slice e)) (hi : P.info? e = some i) (hz : i.zero = some z) (hk : i.size = kk)
  (hle : n * kk ≤ 1000) (hfill : ∀ cc : Array Value, cc.size = n * kk → ∃ cc', Instr.fill (fun i => some (i * kk, kk)) cc vs.toList = some cc' ∧ cc'.size = cc.size ∧ True) (w : World) :
  ∃ cc cc' : Array Value, cc.size = n * kk ∧ Instr.fill (fun i => some (i * kk, kk)) cc vs.toList = some cc' ∧
   (Instr.buildSlice t n vs).run P w = .ok (.slice (some ⟨w.heap.size, 0, none⟩) n n) (w.alloc (.cells cc' e)) := by
 obtain ⟨cc', h1, _⟩ := hfill ((Array.range (n * kk)).map ((if n * kk = 0 then #[] else z.cells)[· % (if n * kk = 0 then #[] else z.cells).size]!)) (by simp)
 refine ⟨_, cc', by simp, h1, ?_⟩
 unfold Instr.buildSlice
 have h224 : ¬ (n * kk > 2 ^ 24) := by omega
 by_cases h0 : n * kk = 0
 ·simp only [h0, if_true] at h1
  simp [run_underlying hu, sizeOf, typeInfo, hi, hk, h0, newRow]
  erw [h1]
  simp
 ·simp only [h0, if_false] at h1
  simp [run_underlying hu, sizeOf, typeInfo, hi, hk, h224, h0, zeroValue, hz, newRow]
  erw [h1]
  simp

theorem At_imp {ok ok' : Nat → Prop} {g q : Nat} {x : PL} (hok : ∀ b, ok b → ok' b) (h : x.At w ok g q) : x.At w ok' g q := by
 cases x <;> try exact h
 exact PL.Rows.move (Nat.le_refl _) (fun b hb _ => ⟨hok b hb, rfl⟩) rfl _ _ h

/-- A new array. -/
theorem new_arr (h : Sim F β T a w) {k : FV → Prop} (hK : Nx F T o a K k) (hd : o.dst.getD 0 < 1000000) (hno : ∀ f ∈ T, ∀ j, f.has (o.dst.getD 0, j) = false) {lb : Bool} {x : PL} {e : TypeId} {c : Nat} {cc : Array Value} (hA : x.isArr = true)
  (hk : k (.v false [ownIf lb (o.dst.getD 0, 0) e x])) (hx : x.len ≤ c) (hm : c ≤ maxLen) (hs : cc.size = c * x.wd) (hat : x.At (w.alloc (.cells cc e)) (fun b => okU F β b ∧ b < w.heap.size) w.heap.size 0)
  (hr : (execOp a.eval o).run F.P w = .ok (.value (.slice (some ⟨w.heap.size, 0, none⟩) x.len c)) (w.alloc (.cells cc e))) : o.wp F.P a w K Q := by
 have hg := Grew.alloc w (.cells cc e)
 cases lb with
 | true =>
  have h2 := h.label hg (o.dst.getD 0) (N1 w.heap.size) hno (N1_lt (Nat.le_refl _) (by simp)) N1_inj
  refine wp_value hr (hK _ _ _ _ hk (h2.put o.dst ⟨_, rfl, ?_⟩))
  refine ⟨⟨hA, PinR.low (Nat.lt_trans hd (by decide))⟩, .inr ⟨w.heap.size, c, cc, rfl, relab_0 _ _ _, heap_alloc_new w _, hx, hm, hs, At_imp (fun b hb => ?_) hat⟩⟩
  refine ⟨hb.1.1, fun l hl => ?_⟩
  unfold relab at hl
  split at hl
  ·have := N1_lt (Nat.le_refl _) (Nat.lt_succ_self _) _ _ hl; omega
  ·exact hb.1.2 l hl
 | false =>
  refine wp_value hr (hK _ _ _ _ hk ((h.grow hg).put o.dst ⟨_, rfl, ?_⟩))
  have hat := At_imp (ok' := okU F β) (fun b hb => hb.1) hat
  have hnew : okU F β w.heap.size := ⟨.inr h.hsize, fun l hl => by have := (h.rng l _ hl).1; omega⟩
  cases x <;> simp [PL.isArr] at hA
  ·exact ⟨_, c, rfl, hx, hm, .inr ⟨_, 0, rfl, hnew, by simp, hat⟩⟩
  ·exact ⟨_, c, rfl, hx, hm, .inr ⟨_, 0, rfl, hnew, by simp, hat⟩⟩

theorem y_buildSlice (h : Sim F β T a w) {k : FV → Prop} (hK : Nx F T o a K k) (hd : o.dst.getD 0 < 1000000) (hT : tabB F.P ei Γ = true) (hno : ∀ f ∈ T, ∀ j, f.has (o.dst.getD 0, j) = false) {t : TypeId} {n : Nat} {parts : Array (Nat × Operand)}
  (ho : o.op = .buildSlice t n parts) {Den : FuncId → List PV → Bool → Res → Prop} (hY : Yk Γ ei Den o (opd T) k) : o.wp F.P a w K Q := by
 unfold Yk at hY
 simp only [ho] at hY
 have hei : eiB F.P ei = true := by unfold tabB at hT; rw [Bool.and_eq_true] at hT; exact hT.1
 have hp2 : (parts.map fun (q : Nat × Operand) => (q.1, a.eval q.2)).toList = parts.toList.map fun q => (q.1, a.eval q.2) := by simp
 have main : ∀ (r : TyRow) (x : PL) (kk : Nat) (rows : List (List PL)) (lb : Bool), Γ.get t = some r → tyArr r.ty x = true → x.wd = kk → x.len = n → rows.length = n → n * kk ≤ 1000 → rowsA kk 0 (parts.toList.map fun q => (q.1, opd T q.2)) = some rows →
   (∀ (w' : World) (ok : Nat → Prop) (g : Nat), PL.Rows w' ok kk g 0 rows → x.At w' ok g 0) → k (.v false [ownIf lb (o.dst.getD 0, 0) (r.ty.elem ei) x]) → o.wp F.P a w K Q := by
  intro r x kk rows lb hr hty hwd hlen hrl hle hrows hat hk
  obtain ⟨hid, hrow⟩ := tab_row hT hr
  obtain ⟨i, z, hu, hi, hsz, _, hz, hzs, hpos, _⟩ := row_elem hei hrow hty hid
  rw [hwd] at hsz hpos
  have hf := fun (cc : Array Value) (hcc : cc.size = n * kk) => rows_fill (F := F) (β := β) (w := w) (cc := cc) (parts_R h parts.toList) hrows (by rw [hrl, hcc]; simp)
  obtain ⟨cc, cc', hcc, hfill, hrun⟩ := run_buildSlice (vs := parts.map fun (q : Nat × Operand) => (q.1, a.eval q.2)) hu hi hz hsz hle (fun cc hcc => by
   obtain ⟨c1, h1, h2, _⟩ := hf cc hcc
   exact ⟨c1, by rw [hp2]; exact h1, h2, True.intro⟩) w
  obtain ⟨c1, h1, h2, _, h4⟩ := hf cc hcc
  rw [hp2, h1] at hfill
  cases hfill
  have hn : n ≤ maxLen := by
   have : n * 1 ≤ n * kk := Nat.mul_le_mul_left n hpos
   simp only [maxLen]
   omega
  refine new_arr h hK hd hno (tyArr_isArr hty) hk (by rw [hlen]; exact Nat.le_refl _) hn (cc := cc') (c := n) (by rw [h2, hcc, hwd]) (hat _ _ _ (PL.Rows.of_get fun q rr hq => ?_)) ?_
  ·obtain ⟨g1, g2⟩ := h4 q rr hq
   refine ⟨g1, PL.Cells.of_get fun m xx hm => ?_⟩
   obtain ⟨u, hu2, hxu⟩ := g2 m xx hm
   refine ⟨u, ?_, PL.R.move (by simp) (fun b hb hlt => ⟨⟨hb, hlt⟩, heap_alloc_old w _ hlt⟩) _ _ hxu⟩
   rw [cell_of_row _ w.heap.size _ cc' (r.ty.elem ei) (0, 0) (heap_alloc_new w _)]
   simpa using hu2
  ·rw [hlen]
   simp only [execOp, ho]
   rw [Sem.run_bind]
   erw [hrun]
   rfl
 split at hY
 ·rename_i id zero hr
  split at hY
  ·rename_i zs hzs
   obtain ⟨hb, lb, hk⟩ := hY
   rw [Bool.and_eq_true] at hb
   have h1 := Nat.eq_of_beq_eq_true hb.1
   have h2 := Nat.le_of_ble_eq_true hb.2
   refine main _ (.ints zs) 1 _ lb hr rfl rfl h1.symm (by simp [h1]) (by omega) (ints_rows hzs) (fun w' ok g hrw j z hz => ?_) hk
   obtain ⟨_, hc⟩ := hrw.get j [.int .i64 z] (by rw [List.getElem?_map, hz]; rfl)
   obtain ⟨u, hu, hx⟩ := hc.get 0 _ rfl
   have hx : u = .int .i64 z := hx
   subst hx
   simpa using hu
  ·exact hY.elim
 ·rename_i id e kk bytes zero hr
  split at hY
  ·rename_i rows hrows
   obtain ⟨hb, lb, hk⟩ := hY
   rw [Bool.and_eq_true] at hb
   have h1 := Nat.eq_of_beq_eq_true hb.1
   have h2 := Nat.le_of_ble_eq_true hb.2
   exact main _ (.arr kk rows) kk _ lb hr (by simp [tyArr]) rfl h1.symm h1.symm h2 hrows (fun w' ok g hrw => hrw) hk
  ·split at hY
   ·rename_i xs hps
    obtain ⟨hb, hk⟩ := hY
    rw [Bool.and_eq_true, Bool.and_eq_true] at hb
    have hn1 := Nat.eq_of_beq_eq_true hb.1
    have hxl := Nat.eq_of_beq_eq_true hb.2.1
    have hkk := Nat.le_of_ble_eq_true hb.2.2
    subst hn1
    obtain ⟨x, hpl, hx⟩ : ∃ x, parts.toList = [(0, x)] ∧ opd T x = .v true xs := by
     cases hpp : parts.toList with
     | nil => rw [hpp] at hps; cases hps
     | cons p ps =>
      rw [hpp] at hps
      cases ps with
      | cons p2 ps => simp at hps
      | nil =>
       obtain ⟨i, x⟩ := p
       simp only [List.map_cons, List.map_nil, List.cons.injEq, Prod.mk.injEq, and_true] at hps
       exact ⟨x, by rw [hps.1], hps.2⟩
    obtain ⟨hid, hrow⟩ := tab_row hT hr
    obtain ⟨i, z, hu, hi, hsz, _, hz, hzs, hpos, _⟩ := row_elem (y := .arr kk []) hei hrow (by simp [tyArr]) hid
    have hsz : i.size = kk := hsz
    have hxR := opd_R h x
    rw [hx] at hxR
    have hc := cells_of_val (show RVal F β w true xs (a.eval x) from hxR)
    have hcl := hc.length
    have hvs : (a.eval x).cells.size = kk := by rw [← hxl, hcl]; simp
    have hf : ∀ cc : Array Value, cc.size = 1 * kk → ∃ cc', Instr.fill (fun i => some (i * kk, kk)) cc [(0, a.eval x)] = some cc' ∧ cc'.toList = (a.eval x).cells.toList := by
     intro cc hcc
     obtain ⟨c1, h1, h2⟩ := fill_step (sz := kk) (i := 0) (cc := cc) (rest := []) hvs (by omega)
     refine ⟨c1, h1.trans rfl, ?_⟩
     have e1 : cc.toList.drop kk = [] := List.drop_eq_nil_of_le (by simp; omega)
     rw [h2, Nat.zero_mul, List.take_zero, List.nil_append, Nat.zero_add, e1, List.append_nil]
    have hvl : (parts.map fun (q : Nat × Operand) => (q.1, a.eval q.2)).toList = [(0, a.eval x)] := by rw [hp2, hpl]; rfl
    obtain ⟨cc, cc', hcc, hfill, hrun⟩ := run_buildSlice (n := 1) (vs := parts.map fun (q : Nat × Operand) => (q.1, a.eval q.2)) hu hi hz hsz (by omega) (fun cc hcc => by
     obtain ⟨c1, h1, h2⟩ := hf cc hcc
     exact ⟨c1, by rw [hvl]; exact h1, by rw [← Array.length_toList, h2]; simp [hvs, hcc], True.intro⟩) w
    obtain ⟨c1, h1, h2⟩ := hf cc hcc
    rw [hvl, h1] at hfill
    cases hfill
    have hg := Grew.alloc w (.cells cc' e)
    have hd2 := h.label hg (o.dst.getD 0) (N1 w.heap.size) hno (N1_lt (Nat.le_refl _) (by simp)) N1_inj
    have hhas := fun j => opd_has hno x j
    rw [hx] at hhas
    refine wp_value (c := .slice (some ⟨w.heap.size, 0, none⟩) 1 1) (w' := w.alloc (.cells cc' e)) ?_ (hK _ _ _ _ hk (hd2.put o.dst ⟨w.heap.size, cc', e, 1, rfl, relab_0 _ _ _, heap_alloc_new w _, by rw [← Array.length_toList, h2, Array.length_toList, hvs, Nat.one_mul], by simp only [maxLen]; omega, ?_⟩))
    ·simp only [execOp, ho]
     rw [Sem.run_bind]
     erw [hrun]
     rfl
    ·rw [h2]
     have m : Mv F β (relab β (o.dst.getD 0) (N1 w.heap.size)) w (w.alloc (.cells cc' e)) := by
      refine ⟨hg.size, fun b hb hl => ⟨⟨hb.1, fun l hlb => ?_⟩, hg.old b hl⟩⟩
      unfold relab at hlb
      split at hlb
      ·have := N1_lt (Nat.le_refl _) (Nat.lt_succ_self _) _ _ hlb; omega
      ·exact hb.2 l hlb
     refine RLfs.move m (fun l b hl hb => ⟨?_, hg.old b (h.rng l b hb).1⟩) hc
     unfold relab
     rw [if_neg]
     ·exact hb
     ·intro e0
      rw [List.any_eq_true] at hl
      obtain ⟨y, hy, hyl⟩ := hl
      have := hhas l.2
      simp only [FV.has, List.any_eq_false] at this
      have := this y hy
      rw [← e0, hyl] at this
      exact this rfl
   ·exact hY.elim
 ·exact hY.elim

theorem unLs_zero {w' : World} {ok : Nat → Prop} : ∀ {xs : List Lf} {cs : List Value} {zs : List PL}, zeroOkB xs cs = true → unLs xs = some zs → All2 (PL.R w' ok) zs cs
 | [], [], zs, _, h => by cases h; exact True.intro
 | x :: xs, c :: cs, zs, h, hz => by
  unfold unLs at hz
  split at hz
  ·rename_i y ys hy hys
   cases hz
   unfold zeroOkB at h
   split at h
   ·simp_all
   ·rename_i heq1 heq2
    cases heq1; cases heq2
    rw [Bool.and_eq_true] at h
    cases hy
    exact ⟨by have := h.1; simp at this; subst this; rfl, unLs_zero h.2 hys⟩
   ·rename_i heq1 heq2
    cases heq1; cases heq2
    rw [Bool.and_eq_true, Bool.and_eq_true] at h
    cases hy
    have h1 := h.1
    simp at h1
    obtain ⟨h1, h2⟩ := h1
    subst h1; subst h2
    exact ⟨rfl, unLs_zero h.2 hys⟩
   ·rename_i heq1 heq2
    cases heq1; cases heq2
    cases hy
    exact ⟨⟨none, 0, rfl, Nat.le_refl _, by simp, .inl rfl⟩, unLs_zero h hys⟩
   ·rename_i heq1 heq2
    cases heq1; cases heq2
    cases hy
   ·cases h
  ·cases hz
 | [], _ :: _, _, h, _ => by unfold zeroOkB at h; simp at h
 | _ :: _, [], _, h, _ => by unfold zeroOkB at h; simp at h

theorem y_makeSlice (h : Sim F β T a w) {k : FV → Prop} (hK : Nx F T o a K k) (hd : o.dst.getD 0 < 1000000) (hT : tabB F.P ei Γ = true) (hno : ∀ f ∈ T, ∀ j, f.has (o.dst.getD 0, j) = false) {t : TypeId} {l c : Operand}
  (ho : o.op = .makeSlice t l c) {Den : FuncId → List PV → Bool → Res → Prop} (hY : Yk Γ ei Den o (opd T) k) : o.wp F.P a w K Q := by
 unfold Yk at hY
 simp only [ho] at hY
 have hei : eiB F.P ei = true := by unfold tabB at hT; rw [Bool.and_eq_true] at hT; exact hT.1
 have hl := opd_R h l
 have hc := opd_R h c
 split at hY
 ·rename_i id zero kl z kc z' hr hlv hcv
  obtain ⟨n, hz1, hz2, hn, lb, hk⟩ := hY
  rw [hlv] at hl
  rw [hcv] at hc
  have hl := R_int hl
  have hc := R_int hc
  subst hz1
  subst hz2
  obtain ⟨hid, hrow⟩ := tab_row hT hr
  obtain ⟨i, z, hu, hi, hsz, hby, hz, hzs, hpos, hzz⟩ := row_elem (y := .ints (List.replicate n 0)) hei hrow rfl hid
  have hzz := hzz rfl _ rfl
  subst hzz
  have hrun := run_make (P := F.P) w t _ i _ hu hi hz kl kc n n (by omega) (Int.le_refl _) (by rw [hby]; simp only [Ty.by]; omega) (by omega)
  simp only [Int.toNat_natCast] at hrun
  rw [show n * i.size = n by rw [hsz]; simp [PL.wd]] at hrun
  refine new_arr h hK hd hno (x := .ints (List.replicate n 0)) rfl hk (c := n) (cc := madeCells (Value.int .i64 0).cells n) (by simp [PL.len]) (by simp only [maxLen]; omega) (by simp [size_madeCells, PL.wd]) (fun j zz hj => ?_) ?_
  ·rw [cell_of_row _ w.heap.size _ _ _ (0, 0) (heap_alloc_new w _), ← Array.getElem?_toList]
   erw [toList_madeCells_one]
   rw [List.getElem?_replicate] at hj
   split at hj
   ·cases hj
    rw [Nat.zero_add, List.getElem?_replicate, if_pos (by assumption)]
   ·cases hj
  ·simp only [execOp, ho, hl, hc]
   rw [Sem.run_bind]
   erw [hrun]
   simp [PL.len, Ty.elem]
 ·rename_i id e kk b zero kl z kc z' hr hlv hcv
  split at hY
  ·rename_i r2 hr2
   split at hY
   ·rename_i zs hzs0
    obtain ⟨n, hz1, hz2, hn, lb, hk⟩ := hY
    rw [hlv] at hl
    rw [hcv] at hc
    have hl := R_int hl
    have hc := R_int hc
    subst hz1
    subst hz2
    obtain ⟨hid, hrow⟩ := tab_row hT hr
    obtain ⟨hid2, hrow2⟩ := tab_row hT hr2
    obtain ⟨i, zv, hu, hi, hsz, hby, hz, hzs, hpos, _⟩ := row_elem (y := .arr kk (List.replicate n zs)) hei hrow (by simp [tyArr]) hid
    obtain ⟨i2, zv2, hi2, hz2, hsz2, hzok⟩ := row_zero hrow2 hid2
    have e1 : i2 = i := by simp only [Ty.elem] at hi; rw [hi] at hi2; exact (Option.some.inj hi2).symm
    subst e1
    have e2 : zv2 = zv := by rw [hz] at hz2; exact (Option.some.inj hz2).symm
    subst e2
    simp only [PL.wd] at hsz hzs hpos
    have hn1 : n ≤ 140737488355328 := Nat.le_trans (by simpa using Nat.mul_le_mul_left n (show 1 ≤ b + 1 by omega)) hn
    have hnb : n * b ≤ 140737488355328 := Nat.le_trans (Nat.mul_le_mul_left n (Nat.le_succ b)) hn
    have hnb2 : b * n ≤ 140737488355328 := by rw [Nat.mul_comm]; exact hnb
    have hrun := run_make (P := F.P) w t _ i2 _ hu hi hz kl kc n n (by omega) (Int.le_refl _) (by rw [show i2.bytes = b from hby]; omega) (by omega)
    simp only [Int.toNat_natCast] at hrun
    have hzero : ∀ (w' : World) (ok : Nat → Prop), All2 (PL.R w' ok) zs zv2.cells.toList := fun w' ok => unLs_zero hzok hzs0
    have hzl : zs.length = kk := by rw [(hzero w (fun _ => False)).length]; simpa using hzs
    have hsize : (madeCells zv2.cells (n * i2.size)).size = n * kk := by rw [size_madeCells, hsz]
    refine new_arr h hK hd hno (x := .arr kk (List.replicate n zs)) rfl hk (c := n) (cc := madeCells zv2.cells (n * i2.size)) (by simp [PL.len]) (by simp only [maxLen]; omega) (by rw [hsize]; simp [PL.wd]) (PL.Rows.of_get fun q rr hq => ?_) ?_
    ·rw [List.getElem?_replicate] at hq
     split at hq
     ·rename_i hqn
      cases hq
      refine ⟨hzl, PL.Cells.of_get fun m x hm => ?_⟩
      obtain ⟨u, hu2, hxu⟩ := (hzero (w.alloc (.cells (madeCells zv2.cells (n * i2.size)) e)) (fun b => okU F β b ∧ b < w.heap.size)).get m x hm
      refine ⟨u, ?_, hxu⟩
      have hmk : m < kk := by rw [← hzl]; exact (List.getElem?_eq_some_iff.1 hm).1
      have hlt : q * kk + m < n * i2.size := by
       rw [hsz]
       have : (q + 1) * kk ≤ n * kk := Nat.mul_le_mul_right kk (by omega)
       rw [Nat.add_mul, Nat.one_mul] at this
       omega
      rw [cell_of_row _ w.heap.size _ _ _ (0, 0) (heap_alloc_new w _)]
      have hmod : (q * kk + m) % zv2.cells.size = m := by rw [hzs, Nat.mul_comm, Nat.mul_add_mod, Nat.mod_eq_of_lt hmk]
      have hmz : m < zv2.cells.size := by omega
      have hum : zv2.cells[m]? = some u := by simpa using hu2
      simp only [madeCells, Nat.zero_add, Array.getElem?_map, Array.getElem?_range, hlt, if_true, Option.map_some, hmod]
      rw [getElem!_pos zv2.cells m hmz]
      rw [Array.getElem?_eq_getElem hmz] at hum
      exact hum
     ·cases hq
    ·simp only [execOp, ho, hl, hc]
     rw [Sem.run_bind]
     erw [hrun]
     simp [PL.len, Ty.elem]
   ·exact hY.elim
  ·exact hY.elim
 ·exact hY.elim

/-- **Every quiet operation.** -/
theorem y_all (h : Sim F β T a w) {k : FV → Prop} (hK : Nx F T o a K k) (hT : tabB F.P ei Γ = true) (hno : creates o.op = true → o.dst.getD 0 < 1000000 ∧ ∀ f ∈ T, ∀ j, f.has (o.dst.getD 0, j) = false)
  {Den : FuncId → List PV → Bool → Res → Prop} (hD : ∀ g ps fl r, Den g ps fl r → DenS F.P ei g ps fl r) (hY : Yk Γ ei Den o (opd T) k) : o.wp F.P a w K Q := by
 cases ho : o.op with
 | move x => exact y_move h hK (.inl ho) (by unfold Yk at hY; simpa only [ho] using hY)
 | assign x => exact y_move h hK (.inr ho) (by unfold Yk at hY; simpa only [ho] using hY)
 | pick c x y =>
  unfold Yk at hY
  simp only [ho] at hY
  split at hY
  ·rename_i t ht
   obtain ⟨t', rfl, hk⟩ := hY
   exact y_pick h hK ho hk ht
  ·exact hY.elim
 | alloc t => exact y_alloc h hK hT (hno (by rw [ho]; rfl)).2 ho hY
 | box t x => exact y_box h hK (hno (by rw [ho]; rfl)).2 ho hY
 | load t x => exact y_load h hK hT ho hY
 | binOp op t x y u => exact y_bin h hK hT ho hY
 | unOp op t x => exact y_un h hK ho hY
 | fieldAddr s x f => exact y_fieldAddr h hK hT ho hY
 | field s x f => exact y_field h hK hT ho hY
 | indexAddr t x ix => exact y_indexAddr h hK hT ho hY
 | index t x ix => exact y_index h hK hT ho hY
 | extract x j => exact y_extract h hK ho hY
 | build t parts => exact y_build h hK hT ho hY
 | slice t x lo hi mx => exact y_slice h hK hT ho hY
 | convert s d x => exact y_convert h hK hT ho hY
 | buildSlice t n parts => exact y_buildSlice h hK (hno (by rw [ho]; rfl)).1 hT (hno (by rw [ho]; rfl)).2 ho hY
 | makeSlice t l c => exact y_makeSlice h hK (hno (by rw [ho]; rfl)).1 hT (hno (by rw [ho]; rfl)).2 ho hY
 | call c =>
  cases hc : c.callee with
  | value f => exact y_call h hK (hno (by rw [ho]; rfl)).1 (hno (by rw [ho]; rfl)).2 ho hc hD hY
  | invoke r m => unfold Yk at hY; simp only [ho, hc] at hY
  | builtin b =>
   cases b with
   | len => exact y_len h hK hT ho hc hY
   | max => exact y_max h hK ho hc hY
   | _ => unfold Yk at hY; simp only [ho, hc] at hY
 | _ => unfold Yk at hY; simp only [ho] at hY

end
end Go.Vx
end
