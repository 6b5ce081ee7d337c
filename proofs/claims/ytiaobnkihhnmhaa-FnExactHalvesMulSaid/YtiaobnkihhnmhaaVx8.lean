/- Vx, part 9: stores; appends. -/
import Derived.Test.YtiaobnkihhnmhaaVx7
import Derived.Laws.CopyRow
namespace Go.Vx
open Go.RowKit

/-- An array under this label is in use. -/
def Lf.hasO (l : Lab) : Lf → Bool
  | .own l' _ _ => decide (l' = l)
  | _ => false
def FV.hasO (l : Lab) : FV → Bool
  | .v _ xs => xs.any (Lf.hasO l)
  | .tup vs => vs.any fun q => q.2.any (Lf.hasO l)
  | .box _ cs _ => cs.any (Lf.hasO l)
  | .elt s _ _ => s.hasO l
  | .any => false
def FV.hasB (l : Lab) : FV → Bool
  | .box l' _ _ => decide (l' = l)
  | _ => false
def updI (lab : Lab) (i : Nat) (z : Int) : Lf → Lf
  | .own l e x => match decide (l = lab) with
    | true => match x with
      | .ints q => .own l e (.ints (q.set i z))
      | _ => .undef
    | false => .own l e x
  | x => x
def FV.updI (lab : Lab) (i : Nat) (z : Int) : FV → FV
  | .v a xs => .v a (xs.map (Vx.updI lab i z))
  | .tup vs => .tup (vs.map fun q => (q.1, q.2.map (Vx.updI lab i z)))
  | .box l cs off => match decide (l = lab) with
    | true => .any
    | false => .box l (cs.map (Vx.updI lab i z)) off
  | .elt s j off => match (Vx.updI lab i z s).arr? with
    | some _ => .elt (Vx.updI lab i z s) j off
    | none => .any
  | .any => .any
def updR (lab : Lab) (k i : Nat) (ys : List PL) : Lf → Lf
  | .own l e x => match decide (l = lab) with
    | true => match x with
      | .arr k' q => match Nat.beq k' k with
        | true => .own l e (.arr k' (q.set i ys))
        | false => .undef
      | _ => .undef
    | false => .own l e x
  | x => x
def killL (lab : Lab) : Lf → Lf
  | .own l e x => match decide (l = lab) with | true => .undef | false => .own l e x
  | x => x
def FV.killO (lab : Lab) : FV → FV
  | .v a xs => .v a (xs.map (killL lab))
  | .tup vs => .tup (vs.map fun q => (q.1, q.2.map (killL lab)))
  | .box l cs off => .box l (cs.map (killL lab)) off
  | .elt s j off => match (killL lab s).arr? with
    | some _ => .elt (killL lab s) j off
    | none => .any
  | .any => .any

/-- Leaves that change; a box under the label goes. -/
def FV.mapLB (lab : Lab) (f : Lf → Lf) : FV → FV
  | .box l cs off => match decide (l = lab) with
    | true => .any
    | false => .box l (cs.map f) off
  | x => x.mapL f
/-- A box is written; an array under the label goes. -/
def FV.stoBox (lab : Lab) (cs' : List Lf) : FV → FV
  | .box l cs off => .box l (match decide (l = lab) with | true => cs'.map (killL lab) | false => cs.map (killL lab)) off
  | x => x.killO lab
/-- A slice of type t: its contents. -/
def contA (t : Ty) : Lf → Option PL
  | .nil => match t with
    | .ints => some (.ints [])
    | .slice _ k _ => some (.arr k [])
    | _ => none
  | .p x => match tyArr t x with
    | true => some x
    | false => none
  | .own _ _ x => match tyArr t x with
    | true => some x
    | false => none
  | .undef => none
def PL.cat : PL → PL → PL
  | .ints a, .ints b => .ints (a ++ b)
  | .arr k a, .arr _ b => .arr k (a ++ b)
  | x, _ => x

/-- Operations that change what others see. -/
def Sk (Γ : Tab) (ei : TypeId) (o : Oper) (T : List FV) (K : List FV → Prop) : Prop :=
  match o.op with
  | .store t a x => match Γ.get t with
    | none => False
    | some r => match opd T a, opd T x with
      | .box lab cs off, .v _ xs => Nat.beq xs.length (match r.cells with | some n => n | none => 1) = true ∧ Nat.ble (off + xs.length) cs.length = true ∧
          K (put (T.map (FV.stoBox lab (over cs off xs))) o.dst (.tup []))
      | .elt (.own lab _ (.ints l)) i off, .v false [.p (.int .i64 z)] => r.cells = none ∧ off = 0 ∧ i < l.length ∧ K (put (T.map (FV.updI lab i z)) o.dst (.tup []))
      | .elt (.own lab _ (.arr k l)) i off, .v _ xs => match unLs xs with
        | some ys => (Nat.beq xs.length k && Nat.beq xs.length (match r.cells with | some n => n | none => 1)) = true ∧ off = 0 ∧ i < l.length ∧ K (put (T.map (FV.mapLB lab (updR lab k i ys))) o.dst (.tup []))
        | none => False
      | _, _ => False
  | .call c => match c.callee with
    | .builtin .append => match c.args.toList, c.argTypes.toList with
      | [s, x], [t, t'] => t' = t ∧ match Γ.get t with
        | none => False
        | some r => match opd T s, opd T x with
          | .v false [sv], .v false [xv] => ∃ y z, contA r.ty sv = some y ∧ contA r.ty xv = some z ∧ ∃ q, y.cat z = q ∧ (y.len + z.len) * (r.ty.by + 1) ≤ 140737488355328 ∧ match sv with
            | .nil => noD T (1000000 + o.dst.getD 0) = true ∧ K (put T o.dst (.v false [.own (1000000 + o.dst.getD 0, 0) (r.ty.elem ei) q]))
            | .own lab e _ => (Nat.beq e (r.ty.elem ei) && Nat.blt lab.1 2000000) = true ∧ (T.all fun f => !f.hasB lab) = true ∧ K (put (T.map (FV.killO lab)) o.dst (.v false [.own lab (r.ty.elem ei) q]))
            | _ => False
          | _, _ => False
      | _, _ => False
    | .value (.func g) => ∃ avs, mapO argV (c.args.toList.map (opd T)) = some avs ∧ ∃ ps, mapO (resV (frL ei)) avs = some ps ∧ (labNodup (labsOf (avs.flatMap (·.2))) && (labsOf (avs.flatMap (·.2))).all fun l => T.all fun f => !f.hasB l) = true ∧
        ∃ qs r, Γ.md g ps qs r ∧ lenT (avs.flatMap (·.2)) (qs.flatMap (·.2)) T True ∧ K (put (T.map (FV.mutF (avs.flatMap (·.2)) (qs.flatMap (·.2)))) o.dst (resFV (avs.flatMap (·.2)) (qs.flatMap (·.2)) r))
    | _ => False
  | _ => False

theorem hasO_has {l : Lab} {f : FV} (h : f.has l = true) : f.hasO l = true ∨ f.hasB l = true := by
  cases f with
  | any => cases h
  | v a xs => exact .inl h
  | tup vs => exact .inl h
  | elt s i off => exact .inl h
  | box l' cs off =>
    simp only [FV.has, Bool.or_eq_true] at h
    exact h.symm

theorem constFV_hasO {v : Value} {l : Lab} : (constFV v).hasO l = false := by
  unfold constFV; split <;> rfl
theorem Lf.hasO_eq {l : Lab} {x : Lf} : x.hasO l = x.has l := by cases x <;> rfl

section
variable {F : Fr} {β : BM} {T : List FV} {a : Act} {w : World} {o : Oper} {Γ : Tab} {ei : TypeId} {Q : Exit → Act → World → Prop} {K : Act → World → Prop}

/-- A block of the frame's is written. -/
theorem Mv.own (h : Sim F β T a w) {lab : Lab} {g : Nat} (hb : β lab = some g) (cs : Array Value) : Mv F β β w (w.setRow g cs) :=
  ⟨by simp, fun k hk _ => ⟨hk, setRow_other w g k cs (fun e => hk.2 lab (by rw [hb, e]))⟩⟩

theorem Sim.stored (h : Sim F β T a w) {lab : Lab} {g : Nat} (hb : β lab = some g) (cs : Array Value) {T' : List FV} (hT : T'.length = T.length)
    (hrel : ∀ (i : Nat) (f f' : FV) (c : Value), T[i]? = some f → T'[i]? = some f' → RFV F β w f c → RFV F β (w.setRow g cs) f' c) : Sim F β T' a (w.setRow g cs) :=
  { h with
    size := h.size.trans hT.symm
    rel := fun i f' hf' => by
      have hi : i < T.length := by rw [← hT]; exact (List.getElem?_eq_some_iff.1 hf').1
      obtain ⟨c, hc, hr⟩ := h.rel i T[i] (List.getElem?_eq_getElem hi)
      exact ⟨c, hc, hrel i _ f' c (List.getElem?_eq_getElem hi) hf' hr⟩
    rng := fun l k hk => by simpa using h.rng l k hk
    os := by simpa using h.os
    tape := by simpa using h.tape
    output := by simpa using h.output
    hsize := by simpa using h.hsize
    kept := fun k h1 h2 => by
      have hne : k ≠ g := fun e => by
        rcases (h.rng lab g hb).2 with h3 | h3
        · omega
        · exact h2 (e ▸ h3)
      rw [setRow_other w g k cs hne]
      exact h.kept k h1 h2 }

/-- What is left, where an array under this label goes. -/
theorem killL_R {β' : BM} {w' : World} (m : Mv F β β' w w') {lab : Lab} (hk : ∀ l g, l ≠ lab → β l = some g → β' l = some g ∧ w'.heap[g]? = w.heap[g]?) {x : Lf} {v : Value} (h : RLf F β w x v) : RLf F β' w' (killL lab x) v := by
  cases x with
  | own l e x =>
    unfold killL
    dsimp only
    by_cases hl : l = lab
    · subst hl
      rw [decide_eq_true rfl]
      exact R_one h
    · rw [decide_eq_false hl]
      exact h.move m (fun l2 g h2 hb => hk l2 g (by simp [Lf.has] at h2; rw [← h2]; exact hl) hb)
  | _ => exact RLf.move m (fun l g h2 hb => by cases h2) h
theorem killLs_R {β' : BM} {w' : World} (m : Mv F β β' w w') {lab : Lab} (hk : ∀ l g, l ≠ lab → β l = some g → β' l = some g ∧ w'.heap[g]? = w.heap[g]?) : ∀ {xs : List Lf} {cs : List Value}, All2 (RLf F β w) xs cs → All2 (RLf F β' w') (xs.map (killL lab)) cs
  | [], [], _ => True.intro
  | _ :: _, _ :: _, h => ⟨killL_R m hk h.1, killLs_R m hk h.2⟩
  | [], _ :: _, h => h.elim
  | _ :: _, [], h => h.elim
theorem killV_R {β' : BM} {w' : World} (m : Mv F β β' w w') {lab : Lab} (hk : ∀ l g, l ≠ lab → β l = some g → β' l = some g ∧ w'.heap[g]? = w.heap[g]?) {b : Bool} {xs : List Lf} {v : Value} (h : RVal F β w b xs v) : RVal F β' w' b (xs.map (killL lab)) v := by
  cases b with
  | true => obtain ⟨cs, hv, h⟩ := h; exact ⟨cs, hv, killLs_R m hk h⟩
  | false => obtain ⟨x, rfl, h⟩ := h; exact ⟨_, rfl, killL_R m hk h⟩
theorem killVs_R {β' : BM} {w' : World} (m : Mv F β β' w w') {lab : Lab} (hk : ∀ l g, l ≠ lab → β l = some g → β' l = some g ∧ w'.heap[g]? = w.heap[g]?) : ∀ {vs : List (Bool × List Lf)} {cs : List Value}, All2 (fun (q : Bool × List Lf) c => RVal F β w q.1 q.2 c) vs cs → All2 (fun (q : Bool × List Lf) c => RVal F β' w' q.1 q.2 c) (vs.map fun q => (q.1, q.2.map (killL lab))) cs
  | [], [], _ => True.intro
  | _ :: _, _ :: _, h => ⟨killV_R m hk h.1, killVs_R m hk h.2⟩
  | [], _ :: _, h => h.elim
  | _ :: _, [], h => h.elim
theorem killL_arr {lab : Lab} {s : Lf} {x : PL} (h : s.arr? = some x) : killL lab s = s ∨ (killL lab s).arr? = none := by
  cases s with
  | own l e y =>
    unfold killL
    dsimp only
    split
    · exact .inr rfl
    · exact .inl rfl
  | _ => exact .inl rfl
theorem killO_R {β' : BM} {w' : World} (m : Mv F β β' w w') {lab : Lab} (hk : ∀ l g, l ≠ lab → β l = some g → β' l = some g ∧ w'.heap[g]? = w.heap[g]?) {f : FV} {v : Value} (hB : f.hasB lab = false) (h : RFV F β w f v) : RFV F β' w' (f.killO lab) v := by
  cases f with
  | any => exact True.intro
  | v b xs => exact killV_R m hk h
  | tup vs => obtain ⟨cs, hv, h⟩ := h; exact ⟨cs, hv, killVs_R m hk h⟩
  | box l cs off =>
    obtain ⟨g, cc, ty, hv, hb, hh, h⟩ := h
    have := hk l g (by simpa [FV.hasB] using hB) hb
    exact ⟨g, cc, ty, hv, this.1, by rw [this.2]; exact hh, killLs_R m hk h⟩
  | elt s i off =>
    obtain ⟨g, o, n, c, x, hs, hx, hi, hv⟩ := h
    unfold FV.killO
    dsimp only
    rcases killL_arr (lab := lab) hx with h1 | h1
    · rw [h1, hx]
      have := killL_R m hk (lab := lab) hs
      rw [h1] at this
      exact ⟨g, o, n, c, x, this, hx, hi, hv⟩
    · rw [h1]
      exact True.intro

theorem s_store_box (h : Sim F β T a w) (hT : tabB F.P ei Γ = true) {t : TypeId} {ad x : Operand} (ho : o.op = .store t ad x) {r : TyRow} (hr : Γ.get t = some r)
    {lab : Lab} {cs : List Lf} {off : Nat} {a' : Bool} {xs : List Lf} (ha : opd T ad = .box lab cs off) (hx : opd T x = .v a' xs)
    (hn : Nat.beq xs.length (match r.cells with | some n => n | none => 1) = true) (hle : Nat.ble (off + xs.length) cs.length = true)
    (hK : ∀ β' c w', Sim F β' (put (T.map (FV.stoBox lab (over cs off xs))) o.dst (.tup [])) (a.put o.dst c) w' → K (a.put o.dst c) w') : o.wp F.P a w K Q := by
  have h1 := opd_R h ad
  have h2 := opd_R h x
  rw [ha] at h1
  rw [hx] at h2
  obtain ⟨g, cc, ty, hv, hb, hh, hall⟩ := h1
  have hcells := cells_of_val h2
  have hlen := hall.length
  have hlen2 := hcells.length
  have hle : off + xs.length ≤ cs.length := Nat.le_of_ble_eq_true hle
  have hn : xs.length = (match r.cells with | some n => n | none => 1) := Nat.eq_of_beq_eq_true hn
  obtain ⟨hid, hrow⟩ := tab_row hT hr
  obtain ⟨hcs, hone⟩ := row_cells hrow
  rw [hid] at hcs hone
  have hsz : (sizeOf t).run F.P w = .ok xs.length w := by
    cases hc : r.cells with
    | some n =>
      rw [hc] at hn
      rw [hn]
      exact run_size (hcs n hc).2 w
    | none =>
      rw [hc] at hn
      rw [hn]
      exact run_size (hone hc).2 w
  have hrun : (storeCells ⟨g, off, none⟩ (a.eval x).cells.toList).run F.P w = .ok () (w.setRow g (cc.toList.take off ++ (a.eval x).cells.toList ++ cc.toList.drop (off + (a.eval x).cells.toList.length)).toArray) := by
    have := run_storeCells_at F.P g off ty (a.eval x).cells.toList 0 cc w hh (by simp at hlen hlen2 ⊢; omega) (fun v hv' => by
      obtain ⟨i, hi⟩ := List.getElem?_of_mem hv'
      have hlt : i < xs.length := by rw [hlen2]; exact (List.getElem?_eq_some_iff.1 hi).1
      obtain ⟨c, hc, hxc⟩ := hcells.get i xs[i] (List.getElem?_eq_getElem hlt)
      rw [hi] at hc
      cases hc
      exact R_one hxc)
    simpa using this
  have hsz2 : (a.eval x).cells.size = xs.length := by rw [hlen2]; simp
  have hst : (storeVar t ⟨g, off, none⟩ (a.eval x)).run F.P w = .ok () (w.setRow g (cc.toList.take off ++ (a.eval x).cells.toList ++ cc.toList.drop (off + (a.eval x).cells.toList.length)).toArray) := by
    simp only [storeVar, Sem.run_bind, hsz, Result.andThen, hsz2, ne_eq, not_true_eq_false, if_false]
    exact hrun
  generalize hcs' : (cc.toList.take off ++ (a.eval x).cells.toList ++ cc.toList.drop (off + (a.eval x).cells.toList.length)).toArray = cc' at hst
  have m := Mv.own h hb cc'
  have hk : ∀ l b, l ≠ lab → β l = some b → β l = some b ∧ (w.setRow g cc').heap[b]? = w.heap[b]? := fun l b hl hbl => ⟨hbl, setRow_other w g b cc' (fun e => by
    subst e
    exact hl (h.inj _ _ _ hbl hb))⟩
  have hbox : All2 (RLf F β (w.setRow g cc')) ((over cs off xs).map (killL lab)) cc'.toList := by
    have r1 := killLs_R (lab := lab) m hk hall
    have r2 := killLs_R (lab := lab) m hk hcells
    have e3 : cc'.toList = cc.toList.take off ++ (a.eval x).cells.toList ++ cc.toList.drop (off + (a.eval x).cells.toList.length) := by rw [← hcs']
    rw [e3]
    have e4 : (over cs off xs).map (killL lab) = over (cs.map (killL lab)) off (xs.map (killL lab)) := by simp [over]
    rw [e4]
    unfold over
    rw [List.length_map, hlen2]
    exact ((r1.take off).append r2).append (r1.drop _)
  refine wp_skip_ (w' := w.setRow g cc') ?_ ?_
  · simp [execOp, ho, Instr.storeAt, Instr.sureAddr, hv, hst]
  · refine hK β undef _ (Sim.put ?_ o.dst ⟨[], rfl, True.intro⟩)
    refine h.stored hb cc' (by simp) (fun i f f' c hf hf' hr => ?_)
    rw [List.getElem?_map, hf] at hf'
    cases hf'
    cases f with
    | box l cs0 off0 =>
      unfold FV.stoBox
      dsimp only
      by_cases hl : l = lab
      · subst hl
        rw [decide_eq_true rfl]
        obtain ⟨g0, cc0, ty0, hc0, hb0, hh0, hall0⟩ := hr
        rw [hb] at hb0
        cases hb0
        exact ⟨g, cc', ty0, hc0, hb, setRow_heap w g cc0 cc' ty0 (0, 0) hh0, hbox⟩
      · rw [decide_eq_false hl]
        exact killO_R (f := .box l cs0 off0) m hk (by simp [FV.hasB, hl]) hr
    | any => exact killO_R (f := .any) m hk rfl hr
    | v b ys => exact killO_R (f := .v b ys) m hk rfl hr
    | tup vs => exact killO_R (f := .tup vs) m hk rfl hr
    | elt s i off => exact killO_R (f := .elt s i off) m hk rfl hr

theorem updI_len {lab : Lab} {i : Nat} {z : Int} {s : Lf} {x : PL} (h : s.arr? = some x) : (updI lab i z s).arr? = none ∨ ∃ x', (updI lab i z s).arr? = some x' ∧ x'.len = x.len ∧ x'.wd = x.wd := by
  cases s with
  | own l e y =>
    unfold updI
    dsimp only
    split
    · cases y <;> first | exact .inl rfl | skip
      cases h
      exact .inr ⟨_, rfl, by simp [PL.len], rfl⟩
    · exact .inr ⟨x, h, rfl, rfl⟩
  | _ => exact .inr ⟨x, h, rfl, rfl⟩

theorem s_store_elt (h : Sim F β T a w) (hT : tabB F.P ei Γ = true) {t : TypeId} {ad x : Operand} (ho : o.op = .store t ad x) {r : TyRow} (hr : Γ.get t = some r)
    {lab : Lab} {e : TypeId} {l : List Int} {i off : Nat} {z : Int} (ha : opd T ad = .elt (.own lab e (.ints l)) i off) (hx : opd T x = .v false [.p (.int .i64 z)])
    (hn : r.cells = none) (hoff : off = 0) (hi : i < l.length)
    (hK : ∀ β' c w', Sim F β' (put (T.map (FV.updI lab i z)) o.dst (.tup [])) (a.put o.dst c) w' → K (a.put o.dst c) w') : o.wp F.P a w K Q := by
  subst hoff
  have h1 := opd_R h ad
  have h2 := opd_R h x
  rw [ha] at h1
  rw [hx] at h2
  have h2 := R_int h2
  obtain ⟨g, o', n, c, y, hs, hy, hiy, hv⟩ := h1
  cases hy
  obtain ⟨⟨_, hpin⟩, ⟨hv0, _⟩ | ⟨g', c', cur, hv0, hb, hh, k1, k2, k3, k4⟩⟩ := hs
  · cases hv0
  cases hv0
  simp only [PL.wd, Nat.mul_one, PL.len] at hv k1 k3
  obtain ⟨hid, hrow⟩ := tab_row hT hr
  obtain ⟨_, hone⟩ := row_cells hrow
  rw [hid] at hone
  have hicur : i < cur.size := by omega
  have hrun : (storeCells ⟨g, i, none⟩ [Value.int .i64 z]).run F.P w = .ok () (w.setRow g (cur.toList.take i ++ [Value.int .i64 z] ++ cur.toList.drop (i + 1)).toArray) := by
    have := run_storeCells_at F.P g i e [Value.int .i64 z] 0 cur w hh (by simp; omega) (fun v hv' => by simp at hv'; subst hv'; rfl)
    simpa using this
  generalize hcs' : (cur.toList.take i ++ [Value.int .i64 z] ++ cur.toList.drop (i + 1)).toArray = cur' at hrun
  have hcur' : cur'.size = cur.size := by rw [← hcs']; simp; omega
  have hget : ∀ j, cur'[j]? = if j = i then some (.int .i64 z) else cur[j]? := by
    intro j
    rw [← hcs']
    simp only [List.getElem?_toArray, List.append_assoc, List.singleton_append, List.getElem?_append, List.length_take, Array.length_toList, List.getElem?_take, List.getElem?_cons, List.getElem?_drop]
    have hm : min i cur.size = i := by omega
    rw [hm]
    by_cases h3 : j < i
    · rw [if_pos h3, if_pos h3, if_neg (by omega)]
      simp
    · rw [if_neg h3]
      by_cases h4 : j = i
      · subst h4; simp
      · rw [if_neg h4, if_neg (by omega)]
        rw [show i + 1 + (j - i - 1) = j by omega]
        simp
  have m := Mv.own h hb cur'
  have hheap := setRow_heap w g cur cur' e (0, 0) hh
  have lf : ∀ {y : Lf} {v : Value}, RLf F β w y v → RLf F β (w.setRow g cur') (updI lab i z y) v := by
    intro y v hy
    cases y with
    | own l2 e2 q =>
      unfold updI
      dsimp only
      by_cases hl : l2 = lab
      · subst hl
        rw [decide_eq_true rfl]
        dsimp only
        cases q with
        | ints q =>
          dsimp only
          obtain ⟨⟨_, hpn⟩, hy⟩ := hy
          refine ⟨⟨rfl, hpn⟩, ?_⟩
          rcases hy with ⟨hv, h0⟩ | ⟨g2, c2, cur2, hv, hb2, hh2, j1, j2, j3, j4⟩
          · exact .inl ⟨hv, by simpa [PL.len] using h0⟩
          · rw [hb] at hb2
            cases hb2
            rw [hh] at hh2
            cases hh2
            refine .inr ⟨g, c2, cur', by simpa [PL.len] using hv, hb, hheap, by simpa [PL.len] using j1, j2, by rw [hcur']; exact j3, ?_⟩
            intro j zz hz
            rw [cell_of_row _ g (0 + j) cur' e (0, 0) hheap, Nat.zero_add, hget]
            rw [List.getElem?_set] at hz
            split at hz
            · rename_i hij
              subst hij
              rw [if_pos rfl]
              split at hz
              · cases hz; rfl
              · cases hz
            · rename_i hij
              rw [if_neg (fun e => hij e.symm)]
              have := j4 j zz hz
              rw [cell_of_row _ g (0 + j) cur e (0, 0) hh, Nat.zero_add] at this
              exact this
        | _ => exact R_one hy
      · rw [decide_eq_false hl]
        exact hy.move m (fun l3 b hl3 hb3 => ⟨hb3, setRow_other w g b cur' (fun e => hl (by
          subst e
          simp [Lf.has] at hl3
          rw [hl3]
          exact h.inj _ _ _ hb3 hb))⟩)
    | _ => exact RLf.move m (fun l3 b hl3 hb3 => by cases hl3) hy
  have lfs : ∀ {ys : List Lf} {ds : List Value}, All2 (RLf F β w) ys ds → All2 (RLf F β (w.setRow g cur')) (ys.map (updI lab i z)) ds := by
    intro ys ds hd
    induction ys generalizing ds with
    | nil => cases ds <;> exact hd
    | cons y ys ih =>
      cases ds with
      | nil => exact hd.elim
      | cons d ds => exact ⟨lf hd.1, ih hd.2⟩
  have lv : ∀ {b : Bool} {ys : List Lf} {v : Value}, RVal F β w b ys v → RVal F β (w.setRow g cur') b (ys.map (updI lab i z)) v := by
    intro b ys v hv
    cases b with
    | true => obtain ⟨cs, hc, hv⟩ := hv; exact ⟨cs, hc, lfs hv⟩
    | false => obtain ⟨y, rfl, hv⟩ := hv; exact ⟨_, rfl, lf hv⟩
  have hst : (storeVar t ⟨g, i, none⟩ (Value.int .i64 z)).run F.P w = .ok () (w.setRow g cur') := by
    simp only [storeVar, Sem.run_bind, run_size (hone hn).2 w, Result.andThen, Value.cells]
    exact hrun
  refine wp_skip_ (w' := w.setRow g cur') ?_ ?_
  · simp [execOp, ho, Instr.storeAt, Instr.sureAddr, hv, h2, hst]
  · refine hK β undef _ (Sim.put ?_ o.dst ⟨[], rfl, True.intro⟩)
    refine h.stored hb cur' (by simp) (fun k f f' c hf hf' hr => ?_)
    rw [List.getElem?_map, hf] at hf'
    cases hf'
    cases f with
    | any => exact True.intro
    | v b ys => exact lv hr
    | tup vs =>
      obtain ⟨cs, hc, hr⟩ := hr
      refine ⟨cs, hc, ?_⟩
      clear hc
      clear hf
      induction vs generalizing cs with
      | nil => cases cs <;> exact hr
      | cons q vs ih =>
        cases cs with
        | nil => exact hr.elim
        | cons c cs => exact ⟨lv hr.1, ih cs hr.2⟩
    | box l2 cs0 off0 =>
      obtain ⟨g0, cc0, ty0, hc0, hb0, hh0, hall0⟩ := hr
      unfold FV.updI
      dsimp only
      by_cases hne : l2 = lab
      · rw [decide_eq_true hne]; exact True.intro
      rw [decide_eq_false hne]
      refine ⟨g0, cc0, ty0, hc0, hb0, ?_, lfs hall0⟩
      rw [setRow_other w g g0 cur' (fun e => hne (by subst e; exact h.inj _ _ _ hb0 hb))]
      exact hh0
    | elt s j off0 =>
      obtain ⟨g0, o0, n0, c0, y0, hs0, hy0, hj0, hv1⟩ := hr
      have h3 := lf hs0
      rcases updI_len (lab := lab) (i := i) (z := z) hy0 with h4 | ⟨y1, h4, h5, h6⟩
      · unfold FV.updI
        dsimp only
        rw [h4]
        exact True.intro
      · unfold FV.updI
        dsimp only
        rw [h4]
        exact ⟨g0, o0, n0, c0, y1, h3, h4, by rw [h5]; exact hj0, by rw [h6]; exact hv1⟩

def FV.lvs2 : FV → List Lf
  | .v _ xs => xs
  | .tup vs => vs.flatMap (·.2)
  | .box _ cs _ => cs
  | .elt s _ _ => [s]
  | .any => []
/-- Leaves that change, all through a frame's value. -/
theorem mapL_R {β β' : BM} {w w' : World} {f : Lf → Lf} {fv : FV} {c : Value} (lf : ∀ {y : Lf} {v : Value}, y ∈ fv.lvs2 → RLf F β w y v → RLf F β' w' (f y) v)
    (hlen : ∀ {s : Lf} {x x' : PL}, s ∈ fv.lvs2 → s.arr? = some x → (f s).arr? = some x' → x'.len = x.len ∧ x'.wd = x.wd)
    (hbox : ∀ l cs off, fv = .box l cs off → ∀ g cc ty, β l = some g → w.heap[g]? = some (.cells cc ty (0, 0)) → β' l = some g ∧ w'.heap[g]? = some (.cells cc ty (0, 0)))
    (h : RFV F β w fv c) : RFV F β' w' (fv.mapL f) c := by
  have lfs : ∀ {ys : List Lf} {ds : List Value}, (∀ y ∈ ys, y ∈ fv.lvs2) → All2 (RLf F β w) ys ds → All2 (RLf F β' w') (ys.map f) ds := by
    intro ys ds hy hd
    induction ys generalizing ds with
    | nil => cases ds <;> exact hd
    | cons y ys ih =>
      cases ds with
      | nil => exact hd.elim
      | cons d ds => exact ⟨lf (hy y List.mem_cons_self) hd.1, ih (fun z hz => hy z (List.mem_cons_of_mem _ hz)) hd.2⟩
  have lv : ∀ {b : Bool} {ys : List Lf} {v : Value}, (∀ y ∈ ys, y ∈ fv.lvs2) → RVal F β w b ys v → RVal F β' w' b (ys.map f) v := by
    intro b ys v hy hv
    cases b with
    | true => obtain ⟨cs, hc, hv⟩ := hv; exact ⟨cs, hc, lfs hy hv⟩
    | false => obtain ⟨y, rfl, hv⟩ := hv; exact ⟨_, rfl, lf (hy y List.mem_cons_self) hv⟩
  cases fv with
  | any => exact True.intro
  | v b ys => exact lv (fun y hy => hy) h
  | tup vs =>
    obtain ⟨cs, hc, h⟩ := h
    refine ⟨cs, hc, ?_⟩
    have go : ∀ (vs' : List (Bool × List Lf)) (cs : List Value), (∀ q ∈ vs', q ∈ vs) → All2 (fun (q : Bool × List Lf) c => RVal F β w q.1 q.2 c) vs' cs → All2 (fun (q : Bool × List Lf) c => RVal F β' w' q.1 q.2 c) (vs'.map fun q => (q.1, q.2.map f)) cs := by
      intro vs'
      induction vs' with
      | nil => intro cs _ h; cases cs <;> exact h
      | cons q vs' ih =>
        intro cs hs h
        cases cs with
        | nil => exact h.elim
        | cons c cs => exact ⟨lv (fun y hy => List.mem_flatMap.2 ⟨q, hs q List.mem_cons_self, hy⟩) h.1, ih cs (fun z hz => hs z (List.mem_cons_of_mem _ hz)) h.2⟩
    exact go vs cs (fun _ h => h) h
  | box l2 cs0 off0 =>
    obtain ⟨g0, cc0, ty0, hc0, hb0, hh0, hall0⟩ := h
    obtain ⟨h1, h2⟩ := hbox _ _ _ rfl g0 cc0 ty0 hb0 hh0
    exact ⟨g0, cc0, ty0, hc0, h1, h2, lfs (fun y hy => hy) hall0⟩
  | elt s j off0 =>
    obtain ⟨g0, o0, n0, c0, y0, hs0, hy0, hj0, hv1⟩ := h
    unfold FV.mapL
    dsimp only
    cases h4 : (f s).arr? with
    | none => exact True.intro
    | some y1 =>
      obtain ⟨h5, h6⟩ := hlen List.mem_cons_self hy0 h4
      exact ⟨g0, o0, n0, c0, y1, lf List.mem_cons_self hs0, h4, by rw [h5]; exact hj0, by rw [h6]; exact hv1⟩

theorem uns_R : ∀ {xs : List Lf} {ys : List PL} {cs : List Value}, unLs xs = some ys → All2 (RLf F β w) xs cs → All2 (PL.R w (okU F β)) ys cs
  | [], ys, [], he, _ => by cases he; exact True.intro
  | x :: xs, ys, c :: cs, he, h => by
    unfold unLs at he
    split at he
    · rename_i y ys' hy hys
      cases he
      refine ⟨?_, uns_R hys h.2⟩
      cases x with
      | undef => cases hy
      | own l e x => cases hy
      | p x => cases hy; exact h.1
      | nil =>
        cases hy
        have h1 : c = .slice none 0 0 := h.1
        subst h1
        exact ⟨none, 0, rfl, Nat.le_refl _, by simp, .inl rfl⟩
    · cases he
  | [], _, _ :: _, _, h => h.elim
  | _ :: _, _, [], _, h => h.elim

theorem s_store_row (h : Sim F β T a w) (hT : tabB F.P ei Γ = true) {t : TypeId} {ad x : Operand} (ho : o.op = .store t ad x) {r : TyRow} (hr : Γ.get t = some r)
    {lab : Lab} {e : TypeId} {kk : Nat} {l : List (List PL)} {i off : Nat} {a' : Bool} {xs : List Lf} {ys : List PL} (ha : opd T ad = .elt (.own lab e (.arr kk l)) i off) (hx : opd T x = .v a' xs) (hun : unLs xs = some ys)
    (hn : (Nat.beq xs.length kk && Nat.beq xs.length (match r.cells with | some n => n | none => 1)) = true) (hoff : off = 0) (hi : i < l.length)
    (hK : ∀ β' c w', Sim F β' (put (T.map (FV.mapLB lab (updR lab kk i ys))) o.dst (.tup [])) (a.put o.dst c) w' → K (a.put o.dst c) w') : o.wp F.P a w K Q := by
  subst hoff
  rw [Bool.and_eq_true] at hn
  have hn1 : xs.length = kk := Nat.eq_of_beq_eq_true hn.1
  have hn2 : xs.length = (match r.cells with | some n => n | none => 1) := Nat.eq_of_beq_eq_true hn.2
  have h1 := opd_R h ad
  have h2 := opd_R h x
  rw [ha] at h1
  rw [hx] at h2
  obtain ⟨g, o', n, c, y, hs, hy, hiy, hv⟩ := h1
  cases hy
  obtain ⟨⟨_, hpin⟩, ⟨hv0, _⟩ | ⟨g', c', cur, hv0, hb, hh, k1, k2, k3, k4⟩⟩ := hs
  · cases hv0
  cases hv0
  simp only [PL.wd, PL.len] at hv k1 k3
  have hcells := uns_R hun (cells_of_val h2)
  have hlen := (cells_of_val h2).length
  obtain ⟨hid, hrow⟩ := tab_row hT hr
  obtain ⟨hcs, hone⟩ := row_cells hrow
  rw [hid] at hcs hone
  have hsz : (sizeOf t).run F.P w = .ok xs.length w := by
    cases hc : r.cells with
    | some n =>
      rw [hc] at hn2
      rw [hn2]
      exact run_size (hcs n hc).2 w
    | none =>
      rw [hc] at hn2
      rw [hn2]
      exact run_size (hone hc).2 w
  generalize hvs : (a.eval x).cells.toList = vs at *
  have hvl : vs.length = kk := by omega
  have hfit : (i + 1) * kk ≤ cur.size := by rw [k3]; exact Nat.mul_le_mul_right kk (by omega)
  rw [Nat.add_mul, Nat.one_mul] at hfit
  have hrun : (storeCells ⟨g, i * kk, none⟩ vs).run F.P w = .ok () (w.setRow g (cur.toList.take (i * kk) ++ vs ++ cur.toList.drop (i * kk + vs.length)).toArray) := by
    have := run_storeCells_at F.P g (i * kk) e vs 0 cur w hh (by simp; omega) (fun v hv' => by
      obtain ⟨j, hj⟩ := List.getElem?_of_mem hv'
      have hlt : j < ys.length := by rw [hcells.length]; exact (List.getElem?_eq_some_iff.1 hj).1
      obtain ⟨c, hc, hxc⟩ := hcells.get j ys[j] (List.getElem?_eq_getElem hlt)
      rw [hj] at hc
      cases hc
      exact PL.R.one hxc)
    simpa using this
  have hsz2 : (a.eval x).cells.size = xs.length := by
    have := congrArg List.length hvs
    simp at this
    omega
  generalize hcs' : (cur.toList.take (i * kk) ++ vs ++ cur.toList.drop (i * kk + vs.length)).toArray = cur' at hrun
  have hcur' : cur'.size = cur.size := by rw [← hcs']; simp; omega
  have hget : ∀ j, cur'[j]? = if j < i * kk then cur[j]? else if j < i * kk + kk then vs[j - i * kk]? else cur[j]? := by
    intro j
    rw [← hcs']
    have hgm := get_mid (cc := cur.toList) (mid := vs) (i := i * kk) (q := j) (by simp; omega)
    simp only [List.getElem?_toArray]
    rw [hgm, hvl]
    simp
  have m := Mv.own h hb cur'
  have hheap := setRow_heap w g cur cur' e (0, 0) hh
  have hcells' : All2 (PL.R (w.setRow g cur') (okU F β)) ys vs := hcells.imp (fun x v hx => PL.R.move m.hs m.ok x v hx)
  have lf : ∀ {y : Lf} {v : Value}, RLf F β w y v → RLf F β (w.setRow g cur') (updR lab kk i ys y) v := by
    intro y v hy
    cases y with
    | own l2 e2 q =>
      unfold updR
      dsimp only
      by_cases hl : l2 = lab
      · subst hl
        rw [decide_eq_true rfl]
        dsimp only
        cases q with
        | arr k2 q =>
          dsimp only
          cases hkk : Nat.beq k2 kk with
          | false => exact R_one hy
          | true =>
            have hkk : k2 = kk := Nat.eq_of_beq_eq_true hkk
            subst hkk
            dsimp only
            obtain ⟨⟨_, hpn⟩, hy⟩ := hy
            refine ⟨⟨rfl, hpn⟩, ?_⟩
            rcases hy with ⟨hv, h0⟩ | ⟨g2, c2, cur2, hv, hb2, hh2, j1, j2, j3, j4⟩
            · exact .inl ⟨hv, by simpa [PL.len] using h0⟩
            · rw [hb] at hb2
              cases hb2
              rw [hh] at hh2
              cases hh2
              refine .inr ⟨g, c2, cur', by simpa [PL.len] using hv, hb, hheap, by simpa [PL.len] using j1, j2, by rw [hcur']; exact j3, ?_⟩
              refine PL.Rows.of_get fun q2 rr hq2 => ?_
              rw [List.getElem?_set] at hq2
              split at hq2
              · rename_i hiq
                subst hiq
                split at hq2
                · cases hq2
                  refine ⟨by rw [hcells.length]; exact hvl, PL.Cells.of_get fun m2 xx hm2 => ?_⟩
                  obtain ⟨u, hu, hxu⟩ := hcells'.get m2 xx hm2
                  refine ⟨u, ?_, hxu⟩
                  have hm3 : m2 < vs.length := (List.getElem?_eq_some_iff.1 hu).1
                  rw [cell_of_row _ g _ cur' e (0, 0) hheap, Nat.zero_add, hget, if_neg (by omega), if_pos (by omega), Nat.add_sub_cancel_left]
                  exact hu
                · cases hq2
              · rename_i hiq
                obtain ⟨g1, g2⟩ := PL.Rows.get j4 q2 rr hq2
                refine ⟨g1, PL.Cells.of_get fun m2 xx hm2 => ?_⟩
                obtain ⟨u, hu, hxu⟩ := g2.get m2 xx hm2
                refine ⟨u, ?_, PL.R.move m.hs m.ok _ _ hxu⟩
                have hm3 : m2 < k2 := by rw [← g1]; exact (List.getElem?_eq_some_iff.1 hm2).1
                rw [cell_of_row _ g _ cur e (0, 0) hh, Nat.zero_add] at hu
                rw [cell_of_row _ g _ cur' e (0, 0) hheap, Nat.zero_add, hget]
                by_cases h5 : q2 * k2 + m2 < i * k2
                · rw [if_pos h5]; exact hu
                · rw [if_neg h5]
                  have h6 : ¬ q2 * k2 + m2 < i * k2 + k2 := by
                    intro h6
                    rcases Nat.lt_trichotomy q2 i with h7 | h7 | h7
                    · have := Nat.mul_le_mul_right k2 (show q2 + 1 ≤ i by omega)
                      rw [Nat.add_mul, Nat.one_mul] at this
                      omega
                    · exact hiq h7.symm
                    · have := Nat.mul_le_mul_right k2 (show i + 1 ≤ q2 by omega)
                      rw [Nat.add_mul, Nat.one_mul] at this
                      omega
                  rw [if_neg h6]
                  exact hu
        | _ => exact R_one hy
      · rw [decide_eq_false hl]
        exact hy.move m (fun l3 b hl3 hb3 => ⟨hb3, setRow_other w g b cur' (fun e => hl (by
          subst e
          simp [Lf.has] at hl3
          rw [hl3]
          exact h.inj _ _ _ hb3 hb))⟩)
    | _ => exact RLf.move m (fun l3 b hl3 hb3 => by cases hl3) hy
  have hst : (storeVar t ⟨g, i * kk, none⟩ (a.eval x)).run F.P w = .ok () (w.setRow g cur') := by
    simp only [storeVar, Sem.run_bind, hsz, Result.andThen, hsz2, ne_eq, not_true_eq_false, if_false, hvs]
    exact hrun
  refine wp_skip_ (w' := w.setRow g cur') ?_ ?_
  · simp [execOp, ho, Instr.storeAt, Instr.sureAddr, hv, hst]
  · refine hK β undef _ (Sim.put ?_ o.dst ⟨[], rfl, True.intro⟩)
    refine h.stored hb cur' (by simp) (fun k f f' c hf hf' hr => ?_)
    rw [List.getElem?_map, hf] at hf'
    cases hf'
    have hlen : ∀ {s : Lf} {x x' : PL}, s.arr? = some x → (updR lab kk i ys s).arr? = some x' → x'.len = x.len ∧ x'.wd = x.wd := by
      intro s x x' hs hs'
      cases s with
      | own l2 e2 q =>
        unfold updR at hs'
        dsimp only at hs'
        split at hs'
        · split at hs'
          · split at hs'
            · cases hs; cases hs'; simp [PL.len, PL.wd]
            · cases hs'
          · cases hs'
        · rw [hs] at hs'; cases hs'; exact ⟨rfl, rfl⟩
      | _ => have e : some x = some x' := hs.symm.trans hs'; cases e; exact ⟨rfl, rfl⟩
    have plain : (∀ l cs off, f = .box l cs off → l ≠ lab) → RFV F β (w.setRow g cur') (f.mapL (updR lab kk i ys)) c := fun hb2 =>
      mapL_R (fun _ => lf) (fun _ hs hs' => hlen hs hs') (fun l2 cs2 off2 hfe g0 cc0 ty0 hb0 hh0 => ⟨hb0, by
        rw [setRow_other w g g0 cur' (fun e => hb2 _ _ _ hfe (by subst e; exact h.inj _ _ _ hb0 hb))]
        exact hh0⟩) hr
    cases f with
    | box l2 cs2 off2 =>
      unfold FV.mapLB
      dsimp only
      by_cases hne : l2 = lab
      · rw [decide_eq_true hne]; exact True.intro
      · rw [decide_eq_false hne]
        exact plain (fun l cs off e => by cases e; exact hne)
    | any => exact plain (fun l cs off e => by cases e)
    | v b ys => exact plain (fun l cs off e => by cases e)
    | tup vs => exact plain (fun l cs off e => by cases e)
    | elt s i off => exact plain (fun l cs off e => by cases e)
end
end Go.Vx
