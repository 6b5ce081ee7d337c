/- Vx, part 9a: append. -/
import Derived.Test.YtiaobnkihhnmhaaVx8
namespace Go.Vx
open Go.RowKit

/-- An array's elements, each a list of cells. -/
def PL.rows : PL → List (List PL)
  | .ints l => l.map fun z => [.int .i64 z]
  | .arr _ l => l
  | _ => []

section
variable {w : World} {ok : Nat → Prop}
theorem rows_len {y : PL} (h : y.isArr = true) : y.rows.length = y.len := by
  cases y <;> simp [PL.isArr] at h
  · simp [PL.rows, PL.len]
  · rfl
theorem At_rows {y : PL} {g o : Nat} (hy : y.isArr = true) : y.At w ok g o ↔ PL.Rows w ok y.wd g o y.rows := by
  cases y <;> simp [PL.isArr] at hy
  · rename_i l
    constructor
    · intro h
      refine PL.Rows.of_get fun i r hr => ?_
      simp only [PL.rows, List.getElem?_map] at hr
      obtain ⟨z, hz, rfl⟩ := Option.map_eq_some_iff.1 hr
      refine ⟨rfl, PL.Cells.of_get fun j x hx => ?_⟩
      cases j with
      | zero =>
        simp at hx
        subst hx
        exact ⟨_, by have := h i z hz; simpa [PL.wd] using this, rfl⟩
      | succ j => simp at hx
    · intro h i z hz
      obtain ⟨_, hc⟩ := PL.Rows.get h i [.int .i64 z] (by simp [PL.rows, hz])
      obtain ⟨u, hu, hx⟩ := hc.get 0 _ rfl
      have hx : u = .int .i64 z := hx
      subst hx
      simpa [PL.wd] using hu
  · exact Iff.rfl

theorem Cells_list {g : Nat} : ∀ {r : List PL} {o : Nat}, PL.Cells w ok g o r → ∃ us : List Value, All2 (PL.R w ok) r us ∧ ∀ j u, us[j]? = some u → w.cell? ⟨g, o + j, none⟩ = some u
  | [], o, _ => ⟨[], True.intro, fun j u h => by simp at h⟩
  | x :: r, o, h => by
    unfold PL.Cells at h
    obtain ⟨⟨u, hu, hx⟩, h⟩ := h
    obtain ⟨us, h1, h2⟩ := Cells_list h
    refine ⟨u :: us, ⟨hx, h1⟩, fun j v hj => ?_⟩
    cases j with
    | zero => simp at hj; subst hj; exact hu
    | succ j =>
      rw [show o + (j + 1) = o + 1 + j by omega]
      exact h2 j v (by simpa using hj)
theorem Rows_list {k g : Nat} : ∀ {rows : List (List PL)} {o : Nat}, PL.Rows w ok k g o rows → (∀ r ∈ rows, r.length = k) ∧ ∃ us : List Value, All2 (PL.R w ok) rows.flatten us ∧ ∀ j u, us[j]? = some u → w.cell? ⟨g, o + j, none⟩ = some u
  | [], o, _ => ⟨(fun _ h => by cases h), [], True.intro, fun j u h => by simp at h⟩
  | r :: rows, o, h => by
    unfold PL.Rows at h
    obtain ⟨hl, hc, h⟩ := h
    obtain ⟨us, h1, h2⟩ := Cells_list hc
    obtain ⟨h3, vs, h4, h5⟩ := Rows_list h
    refine ⟨fun r' hr => ?_, us ++ vs, ?_, fun j u hj => ?_⟩
    · rcases List.mem_cons.1 hr with rfl | hr
      · exact hl
      · exact h3 r' hr
    · rw [List.flatten_cons]
      exact h1.append h4
    · have hlen := h1.length
      rw [List.getElem?_append] at hj
      split at hj
      · exact h2 j u hj
      · have := h5 _ u hj
        rw [show o + k + (j - us.length) = o + j by omega] at this
        exact this
theorem Rows_of {k g : Nat} : ∀ {rows : List (List PL)} {o : Nat} {us : List Value}, (∀ r ∈ rows, r.length = k) → All2 (PL.R w ok) rows.flatten us → (∀ j u, us[j]? = some u → w.cell? ⟨g, o + j, none⟩ = some u) → PL.Rows w ok k g o rows
  | [], o, us, _, _, _ => by unfold PL.Rows; exact True.intro
  | r :: rows, o, us, hl, h, hu => by
    rw [List.flatten_cons] at h
    have hr := hl r List.mem_cons_self
    unfold PL.Rows
    refine ⟨hr, PL.Cells.of_get fun j x hx => ?_, Rows_of (us := us.drop k) (fun r' hr' => hl r' (List.mem_cons_of_mem _ hr')) ?_ fun j u hj => ?_⟩
    · obtain ⟨u, hj, hxu⟩ := h.get j x (by rw [List.getElem?_append_left (List.getElem?_eq_some_iff.1 hx).1]; exact hx)
      exact ⟨u, hu j u hj, hxu⟩
    · have := h.drop k
      rw [← hr, List.drop_left] at this
      rw [← hr]
      exact this
    · rw [List.getElem?_drop] at hj
      rw [Nat.add_assoc]
      exact hu _ u hj
end

theorem flat_len {k : Nat} : ∀ {rows : List (List PL)}, (∀ r ∈ rows, r.length = k) → rows.flatten.length = rows.length * k
  | [], _ => by simp
  | r :: rows, h => by
    rw [List.flatten_cons, List.length_append, flat_len (fun r' hr => h r' (List.mem_cons_of_mem _ hr)), h r List.mem_cons_self, List.length_cons, Nat.add_mul]
    omega

theorem cat_spec {t : Ty} {y z : PL} (hy : tyArr t y = true) (hz : tyArr t z = true) : (y.cat z).isArr = true ∧ (y.cat z).wd = y.wd ∧ z.wd = y.wd ∧ (y.cat z).len = y.len + z.len ∧ (y.cat z).rows = y.rows ++ z.rows := by
  cases t <;> cases y <;> simp [tyArr] at hy <;> cases z <;> simp [tyArr] at hz
  · simp [PL.cat, PL.isArr, PL.wd, PL.len, PL.rows]
  · subst hy
    subst hz
    simp [PL.cat, PL.isArr, PL.wd, PL.len, PL.rows]

theorem contA_ty {t : Ty} {x : Lf} {y : PL} (h : contA t x = some y) : tyArr t y = true := by
  unfold contA at h
  split at h
  · split at h
    · cases h; rfl
    · cases h; simp [tyArr]
    · cases h
  · split at h
    · cases h; assumption
    · cases h
  · split at h
    · cases h; assumption
    · cases h
  · cases h

section
variable {F : Fr} {β β' : BM} {T : List FV} {a : Act} {w w' : World} {o : Oper} {Γ : Tab} {ei : TypeId} {Q : Exit → Act → World → Prop} {K : Act → World → Prop}

/-- What is appended: a list of cells, and where they lie. -/
theorem cont_list (h : Sim F β T a w) {t : Ty} {x : Lf} {y : PL} {v : Value} (hy : contA t x = some y) (hx : RLf F β w x v) :
    ∃ A c us, v = .slice A y.len c ∧ (∀ r ∈ y.rows, r.length = y.wd) ∧ All2 (PL.R w (okU F β)) y.rows.flatten us ∧ (y.len = 0 ∨ ∃ g q, A = some ⟨g, q, none⟩ ∧ ∀ j u, us[j]? = some u → w.cell? ⟨g, q + j, none⟩ = some u) := by
  have hty := contA_ty hy
  have harr : y.isArr = true := by cases t <;> cases y <;> first | rfl | (simp [tyArr] at hty)
  cases x with
  | undef => cases hy
  | nil =>
    unfold RLf at hx
    subst hx
    unfold contA at hy
    dsimp only at hy
    refine ⟨none, 0, [], ?_⟩
    split at hy <;> cases hy <;> exact ⟨rfl, (fun _ h => by cases h), True.intro, .inl rfl⟩
  | p x =>
    have hy : x = y := by unfold contA at hy; dsimp only at hy; split at hy <;> cases hy; rfl
    subst hy
    have main : ∃ A c, v = .slice A x.len c ∧ (x.len = 0 ∨ ∃ g q, A = some ⟨g, q, none⟩ ∧ x.At w (okU F β) g q) := by
      unfold RLf at hx
      cases x <;> simp [PL.isArr] at harr
      · obtain ⟨A, c, hv, _, _, h⟩ := hx
        refine ⟨A, c, hv, ?_⟩
        rcases h with rfl | ⟨g, q, hA, _, _, h⟩
        · exact .inl rfl
        · exact .inr ⟨g, q, hA, h⟩
      · obtain ⟨A, c, hv, _, _, h⟩ := hx
        refine ⟨A, c, hv, ?_⟩
        rcases h with rfl | ⟨g, q, hA, _, _, h⟩
        · exact .inl rfl
        · exact .inr ⟨g, q, hA, h⟩
    obtain ⟨A, c, hv, h1⟩ := main
    rcases h1 with h0 | ⟨g, q, hA, h1⟩
    · have hrows : x.rows = [] := List.eq_nil_of_length_eq_zero (by rw [rows_len harr]; exact h0)
      exact ⟨A, c, [], hv, (by rw [hrows]; exact fun _ h => by cases h), (by rw [hrows]; exact True.intro), .inl h0⟩
    · obtain ⟨h2, us, h3, h4⟩ := Rows_list ((At_rows harr).1 h1)
      exact ⟨A, c, us, hv, h2, h3, .inr ⟨g, q, hA, h4⟩⟩
  | own l e x =>
    have hy : x = y := by unfold contA at hy; dsimp only at hy; split at hy <;> cases hy; rfl
    subst hy
    obtain ⟨_, hx⟩ := hx
    rcases hx with ⟨hv, h0⟩ | ⟨g, c, cur, hv, hb, hh, h1, h2, h3, h4⟩
    · have hrows : x.rows = [] := List.eq_nil_of_length_eq_zero (by rw [rows_len harr]; exact h0)
      exact ⟨none, 0, [], by rw [hv, h0], (by rw [hrows]; exact fun _ h => by cases h), (by rw [hrows]; exact True.intro), .inl h0⟩
    · obtain ⟨k1, us, k2, k3⟩ := Rows_list ((At_rows harr).1 h4)
      exact ⟨_, c, us, hv, k1, k2, .inr ⟨g, 0, rfl, k3⟩⟩

theorem run_append_empty {P : Program} {t ty e : TypeId} {i : TypeInfo} (ht : P.underlying t = some (.slice e)) (hi : P.info? e = some i) {B A : Option Addr} {n cap c : Nat} (hn : n ≤ cap) (w : World) :
    (Builtin.append_ #[t, t] ty #[.slice B n cap, .slice A 0 c]).run P w = .ok (.slice B n cap) w := by
  cases A <;> cases B <;> simp [Builtin.append_, run_underlying ht, sizeOf, typeInfo, hi, Builtin.lenOf, hn, Builtin.firstCells, loadCells, loadCellsFrom, storeCells]

theorem run_append_op {P : Program} {c : Call} {s x : Operand} {t : TypeId} (ho : o.op = .call c) (hc : c.callee = .builtin .append) (hargs : c.args.toList = [s, x]) (hts : c.argTypes.toList = [t, t]) {v : Value} {w w' : World}
    (h : (Builtin.append_ #[t, t] o.type #[a.eval s, a.eval x]).run P w = .ok v w') : (execOp a.eval o).run P w = .ok (.value v) w' := by
  have hargs' : c.args = #[s, x] := by cases hq : c.args; rw [hq] at hargs; simp at hargs; rw [hargs]
  have hts' : c.argTypes = #[t, t] := by cases hq : c.argTypes; rw [hq] at hts; simp at hts; rw [hts]
  simp [execOp, ho, resolve, hc, hargs', hts', invoke, builtin, h]
end
end Go.Vx
