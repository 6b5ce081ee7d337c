/- Vx, part 4: the table of types; what each operation does in the model. -/
import Derived.Test.YtiaobnkihhnmhaaVx2
namespace Go.Vx
open Go.RowKit

/-! ### the table -/
def zeroOkB : List Lf → List Value → Bool
  | [], [] => true
  | .p (.bool b) :: xs, .bool c :: ys => b == c && zeroOkB xs ys
  | .p (.int k z) :: xs, .int k' z' :: ys => k == k' && z == z' && zeroOkB xs ys
  | .nil :: xs, .slice none 0 0 :: ys => zeroOkB xs ys
  | .undef :: xs, y :: ys => y.oneCell' && zeroOkB xs ys
  | _, _ => false
def sizeB (P : Program) (t : TypeId) (n : Nat) : Bool := match P.info? t with
  | some i => i.size == n
  | none => false
def oneB (P : Program) (t : TypeId) : Bool := match P.underlying t with
  | some (.struct _) => false
  | some (.array _ _) => false
  | some _ => true
  | none => false
def structB (P : Program) (t : TypeId) : Bool := match P.underlying t with
  | some (.struct _) => true
  | _ => false
def fieldsB (P : Program) : List (Nat × Option Nat) → List Field → Bool
  | [], [] => true
  | q :: qs, f :: fs => q.1 == f.offset && (match q.2 with | none => oneB P f.type && sizeB P f.type 1 | some n => structB P f.type && sizeB P f.type n && n != 0) && fieldsB P qs fs
  | _, _ => false
def tyB (P : Program) (ei : TypeId) (t : TypeId) : Ty → Bool
  | .bool => match P.underlying t with | some .bool => true | _ => false
  | .int k => match P.underlying t with | some (.int k') => k == k' | _ => false
  | .other => oneB P t
  | .agg n qs => match P.underlying t with | some (.struct fs) => fieldsB P qs fs.toList && sizeB P t n | _ => false
  | .ints => match P.underlying t with | some (.slice e) => e == ei | _ => false
  | .slice e k b => match P.underlying t with
    | some (.slice e') => e' == e && e != ei && (match P.info? e with | some i => i.size == k && i.bytes == b && k != 0 && (match i.zero with | some z => z.cells.size == k | none => false) | none => false)
    | _ => false
def rowB (P : Program) (ei : TypeId) (r : TyRow) : Bool :=
  tyB P ei r.id r.ty && (match P.info? r.id with
    | some i => i.size == r.zero.length && (match i.zero with | some z => zeroOkB r.zero z.cells.toList | none => false)
    | none => false) && (match r.cells with | some _ => true | none => sizeB P r.id 1)
def eiB (P : Program) (ei : TypeId) : Bool :=
  (match P.underlying ei with | some (.int .i64) => true | _ => false) &&
  (match P.info? ei with | some i => i.size == 1 && i.bytes == 8 && (match i.zero with | some (.int .i64 z) => z == 0 | _ => false) | none => false)
def tabB (P : Program) (ei : TypeId) (Γ : Tab) : Bool := eiB P ei && Γ.rows.all (rowB P ei)

theorem tab_row {P : Program} {ei : TypeId} {Γ : Tab} (h : tabB P ei Γ = true) {t : TypeId} {r : TyRow} (hr : Γ.get t = some r) : r.id = t ∧ rowB P ei r = true := by
  unfold tabB at h
  rw [Bool.and_eq_true] at h
  replace h := h.2
  unfold Tab.get at hr
  generalize Γ.rows = rows at h hr
  induction rows with
  | nil => cases hr
  | cons q rows ih =>
    rw [List.all_cons, Bool.and_eq_true] at h
    unfold getR at hr
    split at hr
    · cases hr
      exact ⟨by assumption, h.1⟩
    · exact ih h.2 hr

theorem size_of {P : Program} {t : TypeId} {n : Nat} (h : sizeB P t n = true) : ∃ i, P.info? t = some i ∧ i.size = n := by
  unfold sizeB at h
  split at h
  · rename_i i hi
    exact ⟨i, hi, by simpa using h⟩
  · cases h
theorem run_size {P : Program} {t : TypeId} {n : Nat} (h : sizeB P t n = true) (w : World) : (sizeOf t).run P w = .ok n w := by
  obtain ⟨i, hi, hs⟩ := size_of h
  simp [sizeOf, typeInfo, hi, hs]
theorem run_one {P : Program} {t : TypeId} (h : oneB P t = true) (w : World) : (isAgg t).run P w = .ok false w := by
  unfold oneB at h
  unfold isAgg
  cases hu : P.underlying t with
  | none => rw [hu] at h; cases h
  | some d =>
    rw [hu] at h
    rw [Sem.run_bind, run_underlying hu w]
    cases d <;> first | rfl | cases h
theorem run_struct {P : Program} {t : TypeId} (h : structB P t = true) (w : World) : (isAgg t).run P w = .ok true w := by
  unfold structB at h
  unfold isAgg
  split at h
  · rename_i fs hu
    rw [Sem.run_bind, run_underlying hu w]
    rfl
  · cases h

/-- A row's facts: cells of a struct, or one cell. -/
theorem row_cells {P : Program} {ei : TypeId} {r : TyRow} (h : rowB P ei r = true) :
    (∀ n, r.cells = some n → structB P r.id = true ∧ sizeB P r.id n = true) ∧ (r.cells = none → oneB P r.id = true ∧ sizeB P r.id 1 = true) := by
  unfold rowB at h
  rw [Bool.and_eq_true, Bool.and_eq_true] at h
  have h2 := h.2
  replace h := h.1.1
  unfold tyB at h
  constructor
  · intro n hn
    unfold TyRow.cells at hn
    split at hn
    · rename_i n' qs hq
      cases hn
      rw [hq] at h
      dsimp only at h
      split at h
      · rename_i fs hu
        rw [Bool.and_eq_true] at h
        exact ⟨by simp [structB, hu], h.2⟩
      · cases h
    · cases hn
  · intro hn
    refine ⟨?_, by rw [show r.cells = none from hn] at h2; exact h2⟩
    unfold oneB
    unfold TyRow.cells at hn
    split at hn
    · cases hn
    · rename_i hna
      cases ht : r.ty <;> rw [ht] at h <;> dsimp only at h
      · split at h <;> simp_all
      · split at h <;> simp_all
      · exact h
      · exact absurd ht (hna _ _)
      · split at h <;> simp_all
      · split at h <;> simp_all

theorem zero_ok {F : Fr} {β : BM} {w : World} : ∀ {xs : List Lf} {cs : List Value}, zeroOkB xs cs = true → All2 (RLf F β w) xs cs
  | [], [], _ => True.intro
  | x :: xs, c :: cs, h => by
    unfold zeroOkB at h
    split at h
    · simp_all
    · rename_i heq1 heq2
      cases heq1; cases heq2
      rw [Bool.and_eq_true] at h
      refine ⟨?_, zero_ok h.2⟩
      have h1 := h.1
      simp at h1
      subst h1
      rfl
    · rename_i heq1 heq2
      cases heq1; cases heq2
      rw [Bool.and_eq_true, Bool.and_eq_true] at h
      refine ⟨?_, zero_ok h.2⟩
      have h1 := h.1
      simp at h1
      obtain ⟨h1, h2⟩ := h1
      subst h1; subst h2
      rfl
    · rename_i heq1 heq2
      cases heq1; cases heq2
      exact ⟨rfl, zero_ok h⟩
    · rename_i heq1 heq2
      cases heq1; cases heq2
      rw [Bool.and_eq_true] at h
      exact ⟨h.1, zero_ok h.2⟩
    · cases h
  | [], _ :: _, h => by unfold zeroOkB at h; simp at h
  | _ :: _, [], h => by unfold zeroOkB at h; simp at h

/-! ### loads and stores of a variable -/
theorem run_load_agg {P : Program} {t : TypeId} {n : Nat} (hs : structB P t = true) (hn : sizeB P t n = true) {w : World} {g o : Nat} {cs : List Value} (hl : cs.length = n)
    (hc : ∀ j v, cs[j]? = some v → w.cell? ⟨g, o + j, none⟩ = some v) : (loadVar t ⟨g, o, none⟩).run P w = .ok (.agg cs.toArray) w := by
  have h := run_loadCells_list (P := P) w ⟨g, o, none⟩ cs (fun j v hv => by rw [Addr.add_lit]; exact hc j v hv)
  rw [hl] at h
  simp [loadVar, Sem.run_bind, run_struct hs w, run_size hn w, h]
theorem run_load_one {P : Program} {t : TypeId} (hs : oneB P t = true) {w : World} {a : Addr} {v : Value} (hc : w.cell? a = some v) : (loadVar t a).run P w = .ok v w := by
  simp [loadVar, Sem.run_bind, run_one hs w, run_load, hc]

theorem wp_value {P : Program} {o : Oper} {a : Act} {w w' : World} {c : Value} {K : Act → World → Prop} {Q : Exit → Act → World → Prop}
    (hr : (execOp a.eval o).run P w = .ok (.value c) w') (hK : K (a.put o.dst c) w') : o.wp P a w K Q := by
  unfold Oper.wp
  rw [hr]
  exact hK
theorem wp_skip_ {P : Program} {o : Oper} {a : Act} {w w' : World} {K : Act → World → Prop} {Q : Exit → Act → World → Prop}
    (hr : (execOp a.eval o).run P w = .ok .skip w') (hK : K (a.put o.dst undef) w') : o.wp P a w K Q := by
  unfold Oper.wp
  rw [hr]
  exact hK

end Go.Vx
