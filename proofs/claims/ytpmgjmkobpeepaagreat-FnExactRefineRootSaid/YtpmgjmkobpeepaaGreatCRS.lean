/- What a law's argument reads as: an interval. -/
import Derived.Test.YtpmgjmkobpeepaaGreatCRR
import Derived.Test.YtpmgjmkobpeepaaGreatS1
set_option linter.unusedVariables false
set_option linter.unusedSectionVars false
set_option linter.unusedSimpArgs false
namespace Go.Vx
set_option maxRecDepth 100000
open Go.Proofs Go.RowKit
section
variable {H : Type} {enc : TypeId × Value → H} {w : World} {base : Nat} {sp : Nat → Bool} {held : Bool}
theorem argSpan {v : Value} {d : DataW H} {ps : List MemPlace} (h : DataW.Trod enc Tryz.prog w base sp held 50 v d ps) :
    ∃ na la pa qa nb lb pb qb, la.length ≤ 9223372036854775807 ∧ qa.length ≤ 9223372036854775807 ∧ lb.length ≤ 9223372036854775807 ∧ qb.length ≤ 9223372036854775807 ∧ RPV w (fun _ => True) (spanR na la pa qa nb lb pb qb) v := by
  obtain ⟨fuel, h⟩ := h
  obtain ⟨ls, ⟨a, b, rfl, ⟨na, la, pa, qa, rfl, h1, h2⟩, ⟨nb, lb, pb, qb, rfl, h3, h4⟩⟩, hR⟩ := Reads.struct2 Tryz.underlying50 rfl (by kernel_rfl) (by kernel_rfl) readsRat readsRat fuel _ _ h
  refine ⟨na, la, pa, qa, nb, lb, pb, qb, h1, h2, h3, h4, v.cells.toList, ?_, hR⟩
  rw [agg_of (n := 8) (by omega) hR.length.symm]
  simp [Value.cells]
end
end Go.Vx
