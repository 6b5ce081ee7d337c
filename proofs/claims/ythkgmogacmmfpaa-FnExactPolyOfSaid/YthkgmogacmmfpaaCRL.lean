/- What a law's argument reads as: a list of integers. -/
import Derived.Test.YthkgmogacmmfpaaBGa
set_option linter.unusedVariables false
set_option linter.unusedSectionVars false
set_option linter.unusedSimpArgs false
namespace Go.Vx
set_option maxRecDepth 100000
open Go.Proofs Go.RowKit
section
variable {H : Type} {enc : TypeId × Value → H} {w : World} {base : Nat} {sp : Nat → Bool} {held : Bool}
theorem argInts {r : Reach} {b0 : Nat} {v : Value} {d : DataW H} {ps : List MemPlace} (hval : Value.okWide Try.prog w r b0 31 v) (h : DataW.Trod enc Try.prog w base sp held 31 v d ps) : ∃ l : List Int, l.length ≤ 9223372036854775807 ∧ RPV w (fun _ => True) (lP l) v := by
  obtain ⟨fuel, h⟩ := h
  obtain ⟨ls, ⟨l, rfl, hl⟩, hR⟩ := Reads.ints Try.underlying31 Try.underlying3 (by kernel_rfl) fuel _ _ h
  refine ⟨l, maxLen_le hl, ?_⟩
  obtain ⟨a, n, c, rfl⟩ := Go.WideShapes.okWide_slice Try.underlying31 hval
  exact ⟨_, rfl, hR.1⟩
end
end Go.Vx
