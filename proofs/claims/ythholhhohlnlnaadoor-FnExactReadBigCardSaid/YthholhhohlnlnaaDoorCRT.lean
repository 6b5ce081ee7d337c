/- What a law's argument reads as: a string. -/
import Derived.Test.YthholhhohlnlnaaDoorBGa
import Derived.Test.YthholhhohlnlnaaDoorX1
import Derived.ChangeMaps5
set_option linter.unusedVariables false
set_option linter.unusedSectionVars false
set_option linter.unusedSimpArgs false
namespace Go.Vx
set_option maxRecDepth 100000
open Go.Proofs Go.RowKit
section
variable {H : Type} {enc : TypeId × Value → H} {w : World} {base : Nat} {sp : Nat → Bool} {held : Bool}
theorem argStr {r : Reach} {b0 : Nat} {v : Value} {d : DataW H} {ps : List MemPlace} (hval : Value.okWide Tryd.prog w r b0 9 v) (h : DataW.Trod enc Tryd.prog w base sp held 9 v d ps) : ∃ s : List UInt8, s.length ≤ 9223372036854775807 ∧ RPV w (fun _ => True) (sP s) v := by
  obtain ⟨s, rfl, _, _, hs⟩ := Go.ChangeMaps.open_string Tryd.underlying9 hval h
  refine ⟨s.data.toList, maxLen_le (by simpa using hs), _, rfl, ?_⟩
  have : strL s.data.toList = s := by
    apply ByteArray.ext
    simp [strL]
  rw [this]
  rfl
end
end Go.Vx
