/- What a law's argument reads as: a fraction. -/
import Derived.Test.YthholhhohlnlnaaDoorBGa
import Derived.Test.YthholhhohlnlnaaDoorR1
set_option linter.unusedVariables false
set_option linter.unusedSectionVars false
set_option linter.unusedSimpArgs false
namespace Go.Vx
set_option maxRecDepth 100000
open Go.Proofs Go.RowKit
section
variable {H : Type} {enc : TypeId × Value → H} {w : World} {base : Nat} {sp : Nat → Bool} {held : Bool}
theorem readsRat : Reads enc Tryd.prog w base sp held 37 (fun ls => ∃ n l p q, ls = [.bool n, .ints l, .bool p, .ints q] ∧ l.length ≤ 9223372036854775807 ∧ q.length ≤ 9223372036854775807) := by
  intro fuel cs x h
  obtain ⟨ls, ⟨a, b, rfl, ⟨n, l, rfl, hl⟩, ⟨p, q, rfl, hq⟩⟩, hR⟩ := Reads.struct2 Tryd.underlying37 rfl (by kernel_rfl) (by kernel_rfl) readsBig readsBig fuel cs x h
  exact ⟨_, ⟨n, l, p, q, rfl, hl, hq⟩, hR⟩
theorem argRat {v : Value} {d : DataW H} {ps : List MemPlace} (h : DataW.Trod enc Tryd.prog w base sp held 37 v d ps) : ∃ n l p q, l.length ≤ 9223372036854775807 ∧ q.length ≤ 9223372036854775807 ∧ RPV w (fun _ => True) (ratR n l p q) v := by
  obtain ⟨fuel, h⟩ := h
  obtain ⟨ls, ⟨n, l, p, q, rfl, hl, hq⟩, hR⟩ := readsRat fuel _ _ h
  refine ⟨n, l, p, q, hl, hq, v.cells.toList, ?_, hR⟩
  rw [agg_of (n := 4) (by omega) hR.length.symm]
  simp [Value.cells]
end
end Go.Vx
