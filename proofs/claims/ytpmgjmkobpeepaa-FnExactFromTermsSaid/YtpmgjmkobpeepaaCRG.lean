/- What a law's argument reads as: a list of Bigs. -/
import Derived.Test.YtpmgjmkobpeepaaBGa
import Derived.Test.YtpmgjmkobpeepaaT1
set_option linter.unusedVariables false
set_option linter.unusedSectionVars false
set_option linter.unusedSimpArgs false
namespace Go.Vx
set_option maxRecDepth 100000
open Go.Proofs Go.RowKit
theorem rowsG_of : ∀ (rows : List (List PL)), (∀ q ∈ rows, ∃ n l, q = [.bool n, .ints l] ∧ l.length ≤ 9223372036854775807) →
    ∃ rs : List RawB, rows = rs.map cellB ∧ ∀ r ∈ rs, r.l.length ≤ 9223372036854775807
  | [], _ => ⟨[], rfl, fun r h => by cases h⟩
  | q :: rows, h => by
    obtain ⟨n, l, rfl, h1⟩ := h q List.mem_cons_self
    obtain ⟨rs, rfl, h3⟩ := rowsG_of rows (fun q hq => h q (List.mem_cons_of_mem _ hq))
    refine ⟨⟨n, l⟩ :: rs, rfl, fun r hr => ?_⟩
    rcases List.mem_cons.1 hr with rfl | hr
    · exact h1
    · exact h3 r hr
section
variable {H : Type} {enc : TypeId × Value → H} {w : World} {base : Nat} {sp : Nat → Bool} {held : Bool}
theorem argBigS {r : Reach} {b0 : Nat} {v : Value} {d : DataW H} {ps : List MemPlace} (hval : Value.okWide Try.prog w r b0 40 v) (h : DataW.Trod enc Try.prog w base sp held 40 v d ps) : ∃ rs : List RawB, shortB 9223372036854775807 rs ∧ RPV w (fun _ => True) (bigsQ rs) v := by
  obtain ⟨fuel, h⟩ := h
  obtain ⟨ls, ⟨rows, rfl, hl, hr⟩, hR⟩ := Reads.rows Try.underlying40 (k := 2) (by kernel_rfl) (by omega) readsBig fuel _ _ h
  obtain ⟨rs, rfl, h3⟩ := rowsG_of rows hr
  refine ⟨rs, ⟨maxLen_le (by simpa using hl), h3⟩, ?_⟩
  obtain ⟨a, n, c, rfl⟩ := Go.WideShapes.okWide_slice Try.underlying40 hval
  exact ⟨_, rfl, hR.1⟩
end
end Go.Vx
