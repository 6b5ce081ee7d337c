/- What a law's argument reads as: a list of fractions. -/
import Derived.Test.YtpmgjmkobpeepaaGreatCRR
import Derived.Test.YtpmgjmkobpeepaaGreatP1
set_option linter.unusedVariables false
set_option linter.unusedSectionVars false
set_option linter.unusedSimpArgs false
namespace Go.Vx
set_option maxRecDepth 100000
open Go.Proofs Go.RowKit
theorem rows_of : ∀ (rows : List (List PL)), (∀ q ∈ rows, ∃ n l p q', q = [.bool n, .ints l, .bool p, .ints q'] ∧ l.length ≤ 9223372036854775807 ∧ q'.length ≤ 9223372036854775807) →
    ∃ rs : List RawQ, rows = rs.map cellQ ∧ ∀ r ∈ rs, r.l.length ≤ 9223372036854775807 ∧ r.q.length ≤ 9223372036854775807
  | [], _ => ⟨[], rfl, fun r h => by cases h⟩
  | q :: rows, h => by
    obtain ⟨n, l, p, q', rfl, h1, h2⟩ := h q List.mem_cons_self
    obtain ⟨rs, rfl, h3⟩ := rows_of rows (fun q hq => h q (List.mem_cons_of_mem _ hq))
    refine ⟨⟨n, l, p, q'⟩ :: rs, rfl, fun r hr => ?_⟩
    rcases List.mem_cons.1 hr with rfl | hr
    · exact ⟨h1, h2⟩
    · exact h3 r hr
section
variable {H : Type} {enc : TypeId × Value → H} {w : World} {base : Nat} {sp : Nat → Bool} {held : Bool}
theorem argPoly {r : Reach} {b0 : Nat} {v : Value} {d : DataW H} {ps : List MemPlace} (hval : Value.okWide Tryz.prog w r b0 22 v) (h : DataW.Trod enc Tryz.prog w base sp held 22 v d ps) : ∃ rs : List RawQ, shortP 9223372036854775807 rs ∧ RPV w (fun _ => True) (polQ rs) v := by
  obtain ⟨fuel, h⟩ := h
  obtain ⟨ls, ⟨rows, rfl, hl, hr⟩, hR⟩ := Reads.rows Tryz.underlying22 (k := 4) (by kernel_rfl) (by omega) readsRat fuel _ _ h
  obtain ⟨rs, rfl, h3⟩ := rows_of rows hr
  refine ⟨rs, ⟨maxLen_le (by simpa using hl), h3⟩, ?_⟩
  obtain ⟨a, n, c, rfl⟩ := Go.WideShapes.okWide_slice Tryz.underlying22 hval
  exact ⟨_, rfl, hR.1⟩
end
end Go.Vx
