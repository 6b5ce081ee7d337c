/- CRR, CRP, CRS -/
import Derived.Test.YtpmgjmkobpeepaaGreatBGa
import Derived.Test.YtpmgjmkobpeepaaGreatRSa
import Derived.Test.YtpmgjmkobpeepaaGreatPGa
import Derived.Test.YtpmgjmkobpeepaaGreatRSb
set_option linter.unusedVariables false
set_option linter.unusedSectionVars false
set_option linter.unusedSimpArgs false
section
/- What a law's argument reads as: a fraction. -/
namespace Go.Vx
set_option maxRecDepth 100000
open Go.Proofs Go.RowKit
section
variable {H : Type} {enc : TypeId × Value → H} {w : World} {base : Nat} {sp : Nat → Bool} {held : Bool}
theorem readsRat : Reads enc Tryz.prog w base sp held 35 (fun ls => ∃ n l p q, ls = [.bool n, .ints l, .bool p, .ints q] ∧ l.length ≤ 9223372036854775807 ∧ q.length ≤ 9223372036854775807) := by
 intro fuel cs x h
 obtain ⟨ls, ⟨a, b, rfl, ⟨n, l, rfl, hl⟩, ⟨p, q, rfl, hq⟩⟩, hR⟩ := Reads.struct2 Tryz.underlying35 rfl (by kernel_rfl) (by kernel_rfl) readsBig readsBig fuel cs x h
 exact ⟨_, ⟨n, l, p, q, rfl, hl, hq⟩, hR⟩
end
end Go.Vx
end
section
/- What a law's argument reads as: a list of fractions. -/
namespace Go.Vx
set_option maxRecDepth 100000
open Go.Proofs Go.RowKit
theorem rows_of : ∀ (rows : List (List PL)), (∀ q ∈ rows, ∃ n l p q', q = [.bool n, .ints l, .bool p, .ints q'] ∧ l.length ≤ 9223372036854775807 ∧ q'.length ≤ 9223372036854775807) →
  ∃ rs : List RawQ, rows = rs.map cellQ ∧ ∀ r ∈ rs, r.l.length ≤ 9223372036854775807 ∧ r.q.length ≤ 9223372036854775807
 | [], _ => ⟨[], rfl, fun r h => by cases h⟩
 | q :: rows, h => by
  obtain ⟨n, l, p, q', rfl, h1, h2⟩ := h q List.mem_cons_self
  obtain ⟨rs, rfl, h3⟩ := rows_of rows (fun q hq => h q (List.mem_cons_of_mem _ hq))
  refine ⟨⟨n, l, p, q'⟩ :: rs, rfl, fun r hr => ?_⟩
  rcases List.mem_cons.1 hr with rfl | hr
  ·exact ⟨h1, h2⟩
  ·exact h3 r hr
section
variable {H : Type} {enc : TypeId × Value → H} {w : World} {base : Nat} {sp : Nat → Bool} {held : Bool}
theorem argPoly {r : Reach} {b0 : Nat} {v : Value} {d : DataW H} {ps : List MemPlace} (hval : Value.okWide Tryz.prog w r b0 22 v) (h : DataW.Trod enc Tryz.prog w base sp held 22 v d ps) : ∃ rs : List RawQ, shortP 9223372036854775807 rs ∧ RPV w (fun _ => True) (polQ rs) v := by
 obtain ⟨fuel, h⟩ := h
 obtain ⟨ls, ⟨rows, rfl, hl, hr⟩, hR⟩ := Reads.rows Tryz.underlying22 (k := 4) (by kernel_rfl) (by omega) readsRat fuel _ _ h
 obtain ⟨rs, rfl, h3⟩ := rows_of rows hr
 refine ⟨rs, ⟨maxLen_le (by simpa using hl), h3⟩, ?_⟩
 obtain ⟨a, n, c, rfl⟩ := Go.WideShapes.okWide_slice Tryz.underlying22 hval
 exact ⟨_, rfl, hR.1⟩
end
end Go.Vx
end
section
/- What a law's argument reads as: an interval. -/
namespace Go.Vx
set_option maxRecDepth 100000
open Go.Proofs Go.RowKit
section
variable {H : Type} {enc : TypeId × Value → H} {w : World} {base : Nat} {sp : Nat → Bool} {held : Bool}
theorem argSpan {v : Value} {d : DataW H} {ps : List MemPlace} (h : DataW.Trod enc Tryz.prog w base sp held 50 v d ps) :
  ∃ na la pa qa nb lb pb qb, la.length ≤ 9223372036854775807 ∧ qa.length ≤ 9223372036854775807 ∧ lb.length ≤ 9223372036854775807 ∧ qb.length ≤ 9223372036854775807 ∧ RPV w (fun _ => True) (spanR na la pa qa nb lb pb qb) v := by
 obtain ⟨fuel, h⟩ := h
 obtain ⟨ls, ⟨a, b, rfl, ⟨na, la, pa, qa, rfl, h1, h2⟩, ⟨nb, lb, pb, qb, rfl, h3, h4⟩⟩, hR⟩ := Reads.struct2 Tryz.underlying50 rfl (by kernel_rfl) (by kernel_rfl) readsRat readsRat fuel _ _ h
 refine ⟨na, la, pa, qa, nb, lb, pb, qb, h1, h2, h3, h4, v.cells.toList, ?_, hR⟩
 rw [agg_of (n := 8) (by omega) hR.length.symm]
 simp [Value.cells]
end
end Go.Vx
end
