/- The laws' own functions for intervals. -/
import Derived.Test.YthkgmogacmmfpaaGreatC5R
import Derived.Test.YthkgmogacmmfpaaGreatS1
set_option linter.unusedVariables false
set_option linter.unusedSectionVars false
set_option linter.unusedSimpArgs false
namespace Go.Vx
open Go.Proofs
set_option maxRecDepth 100000

theorem toSpan_den (na : Bool) (la : List Int) (pa : Bool) (qa : List Int) (nb : Bool) (lb : List Int) (pb : Bool) (qb : List Int) (h1 : la.length ≤ 1000000000000) (h2 : qa.length ≤ 1000000000000) (h3 : lb.length ≤ 1000000000000) (h4 : qb.length ≤ 1000000000000) :
    D 16 [spanR na la pa qa nb lb pb qb] true (.one (spanR na la pa qa nb lb pb qb)) := by
  refine go Tryz.func16 rfl rfl ?_
  repeat refine vs ?_
  conv => whnf
  refine CallS.mk _ rfl true true _ (toRat_den na la pa qa h1 h2) rfl ?_
  repeat refine vs ?_
  conv => whnf
  refine CallS.mk _ rfl true true _ (toRat_den nb lb pb qb h3 h4) rfl ?_
  repeat refine vs ?_
  conv => whnf
  first | rfl | exact ⟨rfl, rfl⟩ | exact ⟨by simp [toRes], rfl⟩
theorem szSpan_den (na : Bool) (la : List Int) (pa : Bool) (qa : List Int) (nb : Bool) (lb : List Int) (pb : Bool) (qb : List Int) (k : Int) (hk : 0 ≤ k ∧ k ≤ 1048576) (h1 : la.length ≤ 9223372036854775807) (h2 : qa.length ≤ 9223372036854775807) (h3 : lb.length ≤ 9223372036854775807) (h4 : qb.length ≤ 9223372036854775807) :
    ∃ s : Int, D 14 [spanR na la pa qa nb lb pb qb, iP k] true (.one (iP s)) ∧ (¬ s < 0 → la.length ≤ 1048576 ∧ qa.length ≤ 1048576 ∧ lb.length ≤ 1048576 ∧ qb.length ≤ 1048576 ∧ 0 ≤ s ∧ s ≤ 1048576) := by
  obtain ⟨s1, d1, k1⟩ := szRat_den na la pa qa k hk h1 h2
  by_cases c1 : s1 < 0
  · refine ⟨-1, go Tryz.func14 rfl rfl ?_, fun h => by omega⟩
    repeat refine vs ?_
    conv => whnf
    refine CallS.mk _ rfl true true _ (d1) rfl ?_
    repeat refine vs ?_
    conv => whnf
    first | rfl | exact ⟨rfl, rfl⟩ | exact ⟨by simp [toRes], rfl⟩
  · obtain ⟨a1, a2, a3, a4⟩ := k1 c1
    obtain ⟨s2, d2, k2⟩ := szRat_den nb lb pb qb s1 ⟨a3, a4⟩ h3 h4
    by_cases c2 : s2 < 0
    · refine ⟨-1, go Tryz.func14 rfl rfl ?_, fun h => by omega⟩
      repeat refine vs ?_
      conv => whnf
      refine CallS.mk _ rfl true true _ (d1) rfl ?_
      repeat refine vs ?_
      conv => whnf
      refine CallS.mk _ rfl true true _ (d2) rfl ?_
      repeat refine vs ?_
      conv => whnf
      first | rfl | exact ⟨rfl, rfl⟩ | exact ⟨by simp [toRes], rfl⟩
    · obtain ⟨b1, b2, b3, b4⟩ := k2 c2
      refine ⟨s2, go Tryz.func14 rfl rfl ?_, fun h => ⟨a1, a2, b1, b2, b3, b4⟩⟩
      repeat refine vs ?_
      conv => whnf
      refine CallS.mk _ rfl true true _ (d1) rfl ?_
      repeat refine vs ?_
      conv => whnf
      refine CallS.mk _ rfl true true _ (d2) rfl ?_
      repeat refine vs ?_
      conv => whnf
      first | rfl | exact ⟨rfl, rfl⟩ | exact ⟨by simp [toRes], rfl⟩
theorem eqSpan_rfl (na : Bool) (la : List Int) (pa : Bool) (qa : List Int) (nb : Bool) (lb : List Int) (pb : Bool) (qb : List Int) (h1 : la.length ≤ 1000000000000) (h2 : qa.length ≤ 1000000000000) (h3 : lb.length ≤ 1000000000000) (h4 : qb.length ≤ 1000000000000) :
    D 18 [spanR na la pa qa nb lb pb qb, spanR na la pa qa nb lb pb qb] true (.one (bP true)) := by
  refine go Tryz.func18 rfl rfl ?_
  repeat refine vs ?_
  conv => whnf
  refine CallS.mk _ rfl true true _ (eqRat_rfl na la pa qa h1 h2) rfl ?_
  repeat refine vs ?_
  conv => whnf
  refine CallS.mk _ rfl true true _ (eqRat_rfl nb lb pb qb h3 h4) rfl ?_
  repeat refine vs ?_
  conv => whnf
  first | rfl | exact ⟨rfl, rfl⟩ | exact ⟨by simp [toRes], rfl⟩
end Go.Vx
