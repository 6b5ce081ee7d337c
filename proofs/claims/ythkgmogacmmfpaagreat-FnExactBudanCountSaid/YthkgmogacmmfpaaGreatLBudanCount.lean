/- The law BudanCount, as a fact. -/
import Derived.Test.YthkgmogacmmfpaaGreatQGd
import Derived.Test.YthkgmogacmmfpaaGreatC5S
set_option linter.unusedVariables false
set_option linter.unusedSectionVars false
set_option linter.unusedSimpArgs false
namespace Go.Vx
open Go.Proofs
set_option maxRecDepth 100000
set_option maxHeartbeats 4000000 in
theorem lawBudanCount (rs0 : List RawQ) (n1 : Bool) (l1 : List Int) (p1 : Bool) (q1 : List Int) (n2 : Bool) (l2 : List Int) (p2 : Bool) (q2 : List Int) (hrs0 : shortP 9223372036854775807 rs0) (hl1 : l1.length ≤ 9223372036854775807) (hq1 : q1.length ≤ 9223372036854775807) (hl2 : l2.length ≤ 9223372036854775807) (hq2 : q2.length ≤ 9223372036854775807) : D 3 [polQ rs0, ratR n1 l1 p1 q1, ratR n2 l2 p2 q2] true (.one (bP true)) := by
  refine go Tryz.func3 rfl rfl ?_
  repeat refine vs ?_
  conv => whnf
  obtain ⟨s0, dz0, k0⟩ := szRatS_den rs0 (1048576) (by omega) hrs0
  refine CallS.mk _ rfl true true _ (dz0) rfl ?_
  repeat refine vs ?_
  conv => whnf
  by_cases c0 : s0 < 0
  · repeat refine vs ?_
    conv => whnf
    first | rfl | exact ⟨rfl, rfl⟩ | exact ⟨by simp [toRes], rfl⟩
  · obtain ⟨hs0, e0, f0⟩ := k0 c0
    repeat refine vs ?_
    conv => whnf
    obtain ⟨s1, dz1, k1⟩ := szRat_den n1 l1 p1 q1 (s0) (by omega) hl1 hq1
    refine CallS.mk _ rfl true true _ (dz1) rfl ?_
    repeat refine vs ?_
    conv => whnf
    by_cases c1 : s1 < 0
    · repeat refine vs ?_
      conv => whnf
      first | rfl | exact ⟨rfl, rfl⟩ | exact ⟨by simp [toRes], rfl⟩
    · have e1 := k1 c1
      repeat refine vs ?_
      conv => whnf
      obtain ⟨s2, dz2, k2⟩ := szRat_den n2 l2 p2 q2 (s1) (by omega) hl2 hq2
      refine CallS.mk _ rfl true true _ (dz2) rfl ?_
      repeat refine vs ?_
      conv => whnf
      by_cases c2 : s2 < 0
      · repeat refine vs ?_
        conv => whnf
        first | rfl | exact ⟨rfl, rfl⟩ | exact ⟨by simp [toRes], rfl⟩
      · have e2 := k2 c2
        repeat refine vs ?_
        conv => whnf
        obtain ⟨y0, b1, dS, dI⟩ := budanBoth rs0 n1 l1 p1 q1 n2 l2 p2 q2 hs0 (by omega) (by omega) (by omega) (by omega)
        have hb1 : (b1 != b1) = false := by cases b1 <;> rfl
        refine CallS.mk _ rfl false false _ (toRatS_den rs0 hs0) rfl ?_
        repeat refine vs ?_
        conv => whnf
        refine CallS.mk _ rfl true false _ (toRat_den n1 l1 p1 q1 (by omega) (by omega)) rfl ?_
        repeat refine vs ?_
        conv => whnf
        refine CallS.mk _ rfl true false _ (toRat_den n2 l2 p2 q2 (by omega) (by omega)) rfl ?_
        repeat refine vs ?_
        conv => whnf
        refine CallS.mk _ rfl false false _ (dS) rfl ?_
        repeat refine vs ?_
        conv => whnf
        refine CallS.mk _ rfl false false _ (toRatS_den rs0 hs0) rfl ?_
        repeat refine vs ?_
        conv => whnf
        refine CallS.mk _ rfl true true _ (toRat_den n1 l1 p1 q1 (by omega) (by omega)) rfl ?_
        repeat refine vs ?_
        conv => whnf
        refine CallS.mk _ rfl true true _ (toRat_den n2 l2 p2 q2 (by omega) (by omega)) rfl ?_
        repeat refine vs ?_
        conv => whnf
        refine CallS.mk _ rfl true true _ (dI) rfl ?_
        repeat refine vs ?_
        conv => whnf
        refine CallS.mk _ rfl false false _ (toRatS_den rs0 hs0) rfl ?_
        repeat refine vs ?_
        conv => whnf
        refine CallS.mk _ rfl true true _ (eqRatS_rfl rs0 hs0) rfl ?_
        repeat refine vs ?_
        conv => whnf
        refine CallS.mk _ rfl true true _ (toRat_den n1 l1 p1 q1 (by omega) (by omega)) rfl ?_
        repeat refine vs ?_
        conv => whnf
        refine CallS.mk _ rfl true true _ (eqRat_rfl n1 l1 p1 q1 (by omega) (by omega)) rfl ?_
        repeat refine vs ?_
        conv => whnf
        refine CallS.mk _ rfl true true _ (toRat_den n2 l2 p2 q2 (by omega) (by omega)) rfl ?_
        repeat refine vs ?_
        conv => whnf
        refine CallS.mk _ rfl true true _ (eqRat_rfl n2 l2 p2 q2 (by omega) (by omega)) rfl ?_
        repeat refine vs ?_
        conv => whnf
        first | rfl | exact ⟨rfl, rfl⟩ | exact ⟨by simp [toRes], rfl⟩
end Go.Vx
