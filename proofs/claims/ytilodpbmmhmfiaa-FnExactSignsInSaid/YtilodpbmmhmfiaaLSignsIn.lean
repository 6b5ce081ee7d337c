/- The law SignsIn, as a fact. -/
import Derived.Test.YtilodpbmmhmfiaaP2
import Derived.Test.YtilodpbmmhmfiaaP3
set_option linter.unusedVariables false
set_option linter.unusedSectionVars false
set_option linter.unusedSimpArgs false
namespace Go.Vx
open Go.Proofs
set_option maxRecDepth 100000
set_option maxHeartbeats 4000000 in
theorem lawSignsIn (rs0 : List RawQ) (hrs0 : shortP 9223372036854775807 rs0)  : D 5 [polQ rs0] true (.one (bP true)) := by
  refine go Try.func5 rfl rfl ?_
  repeat refine vs ?_
  conv => whnf
  obtain ⟨s0, dz0, k0⟩ := szRatS_den rs0 (1048576) (by omega) hrs0
  refine CallS.mk _ rfl true true _ (dz0) rfl ?_
  repeat refine vs ?_
  conv => whnf
  by_cases c0 : s0 < 0
  · repeat refine vs ?_
    conv => whnf
    first | rfl | exact ⟨rfl, rfl⟩ | exact ⟨by simp [toRes], rfl⟩
  · obtain ⟨hs0, e0, f0⟩ := k0 c0
    repeat refine vs ?_
    conv => whnf
    obtain ⟨y0, b1, dS, dI⟩ := signsInBoth rs0 hs0
    have hb1 : (b1 != b1) = false := by cases b1 <;> rfl
    refine CallS.mk _ rfl false false _ (toRatS_den rs0 hs0) rfl ?_
    repeat refine vs ?_
    conv => whnf
    refine CallS.mk _ rfl false false _ (dS) rfl ?_
    repeat refine vs ?_
    conv => whnf
    refine CallS.mk _ rfl false false _ (toRatS_den rs0 hs0) rfl ?_
    repeat refine vs ?_
    conv => whnf
    refine CallS.mk _ rfl true true _ (dI) rfl ?_
    repeat refine vs ?_
    conv => whnf
    refine CallS.mk _ rfl false false _ (toRatS_den rs0 hs0) rfl ?_
    repeat refine vs ?_
    conv => whnf
    refine CallS.mk _ rfl true true _ (eqRatS_rfl rs0 hs0) rfl ?_
    repeat refine vs ?_
    conv => whnf
    first | rfl | exact ⟨rfl, rfl⟩ | exact ⟨by simp [toRes], rfl⟩
end Go.Vx
