/- The law RootBound, as a fact. -/
import Derived.Test.YthkgmogacmmfpaaGreatQ9
import Derived.Test.YthkgmogacmmfpaaGreatP5
set_option linter.unusedVariables false
set_option linter.unusedSectionVars false
set_option linter.unusedSimpArgs false
namespace Go.Vx
open Go.Proofs
set_option maxRecDepth 100000
set_option maxHeartbeats 4000000 in
theorem lawRootBound (rs0 : List RawQ) (hrs0 : shortP 9223372036854775807 rs0)  : D 5 [polQ rs0] true (.one (bP true)) := by
  refine go Tryz.func5 rfl rfl ?_
  repeat refine vs ?_
  conv => whnf
  obtain ⟨s0, dz0, k0⟩ := szRatS_den rs0 (1048576) (by omega) hrs0
  refine CallS.mk _ rfl true true _ (dz0) rfl ?_
  repeat refine vs ?_
  conv => whnf
  by_cases c0 : s0 < 0
  · repeat refine vs ?_
    conv => whnf
    first | rfl | exact ⟨rfl, rfl⟩ | exact ⟨by simp [toRes], rfl⟩
  · obtain ⟨hs0, e0, f0⟩ := k0 c0
    repeat refine vs ?_
    conv => whnf
    obtain ⟨rn0, rl0, rp0, rq0, b1, mrl0, mrq0, dS, dI⟩ := rootBoundBoth rs0 hs0
    have hb1 : (b1 != b1) = false := by cases b1 <;> rfl
    refine CallS.mk _ rfl false false _ (toRatS_den rs0 hs0) rfl ?_
    repeat refine vs ?_
    conv => whnf
    refine CallS.mk _ rfl false false _ (dS) rfl ?_
    repeat refine vs ?_
    conv => whnf
    refine CallS.mk _ rfl true true _ (toRatS_own rs0 hs0) rfl ?_
    repeat refine vs ?_
    conv => whnf
    refine CallS.mk _ rfl true true _ (dI) rfl ?_
    repeat refine vs ?_
    conv => whnf
    refine CallS.mk _ rfl true true _ (eqRat_rfl rn0 rl0 rp0 rq0 (by omega) (by omega)) rfl ?_
    repeat refine vs ?_
    conv => whnf
    refine CallS.mk _ rfl true true _ (toRatS_own rs0 hs0) rfl ?_
    repeat refine vs ?_
    conv => whnf
    refine CallS.mk _ rfl true true _ (eqRatS_rfl rs0 hs0) rfl ?_
    repeat refine vs ?_
    conv => whnf
    have kb31 := kL_le (N := 1048576) (rs := rs0) (k := 1) (by omega) hs0.2
    have kc32 := hs0.1
    refine DeepS.mk rfl _ rfl _ _ (markRatS_d rs0 (1) (by omega) hs0) rfl ?_ ?_ ?_
    · simp [mkL_len]
    · repeat' (first | exact True.intro | refine ⟨rfl, ?_⟩)
    repeat refine vs ?_
    conv => whnf
    refine CallS.mk _ rfl true true _ (eqRat_rfl rn0 rl0 rp0 rq0 (by omega) (by omega)) rfl ?_
    repeat refine vs ?_
    conv => whnf
    have rr39 := ramp_len (k := 1) (n := rl0.length)
    have rr40 := ramp_len (k := 1 + (rl0.length : Int)) (n := rq0.length)
    refine MutS.mk' _ rfl _ rfl _ _ (markRat_m rn0 rl0 rp0 rq0 (1) (by omega) (by omega) (by omega)) ?_
    repeat refine vs ?_
    conv => whnf
    have hne : ¬ (1 + (rl0.length : Int) + (rq0.length : Int) ≠ 1 + (rl0.length : Int) + (rq0.length : Int)) := by omega
    refine CallS.mk _ rfl true true _ (heldRat_den rn0 rl0.length rp0 rq0.length (1) (by omega) (by omega) (by omega)) rfl ?_
    repeat refine vs ?_
    conv => whnf
    refine CallS.mk _ rfl true true _ (toRatS_own rs0 hs0) rfl ?_
    repeat refine vs ?_
    conv => whnf
    refine CallS.mk _ rfl true true _ (dI) rfl ?_
    repeat refine vs ?_
    conv => whnf
    refine CallS.mk _ rfl true true _ (eqRat_rfl rn0 rl0 rp0 rq0 (by omega) (by omega)) rfl ?_
    repeat refine vs ?_
    conv => whnf
    refine CallS.mk _ rfl true true _ (heldRat_den rn0 rl0.length rp0 rq0.length (1) (by omega) (by omega) (by omega)) rfl ?_
    repeat refine vs ?_
    conv => whnf
    first | rfl | exact ⟨rfl, rfl⟩ | exact ⟨by simp [toRes], rfl⟩
end Go.Vx
