/- The law ShiftPoly, as a fact. -/
import Derived.Test.YtpmgjmkobpeepaaGreatQ13
set_option linter.unusedVariables false
set_option linter.unusedSectionVars false
set_option linter.unusedSimpArgs false
namespace Go.Vx
open Go.Proofs
set_option maxRecDepth 100000
set_option maxHeartbeats 4000000 in
theorem lawShiftPoly (rs0 : List RawQ) (n1 : Bool) (l1 : List Int) (p1 : Bool) (q1 : List Int) (hrs0 : shortP 9223372036854775807 rs0) (hl1 : l1.length ≤ 9223372036854775807) (hq1 : q1.length ≤ 9223372036854775807) : D 4 [polQ rs0, ratR n1 l1 p1 q1] true (.one (bP true)) := by
  refine go Tryz.func4 rfl rfl ?_
  repeat refine vs ?_
  conv => whnf
  obtain ⟨s0, dz0, k0⟩ := szRatS_den rs0 (1048576) (by omega) hrs0
  refine CallS.mk _ rfl true true _ (dz0) rfl ?_
  repeat refine vs ?_
  conv => whnf
  by_cases c0 : s0 < 0
  · repeat refine vs ?_
    conv => whnf
    first | rfl | exact ⟨rfl, rfl⟩ | exact ⟨by simp [toRes], rfl⟩
  · obtain ⟨hs0, e0, f0⟩ := k0 c0
    repeat refine vs ?_
    conv => whnf
    obtain ⟨s1, dz1, k1⟩ := szRat_den n1 l1 p1 q1 (s0) (by omega) hl1 hq1
    refine CallS.mk _ rfl true true _ (dz1) rfl ?_
    repeat refine vs ?_
    conv => whnf
    by_cases c1 : s1 < 0
    · repeat refine vs ?_
      conv => whnf
      first | rfl | exact ⟨rfl, rfl⟩ | exact ⟨by simp [toRes], rfl⟩
    · have e1 := k1 c1
      repeat refine vs ?_
      conv => whnf
      obtain ⟨rr0, b1, hsrr0, dS, dI⟩ := shiftPolyBoth rs0 n1 l1 p1 q1 hs0 (by omega) (by omega)
      have hb1 : (b1 != b1) = false := by cases b1 <;> rfl
      refine CallS.mk _ rfl false false _ (toRatS_den rs0 hs0) rfl ?_
      repeat refine vs ?_
      conv => whnf
      refine CallS.mk _ rfl true false _ (toRat_den n1 l1 p1 q1 (by omega) (by omega)) rfl ?_
      repeat refine vs ?_
      conv => whnf
      refine CallS.mk _ rfl false false _ (dS) rfl ?_
      repeat refine vs ?_
      conv => whnf
      refine CallS.mk _ rfl true true _ (toRatS_own rs0 hs0) rfl ?_
      repeat refine vs ?_
      conv => whnf
      refine CallS.mk _ rfl true true _ (toRat_den n1 l1 p1 q1 (by omega) (by omega)) rfl ?_
      repeat refine vs ?_
      conv => whnf
      refine CallS.mk _ rfl true true _ (dI) rfl ?_
      repeat refine vs ?_
      conv => whnf
      refine CallS.mk _ rfl true true _ (eqRatS_rfl rr0 hsrr0) rfl ?_
      repeat refine vs ?_
      conv => whnf
      refine CallS.mk _ rfl true true _ (toRatS_own rs0 hs0) rfl ?_
      repeat refine vs ?_
      conv => whnf
      refine CallS.mk _ rfl true true _ (eqRatS_rfl rs0 hs0) rfl ?_
      repeat refine vs ?_
      conv => whnf
      refine CallS.mk _ rfl true true _ (toRat_den n1 l1 p1 q1 (by omega) (by omega)) rfl ?_
      repeat refine vs ?_
      conv => whnf
      refine CallS.mk _ rfl true true _ (eqRat_rfl n1 l1 p1 q1 (by omega) (by omega)) rfl ?_
      repeat refine vs ?_
      conv => whnf
      have kb46 := kL_le (N := 1048576) (rs := rs0) (k := 1) (by omega) hs0.2
      have kc47 := hs0.1
      refine DeepS.mk rfl _ rfl _ _ (markRatS_d rs0 (1) (by omega) hs0) rfl ?_ ?_ ?_
      · simp [mkL_len]
      · repeat' (first | exact True.intro | refine ⟨rfl, ?_⟩)
      repeat refine vs ?_
      conv => whnf
      have rr52 := ramp_len (k := kL rs0 (1)) (n := l1.length)
      have rr53 := ramp_len (k := kL rs0 (1) + (l1.length : Int)) (n := q1.length)
      refine MutS.mk' _ rfl _ rfl _ _ (markRat_m n1 l1 p1 q1 (kL rs0 (1)) (by omega) (by omega) (by omega)) ?_
      repeat refine vs ?_
      conv => whnf
      refine CallS.mk _ rfl true true _ (eqRatS_rfl rr0 hsrr0) rfl ?_
      repeat refine vs ?_
      conv => whnf
      have kb58 := kL_le (N := 1048576) (rs := rr0) (k := 1) (by omega) hsrr0.2
      have kc59 := hsrr0.1
      refine DeepS.mk rfl _ rfl _ _ (markRatS_d rr0 (1) (by omega) hsrr0) rfl ?_ ?_ ?_
      · simp [mkL_len]
      · repeat' (first | exact True.intro | refine ⟨rfl, ?_⟩)
      repeat refine vs ?_
      conv => whnf
      have hne : ¬ (kL rr0 (1) ≠ kL rr0 (1)) := by omega
      refine CallS.mk _ rfl true true _ (heldRatS_den rr0 (1) (by omega) hsrr0) rfl ?_
      repeat refine vs ?_
      conv => whnf
      refine CallS.mk _ rfl true true _ (toRatS_own rs0 hs0) rfl ?_
      repeat refine vs ?_
      conv => whnf
      refine CallS.mk _ rfl true true _ (toRat_den n1 l1 p1 q1 (by omega) (by omega)) rfl ?_
      repeat refine vs ?_
      conv => whnf
      refine CallS.mk _ rfl true true _ (dI) rfl ?_
      repeat refine vs ?_
      conv => whnf
      refine CallS.mk _ rfl true true _ (eqRatS_rfl rr0 hsrr0) rfl ?_
      repeat refine vs ?_
      conv => whnf
      refine CallS.mk _ rfl true true _ (heldRatS_den rr0 (1) (by omega) hsrr0) rfl ?_
      repeat refine vs ?_
      conv => whnf
      first | rfl | exact ⟨rfl, rfl⟩ | exact ⟨by simp [toRes], rfl⟩
end Go.Vx
