/- The law DivPoly, as a fact. -/
import Derived.Test.YtpmgjmkobpeepaaGreatQ13
set_option linter.unusedVariables false
set_option linter.unusedSectionVars false
set_option linter.unusedSimpArgs false
namespace Go.Vx
open Go.Proofs
set_option maxRecDepth 100000
set_option maxHeartbeats 4000000 in
theorem lawDivPoly (rs0 : List RawQ) (rs1 : List RawQ) (hrs0 : shortP 9223372036854775807 rs0) (hrs1 : shortP 9223372036854775807 rs1)  : D 3 [polQ rs0, polQ rs1] true (.one (bP true)) := by
  refine go Tryz.func3 rfl rfl ?_
  repeat refine vs ?_
  conv => whnf
  obtain ⟨s0, dz0, k0⟩ := szRatS_den rs0 (1048576) (by omega) hrs0
  refine CallS.mk _ rfl true true _ (dz0) rfl ?_
  repeat refine vs ?_
  conv => whnf
  by_cases c0 : s0 < 0
  · repeat refine vs ?_
    conv => whnf
    first | rfl | exact ⟨rfl, rfl⟩ | exact ⟨by simp [toRes], rfl⟩
  · obtain ⟨hs0, e0, f0⟩ := k0 c0
    repeat refine vs ?_
    conv => whnf
    obtain ⟨s1, dz1, k1⟩ := szRatS_den rs1 (s0) (by omega) hrs1
    refine CallS.mk _ rfl true true _ (dz1) rfl ?_
    repeat refine vs ?_
    conv => whnf
    by_cases c1 : s1 < 0
    · repeat refine vs ?_
      conv => whnf
      first | rfl | exact ⟨rfl, rfl⟩ | exact ⟨by simp [toRes], rfl⟩
    · obtain ⟨hs1, e1, f1⟩ := k1 c1
      repeat refine vs ?_
      conv => whnf
      obtain ⟨rr0, rr1, b2, hsrr0, hsrr1, dS, dI⟩ := divPolyBoth rs0 rs1 hs0 hs1
      have hb2 : (b2 != b2) = false := by cases b2 <;> rfl
      refine CallS.mk _ rfl false false _ (toRatS_den rs0 hs0) rfl ?_
      repeat refine vs ?_
      conv => whnf
      refine CallS.mk _ rfl false false _ (toRatS_den rs1 hs1) rfl ?_
      repeat refine vs ?_
      conv => whnf
      refine CallS.mk _ rfl false false _ (dS) rfl ?_
      repeat refine vs ?_
      conv => whnf
      refine CallS.mk _ rfl true true _ (toRatS_own rs0 hs0) rfl ?_
      repeat refine vs ?_
      conv => whnf
      refine CallS.mk _ rfl true true _ (toRatS_own rs1 hs1) rfl ?_
      repeat refine vs ?_
      conv => whnf
      refine CallS.mk _ rfl true true _ (dI) rfl ?_
      repeat refine vs ?_
      conv => whnf
      refine CallS.mk _ rfl true true _ (eqRatS_rfl rr0 hsrr0) rfl ?_
      repeat refine vs ?_
      conv => whnf
      refine CallS.mk _ rfl true true _ (eqRatS_rfl rr1 hsrr1) rfl ?_
      repeat refine vs ?_
      conv => whnf
      refine CallS.mk _ rfl true true _ (toRatS_own rs0 hs0) rfl ?_
      repeat refine vs ?_
      conv => whnf
      refine CallS.mk _ rfl true true _ (eqRatS_rfl rs0 hs0) rfl ?_
      repeat refine vs ?_
      conv => whnf
      refine CallS.mk _ rfl true true _ (toRatS_own rs1 hs1) rfl ?_
      repeat refine vs ?_
      conv => whnf
      refine CallS.mk _ rfl true true _ (eqRatS_rfl rs1 hs1) rfl ?_
      repeat refine vs ?_
      conv => whnf
      have kb48 := kL_le (N := 1048576) (rs := rs0) (k := 1) (by omega) hs0.2
      have kc49 := hs0.1
      refine DeepS.mk rfl _ rfl _ _ (markRatS_d rs0 (1) (by omega) hs0) rfl ?_ ?_ ?_
      · simp [mkL_len]
      · repeat' (first | exact True.intro | refine ⟨rfl, ?_⟩)
      repeat refine vs ?_
      conv => whnf
      have kb54 := kL_le (N := 1048576) (rs := rs1) (k := kL rs0 (1)) (by omega) hs1.2
      have kc55 := hs1.1
      refine DeepS.mk rfl _ rfl _ _ (markRatS_d rs1 (kL rs0 (1)) (by omega) hs1) rfl ?_ ?_ ?_
      · simp [mkL_len]
      · repeat' (first | exact True.intro | refine ⟨rfl, ?_⟩)
      repeat refine vs ?_
      conv => whnf
      refine CallS.mk _ rfl true true _ (eqRatS_rfl rr0 hsrr0) rfl ?_
      repeat refine vs ?_
      conv => whnf
      refine CallS.mk _ rfl true true _ (eqRatS_rfl rr1 hsrr1) rfl ?_
      repeat refine vs ?_
      conv => whnf
      have kb64 := kL_le (N := 1048576) (rs := rr0) (k := 1) (by omega) hsrr0.2
      have kc65 := hsrr0.1
      refine DeepS.mk rfl _ rfl _ _ (markRatS_d rr0 (1) (by omega) hsrr0) rfl ?_ ?_ ?_
      · simp [mkL_len]
      · repeat' (first | exact True.intro | refine ⟨rfl, ?_⟩)
      repeat refine vs ?_
      conv => whnf
      have kb70 := kL_le (N := 1048576) (rs := rr1) (k := kL rr0 (1)) (by omega) hsrr1.2
      have kc71 := hsrr1.1
      refine DeepS.mk rfl _ rfl _ _ (markRatS_d rr1 (kL rr0 (1)) (by omega) hsrr1) rfl ?_ ?_ ?_
      · simp [mkL_len]
      · repeat' (first | exact True.intro | refine ⟨rfl, ?_⟩)
      repeat refine vs ?_
      conv => whnf
      have hne : ¬ (kL rr1 (kL rr0 (1)) ≠ kL rr1 (kL rr0 (1))) := by omega
      refine CallS.mk _ rfl true true _ (heldRatS_den rr0 (1) (by omega) hsrr0) rfl ?_
      repeat refine vs ?_
      conv => whnf
      refine CallS.mk _ rfl true true _ (heldRatS_den rr1 (kL rr0 (1)) (by omega) hsrr1) rfl ?_
      repeat refine vs ?_
      conv => whnf
      refine CallS.mk _ rfl true true _ (toRatS_own rs0 hs0) rfl ?_
      repeat refine vs ?_
      conv => whnf
      refine CallS.mk _ rfl true true _ (toRatS_own rs1 hs1) rfl ?_
      repeat refine vs ?_
      conv => whnf
      refine CallS.mk _ rfl true true _ (dI) rfl ?_
      repeat refine vs ?_
      conv => whnf
      refine CallS.mk _ rfl true true _ (eqRatS_rfl rr0 hsrr0) rfl ?_
      repeat refine vs ?_
      conv => whnf
      refine CallS.mk _ rfl true true _ (eqRatS_rfl rr1 hsrr1) rfl ?_
      repeat refine vs ?_
      conv => whnf
      refine CallS.mk _ rfl true true _ (heldRatS_den rr0 (1) (by omega) hsrr0) rfl ?_
      repeat refine vs ?_
      conv => whnf
      refine CallS.mk _ rfl true true _ (heldRatS_den rr1 (kL rr0 (1)) (by omega) hsrr1) rfl ?_
      repeat refine vs ?_
      conv => whnf
      first | rfl | exact ⟨rfl, rfl⟩ | exact ⟨by simp [toRes], rfl⟩
end Go.Vx
