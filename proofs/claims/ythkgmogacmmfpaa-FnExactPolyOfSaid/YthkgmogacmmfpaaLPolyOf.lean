/- The law PolyOf, as a fact. -/
import Derived.Test.YthkgmogacmmfpaaP11
set_option linter.unusedVariables false
set_option linter.unusedSectionVars false
set_option linter.unusedSimpArgs false
namespace Go.Vx
open Go.Proofs
set_option maxRecDepth 100000
set_option maxHeartbeats 4000000 in
theorem lawPolyOf (l0 : List Int) (hl0 : l0.length ≤ 9223372036854775807) : D 8 [lP l0] true (.one (bP true)) := by
  refine go Try.func8 rfl rfl ?_
  repeat refine vs ?_
  conv => whnf
  by_cases c0 : (l0.length : Int) > 1048576
  · repeat refine vs ?_
    conv => whnf
    first | rfl | exact ⟨rfl, rfl⟩ | exact ⟨by simp [toRes], rfl⟩
  · have hl : l0.length ≤ 1048576 := by omega
    have hE := eqIntS_den l0 l0 (by omega) (by omega)
    rw [decide_eq_true rfl] at hE
    repeat refine vs ?_
    conv => whnf
    obtain ⟨rr0, b1, hsrr0, dS, dI⟩ := polyOfBoth l0 hl
    have hb1 : (b1 != b1) = false := by cases b1 <;> rfl
    refine CallS.mk _ rfl true false _ (toIntS_den l0 (by omega)) rfl ?_
    repeat refine vs ?_
    conv => whnf
    refine CallS.mk _ rfl false false _ (dS) rfl ?_
    repeat refine vs ?_
    conv => whnf
    refine CallS.mk _ rfl true true _ (toIntS_den l0 (by omega)) rfl ?_
    repeat refine vs ?_
    conv => whnf
    refine CallS.mk _ rfl true true _ (dI) rfl ?_
    repeat refine vs ?_
    conv => whnf
    refine CallS.mk _ rfl true true _ (eqRatS_rfl rr0 hsrr0) rfl ?_
    repeat refine vs ?_
    conv => whnf
    refine CallS.mk _ rfl true true _ (toIntS_den l0 (by omega)) rfl ?_
    repeat refine vs ?_
    conv => whnf
    refine CallS.mk _ rfl true true _ (hE) rfl ?_
    repeat refine vs ?_
    conv => whnf
    have rr1 := ramp_len (k := 1) (n := l0.length)
    refine MutS.mk' _ rfl _ rfl _ _ (markIntS_m l0 (1) (by omega) (by omega)) ?_
    repeat refine vs ?_
    conv => whnf
    refine CallS.mk _ rfl true true _ (eqRatS_rfl rr0 hsrr0) rfl ?_
    repeat refine vs ?_
    conv => whnf
    have kb38 := kL_le (N := 1048576) (rs := rr0) (k := 1) (by omega) hsrr0.2
    have kc39 := hsrr0.1
    refine DeepS.mk rfl _ rfl _ _ (markRatS_d rr0 (1) (by omega) hsrr0) rfl ?_ ?_ ?_
    · simp [mkL_len]
    · repeat' (first | exact True.intro | refine ⟨rfl, ?_⟩)
    repeat refine vs ?_
    conv => whnf
    have hne : ¬ (kL rr0 (1) ≠ kL rr0 (1)) := by omega
    refine CallS.mk _ rfl true true _ (heldRatS_den rr0 (1) (by omega) hsrr0) rfl ?_
    repeat refine vs ?_
    conv => whnf
    refine CallS.mk _ rfl true true _ (toIntS_den l0 (by omega)) rfl ?_
    repeat refine vs ?_
    conv => whnf
    refine CallS.mk _ rfl true true _ (dI) rfl ?_
    repeat refine vs ?_
    conv => whnf
    refine CallS.mk _ rfl true true _ (eqRatS_rfl rr0 hsrr0) rfl ?_
    repeat refine vs ?_
    conv => whnf
    refine CallS.mk _ rfl true true _ (heldRatS_den rr0 (1) (by omega) hsrr0) rfl ?_
    repeat refine vs ?_
    conv => whnf
    first | rfl | exact ⟨rfl, rfl⟩ | exact ⟨by simp [toRes], rfl⟩
end Go.Vx
