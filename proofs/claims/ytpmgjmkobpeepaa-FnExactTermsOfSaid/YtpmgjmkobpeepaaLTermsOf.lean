/- The law TermsOf, as a fact. -/
import Derived.Test.YtpmgjmkobpeepaaT3
set_option linter.unusedVariables false
set_option linter.unusedSectionVars false
set_option linter.unusedSimpArgs false
namespace Go.Vx
open Go.Proofs
set_option maxRecDepth 100000
set_option maxHeartbeats 4000000 in
theorem lawTermsOf (n0 : Bool) (l0 : List Int) (p0 : Bool) (q0 : List Int)  (hl0 : l0.length ≤ 9223372036854775807) (hq0 : q0.length ≤ 9223372036854775807) : D 3 [ratR n0 l0 p0 q0] true (.one (bP true)) := by
  refine go Try.func3 rfl rfl ?_
  repeat refine vs ?_
  conv => whnf
  obtain ⟨s0, dz0, k0⟩ := szRat_den n0 l0 p0 q0 (1048576) (by omega) hl0 hq0
  refine CallS.mk _ rfl true true _ (dz0) rfl ?_
  repeat refine vs ?_
  conv => whnf
  by_cases c0 : s0 < 0
  · repeat refine vs ?_
    conv => whnf
    first | rfl | exact ⟨rfl, rfl⟩ | exact ⟨by simp [toRes], rfl⟩
  · have e0 := k0 c0
    repeat refine vs ?_
    conv => whnf
    obtain ⟨rr0, b1, hsrr0, dS, dI⟩ := termsOfBoth n0 l0 p0 q0 (by omega) (by omega)
    have hb1 : (b1 != b1) = false := by cases b1 <;> rfl
    refine CallS.mk _ rfl true false _ (toRat_den n0 l0 p0 q0 (by omega) (by omega)) rfl ?_
    repeat refine vs ?_
    conv => whnf
    refine CallS.mk _ rfl false false _ (dS) rfl ?_
    repeat refine vs ?_
    conv => whnf
    refine CallS.mk _ rfl true true _ (toRat_den n0 l0 p0 q0 (by omega) (by omega)) rfl ?_
    repeat refine vs ?_
    conv => whnf
    refine CallS.mk _ rfl true true _ (dI) rfl ?_
    repeat refine vs ?_
    conv => whnf
    refine CallS.mk _ rfl true true _ (eqBigS_rfl rr0 hsrr0) rfl ?_
    repeat refine vs ?_
    conv => whnf
    refine CallS.mk _ rfl true true _ (toRat_den n0 l0 p0 q0 (by omega) (by omega)) rfl ?_
    repeat refine vs ?_
    conv => whnf
    refine CallS.mk _ rfl true true _ (eqRat_rfl n0 l0 p0 q0 (by omega) (by omega)) rfl ?_
    repeat refine vs ?_
    conv => whnf
    have rr30 := ramp_len (k := 1) (n := l0.length)
    have rr31 := ramp_len (k := 1 + (l0.length : Int)) (n := q0.length)
    refine MutS.mk' _ rfl _ rfl _ _ (markRat_m n0 l0 p0 q0 (1) (by omega) (by omega) (by omega)) ?_
    repeat refine vs ?_
    conv => whnf
    refine CallS.mk _ rfl true true _ (eqBigS_rfl rr0 hsrr0) rfl ?_
    repeat refine vs ?_
    conv => whnf
    have kb36 := kB_le (N := 1048576) (rs := rr0) (k := 1) (by omega) hsrr0.2
    have kc37 := hsrr0.1
    refine DeepS.mk rfl _ rfl _ _ (markBigS_d rr0 (1) (by omega) hsrr0) rfl ?_ ?_ ?_
    · simp [mkB_len]
    · repeat' (first | exact True.intro | refine ⟨rfl, ?_⟩)
    repeat refine vs ?_
    conv => whnf
    have hne : ¬ (kB rr0 (1) ≠ kB rr0 (1)) := by omega
    refine CallS.mk _ rfl true true _ (heldBigS_den rr0 (1) (by omega) hsrr0) rfl ?_
    repeat refine vs ?_
    conv => whnf
    refine CallS.mk _ rfl true true _ (toRat_den n0 l0 p0 q0 (by omega) (by omega)) rfl ?_
    repeat refine vs ?_
    conv => whnf
    refine CallS.mk _ rfl true true _ (dI) rfl ?_
    repeat refine vs ?_
    conv => whnf
    refine CallS.mk _ rfl true true _ (eqBigS_rfl rr0 hsrr0) rfl ?_
    repeat refine vs ?_
    conv => whnf
    refine CallS.mk _ rfl true true _ (heldBigS_den rr0 (1) (by omega) hsrr0) rfl ?_
    repeat refine vs ?_
    conv => whnf
    first | rfl | exact ⟨rfl, rfl⟩ | exact ⟨by simp [toRes], rfl⟩
end Go.Vx
