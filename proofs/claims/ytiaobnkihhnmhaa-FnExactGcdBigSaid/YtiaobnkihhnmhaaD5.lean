/- The law GcdBig, as a fact. -/
import Derived.Test.YtiaobnkihhnmhaaC9
set_option linter.unusedVariables false
set_option linter.unusedSectionVars false
set_option linter.unusedSimpArgs false
namespace Go.Vx
open Go.Proofs
set_option maxRecDepth 100000
set_option maxHeartbeats 4000000 in
theorem lawGcdBig (n0 : Bool) (l0 : List Int) (n1 : Bool) (l1 : List Int) (hl0 : l0.length ≤ 9223372036854775807) (hl1 : l1.length ≤ 9223372036854775807) : D 11 [rawV n0 l0, rawV n1 l1] true (.one (bP true)) := by
  refine go Try.func11 rfl rfl ?_
  repeat refine vs ?_
  conv => whnf
  refine CallS.mk _ rfl true true _ (szBig_den n0 l0 _ (by omega) hl0) rfl ?_
  repeat refine vs ?_
  conv => whnf
  by_cases c0 : szR (1048576) l0.length < 0
  · repeat refine vs ?_
    conv => whnf
    first | rfl | exact ⟨rfl, rfl⟩ | exact ⟨by simp [toRes], rfl⟩
  · obtain ⟨k0, e0, f0, g0⟩ := szR_two (by omega) (by omega) c0
    repeat refine vs ?_
    conv => whnf
    refine CallS.mk _ rfl true true _ (szBig_den n1 l1 _ (by omega) hl1) rfl ?_
    repeat refine vs ?_
    conv => whnf
    by_cases c1 : szR (szR (1048576) l0.length) l1.length < 0
    · repeat refine vs ?_
      conv => whnf
      first | rfl | exact ⟨rfl, rfl⟩ | exact ⟨by simp [toRes], rfl⟩
    · obtain ⟨k1, e1, f1, g1⟩ := szR_two (by omega) (by omega) c1
      repeat refine vs ?_
      conv => whnf
      obtain ⟨rn0, rl0, b1, mrl0, dS, dI⟩ := gcdBoth n0 l0 n1 l1 (by omega) (by omega)
      have hb1 : (b1 != b1) = false := by cases b1 <;> rfl
      refine CallS.mk _ rfl true false _ (toBig_den n0 l0 (by omega)) rfl ?_
      repeat refine vs ?_
      conv => whnf
      refine CallS.mk _ rfl true false _ (toBig_den n1 l1 (by omega)) rfl ?_
      repeat refine vs ?_
      conv => whnf
      refine CallS.mk _ rfl false false _ (dS) rfl ?_
      repeat refine vs ?_
      conv => whnf
      refine CallS.mk _ rfl true true _ (toBig_den n0 l0 (by omega)) rfl ?_
      repeat refine vs ?_
      conv => whnf
      refine CallS.mk _ rfl true true _ (toBig_den n1 l1 (by omega)) rfl ?_
      repeat refine vs ?_
      conv => whnf
      refine CallS.mk _ rfl true true _ (dI) rfl ?_
      repeat refine vs ?_
      conv => whnf
      refine CallS.mk _ rfl true true _ (eqBig_rfl rn0 rl0 (by omega)) rfl ?_
      repeat refine vs ?_
      conv => whnf
      refine CallS.mk _ rfl true true _ (toBig_den n0 l0 (by omega)) rfl ?_
      repeat refine vs ?_
      conv => whnf
      refine CallS.mk _ rfl true true _ (eqBig_rfl n0 l0 (by omega)) rfl ?_
      repeat refine vs ?_
      conv => whnf
      refine CallS.mk _ rfl true true _ (toBig_den n1 l1 (by omega)) rfl ?_
      repeat refine vs ?_
      conv => whnf
      refine CallS.mk _ rfl true true _ (eqBig_rfl n1 l1 (by omega)) rfl ?_
      repeat refine vs ?_
      conv => whnf
      have rr44 := ramp_len (k := 1) (n := l0.length)
      refine MutS.mk _ rfl _ rfl _ _ (markBig_m n0 l0 (1) (by omega) (by omega)) ?_
      repeat refine vs ?_
      conv => whnf
      have rr47 := ramp_len (k := 1 + (l0.length : Int)) (n := l1.length)
      refine MutS.mk _ rfl _ rfl _ _ (markBig_m n1 l1 (1 + (l0.length : Int)) (by omega) (by omega)) ?_
      repeat refine vs ?_
      conv => whnf
      refine CallS.mk _ rfl true true _ (eqBig_rfl rn0 rl0 (by omega)) rfl ?_
      repeat refine vs ?_
      conv => whnf
      have rr52 := ramp_len (k := 1) (n := rl0.length)
      refine MutS.mk _ rfl _ rfl _ _ (markBig_m rn0 rl0 (1) (by omega) (by omega)) ?_
      repeat refine vs ?_
      conv => whnf
      have hne : ¬ (1 + (rl0.length : Int) ≠ 1 + (rl0.length : Int)) := by omega
      refine CallS.mk _ rfl true true _ (heldBig_den rn0 rl0.length (1) (by omega) (by omega)) rfl ?_
      repeat refine vs ?_
      conv => whnf
      refine CallS.mk _ rfl true true _ (toBig_den n0 l0 (by omega)) rfl ?_
      repeat refine vs ?_
      conv => whnf
      refine CallS.mk _ rfl true true _ (toBig_den n1 l1 (by omega)) rfl ?_
      repeat refine vs ?_
      conv => whnf
      refine CallS.mk _ rfl true true _ (dI) rfl ?_
      repeat refine vs ?_
      conv => whnf
      refine CallS.mk _ rfl true true _ (eqBig_rfl rn0 rl0 (by omega)) rfl ?_
      repeat refine vs ?_
      conv => whnf
      refine CallS.mk _ rfl true true _ (heldBig_den rn0 rl0.length (1) (by omega) (by omega)) rfl ?_
      repeat refine vs ?_
      conv => whnf
      first | rfl | exact ⟨rfl, rfl⟩ | exact ⟨by simp [toRes], rfl⟩
end Go.Vx
