/- The law DivBig, as a fact. -/
import Derived.Test.YtiaobnkihhnmhaaC9
set_option linter.unusedVariables false
set_option linter.unusedSectionVars false
set_option linter.unusedSimpArgs false
namespace Go.Vx
open Go.Proofs
set_option maxRecDepth 100000
set_option maxHeartbeats 4000000 in
theorem lawDivBig (n0 : Bool) (l0 : List Int) (n1 : Bool) (l1 : List Int) (hl0 : l0.length ≤ 9223372036854775807) (hl1 : l1.length ≤ 9223372036854775807) : D 12 [rawV n0 l0, rawV n1 l1] true (.one (bP true)) := by
  refine go Try.func12 rfl rfl ?_
  repeat refine vs ?_
  conv => whnf
  refine CallS.mk _ rfl true true _ (szBig_den n0 l0 _ (by omega) hl0) rfl ?_
  repeat refine vs ?_
  conv => whnf
  by_cases c0 : szR (1048576) l0.length < 0
  · repeat refine vs ?_
    conv => whnf
    first | rfl | exact ⟨rfl, rfl⟩ | exact ⟨by simp [toRes], rfl⟩
  · obtain ⟨k0, e0, f0, g0⟩ := szR_two (by omega) (by omega) c0
    repeat refine vs ?_
    conv => whnf
    refine CallS.mk _ rfl true true _ (szBig_den n1 l1 _ (by omega) hl1) rfl ?_
    repeat refine vs ?_
    conv => whnf
    by_cases c1 : szR (szR (1048576) l0.length) l1.length < 0
    · repeat refine vs ?_
      conv => whnf
      first | rfl | exact ⟨rfl, rfl⟩ | exact ⟨by simp [toRes], rfl⟩
    · obtain ⟨k1, e1, f1, g1⟩ := szR_two (by omega) (by omega) c1
      repeat refine vs ?_
      conv => whnf
      obtain ⟨rn0, rl0, rn1, rl1, b2, mrl0, mrl1, dS, dI⟩ := divBoth n0 l0 n1 l1 (by omega) (by omega)
      have hb2 : (b2 != b2) = false := by cases b2 <;> rfl
      refine CallS.mk _ rfl true false _ (toBig_den n0 l0 (by omega)) rfl ?_
      repeat refine vs ?_
      conv => whnf
      refine CallS.mk _ rfl true false _ (toBig_den n1 l1 (by omega)) rfl ?_
      repeat refine vs ?_
      conv => whnf
      refine CallS.mk _ rfl false false _ (dS) rfl ?_
      repeat refine vs ?_
      conv => whnf
      refine CallS.mk _ rfl true true _ (toBig_den n0 l0 (by omega)) rfl ?_
      repeat refine vs ?_
      conv => whnf
      refine CallS.mk _ rfl true true _ (toBig_den n1 l1 (by omega)) rfl ?_
      repeat refine vs ?_
      conv => whnf
      refine CallS.mk _ rfl true true _ (dI) rfl ?_
      repeat refine vs ?_
      conv => whnf
      refine CallS.mk _ rfl true true _ (eqBig_rfl rn0 rl0 (by omega)) rfl ?_
      repeat refine vs ?_
      conv => whnf
      refine CallS.mk _ rfl true true _ (eqBig_rfl rn1 rl1 (by omega)) rfl ?_
      repeat refine vs ?_
      conv => whnf
      refine CallS.mk _ rfl true true _ (toBig_den n0 l0 (by omega)) rfl ?_
      repeat refine vs ?_
      conv => whnf
      refine CallS.mk _ rfl true true _ (eqBig_rfl n0 l0 (by omega)) rfl ?_
      repeat refine vs ?_
      conv => whnf
      refine CallS.mk _ rfl true true _ (toBig_den n1 l1 (by omega)) rfl ?_
      repeat refine vs ?_
      conv => whnf
      refine CallS.mk _ rfl true true _ (eqBig_rfl n1 l1 (by omega)) rfl ?_
      repeat refine vs ?_
      conv => whnf
      have rr46 := ramp_len (k := 1) (n := l0.length)
      refine MutS.mk _ rfl _ rfl _ _ (markBig_m n0 l0 (1) (by omega) (by omega)) ?_
      repeat refine vs ?_
      conv => whnf
      have rr49 := ramp_len (k := 1 + (l0.length : Int)) (n := l1.length)
      refine MutS.mk _ rfl _ rfl _ _ (markBig_m n1 l1 (1 + (l0.length : Int)) (by omega) (by omega)) ?_
      repeat refine vs ?_
      conv => whnf
      refine CallS.mk _ rfl true true _ (eqBig_rfl rn0 rl0 (by omega)) rfl ?_
      repeat refine vs ?_
      conv => whnf
      refine CallS.mk _ rfl true true _ (eqBig_rfl rn1 rl1 (by omega)) rfl ?_
      repeat refine vs ?_
      conv => whnf
      have rr56 := ramp_len (k := 1) (n := rl0.length)
      refine MutS.mk _ rfl _ rfl _ _ (markBig_m rn0 rl0 (1) (by omega) (by omega)) ?_
      repeat refine vs ?_
      conv => whnf
      have rr59 := ramp_len (k := 1 + (rl0.length : Int)) (n := rl1.length)
      refine MutS.mk _ rfl _ rfl _ _ (markBig_m rn1 rl1 (1 + (rl0.length : Int)) (by omega) (by omega)) ?_
      repeat refine vs ?_
      conv => whnf
      have hne : ¬ (1 + (rl0.length : Int) + (rl1.length : Int) ≠ 1 + (rl0.length : Int) + (rl1.length : Int)) := by omega
      refine CallS.mk _ rfl true true _ (heldBig_den rn0 rl0.length (1) (by omega) (by omega)) rfl ?_
      repeat refine vs ?_
      conv => whnf
      refine CallS.mk _ rfl true true _ (heldBig_den rn1 rl1.length (1 + (rl0.length : Int)) (by omega) (by omega)) rfl ?_
      repeat refine vs ?_
      conv => whnf
      refine CallS.mk _ rfl true true _ (toBig_den n0 l0 (by omega)) rfl ?_
      repeat refine vs ?_
      conv => whnf
      refine CallS.mk _ rfl true true _ (toBig_den n1 l1 (by omega)) rfl ?_
      repeat refine vs ?_
      conv => whnf
      refine CallS.mk _ rfl true true _ (dI) rfl ?_
      repeat refine vs ?_
      conv => whnf
      refine CallS.mk _ rfl true true _ (eqBig_rfl rn0 rl0 (by omega)) rfl ?_
      repeat refine vs ?_
      conv => whnf
      refine CallS.mk _ rfl true true _ (eqBig_rfl rn1 rl1 (by omega)) rfl ?_
      repeat refine vs ?_
      conv => whnf
      refine CallS.mk _ rfl true true _ (heldBig_den rn0 rl0.length (1) (by omega) (by omega)) rfl ?_
      repeat refine vs ?_
      conv => whnf
      refine CallS.mk _ rfl true true _ (heldBig_den rn1 rl1.length (1 + (rl0.length : Int)) (by omega) (by omega)) rfl ?_
      repeat refine vs ?_
      conv => whnf
      first | rfl | exact ⟨rfl, rfl⟩ | exact ⟨by simp [toRes], rfl⟩
end Go.Vx
