/- The law FromTerms, as a fact. -/
import Derived.Test.YtpmgjmkobpeepaaT4
set_option linter.unusedVariables false
set_option linter.unusedSectionVars false
set_option linter.unusedSimpArgs false
namespace Go.Vx
open Go.Proofs
set_option maxRecDepth 100000
set_option maxHeartbeats 4000000 in
theorem lawFromTerms (rs0 : List RawB) (hrs0 : shortB 9223372036854775807 rs0)  : D 4 [bigsQ rs0] true (.one (bP true)) := by
  refine go Try.func4 rfl rfl ?_
  repeat refine vs ?_
  conv => whnf
  obtain ⟨s0, dz0, k0⟩ := szBigS_den rs0 (1048576) (by omega) hrs0
  refine CallS.mk _ rfl true true _ (dz0) rfl ?_
  repeat refine vs ?_
  conv => whnf
  by_cases c0 : s0 < 0
  · repeat refine vs ?_
    conv => whnf
    first | rfl | exact ⟨rfl, rfl⟩ | exact ⟨by simp [toRes], rfl⟩
  · obtain ⟨hs0, e0, f0⟩ := k0 c0
    repeat refine vs ?_
    conv => whnf
    obtain ⟨rn0, rl0, rp0, rq0, b1, mrl0, mrq0, dS, dI⟩ := fromTermsBoth rs0 hs0
    have hb1 : (b1 != b1) = false := by cases b1 <;> rfl
    refine CallS.mk _ rfl false false _ (toBigS_den rs0 hs0) rfl ?_
    repeat refine vs ?_
    conv => whnf
    refine CallS.mk _ rfl false false _ (dS) rfl ?_
    repeat refine vs ?_
    conv => whnf
    refine CallS.mk _ rfl true true _ (toBigS_own rs0 hs0) rfl ?_
    repeat refine vs ?_
    conv => whnf
    refine CallS.mk _ rfl true true _ (dI) rfl ?_
    repeat refine vs ?_
    conv => whnf
    refine CallS.mk _ rfl true true _ (eqRat_rfl rn0 rl0 rp0 rq0 (by omega) (by omega)) rfl ?_
    repeat refine vs ?_
    conv => whnf
    refine CallS.mk _ rfl true true _ (toBigS_own rs0 hs0) rfl ?_
    repeat refine vs ?_
    conv => whnf
    refine CallS.mk _ rfl true true _ (eqBigS_rfl rs0 hs0) rfl ?_
    repeat refine vs ?_
    conv => whnf
    have kb30 := kB_le (N := 1048576) (rs := rs0) (k := 1) (by omega) hs0.2
    have kc31 := hs0.1
    refine DeepS.mk rfl _ rfl _ _ (markBigS_d rs0 (1) (by omega) hs0) rfl ?_ ?_ ?_
    · simp [mkB_len]
    · repeat' (first | exact True.intro | refine ⟨rfl, ?_⟩)
    repeat refine vs ?_
    conv => whnf
    refine CallS.mk _ rfl true true _ (eqRat_rfl rn0 rl0 rp0 rq0 (by omega) (by omega)) rfl ?_
    repeat refine vs ?_
    conv => whnf
    have rr38 := ramp_len (k := 1) (n := rl0.length)
    have rr39 := ramp_len (k := 1 + (rl0.length : Int)) (n := rq0.length)
    refine MutS.mk' _ rfl _ rfl _ _ (markRat_m rn0 rl0 rp0 rq0 (1) (by omega) (by omega) (by omega)) ?_
    repeat refine vs ?_
    conv => whnf
    have hne : ¬ (1 + (rl0.length : Int) + (rq0.length : Int) ≠ 1 + (rl0.length : Int) + (rq0.length : Int)) := by omega
    refine CallS.mk _ rfl true true _ (heldRat_den rn0 rl0.length rp0 rq0.length (1) (by omega) (by omega) (by omega)) rfl ?_
    repeat refine vs ?_
    conv => whnf
    refine CallS.mk _ rfl true true _ (toBigS_own rs0 hs0) rfl ?_
    repeat refine vs ?_
    conv => whnf
    refine CallS.mk _ rfl true true _ (dI) rfl ?_
    repeat refine vs ?_
    conv => whnf
    refine CallS.mk _ rfl true true _ (eqRat_rfl rn0 rl0 rp0 rq0 (by omega) (by omega)) rfl ?_
    repeat refine vs ?_
    conv => whnf
    refine CallS.mk _ rfl true true _ (heldRat_den rn0 rl0.length rp0 rq0.length (1) (by omega) (by omega) (by omega)) rfl ?_
    repeat refine vs ?_
    conv => whnf
    first | rfl | exact ⟨rfl, rfl⟩ | exact ⟨by simp [toRes], rfl⟩
end Go.Vx
