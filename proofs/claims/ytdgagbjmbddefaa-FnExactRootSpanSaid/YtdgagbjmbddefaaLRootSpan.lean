/- The law RootSpan, as a fact. -/
import Derived.Test.YtdgagbjmbddefaaS6
import Derived.Test.YtdgagbjmbddefaaC5S
set_option linter.unusedVariables false
set_option linter.unusedSectionVars false
set_option linter.unusedSimpArgs false
namespace Go.Vx
open Go.Proofs
set_option maxRecDepth 100000
set_option maxHeartbeats 4000000 in
theorem lawRootSpan (n0 : Bool) (l0 : List Int) (p0 : Bool) (q0 : List Int) (z1 : Int) (hl0 : l0.length ≤ 9223372036854775807) (hq0 : q0.length ≤ 9223372036854775807) (zl1 : -9223372036854775808 ≤ z1) (zh1 : z1 ≤ 9223372036854775807): D 13 [ratR n0 l0 p0 q0, iP z1] true (.one (bP true)) := by
  refine go Try.func13 rfl rfl ?_
  repeat refine vs ?_
  conv => whnf
  obtain ⟨s0, dz0, k0⟩ := szRat_den n0 l0 p0 q0 (1048576) (by omega) hl0 hq0
  refine CallS.mk _ rfl true true _ (dz0) rfl ?_
  repeat refine vs ?_
  conv => whnf
  by_cases c0 : s0 < 0
  · repeat refine vs ?_
    conv => whnf
    first | rfl | exact ⟨rfl, rfl⟩ | exact ⟨by simp [toRes], rfl⟩
  · have e0 := k0 c0
    repeat refine vs ?_
    conv => whnf
    obtain ⟨rn0a, rl0a, rp0a, rq0a, rn0b, rl0b, rp0b, rq0b, b1, mrl0a, mrq0a, mrl0b, mrq0b, dS, dI⟩ := rootSpanBoth n0 l0 p0 q0 z1 (by omega) (by omega) (by omega) (by omega)
    have hb1 : (b1 != b1) = false := by cases b1 <;> rfl
    refine CallS.mk _ rfl true false _ (toRat_den n0 l0 p0 q0 (by omega) (by omega)) rfl ?_
    repeat refine vs ?_
    conv => whnf
    refine CallS.mk _ rfl false false _ (dS) rfl ?_
    repeat refine vs ?_
    conv => whnf
    refine CallS.mk _ rfl true true _ (toRat_den n0 l0 p0 q0 (by omega) (by omega)) rfl ?_
    repeat refine vs ?_
    conv => whnf
    refine CallS.mk _ rfl true true _ (dI) rfl ?_
    repeat refine vs ?_
    conv => whnf
    refine CallS.mk _ rfl true true _ (eqSpan_rfl rn0a rl0a rp0a rq0a rn0b rl0b rp0b rq0b (by omega) (by omega) (by omega) (by omega)) rfl ?_
    repeat refine vs ?_
    conv => whnf
    refine CallS.mk _ rfl true true _ (toRat_den n0 l0 p0 q0 (by omega) (by omega)) rfl ?_
    repeat refine vs ?_
    conv => whnf
    refine CallS.mk _ rfl true true _ (eqRat_rfl n0 l0 p0 q0 (by omega) (by omega)) rfl ?_
    repeat refine vs ?_
    conv => whnf
    have rr31 := ramp_len (k := 1) (n := l0.length)
    have rr32 := ramp_len (k := 1 + (l0.length : Int)) (n := q0.length)
    refine MutS.mk _ rfl _ rfl _ _ (markRat_m n0 l0 p0 q0 (1) (by omega) (by omega) (by omega)) ?_
    repeat refine vs ?_
    conv => whnf
    refine CallS.mk _ rfl true true _ (eqSpan_rfl rn0a rl0a rp0a rq0a rn0b rl0b rp0b rq0b (by omega) (by omega) (by omega) (by omega)) rfl ?_
    repeat refine vs ?_
    conv => whnf
    have rr37 := ramp_len (k := 1) (n := rl0a.length)
    have rr38 := ramp_len (k := 1 + (rl0a.length : Int)) (n := rq0a.length)
    have rr39 := ramp_len (k := 1 + (rl0a.length : Int) + (rq0a.length : Int)) (n := rl0b.length)
    have rr40 := ramp_len (k := 1 + (rl0a.length : Int) + (rq0a.length : Int) + (rl0b.length : Int)) (n := rq0b.length)
    refine MutS.mk _ rfl _ rfl _ _ (markSpan_m rn0a rl0a rp0a rq0a rn0b rl0b rp0b rq0b (1) (by omega) (by omega) (by omega) (by omega) (by omega)) ?_
    repeat refine vs ?_
    conv => whnf
    have hne : ¬ (1 + (rl0a.length : Int) + (rq0a.length : Int) + (rl0b.length : Int) + (rq0b.length : Int) ≠ 1 + (rl0a.length : Int) + (rq0a.length : Int) + (rl0b.length : Int) + (rq0b.length : Int)) := by omega
    refine CallS.mk _ rfl true true _ (heldSpan_den rn0a rl0a.length rp0a rq0a.length rn0b rl0b.length rp0b rq0b.length (1) (by omega) (by omega) (by omega) (by omega) (by omega)) rfl ?_
    repeat refine vs ?_
    conv => whnf
    refine CallS.mk _ rfl true true _ (toRat_den n0 l0 p0 q0 (by omega) (by omega)) rfl ?_
    repeat refine vs ?_
    conv => whnf
    refine CallS.mk _ rfl true true _ (dI) rfl ?_
    repeat refine vs ?_
    conv => whnf
    refine CallS.mk _ rfl true true _ (eqSpan_rfl rn0a rl0a rp0a rq0a rn0b rl0b rp0b rq0b (by omega) (by omega) (by omega) (by omega)) rfl ?_
    repeat refine vs ?_
    conv => whnf
    refine CallS.mk _ rfl true true _ (heldSpan_den rn0a rl0a.length rp0a rq0a.length rn0b rl0b.length rp0b rq0b.length (1) (by omega) (by omega) (by omega) (by omega) (by omega)) rfl ?_
    repeat refine vs ?_
    conv => whnf
    first | rfl | exact ⟨rfl, rfl⟩ | exact ⟨by simp [toRes], rfl⟩
end Go.Vx
