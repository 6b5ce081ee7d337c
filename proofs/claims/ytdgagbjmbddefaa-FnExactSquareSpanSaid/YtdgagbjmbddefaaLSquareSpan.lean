/- The law SquareSpan, as a fact. -/
import Derived.Test.YtdgagbjmbddefaaS4
import Derived.Test.YtdgagbjmbddefaaC5S
set_option linter.unusedVariables false
set_option linter.unusedSectionVars false
set_option linter.unusedSimpArgs false
namespace Go.Vx
open Go.Proofs
set_option maxRecDepth 100000
set_option maxHeartbeats 4000000 in
theorem lawSquareSpan (n0a : Bool) (l0a : List Int) (p0a : Bool) (q0a : List Int) (n0b : Bool) (l0b : List Int) (p0b : Bool) (q0b : List Int) (hl0a : l0a.length ≤ 9223372036854775807) (hq0a : q0a.length ≤ 9223372036854775807) (hl0b : l0b.length ≤ 9223372036854775807) (hq0b : q0b.length ≤ 9223372036854775807) : D 10 [spanR n0a l0a p0a q0a n0b l0b p0b q0b] true (.one (bP true)) := by
  refine go Try.func10 rfl rfl ?_
  repeat refine vs ?_
  conv => whnf
  obtain ⟨s0, dz0, k0⟩ := szSpan_den n0a l0a p0a q0a n0b l0b p0b q0b (1048576) (by omega) hl0a hq0a hl0b hq0b
  refine CallS.mk _ rfl true true _ (dz0) rfl ?_
  repeat refine vs ?_
  conv => whnf
  by_cases c0 : s0 < 0
  · repeat refine vs ?_
    conv => whnf
    first | rfl | exact ⟨rfl, rfl⟩ | exact ⟨by simp [toRes], rfl⟩
  · have e0 := k0 c0
    repeat refine vs ?_
    conv => whnf
    obtain ⟨rn0a, rl0a, rp0a, rq0a, rn0b, rl0b, rp0b, rq0b, b1, mrl0a, mrq0a, mrl0b, mrq0b, dS, dI⟩ := squareSpanBoth n0a l0a p0a q0a n0b l0b p0b q0b (by omega) (by omega) (by omega) (by omega)
    have hb1 : (b1 != b1) = false := by cases b1 <;> rfl
    refine CallS.mk _ rfl true false _ (toSpan_den n0a l0a p0a q0a n0b l0b p0b q0b (by omega) (by omega) (by omega) (by omega)) rfl ?_
    repeat refine vs ?_
    conv => whnf
    refine CallS.mk _ rfl false false _ (dS) rfl ?_
    repeat refine vs ?_
    conv => whnf
    refine CallS.mk _ rfl true true _ (toSpan_den n0a l0a p0a q0a n0b l0b p0b q0b (by omega) (by omega) (by omega) (by omega)) rfl ?_
    repeat refine vs ?_
    conv => whnf
    refine CallS.mk _ rfl true true _ (dI) rfl ?_
    repeat refine vs ?_
    conv => whnf
    refine CallS.mk _ rfl true true _ (eqSpan_rfl rn0a rl0a rp0a rq0a rn0b rl0b rp0b rq0b (by omega) (by omega) (by omega) (by omega)) rfl ?_
    repeat refine vs ?_
    conv => whnf
    refine CallS.mk _ rfl true true _ (toSpan_den n0a l0a p0a q0a n0b l0b p0b q0b (by omega) (by omega) (by omega) (by omega)) rfl ?_
    repeat refine vs ?_
    conv => whnf
    refine CallS.mk _ rfl true true _ (eqSpan_rfl n0a l0a p0a q0a n0b l0b p0b q0b (by omega) (by omega) (by omega) (by omega)) rfl ?_
    repeat refine vs ?_
    conv => whnf
    have rr31 := ramp_len (k := 1) (n := l0a.length)
    have rr32 := ramp_len (k := 1 + (l0a.length : Int)) (n := q0a.length)
    have rr33 := ramp_len (k := 1 + (l0a.length : Int) + (q0a.length : Int)) (n := l0b.length)
    have rr34 := ramp_len (k := 1 + (l0a.length : Int) + (q0a.length : Int) + (l0b.length : Int)) (n := q0b.length)
    refine MutS.mk _ rfl _ rfl _ _ (markSpan_m n0a l0a p0a q0a n0b l0b p0b q0b (1) (by omega) (by omega) (by omega) (by omega) (by omega)) ?_
    repeat refine vs ?_
    conv => whnf
    refine CallS.mk _ rfl true true _ (eqSpan_rfl rn0a rl0a rp0a rq0a rn0b rl0b rp0b rq0b (by omega) (by omega) (by omega) (by omega)) rfl ?_
    repeat refine vs ?_
    conv => whnf
    have rr39 := ramp_len (k := 1) (n := rl0a.length)
    have rr40 := ramp_len (k := 1 + (rl0a.length : Int)) (n := rq0a.length)
    have rr41 := ramp_len (k := 1 + (rl0a.length : Int) + (rq0a.length : Int)) (n := rl0b.length)
    have rr42 := ramp_len (k := 1 + (rl0a.length : Int) + (rq0a.length : Int) + (rl0b.length : Int)) (n := rq0b.length)
    refine MutS.mk _ rfl _ rfl _ _ (markSpan_m rn0a rl0a rp0a rq0a rn0b rl0b rp0b rq0b (1) (by omega) (by omega) (by omega) (by omega) (by omega)) ?_
    repeat refine vs ?_
    conv => whnf
    have hne : ¬ (1 + (rl0a.length : Int) + (rq0a.length : Int) + (rl0b.length : Int) + (rq0b.length : Int) ≠ 1 + (rl0a.length : Int) + (rq0a.length : Int) + (rl0b.length : Int) + (rq0b.length : Int)) := by omega
    refine CallS.mk _ rfl true true _ (heldSpan_den rn0a rl0a.length rp0a rq0a.length rn0b rl0b.length rp0b rq0b.length (1) (by omega) (by omega) (by omega) (by omega) (by omega)) rfl ?_
    repeat refine vs ?_
    conv => whnf
    refine CallS.mk _ rfl true true _ (toSpan_den n0a l0a p0a q0a n0b l0b p0b q0b (by omega) (by omega) (by omega) (by omega)) rfl ?_
    repeat refine vs ?_
    conv => whnf
    refine CallS.mk _ rfl true true _ (dI) rfl ?_
    repeat refine vs ?_
    conv => whnf
    refine CallS.mk _ rfl true true _ (eqSpan_rfl rn0a rl0a rp0a rq0a rn0b rl0b rp0b rq0b (by omega) (by omega) (by omega) (by omega)) rfl ?_
    repeat refine vs ?_
    conv => whnf
    refine CallS.mk _ rfl true true _ (heldSpan_den rn0a rl0a.length rp0a rq0a.length rn0b rl0b.length rp0b rq0b.length (1) (by omega) (by omega) (by omega) (by omega) (by omega)) rfl ?_
    repeat refine vs ?_
    conv => whnf
    first | rfl | exact ⟨rfl, rfl⟩ | exact ⟨by simp [toRes], rfl⟩
end Go.Vx
