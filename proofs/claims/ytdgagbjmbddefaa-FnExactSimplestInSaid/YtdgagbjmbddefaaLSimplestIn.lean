/- The law SimplestIn, as a fact. -/
import Derived.Test.YtdgagbjmbddefaaR5
import Derived.Test.YtdgagbjmbddefaaC5R
set_option linter.unusedVariables false
set_option linter.unusedSectionVars false
set_option linter.unusedSimpArgs false
namespace Go.Vx
open Go.Proofs
set_option maxRecDepth 100000
set_option maxHeartbeats 4000000 in
theorem lawSimplestIn (n0 : Bool) (l0 : List Int) (p0 : Bool) (q0 : List Int) (n1 : Bool) (l1 : List Int) (p1 : Bool) (q1 : List Int) (hl0 : l0.length ≤ 9223372036854775807) (hq0 : q0.length ≤ 9223372036854775807) (hl1 : l1.length ≤ 9223372036854775807) (hq1 : q1.length ≤ 9223372036854775807) : D 14 [ratR n0 l0 p0 q0, ratR n1 l1 p1 q1] true (.one (bP true)) := by
  refine go Try.func14 rfl rfl ?_
  repeat refine vs ?_
  conv => whnf
  obtain ⟨s0, dz0, k0⟩ := szRat_den n0 l0 p0 q0 (1048576) (by omega) hl0 hq0
  refine CallS.mk _ rfl true true _ (dz0) rfl ?_
  repeat refine vs ?_
  conv => whnf
  by_cases c0 : s0 < 0
  · repeat refine vs ?_
    conv => whnf
    first | rfl | exact ⟨rfl, rfl⟩ | exact ⟨by simp [toRes], rfl⟩
  · have e0 := k0 c0
    repeat refine vs ?_
    conv => whnf
    obtain ⟨s1, dz1, k1⟩ := szRat_den n1 l1 p1 q1 (s0) (by omega) hl1 hq1
    refine CallS.mk _ rfl true true _ (dz1) rfl ?_
    repeat refine vs ?_
    conv => whnf
    by_cases c1 : s1 < 0
    · repeat refine vs ?_
      conv => whnf
      first | rfl | exact ⟨rfl, rfl⟩ | exact ⟨by simp [toRes], rfl⟩
    · have e1 := k1 c1
      repeat refine vs ?_
      conv => whnf
      obtain ⟨rn0, rl0, rp0, rq0, b1, mrl0, mrq0, dS, dI⟩ := simplestInBoth n0 l0 p0 q0 n1 l1 p1 q1 (by omega) (by omega) (by omega) (by omega)
      have hb1 : (b1 != b1) = false := by cases b1 <;> rfl
      refine CallS.mk _ rfl true false _ (toRat_den n0 l0 p0 q0 (by omega) (by omega)) rfl ?_
      repeat refine vs ?_
      conv => whnf
      refine CallS.mk _ rfl true false _ (toRat_den n1 l1 p1 q1 (by omega) (by omega)) rfl ?_
      repeat refine vs ?_
      conv => whnf
      refine CallS.mk _ rfl false false _ (dS) rfl ?_
      repeat refine vs ?_
      conv => whnf
      refine CallS.mk _ rfl true true _ (toRat_den n0 l0 p0 q0 (by omega) (by omega)) rfl ?_
      repeat refine vs ?_
      conv => whnf
      refine CallS.mk _ rfl true true _ (toRat_den n1 l1 p1 q1 (by omega) (by omega)) rfl ?_
      repeat refine vs ?_
      conv => whnf
      refine CallS.mk _ rfl true true _ (dI) rfl ?_
      repeat refine vs ?_
      conv => whnf
      refine CallS.mk _ rfl true true _ (eqRat_rfl rn0 rl0 rp0 rq0 (by omega) (by omega)) rfl ?_
      repeat refine vs ?_
      conv => whnf
      refine CallS.mk _ rfl true true _ (toRat_den n0 l0 p0 q0 (by omega) (by omega)) rfl ?_
      repeat refine vs ?_
      conv => whnf
      refine CallS.mk _ rfl true true _ (eqRat_rfl n0 l0 p0 q0 (by omega) (by omega)) rfl ?_
      repeat refine vs ?_
      conv => whnf
      refine CallS.mk _ rfl true true _ (toRat_den n1 l1 p1 q1 (by omega) (by omega)) rfl ?_
      repeat refine vs ?_
      conv => whnf
      refine CallS.mk _ rfl true true _ (eqRat_rfl n1 l1 p1 q1 (by omega) (by omega)) rfl ?_
      repeat refine vs ?_
      conv => whnf
      have rr47 := ramp_len (k := 1) (n := l0.length)
      have rr48 := ramp_len (k := 1 + (l0.length : Int)) (n := q0.length)
      refine MutS.mk _ rfl _ rfl _ _ (markRat_m n0 l0 p0 q0 (1) (by omega) (by omega) (by omega)) ?_
      repeat refine vs ?_
      conv => whnf
      have rr51 := ramp_len (k := 1 + (l0.length : Int) + (q0.length : Int)) (n := l1.length)
      have rr52 := ramp_len (k := 1 + (l0.length : Int) + (q0.length : Int) + (l1.length : Int)) (n := q1.length)
      refine MutS.mk _ rfl _ rfl _ _ (markRat_m n1 l1 p1 q1 (1 + (l0.length : Int) + (q0.length : Int)) (by omega) (by omega) (by omega)) ?_
      repeat refine vs ?_
      conv => whnf
      refine CallS.mk _ rfl true true _ (eqRat_rfl rn0 rl0 rp0 rq0 (by omega) (by omega)) rfl ?_
      repeat refine vs ?_
      conv => whnf
      have rr57 := ramp_len (k := 1) (n := rl0.length)
      have rr58 := ramp_len (k := 1 + (rl0.length : Int)) (n := rq0.length)
      refine MutS.mk _ rfl _ rfl _ _ (markRat_m rn0 rl0 rp0 rq0 (1) (by omega) (by omega) (by omega)) ?_
      repeat refine vs ?_
      conv => whnf
      have hne : ¬ (1 + (rl0.length : Int) + (rq0.length : Int) ≠ 1 + (rl0.length : Int) + (rq0.length : Int)) := by omega
      refine CallS.mk _ rfl true true _ (heldRat_den rn0 rl0.length rp0 rq0.length (1) (by omega) (by omega) (by omega)) rfl ?_
      repeat refine vs ?_
      conv => whnf
      refine CallS.mk _ rfl true true _ (toRat_den n0 l0 p0 q0 (by omega) (by omega)) rfl ?_
      repeat refine vs ?_
      conv => whnf
      refine CallS.mk _ rfl true true _ (toRat_den n1 l1 p1 q1 (by omega) (by omega)) rfl ?_
      repeat refine vs ?_
      conv => whnf
      refine CallS.mk _ rfl true true _ (dI) rfl ?_
      repeat refine vs ?_
      conv => whnf
      refine CallS.mk _ rfl true true _ (eqRat_rfl rn0 rl0 rp0 rq0 (by omega) (by omega)) rfl ?_
      repeat refine vs ?_
      conv => whnf
      refine CallS.mk _ rfl true true _ (heldRat_den rn0 rl0.length rp0 rq0.length (1) (by omega) (by omega) (by omega)) rfl ?_
      repeat refine vs ?_
      conv => whnf
      first | rfl | exact ⟨rfl, rfl⟩ | exact ⟨by simp [toRes], rfl⟩
end Go.Vx
