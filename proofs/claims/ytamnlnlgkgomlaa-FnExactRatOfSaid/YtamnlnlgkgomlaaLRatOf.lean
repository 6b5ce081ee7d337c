/- The law RatOf, as a fact. -/
import Derived.Test.YtamnlnlgkgomlaaR4
import Derived.Test.YtamnlnlgkgomlaaC5R
set_option linter.unusedVariables false
set_option linter.unusedSectionVars false
set_option linter.unusedSimpArgs false
namespace Go.Vx
open Go.Proofs
set_option maxRecDepth 100000
set_option maxHeartbeats 4000000 in
theorem lawRatOf (z0 : Int) (z1 : Int)  (zl0 : -9223372036854775808 ≤ z0) (zh0 : z0 ≤ 9223372036854775807) (zl1 : -9223372036854775808 ≤ z1) (zh1 : z1 ≤ 9223372036854775807): D 3 [iP z0, iP z1] true (.one (bP true)) := by
  refine go Try.func3 rfl rfl ?_
  repeat refine vs ?_
  conv => whnf
  obtain ⟨rn0, rl0, rp0, rq0, b1, mrl0, mrq0, dS, dI⟩ := ratOfBoth z0 z1 (by omega) (by omega) (by omega) (by omega)
  have hb1 : (b1 != b1) = false := by cases b1 <;> rfl
  refine CallS.mk _ rfl false false _ (dS) rfl ?_
  repeat refine vs ?_
  conv => whnf
  refine CallS.mk _ rfl true true _ (dI) rfl ?_
  repeat refine vs ?_
  conv => whnf
  refine CallS.mk _ rfl true true _ (eqRat_rfl rn0 rl0 rp0 rq0 (by omega) (by omega)) rfl ?_
  repeat refine vs ?_
  conv => whnf
  have rr15 := ramp_len (k := 1) (n := rl0.length)
  have rr16 := ramp_len (k := 1 + (rl0.length : Int)) (n := rq0.length)
  refine MutS.mk _ rfl _ rfl _ _ (markRat_m rn0 rl0 rp0 rq0 (1) (by omega) (by omega) (by omega)) ?_
  repeat refine vs ?_
  conv => whnf
  have hne : ¬ (1 + (rl0.length : Int) + (rq0.length : Int) ≠ 1 + (rl0.length : Int) + (rq0.length : Int)) := by omega
  refine CallS.mk _ rfl true true _ (heldRat_den rn0 rl0.length rp0 rq0.length (1) (by omega) (by omega) (by omega)) rfl ?_
  repeat refine vs ?_
  conv => whnf
  refine CallS.mk _ rfl true true _ (dI) rfl ?_
  repeat refine vs ?_
  conv => whnf
  refine CallS.mk _ rfl true true _ (eqRat_rfl rn0 rl0 rp0 rq0 (by omega) (by omega)) rfl ?_
  repeat refine vs ?_
  conv => whnf
  refine CallS.mk _ rfl true true _ (heldRat_den rn0 rl0.length rp0 rq0.length (1) (by omega) (by omega) (by omega)) rfl ?_
  repeat refine vs ?_
  conv => whnf
  first | rfl | exact ⟨rfl, rfl⟩ | exact ⟨by simp [toRes], rfl⟩
end Go.Vx
