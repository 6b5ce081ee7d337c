/- The law RatText, as a fact. -/
import Derived.Test.YthholhhohlnlnaaDoorX4
import Derived.Test.YthholhhohlnlnaaDoorC5R
set_option linter.unusedVariables false
set_option linter.unusedSectionVars false
set_option linter.unusedSimpArgs false
namespace Go.Vx
open Go.Proofs
set_option maxRecDepth 100000
set_option maxHeartbeats 4000000 in
theorem lawRatText (n0 : Bool) (l0 : List Int) (p0 : Bool) (q0 : List Int)  (hl0 : l0.length ≤ 9223372036854775807) (hq0 : q0.length ≤ 9223372036854775807) : D 5 [ratR n0 l0 p0 q0] true (.one (bP true)) := by
  refine go Tryd.func5 rfl rfl ?_
  repeat refine vs ?_
  conv => whnf
  obtain ⟨s0, dz0, k0⟩ := szRat_den n0 l0 p0 q0 (1048576) (by omega) hl0 hq0
  refine CallS.mk _ rfl true true _ (dz0) rfl ?_
  repeat refine vs ?_
  conv => whnf
  by_cases c0 : s0 < 0
  · repeat refine vs ?_
    conv => whnf
    first | rfl | exact ⟨rfl, rfl⟩ | exact ⟨by simp [toRes], rfl⟩
  · have e0 := k0 c0
    repeat refine vs ?_
    conv => whnf
    obtain ⟨t0, b1, dS, dI⟩ := ratTextBoth n0 l0 p0 q0 (by omega) (by omega)
    have hb1 : (b1 != b1) = false := by cases b1 <;> rfl
    have ht0 : (!((strL t0).toList == (strL t0).toList)) = false := by simp
    refine CallS.mk _ rfl true false _ (toRat_den n0 l0 p0 q0 (by omega) (by omega)) rfl ?_
    repeat refine vs ?_
    conv => whnf
    refine CallS.mk _ rfl false false _ (dS) rfl ?_
    repeat refine vs ?_
    conv => whnf
    refine CallS.mk _ rfl true true _ (toRat_den n0 l0 p0 q0 (by omega) (by omega)) rfl ?_
    repeat refine vs ?_
    conv => whnf
    refine CallS.mk _ rfl true true _ (dI) rfl ?_
    repeat refine vs ?_
    conv => whnf
    refine CallS.mk _ rfl true true _ (toRat_den n0 l0 p0 q0 (by omega) (by omega)) rfl ?_
    repeat refine vs ?_
    conv => whnf
    refine CallS.mk _ rfl true true _ (eqRat_rfl n0 l0 p0 q0 (by omega) (by omega)) rfl ?_
    repeat refine vs ?_
    conv => whnf
    first | rfl | exact ⟨rfl, rfl⟩ | exact ⟨by simp [toRes], rfl⟩
end Go.Vx
