/- The law BigText, as a fact. -/
import Derived.Test.YthholhhohlnlnaaDoorX4
import Derived.Test.YthholhhohlnlnaaDoorCGa
set_option linter.unusedVariables false
set_option linter.unusedSectionVars false
set_option linter.unusedSimpArgs false
namespace Go.Vx
open Go.Proofs
set_option maxRecDepth 100000
set_option maxHeartbeats 4000000 in
theorem lawBigText (n0 : Bool) (l0 : List Int)  (hl0 : l0.length ≤ 9223372036854775807) : D 3 [rawV n0 l0] true (.one (bP true)) := by
  refine go Tryd.func3 rfl rfl ?_
  repeat refine vs ?_
  conv => whnf
  refine CallS.mk _ rfl true true _ (szBig_den n0 l0 _ (by omega) hl0) rfl ?_
  repeat refine vs ?_
  conv => whnf
  by_cases c0 : szR (1048576) l0.length < 0
  · repeat refine vs ?_
    conv => whnf
    first | rfl | exact ⟨rfl, rfl⟩ | exact ⟨by simp [toRes], rfl⟩
  · obtain ⟨k0, e0, f0, g0⟩ := szR_two (by omega) (by omega) c0
    repeat refine vs ?_
    conv => whnf
    obtain ⟨t0, b1, dS, dI⟩ := bigTextBoth n0 l0 (by omega)
    have hb1 : (b1 != b1) = false := by cases b1 <;> rfl
    have ht0 : (!((strL t0).toList == (strL t0).toList)) = false := by simp
    refine CallS.mk _ rfl true false _ (toBig_den n0 l0 (by omega)) rfl ?_
    repeat refine vs ?_
    conv => whnf
    refine CallS.mk _ rfl false false _ (dS) rfl ?_
    repeat refine vs ?_
    conv => whnf
    refine CallS.mk _ rfl true true _ (toBig_den n0 l0 (by omega)) rfl ?_
    repeat refine vs ?_
    conv => whnf
    refine CallS.mk _ rfl true true _ (dI) rfl ?_
    repeat refine vs ?_
    conv => whnf
    refine CallS.mk _ rfl true true _ (toBig_den n0 l0 (by omega)) rfl ?_
    repeat refine vs ?_
    conv => whnf
    refine CallS.mk _ rfl true true _ (eqBig_rfl n0 l0 (by omega)) rfl ?_
    repeat refine vs ?_
    conv => whnf
    first | rfl | exact ⟨rfl, rfl⟩ | exact ⟨by simp [toRes], rfl⟩
end Go.Vx
