/- The law ReadBig, as a fact. -/
import Derived.Test.YthholhhohlnlnaaDoorX5
import Derived.Test.YthholhhohlnlnaaDoorCGa
set_option linter.unusedVariables false
set_option linter.unusedSectionVars false
set_option linter.unusedSimpArgs false
namespace Go.Vx
open Go.Proofs
set_option maxRecDepth 100000
set_option maxHeartbeats 4000000 in
theorem lawReadBig (s : List UInt8) (hs : s.length ≤ 9223372036854775807) : D 4 [sP s] true (.one (bP true)) := by
  have hsz := strL_size s
  refine go Tryd.func4 rfl rfl ?_
  repeat refine vs ?_
  conv => whnf
  by_cases c0 : ((strL s).size : Int) > 1048576
  · repeat refine vs ?_
    conv => whnf
    first | rfl | exact ⟨rfl, rfl⟩ | exact ⟨by simp [toRes], rfl⟩
  · obtain ⟨rn0, rl0, b1, mrl0, dS, dI⟩ := readBoth s (by omega)
    have hb1 : (b1 != b1) = false := by cases b1 <;> rfl
    repeat refine vs ?_
    conv => whnf
    refine CallS.mk _ rfl false false _ (dS) rfl ?_
    repeat refine vs ?_
    conv => whnf
    refine CallS.mk _ rfl true true _ (dI) rfl ?_
    repeat refine vs ?_
    conv => whnf
    refine CallS.mk _ rfl true true _ (eqBig_rfl rn0 rl0 (by omega)) rfl ?_
    repeat refine vs ?_
    conv => whnf
    have rr15 := ramp_len (k := 1) (n := rl0.length)
    refine MutS.mk' _ rfl _ rfl _ _ (markBig_m rn0 rl0 (1) (by omega) (by omega)) ?_
    repeat refine vs ?_
    conv => whnf
    have hne : ¬ (1 + (rl0.length : Int) ≠ 1 + (rl0.length : Int)) := by omega
    refine CallS.mk _ rfl true true _ (heldBig_den rn0 rl0.length (1) (by omega) (by omega)) rfl ?_
    repeat refine vs ?_
    conv => whnf
    refine CallS.mk _ rfl true true _ (dI) rfl ?_
    repeat refine vs ?_
    conv => whnf
    refine CallS.mk _ rfl true true _ (eqBig_rfl rn0 rl0 (by omega)) rfl ?_
    repeat refine vs ?_
    conv => whnf
    refine CallS.mk _ rfl true true _ (heldBig_den rn0 rl0.length (1) (by omega) (by omega)) rfl ?_
    repeat refine vs ?_
    conv => whnf
    first | rfl | exact ⟨rfl, rfl⟩ | exact ⟨by simp [toRes], rfl⟩
end Go.Vx
