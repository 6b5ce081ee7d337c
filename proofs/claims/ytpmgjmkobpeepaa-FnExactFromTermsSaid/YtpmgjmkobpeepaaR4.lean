/- Chapter 2: fractions of ints; comparisons; floors. -/
import Derived.Test.YtpmgjmkobpeepaaR3A
set_option linter.unusedVariables false
set_option linter.unusedSectionVars false
set_option linter.unusedSimpArgs false
namespace Go.Vx
open Go.Proofs
set_option maxRecDepth 100000

theorem goodRatBoth (n : Bool) (l : List Int) (p : Bool) (q : List Int) (hl : l.length ≤ 1000000000000) (hq : q.length ≤ 1000000000000) : ∃ b, D 20 [ratR n l p q] false (.one (bP b)) ∧ D 28 [ratR n l p q] true (.one (bP b)) :=
  ⟨_, (goodRatS_den n l p q hl hq).un, goodRatI_den n l p q hl hq⟩


/-- The greatest number that is not more than a fraction, as both find it. -/
def flo (x y : Int) : Int := if x.tmod y < 0 then x.tdiv y - 1 else x.tdiv y
theorem ln_flo (x y : Int) : Lm.ln (flo x y) ≤ Lm.ln x + 1 := by
  have := ln_tdiv' x y
  unfold flo
  split
  · by_cases h : Lm.ln x = 0
    · have hx : x = 0 := Lm.ln_eq_zero.1 h
      subst hx
      simp at *
    · have hx0 : x ≠ 0 := fun e => h (Lm.ln_eq_zero.2 e)
      exact Lm.ln_sub _ _ this (Lm.ln_mono (x := 1) (y := x) (by omega))
  · omega
theorem l2Floor_den (x y : Int) (hy0 : y ≠ 0) (hx : Lm.ln x ≤ 40000000000) (hy : Lm.ln y ≤ 40000000000) : D 21 [ratV x y] true (.one (bigV (flo x y))) := by
  have dD := l1Div_den x y hy0 (by omega) (by omega)
  have d1 := bigOfS_den 1 (by omega) (by omega)
  have k1 := ln_tdiv' x y
  have k2 : Lm.ln 1 ≤ 4 := ln64 (by omega) (by omega)
  have dB := l1Sub_den (x.tdiv y) 1 (by omega) (by omega)
  refine go Try.func21 rfl rfl ?_
  by_cases h : x.tmod y < 0
  · rw [show flo x y = x.tdiv y - 1 from if_pos h]
    repeat refine vs ?_
    conv => whnf
    refine CallS.mk _ rfl true true _ (dD) rfl ?_
    repeat refine vs ?_
    conv => whnf
    refine CallS.mk _ rfl true true _ (d1) rfl ?_
    repeat refine vs ?_
    conv => whnf
    refine CallS.mk _ rfl true true _ (dB) rfl ?_
    repeat refine vs ?_
    conv => whnf
    first | rfl | exact ⟨rfl, rfl⟩ | exact ⟨by simp [toRes], rfl⟩
  · rw [show flo x y = x.tdiv y from if_neg h]
    repeat refine vs ?_
    conv => whnf
    refine CallS.mk _ rfl true true _ (dD) rfl ?_
    repeat refine vs ?_
    conv => whnf
    first | rfl | exact ⟨rfl, rfl⟩ | exact ⟨by simp [toRes], rfl⟩
theorem floorDiv_den (x y : Int) (hy0 : y ≠ 0) (hx : Lm.ln x ≤ 40000000000) (hy : Lm.ln y ≤ 40000000000) : D 63 [bigV x, bigV y] true (.one (bigV (flo x y))) := by
  have dD := div_den x y hy0 (by omega) (by omega)
  have d1 := bigOfI_den 1 (by omega) (by omega)
  have k1 := ln_tdiv' x y
  have k3 : Lm.ln (x.tmod y) ≤ Lm.ln x := Lm.ln_mono (by rw [Int.natAbs_tmod]; exact Nat.mod_le _ _)
  have k2 : Lm.ln 1 ≤ 4 := ln64 (by omega) (by omega)
  have dB := sub_den (x.tdiv y) 1 (by omega) (by omega)
  have dS := sign_den (x.tmod y) (by omega)
  refine go Try.func63 rfl rfl ?_
  by_cases h : x.tmod y < 0
  · have e : cmpI (x.tmod y) 0 < 0 := by rcases cmpI_sgn (x.tmod y) with h | h | h <;> omega
    rw [show flo x y = x.tdiv y - 1 from if_pos h]
    repeat refine vs ?_
    conv => whnf
    refine CallS.mk _ rfl true true _ (dD) rfl ?_
    repeat refine vs ?_
    conv => whnf
    refine CallS.mk _ rfl true true _ (dS) rfl ?_
    repeat refine vs ?_
    conv => whnf
    refine CallS.mk _ rfl true true _ (d1) rfl ?_
    repeat refine vs ?_
    conv => whnf
    refine CallS.mk _ rfl true true _ (dB) rfl ?_
    repeat refine vs ?_
    conv => whnf
    first | rfl | exact ⟨rfl, rfl⟩ | exact ⟨by simp [toRes], rfl⟩
  · have e : ¬ cmpI (x.tmod y) 0 < 0 := by rcases cmpI_sgn (x.tmod y) with h | h | h <;> omega
    rw [show flo x y = x.tdiv y from if_neg h]
    repeat refine vs ?_
    conv => whnf
    refine CallS.mk _ rfl true true _ (dD) rfl ?_
    repeat refine vs ?_
    conv => whnf
    refine CallS.mk _ rfl true true _ (dS) rfl ?_
    repeat refine vs ?_
    conv => whnf
    first | rfl | exact ⟨rfl, rfl⟩ | exact ⟨by simp [toRes], rfl⟩
theorem floor_den (x y : Int) (hy0 : y ≠ 0) (hx : Lm.ln x ≤ 40000000000) (hy : Lm.ln y ≤ 40000000000) : D 29 [ratV x y] true (.one (bigV (flo x y))) := by
  refine go Try.func29 rfl rfl ?_
  repeat refine vs ?_
  conv => whnf
  refine CallS.mk _ rfl true true _ (floorDiv_den x y hy0 hx hy) rfl ?_
  repeat refine vs ?_
  conv => whnf
  first | rfl | exact ⟨rfl, rfl⟩ | exact ⟨by simp [toRes], rfl⟩
end Go.Vx
