/- Chapter 2: fractions of ints; comparisons; floors. -/
import Derived.Test.YtpmgjmkobpeepaaGreatR3A
set_option linter.unusedVariables false
set_option linter.unusedSectionVars false
set_option linter.unusedSimpArgs false
namespace Go.Vx
open Go.Proofs
set_option maxRecDepth 100000

theorem goodRatBoth (n : Bool) (l : List Int) (p : Bool) (q : List Int) (hl : l.length ≤ 1000000000000) (hq : q.length ≤ 1000000000000) : ∃ b, D 49 [ratR n l p q] false (.one (bP b)) ∧ D 107 [ratR n l p q] true (.one (bP b)) :=
  ⟨_, (goodRatS_den n l p q hl hq).un, goodRatI_den n l p q hl hq⟩


/-- The greatest number that is not more than a fraction, as both find it. -/
def flo (x y : Int) : Int := if x.tmod y < 0 then x.tdiv y - 1 else x.tdiv y
theorem ln_flo (x y : Int) : Lm.ln (flo x y) ≤ Lm.ln x + 1 := by
  have := ln_tdiv' x y
  unfold flo
  split
  · by_cases h : Lm.ln x = 0
    · have hx : x = 0 := Lm.ln_eq_zero.1 h
      subst hx
      simp at *
    · have hx0 : x ≠ 0 := fun e => h (Lm.ln_eq_zero.2 e)
      exact Lm.ln_sub _ _ this (Lm.ln_mono (x := 1) (y := x) (by omega))
  · omega
end Go.Vx
