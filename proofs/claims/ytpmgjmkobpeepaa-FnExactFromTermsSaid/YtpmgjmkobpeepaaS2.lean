/- Chapter 3: intervals in new memory; points; sums, differences, inverses, widths. -/
import Derived.Test.YtpmgjmkobpeepaaS1
set_option linter.unusedVariables false
set_option linter.unusedSectionVars false
set_option linter.unusedSimpArgs false
namespace Go.Vx
open Go.Proofs
set_option maxRecDepth 100000

/-- An interval that is not too long, or nothing. -/
def fitS (a b c d : Int) : Bool := fitR a b && fitR c d
def fitSV (a b c d : Int) : PV := if fitS a b c d then spanV a b c d else spanR false [] false [] false [] false []
theorem fitSV_ex (a b c d : Int) : ∃ na la pa qa nb lb pb qb, la.length ≤ 1000000 ∧ qa.length ≤ 1000000 ∧ lb.length ≤ 1000000 ∧ qb.length ≤ 1000000 ∧ fitSV a b c d = spanR na la pa qa nb lb pb qb := by
  unfold fitSV
  cases h : fitS a b c d with
  | true =>
    unfold fitS fitR at h
    simp only [Bool.and_eq_true, decide_eq_true_iff] at h
    obtain ⟨⟨h1, h2⟩, h3, h4⟩ := h
    exact ⟨_, _, _, _, _, _, _, _, Nat.le_trans h1 (by decide), Nat.le_trans h2 (by decide), Nat.le_trans h3 (by decide), Nat.le_trans h4 (by decide), rfl⟩
  | false => exact ⟨false, [], false, [], false, [], false, [], by simp, by simp, by simp, by simp, rfl⟩

section
variable (a b c d : Int) (hb : 0 < b) (hd : 0 < d) (ha : Lm.ln a ≤ 400000000000) (hbl : Lm.ln b ≤ 400000000000) (hc : Lm.ln c ≤ 400000000000) (hdl : Lm.ln d ≤ 400000000000)
include hb hd ha hbl hc hdl
end

/-- A fraction in an interval. -/
def inB (a b c d x y : Int) : Bool := decide (a * y ≤ x * b) && decide (x * d ≤ c * y)
section
variable (a b c d x y : Int) (hb : 0 < b) (hd : 0 < d) (hy : 0 < y) (ha : Lm.ln a ≤ 40000000000) (hbl : Lm.ln b ≤ 40000000000) (hc : Lm.ln c ≤ 40000000000) (hdl : Lm.ln d ≤ 40000000000) (hx : Lm.ln x ≤ 40000000000) (hyl : Lm.ln y ≤ 40000000000)
include hb hd hy ha hbl hc hdl hx hyl
end

section
variable (na : Bool) (la : List Int) (pa : Bool) (qa : List Int) (nb : Bool) (lb : List Int) (pb : Bool) (qb : List Int)
end
end Go.Vx
