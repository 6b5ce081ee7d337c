/- Chapter 2: fractions in lowest terms. -/
import Derived.Test.YthholhhohlnlnaaDoorB20
set_option linter.unusedVariables false
set_option linter.unusedSectionVars false
set_option linter.unusedSimpArgs false
namespace Go.Vx
open Go.Proofs
set_option maxRecDepth 100000

/-- A fraction of signs and limbs; of two numbers. -/
abbrev ratR (n : Bool) (l : List Int) (p : Bool) (q : List Int) : PV := (true, [.bool n, .ints l, .bool p, .ints q])
abbrev ratV (x y : Int) : PV := ratR (decide (x < 0)) (Lm.lim x.natAbs) (decide (y < 0)) (Lm.lim y.natAbs)

/-- The divisor, with the denominator's sign. -/
def gS (x y : Int) : Int := if y < 0 then -(Int.gcd x y : Int) else Int.gcd x y
def nN (x y : Int) : Int := x.tdiv (gS x y)
def dN (x y : Int) : Int := y.tdiv (gS x y)
theorem gS_ne {x y : Int} (h : y ≠ 0) : gS x y ≠ 0 := by
  have : 0 < Int.gcd x y := Int.gcd_pos_of_ne_zero_right x h
  unfold gS
  split <;> omega
theorem gS_abs (x y : Int) : (gS x y).natAbs = Int.gcd x y := by unfold gS; split <;> omega
theorem ln_gcd {x y : Int} (h : y ≠ 0) : Lm.ln (gS x y) ≤ Lm.ln y := Lm.ln_mono (by rw [gS_abs]; exact Nat.le_of_dvd (by omega) (Int.gcd_dvd_natAbs_right x y))
theorem ln_gcd' {x y : Int} (h : y ≠ 0) : Lm.ln (Int.gcd x y : Int) ≤ Lm.ln y := Lm.ln_mono (by rw [Int.natAbs_natCast]; exact Nat.le_of_dvd (by omega) (Int.gcd_dvd_natAbs_right x y))
theorem ln_tdiv' (x y : Int) : Lm.ln (x.tdiv y) ≤ Lm.ln x := Lm.ln_mono (by rw [Int.natAbs_tdiv]; exact Nat.div_le_self _ _)
theorem ln_nN (x y : Int) : Lm.ln (nN x y) ≤ Lm.ln x := ln_tdiv' _ _
theorem ln_dN (x y : Int) : Lm.ln (dN x y) ≤ Lm.ln y := ln_tdiv' _ _
theorem dN_pos {x y : Int} (h : y ≠ 0) : 0 < dN x y := by
  have hg : 0 < Int.gcd x y := Int.gcd_pos_of_ne_zero_right x h
  obtain ⟨k, hk⟩ := Int.gcd_dvd_right (a := x) (b := y)
  have hg2 : (0 : Int) < Int.gcd x y := by omega
  unfold dN gS
  generalize (Int.gcd x y : Int) = g at *
  split
  · rename_i hy
    rw [hk, Int.tdiv_neg, Int.mul_tdiv_cancel_left _ (by omega)]
    have : k < 0 := by
      by_cases hk0 : k < 0
      · exact hk0
      · have := Int.mul_nonneg (Int.le_of_lt hg2) (show 0 ≤ k by omega); omega
    omega
  · rename_i hy
    rw [hk, Int.mul_tdiv_cancel_left _ (by omega)]
    have : 0 < k := by
      by_cases hk0 : 0 < k
      · exact hk0
      · have := Int.mul_nonneg (Int.le_of_lt hg2) (show 0 ≤ -k by omega)
        rw [Int.mul_neg] at this
        omega
    omega
theorem tdiv_gcd_neg {x y : Int} (h : y ≠ 0) : (y.tdiv (Int.gcd x y : Int) < 0) ↔ y < 0 := by
  have hg : 0 < Int.gcd x y := Int.gcd_pos_of_ne_zero_right x h
  obtain ⟨k, hk⟩ := Int.gcd_dvd_right (a := x) (b := y)
  have hg2 : (0 : Int) < Int.gcd x y := by omega
  generalize (Int.gcd x y : Int) = g at *
  rw [hk, Int.mul_tdiv_cancel_left _ (by omega)]
  constructor
  · intro hk0
    have := Int.mul_lt_mul_of_pos_left hk0 hg2
    omega
  · intro hk0
    by_cases h : k < 0
    · exact h
    · have := Int.mul_nonneg (Int.le_of_lt hg2) (show 0 ≤ k by omega); omega

/-- Sums, products, quotients of fractions, before they are made lowest. -/
def addN (a b c d : Int) : Int := a * d + c * b
theorem ln_mul' {x y : Int} {k : Nat} (hx : Lm.ln x ≤ k) (hy : Lm.ln y ≤ k) : Lm.ln (x * y) ≤ 2 * k := by have := Lm.ln_mul x y hx hy; omega
theorem ln_addN {a b c d : Int} {k : Nat} (ha : Lm.ln a ≤ k) (hb : Lm.ln b ≤ k) (hc : Lm.ln c ≤ k) (hd : Lm.ln d ≤ k) : Lm.ln (addN a b c d) ≤ 2 * k + 1 := Lm.ln_add _ _ (ln_mul' ha hd) (ln_mul' hc hb)

section
variable (a b c d : Int) (hb : b ≠ 0) (hd : d ≠ 0) (ha : Lm.ln a ≤ 40000000000) (hbl : Lm.ln b ≤ 40000000000) (hc : Lm.ln c ≤ 40000000000) (hdl : Lm.ln d ≤ 40000000000)
include hb hd ha hbl hc hdl

end

end Go.Vx
