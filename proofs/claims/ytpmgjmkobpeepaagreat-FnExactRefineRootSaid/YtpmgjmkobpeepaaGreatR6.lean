/- Chapter 2: lowest terms of equal fractions are equal; floors. -/
import Derived.Test.YtpmgjmkobpeepaaGreatR4
set_option linter.unusedVariables false
set_option linter.unusedSectionVars false
set_option linter.unusedSimpArgs false
namespace Go.Vx
theorem gS_dvd (x y : Int) : gS x y ∣ x ∧ gS x y ∣ y := by
  unfold gS
  split
  · exact ⟨Int.neg_dvd.2 (Int.gcd_dvd_left _ _), Int.neg_dvd.2 (Int.gcd_dvd_right _ _)⟩
  · exact ⟨Int.gcd_dvd_left _ _, Int.gcd_dvd_right _ _⟩
theorem gS_mul (x y : Int) : gS x y * nN x y = x ∧ gS x y * dN x y = y :=
  ⟨Int.mul_tdiv_cancel' (gS_dvd x y).1, Int.mul_tdiv_cancel' (gS_dvd x y).2⟩
theorem nN_dN (x y : Int) : nN x y * y = x * dN x y := by
  have h := gS_mul x y
  generalize gS x y = g at *
  generalize nN x y = n at *
  generalize dN x y = d at *
  obtain ⟨rfl, rfl⟩ := h
  grind
theorem nd_cop {x y : Int} (h : y ≠ 0) : Int.gcd (nN x y) (dN x y) = 1 := by
  have hg : 0 < Int.gcd x y := Int.gcd_pos_of_ne_zero_right x h
  have h1 := gS_mul x y
  have h2 : Int.gcd (gS x y * nN x y) (gS x y * dN x y) = (gS x y).natAbs * Int.gcd (nN x y) (dN x y) := Int.gcd_mul_left ..
  rw [h1.1, h1.2, gS_abs] at h2
  have : Int.gcd x y * 1 = Int.gcd x y * Int.gcd (nN x y) (dN x y) := by omega
  exact (Nat.eq_of_mul_eq_mul_left hg this).symm
theorem low_uniq {n d m e : Int} (hd : 0 < d) (he : 0 < e) (h1 : Int.gcd n d = 1) (h2 : Int.gcd m e = 1) (h : n * e = m * d) : n = m ∧ d = e := by
  have a1 : d ∣ e := by
    have := (Int.dvd_gcd_mul_iff_dvd_mul (k := d) (n := n) (m := e)).2 ⟨m, by rw [h, Int.mul_comm]⟩
    rwa [Int.gcd_comm, h1, Int.natCast_one, Int.one_mul] at this
  have a2 : e ∣ d := by
    have := (Int.dvd_gcd_mul_iff_dvd_mul (k := e) (n := m) (m := d)).2 ⟨n, by rw [← h, Int.mul_comm]⟩
    rwa [Int.gcd_comm, h2, Int.natCast_one, Int.one_mul] at this
  have e1 : d = e := Int.le_antisymm (Int.le_of_dvd he a1) (Int.le_of_dvd hd a2)
  subst e1
  exact ⟨Int.eq_of_mul_eq_mul_right (by omega) h, rfl⟩
/-- Equal fractions have the same lowest terms. -/
theorem nd_eq {x y u v : Int} (hy : y ≠ 0) (hv : v ≠ 0) (h : x * v = u * y) : nN x y = nN u v ∧ dN x y = dN u v := by
  have p1 := dN_pos (x := x) hy
  have p2 := dN_pos (x := u) hv
  refine low_uniq p1 p2 (nd_cop hy) (nd_cop hv) ?_
  have e1 := nN_dN x y
  have e2 := nN_dN u v
  generalize nN x y = n at *
  generalize dN x y = d at *
  generalize nN u v = m at *
  generalize dN u v = e at *
  -- n*y = x*d, m*v = u*e, x*v = u*y; so n*e*y*v = x*d*e*v = u*y*d*e = m*d*y*v
  have : (n * e) * (y * v) = (m * d) * (y * v) := by grind
  exact Int.eq_of_mul_eq_mul_right (Int.mul_ne_zero hy hv) this
theorem nd_self {x y : Int} (hy : 0 < y) (h : Int.gcd x y = 1) : nN x y = x ∧ dN x y = y :=
  low_uniq (dN_pos (by omega)) hy (nd_cop (by omega)) h (nN_dN x y)
/-- The floor of a fraction is the quotient rounded down; equal fractions have one floor. -/
theorem flo_ediv {x y : Int} (hy : 0 < y) : flo x y = x / y := by
  have h1 := Int.mul_tdiv_add_tmod x y
  have h2 := Int.tmod_lt_of_pos x hy
  have h3 : -y < x.tmod y := by
    have := Int.lt_tmod_of_pos x hy
    exact this
  unfold flo
  symm
  split
  · rename_i h
    rw [Int.ediv_eq_iff_of_pos hy]
    constructor <;> grind
  · rename_i h
    rw [Int.ediv_eq_iff_of_pos hy]
    constructor <;> grind
theorem ediv_val {x y u v : Int} (hy : 0 < y) (hv : 0 < v) (h : x * v = u * y) : x / y = u / v := by
  rw [← Int.mul_ediv_mul_of_pos_left x y hv, h, Int.mul_comm y v, Int.mul_ediv_mul_of_pos_left u v hy]
theorem flo_val {x y u v : Int} (hy : 0 < y) (hv : 0 < v) (h : x * v = u * y) : flo x y = flo u v := by
  rw [flo_ediv hy, flo_ediv hv, ediv_val hy hv h]
theorem flo_low {x y : Int} (hy : 0 < y) : flo (nN x y) (dN x y) = flo x y := flo_val (dN_pos (by omega)) hy (nN_dN x y)
end Go.Vx
