/- Chapter 2: fractions in lowest terms. -/
import Derived.Test.YtpmgjmkobpeepaaGreatB20
set_option linter.unusedVariables false
set_option linter.unusedSectionVars false
set_option linter.unusedSimpArgs false
namespace Go.Vx
open Go.Proofs
set_option maxRecDepth 100000

/-- A fraction of signs and limbs; of two numbers. -/
abbrev ratR (n : Bool) (l : List Int) (p : Bool) (q : List Int) : PV := (true, [.bool n, .ints l, .bool p, .ints q])
abbrev ratV (x y : Int) : PV := ratR (decide (x < 0)) (Lm.lim x.natAbs) (decide (y < 0)) (Lm.lim y.natAbs)

/-- The divisor, with the denominator's sign. -/
def gS (x y : Int) : Int := if y < 0 then -(Int.gcd x y : Int) else Int.gcd x y
def nN (x y : Int) : Int := x.tdiv (gS x y)
def dN (x y : Int) : Int := y.tdiv (gS x y)
theorem gS_ne {x y : Int} (h : y ≠ 0) : gS x y ≠ 0 := by
  have : 0 < Int.gcd x y := Int.gcd_pos_of_ne_zero_right x h
  unfold gS
  split <;> omega
theorem gS_abs (x y : Int) : (gS x y).natAbs = Int.gcd x y := by unfold gS; split <;> omega
theorem ln_gcd {x y : Int} (h : y ≠ 0) : Lm.ln (gS x y) ≤ Lm.ln y := Lm.ln_mono (by rw [gS_abs]; exact Nat.le_of_dvd (by omega) (Int.gcd_dvd_natAbs_right x y))
theorem ln_gcd' {x y : Int} (h : y ≠ 0) : Lm.ln (Int.gcd x y : Int) ≤ Lm.ln y := Lm.ln_mono (by rw [Int.natAbs_natCast]; exact Nat.le_of_dvd (by omega) (Int.gcd_dvd_natAbs_right x y))
theorem ln_tdiv' (x y : Int) : Lm.ln (x.tdiv y) ≤ Lm.ln x := Lm.ln_mono (by rw [Int.natAbs_tdiv]; exact Nat.div_le_self _ _)
theorem ln_nN (x y : Int) : Lm.ln (nN x y) ≤ Lm.ln x := ln_tdiv' _ _
theorem ln_dN (x y : Int) : Lm.ln (dN x y) ≤ Lm.ln y := ln_tdiv' _ _
theorem dN_pos {x y : Int} (h : y ≠ 0) : 0 < dN x y := by
  have hg : 0 < Int.gcd x y := Int.gcd_pos_of_ne_zero_right x h
  obtain ⟨k, hk⟩ := Int.gcd_dvd_right (a := x) (b := y)
  have hg2 : (0 : Int) < Int.gcd x y := by omega
  unfold dN gS
  generalize (Int.gcd x y : Int) = g at *
  split
  · rename_i hy
    rw [hk, Int.tdiv_neg, Int.mul_tdiv_cancel_left _ (by omega)]
    have : k < 0 := by
      by_cases hk0 : k < 0
      · exact hk0
      · have := Int.mul_nonneg (Int.le_of_lt hg2) (show 0 ≤ k by omega); omega
    omega
  · rename_i hy
    rw [hk, Int.mul_tdiv_cancel_left _ (by omega)]
    have : 0 < k := by
      by_cases hk0 : 0 < k
      · exact hk0
      · have := Int.mul_nonneg (Int.le_of_lt hg2) (show 0 ≤ -k by omega)
        rw [Int.mul_neg] at this
        omega
    omega
theorem tdiv_gcd_neg {x y : Int} (h : y ≠ 0) : (y.tdiv (Int.gcd x y : Int) < 0) ↔ y < 0 := by
  have hg : 0 < Int.gcd x y := Int.gcd_pos_of_ne_zero_right x h
  obtain ⟨k, hk⟩ := Int.gcd_dvd_right (a := x) (b := y)
  have hg2 : (0 : Int) < Int.gcd x y := by omega
  generalize (Int.gcd x y : Int) = g at *
  rw [hk, Int.mul_tdiv_cancel_left _ (by omega)]
  constructor
  · intro hk0
    have := Int.mul_lt_mul_of_pos_left hk0 hg2
    omega
  · intro hk0
    by_cases h : k < 0
    · exact h
    · have := Int.mul_nonneg (Int.le_of_lt hg2) (show 0 ≤ k by omega); omega

theorem ratOf_den (x y : Int) (hy0 : y ≠ 0) (hx : Lm.ln x ≤ 100000000000) (hy : Lm.ln y ≤ 100000000000) : D 146 [bigV x, bigV y] true (.one (ratV (nN x y) (dN x y))) := by
  have h1 := ln_gcd' (x := x) hy0
  have h2 := ln_gcd (x := x) hy0
  have h3 := gS_ne (x := x) hy0
  have dG := gcd_den x y hx hy
  have dX := div_den x (gS x y) h3 hx (by omega)
  have dY := div_den y (gS x y) h3 hy (by omega)
  refine go Tryz.func146 rfl rfl ?_
  by_cases hn : y < 0
  · have e : gS x y = -(Int.gcd x y : Int) := if_pos hn
    have dN := neg_den (Int.gcd x y : Int) (by omega)
    rw [← e] at dN
    repeat refine vs ?_
    conv => whnf
    refine CallS.mk _ rfl true true _ (dG) rfl ?_
    repeat refine vs ?_
    conv => whnf
    refine CallS.mk _ rfl true true _ (dN) rfl ?_
    repeat refine vs ?_
    conv => whnf
    refine CallS.mk _ rfl true true _ (dX) rfl ?_
    repeat refine vs ?_
    conv => whnf
    refine CallS.mk _ rfl true true _ (dY) rfl ?_
    repeat refine vs ?_
    conv => whnf
    first | rfl | exact ⟨rfl, rfl⟩ | exact ⟨by simp [toRes], rfl⟩
  · have e : gS x y = (Int.gcd x y : Int) := if_neg hn
    rw [← e] at dG
    repeat refine vs ?_
    conv => whnf
    refine CallS.mk _ rfl true true _ (dG) rfl ?_
    repeat refine vs ?_
    conv => whnf
    refine CallS.mk _ rfl true true _ (dX) rfl ?_
    repeat refine vs ?_
    conv => whnf
    refine CallS.mk _ rfl true true _ (dY) rfl ?_
    repeat refine vs ?_
    conv => whnf
    first | rfl | exact ⟨rfl, rfl⟩ | exact ⟨by simp [toRes], rfl⟩

theorem l2Make_den (x y : Int) (hy0 : y ≠ 0) (hx : Lm.ln x ≤ 100000000000) (hy : Lm.ln y ≤ 100000000000) : D 138 [bigV x, bigV y] true (.one (ratV (nN x y) (dN x y))) := by
  have h1 := ln_gcd' (x := x) hy0
  have hg : 0 < Int.gcd x y := Int.gcd_pos_of_ne_zero_right x hy0
  have hg0 : (Int.gcd x y : Int) ≠ 0 := by omega
  have hx' : (Lm.lim x.natAbs).length ≤ 100000000000 := hx
  have hy' : (Lm.lim y.natAbs).length ≤ 100000000000 := hy
  have dG := l1Gcd_den x.natAbs y.natAbs hx' hy'
  have dM := l1Make_den false (Lm.lim (Int.gcd x y)) (by
    have : (Lm.lim (Int.gcd x y : Int).natAbs).length ≤ _ := h1
    rw [Int.natAbs_natCast] at this
    omega)
  rw [make_num] at dM
  simp only [Bool.false_eq_true, if_false] at dM
  have dX := l1Div_den x (Int.gcd x y : Int) hg0 hx (by omega)
  have dY := l1Div_den y (Int.gcd x y : Int) hg0 hy (by omega)
  have hs := tdiv_gcd_neg (x := x) hy0
  refine go Tryz.func138 rfl rfl ?_
  by_cases hn : y < 0
  · have hs2 := hs.2 hn
    have n1 := l1Neg_den (x.tdiv (Int.gcd x y : Int)) (by have := ln_tdiv' x (Int.gcd x y : Int); omega)
    have n2 := l1Neg_den (y.tdiv (Int.gcd x y : Int)) (by have := ln_tdiv' y (Int.gcd x y : Int); omega)
    rw [show -(x.tdiv (Int.gcd x y : Int)) = nN x y by unfold nN gS; rw [if_pos hn, Int.tdiv_neg]] at n1
    rw [show -(y.tdiv (Int.gcd x y : Int)) = dN x y by unfold dN gS; rw [if_pos hn, Int.tdiv_neg]] at n2
    repeat refine vs ?_
    conv => whnf
    refine CallS.mk _ rfl true true _ (dG) rfl ?_
    repeat refine vs ?_
    conv => whnf
    refine CallS.mk _ rfl true true _ (dM) rfl ?_
    repeat refine vs ?_
    conv => whnf
    refine CallS.mk _ rfl true true _ (dX) rfl ?_
    repeat refine vs ?_
    conv => whnf
    refine CallS.mk _ rfl true true _ (dY) rfl ?_
    repeat refine vs ?_
    conv => whnf
    refine CallS.mk _ rfl true true _ (n1) rfl ?_
    repeat refine vs ?_
    conv => whnf
    refine CallS.mk _ rfl true true _ (n2) rfl ?_
    repeat refine vs ?_
    conv => whnf
    first | rfl | exact ⟨rfl, rfl⟩ | exact ⟨by simp [toRes], rfl⟩
  · have hs2 := fun h => hn (hs.1 h)
    have e1 : x.tdiv (Int.gcd x y : Int) = nN x y := by unfold nN gS; rw [if_neg hn]
    have e2 : y.tdiv (Int.gcd x y : Int) = dN x y := by unfold dN gS; rw [if_neg hn]
    rw [e1] at dX
    rw [e2] at dY hs2
    repeat refine vs ?_
    conv => whnf
    refine CallS.mk _ rfl true true _ (dG) rfl ?_
    repeat refine vs ?_
    conv => whnf
    refine CallS.mk _ rfl true true _ (dM) rfl ?_
    repeat refine vs ?_
    conv => whnf
    refine CallS.mk _ rfl true true _ (dX) rfl ?_
    repeat refine vs ?_
    conv => whnf
    refine CallS.mk _ rfl true true _ (dY) rfl ?_
    repeat refine vs ?_
    conv => whnf
    first | rfl | exact ⟨rfl, rfl⟩ | exact ⟨by simp [toRes], rfl⟩

/-- Sums, products, quotients of fractions, before they are made lowest. -/
def addN (a b c d : Int) : Int := a * d + c * b
theorem ln_mul' {x y : Int} {k : Nat} (hx : Lm.ln x ≤ k) (hy : Lm.ln y ≤ k) : Lm.ln (x * y) ≤ 2 * k := by have := Lm.ln_mul x y hx hy; omega
theorem ln_addN {a b c d : Int} {k : Nat} (ha : Lm.ln a ≤ k) (hb : Lm.ln b ≤ k) (hc : Lm.ln c ≤ k) (hd : Lm.ln d ≤ k) : Lm.ln (addN a b c d) ≤ 2 * k + 1 := Lm.ln_add _ _ (ln_mul' ha hd) (ln_mul' hc hb)

section
variable (a b c d : Int) (hb : b ≠ 0) (hd : d ≠ 0) (ha : Lm.ln a ≤ 40000000000) (hbl : Lm.ln b ≤ 40000000000) (hc : Lm.ln c ≤ 40000000000) (hdl : Lm.ln d ≤ 40000000000)
include hb hd ha hbl hc hdl

theorem l2Add_den : D 103 [ratV a b, ratV c d] true (.one (ratV (nN (addN a b c d) (b * d)) (dN (addN a b c d) (b * d)))) := by
  have e1 := ln_mul' ha hdl
  have e2 := ln_mul' hc hbl
  have e3 := ln_mul' hbl hdl
  have e4 := ln_addN ha hbl hc hdl
  have dA := l1Add_den (a * d) (c * b) (by omega) (by omega)
  have dM := l2Make_den (addN a b c d) (b * d) (Int.mul_ne_zero hb hd) (by omega) (by omega)
  refine go Tryz.func103 rfl rfl ?_
  repeat refine vs ?_
  conv => whnf
  refine CallS.mk _ rfl true true _ (l1Mul_den a d (by omega) (by omega)) rfl ?_
  repeat refine vs ?_
  conv => whnf
  refine CallS.mk _ rfl true true _ (l1Mul_den c b (by omega) (by omega)) rfl ?_
  repeat refine vs ?_
  conv => whnf
  refine CallS.mk _ rfl true true _ (dA) rfl ?_
  repeat refine vs ?_
  conv => whnf
  refine CallS.mk _ rfl true true _ (l1Mul_den b d (by omega) (by omega)) rfl ?_
  repeat refine vs ?_
  conv => whnf
  refine CallS.mk _ rfl true true _ (dM) rfl ?_
  repeat refine vs ?_
  conv => whnf
  first | rfl | exact ⟨rfl, rfl⟩ | exact ⟨by simp [toRes], rfl⟩
theorem ratAdd_den : D 147 [ratV a b, ratV c d] true (.one (ratV (nN (addN a b c d) (b * d)) (dN (addN a b c d) (b * d)))) := by
  have e1 := ln_mul' ha hdl
  have e2 := ln_mul' hc hbl
  have e3 := ln_mul' hbl hdl
  have e4 := ln_addN ha hbl hc hdl
  have dA := add_den (a * d) (c * b) (by omega) (by omega)
  have dM := ratOf_den (addN a b c d) (b * d) (Int.mul_ne_zero hb hd) (by omega) (by omega)
  refine go Tryz.func147 rfl rfl ?_
  repeat refine vs ?_
  conv => whnf
  refine CallS.mk _ rfl true true _ (mul_den a d (by omega) (by omega)) rfl ?_
  repeat refine vs ?_
  conv => whnf
  refine CallS.mk _ rfl true true _ (mul_den c b (by omega) (by omega)) rfl ?_
  repeat refine vs ?_
  conv => whnf
  refine CallS.mk _ rfl true true _ (dA) rfl ?_
  repeat refine vs ?_
  conv => whnf
  refine CallS.mk _ rfl true true _ (mul_den b d (by omega) (by omega)) rfl ?_
  repeat refine vs ?_
  conv => whnf
  refine CallS.mk _ rfl true true _ (dM) rfl ?_
  repeat refine vs ?_
  conv => whnf
  first | rfl | exact ⟨rfl, rfl⟩ | exact ⟨by simp [toRes], rfl⟩
theorem l2Mul_den : D 87 [ratV a b, ratV c d] true (.one (ratV (nN (a * c) (b * d)) (dN (a * c) (b * d)))) := by
  have e1 := ln_mul' ha hc
  have e3 := ln_mul' hbl hdl
  have dM := l2Make_den (a * c) (b * d) (Int.mul_ne_zero hb hd) (by omega) (by omega)
  refine go Tryz.func87 rfl rfl ?_
  repeat refine vs ?_
  conv => whnf
  refine CallS.mk _ rfl true true _ (l1Mul_den a c (by omega) (by omega)) rfl ?_
  repeat refine vs ?_
  conv => whnf
  refine CallS.mk _ rfl true true _ (l1Mul_den b d (by omega) (by omega)) rfl ?_
  repeat refine vs ?_
  conv => whnf
  refine CallS.mk _ rfl true true _ (dM) rfl ?_
  repeat refine vs ?_
  conv => whnf
  first | rfl | exact ⟨rfl, rfl⟩ | exact ⟨by simp [toRes], rfl⟩
theorem ratMul_den : D 95 [ratV a b, ratV c d] true (.one (ratV (nN (a * c) (b * d)) (dN (a * c) (b * d)))) := by
  have e1 := ln_mul' ha hc
  have e3 := ln_mul' hbl hdl
  have dM := ratOf_den (a * c) (b * d) (Int.mul_ne_zero hb hd) (by omega) (by omega)
  refine go Tryz.func95 rfl rfl ?_
  repeat refine vs ?_
  conv => whnf
  refine CallS.mk _ rfl true true _ (mul_den a c (by omega) (by omega)) rfl ?_
  repeat refine vs ?_
  conv => whnf
  refine CallS.mk _ rfl true true _ (mul_den b d (by omega) (by omega)) rfl ?_
  repeat refine vs ?_
  conv => whnf
  refine CallS.mk _ rfl true true _ (dM) rfl ?_
  repeat refine vs ?_
  conv => whnf
  first | rfl | exact ⟨rfl, rfl⟩ | exact ⟨by simp [toRes], rfl⟩
theorem l2Div_den (hc0 : c ≠ 0) : D 85 [ratV a b, ratV c d] true (.one (ratV (nN (a * d) (b * c)) (dN (a * d) (b * c)))) := by
  have e1 := ln_mul' ha hdl
  have e3 := ln_mul' hbl hc
  have dM := l2Make_den (a * d) (b * c) (Int.mul_ne_zero hb hc0) (by omega) (by omega)
  refine go Tryz.func85 rfl rfl ?_
  repeat refine vs ?_
  conv => whnf
  refine CallS.mk _ rfl true true _ (l1Mul_den a d (by omega) (by omega)) rfl ?_
  repeat refine vs ?_
  conv => whnf
  refine CallS.mk _ rfl true true _ (l1Mul_den b c (by omega) (by omega)) rfl ?_
  repeat refine vs ?_
  conv => whnf
  refine CallS.mk _ rfl true true _ (dM) rfl ?_
  repeat refine vs ?_
  conv => whnf
  first | rfl | exact ⟨rfl, rfl⟩ | exact ⟨by simp [toRes], rfl⟩
theorem ratDiv_den (hc0 : c ≠ 0) : D 93 [ratV a b, ratV c d] true (.one (ratV (nN (a * d) (b * c)) (dN (a * d) (b * c)))) := by
  have e1 := ln_mul' ha hdl
  have e3 := ln_mul' hbl hc
  have dM := ratOf_den (a * d) (b * c) (Int.mul_ne_zero hb hc0) (by omega) (by omega)
  refine go Tryz.func93 rfl rfl ?_
  repeat refine vs ?_
  conv => whnf
  refine CallS.mk _ rfl true true _ (mul_den a d (by omega) (by omega)) rfl ?_
  repeat refine vs ?_
  conv => whnf
  refine CallS.mk _ rfl true true _ (mul_den b c (by omega) (by omega)) rfl ?_
  repeat refine vs ?_
  conv => whnf
  refine CallS.mk _ rfl true true _ (dM) rfl ?_
  repeat refine vs ?_
  conv => whnf
  first | rfl | exact ⟨rfl, rfl⟩ | exact ⟨by simp [toRes], rfl⟩
theorem l2Cmp_den : D 118 [ratV a b, ratV c d] true (.one (iP (cmpI (a * d) (c * b)))) := by
  have e1 := ln_mul' ha hdl
  have e3 := ln_mul' hc hbl
  have dM := l1CmpBig_den (a * d) (c * b) (by omega) (by omega)
  refine go Tryz.func118 rfl rfl ?_
  repeat refine vs ?_
  conv => whnf
  refine CallS.mk _ rfl true true _ (l1Mul_den a d (by omega) (by omega)) rfl ?_
  repeat refine vs ?_
  conv => whnf
  refine CallS.mk _ rfl true true _ (l1Mul_den c b (by omega) (by omega)) rfl ?_
  repeat refine vs ?_
  conv => whnf
  refine CallS.mk _ rfl true true _ (dM) rfl ?_
  repeat refine vs ?_
  conv => whnf
  first | rfl | exact ⟨rfl, rfl⟩ | exact ⟨by simp [toRes], rfl⟩
theorem compareRat_den : D 84 [ratV a b, ratV c d] true (.one (iP (cmpI (a * d) (c * b)))) := by
  have e1 := ln_mul' ha hdl
  have e3 := ln_mul' hc hbl
  have dM := compareBig_den (a * d) (c * b) (by omega) (by omega)
  refine go Tryz.func84 rfl rfl ?_
  repeat refine vs ?_
  conv => whnf
  refine CallS.mk _ rfl true true _ (mul_den a d (by omega) (by omega)) rfl ?_
  repeat refine vs ?_
  conv => whnf
  refine CallS.mk _ rfl true true _ (mul_den c b (by omega) (by omega)) rfl ?_
  repeat refine vs ?_
  conv => whnf
  refine CallS.mk _ rfl true true _ (dM) rfl ?_
  repeat refine vs ?_
  conv => whnf
  first | rfl | exact ⟨rfl, rfl⟩ | exact ⟨by simp [toRes], rfl⟩
end

theorem l2Neg_den (a b : Int) (ha : Lm.ln a ≤ 40000000000) (hb : Lm.ln b ≤ 40000000000) : D 140 [ratV a b] false (.one (ratV (-a) b)) := by
  refine go Tryz.func140 rfl rfl ?_
  repeat refine vs ?_
  conv => whnf
  refine CallS.mk _ rfl true false _ (l1Neg_den a (by omega)) rfl ?_
  repeat refine vs ?_
  conv => whnf
  first | rfl | exact ⟨rfl, rfl⟩ | exact ⟨by simp [toRes], rfl⟩
theorem ratNeg_den (a b : Int) (hb : 0 < b) (ha : Lm.ln a ≤ 40000000000) (hbl : Lm.ln b ≤ 40000000000) : D 124 [ratV a b] true (.one (ratV (-a) b)) := by
  have h2 : (Lm.lim b.natAbs).length ≤ 40000000000 := hbl
  have dB := bigOf_den false (Lm.lim b.natAbs) (by omega)
  rw [make_num] at dB
  simp only [Bool.false_eq_true, if_false] at dB
  rw [show ((b.natAbs : Nat) : Int) = b by omega] at dB
  refine go Tryz.func124 rfl rfl ?_
  repeat refine vs ?_
  conv => whnf
  refine CallS.mk _ rfl true true _ (neg_den a (by omega)) rfl ?_
  repeat refine vs ?_
  conv => whnf
  refine CallS.mk _ rfl true true _ (dB) rfl ?_
  repeat refine vs ?_
  conv => whnf
  first | rfl | exact ⟨rfl, rfl⟩ | exact ⟨by simp [toRes], rfl⟩
theorem l2Sub_den (a b c d : Int) (hb : b ≠ 0) (hd : d ≠ 0) (ha : Lm.ln a ≤ 40000000000) (hbl : Lm.ln b ≤ 40000000000) (hc : Lm.ln c ≤ 40000000000) (hdl : Lm.ln d ≤ 40000000000) : D 86 [ratV a b, ratV c d] true (.one (ratV (nN (addN a b (-c) d) (b * d)) (dN (addN a b (-c) d) (b * d)))) := by
  refine go Tryz.func86 rfl rfl ?_
  repeat refine vs ?_
  conv => whnf
  refine CallS.mk _ rfl false false _ (l2Neg_den c d hc hdl) rfl ?_
  repeat refine vs ?_
  conv => whnf
  refine CallS.mk _ rfl true true _ (l2Add_den a b (-c) d hb hd ha hbl (by rw [Lm.ln_neg]; exact hc) hdl) rfl ?_
  repeat refine vs ?_
  conv => whnf
  first | rfl | exact ⟨rfl, rfl⟩ | exact ⟨by simp [toRes], rfl⟩
theorem ratSub_den (a b c d : Int) (hb : b ≠ 0) (hd : 0 < d) (ha : Lm.ln a ≤ 40000000000) (hbl : Lm.ln b ≤ 40000000000) (hc : Lm.ln c ≤ 40000000000) (hdl : Lm.ln d ≤ 40000000000) : D 94 [ratV a b, ratV c d] true (.one (ratV (nN (addN a b (-c) d) (b * d)) (dN (addN a b (-c) d) (b * d)))) := by
  refine go Tryz.func94 rfl rfl ?_
  repeat refine vs ?_
  conv => whnf
  refine CallS.mk _ rfl true true _ (ratNeg_den c d hd hc hdl) rfl ?_
  repeat refine vs ?_
  conv => whnf
  refine CallS.mk _ rfl true true _ (ratAdd_den a b (-c) d hb (by omega) ha hbl (by rw [Lm.ln_neg]; exact hc) hdl) rfl ?_
  repeat refine vs ?_
  conv => whnf
  first | rfl | exact ⟨rfl, rfl⟩ | exact ⟨by simp [toRes], rfl⟩
end Go.Vx
