/- R1, R2, R3A, R4, R5, R6 -/
import Derived.Test.YtpmgjmkobpeepaaGreatB20
import Derived.Test.YtpmgjmkobpeepaaGreatC7
set_option linter.unusedVariables false
set_option linter.unusedSectionVars false
set_option linter.unusedSimpArgs false
section
/- Chapter 2: fractions in lowest terms. -/
namespace Go.Vx
open Go.Proofs
set_option maxRecDepth 100000

/-- A fraction of signs and limbs; of two numbers. -/
abbrev ratR (n : Bool) (l : List Int) (p : Bool) (q : List Int) : PV := (true, [.bool n, .ints l, .bool p, .ints q])
abbrev ratV (x y : Int) : PV := ratR (decide (x < 0)) (Lm.lim x.natAbs) (decide (y < 0)) (Lm.lim y.natAbs)

/-- The divisor, with the denominator's sign. -/
def gS (x y : Int) : Int := if y < 0 then -(Int.gcd x y : Int) else Int.gcd x y
def nN (x y : Int) : Int := x.tdiv (gS x y)
def dN (x y : Int) : Int := y.tdiv (gS x y)
theorem gS_ne {x y : Int} (h : y ≠ 0) : gS x y ≠ 0 := by
 have : 0 < Int.gcd x y := Int.gcd_pos_of_ne_zero_right x h
 unfold gS
 split <;> omega
theorem gS_abs (x y : Int) : (gS x y).natAbs = Int.gcd x y := by unfold gS; split <;> omega
theorem ln_gcd {x y : Int} (h : y ≠ 0) : Lm.ln (gS x y) ≤ Lm.ln y := Lm.ln_mono (by rw [gS_abs]; exact Nat.le_of_dvd (by omega) (Int.gcd_dvd_natAbs_right x y))
theorem ln_gcd' {x y : Int} (h : y ≠ 0) : Lm.ln (Int.gcd x y : Int) ≤ Lm.ln y := Lm.ln_mono (by rw [Int.natAbs_natCast]; exact Nat.le_of_dvd (by omega) (Int.gcd_dvd_natAbs_right x y))
theorem ln_tdiv' (x y : Int) : Lm.ln (x.tdiv y) ≤ Lm.ln x := Lm.ln_mono (by rw [Int.natAbs_tdiv]; exact Nat.div_le_self _ _)
theorem ln_nN (x y : Int) : Lm.ln (nN x y) ≤ Lm.ln x := ln_tdiv' _ _
theorem ln_dN (x y : Int) : Lm.ln (dN x y) ≤ Lm.ln y := ln_tdiv' _ _
theorem dN_pos {x y : Int} (h : y ≠ 0) : 0 < dN x y := by
 have hg : 0 < Int.gcd x y := Int.gcd_pos_of_ne_zero_right x h
 obtain ⟨k, hk⟩ := Int.gcd_dvd_right (a := x) (b := y)
 have hg2 : (0 : Int) < Int.gcd x y := by omega
 unfold dN gS
 generalize (Int.gcd x y : Int) = g at *
 split
 ·rename_i hy
  rw [hk, Int.tdiv_neg, Int.mul_tdiv_cancel_left _ (by omega)]
  have : k < 0 := by
   by_cases hk0 : k < 0
   ·exact hk0
   ·have := Int.mul_nonneg (Int.le_of_lt hg2) (show 0 ≤ k by omega); omega
  omega
 ·rename_i hy
  rw [hk, Int.mul_tdiv_cancel_left _ (by omega)]
  have : 0 < k := by
   by_cases hk0 : 0 < k
   ·exact hk0
   ·have := Int.mul_nonneg (Int.le_of_lt hg2) (show 0 ≤ -k by omega)
    rw [Int.mul_neg] at this
    omega
  omega
theorem tdiv_gcd_neg {x y : Int} (h : y ≠ 0) : (y.tdiv (Int.gcd x y : Int) < 0) ↔ y < 0 := by
 have hg : 0 < Int.gcd x y := Int.gcd_pos_of_ne_zero_right x h
 obtain ⟨k, hk⟩ := Int.gcd_dvd_right (a := x) (b := y)
 have hg2 : (0 : Int) < Int.gcd x y := by omega
 generalize (Int.gcd x y : Int) = g at *
 rw [hk, Int.mul_tdiv_cancel_left _ (by omega)]
 constructor
 ·intro hk0
  have := Int.mul_lt_mul_of_pos_left hk0 hg2
  omega
 ·intro hk0
  by_cases h : k < 0
  ·exact h
  ·have := Int.mul_nonneg (Int.le_of_lt hg2) (show 0 ≤ k by omega); omega

theorem ratOf_den (x y : Int) (hy0 : y ≠ 0) (hx : Lm.ln x ≤ 100000000000) (hy : Lm.ln y ≤ 100000000000) : D 146 [bigV x, bigV y] true (.one (ratV (nN x y) (dN x y))) := by
 have h1 := ln_gcd' (x := x) hy0
 have h2 := ln_gcd (x := x) hy0
 have h3 := gS_ne (x := x) hy0
 have dG := gcd_den x y hx hy
 have dX := div_den x (gS x y) h3 hx (by omega)
 have dY := div_den y (gS x y) h3 hy (by omega)
 refine go Tryz.func146 rfl rfl ?_
 by_cases hn : y < 0
 ·have e : gS x y = -(Int.gcd x y : Int) := if_pos hn
  have dN := neg_den (Int.gcd x y : Int) (by omega)
  rw [← e] at dN
  repeat refine vs ?_
  conv => whnf
  refine CallS.mk _ rfl true true _ (dG) rfl ?_
  repeat refine vs ?_
  conv => whnf
  refine CallS.mk _ rfl true true _ (dN) rfl ?_
  repeat refine vs ?_
  conv => whnf
  refine CallS.mk _ rfl true true _ (dX) rfl ?_
  repeat refine vs ?_
  conv => whnf
  refine CallS.mk _ rfl true true _ (dY) rfl ?_
  repeat refine vs ?_
  conv => whnf
  first | rfl | exact ⟨rfl, rfl⟩ | exact ⟨by simp [toRes], rfl⟩
 ·have e : gS x y = (Int.gcd x y : Int) := if_neg hn
  rw [← e] at dG
  repeat refine vs ?_
  conv => whnf
  refine CallS.mk _ rfl true true _ (dG) rfl ?_
  repeat refine vs ?_
  conv => whnf
  refine CallS.mk _ rfl true true _ (dX) rfl ?_
  repeat refine vs ?_
  conv => whnf
  refine CallS.mk _ rfl true true _ (dY) rfl ?_
  repeat refine vs ?_
  conv => whnf
  first | rfl | exact ⟨rfl, rfl⟩ | exact ⟨by simp [toRes], rfl⟩

theorem l2Make_den (x y : Int) (hy0 : y ≠ 0) (hx : Lm.ln x ≤ 100000000000) (hy : Lm.ln y ≤ 100000000000) : D 138 [bigV x, bigV y] true (.one (ratV (nN x y) (dN x y))) := by
 have h1 := ln_gcd' (x := x) hy0
 have hg : 0 < Int.gcd x y := Int.gcd_pos_of_ne_zero_right x hy0
 have hg0 : (Int.gcd x y : Int) ≠ 0 := by omega
 have hx' : (Lm.lim x.natAbs).length ≤ 100000000000 := hx
 have hy' : (Lm.lim y.natAbs).length ≤ 100000000000 := hy
 have dG := l1Gcd_den x.natAbs y.natAbs hx' hy'
 have dM := l1Make_den false (Lm.lim (Int.gcd x y)) (by
  have : (Lm.lim (Int.gcd x y : Int).natAbs).length ≤ _ := h1
  rw [Int.natAbs_natCast] at this
  omega)
 rw [make_num] at dM
 simp only [Bool.false_eq_true, if_false] at dM
 have dX := l1Div_den x (Int.gcd x y : Int) hg0 hx (by omega)
 have dY := l1Div_den y (Int.gcd x y : Int) hg0 hy (by omega)
 have hs := tdiv_gcd_neg (x := x) hy0
 refine go Tryz.func138 rfl rfl ?_
 by_cases hn : y < 0
 ·have hs2 := hs.2 hn
  have n1 := l1Neg_den (x.tdiv (Int.gcd x y : Int)) (by have := ln_tdiv' x (Int.gcd x y : Int); omega)
  have n2 := l1Neg_den (y.tdiv (Int.gcd x y : Int)) (by have := ln_tdiv' y (Int.gcd x y : Int); omega)
  rw [show -(x.tdiv (Int.gcd x y : Int)) = nN x y by unfold nN gS; rw [if_pos hn, Int.tdiv_neg]] at n1
  rw [show -(y.tdiv (Int.gcd x y : Int)) = dN x y by unfold dN gS; rw [if_pos hn, Int.tdiv_neg]] at n2
  repeat refine vs ?_
  conv => whnf
  refine CallS.mk _ rfl true true _ (dG) rfl ?_
  repeat refine vs ?_
  conv => whnf
  refine CallS.mk _ rfl true true _ (dM) rfl ?_
  repeat refine vs ?_
  conv => whnf
  refine CallS.mk _ rfl true true _ (dX) rfl ?_
  repeat refine vs ?_
  conv => whnf
  refine CallS.mk _ rfl true true _ (dY) rfl ?_
  repeat refine vs ?_
  conv => whnf
  refine CallS.mk _ rfl true true _ (n1) rfl ?_
  repeat refine vs ?_
  conv => whnf
  refine CallS.mk _ rfl true true _ (n2) rfl ?_
  repeat refine vs ?_
  conv => whnf
  first | rfl | exact ⟨rfl, rfl⟩ | exact ⟨by simp [toRes], rfl⟩
 ·have hs2 := fun h => hn (hs.1 h)
  have e1 : x.tdiv (Int.gcd x y : Int) = nN x y := by unfold nN gS; rw [if_neg hn]
  have e2 : y.tdiv (Int.gcd x y : Int) = dN x y := by unfold dN gS; rw [if_neg hn]
  rw [e1] at dX
  rw [e2] at dY hs2
  repeat refine vs ?_
  conv => whnf
  refine CallS.mk _ rfl true true _ (dG) rfl ?_
  repeat refine vs ?_
  conv => whnf
  refine CallS.mk _ rfl true true _ (dM) rfl ?_
  repeat refine vs ?_
  conv => whnf
  refine CallS.mk _ rfl true true _ (dX) rfl ?_
  repeat refine vs ?_
  conv => whnf
  refine CallS.mk _ rfl true true _ (dY) rfl ?_
  repeat refine vs ?_
  conv => whnf
  first | rfl | exact ⟨rfl, rfl⟩ | exact ⟨by simp [toRes], rfl⟩

/-- Sums, products, quotients of fractions, before they are made lowest. -/
def addN (a b c d : Int) : Int := a * d + c * b
theorem ln_mul' {x y : Int} {k : Nat} (hx : Lm.ln x ≤ k) (hy : Lm.ln y ≤ k) : Lm.ln (x * y) ≤ 2 * k := by have := Lm.ln_mul x y hx hy; omega
theorem ln_addN {a b c d : Int} {k : Nat} (ha : Lm.ln a ≤ k) (hb : Lm.ln b ≤ k) (hc : Lm.ln c ≤ k) (hd : Lm.ln d ≤ k) : Lm.ln (addN a b c d) ≤ 2 * k + 1 := Lm.ln_add _ _ (ln_mul' ha hd) (ln_mul' hc hb)

section
variable (a b c d : Int) (hb : b ≠ 0) (hd : d ≠ 0) (ha : Lm.ln a ≤ 40000000000) (hbl : Lm.ln b ≤ 40000000000) (hc : Lm.ln c ≤ 40000000000) (hdl : Lm.ln d ≤ 40000000000)
include hb hd ha hbl hc hdl

theorem l2Add_den : D 103 [ratV a b, ratV c d] true (.one (ratV (nN (addN a b c d) (b * d)) (dN (addN a b c d) (b * d)))) := by
 have e1 := ln_mul' ha hdl
 have e2 := ln_mul' hc hbl
 have e3 := ln_mul' hbl hdl
 have e4 := ln_addN ha hbl hc hdl
 have dA := l1Add_den (a * d) (c * b) (by omega) (by omega)
 have dM := l2Make_den (addN a b c d) (b * d) (Int.mul_ne_zero hb hd) (by omega) (by omega)
 refine go Tryz.func103 rfl rfl ?_
 repeat refine vs ?_
 conv => whnf
 refine CallS.mk _ rfl true true _ (l1Mul_den a d (by omega) (by omega)) rfl ?_
 repeat refine vs ?_
 conv => whnf
 refine CallS.mk _ rfl true true _ (l1Mul_den c b (by omega) (by omega)) rfl ?_
 repeat refine vs ?_
 conv => whnf
 refine CallS.mk _ rfl true true _ (dA) rfl ?_
 repeat refine vs ?_
 conv => whnf
 refine CallS.mk _ rfl true true _ (l1Mul_den b d (by omega) (by omega)) rfl ?_
 repeat refine vs ?_
 conv => whnf
 refine CallS.mk _ rfl true true _ (dM) rfl ?_
 repeat refine vs ?_
 conv => whnf
 first | rfl | exact ⟨rfl, rfl⟩ | exact ⟨by simp [toRes], rfl⟩
theorem ratAdd_den : D 147 [ratV a b, ratV c d] true (.one (ratV (nN (addN a b c d) (b * d)) (dN (addN a b c d) (b * d)))) := by
 have e1 := ln_mul' ha hdl
 have e2 := ln_mul' hc hbl
 have e3 := ln_mul' hbl hdl
 have e4 := ln_addN ha hbl hc hdl
 have dA := add_den (a * d) (c * b) (by omega) (by omega)
 have dM := ratOf_den (addN a b c d) (b * d) (Int.mul_ne_zero hb hd) (by omega) (by omega)
 refine go Tryz.func147 rfl rfl ?_
 repeat refine vs ?_
 conv => whnf
 refine CallS.mk _ rfl true true _ (mul_den a d (by omega) (by omega)) rfl ?_
 repeat refine vs ?_
 conv => whnf
 refine CallS.mk _ rfl true true _ (mul_den c b (by omega) (by omega)) rfl ?_
 repeat refine vs ?_
 conv => whnf
 refine CallS.mk _ rfl true true _ (dA) rfl ?_
 repeat refine vs ?_
 conv => whnf
 refine CallS.mk _ rfl true true _ (mul_den b d (by omega) (by omega)) rfl ?_
 repeat refine vs ?_
 conv => whnf
 refine CallS.mk _ rfl true true _ (dM) rfl ?_
 repeat refine vs ?_
 conv => whnf
 first | rfl | exact ⟨rfl, rfl⟩ | exact ⟨by simp [toRes], rfl⟩
theorem l2Mul_den : D 87 [ratV a b, ratV c d] true (.one (ratV (nN (a * c) (b * d)) (dN (a * c) (b * d)))) := by
 have e1 := ln_mul' ha hc
 have e3 := ln_mul' hbl hdl
 have dM := l2Make_den (a * c) (b * d) (Int.mul_ne_zero hb hd) (by omega) (by omega)
 refine go Tryz.func87 rfl rfl ?_
 repeat refine vs ?_
 conv => whnf
 refine CallS.mk _ rfl true true _ (l1Mul_den a c (by omega) (by omega)) rfl ?_
 repeat refine vs ?_
 conv => whnf
 refine CallS.mk _ rfl true true _ (l1Mul_den b d (by omega) (by omega)) rfl ?_
 repeat refine vs ?_
 conv => whnf
 refine CallS.mk _ rfl true true _ (dM) rfl ?_
 repeat refine vs ?_
 conv => whnf
 first | rfl | exact ⟨rfl, rfl⟩ | exact ⟨by simp [toRes], rfl⟩
theorem ratMul_den : D 95 [ratV a b, ratV c d] true (.one (ratV (nN (a * c) (b * d)) (dN (a * c) (b * d)))) := by
 have e1 := ln_mul' ha hc
 have e3 := ln_mul' hbl hdl
 have dM := ratOf_den (a * c) (b * d) (Int.mul_ne_zero hb hd) (by omega) (by omega)
 refine go Tryz.func95 rfl rfl ?_
 repeat refine vs ?_
 conv => whnf
 refine CallS.mk _ rfl true true _ (mul_den a c (by omega) (by omega)) rfl ?_
 repeat refine vs ?_
 conv => whnf
 refine CallS.mk _ rfl true true _ (mul_den b d (by omega) (by omega)) rfl ?_
 repeat refine vs ?_
 conv => whnf
 refine CallS.mk _ rfl true true _ (dM) rfl ?_
 repeat refine vs ?_
 conv => whnf
 first | rfl | exact ⟨rfl, rfl⟩ | exact ⟨by simp [toRes], rfl⟩
theorem l2Div_den (hc0 : c ≠ 0) : D 85 [ratV a b, ratV c d] true (.one (ratV (nN (a * d) (b * c)) (dN (a * d) (b * c)))) := by
 have e1 := ln_mul' ha hdl
 have e3 := ln_mul' hbl hc
 have dM := l2Make_den (a * d) (b * c) (Int.mul_ne_zero hb hc0) (by omega) (by omega)
 refine go Tryz.func85 rfl rfl ?_
 repeat refine vs ?_
 conv => whnf
 refine CallS.mk _ rfl true true _ (l1Mul_den a d (by omega) (by omega)) rfl ?_
 repeat refine vs ?_
 conv => whnf
 refine CallS.mk _ rfl true true _ (l1Mul_den b c (by omega) (by omega)) rfl ?_
 repeat refine vs ?_
 conv => whnf
 refine CallS.mk _ rfl true true _ (dM) rfl ?_
 repeat refine vs ?_
 conv => whnf
 first | rfl | exact ⟨rfl, rfl⟩ | exact ⟨by simp [toRes], rfl⟩
theorem ratDiv_den (hc0 : c ≠ 0) : D 93 [ratV a b, ratV c d] true (.one (ratV (nN (a * d) (b * c)) (dN (a * d) (b * c)))) := by
 have e1 := ln_mul' ha hdl
 have e3 := ln_mul' hbl hc
 have dM := ratOf_den (a * d) (b * c) (Int.mul_ne_zero hb hc0) (by omega) (by omega)
 refine go Tryz.func93 rfl rfl ?_
 repeat refine vs ?_
 conv => whnf
 refine CallS.mk _ rfl true true _ (mul_den a d (by omega) (by omega)) rfl ?_
 repeat refine vs ?_
 conv => whnf
 refine CallS.mk _ rfl true true _ (mul_den b c (by omega) (by omega)) rfl ?_
 repeat refine vs ?_
 conv => whnf
 refine CallS.mk _ rfl true true _ (dM) rfl ?_
 repeat refine vs ?_
 conv => whnf
 first | rfl | exact ⟨rfl, rfl⟩ | exact ⟨by simp [toRes], rfl⟩
theorem l2Cmp_den : D 118 [ratV a b, ratV c d] true (.one (iP (cmpI (a * d) (c * b)))) := by
 have e1 := ln_mul' ha hdl
 have e3 := ln_mul' hc hbl
 have dM := l1CmpBig_den (a * d) (c * b) (by omega) (by omega)
 refine go Tryz.func118 rfl rfl ?_
 repeat refine vs ?_
 conv => whnf
 refine CallS.mk _ rfl true true _ (l1Mul_den a d (by omega) (by omega)) rfl ?_
 repeat refine vs ?_
 conv => whnf
 refine CallS.mk _ rfl true true _ (l1Mul_den c b (by omega) (by omega)) rfl ?_
 repeat refine vs ?_
 conv => whnf
 refine CallS.mk _ rfl true true _ (dM) rfl ?_
 repeat refine vs ?_
 conv => whnf
 first | rfl | exact ⟨rfl, rfl⟩ | exact ⟨by simp [toRes], rfl⟩
theorem compareRat_den : D 84 [ratV a b, ratV c d] true (.one (iP (cmpI (a * d) (c * b)))) := by
 have e1 := ln_mul' ha hdl
 have e3 := ln_mul' hc hbl
 have dM := compareBig_den (a * d) (c * b) (by omega) (by omega)
 refine go Tryz.func84 rfl rfl ?_
 repeat refine vs ?_
 conv => whnf
 refine CallS.mk _ rfl true true _ (mul_den a d (by omega) (by omega)) rfl ?_
 repeat refine vs ?_
 conv => whnf
 refine CallS.mk _ rfl true true _ (mul_den c b (by omega) (by omega)) rfl ?_
 repeat refine vs ?_
 conv => whnf
 refine CallS.mk _ rfl true true _ (dM) rfl ?_
 repeat refine vs ?_
 conv => whnf
 first | rfl | exact ⟨rfl, rfl⟩ | exact ⟨by simp [toRes], rfl⟩
end

theorem l2Neg_den (a b : Int) (ha : Lm.ln a ≤ 40000000000) (hb : Lm.ln b ≤ 40000000000) : D 140 [ratV a b] false (.one (ratV (-a) b)) := by
 refine go Tryz.func140 rfl rfl ?_
 repeat refine vs ?_
 conv => whnf
 refine CallS.mk _ rfl true false _ (l1Neg_den a (by omega)) rfl ?_
 repeat refine vs ?_
 conv => whnf
 first | rfl | exact ⟨rfl, rfl⟩ | exact ⟨by simp [toRes], rfl⟩
theorem ratNeg_den (a b : Int) (hb : 0 < b) (ha : Lm.ln a ≤ 40000000000) (hbl : Lm.ln b ≤ 40000000000) : D 124 [ratV a b] true (.one (ratV (-a) b)) := by
 have h2 : (Lm.lim b.natAbs).length ≤ 40000000000 := hbl
 have dB := bigOf_den false (Lm.lim b.natAbs) (by omega)
 rw [make_num] at dB
 simp only [Bool.false_eq_true, if_false] at dB
 rw [show ((b.natAbs : Nat) : Int) = b by omega] at dB
 refine go Tryz.func124 rfl rfl ?_
 repeat refine vs ?_
 conv => whnf
 refine CallS.mk _ rfl true true _ (neg_den a (by omega)) rfl ?_
 repeat refine vs ?_
 conv => whnf
 refine CallS.mk _ rfl true true _ (dB) rfl ?_
 repeat refine vs ?_
 conv => whnf
 first | rfl | exact ⟨rfl, rfl⟩ | exact ⟨by simp [toRes], rfl⟩
theorem l2Sub_den (a b c d : Int) (hb : b ≠ 0) (hd : d ≠ 0) (ha : Lm.ln a ≤ 40000000000) (hbl : Lm.ln b ≤ 40000000000) (hc : Lm.ln c ≤ 40000000000) (hdl : Lm.ln d ≤ 40000000000) : D 86 [ratV a b, ratV c d] true (.one (ratV (nN (addN a b (-c) d) (b * d)) (dN (addN a b (-c) d) (b * d)))) := by
 refine go Tryz.func86 rfl rfl ?_
 repeat refine vs ?_
 conv => whnf
 refine CallS.mk _ rfl false false _ (l2Neg_den c d hc hdl) rfl ?_
 repeat refine vs ?_
 conv => whnf
 refine CallS.mk _ rfl true true _ (l2Add_den a b (-c) d hb hd ha hbl (by rw [Lm.ln_neg]; exact hc) hdl) rfl ?_
 repeat refine vs ?_
 conv => whnf
 first | rfl | exact ⟨rfl, rfl⟩ | exact ⟨by simp [toRes], rfl⟩
theorem ratSub_den (a b c d : Int) (hb : b ≠ 0) (hd : 0 < d) (ha : Lm.ln a ≤ 40000000000) (hbl : Lm.ln b ≤ 40000000000) (hc : Lm.ln c ≤ 40000000000) (hdl : Lm.ln d ≤ 40000000000) : D 94 [ratV a b, ratV c d] true (.one (ratV (nN (addN a b (-c) d) (b * d)) (dN (addN a b (-c) d) (b * d)))) := by
 refine go Tryz.func94 rfl rfl ?_
 repeat refine vs ?_
 conv => whnf
 refine CallS.mk _ rfl true true _ (ratNeg_den c d hd hc hdl) rfl ?_
 repeat refine vs ?_
 conv => whnf
 refine CallS.mk _ rfl true true _ (ratAdd_den a b (-c) d hb (by omega) ha hbl (by rw [Lm.ln_neg]; exact hc) hdl) rfl ?_
 repeat refine vs ?_
 conv => whnf
 first | rfl | exact ⟨rfl, rfl⟩ | exact ⟨by simp [toRes], rfl⟩
end Go.Vx
end
section
/- Chapter 2: fractions that are good; results that are not too long. -/
namespace Go.Vx
open Go.Proofs
set_option maxRecDepth 100000

theorem ln64 {n : Int} (h1 : -9223372036854775808 ≤ n) (h2 : n ≤ 9223372036854775807) : Lm.ln n ≤ 4 := Lm.lim64 (by omega)
theorem good_ex {n : Bool} {l : List Int} (h : goodB n l = true) : ∃ x : Int, n = decide (x < 0) ∧ l = Lm.lim x.natAbs ∧ Lm.ln x ≤ 40 ∧ Lm.num n l = x := by
 have h1 : Lm.Good n l := by unfold goodB at h; simpa using h
 have e := Lm.good_num h1.1 h1.2.2
 exact ⟨_, e.1, e.2, good_ln h1, rfl⟩
noncomputable def goodR (n : Bool) (l : List Int) (p : Bool) (q : List Int) : Bool := goodB n l && (goodB p q && (decide (0 < Lm.num p q) && decide (Int.gcd (Lm.num n l) (Lm.num p q) = 1)))
theorem goodR_lim {x y : Int} (hx : Lm.ln x ≤ 40) (hy : Lm.ln y ≤ 40) : goodR (decide (x < 0)) (Lm.lim x.natAbs) (decide (y < 0)) (Lm.lim y.natAbs) = (decide (0 < y) && decide (Int.gcd x y = 1)) := by
 unfold goodR
 rw [goodB_true (Lm.good_lim hx), goodB_true (Lm.good_lim hy), Lm.num_lim, Lm.num_lim]
 rfl
theorem goodR_ex {n : Bool} {l : List Int} {p : Bool} {q : List Int} (h : goodR n l p q = true) : ∃ x y : Int, n = decide (x < 0) ∧ l = Lm.lim x.natAbs ∧ p = decide (y < 0) ∧ q = Lm.lim y.natAbs ∧ Lm.ln x ≤ 40 ∧ Lm.ln y ≤ 40 ∧ 0 < y ∧ Int.gcd x y = 1 := by
 unfold goodR at h
 rw [Bool.and_eq_true, Bool.and_eq_true, Bool.and_eq_true, decide_eq_true_iff, decide_eq_true_iff] at h
 obtain ⟨h1, h2, h3, h4⟩ := h
 obtain ⟨x, a1, a2, a3, a4⟩ := good_ex h1
 obtain ⟨y, b1, b2, b3, b4⟩ := good_ex h2
 rw [a4, b4] at h4
 rw [b4] at h3
 exact ⟨x, y, a1, a2, b1, b2, a3, b3, h3, h4⟩

theorem goodRatI_den (n : Bool) (l : List Int) (p : Bool) (q : List Int) (hl : l.length ≤ 1000000000000) (hq : q.length ≤ 1000000000000) : D 107 [ratR n l p q] true (.one (bP (goodR n l p q))) := by
 have dA := are2_den n p l q hl hq
 cases g1 : goodB n l with
 | false =>
  have e : goodR n l p q = false := by unfold goodR; rw [g1]; rfl
  rw [g1] at dA
  rw [e]
  refine go Tryz.func107 rfl rfl ?_
  repeat refine vs ?_
  conv => whnf
  refine NewK.mk false ?_
  repeat refine vs ?_
  conv => whnf
  refine CallS.mk _ rfl true true _ (dA) rfl ?_
  repeat refine vs ?_
  conv => whnf
  first | rfl | exact ⟨rfl, rfl⟩ | exact ⟨by simp [toRes], rfl⟩
 | true =>
  cases g2 : goodB p q with
  | false =>
   have e : goodR n l p q = false := by unfold goodR; rw [g1, g2]; rfl
   rw [g1, g2] at dA
   rw [e]
   refine go Tryz.func107 rfl rfl ?_
   repeat refine vs ?_
   conv => whnf
   refine NewK.mk false ?_
   repeat refine vs ?_
   conv => whnf
   refine CallS.mk _ rfl true true _ (dA) rfl ?_
   repeat refine vs ?_
   conv => whnf
   first | rfl | exact ⟨rfl, rfl⟩ | exact ⟨by simp [toRes], rfl⟩
  | true =>
   rw [g1, g2] at dA
   obtain ⟨x, rfl, rfl, hx, _⟩ := good_ex g1
   obtain ⟨y, rfl, rfl, hy, _⟩ := good_ex g2
   rw [goodR_lim hx hy]
   have dS := sign_den y (by omega)
   by_cases h0 : 0 < y
   ·have e1 : cmpI y 0 > 0 := by rcases cmpI_sgn y with h | h | h <;> omega
    have hg := ln_gcd' (x := x) (show y ≠ 0 by omega)
    have dG := gcd_den x y (by omega) (by omega)
    have dO := bigOfI_den 1 (by omega) (by omega)
    have dC := compareBig_den (Int.gcd x y : Int) 1 (by omega) (Nat.le_trans (ln64 (by omega) (by omega)) (by decide))
    by_cases h1 : Int.gcd x y = 1
    ·have e2 : cmpI (Int.gcd x y : Int) 1 = 0 := by rw [h1]; rfl
     rw [decide_eq_true h0, decide_eq_true h1]
     refine go Tryz.func107 rfl rfl ?_
     repeat refine vs ?_
     conv => whnf
     refine NewK.mk false ?_
     repeat refine vs ?_
     conv => whnf
     refine CallS.mk _ rfl true true _ (dA) rfl ?_
     repeat refine vs ?_
     conv => whnf
     refine CallS.mk _ rfl true true _ (dS) rfl ?_
     repeat refine vs ?_
     conv => whnf
     refine CallS.mk _ rfl true true _ (dG) rfl ?_
     repeat refine vs ?_
     conv => whnf
     refine CallS.mk _ rfl true true _ (dO) rfl ?_
     repeat refine vs ?_
     conv => whnf
     refine CallS.mk _ rfl true true _ (dC) rfl ?_
     repeat refine vs ?_
     conv => whnf
     first | rfl | exact ⟨rfl, rfl⟩ | exact ⟨by simp [toRes], rfl⟩
    ·have e2 : ¬ cmpI (Int.gcd x y : Int) 1 = 0 := by unfold cmpI; split <;> (try split) <;> omega
     rw [decide_eq_true h0, decide_eq_false h1]
     refine go Tryz.func107 rfl rfl ?_
     repeat refine vs ?_
     conv => whnf
     refine NewK.mk false ?_
     repeat refine vs ?_
     conv => whnf
     refine CallS.mk _ rfl true true _ (dA) rfl ?_
     repeat refine vs ?_
     conv => whnf
     refine CallS.mk _ rfl true true _ (dS) rfl ?_
     repeat refine vs ?_
     conv => whnf
     refine CallS.mk _ rfl true true _ (dG) rfl ?_
     repeat refine vs ?_
     conv => whnf
     refine CallS.mk _ rfl true true _ (dO) rfl ?_
     repeat refine vs ?_
     conv => whnf
     refine CallS.mk _ rfl true true _ (dC) rfl ?_
     repeat refine vs ?_
     conv => whnf
     first | rfl | exact ⟨rfl, rfl⟩ | exact ⟨by simp [toRes], rfl⟩
   ·have e1 : ¬ cmpI y 0 > 0 := by rcases cmpI_sgn y with h | h | h <;> omega
    rw [decide_eq_false h0]
    refine go Tryz.func107 rfl rfl ?_
    repeat refine vs ?_
    conv => whnf
    refine NewK.mk false ?_
    repeat refine vs ?_
    conv => whnf
    refine CallS.mk _ rfl true true _ (dA) rfl ?_
    repeat refine vs ?_
    conv => whnf
    refine CallS.mk _ rfl true true _ (dS) rfl ?_
    repeat refine vs ?_
    conv => whnf
    first | rfl | exact ⟨rfl, rfl⟩ | exact ⟨by simp [toRes], rfl⟩

theorem can_one : Lm.Can [1] := ⟨Lm.Dig.cons (by omega) (by omega) Lm.Dig.nil, by simp⟩
theorem goodRatS_den (n : Bool) (l : List Int) (p : Bool) (q : List Int) (hl : l.length ≤ 1000000000000) (hq : q.length ≤ 1000000000000) : D 49 [ratR n l p q] true (.one (bP (goodR n l p q))) := by
 have d1 := goodS_den n l hl
 have d2 := goodS_den p q hq
 cases g1 : goodB n l with
 | false =>
  have e : goodR n l p q = false := by unfold goodR; rw [g1]; rfl
  rw [g1] at d1
  rw [e]
  refine go Tryz.func49 rfl rfl ?_
  repeat refine vs ?_
  conv => whnf
  refine CallS.mk _ rfl true true _ (d1) rfl ?_
  repeat refine vs ?_
  conv => whnf
  first | rfl | exact ⟨rfl, rfl⟩ | exact ⟨by simp [toRes], rfl⟩
 | true =>
  cases g2 : goodB p q with
  | false =>
   have e : goodR n l p q = false := by unfold goodR; rw [g1, g2]; rfl
   rw [g1] at d1
   rw [g2] at d2
   rw [e]
   refine go Tryz.func49 rfl rfl ?_
   repeat refine vs ?_
   conv => whnf
   refine CallS.mk _ rfl true true _ (d1) rfl ?_
   repeat refine vs ?_
   conv => whnf
   refine CallS.mk _ rfl true true _ (d2) rfl ?_
   repeat refine vs ?_
   conv => whnf
   first | rfl | exact ⟨rfl, rfl⟩ | exact ⟨by simp [toRes], rfl⟩
  | true =>
   rw [g1] at d1
   rw [g2] at d2
   obtain ⟨x, rfl, rfl, hx, _⟩ := good_ex g1
   obtain ⟨y, rfl, rfl, hy, _⟩ := good_ex g2
   rw [goodR_lim hx hy]
   have hx' : (Lm.lim x.natAbs).length ≤ 40 := hx
   have hy' : (Lm.lim y.natAbs).length ≤ 40 := hy
   by_cases hneg : y < 0
   ·have h0 : ¬ 0 < y := by omega
    rw [decide_eq_false h0]
    rw [decide_eq_true hneg] at d2 ⊢
    refine go Tryz.func49 rfl rfl ?_
    repeat refine vs ?_
    conv => whnf
    refine CallS.mk _ rfl true true _ (d1) rfl ?_
    repeat refine vs ?_
    conv => whnf
    refine CallS.mk _ rfl true true _ (d2) rfl ?_
    repeat refine vs ?_
    conv => whnf
    first | rfl | exact ⟨rfl, rfl⟩ | exact ⟨by simp [toRes], rfl⟩
   ·rw [decide_eq_false hneg] at d2 ⊢
    by_cases hz : y = 0
    ·have h0 : ¬ 0 < y := by omega
     have e0 : ((Lm.lim y.natAbs).length : Int) = 0 := by subst hz; simp [Lm.lim_zero]
     rw [decide_eq_false h0]
     refine go Tryz.func49 rfl rfl ?_
     repeat refine vs ?_
     conv => whnf
     refine CallS.mk _ rfl true true _ (d1) rfl ?_
     repeat refine vs ?_
     conv => whnf
     refine CallS.mk _ rfl true true _ (d2) rfl ?_
     repeat refine vs ?_
     conv => whnf
     first | rfl | exact ⟨rfl, rfl⟩ | exact ⟨by simp [toRes], rfl⟩
    ·have h0 : 0 < y := by omega
     have e0 : ¬ ((Lm.lim y.natAbs).length : Int) = 0 := by
      have := List.length_pos_iff.2 (fun h => by have := Lm.lim_eq_nil.1 h; omega : Lm.lim y.natAbs ≠ [])
      omega
     have hg : (Lm.lim (Int.gcd x y)).length ≤ 40 := by
      have := ln_gcd' (x := x) hz
      unfold Lm.ln at this
      rw [Int.natAbs_natCast] at this
      omega
     have dG := l1Gcd_den x.natAbs y.natAbs (by omega) (by omega)
     have dC := l1Cmp_den (Lm.lim (Int.gcd x y)) [1] (Lm.lim_can _) can_one (by omega) (by simp)
     rw [Lm.val_lim, Lm.val_single] at dC
     rw [decide_eq_true h0]
     by_cases h1 : Int.gcd x y = 1
     ·have e2 : cmpI (Int.gcd x y : Int) 1 = 0 := by rw [h1]; rfl
      rw [decide_eq_true h1]
      refine go Tryz.func49 rfl rfl ?_
      repeat refine vs ?_
      conv => whnf
      refine CallS.mk _ rfl true true _ (d1) rfl ?_
      repeat refine vs ?_
      conv => whnf
      refine CallS.mk _ rfl true true _ (d2) rfl ?_
      repeat refine vs ?_
      conv => whnf
      refine CallS.mk _ rfl true true _ (dG) rfl ?_
      repeat refine vs ?_
      conv => whnf
      refine NewK.mk false ?_
      repeat refine vs ?_
      conv => whnf
      refine CallS.mk _ rfl true true _ (dC) rfl ?_
      repeat refine vs ?_
      conv => whnf
      first | rfl | exact ⟨rfl, rfl⟩ | exact ⟨by simp [toRes], rfl⟩
     ·have e2 : ¬ cmpI (Int.gcd x y : Int) 1 = 0 := by unfold cmpI; split <;> (try split) <;> omega
      rw [decide_eq_false h1]
      refine go Tryz.func49 rfl rfl ?_
      repeat refine vs ?_
      conv => whnf
      refine CallS.mk _ rfl true true _ (d1) rfl ?_
      repeat refine vs ?_
      conv => whnf
      refine CallS.mk _ rfl true true _ (d2) rfl ?_
      repeat refine vs ?_
      conv => whnf
      refine CallS.mk _ rfl true true _ (dG) rfl ?_
      repeat refine vs ?_
      conv => whnf
      refine NewK.mk false ?_
      repeat refine vs ?_
      conv => whnf
      refine CallS.mk _ rfl true true _ (dC) rfl ?_
      repeat refine vs ?_
      conv => whnf
      first | rfl | exact ⟨rfl, rfl⟩ | exact ⟨by simp [toRes], rfl⟩

end Go.Vx
end
section
/- Chapter 2: several fractions that are good; the sign of a fraction. -/
namespace Go.Vx
open Go.Proofs
set_option maxRecDepth 100000

theorem ratSign_den (x y : Int) (hx : Lm.ln x ≤ 1000000000000) : D 133 [ratV x y] true (.one (iP (cmpI x 0))) := by
 refine go Tryz.func133 rfl rfl ?_
 repeat refine vs ?_
 conv => whnf
 refine CallS.mk _ rfl true true _ (sign_den x hx) rfl ?_
 repeat refine vs ?_
 conv => whnf
 first | rfl | exact ⟨rfl, rfl⟩ | exact ⟨by simp [toRes], rfl⟩
abbrev Q4 := Bool × List Int × Bool × List Int
def cellsR (q : Q4) : List PL := [.bool q.1, .ints q.2.1, .bool q.2.2.1, .ints q.2.2.2]
noncomputable def goodQ (q : Q4) : Bool := goodR q.1 q.2.1 q.2.2.1 q.2.2.2
theorem areRats_den (qs : List Q4) (hl : qs.length ≤ 1000000000000) (hq : ∀ q ∈ qs, q.2.1.length ≤ 1000000000000 ∧ q.2.2.2.length ≤ 1000000000000) : D 163 [(false, [.arr 4 (qs.map cellsR)])] true (.one (bP (qs.all goodQ))) := by
 refine go Tryz.func163 rfl rfl ?_
 have hrl : (qs.map cellsR).length = qs.length := by simp
 repeat refine vs ?_
 conv => whnf
 refine EVs.loopU (fun i : Nat => i ≤ qs.length ∧ ∀ (j : Nat) (h : j < qs.length), j < i → goodQ qs[j] = true) (fun i => qs.length - i) (fun i => [(7, .v false [.p (.int .i64 (i : Int))])]) 0 ⟨by omega, fun j h hj => by omega⟩ Wk.fg ?_
 rintro i ⟨hi, hall⟩
 refine go1 ?_
 repeat refine vs ?_
 conv => whnf
 by_cases h1 : (i : Int) < (qs.map cellsR).length
 ·have hlt : i < qs.length := by omega
  have dG := goodRatI_den qs[i].1 qs[i].2.1 qs[i].2.2.1 qs[i].2.2.2 (hq _ (List.getElem_mem hlt)).1 (hq _ (List.getElem_mem hlt)).2
  repeat refine vs ?_
  conv => whnf
  refine LdR.mk (cellsR qs[i]) (by simp [hlt]) ?_
  repeat refine vs ?_
  conv => whnf
  refine CallS.mk _ rfl true true _ (dG) rfl ?_
  repeat refine vs ?_
  conv => whnf
  cases hpi : goodQ qs[i]
  ·have hpi' := hpi
   unfold goodQ at hpi'
   rw [hpi']
   repeat refine vs ?_
   conv => whnf
   have : qs.all goodQ = false := by
    rw [List.all_eq_false]
    exact ⟨_, List.getElem_mem hlt, by simp [hpi]⟩
   exact ⟨by simp [toRes, this], rfl⟩
  ·have hpi' := hpi
   unfold goodQ at hpi'
   rw [hpi']
   repeat refine vs ?_
   conv => whnf
   refine ⟨i + 1, by omega, ⟨by omega, fun j h hj => ?_⟩, ?_⟩
   ·by_cases e : j = i
    ·subst e; exact hpi
    ·exact hall j h (by omega)
   ·exact Wk.fg
 ·repeat refine vs ?_
  conv => whnf
  have : qs.all goodQ = true := by
   rw [List.all_eq_true]
   intro x hx
   obtain ⟨j, hj, rfl⟩ := List.getElem_of_mem hx
   exact hall j hj (by omega)
  exact ⟨by simp [toRes, this], rfl⟩
theorem areRats2_den (n0 : Bool) (l0 : List Int) (p0 : Bool) (q0 : List Int) (n1 : Bool) (l1 : List Int) (p1 : Bool) (q1 : List Int) (h1 : l0.length ≤ 1000000000000) (h2 : q0.length ≤ 1000000000000) (h3 : l1.length ≤ 1000000000000) (h4 : q1.length ≤ 1000000000000) :
  D 163 [(false, [.arr 4 [[.bool n0, .ints l0, .bool p0, .ints q0], [.bool n1, .ints l1, .bool p1, .ints q1]]])] true (.one (bP (goodR n0 l0 p0 q0 && goodR n1 l1 p1 q1))) := by
 have := areRats_den [(n0, l0, p0, q0), (n1, l1, p1, q1)] (by simp) (by intro q hq; rcases List.mem_cons.1 hq with rfl | hq; exact ⟨h1, h2⟩; rcases List.mem_cons.1 hq with rfl | hq; exact ⟨h3, h4⟩; cases hq)
 simp only [List.all_cons, List.all_nil, Bool.and_true] at this
 exact this
end Go.Vx
end
section
/- Chapter 2: the simplest fraction between two. -/
namespace Go.Vx
open Go.Proofs
set_option maxRecDepth 100000

theorem less_den (a b c d : Int) (hb : b ≠ 0) (hd : d ≠ 0) (ha : Lm.ln a ≤ 40000000000) (hbl : Lm.ln b ≤ 40000000000) (hc : Lm.ln c ≤ 40000000000) (hdl : Lm.ln d ≤ 40000000000) :
  D 80 [ratV a b, ratV c d] true (.one (bP (decide (a * d < c * b)))) := by
 have dC := compareRat_den a b c d hb hd ha hbl hc hdl
 refine go Tryz.func80 rfl rfl ?_
 have h : (cmpI (a * d) (c * b) < 0) ↔ a * d < c * b := by unfold cmpI; split <;> (try split) <;> omega
 by_cases h1 : a * d < c * b
 ·have h2 := h.2 h1
  rw [decide_eq_true h1]
  repeat refine vs ?_
  conv => whnf
  refine CallS.mk _ rfl true true _ (dC) rfl ?_
  repeat refine vs ?_
  conv => whnf
  first | rfl | exact ⟨rfl, rfl⟩ | exact ⟨by simp [toRes], rfl⟩
 ·have h2 := fun x => h1 (h.1 x)
  rw [decide_eq_false h1]
  repeat refine vs ?_
  conv => whnf
  refine CallS.mk _ rfl true true _ (dC) rfl ?_
  repeat refine vs ?_
  conv => whnf
  first | rfl | exact ⟨rfl, rfl⟩ | exact ⟨by simp [toRes], rfl⟩

theorem whole_den (n : Int) (h1 : -9223372036854775808 ≤ n) (h2 : n ≤ 9223372036854775807) : D 92 [iP n] true (.one (ratV n 1)) := by
 refine go Tryz.func92 rfl rfl ?_
 repeat refine vs ?_
 conv => whnf
 refine CallS.mk _ rfl true true _ (bigOfI_den n h1 h2) rfl ?_
 repeat refine vs ?_
 conv => whnf
 refine CallS.mk _ rfl true true _ (bigOfI_den 1 (by omega) (by omega)) rfl ?_
 repeat refine vs ?_
 conv => whnf
 first | rfl | exact ⟨rfl, rfl⟩ | exact ⟨by simp [toRes], rfl⟩
theorem l2Int_den (n : Int) (h1 : -9223372036854775808 ≤ n) (h2 : n ≤ 9223372036854775807) : D 53 [iP n] true (.one (ratV n 1)) := by
 refine go Tryz.func53 rfl rfl ?_
 repeat refine vs ?_
 conv => whnf
 refine CallS.mk _ rfl true true _ (bigOfS_den n h1 h2) rfl ?_
 repeat refine vs ?_
 conv => whnf
 refine CallS.mk _ rfl true true _ (bigOfS_den 1 (by omega) (by omega)) rfl ?_
 repeat refine vs ?_
 conv => whnf
 first | rfl | exact ⟨rfl, rfl⟩ | exact ⟨by simp [toRes], rfl⟩
/-- The walk down the tree of fractions between p/q and r/s. -/
def sb (a b c d : Int) : Nat → Int → Int → Int → Int → Option (Int × Int)
 | 0, _, _, _, _ => none
 | n + 1, p, q, r, s => if (p + r) * b ≤ a * (q + s) then sb a b c d n (p + r) (q + s) r s else if c * (q + s) ≤ (p + r) * d then sb a b c d n p q (p + r) (q + s) else some (p + r, q + s)
end Go.Vx
end
section
/- Chapter 2: lowest terms of equal fractions are equal; floors. -/
namespace Go.Vx
theorem gS_dvd (x y : Int) : gS x y ∣ x ∧ gS x y ∣ y := by
 unfold gS
 split
 ·exact ⟨Int.neg_dvd.2 (Int.gcd_dvd_left _ _), Int.neg_dvd.2 (Int.gcd_dvd_right _ _)⟩
 ·exact ⟨Int.gcd_dvd_left _ _, Int.gcd_dvd_right _ _⟩
theorem gS_mul (x y : Int) : gS x y * nN x y = x ∧ gS x y * dN x y = y :=
 ⟨Int.mul_tdiv_cancel' (gS_dvd x y).1, Int.mul_tdiv_cancel' (gS_dvd x y).2⟩
theorem nN_dN (x y : Int) : nN x y * y = x * dN x y := by
 have h := gS_mul x y
 generalize gS x y = g at *
 generalize nN x y = n at *
 generalize dN x y = d at *
 obtain ⟨rfl, rfl⟩ := h
 grind
theorem nd_cop {x y : Int} (h : y ≠ 0) : Int.gcd (nN x y) (dN x y) = 1 := by
 have hg : 0 < Int.gcd x y := Int.gcd_pos_of_ne_zero_right x h
 have h1 := gS_mul x y
 have h2 : Int.gcd (gS x y * nN x y) (gS x y * dN x y) = (gS x y).natAbs * Int.gcd (nN x y) (dN x y) := Int.gcd_mul_left ..
 rw [h1.1, h1.2, gS_abs] at h2
 have : Int.gcd x y * 1 = Int.gcd x y * Int.gcd (nN x y) (dN x y) := by omega
 exact (Nat.eq_of_mul_eq_mul_left hg this).symm
theorem low_uniq {n d m e : Int} (hd : 0 < d) (he : 0 < e) (h1 : Int.gcd n d = 1) (h2 : Int.gcd m e = 1) (h : n * e = m * d) : n = m ∧ d = e := by
 have a1 : d ∣ e := by
  have := (Int.dvd_gcd_mul_iff_dvd_mul (k := d) (n := n) (m := e)).2 ⟨m, by rw [h, Int.mul_comm]⟩
  rwa [Int.gcd_comm, h1, Int.natCast_one, Int.one_mul] at this
 have a2 : e ∣ d := by
  have := (Int.dvd_gcd_mul_iff_dvd_mul (k := e) (n := m) (m := d)).2 ⟨n, by rw [← h, Int.mul_comm]⟩
  rwa [Int.gcd_comm, h2, Int.natCast_one, Int.one_mul] at this
 have e1 : d = e := Int.le_antisymm (Int.le_of_dvd he a1) (Int.le_of_dvd hd a2)
 subst e1
 exact ⟨Int.eq_of_mul_eq_mul_right (by omega) h, rfl⟩
/-- Equal fractions have the same lowest terms. -/
theorem nd_eq {x y u v : Int} (hy : y ≠ 0) (hv : v ≠ 0) (h : x * v = u * y) : nN x y = nN u v ∧ dN x y = dN u v := by
 have p1 := dN_pos (x := x) hy
 have p2 := dN_pos (x := u) hv
 refine low_uniq p1 p2 (nd_cop hy) (nd_cop hv) ?_
 have e1 := nN_dN x y
 have e2 := nN_dN u v
 generalize nN x y = n at *
 generalize dN x y = d at *
 generalize nN u v = m at *
 generalize dN u v = e at *
 -- n*y = x*d, m*v = u*e, x*v = u*y; so n*e*y*v = x*d*e*v = u*y*d*e = m*d*y*v
 have : (n * e) * (y * v) = (m * d) * (y * v) := by grind
 exact Int.eq_of_mul_eq_mul_right (Int.mul_ne_zero hy hv) this
theorem nd_self {x y : Int} (hy : 0 < y) (h : Int.gcd x y = 1) : nN x y = x ∧ dN x y = y :=
 low_uniq (dN_pos (by omega)) hy (nd_cop (by omega)) h (nN_dN x y)
end Go.Vx
end
