/- Chapter 3: rounding an interval outward to so many bits. -/
import Derived.Test.YtdgagbjmbddefaaGreatS5
set_option linter.unusedVariables false
set_option linter.unusedSectionVars false
set_option linter.unusedSimpArgs false
namespace Go.Vx
open Go.Proofs
set_option maxRecDepth 100000

theorem l3Below_den (a b P : Int) (hb : 0 < b) (ha : Lm.ln a ≤ 1000) (hbl : Lm.ln b ≤ 1000) (hP : Lm.ln P ≤ 1000) :
    D 15 [ratV a b, bigV P] true (.one (bigV (flo (nN (a * P) b) (dN (a * P) b)))) := by
  have l1 := Lm.ln_mul a P ha hP
  have m1 := l1Mul_den a P (by omega) (by omega)
  have m2 := l2Make_den (a * P) b (by omega) (by omega) (by omega)
  have k1 := ln_nN (a * P) b
  have k2 := ln_dN (a * P) b
  have k3 := dN_pos (x := a * P) (y := b) (by omega)
  have m3 := l2Floor_den (nN (a * P) b) (dN (a * P) b) (by omega) (by omega) (by omega)
  refine go Tryz.func15 rfl rfl ?_
  repeat refine vs ?_
  conv => whnf
  refine CallS.mk _ rfl true false _ (m1) rfl ?_
  repeat refine vs ?_
  conv => whnf
  refine CallS.mk _ rfl true false _ (m2) rfl ?_
  repeat refine vs ?_
  conv => whnf
  refine CallS.mk _ rfl true true _ (m3) rfl ?_
  repeat refine vs ?_
  conv => whnf
  first | rfl | exact ⟨rfl, rfl⟩ | exact ⟨by simp [toRes], rfl⟩
theorem roundOutBoth (na : Bool) (la : List Int) (pa : Bool) (qa : List Int) (nb : Bool) (lb : List Int) (pb : Bool) (qb : List Int) (z : Int) (h1 : la.length ≤ 1000000000000) (h2 : qa.length ≤ 1000000000000) (h3 : lb.length ≤ 1000000000000) (h4 : qb.length ≤ 1000000000000) (_ : -9223372036854775808 ≤ z) (_ : z ≤ 9223372036854775807) :
    ∃ n l p q m k o s r, l.length ≤ 1000000 ∧ q.length ≤ 1000000 ∧ k.length ≤ 1000000 ∧ s.length ≤ 1000000 ∧
    D 5 [spanR na la pa qa nb lb pb qb, iP z] false (.tup [spanR n l p q m k o s, bP r]) ∧ D 7 [spanR na la pa qa nb lb pb qb, iP z] true (.tup [spanR n l p q m k o s, bP r]) := by
  have sS := goodSpanS_den na la pa qa nb lb pb qb h1 h2 h3 h4
  have sI := goodSpanI_den na la pa qa nb lb pb qb h1 h2 h3 h4
  have iS := l1In_den z 0 64
  have iI := within_den z 0 64
  cases hgg : goodS na la pa qa nb lb pb qb with
  | false =>
    rw [hgg] at sS sI
    refine ⟨false, [], false, [], false, [], false, [], false, by simp, by simp, by simp, by simp, go Tryz.func5 rfl rfl ?_, go Tryz.func7 rfl rfl ?_⟩
    · repeat refine vs ?_
      conv => whnf
      refine CallS.mk _ rfl true true _ (sS) rfl ?_
      repeat refine vs ?_
      conv => whnf
      first | rfl | exact ⟨rfl, rfl⟩ | exact ⟨by simp [toRes], rfl⟩
    · repeat refine vs ?_
      conv => whnf
      refine CallS.mk _ rfl true true _ (sI) rfl ?_
      repeat refine vs ?_
      conv => whnf
      first | rfl | exact ⟨rfl, rfl⟩ | exact ⟨by simp [toRes], rfl⟩
  | true =>
    rw [hgg] at sS sI
    by_cases hz : 0 ≤ z ∧ z ≤ 64
    · obtain ⟨t, rfl⟩ := Int.eq_ofNat_of_zero_le hz.1
      rw [decide_eq_true hz] at iS iI
      obtain ⟨a, b, c, d, rfl, rfl, rfl, rfl, rfl, rfl, rfl, rfl, ha, hbl, hc, hdl, hb, hd, _⟩ := goodS_ex hgg
      have pS := l3Power_den (t : Int) (by omega) (by omega)
      rw [Int.toNat_natCast] at pS
      have pI := scaleOf_den t (by omega)
      have hp := Lm.pow2_pos t
      have lp := ln_pow2 t
      generalize Lm.pow2 t = P at *
      have lP : Lm.ln P ≤ 68 := by omega
      have l1 : Lm.ln 1 ≤ 4 := ln64 (by omega) (by omega)
      have lc : Lm.ln (-c) ≤ 40 := by rw [Lm.ln_neg]; exact hc
      have b1 := l3Below_den a b P hb (by omega) (by omega) (by omega)
      have nS := l2Neg_den c d (by omega) (by omega)
      have nI := ratNeg_den c d hd (by omega) (by omega)
      have b2 := l3Below_den (-c) d P hd (by omega) (by omega) (by omega)
      have m1 := ratMul_den a b P 1 (by omega) (by omega) (by omega) (by omega) (by omega) (by omega)
      have m2 := ratMul_den (-c) d P 1 (by omega) (by omega) (by omega) (by omega) (by omega) (by omega)
      rw [Int.mul_one] at m1 m2
      have e1 := Lm.ln_mul a P ha lP
      have e2 := Lm.ln_mul (-c) P lc lP
      have k1 := ln_nN (a * P) b
      have k2 := ln_dN (a * P) b
      have k3 := dN_pos (x := a * P) (y := b) (by omega)
      have k4 := ln_nN (-c * P) d
      have k5 := ln_dN (-c * P) d
      have k6 := dN_pos (x := -c * P) (y := d) (by omega)
      generalize nN (a * P) b = x1 at *
      generalize dN (a * P) b = y1 at *
      generalize nN (-c * P) d = x2 at *
      generalize dN (-c * P) d = y2 at *
      have f1 := floor_den x1 y1 (by omega) (by omega) (by omega)
      have f2 := floor_den x2 y2 (by omega) (by omega) (by omega)
      have g1 := ln_flo x1 y1
      have g2 := ln_flo x2 y2
      generalize flo x1 y1 = F at *
      generalize flo x2 y2 = G at *
      have lG : Lm.ln (-G) = Lm.ln G := Lm.ln_neg G
      have vS := l1Neg_den G (by omega)
      have u1 := l2Make_den F P (by omega) (by omega) (by omega)
      have u2 := l2Make_den (-G) P (by omega) (by omega) (by omega)
      have o1 := ofBig_den F (by omega)
      have o2 := ofBig_den G (by omega)
      have vI := ratNeg_den G 1 (by omega) (by omega) (by omega)
      have w1 := ratDiv_den F 1 P 1 (by omega) (by omega) (by omega) (by omega) (by omega) (by omega) (by omega)
      have w2 := ratDiv_den (-G) 1 P 1 (by omega) (by omega) (by omega) (by omega) (by omega) (by omega) (by omega)
      rw [Int.mul_one, Int.one_mul] at w1 w2
      have r1 := ln_nN F P
      have r2 := ln_dN F P
      have r3 := dN_pos (x := F) (y := P) (by omega)
      have r4 := ln_nN (-G) P
      have r5 := ln_dN (-G) P
      have r6 := dN_pos (x := -G) (y := P) (by omega)
      generalize nN F P = X at *
      generalize dN F P = Y at *
      generalize nN (-G) P = Z at *
      generalize dN (-G) P = W at *
      have fS := l3Fits_den X Y Z W r3 r6 (by omega) (by omega) (by omega) (by omega)
      have fI := checkedSpan_den X Y Z W r3 r6 (by omega) (by omega) (by omega) (by omega)
      obtain ⟨n, l, p, q, m, k, o, s, e1, e2, e3, e4, e⟩ := fitSV_ex X Y Z W
      rw [e] at fS fI
      refine ⟨n, l, p, q, m, k, o, s, fitS X Y Z W, e1, e2, e3, e4, go Tryz.func5 rfl rfl ?_, go Tryz.func7 rfl rfl ?_⟩
      · repeat refine vs ?_
        conv => whnf
        refine CallS.mk _ rfl true true _ (sS) rfl ?_
        repeat refine vs ?_
        conv => whnf
        refine CallS.mk _ rfl true true _ (iS) rfl ?_
        repeat refine vs ?_
        conv => whnf
        refine CallS.mk _ rfl false false _ (pS) rfl ?_
        repeat refine vs ?_
        conv => whnf
        refine CallS.mk _ rfl true false _ (b1) rfl ?_
        repeat refine vs ?_
        conv => whnf
        refine CallS.mk _ rfl false false _ (nS) rfl ?_
        repeat refine vs ?_
        conv => whnf
        refine CallS.mk _ rfl true false _ (b2) rfl ?_
        repeat refine vs ?_
        conv => whnf
        refine CallS.mk _ rfl true false _ (vS) rfl ?_
        repeat refine vs ?_
        conv => whnf
        refine CallS.mk _ rfl true false _ (u1) rfl ?_
        repeat refine vs ?_
        conv => whnf
        refine CallS.mk _ rfl true false _ (u2) rfl ?_
        repeat refine vs ?_
        conv => whnf
        refine CallS.mk _ rfl true false _ (fS) rfl ?_
        repeat refine vs ?_
        conv => whnf
        first | rfl | exact ⟨rfl, rfl⟩ | exact ⟨by simp [toRes], rfl⟩
      · repeat refine vs ?_
        conv => whnf
        refine CallS.mk _ rfl true true _ (sI) rfl ?_
        repeat refine vs ?_
        conv => whnf
        refine CallS.mk _ rfl true true _ (iI) rfl ?_
        repeat refine vs ?_
        conv => whnf
        refine CallS.mk _ rfl false false _ (pI) rfl ?_
        repeat refine vs ?_
        conv => whnf
        refine CallS.mk _ rfl true false _ (m1) rfl ?_
        repeat refine vs ?_
        conv => whnf
        refine CallS.mk _ rfl true false _ (f1) rfl ?_
        repeat refine vs ?_
        conv => whnf
        refine CallS.mk _ rfl true false _ (o1) rfl ?_
        repeat refine vs ?_
        conv => whnf
        refine CallS.mk _ rfl true false _ (nI) rfl ?_
        repeat refine vs ?_
        conv => whnf
        refine CallS.mk _ rfl true false _ (m2) rfl ?_
        repeat refine vs ?_
        conv => whnf
        refine CallS.mk _ rfl true false _ (f2) rfl ?_
        repeat refine vs ?_
        conv => whnf
        refine CallS.mk _ rfl true false _ (o2) rfl ?_
        repeat refine vs ?_
        conv => whnf
        refine CallS.mk _ rfl true false _ (vI) rfl ?_
        repeat refine vs ?_
        conv => whnf
        refine CallS.mk _ rfl true false _ (w1) rfl ?_
        repeat refine vs ?_
        conv => whnf
        refine CallS.mk _ rfl true false _ (w2) rfl ?_
        repeat refine vs ?_
        conv => whnf
        refine CallS.mk _ rfl true true _ (fI) rfl ?_
        repeat refine vs ?_
        conv => whnf
        first | rfl | exact ⟨rfl, rfl⟩ | exact ⟨by simp [toRes], rfl⟩
    · rw [decide_eq_false hz] at iS iI
      refine ⟨false, [], false, [], false, [], false, [], false, by simp, by simp, by simp, by simp, go Tryz.func5 rfl rfl ?_, go Tryz.func7 rfl rfl ?_⟩
      · repeat refine vs ?_
        conv => whnf
        refine CallS.mk _ rfl true true _ (sS) rfl ?_
        repeat refine vs ?_
        conv => whnf
        refine CallS.mk _ rfl true true _ (iS) rfl ?_
        repeat refine vs ?_
        conv => whnf
        first | rfl | exact ⟨rfl, rfl⟩ | exact ⟨by simp [toRes], rfl⟩
      · repeat refine vs ?_
        conv => whnf
        refine CallS.mk _ rfl true true _ (sI) rfl ?_
        repeat refine vs ?_
        conv => whnf
        refine CallS.mk _ rfl true true _ (iI) rfl ?_
        repeat refine vs ?_
        conv => whnf
        first | rfl | exact ⟨rfl, rfl⟩ | exact ⟨by simp [toRes], rfl⟩
end Go.Vx
