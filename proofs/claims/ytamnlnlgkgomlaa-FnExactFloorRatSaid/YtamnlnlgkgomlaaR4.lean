/- Chapter 2: fractions of ints; comparisons; floors. -/
import Derived.Test.YtamnlnlgkgomlaaR3A
set_option linter.unusedVariables false
set_option linter.unusedSectionVars false
set_option linter.unusedSimpArgs false
namespace Go.Vx
open Go.Proofs
set_option maxRecDepth 100000

theorem goodRatBoth (n : Bool) (l : List Int) (p : Bool) (q : List Int) (hl : l.length ≤ 1000000000000) (hq : q.length ≤ 1000000000000) : ∃ b, D 20 [ratR n l p q] false (.one (bP b)) ∧ D 22 [ratR n l p q] true (.one (bP b)) :=
  ⟨_, (goodRatS_den n l p q hl hq).un, goodRatI_den n l p q hl hq⟩


theorem ratOfBoth (x y : Int) (x1 : -9223372036854775808 ≤ x) (x2 : x ≤ 9223372036854775807) (y1 : -9223372036854775808 ≤ y) (y2 : y ≤ 9223372036854775807) :
    ∃ n r p s b, r.length ≤ 1000000 ∧ s.length ≤ 1000000 ∧ D 14 [iP x, iP y] false (.tup [ratR n r p s, bP b]) ∧ D 15 [iP x, iP y] true (.tup [ratR n r p s, bP b]) := by
  have wx := within_den x (-4611686018427387904) 4611686018427387904
  have wy := within_den y (-4611686018427387904) 4611686018427387904
  have sx := l1In_den x (-4611686018427387904) 4611686018427387904
  have sy := l1In_den y (-4611686018427387904) 4611686018427387904
  by_cases hx : -4611686018427387904 ≤ x ∧ x ≤ 4611686018427387904
  · rw [decide_eq_true hx] at wx sx
    by_cases hy : -4611686018427387904 ≤ y ∧ y ≤ 4611686018427387904
    · rw [decide_eq_true hy] at wy sy
      by_cases h0 : y = 0
      · refine ⟨false, [], false, [], false, by simp, by simp, go Try.func14 rfl rfl ?_, go Try.func15 rfl rfl ?_⟩
        · repeat refine vs ?_
          conv => whnf
          refine CallS.mk _ rfl true true _ (sx) rfl ?_
          repeat refine vs ?_
          conv => whnf
          refine CallS.mk _ rfl true true _ (sy) rfl ?_
          repeat refine vs ?_
          conv => whnf
          first | rfl | exact ⟨rfl, rfl⟩ | exact ⟨by simp [toRes], rfl⟩
        · repeat refine vs ?_
          conv => whnf
          first | rfl | exact ⟨rfl, rfl⟩ | exact ⟨by simp [toRes], rfl⟩
      · have lx := ln64 x1 x2
        have ly := ln64 y1 y2
        have k3 := ln_nN x y
        have k4 := ln_dN x y
        have dS := l2Make_den x y h0 (by omega) (by omega)
        have dI := ratOf_den x y h0 (by omega) (by omega)
        refine ⟨decide (nN x y < 0), Lm.lim (nN x y).natAbs, decide (dN x y < 0), Lm.lim (dN x y).natAbs, true, Nat.le_trans k3 (by omega), Nat.le_trans k4 (by omega), go Try.func14 rfl rfl ?_, go Try.func15 rfl rfl ?_⟩
        · repeat refine vs ?_
          conv => whnf
          refine CallS.mk _ rfl true true _ (sx) rfl ?_
          repeat refine vs ?_
          conv => whnf
          refine CallS.mk _ rfl true true _ (sy) rfl ?_
          repeat refine vs ?_
          conv => whnf
          refine CallS.mk _ rfl true true _ (bigOfS_den x x1 x2) rfl ?_
          repeat refine vs ?_
          conv => whnf
          refine CallS.mk _ rfl true true _ (bigOfS_den y y1 y2) rfl ?_
          repeat refine vs ?_
          conv => whnf
          refine CallS.mk _ rfl true true _ (dS) rfl ?_
          repeat refine vs ?_
          conv => whnf
          first | rfl | exact ⟨rfl, rfl⟩ | exact ⟨by simp [toRes], rfl⟩
        · repeat refine vs ?_
          conv => whnf
          refine CallS.mk _ rfl true true _ (wx) rfl ?_
          repeat refine vs ?_
          conv => whnf
          refine CallS.mk _ rfl true true _ (wy) rfl ?_
          repeat refine vs ?_
          conv => whnf
          refine CallS.mk _ rfl true true _ (bigOfI_den x x1 x2) rfl ?_
          repeat refine vs ?_
          conv => whnf
          refine CallS.mk _ rfl true true _ (bigOfI_den y y1 y2) rfl ?_
          repeat refine vs ?_
          conv => whnf
          refine CallS.mk _ rfl true true _ (dI) rfl ?_
          repeat refine vs ?_
          conv => whnf
          first | rfl | exact ⟨rfl, rfl⟩ | exact ⟨by simp [toRes], rfl⟩
    · rw [decide_eq_false hy] at wy sy
      have h0 : y ≠ 0 := by omega
      refine ⟨false, [], false, [], false, by simp, by simp, go Try.func14 rfl rfl ?_, go Try.func15 rfl rfl ?_⟩
      · repeat refine vs ?_
        conv => whnf
        refine CallS.mk _ rfl true true _ (sx) rfl ?_
        repeat refine vs ?_
        conv => whnf
        refine CallS.mk _ rfl true true _ (sy) rfl ?_
        repeat refine vs ?_
        conv => whnf
        first | rfl | exact ⟨rfl, rfl⟩ | exact ⟨by simp [toRes], rfl⟩
      · repeat refine vs ?_
        conv => whnf
        refine CallS.mk _ rfl true true _ (wx) rfl ?_
        repeat refine vs ?_
        conv => whnf
        refine CallS.mk _ rfl true true _ (wy) rfl ?_
        repeat refine vs ?_
        conv => whnf
        first | rfl | exact ⟨rfl, rfl⟩ | exact ⟨by simp [toRes], rfl⟩
  · rw [decide_eq_false hx] at wx sx
    refine ⟨false, [], false, [], false, by simp, by simp, go Try.func14 rfl rfl ?_, ?_⟩
    · repeat refine vs ?_
      conv => whnf
      refine CallS.mk _ rfl true true _ (sx) rfl ?_
      repeat refine vs ?_
      conv => whnf
      first | rfl | exact ⟨rfl, rfl⟩ | exact ⟨by simp [toRes], rfl⟩
    · by_cases h0 : y = 0
      · refine go Try.func15 rfl rfl ?_
        repeat refine vs ?_
        conv => whnf
        first | rfl | exact ⟨rfl, rfl⟩ | exact ⟨by simp [toRes], rfl⟩
      · refine go Try.func15 rfl rfl ?_
        repeat refine vs ?_
        conv => whnf
        refine CallS.mk _ rfl true true _ (wx) rfl ?_
        repeat refine vs ?_
        conv => whnf
        first | rfl | exact ⟨rfl, rfl⟩ | exact ⟨by simp [toRes], rfl⟩

theorem compareRatBoth (n0 : Bool) (l0 : List Int) (p0 : Bool) (q0 : List Int) (n1 : Bool) (l1 : List Int) (p1 : Bool) (q1 : List Int) (h1 : l0.length ≤ 1000000000000) (h2 : q0.length ≤ 1000000000000) (h3 : l1.length ≤ 1000000000000) (h4 : q1.length ≤ 1000000000000) :
    ∃ z b, D 23 [ratR n0 l0 p0 q0, ratR n1 l1 p1 q1] false (.tup [iP z, bP b]) ∧ D 24 [ratR n0 l0 p0 q0, ratR n1 l1 p1 q1] true (.tup [iP z, bP b]) := by
  have dB := l2Both_den n0 l0 p0 q0 n1 l1 p1 q1 h1 h2 h3 h4
  have dR := areRats2_den n0 l0 p0 q0 n1 l1 p1 q1 h1 h2 h3 h4
  cases hg : goodR n0 l0 p0 q0 && goodR n1 l1 p1 q1 with
  | false =>
    rw [hg] at dB dR
    refine ⟨0, false, go Try.func23 rfl rfl ?_, go Try.func24 rfl rfl ?_⟩
    · repeat refine vs ?_
      conv => whnf
      refine CallS.mk _ rfl true true _ (dB) rfl ?_
      repeat refine vs ?_
      conv => whnf
      first | rfl | exact ⟨rfl, rfl⟩ | exact ⟨by simp [toRes], rfl⟩
    · repeat refine vs ?_
      conv => whnf
      refine NewK.mk false ?_
      repeat refine vs ?_
      conv => whnf
      refine CallS.mk _ rfl true true _ (dR) rfl ?_
      repeat refine vs ?_
      conv => whnf
      first | rfl | exact ⟨rfl, rfl⟩ | exact ⟨by simp [toRes], rfl⟩
  | true =>
    rw [hg] at dB dR
    rw [Bool.and_eq_true] at hg
    obtain ⟨g1, g2⟩ := hg
    obtain ⟨a, b, rfl, rfl, rfl, rfl, ha, hbl, hb, _⟩ := goodR_ex g1
    obtain ⟨c, d, rfl, rfl, rfl, rfl, hc, hdl, hd, _⟩ := goodR_ex g2
    have dS := l2Cmp_den a b c d (by omega) (by omega) (by omega) (by omega) (by omega) (by omega)
    have dI := compareRat_den a b c d (by omega) (by omega) (by omega) (by omega) (by omega) (by omega)
    refine ⟨cmpI (a * d) (c * b), true, go Try.func23 rfl rfl ?_, go Try.func24 rfl rfl ?_⟩
    · repeat refine vs ?_
      conv => whnf
      refine CallS.mk _ rfl true true _ (dB) rfl ?_
      repeat refine vs ?_
      conv => whnf
      refine CallS.mk _ rfl true true _ (dS) rfl ?_
      repeat refine vs ?_
      conv => whnf
      first | rfl | exact ⟨rfl, rfl⟩ | exact ⟨by simp [toRes], rfl⟩
    · repeat refine vs ?_
      conv => whnf
      refine NewK.mk false ?_
      repeat refine vs ?_
      conv => whnf
      refine CallS.mk _ rfl true true _ (dR) rfl ?_
      repeat refine vs ?_
      conv => whnf
      refine CallS.mk _ rfl true true _ (dI) rfl ?_
      repeat refine vs ?_
      conv => whnf
      first | rfl | exact ⟨rfl, rfl⟩ | exact ⟨by simp [toRes], rfl⟩

/-- The greatest number that is not more than a fraction, as both find it. -/
def flo (x y : Int) : Int := if x.tmod y < 0 then x.tdiv y - 1 else x.tdiv y
theorem ln_flo (x y : Int) : Lm.ln (flo x y) ≤ Lm.ln x + 1 := by
  have := ln_tdiv' x y
  unfold flo
  split
  · by_cases h : Lm.ln x = 0
    · have hx : x = 0 := Lm.ln_eq_zero.1 h
      subst hx
      simp at *
    · have hx0 : x ≠ 0 := fun e => h (Lm.ln_eq_zero.2 e)
      exact Lm.ln_sub _ _ this (Lm.ln_mono (x := 1) (y := x) (by omega))
  · omega
theorem l2Floor_den (x y : Int) (hy0 : y ≠ 0) (hx : Lm.ln x ≤ 40000000000) (hy : Lm.ln y ≤ 40000000000) : D 76 [ratV x y] true (.one (bigV (flo x y))) := by
  have dD := l1Div_den x y hy0 (by omega) (by omega)
  have d1 := bigOfS_den 1 (by omega) (by omega)
  have k1 := ln_tdiv' x y
  have k2 : Lm.ln 1 ≤ 4 := ln64 (by omega) (by omega)
  have dB := l1Sub_den (x.tdiv y) 1 (by omega) (by omega)
  refine go Try.func76 rfl rfl ?_
  by_cases h : x.tmod y < 0
  · rw [show flo x y = x.tdiv y - 1 from if_pos h]
    repeat refine vs ?_
    conv => whnf
    refine CallS.mk _ rfl true true _ (dD) rfl ?_
    repeat refine vs ?_
    conv => whnf
    refine CallS.mk _ rfl true true _ (d1) rfl ?_
    repeat refine vs ?_
    conv => whnf
    refine CallS.mk _ rfl true true _ (dB) rfl ?_
    repeat refine vs ?_
    conv => whnf
    first | rfl | exact ⟨rfl, rfl⟩ | exact ⟨by simp [toRes], rfl⟩
  · rw [show flo x y = x.tdiv y from if_neg h]
    repeat refine vs ?_
    conv => whnf
    refine CallS.mk _ rfl true true _ (dD) rfl ?_
    repeat refine vs ?_
    conv => whnf
    first | rfl | exact ⟨rfl, rfl⟩ | exact ⟨by simp [toRes], rfl⟩
theorem floorDiv_den (x y : Int) (hy0 : y ≠ 0) (hx : Lm.ln x ≤ 40000000000) (hy : Lm.ln y ≤ 40000000000) : D 114 [bigV x, bigV y] true (.one (bigV (flo x y))) := by
  have dD := div_den x y hy0 (by omega) (by omega)
  have d1 := bigOfI_den 1 (by omega) (by omega)
  have k1 := ln_tdiv' x y
  have k3 : Lm.ln (x.tmod y) ≤ Lm.ln x := Lm.ln_mono (by rw [Int.natAbs_tmod]; exact Nat.mod_le _ _)
  have k2 : Lm.ln 1 ≤ 4 := ln64 (by omega) (by omega)
  have dB := sub_den (x.tdiv y) 1 (by omega) (by omega)
  have dS := sign_den (x.tmod y) (by omega)
  refine go Try.func114 rfl rfl ?_
  by_cases h : x.tmod y < 0
  · have e : cmpI (x.tmod y) 0 < 0 := by rcases cmpI_sgn (x.tmod y) with h | h | h <;> omega
    rw [show flo x y = x.tdiv y - 1 from if_pos h]
    repeat refine vs ?_
    conv => whnf
    refine CallS.mk _ rfl true true _ (dD) rfl ?_
    repeat refine vs ?_
    conv => whnf
    refine CallS.mk _ rfl true true _ (dS) rfl ?_
    repeat refine vs ?_
    conv => whnf
    refine CallS.mk _ rfl true true _ (d1) rfl ?_
    repeat refine vs ?_
    conv => whnf
    refine CallS.mk _ rfl true true _ (dB) rfl ?_
    repeat refine vs ?_
    conv => whnf
    first | rfl | exact ⟨rfl, rfl⟩ | exact ⟨by simp [toRes], rfl⟩
  · have e : ¬ cmpI (x.tmod y) 0 < 0 := by rcases cmpI_sgn (x.tmod y) with h | h | h <;> omega
    rw [show flo x y = x.tdiv y from if_neg h]
    repeat refine vs ?_
    conv => whnf
    refine CallS.mk _ rfl true true _ (dD) rfl ?_
    repeat refine vs ?_
    conv => whnf
    refine CallS.mk _ rfl true true _ (dS) rfl ?_
    repeat refine vs ?_
    conv => whnf
    first | rfl | exact ⟨rfl, rfl⟩ | exact ⟨by simp [toRes], rfl⟩
theorem floor_den (x y : Int) (hy0 : y ≠ 0) (hx : Lm.ln x ≤ 40000000000) (hy : Lm.ln y ≤ 40000000000) : D 78 [ratV x y] true (.one (bigV (flo x y))) := by
  refine go Try.func78 rfl rfl ?_
  repeat refine vs ?_
  conv => whnf
  refine CallS.mk _ rfl true true _ (floorDiv_den x y hy0 hx hy) rfl ?_
  repeat refine vs ?_
  conv => whnf
  first | rfl | exact ⟨rfl, rfl⟩ | exact ⟨by simp [toRes], rfl⟩
theorem floorRatBoth (n : Bool) (l : List Int) (p : Bool) (q : List Int) (hl : l.length ≤ 1000000000000) (hq : q.length ≤ 1000000000000) :
    ∃ n' r b, r.length ≤ 1000000 ∧ D 29 [ratR n l p q] false (.tup [rawV n' r, bP b]) ∧ D 30 [ratR n l p q] true (.tup [rawV n' r, bP b]) := by
  have gS := goodRatS_den n l p q hl hq
  have gI := goodRatI_den n l p q hl hq
  cases hg : goodR n l p q with
  | false =>
    rw [hg] at gS gI
    refine ⟨false, [], false, by simp, go Try.func29 rfl rfl ?_, go Try.func30 rfl rfl ?_⟩
    · repeat refine vs ?_
      conv => whnf
      refine CallS.mk _ rfl true true _ (gS) rfl ?_
      repeat refine vs ?_
      conv => whnf
      first | rfl | exact ⟨rfl, rfl⟩ | exact ⟨by simp [toRes], rfl⟩
    · repeat refine vs ?_
      conv => whnf
      refine CallS.mk _ rfl true true _ (gI) rfl ?_
      repeat refine vs ?_
      conv => whnf
      first | rfl | exact ⟨rfl, rfl⟩ | exact ⟨by simp [toRes], rfl⟩
  | true =>
    rw [hg] at gS gI
    obtain ⟨a, b, rfl, rfl, rfl, rfl, ha, hbl, hb, _⟩ := goodR_ex hg
    have k := ln_flo a b
    have dS := l2Floor_den a b (by omega) (by omega) (by omega)
    have dI := floor_den a b (by omega) (by omega) (by omega)
    have fS := l1Fits_den (flo a b) (by omega)
    have fI := checked_m (flo a b) (by omega)
    generalize flo a b = z at *
    unfold fitV at fS
    by_cases h : Lm.ln z ≤ 40
    · rw [if_pos h, decide_eq_true h] at fS fI
      refine ⟨decide (z < 0), Lm.lim z.natAbs, true, Nat.le_trans h (by decide), go Try.func29 rfl rfl ?_, go Try.func30 rfl rfl ?_⟩
      · repeat refine vs ?_
        conv => whnf
        refine CallS.mk _ rfl true true _ (gS) rfl ?_
        repeat refine vs ?_
        conv => whnf
        refine CallS.mk _ rfl true false _ (dS) rfl ?_
        repeat refine vs ?_
        conv => whnf
        refine CallS.mk _ rfl false false _ (fS) rfl ?_
        repeat refine vs ?_
        conv => whnf
        first | rfl | exact ⟨rfl, rfl⟩ | exact ⟨by simp [toRes], rfl⟩
      · repeat refine vs ?_
        conv => whnf
        refine CallS.mk _ rfl true true _ (gI) rfl ?_
        repeat refine vs ?_
        conv => whnf
        refine CallS.mk _ rfl true true _ (dI) rfl ?_
        repeat refine vs ?_
        conv => whnf
        refine MutS.mk _ rfl _ rfl _ _ (fI) ?_
        repeat refine vs ?_
        conv => whnf
        first | rfl | exact ⟨rfl, rfl⟩ | exact ⟨by simp [toRes], rfl⟩
    · rw [if_neg h, decide_eq_false h] at fS fI
      refine ⟨false, [], false, by simp, go Try.func29 rfl rfl ?_, go Try.func30 rfl rfl ?_⟩
      · repeat refine vs ?_
        conv => whnf
        refine CallS.mk _ rfl true true _ (gS) rfl ?_
        repeat refine vs ?_
        conv => whnf
        refine CallS.mk _ rfl true false _ (dS) rfl ?_
        repeat refine vs ?_
        conv => whnf
        refine CallS.mk _ rfl false false _ (fS) rfl ?_
        repeat refine vs ?_
        conv => whnf
        first | rfl | exact ⟨rfl, rfl⟩ | exact ⟨by simp [toRes], rfl⟩
      · repeat refine vs ?_
        conv => whnf
        refine CallS.mk _ rfl true true _ (gI) rfl ?_
        repeat refine vs ?_
        conv => whnf
        refine CallS.mk _ rfl true true _ (dI) rfl ?_
        repeat refine vs ?_
        conv => whnf
        refine MutS.mk _ rfl _ rfl _ _ (fI) ?_
        repeat refine vs ?_
        conv => whnf
        first | rfl | exact ⟨rfl, rfl⟩ | exact ⟨by simp [toRes], rfl⟩
end Go.Vx
