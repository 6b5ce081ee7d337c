/- Chapter 3: intervals in new memory; points; sums, differences, inverses, widths. -/
import Derived.Test.YtdgagbjmbddefaaS1
set_option linter.unusedVariables false
set_option linter.unusedSectionVars false
set_option linter.unusedSimpArgs false
namespace Go.Vx
open Go.Proofs
set_option maxRecDepth 100000

theorem ownRat_den (x y : Int) (hy : 0 < y) (hx : Lm.ln x ≤ 400000000000) (hyl : Lm.ln y ≤ 400000000000) : D 110 [ratV x y] true (.one (ratV x y)) := by
  refine go Try.func110 rfl rfl ?_
  repeat refine vs ?_
  conv => whnf
  refine CallS.mk _ rfl true true _ (bigOfV_den x hx) rfl ?_
  repeat refine vs ?_
  conv => whnf
  refine CallS.mk _ rfl true true _ (bigOfP_den y (by omega) hyl) rfl ?_
  repeat refine vs ?_
  conv => whnf
  first | rfl | exact ⟨rfl, rfl⟩ | exact ⟨by simp [toRes], rfl⟩

/-- An interval that is not too long, or nothing. -/
def fitS (a b c d : Int) : Bool := fitR a b && fitR c d
def fitSV (a b c d : Int) : PV := if fitS a b c d then spanV a b c d else spanR false [] false [] false [] false []
theorem fitSV_ex (a b c d : Int) : ∃ na la pa qa nb lb pb qb, la.length ≤ 1000000 ∧ qa.length ≤ 1000000 ∧ lb.length ≤ 1000000 ∧ qb.length ≤ 1000000 ∧ fitSV a b c d = spanR na la pa qa nb lb pb qb := by
  unfold fitSV
  cases h : fitS a b c d with
  | true =>
    unfold fitS fitR at h
    simp only [Bool.and_eq_true, decide_eq_true_iff] at h
    obtain ⟨⟨h1, h2⟩, h3, h4⟩ := h
    exact ⟨_, _, _, _, _, _, _, _, Nat.le_trans h1 (by decide), Nat.le_trans h2 (by decide), Nat.le_trans h3 (by decide), Nat.le_trans h4 (by decide), rfl⟩
  | false => exact ⟨false, [], false, [], false, [], false, [], by simp, by simp, by simp, by simp, rfl⟩

section
variable (a b c d : Int) (hb : 0 < b) (hd : 0 < d) (ha : Lm.ln a ≤ 400000000000) (hbl : Lm.ln b ≤ 400000000000) (hc : Lm.ln c ≤ 400000000000) (hdl : Lm.ln d ≤ 400000000000)
include hb hd ha hbl hc hdl
theorem l3Fits_den : D 60 [spanV a b c d] true (.tup [fitSV a b c d, bP (fitS a b c d)]) := by
  have f1 := l2Fits_den a b hb ha hbl
  have f2 := l2Fits_den c d hd hc hdl
  unfold fitSV fitS
  unfold fitRV at f1 f2
  refine go Try.func60 rfl rfl ?_
  cases h1 : fitR a b with
  | true =>
    rw [h1] at f1
    cases h2 : fitR c d with
    | true =>
      rw [h2] at f2
      simp only [if_true] at f1 f2
      repeat refine vs ?_
      conv => whnf
      refine CallS.mk _ rfl true true _ (f1) rfl ?_
      repeat refine vs ?_
      conv => whnf
      refine CallS.mk _ rfl true true _ (f2) rfl ?_
      repeat refine vs ?_
      conv => whnf
      first | rfl | exact ⟨rfl, rfl⟩ | exact ⟨by simp [toRes], rfl⟩
    | false =>
      rw [h2] at f2
      simp only [if_true, Bool.false_eq_true, if_false] at f1 f2
      repeat refine vs ?_
      conv => whnf
      refine CallS.mk _ rfl true true _ (f1) rfl ?_
      repeat refine vs ?_
      conv => whnf
      refine CallS.mk _ rfl true true _ (f2) rfl ?_
      repeat refine vs ?_
      conv => whnf
      first | rfl | exact ⟨rfl, rfl⟩ | exact ⟨by simp [toRes], rfl⟩
  | false =>
    rw [h1] at f1
    cases h2 : fitR c d with
    | true =>
      rw [h2] at f2
      simp only [if_true, Bool.false_eq_true, if_false] at f1 f2
      repeat refine vs ?_
      conv => whnf
      refine CallS.mk _ rfl true true _ (f1) rfl ?_
      repeat refine vs ?_
      conv => whnf
      refine CallS.mk _ rfl true true _ (f2) rfl ?_
      repeat refine vs ?_
      conv => whnf
      first | rfl | exact ⟨rfl, rfl⟩ | exact ⟨by simp [toRes], rfl⟩
    | false =>
      rw [h2] at f2
      simp only [Bool.false_eq_true, if_false] at f1 f2
      repeat refine vs ?_
      conv => whnf
      refine CallS.mk _ rfl true true _ (f1) rfl ?_
      repeat refine vs ?_
      conv => whnf
      refine CallS.mk _ rfl true true _ (f2) rfl ?_
      repeat refine vs ?_
      conv => whnf
      first | rfl | exact ⟨rfl, rfl⟩ | exact ⟨by simp [toRes], rfl⟩
theorem checkedSpan_den : D 61 [ratV a b, ratV c d] true (.tup [fitSV a b c d, bP (fitS a b c d)]) := by
  have f1 := isShort_den a b 40 ha hbl
  have f2 := isShort_den c d 40 hc hdl
  have e1 : (decide (Lm.ln a ≤ 40) && decide (Lm.ln b ≤ 40)) = fitR a b := rfl
  have e2 : (decide (Lm.ln c ≤ 40) && decide (Lm.ln d ≤ 40)) = fitR c d := rfl
  rw [e1] at f1
  rw [e2] at f2
  have o1 := ownRat_den a b hb ha hbl
  have o2 := ownRat_den c d hd hc hdl
  unfold fitSV fitS
  refine go Try.func61 rfl rfl ?_
  cases h1 : fitR a b with
  | true =>
    rw [h1] at f1
    cases h2 : fitR c d with
    | true =>
      rw [h2] at f2
      repeat refine vs ?_
      conv => whnf
      refine CallS.mk _ rfl true true _ (f1) rfl ?_
      repeat refine vs ?_
      conv => whnf
      refine CallS.mk _ rfl true true _ (f2) rfl ?_
      repeat refine vs ?_
      conv => whnf
      refine CallS.mk _ rfl true true _ (o1) rfl ?_
      repeat refine vs ?_
      conv => whnf
      refine CallS.mk _ rfl true true _ (o2) rfl ?_
      repeat refine vs ?_
      conv => whnf
      first | rfl | exact ⟨rfl, rfl⟩ | exact ⟨by simp [toRes], rfl⟩
    | false =>
      rw [h2] at f2
      repeat refine vs ?_
      conv => whnf
      refine CallS.mk _ rfl true true _ (f1) rfl ?_
      repeat refine vs ?_
      conv => whnf
      refine CallS.mk _ rfl true true _ (f2) rfl ?_
      repeat refine vs ?_
      conv => whnf
      first | rfl | exact ⟨rfl, rfl⟩ | exact ⟨by simp [toRes], rfl⟩
  | false =>
    rw [h1] at f1
    repeat refine vs ?_
    conv => whnf
    refine CallS.mk _ rfl true true _ (f1) rfl ?_
    repeat refine vs ?_
    conv => whnf
    first | rfl | exact ⟨rfl, rfl⟩ | exact ⟨by simp [toRes], rfl⟩
end

/-- A fraction in an interval. -/
def inB (a b c d x y : Int) : Bool := decide (a * y ≤ x * b) && decide (x * d ≤ c * y)
section
variable (a b c d x y : Int) (hb : 0 < b) (hd : 0 < d) (hy : 0 < y) (ha : Lm.ln a ≤ 40000000000) (hbl : Lm.ln b ≤ 40000000000) (hc : Lm.ln c ≤ 40000000000) (hdl : Lm.ln d ≤ 40000000000) (hx : Lm.ln x ≤ 40000000000) (hyl : Lm.ln y ≤ 40000000000)
include hb hd hy ha hbl hc hdl hx hyl
theorem l3In_den : D 55 [spanV a b c d, ratV x y] true (.one (bP (inB a b c d x y))) := by
  have d1 := l2Cmp_den a b x y (by omega) (by omega) ha hbl hx hyl
  have d2 := l2Cmp_den x y c d (by omega) (by omega) hx hyl hc hdl
  have h1 : (cmpI (a * y) (x * b) ≤ 0) ↔ a * y ≤ x * b := by unfold cmpI; split <;> (try split) <;> omega
  have h2 : (cmpI (x * d) (c * y) ≤ 0) ↔ x * d ≤ c * y := by unfold cmpI; split <;> (try split) <;> omega
  unfold inB
  refine go Try.func55 rfl rfl ?_
  by_cases e1 : a * y ≤ x * b
  · have g1 := h1.2 e1
    by_cases e2 : x * d ≤ c * y
    · have g2 := h2.2 e2
      rw [decide_eq_true e1, decide_eq_true e2]
      repeat refine vs ?_
      conv => whnf
      refine CallS.mk _ rfl true true _ (d1) rfl ?_
      repeat refine vs ?_
      conv => whnf
      refine CallS.mk _ rfl true true _ (d2) rfl ?_
      repeat refine vs ?_
      conv => whnf
      first | rfl | exact ⟨rfl, rfl⟩ | exact ⟨by simp [toRes], rfl⟩
    · have g2 := fun z => e2 (h2.1 z)
      rw [decide_eq_true e1, decide_eq_false e2]
      repeat refine vs ?_
      conv => whnf
      refine CallS.mk _ rfl true true _ (d1) rfl ?_
      repeat refine vs ?_
      conv => whnf
      refine CallS.mk _ rfl true true _ (d2) rfl ?_
      repeat refine vs ?_
      conv => whnf
      first | rfl | exact ⟨rfl, rfl⟩ | exact ⟨by simp [toRes], rfl⟩
  · have g1 := fun z => e1 (h1.1 z)
    rw [decide_eq_false e1]
    repeat refine vs ?_
    conv => whnf
    refine CallS.mk _ rfl true true _ (d1) rfl ?_
    repeat refine vs ?_
    conv => whnf
    first | rfl | exact ⟨rfl, rfl⟩ | exact ⟨by simp [toRes], rfl⟩
theorem has_den : D 58 [spanV a b c d, ratV x y] true (.one (bP (inB a b c d x y))) := by
  have d1 := less_den x y a b (by omega) (by omega) hx hyl ha hbl
  have d2 := less_den c d x y (by omega) (by omega) hc hdl hx hyl
  unfold inB
  refine go Try.func58 rfl rfl ?_
  by_cases e1 : a * y ≤ x * b
  · rw [decide_eq_false (by omega)] at d1
    by_cases e2 : x * d ≤ c * y
    · rw [decide_eq_false (by omega)] at d2
      rw [decide_eq_true e1, decide_eq_true e2]
      repeat refine vs ?_
      conv => whnf
      refine CallS.mk _ rfl true true _ (d1) rfl ?_
      repeat refine vs ?_
      conv => whnf
      refine CallS.mk _ rfl true true _ (d2) rfl ?_
      repeat refine vs ?_
      conv => whnf
      first | rfl | exact ⟨rfl, rfl⟩ | exact ⟨by simp [toRes], rfl⟩
    · rw [decide_eq_true (by omega)] at d2
      rw [decide_eq_true e1, decide_eq_false e2]
      repeat refine vs ?_
      conv => whnf
      refine CallS.mk _ rfl true true _ (d1) rfl ?_
      repeat refine vs ?_
      conv => whnf
      refine CallS.mk _ rfl true true _ (d2) rfl ?_
      repeat refine vs ?_
      conv => whnf
      first | rfl | exact ⟨rfl, rfl⟩ | exact ⟨by simp [toRes], rfl⟩
  · rw [decide_eq_true (by omega)] at d1
    rw [decide_eq_false e1]
    repeat refine vs ?_
    conv => whnf
    refine CallS.mk _ rfl true true _ (d1) rfl ?_
    repeat refine vs ?_
    conv => whnf
    first | rfl | exact ⟨rfl, rfl⟩ | exact ⟨by simp [toRes], rfl⟩
end

theorem pointSpanBoth (n : Bool) (l : List Int) (p : Bool) (q : List Int) (hl : l.length ≤ 1000000000000) (hq : q.length ≤ 1000000000000) :
    ∃ na la pa qa nb lb pb qb r, la.length ≤ 1000000 ∧ qa.length ≤ 1000000 ∧ lb.length ≤ 1000000 ∧ qb.length ≤ 1000000 ∧ D 25 [ratR n l p q] false (.tup [spanR na la pa qa nb lb pb qb, bP r]) ∧ D 26 [ratR n l p q] true (.tup [spanR na la pa qa nb lb pb qb, bP r]) := by
  have gS := goodRatS_den n l p q hl hq
  have gI := goodRatI_den n l p q hl hq
  cases hg : goodR n l p q with
  | false =>
    rw [hg] at gS gI
    refine ⟨false, [], false, [], false, [], false, [], false, by simp, by simp, by simp, by simp, go Try.func25 rfl rfl ?_, go Try.func26 rfl rfl ?_⟩
    · repeat refine vs ?_
      conv => whnf
      refine CallS.mk _ rfl true true _ (gS) rfl ?_
      repeat refine vs ?_
      conv => whnf
      first | rfl | exact ⟨rfl, rfl⟩ | exact ⟨by simp [toRes], rfl⟩
    · repeat refine vs ?_
      conv => whnf
      refine CallS.mk _ rfl true true _ (gI) rfl ?_
      repeat refine vs ?_
      conv => whnf
      first | rfl | exact ⟨rfl, rfl⟩ | exact ⟨by simp [toRes], rfl⟩
  | true =>
    rw [hg] at gS gI
    obtain ⟨a, b, rfl, rfl, rfl, rfl, ha, hbl, hb, _⟩ := goodR_ex hg
    have fS := l3Fits_den a b a b hb hb (by omega) (by omega) (by omega) (by omega)
    have fI := checkedSpan_den a b a b hb hb (by omega) (by omega) (by omega) (by omega)
    obtain ⟨na, la, pa, qa, nb, lb, pb, qb, k1, k2, k3, k4, e⟩ := fitSV_ex a b a b
    rw [e] at fS fI
    refine ⟨na, la, pa, qa, nb, lb, pb, qb, fitS a b a b, k1, k2, k3, k4, go Try.func25 rfl rfl ?_, go Try.func26 rfl rfl ?_⟩
    · repeat refine vs ?_
      conv => whnf
      refine CallS.mk _ rfl true true _ (gS) rfl ?_
      repeat refine vs ?_
      conv => whnf
      refine CallS.mk _ rfl true true _ (fS) rfl ?_
      repeat refine vs ?_
      conv => whnf
      first | rfl | exact ⟨rfl, rfl⟩ | exact ⟨by simp [toRes], rfl⟩
    · repeat refine vs ?_
      conv => whnf
      refine CallS.mk _ rfl true true _ (gI) rfl ?_
      repeat refine vs ?_
      conv => whnf
      refine CallS.mk _ rfl true true _ (fI) rfl ?_
      repeat refine vs ?_
      conv => whnf
      first | rfl | exact ⟨rfl, rfl⟩ | exact ⟨by simp [toRes], rfl⟩

section
variable (na : Bool) (la : List Int) (pa : Bool) (qa : List Int) (nb : Bool) (lb : List Int) (pb : Bool) (qb : List Int)
theorem inSpanBoth (n : Bool) (l : List Int) (p : Bool) (q : List Int) (h1 : la.length ≤ 1000000000000) (h2 : qa.length ≤ 1000000000000) (h3 : lb.length ≤ 1000000000000) (h4 : qb.length ≤ 1000000000000) (hl : l.length ≤ 1000000000000) (hq : q.length ≤ 1000000000000) :
    ∃ r s, D 21 [spanR na la pa qa nb lb pb qb, ratR n l p q] false (.tup [bP r, bP s]) ∧ D 23 [spanR na la pa qa nb lb pb qb, ratR n l p q] true (.tup [bP r, bP s]) := by
  have sS := goodSpanS_den na la pa qa nb lb pb qb h1 h2 h3 h4
  have sI := goodSpanI_den na la pa qa nb lb pb qb h1 h2 h3 h4
  have gS := goodRatS_den n l p q hl hq
  have gI := goodRatI_den n l p q hl hq
  cases hs : goodS na la pa qa nb lb pb qb with
  | false =>
    rw [hs] at sS sI
    refine ⟨false, false, go Try.func21 rfl rfl ?_, go Try.func23 rfl rfl ?_⟩
    · repeat refine vs ?_
      conv => whnf
      refine CallS.mk _ rfl true true _ (sS) rfl ?_
      repeat refine vs ?_
      conv => whnf
      first | rfl | exact ⟨rfl, rfl⟩ | exact ⟨by simp [toRes], rfl⟩
    · repeat refine vs ?_
      conv => whnf
      refine CallS.mk _ rfl true true _ (sI) rfl ?_
      repeat refine vs ?_
      conv => whnf
      first | rfl | exact ⟨rfl, rfl⟩ | exact ⟨by simp [toRes], rfl⟩
  | true =>
    rw [hs] at sS sI
    cases hg : goodR n l p q with
    | false =>
      rw [hg] at gS gI
      refine ⟨false, false, go Try.func21 rfl rfl ?_, go Try.func23 rfl rfl ?_⟩
      · repeat refine vs ?_
        conv => whnf
        refine CallS.mk _ rfl true true _ (sS) rfl ?_
        repeat refine vs ?_
        conv => whnf
        refine CallS.mk _ rfl true true _ (gS) rfl ?_
        repeat refine vs ?_
        conv => whnf
        first | rfl | exact ⟨rfl, rfl⟩ | exact ⟨by simp [toRes], rfl⟩
      · repeat refine vs ?_
        conv => whnf
        refine CallS.mk _ rfl true true _ (sI) rfl ?_
        repeat refine vs ?_
        conv => whnf
        refine CallS.mk _ rfl true true _ (gI) rfl ?_
        repeat refine vs ?_
        conv => whnf
        first | rfl | exact ⟨rfl, rfl⟩ | exact ⟨by simp [toRes], rfl⟩
    | true =>
      rw [hg] at gS gI
      obtain ⟨x, y, rfl, rfl, rfl, rfl, hx, hyl, hy, _⟩ := goodR_ex hg
      obtain ⟨a, b, c, d, rfl, rfl, rfl, rfl, rfl, rfl, rfl, rfl, ha, hbl, hc, hdl, hb, hd, _⟩ := goodS_ex hs
      have iS := l3In_den a b c d x y hb hd hy (by omega) (by omega) (by omega) (by omega) (by omega) (by omega)
      have iI := has_den a b c d x y hb hd hy (by omega) (by omega) (by omega) (by omega) (by omega) (by omega)
      refine ⟨inB a b c d x y, true, go Try.func21 rfl rfl ?_, go Try.func23 rfl rfl ?_⟩
      · repeat refine vs ?_
        conv => whnf
        refine CallS.mk _ rfl true true _ (sS) rfl ?_
        repeat refine vs ?_
        conv => whnf
        refine CallS.mk _ rfl true true _ (gS) rfl ?_
        repeat refine vs ?_
        conv => whnf
        refine CallS.mk _ rfl true true _ (iS) rfl ?_
        repeat refine vs ?_
        conv => whnf
        first | rfl | exact ⟨rfl, rfl⟩ | exact ⟨by simp [toRes], rfl⟩
      · repeat refine vs ?_
        conv => whnf
        refine CallS.mk _ rfl true true _ (sI) rfl ?_
        repeat refine vs ?_
        conv => whnf
        refine CallS.mk _ rfl true true _ (gI) rfl ?_
        repeat refine vs ?_
        conv => whnf
        refine CallS.mk _ rfl true true _ (iI) rfl ?_
        repeat refine vs ?_
        conv => whnf
        first | rfl | exact ⟨rfl, rfl⟩ | exact ⟨by simp [toRes], rfl⟩
theorem widthOfBoth (h1 : la.length ≤ 1000000000000) (h2 : qa.length ≤ 1000000000000) (h3 : lb.length ≤ 1000000000000) (h4 : qb.length ≤ 1000000000000) :
    ∃ n l p q r, l.length ≤ 1000000 ∧ q.length ≤ 1000000 ∧ D 36 [spanR na la pa qa nb lb pb qb] false (.tup [ratR n l p q, bP r]) ∧ D 37 [spanR na la pa qa nb lb pb qb] true (.tup [ratR n l p q, bP r]) := by
  have sS := goodSpanS_den na la pa qa nb lb pb qb h1 h2 h3 h4
  have sI := goodSpanI_den na la pa qa nb lb pb qb h1 h2 h3 h4
  cases hs : goodS na la pa qa nb lb pb qb with
  | false =>
    rw [hs] at sS sI
    refine ⟨false, [], false, [], false, by simp, by simp, go Try.func36 rfl rfl ?_, go Try.func37 rfl rfl ?_⟩
    · repeat refine vs ?_
      conv => whnf
      refine CallS.mk _ rfl true true _ (sS) rfl ?_
      repeat refine vs ?_
      conv => whnf
      first | rfl | exact ⟨rfl, rfl⟩ | exact ⟨by simp [toRes], rfl⟩
    · repeat refine vs ?_
      conv => whnf
      refine CallS.mk _ rfl true true _ (sI) rfl ?_
      repeat refine vs ?_
      conv => whnf
      first | rfl | exact ⟨rfl, rfl⟩ | exact ⟨by simp [toRes], rfl⟩
  | true =>
    rw [hs] at sS sI
    obtain ⟨a, b, c, d, rfl, rfl, rfl, rfl, rfl, rfl, rfl, rfl, ha, hbl, hc, hdl, hb, hd, _⟩ := goodS_ex hs
    have dS := l2Sub_den c d a b (by omega) (by omega) (by omega) (by omega) (by omega) (by omega)
    have dI := ratSub_den c d a b (by omega) (by omega) (by omega) (by omega) (by omega) (by omega)
    have k1 := ln_addN (a := c) (b := d) (c := -a) (d := b) hc hdl (by rw [Lm.ln_neg]; exact ha) hbl
    have k2 := ln_mul' hdl hbl
    have k3 := ln_nN (addN c d (-a) b) (d * b)
    have k4 := ln_dN (addN c d (-a) b) (d * b)
    have kp := dN_pos (x := addN c d (-a) b) (Int.mul_ne_zero (show d ≠ 0 by omega) (show b ≠ 0 by omega))
    have fS := l2Fits_den (nN (addN c d (-a) b) (d * b)) (dN (addN c d (-a) b) (d * b)) kp (by omega) (by omega)
    have fI := checkedRat_m (nN (addN c d (-a) b) (d * b)) (dN (addN c d (-a) b) (d * b)) (by omega) (by omega)
    generalize nN (addN c d (-a) b) (d * b) = X at *
    generalize dN (addN c d (-a) b) (d * b) = Y at *
    unfold fitRV at fS
    cases h : fitR X Y with
    | true =>
      rw [h] at fS fI
      simp only [if_true] at fS fI
      have hx := h
      unfold fitR at hx
      rw [Bool.and_eq_true, decide_eq_true_iff, decide_eq_true_iff] at hx
      refine ⟨decide (X < 0), Lm.lim X.natAbs, decide (Y < 0), Lm.lim Y.natAbs, true, Nat.le_trans hx.1 (by decide), Nat.le_trans hx.2 (by decide), go Try.func36 rfl rfl ?_, go Try.func37 rfl rfl ?_⟩
      · repeat refine vs ?_
        conv => whnf
        refine CallS.mk _ rfl true true _ (sS) rfl ?_
        repeat refine vs ?_
        conv => whnf
        refine CallS.mk _ rfl true true _ (dS) rfl ?_
        repeat refine vs ?_
        conv => whnf
        refine CallS.mk _ rfl true true _ (fS) rfl ?_
        repeat refine vs ?_
        conv => whnf
        first | rfl | exact ⟨rfl, rfl⟩ | exact ⟨by simp [toRes], rfl⟩
      · repeat refine vs ?_
        conv => whnf
        refine CallS.mk _ rfl true true _ (sI) rfl ?_
        repeat refine vs ?_
        conv => whnf
        refine CallS.mk _ rfl true true _ (dI) rfl ?_
        repeat refine vs ?_
        conv => whnf
        refine MutS.mk _ rfl _ rfl _ _ (fI) ?_
        repeat refine vs ?_
        conv => whnf
        first | rfl | exact ⟨rfl, rfl⟩ | exact ⟨by simp [toRes], rfl⟩
    | false =>
      rw [h] at fS fI
      simp only [Bool.false_eq_true, if_false] at fS fI
      refine ⟨false, [], false, [], false, by simp, by simp, go Try.func36 rfl rfl ?_, go Try.func37 rfl rfl ?_⟩
      · repeat refine vs ?_
        conv => whnf
        refine CallS.mk _ rfl true true _ (sS) rfl ?_
        repeat refine vs ?_
        conv => whnf
        refine CallS.mk _ rfl true true _ (dS) rfl ?_
        repeat refine vs ?_
        conv => whnf
        refine CallS.mk _ rfl true true _ (fS) rfl ?_
        repeat refine vs ?_
        conv => whnf
        first | rfl | exact ⟨rfl, rfl⟩ | exact ⟨by simp [toRes], rfl⟩
      · repeat refine vs ?_
        conv => whnf
        refine CallS.mk _ rfl true true _ (sI) rfl ?_
        repeat refine vs ?_
        conv => whnf
        refine CallS.mk _ rfl true true _ (dI) rfl ?_
        repeat refine vs ?_
        conv => whnf
        refine MutS.mk _ rfl _ rfl _ _ (fI) ?_
        repeat refine vs ?_
        conv => whnf
        first | rfl | exact ⟨rfl, rfl⟩ | exact ⟨by simp [toRes], rfl⟩
theorem invertSpanBoth (h1 : la.length ≤ 1000000000000) (h2 : qa.length ≤ 1000000000000) (h3 : lb.length ≤ 1000000000000) (h4 : qb.length ≤ 1000000000000) :
    ∃ n l p q m k o s r, l.length ≤ 1000000 ∧ q.length ≤ 1000000 ∧ k.length ≤ 1000000 ∧ s.length ≤ 1000000 ∧ D 32 [spanR na la pa qa nb lb pb qb] false (.tup [spanR n l p q m k o s, bP r]) ∧ D 33 [spanR na la pa qa nb lb pb qb] true (.tup [spanR n l p q m k o s, bP r]) := by
  have sS := goodSpanS_den na la pa qa nb lb pb qb h1 h2 h3 h4
  have sI := goodSpanI_den na la pa qa nb lb pb qb h1 h2 h3 h4
  cases hs : goodS na la pa qa nb lb pb qb with
  | false =>
    rw [hs] at sS sI
    refine ⟨false, [], false, [], false, [], false, [], false, by simp, by simp, by simp, by simp, go Try.func32 rfl rfl ?_, go Try.func33 rfl rfl ?_⟩
    · repeat refine vs ?_
      conv => whnf
      refine CallS.mk _ rfl true true _ (sS) rfl ?_
      repeat refine vs ?_
      conv => whnf
      first | rfl | exact ⟨rfl, rfl⟩ | exact ⟨by simp [toRes], rfl⟩
    · repeat refine vs ?_
      conv => whnf
      refine CallS.mk _ rfl true true _ (sI) rfl ?_
      repeat refine vs ?_
      conv => whnf
      first | rfl | exact ⟨rfl, rfl⟩ | exact ⟨by simp [toRes], rfl⟩
  | true =>
    rw [hs] at sS sI
    obtain ⟨a, b, c, d, rfl, rfl, rfl, rfl, rfl, rfl, rfl, rfl, ha, hbl, hc, hdl, hb, hd, _, _, hle⟩ := goodS_ex hs
    have l0 : Lm.ln 0 ≤ 4 := ln64 (by omega) (by omega)
    have l1 : Lm.ln 1 ≤ 40 := Nat.le_trans (ln64 (by omega) (by omega)) (by decide)
    have iS := l3In_den a b c d 0 1 hb hd (by omega) (by omega) (by omega) (by omega) (by omega) (by omega) (by omega)
    have iI := has_den a b c d 0 1 hb hd (by omega) (by omega) (by omega) (by omega) (by omega) (by omega) (by omega)
    cases hi : inB a b c d 0 1 with
    | true =>
      rw [hi] at iS iI
      refine ⟨false, [], false, [], false, [], false, [], false, by simp, by simp, by simp, by simp, go Try.func32 rfl rfl ?_, go Try.func33 rfl rfl ?_⟩
      · repeat refine vs ?_
        conv => whnf
        refine CallS.mk _ rfl true true _ (sS) rfl ?_
        repeat refine vs ?_
        conv => whnf
        refine CallS.mk _ rfl true true _ (l2Int_den 0 (by omega) (by omega)) rfl ?_
        repeat refine vs ?_
        conv => whnf
        refine CallS.mk _ rfl true true _ (iS) rfl ?_
        repeat refine vs ?_
        conv => whnf
        first | rfl | exact ⟨rfl, rfl⟩ | exact ⟨by simp [toRes], rfl⟩
      · repeat refine vs ?_
        conv => whnf
        refine CallS.mk _ rfl true true _ (sI) rfl ?_
        repeat refine vs ?_
        conv => whnf
        refine CallS.mk _ rfl true true _ (whole_den 0 (by omega) (by omega)) rfl ?_
        repeat refine vs ?_
        conv => whnf
        refine CallS.mk _ rfl true true _ (iI) rfl ?_
        repeat refine vs ?_
        conv => whnf
        first | rfl | exact ⟨rfl, rfl⟩ | exact ⟨by simp [toRes], rfl⟩
    | false =>
      rw [hi] at iS iI
      have ha0 : a ≠ 0 := by
        intro h
        subst h
        unfold inB at hi
        have : 0 ≤ c := by
          have h5 : 0 ≤ c * b := by omega
          by_cases hc0 : 0 ≤ c
          · exact hc0
          · have := Int.mul_pos (show 0 < -c by omega) hb
            rw [Int.neg_mul] at this
            omega
        simp at hi
        omega
      have hc0 : c ≠ 0 := by
        intro h
        subst h
        unfold inB at hi
        have : a ≤ 0 := by
          have h5 : a * d ≤ 0 := by omega
          by_cases hc0 : a ≤ 0
          · exact hc0
          · have := Int.mul_pos (show 0 < a by omega) hd
            omega
        simp at hi
        omega
      have dS1 := l2Div_den 1 1 c d (by omega) (by omega) (by omega) (by omega) (by omega) (by omega) hc0
      have dS2 := l2Div_den 1 1 a b (by omega) (by omega) (by omega) (by omega) (by omega) (by omega) ha0
      have dI1 := ratDiv_den 1 1 c d (by omega) (by omega) (by omega) (by omega) (by omega) (by omega) hc0
      have dI2 := ratDiv_den 1 1 a b (by omega) (by omega) (by omega) (by omega) (by omega) (by omega) ha0
      have k1 := ln_mul' l1 hdl
      have k2 := ln_mul' l1 hc
      have k3 := ln_mul' l1 hbl
      have k4 := ln_mul' l1 ha
      have m1 := ln_nN (1 * d) (1 * c)
      have m2 := ln_dN (1 * d) (1 * c)
      have m3 := ln_nN (1 * b) (1 * a)
      have m4 := ln_dN (1 * b) (1 * a)
      have kp1 := dN_pos (x := 1 * d) (y := 1 * c) (by omega)
      have kp2 := dN_pos (x := 1 * b) (y := 1 * a) (by omega)
      generalize nN (1 * d) (1 * c) = X at *
      generalize dN (1 * d) (1 * c) = Y at *
      generalize nN (1 * b) (1 * a) = Z at *
      generalize dN (1 * b) (1 * a) = W at *
      have fS := l3Fits_den X Y Z W kp1 kp2 (by omega) (by omega) (by omega) (by omega)
      have fI := checkedSpan_den X Y Z W kp1 kp2 (by omega) (by omega) (by omega) (by omega)
      obtain ⟨n, l, p, q, m, k, o, s, e1, e2, e3, e4, e⟩ := fitSV_ex X Y Z W
      rw [e] at fS fI
      refine ⟨n, l, p, q, m, k, o, s, fitS X Y Z W, e1, e2, e3, e4, go Try.func32 rfl rfl ?_, go Try.func33 rfl rfl ?_⟩
      · repeat refine vs ?_
        conv => whnf
        refine CallS.mk _ rfl true true _ (sS) rfl ?_
        repeat refine vs ?_
        conv => whnf
        refine CallS.mk _ rfl true true _ (l2Int_den 0 (by omega) (by omega)) rfl ?_
        repeat refine vs ?_
        conv => whnf
        refine CallS.mk _ rfl true true _ (iS) rfl ?_
        repeat refine vs ?_
        conv => whnf
        refine CallS.mk _ rfl true true _ (l2Int_den 1 (by omega) (by omega)) rfl ?_
        repeat refine vs ?_
        conv => whnf
        refine CallS.mk _ rfl true true _ (dS1) rfl ?_
        repeat refine vs ?_
        conv => whnf
        refine CallS.mk _ rfl true true _ (l2Int_den 1 (by omega) (by omega)) rfl ?_
        repeat refine vs ?_
        conv => whnf
        refine CallS.mk _ rfl true true _ (dS2) rfl ?_
        repeat refine vs ?_
        conv => whnf
        refine CallS.mk _ rfl true true _ (fS) rfl ?_
        repeat refine vs ?_
        conv => whnf
        first | rfl | exact ⟨rfl, rfl⟩ | exact ⟨by simp [toRes], rfl⟩
      · repeat refine vs ?_
        conv => whnf
        refine CallS.mk _ rfl true true _ (sI) rfl ?_
        repeat refine vs ?_
        conv => whnf
        refine CallS.mk _ rfl true true _ (whole_den 0 (by omega) (by omega)) rfl ?_
        repeat refine vs ?_
        conv => whnf
        refine CallS.mk _ rfl true true _ (iI) rfl ?_
        repeat refine vs ?_
        conv => whnf
        refine CallS.mk _ rfl true true _ (whole_den 1 (by omega) (by omega)) rfl ?_
        repeat refine vs ?_
        conv => whnf
        refine CallS.mk _ rfl true true _ (dI1) rfl ?_
        repeat refine vs ?_
        conv => whnf
        refine CallS.mk _ rfl true true _ (whole_den 1 (by omega) (by omega)) rfl ?_
        repeat refine vs ?_
        conv => whnf
        refine CallS.mk _ rfl true true _ (dI2) rfl ?_
        repeat refine vs ?_
        conv => whnf
        refine CallS.mk _ rfl true true _ (fI) rfl ?_
        repeat refine vs ?_
        conv => whnf
        first | rfl | exact ⟨rfl, rfl⟩ | exact ⟨by simp [toRes], rfl⟩
end
end Go.Vx
