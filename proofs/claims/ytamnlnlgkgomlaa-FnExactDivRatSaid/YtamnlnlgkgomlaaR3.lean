/- Chapter 2: sums, differences, products, quotients of any arguments. -/
import Derived.Test.YtamnlnlgkgomlaaR2
import Derived.Test.YtamnlnlgkgomlaaR3A
set_option linter.unusedVariables false
set_option linter.unusedSectionVars false
set_option linter.unusedSimpArgs false
namespace Go.Vx
open Go.Proofs
set_option maxRecDepth 100000

theorem addRatBothOk (a b c d : Int) (hbp : 0 < b) (hdp : 0 < d) (ha : Lm.ln a ≤ 40) (hbl : Lm.ln b ≤ 40) (hc : Lm.ln c ≤ 40) (hdl : Lm.ln d ≤ 40)
    (g1 : goodR (decide (a < 0)) (Lm.lim a.natAbs) (decide (b < 0)) (Lm.lim b.natAbs) = true) (g2 : goodR (decide (c < 0)) (Lm.lim c.natAbs) (decide (d < 0)) (Lm.lim d.natAbs) = true) :
    D 34 [ratV a b, ratV c d] false (.tup [fitRV (nN (addN a b c d) (b * d)) (dN (addN a b c d) (b * d)), bP (fitR (nN (addN a b c d) (b * d)) (dN (addN a b c d) (b * d)))]) ∧ D 35 [ratV a b, ratV c d] true (.tup [fitRV (nN (addN a b c d) (b * d)) (dN (addN a b c d) (b * d)), bP (fitR (nN (addN a b c d) (b * d)) (dN (addN a b c d) (b * d)))]) := by
  have hb : b ≠ 0 := by omega
  have hd : d ≠ 0 := by omega
  have k1 := ln_addN ha hbl hc hdl
  have k2 := ln_mul' hbl hdl
  have k3 := ln_nN (addN a b c d) (b * d)
  have k4 := ln_dN (addN a b c d) (b * d)
  have kp := dN_pos (x := addN a b c d) (Int.mul_ne_zero hb hd)
  have dB := l2Both_den (decide (a < 0)) (Lm.lim a.natAbs) (decide (b < 0)) (Lm.lim b.natAbs) (decide (c < 0)) (Lm.lim c.natAbs) (decide (d < 0)) (Lm.lim d.natAbs) (Nat.le_trans ha (by decide)) (Nat.le_trans hbl (by decide)) (Nat.le_trans hc (by decide)) (Nat.le_trans hdl (by decide))
  have dR := areRats2_den (decide (a < 0)) (Lm.lim a.natAbs) (decide (b < 0)) (Lm.lim b.natAbs) (decide (c < 0)) (Lm.lim c.natAbs) (decide (d < 0)) (Lm.lim d.natAbs) (Nat.le_trans ha (by decide)) (Nat.le_trans hbl (by decide)) (Nat.le_trans hc (by decide)) (Nat.le_trans hdl (by decide))
  rw [g1, g2] at dB dR
  have dS := l2Add_den a b c d hb hd (by omega) (by omega) (by omega) (by omega)
  have dI := ratAdd_den a b c d hb hd (by omega) (by omega) (by omega) (by omega)
  have fS := l2Fits_den (nN (addN a b c d) (b * d)) (dN (addN a b c d) (b * d)) kp (by omega) (by omega)
  have fI := checkedRat_m (nN (addN a b c d) (b * d)) (dN (addN a b c d) (b * d)) (by omega) (by omega)
  generalize hN : (nN (addN a b c d) (b * d)) = X at *
  generalize hM : (dN (addN a b c d) (b * d)) = Y at *
  have hf : ∃ n l p q, fitRV X Y = ratR n l p q := by unfold fitRV; split <;> exact ⟨_, _, _, _, rfl⟩
  constructor
  · obtain ⟨n, l, p, q, hf⟩ := hf
    rw [hf] at fS ⊢
    refine go Try.func34 rfl rfl ?_
    repeat refine vs ?_
    conv => whnf
    refine CallS.mk _ rfl true true _ (dB) rfl ?_
    repeat refine vs ?_
    conv => whnf
    refine CallS.mk _ rfl true true _ (dS) rfl ?_
    repeat refine vs ?_
    conv => whnf
    refine CallS.mk _ rfl true true _ (fS) rfl ?_
    repeat refine vs ?_
    conv => whnf
    first | rfl | exact ⟨rfl, rfl⟩ | exact ⟨by simp [toRes], rfl⟩
  · unfold fitRV
    cases h : fitR X Y with
    | true =>
      rw [h] at fI
      simp only [if_true] at fI ⊢
      refine go Try.func35 rfl rfl ?_
      repeat refine vs ?_
      conv => whnf
      refine NewK.mk false ?_
      repeat refine vs ?_
      conv => whnf
      refine CallS.mk _ rfl true true _ (dR) rfl ?_
      repeat refine vs ?_
      conv => whnf
      refine CallS.mk _ rfl true true _ (dI) rfl ?_
      repeat refine vs ?_
      conv => whnf
      refine MutS.mk _ rfl _ rfl _ _ (fI) ?_
      repeat refine vs ?_
      conv => whnf
      first | rfl | exact ⟨rfl, rfl⟩ | exact ⟨by simp [toRes], rfl⟩
    | false =>
      rw [h] at fI
      simp only [Bool.false_eq_true, if_false] at fI ⊢
      refine go Try.func35 rfl rfl ?_
      repeat refine vs ?_
      conv => whnf
      refine NewK.mk false ?_
      repeat refine vs ?_
      conv => whnf
      refine CallS.mk _ rfl true true _ (dR) rfl ?_
      repeat refine vs ?_
      conv => whnf
      refine CallS.mk _ rfl true true _ (dI) rfl ?_
      repeat refine vs ?_
      conv => whnf
      refine MutS.mk _ rfl _ rfl _ _ (fI) ?_
      repeat refine vs ?_
      conv => whnf
      first | rfl | exact ⟨rfl, rfl⟩ | exact ⟨by simp [toRes], rfl⟩
theorem addRatBoth (n0 : Bool) (l0 : List Int) (p0 : Bool) (q0 : List Int) (n1 : Bool) (l1 : List Int) (p1 : Bool) (q1 : List Int) (h1 : l0.length ≤ 1000000000000) (h2 : q0.length ≤ 1000000000000) (h3 : l1.length ≤ 1000000000000) (h4 : q1.length ≤ 1000000000000) :
    ∃ n r p s b, r.length ≤ 1000000 ∧ s.length ≤ 1000000 ∧ D 34 [ratR n0 l0 p0 q0, ratR n1 l1 p1 q1] false (.tup [ratR n r p s, bP b]) ∧ D 35 [ratR n0 l0 p0 q0, ratR n1 l1 p1 q1] true (.tup [ratR n r p s, bP b]) := by
  have dB := l2Both_den n0 l0 p0 q0 n1 l1 p1 q1 h1 h2 h3 h4
  have dR := areRats2_den n0 l0 p0 q0 n1 l1 p1 q1 h1 h2 h3 h4
  cases hg : goodR n0 l0 p0 q0 && goodR n1 l1 p1 q1 with
  | false =>
    rw [hg] at dB dR
    refine ⟨false, [], false, [], false, by simp, by simp, go Try.func34 rfl rfl ?_, go Try.func35 rfl rfl ?_⟩
    · repeat refine vs ?_
      conv => whnf
      refine CallS.mk _ rfl true true _ (dB) rfl ?_
      repeat refine vs ?_
      conv => whnf
      first | rfl | exact ⟨rfl, rfl⟩ | exact ⟨by simp [toRes], rfl⟩
    · repeat refine vs ?_
      conv => whnf
      refine NewK.mk false ?_
      repeat refine vs ?_
      conv => whnf
      refine CallS.mk _ rfl true true _ (dR) rfl ?_
      repeat refine vs ?_
      conv => whnf
      first | rfl | exact ⟨rfl, rfl⟩ | exact ⟨by simp [toRes], rfl⟩
  | true =>
    rw [Bool.and_eq_true] at hg
    obtain ⟨g1, g2⟩ := hg
    obtain ⟨a, b, rfl, rfl, rfl, rfl, ha, hbl, hb, _⟩ := goodR_ex g1
    obtain ⟨c, d, rfl, rfl, rfl, rfl, hc, hdl, hd, _⟩ := goodR_ex g2
    obtain ⟨s, i⟩ := addRatBothOk a b c d hb hd ha hbl hc hdl g1 g2
    generalize (nN (addN a b c d) (b * d)) = X at *
    generalize (dN (addN a b c d) (b * d)) = Y at *
    unfold fitRV at s i
    cases h : fitR X Y with
    | true =>
      rw [h] at s i
      simp only [if_true] at s i
      have hx := h
      unfold fitR at hx
      rw [Bool.and_eq_true, decide_eq_true_iff, decide_eq_true_iff] at hx
      exact ⟨_, _, _, _, _, Nat.le_trans hx.1 (by decide), Nat.le_trans hx.2 (by decide), s, i⟩
    | false =>
      rw [h] at s i
      simp only [Bool.false_eq_true, if_false] at s i
      exact ⟨_, _, _, _, _, by simp, by simp, s, i⟩

theorem subRatBothOk (a b c d : Int) (hbp : 0 < b) (hdp : 0 < d) (ha : Lm.ln a ≤ 40) (hbl : Lm.ln b ≤ 40) (hc : Lm.ln c ≤ 40) (hdl : Lm.ln d ≤ 40)
    (g1 : goodR (decide (a < 0)) (Lm.lim a.natAbs) (decide (b < 0)) (Lm.lim b.natAbs) = true) (g2 : goodR (decide (c < 0)) (Lm.lim c.natAbs) (decide (d < 0)) (Lm.lim d.natAbs) = true) :
    D 36 [ratV a b, ratV c d] false (.tup [fitRV (nN (addN a b (-c) d) (b * d)) (dN (addN a b (-c) d) (b * d)), bP (fitR (nN (addN a b (-c) d) (b * d)) (dN (addN a b (-c) d) (b * d)))]) ∧ D 37 [ratV a b, ratV c d] true (.tup [fitRV (nN (addN a b (-c) d) (b * d)) (dN (addN a b (-c) d) (b * d)), bP (fitR (nN (addN a b (-c) d) (b * d)) (dN (addN a b (-c) d) (b * d)))]) := by
  have hb : b ≠ 0 := by omega
  have hd : d ≠ 0 := by omega
  have k1 := ln_addN (c := -c) ha hbl (by rw [Lm.ln_neg]; exact hc) hdl
  have k2 := ln_mul' hbl hdl
  have k3 := ln_nN (addN a b (-c) d) (b * d)
  have k4 := ln_dN (addN a b (-c) d) (b * d)
  have kp := dN_pos (x := addN a b (-c) d) (Int.mul_ne_zero hb hd)
  have dB := l2Both_den (decide (a < 0)) (Lm.lim a.natAbs) (decide (b < 0)) (Lm.lim b.natAbs) (decide (c < 0)) (Lm.lim c.natAbs) (decide (d < 0)) (Lm.lim d.natAbs) (Nat.le_trans ha (by decide)) (Nat.le_trans hbl (by decide)) (Nat.le_trans hc (by decide)) (Nat.le_trans hdl (by decide))
  have dR := areRats2_den (decide (a < 0)) (Lm.lim a.natAbs) (decide (b < 0)) (Lm.lim b.natAbs) (decide (c < 0)) (Lm.lim c.natAbs) (decide (d < 0)) (Lm.lim d.natAbs) (Nat.le_trans ha (by decide)) (Nat.le_trans hbl (by decide)) (Nat.le_trans hc (by decide)) (Nat.le_trans hdl (by decide))
  rw [g1, g2] at dB dR
  have dS := l2Sub_den a b c d hb hd (by omega) (by omega) (by omega) (by omega)
  have dI := ratSub_den a b c d hb hdp (by omega) (by omega) (by omega) (by omega)
  have fS := l2Fits_den (nN (addN a b (-c) d) (b * d)) (dN (addN a b (-c) d) (b * d)) kp (by omega) (by omega)
  have fI := checkedRat_m (nN (addN a b (-c) d) (b * d)) (dN (addN a b (-c) d) (b * d)) (by omega) (by omega)
  generalize hN : (nN (addN a b (-c) d) (b * d)) = X at *
  generalize hM : (dN (addN a b (-c) d) (b * d)) = Y at *
  have hf : ∃ n l p q, fitRV X Y = ratR n l p q := by unfold fitRV; split <;> exact ⟨_, _, _, _, rfl⟩
  constructor
  · obtain ⟨n, l, p, q, hf⟩ := hf
    rw [hf] at fS ⊢
    refine go Try.func36 rfl rfl ?_
    repeat refine vs ?_
    conv => whnf
    refine CallS.mk _ rfl true true _ (dB) rfl ?_
    repeat refine vs ?_
    conv => whnf
    refine CallS.mk _ rfl true true _ (dS) rfl ?_
    repeat refine vs ?_
    conv => whnf
    refine CallS.mk _ rfl true true _ (fS) rfl ?_
    repeat refine vs ?_
    conv => whnf
    first | rfl | exact ⟨rfl, rfl⟩ | exact ⟨by simp [toRes], rfl⟩
  · unfold fitRV
    cases h : fitR X Y with
    | true =>
      rw [h] at fI
      simp only [if_true] at fI ⊢
      refine go Try.func37 rfl rfl ?_
      repeat refine vs ?_
      conv => whnf
      refine NewK.mk false ?_
      repeat refine vs ?_
      conv => whnf
      refine CallS.mk _ rfl true true _ (dR) rfl ?_
      repeat refine vs ?_
      conv => whnf
      refine CallS.mk _ rfl true true _ (dI) rfl ?_
      repeat refine vs ?_
      conv => whnf
      refine MutS.mk _ rfl _ rfl _ _ (fI) ?_
      repeat refine vs ?_
      conv => whnf
      first | rfl | exact ⟨rfl, rfl⟩ | exact ⟨by simp [toRes], rfl⟩
    | false =>
      rw [h] at fI
      simp only [Bool.false_eq_true, if_false] at fI ⊢
      refine go Try.func37 rfl rfl ?_
      repeat refine vs ?_
      conv => whnf
      refine NewK.mk false ?_
      repeat refine vs ?_
      conv => whnf
      refine CallS.mk _ rfl true true _ (dR) rfl ?_
      repeat refine vs ?_
      conv => whnf
      refine CallS.mk _ rfl true true _ (dI) rfl ?_
      repeat refine vs ?_
      conv => whnf
      refine MutS.mk _ rfl _ rfl _ _ (fI) ?_
      repeat refine vs ?_
      conv => whnf
      first | rfl | exact ⟨rfl, rfl⟩ | exact ⟨by simp [toRes], rfl⟩
theorem subRatBoth (n0 : Bool) (l0 : List Int) (p0 : Bool) (q0 : List Int) (n1 : Bool) (l1 : List Int) (p1 : Bool) (q1 : List Int) (h1 : l0.length ≤ 1000000000000) (h2 : q0.length ≤ 1000000000000) (h3 : l1.length ≤ 1000000000000) (h4 : q1.length ≤ 1000000000000) :
    ∃ n r p s b, r.length ≤ 1000000 ∧ s.length ≤ 1000000 ∧ D 36 [ratR n0 l0 p0 q0, ratR n1 l1 p1 q1] false (.tup [ratR n r p s, bP b]) ∧ D 37 [ratR n0 l0 p0 q0, ratR n1 l1 p1 q1] true (.tup [ratR n r p s, bP b]) := by
  have dB := l2Both_den n0 l0 p0 q0 n1 l1 p1 q1 h1 h2 h3 h4
  have dR := areRats2_den n0 l0 p0 q0 n1 l1 p1 q1 h1 h2 h3 h4
  cases hg : goodR n0 l0 p0 q0 && goodR n1 l1 p1 q1 with
  | false =>
    rw [hg] at dB dR
    refine ⟨false, [], false, [], false, by simp, by simp, go Try.func36 rfl rfl ?_, go Try.func37 rfl rfl ?_⟩
    · repeat refine vs ?_
      conv => whnf
      refine CallS.mk _ rfl true true _ (dB) rfl ?_
      repeat refine vs ?_
      conv => whnf
      first | rfl | exact ⟨rfl, rfl⟩ | exact ⟨by simp [toRes], rfl⟩
    · repeat refine vs ?_
      conv => whnf
      refine NewK.mk false ?_
      repeat refine vs ?_
      conv => whnf
      refine CallS.mk _ rfl true true _ (dR) rfl ?_
      repeat refine vs ?_
      conv => whnf
      first | rfl | exact ⟨rfl, rfl⟩ | exact ⟨by simp [toRes], rfl⟩
  | true =>
    rw [Bool.and_eq_true] at hg
    obtain ⟨g1, g2⟩ := hg
    obtain ⟨a, b, rfl, rfl, rfl, rfl, ha, hbl, hb, _⟩ := goodR_ex g1
    obtain ⟨c, d, rfl, rfl, rfl, rfl, hc, hdl, hd, _⟩ := goodR_ex g2
    obtain ⟨s, i⟩ := subRatBothOk a b c d hb hd ha hbl hc hdl g1 g2
    generalize (nN (addN a b (-c) d) (b * d)) = X at *
    generalize (dN (addN a b (-c) d) (b * d)) = Y at *
    unfold fitRV at s i
    cases h : fitR X Y with
    | true =>
      rw [h] at s i
      simp only [if_true] at s i
      have hx := h
      unfold fitR at hx
      rw [Bool.and_eq_true, decide_eq_true_iff, decide_eq_true_iff] at hx
      exact ⟨_, _, _, _, _, Nat.le_trans hx.1 (by decide), Nat.le_trans hx.2 (by decide), s, i⟩
    | false =>
      rw [h] at s i
      simp only [Bool.false_eq_true, if_false] at s i
      exact ⟨_, _, _, _, _, by simp, by simp, s, i⟩

theorem mulRatBothOk (a b c d : Int) (hbp : 0 < b) (hdp : 0 < d) (ha : Lm.ln a ≤ 40) (hbl : Lm.ln b ≤ 40) (hc : Lm.ln c ≤ 40) (hdl : Lm.ln d ≤ 40)
    (g1 : goodR (decide (a < 0)) (Lm.lim a.natAbs) (decide (b < 0)) (Lm.lim b.natAbs) = true) (g2 : goodR (decide (c < 0)) (Lm.lim c.natAbs) (decide (d < 0)) (Lm.lim d.natAbs) = true) :
    D 25 [ratV a b, ratV c d] false (.tup [fitRV (nN (a * c) (b * d)) (dN (a * c) (b * d)), bP (fitR (nN (a * c) (b * d)) (dN (a * c) (b * d)))]) ∧ D 26 [ratV a b, ratV c d] true (.tup [fitRV (nN (a * c) (b * d)) (dN (a * c) (b * d)), bP (fitR (nN (a * c) (b * d)) (dN (a * c) (b * d)))]) := by
  have hb : b ≠ 0 := by omega
  have hd : d ≠ 0 := by omega
  have k1 := ln_mul' ha hc
  have k2 := ln_mul' hbl hdl
  have k3 := ln_nN (a * c) (b * d)
  have k4 := ln_dN (a * c) (b * d)
  have kp := dN_pos (x := a * c) (Int.mul_ne_zero hb hd)
  have dB := l2Both_den (decide (a < 0)) (Lm.lim a.natAbs) (decide (b < 0)) (Lm.lim b.natAbs) (decide (c < 0)) (Lm.lim c.natAbs) (decide (d < 0)) (Lm.lim d.natAbs) (Nat.le_trans ha (by decide)) (Nat.le_trans hbl (by decide)) (Nat.le_trans hc (by decide)) (Nat.le_trans hdl (by decide))
  have dR := areRats2_den (decide (a < 0)) (Lm.lim a.natAbs) (decide (b < 0)) (Lm.lim b.natAbs) (decide (c < 0)) (Lm.lim c.natAbs) (decide (d < 0)) (Lm.lim d.natAbs) (Nat.le_trans ha (by decide)) (Nat.le_trans hbl (by decide)) (Nat.le_trans hc (by decide)) (Nat.le_trans hdl (by decide))
  rw [g1, g2] at dB dR
  have dS := l2Mul_den a b c d hb hd (by omega) (by omega) (by omega) (by omega)
  have dI := ratMul_den a b c d hb hd (by omega) (by omega) (by omega) (by omega)
  have fS := l2Fits_den (nN (a * c) (b * d)) (dN (a * c) (b * d)) kp (by omega) (by omega)
  have fI := checkedRat_m (nN (a * c) (b * d)) (dN (a * c) (b * d)) (by omega) (by omega)
  generalize hN : (nN (a * c) (b * d)) = X at *
  generalize hM : (dN (a * c) (b * d)) = Y at *
  have hf : ∃ n l p q, fitRV X Y = ratR n l p q := by unfold fitRV; split <;> exact ⟨_, _, _, _, rfl⟩
  constructor
  · obtain ⟨n, l, p, q, hf⟩ := hf
    rw [hf] at fS ⊢
    refine go Try.func25 rfl rfl ?_
    repeat refine vs ?_
    conv => whnf
    refine CallS.mk _ rfl true true _ (dB) rfl ?_
    repeat refine vs ?_
    conv => whnf
    refine CallS.mk _ rfl true true _ (dS) rfl ?_
    repeat refine vs ?_
    conv => whnf
    refine CallS.mk _ rfl true true _ (fS) rfl ?_
    repeat refine vs ?_
    conv => whnf
    first | rfl | exact ⟨rfl, rfl⟩ | exact ⟨by simp [toRes], rfl⟩
  · unfold fitRV
    cases h : fitR X Y with
    | true =>
      rw [h] at fI
      simp only [if_true] at fI ⊢
      refine go Try.func26 rfl rfl ?_
      repeat refine vs ?_
      conv => whnf
      refine NewK.mk false ?_
      repeat refine vs ?_
      conv => whnf
      refine CallS.mk _ rfl true true _ (dR) rfl ?_
      repeat refine vs ?_
      conv => whnf
      refine CallS.mk _ rfl true true _ (dI) rfl ?_
      repeat refine vs ?_
      conv => whnf
      refine MutS.mk _ rfl _ rfl _ _ (fI) ?_
      repeat refine vs ?_
      conv => whnf
      first | rfl | exact ⟨rfl, rfl⟩ | exact ⟨by simp [toRes], rfl⟩
    | false =>
      rw [h] at fI
      simp only [Bool.false_eq_true, if_false] at fI ⊢
      refine go Try.func26 rfl rfl ?_
      repeat refine vs ?_
      conv => whnf
      refine NewK.mk false ?_
      repeat refine vs ?_
      conv => whnf
      refine CallS.mk _ rfl true true _ (dR) rfl ?_
      repeat refine vs ?_
      conv => whnf
      refine CallS.mk _ rfl true true _ (dI) rfl ?_
      repeat refine vs ?_
      conv => whnf
      refine MutS.mk _ rfl _ rfl _ _ (fI) ?_
      repeat refine vs ?_
      conv => whnf
      first | rfl | exact ⟨rfl, rfl⟩ | exact ⟨by simp [toRes], rfl⟩
theorem mulRatBoth (n0 : Bool) (l0 : List Int) (p0 : Bool) (q0 : List Int) (n1 : Bool) (l1 : List Int) (p1 : Bool) (q1 : List Int) (h1 : l0.length ≤ 1000000000000) (h2 : q0.length ≤ 1000000000000) (h3 : l1.length ≤ 1000000000000) (h4 : q1.length ≤ 1000000000000) :
    ∃ n r p s b, r.length ≤ 1000000 ∧ s.length ≤ 1000000 ∧ D 25 [ratR n0 l0 p0 q0, ratR n1 l1 p1 q1] false (.tup [ratR n r p s, bP b]) ∧ D 26 [ratR n0 l0 p0 q0, ratR n1 l1 p1 q1] true (.tup [ratR n r p s, bP b]) := by
  have dB := l2Both_den n0 l0 p0 q0 n1 l1 p1 q1 h1 h2 h3 h4
  have dR := areRats2_den n0 l0 p0 q0 n1 l1 p1 q1 h1 h2 h3 h4
  cases hg : goodR n0 l0 p0 q0 && goodR n1 l1 p1 q1 with
  | false =>
    rw [hg] at dB dR
    refine ⟨false, [], false, [], false, by simp, by simp, go Try.func25 rfl rfl ?_, go Try.func26 rfl rfl ?_⟩
    · repeat refine vs ?_
      conv => whnf
      refine CallS.mk _ rfl true true _ (dB) rfl ?_
      repeat refine vs ?_
      conv => whnf
      first | rfl | exact ⟨rfl, rfl⟩ | exact ⟨by simp [toRes], rfl⟩
    · repeat refine vs ?_
      conv => whnf
      refine NewK.mk false ?_
      repeat refine vs ?_
      conv => whnf
      refine CallS.mk _ rfl true true _ (dR) rfl ?_
      repeat refine vs ?_
      conv => whnf
      first | rfl | exact ⟨rfl, rfl⟩ | exact ⟨by simp [toRes], rfl⟩
  | true =>
    rw [Bool.and_eq_true] at hg
    obtain ⟨g1, g2⟩ := hg
    obtain ⟨a, b, rfl, rfl, rfl, rfl, ha, hbl, hb, _⟩ := goodR_ex g1
    obtain ⟨c, d, rfl, rfl, rfl, rfl, hc, hdl, hd, _⟩ := goodR_ex g2
    obtain ⟨s, i⟩ := mulRatBothOk a b c d hb hd ha hbl hc hdl g1 g2
    generalize (nN (a * c) (b * d)) = X at *
    generalize (dN (a * c) (b * d)) = Y at *
    unfold fitRV at s i
    cases h : fitR X Y with
    | true =>
      rw [h] at s i
      simp only [if_true] at s i
      have hx := h
      unfold fitR at hx
      rw [Bool.and_eq_true, decide_eq_true_iff, decide_eq_true_iff] at hx
      exact ⟨_, _, _, _, _, Nat.le_trans hx.1 (by decide), Nat.le_trans hx.2 (by decide), s, i⟩
    | false =>
      rw [h] at s i
      simp only [Bool.false_eq_true, if_false] at s i
      exact ⟨_, _, _, _, _, by simp, by simp, s, i⟩

theorem divRatBothOk (a b c d : Int) (hbp : 0 < b) (hdp : 0 < d) (hc0 : c ≠ 0) (ha : Lm.ln a ≤ 40) (hbl : Lm.ln b ≤ 40) (hc : Lm.ln c ≤ 40) (hdl : Lm.ln d ≤ 40)
    (g1 : goodR (decide (a < 0)) (Lm.lim a.natAbs) (decide (b < 0)) (Lm.lim b.natAbs) = true) (g2 : goodR (decide (c < 0)) (Lm.lim c.natAbs) (decide (d < 0)) (Lm.lim d.natAbs) = true) :
    D 27 [ratV a b, ratV c d] false (.tup [fitRV (nN (a * d) (b * c)) (dN (a * d) (b * c)), bP (fitR (nN (a * d) (b * c)) (dN (a * d) (b * c)))]) ∧ D 28 [ratV a b, ratV c d] true (.tup [fitRV (nN (a * d) (b * c)) (dN (a * d) (b * c)), bP (fitR (nN (a * d) (b * c)) (dN (a * d) (b * c)))]) := by
  have hb : b ≠ 0 := by omega
  have hd : d ≠ 0 := by omega
  have k1 := ln_mul' ha hdl
  have k2 := ln_mul' hbl hc
  have k3 := ln_nN (a * d) (b * c)
  have k4 := ln_dN (a * d) (b * c)
  have kp := dN_pos (x := a * d) (Int.mul_ne_zero hb hc0)
  have dB := l2Both_den (decide (a < 0)) (Lm.lim a.natAbs) (decide (b < 0)) (Lm.lim b.natAbs) (decide (c < 0)) (Lm.lim c.natAbs) (decide (d < 0)) (Lm.lim d.natAbs) (Nat.le_trans ha (by decide)) (Nat.le_trans hbl (by decide)) (Nat.le_trans hc (by decide)) (Nat.le_trans hdl (by decide))
  have dR := areRats2_den (decide (a < 0)) (Lm.lim a.natAbs) (decide (b < 0)) (Lm.lim b.natAbs) (decide (c < 0)) (Lm.lim c.natAbs) (decide (d < 0)) (Lm.lim d.natAbs) (Nat.le_trans ha (by decide)) (Nat.le_trans hbl (by decide)) (Nat.le_trans hc (by decide)) (Nat.le_trans hdl (by decide))
  rw [g1, g2] at dB dR
  have dS := l2Div_den a b c d hb hd (by omega) (by omega) (by omega) (by omega) hc0
  have dI := ratDiv_den a b c d hb hd (by omega) (by omega) (by omega) (by omega) hc0
  have fS := l2Fits_den (nN (a * d) (b * c)) (dN (a * d) (b * c)) kp (by omega) (by omega)
  have fI := checkedRat_m (nN (a * d) (b * c)) (dN (a * d) (b * c)) (by omega) (by omega)
  have e0 : ¬ ((Lm.lim c.natAbs).length : Int) = 0 := by
    have := List.length_pos_iff.2 (fun h => by have := Lm.lim_eq_nil.1 h; omega : Lm.lim c.natAbs ≠ [])
    omega
  have dSg := ratSign_den c d (by omega)
  have e9 : ¬ cmpI c 0 = 0 := by rcases cmpI_sgn c with h | h | h <;> omega
  generalize hN : (nN (a * d) (b * c)) = X at *
  generalize hM : (dN (a * d) (b * c)) = Y at *
  have hf : ∃ n l p q, fitRV X Y = ratR n l p q := by unfold fitRV; split <;> exact ⟨_, _, _, _, rfl⟩
  constructor
  · obtain ⟨n, l, p, q, hf⟩ := hf
    rw [hf] at fS ⊢
    refine go Try.func27 rfl rfl ?_
    repeat refine vs ?_
    conv => whnf
    refine CallS.mk _ rfl true true _ (dB) rfl ?_
    repeat refine vs ?_
    conv => whnf
    refine CallS.mk _ rfl true true _ (dS) rfl ?_
    repeat refine vs ?_
    conv => whnf
    refine CallS.mk _ rfl true true _ (fS) rfl ?_
    repeat refine vs ?_
    conv => whnf
    first | rfl | exact ⟨rfl, rfl⟩ | exact ⟨by simp [toRes], rfl⟩
  · unfold fitRV
    cases h : fitR X Y with
    | true =>
      rw [h] at fI
      simp only [if_true] at fI ⊢
      refine go Try.func28 rfl rfl ?_
      repeat refine vs ?_
      conv => whnf
      refine NewK.mk false ?_
      repeat refine vs ?_
      conv => whnf
      refine CallS.mk _ rfl true true _ (dR) rfl ?_
      repeat refine vs ?_
      conv => whnf
      refine CallS.mk _ rfl true true _ (dSg) rfl ?_
      repeat refine vs ?_
      conv => whnf
      refine CallS.mk _ rfl true true _ (dI) rfl ?_
      repeat refine vs ?_
      conv => whnf
      refine MutS.mk _ rfl _ rfl _ _ (fI) ?_
      repeat refine vs ?_
      conv => whnf
      first | rfl | exact ⟨rfl, rfl⟩ | exact ⟨by simp [toRes], rfl⟩
    | false =>
      rw [h] at fI
      simp only [Bool.false_eq_true, if_false] at fI ⊢
      refine go Try.func28 rfl rfl ?_
      repeat refine vs ?_
      conv => whnf
      refine NewK.mk false ?_
      repeat refine vs ?_
      conv => whnf
      refine CallS.mk _ rfl true true _ (dR) rfl ?_
      repeat refine vs ?_
      conv => whnf
      refine CallS.mk _ rfl true true _ (dSg) rfl ?_
      repeat refine vs ?_
      conv => whnf
      refine CallS.mk _ rfl true true _ (dI) rfl ?_
      repeat refine vs ?_
      conv => whnf
      refine MutS.mk _ rfl _ rfl _ _ (fI) ?_
      repeat refine vs ?_
      conv => whnf
      first | rfl | exact ⟨rfl, rfl⟩ | exact ⟨by simp [toRes], rfl⟩
theorem divRatBoth (n0 : Bool) (l0 : List Int) (p0 : Bool) (q0 : List Int) (n1 : Bool) (l1 : List Int) (p1 : Bool) (q1 : List Int) (h1 : l0.length ≤ 1000000000000) (h2 : q0.length ≤ 1000000000000) (h3 : l1.length ≤ 1000000000000) (h4 : q1.length ≤ 1000000000000) :
    ∃ n r p s b, r.length ≤ 1000000 ∧ s.length ≤ 1000000 ∧ D 27 [ratR n0 l0 p0 q0, ratR n1 l1 p1 q1] false (.tup [ratR n r p s, bP b]) ∧ D 28 [ratR n0 l0 p0 q0, ratR n1 l1 p1 q1] true (.tup [ratR n r p s, bP b]) := by
  have dB := l2Both_den n0 l0 p0 q0 n1 l1 p1 q1 h1 h2 h3 h4
  have dR := areRats2_den n0 l0 p0 q0 n1 l1 p1 q1 h1 h2 h3 h4
  cases hg : goodR n0 l0 p0 q0 && goodR n1 l1 p1 q1 with
  | false =>
    rw [hg] at dB dR
    refine ⟨false, [], false, [], false, by simp, by simp, go Try.func27 rfl rfl ?_, go Try.func28 rfl rfl ?_⟩
    · repeat refine vs ?_
      conv => whnf
      refine CallS.mk _ rfl true true _ (dB) rfl ?_
      repeat refine vs ?_
      conv => whnf
      first | rfl | exact ⟨rfl, rfl⟩ | exact ⟨by simp [toRes], rfl⟩
    · repeat refine vs ?_
      conv => whnf
      refine NewK.mk false ?_
      repeat refine vs ?_
      conv => whnf
      refine CallS.mk _ rfl true true _ (dR) rfl ?_
      repeat refine vs ?_
      conv => whnf
      first | rfl | exact ⟨rfl, rfl⟩ | exact ⟨by simp [toRes], rfl⟩
  | true =>
    rw [Bool.and_eq_true] at hg
    obtain ⟨g1, g2⟩ := hg
    obtain ⟨a, b, rfl, rfl, rfl, rfl, ha, hbl, hb, _⟩ := goodR_ex g1
    obtain ⟨c, d, rfl, rfl, rfl, rfl, hc, hdl, hd, _⟩ := goodR_ex g2
    by_cases hc0 : c = 0
    · rw [g1, g2] at dB dR
      have e0 : ((Lm.lim c.natAbs).length : Int) = 0 := by subst hc0; simp [Lm.lim_zero]
      have dSg := ratSign_den c d (by omega)
      have e9 : cmpI c 0 = 0 := by subst hc0; rfl
      refine ⟨false, [], false, [], false, by simp, by simp, go Try.func27 rfl rfl ?_, go Try.func28 rfl rfl ?_⟩
      · repeat refine vs ?_
        conv => whnf
        refine CallS.mk _ rfl true true _ (dB) rfl ?_
        repeat refine vs ?_
        conv => whnf
        first | rfl | exact ⟨rfl, rfl⟩ | exact ⟨by simp [toRes], rfl⟩
      · repeat refine vs ?_
        conv => whnf
        refine NewK.mk false ?_
        repeat refine vs ?_
        conv => whnf
        refine CallS.mk _ rfl true true _ (dR) rfl ?_
        repeat refine vs ?_
        conv => whnf
        refine CallS.mk _ rfl true true _ (dSg) rfl ?_
        repeat refine vs ?_
        conv => whnf
        first | rfl | exact ⟨rfl, rfl⟩ | exact ⟨by simp [toRes], rfl⟩
    · obtain ⟨s, i⟩ := divRatBothOk a b c d hb hd hc0 ha hbl hc hdl g1 g2
      generalize (nN (a * d) (b * c)) = X at *
      generalize (dN (a * d) (b * c)) = Y at *
      unfold fitRV at s i
      cases h : fitR X Y with
      | true =>
        rw [h] at s i
        simp only [if_true] at s i
        have hx := h
        unfold fitR at hx
        rw [Bool.and_eq_true, decide_eq_true_iff, decide_eq_true_iff] at hx
        exact ⟨_, _, _, _, _, Nat.le_trans hx.1 (by decide), Nat.le_trans hx.2 (by decide), s, i⟩
      | false =>
        rw [h] at s i
        simp only [Bool.false_eq_true, if_false] at s i
        exact ⟨_, _, _, _, _, by simp, by simp, s, i⟩
end Go.Vx
