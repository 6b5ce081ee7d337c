/- Chapter 2: fractions that are good; results that are not too long. -/
import Derived.Test.YthholhhohlnlnaaDoorR1
import Derived.Test.YthholhhohlnlnaaDoorC7
set_option linter.unusedVariables false
set_option linter.unusedSectionVars false
set_option linter.unusedSimpArgs false
namespace Go.Vx
open Go.Proofs
set_option maxRecDepth 100000

theorem ln64 {n : Int} (h1 : -9223372036854775808 ≤ n) (h2 : n ≤ 9223372036854775807) : Lm.ln n ≤ 4 := Lm.lim64 (by omega)
theorem good_ex {n : Bool} {l : List Int} (h : goodB n l = true) : ∃ x : Int, n = decide (x < 0) ∧ l = Lm.lim x.natAbs ∧ Lm.ln x ≤ 40 ∧ Lm.num n l = x := by
  have h1 : Lm.Good n l := by unfold goodB at h; simpa using h
  have e := Lm.good_num h1.1 h1.2.2
  exact ⟨_, e.1, e.2, good_ln h1, rfl⟩
noncomputable def goodR (n : Bool) (l : List Int) (p : Bool) (q : List Int) : Bool := goodB n l && (goodB p q && (decide (0 < Lm.num p q) && decide (Int.gcd (Lm.num n l) (Lm.num p q) = 1)))
theorem goodR_lim {x y : Int} (hx : Lm.ln x ≤ 40) (hy : Lm.ln y ≤ 40) : goodR (decide (x < 0)) (Lm.lim x.natAbs) (decide (y < 0)) (Lm.lim y.natAbs) = (decide (0 < y) && decide (Int.gcd x y = 1)) := by
  unfold goodR
  rw [goodB_true (Lm.good_lim hx), goodB_true (Lm.good_lim hy), Lm.num_lim, Lm.num_lim]
  rfl
theorem goodR_ex {n : Bool} {l : List Int} {p : Bool} {q : List Int} (h : goodR n l p q = true) : ∃ x y : Int, n = decide (x < 0) ∧ l = Lm.lim x.natAbs ∧ p = decide (y < 0) ∧ q = Lm.lim y.natAbs ∧ Lm.ln x ≤ 40 ∧ Lm.ln y ≤ 40 ∧ 0 < y ∧ Int.gcd x y = 1 := by
  unfold goodR at h
  rw [Bool.and_eq_true, Bool.and_eq_true, Bool.and_eq_true, decide_eq_true_iff, decide_eq_true_iff] at h
  obtain ⟨h1, h2, h3, h4⟩ := h
  obtain ⟨x, a1, a2, a3, a4⟩ := good_ex h1
  obtain ⟨y, b1, b2, b3, b4⟩ := good_ex h2
  rw [a4, b4] at h4
  rw [b4] at h3
  exact ⟨x, y, a1, a2, b1, b2, a3, b3, h3, h4⟩

theorem goodRatI_den (n : Bool) (l : List Int) (p : Bool) (q : List Int) (hl : l.length ≤ 1000000000000) (hq : q.length ≤ 1000000000000) : D 42 [ratR n l p q] true (.one (bP (goodR n l p q))) := by
  have dA := are2_den n p l q hl hq
  cases g1 : goodB n l with
  | false =>
    have e : goodR n l p q = false := by unfold goodR; rw [g1]; rfl
    rw [g1] at dA
    rw [e]
    refine go Tryd.func42 rfl rfl ?_
    repeat refine vs ?_
    conv => whnf
    refine NewK.mk false ?_
    repeat refine vs ?_
    conv => whnf
    refine CallS.mk _ rfl true true _ (dA) rfl ?_
    repeat refine vs ?_
    conv => whnf
    first | rfl | exact ⟨rfl, rfl⟩ | exact ⟨by simp [toRes], rfl⟩
  | true =>
    cases g2 : goodB p q with
    | false =>
      have e : goodR n l p q = false := by unfold goodR; rw [g1, g2]; rfl
      rw [g1, g2] at dA
      rw [e]
      refine go Tryd.func42 rfl rfl ?_
      repeat refine vs ?_
      conv => whnf
      refine NewK.mk false ?_
      repeat refine vs ?_
      conv => whnf
      refine CallS.mk _ rfl true true _ (dA) rfl ?_
      repeat refine vs ?_
      conv => whnf
      first | rfl | exact ⟨rfl, rfl⟩ | exact ⟨by simp [toRes], rfl⟩
    | true =>
      rw [g1, g2] at dA
      obtain ⟨x, rfl, rfl, hx, _⟩ := good_ex g1
      obtain ⟨y, rfl, rfl, hy, _⟩ := good_ex g2
      rw [goodR_lim hx hy]
      have dS := sign_den y (by omega)
      by_cases h0 : 0 < y
      · have e1 : cmpI y 0 > 0 := by rcases cmpI_sgn y with h | h | h <;> omega
        have hg := ln_gcd' (x := x) (show y ≠ 0 by omega)
        have dG := gcd_den x y (by omega) (by omega)
        have dO := bigOfI_den 1 (by omega) (by omega)
        have dC := compareBig_den (Int.gcd x y : Int) 1 (by omega) (Nat.le_trans (ln64 (by omega) (by omega)) (by decide))
        by_cases h1 : Int.gcd x y = 1
        · have e2 : cmpI (Int.gcd x y : Int) 1 = 0 := by rw [h1]; rfl
          rw [decide_eq_true h0, decide_eq_true h1]
          refine go Tryd.func42 rfl rfl ?_
          repeat refine vs ?_
          conv => whnf
          refine NewK.mk false ?_
          repeat refine vs ?_
          conv => whnf
          refine CallS.mk _ rfl true true _ (dA) rfl ?_
          repeat refine vs ?_
          conv => whnf
          refine CallS.mk _ rfl true true _ (dS) rfl ?_
          repeat refine vs ?_
          conv => whnf
          refine CallS.mk _ rfl true true _ (dG) rfl ?_
          repeat refine vs ?_
          conv => whnf
          refine CallS.mk _ rfl true true _ (dO) rfl ?_
          repeat refine vs ?_
          conv => whnf
          refine CallS.mk _ rfl true true _ (dC) rfl ?_
          repeat refine vs ?_
          conv => whnf
          first | rfl | exact ⟨rfl, rfl⟩ | exact ⟨by simp [toRes], rfl⟩
        · have e2 : ¬ cmpI (Int.gcd x y : Int) 1 = 0 := by unfold cmpI; split <;> (try split) <;> omega
          rw [decide_eq_true h0, decide_eq_false h1]
          refine go Tryd.func42 rfl rfl ?_
          repeat refine vs ?_
          conv => whnf
          refine NewK.mk false ?_
          repeat refine vs ?_
          conv => whnf
          refine CallS.mk _ rfl true true _ (dA) rfl ?_
          repeat refine vs ?_
          conv => whnf
          refine CallS.mk _ rfl true true _ (dS) rfl ?_
          repeat refine vs ?_
          conv => whnf
          refine CallS.mk _ rfl true true _ (dG) rfl ?_
          repeat refine vs ?_
          conv => whnf
          refine CallS.mk _ rfl true true _ (dO) rfl ?_
          repeat refine vs ?_
          conv => whnf
          refine CallS.mk _ rfl true true _ (dC) rfl ?_
          repeat refine vs ?_
          conv => whnf
          first | rfl | exact ⟨rfl, rfl⟩ | exact ⟨by simp [toRes], rfl⟩
      · have e1 : ¬ cmpI y 0 > 0 := by rcases cmpI_sgn y with h | h | h <;> omega
        rw [decide_eq_false h0]
        refine go Tryd.func42 rfl rfl ?_
        repeat refine vs ?_
        conv => whnf
        refine NewK.mk false ?_
        repeat refine vs ?_
        conv => whnf
        refine CallS.mk _ rfl true true _ (dA) rfl ?_
        repeat refine vs ?_
        conv => whnf
        refine CallS.mk _ rfl true true _ (dS) rfl ?_
        repeat refine vs ?_
        conv => whnf
        first | rfl | exact ⟨rfl, rfl⟩ | exact ⟨by simp [toRes], rfl⟩

theorem can_one : Lm.Can [1] := ⟨Lm.Dig.cons (by omega) (by omega) Lm.Dig.nil, by simp⟩
theorem goodRatS_den (n : Bool) (l : List Int) (p : Bool) (q : List Int) (hl : l.length ≤ 1000000000000) (hq : q.length ≤ 1000000000000) : D 40 [ratR n l p q] true (.one (bP (goodR n l p q))) := by
  have d1 := goodS_den n l hl
  have d2 := goodS_den p q hq
  cases g1 : goodB n l with
  | false =>
    have e : goodR n l p q = false := by unfold goodR; rw [g1]; rfl
    rw [g1] at d1
    rw [e]
    refine go Tryd.func40 rfl rfl ?_
    repeat refine vs ?_
    conv => whnf
    refine CallS.mk _ rfl true true _ (d1) rfl ?_
    repeat refine vs ?_
    conv => whnf
    first | rfl | exact ⟨rfl, rfl⟩ | exact ⟨by simp [toRes], rfl⟩
  | true =>
    cases g2 : goodB p q with
    | false =>
      have e : goodR n l p q = false := by unfold goodR; rw [g1, g2]; rfl
      rw [g1] at d1
      rw [g2] at d2
      rw [e]
      refine go Tryd.func40 rfl rfl ?_
      repeat refine vs ?_
      conv => whnf
      refine CallS.mk _ rfl true true _ (d1) rfl ?_
      repeat refine vs ?_
      conv => whnf
      refine CallS.mk _ rfl true true _ (d2) rfl ?_
      repeat refine vs ?_
      conv => whnf
      first | rfl | exact ⟨rfl, rfl⟩ | exact ⟨by simp [toRes], rfl⟩
    | true =>
      rw [g1] at d1
      rw [g2] at d2
      obtain ⟨x, rfl, rfl, hx, _⟩ := good_ex g1
      obtain ⟨y, rfl, rfl, hy, _⟩ := good_ex g2
      rw [goodR_lim hx hy]
      have hx' : (Lm.lim x.natAbs).length ≤ 40 := hx
      have hy' : (Lm.lim y.natAbs).length ≤ 40 := hy
      by_cases hneg : y < 0
      · have h0 : ¬ 0 < y := by omega
        rw [decide_eq_false h0]
        rw [decide_eq_true hneg] at d2 ⊢
        refine go Tryd.func40 rfl rfl ?_
        repeat refine vs ?_
        conv => whnf
        refine CallS.mk _ rfl true true _ (d1) rfl ?_
        repeat refine vs ?_
        conv => whnf
        refine CallS.mk _ rfl true true _ (d2) rfl ?_
        repeat refine vs ?_
        conv => whnf
        first | rfl | exact ⟨rfl, rfl⟩ | exact ⟨by simp [toRes], rfl⟩
      · rw [decide_eq_false hneg] at d2 ⊢
        by_cases hz : y = 0
        · have h0 : ¬ 0 < y := by omega
          have e0 : ((Lm.lim y.natAbs).length : Int) = 0 := by subst hz; simp [Lm.lim_zero]
          rw [decide_eq_false h0]
          refine go Tryd.func40 rfl rfl ?_
          repeat refine vs ?_
          conv => whnf
          refine CallS.mk _ rfl true true _ (d1) rfl ?_
          repeat refine vs ?_
          conv => whnf
          refine CallS.mk _ rfl true true _ (d2) rfl ?_
          repeat refine vs ?_
          conv => whnf
          first | rfl | exact ⟨rfl, rfl⟩ | exact ⟨by simp [toRes], rfl⟩
        · have h0 : 0 < y := by omega
          have e0 : ¬ ((Lm.lim y.natAbs).length : Int) = 0 := by
            have := List.length_pos_iff.2 (fun h => by have := Lm.lim_eq_nil.1 h; omega : Lm.lim y.natAbs ≠ [])
            omega
          have hg : (Lm.lim (Int.gcd x y)).length ≤ 40 := by
            have := ln_gcd' (x := x) hz
            unfold Lm.ln at this
            rw [Int.natAbs_natCast] at this
            omega
          have dG := l1Gcd_den x.natAbs y.natAbs (by omega) (by omega)
          have dC := l1Cmp_den (Lm.lim (Int.gcd x y)) [1] (Lm.lim_can _) can_one (by omega) (by simp)
          rw [Lm.val_lim, Lm.val_single] at dC
          rw [decide_eq_true h0]
          by_cases h1 : Int.gcd x y = 1
          · have e2 : cmpI (Int.gcd x y : Int) 1 = 0 := by rw [h1]; rfl
            rw [decide_eq_true h1]
            refine go Tryd.func40 rfl rfl ?_
            repeat refine vs ?_
            conv => whnf
            refine CallS.mk _ rfl true true _ (d1) rfl ?_
            repeat refine vs ?_
            conv => whnf
            refine CallS.mk _ rfl true true _ (d2) rfl ?_
            repeat refine vs ?_
            conv => whnf
            refine CallS.mk _ rfl true true _ (dG) rfl ?_
            repeat refine vs ?_
            conv => whnf
            refine NewK.mk false ?_
            repeat refine vs ?_
            conv => whnf
            refine CallS.mk _ rfl true true _ (dC) rfl ?_
            repeat refine vs ?_
            conv => whnf
            first | rfl | exact ⟨rfl, rfl⟩ | exact ⟨by simp [toRes], rfl⟩
          · have e2 : ¬ cmpI (Int.gcd x y : Int) 1 = 0 := by unfold cmpI; split <;> (try split) <;> omega
            rw [decide_eq_false h1]
            refine go Tryd.func40 rfl rfl ?_
            repeat refine vs ?_
            conv => whnf
            refine CallS.mk _ rfl true true _ (d1) rfl ?_
            repeat refine vs ?_
            conv => whnf
            refine CallS.mk _ rfl true true _ (d2) rfl ?_
            repeat refine vs ?_
            conv => whnf
            refine CallS.mk _ rfl true true _ (dG) rfl ?_
            repeat refine vs ?_
            conv => whnf
            refine NewK.mk false ?_
            repeat refine vs ?_
            conv => whnf
            refine CallS.mk _ rfl true true _ (dC) rfl ?_
            repeat refine vs ?_
            conv => whnf
            first | rfl | exact ⟨rfl, rfl⟩ | exact ⟨by simp [toRes], rfl⟩

/-- A fraction that is not too long, or nothing. -/
def fitR (x y : Int) : Bool := decide (Lm.ln x ≤ 40) && decide (Lm.ln y ≤ 40)
def fitRV (x y : Int) : PV := if fitR x y then ratV x y else ratR false [] false []
end Go.Vx
