/- Chapter 1: quotients and greatest common divisors, of any arguments. -/
import Derived.Test.YtiaobnkihhnmhaaC7
import Derived.Test.YtiaobnkihhnmhaaB20
set_option linter.unusedVariables false
set_option linter.unusedSectionVars false
set_option linter.unusedSimpArgs false
namespace Go.Vx
open Go.Proofs
set_option maxRecDepth 100000

theorem fit_lim {x : Int} {k : Nat} (h : Lm.ln x ≤ k) : (Lm.lim x.natAbs).length ≤ k := h
theorem ln_tdiv (x y : Int) : Lm.ln (x.tdiv y) ≤ Lm.ln x := Lm.ln_mono (by rw [Int.natAbs_tdiv]; exact Nat.div_le_self _ _)
theorem ln_tmod (x y : Int) : Lm.ln (x.tmod y) ≤ Lm.ln x := Lm.ln_mono (by rw [Int.natAbs_tmod]; exact Nat.mod_le _ _)

theorem gcdBoth (n1 : Bool) (l : List Int) (n2 : Bool) (m : List Int) (hl : l.length ≤ 1000000000000) (hm : m.length ≤ 1000000000000) : ∃ n r b, r.length ≤ 1000000 ∧ D 34 [rawV n1 l, rawV n2 m] false (.tup [rawV n r, bP b]) ∧ D 35 [rawV n1 l, rawV n2 m] true (.tup [rawV n r, bP b]) := by
  have dS1 := goodS_den n1 l hl
  have dS2 := goodS_den n2 m hm
  have dA := are2_den n1 n2 l m hl hm
  cases g1 : goodB n1 l with
  | false =>
    rw [g1] at dS1 dA
    refine ⟨false, [], false, by simp, go Try.func34 rfl rfl ?_, go Try.func35 rfl rfl ?_⟩
    · repeat refine vs ?_
      conv => whnf
      refine CallS.mk _ rfl true true _ (dS1) rfl ?_
      repeat refine vs ?_
      conv => whnf
      first | rfl | exact ⟨rfl, rfl⟩ | exact ⟨by simp [toRes], rfl⟩
    · repeat refine vs ?_
      conv => whnf
      refine NewK.mk false ?_
      repeat refine vs ?_
      conv => whnf
      refine CallS.mk _ rfl true true _ (dA) rfl ?_
      repeat refine vs ?_
      conv => whnf
      first | rfl | exact ⟨rfl, rfl⟩ | exact ⟨by simp [toRes], rfl⟩
  | true =>
    cases g2 : goodB n2 m with
    | false =>
      rw [g1] at dS1 dA
      rw [g2] at dS2 dA
      refine ⟨false, [], false, by simp, go Try.func34 rfl rfl ?_, go Try.func35 rfl rfl ?_⟩
      · repeat refine vs ?_
        conv => whnf
        refine CallS.mk _ rfl true true _ (dS1) rfl ?_
        repeat refine vs ?_
        conv => whnf
        refine CallS.mk _ rfl true true _ (dS2) rfl ?_
        repeat refine vs ?_
        conv => whnf
        first | rfl | exact ⟨rfl, rfl⟩ | exact ⟨by simp [toRes], rfl⟩
      · repeat refine vs ?_
        conv => whnf
        refine NewK.mk false ?_
        repeat refine vs ?_
        conv => whnf
        refine CallS.mk _ rfl true true _ (dA) rfl ?_
        repeat refine vs ?_
        conv => whnf
        first | rfl | exact ⟨rfl, rfl⟩ | exact ⟨by simp [toRes], rfl⟩
    | true =>
      rw [g1] at dS1 dA
      rw [g2] at dS2 dA
      have h1 : Lm.Good n1 l := by unfold goodB at g1; simpa using g1
      have h2 : Lm.Good n2 m := by unfold goodB at g2; simpa using g2
      have hx := good_ln h1
      have hy := good_ln h2
      have k1 := good_bigV h1
      have k2 := good_bigV h2
      rw [k1] at dS1 ⊢
      rw [k2] at dS2 ⊢
      have e1 : n1 = decide (Lm.num n1 l < 0) ∧ l = Lm.lim (Lm.num n1 l).natAbs := Lm.good_num h1.1 h1.2.2
      have e2 : n2 = decide (Lm.num n2 m < 0) ∧ m = Lm.lim (Lm.num n2 m).natAbs := Lm.good_num h2.1 h2.2.2
      have dA2 : D 54 [(false, [.arr 2 [[.bool (decide (Lm.num n1 l < 0)), .ints (Lm.lim (Lm.num n1 l).natAbs)], [.bool (decide (Lm.num n2 m < 0)), .ints (Lm.lim (Lm.num n2 m).natAbs)]]])] true (.one (bP true)) := by
        rw [← e1.1, ← e1.2, ← e2.1, ← e2.2]
        exact dA
      clear dA e1 e2 k1 k2
      generalize Lm.num n1 l = x at *
      generalize Lm.num n2 m = y at *
      have hx' := fit_lim hx
      have hy' := fit_lim hy
      have hg : (Lm.lim (Int.gcd x y)).length ≤ 80 := by
        by_cases h0 : x = 0
        · subst h0
          have : Int.gcd 0 y = y.natAbs := by simp [Int.gcd]
          rw [this]
          omega
        · have := lim_le (Nat.gcd_le_left y.natAbs (show 0 < x.natAbs by omega))
          unfold Int.gcd
          omega
      have dG := l1Gcd_den x.natAbs y.natAbs (by omega) (by omega)
      have dM := l1Make_den false (Lm.lim (Int.gcd x y)) (by omega)
      rw [make_num] at dM
      simp only [Bool.false_eq_true, if_false] at dM
      have dI := gcd_den x y (by omega) (by omega)
      refine ⟨decide (((Int.gcd x y : Nat) : Int) < 0), Lm.lim ((Int.gcd x y : Nat) : Int).natAbs, true, by rw [Int.natAbs_natCast]; omega, go Try.func34 rfl rfl ?_, go Try.func35 rfl rfl ?_⟩
      · repeat refine vs ?_
        conv => whnf
        refine CallS.mk _ rfl true true _ (dS1) rfl ?_
        repeat refine vs ?_
        conv => whnf
        refine CallS.mk _ rfl true true _ (dS2) rfl ?_
        repeat refine vs ?_
        conv => whnf
        refine CallS.mk _ rfl true true _ (dG) rfl ?_
        repeat refine vs ?_
        conv => whnf
        refine CallS.mk _ rfl true true _ (dM) rfl ?_
        repeat refine vs ?_
        conv => whnf
        first | rfl | exact ⟨rfl, rfl⟩ | exact ⟨by simp [toRes], rfl⟩
      · repeat refine vs ?_
        conv => whnf
        refine NewK.mk false ?_
        repeat refine vs ?_
        conv => whnf
        refine CallS.mk _ rfl true true _ (dA2) rfl ?_
        repeat refine vs ?_
        conv => whnf
        refine CallS.mk _ rfl true true _ (dI) rfl ?_
        repeat refine vs ?_
        conv => whnf
        first | rfl | exact ⟨rfl, rfl⟩ | exact ⟨by simp [toRes], rfl⟩

theorem divBoth (n1 : Bool) (l : List Int) (n2 : Bool) (m : List Int) (hl : l.length ≤ 1000000000000) (hm : m.length ≤ 1000000000000) : ∃ n r n' r' b, r.length ≤ 1000000 ∧ r'.length ≤ 1000000 ∧ D 36 [rawV n1 l, rawV n2 m] false (.tup [rawV n r, rawV n' r', bP b]) ∧ D 37 [rawV n1 l, rawV n2 m] true (.tup [rawV n r, rawV n' r', bP b]) := by
  have dS1 := goodS_den n1 l hl
  have dS2 := goodS_den n2 m hm
  have dA := are2_den n1 n2 l m hl hm
  cases g1 : goodB n1 l with
  | false =>
    rw [g1] at dS1 dA
    refine ⟨false, [], false, [], false, by simp, by simp, go Try.func36 rfl rfl ?_, go Try.func37 rfl rfl ?_⟩
    · repeat refine vs ?_
      conv => whnf
      refine CallS.mk _ rfl true true _ (dS1) rfl ?_
      repeat refine vs ?_
      conv => whnf
      first | rfl | exact ⟨rfl, rfl⟩ | exact ⟨by simp [toRes], rfl⟩
    · repeat refine vs ?_
      conv => whnf
      refine NewK.mk false ?_
      repeat refine vs ?_
      conv => whnf
      refine CallS.mk _ rfl true true _ (dA) rfl ?_
      repeat refine vs ?_
      conv => whnf
      first | rfl | exact ⟨rfl, rfl⟩ | exact ⟨by simp [toRes], rfl⟩
  | true =>
    cases g2 : goodB n2 m with
    | false =>
      rw [g1] at dS1 dA
      rw [g2] at dS2 dA
      refine ⟨false, [], false, [], false, by simp, by simp, go Try.func36 rfl rfl ?_, go Try.func37 rfl rfl ?_⟩
      · repeat refine vs ?_
        conv => whnf
        refine CallS.mk _ rfl true true _ (dS1) rfl ?_
        repeat refine vs ?_
        conv => whnf
        refine CallS.mk _ rfl true true _ (dS2) rfl ?_
        repeat refine vs ?_
        conv => whnf
        first | rfl | exact ⟨rfl, rfl⟩ | exact ⟨by simp [toRes], rfl⟩
      · repeat refine vs ?_
        conv => whnf
        refine NewK.mk false ?_
        repeat refine vs ?_
        conv => whnf
        refine CallS.mk _ rfl true true _ (dA) rfl ?_
        repeat refine vs ?_
        conv => whnf
        first | rfl | exact ⟨rfl, rfl⟩ | exact ⟨by simp [toRes], rfl⟩
    | true =>
      rw [g1] at dS1 dA
      rw [g2] at dS2 dA
      have h1 : Lm.Good n1 l := by unfold goodB at g1; simpa using g1
      have h2 : Lm.Good n2 m := by unfold goodB at g2; simpa using g2
      have hx := good_ln h1
      have hy := good_ln h2
      have k1 := good_bigV h1
      have k2 := good_bigV h2
      rw [k1] at dS1 ⊢
      rw [k2] at dS2 ⊢
      have e1 : n1 = decide (Lm.num n1 l < 0) ∧ l = Lm.lim (Lm.num n1 l).natAbs := Lm.good_num h1.1 h1.2.2
      have e2 : n2 = decide (Lm.num n2 m < 0) ∧ m = Lm.lim (Lm.num n2 m).natAbs := Lm.good_num h2.1 h2.2.2
      have dA2 : D 54 [(false, [.arr 2 [[.bool (decide (Lm.num n1 l < 0)), .ints (Lm.lim (Lm.num n1 l).natAbs)], [.bool (decide (Lm.num n2 m < 0)), .ints (Lm.lim (Lm.num n2 m).natAbs)]]])] true (.one (bP true)) := by
        rw [← e1.1, ← e1.2, ← e2.1, ← e2.2]
        exact dA
      clear dA e1 e2 k1 k2
      generalize Lm.num n1 l = x at *
      generalize Lm.num n2 m = y at *
      have hx' := fit_lim hx
      have hy' := fit_lim hy
      have dSg := sign_den y (by omega)
      by_cases h0 : y = 0
      · have e0 : ((Lm.lim y.natAbs).length : Int) = 0 := by subst h0; simp [Lm.lim_zero]
        have e1 : cmpI y 0 = 0 := by subst h0; rfl
        rw [e1] at dSg
        refine ⟨false, [], false, [], false, by simp, by simp, go Try.func36 rfl rfl ?_, go Try.func37 rfl rfl ?_⟩
        · repeat refine vs ?_
          conv => whnf
          refine CallS.mk _ rfl true true _ (dS1) rfl ?_
          repeat refine vs ?_
          conv => whnf
          refine CallS.mk _ rfl true true _ (dS2) rfl ?_
          repeat refine vs ?_
          conv => whnf
          first | rfl | exact ⟨rfl, rfl⟩ | exact ⟨by simp [toRes], rfl⟩
        · repeat refine vs ?_
          conv => whnf
          refine NewK.mk false ?_
          repeat refine vs ?_
          conv => whnf
          refine CallS.mk _ rfl true true _ (dA2) rfl ?_
          repeat refine vs ?_
          conv => whnf
          refine CallS.mk _ rfl true true _ (dSg) rfl ?_
          repeat refine vs ?_
          conv => whnf
          first | rfl | exact ⟨rfl, rfl⟩ | exact ⟨by simp [toRes], rfl⟩
      · have e0 : ¬ ((Lm.lim y.natAbs).length : Int) = 0 := by
          have := List.length_pos_iff.2 (fun h => by have := Lm.lim_eq_nil.1 h; omega : Lm.lim y.natAbs ≠ [])
          omega
        have e1 : ¬ cmpI y 0 = 0 := by rcases cmpI_sgn y with h | h | h <;> omega
        have dS := l1Div_den x y h0 (by omega) (by omega)
        have dI := div_den x y h0 (by omega) (by omega)
        have r1 := ln_tdiv x y
        have r2 := ln_tmod x y
        have l1 := fit_lim (Nat.le_trans r1 hx)
        have l2 := fit_lim (Nat.le_trans r2 hx)
        refine ⟨decide (x.tdiv y < 0), Lm.lim (x.tdiv y).natAbs, decide (x.tmod y < 0), Lm.lim (x.tmod y).natAbs, true, by omega, by omega, go Try.func36 rfl rfl ?_, go Try.func37 rfl rfl ?_⟩
        · repeat refine vs ?_
          conv => whnf
          refine CallS.mk _ rfl true true _ (dS1) rfl ?_
          repeat refine vs ?_
          conv => whnf
          refine CallS.mk _ rfl true true _ (dS2) rfl ?_
          repeat refine vs ?_
          conv => whnf
          refine CallS.mk _ rfl true true _ (dS) rfl ?_
          repeat refine vs ?_
          conv => whnf
          first | rfl | exact ⟨rfl, rfl⟩ | exact ⟨by simp [toRes], rfl⟩
        · repeat refine vs ?_
          conv => whnf
          refine NewK.mk false ?_
          repeat refine vs ?_
          conv => whnf
          refine CallS.mk _ rfl true true _ (dA2) rfl ?_
          repeat refine vs ?_
          conv => whnf
          refine CallS.mk _ rfl true true _ (dSg) rfl ?_
          repeat refine vs ?_
          conv => whnf
          refine CallS.mk _ rfl true true _ (dI) rfl ?_
          repeat refine vs ?_
          conv => whnf
          first | rfl | exact ⟨rfl, rfl⟩ | exact ⟨by simp [toRes], rfl⟩
end Go.Vx
