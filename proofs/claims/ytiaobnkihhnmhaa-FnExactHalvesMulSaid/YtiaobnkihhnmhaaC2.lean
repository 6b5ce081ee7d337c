/- Chapter 1: GoodBig and CompareBig as the laws ask. -/
import Derived.Test.YtiaobnkihhnmhaaC1
namespace Go.Vx
open Go.Proofs
set_option maxRecDepth 100000

theorem good_bigV {neg : Bool} {l : List Int} (h : Lm.Good neg l) : rawV neg l = bigV (Lm.num neg l) := by
  obtain ⟨h1, h2⟩ := Lm.good_num h.1 h.2.2
  unfold bigV
  rw [← h1, ← h2]
theorem good_ln {neg : Bool} {l : List Int} (h : Lm.Good neg l) : Lm.ln (Lm.num neg l) ≤ 40 := by
  obtain ⟨h1, h2⟩ := Lm.good_num h.1 h.2.2
  unfold Lm.ln
  rw [← h2]
  exact h.2.1

theorem compareBoth (n1 n2 : Bool) (l m : List Int) (hl : l.length ≤ 1000000000000) (hm : m.length ≤ 1000000000000) : ∃ z b, D 22 [rawV n1 l, rawV n2 m] true (.tup [iP z, bP b]) ∧ D 23 [rawV n1 l, rawV n2 m] true (.tup [iP z, bP b]) := by
  by_cases h1 : Lm.Good n1 l
  · by_cases h2 : Lm.Good n2 m
    · have l1 := good_ln h1
      have l2 := good_ln h2
      refine ⟨cmpI (Lm.num n1 l) (Lm.num n2 m), true, ?_, ?_⟩
      · refine go Try.func22 rfl rfl ?_
        repeat refine vs ?_
        conv => whnf
        refine CallS.mk _ rfl true true _ (goodS_den n1 l hl) rfl ?_
        rw [goodB_true h1]
        repeat refine vs ?_
        conv => whnf
        refine CallS.mk _ rfl true true _ (goodS_den n2 m hm) rfl ?_
        rw [goodB_true h2]
        repeat refine vs ?_
        conv => whnf
        have d := l1CmpBig_den _ _ (show Lm.ln (Lm.num n1 l) ≤ 1000000000000 by omega) (show Lm.ln (Lm.num n2 m) ≤ 1000000000000 by omega)
        rw [← good_bigV h1, ← good_bigV h2] at d
        refine CallS.mk _ rfl true true _ (d) rfl ?_
        repeat refine vs ?_
        conv => whnf
        first | rfl | exact ⟨rfl, rfl⟩ | exact ⟨by simp [toRes], rfl⟩
      · refine go Try.func23 rfl rfl ?_
        repeat refine vs ?_
        conv => whnf
        refine CallS.mk _ rfl true true _ (goodI_den n1 l hl) rfl ?_
        rw [goodB_true h1]
        repeat refine vs ?_
        conv => whnf
        refine CallS.mk _ rfl true true _ (goodI_den n2 m hm) rfl ?_
        rw [goodB_true h2]
        repeat refine vs ?_
        conv => whnf
        have d := compareBig_den _ _ (show Lm.ln (Lm.num n1 l) ≤ 1000000000000 by omega) (show Lm.ln (Lm.num n2 m) ≤ 1000000000000 by omega)
        rw [← good_bigV h1, ← good_bigV h2] at d
        refine CallS.mk _ rfl true true _ (d) rfl ?_
        repeat refine vs ?_
        conv => whnf
        first | rfl | exact ⟨rfl, rfl⟩ | exact ⟨by simp [toRes], rfl⟩
    · refine ⟨0, false, ?_, ?_⟩
      · refine go Try.func22 rfl rfl ?_
        repeat refine vs ?_
        conv => whnf
        refine CallS.mk _ rfl true true _ (goodS_den n1 l hl) rfl ?_
        rw [goodB_true h1]
        repeat refine vs ?_
        conv => whnf
        refine CallS.mk _ rfl true true _ (goodS_den n2 m hm) rfl ?_
        rw [goodB_false h2]
        repeat refine vs ?_
        conv => whnf
        first | rfl | exact ⟨rfl, rfl⟩ | exact ⟨by simp [toRes], rfl⟩
      · refine go Try.func23 rfl rfl ?_
        repeat refine vs ?_
        conv => whnf
        refine CallS.mk _ rfl true true _ (goodI_den n1 l hl) rfl ?_
        rw [goodB_true h1]
        repeat refine vs ?_
        conv => whnf
        refine CallS.mk _ rfl true true _ (goodI_den n2 m hm) rfl ?_
        rw [goodB_false h2]
        repeat refine vs ?_
        conv => whnf
        first | rfl | exact ⟨rfl, rfl⟩ | exact ⟨by simp [toRes], rfl⟩
  · refine ⟨0, false, ?_, ?_⟩
    · refine go Try.func22 rfl rfl ?_
      repeat refine vs ?_
      conv => whnf
      refine CallS.mk _ rfl true true _ (goodS_den n1 l hl) rfl ?_
      rw [goodB_false h1]
      repeat refine vs ?_
      conv => whnf
      first | rfl | exact ⟨rfl, rfl⟩ | exact ⟨by simp [toRes], rfl⟩
    · refine go Try.func23 rfl rfl ?_
      repeat refine vs ?_
      conv => whnf
      refine CallS.mk _ rfl true true _ (goodI_den n1 l hl) rfl ?_
      rw [goodB_false h1]
      repeat refine vs ?_
      conv => whnf
      first | rfl | exact ⟨rfl, rfl⟩ | exact ⟨by simp [toRes], rfl⟩

theorem szR_ok {k : Nat} (h : ¬ szR 1048576 k < 0) : k ≤ 1048576 ∧ szR 1048576 k = 1048576 - k := by
  unfold szR at h ⊢
  split at h
  · omega
  · rename_i h2
    rw [if_neg h2]
    omega

theorem lawGoodBig (neg : Bool) (l : List Int) (hl : l.length ≤ 9223372036854775807) : D 3 [rawV neg l] true (.one (bP true)) := by
  refine go Try.func3 rfl rfl ?_
  repeat refine vs ?_
  conv => whnf
  refine CallS.mk _ rfl true true _ (szBig_den neg l 1048576 (by omega) hl) rfl ?_
  repeat refine vs ?_
  conv => whnf
  by_cases h : szR 1048576 l.length < 0
  · repeat refine vs ?_
    conv => whnf
    first | rfl | exact ⟨rfl, rfl⟩ | exact ⟨by simp [toRes], rfl⟩
  · obtain ⟨hk, _⟩ := szR_ok h
    repeat refine vs ?_
    conv => whnf
    refine CallS.mk _ rfl true true _ (toBig_den neg l (by omega)) rfl ?_
    repeat refine vs ?_
    conv => whnf
    refine CallS.mk _ rfl true true _ (goodS_den neg l (by omega)) rfl ?_
    repeat refine vs ?_
    conv => whnf
    refine CallS.mk _ rfl true true _ (toBig_den neg l (by omega)) rfl ?_
    repeat refine vs ?_
    conv => whnf
    refine CallS.mk _ rfl true true _ (goodI_den neg l (by omega)) rfl ?_
    repeat refine vs ?_
    conv => whnf
    cases goodB neg l
    · repeat refine vs ?_
      conv => whnf
      refine CallS.mk _ rfl true true _ (toBig_den neg l (by omega)) rfl ?_
      repeat refine vs ?_
      conv => whnf
      refine CallS.mk _ rfl true true _ (eqBig_den neg neg l l (by omega) (by omega)) rfl ?_
      rw [decide_eq_true ⟨rfl, rfl⟩]
      repeat refine vs ?_
      conv => whnf
      first | rfl | exact ⟨rfl, rfl⟩ | exact ⟨by simp [toRes], rfl⟩
    · repeat refine vs ?_
      conv => whnf
      refine CallS.mk _ rfl true true _ (toBig_den neg l (by omega)) rfl ?_
      repeat refine vs ?_
      conv => whnf
      refine CallS.mk _ rfl true true _ (eqBig_den neg neg l l (by omega) (by omega)) rfl ?_
      rw [decide_eq_true ⟨rfl, rfl⟩]
      repeat refine vs ?_
      conv => whnf
      first | rfl | exact ⟨rfl, rfl⟩ | exact ⟨by simp [toRes], rfl⟩
end Go.Vx
