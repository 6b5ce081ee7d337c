/- Chapter 1: compared. -/
import Derived.Test.YtiaobnkihhnmhaaB3
namespace Go.Vx
open Go.Proofs
set_option maxRecDepth 100000

theorem len_cmp {a b : List Int} (ha : Lm.Can a) (hb : Lm.Can b) (h : a.length < b.length) : cmpI (Lm.val a) (Lm.val b) = -1 ∧ cmpI (Lm.val b) (Lm.val a) = 1 := by
  have := Lm.can_lt_of_length ha hb h
  unfold cmpI
  constructor
  · rw [if_pos this]
  · rw [if_neg (by omega), if_pos this]

theorem l1Cmp_den (a b : List Int) (ha : Lm.Can a) (hb : Lm.Can b) (hla : a.length ≤ 1000000000000) (hlb : b.length ≤ 1000000000000) : D 50 [lP a, lP b] true (.one (iP (cmpI (Lm.val a) (Lm.val b)))) := by
  refine go Try.func50 rfl rfl ?_
  repeat refine vs ?_
  conv => whnf
  by_cases hl : (a.length : Int) = b.length
  · have hl' : a.length = b.length := by omega
    have hn : ¬ ((a.length : Int) ≠ b.length) := by omega
    repeat refine vs ?_
    conv => whnf
    refine EVs.loopU (fun n : Nat => n ≤ a.length ∧ a.drop n = b.drop n) id (fun n => [(5, .v false [.p (.int .i64 ((n : Int) - 1))])]) a.length ⟨Nat.le_refl _, by rw [List.drop_length, hl', List.drop_length]⟩ (Wk.refl _) ?_
    rintro n ⟨hn, hd⟩
    refine go1 ?_
    repeat refine vs ?_
    conv => whnf
    by_cases h0 : n = 0
    · subst h0
      have : a = b := by simpa using hd
      subst this
      repeat refine vs ?_
      conv => whnf
      exact ⟨by simp [toRes, cmpI], rfl⟩
    · have e1 : n - 1 < a.length := by omega
      have e2 : n - 1 < b.length := by omega
      have hd2 : a.drop (n - 1 + 1) = b.drop (n - 1 + 1) := by rw [show n - 1 + 1 = n by omega]; exact hd
      repeat refine vs ?_
      conv => whnf
      first | refine Idx.mk ((n - 1)) (by first | rfl | omega) (by omega) ?_ | skip
      repeat refine vs ?_
      conv => whnf
      first | refine LdI.mk (_) (List.getElem?_eq_getElem e1) ?_ | skip
      repeat refine vs ?_
      conv => whnf
      first | refine Idx.mk ((n - 1)) (by first | rfl | omega) (by omega) ?_ | skip
      repeat refine vs ?_
      conv => whnf
      first | refine LdI.mk (_) (List.getElem?_eq_getElem e2) ?_ | skip
      repeat refine vs ?_
      conv => whnf
      by_cases h1 : a[n - 1] < b[n - 1]
      · have := Lm.cmp_top ha.1 hb.1 e1 e2 hd2 h1
        repeat refine vs ?_
        conv => whnf
        exact ⟨by simp [toRes, cmpI, this], rfl⟩
      · repeat refine vs ?_
        conv => whnf
        first | refine Idx.mk ((n - 1)) (by first | rfl | omega) (by omega) ?_ | skip
        repeat refine vs ?_
        conv => whnf
        first | refine LdI.mk (_) (List.getElem?_eq_getElem e1) ?_ | skip
        repeat refine vs ?_
        conv => whnf
        first | refine Idx.mk ((n - 1)) (by first | rfl | omega) (by omega) ?_ | skip
        repeat refine vs ?_
        conv => whnf
        first | refine LdI.mk (_) (List.getElem?_eq_getElem e2) ?_ | skip
        repeat refine vs ?_
        conv => whnf
        by_cases h2 : a[n - 1] > b[n - 1]
        · have := Lm.cmp_top hb.1 ha.1 e2 e1 hd2.symm h2
          repeat refine vs ?_
          conv => whnf
          exact ⟨by simp [toRes, cmpI, this]; omega, rfl⟩
        · repeat refine vs ?_
          conv => whnf
          refine ⟨n - 1, by simp; omega, ⟨by omega, ?_⟩, ?_⟩
          · rw [← List.getElem_cons_drop e1, ← List.getElem_cons_drop e2, hd2, show a[n - 1] = b[n - 1] by omega]
          · rw [show (((n - 1 : Nat)) : Int) = (n : Int) - 1 by omega]
            refine Wk.le ?_
            repeat' (first | exact LeT.nil | refine LeT.drop1 ?_ | refine LeT.same1 ?_ | refine LeT.own1 ?_ | refine LeT.ownR ?_)
  · have hn : (a.length : Int) ≠ b.length := hl
    repeat refine vs ?_
    conv => whnf
    by_cases h1 : (a.length : Int) < b.length
    · have := len_cmp ha hb (by omega)
      repeat refine vs ?_
      conv => whnf
      exact ⟨by simp [toRes, this], rfl⟩
    · have := len_cmp hb ha (by omega)
      repeat refine vs ?_
      conv => whnf
      exact ⟨by simp [toRes, this], rfl⟩

theorem compareLimbs_den (a b : List Int) (ha : Lm.Can a) (hb : Lm.Can b) (hla : a.length ≤ 1000000000000) (hlb : b.length ≤ 1000000000000) : D 51 [lP a, lP b] true (.one (iP (cmpI (Lm.val a) (Lm.val b)))) := by
  refine go Try.func51 rfl rfl ?_
  repeat refine vs ?_
  conv => whnf
  by_cases hl : (a.length : Int) = b.length
  · have hl' : a.length = b.length := by omega
    have hn : ¬ ((a.length : Int) ≠ b.length) := by omega
    repeat refine vs ?_
    conv => whnf
    refine EVs.loopU (fun n : Nat => n ≤ a.length ∧ a.drop n = b.drop n) id (fun n => [(5, .v false [.p (.int .i64 ((n : Int) - 1))])]) a.length ⟨Nat.le_refl _, by rw [List.drop_length, hl', List.drop_length]⟩ (Wk.refl _) ?_
    rintro n ⟨hn, hd⟩
    refine go1 ?_
    repeat refine vs ?_
    conv => whnf
    by_cases h0 : n = 0
    · subst h0
      have : a = b := by simpa using hd
      subst this
      repeat refine vs ?_
      conv => whnf
      exact ⟨by simp [toRes, cmpI], rfl⟩
    · have e1 : n - 1 < a.length := by omega
      have e2 : n - 1 < b.length := by omega
      have hd2 : a.drop (n - 1 + 1) = b.drop (n - 1 + 1) := by rw [show n - 1 + 1 = n by omega]; exact hd
      repeat refine vs ?_
      conv => whnf
      first | refine Idx.mk ((n - 1)) (by first | rfl | omega) (by omega) ?_ | skip
      repeat refine vs ?_
      conv => whnf
      first | refine LdI.mk (_) (List.getElem?_eq_getElem e1) ?_ | skip
      repeat refine vs ?_
      conv => whnf
      first | refine Idx.mk ((n - 1)) (by first | rfl | omega) (by omega) ?_ | skip
      repeat refine vs ?_
      conv => whnf
      first | refine LdI.mk (_) (List.getElem?_eq_getElem e2) ?_ | skip
      repeat refine vs ?_
      conv => whnf
      by_cases h1 : a[n - 1] ≠ b[n - 1]
      · repeat refine vs ?_
        conv => whnf
        first | refine Idx.mk ((n - 1)) (by first | rfl | omega) (by omega) ?_ | skip
        repeat refine vs ?_
        conv => whnf
        first | refine LdI.mk (_) (List.getElem?_eq_getElem e1) ?_ | skip
        repeat refine vs ?_
        conv => whnf
        first | refine Idx.mk ((n - 1)) (by first | rfl | omega) (by omega) ?_ | skip
        repeat refine vs ?_
        conv => whnf
        first | refine LdI.mk (_) (List.getElem?_eq_getElem e2) ?_ | skip
        repeat refine vs ?_
        conv => whnf
        refine CallS.mk _ rfl true true _ (cmp_den a[n - 1] b[n - 1]) rfl ?_
        repeat refine vs ?_
        conv => whnf
        refine ⟨?_, rfl⟩
        by_cases h2 : a[n - 1] < b[n - 1]
        · have := Lm.cmp_top ha.1 hb.1 e1 e2 hd2 h2
          simp [toRes, cmpI, this, h2]
        · have h3 : b[n - 1] < a[n - 1] := by omega
          have := Lm.cmp_top hb.1 ha.1 e2 e1 hd2.symm h3
          simp [toRes, cmpI, this, h2, h3]
          omega
      · repeat refine vs ?_
        conv => whnf
        refine ⟨n - 1, by simp; omega, ⟨by omega, ?_⟩, ?_⟩
        · rw [← List.getElem_cons_drop e1, ← List.getElem_cons_drop e2, hd2, show a[n - 1] = b[n - 1] by omega]
        · rw [show (((n - 1 : Nat)) : Int) = (n : Int) - 1 by omega]
          refine Wk.le ?_
          repeat' (first | exact LeT.nil | refine LeT.drop1 ?_ | refine LeT.same1 ?_ | refine LeT.own1 ?_ | refine LeT.ownR ?_)
  · have hn : (a.length : Int) ≠ b.length := hl
    repeat refine vs ?_
    conv => whnf
    refine CallS.mk _ rfl true true _ (cmp_den a.length b.length) rfl ?_
    repeat refine vs ?_
    conv => whnf
    refine ⟨?_, rfl⟩
    by_cases h1 : (a.length : Int) < b.length
    · have := len_cmp ha hb (by omega)
      have e : cmpI (a.length : Int) b.length = -1 := by unfold cmpI; rw [if_pos h1]
      rw [this.1, e]
      rfl
    · have := len_cmp hb ha (by omega)
      have e : cmpI (a.length : Int) b.length = 1 := by unfold cmpI; rw [if_neg h1, if_pos (by omega)]
      rw [this.2, e]
      rfl

theorem cmpI_lim (x y : Nat) : cmpI (Lm.val (Lm.lim x)) (Lm.val (Lm.lim y)) = cmpI x y := by rw [Lm.val_lim, Lm.val_lim]

theorem cmpI_neg {x y : Int} (h1 : x < 0) (h2 : y < 0) : cmpI (y.natAbs : Int) x.natAbs = cmpI x y := by
  unfold cmpI
  split <;> split <;> (try split) <;> (try split) <;> omega
theorem cmpI_pos {x y : Int} (h1 : ¬ x < 0) (h2 : ¬ y < 0) : cmpI (x.natAbs : Int) y.natAbs = cmpI x y := by
  unfold cmpI
  split <;> split <;> (try split) <;> (try split) <;> omega
theorem cmpI_range (x y : Int) : -1 ≤ cmpI x y ∧ cmpI x y ≤ 1 := by
  unfold cmpI
  split <;> (try split) <;> omega
theorem l1CmpBig_den (x y : Int) (hx : Lm.ln x ≤ 1000000000000) (hy : Lm.ln y ≤ 1000000000000) : D 48 [bigV x, bigV y] true (.one (iP (cmpI x y))) := by
  refine go Try.func48 rfl rfl ?_
  by_cases h1 : x < 0
  · by_cases h2 : y < 0
    · simp only [bigV, rawV, h1, h2, decide_true, decide_false]
      repeat refine vs ?_
      conv => whnf
      refine CallS.mk _ rfl true true _ (l1Cmp_den _ _ (Lm.lim_can y.natAbs) (Lm.lim_can x.natAbs) hy hx) rfl ?_
      repeat refine vs ?_
      conv => whnf
      rw [cmpI_lim, cmpI_neg h1 h2]
      first | rfl | exact ⟨rfl, rfl⟩ | exact ⟨by simp [toRes], rfl⟩
    · have e : cmpI x y = -1 := by unfold cmpI; rw [if_pos (by omega)]
      rw [e]
      simp only [bigV, rawV, h1, h2, decide_true, decide_false]
      repeat refine vs ?_
      conv => whnf
      first | rfl | exact ⟨rfl, rfl⟩ | exact ⟨by simp [toRes], rfl⟩
  · by_cases h2 : y < 0
    · have e : cmpI x y = 1 := by unfold cmpI; rw [if_neg (by omega), if_pos (by omega)]
      rw [e]
      simp only [bigV, rawV, h1, h2, decide_true, decide_false]
      repeat refine vs ?_
      conv => whnf
      first | rfl | exact ⟨rfl, rfl⟩ | exact ⟨by simp [toRes], rfl⟩
    · simp only [bigV, rawV, h1, h2, decide_true, decide_false]
      repeat refine vs ?_
      conv => whnf
      refine CallS.mk _ rfl true true _ (l1Cmp_den _ _ (Lm.lim_can x.natAbs) (Lm.lim_can y.natAbs) hx hy) rfl ?_
      repeat refine vs ?_
      conv => whnf
      rw [cmpI_lim, cmpI_pos h1 h2]
      first | rfl | exact ⟨rfl, rfl⟩ | exact ⟨by simp [toRes], rfl⟩

theorem sign_den (x : Int) (hx : Lm.ln x ≤ 1000000000000) : D 65 [bigV x] true (.one (iP (cmpI x 0))) := by
  refine go Try.func65 rfl rfl ?_
  have hx' : (Lm.lim x.natAbs).length ≤ 1000000000000 := hx
  by_cases h0 : x = 0
  · subst h0
    simp only [bigV, rawV]
    rw [show Lm.lim (Int.natAbs 0) = [] from Lm.lim_zero]
    repeat refine vs ?_
    conv => whnf
    first | rfl | exact ⟨rfl, rfl⟩ | exact ⟨by simp [toRes], rfl⟩
  · have hpos : 0 < (Lm.lim x.natAbs).length := List.length_pos_iff.2 (fun e => h0 (Lm.lim_neg e))
    by_cases h1 : x < 0
    · have e : cmpI x 0 = -1 := by unfold cmpI; rw [if_pos h1]
      rw [e]
      simp only [bigV, rawV, h1, decide_true, decide_false]
      repeat refine vs ?_
      conv => whnf
      first | rfl | exact ⟨rfl, rfl⟩ | exact ⟨by simp [toRes], rfl⟩
    · have e : cmpI x 0 = 1 := by unfold cmpI; rw [if_neg h1, if_pos (by omega)]
      rw [e]
      simp only [bigV, rawV, h1, decide_true, decide_false]
      repeat refine vs ?_
      conv => whnf
      first | rfl | exact ⟨rfl, rfl⟩ | exact ⟨by simp [toRes], rfl⟩

theorem cmpI_sgn (x : Int) : (x < 0 ∧ cmpI x 0 = -1) ∨ (x = 0 ∧ cmpI x 0 = 0) ∨ (0 < x ∧ cmpI x 0 = 1) := by
  unfold cmpI
  split
  · exact .inl ⟨by assumption, rfl⟩
  · split
    · exact .inr (.inr ⟨by assumption, rfl⟩)
    · exact .inr (.inl ⟨by omega, rfl⟩)
theorem cmpI_diff {x y : Int} (h : cmpI x 0 ≠ cmpI y 0) : cmpI (cmpI x 0) (cmpI y 0) = cmpI x y := by
  rcases cmpI_sgn x with ⟨h1, e1⟩ | ⟨h1, e1⟩ | ⟨h1, e1⟩ <;> rcases cmpI_sgn y with ⟨h2, e2⟩ | ⟨h2, e2⟩ | ⟨h2, e2⟩ <;> rw [e1, e2] at h ⊢ <;> first | (exact absurd rfl h) | (unfold cmpI; split <;> split <;> (try split) <;> omega)
theorem cmpI_same {x y : Int} (h : cmpI x 0 = cmpI y 0) : cmpI x 0 * cmpI (x.natAbs : Int) (y.natAbs : Int) = cmpI x y := by
  rcases cmpI_sgn x with ⟨h1, e1⟩ | ⟨h1, e1⟩ | ⟨h1, e1⟩ <;> rcases cmpI_sgn y with ⟨h2, e2⟩ | ⟨h2, e2⟩ | ⟨h2, e2⟩ <;> rw [e1, e2] at h <;> first | omega | (rw [e1]; unfold cmpI; split <;> split <;> (try split) <;> (try split) <;> omega)
theorem compareBig_den (x y : Int) (hx : Lm.ln x ≤ 1000000000000) (hy : Lm.ln y ≤ 1000000000000) : D 49 [bigV x, bigV y] true (.one (iP (cmpI x y))) := by
  refine go Try.func49 rfl rfl ?_
  repeat refine vs ?_
  conv => whnf
  refine CallS.mk _ rfl true true _ (sign_den x hx) rfl ?_
  repeat refine vs ?_
  conv => whnf
  refine CallS.mk _ rfl true true _ (sign_den y hy) rfl ?_
  repeat refine vs ?_
  conv => whnf
  by_cases h : cmpI x 0 ≠ cmpI y 0
  · repeat refine vs ?_
    conv => whnf
    refine CallS.mk _ rfl true true _ (sign_den x hx) rfl ?_
    repeat refine vs ?_
    conv => whnf
    refine CallS.mk _ rfl true true _ (sign_den y hy) rfl ?_
    repeat refine vs ?_
    conv => whnf
    refine CallS.mk _ rfl true true _ (cmp_den (cmpI x 0) (cmpI y 0)) rfl ?_
    repeat refine vs ?_
    conv => whnf
    rw [cmpI_diff h]
    first | rfl | exact ⟨rfl, rfl⟩ | exact ⟨by simp [toRes], rfl⟩
  · repeat refine vs ?_
    conv => whnf
    refine CallS.mk _ rfl true true _ (sign_den x hx) rfl ?_
    repeat refine vs ?_
    conv => whnf
    refine CallS.mk _ rfl true true _ (compareLimbs_den _ _ (Lm.lim_can x.natAbs) (Lm.lim_can y.natAbs) hx hy) rfl ?_
    repeat refine vs ?_
    conv => whnf
    rw [cmpI_lim]
    have e := cmpI_same (Classical.not_not.1 h)
    refine ⟨cmpI x y, ?_, ?_⟩
    · rw [e]
      have := cmpI_range x y
      exact wrap64 (by omega) (by omega)
    repeat refine vs ?_
    conv => whnf
    first | rfl | exact ⟨rfl, rfl⟩ | exact ⟨by simp [toRes], rfl⟩
end Go.Vx
