/- Chapter 3: powers of two, square roots rounded down, the interval of a root. -/
import Derived.Test.YtdgagbjmbddefaaS3
import Derived.Test.YtdgagbjmbddefaaR6
import Derived.Test.YtdgagbjmbddefaaLr
set_option linter.unusedVariables false
set_option linter.unusedSectionVars false
set_option linter.unusedSimpArgs false
namespace Go.Vx
open Go.Proofs
set_option maxRecDepth 100000

theorem one_nd (x : Int) : nN x 1 = x ∧ dN x 1 = 1 := ⟨nN_one (by simp) (by omega), dN_one (by simp) (by omega)⟩
theorem ln_pow2 (n : Nat) : Lm.ln (Lm.pow2 n) ≤ n + 4 := by
  induction n with
  | zero => exact ln64 (by decide) (by decide)
  | succ n ih => exact Nat.le_trans (Lm.ln_add _ _ ih ih) (by omega)
theorem scaleOf_den (n : Nat) (hn : n ≤ 64) : D 90 [iP (n : Int)] false (.one (ratV (Lm.pow2 n) 1)) := by
  refine go Try.func90 rfl rfl ?_
  repeat refine vs ?_
  conv => whnf
  refine CallS.mk _ rfl true false _ (whole_den 1 (by omega) (by omega)) rfl ?_
  repeat refine vs ?_
  conv => whnf
  refine EVs.loopU (fun i : Nat => i ≤ n) (fun i => n - i) (fun i => [(3, .box (3, 0) [.p (.bool (decide (Lm.pow2 i < 0))), .p (.ints (Lm.lim (Lm.pow2 i).natAbs)), .p (.bool (decide ((1 : Int) < 0))), .p (.ints (Lm.lim (1 : Int).natAbs))] 0), (6, .v false [.p (.int .i64 (i : Int))])]) 0 (by omega) (Wk.refl _) ?_
  intro i hi
  refine go1 ?_
  repeat refine vs ?_
  conv => whnf
  by_cases h : (i : Int) < n
  · have l1 : Lm.ln 1 ≤ 4 := ln64 (by omega) (by omega)
    have lp := ln_pow2 i
    have dA := ratAdd_den (Lm.pow2 i) 1 (Lm.pow2 i) 1 (by omega) (by omega) (by omega) (by omega) (by omega) (by omega)
    rw [show addN (Lm.pow2 i) 1 (Lm.pow2 i) 1 = Lm.pow2 (i + 1) from by unfold addN; rw [Int.mul_one]; rfl, Int.mul_one, (one_nd _).1, (one_nd _).2] at dA
    repeat refine vs ?_
    conv => whnf
    refine CallS.mk _ rfl true false _ (dA) rfl ?_
    repeat refine vs ?_
    conv => whnf
    refine ⟨i + 1, by omega, by omega, ?_⟩
    refine Wk.le ?_
    repeat' (first | exact LeT.nil | refine LeT.drop1 ?_ | refine LeT.same1 ?_ | refine LeT.own1 ?_ | refine LeT.ownR ?_)
  · have : i = n := by omega
    subst this
    repeat refine vs ?_
    conv => whnf
    first | rfl | exact ⟨rfl, rfl⟩ | exact ⟨by simp [toRes], rfl⟩
theorem l3Power_den (z : Int) (h0 : 0 ≤ z) (hz : z ≤ 100000) : D 81 [iP z] false (.one (bigV (Lm.pow2 z.toNat))) := by
  obtain ⟨n, rfl⟩ := Int.eq_ofNat_of_zero_le h0
  rw [Int.toNat_natCast]
  refine go Try.func81 rfl rfl ?_
  repeat refine vs ?_
  conv => whnf
  refine CallS.mk _ rfl true false _ (bigOfS_den 1 (by omega) (by omega)) rfl ?_
  repeat refine vs ?_
  conv => whnf
  refine EVs.loopU (fun i : Nat => i ≤ n) (fun i => n - i) (fun i => [(0, .v false [.p (.int .i64 ((n : Int) - i))]), (3, .box (3, 0) [.p (.bool (decide (Lm.pow2 i < 0))), .p (.ints (Lm.lim (Lm.pow2 i).natAbs))] 0)]) 0 (by omega) ?_ ?_
  · rw [show (n : Int) - (0 : Nat) = n by omega]
    exact Wk.refl _
  intro i hi
  refine go1 ?_
  repeat refine vs ?_
  conv => whnf
  by_cases h : (n : Int) - i > 0
  · have lp := ln_pow2 i
    have dA := l1Add_den (Lm.pow2 i) (Lm.pow2 i) (by omega) (by omega)
    repeat refine vs ?_
    conv => whnf
    refine CallS.mk _ rfl true false _ (dA) rfl ?_
    repeat refine vs ?_
    conv => whnf
    refine ⟨i + 1, by omega, by omega, ?_⟩
    rw [show (n : Int) - (i + 1 : Nat) = n - i - 1 by omega]
    refine Wk.le ?_
    repeat' (first | exact LeT.nil | refine LeT.drop1 ?_ | refine LeT.same1 ?_ | refine LeT.own1 ?_ | refine LeT.ownR ?_)
  · have : i = n := by omega
    subst this
    repeat refine vs ?_
    conv => whnf
    first | rfl | exact ⟨rfl, rfl⟩ | exact ⟨by simp [toRes], rfl⟩

theorem cut_pw (m : Nat) : Lm.cut (List.replicate m 0 ++ [1]) = Lm.lim (Lm.pw m).natAbs := by
  have hd : Lm.Dig (List.replicate m 0 ++ [1]) := (Lm.Dig.replicate m).append (Lm.Dig.cons (by omega) (by omega) Lm.Dig.nil)
  have hv : Lm.val (List.replicate m 0 ++ [1]) = Lm.pw m := by rw [Lm.val_append, Lm.val_replicate, List.length_replicate, Lm.val_single]; omega
  have := Lm.pw_pos m
  rw [Lm.cut_eq hd, hv]
  congr 1
theorem pw_big (m : Nat) (hm : m ≤ 100000000) : D 127 [bP false, lP (List.replicate m 0 ++ [1])] true (.one (bigV (Lm.pw m))) := by
  have dB := bigOf_den false (List.replicate m 0 ++ [1]) (by simp; omega)
  rw [make_num' (cut_pw m)] at dB
  have := Lm.pw_pos m
  rw [show (if false = true then -((Lm.pw m).natAbs : Int) else (Lm.pw m).natAbs) = Lm.pw m by simp; omega] at dB
  exact dB
theorem bigV_zero : bigV 0 = rawV false [] := by
  show rawV (decide ((0 : Int) < 0)) (Lm.lim (0 : Int).natAbs) = _
  rw [show (0 : Int).natAbs = 0 from rfl, Lm.lim_zero]
  rfl
theorem rootOf_den (N r : Int) (hr : Lm.IsR N r) (hln : Lm.ln N ≤ 100000) : D 92 [bigV N] false (.one (bigV r)) := by
  have dS := sign_den N (by omega)
  have hN : 0 ≤ N := by have := hr.1; have := hr.le; omega
  by_cases h0 : N = 0
  · subst h0
    have : r = 0 := by have := hr.1; have := hr.le; omega
    subst this
    have e0 : cmpI (0 : Int) 0 = 0 := rfl
    have e1 : (.one (bigV 0) : Res) = .one (rawV false []) := by rw [bigV_zero]
    rw [e1]
    refine go Try.func92 rfl rfl ?_
    repeat refine vs ?_
    conv => whnf
    refine CallS.mk _ rfl true true _ (dS) rfl ?_
    repeat refine vs ?_
    conv => whnf
    first | rfl | exact ⟨rfl, rfl⟩ | exact ⟨by simp [toRes], rfl⟩
  · have e0 : cmpI N 0 ≠ 0 := by rcases cmpI_sgn N with h | h | h <;> omega
    have l2 : Lm.ln 2 ≤ 4 := ln64 (by omega) (by omega)
    refine go Try.func92 rfl rfl ?_
    repeat refine vs ?_
    conv => whnf
    refine CallS.mk _ rfl true true _ (dS) rfl ?_
    repeat refine vs ?_
    conv => whnf
    have hL : (Lm.lim N.natAbs).length ≤ 100000 := hln
    have hlt := (Lm.ln_le N _).1 (Nat.le_refl (Lm.ln N))
    generalize hLe : (Lm.lim N.natAbs).length = L at *
    have hLn : Lm.ln N = L := hLe
    rw [hLn] at hlt
    have hq : ((L : Int) + 1).tdiv 2 = (((L + 1) / 2 : Nat) : Int) := by rw [Int.tdiv_eq_ediv_of_nonneg (by omega)]; omega
    refine Wr.of64 (by omega) (by omega) ?_
    repeat refine vs ?_
    conv => whnf
    refine MakeK.mk ((L + 1) / 2) hq hq (by omega) true ?_
    repeat refine vs ?_
    conv => whnf
    refine NewK.mk false ?_
    repeat refine vs ?_
    conv => whnf
    refine CallS.mk _ rfl true false _ (pw_big ((L + 1) / 2) (by omega)) rfl ?_
    repeat refine vs ?_
    conv => whnf
    have hx0 := Lm.pw_pos ((L + 1) / 2)
    have hxx : N < (Lm.pw ((L + 1) / 2) + 1) * (Lm.pw ((L + 1) / 2) + 1) := by
      have h1 : Lm.pw L ≤ Lm.pw ((L + 1) / 2 + (L + 1) / 2) := Lm.pw_mono (by omega)
      rw [Lm.pw_add] at h1
      generalize Lm.pw ((L + 1) / 2) = x at *
      have : (x + 1) * (x + 1) = x * x + 2 * x + 1 := by grind
      omega
    have hxl : Lm.ln (Lm.pw ((L + 1) / 2)) ≤ 200000 := by
      refine Nat.le_trans ((Lm.ln_le _ ((L + 1) / 2 + 1)).2 ?_) (by omega)
      rw [Lm.pw_succ]
      omega
    refine EVs.loopU (fun x : Int => 0 < x ∧ N < (x + 1) * (x + 1) ∧ Lm.ln x ≤ 200000) (fun x => x.toNat) (fun x => [(3, .box (3, 0) [.p (.bool (decide (x < 0))), .p (.ints (Lm.lim x.natAbs))] 0)]) (Lm.pw ((L + 1) / 2)) ⟨hx0, hxx, hxl⟩ (Wk.refl _) ?_
    rintro x ⟨hx, hxN, hxl⟩
    refine go1 ?_
    have dD := div_den N x (by omega) (by omega) (by omega)
    have e1 : N.tdiv x = N / x := Int.tdiv_eq_ediv_of_nonneg hN
    rw [e1] at dD
    have hq0 : 0 ≤ N / x := Int.ediv_nonneg hN (by omega)
    have hql : Lm.ln (N / x) ≤ 100000 := Nat.le_trans (Lm.ln_mono (by rw [Int.natAbs_ediv_of_nonneg hN]; exact Nat.div_le_self _ _)) hln
    have dA := add_den x (N / x) (by omega) (by omega)
    have hsl : Lm.ln (x + N / x) ≤ 200001 := Lm.ln_add _ _ (by omega) (by omega)
    have d2 := bigOfI_den 2 (by omega) (by omega)
    have dE := div_den (x + N / x) 2 (by omega) (by omega) (by omega)
    have e2 : (x + N / x).tdiv 2 = (x + N / x) / 2 := Int.tdiv_eq_ediv_of_nonneg (by omega)
    rw [e2] at dE
    obtain ⟨n1, n2⟩ := Lm.newton (by omega : 0 < N) hx
    have hnl : Lm.ln ((x + N / x) / 2) ≤ 200001 := Nat.le_trans (Lm.ln_mono (by omega)) hsl
    have hend := Lm.newton_end (N := N) hx
    generalize N.tmod x = r1 at *
    generalize (x + N / x).tmod 2 = r2 at *
    generalize hnx : (x + N / x) / 2 = y at *
    generalize x + N / x = s at *
    generalize N / x = q at *
    have dC := compareBig_den y x (by omega) (by omega)
    repeat refine vs ?_
    conv => whnf
    refine CallS.mk _ rfl true false _ (dD) rfl ?_
    repeat refine vs ?_
    conv => whnf
    refine CallS.mk _ rfl true false _ (dA) rfl ?_
    repeat refine vs ?_
    conv => whnf
    refine CallS.mk _ rfl true false _ (d2) rfl ?_
    repeat refine vs ?_
    conv => whnf
    refine CallS.mk _ rfl true false _ (dE) rfl ?_
    repeat refine vs ?_
    conv => whnf
    refine CallS.mk _ rfl true false _ (dC) rfl ?_
    repeat refine vs ?_
    conv => whnf
    by_cases hc : x ≤ y
    · have hg : cmpI y x ≥ 0 := by unfold cmpI; split <;> (try split) <;> omega
      have : r = x := hr.uniq ⟨by omega, hend hc, hxN⟩
      subst this
      repeat refine vs ?_
      conv => whnf
      first | rfl | exact ⟨rfl, rfl⟩ | exact ⟨by simp [toRes], rfl⟩
    · have hg : ¬ cmpI y x ≥ 0 := by unfold cmpI; split <;> (try split) <;> omega
      repeat refine vs ?_
      conv => whnf
      refine ⟨y, by omega, ⟨n1, n2, Nat.le_trans (Lm.ln_mono (by omega)) hxl⟩, ?_⟩
      refine Wk.le ?_
      repeat' (first | exact LeT.nil | refine LeT.drop1 ?_ | refine LeT.same1 ?_ | refine LeT.own1 ?_ | refine LeT.ownR ?_)
theorem same_den (a b c d : Int) (hb : b ≠ 0) (hd : d ≠ 0) (ha : Lm.ln a ≤ 40000000000) (hbl : Lm.ln b ≤ 40000000000) (hc : Lm.ln c ≤ 40000000000) (hdl : Lm.ln d ≤ 40000000000) :
    D 94 [ratV a b, ratV c d] true (.one (bP (decide (a * d = c * b)))) := by
  have dC := compareRat_den a b c d hb hd ha hbl hc hdl
  have h : (cmpI (a * d) (c * b) = 0) ↔ a * d = c * b := by unfold cmpI; split <;> (try split) <;> omega
  refine go Try.func94 rfl rfl ?_
  by_cases h1 : a * d = c * b
  · have h2 := h.2 h1
    rw [decide_eq_true h1]
    repeat refine vs ?_
    conv => whnf
    refine CallS.mk _ rfl true true _ (dC) rfl ?_
    repeat refine vs ?_
    conv => whnf
    first | rfl | exact ⟨rfl, rfl⟩ | exact ⟨by simp [toRes], rfl⟩
  · have h2 := fun x => h1 (h.1 x)
    rw [decide_eq_false h1]
    repeat refine vs ?_
    conv => whnf
    refine CallS.mk _ rfl true true _ (dC) rfl ?_
    repeat refine vs ?_
    conv => whnf
    first | rfl | exact ⟨rfl, rfl⟩ | exact ⟨by simp [toRes], rfl⟩
end Go.Vx
