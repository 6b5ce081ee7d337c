/- Chapter 3: powers of two, square roots rounded down, the interval of a root. -/
import Derived.Test.YtdgagbjmbddefaaGreatS3
import Derived.Test.YtdgagbjmbddefaaGreatR6
import Derived.Test.YtdgagbjmbddefaaGreatLr
set_option linter.unusedVariables false
set_option linter.unusedSectionVars false
set_option linter.unusedSimpArgs false
namespace Go.Vx
open Go.Proofs
set_option maxRecDepth 100000

theorem one_nd (x : Int) : nN x 1 = x ∧ dN x 1 = 1 := ⟨nN_one (by simp) (by omega), dN_one (by simp) (by omega)⟩
theorem ln_pow2 (n : Nat) : Lm.ln (Lm.pow2 n) ≤ n + 4 := by
  induction n with
  | zero => exact ln64 (by decide) (by decide)
  | succ n ih => exact Nat.le_trans (Lm.ln_add _ _ ih ih) (by omega)
theorem scaleOf_den (n : Nat) (hn : n ≤ 64) : D 23 [iP (n : Int)] false (.one (ratV (Lm.pow2 n) 1)) := by
  refine go Tryz.func23 rfl rfl ?_
  repeat refine vs ?_
  conv => whnf
  refine CallS.mk _ rfl true false _ (whole_den 1 (by omega) (by omega)) rfl ?_
  repeat refine vs ?_
  conv => whnf
  refine EVs.loopU (fun i : Nat => i ≤ n) (fun i => n - i) (fun i => [(3, .box (3, 0) [.p (.bool (decide (Lm.pow2 i < 0))), .p (.ints (Lm.lim (Lm.pow2 i).natAbs)), .p (.bool (decide ((1 : Int) < 0))), .p (.ints (Lm.lim (1 : Int).natAbs))] 0), (6, .v false [.p (.int .i64 (i : Int))])]) 0 (by omega) (Wk.refl _) ?_
  intro i hi
  refine go1 ?_
  repeat refine vs ?_
  conv => whnf
  by_cases h : (i : Int) < n
  · have l1 : Lm.ln 1 ≤ 4 := ln64 (by omega) (by omega)
    have lp := ln_pow2 i
    have dA := ratAdd_den (Lm.pow2 i) 1 (Lm.pow2 i) 1 (by omega) (by omega) (by omega) (by omega) (by omega) (by omega)
    rw [show addN (Lm.pow2 i) 1 (Lm.pow2 i) 1 = Lm.pow2 (i + 1) from by unfold addN; rw [Int.mul_one]; rfl, Int.mul_one, (one_nd _).1, (one_nd _).2] at dA
    repeat refine vs ?_
    conv => whnf
    refine CallS.mk _ rfl true false _ (dA) rfl ?_
    repeat refine vs ?_
    conv => whnf
    refine ⟨i + 1, by omega, by omega, ?_⟩
    refine Wk.le ?_
    repeat' (first | exact LeT.nil | refine LeT.drop1 ?_ | refine LeT.same1 ?_ | refine LeT.own1 ?_ | refine LeT.ownR ?_)
  · have : i = n := by omega
    subst this
    repeat refine vs ?_
    conv => whnf
    first | rfl | exact ⟨rfl, rfl⟩ | exact ⟨by simp [toRes], rfl⟩
theorem l3Power_den (z : Int) (h0 : 0 ≤ z) (hz : z ≤ 100000) : D 14 [iP z] false (.one (bigV (Lm.pow2 z.toNat))) := by
  obtain ⟨n, rfl⟩ := Int.eq_ofNat_of_zero_le h0
  rw [Int.toNat_natCast]
  refine go Tryz.func14 rfl rfl ?_
  repeat refine vs ?_
  conv => whnf
  refine CallS.mk _ rfl true false _ (bigOfS_den 1 (by omega) (by omega)) rfl ?_
  repeat refine vs ?_
  conv => whnf
  refine EVs.loopU (fun i : Nat => i ≤ n) (fun i => n - i) (fun i => [(0, .v false [.p (.int .i64 ((n : Int) - i))]), (3, .box (3, 0) [.p (.bool (decide (Lm.pow2 i < 0))), .p (.ints (Lm.lim (Lm.pow2 i).natAbs))] 0)]) 0 (by omega) ?_ ?_
  · rw [show (n : Int) - (0 : Nat) = n by omega]
    exact Wk.refl _
  intro i hi
  refine go1 ?_
  repeat refine vs ?_
  conv => whnf
  by_cases h : (n : Int) - i > 0
  · have lp := ln_pow2 i
    have dA := l1Add_den (Lm.pow2 i) (Lm.pow2 i) (by omega) (by omega)
    repeat refine vs ?_
    conv => whnf
    refine CallS.mk _ rfl true false _ (dA) rfl ?_
    repeat refine vs ?_
    conv => whnf
    refine ⟨i + 1, by omega, by omega, ?_⟩
    rw [show (n : Int) - (i + 1 : Nat) = n - i - 1 by omega]
    refine Wk.le ?_
    repeat' (first | exact LeT.nil | refine LeT.drop1 ?_ | refine LeT.same1 ?_ | refine LeT.own1 ?_ | refine LeT.ownR ?_)
  · have : i = n := by omega
    subst this
    repeat refine vs ?_
    conv => whnf
    first | rfl | exact ⟨rfl, rfl⟩ | exact ⟨by simp [toRes], rfl⟩

theorem cut_pw (m : Nat) : Lm.cut (List.replicate m 0 ++ [1]) = Lm.lim (Lm.pw m).natAbs := by
  have hd : Lm.Dig (List.replicate m 0 ++ [1]) := (Lm.Dig.replicate m).append (Lm.Dig.cons (by omega) (by omega) Lm.Dig.nil)
  have hv : Lm.val (List.replicate m 0 ++ [1]) = Lm.pw m := by rw [Lm.val_append, Lm.val_replicate, List.length_replicate, Lm.val_single]; omega
  have := Lm.pw_pos m
  rw [Lm.cut_eq hd, hv]
  congr 1
theorem pw_big (m : Nat) (hm : m ≤ 100000000) : D 49 [bP false, lP (List.replicate m 0 ++ [1])] true (.one (bigV (Lm.pw m))) := by
  have dB := bigOf_den false (List.replicate m 0 ++ [1]) (by simp; omega)
  rw [make_num' (cut_pw m)] at dB
  have := Lm.pw_pos m
  rw [show (if false = true then -((Lm.pw m).natAbs : Int) else (Lm.pw m).natAbs) = Lm.pw m by simp; omega] at dB
  exact dB
theorem bigV_zero : bigV 0 = rawV false [] := by
  show rawV (decide ((0 : Int) < 0)) (Lm.lim (0 : Int).natAbs) = _
  rw [show (0 : Int).natAbs = 0 from rfl, Lm.lim_zero]
  rfl
end Go.Vx
