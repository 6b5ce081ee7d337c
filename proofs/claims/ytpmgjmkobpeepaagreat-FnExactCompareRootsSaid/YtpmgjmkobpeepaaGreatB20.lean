/- Chapter 1: quotients, remainders, greatest common divisors. -/
import Derived.Test.YtpmgjmkobpeepaaGreatB19
set_option linter.unusedVariables false
set_option linter.unusedSectionVars false
set_option linter.unusedSimpArgs false
namespace Go.Vx
open Go.Proofs
set_option maxRecDepth 100000

theorem tdiv_sign (x y : Int) : x.tdiv y = (if (decide (x < 0) != decide (y < 0)) then -((x.natAbs / y.natAbs : Nat) : Int) else ((x.natAbs / y.natAbs : Nat) : Int)) := by
 rw [Int.natCast_ediv, ← Int.tdiv_eq_ediv_of_nonneg (show (0 : Int) ≤ (x.natAbs : Int) by omega)]
 by_cases h1 : x < 0 <;> by_cases h2 : y < 0
 ·rw [show (x.natAbs : Int) = -x by omega, show (y.natAbs : Int) = -y by omega]; simp [h1, h2, Int.neg_tdiv, Int.tdiv_neg]
 ·rw [show (x.natAbs : Int) = -x by omega, show (y.natAbs : Int) = y by omega]; simp [h1, h2, Int.neg_tdiv]
 ·rw [show (x.natAbs : Int) = x by omega, show (y.natAbs : Int) = -y by omega]; simp [h1, h2, Int.tdiv_neg]
 ·rw [show (x.natAbs : Int) = x by omega, show (y.natAbs : Int) = y by omega]; simp [h1, h2]
theorem tmod_sign (x y : Int) : x.tmod y = (if decide (x < 0) then -((x.natAbs % y.natAbs : Nat) : Int) else ((x.natAbs % y.natAbs : Nat) : Int)) := by
 rw [Int.natCast_emod, ← Int.tmod_eq_emod_of_nonneg (show (0 : Int) ≤ (x.natAbs : Int) by omega)]
 by_cases h1 : x < 0 <;> by_cases h2 : y < 0
 ·rw [show (x.natAbs : Int) = -x by omega, show (y.natAbs : Int) = -y by omega]; simp [h1]
 ·rw [show (x.natAbs : Int) = -x by omega, show (y.natAbs : Int) = y by omega]; simp [h1]
 ·rw [show (x.natAbs : Int) = x by omega, show (y.natAbs : Int) = -y by omega]; simp [h1]
 ·rw [show (x.natAbs : Int) = x by omega, show (y.natAbs : Int) = y by omega]; simp [h1]

theorem l1Div_den (x y : Int) (hy0 : y ≠ 0) (hx : Lm.ln x ≤ 100000000000) (hy : Lm.ln y ≤ 100000000000) : D 166 [bigV x, bigV y] true (.tup [bigV (x.tdiv y), bigV (x.tmod y)]) := by
 have h1 : (Lm.lim x.natAbs).length ≤ 100000000000 := hx
 have h2 : (Lm.lim y.natAbs).length ≤ 100000000000 := hy
 have dD := l1DivLimbs_den x.natAbs y.natAbs (by omega) (by omega) (by omega)
 have dQ := l1Make_den (decide (x < 0) != decide (y < 0)) (Lm.lim (x.natAbs / y.natAbs)) (by have := lim_le (Nat.div_le_self x.natAbs y.natAbs); omega)
 rw [make_num, ← tdiv_sign] at dQ
 have dR := l1Make_den (decide (x < 0)) (Lm.lim (x.natAbs % y.natAbs)) (by have := lim_le (Nat.mod_le x.natAbs y.natAbs); omega)
 rw [make_num, ← tmod_sign] at dR
 refine go Tryz.func166 rfl rfl ?_
 repeat refine vs ?_
 conv => whnf
 refine CallS.mk _ rfl true true _ (dD) rfl ?_
 repeat refine vs ?_
 conv => whnf
 refine Bo.mk _ rfl ?_
 repeat refine vs ?_
 conv => whnf
 refine CallS.mk _ rfl true true _ (dQ) rfl ?_
 repeat refine vs ?_
 conv => whnf
 refine CallS.mk _ rfl true true _ (dR) rfl ?_
 repeat refine vs ?_
 conv => whnf
 first | rfl | exact ⟨rfl, rfl⟩ | exact ⟨by simp [toRes], rfl⟩
theorem div_den (x y : Int) (hy0 : y ≠ 0) (hx : Lm.ln x ≤ 100000000000) (hy : Lm.ln y ≤ 100000000000) : D 172 [bigV x, bigV y] true (.tup [bigV (x.tdiv y), bigV (x.tmod y)]) := by
 have h1 : (Lm.lim x.natAbs).length ≤ 100000000000 := hx
 have h2 : (Lm.lim y.natAbs).length ≤ 100000000000 := hy
 have dD := divLimbs_den x.natAbs y.natAbs (by omega) (by omega) (by omega)
 have dQ := bigOf_den (decide (x < 0) != decide (y < 0)) (Lm.lim (x.natAbs / y.natAbs)) (by have := lim_le (Nat.div_le_self x.natAbs y.natAbs); omega)
 rw [make_num, ← tdiv_sign] at dQ
 have dR := bigOf_den (decide (x < 0)) (Lm.lim (x.natAbs % y.natAbs)) (by have := lim_le (Nat.mod_le x.natAbs y.natAbs); omega)
 rw [make_num, ← tmod_sign] at dR
 refine go Tryz.func172 rfl rfl ?_
 repeat refine vs ?_
 conv => whnf
 refine CallS.mk _ rfl false false _ (dD) rfl ?_
 repeat refine vs ?_
 conv => whnf
 refine Bo.mk _ rfl ?_
 repeat refine vs ?_
 conv => whnf
 refine CallS.mk _ rfl true true _ (dQ) rfl ?_
 repeat refine vs ?_
 conv => whnf
 refine CallS.mk _ rfl true true _ (dR) rfl ?_
 repeat refine vs ?_
 conv => whnf
 first | rfl | exact ⟨rfl, rfl⟩ | exact ⟨by simp [toRes], rfl⟩

theorem l1Gcd_den (m n : Nat) (hm : (Lm.lim m).length ≤ 100000000000) (hn : (Lm.lim n).length ≤ 100000000000) : D 102 [lP (Lm.lim m), lP (Lm.lim n)] true (.one (lP (Lm.lim (Nat.gcd m n)))) := by
 refine go Tryz.func102 rfl rfl ?_
 repeat refine vs ?_
 conv => whnf
 refine EVs.loopU (fun q : Nat × Nat => Nat.gcd q.1 q.2 = Nat.gcd m n ∧ (Lm.lim q.1).length ≤ 100000000000 ∧ (Lm.lim q.2).length ≤ 100000000000) (fun q => q.2)
  (fun | (a, b) => [(0, .v false [.p (.ints (Lm.lim a))]), (1, .v false [.p (.ints (Lm.lim b))])]) (m, n) ⟨rfl, hm, hn⟩ Wk.fg ?_
 rintro ⟨a, b⟩ ⟨hg, ha, hb⟩
 dsimp only at hg ha hb
 refine go1 ?_
 repeat refine vs ?_
 conv => whnf
 by_cases c : b = 0
 ·subst c
  have e : ¬ ((Lm.lim 0).length : Int) > 0 := by rw [Lm.lim_zero]; simp
  have dC := l1Cut_den (Lm.lim a) (by omega)
  rw [Lm.cut_lim, show a = Nat.gcd m n by rw [← hg]; simp] at dC
  rw [Nat.gcd_zero_right] at hg
  subst hg
  repeat refine vs ?_
  conv => whnf
  refine CallS.mk _ rfl true true _ (dC) rfl ?_
  repeat refine vs ?_
  conv => whnf
  first | rfl | exact ⟨rfl, rfl⟩ | exact ⟨by simp [toRes], rfl⟩
 ·have e : ((Lm.lim b).length : Int) > 0 := by
   have := List.length_pos_iff.2 (fun h => c (Lm.lim_eq_nil.1 h) : Lm.lim b ≠ [])
   omega
  have dD := l1DivLimbs_den a b c (by omega) (by omega)
  repeat refine vs ?_
  conv => whnf
  refine CallS.mk _ rfl true false _ (dD) rfl ?_
  repeat refine vs ?_
  conv => whnf
  refine ⟨(b, a % b), Nat.mod_lt _ (by omega), ⟨by simp only; rw [← hg, Nat.gcd_comm b, ← Nat.gcd_rec, Nat.gcd_comm], hb, by have := lim_le (Nat.le_of_lt (Nat.mod_lt a (show 0 < b by omega))); simp only; omega⟩, ?_⟩
  exact Wk.fg

theorem gcd_den (x y : Int) (hx : Lm.ln x ≤ 100000000000) (hy : Lm.ln y ≤ 100000000000) : D 154 [bigV x, bigV y] true (.one (bigV (Int.gcd x y))) := by
 refine go Tryz.func154 rfl rfl ?_
 repeat refine vs ?_
 conv => whnf
 refine EVs.loopU (fun q : Nat × Nat => Nat.gcd q.1 q.2 = Int.gcd x y ∧ (Lm.lim q.1).length ≤ 100000000000 ∧ (Lm.lim q.2).length ≤ 100000000000) (fun q => q.2)
  (fun | (a, b) => [(5, .v false [.p (.ints (Lm.lim a))]), (6, .v false [.p (.ints (Lm.lim b))])]) (x.natAbs, y.natAbs) ⟨rfl, hx, hy⟩ Wk.fg ?_
 rintro ⟨a, b⟩ ⟨hg, ha, hb⟩
 dsimp only at hg ha hb
 refine go1 ?_
 repeat refine vs ?_
 conv => whnf
 by_cases c : b = 0
 ·subst c
  have e : ¬ ((Lm.lim 0).length : Int) > 0 := by rw [Lm.lim_zero]; simp
  rw [Nat.gcd_zero_right] at hg
  have dC := bigOf_den false (Lm.lim a) (by omega)
  rw [make_num, hg] at dC
  rw [hg]
  simp only [Bool.false_eq_true, if_false] at dC
  repeat refine vs ?_
  conv => whnf
  refine CallS.mk _ rfl true true _ (dC) rfl ?_
  repeat refine vs ?_
  conv => whnf
  first | rfl | exact ⟨rfl, rfl⟩ | exact ⟨by simp [toRes], rfl⟩
 ·have e : ((Lm.lim b).length : Int) > 0 := by
   have := List.length_pos_iff.2 (fun h => c (Lm.lim_eq_nil.1 h) : Lm.lim b ≠ [])
   omega
  have dD := divLimbs_den a b c (by omega) (by omega)
  repeat refine vs ?_
  conv => whnf
  refine CallS.mk _ rfl false false _ (dD) rfl ?_
  repeat refine vs ?_
  conv => whnf
  refine ⟨(b, a % b), Nat.mod_lt _ (by omega), ⟨by simp only; rw [← hg, Nat.gcd_comm b, ← Nat.gcd_rec, Nat.gcd_comm], hb, by have := lim_le (Nat.le_of_lt (Nat.mod_lt a (show 0 < b by omega))); simp only; omega⟩, ?_⟩
  exact Wk.fg
end Go.Vx
