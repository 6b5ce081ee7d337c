/- B4, B5, B6, B7 -/
import Derived.Test.YtpmgjmkobpeepaaGreatBGa
set_option linter.unusedVariables false
set_option linter.unusedSectionVars false
set_option linter.unusedSimpArgs false
section
/- Chapter 1: compared. -/
namespace Go.Vx
open Go.Proofs
set_option maxRecDepth 100000

theorem len_cmp {a b : List Int} (ha : Lm.Can a) (hb : Lm.Can b) (h : a.length < b.length) : cmpI (Lm.val a) (Lm.val b) = -1 ∧ cmpI (Lm.val b) (Lm.val a) = 1 := by
 have := Lm.can_lt_of_length ha hb h
 unfold cmpI
 constructor
 ·rw [if_pos this]
 ·rw [if_neg (by omega), if_pos this]

theorem l1Cmp_den (a b : List Int) (ha : Lm.Can a) (hb : Lm.Can b) (hla : a.length ≤ 1000000000000) (hlb : b.length ≤ 1000000000000) : D 101 [lP a, lP b] true (.one (iP (cmpI (Lm.val a) (Lm.val b)))) := by
 refine go Tryz.func101 rfl rfl ?_
 repeat refine vs ?_
 conv => whnf
 by_cases hl : (a.length : Int) = b.length
 ·have hl' : a.length = b.length := by omega
  have hn : ¬ ((a.length : Int) ≠ b.length) := by omega
  repeat refine vs ?_
  conv => whnf
  refine EVs.loopU (fun n : Nat => n ≤ a.length ∧ a.drop n = b.drop n) id (fun n => [(5, .v false [.p (.int .i64 ((n : Int) - 1))])]) a.length ⟨Nat.le_refl _, by rw [List.drop_length, hl', List.drop_length]⟩ (Wk.refl _) ?_
  rintro n ⟨hn, hd⟩
  refine go1 ?_
  repeat refine vs ?_
  conv => whnf
  by_cases h0 : n = 0
  ·subst h0
   have : a = b := by simpa using hd
   subst this
   repeat refine vs ?_
   conv => whnf
   exact ⟨by simp [toRes, cmpI], rfl⟩
  ·have e1 : n - 1 < a.length := by omega
   have e2 : n - 1 < b.length := by omega
   have hd2 : a.drop (n - 1 + 1) = b.drop (n - 1 + 1) := by rw [show n - 1 + 1 = n by omega]; exact hd
   repeat refine vs ?_
   conv => whnf
   first | refine Idx.mk ((n - 1)) (by first | rfl | omega) (by omega) ?_ | skip
   repeat refine vs ?_
   conv => whnf
   first | refine LdI.mk (_) (List.getElem?_eq_getElem e1) ?_ | skip
   repeat refine vs ?_
   conv => whnf
   first | refine Idx.mk ((n - 1)) (by first | rfl | omega) (by omega) ?_ | skip
   repeat refine vs ?_
   conv => whnf
   first | refine LdI.mk (_) (List.getElem?_eq_getElem e2) ?_ | skip
   repeat refine vs ?_
   conv => whnf
   by_cases h1 : a[n - 1] < b[n - 1]
   ·have := Lm.cmp_top ha.1 hb.1 e1 e2 hd2 h1
    repeat refine vs ?_
    conv => whnf
    exact ⟨by simp [toRes, cmpI, this], rfl⟩
   ·repeat refine vs ?_
    conv => whnf
    first | refine Idx.mk ((n - 1)) (by first | rfl | omega) (by omega) ?_ | skip
    repeat refine vs ?_
    conv => whnf
    first | refine LdI.mk (_) (List.getElem?_eq_getElem e1) ?_ | skip
    repeat refine vs ?_
    conv => whnf
    first | refine Idx.mk ((n - 1)) (by first | rfl | omega) (by omega) ?_ | skip
    repeat refine vs ?_
    conv => whnf
    first | refine LdI.mk (_) (List.getElem?_eq_getElem e2) ?_ | skip
    repeat refine vs ?_
    conv => whnf
    by_cases h2 : a[n - 1] > b[n - 1]
    ·have := Lm.cmp_top hb.1 ha.1 e2 e1 hd2.symm h2
     repeat refine vs ?_
     conv => whnf
     exact ⟨by simp [toRes, cmpI, this]; omega, rfl⟩
    ·repeat refine vs ?_
     conv => whnf
     refine ⟨n - 1, by simp; omega, ⟨by omega, ?_⟩, ?_⟩
     ·rw [← List.getElem_cons_drop e1, ← List.getElem_cons_drop e2, hd2, show a[n - 1] = b[n - 1] by omega]
     ·rw [show (((n - 1 : Nat)) : Int) = (n : Int) - 1 by omega]
      exact Wk.fg
 ·have hn : (a.length : Int) ≠ b.length := hl
  repeat refine vs ?_
  conv => whnf
  by_cases h1 : (a.length : Int) < b.length
  ·have := len_cmp ha hb (by omega)
   repeat refine vs ?_
   conv => whnf
   exact ⟨by simp [toRes, this], rfl⟩
  ·have := len_cmp hb ha (by omega)
   repeat refine vs ?_
   conv => whnf
   exact ⟨by simp [toRes, this], rfl⟩

theorem compareLimbs_den (a b : List Int) (ha : Lm.Can a) (hb : Lm.Can b) (hla : a.length ≤ 1000000000000) (hlb : b.length ≤ 1000000000000) : D 165 [lP a, lP b] true (.one (iP (cmpI (Lm.val a) (Lm.val b)))) := by
 refine go Tryz.func165 rfl rfl ?_
 repeat refine vs ?_
 conv => whnf
 by_cases hl : (a.length : Int) = b.length
 ·have hl' : a.length = b.length := by omega
  have hn : ¬ ((a.length : Int) ≠ b.length) := by omega
  repeat refine vs ?_
  conv => whnf
  refine EVs.loopU (fun n : Nat => n ≤ a.length ∧ a.drop n = b.drop n) id (fun n => [(5, .v false [.p (.int .i64 ((n : Int) - 1))])]) a.length ⟨Nat.le_refl _, by rw [List.drop_length, hl', List.drop_length]⟩ (Wk.refl _) ?_
  rintro n ⟨hn, hd⟩
  refine go1 ?_
  repeat refine vs ?_
  conv => whnf
  by_cases h0 : n = 0
  ·subst h0
   have : a = b := by simpa using hd
   subst this
   repeat refine vs ?_
   conv => whnf
   exact ⟨by simp [toRes, cmpI], rfl⟩
  ·have e1 : n - 1 < a.length := by omega
   have e2 : n - 1 < b.length := by omega
   have hd2 : a.drop (n - 1 + 1) = b.drop (n - 1 + 1) := by rw [show n - 1 + 1 = n by omega]; exact hd
   repeat refine vs ?_
   conv => whnf
   first | refine Idx.mk ((n - 1)) (by first | rfl | omega) (by omega) ?_ | skip
   repeat refine vs ?_
   conv => whnf
   first | refine LdI.mk (_) (List.getElem?_eq_getElem e1) ?_ | skip
   repeat refine vs ?_
   conv => whnf
   first | refine Idx.mk ((n - 1)) (by first | rfl | omega) (by omega) ?_ | skip
   repeat refine vs ?_
   conv => whnf
   first | refine LdI.mk (_) (List.getElem?_eq_getElem e2) ?_ | skip
   repeat refine vs ?_
   conv => whnf
   by_cases h1 : a[n - 1] ≠ b[n - 1]
   ·repeat refine vs ?_
    conv => whnf
    first | refine Idx.mk ((n - 1)) (by first | rfl | omega) (by omega) ?_ | skip
    repeat refine vs ?_
    conv => whnf
    first | refine LdI.mk (_) (List.getElem?_eq_getElem e1) ?_ | skip
    repeat refine vs ?_
    conv => whnf
    first | refine Idx.mk ((n - 1)) (by first | rfl | omega) (by omega) ?_ | skip
    repeat refine vs ?_
    conv => whnf
    first | refine LdI.mk (_) (List.getElem?_eq_getElem e2) ?_ | skip
    repeat refine vs ?_
    conv => whnf
    refine CallS.mk _ rfl true true _ (cmp_den a[n - 1] b[n - 1]) rfl ?_
    repeat refine vs ?_
    conv => whnf
    refine ⟨?_, rfl⟩
    by_cases h2 : a[n - 1] < b[n - 1]
    ·have := Lm.cmp_top ha.1 hb.1 e1 e2 hd2 h2
     simp [toRes, cmpI, this, h2]
    ·have h3 : b[n - 1] < a[n - 1] := by omega
     have := Lm.cmp_top hb.1 ha.1 e2 e1 hd2.symm h3
     simp [toRes, cmpI, this, h2, h3]
     omega
   ·repeat refine vs ?_
    conv => whnf
    refine ⟨n - 1, by simp; omega, ⟨by omega, ?_⟩, ?_⟩
    ·rw [← List.getElem_cons_drop e1, ← List.getElem_cons_drop e2, hd2, show a[n - 1] = b[n - 1] by omega]
    ·rw [show (((n - 1 : Nat)) : Int) = (n : Int) - 1 by omega]
     exact Wk.fg
 ·have hn : (a.length : Int) ≠ b.length := hl
  repeat refine vs ?_
  conv => whnf
  refine CallS.mk _ rfl true true _ (cmp_den a.length b.length) rfl ?_
  repeat refine vs ?_
  conv => whnf
  refine ⟨?_, rfl⟩
  by_cases h1 : (a.length : Int) < b.length
  ·have := len_cmp ha hb (by omega)
   have e : cmpI (a.length : Int) b.length = -1 := by unfold cmpI; rw [if_pos h1]
   rw [this.1, e]
   rfl
  ·have := len_cmp hb ha (by omega)
   have e : cmpI (a.length : Int) b.length = 1 := by unfold cmpI; rw [if_neg h1, if_pos (by omega)]
   rw [this.2, e]
   rfl

theorem cmpI_lim (x y : Nat) : cmpI (Lm.val (Lm.lim x)) (Lm.val (Lm.lim y)) = cmpI x y := by rw [Lm.val_lim, Lm.val_lim]

theorem cmpI_neg {x y : Int} (h1 : x < 0) (h2 : y < 0) : cmpI (y.natAbs : Int) x.natAbs = cmpI x y := by
 unfold cmpI
 split <;> split <;> (try split) <;> (try split) <;> omega
theorem cmpI_pos {x y : Int} (h1 : ¬ x < 0) (h2 : ¬ y < 0) : cmpI (x.natAbs : Int) y.natAbs = cmpI x y := by
 unfold cmpI
 split <;> split <;> (try split) <;> (try split) <;> omega
theorem cmpI_range (x y : Int) : -1 ≤ cmpI x y ∧ cmpI x y ≤ 1 := by
 unfold cmpI
 split <;> (try split) <;> omega
theorem l1CmpBig_den (x y : Int) (hx : Lm.ln x ≤ 1000000000000) (hy : Lm.ln y ≤ 1000000000000) : D 156 [bigV x, bigV y] true (.one (iP (cmpI x y))) := by
 refine go Tryz.func156 rfl rfl ?_
 by_cases h1 : x < 0
 ·by_cases h2 : y < 0
  ·simp only [bigV, rawV, h1, h2, decide_true, decide_false]
   repeat refine vs ?_
   conv => whnf
   refine CallS.mk _ rfl true true _ (l1Cmp_den _ _ (Lm.lim_can y.natAbs) (Lm.lim_can x.natAbs) hy hx) rfl ?_
   repeat refine vs ?_
   conv => whnf
   rw [cmpI_lim, cmpI_neg h1 h2]
   first | rfl | exact ⟨rfl, rfl⟩ | exact ⟨by simp [toRes], rfl⟩
  ·have e : cmpI x y = -1 := by unfold cmpI; rw [if_pos (by omega)]
   rw [e]
   simp only [bigV, rawV, h1, h2, decide_true, decide_false]
   repeat refine vs ?_
   conv => whnf
   first | rfl | exact ⟨rfl, rfl⟩ | exact ⟨by simp [toRes], rfl⟩
 ·by_cases h2 : y < 0
  ·have e : cmpI x y = 1 := by unfold cmpI; rw [if_neg (by omega), if_pos (by omega)]
   rw [e]
   simp only [bigV, rawV, h1, h2, decide_true, decide_false]
   repeat refine vs ?_
   conv => whnf
   first | rfl | exact ⟨rfl, rfl⟩ | exact ⟨by simp [toRes], rfl⟩
  ·simp only [bigV, rawV, h1, h2, decide_true, decide_false]
   repeat refine vs ?_
   conv => whnf
   refine CallS.mk _ rfl true true _ (l1Cmp_den _ _ (Lm.lim_can x.natAbs) (Lm.lim_can y.natAbs) hx hy) rfl ?_
   repeat refine vs ?_
   conv => whnf
   rw [cmpI_lim, cmpI_pos h1 h2]
   first | rfl | exact ⟨rfl, rfl⟩ | exact ⟨by simp [toRes], rfl⟩

theorem sign_den (x : Int) (hx : Lm.ln x ≤ 1000000000000) : D 153 [bigV x] true (.one (iP (cmpI x 0))) := by
 refine go Tryz.func153 rfl rfl ?_
 have hx' : (Lm.lim x.natAbs).length ≤ 1000000000000 := hx
 by_cases h0 : x = 0
 ·subst h0
  simp only [bigV, rawV]
  rw [show Lm.lim (Int.natAbs 0) = [] from Lm.lim_zero]
  repeat refine vs ?_
  conv => whnf
  first | rfl | exact ⟨rfl, rfl⟩ | exact ⟨by simp [toRes], rfl⟩
 ·have hpos : 0 < (Lm.lim x.natAbs).length := List.length_pos_iff.2 (fun e => h0 (Lm.lim_neg e))
  by_cases h1 : x < 0
  ·have e : cmpI x 0 = -1 := by unfold cmpI; rw [if_pos h1]
   rw [e]
   simp only [bigV, rawV, h1, decide_true, decide_false]
   repeat refine vs ?_
   conv => whnf
   first | rfl | exact ⟨rfl, rfl⟩ | exact ⟨by simp [toRes], rfl⟩
  ·have e : cmpI x 0 = 1 := by unfold cmpI; rw [if_neg h1, if_pos (by omega)]
   rw [e]
   simp only [bigV, rawV, h1, decide_true, decide_false]
   repeat refine vs ?_
   conv => whnf
   first | rfl | exact ⟨rfl, rfl⟩ | exact ⟨by simp [toRes], rfl⟩

theorem cmpI_sgn (x : Int) : (x < 0 ∧ cmpI x 0 = -1) ∨ (x = 0 ∧ cmpI x 0 = 0) ∨ (0 < x ∧ cmpI x 0 = 1) := by
 unfold cmpI
 split
 ·exact .inl ⟨by assumption, rfl⟩
 ·split
  ·exact .inr (.inr ⟨by assumption, rfl⟩)
  ·exact .inr (.inl ⟨by omega, rfl⟩)
theorem cmpI_diff {x y : Int} (h : cmpI x 0 ≠ cmpI y 0) : cmpI (cmpI x 0) (cmpI y 0) = cmpI x y := by
 rcases cmpI_sgn x with ⟨h1, e1⟩ | ⟨h1, e1⟩ | ⟨h1, e1⟩ <;> rcases cmpI_sgn y with ⟨h2, e2⟩ | ⟨h2, e2⟩ | ⟨h2, e2⟩ <;> rw [e1, e2] at h ⊢ <;> first | (exact absurd rfl h) | (unfold cmpI; split <;> split <;> (try split) <;> omega)
theorem cmpI_same {x y : Int} (h : cmpI x 0 = cmpI y 0) : cmpI x 0 * cmpI (x.natAbs : Int) (y.natAbs : Int) = cmpI x y := by
 rcases cmpI_sgn x with ⟨h1, e1⟩ | ⟨h1, e1⟩ | ⟨h1, e1⟩ <;> rcases cmpI_sgn y with ⟨h2, e2⟩ | ⟨h2, e2⟩ | ⟨h2, e2⟩ <;> rw [e1, e2] at h <;> first | omega | (rw [e1]; unfold cmpI; split <;> split <;> (try split) <;> (try split) <;> omega)
theorem compareBig_den (x y : Int) (hx : Lm.ln x ≤ 1000000000000) (hy : Lm.ln y ≤ 1000000000000) : D 136 [bigV x, bigV y] true (.one (iP (cmpI x y))) := by
 refine go Tryz.func136 rfl rfl ?_
 repeat refine vs ?_
 conv => whnf
 refine CallS.mk _ rfl true true _ (sign_den x hx) rfl ?_
 repeat refine vs ?_
 conv => whnf
 refine CallS.mk _ rfl true true _ (sign_den y hy) rfl ?_
 repeat refine vs ?_
 conv => whnf
 by_cases h : cmpI x 0 ≠ cmpI y 0
 ·repeat refine vs ?_
  conv => whnf
  refine CallS.mk _ rfl true true _ (sign_den x hx) rfl ?_
  repeat refine vs ?_
  conv => whnf
  refine CallS.mk _ rfl true true _ (sign_den y hy) rfl ?_
  repeat refine vs ?_
  conv => whnf
  refine CallS.mk _ rfl true true _ (cmp_den (cmpI x 0) (cmpI y 0)) rfl ?_
  repeat refine vs ?_
  conv => whnf
  rw [cmpI_diff h]
  first | rfl | exact ⟨rfl, rfl⟩ | exact ⟨by simp [toRes], rfl⟩
 ·repeat refine vs ?_
  conv => whnf
  refine CallS.mk _ rfl true true _ (sign_den x hx) rfl ?_
  repeat refine vs ?_
  conv => whnf
  refine CallS.mk _ rfl true true _ (compareLimbs_den _ _ (Lm.lim_can x.natAbs) (Lm.lim_can y.natAbs) hx hy) rfl ?_
  repeat refine vs ?_
  conv => whnf
  rw [cmpI_lim]
  have e := cmpI_same (Classical.not_not.1 h)
  refine ⟨cmpI x y, ?_, ?_⟩
  ·rw [e]
   have := cmpI_range x y
   exact wrap64 (by omega) (by omega)
  repeat refine vs ?_
  conv => whnf
  first | rfl | exact ⟨rfl, rfl⟩ | exact ⟨by simp [toRes], rfl⟩
end Go.Vx
end
section
/- Chapter 1: the Big of an int. -/
namespace Go.Vx
open Go.Proofs
set_option maxRecDepth 100000

theorem bigOfS_den (n : Int) (h1 : -9223372036854775808 ≤ n) (h2 : n ≤ 9223372036854775807) : D 105 [iP n] true (.one (bigV n)) := by
 refine go Tryz.func105 rfl rfl ?_
 repeat refine vs ?_
 conv => whnf
 refine EVs.loopU (fun q : Int × List Int => q.2 ++ Lm.lim q.1.natAbs = Lm.lim n.natAbs ∧ q.1.natAbs ≤ n.natAbs ∧ (n < 0 → q.1 ≤ 0) ∧ (0 ≤ n → 0 ≤ q.1)) (fun q => q.1.natAbs)
  (fun | (m, l) => [(4, .v false [.p (.int .i64 m)]), (3, .v false [.own (1000020, 0) 3 (.ints l)])]) (n, []) ⟨rfl, Nat.le_refl _, by omega, by omega⟩ Wk.fg ?_
 rintro ⟨m, l⟩ ⟨hd, hle, hn, hp⟩
 dsimp only at hd hle hn hp
 have hlen : l.length ≤ 4 := by
  have e := congrArg List.length hd
  rw [List.length_append] at e
  have := Lm.lim64 (n := n.natAbs) (by omega)
  omega
 refine go1 ?_
 repeat refine vs ?_
 conv => whnf
 by_cases h0 : m ≠ 0
 ·have hq : (m.tdiv 65536).natAbs = m.natAbs / 65536 := by rw [Int.natAbs_tdiv]; rfl
  have hr : (m.tmod 65536).natAbs = m.natAbs % 65536 := by rw [Int.natAbs_tmod]; rfl
  have hs := Lm.lim_step hd (by omega)
  have hq0 : n < 0 → m.tdiv 65536 ≤ 0 := fun h => by have := Int.tdiv_nonneg (a := -m) (b := 65536) (by have := hn h; omega) (by omega); rw [Int.neg_tdiv] at this; omega
  have hq1 : 0 ≤ n → 0 ≤ m.tdiv 65536 := fun h => Int.tdiv_nonneg (hp h) (by omega)
  repeat refine vs ?_
  conv => whnf
  refine Eqz.mk _ rfl ?_
  repeat refine vs ?_
  conv => whnf
  by_cases hx : m.tmod 65536 < 0
  ·repeat refine vs ?_
   conv => whnf
   refine NewK.mk false ?_
   repeat refine vs ?_
   conv => whnf
   refine ⟨(m.tdiv 65536, l ++ [-(m.tmod 65536)]), by simp only; omega, ⟨?_, by simp only; omega, hq0, hq1⟩, ?_⟩
   ·simp only
    rw [hq, show -(m.tmod 65536) = ((m.natAbs % 65536 : Nat) : Int) by omega]
    exact hs
   ·exact Wk.fg
  ·repeat refine vs ?_
   conv => whnf
   refine NewK.mk false ?_
   repeat refine vs ?_
   conv => whnf
   refine ⟨(m.tdiv 65536, l ++ [m.tmod 65536]), by simp only; omega, ⟨?_, by simp only; omega, hq0, hq1⟩, ?_⟩
   ·simp only
    rw [hq, show m.tmod 65536 = ((m.natAbs % 65536 : Nat) : Int) by omega]
    exact hs
   ·exact Wk.fg
 ·have hm0 : m = 0 := by omega
  subst hm0
  have hl : l = Lm.lim n.natAbs := by rw [← hd]; simp [Lm.lim_zero]
  subst hl
  repeat refine vs ?_
  conv => whnf
  have d := fun b => l1Make_den b (Lm.lim n.natAbs) (by omega)
  rw [Lm.cut_lim] at d
  by_cases hneg : n < 0
  ·repeat refine vs ?_
   conv => whnf
   refine CallS.mk _ rfl true true _ (d true) rfl ?_
   repeat refine vs ?_
   conv => whnf
   have : Lm.lim n.natAbs ≠ [] := fun e => by have := Lm.lim_neg e; omega
   exact ⟨by simp [toRes, hneg, this], rfl⟩
  ·repeat refine vs ?_
   conv => whnf
   refine CallS.mk _ rfl true true _ (d false) rfl ?_
   repeat refine vs ?_
   conv => whnf
   exact ⟨by simp [toRes, hneg], rfl⟩

theorem wrapU_neg {n : Int} (h1 : -9223372036854775808 ≤ n) (h2 : n < 0) : IntKind.u64.wrap n = n + 18446744073709551616 := by
 rw [IntKind.wrap_u64]
 omega
theorem wrapU_neg2 {n : Int} (h1 : -9223372036854775808 ≤ n) (h2 : n < 0) : IntKind.u64.wrap (-(n + 18446744073709551616)) = -n := by
 rw [IntKind.wrap_u64]
 omega

theorem bigOfI_den (n : Int) (h1 : -9223372036854775808 ≤ n) (h2 : n ≤ 9223372036854775807) : D 145 [iP n] true (.one (bigV n)) := by
 refine go Tryz.func145 rfl rfl ?_
 by_cases hneg : n < 0
 ·repeat refine vs ?_
  conv => whnf
  refine Wr.mk _ (wrapU_neg h1 hneg) ?_
  repeat refine vs ?_
  conv => whnf
  refine Wr.mk _ (wrapU_neg2 h1 hneg) ?_
  repeat refine vs ?_
  conv => whnf
  refine NewK.mk true ?_
  repeat refine vs ?_
  conv => whnf
  refine EVs.loopU (fun q : Int × List Int => q.2 ++ Lm.lim q.1.natAbs = Lm.lim n.natAbs ∧ 0 ≤ q.1 ∧ q.1 ≤ 9223372036854775808) (fun q => q.1.natAbs)
   (fun | (m, l) => [(4, .v false [.p (.int .u64 m)]), (5, .v false [.own (13, 0) 3 (.ints l)]), (13, .any)]) (-n, []) ⟨by simp, by simp only; omega, by simp only; omega⟩ Wk.fg ?_
  rintro ⟨m, l⟩ ⟨hd, hm0, hm1⟩
  dsimp only at hd hm0 hm1
  have hlen : l.length ≤ 4 := by
   have e := congrArg List.length hd
   rw [List.length_append] at e
   have := Lm.lim64 (n := n.natAbs) (by omega)
   omega
  refine go1 ?_
  repeat refine vs ?_
  conv => whnf
  by_cases h0 : m > 0
  ·have hq : (m.tdiv 65536).natAbs = m.natAbs / 65536 := by rw [Int.natAbs_tdiv]; rfl
   have hr : (m.tmod 65536).natAbs = m.natAbs % 65536 := by rw [Int.natAbs_tmod]; rfl
   have hs := Lm.lim_step hd (by omega)
   have hq0 := Int.tdiv_nonneg (a := m) (b := 65536) hm0 (by omega)
   have hr0 := Int.tmod_nonneg (a := m) 65536 hm0
   repeat refine vs ?_
   conv => whnf
   refine Eqz.mk _ rfl ?_
   repeat refine vs ?_
   conv => whnf
   refine NewK.mk false ?_
   repeat refine vs ?_
   conv => whnf
   refine ⟨(m.tdiv 65536, l ++ [m.tmod 65536]), by simp only; omega, ⟨?_, by simp only; omega, by simp only; omega⟩, ?_⟩
   ·simp only
    rw [hq, show m.tmod 65536 = ((m.natAbs % 65536 : Nat) : Int) by omega]
    exact hs
   ·exact Wk.fg
  ·have hm0 : m = 0 := by omega
   subst hm0
   have hl : l = Lm.lim n.natAbs := by rw [← hd]; simp [Lm.lim_zero]
   subst hl
   repeat refine vs ?_
   conv => whnf
   exact ⟨by simp [toRes, hneg], rfl⟩
 ·repeat refine vs ?_
  conv => whnf
  refine NewK.mk true ?_
  repeat refine vs ?_
  conv => whnf
  refine EVs.loopU (fun q : Int × List Int => q.2 ++ Lm.lim q.1.natAbs = Lm.lim n.natAbs ∧ 0 ≤ q.1 ∧ q.1 ≤ 9223372036854775808) (fun q => q.1.natAbs)
   (fun | (m, l) => [(4, .v false [.p (.int .u64 m)]), (5, .v false [.own (13, 0) 3 (.ints l)]), (13, .any)]) (n, []) ⟨by simp, by simp only; omega, by simp only; omega⟩ Wk.fg ?_
  rintro ⟨m, l⟩ ⟨hd, hm0, hm1⟩
  dsimp only at hd hm0 hm1
  have hlen : l.length ≤ 4 := by
   have e := congrArg List.length hd
   rw [List.length_append] at e
   have := Lm.lim64 (n := n.natAbs) (by omega)
   omega
  refine go1 ?_
  repeat refine vs ?_
  conv => whnf
  by_cases h0 : m > 0
  ·have hq : (m.tdiv 65536).natAbs = m.natAbs / 65536 := by rw [Int.natAbs_tdiv]; rfl
   have hr : (m.tmod 65536).natAbs = m.natAbs % 65536 := by rw [Int.natAbs_tmod]; rfl
   have hs := Lm.lim_step hd (by omega)
   have hq0 := Int.tdiv_nonneg (a := m) (b := 65536) hm0 (by omega)
   have hr0 := Int.tmod_nonneg (a := m) 65536 hm0
   repeat refine vs ?_
   conv => whnf
   refine Eqz.mk _ rfl ?_
   repeat refine vs ?_
   conv => whnf
   refine NewK.mk false ?_
   repeat refine vs ?_
   conv => whnf
   refine ⟨(m.tdiv 65536, l ++ [m.tmod 65536]), by simp only; omega, ⟨?_, by simp only; omega, by simp only; omega⟩, ?_⟩
   ·simp only
    rw [hq, show m.tmod 65536 = ((m.natAbs % 65536 : Nat) : Int) by omega]
    exact hs
   ·exact Wk.fg
  ·have hm0 : m = 0 := by omega
   subst hm0
   have hl : l = Lm.lim n.natAbs := by rw [← hd]; simp [Lm.lim_zero]
   subst hl
   repeat refine vs ?_
   conv => whnf
   exact ⟨by simp [toRes, hneg], rfl⟩
end Go.Vx
end
section
/- Chapter 1: signs turned; results that are not too long. -/
namespace Go.Vx
open Go.Proofs
set_option maxRecDepth 100000

theorem make_num (b : Bool) (n : Nat) : rawV (b && decide (Lm.cut (Lm.lim n) ≠ [])) (Lm.cut (Lm.lim n)) = bigV (if b then -(n : Int) else n) := by
 rw [Lm.cut_lim]
 unfold bigV
 have e : (if b then -(n : Int) else n).natAbs = n := by cases b <;> simp
 rw [e]
 congr 3
 by_cases h : n = 0
 ·subst h
  cases b <;> simp [Lm.lim_zero]
 ·have : Lm.lim n ≠ [] := fun e => h (Lm.lim_eq_nil.1 e)
  cases b
  ·simp
  ·simp [this]
   omega

theorem l1Neg_den (x : Int) (hx : Lm.ln x ≤ 1000000000000) : D 167 [bigV x] true (.one (bigV (-x))) := by
 refine go Tryz.func167 rfl rfl ?_
 repeat refine vs ?_
 conv => whnf
 refine Bo.mk _ rfl ?_
 repeat refine vs ?_
 conv => whnf
 have d := l1Make_den (!decide (x < 0)) (Lm.lim x.natAbs) hx
 rw [make_num] at d
 have e : (if (!decide (x < 0)) = true then -((x.natAbs : Nat) : Int) else (x.natAbs : Int)) = -x := by
  by_cases h : x < 0
  ·simp [h]; omega
  ·simp [h]; omega
 rw [e] at d
 refine CallS.mk _ rfl true true _ (d) rfl ?_
 repeat refine vs ?_
 conv => whnf
 first | rfl | exact ⟨rfl, rfl⟩ | exact ⟨by simp [toRes], rfl⟩

theorem neg_den (x : Int) (hx : Lm.ln x ≤ 1000000000000) : D 160 [bigV x] true (.one (bigV (-x))) := by
 refine go Tryz.func160 rfl rfl ?_
 repeat refine vs ?_
 conv => whnf
 refine Bo.mk _ rfl ?_
 repeat refine vs ?_
 conv => whnf
 have d := bigOf_den (!decide (x < 0)) (Lm.lim x.natAbs) hx
 rw [make_num] at d
 have e : (if (!decide (x < 0)) = true then -((x.natAbs : Nat) : Int) else (x.natAbs : Int)) = -x := by
  by_cases h : x < 0
  ·simp [h]; omega
  ·simp [h]; omega
 rw [e] at d
 refine CallS.mk _ rfl true true _ (d) rfl ?_
 repeat refine vs ?_
 conv => whnf
 first | rfl | exact ⟨rfl, rfl⟩ | exact ⟨by simp [toRes], rfl⟩
end Go.Vx
end
