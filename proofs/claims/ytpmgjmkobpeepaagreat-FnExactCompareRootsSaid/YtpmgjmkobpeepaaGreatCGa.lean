/- C1, C2, C5 -/
import Derived.Test.YtpmgjmkobpeepaaGreatBGb
set_option linter.unusedVariables false
set_option linter.unusedSectionVars false
set_option linter.unusedSimpArgs false
section
/- The laws' own small functions: copies, comparisons, sizes. -/
namespace Go.Vx
open Go.Proofs
set_option maxRecDepth 100000

def szR (n : Int) (k : Nat) : Int := if n - (k : Int) < 0 then -1 else n - k

theorem szIntS_den (l : List Int) (n : Int) (hn : 0 ≤ n ∧ n ≤ 1000000000000) (hl : l.length ≤ 9223372036854775807) : D 98 [lP l, iP n] true (.one (iP (szR n l.length))) := by
 refine go Tryz.func98 rfl rfl ?_
 repeat refine vs ?_
 conv => whnf
 by_cases h : n - (l.length : Int) < 0
 ·repeat refine vs ?_
  conv => whnf
  exact ⟨by simp [toRes, szR, h], rfl⟩
 ·repeat refine vs ?_
  conv => whnf
  exact ⟨by simp [toRes, szR, h, PL.len], rfl⟩

theorem szBig_den (neg : Bool) (l : List Int) (n : Int) (hn : 0 ≤ n ∧ n ≤ 1000000000000) (hl : l.length ≤ 9223372036854775807) : D 46 [rawV neg l, iP n] true (.one (iP (szR n l.length))) := by
 refine go Tryz.func46 rfl rfl ?_
 repeat refine vs ?_
 conv => whnf
 refine CallS.mk _ rfl true true _ (szIntS_den l n hn hl) rfl ?_
 repeat refine vs ?_
 conv => whnf
 by_cases h : szR n l.length < 0
 ·repeat refine vs ?_
  conv => whnf
  have : szR n l.length = -1 := by
   unfold szR at h ⊢
   split at h
   ·rw [if_pos (by assumption)]
   ·omega
  exact ⟨by simp [toRes, this], rfl⟩
 ·repeat refine vs ?_
  conv => whnf
  first | rfl | exact ⟨rfl, rfl⟩ | exact ⟨by simp [toRes], rfl⟩

theorem toIntS_den (l : List Int) (hl : l.length ≤ 1000000000000) : D 106 [lP l] true (.one (lP l)) := by
 refine go Tryz.func106 rfl rfl ?_
 repeat refine vs ?_
 conv => whnf
 refine ⟨l.length, rfl, rfl, by omega, true, ?_⟩
 repeat refine vs ?_
 conv => whnf
 refine EVs.loopU (fun q : Nat × List Int => q.1 ≤ l.length ∧ q.2.length = l.length ∧ q.2.take q.1 = l.take q.1) (fun q => l.length - q.1)
  (fun | (i, m) => [(4, .v false [.p (.int .i64 (i : Int))]), (3, .v false [.own (7, 0) 3 (.ints m)]), (7, .any)]) (0, List.replicate l.length 0) ⟨by simp, by simp, by simp⟩ Wk.fg ?_
 rintro ⟨i, m⟩ ⟨hi, hm, ht⟩
 dsimp only at hi hm ht
 refine go1 ?_
 repeat refine vs ?_
 conv => whnf
 by_cases h1 : (i : Int) < l.length
 ·have hlt : i < l.length := by omega
  repeat refine vs ?_
  conv => whnf
  first | refine Idx.mk (i) (by first | rfl | omega) (by omega) ?_ | skip
  repeat refine vs ?_
  conv => whnf
  first | refine LdI.mk (l[i]) (List.getElem?_eq_getElem hlt) ?_ | skip
  repeat refine vs ?_
  conv => whnf
  first | refine Idx.mk (i) (by first | rfl | omega) (by omega) ?_ | skip
  repeat refine vs ?_
  conv => whnf
  refine ⟨(i + 1, m.set i l[i]), by simp; omega, ⟨by simp; omega, by simpa using hm, ?_⟩, ?_⟩
  ·simp only
   rw [List.take_add_one, List.take_add_one, List.take_set_of_le (Nat.le_refl _), ht]
   simp [hm, hlt]
  ·exact Wk.fg
 ·repeat refine vs ?_
  conv => whnf
  have : i = l.length := by omega
  subst this
  rw [List.take_of_length_le (by omega), List.take_length] at ht
  subst ht
  first | rfl | exact ⟨rfl, rfl⟩ | exact ⟨by simp [toRes], rfl⟩

theorem toBig_den (neg : Bool) (l : List Int) (hl : l.length ≤ 1000000000000) : D 54 [rawV neg l] true (.one (rawV neg l)) := by
 refine go Tryz.func54 rfl rfl ?_
 repeat refine vs ?_
 conv => whnf
 refine CallS.mk _ rfl true true _ (toIntS_den l hl) rfl ?_
 repeat refine vs ?_
 conv => whnf
 first | rfl | exact ⟨rfl, rfl⟩ | exact ⟨by simp [toRes], rfl⟩

theorem eqIntS_den (l m : List Int) (hl : l.length ≤ 1000000000000) (hm : m.length ≤ 1000000000000) : D 111 [lP l, lP m] true (.one (bP (decide (l = m)))) := by
 refine go Tryz.func111 rfl rfl ?_
 repeat refine vs ?_
 conv => whnf
 by_cases hn : (l.length : Int) ≠ m.length
 ·repeat refine vs ?_
  conv => whnf
  have : l ≠ m := fun e => hn (by rw [e])
  exact ⟨by simp [toRes, this], rfl⟩
 ·have hlm : l.length = m.length := by omega
  repeat refine vs ?_
  conv => whnf
  refine EVs.loopU (fun i : Nat => i ≤ l.length ∧ l.take i = m.take i) (fun i => l.length - i) (fun i => [(5, .v false [.p (.int .i64 (i : Int))])]) 0 ⟨by omega, by simp⟩ Wk.fg ?_
  rintro i ⟨hi, ht⟩
  refine go1 ?_
  repeat refine vs ?_
  conv => whnf
  by_cases h1 : (i : Int) < l.length
  ·have hlt : i < l.length := by omega
   have hlt2 : i < m.length := by omega
   repeat refine vs ?_
   conv => whnf
   first | refine Idx.mk (i) (by first | rfl | omega) (by omega) ?_ | skip
   repeat refine vs ?_
   conv => whnf
   first | refine LdI.mk (l[i]) (List.getElem?_eq_getElem hlt) ?_ | skip
   repeat refine vs ?_
   conv => whnf
   first | refine Idx.mk (i) (by first | rfl | omega) (by omega) ?_ | skip
   repeat refine vs ?_
   conv => whnf
   first | refine LdI.mk (m[i]) (List.getElem?_eq_getElem hlt2) ?_ | skip
   repeat refine vs ?_
   conv => whnf
   by_cases he : l[i] ≠ m[i]
   ·repeat refine vs ?_
    conv => whnf
    have : l ≠ m := fun e => he (by subst e; rfl)
    exact ⟨by simp [toRes, this], rfl⟩
   ·repeat refine vs ?_
    conv => whnf
    refine ⟨i + 1, by omega, ⟨by omega, ?_⟩, ?_⟩
    ·rw [List.take_add_one, List.take_add_one, ht, List.getElem?_eq_getElem hlt, List.getElem?_eq_getElem hlt2, Classical.not_not.1 he]
    ·exact Wk.fg
  ·repeat refine vs ?_
   conv => whnf
   have : i = l.length := by omega
   subst this
   rw [List.take_length, hlm, List.take_length] at ht
   exact ⟨by simp [toRes, ht], rfl⟩

theorem eqBig_den (n1 n2 : Bool) (l m : List Int) (hl : l.length ≤ 1000000000000) (hm : m.length ≤ 1000000000000) : D 57 [rawV n1 l, rawV n2 m] true (.one (bP (decide (n1 = n2 ∧ l = m)))) := by
 refine go Tryz.func57 rfl rfl ?_
 cases n1 <;> cases n2
 case false.true =>
  repeat refine vs ?_
  conv => whnf
  first | rfl | exact ⟨rfl, rfl⟩ | exact ⟨by simp [toRes], rfl⟩
 case true.false =>
  repeat refine vs ?_
  conv => whnf
  first | rfl | exact ⟨rfl, rfl⟩ | exact ⟨by simp [toRes], rfl⟩
 case false.false =>
  repeat refine vs ?_
  conv => whnf
  refine CallS.mk _ rfl true true _ (eqIntS_den l m hl hm) rfl ?_
  repeat refine vs ?_
  conv => whnf
  by_cases h : l = m
  ·rw [decide_eq_true h]
   repeat refine vs ?_
   conv => whnf
   exact ⟨by simp [toRes, h], rfl⟩
  ·rw [decide_eq_false h]
   repeat refine vs ?_
   conv => whnf
   exact ⟨by simp [toRes, h], rfl⟩
 case true.true =>
  repeat refine vs ?_
  conv => whnf
  refine CallS.mk _ rfl true true _ (eqIntS_den l m hl hm) rfl ?_
  repeat refine vs ?_
  conv => whnf
  by_cases h : l = m
  ·rw [decide_eq_true h]
   repeat refine vs ?_
   conv => whnf
   exact ⟨by simp [toRes, h], rfl⟩
  ·rw [decide_eq_false h]
   repeat refine vs ?_
   conv => whnf
   exact ⟨by simp [toRes, h], rfl⟩
end Go.Vx
end
section
/- Chapter 1: GoodBig and CompareBig as the laws ask. -/
namespace Go.Vx
open Go.Proofs
set_option maxRecDepth 100000

theorem good_ln {neg : Bool} {l : List Int} (h : Lm.Good neg l) : Lm.ln (Lm.num neg l) ≤ 40 := by
 obtain ⟨h1, h2⟩ := Lm.good_num h.1 h.2.2
 unfold Lm.ln
 rw [← h2]
 exact h.2.1

end Go.Vx
end
section
/- The laws' marks: arrays are filled with numbers that go up, and are looked at again. -/
namespace Go.Vx
open Go.Proofs
set_option maxRecDepth 100000

def ramp (k : Int) : Nat → List Int
 | 0 => []
 | n + 1 => k :: ramp (k + 1) n
theorem ramp_len {k : Int} {n : Nat} : (ramp k n).length = n := by
 induction n generalizing k with
 | zero => rfl
 | succ n ih => simp [ramp, ih]
theorem eqBig_rfl (n : Bool) (l : List Int) (hl : l.length ≤ 1000000000000) : D 57 [rawV n l, rawV n l] true (.one (bP true)) := by
 have := eqBig_den n n l l hl hl
 rwa [decide_eq_true ⟨rfl, rfl⟩] at this
theorem szR_two {n : Int} {k : Nat} (h0 : 0 ≤ n) (hn : n ≤ 1048576) (h : ¬ szR n k < 0) : k ≤ 1048576 ∧ szR n k = n - k ∧ 0 ≤ szR n k ∧ szR n k ≤ 1048576 := by
 unfold szR at h ⊢
 split at h
 ·omega
 ·rename_i h2
  rw [if_neg h2]
  omega
end Go.Vx
end
