/- The laws' marks: arrays are filled with numbers that go up, and are looked at again. -/
import Derived.Test.YtiaobnkihhnmhaaC1
namespace Go.Vx
open Go.Proofs
set_option maxRecDepth 100000

def ramp (k : Int) : Nat → List Int
  | 0 => []
  | n + 1 => k :: ramp (k + 1) n
theorem ramp_len {k : Int} {n : Nat} : (ramp k n).length = n := by
  induction n generalizing k with
  | zero => rfl
  | succ n ih => simp [ramp, ih]
theorem ramp_get {k : Int} {n i : Nat} (h : i < n) : (ramp k n)[i]? = some (k + i) := by
  induction n generalizing k i with
  | zero => omega
  | succ n ih =>
    cases i with
    | zero => simp [ramp]
    | succ i =>
      simp only [ramp, List.getElem?_cons_succ]
      rw [ih (by omega)]
      congr 1
      omega
theorem ramp_take {k : Int} {n i : Nat} (h : i ≤ n) : (ramp k n).take i = ramp k i := by
  apply List.ext_getElem?
  intro j
  rw [List.getElem?_take]
  by_cases hj : j < i
  · rw [if_pos hj, ramp_get (by omega), ramp_get hj]
  · rw [if_neg hj, List.getElem?_eq_none (by rw [ramp_len]; omega)]

theorem markIntS_m (l : List Int) (k : Int) (hk : 0 ≤ k ∧ k ≤ 100000000) (hl : l.length ≤ 2000000) : Dm 46 [lP l, iP k] [lP (ramp k l.length), iP k] (.one (rI (k + l.length))) := by
  refine goM Try.func46 rfl rfl ?_
  repeat refine vs ?_
  conv => whnf
  refine EVs.loopU (fun q : Nat × Int × List Int => q.1 ≤ l.length ∧ q.2.1 = k + q.1 ∧ q.2.2.length = l.length ∧ q.2.2.take q.1 = ramp k q.1) (fun q => l.length - q.1)
    (fun | (i, kk, m) => [(5, .v false [.p (.int .i64 (i : Int))]), (1, .v false [.p (.int .i64 kk)]), (0, .v false [.own (2000000, 0) 3 (.ints m)])]) (0, k, l) ⟨by simp, by simp, by simp, by simp [ramp]⟩ (Wk.le (by repeat' (first | exact LeT.nil | refine LeT.drop1 ?_ | refine LeT.same1 ?_ | refine LeT.own1 ?_ | refine LeT.ownR ?_))) ?_
  rintro ⟨i, kk, m⟩ ⟨hi, hkk, hm, ht⟩
  dsimp only at hi hkk hm ht
  refine go1 ?_
  repeat refine vs ?_
  conv => whnf
  by_cases h1 : (i : Int) < m.length
  · have hlt : i < l.length := by omega
    repeat refine vs ?_
    conv => whnf
    first | refine Idx.mk (i) (by first | rfl | omega) (by omega) ?_ | skip
    repeat refine vs ?_
    conv => whnf
    refine ⟨(i + 1, kk + 1, m.set i kk), by simp; omega, ⟨by simp; omega, by simp only; omega, by simpa using hm, ?_⟩, ?_⟩
    · simp only
      subst hkk
      rw [List.take_add_one, List.take_set_of_le (Nat.le_refl _), ht]
      have : ramp k (i + 1) = (ramp k (i + 1)).take i ++ ((ramp k (i + 1)).drop i) := (List.take_append_drop _ _).symm
      rw [this, ramp_take (by omega)]
      congr 1
      apply List.ext_getElem?
      intro j
      rw [List.getElem?_drop]
      cases j with
      | zero => rw [Nat.add_zero, ramp_get (by omega)]; simp [hm, hlt]
      | succ j => rw [List.getElem?_eq_none (by simp [hm, hlt]), List.getElem?_eq_none (by rw [ramp_len]; omega)]
    · refine Wk.le ?_
      repeat' (first | exact LeT.nil | refine LeT.drop1 ?_ | refine LeT.same1 ?_ | refine LeT.own1 ?_ | refine LeT.ownR ?_)
  · repeat refine vs ?_
    conv => whnf
    have : i = l.length := by omega
    subst this
    rw [List.take_of_length_le (by omega)] at ht
    subst ht
    subst hkk
    repeat' (first | exact True.intro | rfl | exact ramp_len | exact ⟨rfl, rfl⟩ | (simp only [List.length_set]; done) | omega | refine And.intro ?_ ?_ | refine Exists.intro _ (And.intro rfl ?_))

theorem markBig_m (neg : Bool) (l : List Int) (k : Int) (hk : 0 ≤ k ∧ k ≤ 100000000) (hl : l.length ≤ 2000000) : Dm 20 [rawV neg l, iP k] [rawV neg (ramp k l.length), iP k] (.one (rI (k + l.length))) := by
  refine goM Try.func20 rfl rfl ?_
  have hr := ramp_len (k := k) (n := l.length)
  repeat refine vs ?_
  conv => whnf
  refine MutS.mk _ rfl _ rfl _ _ (markIntS_m l k hk hl) ?_
  repeat refine vs ?_
  conv => whnf
  repeat' (first | exact True.intro | rfl | exact ramp_len | exact ⟨rfl, rfl⟩ | (simp only [List.length_set]; done) | omega | refine And.intro ?_ ?_ | refine Exists.intro _ (And.intro rfl ?_))

theorem heldIntS_den (n : Nat) (k : Int) (hk : 0 ≤ k ∧ k ≤ 100000000) (hl : n ≤ 2000000) : D 47 [lP (ramp k n), iP k] true (.one (iP (k + n))) := by
  refine go Try.func47 rfl rfl ?_
  have hr := ramp_len (k := k) (n := n)
  repeat refine vs ?_
  conv => whnf
  refine EVs.loopU (fun q : Nat × Int => q.1 ≤ n ∧ q.2 = k + q.1) (fun q => n - q.1)
    (fun | (i, kk) => [(5, .v false [.p (.int .i64 (i : Int))]), (1, .v false [.p (.int .i64 kk)])]) (0, k) ⟨by simp, by simp⟩ (Wk.le (by repeat' (first | exact LeT.nil | refine LeT.drop1 ?_ | refine LeT.same1 ?_ | refine LeT.own1 ?_ | refine LeT.ownR ?_))) ?_
  rintro ⟨i, kk⟩ ⟨hi, hkk⟩
  dsimp only at hi hkk
  refine go1 ?_
  repeat refine vs ?_
  conv => whnf
  by_cases h1 : (i : Int) < n
  · have h2 : (i : Int) < (ramp k n).length := by omega
    repeat refine vs ?_
    conv => whnf
    first | refine Idx.mk (i) (by first | rfl | omega) (by omega) ?_ | skip
    repeat refine vs ?_
    conv => whnf
    first | refine LdI.mk (_) (ramp_get (by omega)) ?_ | skip
    repeat refine vs ?_
    conv => whnf
    have h3 : ¬ (k + (i : Int) ≠ kk) := by omega
    repeat refine vs ?_
    conv => whnf
    refine ⟨(i + 1, kk + 1), by simp only; omega, ⟨by simp only; omega, by simp only; omega⟩, ?_⟩
    refine Wk.le ?_
    repeat' (first | exact LeT.nil | refine LeT.drop1 ?_ | refine LeT.same1 ?_ | refine LeT.own1 ?_ | refine LeT.ownR ?_)
  · have h2 : ¬ (i : Int) < (ramp k n).length := by omega
    repeat refine vs ?_
    conv => whnf
    have : i = n := by omega
    subst this
    subst hkk
    first | rfl | exact ⟨rfl, rfl⟩ | exact ⟨by simp [toRes], rfl⟩

theorem heldBig_den (neg : Bool) (n : Nat) (k : Int) (hk : 0 ≤ k ∧ k ≤ 100000000) (hl : n ≤ 2000000) : D 21 [rawV neg (ramp k n), iP k] true (.one (iP (k + n))) := by
  refine go Try.func21 rfl rfl ?_
  repeat refine vs ?_
  conv => whnf
  refine CallS.mk _ rfl true true _ (heldIntS_den n k hk hl) rfl ?_
  repeat refine vs ?_
  conv => whnf
  first | rfl | exact ⟨rfl, rfl⟩ | exact ⟨by simp [toRes], rfl⟩
theorem eqBig_rfl (n : Bool) (l : List Int) (hl : l.length ≤ 1000000000000) : D 17 [rawV n l, rawV n l] true (.one (bP true)) := by
  have := eqBig_den n n l l hl hl
  rwa [decide_eq_true ⟨rfl, rfl⟩] at this
theorem szR_two {n : Int} {k : Nat} (h0 : 0 ≤ n) (hn : n ≤ 1048576) (h : ¬ szR n k < 0) : k ≤ 1048576 ∧ szR n k = n - k ∧ 0 ≤ szR n k ∧ szR n k ≤ 1048576 := by
  unfold szR at h ⊢
  split at h
  · omega
  · rename_i h2
    rw [if_neg h2]
    omega
end Go.Vx
