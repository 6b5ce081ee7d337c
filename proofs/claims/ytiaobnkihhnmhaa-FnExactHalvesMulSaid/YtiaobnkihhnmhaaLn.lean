/- Limbs, more: comparing; what a Big is. Plain Lean. -/
import Derived.Test.YtiaobnkihhnmhaaLm
namespace Lm

theorem val_split {l : List Int} {i : Nat} (h : i < l.length) : val l = val (l.take i) + pw i * (l[i] + 65536 * val (l.drop (i + 1))) := by
  have e : l = l.take i ++ (l[i] :: l.drop (i + 1)) := by rw [List.getElem_cons_drop, List.take_append_drop]
  conv => lhs; rw [e, val_append, val_cons, List.length_take, Nat.min_eq_left (by omega)]
theorem cmp_top {a b : List Int} (ha : Dig a) (hb : Dig b) {i : Nat} (hia : i < a.length) (hib : i < b.length) (hd : a.drop (i + 1) = b.drop (i + 1)) (h : a[i] < b[i]) : val a < val b := by
  rw [val_split hia, val_split hib, hd]
  have h1 := val_lt (ha.take i)
  have h2 := val_nonneg (hb.take i)
  rw [List.length_take, Nat.min_eq_left (by omega)] at h1
  have h3 : pw i * (a[i] + 65536 * val (b.drop (i + 1))) + pw i ≤ pw i * (b[i] + 65536 * val (b.drop (i + 1))) := by
    have : pw i * (a[i] + 65536 * val (b.drop (i + 1)) + 1) ≤ pw i * (b[i] + 65536 * val (b.drop (i + 1))) := Int.mul_le_mul_of_nonneg_left (by omega) (Int.le_of_lt (pw_pos i))
    rw [Int.mul_add] at this
    omega
  omega

/-- What GoodBig says. -/
def Good (neg : Bool) (l : List Int) : Prop := Can l ∧ l.length ≤ 40 ∧ (l = [] → neg = false)
/-- The number of a sign and limbs. -/
def num (neg : Bool) (l : List Int) : Int := if neg then -val l else val l
theorem lim_neg {x : Int} (h : lim x.natAbs = []) : x = 0 := by
  have := lim_eq_nil.1 h
  omega
/-- A good one is the one of its number. -/
theorem good_num {neg : Bool} {l : List Int} (h : Can l) (hn : l = [] → neg = false) : neg = decide (num neg l < 0) ∧ l = lim (num neg l).natAbs := by
  have hv := val_nonneg h.1
  have e : (num neg l).natAbs = (val l).toNat := by unfold num; split <;> omega
  refine ⟨?_, by rw [e]; exact can_eq h⟩
  cases neg
  · simp only [num, Bool.false_eq_true, if_false]
    rw [eq_comm, decide_eq_false_iff_not]
    omega
  · have hl : l ≠ [] := fun e => by cases hn e
    have := can_pos h hl
    simp only [num, if_true]
    rw [eq_comm, decide_eq_true_iff]
    omega
theorem num_lim (x : Int) : num (decide (x < 0)) (lim x.natAbs) = x := by
  unfold num
  rw [val_lim]
  by_cases h : x < 0
  · rw [decide_eq_true h, if_pos rfl]; omega
  · rw [decide_eq_false h]; simp only [Bool.false_eq_true, if_false]; omega
theorem good_lim {x : Int} (h : (lim x.natAbs).length ≤ 40) : Good (decide (x < 0)) (lim x.natAbs) :=
  ⟨lim_can _, h, fun e => by rw [lim_neg e]; rfl⟩
theorem dig_dec (l : List Int) : Dig l ↔ ∀ x ∈ l, 0 ≤ x ∧ x ≤ 65535 := ⟨fun h x hx => ⟨(h x hx).1, by have := (h x hx).2; omega⟩, fun h x hx => ⟨(h x hx).1, by have := (h x hx).2; omega⟩⟩
theorem can_last {l : List Int} (h : Dig l) (hl : 0 < l.length) : Can l ↔ l[l.length - 1] ≠ 0 := by
  have : l.getLast? = some l[l.length - 1] := by rw [List.getLast?_eq_getElem?, List.getElem?_eq_getElem]
  constructor
  · intro hc he
    exact hc.2 (by rw [this, he])
  · intro hne
    exact ⟨h, by rw [this]; simpa using hne⟩
end Lm
namespace Lm
/-- How many limbs a number has. -/
def ln (x : Int) : Nat := (lim x.natAbs).length
theorem ln_le (x : Int) (k : Nat) : ln x ≤ k ↔ (x.natAbs : Int) < pw k := lim_length _ _
theorem ln_neg (x : Int) : ln (-x) = ln x := by unfold ln; rw [Int.natAbs_neg]
theorem ln_add (x y : Int) {k : Nat} (hx : ln x ≤ k) (hy : ln y ≤ k) : ln (x + y) ≤ k + 1 := by
  rw [ln_le] at *
  rw [pw_succ]
  have := Int.natAbs_add_le x y
  have := pw_pos k
  omega
theorem ln_sub (x y : Int) {k : Nat} (hx : ln x ≤ k) (hy : ln y ≤ k) : ln (x - y) ≤ k + 1 := by
  rw [Int.sub_eq_add_neg]
  exact ln_add x (-y) hx (by rw [ln_neg]; exact hy)
theorem ln_mul (x y : Int) {k m : Nat} (hx : ln x ≤ k) (hy : ln y ≤ m) : ln (x * y) ≤ k + m := by
  rw [ln_le] at *
  rw [pw_add, Int.natAbs_mul]
  have h1 := pw_pos k
  rw [Int.natCast_mul]
  exact Int.lt_of_le_of_lt (Int.mul_le_mul_of_nonneg_right (Int.le_of_lt hx) (by omega)) (Int.mul_lt_mul_of_pos_left hy h1)
theorem ln_mono {x y : Int} (h : x.natAbs ≤ y.natAbs) : ln x ≤ ln y := by
  rw [ln_le]
  have := (ln_le y (ln y)).1 (Nat.le_refl _)
  omega
theorem ln_zero : ln 0 = 0 := by unfold ln; simp [lim_zero]
theorem ln_eq_zero {x : Int} : ln x = 0 ↔ x = 0 := by
  unfold ln
  rw [List.length_eq_zero_iff, lim_eq_nil]
  omega
end Lm
namespace Lm
theorem lim_step {l : List Int} {m n : Nat} (h : l ++ lim m = lim n) (h0 : m ≠ 0) : l ++ [((m % 65536 : Nat) : Int)] ++ lim (m / 65536) = lim n := by
  rw [← h, lim_pos h0, List.append_assoc]
  rfl
theorem lim64 {n : Nat} (h : n ≤ 18446744073709551615) : (lim n).length ≤ 4 := by
  rw [lim_length]
  have : pw 4 = 18446744073709551616 := by decide
  omega
theorem cut_lim (n : Nat) : cut (lim n) = lim n := by rw [cut_eq (lim_dig n), val_lim]; rfl
end Lm
namespace Lm
theorem val_drop_le {l : List Int} (h : Dig l) (i : Nat) : val (l.drop i) ≤ val l := by
  have e : val l = val (l.take i) + pw (l.take i).length * val (l.drop i) := by rw [← val_append, List.take_append_drop]
  have h1 := val_nonneg (h.take i)
  have h2 := val_nonneg (h.drop i)
  have h3 : 1 * val (l.drop i) ≤ pw (l.take i).length * val (l.drop i) := Int.mul_le_mul_of_nonneg_right (by have := pw_pos (l.take i).length; omega) h2
  omega
theorem val_drop {l : List Int} {i : Nat} (h : i < l.length) : val (l.drop i) = l[i] + 65536 * val (l.drop (i + 1)) := by
  rw [← List.getElem_cons_drop h, val_cons]
end Lm
namespace Lm
/-- One digit of a sum. -/
theorem sum_step {S c n : Int} {k : Nat} (h : S = c + pw k * n) : S = (c + pw k * (n % 65536)) + pw (k + 1) * (n / 65536) := by
  rw [h, pw_succ, Int.add_assoc, Int.mul_assoc, Int.mul_left_comm 65536 (pw k), ← Int.mul_add]
  congr 2
  omega
end Lm
