/- Limbs multiplied, as the loops do it. Plain Lean. -/
import Derived.Test.YtiaobnkihhnmhaaLo
namespace Lm

theorem val_set {l : List Int} {i : Nat} {v : Int} (h : i < l.length) : val (l.set i v) = val l + pw i * (v - l[i]) := by
  induction l generalizing i with
  | nil => simp at h
  | cons x l ih =>
    cases i with
    | zero => simp only [List.set_cons_zero, val_cons, pw_zero, List.getElem_cons_zero]; omega
    | succ i =>
      simp only [List.set_cons_succ, val_cons, List.getElem_cons_succ, pw_succ]
      rw [ih (by simpa using h)]
      grind
theorem Dig.set {l : List Int} (hl : Dig l) {i : Nat} {v : Int} (h0 : 0 ≤ v) (h1 : v < 65536) : Dig (l.set i v) := by
  intro x hx
  rcases List.mem_or_eq_of_mem_set hx with h | rfl
  · exact hl x h
  · exact ⟨h0, h1⟩
theorem Dig.get {l : List Int} (hl : Dig l) {i : Nat} (h : i < l.length) : 0 ≤ l[i] ∧ l[i] < 65536 := hl _ (List.getElem_mem h)
theorem Dig.getD {l : List Int} (hl : Dig l) (i : Nat) : 0 ≤ l.getD i 0 ∧ l.getD i 0 < 65536 := by
  by_cases h : i < l.length
  · rw [show l.getD i 0 = l[i] by simp [List.getD, h]]
    exact hl.get h
  · rw [show l.getD i 0 = 0 by simp [List.getD, h]]
    omega
theorem val_take_succ (l : List Int) (k : Nat) : val (l.take (k + 1)) = val (l.take k) + pw k * l.getD k 0 := by
  by_cases h : k < l.length
  · rw [List.take_add_one, List.getElem?_eq_getElem h]
    simp only [Option.toList]
    rw [val_snoc, List.length_take, Nat.min_eq_left (by omega), show l.getD k 0 = l[k] by simp [List.getD, h]]
  · rw [List.take_of_length_le (by omega), List.take_of_length_le (by omega), show l.getD k 0 = 0 by simp [List.getD, h]]
    simp
/-- A digit beyond the value's size is 0. -/
theorem dig_zero {l : List Int} (hl : Dig l) {m j : Nat} (hv : val l < pw m) (hm : m ≤ j) (hj : j < l.length) : l[j] = 0 := by
  have h1 := val_split hj
  have h2 := val_nonneg (hl.take j)
  have h3 := hl.get hj
  have h4 := val_nonneg (hl.drop (j + 1))
  by_cases h : l[j] = 0
  · exact h
  · have h5 : pw j * 1 ≤ pw j * (l[j] + 65536 * val (l.drop (j + 1))) := Int.mul_le_mul_of_nonneg_left (by omega) (Int.le_of_lt (pw_pos j))
    have := pw_mono hm
    omega

/-- A row of the product, under way: k digits of b are done; c is carried. -/
structure MulRow (out0 out : List Int) (x : Int) (b : List Int) (i k : Nat) (c : Int) : Prop where
  dig : Dig out
  len : out.length = out0.length
  c0 : 0 ≤ c
  c1 : c ≤ 65535
  rest : ∀ j, i + k ≤ j → out[j]? = out0[j]?
  val : Lm.val out + pw (i + k) * c = Lm.val out0 + x * (pw i * Lm.val (b.take k))
theorem MulRow.start {out0 b : List Int} {x : Int} {i : Nat} (h : Dig out0) : MulRow out0 out0 x b i 0 0 :=
  ⟨h, rfl, by omega, by omega, fun _ _ => rfl, by simp [Lm.val]⟩
theorem MulRow.step {out0 out b : List Int} {x c : Int} {i k : Nat} (h : MulRow out0 out x b i k c) (hx : 0 ≤ x ∧ x < 65536) (hb : Dig b) (hlt : i + k < out.length) {n : Int} (hn : n = out[i + k] + x * b.getD k 0 + c) :
    0 ≤ n ∧ n ≤ 4295032831 ∧ 0 ≤ x * b.getD k 0 ∧ x * b.getD k 0 ≤ 4294836225 ∧ MulRow out0 (out.set (i + k) (n % 65536)) x b i (k + 1) (n / 65536) := by
  have hy := hb.getD k
  have ho := h.dig.get hlt
  have hxy0 : 0 ≤ x * b.getD k 0 := Int.mul_nonneg hx.1 hy.1
  have hxy1 : x * b.getD k 0 ≤ 65535 * 65535 := Int.mul_le_mul (by omega) (by omega) hy.1 (by omega)
  have c0 := h.c0
  have c1 := h.c1
  have hn0 : 0 ≤ n := by omega
  have hn1 : n ≤ 4295032831 := by omega
  refine ⟨hn0, hn1, hxy0, by omega, h.dig.set (by omega) (by omega), by simp [h.len], by omega, by omega, fun j hj => ?_, ?_⟩
  · rw [List.getElem?_set_ne (by omega)]
    exact h.rest j (by omega)
  · rw [val_set hlt, val_take_succ]
    have e := h.val
    have e1 : pw (i + (k + 1)) = 65536 * pw (i + k) := pw_succ (i + k)
    have e2 := pw_add i k
    have e3 : n = 65536 * (n / 65536) + n % 65536 := by omega
    generalize n / 65536 = q at *
    generalize n % 65536 = r at *
    clear hn0 hn1 hxy0 hxy1 ho hy
    rw [e1]
    grind
/-- What is carried at the end of b is the digit there. -/
theorem MulRow.carry {out0 out b : List Int} {x c : Int} {i k : Nat} (h : MulRow out0 out x b i k c) (hx : 0 ≤ x ∧ x < 65536) (hb : Dig b) (hd : Dig out0) (hv : Lm.val out0 < pw (i + b.length)) (hk : b.length < k) : c = 0 := by
  have e := h.val
  rw [List.take_of_length_le (by omega)] at e
  have h1 := val_lt hb
  have h2 := val_nonneg hb
  have h3 := val_nonneg h.dig
  have c0 := h.c0
  by_cases hc : c = 0
  · exact hc
  · exfalso
    have h4 : pw (i + k) * 1 ≤ pw (i + k) * c := Int.mul_le_mul_of_nonneg_left (by omega) (Int.le_of_lt (pw_pos _))
    have h5 : pw (i + b.length + 1) ≤ pw (i + k) := pw_mono (by omega)
    rw [pw_succ, pw_add] at h5
    rw [pw_add] at hv
    have hp := pw_pos i
    have h6 : pw i * Lm.val b ≤ pw i * (pw b.length - 1) := Int.mul_le_mul_of_nonneg_left (by omega) (Int.le_of_lt hp)
    have h7 : 0 ≤ pw i * Lm.val b := Int.mul_nonneg (Int.le_of_lt hp) h2
    have h8 : x * (pw i * Lm.val b) ≤ 65535 * (pw i * Lm.val b) := Int.mul_le_mul_of_nonneg_right (by omega) h7
    rw [Int.mul_sub] at h6
    generalize pw i * pw b.length = A at *
    generalize pw i * Lm.val b = B at *
    omega
/-- A row is done: the product so far. -/
theorem MulRow.done {out0 out b a : List Int} {c : Int} {i k : Nat} (hi : i < a.length) (h : MulRow out0 out a[i] b i k c) (hk : b.length ≤ k) (hc : c = 0) (h0 : Lm.val out0 = Lm.val (a.take i) * Lm.val b) : Lm.val out = Lm.val (a.take (i + 1)) * Lm.val b := by
  have e := h.val
  subst hc
  rw [List.take_of_length_le hk, h0] at e
  rw [val_take_succ, show a.getD i 0 = a[i] by simp [List.getD, hi]]
  grind
theorem mul_lt {a b : List Int} (ha : Dig a) (hb : Dig b) (i : Nat) : Lm.val (a.take i) * Lm.val b < pw (i + b.length) := by
  have h1 := val_lt (ha.take i)
  have h2 := val_lt hb
  have h3 := val_nonneg (ha.take i)
  have h4 := val_nonneg hb
  have h5 : pw (a.take i).length ≤ pw i := pw_mono (by simp; omega)
  rw [pw_add]
  have h6 : val (a.take i) * val b ≤ pw i * val b := Int.mul_le_mul_of_nonneg_right (by omega) h4
  have h7 : pw i * val b < pw i * pw b.length := Int.mul_lt_mul_of_pos_left h2 (pw_pos i)
  omega
end Lm
