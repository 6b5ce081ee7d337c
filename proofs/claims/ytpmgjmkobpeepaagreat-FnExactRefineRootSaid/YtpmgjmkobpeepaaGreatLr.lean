set_option linter.unusedVariables false
set_option linter.unusedSectionVars false
set_option linter.unusedSimpArgs false
/- Square roots rounded down: Newton's steps, and the search bit by bit. Plain Lean, no program. -/
namespace Lm
def IsR (N r : Int) : Prop := 0 ≤ r ∧ r * r ≤ N ∧ N < (r + 1) * (r + 1)
theorem sq_lt {a b : Int} (ha : 0 ≤ a) (hb : 0 ≤ b) (h : a * a < b * b) : a < b := by
  by_cases c : a < b
  · exact c
  · have : b * b ≤ a * a := Int.mul_le_mul (by omega) (by omega) hb ha
    omega
theorem IsR.uniq {N r s : Int} (h : IsR N r) (k : IsR N s) : r = s := by
  obtain ⟨h1, h2, h3⟩ := h
  obtain ⟨k1, k2, k3⟩ := k
  have a := sq_lt h1 (show 0 ≤ s + 1 by omega) (by omega)
  have b := sq_lt k1 (show 0 ≤ r + 1 by omega) (by omega)
  omega
theorem sq_ge (a b : Int) : 4 * (a * b) ≤ (a + b) * (a + b) := by
  have : 0 ≤ (a - b) * (a - b) := by
    by_cases h : 0 ≤ a - b
    · exact Int.mul_nonneg h h
    · have := Int.mul_nonneg (show 0 ≤ -(a - b) by omega) (show 0 ≤ -(a - b) by omega)
      rwa [Int.neg_mul_neg] at this
  grind
/-- One step of Newton's: what it gives is not less than the root, rounded down. -/
theorem newton {N x : Int} (hN : 0 < N) (hx : 0 < x) : 0 < (x + N / x) / 2 ∧ N < ((x + N / x) / 2 + 1) * ((x + N / x) / 2 + 1) := by
  have h1 : N < x * (N / x + 1) := by
    have := Int.lt_mul_ediv_self_add (x := N) hx
    rw [Int.mul_add]
    omega
  have h0 : 0 ≤ N / x := Int.ediv_nonneg (by omega) (by omega)
  generalize N / x = q at *
  have h2 : x + q + 1 ≤ 2 * ((x + q) / 2 + 1) := by omega
  have h3 := sq_ge x (q + 1)
  generalize hn : (x + q) / 2 = n at *
  have h4 : (x + (q + 1)) * (x + (q + 1)) ≤ (2 * (n + 1)) * (2 * (n + 1)) := Int.mul_le_mul (by omega) (by omega) (by omega) (by omega)
  have h5 : (2 * (n + 1)) * (2 * (n + 1)) = 4 * ((n + 1) * (n + 1)) := by grind
  have h6 : N < (n + 1) * (n + 1) := by omega
  refine ⟨?_, h6⟩
  by_cases c : 0 < n
  · exact c
  · have : n = 0 := by omega
    subst this
    omega
theorem newton_end {N x : Int} (hx : 0 < x) (h : x ≤ (x + N / x) / 2) : x * x ≤ N := by
  have h1 : x * (N / x) ≤ N := Int.mul_ediv_self_le (by omega)
  have h2 : x ≤ N / x := by omega
  have h3 : x * x ≤ x * (N / x) := Int.mul_le_mul_of_nonneg_left h2 (by omega)
  omega

theorem IsR.ex (n : Nat) : ∃ r : Int, IsR n r := by
  induction n with
  | zero => exact ⟨0, by omega, by omega, by omega⟩
  | succ n ih =>
    obtain ⟨r, h0, h1, h2⟩ := ih
    by_cases c : ((n + 1 : Nat) : Int) < (r + 1) * (r + 1)
    · exact ⟨r, h0, by omega, c⟩
    · refine ⟨r + 1, by omega, by omega, ?_⟩
      have : (r + 1 + 1) * (r + 1 + 1) = (r + 1) * (r + 1) + 2 * r + 3 := by grind
      omega
theorem IsR.le {N r : Int} (h : IsR N r) : r ≤ N := by
  obtain ⟨h0, h1, h2⟩ := h
  by_cases c : r = 0
  · subst c; omega
  · have : 1 * r ≤ r * r := Int.mul_le_mul_of_nonneg_right (by omega) h0
    omega

def pow2 : Nat → Int
  | 0 => 1
  | n + 1 => pow2 n + pow2 n
theorem pow2_pos (n : Nat) : 0 < pow2 n := by
  induction n with
  | zero => decide
  | succ n ih => unfold pow2; omega
theorem pow2_add (m n : Nat) : pow2 (m + n) = pow2 m * pow2 n := by
  induction n with
  | zero => simp [pow2]
  | succ n ih =>
    show pow2 (m + n) + pow2 (m + n) = pow2 m * (pow2 n + pow2 n)
    rw [ih, Int.mul_add]
theorem pow2_mono {m n : Nat} (h : m ≤ n) : pow2 m ≤ pow2 n := by
  induction n with
  | zero => have : m = 0 := by omega
            subst this; exact Int.le_refl _
  | succ n ih =>
    by_cases e : m = n + 1
    · subst e; exact Int.le_refl _
    · have := ih (by omega); have := pow2_pos n; show _ ≤ pow2 n + pow2 n; omega
theorem pow2_16 (n : Nat) : pow2 (16 * n) = (65536 : Int) ^ n := by
  induction n with
  | zero => rfl
  | succ n ih =>
    rw [show 16 * (n + 1) = 16 * n + 16 by omega, pow2_add, ih, Int.pow_succ]
    rfl
/-- One round of the search. -/
theorem search {N lo : Int} {k : Nat} (h0 : 0 ≤ lo) (h1 : lo * lo ≤ N) (h2 : N < (lo + pow2 (k + 1)) * (lo + pow2 (k + 1))) :
    ((lo + pow2 k) * (lo + pow2 k) ≤ N → 0 ≤ lo + pow2 k ∧ N < (lo + pow2 k + pow2 k) * (lo + pow2 k + pow2 k)) ∧
    (¬ (lo + pow2 k) * (lo + pow2 k) ≤ N → N < (lo + pow2 k) * (lo + pow2 k)) := by
  have := pow2_pos k
  refine ⟨fun _ => ⟨by omega, ?_⟩, fun h => by omega⟩
  rw [Int.add_assoc lo]
  exact h2
end Lm
