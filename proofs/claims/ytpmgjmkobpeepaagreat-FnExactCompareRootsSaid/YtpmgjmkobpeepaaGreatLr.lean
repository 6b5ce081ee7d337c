set_option linter.unusedVariables false
set_option linter.unusedSectionVars false
set_option linter.unusedSimpArgs false
/- Square roots rounded down: Newton's steps, and the search bit by bit. Plain Lean, no program. -/
namespace Lm
def IsR (N r : Int) : Prop := 0 ≤ r ∧ r * r ≤ N ∧ N < (r + 1) * (r + 1)
theorem IsR.ex (n : Nat) : ∃ r : Int, IsR n r := by
 induction n with
 | zero => exact ⟨0, by omega, by omega, by omega⟩
 | succ n ih =>
  obtain ⟨r, h0, h1, h2⟩ := ih
  by_cases c : ((n + 1 : Nat) : Int) < (r + 1) * (r + 1)
  ·exact ⟨r, h0, by omega, c⟩
  ·refine ⟨r + 1, by omega, by omega, ?_⟩
   have : (r + 1 + 1) * (r + 1 + 1) = (r + 1) * (r + 1) + 2 * r + 3 := by grind
   omega
theorem IsR.le {N r : Int} (h : IsR N r) : r ≤ N := by
 obtain ⟨h0, h1, h2⟩ := h
 by_cases c : r = 0
 ·subst c; omega
 ·have : 1 * r ≤ r * r := Int.mul_le_mul_of_nonneg_right (by omega) h0
  omega

def pow2 : Nat → Int
 | 0 => 1
 | n + 1 => pow2 n + pow2 n
theorem pow2_pos (n : Nat) : 0 < pow2 n := by
 induction n with
 | zero => decide
 | succ n ih => unfold pow2; omega
/-- One round of the search. -/
theorem search {N lo : Int} {k : Nat} (h0 : 0 ≤ lo) (h1 : lo * lo ≤ N) (h2 : N < (lo + pow2 (k + 1)) * (lo + pow2 (k + 1))) :
  ((lo + pow2 k) * (lo + pow2 k) ≤ N → 0 ≤ lo + pow2 k ∧ N < (lo + pow2 k + pow2 k) * (lo + pow2 k + pow2 k)) ∧
  (¬ (lo + pow2 k) * (lo + pow2 k) ≤ N → N < (lo + pow2 k) * (lo + pow2 k)) := by
 have := pow2_pos k
 refine ⟨fun _ => ⟨by omega, ?_⟩, fun h => by omega⟩
 rw [Int.add_assoc lo]
 exact h2
end Lm
