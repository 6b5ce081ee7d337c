/- Decimal digits in fours. -/
import Derived.Lib.ItoaNum
import Derived.Lib.Repeat
import Derived.Lib.Join
set_option linter.unusedVariables false
set_option linter.unusedSectionVars false
set_option linter.unusedSimpArgs false
namespace Go.Vx
open Go.Lib
theorem dec_small {u : Nat} (h : u < 10) : decDigits u = [UInt8.ofNat (48 + u)] := by rw [decDigits, dif_pos h]
theorem dec_big {u : Nat} (h : 10 ≤ u) : decDigits u = decDigits (u / 10) ++ [UInt8.ofNat (48 + u % 10)] := by rw [decDigits, dif_neg (by omega)]
/-- Four digits. -/
def four (r : Nat) : List UInt8 := [UInt8.ofNat (48 + r / 1000), UInt8.ofNat (48 + r / 100 % 10), UInt8.ofNat (48 + r / 10 % 10), UInt8.ofNat (48 + r % 10)]
def padS (l : List UInt8) : List UInt8 := repeatL [48] (4 - l.length) ++ l
theorem pad_four {r : Nat} (h : r < 10000) : padS (decDigits r) = four r := by
  unfold padS four
  by_cases h1 : r < 10
  · rw [dec_small h1, show r / 1000 = 0 by omega, show r / 100 % 10 = 0 by omega, show r / 10 % 10 = 0 by omega, Nat.mod_eq_of_lt h1]
    rfl
  · by_cases h2 : r < 100
    · rw [dec_big (by omega), dec_small (show r / 10 < 10 by omega), show r / 1000 = 0 by omega, show r / 100 % 10 = 0 by omega, Nat.mod_eq_of_lt (show r / 10 < 10 by omega)]
      rfl
    · by_cases h3 : r < 1000
      · rw [dec_big (by omega), dec_big (by omega), dec_small (show r / 10 / 10 < 10 by omega), show r / 1000 = 0 by omega, show r / 10 / 10 = r / 100 by omega, Nat.mod_eq_of_lt (show r / 100 < 10 by omega)]
        rfl
      · rw [dec_big (by omega), dec_big (by omega), dec_big (by omega), dec_small (show r / 10 / 10 / 10 < 10 by omega), show r / 10 / 10 / 10 = r / 1000 by omega, show r / 10 / 10 = r / 100 by omega]
        rfl
theorem dec_four {u : Nat} (h : 10000 ≤ u) : decDigits u = decDigits (u / 10000) ++ four (u % 10000) := by
  rw [dec_big (by omega), dec_big (by omega), dec_big (by omega), dec_big (by omega)]
  rw [show u / 10 / 10 / 10 / 10 = u / 10000 by omega, show u / 10 / 10 / 10 = u / 1000 by omega, show u / 10 / 10 = u / 100 by omega]
  unfold four
  rw [show u % 10000 / 1000 = u / 1000 % 10 by omega, show u % 10000 / 100 % 10 = u / 100 % 10 by omega, show u % 10000 / 10 % 10 = u / 10 % 10 by omega, show u % 10000 % 10 = u % 10 by omega]
  simp
/-- A number's pieces, the last digits ahead. -/
def pieces (u : Nat) : List (List UInt8) :=
  if h : u < 10000 then [decDigits u] else padS (decDigits (u % 10000)) :: pieces (u / 10000)
termination_by u
decreasing_by omega
theorem pieces_flat (u : Nat) : (pieces u).reverse.flatten = decDigits u := by
  induction u using Nat.strongRecOn with
  | _ u ih =>
    rw [pieces]
    split
    · simp
    · rw [List.reverse_cons, List.flatten_append, ih (u / 10000) (by omega), pad_four (by omega)]
      rw [dec_four (u := u) (by omega)]
      simp
theorem pieces_len (u : Nat) : (pieces u).length ≤ (decDigits u).length := by
  induction u using Nat.strongRecOn with
  | _ u ih =>
    rw [pieces]
    split
    · rw [decDigits_length]; exact nDigits_pos u
    · have := ih (u / 10000) (by omega)
      rw [dec_four (u := u) (by omega), List.length_cons, List.length_append]
      have : (four (u % 10000)).length = 4 := rfl
      omega
theorem join_flat : ∀ (xs : List (List UInt8)), Lib.join xs [] = xs.flatten
  | [] => rfl
  | x :: r => by
    rw [join_cons]
    unfold joinTail
    rw [List.flatten_cons]
    congr 1
    simp
end Go.Vx
