/- Chapter 3: powers of two, square roots rounded down, the interval of a root. -/
import Derived.Test.YtpmgjmkobpeepaaGreatS3
import Derived.Test.YtpmgjmkobpeepaaGreatR6
import Derived.Test.YtpmgjmkobpeepaaGreatLr
set_option linter.unusedVariables false
set_option linter.unusedSectionVars false
set_option linter.unusedSimpArgs false
namespace Go.Vx
open Go.Proofs
set_option maxRecDepth 100000

theorem one_nd (x : Int) : nN x 1 = x ∧ dN x 1 = 1 := ⟨nN_one (by simp) (by omega), dN_one (by simp) (by omega)⟩
theorem ln_pow2 (n : Nat) : Lm.ln (Lm.pow2 n) ≤ n + 4 := by
  induction n with
  | zero => exact ln64 (by decide) (by decide)
  | succ n ih => exact Nat.le_trans (Lm.ln_add _ _ ih ih) (by omega)
theorem cut_pw (m : Nat) : Lm.cut (List.replicate m 0 ++ [1]) = Lm.lim (Lm.pw m).natAbs := by
  have hd : Lm.Dig (List.replicate m 0 ++ [1]) := (Lm.Dig.replicate m).append (Lm.Dig.cons (by omega) (by omega) Lm.Dig.nil)
  have hv : Lm.val (List.replicate m 0 ++ [1]) = Lm.pw m := by rw [Lm.val_append, Lm.val_replicate, List.length_replicate, Lm.val_single]; omega
  have := Lm.pw_pos m
  rw [Lm.cut_eq hd, hv]
  congr 1
theorem pw_big (m : Nat) (hm : m ≤ 100000000) : D 148 [bP false, lP (List.replicate m 0 ++ [1])] true (.one (bigV (Lm.pw m))) := by
  have dB := bigOf_den false (List.replicate m 0 ++ [1]) (by simp; omega)
  rw [make_num' (cut_pw m)] at dB
  have := Lm.pw_pos m
  rw [show (if false = true then -((Lm.pw m).natAbs : Int) else (Lm.pw m).natAbs) = Lm.pw m by simp; omega] at dB
  exact dB
theorem bigV_zero : bigV 0 = rawV false [] := by
  show rawV (decide ((0 : Int) < 0)) (Lm.lim (0 : Int).natAbs) = _
  rw [show (0 : Int).natAbs = 0 from rfl, Lm.lim_zero]
  rfl
theorem same_den (a b c d : Int) (hb : b ≠ 0) (hd : d ≠ 0) (ha : Lm.ln a ≤ 40000000000) (hbl : Lm.ln b ≤ 40000000000) (hc : Lm.ln c ≤ 40000000000) (hdl : Lm.ln d ≤ 40000000000) :
    D 81 [ratV a b, ratV c d] true (.one (bP (decide (a * d = c * b)))) := by
  have dC := compareRat_den a b c d hb hd ha hbl hc hdl
  have h : (cmpI (a * d) (c * b) = 0) ↔ a * d = c * b := by unfold cmpI; split <;> (try split) <;> omega
  refine go Tryz.func81 rfl rfl ?_
  by_cases h1 : a * d = c * b
  · have h2 := h.2 h1
    rw [decide_eq_true h1]
    repeat refine vs ?_
    conv => whnf
    refine CallS.mk _ rfl true true _ (dC) rfl ?_
    repeat refine vs ?_
    conv => whnf
    first | rfl | exact ⟨rfl, rfl⟩ | exact ⟨by simp [toRes], rfl⟩
  · have h2 := fun x => h1 (h.1 x)
    rw [decide_eq_false h1]
    repeat refine vs ?_
    conv => whnf
    refine CallS.mk _ rfl true true _ (dC) rfl ?_
    repeat refine vs ?_
    conv => whnf
    first | rfl | exact ⟨rfl, rfl⟩ | exact ⟨by simp [toRes], rfl⟩
end Go.Vx
