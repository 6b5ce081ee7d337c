/- Chapter 1: signs turned; results that are not too long. -/
import Derived.Test.YtiaobnkihhnmhaaB6
namespace Go.Vx
open Go.Proofs
set_option maxRecDepth 100000

theorem make_num (b : Bool) (n : Nat) : rawV (b && decide (Lm.cut (Lm.lim n) ≠ [])) (Lm.cut (Lm.lim n)) = bigV (if b then -(n : Int) else n) := by
  rw [Lm.cut_lim]
  unfold bigV
  have e : (if b then -(n : Int) else n).natAbs = n := by cases b <;> simp
  rw [e]
  congr 3
  by_cases h : n = 0
  · subst h
    cases b <;> simp [Lm.lim_zero]
  · have : Lm.lim n ≠ [] := fun e => h (Lm.lim_eq_nil.1 e)
    cases b
    · simp
    · simp [this]
      omega

theorem l1Neg_den (x : Int) (hx : Lm.ln x ≤ 1000000000000) : D 81 [bigV x] true (.one (bigV (-x))) := by
  refine go Try.func81 rfl rfl ?_
  repeat refine vs ?_
  conv => whnf
  refine Bo.mk _ rfl ?_
  repeat refine vs ?_
  conv => whnf
  have d := l1Make_den (!decide (x < 0)) (Lm.lim x.natAbs) hx
  rw [make_num] at d
  have e : (if (!decide (x < 0)) = true then -((x.natAbs : Nat) : Int) else (x.natAbs : Int)) = -x := by
    by_cases h : x < 0
    · simp [h]; omega
    · simp [h]; omega
  rw [e] at d
  refine CallS.mk _ rfl true true _ (d) rfl ?_
  repeat refine vs ?_
  conv => whnf
  first | rfl | exact ⟨rfl, rfl⟩ | exact ⟨by simp [toRes], rfl⟩

theorem neg_den (x : Int) (hx : Lm.ln x ≤ 1000000000000) : D 82 [bigV x] true (.one (bigV (-x))) := by
  refine go Try.func82 rfl rfl ?_
  repeat refine vs ?_
  conv => whnf
  refine Bo.mk _ rfl ?_
  repeat refine vs ?_
  conv => whnf
  have d := bigOf_den (!decide (x < 0)) (Lm.lim x.natAbs) hx
  rw [make_num] at d
  have e : (if (!decide (x < 0)) = true then -((x.natAbs : Nat) : Int) else (x.natAbs : Int)) = -x := by
    by_cases h : x < 0
    · simp [h]; omega
    · simp [h]; omega
  rw [e] at d
  refine CallS.mk _ rfl true true _ (d) rfl ?_
  repeat refine vs ?_
  conv => whnf
  first | rfl | exact ⟨rfl, rfl⟩ | exact ⟨by simp [toRes], rfl⟩
end Go.Vx
