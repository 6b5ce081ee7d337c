/- Products of 64-bit numbers, as slices.Repeat asks for them. -/
import Derived.Test.YthkgmogacmmfpaaBGa
set_option linter.unusedVariables false
set_option linter.unusedSectionVars false
set_option linter.unusedSimpArgs false
namespace Go.Vx
open Go.Proofs
set_option maxRecDepth 100000

abbrev uP (z : Int) : PV := (false, [.int .u64 z])
theorem and_mask (n : Nat) (hn : n ≤ 4294967295) : Go.bits .and .u64 (n : Int) 4294967295 = (n : Int) := by
  have h1 : (BitVec.ofInt 64 (n : Int)).toNat = n := by simp; omega
  have h2 : (BitVec.ofInt 64 (4294967295 : Int)).toNat = 2 ^ 32 - 1 := by decide
  unfold Go.bits
  dsimp only
  rw [show IntKind.u64.bits = 64 from rfl, BitVec.toNat_and, h1, h2, Nat.and_two_pow_sub_one_eq_mod, IntKind.wrap_u64]
  omega
theorem shr32 {n : Nat} (hn : n ≤ 4294967295) : (n : Int).fdiv (2 ^ (min ((32 : Int)).toNat IntKind.u64.bits)) = 0 := by
  have : min ((32 : Int)).toNat IntKind.u64.bits = 32 := rfl
  rw [this, Int.fdiv_eq_ediv_of_nonneg _ (by omega)]
  omega
theorem mul64_den (n : Nat) (hn : n ≤ 4294967295) : D 140 [uP 1, uP (n : Int)] true (.tup [uP 0, uP (n : Int)]) := by
  refine go Try.func140 rfl rfl ?_
  have a1 := and_mask 1 (by omega)
  have a2 := and_mask n hn
  have a3 := and_mask 0 (by omega)
  have s1 : (1 : Int).fdiv (2 ^ (min ((32 : Int)).toNat IntKind.u64.bits)) = 0 := by decide
  have s2 := shr32 hn
  have s0 : (0 : Int).fdiv (2 ^ (min ((32 : Int)).toNat IntKind.u64.bits)) = 0 := by decide
  have w0 : IntKind.u64.wrap 0 = 0 := wrapU (by omega) (by omega)
  have wn : IntKind.u64.wrap (n : Int) = n := wrapU (by omega) (by omega)
  repeat refine vs ?_
  conv => whnf
  refine Eqz.mk 1 a1 ?_
  repeat refine vs ?_
  conv => whnf
  refine Eqz.mk 0 s1 ?_
  repeat refine vs ?_
  conv => whnf
  refine Eqz.mk n a2 ?_
  repeat refine vs ?_
  conv => whnf
  refine Eqz.mk 0 s2 ?_
  repeat refine vs ?_
  conv => whnf
  refine Eqz.mk 0 (by rw [Int.one_mul]; exact s2) ?_
  repeat refine vs ?_
  conv => whnf
  refine Eqz.mk 0 (by rw [show (0 * (n : Int) + 0) = 0 by omega]; exact a3) ?_
  repeat refine vs ?_
  conv => whnf
  refine Eqz.mk 0 (by rw [show (0 * (n : Int) + 0) = 0 by omega]; exact s0) ?_
  repeat refine vs ?_
  conv => whnf
  refine Eqz.mk 0 (by exact s0) ?_
  repeat refine vs ?_
  conv => whnf
  exact ⟨by simp [toRes], rfl⟩
theorem bmul_den (n : Nat) (hn : n ≤ 4294967295) : D 115 [uP 1, uP (n : Int)] true (.tup [uP 0, uP (n : Int)]) := by
  have dM := mul64_den n hn
  refine go Try.func115 rfl rfl ?_
  repeat refine vs ?_
  conv => whnf
  refine CallS.mk _ rfl true true _ (dM) rfl ?_
  repeat refine vs ?_
  conv => whnf
  first | rfl | exact ⟨rfl, rfl⟩ | exact ⟨by simp [toRes], rfl⟩
end Go.Vx
