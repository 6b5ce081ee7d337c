/- The law CompareBig, as a fact. -/
import Derived.Test.YtiaobnkihhnmhaaC2
namespace Go.Vx
open Go.Proofs
set_option maxRecDepth 100000

theorem szR_two {n : Int} {k : Nat} (h0 : 0 ≤ n) (hn : n ≤ 1048576) (h : ¬ szR n k < 0) : k ≤ 1048576 ∧ szR n k = n - k ∧ 0 ≤ szR n k ∧ szR n k ≤ 1048576 := by
  unfold szR at h ⊢
  split at h
  · omega
  · rename_i h2
    rw [if_neg h2]
    omega

theorem lawCompareBig (n1 : Bool) (l : List Int) (n2 : Bool) (m : List Int) (hl : l.length ≤ 9223372036854775807) (hm : m.length ≤ 9223372036854775807) : D 5 [rawV n1 l, rawV n2 m] true (.one (bP true)) := by
  refine go Try.func5 rfl rfl ?_
  repeat refine vs ?_
  conv => whnf
  refine CallS.mk _ rfl true true _ (szBig_den n1 l 1048576 (by omega) hl) rfl ?_
  repeat refine vs ?_
  conv => whnf
  by_cases h : szR 1048576 l.length < 0
  · repeat refine vs ?_
    conv => whnf
    first | rfl | exact ⟨rfl, rfl⟩ | exact ⟨by simp [toRes], rfl⟩
  · obtain ⟨hk, _, e1, e2⟩ := szR_two (by omega) (by omega) h
    repeat refine vs ?_
    conv => whnf
    refine CallS.mk _ rfl true true _ (szBig_den n2 m _ ⟨e1, by omega⟩ hm) rfl ?_
    repeat refine vs ?_
    conv => whnf
    by_cases h2 : szR (szR 1048576 l.length) m.length < 0
    · repeat refine vs ?_
      conv => whnf
      first | rfl | exact ⟨rfl, rfl⟩ | exact ⟨by simp [toRes], rfl⟩
    · obtain ⟨hk2, _, _, _⟩ := szR_two e1 e2 h2
      obtain ⟨z, b, d1, d2⟩ := compareBoth n1 n2 l m (by omega) (by omega)
      repeat refine vs ?_
      conv => whnf
      refine CallS.mk _ rfl true true _ (toBig_den n1 l (by omega)) rfl ?_
      repeat refine vs ?_
      conv => whnf
      refine CallS.mk _ rfl true true _ (toBig_den n2 m (by omega)) rfl ?_
      repeat refine vs ?_
      conv => whnf
      refine CallS.mk _ rfl true true _ (d1) rfl ?_
      repeat refine vs ?_
      conv => whnf
      refine CallS.mk _ rfl true true _ (toBig_den n1 l (by omega)) rfl ?_
      repeat refine vs ?_
      conv => whnf
      refine CallS.mk _ rfl true true _ (toBig_den n2 m (by omega)) rfl ?_
      repeat refine vs ?_
      conv => whnf
      refine CallS.mk _ rfl true true _ (d2) rfl ?_
      repeat refine vs ?_
      conv => whnf
      have hb : (b != b) = false := by cases b <;> rfl
      repeat refine vs ?_
      conv => whnf
      refine CallS.mk _ rfl true true _ (toBig_den n1 l (by omega)) rfl ?_
      repeat refine vs ?_
      conv => whnf
      refine CallS.mk _ rfl true true _ (eqBig_den n1 n1 l l (by omega) (by omega)) rfl ?_
      rw [decide_eq_true ⟨rfl, rfl⟩]
      repeat refine vs ?_
      conv => whnf
      refine CallS.mk _ rfl true true _ (toBig_den n2 m (by omega)) rfl ?_
      repeat refine vs ?_
      conv => whnf
      refine CallS.mk _ rfl true true _ (eqBig_den n2 n2 m m (by omega) (by omega)) rfl ?_
      rw [decide_eq_true ⟨rfl, rfl⟩]
      repeat refine vs ?_
      conv => whnf
      first | rfl | exact ⟨rfl, rfl⟩ | exact ⟨by simp [toRes], rfl⟩
end Go.Vx
