/- The laws' own functions for fractions. -/
import Derived.Test.YtpmgjmkobpeepaaGreatCGa
import Derived.Test.YtpmgjmkobpeepaaGreatR1
set_option linter.unusedVariables false
set_option linter.unusedSectionVars false
set_option linter.unusedSimpArgs false
namespace Go.Vx
open Go.Proofs
set_option maxRecDepth 100000

theorem toRat_den (n : Bool) (l : List Int) (p : Bool) (q : List Int) (hl : l.length ≤ 1000000000000) (hq : q.length ≤ 1000000000000) : D 19 [ratR n l p q] true (.one (ratR n l p q)) := by
  refine go Tryz.func19 rfl rfl ?_
  repeat refine vs ?_
  conv => whnf
  refine CallS.mk _ rfl true true _ (toBig_den n l hl) rfl ?_
  repeat refine vs ?_
  conv => whnf
  refine CallS.mk _ rfl true true _ (toBig_den p q hq) rfl ?_
  repeat refine vs ?_
  conv => whnf
  first | rfl | exact ⟨rfl, rfl⟩ | exact ⟨by simp [toRes], rfl⟩
theorem szRat_den (n : Bool) (l : List Int) (p : Bool) (q : List Int) (k : Int) (hk : 0 ≤ k ∧ k ≤ 1048576) (hl : l.length ≤ 9223372036854775807) (hq : q.length ≤ 9223372036854775807) :
    ∃ s : Int, D 17 [ratR n l p q, iP k] true (.one (iP s)) ∧ (¬ s < 0 → l.length ≤ 1048576 ∧ q.length ≤ 1048576 ∧ 0 ≤ s ∧ s ≤ 1048576) := by
  by_cases h1 : szR k l.length < 0
  · refine ⟨-1, go Tryz.func17 rfl rfl ?_, fun h => by omega⟩
    repeat refine vs ?_
    conv => whnf
    refine CallS.mk _ rfl true true _ (szBig_den n l k (by omega) hl) rfl ?_
    repeat refine vs ?_
    conv => whnf
    first | rfl | exact ⟨rfl, rfl⟩ | exact ⟨by simp [toRes], rfl⟩
  · obtain ⟨a1, a2, a3, a4⟩ := szR_two hk.1 hk.2 h1
    by_cases h2 : szR (szR k l.length) q.length < 0
    · refine ⟨-1, go Tryz.func17 rfl rfl ?_, fun h => by omega⟩
      repeat refine vs ?_
      conv => whnf
      refine CallS.mk _ rfl true true _ (szBig_den n l k (by omega) hl) rfl ?_
      repeat refine vs ?_
      conv => whnf
      refine CallS.mk _ rfl true true _ (szBig_den p q _ (by omega) hq) rfl ?_
      repeat refine vs ?_
      conv => whnf
      first | rfl | exact ⟨rfl, rfl⟩ | exact ⟨by simp [toRes], rfl⟩
    · obtain ⟨b1, b2, b3, b4⟩ := szR_two a3 a4 h2
      refine ⟨szR (szR k l.length) q.length, go Tryz.func17 rfl rfl ?_, fun h => ⟨a1, b1, b3, b4⟩⟩
      repeat refine vs ?_
      conv => whnf
      refine CallS.mk _ rfl true true _ (szBig_den n l k (by omega) hl) rfl ?_
      repeat refine vs ?_
      conv => whnf
      refine CallS.mk _ rfl true true _ (szBig_den p q _ (by omega) hq) rfl ?_
      repeat refine vs ?_
      conv => whnf
      first | rfl | exact ⟨rfl, rfl⟩ | exact ⟨by simp [toRes], rfl⟩
theorem eqRat_rfl (n : Bool) (l : List Int) (p : Bool) (q : List Int) (hl : l.length ≤ 1000000000000) (hq : q.length ≤ 1000000000000) : D 21 [ratR n l p q, ratR n l p q] true (.one (bP true)) := by
  refine go Tryz.func21 rfl rfl ?_
  repeat refine vs ?_
  conv => whnf
  refine CallS.mk _ rfl true true _ (eqBig_rfl n l hl) rfl ?_
  repeat refine vs ?_
  conv => whnf
  refine CallS.mk _ rfl true true _ (eqBig_rfl p q hq) rfl ?_
  repeat refine vs ?_
  conv => whnf
  first | rfl | exact ⟨rfl, rfl⟩ | exact ⟨by simp [toRes], rfl⟩
theorem markRat_m (n : Bool) (l : List Int) (p : Bool) (q : List Int) (k : Int) (hk : 0 ≤ k ∧ k ≤ 100000000000000000) (hl : l.length ≤ 2000000) (hq : q.length ≤ 2000000) :
    Dm 22 [ratR n l p q, iP k] [ratR n (ramp k l.length) p (ramp (k + l.length) q.length), iP k] (.one (rI (k + l.length + q.length))) := by
  refine goM Tryz.func22 rfl rfl ?_
  have hr := ramp_len (k := k) (n := l.length)
  have hr2 := ramp_len (k := k + l.length) (n := q.length)
  repeat refine vs ?_
  conv => whnf
  refine MutS.mk' _ rfl _ rfl _ _ (markBig_m n l k (by omega) hl) ?_
  repeat refine vs ?_
  conv => whnf
  refine MutS.mk' _ rfl _ rfl _ _ (markBig_m p q (k + l.length) (by omega) hq) ?_
  repeat refine vs ?_
  conv => whnf
  repeat' (first | exact True.intro | rfl | exact ramp_len | exact ⟨rfl, rfl⟩ | (simp only [List.length_set]; done) | omega | refine And.intro ?_ ?_ | refine Exists.intro _ (And.intro rfl ?_))
theorem heldRat_den (n : Bool) (l : Nat) (p : Bool) (q : Nat) (k : Int) (hk : 0 ≤ k ∧ k ≤ 100000000000000000) (hl : l ≤ 2000000) (hq : q ≤ 2000000) : D 74 [ratR n (ramp k l) p (ramp (k + l) q), iP k] true (.one (iP (k + l + q))) := by
  refine go Tryz.func74 rfl rfl ?_
  repeat refine vs ?_
  conv => whnf
  refine CallS.mk _ rfl true true _ (heldBig_den n l k (by omega) hl) rfl ?_
  repeat refine vs ?_
  conv => whnf
  refine CallS.mk _ rfl true true _ (heldBig_den p q (k + l) (by omega) hq) rfl ?_
  repeat refine vs ?_
  conv => whnf
  first | rfl | exact ⟨rfl, rfl⟩ | exact ⟨by simp [toRes], rfl⟩
end Go.Vx
