/- The laws' own functions for fractions. -/
import Derived.Test.YthholhhohlnlnaaDoorCGa
import Derived.Test.YthholhhohlnlnaaDoorR1
set_option linter.unusedVariables false
set_option linter.unusedSectionVars false
set_option linter.unusedSimpArgs false
namespace Go.Vx
open Go.Proofs
set_option maxRecDepth 100000

theorem toRat_den (n : Bool) (l : List Int) (p : Bool) (q : List Int) (hl : l.length ≤ 1000000000000) (hq : q.length ≤ 1000000000000) : D 17 [ratR n l p q] true (.one (ratR n l p q)) := by
  refine go Tryd.func17 rfl rfl ?_
  repeat refine vs ?_
  conv => whnf
  refine CallS.mk _ rfl true true _ (toBig_den n l hl) rfl ?_
  repeat refine vs ?_
  conv => whnf
  refine CallS.mk _ rfl true true _ (toBig_den p q hq) rfl ?_
  repeat refine vs ?_
  conv => whnf
  first | rfl | exact ⟨rfl, rfl⟩ | exact ⟨by simp [toRes], rfl⟩
theorem szRat_den (n : Bool) (l : List Int) (p : Bool) (q : List Int) (k : Int) (hk : 0 ≤ k ∧ k ≤ 1048576) (hl : l.length ≤ 9223372036854775807) (hq : q.length ≤ 9223372036854775807) :
    ∃ s : Int, D 15 [ratR n l p q, iP k] true (.one (iP s)) ∧ (¬ s < 0 → l.length ≤ 1048576 ∧ q.length ≤ 1048576 ∧ 0 ≤ s ∧ s ≤ 1048576) := by
  by_cases h1 : szR k l.length < 0
  · refine ⟨-1, go Tryd.func15 rfl rfl ?_, fun h => by omega⟩
    repeat refine vs ?_
    conv => whnf
    refine CallS.mk _ rfl true true _ (szBig_den n l k (by omega) hl) rfl ?_
    repeat refine vs ?_
    conv => whnf
    first | rfl | exact ⟨rfl, rfl⟩ | exact ⟨by simp [toRes], rfl⟩
  · obtain ⟨a1, a2, a3, a4⟩ := szR_two hk.1 hk.2 h1
    by_cases h2 : szR (szR k l.length) q.length < 0
    · refine ⟨-1, go Tryd.func15 rfl rfl ?_, fun h => by omega⟩
      repeat refine vs ?_
      conv => whnf
      refine CallS.mk _ rfl true true _ (szBig_den n l k (by omega) hl) rfl ?_
      repeat refine vs ?_
      conv => whnf
      refine CallS.mk _ rfl true true _ (szBig_den p q _ (by omega) hq) rfl ?_
      repeat refine vs ?_
      conv => whnf
      first | rfl | exact ⟨rfl, rfl⟩ | exact ⟨by simp [toRes], rfl⟩
    · obtain ⟨b1, b2, b3, b4⟩ := szR_two a3 a4 h2
      refine ⟨szR (szR k l.length) q.length, go Tryd.func15 rfl rfl ?_, fun h => ⟨a1, b1, b3, b4⟩⟩
      repeat refine vs ?_
      conv => whnf
      refine CallS.mk _ rfl true true _ (szBig_den n l k (by omega) hl) rfl ?_
      repeat refine vs ?_
      conv => whnf
      refine CallS.mk _ rfl true true _ (szBig_den p q _ (by omega) hq) rfl ?_
      repeat refine vs ?_
      conv => whnf
      first | rfl | exact ⟨rfl, rfl⟩ | exact ⟨by simp [toRes], rfl⟩
theorem eqRat_rfl (n : Bool) (l : List Int) (p : Bool) (q : List Int) (hl : l.length ≤ 1000000000000) (hq : q.length ≤ 1000000000000) : D 19 [ratR n l p q, ratR n l p q] true (.one (bP true)) := by
  refine go Tryd.func19 rfl rfl ?_
  repeat refine vs ?_
  conv => whnf
  refine CallS.mk _ rfl true true _ (eqBig_rfl n l hl) rfl ?_
  repeat refine vs ?_
  conv => whnf
  refine CallS.mk _ rfl true true _ (eqBig_rfl p q hq) rfl ?_
  repeat refine vs ?_
  conv => whnf
  first | rfl | exact ⟨rfl, rfl⟩ | exact ⟨by simp [toRes], rfl⟩
end Go.Vx
