/- The laws' own functions for intervals. -/
import Derived.Test.YtpmgjmkobpeepaaGreatC5R
import Derived.Test.YtpmgjmkobpeepaaGreatS1
set_option linter.unusedVariables false
set_option linter.unusedSectionVars false
set_option linter.unusedSimpArgs false
namespace Go.Vx
open Go.Proofs
set_option maxRecDepth 100000

theorem toSpan_den (na : Bool) (la : List Int) (pa : Bool) (qa : List Int) (nb : Bool) (lb : List Int) (pb : Bool) (qb : List Int) (h1 : la.length ≤ 1000000000000) (h2 : qa.length ≤ 1000000000000) (h3 : lb.length ≤ 1000000000000) (h4 : qb.length ≤ 1000000000000) :
    D 29 [spanR na la pa qa nb lb pb qb] true (.one (spanR na la pa qa nb lb pb qb)) := by
  refine go Tryz.func29 rfl rfl ?_
  repeat refine vs ?_
  conv => whnf
  refine CallS.mk _ rfl true true _ (toRat_den na la pa qa h1 h2) rfl ?_
  repeat refine vs ?_
  conv => whnf
  refine CallS.mk _ rfl true true _ (toRat_den nb lb pb qb h3 h4) rfl ?_
  repeat refine vs ?_
  conv => whnf
  first | rfl | exact ⟨rfl, rfl⟩ | exact ⟨by simp [toRes], rfl⟩
theorem szSpan_den (na : Bool) (la : List Int) (pa : Bool) (qa : List Int) (nb : Bool) (lb : List Int) (pb : Bool) (qb : List Int) (k : Int) (hk : 0 ≤ k ∧ k ≤ 1048576) (h1 : la.length ≤ 9223372036854775807) (h2 : qa.length ≤ 9223372036854775807) (h3 : lb.length ≤ 9223372036854775807) (h4 : qb.length ≤ 9223372036854775807) :
    ∃ s : Int, D 27 [spanR na la pa qa nb lb pb qb, iP k] true (.one (iP s)) ∧ (¬ s < 0 → la.length ≤ 1048576 ∧ qa.length ≤ 1048576 ∧ lb.length ≤ 1048576 ∧ qb.length ≤ 1048576 ∧ 0 ≤ s ∧ s ≤ 1048576) := by
  obtain ⟨s1, d1, k1⟩ := szRat_den na la pa qa k hk h1 h2
  by_cases c1 : s1 < 0
  · refine ⟨-1, go Tryz.func27 rfl rfl ?_, fun h => by omega⟩
    repeat refine vs ?_
    conv => whnf
    refine CallS.mk _ rfl true true _ (d1) rfl ?_
    repeat refine vs ?_
    conv => whnf
    first | rfl | exact ⟨rfl, rfl⟩ | exact ⟨by simp [toRes], rfl⟩
  · obtain ⟨a1, a2, a3, a4⟩ := k1 c1
    obtain ⟨s2, d2, k2⟩ := szRat_den nb lb pb qb s1 ⟨a3, a4⟩ h3 h4
    by_cases c2 : s2 < 0
    · refine ⟨-1, go Tryz.func27 rfl rfl ?_, fun h => by omega⟩
      repeat refine vs ?_
      conv => whnf
      refine CallS.mk _ rfl true true _ (d1) rfl ?_
      repeat refine vs ?_
      conv => whnf
      refine CallS.mk _ rfl true true _ (d2) rfl ?_
      repeat refine vs ?_
      conv => whnf
      first | rfl | exact ⟨rfl, rfl⟩ | exact ⟨by simp [toRes], rfl⟩
    · obtain ⟨b1, b2, b3, b4⟩ := k2 c2
      refine ⟨s2, go Tryz.func27 rfl rfl ?_, fun h => ⟨a1, a2, b1, b2, b3, b4⟩⟩
      repeat refine vs ?_
      conv => whnf
      refine CallS.mk _ rfl true true _ (d1) rfl ?_
      repeat refine vs ?_
      conv => whnf
      refine CallS.mk _ rfl true true _ (d2) rfl ?_
      repeat refine vs ?_
      conv => whnf
      first | rfl | exact ⟨rfl, rfl⟩ | exact ⟨by simp [toRes], rfl⟩
theorem eqSpan_rfl (na : Bool) (la : List Int) (pa : Bool) (qa : List Int) (nb : Bool) (lb : List Int) (pb : Bool) (qb : List Int) (h1 : la.length ≤ 1000000000000) (h2 : qa.length ≤ 1000000000000) (h3 : lb.length ≤ 1000000000000) (h4 : qb.length ≤ 1000000000000) :
    D 31 [spanR na la pa qa nb lb pb qb, spanR na la pa qa nb lb pb qb] true (.one (bP true)) := by
  refine go Tryz.func31 rfl rfl ?_
  repeat refine vs ?_
  conv => whnf
  refine CallS.mk _ rfl true true _ (eqRat_rfl na la pa qa h1 h2) rfl ?_
  repeat refine vs ?_
  conv => whnf
  refine CallS.mk _ rfl true true _ (eqRat_rfl nb lb pb qb h3 h4) rfl ?_
  repeat refine vs ?_
  conv => whnf
  first | rfl | exact ⟨rfl, rfl⟩ | exact ⟨by simp [toRes], rfl⟩
theorem markSpan_m (na : Bool) (la : List Int) (pa : Bool) (qa : List Int) (nb : Bool) (lb : List Int) (pb : Bool) (qb : List Int) (k : Int) (hk : 0 ≤ k ∧ k ≤ 10000000000000000) (h1 : la.length ≤ 2000000) (h2 : qa.length ≤ 2000000) (h3 : lb.length ≤ 2000000) (h4 : qb.length ≤ 2000000) :
    Dm 32 [spanR na la pa qa nb lb pb qb, iP k] [spanR na (ramp k la.length) pa (ramp (k + la.length) qa.length) nb (ramp (k + la.length + qa.length) lb.length) pb (ramp (k + la.length + qa.length + lb.length) qb.length), iP k] (.one (rI (k + la.length + qa.length + lb.length + qb.length))) := by
  refine goM Tryz.func32 rfl rfl ?_
  have r1 := ramp_len (k := k) (n := la.length)
  have r2 := ramp_len (k := k + la.length) (n := qa.length)
  have r3 := ramp_len (k := k + la.length + qa.length) (n := lb.length)
  have r4 := ramp_len (k := k + la.length + qa.length + lb.length) (n := qb.length)
  repeat refine vs ?_
  conv => whnf
  refine MutS.mk' _ rfl _ rfl _ _ (markRat_m na la pa qa k (by omega) h1 h2) ?_
  repeat refine vs ?_
  conv => whnf
  refine MutS.mk' _ rfl _ rfl _ _ (markRat_m nb lb pb qb (k + la.length + qa.length) (by omega) h3 h4) ?_
  repeat refine vs ?_
  conv => whnf
  repeat' (first | exact True.intro | rfl | exact ramp_len | exact ⟨rfl, rfl⟩ | (simp only [List.length_set]; done) | omega | refine And.intro ?_ ?_ | refine Exists.intro _ (And.intro rfl ?_))
theorem heldSpan_den (na : Bool) (la : Nat) (pa : Bool) (qa : Nat) (nb : Bool) (lb : Nat) (pb : Bool) (qb : Nat) (k : Int) (hk : 0 ≤ k ∧ k ≤ 10000000000000000) (h1 : la ≤ 2000000) (h2 : qa ≤ 2000000) (h3 : lb ≤ 2000000) (h4 : qb ≤ 2000000) :
    D 33 [spanR na (ramp k la) pa (ramp (k + la) qa) nb (ramp (k + la + qa) lb) pb (ramp (k + la + qa + lb) qb), iP k] true (.one (iP (k + la + qa + lb + qb))) := by
  refine go Tryz.func33 rfl rfl ?_
  repeat refine vs ?_
  conv => whnf
  refine CallS.mk _ rfl true true _ (heldRat_den na la pa qa k (by omega) h1 h2) rfl ?_
  repeat refine vs ?_
  conv => whnf
  refine CallS.mk _ rfl true true _ (heldRat_den nb lb pb qb (k + la + qa) (by omega) h3 h4) rfl ?_
  repeat refine vs ?_
  conv => whnf
  first | rfl | exact ⟨rfl, rfl⟩ | exact ⟨by simp [toRes], rfl⟩
end Go.Vx
