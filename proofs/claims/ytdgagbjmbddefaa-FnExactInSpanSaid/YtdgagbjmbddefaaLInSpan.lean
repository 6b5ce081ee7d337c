/- The law InSpan, as a fact. -/
import Derived.Test.YtdgagbjmbddefaaS2
import Derived.Test.YtdgagbjmbddefaaC5S
set_option linter.unusedVariables false
set_option linter.unusedSectionVars false
set_option linter.unusedSimpArgs false
namespace Go.Vx
open Go.Proofs
set_option maxRecDepth 100000
set_option maxHeartbeats 4000000 in
theorem lawInSpan (n0a : Bool) (l0a : List Int) (p0a : Bool) (q0a : List Int) (n0b : Bool) (l0b : List Int) (p0b : Bool) (q0b : List Int) (n1 : Bool) (l1 : List Int) (p1 : Bool) (q1 : List Int) (hl0a : l0a.length ≤ 9223372036854775807) (hq0a : q0a.length ≤ 9223372036854775807) (hl0b : l0b.length ≤ 9223372036854775807) (hq0b : q0b.length ≤ 9223372036854775807) (hl1 : l1.length ≤ 9223372036854775807) (hq1 : q1.length ≤ 9223372036854775807) : D 4 [spanR n0a l0a p0a q0a n0b l0b p0b q0b, ratR n1 l1 p1 q1] true (.one (bP true)) := by
  refine go Try.func4 rfl rfl ?_
  repeat refine vs ?_
  conv => whnf
  obtain ⟨s0, dz0, k0⟩ := szSpan_den n0a l0a p0a q0a n0b l0b p0b q0b (1048576) (by omega) hl0a hq0a hl0b hq0b
  refine CallS.mk _ rfl true true _ (dz0) rfl ?_
  repeat refine vs ?_
  conv => whnf
  by_cases c0 : s0 < 0
  · repeat refine vs ?_
    conv => whnf
    first | rfl | exact ⟨rfl, rfl⟩ | exact ⟨by simp [toRes], rfl⟩
  · have e0 := k0 c0
    repeat refine vs ?_
    conv => whnf
    obtain ⟨s1, dz1, k1⟩ := szRat_den n1 l1 p1 q1 (s0) (by omega) hl1 hq1
    refine CallS.mk _ rfl true true _ (dz1) rfl ?_
    repeat refine vs ?_
    conv => whnf
    by_cases c1 : s1 < 0
    · repeat refine vs ?_
      conv => whnf
      first | rfl | exact ⟨rfl, rfl⟩ | exact ⟨by simp [toRes], rfl⟩
    · have e1 := k1 c1
      repeat refine vs ?_
      conv => whnf
      obtain ⟨b0, b1, dS, dI⟩ := inSpanBoth n0a l0a p0a q0a n0b l0b p0b q0b n1 l1 p1 q1 (by omega) (by omega) (by omega) (by omega) (by omega) (by omega)
      have hb0 : (b0 != b0) = false := by cases b0 <;> rfl
      have hb1 : (b1 != b1) = false := by cases b1 <;> rfl
      refine CallS.mk _ rfl true false _ (toSpan_den n0a l0a p0a q0a n0b l0b p0b q0b (by omega) (by omega) (by omega) (by omega)) rfl ?_
      repeat refine vs ?_
      conv => whnf
      refine CallS.mk _ rfl true false _ (toRat_den n1 l1 p1 q1 (by omega) (by omega)) rfl ?_
      repeat refine vs ?_
      conv => whnf
      refine CallS.mk _ rfl false false _ (dS) rfl ?_
      repeat refine vs ?_
      conv => whnf
      refine CallS.mk _ rfl true true _ (toSpan_den n0a l0a p0a q0a n0b l0b p0b q0b (by omega) (by omega) (by omega) (by omega)) rfl ?_
      repeat refine vs ?_
      conv => whnf
      refine CallS.mk _ rfl true true _ (toRat_den n1 l1 p1 q1 (by omega) (by omega)) rfl ?_
      repeat refine vs ?_
      conv => whnf
      refine CallS.mk _ rfl true true _ (dI) rfl ?_
      repeat refine vs ?_
      conv => whnf
      refine CallS.mk _ rfl true true _ (toSpan_den n0a l0a p0a q0a n0b l0b p0b q0b (by omega) (by omega) (by omega) (by omega)) rfl ?_
      repeat refine vs ?_
      conv => whnf
      refine CallS.mk _ rfl true true _ (eqSpan_rfl n0a l0a p0a q0a n0b l0b p0b q0b (by omega) (by omega) (by omega) (by omega)) rfl ?_
      repeat refine vs ?_
      conv => whnf
      refine CallS.mk _ rfl true true _ (toRat_den n1 l1 p1 q1 (by omega) (by omega)) rfl ?_
      repeat refine vs ?_
      conv => whnf
      refine CallS.mk _ rfl true true _ (eqRat_rfl n1 l1 p1 q1 (by omega) (by omega)) rfl ?_
      repeat refine vs ?_
      conv => whnf
      first | rfl | exact ⟨rfl, rfl⟩ | exact ⟨by simp [toRes], rfl⟩
end Go.Vx
