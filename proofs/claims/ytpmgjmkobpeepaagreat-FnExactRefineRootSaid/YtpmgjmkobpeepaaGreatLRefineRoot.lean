/- The law RefineRoot, as a fact. -/
import Derived.Test.YtpmgjmkobpeepaaGreatQ14
import Derived.Test.YtpmgjmkobpeepaaGreatC5S
import Derived.Test.YtpmgjmkobpeepaaGreatP5
set_option linter.unusedVariables false
set_option linter.unusedSectionVars false
set_option linter.unusedSimpArgs false
namespace Go.Vx
open Go.Proofs
set_option maxRecDepth 100000
set_option maxHeartbeats 4000000 in
theorem lawRefineRoot (rs0 : List RawQ) (n1a : Bool) (l1a : List Int) (p1a : Bool) (q1a : List Int) (n1b : Bool) (l1b : List Int) (p1b : Bool) (q1b : List Int) (z2 : Int) (hrs0 : shortP 9223372036854775807 rs0) (hl1a : l1a.length ≤ 9223372036854775807) (hq1a : q1a.length ≤ 9223372036854775807) (hl1b : l1b.length ≤ 9223372036854775807) (hq1b : q1b.length ≤ 9223372036854775807) (zl2 : -9223372036854775808 ≤ z2) (zh2 : z2 ≤ 9223372036854775807): D 7 [polQ rs0, spanR n1a l1a p1a q1a n1b l1b p1b q1b, iP z2] true (.one (bP true)) := by
  refine go Tryz.func7 rfl rfl ?_
  repeat refine vs ?_
  conv => whnf
  obtain ⟨s0, dz0, k0⟩ := szRatS_den rs0 (1048576) (by omega) hrs0
  refine CallS.mk _ rfl true true _ (dz0) rfl ?_
  repeat refine vs ?_
  conv => whnf
  by_cases c0 : s0 < 0
  · repeat refine vs ?_
    conv => whnf
    first | rfl | exact ⟨rfl, rfl⟩ | exact ⟨by simp [toRes], rfl⟩
  · obtain ⟨hs0, e0, f0⟩ := k0 c0
    repeat refine vs ?_
    conv => whnf
    obtain ⟨s1, dz1, k1⟩ := szSpan_den n1a l1a p1a q1a n1b l1b p1b q1b (s0) (by omega) hl1a hq1a hl1b hq1b
    refine CallS.mk _ rfl true true _ (dz1) rfl ?_
    repeat refine vs ?_
    conv => whnf
    by_cases c1 : s1 < 0
    · repeat refine vs ?_
      conv => whnf
      first | rfl | exact ⟨rfl, rfl⟩ | exact ⟨by simp [toRes], rfl⟩
    · have e1 := k1 c1
      repeat refine vs ?_
      conv => whnf
      obtain ⟨rn0a, rl0a, rp0a, rq0a, rn0b, rl0b, rp0b, rq0b, b1, mrl0a, mrq0a, mrl0b, mrq0b, dS, dI⟩ := refineBoth rs0 n1a l1a p1a q1a n1b l1b p1b q1b z2 hs0 (by omega) (by omega) (by omega) (by omega) (by omega) (by omega)
      have hb1 : (b1 != b1) = false := by cases b1 <;> rfl
      refine CallS.mk _ rfl false false _ (toRatS_den rs0 hs0) rfl ?_
      repeat refine vs ?_
      conv => whnf
      refine CallS.mk _ rfl true false _ (toSpan_den n1a l1a p1a q1a n1b l1b p1b q1b (by omega) (by omega) (by omega) (by omega)) rfl ?_
      repeat refine vs ?_
      conv => whnf
      refine CallS.mk _ rfl false false _ (dS) rfl ?_
      repeat refine vs ?_
      conv => whnf
      refine CallS.mk _ rfl true true _ (toRatS_own rs0 hs0) rfl ?_
      repeat refine vs ?_
      conv => whnf
      refine CallS.mk _ rfl true true _ (toSpan_den n1a l1a p1a q1a n1b l1b p1b q1b (by omega) (by omega) (by omega) (by omega)) rfl ?_
      repeat refine vs ?_
      conv => whnf
      refine CallS.mk _ rfl true true _ (dI) rfl ?_
      repeat refine vs ?_
      conv => whnf
      refine CallS.mk _ rfl true true _ (eqSpan_rfl rn0a rl0a rp0a rq0a rn0b rl0b rp0b rq0b (by omega) (by omega) (by omega) (by omega)) rfl ?_
      repeat refine vs ?_
      conv => whnf
      refine CallS.mk _ rfl true true _ (toRatS_own rs0 hs0) rfl ?_
      repeat refine vs ?_
      conv => whnf
      refine CallS.mk _ rfl true true _ (eqRatS_rfl rs0 hs0) rfl ?_
      repeat refine vs ?_
      conv => whnf
      refine CallS.mk _ rfl true true _ (toSpan_den n1a l1a p1a q1a n1b l1b p1b q1b (by omega) (by omega) (by omega) (by omega)) rfl ?_
      repeat refine vs ?_
      conv => whnf
      refine CallS.mk _ rfl true true _ (eqSpan_rfl n1a l1a p1a q1a n1b l1b p1b q1b (by omega) (by omega) (by omega) (by omega)) rfl ?_
      repeat refine vs ?_
      conv => whnf
      have kb48 := kL_le (N := 1048576) (rs := rs0) (k := 1) (by omega) hs0.2
      have kc49 := hs0.1
      refine DeepS.mk rfl _ rfl _ _ (markRatS_d rs0 (1) (by omega) hs0) rfl ?_ ?_ ?_
      · simp [mkL_len]
      · repeat' (first | exact True.intro | refine ⟨rfl, ?_⟩)
      repeat refine vs ?_
      conv => whnf
      have rr54 := ramp_len (k := kL rs0 (1)) (n := l1a.length)
      have rr55 := ramp_len (k := kL rs0 (1) + (l1a.length : Int)) (n := q1a.length)
      have rr56 := ramp_len (k := kL rs0 (1) + (l1a.length : Int) + (q1a.length : Int)) (n := l1b.length)
      have rr57 := ramp_len (k := kL rs0 (1) + (l1a.length : Int) + (q1a.length : Int) + (l1b.length : Int)) (n := q1b.length)
      refine MutS.mk' _ rfl _ rfl _ _ (markSpan_m n1a l1a p1a q1a n1b l1b p1b q1b (kL rs0 (1)) (by omega) (by omega) (by omega) (by omega) (by omega)) ?_
      repeat refine vs ?_
      conv => whnf
      refine CallS.mk _ rfl true true _ (eqSpan_rfl rn0a rl0a rp0a rq0a rn0b rl0b rp0b rq0b (by omega) (by omega) (by omega) (by omega)) rfl ?_
      repeat refine vs ?_
      conv => whnf
      have rr62 := ramp_len (k := 1) (n := rl0a.length)
      have rr63 := ramp_len (k := 1 + (rl0a.length : Int)) (n := rq0a.length)
      have rr64 := ramp_len (k := 1 + (rl0a.length : Int) + (rq0a.length : Int)) (n := rl0b.length)
      have rr65 := ramp_len (k := 1 + (rl0a.length : Int) + (rq0a.length : Int) + (rl0b.length : Int)) (n := rq0b.length)
      refine MutS.mk' _ rfl _ rfl _ _ (markSpan_m rn0a rl0a rp0a rq0a rn0b rl0b rp0b rq0b (1) (by omega) (by omega) (by omega) (by omega) (by omega)) ?_
      repeat refine vs ?_
      conv => whnf
      have hne : ¬ (1 + (rl0a.length : Int) + (rq0a.length : Int) + (rl0b.length : Int) + (rq0b.length : Int) ≠ 1 + (rl0a.length : Int) + (rq0a.length : Int) + (rl0b.length : Int) + (rq0b.length : Int)) := by omega
      refine CallS.mk _ rfl true true _ (heldSpan_den rn0a rl0a.length rp0a rq0a.length rn0b rl0b.length rp0b rq0b.length (1) (by omega) (by omega) (by omega) (by omega) (by omega)) rfl ?_
      repeat refine vs ?_
      conv => whnf
      refine CallS.mk _ rfl true true _ (toRatS_own rs0 hs0) rfl ?_
      repeat refine vs ?_
      conv => whnf
      refine CallS.mk _ rfl true true _ (toSpan_den n1a l1a p1a q1a n1b l1b p1b q1b (by omega) (by omega) (by omega) (by omega)) rfl ?_
      repeat refine vs ?_
      conv => whnf
      refine CallS.mk _ rfl true true _ (dI) rfl ?_
      repeat refine vs ?_
      conv => whnf
      refine CallS.mk _ rfl true true _ (eqSpan_rfl rn0a rl0a rp0a rq0a rn0b rl0b rp0b rq0b (by omega) (by omega) (by omega) (by omega)) rfl ?_
      repeat refine vs ?_
      conv => whnf
      refine CallS.mk _ rfl true true _ (heldSpan_den rn0a rl0a.length rp0a rq0a.length rn0b rl0b.length rp0b rq0b.length (1) (by omega) (by omega) (by omega) (by omega) (by omega)) rfl ?_
      repeat refine vs ?_
      conv => whnf
      first | rfl | exact ⟨rfl, rfl⟩ | exact ⟨by simp [toRes], rfl⟩
end Go.Vx
