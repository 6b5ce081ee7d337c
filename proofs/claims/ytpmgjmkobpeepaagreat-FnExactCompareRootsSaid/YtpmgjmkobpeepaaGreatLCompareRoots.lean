/- The law CompareRoots, as a fact. -/
import Derived.Test.YtpmgjmkobpeepaaGreatQGj
import Derived.Test.YtpmgjmkobpeepaaGreatRSb
import Derived.Test.YtpmgjmkobpeepaaGreatPGb
set_option linter.unusedVariables false
set_option linter.unusedSectionVars false
set_option linter.unusedSimpArgs false
namespace Go.Vx
open Go.Proofs
set_option maxRecDepth 100000
set_option maxHeartbeats 4000000 in
theorem lawCompareRoots (rs0 : List RawQ) (n1a : Bool) (l1a : List Int) (p1a : Bool) (q1a : List Int) (n1b : Bool) (l1b : List Int) (p1b : Bool) (q1b : List Int) (rs2 : List RawQ) (n3a : Bool) (l3a : List Int) (p3a : Bool) (q3a : List Int) (n3b : Bool) (l3b : List Int) (p3b : Bool) (q3b : List Int) (hrs0 : shortP 9223372036854775807 rs0) (hrs2 : shortP 9223372036854775807 rs2) (hl1a : l1a.length ≤ 9223372036854775807) (hq1a : q1a.length ≤ 9223372036854775807) (hl1b : l1b.length ≤ 9223372036854775807) (hq1b : q1b.length ≤ 9223372036854775807) (hl3a : l3a.length ≤ 9223372036854775807) (hq3a : q3a.length ≤ 9223372036854775807) (hl3b : l3b.length ≤ 9223372036854775807) (hq3b : q3b.length ≤ 9223372036854775807) : D 9 [polQ rs0, spanR n1a l1a p1a q1a n1b l1b p1b q1b, polQ rs2, spanR n3a l3a p3a q3a n3b l3b p3b q3b] true (.one (bP true)) := by
 refine go Tryz.func9 rfl rfl ?_
 repeat refine vs ?_
 conv => whnf
 obtain ⟨s0, dz0, k0⟩ := szRatS_den rs0 (1048576) (by omega) hrs0
 refine CallS.mk _ rfl true true _ (dz0) rfl ?_
 repeat refine vs ?_
 conv => whnf
 by_cases c0 : s0 < 0
 ·repeat refine vs ?_
  conv => whnf
  first | rfl | exact ⟨rfl, rfl⟩ | exact ⟨by simp [toRes], rfl⟩
 ·obtain ⟨hs0, e0, f0⟩ := k0 c0
  repeat refine vs ?_
  conv => whnf
  obtain ⟨s1, dz1, k1⟩ := szSpan_den n1a l1a p1a q1a n1b l1b p1b q1b (s0) (by omega) hl1a hq1a hl1b hq1b
  refine CallS.mk _ rfl true true _ (dz1) rfl ?_
  repeat refine vs ?_
  conv => whnf
  by_cases c1 : s1 < 0
  ·repeat refine vs ?_
   conv => whnf
   first | rfl | exact ⟨rfl, rfl⟩ | exact ⟨by simp [toRes], rfl⟩
  ·have e1 := k1 c1
   repeat refine vs ?_
   conv => whnf
   obtain ⟨s2, dz2, k2⟩ := szRatS_den rs2 (s1) (by omega) hrs2
   refine CallS.mk _ rfl true true _ (dz2) rfl ?_
   repeat refine vs ?_
   conv => whnf
   by_cases c2 : s2 < 0
   ·repeat refine vs ?_
    conv => whnf
    first | rfl | exact ⟨rfl, rfl⟩ | exact ⟨by simp [toRes], rfl⟩
   ·obtain ⟨hs2, e2, f2⟩ := k2 c2
    repeat refine vs ?_
    conv => whnf
    obtain ⟨s3, dz3, k3⟩ := szSpan_den n3a l3a p3a q3a n3b l3b p3b q3b (s2) (by omega) hl3a hq3a hl3b hq3b
    refine CallS.mk _ rfl true true _ (dz3) rfl ?_
    repeat refine vs ?_
    conv => whnf
    by_cases c3 : s3 < 0
    ·repeat refine vs ?_
     conv => whnf
     first | rfl | exact ⟨rfl, rfl⟩ | exact ⟨by simp [toRes], rfl⟩
    ·have e3 := k3 c3
     repeat refine vs ?_
     conv => whnf
     obtain ⟨y0, b1, dS, dI⟩ := compareRootsBoth rs0 n1a l1a p1a q1a n1b l1b p1b q1b rs2 n3a l3a p3a q3a n3b l3b p3b q3b hs0 (by omega) (by omega) (by omega) (by omega) hs2 (by omega) (by omega) (by omega) (by omega)
     have hb1 : (b1 != b1) = false := by cases b1 <;> rfl
     refine CallS.mk _ rfl false false _ (toRatS_den rs0 hs0) rfl ?_
     repeat refine vs ?_
     conv => whnf
     refine CallS.mk _ rfl true false _ (toSpan_den n1a l1a p1a q1a n1b l1b p1b q1b (by omega) (by omega) (by omega) (by omega)) rfl ?_
     repeat refine vs ?_
     conv => whnf
     refine CallS.mk _ rfl false false _ (toRatS_den rs2 hs2) rfl ?_
     repeat refine vs ?_
     conv => whnf
     refine CallS.mk _ rfl true false _ (toSpan_den n3a l3a p3a q3a n3b l3b p3b q3b (by omega) (by omega) (by omega) (by omega)) rfl ?_
     repeat refine vs ?_
     conv => whnf
     refine CallS.mk _ rfl false false _ (dS) rfl ?_
     repeat refine vs ?_
     conv => whnf
     refine CallS.mk _ rfl false false _ (toRatS_den rs0 hs0) rfl ?_
     repeat refine vs ?_
     conv => whnf
     refine CallS.mk _ rfl true true _ (toSpan_den n1a l1a p1a q1a n1b l1b p1b q1b (by omega) (by omega) (by omega) (by omega)) rfl ?_
     repeat refine vs ?_
     conv => whnf
     refine CallS.mk _ rfl false false _ (toRatS_den rs2 hs2) rfl ?_
     repeat refine vs ?_
     conv => whnf
     refine CallS.mk _ rfl true true _ (toSpan_den n3a l3a p3a q3a n3b l3b p3b q3b (by omega) (by omega) (by omega) (by omega)) rfl ?_
     repeat refine vs ?_
     conv => whnf
     refine CallS.mk _ rfl true true _ (dI) rfl ?_
     repeat refine vs ?_
     conv => whnf
     refine CallS.mk _ rfl false false _ (toRatS_den rs0 hs0) rfl ?_
     repeat refine vs ?_
     conv => whnf
     refine CallS.mk _ rfl true true _ (eqRatS_rfl rs0 hs0) rfl ?_
     repeat refine vs ?_
     conv => whnf
     refine CallS.mk _ rfl true true _ (toSpan_den n1a l1a p1a q1a n1b l1b p1b q1b (by omega) (by omega) (by omega) (by omega)) rfl ?_
     repeat refine vs ?_
     conv => whnf
     refine CallS.mk _ rfl true true _ (eqSpan_rfl n1a l1a p1a q1a n1b l1b p1b q1b (by omega) (by omega) (by omega) (by omega)) rfl ?_
     repeat refine vs ?_
     conv => whnf
     refine CallS.mk _ rfl false false _ (toRatS_den rs2 hs2) rfl ?_
     repeat refine vs ?_
     conv => whnf
     refine CallS.mk _ rfl true true _ (eqRatS_rfl rs2 hs2) rfl ?_
     repeat refine vs ?_
     conv => whnf
     refine CallS.mk _ rfl true true _ (toSpan_den n3a l3a p3a q3a n3b l3b p3b q3b (by omega) (by omega) (by omega) (by omega)) rfl ?_
     repeat refine vs ?_
     conv => whnf
     refine CallS.mk _ rfl true true _ (eqSpan_rfl n3a l3a p3a q3a n3b l3b p3b q3b (by omega) (by omega) (by omega) (by omega)) rfl ?_
     repeat refine vs ?_
     conv => whnf
     first | rfl | exact ⟨rfl, rfl⟩ | exact ⟨by simp [toRes], rfl⟩
end Go.Vx
