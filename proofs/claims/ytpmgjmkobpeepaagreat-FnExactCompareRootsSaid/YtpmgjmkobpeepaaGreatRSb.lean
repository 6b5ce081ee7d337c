/- C5R, S1, S2, S3, S4, S5, C5S -/
import Derived.Test.YtpmgjmkobpeepaaGreatCGa
import Derived.Test.YtpmgjmkobpeepaaGreatRSa
import Derived.Test.YtpmgjmkobpeepaaGreatC7
import Derived.Test.YtpmgjmkobpeepaaGreatLr
set_option linter.unusedVariables false
set_option linter.unusedSectionVars false
set_option linter.unusedSimpArgs false
section
/- The laws' own functions for fractions. -/
namespace Go.Vx
open Go.Proofs
set_option maxRecDepth 100000

theorem toRat_den (n : Bool) (l : List Int) (p : Bool) (q : List Int) (hl : l.length ≤ 1000000000000) (hq : q.length ≤ 1000000000000) : D 19 [ratR n l p q] true (.one (ratR n l p q)) := by
 refine go Tryz.func19 rfl rfl ?_
 repeat refine vs ?_
 conv => whnf
 refine CallS.mk _ rfl true true _ (toBig_den n l hl) rfl ?_
 repeat refine vs ?_
 conv => whnf
 refine CallS.mk _ rfl true true _ (toBig_den p q hq) rfl ?_
 repeat refine vs ?_
 conv => whnf
 first | rfl | exact ⟨rfl, rfl⟩ | exact ⟨by simp [toRes], rfl⟩
theorem szRat_den (n : Bool) (l : List Int) (p : Bool) (q : List Int) (k : Int) (hk : 0 ≤ k ∧ k ≤ 1048576) (hl : l.length ≤ 9223372036854775807) (hq : q.length ≤ 9223372036854775807) :
  ∃ s : Int, D 17 [ratR n l p q, iP k] true (.one (iP s)) ∧ (¬ s < 0 → l.length ≤ 1048576 ∧ q.length ≤ 1048576 ∧ 0 ≤ s ∧ s ≤ 1048576) := by
 by_cases h1 : szR k l.length < 0
 ·refine ⟨-1, go Tryz.func17 rfl rfl ?_, fun h => by omega⟩
  repeat refine vs ?_
  conv => whnf
  refine CallS.mk _ rfl true true _ (szBig_den n l k (by omega) hl) rfl ?_
  repeat refine vs ?_
  conv => whnf
  first | rfl | exact ⟨rfl, rfl⟩ | exact ⟨by simp [toRes], rfl⟩
 ·obtain ⟨a1, a2, a3, a4⟩ := szR_two hk.1 hk.2 h1
  by_cases h2 : szR (szR k l.length) q.length < 0
  ·refine ⟨-1, go Tryz.func17 rfl rfl ?_, fun h => by omega⟩
   repeat refine vs ?_
   conv => whnf
   refine CallS.mk _ rfl true true _ (szBig_den n l k (by omega) hl) rfl ?_
   repeat refine vs ?_
   conv => whnf
   refine CallS.mk _ rfl true true _ (szBig_den p q _ (by omega) hq) rfl ?_
   repeat refine vs ?_
   conv => whnf
   first | rfl | exact ⟨rfl, rfl⟩ | exact ⟨by simp [toRes], rfl⟩
  ·obtain ⟨b1, b2, b3, b4⟩ := szR_two a3 a4 h2
   refine ⟨szR (szR k l.length) q.length, go Tryz.func17 rfl rfl ?_, fun h => ⟨a1, b1, b3, b4⟩⟩
   repeat refine vs ?_
   conv => whnf
   refine CallS.mk _ rfl true true _ (szBig_den n l k (by omega) hl) rfl ?_
   repeat refine vs ?_
   conv => whnf
   refine CallS.mk _ rfl true true _ (szBig_den p q _ (by omega) hq) rfl ?_
   repeat refine vs ?_
   conv => whnf
   first | rfl | exact ⟨rfl, rfl⟩ | exact ⟨by simp [toRes], rfl⟩
theorem eqRat_rfl (n : Bool) (l : List Int) (p : Bool) (q : List Int) (hl : l.length ≤ 1000000000000) (hq : q.length ≤ 1000000000000) : D 21 [ratR n l p q, ratR n l p q] true (.one (bP true)) := by
 refine go Tryz.func21 rfl rfl ?_
 repeat refine vs ?_
 conv => whnf
 refine CallS.mk _ rfl true true _ (eqBig_rfl n l hl) rfl ?_
 repeat refine vs ?_
 conv => whnf
 refine CallS.mk _ rfl true true _ (eqBig_rfl p q hq) rfl ?_
 repeat refine vs ?_
 conv => whnf
 first | rfl | exact ⟨rfl, rfl⟩ | exact ⟨by simp [toRes], rfl⟩
end Go.Vx
end
section
/- Chapter 3: intervals of two fractions; the good ones. -/
namespace Go.Vx
open Go.Proofs
set_option maxRecDepth 100000

abbrev spanR (na : Bool) (la : List Int) (pa : Bool) (qa : List Int) (nb : Bool) (lb : List Int) (pb : Bool) (qb : List Int) : PV :=
 (true, [.bool na, .ints la, .bool pa, .ints qa, .bool nb, .ints lb, .bool pb, .ints qb])
abbrev spanV (a b c d : Int) : PV := spanR (decide (a < 0)) (Lm.lim a.natAbs) (decide (b < 0)) (Lm.lim b.natAbs) (decide (c < 0)) (Lm.lim c.natAbs) (decide (d < 0)) (Lm.lim d.natAbs)

noncomputable def goodS (na : Bool) (la : List Int) (pa : Bool) (qa : List Int) (nb : Bool) (lb : List Int) (pb : Bool) (qb : List Int) : Bool :=
 (goodR na la pa qa && goodR nb lb pb qb) && decide (Lm.num na la * Lm.num pb qb ≤ Lm.num nb lb * Lm.num pa qa)
section
variable (na : Bool) (la : List Int) (pa : Bool) (qa : List Int) (nb : Bool) (lb : List Int) (pb : Bool) (qb : List Int) (h1 : la.length ≤ 1000000000000) (h2 : qa.length ≤ 1000000000000) (h3 : lb.length ≤ 1000000000000) (h4 : qb.length ≤ 1000000000000)
include h1 h2 h3 h4
theorem goodSpanI_den : D 127 [spanR na la pa qa nb lb pb qb] true (.one (bP (goodS na la pa qa nb lb pb qb))) := by
 have dB := areRats2_den na la pa qa nb lb pb qb h1 h2 h3 h4
 cases hg : goodR na la pa qa && goodR nb lb pb qb with
 | false =>
  have e : goodS na la pa qa nb lb pb qb = false := by unfold goodS; rw [hg]; rfl
  rw [hg] at dB
  rw [e]
  refine go Tryz.func127 rfl rfl ?_
  repeat refine vs ?_
  conv => whnf
  refine NewK.mk false ?_
  repeat refine vs ?_
  conv => whnf
  refine CallS.mk _ rfl true true _ (dB) rfl ?_
  repeat refine vs ?_
  conv => whnf
  first | rfl | exact ⟨rfl, rfl⟩ | exact ⟨by simp [toRes], rfl⟩
 | true =>
  have e : goodS na la pa qa nb lb pb qb = decide (Lm.num na la * Lm.num pb qb ≤ Lm.num nb lb * Lm.num pa qa) := by unfold goodS; rw [hg]; rfl
  rw [hg] at dB
  rw [e]
  rw [Bool.and_eq_true] at hg
  obtain ⟨g1, g2⟩ := hg
  obtain ⟨a, b, rfl, rfl, rfl, rfl, ha, hbl, hb, _⟩ := goodR_ex g1
  obtain ⟨c, d, rfl, rfl, rfl, rfl, hc, hdl, hd, _⟩ := goodR_ex g2
  simp only [Lm.num_lim]
  have dS := less_den c d a b (by omega) (by omega) (by omega) (by omega) (by omega) (by omega)
  refine go Tryz.func127 rfl rfl ?_
  by_cases h5 : a * d ≤ c * b
  ·rw [decide_eq_true h5]
   rw [decide_eq_false (by omega)] at dS
   repeat refine vs ?_
   conv => whnf
   refine NewK.mk false ?_
   repeat refine vs ?_
   conv => whnf
   refine CallS.mk _ rfl true true _ (dB) rfl ?_
   repeat refine vs ?_
   conv => whnf
   refine CallS.mk _ rfl true true _ (dS) rfl ?_
   repeat refine vs ?_
   conv => whnf
   first | rfl | exact ⟨rfl, rfl⟩ | exact ⟨by simp [toRes], rfl⟩
  ·rw [decide_eq_false h5]
   rw [decide_eq_true (by omega)] at dS
   repeat refine vs ?_
   conv => whnf
   refine NewK.mk false ?_
   repeat refine vs ?_
   conv => whnf
   refine CallS.mk _ rfl true true _ (dB) rfl ?_
   repeat refine vs ?_
   conv => whnf
   refine CallS.mk _ rfl true true _ (dS) rfl ?_
   repeat refine vs ?_
   conv => whnf
   first | rfl | exact ⟨rfl, rfl⟩ | exact ⟨by simp [toRes], rfl⟩
end
end Go.Vx
end
section
/- Chapter 3: several intervals that are good; sums, differences of any intervals. -/
namespace Go.Vx
open Go.Proofs
set_option maxRecDepth 100000

structure Q8 where
 na : Bool
 la : List Int
 pa : Bool
 qa : List Int
 nb : Bool
 lb : List Int
 pb : Bool
 qb : List Int
end Go.Vx
end
section
/- Chapter 3: the least and the greatest of several fractions; products, squares, joins. -/
namespace Go.Vx
open Go.Proofs
set_option maxRecDepth 100000

def cellR (q : Int × Int) : List PL := [.bool (decide (q.1 < 0)), .ints (Lm.lim q.1.natAbs), .bool (decide (q.2 < 0)), .ints (Lm.lim q.2.natAbs)]
def okF (K : Nat) (q : Int × Int) : Prop := 0 < q.2 ∧ Lm.ln q.1 ≤ K ∧ Lm.ln q.2 ≤ K
end Go.Vx
end
section
/- Chapter 3: powers of two, square roots rounded down, the interval of a root. -/
namespace Go.Vx
open Go.Proofs
set_option maxRecDepth 100000

theorem same_den (a b c d : Int) (hb : b ≠ 0) (hd : d ≠ 0) (ha : Lm.ln a ≤ 40000000000) (hbl : Lm.ln b ≤ 40000000000) (hc : Lm.ln c ≤ 40000000000) (hdl : Lm.ln d ≤ 40000000000) :
  D 81 [ratV a b, ratV c d] true (.one (bP (decide (a * d = c * b)))) := by
 have dC := compareRat_den a b c d hb hd ha hbl hc hdl
 have h : (cmpI (a * d) (c * b) = 0) ↔ a * d = c * b := by unfold cmpI; split <;> (try split) <;> omega
 refine go Tryz.func81 rfl rfl ?_
 by_cases h1 : a * d = c * b
 ·have h2 := h.2 h1
  rw [decide_eq_true h1]
  repeat refine vs ?_
  conv => whnf
  refine CallS.mk _ rfl true true _ (dC) rfl ?_
  repeat refine vs ?_
  conv => whnf
  first | rfl | exact ⟨rfl, rfl⟩ | exact ⟨by simp [toRes], rfl⟩
 ·have h2 := fun x => h1 (h.1 x)
  rw [decide_eq_false h1]
  repeat refine vs ?_
  conv => whnf
  refine CallS.mk _ rfl true true _ (dC) rfl ?_
  repeat refine vs ?_
  conv => whnf
  first | rfl | exact ⟨rfl, rfl⟩ | exact ⟨by simp [toRes], rfl⟩
end Go.Vx
end
section
/- The laws' own functions for intervals. -/
namespace Go.Vx
open Go.Proofs
set_option maxRecDepth 100000

theorem toSpan_den (na : Bool) (la : List Int) (pa : Bool) (qa : List Int) (nb : Bool) (lb : List Int) (pb : Bool) (qb : List Int) (h1 : la.length ≤ 1000000000000) (h2 : qa.length ≤ 1000000000000) (h3 : lb.length ≤ 1000000000000) (h4 : qb.length ≤ 1000000000000) :
  D 29 [spanR na la pa qa nb lb pb qb] true (.one (spanR na la pa qa nb lb pb qb)) := by
 refine go Tryz.func29 rfl rfl ?_
 repeat refine vs ?_
 conv => whnf
 refine CallS.mk _ rfl true true _ (toRat_den na la pa qa h1 h2) rfl ?_
 repeat refine vs ?_
 conv => whnf
 refine CallS.mk _ rfl true true _ (toRat_den nb lb pb qb h3 h4) rfl ?_
 repeat refine vs ?_
 conv => whnf
 first | rfl | exact ⟨rfl, rfl⟩ | exact ⟨by simp [toRes], rfl⟩
theorem szSpan_den (na : Bool) (la : List Int) (pa : Bool) (qa : List Int) (nb : Bool) (lb : List Int) (pb : Bool) (qb : List Int) (k : Int) (hk : 0 ≤ k ∧ k ≤ 1048576) (h1 : la.length ≤ 9223372036854775807) (h2 : qa.length ≤ 9223372036854775807) (h3 : lb.length ≤ 9223372036854775807) (h4 : qb.length ≤ 9223372036854775807) :
  ∃ s : Int, D 27 [spanR na la pa qa nb lb pb qb, iP k] true (.one (iP s)) ∧ (¬ s < 0 → la.length ≤ 1048576 ∧ qa.length ≤ 1048576 ∧ lb.length ≤ 1048576 ∧ qb.length ≤ 1048576 ∧ 0 ≤ s ∧ s ≤ 1048576) := by
 obtain ⟨s1, d1, k1⟩ := szRat_den na la pa qa k hk h1 h2
 by_cases c1 : s1 < 0
 ·refine ⟨-1, go Tryz.func27 rfl rfl ?_, fun h => by omega⟩
  repeat refine vs ?_
  conv => whnf
  refine CallS.mk _ rfl true true _ (d1) rfl ?_
  repeat refine vs ?_
  conv => whnf
  first | rfl | exact ⟨rfl, rfl⟩ | exact ⟨by simp [toRes], rfl⟩
 ·obtain ⟨a1, a2, a3, a4⟩ := k1 c1
  obtain ⟨s2, d2, k2⟩ := szRat_den nb lb pb qb s1 ⟨a3, a4⟩ h3 h4
  by_cases c2 : s2 < 0
  ·refine ⟨-1, go Tryz.func27 rfl rfl ?_, fun h => by omega⟩
   repeat refine vs ?_
   conv => whnf
   refine CallS.mk _ rfl true true _ (d1) rfl ?_
   repeat refine vs ?_
   conv => whnf
   refine CallS.mk _ rfl true true _ (d2) rfl ?_
   repeat refine vs ?_
   conv => whnf
   first | rfl | exact ⟨rfl, rfl⟩ | exact ⟨by simp [toRes], rfl⟩
  ·obtain ⟨b1, b2, b3, b4⟩ := k2 c2
   refine ⟨s2, go Tryz.func27 rfl rfl ?_, fun h => ⟨a1, a2, b1, b2, b3, b4⟩⟩
   repeat refine vs ?_
   conv => whnf
   refine CallS.mk _ rfl true true _ (d1) rfl ?_
   repeat refine vs ?_
   conv => whnf
   refine CallS.mk _ rfl true true _ (d2) rfl ?_
   repeat refine vs ?_
   conv => whnf
   first | rfl | exact ⟨rfl, rfl⟩ | exact ⟨by simp [toRes], rfl⟩
theorem eqSpan_rfl (na : Bool) (la : List Int) (pa : Bool) (qa : List Int) (nb : Bool) (lb : List Int) (pb : Bool) (qb : List Int) (h1 : la.length ≤ 1000000000000) (h2 : qa.length ≤ 1000000000000) (h3 : lb.length ≤ 1000000000000) (h4 : qb.length ≤ 1000000000000) :
  D 31 [spanR na la pa qa nb lb pb qb, spanR na la pa qa nb lb pb qb] true (.one (bP true)) := by
 refine go Tryz.func31 rfl rfl ?_
 repeat refine vs ?_
 conv => whnf
 refine CallS.mk _ rfl true true _ (eqRat_rfl na la pa qa h1 h2) rfl ?_
 repeat refine vs ?_
 conv => whnf
 refine CallS.mk _ rfl true true _ (eqRat_rfl nb lb pb qb h3 h4) rfl ?_
 repeat refine vs ?_
 conv => whnf
 first | rfl | exact ⟨rfl, rfl⟩ | exact ⟨by simp [toRes], rfl⟩
end Go.Vx
end
