/- Chapter 3: intervals of two fractions; the good ones. -/
import Derived.Test.YtpmgjmkobpeepaaGreatR5
set_option linter.unusedVariables false
set_option linter.unusedSectionVars false
set_option linter.unusedSimpArgs false
namespace Go.Vx
open Go.Proofs
set_option maxRecDepth 100000

abbrev spanR (na : Bool) (la : List Int) (pa : Bool) (qa : List Int) (nb : Bool) (lb : List Int) (pb : Bool) (qb : List Int) : PV :=
  (true, [.bool na, .ints la, .bool pa, .ints qa, .bool nb, .ints lb, .bool pb, .ints qb])
abbrev spanV (a b c d : Int) : PV := spanR (decide (a < 0)) (Lm.lim a.natAbs) (decide (b < 0)) (Lm.lim b.natAbs) (decide (c < 0)) (Lm.lim c.natAbs) (decide (d < 0)) (Lm.lim d.natAbs)

noncomputable def goodS (na : Bool) (la : List Int) (pa : Bool) (qa : List Int) (nb : Bool) (lb : List Int) (pb : Bool) (qb : List Int) : Bool :=
  (goodR na la pa qa && goodR nb lb pb qb) && decide (Lm.num na la * Lm.num pb qb ≤ Lm.num nb lb * Lm.num pa qa)
theorem goodS_ex {na : Bool} {la : List Int} {pa : Bool} {qa : List Int} {nb : Bool} {lb : List Int} {pb : Bool} {qb : List Int} (h : goodS na la pa qa nb lb pb qb = true) :
    ∃ a b c d : Int, na = decide (a < 0) ∧ la = Lm.lim a.natAbs ∧ pa = decide (b < 0) ∧ qa = Lm.lim b.natAbs ∧ nb = decide (c < 0) ∧ lb = Lm.lim c.natAbs ∧ pb = decide (d < 0) ∧ qb = Lm.lim d.natAbs ∧
      Lm.ln a ≤ 40 ∧ Lm.ln b ≤ 40 ∧ Lm.ln c ≤ 40 ∧ Lm.ln d ≤ 40 ∧ 0 < b ∧ 0 < d ∧ Int.gcd a b = 1 ∧ Int.gcd c d = 1 ∧ a * d ≤ c * b := by
  unfold goodS at h
  rw [Bool.and_eq_true, Bool.and_eq_true, decide_eq_true_iff] at h
  obtain ⟨⟨h1, h2⟩, h3⟩ := h
  obtain ⟨a, b, rfl, rfl, rfl, rfl, k1, k2, k3, k4⟩ := goodR_ex h1
  obtain ⟨c, d, rfl, rfl, rfl, rfl, l1, l2, l3, l4⟩ := goodR_ex h2
  simp only [Lm.num_lim] at h3
  exact ⟨a, b, c, d, rfl, rfl, rfl, rfl, rfl, rfl, rfl, rfl, k1, k2, l1, l2, k3, l3, k4, l4, h3⟩

section
variable (na : Bool) (la : List Int) (pa : Bool) (qa : List Int) (nb : Bool) (lb : List Int) (pb : Bool) (qb : List Int) (h1 : la.length ≤ 1000000000000) (h2 : qa.length ≤ 1000000000000) (h3 : lb.length ≤ 1000000000000) (h4 : qb.length ≤ 1000000000000)
include h1 h2 h3 h4
theorem goodSpanI_den : D 127 [spanR na la pa qa nb lb pb qb] true (.one (bP (goodS na la pa qa nb lb pb qb))) := by
  have dB := areRats2_den na la pa qa nb lb pb qb h1 h2 h3 h4
  cases hg : goodR na la pa qa && goodR nb lb pb qb with
  | false =>
    have e : goodS na la pa qa nb lb pb qb = false := by unfold goodS; rw [hg]; rfl
    rw [hg] at dB
    rw [e]
    refine go Tryz.func127 rfl rfl ?_
    repeat refine vs ?_
    conv => whnf
    refine NewK.mk false ?_
    repeat refine vs ?_
    conv => whnf
    refine CallS.mk _ rfl true true _ (dB) rfl ?_
    repeat refine vs ?_
    conv => whnf
    first | rfl | exact ⟨rfl, rfl⟩ | exact ⟨by simp [toRes], rfl⟩
  | true =>
    have e : goodS na la pa qa nb lb pb qb = decide (Lm.num na la * Lm.num pb qb ≤ Lm.num nb lb * Lm.num pa qa) := by unfold goodS; rw [hg]; rfl
    rw [hg] at dB
    rw [e]
    rw [Bool.and_eq_true] at hg
    obtain ⟨g1, g2⟩ := hg
    obtain ⟨a, b, rfl, rfl, rfl, rfl, ha, hbl, hb, _⟩ := goodR_ex g1
    obtain ⟨c, d, rfl, rfl, rfl, rfl, hc, hdl, hd, _⟩ := goodR_ex g2
    simp only [Lm.num_lim]
    have dS := less_den c d a b (by omega) (by omega) (by omega) (by omega) (by omega) (by omega)
    refine go Tryz.func127 rfl rfl ?_
    by_cases h5 : a * d ≤ c * b
    · rw [decide_eq_true h5]
      rw [decide_eq_false (by omega)] at dS
      repeat refine vs ?_
      conv => whnf
      refine NewK.mk false ?_
      repeat refine vs ?_
      conv => whnf
      refine CallS.mk _ rfl true true _ (dB) rfl ?_
      repeat refine vs ?_
      conv => whnf
      refine CallS.mk _ rfl true true _ (dS) rfl ?_
      repeat refine vs ?_
      conv => whnf
      first | rfl | exact ⟨rfl, rfl⟩ | exact ⟨by simp [toRes], rfl⟩
    · rw [decide_eq_false h5]
      rw [decide_eq_true (by omega)] at dS
      repeat refine vs ?_
      conv => whnf
      refine NewK.mk false ?_
      repeat refine vs ?_
      conv => whnf
      refine CallS.mk _ rfl true true _ (dB) rfl ?_
      repeat refine vs ?_
      conv => whnf
      refine CallS.mk _ rfl true true _ (dS) rfl ?_
      repeat refine vs ?_
      conv => whnf
      first | rfl | exact ⟨rfl, rfl⟩ | exact ⟨by simp [toRes], rfl⟩
end
end Go.Vx
