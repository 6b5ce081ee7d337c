/- Q6, Q7, Q8 -/
import Derived.Test.YtpmgjmkobpeepaaGreatQGc
set_option linter.unusedVariables false
set_option linter.unusedSectionVars false
set_option linter.unusedSimpArgs false
section
/- ShiftPoly and BudanCount. -/
namespace Go.Vx
open Go.Proofs
set_option maxRecDepth 100000

theorem lowT.mono {K M : Nat} {x : Int × Int} (h : lowT K x) (hk : K ≤ M) : lowT M x := ⟨h.1.mono hk, h.2⟩
end Go.Vx
end
section
/- BudanCount. -/
namespace Go.Vx
open Go.Proofs
set_option maxRecDepth 100000

noncomputable def leQ (a b : RawQ) : Bool := decide (Lm.num a.n a.l * Lm.num b.p b.q ≤ Lm.num b.n b.l * Lm.num a.p a.q)
noncomputable def betw (rs : List RawQ) (a b : RawQ) : Bool := rootsQ rs && (okQ 4 a && (okQ 4 b && leQ a b))
theorem leQ_qF (x y : Int × Int) : leQ (qF x) (qF y) = decide (x.1 * y.2 ≤ y.1 * x.2) := by
 unfold leQ qF
 simp only [Lm.num_lim]
abbrev ratQ (r : RawQ) : PV := ratR r.n r.l r.p r.q
theorem l5Between_den (rs : List RawQ) (a b : RawQ) (hrs : shortP 1000000000000 rs) (ha1 : a.l.length ≤ 1000000000000) (ha2 : a.q.length ≤ 1000000000000) (hb1 : b.l.length ≤ 1000000000000) (hb2 : b.q.length ≤ 1000000000000) :
  D 155 [polQ rs, ratQ a, ratQ b] true (.one (bP (betw rs a b))) := by
 have gS := rootsS_den rs hrs
 have pa := l5Place_den a ha1 ha2
 have pb := l5Place_den b hb1 hb2
 unfold betw
 refine go Tryz.func155 rfl rfl ?_
 cases h1 : rootsQ rs with
 | false =>
  rw [h1] at gS
  repeat refine vs ?_
  conv => whnf
  refine CallS.mk _ rfl true true _ (gS) rfl ?_
  repeat refine vs ?_
  conv => whnf
  first | rfl | exact ⟨rfl, rfl⟩ | exact ⟨by simp [toRes], rfl⟩
 | true =>
  rw [h1] at gS
  cases h2 : okQ 4 a with
  | false =>
   rw [h2] at pa
   repeat refine vs ?_
   conv => whnf
   refine CallS.mk _ rfl true true _ (gS) rfl ?_
   repeat refine vs ?_
   conv => whnf
   refine CallS.mk _ rfl true true _ (pa) rfl ?_
   repeat refine vs ?_
   conv => whnf
   first | rfl | exact ⟨rfl, rfl⟩ | exact ⟨by simp [toRes], rfl⟩
  | true =>
   rw [h2] at pa
   cases h3 : okQ 4 b with
   | false =>
    rw [h3] at pb
    repeat refine vs ?_
    conv => whnf
    refine CallS.mk _ rfl true true _ (gS) rfl ?_
    repeat refine vs ?_
    conv => whnf
    refine CallS.mk _ rfl true true _ (pa) rfl ?_
    repeat refine vs ?_
    conv => whnf
    refine CallS.mk _ rfl true true _ (pb) rfl ?_
    repeat refine vs ?_
    conv => whnf
    first | rfl | exact ⟨rfl, rfl⟩ | exact ⟨by simp [toRes], rfl⟩
   | true =>
    rw [h3] at pb
    obtain ⟨x, rfl, hx⟩ := okQ_ex h2
    obtain ⟨y, rfl, hy⟩ := okQ_ex h3
    have dC := l2Cmp_den x.1 x.2 y.1 y.2 (by have := hx.1.1; omega) (by have := hy.1.1; omega) (Nat.le_trans hx.1.2.1 (by omega)) (Nat.le_trans hx.1.2.2 (by omega)) (Nat.le_trans hy.1.2.1 (by omega)) (Nat.le_trans hy.1.2.2 (by omega))
    rw [leQ_qF]
    have hc : (cmpI (x.1 * y.2) (y.1 * x.2) ≤ 0) ↔ x.1 * y.2 ≤ y.1 * x.2 := by unfold cmpI; split <;> (try split) <;> omega
    by_cases h4 : x.1 * y.2 ≤ y.1 * x.2
    ·have h5 := hc.2 h4
     rw [decide_eq_true h4]
     repeat refine vs ?_
     conv => whnf
     refine CallS.mk _ rfl true true _ (gS) rfl ?_
     repeat refine vs ?_
     conv => whnf
     refine CallS.mk _ rfl true true _ (pa) rfl ?_
     repeat refine vs ?_
     conv => whnf
     refine CallS.mk _ rfl true true _ (pb) rfl ?_
     repeat refine vs ?_
     conv => whnf
     refine CallS.mk _ rfl true true _ (dC) rfl ?_
     repeat refine vs ?_
     conv => whnf
     first | rfl | exact ⟨rfl, rfl⟩ | exact ⟨by simp [toRes], rfl⟩
    ·have h5 : ¬ cmpI (x.1 * y.2) (y.1 * x.2) ≤ 0 := fun h => h4 (hc.1 h)
     rw [decide_eq_false h4]
     repeat refine vs ?_
     conv => whnf
     refine CallS.mk _ rfl true true _ (gS) rfl ?_
     repeat refine vs ?_
     conv => whnf
     refine CallS.mk _ rfl true true _ (pa) rfl ?_
     repeat refine vs ?_
     conv => whnf
     refine CallS.mk _ rfl true true _ (pb) rfl ?_
     repeat refine vs ?_
     conv => whnf
     refine CallS.mk _ rfl true true _ (dC) rfl ?_
     repeat refine vs ?_
     conv => whnf
     first | rfl | exact ⟨rfl, rfl⟩ | exact ⟨by simp [toRes], rfl⟩
theorem betw_ex {rs : List RawQ} {a b : RawQ} (h : betw rs a b = true) : ∃ (fs : List (Int × Int)) (x y : Int × Int), rs = fs.map qF ∧ a = qF x ∧ b = qF y ∧ fs.length ≤ 5 ∧ 2 ≤ fs.length ∧ (∀ f ∈ fs, lowT 1 f) ∧ (∀ f, fs.getLast? = some f → f.1 ≠ 0) ∧ lowT 4 x ∧ lowT 4 y ∧ x.1 * y.2 ≤ y.1 * x.2 := by
 unfold betw at h
 simp only [Bool.and_eq_true] at h
 obtain ⟨h1, h2, h3, h4⟩ := h
 obtain ⟨fs, rfl, g1, g2, g3, g4⟩ := rootsQ_ex h1
 obtain ⟨x, rfl, hx⟩ := okQ_ex h2
 obtain ⟨y, rfl, hy⟩ := okQ_ex h3
 rw [leQ_qF, decide_eq_true_iff] at h4
 exact ⟨fs, x, y, rfl, rfl, rfl, g1, g2, g3, g4, hx, hy, h4⟩
end Go.Vx
end
