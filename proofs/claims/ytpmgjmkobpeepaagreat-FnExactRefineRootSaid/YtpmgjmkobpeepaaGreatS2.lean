/- Chapter 3: intervals in new memory; points; sums, differences, inverses, widths. -/
import Derived.Test.YtpmgjmkobpeepaaGreatS1
set_option linter.unusedVariables false
set_option linter.unusedSectionVars false
set_option linter.unusedSimpArgs false
namespace Go.Vx
open Go.Proofs
set_option maxRecDepth 100000

theorem ownRat_den (x y : Int) (hy : 0 < y) (hx : Lm.ln x ≤ 400000000000) (hyl : Lm.ln y ≤ 400000000000) : D 97 [ratV x y] true (.one (ratV x y)) := by
  refine go Tryz.func97 rfl rfl ?_
  repeat refine vs ?_
  conv => whnf
  refine CallS.mk _ rfl true true _ (bigOfV_den x hx) rfl ?_
  repeat refine vs ?_
  conv => whnf
  refine CallS.mk _ rfl true true _ (bigOfP_den y (by omega) hyl) rfl ?_
  repeat refine vs ?_
  conv => whnf
  first | rfl | exact ⟨rfl, rfl⟩ | exact ⟨by simp [toRes], rfl⟩

/-- An interval that is not too long, or nothing. -/
def fitS (a b c d : Int) : Bool := fitR a b && fitR c d
def fitSV (a b c d : Int) : PV := if fitS a b c d then spanV a b c d else spanR false [] false [] false [] false []
theorem fitSV_ex (a b c d : Int) : ∃ na la pa qa nb lb pb qb, la.length ≤ 1000000 ∧ qa.length ≤ 1000000 ∧ lb.length ≤ 1000000 ∧ qb.length ≤ 1000000 ∧ fitSV a b c d = spanR na la pa qa nb lb pb qb := by
  unfold fitSV
  cases h : fitS a b c d with
  | true =>
    unfold fitS fitR at h
    simp only [Bool.and_eq_true, decide_eq_true_iff] at h
    obtain ⟨⟨h1, h2⟩, h3, h4⟩ := h
    exact ⟨_, _, _, _, _, _, _, _, Nat.le_trans h1 (by decide), Nat.le_trans h2 (by decide), Nat.le_trans h3 (by decide), Nat.le_trans h4 (by decide), rfl⟩
  | false => exact ⟨false, [], false, [], false, [], false, [], by simp, by simp, by simp, by simp, rfl⟩

section
variable (a b c d : Int) (hb : 0 < b) (hd : 0 < d) (ha : Lm.ln a ≤ 400000000000) (hbl : Lm.ln b ≤ 400000000000) (hc : Lm.ln c ≤ 400000000000) (hdl : Lm.ln d ≤ 400000000000)
include hb hd ha hbl hc hdl
theorem l3Fits_den : D 67 [spanV a b c d] true (.tup [fitSV a b c d, bP (fitS a b c d)]) := by
  have f1 := l2Fits_den a b hb ha hbl
  have f2 := l2Fits_den c d hd hc hdl
  unfold fitSV fitS
  unfold fitRV at f1 f2
  refine go Tryz.func67 rfl rfl ?_
  cases h1 : fitR a b with
  | true =>
    rw [h1] at f1
    cases h2 : fitR c d with
    | true =>
      rw [h2] at f2
      simp only [if_true] at f1 f2
      repeat refine vs ?_
      conv => whnf
      refine CallS.mk _ rfl true true _ (f1) rfl ?_
      repeat refine vs ?_
      conv => whnf
      refine CallS.mk _ rfl true true _ (f2) rfl ?_
      repeat refine vs ?_
      conv => whnf
      first | rfl | exact ⟨rfl, rfl⟩ | exact ⟨by simp [toRes], rfl⟩
    | false =>
      rw [h2] at f2
      simp only [if_true, Bool.false_eq_true, if_false] at f1 f2
      repeat refine vs ?_
      conv => whnf
      refine CallS.mk _ rfl true true _ (f1) rfl ?_
      repeat refine vs ?_
      conv => whnf
      refine CallS.mk _ rfl true true _ (f2) rfl ?_
      repeat refine vs ?_
      conv => whnf
      first | rfl | exact ⟨rfl, rfl⟩ | exact ⟨by simp [toRes], rfl⟩
  | false =>
    rw [h1] at f1
    cases h2 : fitR c d with
    | true =>
      rw [h2] at f2
      simp only [if_true, Bool.false_eq_true, if_false] at f1 f2
      repeat refine vs ?_
      conv => whnf
      refine CallS.mk _ rfl true true _ (f1) rfl ?_
      repeat refine vs ?_
      conv => whnf
      refine CallS.mk _ rfl true true _ (f2) rfl ?_
      repeat refine vs ?_
      conv => whnf
      first | rfl | exact ⟨rfl, rfl⟩ | exact ⟨by simp [toRes], rfl⟩
    | false =>
      rw [h2] at f2
      simp only [Bool.false_eq_true, if_false] at f1 f2
      repeat refine vs ?_
      conv => whnf
      refine CallS.mk _ rfl true true _ (f1) rfl ?_
      repeat refine vs ?_
      conv => whnf
      refine CallS.mk _ rfl true true _ (f2) rfl ?_
      repeat refine vs ?_
      conv => whnf
      first | rfl | exact ⟨rfl, rfl⟩ | exact ⟨by simp [toRes], rfl⟩
theorem checkedSpan_den : D 73 [ratV a b, ratV c d] true (.tup [fitSV a b c d, bP (fitS a b c d)]) := by
  have f1 := isShort_den a b 40 ha hbl
  have f2 := isShort_den c d 40 hc hdl
  have e1 : (decide (Lm.ln a ≤ 40) && decide (Lm.ln b ≤ 40)) = fitR a b := rfl
  have e2 : (decide (Lm.ln c ≤ 40) && decide (Lm.ln d ≤ 40)) = fitR c d := rfl
  rw [e1] at f1
  rw [e2] at f2
  have o1 := ownRat_den a b hb ha hbl
  have o2 := ownRat_den c d hd hc hdl
  unfold fitSV fitS
  refine go Tryz.func73 rfl rfl ?_
  cases h1 : fitR a b with
  | true =>
    rw [h1] at f1
    cases h2 : fitR c d with
    | true =>
      rw [h2] at f2
      repeat refine vs ?_
      conv => whnf
      refine CallS.mk _ rfl true true _ (f1) rfl ?_
      repeat refine vs ?_
      conv => whnf
      refine CallS.mk _ rfl true true _ (f2) rfl ?_
      repeat refine vs ?_
      conv => whnf
      refine CallS.mk _ rfl true true _ (o1) rfl ?_
      repeat refine vs ?_
      conv => whnf
      refine CallS.mk _ rfl true true _ (o2) rfl ?_
      repeat refine vs ?_
      conv => whnf
      first | rfl | exact ⟨rfl, rfl⟩ | exact ⟨by simp [toRes], rfl⟩
    | false =>
      rw [h2] at f2
      repeat refine vs ?_
      conv => whnf
      refine CallS.mk _ rfl true true _ (f1) rfl ?_
      repeat refine vs ?_
      conv => whnf
      refine CallS.mk _ rfl true true _ (f2) rfl ?_
      repeat refine vs ?_
      conv => whnf
      first | rfl | exact ⟨rfl, rfl⟩ | exact ⟨by simp [toRes], rfl⟩
  | false =>
    rw [h1] at f1
    repeat refine vs ?_
    conv => whnf
    refine CallS.mk _ rfl true true _ (f1) rfl ?_
    repeat refine vs ?_
    conv => whnf
    first | rfl | exact ⟨rfl, rfl⟩ | exact ⟨by simp [toRes], rfl⟩
end

/-- A fraction in an interval. -/
def inB (a b c d x y : Int) : Bool := decide (a * y ≤ x * b) && decide (x * d ≤ c * y)
section
variable (a b c d x y : Int) (hb : 0 < b) (hd : 0 < d) (hy : 0 < y) (ha : Lm.ln a ≤ 40000000000) (hbl : Lm.ln b ≤ 40000000000) (hc : Lm.ln c ≤ 40000000000) (hdl : Lm.ln d ≤ 40000000000) (hx : Lm.ln x ≤ 40000000000) (hyl : Lm.ln y ≤ 40000000000)
include hb hd hy ha hbl hc hdl hx hyl
end

section
variable (na : Bool) (la : List Int) (pa : Bool) (qa : List Int) (nb : Bool) (lb : List Int) (pb : Bool) (qb : List Int)
end
end Go.Vx
