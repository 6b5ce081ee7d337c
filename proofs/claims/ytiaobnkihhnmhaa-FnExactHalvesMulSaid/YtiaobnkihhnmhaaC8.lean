/- Chapter 1: products by halves, of any arguments. -/
import Derived.Test.YtiaobnkihhnmhaaC7
import Derived.Test.YtiaobnkihhnmhaaB14
namespace Go.Vx
open Go.Proofs
set_option maxRecDepth 100000

theorem halvesS_den (x y : Int) (hx : Lm.ln x ≤ 40) (hy : Lm.ln y ≤ 40) (g1 : goodB (decide (x < 0)) (Lm.lim x.natAbs) = true) (g2 : goodB (decide (y < 0)) (Lm.lim y.natAbs) = true) :
    D 28 [bigV x, bigV y] false (.tup [fitV (x * y), bP (decide (Lm.ln (x * y) ≤ 40))]) := by
  have hz : Lm.ln (x * y) ≤ 400000000000 := by have := Lm.ln_mul x y hx hy; omega
  have e1 : (Lm.lim x.natAbs).length ≤ 40 := hx
  have e2 : (Lm.lim y.natAbs).length ≤ 40 := hy
  have d1 := goodS_den (decide (x < 0)) (Lm.lim x.natAbs) (by omega)
  have d2 := goodS_den (decide (y < 0)) (Lm.lim y.natAbs) (by omega)
  rw [g1] at d1
  rw [g2] at d2
  have dH := l1Halves_den _ x.natAbs y.natAbs rfl (by omega) (by omega)
  have dM := l1Make_den (decide (x < 0) != decide (y < 0)) (Lm.lim (x.natAbs * y.natAbs)) (by have := mul_len x y; omega)
  rw [make_num, ← mul_sign] at dM
  have dF := l1Fits_den (x * y) hz
  have hf : ∃ n l, fitV (x * y) = rawV n l := by unfold fitV; split <;> exact ⟨_, _, rfl⟩
  obtain ⟨n, l, hf⟩ := hf
  rw [hf] at dF ⊢
  refine go Try.func28 rfl rfl ?_
  repeat refine vs ?_
  conv => whnf
  refine CallS.mk _ rfl true true _ (d1) rfl ?_
  repeat refine vs ?_
  conv => whnf
  refine CallS.mk _ rfl true true _ (d2) rfl ?_
  repeat refine vs ?_
  conv => whnf
  refine Bo.mk _ rfl ?_
  repeat refine vs ?_
  conv => whnf
  refine CallS.mk _ rfl true true _ (dH) rfl ?_
  repeat refine vs ?_
  conv => whnf
  refine CallS.mk _ rfl true false _ (dM) rfl ?_
  repeat refine vs ?_
  conv => whnf
  refine CallS.mk _ rfl false false _ (dF) rfl ?_
  repeat refine vs ?_
  conv => whnf
  first | rfl | exact ⟨rfl, rfl⟩ | exact ⟨by simp [toRes], rfl⟩

theorem halvesBoth (n1 : Bool) (l : List Int) (n2 : Bool) (m : List Int) (hl : l.length ≤ 1000000000000) (hm : m.length ≤ 1000000000000) : ∃ n r b, r.length ≤ 40 ∧ D 28 [rawV n1 l, rawV n2 m] false (.tup [rawV n r, bP b]) ∧ D 29 [rawV n1 l, rawV n2 m] true (.tup [rawV n r, bP b]) := by
  have dS1 := goodS_den n1 l hl
  have dS2 := goodS_den n2 m hm
  have dA := are2_den n1 n2 l m hl hm
  have wrap : ∀ {n r b}, D 27 [rawV n1 l, rawV n2 m] true (.tup [rawV n r, bP b]) → D 29 [rawV n1 l, rawV n2 m] true (.tup [rawV n r, bP b]) := by
    intro n r b d
    refine go Try.func29 rfl rfl ?_
    repeat refine vs ?_
    conv => whnf
    refine CallS.mk _ rfl true true _ (d) rfl ?_
    repeat refine vs ?_
    conv => whnf
    first | rfl | exact ⟨rfl, rfl⟩ | exact ⟨by simp [toRes], rfl⟩
  have fail : D 54 [(false, [.arr 2 [[.bool n1, .ints l], [.bool n2, .ints m]]])] true (.one (bP false)) → D 29 [rawV n1 l, rawV n2 m] true (.tup [rawV false [], bP false]) := by
    intro d
    refine wrap (go Try.func27 rfl rfl ?_)
    repeat refine vs ?_
    conv => whnf
    refine NewK.mk false ?_
    repeat refine vs ?_
    conv => whnf
    refine CallS.mk _ rfl true true _ (d) rfl ?_
    repeat refine vs ?_
    conv => whnf
    first | rfl | exact ⟨rfl, rfl⟩ | exact ⟨by simp [toRes], rfl⟩
  cases g1 : goodB n1 l with
  | false =>
    rw [g1] at dS1 dA
    refine ⟨false, [], false, by simp, go Try.func28 rfl rfl ?_, fail dA⟩
    repeat refine vs ?_
    conv => whnf
    refine CallS.mk _ rfl true true _ (dS1) rfl ?_
    repeat refine vs ?_
    conv => whnf
    first | rfl | exact ⟨rfl, rfl⟩ | exact ⟨by simp [toRes], rfl⟩
  | true =>
    cases g2 : goodB n2 m with
    | false =>
      rw [g1] at dS1 dA
      rw [g2] at dS2 dA
      refine ⟨false, [], false, by simp, go Try.func28 rfl rfl ?_, fail dA⟩
      repeat refine vs ?_
      conv => whnf
      refine CallS.mk _ rfl true true _ (dS1) rfl ?_
      repeat refine vs ?_
      conv => whnf
      refine CallS.mk _ rfl true true _ (dS2) rfl ?_
      repeat refine vs ?_
      conv => whnf
      first | rfl | exact ⟨rfl, rfl⟩ | exact ⟨by simp [toRes], rfl⟩
    | true =>
      have h1 : Lm.Good n1 l := by unfold goodB at g1; simpa using g1
      have h2 : Lm.Good n2 m := by unfold goodB at g2; simpa using g2
      have hx := good_ln h1
      have hy := good_ln h2
      have b1 : goodB (decide (Lm.num n1 l < 0)) (Lm.lim (Lm.num n1 l).natAbs) = true := goodB_true (Lm.good_lim hx)
      have b2 : goodB (decide (Lm.num n2 m < 0)) (Lm.lim (Lm.num n2 m).natAbs) = true := goodB_true (Lm.good_lim hy)
      have s := halvesS_den _ _ hx hy b1 b2
      have i := mulI_den _ _ hx hy b1 b2
      rw [← good_bigV h1, ← good_bigV h2] at s i
      generalize Lm.num n1 l * Lm.num n2 m = z at *
      unfold fitV at s i
      by_cases h : Lm.ln z ≤ 40
      · rw [if_pos h] at s i
        exact ⟨_, _, _, h, s, wrap i⟩
      · rw [if_neg h] at s i
        exact ⟨_, _, _, by simp, s, wrap i⟩
end Go.Vx
