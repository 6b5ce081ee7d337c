/- BigText and RatText. -/
import Derived.Test.YthholhhohlnlnaaDoorX3
import Derived.Test.YthholhhohlnlnaaDoorC7
import Derived.Test.YthholhhohlnlnaaDoorR2
set_option linter.unusedVariables false
set_option linter.unusedSectionVars false
set_option linter.unusedSimpArgs false
namespace Go.Vx
open Go.Proofs
set_option maxRecDepth 100000

def textR (x y : Int) : List UInt8 := if y = 1 then textF x else textF x ++ [47] ++ textF y
theorem bigTextBoth (n : Bool) (l : List Int) (hl : l.length ≤ 1000000000000) :
    ∃ t b, D 7 [rawV n l] false (.tup [sP t, bP b]) ∧ D 9 [rawV n l] true (.tup [sP t, bP b]) := by
  have gS := goodS_den n l hl
  have gI := goodI_den n l hl
  cases hg : goodB n l with
  | false =>
    rw [hg] at gS gI
    refine ⟨[], false, go Tryd.func7 rfl rfl ?_, go Tryd.func9 rfl rfl ?_⟩
    · repeat refine vs ?_
      conv => whnf
      refine CallS.mk _ rfl true true _ (gS) rfl ?_
      repeat refine vs ?_
      conv => whnf
      first | rfl | exact ⟨rfl, rfl⟩ | exact ⟨by simp [toRes], rfl⟩
    · repeat refine vs ?_
      conv => whnf
      refine CallS.mk _ rfl true true _ (gI) rfl ?_
      repeat refine vs ?_
      conv => whnf
      first | rfl | exact ⟨rfl, rfl⟩ | exact ⟨by simp [toRes], rfl⟩
  | true =>
    rw [hg] at gS gI
    obtain ⟨x, rfl, rfl, hx, _⟩ := good_ex hg
    refine ⟨textF x, true, go Tryd.func7 rfl rfl ?_, go Tryd.func9 rfl rfl ?_⟩
    · repeat refine vs ?_
      conv => whnf
      refine CallS.mk _ rfl true true _ (gS) rfl ?_
      repeat refine vs ?_
      conv => whnf
      refine CallS.mk _ rfl true true _ (l1Text_den x hx) rfl ?_
      repeat refine vs ?_
      conv => whnf
      first | rfl | exact ⟨rfl, rfl⟩ | exact ⟨by simp [toRes], rfl⟩
    · repeat refine vs ?_
      conv => whnf
      refine CallS.mk _ rfl true true _ (gI) rfl ?_
      repeat refine vs ?_
      conv => whnf
      refine CallS.mk _ rfl true true _ (text_den x hx) rfl ?_
      repeat refine vs ?_
      conv => whnf
      first | rfl | exact ⟨rfl, rfl⟩ | exact ⟨by simp [toRes], rfl⟩
section
variable (x y : Int) (hx : Lm.ln x ≤ 40) (hy : Lm.ln y ≤ 40) (hy0 : 0 < y)
include hx hy hy0
theorem l2Text_den : D 41 [ratV x y] true (.one (sP (textR x y))) := by
  have e1 : Lm.lim 1 = [1] := by rw [Lm.lim_pos (by omega), show 1 / 65536 = 0 by decide, Lm.lim_zero]; rfl
  have dC := l1Cmp_den (Lm.lim y.natAbs) (Lm.lim 1) (Lm.lim_can _) (Lm.lim_can _) (Nat.le_trans hy (by omega)) (by rw [e1]; simp)
  rw [Lm.val_lim, Lm.val_lim, e1, show ((y.natAbs : Nat) : Int) = y by omega] at dC
  have dX := l1Text_den x hx
  have dY := l1Text_den y hy
  have l1 := textF_len hx
  have l2 := textF_len hy
  have hc : cmpI y ((1 : Nat) : Int) = 0 ↔ y = 1 := by unfold cmpI; split <;> (try split) <;> omega
  refine go Tryd.func41 rfl rfl ?_
  unfold textR
  by_cases h1 : y = 1
  · have h2 := hc.2 h1
    rw [if_pos h1]
    repeat refine vs ?_
    conv => whnf
    refine NewK.mk false ?_
    repeat refine vs ?_
    conv => whnf
    refine CallS.mk _ rfl true true _ (dC) rfl ?_
    repeat refine vs ?_
    conv => whnf
    refine CallS.mk _ rfl true true _ (dX) rfl ?_
    repeat refine vs ?_
    conv => whnf
    first | rfl | exact ⟨rfl, rfl⟩ | exact ⟨by simp [toRes], rfl⟩
  · have h2 := fun h => h1 (hc.1 h)
    rw [if_neg h1]
    repeat refine vs ?_
    conv => whnf
    refine NewK.mk false ?_
    repeat refine vs ?_
    conv => whnf
    refine CallS.mk _ rfl true true _ (dC) rfl ?_
    repeat refine vs ?_
    conv => whnf
    refine CallS.mk _ rfl true true _ (dX) rfl ?_
    repeat refine vs ?_
    conv => whnf
    refine CatS.mk (strL (textF x ++ [47])) (by rw [strL_size]; show (textF x).length + 1 ≤ _; omega) (strL_app _ [47]) ?_
    repeat refine vs ?_
    conv => whnf
    refine CallS.mk _ rfl true true _ (dY) rfl ?_
    repeat refine vs ?_
    conv => whnf
    refine CatS.mk (strL (textF x ++ [47] ++ textF y)) (by rw [strL_size, strL_size]; simp; omega) (strL_app _ _) ?_
    repeat refine vs ?_
    conv => whnf
    first | rfl | exact ⟨rfl, rfl⟩ | exact ⟨by simp [toRes], rfl⟩
theorem ratText_den : D 43 [ratV x y] true (.one (sP (textR x y))) := by
  have dB := bigOfI_den 1 (by omega) (by omega)
  have dC := compareBig_den y 1 (Nat.le_trans hy (by omega)) (by have : Lm.ln 1 ≤ 1 := (Lm.ln_le 1 1).2 (by decide); omega)
  have dX := text_den x hx
  have dY := text_den y hy
  have l1 := textF_len hx
  have l2 := textF_len hy
  have hc : cmpI y 1 = 0 ↔ y = 1 := by unfold cmpI; split <;> (try split) <;> omega
  refine go Tryd.func43 rfl rfl ?_
  unfold textR
  by_cases h1 : y = 1
  · have h2 := hc.2 h1
    rw [if_pos h1]
    repeat refine vs ?_
    conv => whnf
    refine CallS.mk _ rfl true false _ (dB) rfl ?_
    repeat refine vs ?_
    conv => whnf
    refine CallS.mk _ rfl true true _ (dC) rfl ?_
    repeat refine vs ?_
    conv => whnf
    refine CallS.mk _ rfl true true _ (dX) rfl ?_
    repeat refine vs ?_
    conv => whnf
    first | rfl | exact ⟨rfl, rfl⟩ | exact ⟨by simp [toRes], rfl⟩
  · have h2 := fun h => h1 (hc.1 h)
    rw [if_neg h1]
    repeat refine vs ?_
    conv => whnf
    refine CallS.mk _ rfl true false _ (dB) rfl ?_
    repeat refine vs ?_
    conv => whnf
    refine CallS.mk _ rfl true true _ (dC) rfl ?_
    repeat refine vs ?_
    conv => whnf
    refine CallS.mk _ rfl true true _ (dX) rfl ?_
    repeat refine vs ?_
    conv => whnf
    refine CatS.mk (strL (textF x ++ [47])) (by rw [strL_size]; show (textF x).length + 1 ≤ _; omega) (strL_app _ [47]) ?_
    repeat refine vs ?_
    conv => whnf
    refine CallS.mk _ rfl true true _ (dY) rfl ?_
    repeat refine vs ?_
    conv => whnf
    refine CatS.mk (strL (textF x ++ [47] ++ textF y)) (by rw [strL_size, strL_size]; simp; omega) (strL_app _ _) ?_
    repeat refine vs ?_
    conv => whnf
    first | rfl | exact ⟨rfl, rfl⟩ | exact ⟨by simp [toRes], rfl⟩
end
theorem ratTextBoth (n : Bool) (l : List Int) (p : Bool) (q : List Int) (hl : l.length ≤ 1000000000000) (hq : q.length ≤ 1000000000000) :
    ∃ t b, D 16 [ratR n l p q] false (.tup [sP t, bP b]) ∧ D 18 [ratR n l p q] true (.tup [sP t, bP b]) := by
  have gS := goodRatS_den n l p q hl hq
  have gI := goodRatI_den n l p q hl hq
  cases hg : goodR n l p q with
  | false =>
    rw [hg] at gS gI
    refine ⟨[], false, go Tryd.func16 rfl rfl ?_, go Tryd.func18 rfl rfl ?_⟩
    · repeat refine vs ?_
      conv => whnf
      refine CallS.mk _ rfl true true _ (gS) rfl ?_
      repeat refine vs ?_
      conv => whnf
      first | rfl | exact ⟨rfl, rfl⟩ | exact ⟨by simp [toRes], rfl⟩
    · repeat refine vs ?_
      conv => whnf
      refine CallS.mk _ rfl true true _ (gI) rfl ?_
      repeat refine vs ?_
      conv => whnf
      first | rfl | exact ⟨rfl, rfl⟩ | exact ⟨by simp [toRes], rfl⟩
  | true =>
    rw [hg] at gS gI
    obtain ⟨x, y, rfl, rfl, rfl, rfl, h1, h2, h3, h4⟩ := goodR_ex hg
    refine ⟨textR x y, true, go Tryd.func16 rfl rfl ?_, go Tryd.func18 rfl rfl ?_⟩
    · repeat refine vs ?_
      conv => whnf
      refine CallS.mk _ rfl true true _ (gS) rfl ?_
      repeat refine vs ?_
      conv => whnf
      refine CallS.mk _ rfl true true _ (l2Text_den x y h1 h2 h3) rfl ?_
      repeat refine vs ?_
      conv => whnf
      first | rfl | exact ⟨rfl, rfl⟩ | exact ⟨by simp [toRes], rfl⟩
    · repeat refine vs ?_
      conv => whnf
      refine CallS.mk _ rfl true true _ (gI) rfl ?_
      repeat refine vs ?_
      conv => whnf
      refine CallS.mk _ rfl true true _ (ratText_den x y h1 h2 h3) rfl ?_
      repeat refine vs ?_
      conv => whnf
      first | rfl | exact ⟨rfl, rfl⟩ | exact ⟨by simp [toRes], rfl⟩
end Go.Vx
