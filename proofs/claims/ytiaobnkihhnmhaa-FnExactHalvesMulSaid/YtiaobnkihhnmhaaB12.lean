/- Chapter 1: sums and differences. -/
import Derived.Test.YtiaobnkihhnmhaaB11
namespace Go.Vx
open Go.Proofs
set_option maxRecDepth 100000

theorem make_num' {b : Bool} {l : List Int} {n : Nat} (h : Lm.cut l = Lm.lim n) : rawV (b && decide (Lm.cut l ≠ [])) (Lm.cut l) = bigV (if b then -(n : Int) else n) := by
  rw [← make_num, h, Lm.cut_lim]

/-- The sum of two numbers, by signs and sizes. -/
theorem add_cases (x y : Int) : (decide (x < 0) = decide (y < 0) ∧ x + y = (if decide (x < 0) then -((x.natAbs + y.natAbs : Nat) : Int) else ((x.natAbs + y.natAbs : Nat) : Int))) ∨
    (decide (x < 0) ≠ decide (y < 0) ∧ y.natAbs ≤ x.natAbs ∧ x + y = (if decide (x < 0) then -((x.natAbs - y.natAbs : Nat) : Int) else ((x.natAbs - y.natAbs : Nat) : Int))) ∨
    (decide (x < 0) ≠ decide (y < 0) ∧ ¬ y.natAbs ≤ x.natAbs ∧ x + y = (if decide (y < 0) then -((y.natAbs - x.natAbs : Nat) : Int) else ((y.natAbs - x.natAbs : Nat) : Int))) := by
  by_cases h1 : x < 0 <;> by_cases h2 : y < 0 <;> simp only [h1, h2, decide_true, decide_false, if_true, Bool.false_eq_true, if_false] <;> by_cases h3 : y.natAbs ≤ x.natAbs <;> simp [h3] <;> omega

theorem addL (m n : Nat) : Lm.cut (Lm.addF (Lm.lim m) (Lm.lim n) 0) = Lm.lim (m + n) := by
  rw [Lm.addF_lim (Lm.lim_dig _) (Lm.lim_dig _), Lm.val_lim, Lm.val_lim]
  congr 1
theorem subL {m n : Nat} (h : n ≤ m) : Lm.cut (Lm.subF (Lm.lim m) (Lm.lim n) 0) = Lm.lim (m - n) := by
  rw [Lm.subF_lim (Lm.lim_dig _) (Lm.lim_dig _) (by rw [Lm.val_lim, Lm.val_lim]; omega), Lm.val_lim, Lm.val_lim]
  congr 1
  omega
theorem lim_le {m n : Nat} (h : n ≤ m) : (Lm.lim n).length ≤ (Lm.lim m).length := by
  rw [Lm.lim_length]
  have := (Lm.lim_length m (Lm.lim m).length).1 (Nat.le_refl _)
  omega
theorem cmpI_ge {m n : Nat} : (0 ≤ cmpI (m : Int) (n : Int)) ↔ n ≤ m := by
  unfold cmpI
  split
  · omega
  · split <;> omega
theorem cutcut (l : List Int) (h : Lm.Dig l) : Lm.cut (Lm.cut l) = Lm.cut l := by rw [Lm.cut_eq h, Lm.cut_lim]

theorem l1Add_den (x y : Int) (hx : Lm.ln x ≤ 400000000000) (hy : Lm.ln y ≤ 400000000000) : D 58 [bigV x, bigV y] true (.one (bigV (x + y))) := by
  have h1 : (Lm.lim x.natAbs).length ≤ 400000000000 := hx
  have h2 : (Lm.lim y.natAbs).length ≤ 400000000000 := hy
  have eL := Lm.addF_len (a := Lm.lim x.natAbs) (b := Lm.lim y.natAbs) (c := 0)
  refine go Try.func58 rfl rfl ?_
  rcases add_cases x y with ⟨hs, hv⟩ | ⟨hs, hc, hv⟩ | ⟨hs, hc, hv⟩
  · have hb : (decide (x < 0) == decide (y < 0)) = true := by simpa using hs
    have dA := l1AddLimbs_den _ _ (Lm.lim_dig x.natAbs) (Lm.lim_dig y.natAbs) (by omega) (by omega)
    have dM := l1Make_den (decide (x < 0)) (Lm.addF (Lm.lim x.natAbs) (Lm.lim y.natAbs) 0) (by omega)
    rw [make_num' (addL _ _), ← hv] at dM
    repeat refine vs ?_
    conv => whnf
    refine CallS.mk _ rfl true true _ (dA) rfl ?_
    repeat refine vs ?_
    conv => whnf
    refine CallS.mk _ rfl true true _ (dM) rfl ?_
    repeat refine vs ?_
    conv => whnf
    first | rfl | exact ⟨rfl, rfl⟩ | exact ⟨by simp [toRes], rfl⟩
  · have hb : (decide (x < 0) == decide (y < 0)) = false := by simpa using hs
    have dC := l1Cmp_den _ _ (Lm.lim_can x.natAbs) (Lm.lim_can y.natAbs) (by omega) (by omega)
    rw [cmpI_lim] at dC
    have h3 := cmpI_ge.2 hc
    have dA := l1SubLimbs_den _ _ (Lm.lim_dig x.natAbs) (Lm.lim_dig y.natAbs) (by omega) (by omega)
    rw [subL hc] at dA
    have dM := l1Make_den (decide (x < 0)) (Lm.lim (x.natAbs - y.natAbs)) (by have := lim_le (Nat.sub_le x.natAbs y.natAbs); omega)
    rw [make_num, ← hv] at dM
    repeat refine vs ?_
    conv => whnf
    refine CallS.mk _ rfl true true _ (dC) rfl ?_
    repeat refine vs ?_
    conv => whnf
    refine CallS.mk _ rfl true true _ (dA) rfl ?_
    repeat refine vs ?_
    conv => whnf
    refine CallS.mk _ rfl true true _ (dM) rfl ?_
    repeat refine vs ?_
    conv => whnf
    first | rfl | exact ⟨rfl, rfl⟩ | exact ⟨by simp [toRes], rfl⟩
  · have hb : (decide (x < 0) == decide (y < 0)) = false := by simpa using hs
    have dC := l1Cmp_den _ _ (Lm.lim_can x.natAbs) (Lm.lim_can y.natAbs) (by omega) (by omega)
    rw [cmpI_lim] at dC
    have h3 := fun h => hc (cmpI_ge.1 h)
    have dA := l1SubLimbs_den _ _ (Lm.lim_dig y.natAbs) (Lm.lim_dig x.natAbs) (by omega) (by omega)
    rw [subL (by omega)] at dA
    have dM := l1Make_den (decide (y < 0)) (Lm.lim (y.natAbs - x.natAbs)) (by have := lim_le (Nat.sub_le y.natAbs x.natAbs); omega)
    rw [make_num, ← hv] at dM
    repeat refine vs ?_
    conv => whnf
    refine CallS.mk _ rfl true true _ (dC) rfl ?_
    repeat refine vs ?_
    conv => whnf
    refine CallS.mk _ rfl true true _ (dA) rfl ?_
    repeat refine vs ?_
    conv => whnf
    refine CallS.mk _ rfl true true _ (dM) rfl ?_
    repeat refine vs ?_
    conv => whnf
    first | rfl | exact ⟨rfl, rfl⟩ | exact ⟨by simp [toRes], rfl⟩

theorem add_den (x y : Int) (hx : Lm.ln x ≤ 400000000000) (hy : Lm.ln y ≤ 400000000000) : D 59 [bigV x, bigV y] true (.one (bigV (x + y))) := by
  have h1 : (Lm.lim x.natAbs).length ≤ 400000000000 := hx
  have h2 : (Lm.lim y.natAbs).length ≤ 400000000000 := hy
  have eL := Lm.addF_len (a := Lm.lim x.natAbs) (b := Lm.lim y.natAbs) (c := 0)
  refine go Try.func59 rfl rfl ?_
  rcases add_cases x y with ⟨hs, hv⟩ | ⟨hs, hc, hv⟩ | ⟨hs, hc, hv⟩
  · have hb : (decide (x < 0) == decide (y < 0)) = true := by simpa using hs
    have dA := addLimbs_den _ _ (Lm.lim_dig x.natAbs) (Lm.lim_dig y.natAbs) (by omega) (by omega)
    have dM := bigOf_den (decide (x < 0)) (Lm.addF (Lm.lim x.natAbs) (Lm.lim y.natAbs) 0) (by omega)
    rw [make_num' (addL _ _), ← hv] at dM
    repeat refine vs ?_
    conv => whnf
    refine CallS.mk _ rfl true true _ (dA) rfl ?_
    repeat refine vs ?_
    conv => whnf
    refine CallS.mk _ rfl true true _ (dM) rfl ?_
    repeat refine vs ?_
    conv => whnf
    first | rfl | exact ⟨rfl, rfl⟩ | exact ⟨by simp [toRes], rfl⟩
  · have hb : (decide (x < 0) == decide (y < 0)) = false := by simpa using hs
    have dC := compareLimbs_den _ _ (Lm.lim_can x.natAbs) (Lm.lim_can y.natAbs) (by omega) (by omega)
    rw [cmpI_lim] at dC
    have h3 := cmpI_ge.2 hc
    have dA := subLimbs_den _ _ (Lm.lim_dig x.natAbs) (Lm.lim_dig y.natAbs) (by omega) (lim_le hc)
    rw [subL hc] at dA
    have dM := bigOf_den (decide (x < 0)) (Lm.lim (x.natAbs - y.natAbs)) (by have := lim_le (Nat.sub_le x.natAbs y.natAbs); omega)
    rw [make_num, ← hv] at dM
    repeat refine vs ?_
    conv => whnf
    refine CallS.mk _ rfl true true _ (dC) rfl ?_
    repeat refine vs ?_
    conv => whnf
    refine CallS.mk _ rfl false false _ (dA) rfl ?_
    repeat refine vs ?_
    conv => whnf
    refine CallS.mk _ rfl true true _ (dM) rfl ?_
    repeat refine vs ?_
    conv => whnf
    first | rfl | exact ⟨rfl, rfl⟩ | exact ⟨by simp [toRes], rfl⟩
  · have hb : (decide (x < 0) == decide (y < 0)) = false := by simpa using hs
    have dC := compareLimbs_den _ _ (Lm.lim_can x.natAbs) (Lm.lim_can y.natAbs) (by omega) (by omega)
    rw [cmpI_lim] at dC
    have h3 := fun h => hc (cmpI_ge.1 h)
    have dA := subLimbs_den _ _ (Lm.lim_dig y.natAbs) (Lm.lim_dig x.natAbs) (by omega) (lim_le (by omega))
    rw [subL (by omega)] at dA
    have dM := bigOf_den (decide (y < 0)) (Lm.lim (y.natAbs - x.natAbs)) (by have := lim_le (Nat.sub_le y.natAbs x.natAbs); omega)
    rw [make_num, ← hv] at dM
    repeat refine vs ?_
    conv => whnf
    refine CallS.mk _ rfl true true _ (dC) rfl ?_
    repeat refine vs ?_
    conv => whnf
    refine CallS.mk _ rfl false false _ (dA) rfl ?_
    repeat refine vs ?_
    conv => whnf
    refine CallS.mk _ rfl true true _ (dM) rfl ?_
    repeat refine vs ?_
    conv => whnf
    first | rfl | exact ⟨rfl, rfl⟩ | exact ⟨by simp [toRes], rfl⟩

theorem l1Sub_den (x y : Int) (hx : Lm.ln x ≤ 400000000000) (hy : Lm.ln y ≤ 400000000000) : D 60 [bigV x, bigV y] true (.one (bigV (x - y))) := by
  refine go Try.func60 rfl rfl ?_
  repeat refine vs ?_
  conv => whnf
  refine CallS.mk _ rfl true true _ (l1Neg_den y (by omega)) rfl ?_
  repeat refine vs ?_
  conv => whnf
  refine CallS.mk _ rfl true true _ (l1Add_den x (-y) hx (by rw [Lm.ln_neg]; exact hy)) rfl ?_
  repeat refine vs ?_
  conv => whnf
  first | rfl | exact ⟨rfl, rfl⟩ | exact ⟨by simp [toRes], rfl⟩
theorem sub_den (x y : Int) (hx : Lm.ln x ≤ 400000000000) (hy : Lm.ln y ≤ 400000000000) : D 61 [bigV x, bigV y] true (.one (bigV (x - y))) := by
  refine go Try.func61 rfl rfl ?_
  repeat refine vs ?_
  conv => whnf
  refine CallS.mk _ rfl true true _ (neg_den y (by omega)) rfl ?_
  repeat refine vs ?_
  conv => whnf
  refine CallS.mk _ rfl true true _ (add_den x (-y) hx (by rw [Lm.ln_neg]; exact hy)) rfl ?_
  repeat refine vs ?_
  conv => whnf
  first | rfl | exact ⟨rfl, rfl⟩ | exact ⟨by simp [toRes], rfl⟩

/-- A number that is not too long, or nothing. -/
def fitV (x : Int) : PV := if Lm.ln x ≤ 40 then bigV x else rawV false []
theorem l1Fits_den (x : Int) (hx : Lm.ln x ≤ 400000000000) : D 52 [bigV x] false (.tup [fitV x, bP (decide (Lm.ln x ≤ 40))]) := by
  refine go Try.func52 rfl rfl ?_
  unfold fitV
  have hl : (Lm.lim x.natAbs).length = Lm.ln x := rfl
  by_cases h : Lm.ln x ≤ 40
  · rw [if_pos h, decide_eq_true h]
    repeat refine vs ?_
    conv => whnf
    first | rfl | exact ⟨rfl, rfl⟩ | exact ⟨by simp [toRes], rfl⟩
  · rw [if_neg h, decide_eq_false h]
    repeat refine vs ?_
    conv => whnf
    first | rfl | exact ⟨rfl, rfl⟩ | exact ⟨by simp [toRes], rfl⟩
theorem checked_m (x : Int) (hx : Lm.ln x ≤ 400000000000) : Dm 55 [bigV x] [bigV x] (.tup [(true, if Lm.ln x ≤ 40 then [.p (.bool (decide (x < 0))), .arg 1] else [.p (.bool false), .nil]), rB (decide (Lm.ln x ≤ 40))]) := by
  refine goM Try.func55 rfl rfl ?_
  have hl : (Lm.lim x.natAbs).length = Lm.ln x := rfl
  by_cases h : Lm.ln x ≤ 40
  · rw [if_pos h, decide_eq_true h]
    repeat refine vs ?_
    conv => whnf
    repeat' (first | exact True.intro | rfl | exact ramp_len | exact ⟨rfl, rfl⟩ | (simp only [List.length_set]; done) | omega | refine And.intro ?_ ?_ | refine Exists.intro _ (And.intro rfl ?_))
  · rw [if_neg h, decide_eq_false h]
    repeat refine vs ?_
    conv => whnf
    repeat' (first | exact True.intro | rfl | exact ramp_len | exact ⟨rfl, rfl⟩ | (simp only [List.length_set]; done) | omega | refine And.intro ?_ ?_ | refine Exists.intro _ (And.intro rfl ?_))
end Go.Vx
