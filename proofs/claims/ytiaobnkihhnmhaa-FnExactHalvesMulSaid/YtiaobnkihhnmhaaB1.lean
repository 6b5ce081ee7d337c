/- Chapter 1, the small ones. -/
import Derived.Test.YtiaobnkihhnmhaaB0
namespace Go.Vx
open Go.Proofs
set_option maxRecDepth 100000

theorem within_den (n lo hi : Int) : D 43 [iP n, iP lo, iP hi] true (.one (bP (decide (lo ≤ n ∧ n ≤ hi)))) := by
  refine go Try.func43 rfl rfl ?_
  repeat refine vs ?_
  conv => whnf
  by_cases h1 : n ≥ lo
  · repeat refine vs ?_
    conv => whnf
    by_cases h2 : n ≤ hi
    · repeat refine vs ?_
      conv => whnf
      exact ⟨by simp [toRes]; omega, rfl⟩
    · repeat refine vs ?_
      conv => whnf
      exact ⟨by simp [toRes]; omega, rfl⟩
  · repeat refine vs ?_
    conv => whnf
    exact ⟨by simp [toRes]; omega, rfl⟩
theorem l1In_den (n lo hi : Int) : D 39 [iP n, iP lo, iP hi] true (.one (bP (decide (lo ≤ n ∧ n ≤ hi)))) := by
  refine go Try.func39 rfl rfl ?_
  repeat refine vs ?_
  conv => whnf
  by_cases h1 : n ≥ lo
  · repeat refine vs ?_
    conv => whnf
    by_cases h2 : n ≤ hi
    · repeat refine vs ?_
      conv => whnf
      exact ⟨by simp [toRes]; omega, rfl⟩
    · repeat refine vs ?_
      conv => whnf
      exact ⟨by simp [toRes]; omega, rfl⟩
  · repeat refine vs ?_
    conv => whnf
    exact ⟨by simp [toRes]; omega, rfl⟩

theorem l1Limb_den (l : List Int) (i : Int) (h0 : 0 ≤ i) (hl : l.length ≤ 1000000000000) : D 86 [lP l, iP i] true (.one (iP (l.getD i.toNat 0))) := by
  refine go Try.func86 rfl rfl ?_
  repeat refine vs ?_
  conv => whnf
  by_cases h1 : i < (l.length : Int)
  · repeat refine vs ?_
    conv => whnf
    first | refine Idx.mk (i.toNat) (by first | rfl | omega) (by omega) ?_ | skip
    repeat refine vs ?_
    conv => whnf
    first | refine LdI.mk (_) (List.getElem?_eq_getElem (by omega : i.toNat < l.length)) ?_ | skip
    repeat refine vs ?_
    conv => whnf
    exact ⟨by simp [toRes, List.getD, List.getElem?_eq_getElem (by omega : i.toNat < l.length)], rfl⟩
  · repeat refine vs ?_
    conv => whnf
    exact ⟨by simp [toRes, List.getD, List.getElem?_eq_none (by omega : l.length ≤ i.toNat)], rfl⟩

theorem isNaN_den (n : Int) : D 85 [iP n] true (.one (bP false)) := by
  refine go Try.func85 rfl rfl ?_
  repeat refine vs ?_
  conv => whnf
  rfl
def cmpI (a b : Int) : Int := if a < b then -1 else if a > b then 1 else 0
theorem cmp_den (a b : Int) : D 69 [iP a, iP b] true (.one (iP (cmpI a b))) := by
  refine go Try.func69 rfl rfl ?_
  repeat refine vs ?_
  conv => whnf
  refine CallS.mk _ rfl true true _ (isNaN_den a) rfl ?_
  repeat refine vs ?_
  conv => whnf
  refine CallS.mk _ rfl true true _ (isNaN_den b) rfl ?_
  repeat refine vs ?_
  conv => whnf
  by_cases h1 : a < b
  · repeat refine vs ?_
    conv => whnf
    exact ⟨by simp [toRes, cmpI, h1], rfl⟩
  · repeat refine vs ?_
    conv => whnf
    by_cases h2 : a > b
    · repeat refine vs ?_
      conv => whnf
      exact ⟨by simp [toRes, cmpI, h1, h2], rfl⟩
    · repeat refine vs ?_
      conv => whnf
      exact ⟨by simp [toRes, cmpI, h1, h2], rfl⟩
end Go.Vx
