/- The law IntOf, as a fact. -/
import Derived.Test.YtiaobnkihhnmhaaC3
import Derived.Test.YtiaobnkihhnmhaaB6
namespace Go.Vx
open Go.Proofs
set_option maxRecDepth 100000

theorem lawIntOf (neg : Bool) (l : List Int) (hl : l.length ≤ 9223372036854775807) : D 6 [rawV neg l] true (.one (bP true)) := by
  refine go Try.func6 rfl rfl ?_
  repeat refine vs ?_
  conv => whnf
  refine CallS.mk _ rfl true true _ (szBig_den neg l 1048576 (by omega) hl) rfl ?_
  repeat refine vs ?_
  conv => whnf
  by_cases h : szR 1048576 l.length < 0
  · repeat refine vs ?_
    conv => whnf
    first | rfl | exact ⟨rfl, rfl⟩ | exact ⟨by simp [toRes], rfl⟩
  · obtain ⟨hk, _⟩ := szR_ok h
    obtain ⟨z, b, d1, d2⟩ := intOfBoth neg l (by omega)
    repeat refine vs ?_
    conv => whnf
    refine CallS.mk _ rfl true true _ (toBig_den neg l (by omega)) rfl ?_
    repeat refine vs ?_
    conv => whnf
    refine CallS.mk _ rfl true true _ (d1) rfl ?_
    repeat refine vs ?_
    conv => whnf
    refine CallS.mk _ rfl true true _ (toBig_den neg l (by omega)) rfl ?_
    repeat refine vs ?_
    conv => whnf
    refine CallS.mk _ rfl true true _ (d2) rfl ?_
    repeat refine vs ?_
    conv => whnf
    have hb : (b != b) = false := by cases b <;> rfl
    repeat refine vs ?_
    conv => whnf
    refine CallS.mk _ rfl true true _ (toBig_den neg l (by omega)) rfl ?_
    repeat refine vs ?_
    conv => whnf
    refine CallS.mk _ rfl true true _ (eqBig_den neg neg l l (by omega) (by omega)) rfl ?_
    rw [decide_eq_true ⟨rfl, rfl⟩]
    repeat refine vs ?_
    conv => whnf
    first | rfl | exact ⟨rfl, rfl⟩ | exact ⟨by simp [toRes], rfl⟩
end Go.Vx
