/- The law BigOf, as a fact. -/
import Derived.Test.YtiaobnkihhnmhaaC5
import Derived.Test.YtiaobnkihhnmhaaB6
namespace Go.Vx
open Go.Proofs
set_option maxRecDepth 100000

theorem lawBigOf (n : Int) (h1 : -9223372036854775808 ≤ n) (h2 : n ≤ 9223372036854775807) : D 4 [iP n] true (.one (bP true)) := by
  have hl : (Lm.lim n.natAbs).length ≤ 4 := Lm.lim64 (by omega)
  have dS := bigOfS_den n h1 h2
  have dI := bigOfI_den n h1 h2
  have hr := ramp_len (k := 1) (n := (Lm.lim n.natAbs).length)
  unfold bigV at dS dI
  generalize decide (n < 0) = neg at dS dI
  generalize Lm.lim n.natAbs = l at *
  refine go Try.func4 rfl rfl ?_
  repeat refine vs ?_
  conv => whnf
  refine CallS.mk _ rfl true true _ (dS) rfl ?_
  repeat refine vs ?_
  conv => whnf
  refine CallS.mk _ rfl true true _ (dI) rfl ?_
  repeat refine vs ?_
  conv => whnf
  refine CallS.mk _ rfl true true _ (eqBig_den neg neg l l (by omega) (by omega)) rfl ?_
  rw [decide_eq_true ⟨rfl, rfl⟩]
  repeat refine vs ?_
  conv => whnf
  refine MutS.mk _ rfl _ rfl _ _ (markBig_m neg l 1 (by omega) (by omega)) ?_
  repeat refine vs ?_
  conv => whnf
  refine CallS.mk _ rfl true true _ (heldBig_den neg l.length 1 (by omega) (by omega)) rfl ?_
  repeat refine vs ?_
  conv => whnf
  have hk : ¬ (1 + (l.length : Int) ≠ 1 + (l.length : Int)) := by omega
  repeat refine vs ?_
  conv => whnf
  refine CallS.mk _ rfl true true _ (dI) rfl ?_
  repeat refine vs ?_
  conv => whnf
  refine CallS.mk _ rfl true true _ (eqBig_den neg neg l l (by omega) (by omega)) rfl ?_
  rw [decide_eq_true ⟨rfl, rfl⟩]
  repeat refine vs ?_
  conv => whnf
  refine CallS.mk _ rfl true true _ (heldBig_den neg l.length 1 (by omega) (by omega)) rfl ?_
  repeat refine vs ?_
  conv => whnf
  first | rfl | exact ⟨rfl, rfl⟩ | exact ⟨by simp [toRes], rfl⟩
end Go.Vx
