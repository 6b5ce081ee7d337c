/- EvalPoly: values that own their limbs. -/
import Derived.Test.YtpmgjmkobpeepaaGreatP5
import Derived.Test.YtpmgjmkobpeepaaGreatP4
import Derived.Test.YtpmgjmkobpeepaaGreatVGg
set_option linter.unusedVariables false
set_option linter.unusedSectionVars false
set_option linter.unusedSimpArgs false
namespace Go.Vx
open Go.Proofs
set_option maxRecDepth 100000

/-- A fraction's cells, with limbs of the frame's own. -/
def ownCell (s : Nat) (f : Int × Int) : List Lf := [.p (.bool (decide (f.1 < 0))), .own (s, 1) 3 (.ints (Lm.lim f.1.natAbs)), .p (.bool (decide (f.2 < 0))), .own (s, 3) 3 (.ints (Lm.lim f.2.natAbs))]
section
variable (fs : List (Int × Int)) (x : Int × Int) (hl : fs.length ≤ 10) (hq : ∀ f ∈ fs, okF 1000000000 f) (hx : okF 1000000000 x)
include hl hq hx
theorem at_own : D 132 [(false, [.arr 4 (fs.map cellR)]), ratV x.1 x.2] true (.one (ratV (atF fs x).1 (atF fs x).2)) := by
  have hrl : (fs.map cellR).length = fs.length := by simp
  refine go Tryz.func132 rfl rfl ?_
  repeat refine vs ?_
  conv => whnf
  refine CallS.mk _ rfl true true _ (whole_den 0 (by omega) (by omega)) rfl ?_
  repeat refine vs ?_
  conv => whnf
  refine EVs.loopU (fun s : Int × Int × Int => -1 ≤ s.1 ∧ s.1 + 1 ≤ fs.length ∧ okF (4 + (fs.length - (s.1 + 1).toNat) * 2000000001) s.2 ∧ horF x s.2 (fs.take (s.1 + 1).toNat).reverse = atF fs x) (fun s => (s.1 + 1).toNat)
    (fun | (k, v, d) => [(5, .box (5, 0) (ownCell 50 (v, d)) 0), (6, .v false [.p (.int .i64 k)]), (7, .any)]) ((fs.length : Int) - 1, (0, 1)) ⟨by dsimp only; omega, by dsimp only; omega, (whole_R 0 (by omega) (by omega)).mono (by omega), by dsimp only; rw [show ((fs.length : Int) - 1 + 1).toNat = fs.length by omega, List.take_length]; rfl⟩ ?_ ?_
  · rw [hrl]
    refine Wk.trans (Wk.ren (7, 1) (50, 1)) (Wk.trans (Wk.ren (7, 3) (50, 3)) ?_)
    refine Wk.le ?_
    repeat' (first | exact LeT.nil | refine LeT.drop1 ?_ | refine LeT.same1 ?_ | refine LeT.own1 ?_ | refine LeT.ownR ?_ | (refine LeT.deepR ?_ rfl))
  rintro ⟨k, v⟩ ⟨hk0, hk1, hv, hinv⟩
  dsimp only at hk0 hk1 hv hinv
  refine go1 ?_
  repeat refine vs ?_
  conv => whnf
  by_cases hk : k ≥ 0
  · have hlt : k.toNat < fs.length := by omega
    have hc := hq fs[k.toNat] (List.getElem_mem hlt)
    have hget : (fs.map cellR)[k.toNat]? = some (cellR fs[k.toNat]) := by rw [List.getElem?_map, List.getElem?_eq_getElem hlt]; rfl
    rw [show (k + 1).toNat = k.toNat + 1 by omega] at hinv hv
    rw [take_rev hlt] at hinv
    have hi2 : horF x (addR (mulR v x) fs[k.toNat]) (fs.take k.toNat).reverse = atF fs x := hinv
    generalize fs[k.toNat] = c at *
    have m := mulR_ok hv hx
    have s := addR_ok m hc
    have dM := mulR_I (a := v) (b := x) (hv.mono (by omega)) (hx.mono (by omega))
    have dA := addR_I (a := mulR v x) (b := c) (m.mono (by omega)) (hc.mono (by omega))
    repeat refine vs ?_
    conv => whnf
    refine CallS.mk _ rfl true false _ (dM) rfl ?_
    repeat refine vs ?_
    conv => whnf
    first | refine Idx.mk (k.toNat) (by first | rfl | omega) (by omega) ?_ | skip
    repeat refine vs ?_
    conv => whnf
    refine LdR.mk (cellR c) hget ?_
    repeat refine vs ?_
    conv => whnf
    refine CallS.mk _ rfl true true _ (dA) rfl ?_
    repeat refine vs ?_
    conv => whnf
    refine ⟨(k - 1, addR (mulR v x) c), by dsimp only; omega, ⟨by dsimp only; omega, by dsimp only; omega, ?_, ?_⟩, ?_⟩
    · refine s.mono ?_
      dsimp only
      rw [show (k - 1 + 1).toNat = k.toNat by omega]
      omega
    · dsimp only
      rw [show (k - 1 + 1).toNat = k.toNat by omega]
      exact hi2
    · refine Wk.trans (Wk.ren (22, 1) (50, 1)) (Wk.trans (Wk.ren (22, 3) (50, 3)) ?_)
      refine Wk.le ?_
      repeat' (first | exact LeT.nil | refine LeT.drop1 ?_ | refine LeT.same1 ?_ | refine LeT.own1 ?_ | refine LeT.ownR ?_ | (refine LeT.deepR ?_ rfl))
  · have : k = -1 := by omega
    subst this
    have hvv : v = atF fs x := by rw [← hinv]; rfl
    rw [← hvv]
    repeat refine vs ?_
    conv => whnf
    first | rfl | exact ⟨rfl, rfl⟩ | exact ⟨by simp [toRes], rfl⟩
end
theorem isArg_den (r : RawQ) (hl : r.l.length ≤ 1000000000000) (hq : r.q.length ≤ 1000000000000) : D 55 [ratR r.n r.l r.p r.q] true (.one (bP (okQ 6 r))) := by
  have gI := goodRatI_den r.n r.l r.p r.q hl hq
  have sI := isShortQ_den r.n r.l r.p r.q 6 hl hq
  unfold okQ
  refine go Tryz.func55 rfl rfl ?_
  cases hg : goodR r.n r.l r.p r.q with
  | false =>
    rw [hg] at gI
    repeat refine vs ?_
    conv => whnf
    refine CallS.mk _ rfl true true _ (gI) rfl ?_
    repeat refine vs ?_
    conv => whnf
    first | rfl | exact ⟨rfl, rfl⟩ | exact ⟨by simp [toRes], rfl⟩
  | true =>
    rw [hg] at gI
    repeat refine vs ?_
    conv => whnf
    refine CallS.mk _ rfl true true _ (gI) rfl ?_
    repeat refine vs ?_
    conv => whnf
    refine CallS.mk _ rfl true true _ (sI) rfl ?_
    repeat refine vs ?_
    conv => whnf
    first | rfl | exact ⟨rfl, rfl⟩ | exact ⟨by simp [toRes], rfl⟩
end Go.Vx
