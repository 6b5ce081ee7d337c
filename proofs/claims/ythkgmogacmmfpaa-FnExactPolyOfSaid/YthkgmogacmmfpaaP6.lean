/- EvalPoly: values that own their limbs. -/
import Derived.Test.YthkgmogacmmfpaaP5
import Derived.Test.YthkgmogacmmfpaaP4
import Derived.Test.YthkgmogacmmfpaaVGg
set_option linter.unusedVariables false
set_option linter.unusedSectionVars false
set_option linter.unusedSimpArgs false
namespace Go.Vx
open Go.Proofs
set_option maxRecDepth 100000

/-- A fraction's cells, with limbs of the frame's own. -/
def ownCell (s : Nat) (f : Int × Int) : List Lf := [.p (.bool (decide (f.1 < 0))), .own (s, 1) 3 (.ints (Lm.lim f.1.natAbs)), .p (.bool (decide (f.2 < 0))), .own (s, 3) 3 (.ints (Lm.lim f.2.natAbs))]
section
variable (fs : List (Int × Int)) (x : Int × Int) (hl : fs.length ≤ 10) (hq : ∀ f ∈ fs, okF 1000000000 f) (hx : okF 1000000000 x)
include hl hq hx
theorem at_own : D 55 [(false, [.arr 4 (fs.map cellR)]), ratV x.1 x.2] true (.one (ratV (atF fs x).1 (atF fs x).2)) := by
  have hrl : (fs.map cellR).length = fs.length := by simp
  refine go Try.func55 rfl rfl ?_
  repeat refine vs ?_
  conv => whnf
  refine CallS.mk _ rfl true true _ (whole_den 0 (by omega) (by omega)) rfl ?_
  repeat refine vs ?_
  conv => whnf
  refine EVs.loopU (fun s : Int × Int × Int => -1 ≤ s.1 ∧ s.1 + 1 ≤ fs.length ∧ okF (4 + (fs.length - (s.1 + 1).toNat) * 2000000001) s.2 ∧ horF x s.2 (fs.take (s.1 + 1).toNat).reverse = atF fs x) (fun s => (s.1 + 1).toNat)
    (fun | (k, v, d) => [(5, .box (5, 0) (ownCell 50 (v, d)) 0), (6, .v false [.p (.int .i64 k)]), (7, .any)]) ((fs.length : Int) - 1, (0, 1)) ⟨by dsimp only; omega, by dsimp only; omega, (whole_R 0 (by omega) (by omega)).mono (by omega), by dsimp only; rw [show ((fs.length : Int) - 1 + 1).toNat = fs.length by omega, List.take_length]; rfl⟩ ?_ ?_
  · rw [hrl]
    refine Wk.trans (Wk.ren (7, 1) (50, 1)) (Wk.trans (Wk.ren (7, 3) (50, 3)) ?_)
    refine Wk.le ?_
    repeat' (first | exact LeT.nil | refine LeT.drop1 ?_ | refine LeT.same1 ?_ | refine LeT.own1 ?_ | refine LeT.ownR ?_ | (refine LeT.deepR ?_ rfl))
  rintro ⟨k, v⟩ ⟨hk0, hk1, hv, hinv⟩
  dsimp only at hk0 hk1 hv hinv
  refine go1 ?_
  repeat refine vs ?_
  conv => whnf
  by_cases hk : k ≥ 0
  · have hlt : k.toNat < fs.length := by omega
    have hc := hq fs[k.toNat] (List.getElem_mem hlt)
    have hget : (fs.map cellR)[k.toNat]? = some (cellR fs[k.toNat]) := by rw [List.getElem?_map, List.getElem?_eq_getElem hlt]; rfl
    rw [show (k + 1).toNat = k.toNat + 1 by omega] at hinv hv
    rw [take_rev hlt] at hinv
    have hi2 : horF x (addR (mulR v x) fs[k.toNat]) (fs.take k.toNat).reverse = atF fs x := hinv
    generalize fs[k.toNat] = c at *
    have m := mulR_ok hv hx
    have s := addR_ok m hc
    have dM := mulR_I (a := v) (b := x) (hv.mono (by omega)) (hx.mono (by omega))
    have dA := addR_I (a := mulR v x) (b := c) (m.mono (by omega)) (hc.mono (by omega))
    repeat refine vs ?_
    conv => whnf
    refine CallS.mk _ rfl true false _ (dM) rfl ?_
    repeat refine vs ?_
    conv => whnf
    first | refine Idx.mk (k.toNat) (by first | rfl | omega) (by omega) ?_ | skip
    repeat refine vs ?_
    conv => whnf
    refine LdR.mk (cellR c) hget ?_
    repeat refine vs ?_
    conv => whnf
    refine CallS.mk _ rfl true true _ (dA) rfl ?_
    repeat refine vs ?_
    conv => whnf
    refine ⟨(k - 1, addR (mulR v x) c), by dsimp only; omega, ⟨by dsimp only; omega, by dsimp only; omega, ?_, ?_⟩, ?_⟩
    · refine s.mono ?_
      dsimp only
      rw [show (k - 1 + 1).toNat = k.toNat by omega]
      omega
    · dsimp only
      rw [show (k - 1 + 1).toNat = k.toNat by omega]
      exact hi2
    · refine Wk.trans (Wk.ren (22, 1) (50, 1)) (Wk.trans (Wk.ren (22, 3) (50, 3)) ?_)
      refine Wk.le ?_
      repeat' (first | exact LeT.nil | refine LeT.drop1 ?_ | refine LeT.same1 ?_ | refine LeT.own1 ?_ | refine LeT.ownR ?_ | (refine LeT.deepR ?_ rfl))
  · have : k = -1 := by omega
    subst this
    have hvv : v = atF fs x := by rw [← hinv]; rfl
    rw [← hvv]
    repeat refine vs ?_
    conv => whnf
    first | rfl | exact ⟨rfl, rfl⟩ | exact ⟨by simp [toRes], rfl⟩
end
theorem isArg_den (r : RawQ) (hl : r.l.length ≤ 1000000000000) (hq : r.q.length ≤ 1000000000000) : D 59 [ratR r.n r.l r.p r.q] true (.one (bP (okQ 6 r))) := by
  have gI := goodRatI_den r.n r.l r.p r.q hl hq
  have sI := isShortQ_den r.n r.l r.p r.q 6 hl hq
  unfold okQ
  refine go Try.func59 rfl rfl ?_
  cases hg : goodR r.n r.l r.p r.q with
  | false =>
    rw [hg] at gI
    repeat refine vs ?_
    conv => whnf
    refine CallS.mk _ rfl true true _ (gI) rfl ?_
    repeat refine vs ?_
    conv => whnf
    first | rfl | exact ⟨rfl, rfl⟩ | exact ⟨by simp [toRes], rfl⟩
  | true =>
    rw [hg] at gI
    repeat refine vs ?_
    conv => whnf
    refine CallS.mk _ rfl true true _ (gI) rfl ?_
    repeat refine vs ?_
    conv => whnf
    refine CallS.mk _ rfl true true _ (sI) rfl ?_
    repeat refine vs ?_
    conv => whnf
    first | rfl | exact ⟨rfl, rfl⟩ | exact ⟨by simp [toRes], rfl⟩
theorem evalPolyBoth (rs : List RawQ) (n : Bool) (l : List Int) (p : Bool) (q : List Int) (hrs : shortP 1048576 rs) (hl : l.length ≤ 1000000000000) (hq : q.length ≤ 1000000000000) :
    ∃ n' l' p' q' b, l'.length ≤ 1000000 ∧ q'.length ≤ 1000000 ∧ D 26 [polQ rs, ratR n l p q] false (.tup [ratR n' l' p' q', bP b]) ∧ D 27 [polQ rs, ratR n l p q] true (.tup [ratR n' l' p' q', bP b]) := by
  have h : shortP 1000000000000 rs := ⟨Nat.le_trans hrs.1 (by decide), fun r hr => ⟨Nat.le_trans (hrs.2 r hr).1 (by decide), Nat.le_trans (hrs.2 r hr).2 (by decide)⟩⟩
  have gS := goodPolyS_den rs h
  have gI := goodPolyI_den rs h
  have pS := l4Small_den n l p q hl hq
  have rS := goodRatS_den n l p q hl hq
  have pI := isArg_den ⟨n, l, p, q⟩ hl hq
  cases hg : goodP 7 6 rs with
  | false =>
    rw [hg] at gS gI
    refine ⟨false, [], false, [], false, by simp, by simp, go Try.func26 rfl rfl ?_, go Try.func27 rfl rfl ?_⟩
    · repeat refine vs ?_
      conv => whnf
      refine CallS.mk _ rfl true true _ (gS) rfl ?_
      repeat refine vs ?_
      conv => whnf
      first | rfl | exact ⟨rfl, rfl⟩ | exact ⟨by simp [toRes], rfl⟩
    · repeat refine vs ?_
      conv => whnf
      refine CallS.mk _ rfl true true _ (gI) rfl ?_
      repeat refine vs ?_
      conv => whnf
      first | rfl | exact ⟨rfl, rfl⟩ | exact ⟨by simp [toRes], rfl⟩
  | true =>
    rw [hg] at gS gI
    cases hp : okQ 6 ⟨n, l, p, q⟩ with
    | false =>
      rw [hp] at pI
      refine ⟨false, [], false, [], false, by simp, by simp, ?_, go Try.func27 rfl rfl ?_⟩
      · refine go Try.func26 rfl rfl ?_
        unfold okQ at hp
        cases hr : goodR n l p q with
        | false =>
          rw [hr] at rS
          cases hs : (decide (l.length ≤ 6) && decide (q.length ≤ 6)) with
          | false =>
            rw [hs] at pS
            repeat refine vs ?_
            conv => whnf
            refine CallS.mk _ rfl true true _ (gS) rfl ?_
            repeat refine vs ?_
            conv => whnf
            refine CallS.mk _ rfl true true _ (pS) rfl ?_
            repeat refine vs ?_
            conv => whnf
            first | rfl | exact ⟨rfl, rfl⟩ | exact ⟨by simp [toRes], rfl⟩
          | true =>
            rw [hs] at pS
            repeat refine vs ?_
            conv => whnf
            refine CallS.mk _ rfl true true _ (gS) rfl ?_
            repeat refine vs ?_
            conv => whnf
            refine CallS.mk _ rfl true true _ (pS) rfl ?_
            repeat refine vs ?_
            conv => whnf
            refine CallS.mk _ rfl true true _ (rS) rfl ?_
            repeat refine vs ?_
            conv => whnf
            first | rfl | exact ⟨rfl, rfl⟩ | exact ⟨by simp [toRes], rfl⟩
        | true =>
          simp only [hr, Bool.true_and] at hp
          rw [hp] at pS
          repeat refine vs ?_
          conv => whnf
          refine CallS.mk _ rfl true true _ (gS) rfl ?_
          repeat refine vs ?_
          conv => whnf
          refine CallS.mk _ rfl true true _ (pS) rfl ?_
          repeat refine vs ?_
          conv => whnf
          first | rfl | exact ⟨rfl, rfl⟩ | exact ⟨by simp [toRes], rfl⟩
      · repeat refine vs ?_
        conv => whnf
        refine CallS.mk _ rfl true true _ (gI) rfl ?_
        repeat refine vs ?_
        conv => whnf
        refine CallS.mk _ rfl true true _ (pI) rfl ?_
        repeat refine vs ?_
        conv => whnf
        first | rfl | exact ⟨rfl, rfl⟩ | exact ⟨by simp [toRes], rfl⟩
    | true =>
      rw [hp] at pI
      obtain ⟨fs, rfl, hlen, hlow, _⟩ := goodP_ex hg
      obtain ⟨x, hx, hxl⟩ := okQ_ex hp
      unfold okQ at hp
      simp only [Bool.and_eq_true] at hp
      rw [hp.1] at rS
      rw [hp.2.1, hp.2.2] at pS
      unfold qF at hx
      cases hx
      unfold polQ at gS gI
      unfold polQ
      rw [map_qF] at gS gI ⊢
      have hq1 : ∀ f ∈ fs, okF 1000000000 f := fun f hf => (hlow f hf).1.mono (by omega)
      have hx1 : okF 1000000000 x := hxl.1.mono (by omega)
      have dS := l4Eval_den fs x (by omega) hq1 hx1
      have dI := at_own fs x (by omega) hq1 hx1
      have ho := atF_ok (K := 6) (M := 6) (fun f hf => (hlow f hf).1) hxl.1
      have hob : okF 100 (atF fs x) := ho.mono (by have : fs.length * (6 + 6 + 1) ≤ 7 * 13 := Nat.mul_le_mul_right _ hlen; omega)
      generalize atF fs x = v at *
      have fS := l2Fits_den v.1 v.2 hob.1 (Nat.le_trans hob.2.1 (by omega)) (Nat.le_trans hob.2.2 (by omega))
      have fI := checkedRat_m v.1 v.2 (Nat.le_trans hob.2.1 (by omega)) (Nat.le_trans hob.2.2 (by omega))
      have hsome : ∃ n l p q, l.length ≤ 1000000 ∧ q.length ≤ 1000000 ∧ fitRV v.1 v.2 = ratR n l p q := by
        unfold fitRV
        split
        · exact ⟨_, _, _, _, Nat.le_trans hob.2.1 (by omega), Nat.le_trans hob.2.2 (by omega), rfl⟩
        · exact ⟨_, _, _, _, by simp, by simp, rfl⟩
      have sS : D 26 [(false, [.arr 4 (fs.map cellR)]), ratV x.1 x.2] false (.tup [fitRV v.1 v.2, bP (fitR v.1 v.2)]) := by
        obtain ⟨n, l, p, q, _, _, hf⟩ := hsome
        rw [hf] at fS ⊢
        refine go Try.func26 rfl rfl ?_
        repeat refine vs ?_
        conv => whnf
        refine CallS.mk _ rfl true true _ (gS) rfl ?_
        repeat refine vs ?_
        conv => whnf
        refine CallS.mk _ rfl true true _ (pS) rfl ?_
        repeat refine vs ?_
        conv => whnf
        refine CallS.mk _ rfl true true _ (rS) rfl ?_
        repeat refine vs ?_
        conv => whnf
        refine CallS.mk _ rfl false false _ (dS) rfl ?_
        repeat refine vs ?_
        conv => whnf
        refine CallS.mk _ rfl true true _ (fS) rfl ?_
        repeat refine vs ?_
        conv => whnf
        first | rfl | exact ⟨rfl, rfl⟩ | exact ⟨by simp [toRes], rfl⟩
      have sI : D 27 [(false, [.arr 4 (fs.map cellR)]), ratV x.1 x.2] true (.tup [fitRV v.1 v.2, bP (fitR v.1 v.2)]) := by
        unfold fitRV
        cases hf : fitR v.1 v.2 with
        | true =>
          rw [hf] at fI
          simp only [if_true] at fI ⊢
          refine go Try.func27 rfl rfl ?_
          repeat refine vs ?_
          conv => whnf
          refine CallS.mk _ rfl true true _ (gI) rfl ?_
          repeat refine vs ?_
          conv => whnf
          refine CallS.mk _ rfl true true _ (pI) rfl ?_
          repeat refine vs ?_
          conv => whnf
          refine CallS.mk _ rfl true true _ (dI) rfl ?_
          repeat refine vs ?_
          conv => whnf
          refine MutS.mk' _ rfl _ rfl _ _ (fI) ?_
          repeat refine vs ?_
          conv => whnf
          first | rfl | exact ⟨rfl, rfl⟩ | exact ⟨by simp [toRes], rfl⟩
        | false =>
          rw [hf] at fI
          simp only [Bool.false_eq_true, if_false] at fI ⊢
          refine go Try.func27 rfl rfl ?_
          repeat refine vs ?_
          conv => whnf
          refine CallS.mk _ rfl true true _ (gI) rfl ?_
          repeat refine vs ?_
          conv => whnf
          refine CallS.mk _ rfl true true _ (pI) rfl ?_
          repeat refine vs ?_
          conv => whnf
          refine CallS.mk _ rfl true true _ (dI) rfl ?_
          repeat refine vs ?_
          conv => whnf
          refine MutS.mk' _ rfl _ rfl _ _ (fI) ?_
          repeat refine vs ?_
          conv => whnf
          first | rfl | exact ⟨rfl, rfl⟩ | exact ⟨by simp [toRes], rfl⟩
      obtain ⟨n, l, p, q, h1, h2, hf⟩ := hsome
      rw [hf] at sS sI
      exact ⟨n, l, p, q, _, h1, h2, sS, sI⟩
end Go.Vx
