/- Chapter 1: several numbers that are good; sums, differences, products of any arguments. -/
import Derived.Test.YtiaobnkihhnmhaaCGa
import Derived.Test.YtiaobnkihhnmhaaBGd
set_option linter.unusedVariables false
set_option linter.unusedSectionVars false
set_option linter.unusedSimpArgs false
namespace Go.Vx
open Go.Proofs
set_option maxRecDepth 100000

def cellsB (q : Bool × List Int) : List PL := [.bool q.1, .ints q.2]
def rowsB (qs : List (Bool × List Int)) : List (List PL) := qs.map cellsB

theorem indexFuncB_den (qs : List (Bool × List Int)) (hl : qs.length ≤ 1000000000000) (f : FuncId) (p : Bool × List Int → Bool) (hp : ∀ q ∈ qs, D f [rawV q.1 q.2] true (.one (bP (p q)))) :
    D 87 [(false, [.arr 2 (rowsB qs)]), fP f] true (.one (iP (match qs.findIdx? p with | some i => (i : Int) | none => -1))) := by
  refine go Try.func87 rfl rfl ?_
  have hrl : (rowsB qs).length = qs.length := by simp [rowsB]
  repeat refine vs ?_
  conv => whnf
  refine EVs.loopU (fun i : Nat => i ≤ qs.length ∧ ∀ (j : Nat) (h : j < qs.length), j < i → p qs[j] = false) (fun i => qs.length - i) (fun i => [(8, .v false [.p (.int .i64 (i : Int))])]) 0 ⟨by omega, fun j h hj => by omega⟩ (Wk.refl _) ?_
  rintro i ⟨hi, hall⟩
  refine go1 ?_
  repeat refine vs ?_
  conv => whnf
  by_cases h1 : (i : Int) < (rowsB qs).length
  · have hlt : i < qs.length := by omega
    repeat refine vs ?_
    conv => whnf
    refine LdR.mk (cellsB qs[i]) (by simp [rowsB, hlt]) ?_
    repeat refine vs ?_
    conv => whnf
    refine CallS.mk _ rfl true true _ (hp qs[i] (List.getElem_mem hlt)) rfl ?_
    repeat refine vs ?_
    conv => whnf
    cases hpi : p qs[i]
    · repeat refine vs ?_
      conv => whnf
      refine ⟨i + 1, by omega, ⟨by omega, fun j h hj => ?_⟩, ?_⟩
      · by_cases e : j = i
        · subst e; exact hpi
        · exact hall j h (by omega)
      · refine Wk.le ?_
        repeat' (first | exact LeT.nil | refine LeT.drop1 ?_ | refine LeT.same1 ?_ | refine LeT.own1 ?_ | refine LeT.ownR ?_)
    · repeat refine vs ?_
      conv => whnf
      have : qs.findIdx? p = some i := by
        rw [List.findIdx?_eq_some_iff_getElem]
        exact ⟨hlt, hpi, fun j hj => by simp [hall j (by omega) hj]⟩
      exact ⟨by simp [toRes, this], rfl⟩
  · repeat refine vs ?_
    conv => whnf
    have : qs.findIdx? p = none := by
      rw [List.findIdx?_eq_none_iff]
      intro x hx
      obtain ⟨j, hj, rfl⟩ := List.getElem_of_mem hx
      exact hall j hj (by omega)
    exact ⟨by simp [toRes, this], rfl⟩

theorem containsFuncB_den (qs : List (Bool × List Int)) (hl : qs.length ≤ 1000000000000) (f : FuncId) (p : Bool × List Int → Bool) (hp : ∀ q ∈ qs, D f [rawV q.1 q.2] true (.one (bP (p q)))) :
    D 71 [(false, [.arr 2 (rowsB qs)]), fP f] true (.one (bP (qs.any p))) := by
  refine go Try.func71 rfl rfl ?_
  repeat refine vs ?_
  conv => whnf
  refine CallS.mk _ rfl true true _ (indexFuncB_den qs hl f p hp) rfl ?_
  repeat refine vs ?_
  conv => whnf
  cases h : qs.findIdx? p with
  | none =>
    have : qs.any p = false := by
      rw [List.findIdx?_eq_none_iff] at h
      rw [List.any_eq_false]
      intro x hx
      simp [h x hx]
    repeat refine vs ?_
    conv => whnf
    exact ⟨by simp [toRes, this], rfl⟩
  | some i =>
    have : qs.any p = true := by
      rw [List.findIdx?_eq_some_iff_getElem] at h
      obtain ⟨h1, h2, _⟩ := h
      rw [List.any_eq_true]
      exact ⟨_, List.getElem_mem h1, h2⟩
    repeat refine vs ?_
    conv => whnf
    exact ⟨by simp [toRes, this], rfl⟩

theorem areBig1_den (neg : Bool) (l : List Int) (hl : l.length ≤ 1000000000000) : D 72 [rawV neg l] true (.one (bP (!goodB neg l))) := by
  refine go Try.func72 rfl rfl ?_
  repeat refine vs ?_
  conv => whnf
  refine CallS.mk _ rfl true true _ (goodI_den neg l hl) rfl ?_
  repeat refine vs ?_
  conv => whnf
  refine Bo.mk _ rfl ?_
  repeat refine vs ?_
  conv => whnf
  first | rfl | exact ⟨rfl, rfl⟩ | exact ⟨by simp [toRes], rfl⟩

theorem areBig_den (qs : List (Bool × List Int)) (hl : qs.length ≤ 1000000000000) (hq : ∀ q ∈ qs, q.2.length ≤ 1000000000000) : D 54 [(false, [.arr 2 (rowsB qs)])] true (.one (bP (qs.all fun q => goodB q.1 q.2))) := by
  refine go Try.func54 rfl rfl ?_
  repeat refine vs ?_
  conv => whnf
  refine CallS.mk _ rfl true true _ (containsFuncB_den qs hl 72 (fun q => !goodB q.1 q.2) (fun q hm => areBig1_den q.1 q.2 (hq q hm))) rfl ?_
  repeat refine vs ?_
  conv => whnf
  refine Bo.mk (qs.all fun q => goodB q.1 q.2) (by rw [List.all_eq_not_any_not]) ?_
  repeat refine vs ?_
  conv => whnf
  first | rfl | exact ⟨rfl, rfl⟩ | exact ⟨by simp [toRes], rfl⟩

theorem are2_den (n1 n2 : Bool) (l m : List Int) (hl : l.length ≤ 1000000000000) (hm : m.length ≤ 1000000000000) : D 54 [(false, [.arr 2 [[.bool n1, .ints l], [.bool n2, .ints m]]])] true (.one (bP (goodB n1 l && goodB n2 m))) := by
  have := areBig_den [(n1, l), (n2, m)] (by simp) (by intro q hq; rcases List.mem_cons.1 hq with rfl | hq; exact hl; rcases List.mem_cons.1 hq with rfl | hq; exact hm; cases hq)
  simp only [List.all_cons, List.all_nil, Bool.and_true] at this
  exact this

theorem addS_den (x y : Int) (hx : Lm.ln x ≤ 40) (hy : Lm.ln y ≤ 40) (g1 : goodB (decide (x < 0)) (Lm.lim x.natAbs) = true) (g2 : goodB (decide (y < 0)) (Lm.lim y.natAbs) = true) :
    D 30 [bigV x, bigV y] false (.tup [fitV (x + y), bP (decide (Lm.ln (x + y) ≤ 40))]) := by
  have hz : Lm.ln (x + y) ≤ 400000000000 := by have := Lm.ln_add x y (k := 40) hx hy; omega
  have e1 : (Lm.lim x.natAbs).length ≤ 40 := hx
  have e2 : (Lm.lim y.natAbs).length ≤ 40 := hy
  have d1 := goodS_den (decide (x < 0)) (Lm.lim x.natAbs) (by omega)
  have d2 := goodS_den (decide (y < 0)) (Lm.lim y.natAbs) (by omega)
  rw [g1] at d1
  rw [g2] at d2
  have dF := l1Fits_den (x + y) hz
  have hf : ∃ n l, fitV (x + y) = rawV n l := by unfold fitV; split <;> exact ⟨_, _, rfl⟩
  obtain ⟨n, l, hf⟩ := hf
  rw [hf] at dF ⊢
  refine go Try.func30 rfl rfl ?_
  repeat refine vs ?_
  conv => whnf
  refine CallS.mk _ rfl true true _ (d1) rfl ?_
  repeat refine vs ?_
  conv => whnf
  refine CallS.mk _ rfl true true _ (d2) rfl ?_
  repeat refine vs ?_
  conv => whnf
  refine CallS.mk _ rfl true false _ (l1Add_den x y (by omega) (by omega)) rfl ?_
  repeat refine vs ?_
  conv => whnf
  refine CallS.mk _ rfl false false _ (dF) rfl ?_
  repeat refine vs ?_
  conv => whnf
  first | rfl | exact ⟨rfl, rfl⟩ | exact ⟨by simp [toRes], rfl⟩
theorem addI_den (x y : Int) (hx : Lm.ln x ≤ 40) (hy : Lm.ln y ≤ 40) (g1 : goodB (decide (x < 0)) (Lm.lim x.natAbs) = true) (g2 : goodB (decide (y < 0)) (Lm.lim y.natAbs) = true) :
    D 31 [bigV x, bigV y] true (.tup [fitV (x + y), bP (decide (Lm.ln (x + y) ≤ 40))]) := by
  have hz : Lm.ln (x + y) ≤ 400000000000 := by have := Lm.ln_add x y (k := 40) hx hy; omega
  have e1 : (Lm.lim x.natAbs).length ≤ 40 := hx
  have e2 : (Lm.lim y.natAbs).length ≤ 40 := hy
  have d1 := are2_den (decide (x < 0)) (decide (y < 0)) (Lm.lim x.natAbs) (Lm.lim y.natAbs) (by omega) (by omega)
  rw [g1, g2] at d1
  have dF := checked_m (x + y) hz
  unfold fitV
  refine go Try.func31 rfl rfl ?_
  repeat refine vs ?_
  conv => whnf
  refine NewK.mk false ?_
  repeat refine vs ?_
  conv => whnf
  refine CallS.mk _ rfl true true _ (d1) rfl ?_
  repeat refine vs ?_
  conv => whnf
  refine CallS.mk _ rfl true true _ (add_den x y (by omega) (by omega)) rfl ?_
  repeat refine vs ?_
  conv => whnf
  by_cases h : Lm.ln (x + y) ≤ 40
  · rw [if_pos h, decide_eq_true h] at dF ⊢
    repeat refine vs ?_
    conv => whnf
    refine MutS.mk _ rfl _ rfl _ _ (dF) ?_
    repeat refine vs ?_
    conv => whnf
    first | rfl | exact ⟨rfl, rfl⟩ | exact ⟨by simp [toRes], rfl⟩
  · rw [if_neg h, decide_eq_false h] at dF ⊢
    repeat refine vs ?_
    conv => whnf
    refine MutS.mk _ rfl _ rfl _ _ (dF) ?_
    repeat refine vs ?_
    conv => whnf
    first | rfl | exact ⟨rfl, rfl⟩ | exact ⟨by simp [toRes], rfl⟩
theorem addBoth (n1 : Bool) (l : List Int) (n2 : Bool) (m : List Int) (hl : l.length ≤ 1000000000000) (hm : m.length ≤ 1000000000000) : ∃ n r b, r.length ≤ 40 ∧ D 30 [rawV n1 l, rawV n2 m] false (.tup [rawV n r, bP b]) ∧ D 31 [rawV n1 l, rawV n2 m] true (.tup [rawV n r, bP b]) := by
  have dS1 := goodS_den n1 l hl
  have dS2 := goodS_den n2 m hm
  have dA := are2_den n1 n2 l m hl hm
  cases g1 : goodB n1 l with
  | false =>
    rw [g1] at dS1 dA
    refine ⟨false, [], false, by simp, go Try.func30 rfl rfl ?_, go Try.func31 rfl rfl ?_⟩
    · repeat refine vs ?_
      conv => whnf
      refine CallS.mk _ rfl true true _ (dS1) rfl ?_
      repeat refine vs ?_
      conv => whnf
      first | rfl | exact ⟨rfl, rfl⟩ | exact ⟨by simp [toRes], rfl⟩
    · repeat refine vs ?_
      conv => whnf
      refine NewK.mk false ?_
      repeat refine vs ?_
      conv => whnf
      refine CallS.mk _ rfl true true _ (dA) rfl ?_
      repeat refine vs ?_
      conv => whnf
      first | rfl | exact ⟨rfl, rfl⟩ | exact ⟨by simp [toRes], rfl⟩
  | true =>
    cases g2 : goodB n2 m with
    | false =>
      rw [g1] at dS1 dA
      rw [g2] at dS2 dA
      refine ⟨false, [], false, by simp, go Try.func30 rfl rfl ?_, go Try.func31 rfl rfl ?_⟩
      · repeat refine vs ?_
        conv => whnf
        refine CallS.mk _ rfl true true _ (dS1) rfl ?_
        repeat refine vs ?_
        conv => whnf
        refine CallS.mk _ rfl true true _ (dS2) rfl ?_
        repeat refine vs ?_
        conv => whnf
        first | rfl | exact ⟨rfl, rfl⟩ | exact ⟨by simp [toRes], rfl⟩
      · repeat refine vs ?_
        conv => whnf
        refine NewK.mk false ?_
        repeat refine vs ?_
        conv => whnf
        refine CallS.mk _ rfl true true _ (dA) rfl ?_
        repeat refine vs ?_
        conv => whnf
        first | rfl | exact ⟨rfl, rfl⟩ | exact ⟨by simp [toRes], rfl⟩
    | true =>
      have h1 : Lm.Good n1 l := by unfold goodB at g1; simpa using g1
      have h2 : Lm.Good n2 m := by unfold goodB at g2; simpa using g2
      rw [good_bigV h1, good_bigV h2]
      have k1 := good_bigV h1
      have k2 := good_bigV h2
      have hx := good_ln h1
      have hy := good_ln h2
      have b1 : goodB (decide (Lm.num n1 l < 0)) (Lm.lim (Lm.num n1 l).natAbs) = true := goodB_true (Lm.good_lim hx)
      have b2 : goodB (decide (Lm.num n2 m < 0)) (Lm.lim (Lm.num n2 m).natAbs) = true := goodB_true (Lm.good_lim hy)
      have s := addS_den _ _ hx hy b1 b2
      have i := addI_den _ _ hx hy b1 b2
      generalize Lm.num n1 l = x at *
      generalize Lm.num n2 m = y at *
      unfold fitV at s i
      by_cases h : Lm.ln (x + y) ≤ 40
      · rw [if_pos h] at s i
        exact ⟨_, _, _, h, s, i⟩
      · rw [if_neg h] at s i
        exact ⟨_, _, _, by simp, s, i⟩

theorem subS_den (x y : Int) (hx : Lm.ln x ≤ 40) (hy : Lm.ln y ≤ 40) (g1 : goodB (decide (x < 0)) (Lm.lim x.natAbs) = true) (g2 : goodB (decide (y < 0)) (Lm.lim y.natAbs) = true) :
    D 32 [bigV x, bigV y] false (.tup [fitV (x - y), bP (decide (Lm.ln (x - y) ≤ 40))]) := by
  have hz : Lm.ln (x - y) ≤ 400000000000 := by have := Lm.ln_sub x y (k := 40) hx hy; omega
  have e1 : (Lm.lim x.natAbs).length ≤ 40 := hx
  have e2 : (Lm.lim y.natAbs).length ≤ 40 := hy
  have d1 := goodS_den (decide (x < 0)) (Lm.lim x.natAbs) (by omega)
  have d2 := goodS_den (decide (y < 0)) (Lm.lim y.natAbs) (by omega)
  rw [g1] at d1
  rw [g2] at d2
  have dF := l1Fits_den (x - y) hz
  have hf : ∃ n l, fitV (x - y) = rawV n l := by unfold fitV; split <;> exact ⟨_, _, rfl⟩
  obtain ⟨n, l, hf⟩ := hf
  rw [hf] at dF ⊢
  refine go Try.func32 rfl rfl ?_
  repeat refine vs ?_
  conv => whnf
  refine CallS.mk _ rfl true true _ (d1) rfl ?_
  repeat refine vs ?_
  conv => whnf
  refine CallS.mk _ rfl true true _ (d2) rfl ?_
  repeat refine vs ?_
  conv => whnf
  refine CallS.mk _ rfl true false _ (l1Sub_den x y (by omega) (by omega)) rfl ?_
  repeat refine vs ?_
  conv => whnf
  refine CallS.mk _ rfl false false _ (dF) rfl ?_
  repeat refine vs ?_
  conv => whnf
  first | rfl | exact ⟨rfl, rfl⟩ | exact ⟨by simp [toRes], rfl⟩
theorem subI_den (x y : Int) (hx : Lm.ln x ≤ 40) (hy : Lm.ln y ≤ 40) (g1 : goodB (decide (x < 0)) (Lm.lim x.natAbs) = true) (g2 : goodB (decide (y < 0)) (Lm.lim y.natAbs) = true) :
    D 33 [bigV x, bigV y] true (.tup [fitV (x - y), bP (decide (Lm.ln (x - y) ≤ 40))]) := by
  have hz : Lm.ln (x - y) ≤ 400000000000 := by have := Lm.ln_sub x y (k := 40) hx hy; omega
  have e1 : (Lm.lim x.natAbs).length ≤ 40 := hx
  have e2 : (Lm.lim y.natAbs).length ≤ 40 := hy
  have d1 := are2_den (decide (x < 0)) (decide (y < 0)) (Lm.lim x.natAbs) (Lm.lim y.natAbs) (by omega) (by omega)
  rw [g1, g2] at d1
  have dF := checked_m (x - y) hz
  unfold fitV
  refine go Try.func33 rfl rfl ?_
  repeat refine vs ?_
  conv => whnf
  refine NewK.mk false ?_
  repeat refine vs ?_
  conv => whnf
  refine CallS.mk _ rfl true true _ (d1) rfl ?_
  repeat refine vs ?_
  conv => whnf
  refine CallS.mk _ rfl true true _ (sub_den x y (by omega) (by omega)) rfl ?_
  repeat refine vs ?_
  conv => whnf
  by_cases h : Lm.ln (x - y) ≤ 40
  · rw [if_pos h, decide_eq_true h] at dF ⊢
    repeat refine vs ?_
    conv => whnf
    refine MutS.mk _ rfl _ rfl _ _ (dF) ?_
    repeat refine vs ?_
    conv => whnf
    first | rfl | exact ⟨rfl, rfl⟩ | exact ⟨by simp [toRes], rfl⟩
  · rw [if_neg h, decide_eq_false h] at dF ⊢
    repeat refine vs ?_
    conv => whnf
    refine MutS.mk _ rfl _ rfl _ _ (dF) ?_
    repeat refine vs ?_
    conv => whnf
    first | rfl | exact ⟨rfl, rfl⟩ | exact ⟨by simp [toRes], rfl⟩
theorem subBoth (n1 : Bool) (l : List Int) (n2 : Bool) (m : List Int) (hl : l.length ≤ 1000000000000) (hm : m.length ≤ 1000000000000) : ∃ n r b, r.length ≤ 40 ∧ D 32 [rawV n1 l, rawV n2 m] false (.tup [rawV n r, bP b]) ∧ D 33 [rawV n1 l, rawV n2 m] true (.tup [rawV n r, bP b]) := by
  have dS1 := goodS_den n1 l hl
  have dS2 := goodS_den n2 m hm
  have dA := are2_den n1 n2 l m hl hm
  cases g1 : goodB n1 l with
  | false =>
    rw [g1] at dS1 dA
    refine ⟨false, [], false, by simp, go Try.func32 rfl rfl ?_, go Try.func33 rfl rfl ?_⟩
    · repeat refine vs ?_
      conv => whnf
      refine CallS.mk _ rfl true true _ (dS1) rfl ?_
      repeat refine vs ?_
      conv => whnf
      first | rfl | exact ⟨rfl, rfl⟩ | exact ⟨by simp [toRes], rfl⟩
    · repeat refine vs ?_
      conv => whnf
      refine NewK.mk false ?_
      repeat refine vs ?_
      conv => whnf
      refine CallS.mk _ rfl true true _ (dA) rfl ?_
      repeat refine vs ?_
      conv => whnf
      first | rfl | exact ⟨rfl, rfl⟩ | exact ⟨by simp [toRes], rfl⟩
  | true =>
    cases g2 : goodB n2 m with
    | false =>
      rw [g1] at dS1 dA
      rw [g2] at dS2 dA
      refine ⟨false, [], false, by simp, go Try.func32 rfl rfl ?_, go Try.func33 rfl rfl ?_⟩
      · repeat refine vs ?_
        conv => whnf
        refine CallS.mk _ rfl true true _ (dS1) rfl ?_
        repeat refine vs ?_
        conv => whnf
        refine CallS.mk _ rfl true true _ (dS2) rfl ?_
        repeat refine vs ?_
        conv => whnf
        first | rfl | exact ⟨rfl, rfl⟩ | exact ⟨by simp [toRes], rfl⟩
      · repeat refine vs ?_
        conv => whnf
        refine NewK.mk false ?_
        repeat refine vs ?_
        conv => whnf
        refine CallS.mk _ rfl true true _ (dA) rfl ?_
        repeat refine vs ?_
        conv => whnf
        first | rfl | exact ⟨rfl, rfl⟩ | exact ⟨by simp [toRes], rfl⟩
    | true =>
      have h1 : Lm.Good n1 l := by unfold goodB at g1; simpa using g1
      have h2 : Lm.Good n2 m := by unfold goodB at g2; simpa using g2
      rw [good_bigV h1, good_bigV h2]
      have k1 := good_bigV h1
      have k2 := good_bigV h2
      have hx := good_ln h1
      have hy := good_ln h2
      have b1 : goodB (decide (Lm.num n1 l < 0)) (Lm.lim (Lm.num n1 l).natAbs) = true := goodB_true (Lm.good_lim hx)
      have b2 : goodB (decide (Lm.num n2 m < 0)) (Lm.lim (Lm.num n2 m).natAbs) = true := goodB_true (Lm.good_lim hy)
      have s := subS_den _ _ hx hy b1 b2
      have i := subI_den _ _ hx hy b1 b2
      generalize Lm.num n1 l = x at *
      generalize Lm.num n2 m = y at *
      unfold fitV at s i
      by_cases h : Lm.ln (x - y) ≤ 40
      · rw [if_pos h] at s i
        exact ⟨_, _, _, h, s, i⟩
      · rw [if_neg h] at s i
        exact ⟨_, _, _, by simp, s, i⟩

theorem mulS_den (x y : Int) (hx : Lm.ln x ≤ 40) (hy : Lm.ln y ≤ 40) (g1 : goodB (decide (x < 0)) (Lm.lim x.natAbs) = true) (g2 : goodB (decide (y < 0)) (Lm.lim y.natAbs) = true) :
    D 26 [bigV x, bigV y] false (.tup [fitV (x * y), bP (decide (Lm.ln (x * y) ≤ 40))]) := by
  have hz : Lm.ln (x * y) ≤ 400000000000 := by have := Lm.ln_mul x y hx hy; omega
  have e1 : (Lm.lim x.natAbs).length ≤ 40 := hx
  have e2 : (Lm.lim y.natAbs).length ≤ 40 := hy
  have d1 := goodS_den (decide (x < 0)) (Lm.lim x.natAbs) (by omega)
  have d2 := goodS_den (decide (y < 0)) (Lm.lim y.natAbs) (by omega)
  rw [g1] at d1
  rw [g2] at d2
  have dF := l1Fits_den (x * y) hz
  have hf : ∃ n l, fitV (x * y) = rawV n l := by unfold fitV; split <;> exact ⟨_, _, rfl⟩
  obtain ⟨n, l, hf⟩ := hf
  rw [hf] at dF ⊢
  refine go Try.func26 rfl rfl ?_
  repeat refine vs ?_
  conv => whnf
  refine CallS.mk _ rfl true true _ (d1) rfl ?_
  repeat refine vs ?_
  conv => whnf
  refine CallS.mk _ rfl true true _ (d2) rfl ?_
  repeat refine vs ?_
  conv => whnf
  refine CallS.mk _ rfl true false _ (l1Mul_den x y (by omega) (by omega)) rfl ?_
  repeat refine vs ?_
  conv => whnf
  refine CallS.mk _ rfl false false _ (dF) rfl ?_
  repeat refine vs ?_
  conv => whnf
  first | rfl | exact ⟨rfl, rfl⟩ | exact ⟨by simp [toRes], rfl⟩
theorem mulI_den (x y : Int) (hx : Lm.ln x ≤ 40) (hy : Lm.ln y ≤ 40) (g1 : goodB (decide (x < 0)) (Lm.lim x.natAbs) = true) (g2 : goodB (decide (y < 0)) (Lm.lim y.natAbs) = true) :
    D 27 [bigV x, bigV y] true (.tup [fitV (x * y), bP (decide (Lm.ln (x * y) ≤ 40))]) := by
  have hz : Lm.ln (x * y) ≤ 400000000000 := by have := Lm.ln_mul x y hx hy; omega
  have e1 : (Lm.lim x.natAbs).length ≤ 40 := hx
  have e2 : (Lm.lim y.natAbs).length ≤ 40 := hy
  have d1 := are2_den (decide (x < 0)) (decide (y < 0)) (Lm.lim x.natAbs) (Lm.lim y.natAbs) (by omega) (by omega)
  rw [g1, g2] at d1
  have dF := checked_m (x * y) hz
  unfold fitV
  refine go Try.func27 rfl rfl ?_
  repeat refine vs ?_
  conv => whnf
  refine NewK.mk false ?_
  repeat refine vs ?_
  conv => whnf
  refine CallS.mk _ rfl true true _ (d1) rfl ?_
  repeat refine vs ?_
  conv => whnf
  refine CallS.mk _ rfl true true _ (mul_den x y (by omega) (by omega)) rfl ?_
  repeat refine vs ?_
  conv => whnf
  by_cases h : Lm.ln (x * y) ≤ 40
  · rw [if_pos h, decide_eq_true h] at dF ⊢
    repeat refine vs ?_
    conv => whnf
    refine MutS.mk _ rfl _ rfl _ _ (dF) ?_
    repeat refine vs ?_
    conv => whnf
    first | rfl | exact ⟨rfl, rfl⟩ | exact ⟨by simp [toRes], rfl⟩
  · rw [if_neg h, decide_eq_false h] at dF ⊢
    repeat refine vs ?_
    conv => whnf
    refine MutS.mk _ rfl _ rfl _ _ (dF) ?_
    repeat refine vs ?_
    conv => whnf
    first | rfl | exact ⟨rfl, rfl⟩ | exact ⟨by simp [toRes], rfl⟩
theorem mulBoth (n1 : Bool) (l : List Int) (n2 : Bool) (m : List Int) (hl : l.length ≤ 1000000000000) (hm : m.length ≤ 1000000000000) : ∃ n r b, r.length ≤ 40 ∧ D 26 [rawV n1 l, rawV n2 m] false (.tup [rawV n r, bP b]) ∧ D 27 [rawV n1 l, rawV n2 m] true (.tup [rawV n r, bP b]) := by
  have dS1 := goodS_den n1 l hl
  have dS2 := goodS_den n2 m hm
  have dA := are2_den n1 n2 l m hl hm
  cases g1 : goodB n1 l with
  | false =>
    rw [g1] at dS1 dA
    refine ⟨false, [], false, by simp, go Try.func26 rfl rfl ?_, go Try.func27 rfl rfl ?_⟩
    · repeat refine vs ?_
      conv => whnf
      refine CallS.mk _ rfl true true _ (dS1) rfl ?_
      repeat refine vs ?_
      conv => whnf
      first | rfl | exact ⟨rfl, rfl⟩ | exact ⟨by simp [toRes], rfl⟩
    · repeat refine vs ?_
      conv => whnf
      refine NewK.mk false ?_
      repeat refine vs ?_
      conv => whnf
      refine CallS.mk _ rfl true true _ (dA) rfl ?_
      repeat refine vs ?_
      conv => whnf
      first | rfl | exact ⟨rfl, rfl⟩ | exact ⟨by simp [toRes], rfl⟩
  | true =>
    cases g2 : goodB n2 m with
    | false =>
      rw [g1] at dS1 dA
      rw [g2] at dS2 dA
      refine ⟨false, [], false, by simp, go Try.func26 rfl rfl ?_, go Try.func27 rfl rfl ?_⟩
      · repeat refine vs ?_
        conv => whnf
        refine CallS.mk _ rfl true true _ (dS1) rfl ?_
        repeat refine vs ?_
        conv => whnf
        refine CallS.mk _ rfl true true _ (dS2) rfl ?_
        repeat refine vs ?_
        conv => whnf
        first | rfl | exact ⟨rfl, rfl⟩ | exact ⟨by simp [toRes], rfl⟩
      · repeat refine vs ?_
        conv => whnf
        refine NewK.mk false ?_
        repeat refine vs ?_
        conv => whnf
        refine CallS.mk _ rfl true true _ (dA) rfl ?_
        repeat refine vs ?_
        conv => whnf
        first | rfl | exact ⟨rfl, rfl⟩ | exact ⟨by simp [toRes], rfl⟩
    | true =>
      have h1 : Lm.Good n1 l := by unfold goodB at g1; simpa using g1
      have h2 : Lm.Good n2 m := by unfold goodB at g2; simpa using g2
      rw [good_bigV h1, good_bigV h2]
      have k1 := good_bigV h1
      have k2 := good_bigV h2
      have hx := good_ln h1
      have hy := good_ln h2
      have b1 : goodB (decide (Lm.num n1 l < 0)) (Lm.lim (Lm.num n1 l).natAbs) = true := goodB_true (Lm.good_lim hx)
      have b2 : goodB (decide (Lm.num n2 m < 0)) (Lm.lim (Lm.num n2 m).natAbs) = true := goodB_true (Lm.good_lim hy)
      have s := mulS_den _ _ hx hy b1 b2
      have i := mulI_den _ _ hx hy b1 b2
      generalize Lm.num n1 l = x at *
      generalize Lm.num n2 m = y at *
      unfold fitV at s i
      by_cases h : Lm.ln (x * y) ≤ 40
      · rw [if_pos h] at s i
        exact ⟨_, _, _, h, s, i⟩
      · rw [if_neg h] at s i
        exact ⟨_, _, _, by simp, s, i⟩
end Go.Vx
