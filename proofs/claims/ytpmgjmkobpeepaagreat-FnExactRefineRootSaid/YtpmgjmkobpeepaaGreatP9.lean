/- AddPoly: sums of polynomials. -/
import Derived.Test.YtpmgjmkobpeepaaGreatP8
set_option linter.unusedVariables false
set_option linter.unusedSectionVars false
set_option linter.unusedSimpArgs false
namespace Go.Vx
open Go.Proofs
set_option maxRecDepth 100000

def coefF (p : List (Int × Int)) (i : Nat) : Int × Int := (p[i]?).getD (0, 1)
def plusV (p q : List (Int × Int)) (i : Nat) : Int × Int := match p[i]?, q[i]? with
  | some x, some y => addR x y
  | some x, none => x
  | none, some y => y
  | none, none => (0, 1)
def plusF (p q : List (Int × Int)) : List (Int × Int) := (List.range (max p.length q.length)).map (plusV p q)
theorem plusF_len (p q : List (Int × Int)) : (plusF p q).length = max p.length q.length := by simp [plusF]
theorem plusF_take {p q : List (Int × Int)} {i : Nat} (h : i < max p.length q.length) : ((plusF p q).take (i + 1)).map cellR = ((plusF p q).take i).map cellR ++ [cellR (plusV p q i)] := by
  have hl : i < (plusF p q).length := by rw [plusF_len]; exact h
  rw [take_cellR hl]
  congr 3
  simp [plusF]
/-- Lowest terms, whatever the size. -/
def low (f : Int × Int) : Prop := 0 < f.2 ∧ Int.gcd f.1 f.2 = 1
theorem addR_zeroL {x : Int × Int} (h : low x) : addR (0, 1) x = x := by
  have e : addN 0 1 x.1 x.2 = x.1 := by simp [addN]
  unfold addR
  simp only [e, Int.one_mul]
  rw [nN_one h.2 h.1, dN_one h.2 h.1]
theorem addR_zeroR {x : Int × Int} (h : low x) : addR x (0, 1) = x := by
  have e : addN x.1 x.2 0 1 = x.1 := by simp [addN]
  unfold addR
  simp only [e, Int.mul_one]
  rw [nN_one h.2 h.1, dN_one h.2 h.1]
theorem plusV_ok {K : Nat} {p q : List (Int × Int)} (hp : ∀ f ∈ p, okF K f) (hq : ∀ f ∈ q, okF K f) (i : Nat) : okF (K + K + 1 + 4) (plusV p q i) := by
  unfold plusV
  split
  · rename_i x y h1 h2
    exact (addR_ok (hp x (List.mem_of_getElem? h1)) (hq y (List.mem_of_getElem? h2))).mono (by omega)
  · rename_i x h1 h2
    exact (hp x (List.mem_of_getElem? h1)).mono (by omega)
  · rename_i y h1 h2
    exact (hq y (List.mem_of_getElem? h2)).mono (by omega)
  · exact (whole_R 0 (by omega) (by omega)).mono (by omega)
theorem plusF_ok {K : Nat} {p q : List (Int × Int)} (hp : ∀ f ∈ p, okF K f) (hq : ∀ f ∈ q, okF K f) : ∀ f ∈ plusF p q, okF (K + K + 1 + 4) f := by
  intro f hf
  obtain ⟨i, _, rfl⟩ := List.mem_map.1 hf
  exact plusV_ok hp hq i

section
variable (p q : List (Int × Int)) (hpl : p.length ≤ 1000) (hql : q.length ≤ 1000) (hp : ∀ f ∈ p, okF 100000000 f ∧ Int.gcd f.1 f.2 = 1) (hq : ∀ f ∈ q, okF 100000000 f ∧ Int.gcd f.1 f.2 = 1)
include hpl hql hp hq
theorem plus_den : D 109 [(false, [.arr 4 (p.map cellR)]), (false, [.arr 4 (q.map cellR)])] false (.one (false, [.arr 4 ((trimF (plusF p q)).map cellR)])) := by
  have hrl : (p.map cellR).length = p.length := by simp
  have hrl2 : (q.map cellR).length = q.length := by simp
  have hsl := plusF_len p q
  have hso := plusF_ok (fun f hf => (hp f hf).1) (fun f hf => (hq f hf).1)
  have dT := trim_den (plusF p q) (by omega) (fun f hf => (hso f hf).mono (by omega))
  refine go Tryz.func109 rfl rfl ?_
  repeat refine vs ?_
  conv => whnf
  refine NewK.mk true ?_
  repeat refine vs ?_
  conv => whnf
  refine Eqz.mk ((max p.length q.length : Nat) : Int) (by rw [hrl, hrl2]; split <;> omega) ?_
  repeat refine vs ?_
  conv => whnf
  refine EVs.un (50, 0) ?_
  refine EVs.loopU (fun i : Nat => i ≤ max p.length q.length) (fun i => max p.length q.length - i) (fun i => [(5, .v false [.own (50, 0) 41 (.arr 4 (((plusF p q).take i).map cellR))]), (14, .v false [.p (.int .i64 (i : Int))]), (8, .any)]) 0 (by omega) ?_ ?_
  · refine Wk.trans (Wk.ren (8, 0) (50, 0)) ?_
    refine Wk.le ?_
    repeat' (first | exact LeT.nil | refine LeT.drop1 ?_ | refine LeT.same1 ?_ | refine LeT.own1 ?_ | refine LeT.ownR ?_ | (refine LeT.deepR ?_ rfl))
  intro i hi
  refine go1 ?_
  repeat refine vs ?_
  conv => whnf
  by_cases h1 : (i : Int) < ((max p.length q.length : Nat) : Int)
  · have hlt : i < max p.length q.length := by omega
    have hrow : ((plusF p q).take i).map cellR ++ [[.bool (decide ((plusV p q i).1 < 0)), .ints (Lm.lim (plusV p q i).1.natAbs), .bool (decide ((plusV p q i).2 < 0)), .ints (Lm.lim (plusV p q i).2.natAbs)]] = ((plusF p q).take (i + 1)).map cellR := (plusF_take hlt).symm
    have dW := whole_den 0 (by omega) (by omega)
    have d0 := whole_R 0 (by omega) (by omega)
    by_cases hA : i < p.length <;> by_cases hB : i < q.length
    · have ga : (p.map cellR)[i]? = some (cellR p[i]) := by rw [List.getElem?_map, List.getElem?_eq_getElem hA]; rfl
      have gb : (q.map cellR)[i]? = some (cellR q[i]) := by rw [List.getElem?_map, List.getElem?_eq_getElem hB]; rfl
      have ha := hp p[i] (List.getElem_mem hA)
      have hb := hq q[i] (List.getElem_mem hB)
      have hv : plusV p q i = addR p[i] q[i] := by unfold plusV; rw [List.getElem?_eq_getElem hA, List.getElem?_eq_getElem hB]
      rw [hv] at hrow
      generalize p[i] = x at *
      generalize q[i] = y at *
      have dA := addR_I (a := (0, 1)) (b := x) (d0.mono (by omega)) (ha.1.mono (by omega))
      rw [addR_zeroL ⟨ha.1.1, ha.2⟩] at dA
      have dB := addR_I (a := x) (b := y) (ha.1.mono (by omega)) (hb.1.mono (by omega))
      generalize addR x y = z at *
      have c1 : (i : Int) < (p.map cellR).length := by omega
      have c2 : (i : Int) < (q.map cellR).length := by omega
      repeat refine vs ?_
      conv => whnf
      refine CallS.mk _ rfl true false _ (dW) rfl ?_
      repeat refine vs ?_
      conv => whnf
      first | refine Idx.mk (i) (by first | rfl | omega) (by omega) ?_ | skip
      repeat refine vs ?_
      conv => whnf
      refine LdR.mk (cellR x) ga ?_
      repeat refine vs ?_
      conv => whnf
      refine CallS.mk _ rfl true false _ (dA) rfl ?_
      repeat refine vs ?_
      conv => whnf
      first | refine Idx.mk (i) (by first | rfl | omega) (by omega) ?_ | skip
      repeat refine vs ?_
      conv => whnf
      refine LdR.mk (cellR y) gb ?_
      repeat refine vs ?_
      conv => whnf
      refine CallS.mk _ rfl true false _ (dB) rfl ?_
      repeat refine vs ?_
      conv => whnf
      refine NewK.mk false ?_
      repeat refine vs ?_
      conv => whnf
      refine ⟨by simp only [List.length_map, List.length_take, List.length_singleton]; omega, ?_⟩
      repeat refine vs ?_
      conv => whnf
      refine NewK.mk true ?_
      repeat refine vs ?_
      conv => whnf
      rw [hrow]
      refine ⟨i + 1, by omega, by omega, ?_⟩
      refine Wk.le ?_
      repeat' (first | exact LeT.nil | refine LeT.drop1 ?_ | refine LeT.same1 ?_ | refine LeT.own1 ?_ | refine LeT.ownR ?_ | (refine LeT.deepR ?_ rfl))
    · have ga : (p.map cellR)[i]? = some (cellR p[i]) := by rw [List.getElem?_map, List.getElem?_eq_getElem hA]; rfl
      have ha := hp p[i] (List.getElem_mem hA)
      have hv : plusV p q i = p[i] := by unfold plusV; rw [List.getElem?_eq_getElem hA, List.getElem?_eq_none (by omega)]
      rw [hv] at hrow
      generalize p[i] = x at *
      have dA := addR_I (a := (0, 1)) (b := x) (d0.mono (by omega)) (ha.1.mono (by omega))
      rw [addR_zeroL ⟨ha.1.1, ha.2⟩] at dA
      have c1 : (i : Int) < (p.map cellR).length := by omega
      have c2 : ¬ (i : Int) < (q.map cellR).length := by omega
      repeat refine vs ?_
      conv => whnf
      refine CallS.mk _ rfl true false _ (dW) rfl ?_
      repeat refine vs ?_
      conv => whnf
      first | refine Idx.mk (i) (by first | rfl | omega) (by omega) ?_ | skip
      repeat refine vs ?_
      conv => whnf
      refine LdR.mk (cellR x) ga ?_
      repeat refine vs ?_
      conv => whnf
      refine CallS.mk _ rfl true false _ (dA) rfl ?_
      repeat refine vs ?_
      conv => whnf
      refine NewK.mk false ?_
      repeat refine vs ?_
      conv => whnf
      refine ⟨by simp only [List.length_map, List.length_take, List.length_singleton]; omega, ?_⟩
      repeat refine vs ?_
      conv => whnf
      refine NewK.mk true ?_
      repeat refine vs ?_
      conv => whnf
      rw [hrow]
      refine ⟨i + 1, by omega, by omega, ?_⟩
      refine Wk.le ?_
      repeat' (first | exact LeT.nil | refine LeT.drop1 ?_ | refine LeT.same1 ?_ | refine LeT.own1 ?_ | refine LeT.ownR ?_ | (refine LeT.deepR ?_ rfl))
    · have gb : (q.map cellR)[i]? = some (cellR q[i]) := by rw [List.getElem?_map, List.getElem?_eq_getElem hB]; rfl
      have hb := hq q[i] (List.getElem_mem hB)
      have hv : plusV p q i = q[i] := by unfold plusV; rw [List.getElem?_eq_getElem hB, List.getElem?_eq_none (by omega)]
      rw [hv] at hrow
      generalize q[i] = x at *
      have dA := addR_I (a := (0, 1)) (b := x) (d0.mono (by omega)) (hb.1.mono (by omega))
      rw [addR_zeroL ⟨hb.1.1, hb.2⟩] at dA
      have c1 : ¬ (i : Int) < (p.map cellR).length := by omega
      have c2 : (i : Int) < (q.map cellR).length := by omega
      repeat refine vs ?_
      conv => whnf
      refine CallS.mk _ rfl true false _ (dW) rfl ?_
      repeat refine vs ?_
      conv => whnf
      first | refine Idx.mk (i) (by first | rfl | omega) (by omega) ?_ | skip
      repeat refine vs ?_
      conv => whnf
      refine LdR.mk (cellR x) gb ?_
      repeat refine vs ?_
      conv => whnf
      refine CallS.mk _ rfl true false _ (dA) rfl ?_
      repeat refine vs ?_
      conv => whnf
      refine NewK.mk false ?_
      repeat refine vs ?_
      conv => whnf
      refine ⟨by simp only [List.length_map, List.length_take, List.length_singleton]; omega, ?_⟩
      repeat refine vs ?_
      conv => whnf
      refine NewK.mk true ?_
      repeat refine vs ?_
      conv => whnf
      rw [hrow]
      refine ⟨i + 1, by omega, by omega, ?_⟩
      refine Wk.le ?_
      repeat' (first | exact LeT.nil | refine LeT.drop1 ?_ | refine LeT.same1 ?_ | refine LeT.own1 ?_ | refine LeT.ownR ?_ | (refine LeT.deepR ?_ rfl))
    · omega
  · have ht : (plusF p q).take i = plusF p q := List.take_of_length_le (by omega)
    rw [ht]
    repeat refine vs ?_
    conv => whnf
    refine CallM.rd _ rfl _ (goE (dT)) (.inr rfl) ?_
    repeat refine vs ?_
    conv => whnf
    first | rfl | exact ⟨rfl, rfl⟩ | exact ⟨by simp [toRes], rfl⟩
theorem l4Add_den : D 50 [(false, [.arr 4 (p.map cellR)]), (false, [.arr 4 (q.map cellR)])] false (.one (false, [.arr 4 ((trimF (plusF p q)).map cellR)])) := by
  have hrl : (p.map cellR).length = p.length := by simp
  have hrl2 : (q.map cellR).length = q.length := by simp
  have hsl := plusF_len p q
  have hso := plusF_ok (fun f hf => (hp f hf).1) (fun f hf => (hq f hf).1)
  have dT := l4Cut_den (plusF p q) (by omega) (fun f hf => (hso f hf).mono (by omega))
  have dW := l2Int_den 0 (by omega) (by omega)
  have d0 := whole_R 0 (by omega) (by omega)
  -- one coefficient
  have dC : ∀ (l : List (Int × Int)) (i : Nat), i ≤ 1000 → D 104 [(false, [.arr 4 (l.map cellR)]), iP (i : Int)] false (.one (ratV (coefF l i).1 (coefF l i).2)) := by
    intro l i hi
    refine go Tryz.func104 rfl rfl ?_
    by_cases h : i < l.length
    · have ga : (l.map cellR)[i]? = some (cellR l[i]) := by rw [List.getElem?_map, List.getElem?_eq_getElem h]; rfl
      have hv : coefF l i = l[i] := by unfold coefF; rw [List.getElem?_eq_getElem h]; rfl
      rw [hv]
      generalize l[i] = x at *
      have c1 : (i : Int) < (l.map cellR).length := by rw [List.length_map]; omega
      repeat refine vs ?_
      conv => whnf
      first | refine Idx.mk (i) (by first | rfl | omega) (by omega) ?_ | skip
      repeat refine vs ?_
      conv => whnf
      refine LdR.mk (cellR x) ga ?_
      repeat refine vs ?_
      conv => whnf
      first | rfl | exact ⟨rfl, rfl⟩ | exact ⟨by simp [toRes], rfl⟩
    · have hv : coefF l i = (0, 1) := by unfold coefF; rw [List.getElem?_eq_none (by omega)]; rfl
      rw [hv]
      have c1 : ¬ (i : Int) < (l.map cellR).length := by rw [List.length_map]; omega
      repeat refine vs ?_
      conv => whnf
      refine CallS.mk _ rfl true false _ (dW) rfl ?_
      repeat refine vs ?_
      conv => whnf
      first | rfl | exact ⟨rfl, rfl⟩ | exact ⟨by simp [toRes], rfl⟩
  refine go Tryz.func50 rfl rfl ?_
  repeat refine vs ?_
  conv => whnf
  refine EVs.un (50, 0) ?_
  refine EVs.loopU (fun i : Nat => i ≤ max p.length q.length) (fun i => max p.length q.length - i) (fun i => [(5, .v false [.own (50, 0) 41 (.arr 4 (((plusF p q).take i).map cellR))]), (6, .v false [.p (.int .i64 (i : Int))])]) 0 (by omega) ?_ ?_
  · refine Wk.le ?_
    repeat' (first | exact LeT.nil | refine LeT.drop1 ?_ | refine LeT.same1 ?_ | refine LeT.own1 ?_ | refine LeT.ownR ?_ | (refine LeT.deepR ?_ rfl))
  intro i hi
  refine go1 ?_
  repeat refine vs ?_
  conv => whnf
  by_cases h1 : i < max p.length q.length
  · have hrow : ((plusF p q).take i).map cellR ++ [[.bool (decide ((plusV p q i).1 < 0)), .ints (Lm.lim (plusV p q i).1.natAbs), .bool (decide ((plusV p q i).2 < 0)), .ints (Lm.lim (plusV p q i).2.natAbs)]] = ((plusF p q).take (i + 1)).map cellR := (plusF_take h1).symm
    have dA := dC p i (by omega)
    have dB := dC q i (by omega)
    have hca : okF 100000000 (coefF p i) := by
      unfold coefF
      cases hh : p[i]? with
      | none => exact d0.mono (by omega)
      | some x => exact (hp x (List.mem_of_getElem? hh)).1
    have hcb : okF 100000000 (coefF q i) := by
      unfold coefF
      cases hh : q[i]? with
      | none => exact d0.mono (by omega)
      | some x => exact (hq x (List.mem_of_getElem? hh)).1
    have dS := addR_S (a := coefF p i) (b := coefF q i) (hca.mono (by omega)) (hcb.mono (by omega))
    have hv : addR (coefF p i) (coefF q i) = plusV p q i := by
      unfold coefF plusV
      cases hx : p[i]? with
      | none =>
        cases hy : q[i]? with
        | none =>
          rw [List.getElem?_eq_none_iff] at hx hy
          omega
        | some y =>
          have := hq y (List.mem_of_getElem? hy)
          exact addR_zeroL ⟨this.1.1, this.2⟩
      | some x =>
        have hx1 := hp x (List.mem_of_getElem? hx)
        cases hy : q[i]? with
        | none => exact addR_zeroR ⟨hx1.1.1, hx1.2⟩
        | some y => rfl
    rw [hv] at dS
    generalize coefF p i = x at *
    generalize coefF q i = y at *
    generalize plusV p q i = z at *
    by_cases hA : (i : Int) < (p.map cellR).length
    · repeat refine vs ?_
      conv => whnf
      refine CallS.mk _ rfl false false _ (dA) rfl ?_
      repeat refine vs ?_
      conv => whnf
      refine CallS.mk _ rfl false false _ (dB) rfl ?_
      repeat refine vs ?_
      conv => whnf
      refine CallS.mk _ rfl true false _ (dS) rfl ?_
      repeat refine vs ?_
      conv => whnf
      refine NewK.mk false ?_
      repeat refine vs ?_
      conv => whnf
      refine ⟨by simp only [List.length_map, List.length_take, List.length_singleton]; omega, ?_⟩
      repeat refine vs ?_
      conv => whnf
      refine NewK.mk true ?_
      repeat refine vs ?_
      conv => whnf
      rw [hrow]
      refine ⟨i + 1, by omega, by omega, ?_⟩
      refine Wk.le ?_
      repeat' (first | exact LeT.nil | refine LeT.drop1 ?_ | refine LeT.same1 ?_ | refine LeT.own1 ?_ | refine LeT.ownR ?_ | (refine LeT.deepR ?_ rfl))
    · have hB : (i : Int) < (q.map cellR).length := by omega
      repeat refine vs ?_
      conv => whnf
      refine CallS.mk _ rfl false false _ (dA) rfl ?_
      repeat refine vs ?_
      conv => whnf
      refine CallS.mk _ rfl false false _ (dB) rfl ?_
      repeat refine vs ?_
      conv => whnf
      refine CallS.mk _ rfl true false _ (dS) rfl ?_
      repeat refine vs ?_
      conv => whnf
      refine NewK.mk false ?_
      repeat refine vs ?_
      conv => whnf
      refine ⟨by simp only [List.length_map, List.length_take, List.length_singleton]; omega, ?_⟩
      repeat refine vs ?_
      conv => whnf
      refine NewK.mk true ?_
      repeat refine vs ?_
      conv => whnf
      rw [hrow]
      refine ⟨i + 1, by omega, by omega, ?_⟩
      refine Wk.le ?_
      repeat' (first | exact LeT.nil | refine LeT.drop1 ?_ | refine LeT.same1 ?_ | refine LeT.own1 ?_ | refine LeT.ownR ?_ | (refine LeT.deepR ?_ rfl))
  · have ht : (plusF p q).take i = plusF p q := List.take_of_length_le (by omega)
    rw [ht]
    have c1 : ¬ (i : Int) < (p.map cellR).length := by omega
    have c2 : ¬ (i : Int) < (q.map cellR).length := by omega
    repeat refine vs ?_
    conv => whnf
    refine CallS.mk _ rfl false false _ (dT) rfl ?_
    repeat refine vs ?_
    conv => whnf
    first | rfl | exact ⟨rfl, rfl⟩ | exact ⟨by simp [toRes], rfl⟩
end
theorem l4Both_den (rs ss : List RawQ) (hrs : shortP 1000000000000 rs) (hss : shortP 1000000000000 ss) : D 38 [polQ rs, polQ ss] true (.one (bP (goodP 7 6 rs && goodP 7 6 ss))) := by
  have g1 := goodPolyS_den rs hrs
  have g2 := goodPolyS_den ss hss
  refine go Tryz.func38 rfl rfl ?_
  cases h1 : goodP 7 6 rs with
  | false =>
    rw [h1] at g1
    repeat refine vs ?_
    conv => whnf
    refine CallS.mk _ rfl true true _ (g1) rfl ?_
    repeat refine vs ?_
    conv => whnf
    first | rfl | exact ⟨rfl, rfl⟩ | exact ⟨by simp [toRes], rfl⟩
  | true =>
    rw [h1] at g1
    repeat refine vs ?_
    conv => whnf
    refine CallS.mk _ rfl true true _ (g1) rfl ?_
    repeat refine vs ?_
    conv => whnf
    refine CallS.mk _ rfl true true _ (g2) rfl ?_
    repeat refine vs ?_
    conv => whnf
    first | rfl | exact ⟨rfl, rfl⟩ | exact ⟨by simp [toRes], rfl⟩
end Go.Vx
