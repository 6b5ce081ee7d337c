/- DerivePoly and AddPoly. -/
import Derived.Test.YtpmgjmkobpeepaaGreatP7
set_option linter.unusedVariables false
set_option linter.unusedSectionVars false
set_option linter.unusedSimpArgs false
namespace Go.Vx
open Go.Proofs
set_option maxRecDepth 100000

theorem take_cellR {fs : List (Int × Int)} {i : Nat} (h : i < fs.length) : (fs.take (i + 1)).map cellR = (fs.take i).map cellR ++ [cellR fs[i]] := by
  rw [List.take_succ_eq_append_getElem h, List.map_append]
  rfl
/-- The derivative: the members times their indices, from i on. -/
def derF : Nat → List (Int × Int) → List (Int × Int)
  | _, [] => []
  | i, f :: l => mulR f ((i : Int), 1) :: derF (i + 1) l
def derivF (fs : List (Int × Int)) : List (Int × Int) := derF 1 (fs.drop 1)
theorem derF_len : ∀ {l : List (Int × Int)} {i : Nat}, (derF i l).length = l.length
  | [], _ => rfl
  | f :: l, i => by simp [derF, derF_len]
theorem derF_get : ∀ {l : List (Int × Int)} {i j : Nat} (h : j < l.length), (derF i l)[j]? = some (mulR l[j] (((i + j : Nat) : Int), 1))
  | f :: l, i, 0, _ => by simp [derF]
  | f :: l, i, j + 1, h => by
    simp only [derF, List.getElem?_cons_succ, List.getElem_cons_succ]
    rw [derF_get (by simpa using h)]
    rw [show i + 1 + j = i + (j + 1) by omega]
theorem derivF_take {fs : List (Int × Int)} {i : Nat} (h1 : 1 ≤ i) (h : i < fs.length) : (derivF fs).take i = (derivF fs).take (i - 1) ++ [mulR fs[i] ((i : Int), 1)] := by
  have hl : (derivF fs).length = fs.length - 1 := by unfold derivF; rw [derF_len, List.length_drop]
  have hg : (derivF fs)[i - 1]? = some (mulR fs[i] ((i : Int), 1)) := by
    unfold derivF
    rw [derF_get (by rw [List.length_drop]; omega)]
    simp only [List.getElem_drop]
    congr 3
    · congr 1; omega
    · omega
  have hlt : i - 1 < (derivF fs).length := by omega
  have := List.take_succ_eq_append_getElem hlt
  rw [show i - 1 + 1 = i by omega] at this
  rw [this]
  rw [List.getElem?_eq_getElem hlt] at hg
  rw [Option.some.inj hg]
theorem derF_ok {M : Nat} : ∀ {l : List (Int × Int)} {i : Nat}, (i + l.length : Nat) ≤ 1000000 → (∀ f ∈ l, okF M f) → ∀ f ∈ derF i l, okF (M + 4) f
  | [], _, _, _, f, h => by cases h
  | g :: l, i, hi, hl, f, h => by
    rcases List.mem_cons.1 h with rfl | h
    · exact mulR_ok (hl g List.mem_cons_self) (whole_R (i : Int) (by omega) (by simp at hi; omega))
    · exact derF_ok (by simp at hi; omega) (fun d hd => hl d (List.mem_cons_of_mem _ hd)) f h

section
variable (fs : List (Int × Int)) (hl : fs.length ≤ 100) (hq : ∀ f ∈ fs, okF 1000000 f)
include hl hq
theorem derived_den : D 115 [(false, [.arr 4 (fs.map cellR)])] false (.one (false, [.arr 4 ((derivF fs).map cellR)])) := by
  have hrl : (fs.map cellR).length = fs.length := by simp
  have hdl : (derivF fs).length = fs.length - 1 := by unfold derivF; rw [derF_len, List.length_drop]
  refine go Tryz.func115 rfl rfl ?_
  repeat refine vs ?_
  conv => whnf
  refine NewK.mk true ?_
  repeat refine vs ?_
  conv => whnf
  refine EVs.loopU (fun i : Nat => 1 ≤ i ∧ (i ≤ fs.length ∨ i = 1)) (fun i => fs.length - i) (fun i => [(3, .v false [.own (50, 0) 41 (.arr 4 (((derivF fs).take (i - 1)).map cellR))]), (4, .v false [.p (.int .i64 (i : Int))]), (5, .any)]) 1 (by omega) ?_ ?_
  · refine Wk.trans (Wk.ren (5, 0) (50, 0)) ?_
    refine Wk.le ?_
    repeat' (first | exact LeT.nil | refine LeT.drop1 ?_ | refine LeT.same1 ?_ | refine LeT.own1 ?_ | refine LeT.ownR ?_ | (refine LeT.deepR ?_ rfl))
  rintro i ⟨hi1, hi⟩
  refine go1 ?_
  repeat refine vs ?_
  conv => whnf
  by_cases h1 : (i : Int) < (fs.map cellR).length
  · have hlt : i < fs.length := by omega
    have hc := hq fs[i] (List.getElem_mem hlt)
    have hget : (fs.map cellR)[i]? = some (cellR fs[i]) := by rw [List.getElem?_map, List.getElem?_eq_getElem hlt]; rfl
    have htk := derivF_take hi1 hlt
    generalize fs[i] = c at *
    have dM := mulR_I (a := c) (b := ((i : Int), 1)) (hc.mono (by omega)) ((whole_R (i : Int) (by omega) (by omega)).mono (by omega))
    have dW := whole_den (i : Int) (by omega) (by omega)
    generalize mulR c ((i : Int), 1) = m at *
    have hrow : ((derivF fs).take (i - 1)).map cellR ++ [[.bool (decide (m.1 < 0)), .ints (Lm.lim m.1.natAbs), .bool (decide (m.2 < 0)), .ints (Lm.lim m.2.natAbs)]] = ((derivF fs).take (i + 1 - 1)).map cellR := by
      rw [Nat.add_sub_cancel, htk, List.map_append]
      rfl
    repeat refine vs ?_
    conv => whnf
    first | refine Idx.mk (i) (by first | rfl | omega) (by omega) ?_ | skip
    repeat refine vs ?_
    conv => whnf
    refine LdR.mk (cellR c) hget ?_
    repeat refine vs ?_
    conv => whnf
    refine CallS.mk _ rfl true false _ (dW) rfl ?_
    repeat refine vs ?_
    conv => whnf
    refine CallS.mk _ rfl true false _ (dM) rfl ?_
    repeat refine vs ?_
    conv => whnf
    refine NewK.mk false ?_
    repeat refine vs ?_
    conv => whnf
    refine ⟨by simp only [PL.len, List.length_map, List.length_take, List.length_singleton]; omega, ?_⟩
    repeat refine vs ?_
    conv => whnf
    refine NewK.mk true ?_
    repeat refine vs ?_
    conv => whnf
    rw [hrow]
    refine ⟨i + 1, by omega, by omega, ?_⟩
    refine Wk.le ?_
    repeat' (first | exact LeT.nil | refine LeT.drop1 ?_ | refine LeT.same1 ?_ | refine LeT.own1 ?_ | refine LeT.ownR ?_ | (refine LeT.deepR ?_ rfl))
  · repeat refine vs ?_
    conv => whnf
    have ht : (derivF fs).take (i - 1) = derivF fs := List.take_of_length_le (by omega)
    rw [ht]
    first | rfl | exact ⟨rfl, rfl⟩ | exact ⟨by simp [toRes], rfl⟩
theorem l4Derive_den : D 114 [(false, [.arr 4 (fs.map cellR)])] false (.one (false, [.arr 4 ((trimF (derivF fs)).map cellR)])) := by
  have hrl : (fs.map cellR).length = fs.length := by simp
  have hdl : (derivF fs).length = fs.length - 1 := by unfold derivF; rw [derF_len, List.length_drop]
  have hdo : ∀ f ∈ derivF fs, okF 1000000000 f := fun f hf => (derF_ok (M := 1000000) (l := fs.drop 1) (i := 1) (by rw [List.length_drop]; omega) (fun g hg => hq g (List.mem_of_mem_drop hg)) f hf).mono (by omega)
  have dC := l4Cut_den (derivF fs) (by omega) hdo
  refine go Tryz.func114 rfl rfl ?_
  repeat refine vs ?_
  conv => whnf
  refine EVs.un (50, 0) ?_
  refine EVs.loopU (fun i : Nat => 1 ≤ i ∧ (i ≤ fs.length ∨ i = 1)) (fun i => fs.length - i) (fun i => [(3, .v false [.own (50, 0) 41 (.arr 4 (((derivF fs).take (i - 1)).map cellR))]), (4, .v false [.p (.int .i64 (i : Int))])]) 1 (by omega) ?_ ?_
  · refine Wk.le ?_
    repeat' (first | exact LeT.nil | refine LeT.drop1 ?_ | refine LeT.same1 ?_ | refine LeT.own1 ?_ | refine LeT.ownR ?_ | (refine LeT.deepR ?_ rfl))
  rintro i ⟨hi1, hi⟩
  refine go1 ?_
  repeat refine vs ?_
  conv => whnf
  by_cases h1 : (i : Int) < (fs.map cellR).length
  · have hlt : i < fs.length := by omega
    have hc := hq fs[i] (List.getElem_mem hlt)
    have hget : (fs.map cellR)[i]? = some (cellR fs[i]) := by rw [List.getElem?_map, List.getElem?_eq_getElem hlt]; rfl
    have htk := derivF_take hi1 hlt
    generalize fs[i] = c at *
    have dM := mulR_S (a := c) (b := ((i : Int), 1)) (hc.mono (by omega)) ((whole_R (i : Int) (by omega) (by omega)).mono (by omega))
    have dW := l2Int_den (i : Int) (by omega) (by omega)
    generalize mulR c ((i : Int), 1) = m at *
    have hrow : ((derivF fs).take (i - 1)).map cellR ++ [[.bool (decide (m.1 < 0)), .ints (Lm.lim m.1.natAbs), .bool (decide (m.2 < 0)), .ints (Lm.lim m.2.natAbs)]] = ((derivF fs).take (i + 1 - 1)).map cellR := by
      rw [Nat.add_sub_cancel, htk, List.map_append]
      rfl
    repeat refine vs ?_
    conv => whnf
    first | refine Idx.mk (i) (by first | rfl | omega) (by omega) ?_ | skip
    repeat refine vs ?_
    conv => whnf
    refine LdR.mk (cellR c) hget ?_
    repeat refine vs ?_
    conv => whnf
    refine CallS.mk _ rfl true false _ (dW) rfl ?_
    repeat refine vs ?_
    conv => whnf
    refine CallS.mk _ rfl true false _ (dM) rfl ?_
    repeat refine vs ?_
    conv => whnf
    refine NewK.mk false ?_
    repeat refine vs ?_
    conv => whnf
    refine ⟨by simp only [PL.len, List.length_map, List.length_take, List.length_singleton]; omega, ?_⟩
    repeat refine vs ?_
    conv => whnf
    refine NewK.mk true ?_
    repeat refine vs ?_
    conv => whnf
    rw [hrow]
    refine ⟨i + 1, by omega, by omega, ?_⟩
    refine Wk.le ?_
    repeat' (first | exact LeT.nil | refine LeT.drop1 ?_ | refine LeT.same1 ?_ | refine LeT.own1 ?_ | refine LeT.ownR ?_ | (refine LeT.deepR ?_ rfl))
  · have ht : (derivF fs).take (i - 1) = derivF fs := List.take_of_length_le (by omega)
    rw [ht]
    repeat refine vs ?_
    conv => whnf
    refine CallS.mk _ rfl false false _ (dC) rfl ?_
    repeat refine vs ?_
    conv => whnf
    first | rfl | exact ⟨rfl, rfl⟩ | exact ⟨by simp [toRes], rfl⟩
end
theorem goodP_short {rs : List RawQ} (h : goodP 7 6 rs = true) : shortP 1048576 rs := by
  unfold goodP at h
  simp only [Bool.and_eq_true, List.all_eq_true, decide_eq_true_eq] at h
  refine ⟨by omega, fun r hr => ?_⟩
  have := h.1.2 r hr
  unfold okQ at this
  simp only [Bool.and_eq_true, decide_eq_true_eq] at this
  omega
theorem resP_short (fs : List (Int × Int)) : shortP 1048576 ((resP fs).map qF) := by
  unfold resP
  split
  · rename_i h
    exact goodP_short h
  · exact ⟨by simp, fun r hr => by simp at hr⟩
theorem shortP.big {rs : List RawQ} (hrs : shortP 1048576 rs) : shortP 1000000000000 rs := ⟨Nat.le_trans hrs.1 (by decide), fun r hr => ⟨Nat.le_trans (hrs.2 r hr).1 (by decide), Nat.le_trans (hrs.2 r hr).2 (by decide)⟩⟩
end Go.Vx
