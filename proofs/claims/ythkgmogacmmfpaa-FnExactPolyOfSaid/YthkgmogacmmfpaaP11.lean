/- PolyOf. -/
import Derived.Test.YthkgmogacmmfpaaP9
set_option linter.unusedVariables false
set_option linter.unusedSectionVars false
set_option linter.unusedSimpArgs false
namespace Go.Vx
open Go.Proofs
set_option maxRecDepth 100000

def inK (x : Int) : Bool := decide (-1000 ≤ x ∧ x ≤ 1000)
def wholeL (l : List Int) : List (Int × Int) := l.map fun n => (n, 1)
theorem polyOf1_den (x : Int) : D 66 [iP x] true (.one (bP (!inK x))) := by
  refine go Try.func66 rfl rfl ?_
  repeat refine vs ?_
  conv => whnf
  refine CallS.mk _ rfl true true _ (within_den x (-1000) 1000) rfl ?_
  repeat refine vs ?_
  conv => whnf
  refine Bo.mk _ rfl ?_
  repeat refine vs ?_
  conv => whnf
  first | rfl | exact ⟨rfl, rfl⟩ | exact ⟨by simp [toRes], rfl⟩
theorem wholeL_ok {l : List Int} (h : ∀ x ∈ l, inK x = true) : ∀ f ∈ wholeL l, okF 1000 f := fun f hf => by
  obtain ⟨x, hx, rfl⟩ := List.mem_map.1 hf
  have := h x hx
  unfold inK at this
  rw [decide_eq_true_iff] at this
  exact (whole_R x (by omega) (by omega)).mono (by omega)
theorem trimF_take (fs : List (Int × Int)) : fs.take (trimF fs).length = trimF fs := by
  have h := List.dropWhile_suffix (fun f : Int × Int => decide (f.1 = 0)) (l := fs.reverse)
  have h2 := List.reverse_prefix.2 h
  rw [List.reverse_reverse] at h2
  exact (List.prefix_iff_eq_take.1 h2).symm
/-- Zeros at the end of an own slice are left out. -/
theorem trim_d (fs : List (Int × Int)) (hl : fs.length ≤ 1000000) (hq : ∀ f ∈ fs, okF 1000000000 f) : Dd 69 4 (fs.map cellR) [] (fs.map cellR) (.darr (trimF fs).length []) := by
  have hrl : (fs.map cellR).length = fs.length := by simp
  refine goD Try.func69 rfl rfl rfl ?_
  repeat refine vs ?_
  conv => whnf
  refine EVs.loopU (fun n : Nat => n ≤ fs.length ∧ trimF (fs.take n) = trimF fs) (fun n => n) (fun n => [(3, .v false [.p (.int .i64 (n : Int))])]) fs.length ⟨by omega, by rw [List.take_length]⟩ ?_ ?_
  · rw [hrl]
    refine Wk.le ?_
    repeat' (first | exact LeT.nil | refine LeT.drop1 ?_ | refine LeT.same1 ?_ | refine LeT.own1 ?_ | refine LeT.ownR ?_ | (refine LeT.deepR ?_ rfl))
  rintro n ⟨hn, hinv⟩
  refine go1 ?_
  repeat refine vs ?_
  conv => whnf
  by_cases h0 : (n : Int) > 0
  · have hlt : n - 1 < fs.length := by omega
    have hc := hq fs[n - 1] (List.getElem_mem hlt)
    have hget : (fs.map cellR)[n - 1]? = some (cellR fs[n - 1]) := by rw [List.getElem?_map, List.getElem?_eq_getElem hlt]; rfl
    have ht : fs.take n = fs.take (n - 1) ++ [fs[n - 1]] := by
      have := List.take_succ_eq_append_getElem hlt
      rwa [show n - 1 + 1 = n by omega] at this
    rw [ht, trimF_snoc] at hinv
    generalize hcc : fs[n - 1] = c at *
    have dS := ratSign_den c.1 c.2 (Nat.le_trans hc.2.1 (by omega))
    repeat refine vs ?_
    conv => whnf
    first | refine Idx.mk (n - 1) (by first | rfl | omega) (by omega) ?_ | skip
    repeat refine vs ?_
    conv => whnf
    refine LdR.mk (cellR c) hget ?_
    repeat refine vs ?_
    conv => whnf
    refine CallS.mk _ rfl true true _ (dS) rfl ?_
    by_cases hz : c.1 = 0
    · have h2 : cmpI c.1 0 = 0 := by rw [hz]; rfl
      rw [if_pos hz] at hinv
      repeat refine vs ?_
      conv => whnf
      refine ⟨n - 1, by omega, ⟨by omega, hinv⟩, ?_⟩
      rw [show (n : Int) - 1 = ((n - 1 : Nat) : Int) by omega]
      refine Wk.le ?_
      repeat' (first | exact LeT.nil | refine LeT.drop1 ?_ | refine LeT.same1 ?_ | refine LeT.own1 ?_ | refine LeT.ownR ?_ | (refine LeT.deepR ?_ rfl))
    · have h2 : ¬ cmpI c.1 0 = 0 := by rcases cmpI_sgn c.1 with h | h | h <;> omega
      rw [if_neg hz, ← ht] at hinv
      have hln : (trimF fs).length = n := by rw [← hinv, List.length_take]; omega
      repeat refine vs ?_
      conv => whnf
      refine SubK.mk (0) (n) (by first | rfl | (show _ = _; omega)) (by first | rfl | (show _ = _; omega)) (by omega) (by omega) ?_
      repeat refine vs ?_
      conv => whnf
      exact ⟨⟨by rw [hln, hrl]; exact hn, _, rfl, by rw [List.length_take, hrl, hln]; omega⟩, rfl, rfl⟩
  · have h1 : n = 0 := by omega
    subst h1
    have hln : (trimF fs).length = 0 := by rw [← hinv]; rfl
    repeat refine vs ?_
    conv => whnf
    refine SubK.mk (0) (0) (by first | rfl | (show _ = _; omega)) (by first | rfl | (show _ = _; omega)) (by omega) (by omega) ?_
    repeat refine vs ?_
    conv => whnf
    exact ⟨⟨by rw [hln]; exact Nat.zero_le _, _, rfl, by rw [hln]; rfl⟩, rfl, rfl⟩

theorem polyOfI_den (l : List Int) (hl : l.length ≤ 1048576) (h7 : l.length ≤ 7) (hall : ∀ x ∈ l, inK x = true) : D 33 [lP l] true (.tup [(false, [.arr 4 ((trimF (wholeL l)).map cellR)]), bP true]) := by
  have hany : (l.any fun x => !inK x) = false := by
    rw [List.any_eq_false]
    intro x hx
    rw [hall x hx]; simp
  have dC := containsFunc_den l (by omega) 66 (fun x => !inK x) (fun x _ => polyOf1_den x)
  rw [hany] at dC
  have hwl : (wholeL l).length = l.length := List.length_map _
  have hwo := wholeL_ok hall
  have dT := trim_d (wholeL l) (by omega) (fun f hf => (hwo f hf).mono (by omega))
  have hty : ((wholeL l).map cellR).take (trimF (wholeL l)).length = (trimF (wholeL l)).map cellR := by
    rw [← List.map_take, trimF_take]
  refine go Try.func33 rfl rfl ?_
  repeat refine vs ?_
  conv => whnf
  refine CallS.mk _ rfl true true _ (dC) rfl ?_
  repeat refine vs ?_
  conv => whnf
  refine NewK.mk true ?_
  repeat refine vs ?_
  conv => whnf
  refine EVs.loopU (fun i : Nat => i ≤ l.length) (fun i => l.length - i) (fun i => [(4, .v false [.deep (14, 0) 3 4 (((wholeL l).take i).map cellR)]), (17, .v false [.p (.int .i64 (i : Int))]), (14, .any)]) 0 (by omega) ?_ ?_
  · refine Wk.le ?_
    repeat' (first | exact LeT.nil | refine LeT.drop1 ?_ | refine LeT.same1 ?_ | refine LeT.own1 ?_ | refine LeT.ownR ?_ | (refine LeT.deepR ?_ rfl))
  intro i hi
  refine go1 ?_
  repeat refine vs ?_
  conv => whnf
  by_cases h1 : (i : Int) < l.length
  · have hlt : i < l.length := by omega
    have hget : l[i]? = some l[i] := List.getElem?_eq_getElem hlt
    have hx := hall l[i] (List.getElem_mem hlt)
    unfold inK at hx
    rw [decide_eq_true_iff] at hx
    have htk := take_cellR (fs := wholeL l) (i := i) (by omega)
    have he : (wholeL l)[i]'(by omega) = (l[i], 1) := by simp [wholeL]
    rw [he] at htk
    generalize l[i] = x at *
    have dW := whole_den x (by omega) (by omega)
    repeat refine vs ?_
    conv => whnf
    first | refine Idx.mk (i) (by first | rfl | omega) (by omega) ?_ | skip
    repeat refine vs ?_
    conv => whnf
    first | refine LdI.mk (x) (hget) ?_ | skip
    repeat refine vs ?_
    conv => whnf
    refine CallS.mk _ rfl true true _ (dW) rfl ?_
    repeat refine vs ?_
    conv => whnf
    refine ⟨by rw [List.length_map, List.length_take]; omega, ?_⟩
    repeat refine vs ?_
    conv => whnf
    have hrow : ((wholeL l).take i).map cellR ++ [[.bool (decide (x < 0)), .ints (Lm.lim x.natAbs), .bool (decide ((1 : Int) < 0)), .ints (Lm.lim (1 : Int).natAbs)]] = ((wholeL l).take (i + 1)).map cellR := htk.symm
    rw [hrow]
    refine ⟨i + 1, by omega, by omega, ?_⟩
    refine Wk.le ?_
    repeat' (first | exact LeT.nil | refine LeT.drop1 ?_ | refine LeT.same1 ?_ | refine LeT.own1 ?_ | refine LeT.ownR ?_ | (refine LeT.deepR ?_ rfl))
  · have : i = l.length := by omega
    subst this
    rw [List.take_of_length_le (Nat.le_of_eq hwl)]
    repeat refine vs ?_
    conv => whnf
    refine DeepS.mk rfl _ rfl _ _ dT (by show _ ≤ _; rw [List.length_map]; exact trimF_len _) rfl ?_ ?_
    · repeat' (first | exact True.intro | refine ⟨rfl, ?_⟩)
    repeat refine vs ?_
    conv => whnf
    rw [hty]
    first | rfl | exact ⟨rfl, rfl⟩ | exact ⟨by simp [toRes], rfl⟩
theorem polyOfS_den (l : List Int) (h7 : l.length ≤ 1048576) : D 31 [lP l] false (.tup [(false, [.arr 4 ((if decide (l.length ≤ 7) && l.all inK then trimF (wholeL l) else []).map cellR)]), bP (decide (l.length ≤ 7) && l.all inK)]) := by
  have hwl : (wholeL l).length = l.length := List.length_map _
  refine goP 2 Try.func31 rfl rfl ?_
  repeat refine vs ?_
  conv => whnf
  refine EVs.un (60, 0) ?_
  refine EVs.loopU (fun i : Nat => i ≤ l.length ∧ ∀ (j : Nat) (h : j < l.length), j < i → inK l[j] = true) (fun i => l.length - i) (fun i => [(4, .v false [.own (60, 0) 41 (.arr 4 (((wholeL l).take i).map cellR))]), (9, .v false [.p (.int .i64 (i : Int))])]) 0 ⟨by omega, fun j h hj => by omega⟩ ?_ ?_
  · refine Wk.le ?_
    repeat' (first | exact LeT.nil | refine LeT.drop1 ?_ | refine LeT.same1 ?_ | refine LeT.own1 ?_ | refine LeT.ownR ?_ | (refine LeT.deepR ?_ rfl))
  rintro i ⟨hi, hall⟩
  refine go1 ?_
  repeat refine vs ?_
  conv => whnf
  by_cases h1 : (i : Int) < l.length
  · have hlt : i < l.length := by omega
    have hget : l[i]? = some l[i] := List.getElem?_eq_getElem hlt
    have hm := List.getElem_mem hlt
    have dI := l1In_den l[i] (-1000) 1000
    cases hx : inK l[i] with
    | false =>
      have hb : l.all inK = false := by
        rw [List.all_eq_false]
        exact ⟨l[i], hm, by rw [hx]; simp⟩
      have hd : decide ((-1000 : Int) ≤ l[i] ∧ l[i] ≤ 1000) = false := hx
      rw [hd] at dI
      rw [hb]
      repeat refine vs ?_
      conv => whnf
      first | refine Idx.mk (i) (by first | rfl | omega) (by omega) ?_ | skip
      repeat refine vs ?_
      conv => whnf
      first | refine LdI.mk (l[i]) (hget) ?_ | skip
      repeat refine vs ?_
      conv => whnf
      refine CallS.mk _ rfl true true _ (dI) rfl ?_
      repeat refine vs ?_
      conv => whnf
      rw [Bool.and_false]
      first | rfl | exact ⟨rfl, rfl⟩ | exact ⟨by simp [toRes], rfl⟩
    | true =>
      have hd : decide ((-1000 : Int) ≤ l[i] ∧ l[i] ≤ 1000) = true := hx
      have hdd := of_decide_eq_true hd
      rw [hd] at dI
      have hall2 : ∀ (j : Nat) (h : j < l.length), j < i + 1 → inK l[j] = true := fun j h hj => by
        by_cases e : j = i
        · subst e; exact hx
        · exact hall j h (by omega)
      have htk := take_cellR (fs := wholeL l) (i := i) (by omega)
      have he : (wholeL l)[i]'(by omega) = (l[i], 1) := by simp [wholeL]
      rw [he] at htk
      generalize l[i] = x at *
      have dW := l2Int_den x (by omega) (by omega)
      have hrow : ((wholeL l).take i).map cellR ++ [[.bool (decide (x < 0)), .ints (Lm.lim x.natAbs), .bool (decide ((1 : Int) < 0)), .ints (Lm.lim (1 : Int).natAbs)]] = ((wholeL l).take (i + 1)).map cellR := htk.symm
      repeat refine vs ?_
      conv => whnf
      first | refine Idx.mk (i) (by first | rfl | omega) (by omega) ?_ | skip
      repeat refine vs ?_
      conv => whnf
      first | refine LdI.mk (x) (hget) ?_ | skip
      repeat refine vs ?_
      conv => whnf
      refine CallS.mk _ rfl true true _ (dI) rfl ?_
      repeat refine vs ?_
      conv => whnf
      refine CallS.mk _ rfl true false _ (dW) rfl ?_
      repeat refine vs ?_
      conv => whnf
      refine NewK.mk false ?_
      repeat refine vs ?_
      conv => whnf
      refine ⟨by simp only [List.length_map, List.length_take, List.length_singleton]; omega, ?_⟩
      repeat refine vs ?_
      conv => whnf
      refine NewK.mk true ?_
      repeat refine vs ?_
      conv => whnf
      rw [hrow]
      refine ⟨i + 1, by omega, ⟨by omega, hall2⟩, ?_⟩
      refine Wk.le ?_
      repeat' (first | exact LeT.nil | refine LeT.drop1 ?_ | refine LeT.same1 ?_ | refine LeT.own1 ?_ | refine LeT.ownR ?_ | (refine LeT.deepR ?_ rfl))
  · have hia : l.all inK = true := by
      rw [List.all_eq_true]
      intro x hx
      obtain ⟨j, hj, rfl⟩ := List.getElem_of_mem hx
      exact hall j hj (by omega)
    have ht : (wholeL l).take i = wholeL l := List.take_of_length_le (by omega)
    rw [ht, hia]
    by_cases h7 : l.length ≤ 7
    · have dC := l4Cut_den (wholeL l) (by omega) (fun f hf => (wholeL_ok (fun x hx => List.all_eq_true.1 hia x hx) f hf).mono (by omega))
      rw [decide_eq_true h7]
      repeat refine vs ?_
      conv => whnf
      refine CallS.mk _ rfl false false _ (dC) rfl ?_
      repeat refine vs ?_
      conv => whnf
      first | rfl | exact ⟨rfl, rfl⟩ | exact ⟨by simp [toRes], rfl⟩
    · rw [decide_eq_false h7]
      repeat refine vs ?_
      conv => whnf
      first | rfl | exact ⟨rfl, rfl⟩ | exact ⟨by simp [toRes], rfl⟩
theorem polyOfI (l : List Int) (h : l.length ≤ 1048576) : D 33 [lP l] true (.tup [(false, [.arr 4 ((if decide (l.length ≤ 7) && l.all inK then trimF (wholeL l) else []).map cellR)]), bP (decide (l.length ≤ 7) && l.all inK)]) := by
  by_cases h7 : l.length ≤ 7
  · rw [decide_eq_true h7, Bool.true_and]
    cases ha : l.all inK with
    | true => exact polyOfI_den l h h7 (fun x hx => List.all_eq_true.1 ha x hx)
    | false =>
      have dC := containsFunc_den l (by omega) 66 (fun x => !inK x) (fun x _ => polyOf1_den x)
      have hany : (l.any fun x => !inK x) = true := by
        rw [List.all_eq_not_any_not] at ha
        simpa using ha
      rw [hany] at dC
      refine goN 2 Try.func33 rfl rfl ?_
      repeat refine vs ?_
      conv => whnf
      refine CallS.mk _ rfl true true _ (dC) rfl ?_
      repeat refine vs ?_
      conv => whnf
      first | rfl | exact ⟨rfl, rfl⟩ | exact ⟨by simp [toRes], rfl⟩
  · rw [decide_eq_false h7, Bool.false_and]
    refine goN 2 Try.func33 rfl rfl ?_
    repeat refine vs ?_
    conv => whnf
    first | rfl | exact ⟨rfl, rfl⟩ | exact ⟨by simp [toRes], rfl⟩
theorem polyOfBoth (l : List Int) (h : l.length ≤ 1048576) : ∃ rr b, shortP 1048576 rr ∧ D 31 [lP l] false (.tup [polQ rr, bP b]) ∧ D 33 [lP l] true (.tup [polQ rr, bP b]) := by
  have hS := polyOfS_den l h
  have hI := polyOfI l h
  have hsh : shortP 1048576 ((if decide (l.length ≤ 7) && l.all inK then trimF (wholeL l) else []).map qF) := by
    split
    · rename_i hc
      rw [Bool.and_eq_true, decide_eq_true_iff] at hc
      have hw := wholeL_ok (fun x hx => List.all_eq_true.1 hc.2 x hx)
      refine ⟨by rw [List.length_map]; have := trimF_len (wholeL l); have : (wholeL l).length = l.length := List.length_map _; omega, fun r hr => ?_⟩
      obtain ⟨f, hf, rfl⟩ := List.mem_map.1 hr
      have := hw f (trimF_sub hf)
      exact ⟨Nat.le_trans this.2.1 (by omega), Nat.le_trans this.2.2 (by omega)⟩
    · exact ⟨by simp, fun r hr => by simp at hr⟩
  generalize (if decide (l.length ≤ 7) && l.all inK then trimF (wholeL l) else []) = res at *
  refine ⟨res.map qF, (decide (l.length ≤ 7) && l.all inK), hsh, ?_, ?_⟩
  · unfold polQ
    rw [map_qF]
    exact hS
  · unfold polQ
    rw [map_qF]
    exact hI
end Go.Vx
