/- Chapter 1: valid, compared. -/
import Derived.Test.YtiaobnkihhnmhaaB2
import Derived.Test.YtiaobnkihhnmhaaLn
namespace Go.Vx
open Go.Proofs
set_option maxRecDepth 100000

noncomputable def goodB (neg : Bool) (l : List Int) : Bool := @decide (Lm.Good neg l) (Classical.propDecidable _)
theorem goodB_true {neg : Bool} {l : List Int} (h : Lm.Good neg l) : goodB neg l = true := by unfold goodB; simp [h]
theorem goodB_false {neg : Bool} {l : List Int} (h : ¬ Lm.Good neg l) : goodB neg l = false := by unfold goodB; simp [h]

theorem indexFunc_den (l : List Int) (hl : l.length ≤ 1000000000000) (f : FuncId) (p : Int → Bool) (hp : ∀ x ∈ l, D f [iP x] true (.one (bP (p x)))) :
    D 67 [lP l, fP f] true (.one (iP (match l.findIdx? p with | some i => (i : Int) | none => -1))) := by
  refine go Try.func67 rfl rfl ?_
  repeat refine vs ?_
  conv => whnf
  refine EVs.loopU (fun i : Nat => i ≤ l.length ∧ ∀ (j : Nat) (h : j < l.length), j < i → p l[j] = false) (fun i => l.length - i) (fun i => [(8, .v false [.p (.int .i64 (i : Int))])]) 0 ⟨by omega, fun j h hj => by omega⟩ (Wk.refl _) ?_
  rintro i ⟨hi, hall⟩
  refine go1 ?_
  repeat refine vs ?_
  conv => whnf
  by_cases h1 : (i : Int) < l.length
  · have hlt : i < l.length := by omega
    repeat refine vs ?_
    conv => whnf
    first | refine Idx.mk (i) (by first | rfl | omega) (by omega) ?_ | skip
    repeat refine vs ?_
    conv => whnf
    first | refine LdI.mk (l[i]) (List.getElem?_eq_getElem hlt) ?_ | skip
    repeat refine vs ?_
    conv => whnf
    refine CallS.mk _ rfl true true _ (hp l[i] (List.getElem_mem hlt)) rfl ?_
    repeat refine vs ?_
    conv => whnf
    cases hpi : p l[i]
    · repeat refine vs ?_
      conv => whnf
      refine ⟨i + 1, by omega, ⟨by omega, fun j h hj => ?_⟩, ?_⟩
      · by_cases e : j = i
        · subst e; exact hpi
        · exact hall j h (by omega)
      · refine Wk.le ?_
        repeat' (first | exact LeT.nil | refine LeT.drop1 ?_ | refine LeT.same1 ?_ | refine LeT.own1 ?_ | refine LeT.ownR ?_)
    · repeat refine vs ?_
      conv => whnf
      have : l.findIdx? p = some i := by
        rw [List.findIdx?_eq_some_iff_getElem]
        exact ⟨hlt, hpi, fun j hj => by simp [hall j (by omega) hj]⟩
      exact ⟨by simp [toRes, this], rfl⟩
  · repeat refine vs ?_
    conv => whnf
    have : l.findIdx? p = none := by
      rw [List.findIdx?_eq_none_iff]
      intro x hx
      obtain ⟨j, hj, rfl⟩ := List.getElem_of_mem hx
      exact hall j hj (by omega)
    exact ⟨by simp [toRes, this], rfl⟩

theorem containsFunc_den (l : List Int) (hl : l.length ≤ 1000000000000) (f : FuncId) (p : Int → Bool) (hp : ∀ x ∈ l, D f [iP x] true (.one (bP (p x)))) :
    D 41 [lP l, fP f] true (.one (bP (l.any p))) := by
  refine go Try.func41 rfl rfl ?_
  repeat refine vs ?_
  conv => whnf
  refine CallS.mk _ rfl true true _ (indexFunc_den l hl f p hp) rfl ?_
  repeat refine vs ?_
  conv => whnf
  cases h : l.findIdx? p with
  | none =>
    have : l.any p = false := by
      rw [List.findIdx?_eq_none_iff] at h
      rw [List.any_eq_false]
      intro x hx
      simp [h x hx]
    repeat refine vs ?_
    conv => whnf
    exact ⟨by simp [toRes, this], rfl⟩
  | some i =>
    have : l.any p = true := by
      rw [List.findIdx?_eq_some_iff_getElem] at h
      obtain ⟨h1, h2, _⟩ := h
      rw [List.any_eq_true]
      exact ⟨_, List.getElem_mem h1, h2⟩
    repeat refine vs ?_
    conv => whnf
    exact ⟨by simp [toRes, this], rfl⟩

theorem good1_den (x : Int) : D 42 [iP x] true (.one (bP (!decide (0 ≤ x ∧ x ≤ 65535)))) := by
  refine go Try.func42 rfl rfl ?_
  repeat refine vs ?_
  conv => whnf
  refine CallS.mk _ rfl true true _ (within_den x 0 65535) rfl ?_
  repeat refine vs ?_
  conv => whnf
  refine Bo.mk _ rfl ?_
  repeat refine vs ?_
  conv => whnf
  first | rfl | exact ⟨rfl, rfl⟩ | exact ⟨by simp [toRes], rfl⟩

theorem goodI_den (neg : Bool) (l : List Int) (hl : l.length ≤ 1000000000000) : D 16 [rawV neg l] true (.one (bP (goodB neg l))) := by
  refine go Try.func16 rfl rfl ?_
  repeat refine vs ?_
  conv => whnf
  by_cases h40 : (l.length : Int) > 40
  · rw [goodB_false (fun h => by have := h.2.1; omega)]
    repeat refine vs ?_
    conv => whnf
    first | rfl | exact ⟨rfl, rfl⟩ | exact ⟨by simp [toRes], rfl⟩
  · by_cases h0 : l = []
    · subst h0
      cases neg
      · rw [goodB_true ⟨Lm.Can.nil, by simp, fun _ => rfl⟩]
        repeat refine vs ?_
        conv => whnf
        refine CallS.mk _ rfl true true _ (containsFunc_den [] (by simp) 42 (fun x => !decide (0 ≤ x ∧ x ≤ 65535)) (fun x _ => good1_den x)) rfl ?_
        repeat refine vs ?_
        conv => whnf
        first | rfl | exact ⟨rfl, rfl⟩ | exact ⟨by simp [toRes], rfl⟩
      · rw [goodB_false (fun h => by cases h.2.2 rfl)]
        repeat refine vs ?_
        conv => whnf
        first | rfl | exact ⟨rfl, rfl⟩ | exact ⟨by simp [toRes], rfl⟩
    · have hpos := List.length_pos_iff.2 h0
      have hlast : l[l.length - 1]? = some l[l.length - 1] := List.getElem?_eq_getElem (by omega)
      repeat refine vs ?_
      conv => whnf
      first | refine Idx.mk ((l.length - 1)) (by first | rfl | omega) (by omega) ?_ | skip
      repeat refine vs ?_
      conv => whnf
      first | refine LdI.mk (_) (hlast) ?_ | skip
      repeat refine vs ?_
      conv => whnf
      by_cases hz : l[l.length - 1] = 0
      · rw [goodB_false (fun h => (Lm.can_last h.1.1 hpos).1 h.1 hz)]
        repeat refine vs ?_
        conv => whnf
        first | rfl | exact ⟨rfl, rfl⟩ | exact ⟨by simp [toRes], rfl⟩
      · repeat refine vs ?_
        conv => whnf
        refine CallS.mk _ rfl true true _ (containsFunc_den l hl 42 (fun x => !decide (0 ≤ x ∧ x ≤ 65535)) (fun x _ => good1_den x)) rfl ?_
        repeat refine vs ?_
        conv => whnf
        refine Bo.mk _ rfl ?_
        repeat refine vs ?_
        conv => whnf
        refine ⟨?_, rfl⟩
        by_cases hd : Lm.Dig l
        · rw [goodB_true ⟨(Lm.can_last hd hpos).2 hz, by omega, fun e => absurd e h0⟩]
          rw [Lm.dig_dec] at hd
          have : (l.any fun x => !decide (0 ≤ x ∧ x ≤ 65535)) = false := by
            rw [List.any_eq_false]
            intro x hx
            simp [hd x hx]
          rw [this]
          rfl
        · rw [goodB_false (fun h => hd h.1.1)]
          rw [Lm.dig_dec] at hd
          have : (l.any fun x => !decide (0 ≤ x ∧ x ≤ 65535)) = true := by
            rw [List.any_eq_true]
            obtain ⟨x, hx⟩ := Classical.not_forall.1 hd
            obtain ⟨h1, h2⟩ := Classical.not_imp.1 hx
            exact ⟨x, h1, by simp at h2 ⊢; omega⟩
          rw [this]
          rfl

theorem goodS_den (neg : Bool) (l : List Int) (hl : l.length ≤ 1000000000000) : D 14 [rawV neg l] true (.one (bP (goodB neg l))) := by
  refine go Try.func14 rfl rfl ?_
  repeat refine vs ?_
  conv => whnf
  refine EVs.loopU (fun i : Nat => i ≤ l.length ∧ ∀ (j : Nat) (h : j < l.length), j < i → 0 ≤ l[j] ∧ l[j] ≤ 65535) (fun i => l.length - i) (fun i => [(9, .v false [.p (.int .i64 (i : Int))])]) 0 ⟨by omega, fun j h hj => by omega⟩ (Wk.refl _) ?_
  rintro i ⟨hi, hall⟩
  refine go1 ?_
  repeat refine vs ?_
  conv => whnf
  by_cases h1 : (i : Int) < l.length
  · have hlt : i < l.length := by omega
    repeat refine vs ?_
    conv => whnf
    first | refine Idx.mk (i) (by first | rfl | omega) (by omega) ?_ | skip
    repeat refine vs ?_
    conv => whnf
    first | refine LdI.mk (l[i]) (List.getElem?_eq_getElem hlt) ?_ | skip
    repeat refine vs ?_
    conv => whnf
    refine CallS.mk _ rfl true true _ (l1In_den l[i] 0 65535) rfl ?_
    repeat refine vs ?_
    conv => whnf
    by_cases hb : 0 ≤ l[i] ∧ l[i] ≤ 65535
    · rw [decide_eq_true hb]
      repeat refine vs ?_
      conv => whnf
      refine ⟨i + 1, by omega, ⟨by omega, fun j h hj => ?_⟩, ?_⟩
      · by_cases e : j = i
        · subst e; exact hb
        · exact hall j h (by omega)
      · refine Wk.le ?_
        repeat' (first | exact LeT.nil | refine LeT.drop1 ?_ | refine LeT.same1 ?_ | refine LeT.own1 ?_ | refine LeT.ownR ?_)
    · rw [decide_eq_false hb]
      repeat refine vs ?_
      conv => whnf
      rw [goodB_false (fun h => hb (by have := h.1.1 l[i] (List.getElem_mem hlt); omega))]
      first | rfl | exact ⟨rfl, rfl⟩ | exact ⟨by simp [toRes], rfl⟩
  · have hd : Lm.Dig l := by
      rw [Lm.dig_dec]
      intro x hx
      obtain ⟨j, hj, rfl⟩ := List.getElem_of_mem hx
      exact hall j hj (by omega)
    by_cases h0 : l = []
    · subst h0
      repeat refine vs ?_
      conv => whnf
      cases neg
      · rw [goodB_true ⟨Lm.Can.nil, by simp, fun _ => rfl⟩]
        repeat refine vs ?_
        conv => whnf
        first | rfl | exact ⟨rfl, rfl⟩ | exact ⟨by simp [toRes], rfl⟩
      · rw [goodB_false (fun h => by cases h.2.2 rfl)]
        repeat refine vs ?_
        conv => whnf
        first | rfl | exact ⟨rfl, rfl⟩ | exact ⟨by simp [toRes], rfl⟩
    · have hpos := List.length_pos_iff.2 h0
      have hlast : l[l.length - 1]? = some l[l.length - 1] := List.getElem?_eq_getElem (by omega)
      by_cases h40 : (l.length : Int) ≤ 40
      · repeat refine vs ?_
        conv => whnf
        first | refine Idx.mk ((l.length - 1)) (by first | rfl | omega) (by omega) ?_ | skip
        repeat refine vs ?_
        conv => whnf
        first | refine LdI.mk (_) (hlast) ?_ | skip
        repeat refine vs ?_
        conv => whnf
        by_cases hz : l[l.length - 1] ≠ 0
        · rw [goodB_true ⟨(Lm.can_last hd hpos).2 hz, by omega, fun e => absurd e h0⟩]
          repeat refine vs ?_
          conv => whnf
          first | rfl | exact ⟨rfl, rfl⟩ | exact ⟨by simp [toRes], rfl⟩
        · rw [goodB_false (fun h => hz ((Lm.can_last hd hpos).1 h.1))]
          repeat refine vs ?_
          conv => whnf
          first | rfl | exact ⟨rfl, rfl⟩ | exact ⟨by simp [toRes], rfl⟩
      · rw [goodB_false (fun h => by have := h.2.1; omega)]
        repeat refine vs ?_
        conv => whnf
        first | rfl | exact ⟨rfl, rfl⟩ | exact ⟨by simp [toRes], rfl⟩
end Go.Vx
