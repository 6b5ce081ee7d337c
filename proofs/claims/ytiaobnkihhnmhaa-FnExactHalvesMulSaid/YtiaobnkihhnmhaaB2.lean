/- Chapter 1: cutting, making. -/
import Derived.Test.YtiaobnkihhnmhaaB1
namespace Go.Vx
open Go.Proofs
set_option maxRecDepth 100000

theorem clone_den (l : List Int) (hl : l.length ≤ 1000000000000) : D 88 [lP l] true (.one (lP l)) := by
  refine den_intro mixed tabΓ Try.func88 rfl rfl ?_
  refine EVs.seq (go1 ?_)
  repeat refine vs ?_
  conv => whnf
  refine EVs.seq (EVs.seq ?_)
  refine EVs.nilTest (s := 0) (x := .ints l) tabΓ rfl rfl rfl rfl rfl rfl rfl rfl rfl (by show 3 < 8; omega) ?_
  intro b hb
  refine go1 ?_
  cases b with
  | true =>
    have hb := hb rfl
    have : l = [] := List.eq_nil_of_length_eq_zero hb
    subst this
    repeat refine vs ?_
    conv => whnf
    rfl
  | false =>
    repeat refine vs ?_
    conv => whnf
    refine go1 ?_
    repeat refine vs ?_
    conv => whnf
    refine NewK.mk true ?_
    repeat refine vs ?_
    conv => whnf
    repeat refine vs ?_
    conv => whnf
    repeat refine vs ?_
    conv => whnf
    first | rfl | exact ⟨rfl, rfl⟩ | exact ⟨by simp [toRes], rfl⟩

theorem l1Cut_den (l : List Int) (hl : l.length ≤ 1000000000000) : D 68 [lP l] true (.one (lP (Lm.cut l))) := by
  refine go Try.func68 rfl rfl ?_
  repeat refine vs ?_
  conv => whnf
  refine EVs.loopU (fun l' : List Int => Lm.cut l' = Lm.cut l ∧ l'.length ≤ l.length) List.length (fun l' => [(0, .v false [.p (.ints l')])]) l ⟨rfl, Nat.le_refl _⟩ (Wk.refl _) ?_
  rintro l' ⟨h1, h2⟩
  refine go1 ?_
  repeat refine vs ?_
  conv => whnf
  by_cases h0 : l' = []
  · subst h0
    repeat refine vs ?_
    conv => whnf
    refine NewK.mk true ?_
    repeat refine vs ?_
    conv => whnf
    repeat refine vs ?_
    conv => whnf
    repeat refine vs ?_
    conv => whnf
    exact ⟨by rw [← h1]; rfl, rfl⟩
  · have hpos : 0 < l'.length := List.length_pos_iff.2 h0
    have hlast : l'[l'.length - 1]? = some l'[l'.length - 1] := List.getElem?_eq_getElem (by omega)
    have hsplit : l' = l'.take (l'.length - 1) ++ [l'[l'.length - 1]] := by
      rw [List.take_append_getElem (h := by omega)]
      exact (List.take_of_length_le (by omega)).symm
    repeat refine vs ?_
    conv => whnf
    first | refine Idx.mk ((l'.length - 1)) (by first | rfl | omega) (by omega) ?_ | skip
    repeat refine vs ?_
    conv => whnf
    first | refine LdI.mk (_) (hlast) ?_ | skip
    repeat refine vs ?_
    conv => whnf
    by_cases hz : l'[l'.length - 1] = 0
    · repeat refine vs ?_
      conv => whnf
      refine SubK.mk (0) ((l'.length - 1)) (by first | rfl | (show _ = _; omega)) (by first | rfl | (show _ = _; omega)) (by omega) (by omega) ?_
      repeat refine vs ?_
      conv => whnf
      refine ⟨l'.take (l'.length - 1), by simp; omega, ⟨?_, by simp; omega⟩, ?_⟩
      · rw [hz] at hsplit
        rw [← h1]
        conv => rhs; rw [hsplit, Lm.cut_snoc_zero]
      · refine Wk.le ?_
        repeat' (first | exact LeT.nil | refine LeT.drop1 ?_ | refine LeT.same1 ?_ | refine LeT.own1 ?_ | refine LeT.ownR ?_)
    · repeat refine vs ?_
      conv => whnf
      refine NewK.mk true ?_
      repeat refine vs ?_
      conv => whnf
      repeat refine vs ?_
      conv => whnf
      repeat refine vs ?_
      conv => whnf
      refine ⟨?_, rfl⟩
      rw [← h1, hsplit, Lm.cut_snoc _ hz]
      rfl

theorem cut_den (l : List Int) (hl : l.length ≤ 1000000000000) : D 89 [lP l] false (.one (lP (Lm.cut l))) := by
  refine go Try.func89 rfl rfl ?_
  repeat refine vs ?_
  conv => whnf
  refine EVs.loopU (fun n : Nat => Lm.cut (l.take n) = Lm.cut l ∧ n ≤ l.length) id (fun n => [(3, .v false [.p (.int .i64 (n : Int))])]) l.length ⟨by rw [List.take_length], Nat.le_refl _⟩ (Wk.refl _) ?_
  rintro n ⟨h1, h2⟩
  refine go1 ?_
  repeat refine vs ?_
  conv => whnf
  by_cases h0 : n = 0
  · subst h0
    repeat refine vs ?_
    conv => whnf
    refine SubK.mk (0) (0) (by first | rfl | (show _ = _; omega)) (by first | rfl | (show _ = _; omega)) (by omega) (by omega) ?_
    repeat refine vs ?_
    conv => whnf
    rw [← h1]
    rfl
  · have hlast : l[n - 1]? = some l[n - 1] := List.getElem?_eq_getElem (by omega)
    have hsplit : l.take n = l.take (n - 1) ++ [l[n - 1]] := by
      rw [List.take_append_getElem (h := by omega)]
      congr 1
      omega
    repeat refine vs ?_
    conv => whnf
    first | refine Idx.mk ((n - 1)) (by first | rfl | omega) (by omega) ?_ | skip
    repeat refine vs ?_
    conv => whnf
    first | refine LdI.mk (_) (hlast) ?_ | skip
    repeat refine vs ?_
    conv => whnf
    by_cases hz : l[n - 1] = 0
    · repeat refine vs ?_
      conv => whnf
      refine ⟨n - 1, by simp; omega, ⟨?_, by omega⟩, ?_⟩
      · rw [hz] at hsplit
        rw [← h1, hsplit, Lm.cut_snoc_zero]
      · rw [show (((n - 1 : Nat)) : Int) = (n : Int) - 1 by omega]
        refine Wk.le ?_
        repeat' (first | exact LeT.nil | refine LeT.drop1 ?_ | refine LeT.same1 ?_ | refine LeT.own1 ?_ | refine LeT.ownR ?_)
    · repeat refine vs ?_
      conv => whnf
      refine SubK.mk (0) (n) (by first | rfl | (show _ = _; omega)) (by first | rfl | (show _ = _; omega)) (by omega) (by omega) ?_
      repeat refine vs ?_
      conv => whnf
      rw [← h1, hsplit, Lm.cut_snoc _ hz, ← hsplit]
      rfl

theorem l1Make_den (neg : Bool) (l : List Int) (hl : l.length ≤ 1000000000000) : D 45 [bP neg, lP l] true (.one (rawV (neg && decide (Lm.cut l ≠ [])) (Lm.cut l))) := by
  have hcl := Lm.cut_length_le l
  refine go Try.func45 rfl rfl ?_
  repeat refine vs ?_
  conv => whnf
  refine CallS.mk _ rfl true true _ (l1Cut_den l hl) rfl ?_
  repeat refine vs ?_
  conv => whnf
  cases neg
  · repeat refine vs ?_
    conv => whnf
    first | rfl | exact ⟨rfl, rfl⟩ | exact ⟨by simp [toRes], rfl⟩
  · repeat refine vs ?_
    conv => whnf
    by_cases h : Lm.cut l = []
    · rw [h]
      repeat refine vs ?_
      conv => whnf
      first | rfl | exact ⟨rfl, rfl⟩ | exact ⟨by simp [toRes], rfl⟩
    · have := List.length_pos_iff.2 h
      repeat refine vs ?_
      conv => whnf
      exact ⟨by simp [toRes, h], rfl⟩

theorem bigOf_den (neg : Bool) (l : List Int) (hl : l.length ≤ 1000000000000) : D 73 [bP neg, lP l] true (.one (rawV (neg && decide (Lm.cut l ≠ [])) (Lm.cut l))) := by
  have hcl := Lm.cut_length_le l
  refine go Try.func73 rfl rfl ?_
  repeat refine vs ?_
  conv => whnf
  refine CallS.mk _ rfl false false _ (cut_den l hl) rfl ?_
  repeat refine vs ?_
  conv => whnf
  refine CallS.mk _ rfl true true _ (clone_den _ (by omega)) rfl ?_
  repeat refine vs ?_
  conv => whnf
  cases neg
  · repeat refine vs ?_
    conv => whnf
    first | rfl | exact ⟨rfl, rfl⟩ | exact ⟨by simp [toRes], rfl⟩
  · repeat refine vs ?_
    conv => whnf
    by_cases h : Lm.cut l = []
    · rw [h]
      repeat refine vs ?_
      conv => whnf
      first | rfl | exact ⟨rfl, rfl⟩ | exact ⟨by simp [toRes], rfl⟩
    · have := List.length_pos_iff.2 h
      repeat refine vs ?_
      conv => whnf
      exact ⟨by simp [toRes, h], rfl⟩
end Go.Vx
