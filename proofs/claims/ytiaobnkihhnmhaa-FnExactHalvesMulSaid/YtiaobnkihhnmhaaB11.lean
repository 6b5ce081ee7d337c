/- Chapter 1: differences of limbs, the program's way. -/
import Derived.Test.YtiaobnkihhnmhaaB10
namespace Go.Vx
open Go.Proofs
set_option maxRecDepth 100000

theorem set_self {l : List Int} {i : Nat} {v : Int} (h : i < l.length) : (l.set i v)[i]? = some v := by simp [h]
theorem set_at {l : List Int} {i : Nat} {v w : Int} (h : i < l.length) : (((l.set i v).set i w))[i]? = some w := by simp [h]

theorem subLimbs_den (a b : List Int) (ha : Lm.Dig a) (hb : Lm.Dig b) (hla : a.length ≤ 500000000000) (hlb : b.length ≤ a.length) : D 80 [lP a, lP b] false (.one (lP (Lm.cut (Lm.subF a b 0)))) := by
  refine go Try.func80 rfl rfl ?_
  repeat refine vs ?_
  conv => whnf
  refine CallS.mk _ rfl true true _ (clone_den a (by omega)) rfl ?_
  repeat refine vs ?_
  conv => whnf
  have hlen := Lm.subF_len (a := a) (b := b) (c := 0)
  refine EVs.un (9, 0) ?_
  refine EVs.loopU (fun q : Nat × Int × List Int => 0 ≤ q.2.1 ∧ q.2.1 ≤ 1 ∧ q.1 ≤ a.length ∧ q.2.2.length = a.length ∧ q.2.2.drop q.1 = a.drop q.1 ∧ q.2.2.take q.1 ++ Lm.subF (a.drop q.1) (b.drop q.1) q.2.1 = Lm.subF a b 0) (fun q => a.length - q.1)
    (fun | (i, c, l) => [(12, .v false [.p (.int .i64 (i : Int))]), (6, .v false [.p (.int .i64 c)]), (5, .v false [.own (9, 0) 3 (.ints l)]), (9, .any), (10, .any)]) (0, 0, a) ⟨by simp, by simp, by simp, by simp, by simp, by simp⟩ (Wk.le (by repeat' (first | exact LeT.nil | refine LeT.drop1 ?_ | refine LeT.same1 ?_ | refine LeT.own1 ?_ | refine LeT.ownR ?_))) ?_
  rintro ⟨i, c, l⟩ ⟨h0, h1, h2, hll, hdr, hinv⟩
  dsimp only at h0 h1 h2 hll hdr hinv
  refine go1 ?_
  repeat refine vs ?_
  conv => whnf
  by_cases c1 : (i : Int) < a.length
  · have hlt : i < a.length := by omega
    have hlt2 : i < l.length := by omega
    have hx := ha a[i] (List.getElem_mem hlt)
    have hli : l[i]? = some a[i] := by
      have e := congrArg (fun m => m[0]?) hdr
      simpa [hlt] using e
    have hst := Lm.subF_step (a := a) (b := b) (c := c) hlt
    have next : ∀ (d c' : Int), Lm.subF (a.drop i) (b.drop i) c = d :: Lm.subF (a.drop (i + 1)) (b.drop (i + 1)) c' → (l.set i d).length = a.length ∧ (l.set i d).drop (i + 1) = a.drop (i + 1) ∧ (l.set i d).take (i + 1) ++ Lm.subF (a.drop (i + 1)) (b.drop (i + 1)) c' = Lm.subF a b 0 := by
      intro d c' hd
      refine ⟨by simpa using hll, ?_, ?_⟩
      · have e : (l.set i d).drop (i + 1) = l.drop (i + 1) := by
          apply List.ext_getElem?
          intro j
          rw [List.getElem?_drop, List.getElem?_drop, List.getElem?_set_ne (by omega)]
        rw [e, ← List.drop_drop, hdr, List.drop_drop]
      · have e : (l.set i d).take (i + 1) = l.take i ++ [d] := by
          rw [List.take_add_one, List.take_set_of_le (Nat.le_refl _), set_self hlt2]
          rfl
        rw [e, ← hinv, hd, List.append_assoc]
        rfl
    have s1 : ∀ v, (l.set i v)[i]? = some v := fun v => set_self hlt2
    have s2 : ∀ v w, ((l.set i v).set i w)[i]? = some w := fun v w => set_at hlt2
    have g1 := s1 (a[i] - c)
    repeat refine vs ?_
    conv => whnf
    by_cases c2 : (i : Int) < b.length
    · have hltb : i < b.length := by omega
      have hyb : b.getD i 0 = b[i] := by simp [List.getD, hltb]
      have hy := hb _ (List.getElem_mem hltb)
      rw [hyb] at hst
      have g2 := List.getElem?_eq_getElem hltb
      have g3 := s2 (a[i] - c) (a[i] - c - b[i])
      repeat refine vs ?_
      conv => whnf
      by_cases hn : a[i] - c - b[i] < 0
      · rw [if_pos (by omega), if_pos (by omega)] at hst
        repeat refine vs ?_
        conv => whnf
        obtain ⟨n1, n2, n3⟩ := next _ _ hst
        refine ⟨(i + 1, 1, l.set i (a[i] - b[i] - c + 65536)), by simp only; omega, ⟨by simp only; omega, by simp only; omega, by simp only; omega, n1, n2, n3⟩, ?_⟩
        rw [List.set_set, List.set_set, show a[i] - c - b[i] + 65536 = a[i] - b[i] - c + 65536 by omega]
        refine Wk.le ?_
        repeat' (first | exact LeT.nil | refine LeT.drop1 ?_ | refine LeT.same1 ?_ | refine LeT.own1 ?_ | refine LeT.ownR ?_)
      · rw [if_neg (by omega), if_neg (by omega)] at hst
        repeat refine vs ?_
        conv => whnf
        obtain ⟨n1, n2, n3⟩ := next _ _ hst
        refine ⟨(i + 1, 0, l.set i (a[i] - b[i] - c)), by simp only; omega, ⟨by simp only; omega, by simp only; omega, by simp only; omega, n1, n2, n3⟩, ?_⟩
        rw [List.set_set, show a[i] - c - b[i] = a[i] - b[i] - c by omega]
        refine Wk.le ?_
        repeat' (first | exact LeT.nil | refine LeT.drop1 ?_ | refine LeT.same1 ?_ | refine LeT.own1 ?_ | refine LeT.ownR ?_)
    · have hyb : b.getD i 0 = 0 := by simp [List.getD, show ¬ i < b.length by omega]
      rw [hyb] at hst
      repeat refine vs ?_
      conv => whnf
      by_cases hn : a[i] - c < 0
      · rw [if_pos (by omega), if_pos (by omega)] at hst
        repeat refine vs ?_
        conv => whnf
        obtain ⟨n1, n2, n3⟩ := next _ _ hst
        refine ⟨(i + 1, 1, l.set i (a[i] - 0 - c + 65536)), by simp only; omega, ⟨by simp only; omega, by simp only; omega, by simp only; omega, n1, n2, n3⟩, ?_⟩
        rw [List.set_set, show a[i] - c + 65536 = a[i] - 0 - c + 65536 by omega]
        refine Wk.le ?_
        repeat' (first | exact LeT.nil | refine LeT.drop1 ?_ | refine LeT.same1 ?_ | refine LeT.own1 ?_ | refine LeT.ownR ?_)
      · rw [if_neg (by omega), if_neg (by omega)] at hst
        repeat refine vs ?_
        conv => whnf
        obtain ⟨n1, n2, n3⟩ := next _ _ hst
        refine ⟨(i + 1, 0, l.set i (a[i] - 0 - c)), by simp only; omega, ⟨by simp only; omega, by simp only; omega, by simp only; omega, n1, n2, n3⟩, ?_⟩
        rw [show a[i] - c = a[i] - 0 - c by omega]
        refine Wk.le ?_
        repeat' (first | exact LeT.nil | refine LeT.drop1 ?_ | refine LeT.same1 ?_ | refine LeT.own1 ?_ | refine LeT.ownR ?_)
  · have e : Lm.subF (a.drop i) (b.drop i) c = [] := by
      rw [List.drop_of_length_le (by omega)]
      rfl
    have hi : i = a.length := by omega
    rw [e, List.append_nil, hi, ← hll, List.take_length] at hinv
    subst hinv
    repeat refine vs ?_
    conv => whnf
    refine CallS.mk _ rfl false false _ (cut_den _ (by omega)) rfl ?_
    repeat refine vs ?_
    conv => whnf
    first | rfl | exact ⟨rfl, rfl⟩ | exact ⟨by simp [toRes], rfl⟩
end Go.Vx
