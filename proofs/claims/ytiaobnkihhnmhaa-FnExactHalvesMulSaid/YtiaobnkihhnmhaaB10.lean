/- Chapter 1: differences of limbs. -/
import Derived.Test.YtiaobnkihhnmhaaB9
namespace Go.Vx
open Go.Proofs
set_option maxRecDepth 100000

theorem l1SubLimbs_den (a b : List Int) (ha : Lm.Dig a) (hb : Lm.Dig b) (hla : a.length ≤ 500000000000) (hlb : b.length ≤ 500000000000) : D 77 [lP a, lP b] true (.one (lP (Lm.cut (Lm.subF a b 0)))) := by
  refine go Try.func77 rfl rfl ?_
  repeat refine vs ?_
  conv => whnf
  have hlen := Lm.subF_len (a := a) (b := b) (c := 0)
  refine EVs.loopU (fun q : Nat × Int × List Int => 0 ≤ q.2.1 ∧ q.2.1 ≤ 1 ∧ q.1 ≤ a.length ∧ q.2.2 ++ Lm.subF (a.drop q.1) (b.drop q.1) q.2.1 = Lm.subF a b 0) (fun q => a.length - q.1)
    (fun | (i, c, l) => [(11, .v false [.p (.int .i64 (i : Int))]), (6, .v false [.p (.int .i64 c)]), (5, .v false [.own (1000031, 0) 3 (.ints l)])]) (0, 0, []) ⟨by simp, by simp, by simp, by simp⟩ (Wk.le (by repeat' (first | exact LeT.nil | refine LeT.drop1 ?_ | refine LeT.same1 ?_ | refine LeT.own1 ?_ | refine LeT.ownR ?_))) ?_
  rintro ⟨i, c, l⟩ ⟨h0, h1, h2, hinv⟩
  dsimp only at h0 h1 h2 hinv
  have hll : l.length ≤ 500000000000 := by
    have e := congrArg List.length hinv
    rw [List.length_append] at e
    omega
  refine go1 ?_
  repeat refine vs ?_
  conv => whnf
  by_cases c1 : (i : Int) < a.length
  · have hlt : i < a.length := by omega
    have hx := ha a[i] (List.getElem_mem hlt)
    have hy : 0 ≤ b.getD i 0 ∧ b.getD i 0 < 65536 := by
      by_cases h : i < b.length
      · rw [show b.getD i 0 = b[i] by simp [List.getD, h]]
        exact hb _ (List.getElem_mem h)
      · rw [show b.getD i 0 = 0 by simp [List.getD, h]]
        omega
    have hst := Lm.subF_step (a := a) (b := b) (c := c) hlt
    have dB := l1Limb_den b i (by omega) (by omega)
    rw [Int.toNat_natCast] at dB
    repeat refine vs ?_
    conv => whnf
    first | refine Idx.mk (i) (by first | rfl | omega) (by omega) ?_ | skip
    repeat refine vs ?_
    conv => whnf
    first | refine LdI.mk (a[i]) (List.getElem?_eq_getElem hlt) ?_ | skip
    repeat refine vs ?_
    conv => whnf
    refine CallS.mk _ rfl true true _ (dB) rfl ?_
    repeat refine vs ?_
    conv => whnf
    by_cases hn : a[i] - b.getD i 0 - c < 0
    · rw [if_pos hn, if_pos hn] at hst
      repeat refine vs ?_
      conv => whnf
      refine NewK.mk false ?_
      repeat refine vs ?_
      conv => whnf
      refine ⟨(i + 1, 1, l ++ [a[i] - b.getD i 0 - c + 65536]), by simp only; omega, ⟨by simp only; omega, by simp only; omega, by simp only; omega, ?_⟩, ?_⟩
      · simp only
        rw [← hinv, hst, List.append_assoc]
        rfl
      · refine Wk.le ?_
        repeat' (first | exact LeT.nil | refine LeT.drop1 ?_ | refine LeT.same1 ?_ | refine LeT.own1 ?_ | refine LeT.ownR ?_)
    · rw [if_neg hn, if_neg hn] at hst
      repeat refine vs ?_
      conv => whnf
      refine NewK.mk false ?_
      repeat refine vs ?_
      conv => whnf
      refine ⟨(i + 1, 0, l ++ [a[i] - b.getD i 0 - c]), by simp only; omega, ⟨by simp only; omega, by simp only; omega, by simp only; omega, ?_⟩, ?_⟩
      · simp only
        rw [← hinv, hst, List.append_assoc]
        rfl
      · refine Wk.le ?_
        repeat' (first | exact LeT.nil | refine LeT.drop1 ?_ | refine LeT.same1 ?_ | refine LeT.own1 ?_ | refine LeT.ownR ?_)
  · have e : Lm.subF (a.drop i) (b.drop i) c = [] := by
      rw [List.drop_of_length_le (by omega)]
      rfl
    rw [e, List.append_nil] at hinv
    subst hinv
    repeat refine vs ?_
    conv => whnf
    refine CallS.mk _ rfl true true _ (l1Cut_den _ (by omega)) rfl ?_
    repeat refine vs ?_
    conv => whnf
    first | rfl | exact ⟨rfl, rfl⟩ | exact ⟨by simp [toRes], rfl⟩
end Go.Vx
