/- Chapter 1: sums of limbs. -/
import Derived.Test.YtiaobnkihhnmhaaB7
import Derived.Test.YtiaobnkihhnmhaaLo
namespace Go.Vx
open Go.Proofs
set_option maxRecDepth 100000

theorem l1AddLimbs_den (a b : List Int) (ha : Lm.Dig a) (hb : Lm.Dig b) (hla : a.length ≤ 500000000000) (hlb : b.length ≤ 500000000000) : D 76 [lP a, lP b] true (.one (lP (Lm.addF a b 0))) := by
  refine go Try.func76 rfl rfl ?_
  repeat refine vs ?_
  conv => whnf
  have hlen := Lm.addF_len (a := a) (b := b) (c := 0)
  refine EVs.loopU (fun q : Nat × Int × List Int => 0 ≤ q.2.1 ∧ q.2.1 ≤ 1 ∧ (q.1 ≤ max a.length b.length ∨ (q.1 = max a.length b.length + 1 ∧ q.2.1 = 0)) ∧ q.2.2 ++ Lm.addF (a.drop q.1) (b.drop q.1) q.2.1 = Lm.addF a b 0) (fun q => 2 * (max a.length b.length - q.1) + q.2.1.toNat)
    (fun | (i, c, l) => [(7, .v false [.p (.int .i64 (i : Int))]), (6, .v false [.p (.int .i64 c)]), (5, .v false [.own (1000038, 0) 3 (.ints l)])]) (0, 0, []) ⟨by simp, by simp, by simp, by simp⟩ (Wk.le (by repeat' (first | exact LeT.nil | refine LeT.drop1 ?_ | refine LeT.same1 ?_ | refine LeT.own1 ?_ | refine LeT.ownR ?_))) ?_
  rintro ⟨i, c, l⟩ ⟨h0, h1, h2, hinv⟩
  dsimp only at h0 h1 h2 hinv
  have hll : l.length ≤ 500000000001 := by
    have e := congrArg List.length hinv
    rw [List.length_append] at e
    omega
  have hd : ∀ {m : List Int}, Lm.Dig m → 0 ≤ m.getD i 0 ∧ m.getD i 0 < 65536 := by
    intro m hm
    by_cases h : i < m.length
    · rw [show m.getD i 0 = m[i] by simp [List.getD, h]]
      exact hm _ (List.getElem_mem h)
    · rw [show m.getD i 0 = 0 by simp [List.getD, h]]
      omega
  have da := hd ha
  have db := hd hb
  have hstep : (i < a.length ∨ i < b.length ∨ c > 0) → Lm.addF (a.drop i) (b.drop i) c = (a.getD i 0 + b.getD i 0 + c) % 65536 :: Lm.addF (a.drop (i + 1)) (b.drop (i + 1)) ((a.getD i 0 + b.getD i 0 + c) / 65536) := by
    intro h
    by_cases hab : i < a.length ∨ i < b.length
    · exact Lm.addF_step hab
    · have hc : c = 1 := by omega
      subst hc
      rw [List.drop_of_length_le (l := a) (i := i) (by omega), List.drop_of_length_le (l := b) (i := i) (by omega), List.drop_of_length_le (l := a) (i := i + 1) (by omega), List.drop_of_length_le (l := b) (i := i + 1) (by omega),
        show a.getD i 0 = 0 by simp [List.getD, show ¬ i < a.length by omega], show b.getD i 0 = 0 by simp [List.getD, show ¬ i < b.length by omega]]
      simp [Lm.addF]
  have fin : ∀ n : Int, 0 ≤ n → n ≤ 131071 → n.tmod 65536 = n % 65536 ∧ n.tdiv 65536 = n / 65536 := fun n h _ => ⟨Int.tmod_eq_emod_of_nonneg h, Int.tdiv_eq_ediv_of_nonneg h⟩
  have ff := fin (a.getD i 0 + b.getD i 0 + c) (by omega) (by omega)
  have fw : IntKind.i64.wrap ((a.getD i 0 + b.getD i 0 + c).tdiv 65536) = (a.getD i 0 + b.getD i 0 + c) / 65536 := by rw [ff.2]; exact wrap64 (by omega) (by omega)
  have next : (i < a.length ∨ i < b.length ∨ c > 0) → (l ++ [(a.getD i 0 + b.getD i 0 + c) % 65536]) ++ Lm.addF (a.drop (i + 1)) (b.drop (i + 1)) ((a.getD i 0 + b.getD i 0 + c) / 65536) = Lm.addF a b 0 := by
    intro h
    rw [← hinv, hstep h, List.append_assoc]
    rfl
  have dA := l1Limb_den a i (by omega) (by omega)
  have dB := l1Limb_den b i (by omega) (by omega)
  rw [Int.toNat_natCast] at dA dB
  refine go1 ?_
  repeat refine vs ?_
  conv => whnf
  by_cases c1 : (i : Int) < a.length
  · repeat refine vs ?_
    conv => whnf
    refine CallS.mk _ rfl true true _ (dA) rfl ?_
    repeat refine vs ?_
    conv => whnf
    refine CallS.mk _ rfl true true _ (dB) rfl ?_
    repeat refine vs ?_
    conv => whnf
    refine Eqz.mk _ ff.1 ?_
    repeat refine vs ?_
    conv => whnf
    refine NewK.mk false ?_
    repeat refine vs ?_
    conv => whnf
    refine ⟨(i + 1, (a.getD i 0 + b.getD i 0 + c).tdiv 65536, l ++ [(a.getD i 0 + b.getD i 0 + c) % 65536]), by simp only; omega, ⟨by simp only; omega, by simp only; omega, by simp only; omega, by simp only; rw [ff.2]; exact next (by omega)⟩, ?_⟩
    refine Wk.le ?_
    repeat' (first | exact LeT.nil | refine LeT.drop1 ?_ | refine LeT.same1 ?_ | refine LeT.own1 ?_ | refine LeT.ownR ?_)
  · by_cases c2 : (i : Int) < b.length
    · repeat refine vs ?_
      conv => whnf
      refine CallS.mk _ rfl true true _ (dA) rfl ?_
      repeat refine vs ?_
      conv => whnf
      refine CallS.mk _ rfl true true _ (dB) rfl ?_
      repeat refine vs ?_
      conv => whnf
      refine Eqz.mk _ ff.1 ?_
      repeat refine vs ?_
      conv => whnf
      refine NewK.mk false ?_
      repeat refine vs ?_
      conv => whnf
      refine ⟨(i + 1, (a.getD i 0 + b.getD i 0 + c).tdiv 65536, l ++ [(a.getD i 0 + b.getD i 0 + c) % 65536]), by simp only; omega, ⟨by simp only; omega, by simp only; omega, by simp only; omega, by simp only; rw [ff.2]; exact next (by omega)⟩, ?_⟩
      refine Wk.le ?_
      repeat' (first | exact LeT.nil | refine LeT.drop1 ?_ | refine LeT.same1 ?_ | refine LeT.own1 ?_ | refine LeT.ownR ?_)
    · have z1 : a.getD i 0 = 0 := by simp [List.getD, show ¬ i < a.length by omega]
      have z2 : b.getD i 0 = 0 := by simp [List.getD, show ¬ i < b.length by omega]
      by_cases c3 : c > 0
      · repeat refine vs ?_
        conv => whnf
        refine CallS.mk _ rfl true true _ (dA) rfl ?_
        repeat refine vs ?_
        conv => whnf
        refine CallS.mk _ rfl true true _ (dB) rfl ?_
        repeat refine vs ?_
        conv => whnf
        refine Eqz.mk _ ff.1 ?_
        repeat refine vs ?_
        conv => whnf
        refine NewK.mk false ?_
        repeat refine vs ?_
        conv => whnf
        refine ⟨(i + 1, (a.getD i 0 + b.getD i 0 + c).tdiv 65536, l ++ [(a.getD i 0 + b.getD i 0 + c) % 65536]), by simp only; omega, ⟨by simp only; omega, by simp only; omega, by simp only; omega, by simp only; rw [ff.2]; exact next (by omega)⟩, ?_⟩
        refine Wk.le ?_
        repeat' (first | exact LeT.nil | refine LeT.drop1 ?_ | refine LeT.same1 ?_ | refine LeT.own1 ?_ | refine LeT.ownR ?_)
      · repeat refine vs ?_
        conv => whnf
        have e : Lm.addF (a.drop i) (b.drop i) c = [] := by
          rw [List.drop_of_length_le (by omega), List.drop_of_length_le (by omega)]
          simp [Lm.addF, show ¬ 0 < c by omega]
        rw [e, List.append_nil] at hinv
        subst hinv
        first | rfl | exact ⟨rfl, rfl⟩ | exact ⟨by simp [toRes], rfl⟩
end Go.Vx
