/- B8, B9, B10, B11 -/
import Derived.Test.YtpmgjmkobpeepaaGreatBGb
import Derived.Test.YtpmgjmkobpeepaaGreatLGa
set_option linter.unusedVariables false
set_option linter.unusedSectionVars false
set_option linter.unusedSimpArgs false
section
/- Chapter 1: sums of limbs. -/
namespace Go.Vx
open Go.Proofs
set_option maxRecDepth 100000

theorem l1AddLimbs_den (a b : List Int) (ha : Lm.Dig a) (hb : Lm.Dig b) (hla : a.length ≤ 500000000000) (hlb : b.length ≤ 500000000000) : D 182 [lP a, lP b] true (.one (lP (Lm.addF a b 0))) := by
 refine go Tryz.func182 rfl rfl ?_
 repeat refine vs ?_
 conv => whnf
 have hlen := Lm.addF_len (a := a) (b := b) (c := 0)
 refine EVs.loopU (fun q : Nat × Int × List Int => 0 ≤ q.2.1 ∧ q.2.1 ≤ 1 ∧ (q.1 ≤ max a.length b.length ∨ (q.1 = max a.length b.length + 1 ∧ q.2.1 = 0)) ∧ q.2.2 ++ Lm.addF (a.drop q.1) (b.drop q.1) q.2.1 = Lm.addF a b 0) (fun q => 2 * (max a.length b.length - q.1) + q.2.1.toNat)
  (fun | (i, c, l) => [(7, .v false [.p (.int .i64 (i : Int))]), (6, .v false [.p (.int .i64 c)]), (5, .v false [.own (1000038, 0) 3 (.ints l)])]) (0, 0, []) ⟨by simp, by simp, by simp, by simp⟩ Wk.fg ?_
 rintro ⟨i, c, l⟩ ⟨h0, h1, h2, hinv⟩
 dsimp only at h0 h1 h2 hinv
 have hll : l.length ≤ 500000000001 := by
  have e := congrArg List.length hinv
  rw [List.length_append] at e
  omega
 have hd : ∀ {m : List Int}, Lm.Dig m → 0 ≤ m.getD i 0 ∧ m.getD i 0 < 65536 := by
  intro m hm
  by_cases h : i < m.length
  ·rw [show m.getD i 0 = m[i] by simp [List.getD, h]]
   exact hm _ (List.getElem_mem h)
  ·rw [show m.getD i 0 = 0 by simp [List.getD, h]]
   omega
 have da := hd ha
 have db := hd hb
 have hstep : (i < a.length ∨ i < b.length ∨ c > 0) → Lm.addF (a.drop i) (b.drop i) c = (a.getD i 0 + b.getD i 0 + c) % 65536 :: Lm.addF (a.drop (i + 1)) (b.drop (i + 1)) ((a.getD i 0 + b.getD i 0 + c) / 65536) := by
  intro h
  by_cases hab : i < a.length ∨ i < b.length
  ·exact Lm.addF_step hab
  ·have hc : c = 1 := by omega
   subst hc
   rw [List.drop_of_length_le (l := a) (i := i) (by omega), List.drop_of_length_le (l := b) (i := i) (by omega), List.drop_of_length_le (l := a) (i := i + 1) (by omega), List.drop_of_length_le (l := b) (i := i + 1) (by omega),
    show a.getD i 0 = 0 by simp [List.getD, show ¬ i < a.length by omega], show b.getD i 0 = 0 by simp [List.getD, show ¬ i < b.length by omega]]
   simp [Lm.addF]
 have fin : ∀ n : Int, 0 ≤ n → n ≤ 131071 → n.tmod 65536 = n % 65536 ∧ n.tdiv 65536 = n / 65536 := fun n h _ => ⟨Int.tmod_eq_emod_of_nonneg h, Int.tdiv_eq_ediv_of_nonneg h⟩
 have ff := fin (a.getD i 0 + b.getD i 0 + c) (by omega) (by omega)
 have fw : IntKind.i64.wrap ((a.getD i 0 + b.getD i 0 + c).tdiv 65536) = (a.getD i 0 + b.getD i 0 + c) / 65536 := by rw [ff.2]; exact wrap64 (by omega) (by omega)
 have next : (i < a.length ∨ i < b.length ∨ c > 0) → (l ++ [(a.getD i 0 + b.getD i 0 + c) % 65536]) ++ Lm.addF (a.drop (i + 1)) (b.drop (i + 1)) ((a.getD i 0 + b.getD i 0 + c) / 65536) = Lm.addF a b 0 := by
  intro h
  rw [← hinv, hstep h, List.append_assoc]
  rfl
 have dA := l1Limb_den a i (by omega) (by omega)
 have dB := l1Limb_den b i (by omega) (by omega)
 rw [Int.toNat_natCast] at dA dB
 refine go1 ?_
 repeat refine vs ?_
 conv => whnf
 by_cases c1 : (i : Int) < a.length
 ·repeat refine vs ?_
  conv => whnf
  refine CallS.mk _ rfl true true _ (dA) rfl ?_
  repeat refine vs ?_
  conv => whnf
  refine CallS.mk _ rfl true true _ (dB) rfl ?_
  repeat refine vs ?_
  conv => whnf
  refine Eqz.mk _ ff.1 ?_
  repeat refine vs ?_
  conv => whnf
  refine NewK.mk false ?_
  repeat refine vs ?_
  conv => whnf
  refine ⟨(i + 1, (a.getD i 0 + b.getD i 0 + c).tdiv 65536, l ++ [(a.getD i 0 + b.getD i 0 + c) % 65536]), by simp only; omega, ⟨by simp only; omega, by simp only; omega, by simp only; omega, by simp only; rw [ff.2]; exact next (by omega)⟩, ?_⟩
  exact Wk.fg
 ·by_cases c2 : (i : Int) < b.length
  ·repeat refine vs ?_
   conv => whnf
   refine CallS.mk _ rfl true true _ (dA) rfl ?_
   repeat refine vs ?_
   conv => whnf
   refine CallS.mk _ rfl true true _ (dB) rfl ?_
   repeat refine vs ?_
   conv => whnf
   refine Eqz.mk _ ff.1 ?_
   repeat refine vs ?_
   conv => whnf
   refine NewK.mk false ?_
   repeat refine vs ?_
   conv => whnf
   refine ⟨(i + 1, (a.getD i 0 + b.getD i 0 + c).tdiv 65536, l ++ [(a.getD i 0 + b.getD i 0 + c) % 65536]), by simp only; omega, ⟨by simp only; omega, by simp only; omega, by simp only; omega, by simp only; rw [ff.2]; exact next (by omega)⟩, ?_⟩
   exact Wk.fg
  ·have z1 : a.getD i 0 = 0 := by simp [List.getD, show ¬ i < a.length by omega]
   have z2 : b.getD i 0 = 0 := by simp [List.getD, show ¬ i < b.length by omega]
   by_cases c3 : c > 0
   ·repeat refine vs ?_
    conv => whnf
    refine CallS.mk _ rfl true true _ (dA) rfl ?_
    repeat refine vs ?_
    conv => whnf
    refine CallS.mk _ rfl true true _ (dB) rfl ?_
    repeat refine vs ?_
    conv => whnf
    refine Eqz.mk _ ff.1 ?_
    repeat refine vs ?_
    conv => whnf
    refine NewK.mk false ?_
    repeat refine vs ?_
    conv => whnf
    refine ⟨(i + 1, (a.getD i 0 + b.getD i 0 + c).tdiv 65536, l ++ [(a.getD i 0 + b.getD i 0 + c) % 65536]), by simp only; omega, ⟨by simp only; omega, by simp only; omega, by simp only; omega, by simp only; rw [ff.2]; exact next (by omega)⟩, ?_⟩
    exact Wk.fg
   ·repeat refine vs ?_
    conv => whnf
    have e : Lm.addF (a.drop i) (b.drop i) c = [] := by
     rw [List.drop_of_length_le (by omega), List.drop_of_length_le (by omega)]
     simp [Lm.addF, show ¬ 0 < c by omega]
    rw [e, List.append_nil] at hinv
    subst hinv
    first | rfl | exact ⟨rfl, rfl⟩ | exact ⟨by simp [toRes], rfl⟩
end Go.Vx
end
section
/- Chapter 1: sums of limbs, the program's way. -/
namespace Go.Vx
open Go.Proofs
set_option maxRecDepth 100000

theorem addLimbs_den (a b : List Int) (ha : Lm.Dig a) (hb : Lm.Dig b) (hla : a.length ≤ 500000000000) (hlb : b.length ≤ 500000000000) : D 192 [lP a, lP b] true (.one (lP (Lm.addF a b 0))) := by
 refine go Tryz.func192 rfl rfl ?_
 repeat refine vs ?_
 conv => whnf
 have hlen := Lm.addF_len (a := a) (b := b) (c := 0)
 refine NewK.mk true ?_
 repeat refine vs ?_
 conv => whnf
 refine EVs.loopU (fun q : Nat × Int × List Int => 0 ≤ q.2.1 ∧ q.2.1 ≤ 1 ∧ (q.1 ≤ max a.length b.length ∨ (q.1 = max a.length b.length + 1 ∧ q.2.1 = 0)) ∧ q.2.2 ++ Lm.addF (a.drop q.1) (b.drop q.1) q.2.1 = Lm.addF a b 0) (fun q => 2 * (max a.length b.length - q.1) + q.2.1.toNat)
  (fun | (i, c, l) => [(7, .v false [.p (.int .i64 (i : Int))]), (6, .v false [.p (.int .i64 c)]), (5, .v false [.own (8, 0) 3 (.ints l)]), (8, .any)]) (0, 0, []) ⟨by simp, by simp, by simp, by simp⟩ Wk.fg ?_
 rintro ⟨i, c, l⟩ ⟨h0, h1, h2, hinv⟩
 dsimp only at h0 h1 h2 hinv
 have hll : l.length ≤ 500000000001 := by
  have e := congrArg List.length hinv
  rw [List.length_append] at e
  omega
 have hd : ∀ {m : List Int}, Lm.Dig m → 0 ≤ m.getD i 0 ∧ m.getD i 0 < 65536 := by
  intro m hm
  by_cases h : i < m.length
  ·rw [show m.getD i 0 = m[i] by simp [List.getD, h]]
   exact hm _ (List.getElem_mem h)
  ·rw [show m.getD i 0 = 0 by simp [List.getD, h]]
   omega
 have da := hd ha
 have db := hd hb
 have hstep : (i < a.length ∨ i < b.length ∨ c > 0) → Lm.addF (a.drop i) (b.drop i) c = (a.getD i 0 + b.getD i 0 + c) % 65536 :: Lm.addF (a.drop (i + 1)) (b.drop (i + 1)) ((a.getD i 0 + b.getD i 0 + c) / 65536) := by
  intro h
  by_cases hab : i < a.length ∨ i < b.length
  ·exact Lm.addF_step hab
  ·have hc : c = 1 := by omega
   subst hc
   rw [List.drop_of_length_le (l := a) (i := i) (by omega), List.drop_of_length_le (l := b) (i := i) (by omega), List.drop_of_length_le (l := a) (i := i + 1) (by omega), List.drop_of_length_le (l := b) (i := i + 1) (by omega),
    show a.getD i 0 = 0 by simp [List.getD, show ¬ i < a.length by omega], show b.getD i 0 = 0 by simp [List.getD, show ¬ i < b.length by omega]]
   simp [Lm.addF]
 have next : ∀ n : Int, n = a.getD i 0 + b.getD i 0 + c → (i < a.length ∨ i < b.length ∨ c > 0) → (l ++ [n % 65536]) ++ Lm.addF (a.drop (i + 1)) (b.drop (i + 1)) (n / 65536) = Lm.addF a b 0 := by
  intro n hn h
  subst hn
  rw [← hinv, hstep h, List.append_assoc]
  rfl
 have fin : ∀ n : Int, 0 ≤ n → n.tmod 65536 = n % 65536 ∧ n.tdiv 65536 = n / 65536 := fun n h => ⟨Int.tmod_eq_emod_of_nonneg h, Int.tdiv_eq_ediv_of_nonneg h⟩
 have hmx : (if (b.length : Int) > a.length then (b.length : Int) else a.length) = ((max a.length b.length : Nat) : Int) := by split <;> omega
 have hg : ∀ {m : List Int}, i < m.length → m[i]? = some (m.getD i 0) := fun h => by simp [List.getD, h]
 have hz : ∀ {m : List Int}, ¬ i < m.length → m.getD i 0 = 0 := fun h => by simp [List.getD, h]
 refine go1 ?_
 repeat refine vs ?_
 conv => whnf
 refine Eqz.mk _ hmx ?_
 repeat refine vs ?_
 conv => whnf
 by_cases c0 : (i : Int) < ((max a.length b.length : Nat) : Int)
 ·by_cases c1 : (i : Int) < a.length
  ·by_cases c2 : (i : Int) < b.length
   ·have ff := fin (c + a.getD i 0 + b.getD i 0) (by omega)
    repeat refine vs ?_
    conv => whnf
    first | refine Idx.mk (i) (by first | rfl | omega) (by omega) ?_ | skip
    repeat refine vs ?_
    conv => whnf
    first | refine LdI.mk (_) (hg (by omega)) ?_ | skip
    repeat refine vs ?_
    conv => whnf
    first | refine Idx.mk (i) (by first | rfl | omega) (by omega) ?_ | skip
    repeat refine vs ?_
    conv => whnf
    first | refine LdI.mk (_) (hg (by omega)) ?_ | skip
    repeat refine vs ?_
    conv => whnf
    refine Eqz.mk _ ff.1 ?_
    repeat refine vs ?_
    conv => whnf
    refine NewK.mk false ?_
    repeat refine vs ?_
    conv => whnf
    refine ⟨(i + 1, (c + a.getD i 0 + b.getD i 0).tdiv 65536, l ++ [(c + a.getD i 0 + b.getD i 0) % 65536]), by simp only; omega, ⟨by simp only; omega, by simp only; omega, by simp only; omega, by simp only; rw [ff.2]; exact next _ (by omega) (by omega)⟩, ?_⟩
    exact Wk.fg
   ·have ff := fin (c + a.getD i 0) (by omega)
    have z := hz (m := b) (by omega)
    repeat refine vs ?_
    conv => whnf
    first | refine Idx.mk (i) (by first | rfl | omega) (by omega) ?_ | skip
    repeat refine vs ?_
    conv => whnf
    first | refine LdI.mk (_) (hg (by omega)) ?_ | skip
    repeat refine vs ?_
    conv => whnf
    refine Eqz.mk _ ff.1 ?_
    repeat refine vs ?_
    conv => whnf
    refine NewK.mk false ?_
    repeat refine vs ?_
    conv => whnf
    refine ⟨(i + 1, (c + a.getD i 0).tdiv 65536, l ++ [(c + a.getD i 0) % 65536]), by simp only; omega, ⟨by simp only; omega, by simp only; omega, by simp only; omega, by simp only; rw [ff.2]; exact next _ (by omega) (by omega)⟩, ?_⟩
    exact Wk.fg
  ·have ff := fin (c + b.getD i 0) (by omega)
   have z := hz (m := a) (by omega)
   have c2 : (i : Int) < b.length := by omega
   repeat refine vs ?_
   conv => whnf
   first | refine Idx.mk (i) (by first | rfl | omega) (by omega) ?_ | skip
   repeat refine vs ?_
   conv => whnf
   first | refine LdI.mk (_) (hg (by omega)) ?_ | skip
   repeat refine vs ?_
   conv => whnf
   refine Eqz.mk _ ff.1 ?_
   repeat refine vs ?_
   conv => whnf
   refine NewK.mk false ?_
   repeat refine vs ?_
   conv => whnf
   refine ⟨(i + 1, (c + b.getD i 0).tdiv 65536, l ++ [(c + b.getD i 0) % 65536]), by simp only; omega, ⟨by simp only; omega, by simp only; omega, by simp only; omega, by simp only; rw [ff.2]; exact next _ (by omega) (by omega)⟩, ?_⟩
   exact Wk.fg
 ·have z1 := hz (m := a) (by omega)
  have z2 := hz (m := b) (by omega)
  by_cases c3 : c > 0
  ·have ff := fin c (by omega)
   repeat refine vs ?_
   conv => whnf
   refine Eqz.mk _ ff.1 ?_
   repeat refine vs ?_
   conv => whnf
   refine NewK.mk false ?_
   repeat refine vs ?_
   conv => whnf
   refine ⟨(i + 1, c.tdiv 65536, l ++ [c % 65536]), by simp only; omega, ⟨by simp only; omega, by simp only; omega, by simp only; omega, by simp only; rw [ff.2]; exact next _ (by omega) (by omega)⟩, ?_⟩
   exact Wk.fg
  ·repeat refine vs ?_
   conv => whnf
   have e : Lm.addF (a.drop i) (b.drop i) c = [] := by
    rw [List.drop_of_length_le (by omega), List.drop_of_length_le (by omega)]
    simp [Lm.addF, show ¬ 0 < c by omega]
   rw [e, List.append_nil] at hinv
   subst hinv
   first | rfl | exact ⟨rfl, rfl⟩ | exact ⟨by simp [toRes], rfl⟩
end Go.Vx
end
section
/- Chapter 1: differences of limbs. -/
namespace Go.Vx
open Go.Proofs
set_option maxRecDepth 100000

theorem l1SubLimbs_den (a b : List Int) (ha : Lm.Dig a) (hb : Lm.Dig b) (hla : a.length ≤ 500000000000) (hlb : b.length ≤ 500000000000) : D 183 [lP a, lP b] true (.one (lP (Lm.cut (Lm.subF a b 0)))) := by
 refine go Tryz.func183 rfl rfl ?_
 repeat refine vs ?_
 conv => whnf
 have hlen := Lm.subF_len (a := a) (b := b) (c := 0)
 refine EVs.loopU (fun q : Nat × Int × List Int => 0 ≤ q.2.1 ∧ q.2.1 ≤ 1 ∧ q.1 ≤ a.length ∧ q.2.2 ++ Lm.subF (a.drop q.1) (b.drop q.1) q.2.1 = Lm.subF a b 0) (fun q => a.length - q.1)
  (fun | (i, c, l) => [(11, .v false [.p (.int .i64 (i : Int))]), (6, .v false [.p (.int .i64 c)]), (5, .v false [.own (1000031, 0) 3 (.ints l)])]) (0, 0, []) ⟨by simp, by simp, by simp, by simp⟩ Wk.fg ?_
 rintro ⟨i, c, l⟩ ⟨h0, h1, h2, hinv⟩
 dsimp only at h0 h1 h2 hinv
 have hll : l.length ≤ 500000000000 := by
  have e := congrArg List.length hinv
  rw [List.length_append] at e
  omega
 refine go1 ?_
 repeat refine vs ?_
 conv => whnf
 by_cases c1 : (i : Int) < a.length
 ·have hlt : i < a.length := by omega
  have hx := ha a[i] (List.getElem_mem hlt)
  have hy : 0 ≤ b.getD i 0 ∧ b.getD i 0 < 65536 := by
   by_cases h : i < b.length
   ·rw [show b.getD i 0 = b[i] by simp [List.getD, h]]
    exact hb _ (List.getElem_mem h)
   ·rw [show b.getD i 0 = 0 by simp [List.getD, h]]
    omega
  have hst := Lm.subF_step (a := a) (b := b) (c := c) hlt
  have dB := l1Limb_den b i (by omega) (by omega)
  rw [Int.toNat_natCast] at dB
  repeat refine vs ?_
  conv => whnf
  first | refine Idx.mk (i) (by first | rfl | omega) (by omega) ?_ | skip
  repeat refine vs ?_
  conv => whnf
  first | refine LdI.mk (a[i]) (List.getElem?_eq_getElem hlt) ?_ | skip
  repeat refine vs ?_
  conv => whnf
  refine CallS.mk _ rfl true true _ (dB) rfl ?_
  repeat refine vs ?_
  conv => whnf
  by_cases hn : a[i] - b.getD i 0 - c < 0
  ·rw [if_pos hn, if_pos hn] at hst
   repeat refine vs ?_
   conv => whnf
   refine NewK.mk false ?_
   repeat refine vs ?_
   conv => whnf
   refine ⟨(i + 1, 1, l ++ [a[i] - b.getD i 0 - c + 65536]), by simp only; omega, ⟨by simp only; omega, by simp only; omega, by simp only; omega, ?_⟩, ?_⟩
   ·simp only
    rw [← hinv, hst, List.append_assoc]
    rfl
   ·exact Wk.fg
  ·rw [if_neg hn, if_neg hn] at hst
   repeat refine vs ?_
   conv => whnf
   refine NewK.mk false ?_
   repeat refine vs ?_
   conv => whnf
   refine ⟨(i + 1, 0, l ++ [a[i] - b.getD i 0 - c]), by simp only; omega, ⟨by simp only; omega, by simp only; omega, by simp only; omega, ?_⟩, ?_⟩
   ·simp only
    rw [← hinv, hst, List.append_assoc]
    rfl
   ·exact Wk.fg
 ·have e : Lm.subF (a.drop i) (b.drop i) c = [] := by
   rw [List.drop_of_length_le (by omega)]
   rfl
  rw [e, List.append_nil] at hinv
  subst hinv
  repeat refine vs ?_
  conv => whnf
  refine CallS.mk _ rfl true true _ (l1Cut_den _ (by omega)) rfl ?_
  repeat refine vs ?_
  conv => whnf
  first | rfl | exact ⟨rfl, rfl⟩ | exact ⟨by simp [toRes], rfl⟩
end Go.Vx
end
section
/- Chapter 1: differences of limbs, the program's way. -/
namespace Go.Vx
open Go.Proofs
set_option maxRecDepth 100000

theorem set_self {l : List Int} {i : Nat} {v : Int} (h : i < l.length) : (l.set i v)[i]? = some v := by simp [h]
theorem set_at {l : List Int} {i : Nat} {v w : Int} (h : i < l.length) : (((l.set i v).set i w))[i]? = some w := by simp [h]

theorem subLimbs_den (a b : List Int) (ha : Lm.Dig a) (hb : Lm.Dig b) (hla : a.length ≤ 500000000000) (hlb : b.length ≤ a.length) : D 193 [lP a, lP b] false (.one (lP (Lm.cut (Lm.subF a b 0)))) := by
 refine go Tryz.func193 rfl rfl ?_
 repeat refine vs ?_
 conv => whnf
 refine CallS.mk _ rfl true true _ (clone_den a (by omega)) rfl ?_
 repeat refine vs ?_
 conv => whnf
 have hlen := Lm.subF_len (a := a) (b := b) (c := 0)
 refine EVs.un (9, 0) ?_
 refine EVs.loopU (fun q : Nat × Int × List Int => 0 ≤ q.2.1 ∧ q.2.1 ≤ 1 ∧ q.1 ≤ a.length ∧ q.2.2.length = a.length ∧ q.2.2.drop q.1 = a.drop q.1 ∧ q.2.2.take q.1 ++ Lm.subF (a.drop q.1) (b.drop q.1) q.2.1 = Lm.subF a b 0) (fun q => a.length - q.1)
  (fun | (i, c, l) => [(12, .v false [.p (.int .i64 (i : Int))]), (6, .v false [.p (.int .i64 c)]), (5, .v false [.own (9, 0) 3 (.ints l)]), (9, .any), (10, .any)]) (0, 0, a) ⟨by simp, by simp, by simp, by simp, by simp, by simp⟩ Wk.fg ?_
 rintro ⟨i, c, l⟩ ⟨h0, h1, h2, hll, hdr, hinv⟩
 dsimp only at h0 h1 h2 hll hdr hinv
 refine go1 ?_
 repeat refine vs ?_
 conv => whnf
 by_cases c1 : (i : Int) < a.length
 ·have hlt : i < a.length := by omega
  have hlt2 : i < l.length := by omega
  have hx := ha a[i] (List.getElem_mem hlt)
  have hli : l[i]? = some a[i] := by
   have e := congrArg (fun m => m[0]?) hdr
   simpa [hlt] using e
  have hst := Lm.subF_step (a := a) (b := b) (c := c) hlt
  have next : ∀ (d c' : Int), Lm.subF (a.drop i) (b.drop i) c = d :: Lm.subF (a.drop (i + 1)) (b.drop (i + 1)) c' → (l.set i d).length = a.length ∧ (l.set i d).drop (i + 1) = a.drop (i + 1) ∧ (l.set i d).take (i + 1) ++ Lm.subF (a.drop (i + 1)) (b.drop (i + 1)) c' = Lm.subF a b 0 := by
   intro d c' hd
   refine ⟨by simpa using hll, ?_, ?_⟩
   ·have e : (l.set i d).drop (i + 1) = l.drop (i + 1) := by
     apply List.ext_getElem?
     intro j
     rw [List.getElem?_drop, List.getElem?_drop, List.getElem?_set_ne (by omega)]
    rw [e, ← List.drop_drop, hdr, List.drop_drop]
   ·have e : (l.set i d).take (i + 1) = l.take i ++ [d] := by
     rw [List.take_add_one, List.take_set_of_le (Nat.le_refl _), set_self hlt2]
     rfl
    rw [e, ← hinv, hd, List.append_assoc]
    rfl
  have s1 : ∀ v, (l.set i v)[i]? = some v := fun v => set_self hlt2
  have s2 : ∀ v w, ((l.set i v).set i w)[i]? = some w := fun v w => set_at hlt2
  have g1 := s1 (a[i] - c)
  repeat refine vs ?_
  conv => whnf
  by_cases c2 : (i : Int) < b.length
  ·have hltb : i < b.length := by omega
   have hyb : b.getD i 0 = b[i] := by simp [List.getD, hltb]
   have hy := hb _ (List.getElem_mem hltb)
   rw [hyb] at hst
   have g2 := List.getElem?_eq_getElem hltb
   have g3 := s2 (a[i] - c) (a[i] - c - b[i])
   repeat refine vs ?_
   conv => whnf
   by_cases hn : a[i] - c - b[i] < 0
   ·rw [if_pos (by omega), if_pos (by omega)] at hst
    repeat refine vs ?_
    conv => whnf
    obtain ⟨n1, n2, n3⟩ := next _ _ hst
    refine ⟨(i + 1, 1, l.set i (a[i] - b[i] - c + 65536)), by simp only; omega, ⟨by simp only; omega, by simp only; omega, by simp only; omega, n1, n2, n3⟩, ?_⟩
    rw [List.set_set, List.set_set, show a[i] - c - b[i] + 65536 = a[i] - b[i] - c + 65536 by omega]
    exact Wk.fg
   ·rw [if_neg (by omega), if_neg (by omega)] at hst
    repeat refine vs ?_
    conv => whnf
    obtain ⟨n1, n2, n3⟩ := next _ _ hst
    refine ⟨(i + 1, 0, l.set i (a[i] - b[i] - c)), by simp only; omega, ⟨by simp only; omega, by simp only; omega, by simp only; omega, n1, n2, n3⟩, ?_⟩
    rw [List.set_set, show a[i] - c - b[i] = a[i] - b[i] - c by omega]
    exact Wk.fg
  ·have hyb : b.getD i 0 = 0 := by simp [List.getD, show ¬ i < b.length by omega]
   rw [hyb] at hst
   repeat refine vs ?_
   conv => whnf
   by_cases hn : a[i] - c < 0
   ·rw [if_pos (by omega), if_pos (by omega)] at hst
    repeat refine vs ?_
    conv => whnf
    obtain ⟨n1, n2, n3⟩ := next _ _ hst
    refine ⟨(i + 1, 1, l.set i (a[i] - 0 - c + 65536)), by simp only; omega, ⟨by simp only; omega, by simp only; omega, by simp only; omega, n1, n2, n3⟩, ?_⟩
    rw [List.set_set, show a[i] - c + 65536 = a[i] - 0 - c + 65536 by omega]
    exact Wk.fg
   ·rw [if_neg (by omega), if_neg (by omega)] at hst
    repeat refine vs ?_
    conv => whnf
    obtain ⟨n1, n2, n3⟩ := next _ _ hst
    refine ⟨(i + 1, 0, l.set i (a[i] - 0 - c)), by simp only; omega, ⟨by simp only; omega, by simp only; omega, by simp only; omega, n1, n2, n3⟩, ?_⟩
    rw [show a[i] - c = a[i] - 0 - c by omega]
    exact Wk.fg
 ·have e : Lm.subF (a.drop i) (b.drop i) c = [] := by
   rw [List.drop_of_length_le (by omega)]
   rfl
  have hi : i = a.length := by omega
  rw [e, List.append_nil, hi, ← hll, List.take_length] at hinv
  subst hinv
  repeat refine vs ?_
  conv => whnf
  refine CallS.mk _ rfl false false _ (cut_den _ (by omega)) rfl ?_
  repeat refine vs ?_
  conv => whnf
  first | rfl | exact ⟨rfl, rfl⟩ | exact ⟨by simp [toRes], rfl⟩
end Go.Vx
end
