/- B12, B13 -/
import Derived.Test.YtpmgjmkobpeepaaGreatBGc
import Derived.Test.YtpmgjmkobpeepaaGreatLGa
set_option linter.unusedVariables false
set_option linter.unusedSectionVars false
set_option linter.unusedSimpArgs false
section
/- Chapter 1: sums and differences. -/
namespace Go.Vx
open Go.Proofs
set_option maxRecDepth 100000

theorem make_num' {b : Bool} {l : List Int} {n : Nat} (h : Lm.cut l = Lm.lim n) : rawV (b && decide (Lm.cut l ≠ [])) (Lm.cut l) = bigV (if b then -(n : Int) else n) := by
 rw [← make_num, h, Lm.cut_lim]

/-- The sum of two numbers, by signs and sizes. -/
theorem add_cases (x y : Int) : (decide (x < 0) = decide (y < 0) ∧ x + y = (if decide (x < 0) then -((x.natAbs + y.natAbs : Nat) : Int) else ((x.natAbs + y.natAbs : Nat) : Int))) ∨
  (decide (x < 0) ≠ decide (y < 0) ∧ y.natAbs ≤ x.natAbs ∧ x + y = (if decide (x < 0) then -((x.natAbs - y.natAbs : Nat) : Int) else ((x.natAbs - y.natAbs : Nat) : Int))) ∨
  (decide (x < 0) ≠ decide (y < 0) ∧ ¬ y.natAbs ≤ x.natAbs ∧ x + y = (if decide (y < 0) then -((y.natAbs - x.natAbs : Nat) : Int) else ((y.natAbs - x.natAbs : Nat) : Int))) := by
 by_cases h1 : x < 0 <;> by_cases h2 : y < 0 <;> simp only [h1, h2, decide_true, decide_false, if_true, Bool.false_eq_true, if_false] <;> by_cases h3 : y.natAbs ≤ x.natAbs <;> simp [h3] <;> omega

theorem addL (m n : Nat) : Lm.cut (Lm.addF (Lm.lim m) (Lm.lim n) 0) = Lm.lim (m + n) := by
 rw [Lm.addF_lim (Lm.lim_dig _) (Lm.lim_dig _), Lm.val_lim, Lm.val_lim]
 congr 1
theorem subL {m n : Nat} (h : n ≤ m) : Lm.cut (Lm.subF (Lm.lim m) (Lm.lim n) 0) = Lm.lim (m - n) := by
 rw [Lm.subF_lim (Lm.lim_dig _) (Lm.lim_dig _) (by rw [Lm.val_lim, Lm.val_lim]; omega), Lm.val_lim, Lm.val_lim]
 congr 1
 omega
theorem lim_le {m n : Nat} (h : n ≤ m) : (Lm.lim n).length ≤ (Lm.lim m).length := by
 rw [Lm.lim_length]
 have := (Lm.lim_length m (Lm.lim m).length).1 (Nat.le_refl _)
 omega
theorem cmpI_ge {m n : Nat} : (0 ≤ cmpI (m : Int) (n : Int)) ↔ n ≤ m := by
 unfold cmpI
 split
 ·omega
 ·split <;> omega
theorem l1Add_den (x y : Int) (hx : Lm.ln x ≤ 400000000000) (hy : Lm.ln y ≤ 400000000000) : D 151 [bigV x, bigV y] true (.one (bigV (x + y))) := by
 have h1 : (Lm.lim x.natAbs).length ≤ 400000000000 := hx
 have h2 : (Lm.lim y.natAbs).length ≤ 400000000000 := hy
 have eL := Lm.addF_len (a := Lm.lim x.natAbs) (b := Lm.lim y.natAbs) (c := 0)
 refine go Tryz.func151 rfl rfl ?_
 rcases add_cases x y with ⟨hs, hv⟩ | ⟨hs, hc, hv⟩ | ⟨hs, hc, hv⟩
 ·have hb : (decide (x < 0) == decide (y < 0)) = true := by simpa using hs
  have dA := l1AddLimbs_den _ _ (Lm.lim_dig x.natAbs) (Lm.lim_dig y.natAbs) (by omega) (by omega)
  have dM := l1Make_den (decide (x < 0)) (Lm.addF (Lm.lim x.natAbs) (Lm.lim y.natAbs) 0) (by omega)
  rw [make_num' (addL _ _), ← hv] at dM
  repeat refine vs ?_
  conv => whnf
  refine CallS.mk _ rfl true true _ (dA) rfl ?_
  repeat refine vs ?_
  conv => whnf
  refine CallS.mk _ rfl true true _ (dM) rfl ?_
  repeat refine vs ?_
  conv => whnf
  first | rfl | exact ⟨rfl, rfl⟩ | exact ⟨by simp [toRes], rfl⟩
 ·have hb : (decide (x < 0) == decide (y < 0)) = false := by simpa using hs
  have dC := l1Cmp_den _ _ (Lm.lim_can x.natAbs) (Lm.lim_can y.natAbs) (by omega) (by omega)
  rw [cmpI_lim] at dC
  have h3 := cmpI_ge.2 hc
  have dA := l1SubLimbs_den _ _ (Lm.lim_dig x.natAbs) (Lm.lim_dig y.natAbs) (by omega) (by omega)
  rw [subL hc] at dA
  have dM := l1Make_den (decide (x < 0)) (Lm.lim (x.natAbs - y.natAbs)) (by have := lim_le (Nat.sub_le x.natAbs y.natAbs); omega)
  rw [make_num, ← hv] at dM
  repeat refine vs ?_
  conv => whnf
  refine CallS.mk _ rfl true true _ (dC) rfl ?_
  repeat refine vs ?_
  conv => whnf
  refine CallS.mk _ rfl true true _ (dA) rfl ?_
  repeat refine vs ?_
  conv => whnf
  refine CallS.mk _ rfl true true _ (dM) rfl ?_
  repeat refine vs ?_
  conv => whnf
  first | rfl | exact ⟨rfl, rfl⟩ | exact ⟨by simp [toRes], rfl⟩
 ·have hb : (decide (x < 0) == decide (y < 0)) = false := by simpa using hs
  have dC := l1Cmp_den _ _ (Lm.lim_can x.natAbs) (Lm.lim_can y.natAbs) (by omega) (by omega)
  rw [cmpI_lim] at dC
  have h3 := fun h => hc (cmpI_ge.1 h)
  have dA := l1SubLimbs_den _ _ (Lm.lim_dig y.natAbs) (Lm.lim_dig x.natAbs) (by omega) (by omega)
  rw [subL (by omega)] at dA
  have dM := l1Make_den (decide (y < 0)) (Lm.lim (y.natAbs - x.natAbs)) (by have := lim_le (Nat.sub_le y.natAbs x.natAbs); omega)
  rw [make_num, ← hv] at dM
  repeat refine vs ?_
  conv => whnf
  refine CallS.mk _ rfl true true _ (dC) rfl ?_
  repeat refine vs ?_
  conv => whnf
  refine CallS.mk _ rfl true true _ (dA) rfl ?_
  repeat refine vs ?_
  conv => whnf
  refine CallS.mk _ rfl true true _ (dM) rfl ?_
  repeat refine vs ?_
  conv => whnf
  first | rfl | exact ⟨rfl, rfl⟩ | exact ⟨by simp [toRes], rfl⟩

theorem add_den (x y : Int) (hx : Lm.ln x ≤ 400000000000) (hy : Lm.ln y ≤ 400000000000) : D 173 [bigV x, bigV y] true (.one (bigV (x + y))) := by
 have h1 : (Lm.lim x.natAbs).length ≤ 400000000000 := hx
 have h2 : (Lm.lim y.natAbs).length ≤ 400000000000 := hy
 have eL := Lm.addF_len (a := Lm.lim x.natAbs) (b := Lm.lim y.natAbs) (c := 0)
 refine go Tryz.func173 rfl rfl ?_
 rcases add_cases x y with ⟨hs, hv⟩ | ⟨hs, hc, hv⟩ | ⟨hs, hc, hv⟩
 ·have hb : (decide (x < 0) == decide (y < 0)) = true := by simpa using hs
  have dA := addLimbs_den _ _ (Lm.lim_dig x.natAbs) (Lm.lim_dig y.natAbs) (by omega) (by omega)
  have dM := bigOf_den (decide (x < 0)) (Lm.addF (Lm.lim x.natAbs) (Lm.lim y.natAbs) 0) (by omega)
  rw [make_num' (addL _ _), ← hv] at dM
  repeat refine vs ?_
  conv => whnf
  refine CallS.mk _ rfl true true _ (dA) rfl ?_
  repeat refine vs ?_
  conv => whnf
  refine CallS.mk _ rfl true true _ (dM) rfl ?_
  repeat refine vs ?_
  conv => whnf
  first | rfl | exact ⟨rfl, rfl⟩ | exact ⟨by simp [toRes], rfl⟩
 ·have hb : (decide (x < 0) == decide (y < 0)) = false := by simpa using hs
  have dC := compareLimbs_den _ _ (Lm.lim_can x.natAbs) (Lm.lim_can y.natAbs) (by omega) (by omega)
  rw [cmpI_lim] at dC
  have h3 := cmpI_ge.2 hc
  have dA := subLimbs_den _ _ (Lm.lim_dig x.natAbs) (Lm.lim_dig y.natAbs) (by omega) (lim_le hc)
  rw [subL hc] at dA
  have dM := bigOf_den (decide (x < 0)) (Lm.lim (x.natAbs - y.natAbs)) (by have := lim_le (Nat.sub_le x.natAbs y.natAbs); omega)
  rw [make_num, ← hv] at dM
  repeat refine vs ?_
  conv => whnf
  refine CallS.mk _ rfl true true _ (dC) rfl ?_
  repeat refine vs ?_
  conv => whnf
  refine CallS.mk _ rfl false false _ (dA) rfl ?_
  repeat refine vs ?_
  conv => whnf
  refine CallS.mk _ rfl true true _ (dM) rfl ?_
  repeat refine vs ?_
  conv => whnf
  first | rfl | exact ⟨rfl, rfl⟩ | exact ⟨by simp [toRes], rfl⟩
 ·have hb : (decide (x < 0) == decide (y < 0)) = false := by simpa using hs
  have dC := compareLimbs_den _ _ (Lm.lim_can x.natAbs) (Lm.lim_can y.natAbs) (by omega) (by omega)
  rw [cmpI_lim] at dC
  have h3 := fun h => hc (cmpI_ge.1 h)
  have dA := subLimbs_den _ _ (Lm.lim_dig y.natAbs) (Lm.lim_dig x.natAbs) (by omega) (lim_le (by omega))
  rw [subL (by omega)] at dA
  have dM := bigOf_den (decide (y < 0)) (Lm.lim (y.natAbs - x.natAbs)) (by have := lim_le (Nat.sub_le y.natAbs x.natAbs); omega)
  rw [make_num, ← hv] at dM
  repeat refine vs ?_
  conv => whnf
  refine CallS.mk _ rfl true true _ (dC) rfl ?_
  repeat refine vs ?_
  conv => whnf
  refine CallS.mk _ rfl false false _ (dA) rfl ?_
  repeat refine vs ?_
  conv => whnf
  refine CallS.mk _ rfl true true _ (dM) rfl ?_
  repeat refine vs ?_
  conv => whnf
  first | rfl | exact ⟨rfl, rfl⟩ | exact ⟨by simp [toRes], rfl⟩

end Go.Vx
end
section
/- Chapter 1: products. -/
namespace Go.Vx
open Go.Proofs
set_option maxRecDepth 100000

theorem tdm {n : Int} (h : 0 ≤ n) : n.tmod 65536 = n % 65536 ∧ n.tdiv 65536 = n / 65536 := ⟨Int.tmod_eq_emod_of_nonneg h, Int.tdiv_eq_ediv_of_nonneg h⟩

theorem l1MulLimbs_den (a b : List Int) (ha : Lm.Dig a) (hb : Lm.Dig b) (hla : a.length ≤ 400000000000) (hlb : b.length ≤ 400000000000) : D 168 [lP a, lP b] true (.one (lP (Lm.lim (Lm.val a * Lm.val b).toNat))) := by
 refine go Tryz.func168 rfl rfl ?_
 repeat refine vs ?_
 conv => whnf
 refine MakeK.mk (a.length + b.length + 1) (by omega) (by omega) (by omega) true ?_
 repeat refine vs ?_
 conv => whnf
 refine EVs.loopU (fun q : Nat × List Int => q.1 ≤ a.length ∧ q.2.length = a.length + b.length + 1 ∧ Lm.Dig q.2 ∧ Lm.val q.2 = Lm.val (a.take q.1) * Lm.val b) (fun q => a.length - q.1)
  (fun | (i, l) => [(20, .v false [.p (.int .i64 (i : Int))]), (5, .v false [.own (17, 0) 3 (.ints l)]), (17, .any)]) (0, List.replicate (a.length + b.length + 1) 0)
  ⟨by simp, by simp, Lm.Dig.replicate _, by simp [Lm.val_replicate, Lm.val]⟩ Wk.fg ?_
 rintro ⟨i, l0⟩ ⟨hi, hl0, hd0, hv0⟩
 dsimp only at hi hl0 hd0 hv0
 refine go1 ?_
 repeat refine vs ?_
 conv => whnf
 by_cases c1 : (i : Int) < a.length
 ·have hlt : i < a.length := by omega
  have hx := ha.get hlt
  have g0 := List.getElem?_eq_getElem hlt
  have hvl : Lm.val l0 < Lm.pw (i + b.length) := by rw [hv0]; exact Lm.mul_lt ha hb i
  repeat refine vs ?_
  conv => whnf
  refine EVs.loopU (fun q : Nat × Int × List Int => q.1 ≤ b.length + 1 ∧ Lm.MulRow l0 q.2.2 a[i] b i q.1 q.2.1) (fun q => b.length + 1 - q.1)
   (fun | (k, c, l) => [(9, .v false [.p (.int .i64 (k : Int))]), (8, .v false [.p (.int .i64 c)]), (5, .v false [.own (17, 0) 3 (.ints l)])]) (0, 0, l0) ⟨by simp, Lm.MulRow.start hd0⟩ Wk.fg ?_
  rintro ⟨k, c, l⟩ ⟨hk, hrow⟩
  dsimp only at hk hrow
  have c0 := hrow.c0
  have c9 := hrow.c1
  have hll := hrow.len
  have dB := l1Limb_den b k (by omega) (by omega)
  rw [Int.toNat_natCast] at dB
  have cont : (k : Int) < b.length ∨ c > 0 → i + k < l.length ∧ k ≤ b.length := by
   intro h
   have : k ≤ b.length := by
    by_cases hkb : b.length < k
    ·have := hrow.carry hx hb hd0 hvl hkb
     omega
    ·omega
   omega
  refine go1 ?_
  repeat refine vs ?_
  conv => whnf
  by_cases c2 : (k : Int) < b.length
  ·obtain ⟨q1, q2⟩ := cont (.inl c2)
   obtain ⟨s0, s1, s2, s3, srow⟩ := hrow.step hx hb q1 rfl
   obtain ⟨t1, t2⟩ := tdm s0
   have g1 := List.getElem?_eq_getElem q1
   have hlk := hrow.dig.get q1
   repeat refine vs ?_
   conv => whnf
   first | refine Idx.mk ((i + k)) (by first | rfl | omega) (by omega) ?_ | skip
   repeat refine vs ?_
   conv => whnf
   refine CallS.mk _ rfl true true _ (dB) rfl ?_
   repeat refine vs ?_
   conv => whnf
   refine Eqz.mk _ t1 ?_
   repeat refine vs ?_
   conv => whnf
   first | refine Idx.mk ((i + k)) (by first | rfl | omega) (by omega) ?_ | skip
   repeat refine vs ?_
   conv => whnf
   refine ⟨(k + 1, (l[i + k] + a[i] * b.getD k 0 + c).tdiv 65536, l.set (i + k) ((l[i + k] + a[i] * b.getD k 0 + c) % 65536)), by simp only; omega, ⟨by simp only; omega, by simp only; rw [t2]; exact srow⟩, ?_⟩
   exact Wk.fg
  ·by_cases c3 : c > 0
   ·obtain ⟨q1, q2⟩ := cont (.inr c3)
    obtain ⟨s0, s1, s2, s3, srow⟩ := hrow.step hx hb q1 rfl
    obtain ⟨t1, t2⟩ := tdm s0
    have g1 := List.getElem?_eq_getElem q1
    have hlk := hrow.dig.get q1
    repeat refine vs ?_
    conv => whnf
    first | refine Idx.mk ((i + k)) (by first | rfl | omega) (by omega) ?_ | skip
    repeat refine vs ?_
    conv => whnf
    refine CallS.mk _ rfl true true _ (dB) rfl ?_
    repeat refine vs ?_
    conv => whnf
    refine Eqz.mk _ t1 ?_
    repeat refine vs ?_
    conv => whnf
    first | refine Idx.mk ((i + k)) (by first | rfl | omega) (by omega) ?_ | skip
    repeat refine vs ?_
    conv => whnf
    refine ⟨(k + 1, (l[i + k] + a[i] * b.getD k 0 + c).tdiv 65536, l.set (i + k) ((l[i + k] + a[i] * b.getD k 0 + c) % 65536)), by simp only; omega, ⟨by simp only; omega, by simp only; rw [t2]; exact srow⟩, ?_⟩
    exact Wk.fg
   ·repeat refine vs ?_
    conv => whnf
    refine ⟨(i + 1, l), by simp only; omega, ⟨by simp only; omega, by simp only; omega, hrow.dig, hrow.done hlt (by omega) (by omega) hv0⟩, ?_⟩
    exact Wk.fg
 ·have hi2 : i = a.length := by omega
  subst hi2
  rw [List.take_length] at hv0
  have dC := l1Cut_den l0 (by omega)
  rw [Lm.cut_eq hd0, hv0] at dC
  repeat refine vs ?_
  conv => whnf
  refine CallS.mk _ rfl true true _ (dC) rfl ?_
  repeat refine vs ?_
  conv => whnf
  first | rfl | exact ⟨rfl, rfl⟩ | exact ⟨by simp [toRes], rfl⟩

/-- The product of two numbers, by signs and sizes. -/
theorem mul_sign (x y : Int) : x * y = (if (decide (x < 0) != decide (y < 0)) then -((x.natAbs * y.natAbs : Nat) : Int) else ((x.natAbs * y.natAbs : Nat) : Int)) := by
 rw [Int.natCast_mul]
 by_cases h1 : x < 0 <;> by_cases h2 : y < 0
 ·rw [show (x.natAbs : Int) = -x by omega, show (y.natAbs : Int) = -y by omega]; simp [h1, h2]; grind
 ·rw [show (x.natAbs : Int) = -x by omega, show (y.natAbs : Int) = y by omega]; simp [h1, h2]; grind
 ·rw [show (x.natAbs : Int) = x by omega, show (y.natAbs : Int) = -y by omega]; simp [h1, h2]; grind
 ·rw [show (x.natAbs : Int) = x by omega, show (y.natAbs : Int) = y by omega]; simp [h1, h2]
theorem mul_lim (x y : Int) : (Lm.val (Lm.lim x.natAbs) * Lm.val (Lm.lim y.natAbs)).toNat = x.natAbs * y.natAbs := by
 rw [Lm.val_lim, Lm.val_lim, ← Int.natCast_mul, Int.toNat_natCast]
theorem mul_len (x y : Int) : (Lm.lim (x.natAbs * y.natAbs)).length ≤ Lm.ln x + Lm.ln y := by
 have := Lm.ln_mul x y (Nat.le_refl _) (Nat.le_refl _)
 unfold Lm.ln at this ⊢
 rwa [Int.natAbs_mul] at this

theorem l1Mul_den (x y : Int) (hx : Lm.ln x ≤ 200000000000) (hy : Lm.ln y ≤ 200000000000) : D 139 [bigV x, bigV y] true (.one (bigV (x * y))) := by
 have h1 : (Lm.lim x.natAbs).length ≤ 200000000000 := hx
 have h2 : (Lm.lim y.natAbs).length ≤ 200000000000 := hy
 have dA := l1MulLimbs_den _ _ (Lm.lim_dig x.natAbs) (Lm.lim_dig y.natAbs) (by omega) (by omega)
 rw [mul_lim] at dA
 have dM := l1Make_den (decide (x < 0) != decide (y < 0)) (Lm.lim (x.natAbs * y.natAbs)) (by have := mul_len x y; omega)
 rw [make_num, ← mul_sign] at dM
 refine go Tryz.func139 rfl rfl ?_
 repeat refine vs ?_
 conv => whnf
 refine Bo.mk _ rfl ?_
 repeat refine vs ?_
 conv => whnf
 refine CallS.mk _ rfl true true _ (dA) rfl ?_
 repeat refine vs ?_
 conv => whnf
 refine CallS.mk _ rfl true true _ (dM) rfl ?_
 repeat refine vs ?_
 conv => whnf
 first | rfl | exact ⟨rfl, rfl⟩ | exact ⟨by simp [toRes], rfl⟩

set_option maxHeartbeats 4000000 in
theorem mul_den (x y : Int) (hx : Lm.ln x ≤ 200000000000) (hy : Lm.ln y ≤ 200000000000) : D 137 [bigV x, bigV y] true (.one (bigV (x * y))) := by
 have h1 : (Lm.lim x.natAbs).length ≤ 200000000000 := hx
 have h2 : (Lm.lim y.natAbs).length ≤ 200000000000 := hy
 have ha := Lm.lim_dig x.natAbs
 have hb := Lm.lim_dig y.natAbs
 have hms := mul_sign x y
 have hml := mul_lim x y
 generalize hbx : decide (x < 0) = nx at *
 generalize hby : decide (y < 0) = ny at *
 rw [show bigV x = rawV nx (Lm.lim x.natAbs) by rw [← hbx], show bigV y = rawV ny (Lm.lim y.natAbs) by rw [← hby]]
 generalize Lm.lim x.natAbs = a at *
 generalize Lm.lim y.natAbs = b at *
 refine go Tryz.func137 rfl rfl ?_
 repeat refine vs ?_
 conv => whnf
 refine MakeK.mk (a.length + b.length) (by omega) (by omega) (by omega) true ?_
 repeat refine vs ?_
 conv => whnf
 refine EVs.loopU (fun q : Nat × List Int => q.1 ≤ a.length ∧ q.2.length = a.length + b.length ∧ Lm.Dig q.2 ∧ Lm.val q.2 = Lm.val (a.take q.1) * Lm.val b) (fun q => a.length - q.1)
  (fun | (i, l) => [(22, .v false [.p (.int .i64 (i : Int))]), (5, .v false [.own (18, 0) 3 (.ints l)]), (18, .any)]) (0, List.replicate (a.length + b.length) 0)
  ⟨by simp, by simp, Lm.Dig.replicate _, by simp [Lm.val_replicate, Lm.val]⟩ Wk.fg ?_
 rintro ⟨i, l0⟩ ⟨hi, hl0, hd0, hv0⟩
 dsimp only at hi hl0 hd0 hv0
 refine go1 ?_
 repeat refine vs ?_
 conv => whnf
 by_cases c1 : (i : Int) < a.length
 ·have hlt : i < a.length := by omega
  have hx := ha.get hlt
  have g0 := List.getElem?_eq_getElem hlt
  have hvl : Lm.val l0 < Lm.pw (i + b.length) := by rw [hv0]; exact Lm.mul_lt ha hb i
  repeat refine vs ?_
  conv => whnf
  refine EVs.loopU (fun q : Nat × Int × List Int => q.1 ≤ b.length ∧ Lm.MulRow l0 q.2.2 a[i] b i q.1 q.2.1) (fun q => b.length - q.1)
   (fun | (k, c, l) => [(30, .v false [.p (.int .i64 (k : Int))]), (8, .v false [.p (.int .i64 c)]), (5, .v false [.own (18, 0) 3 (.ints l)])]) (0, 0, l0) ⟨by simp, Lm.MulRow.start hd0⟩ Wk.fg ?_
  rintro ⟨k, c, l⟩ ⟨hk, hrow⟩
  dsimp only at hk hrow
  have c0 := hrow.c0
  have c9 := hrow.c1
  have hll := hrow.len
  refine go1 ?_
  repeat refine vs ?_
  conv => whnf
  by_cases c2 : (k : Int) < b.length
  ·have hkb : k < b.length := by omega
   have q1 : i + k < l.length := by omega
   obtain ⟨s0, s1, s2, s3, srow⟩ := hrow.step hx hb q1 rfl
   rw [show b.getD k 0 = b[k] by simp [List.getD, hkb]] at s0 s1 s2 s3 srow
   have ec : c + (l[i + k] + a[i] * b[k]) = l[i + k] + a[i] * b[k] + c := by omega
   obtain ⟨t1, t2⟩ := tdm s0
   have g1 := List.getElem?_eq_getElem q1
   have g2 := List.getElem?_eq_getElem hkb
   have hlk := hrow.dig.get q1
   repeat refine vs ?_
   conv => whnf
   first | refine Idx.mk ((i + k)) (by first | rfl | omega) (by omega) ?_ | skip
   repeat refine vs ?_
   conv => whnf
   refine Eqz.mk ((l[i + k] + a[i] * b[k] + c) % 65536) (by rw [ec]; exact t1) ?_
   repeat refine vs ?_
   conv => whnf
   first | refine Idx.mk ((i + k)) (by first | rfl | omega) (by omega) ?_ | skip
   repeat refine vs ?_
   conv => whnf
   rw [ec]
   repeat refine vs ?_
   conv => whnf
   refine ⟨(k + 1, (l[i + k] + a[i] * b[k] + c).tdiv 65536, l.set (i + k) ((l[i + k] + a[i] * b[k] + c) % 65536)), by simp only; omega, ⟨by simp only; omega, by simp only; rw [t2]; exact srow⟩, ?_⟩
   exact Wk.fg
  ·have hkb : k = b.length := by omega
   subst hkb
   have q1 : i + b.length < l.length := by omega
   have hz : l[i + b.length] = 0 := by
    have e1 := hrow.rest (i + b.length) (Nat.le_refl _)
    rw [List.getElem?_eq_getElem q1, List.getElem?_eq_getElem (by omega)] at e1
    have e2 := Lm.dig_zero hd0 hvl (Nat.le_refl _) (show i + b.length < l0.length by omega)
    rw [Option.some.inj e1, e2]
   obtain ⟨s0, s1, s2, s3, srow⟩ := hrow.step hx hb q1 rfl
   rw [show b.getD b.length 0 = 0 by simp [List.getD], hz, Int.mul_zero, Int.zero_add, Int.zero_add, Int.emod_eq_of_lt c0 (by omega), Int.ediv_eq_zero_of_lt c0 (by omega)] at srow
   have g1 : l[i + b.length]? = some 0 := by rw [List.getElem?_eq_getElem q1, hz]
   have e0 : (0 : Int) + c = c := by omega
   repeat refine vs ?_
   conv => whnf
   first | refine Idx.mk ((i + b.length)) (by first | rfl | omega) (by omega) ?_ | skip
   repeat refine vs ?_
   conv => whnf
   first | refine Idx.mk ((i + b.length)) (by first | rfl | omega) (by omega) ?_ | skip
   repeat refine vs ?_
   conv => whnf
   rw [e0]
   repeat refine vs ?_
   conv => whnf
   refine ⟨(i + 1, l.set (i + b.length) c), by simp only; omega, ⟨by simp only; omega, by simp only; rw [List.length_set]; omega, srow.dig, srow.done hlt (by omega) rfl hv0⟩, ?_⟩
   exact Wk.fg
 ·have hi2 : i = a.length := by omega
  subst hi2
  rw [List.take_length] at hv0
  have dC := bigOf_den (nx != ny) l0 (by omega)
  rw [make_num' (n := x.natAbs * y.natAbs) (by rw [Lm.cut_eq hd0, hv0, hml]), ← hms] at dC
  repeat refine vs ?_
  conv => whnf
  refine Bo.mk _ rfl ?_
  repeat refine vs ?_
  conv => whnf
  refine CallS.mk _ rfl true true _ (dC) rfl ?_
  repeat refine vs ?_
  conv => whnf
  first | rfl | exact ⟨rfl, rfl⟩ | exact ⟨by simp [toRes], rfl⟩
end Go.Vx
end
