/- B14, B15 -/
import Derived.Test.YtpmgjmkobpeepaaGreatBGd
import Derived.Test.YtpmgjmkobpeepaaGreatLGa
set_option linter.unusedVariables false
set_option linter.unusedSectionVars false
set_option linter.unusedSimpArgs false
section
/- Chapter 1: limbs shifted by bits, divided by one limb. -/
namespace Go.Vx
open Go.Proofs
set_option maxRecDepth 100000

theorem wrap_bit {n : Nat} (h : n < 9223372036854775808) : IntKind.i64.wrap (n : Int) = n := wrap64 (by omega) (by omega)
/-- Or of numbers whose bits are apart. -/
theorem or_add {x y : Int} {s : Nat} (hx : 0 ≤ x) (hx1 : x < 2 ^ s) (hy : 0 ≤ y) (hm : ∃ z, 0 ≤ z ∧ y = 2 ^ s * z) (hb : x + y < 9223372036854775808) : Go.bits .or .i64 x y = x + y := by
 obtain ⟨z, hz, rfl⟩ := hm
 obtain ⟨x, rfl⟩ := Int.eq_ofNat_of_zero_le hx
 obtain ⟨z, rfl⟩ := Int.eq_ofNat_of_zero_le hz
 have e : (2 : Int) ^ s * (z : Int) = ((2 ^ s * z : Nat) : Int) := by simp
 rw [e] at hb ⊢
 have hx2 : x < 2 ^ s := by exact_mod_cast hx1
 have h1 : (BitVec.ofInt 64 (x : Int)).toNat = x := by simp; omega
 have h2 : (BitVec.ofInt 64 ((2 ^ s * z : Nat) : Int)).toNat = 2 ^ s * z := by
  rw [BitVec.toNat_ofInt]
  have : ((2 ^ s * z : Nat) : Int) % ((2 ^ 64 : Nat) : Int) = ((2 ^ s * z : Nat) : Int) := Int.emod_eq_of_lt (by omega) (by omega)
  rw [this]
  exact Int.toNat_natCast _
 unfold Go.bits
 dsimp only
 rw [show IntKind.i64.bits = 64 from rfl, BitVec.toNat_or, h1, h2, Lm.or_nat hx2]
 rw [wrap_bit (by omega)]
 simp

theorem l1Up_den (l : List Int) (s : Nat) (hl : Lm.Dig l) (hs : s ≤ 15) (hln : l.length ≤ 500000000000) : ∃ u, Lm.Dig u ∧ u.length = l.length + 1 ∧ Lm.val u = Lm.val l * 2 ^ s ∧ D 177 [lP l, iP (s : Int)] true (.one (lP u)) := by
 obtain ⟨k, hk, hK, hk0, hK2, _⟩ := Lm.two_split (s := s) (by omega)
 refine ⟨Lm.lim (Lm.val l * 2 ^ s).toNat ++ List.replicate (l.length + 1 - (Lm.lim (Lm.val l * 2 ^ s).toNat).length) 0, ?_⟩
 have h0 : 0 ≤ Lm.val l * 2 ^ s := Int.mul_nonneg (Lm.val_nonneg hl) (by omega)
 have hlen : (Lm.lim (Lm.val l * 2 ^ s).toNat).length ≤ l.length + 1 := by
  rw [Lm.lim_length, Int.toNat_of_nonneg h0, Lm.pw_succ]
  have h1 := Lm.val_lt hl
  have h2 := Lm.val_nonneg hl
  have h3 : Lm.val l * 2 ^ s ≤ Lm.val l * 65536 := Int.mul_le_mul_of_nonneg_left hK2 h2
  omega
 have hdig : Lm.Dig (Lm.lim (Lm.val l * 2 ^ s).toNat ++ List.replicate (l.length + 1 - (Lm.lim (Lm.val l * 2 ^ s).toNat).length) 0) := (Lm.lim_dig _).append (Lm.Dig.replicate _)
 have hval : Lm.val (Lm.lim (Lm.val l * 2 ^ s).toNat ++ List.replicate (l.length + 1 - (Lm.lim (Lm.val l * 2 ^ s).toNat).length) 0) = Lm.val l * 2 ^ s := by
  rw [Lm.val_append, Lm.val_replicate, Lm.val_lim]
  omega
 have hul : (Lm.lim (Lm.val l * 2 ^ s).toNat ++ List.replicate (l.length + 1 - (Lm.lim (Lm.val l * 2 ^ s).toNat).length) 0).length = l.length + 1 := by simp; omega
 refine ⟨hdig, hul, hval, ?_⟩
 have fin : ∀ out : List Int, Lm.Dig out → out.length = l.length + 1 → Lm.val out = Lm.val l * 2 ^ s → out = Lm.lim (Lm.val l * 2 ^ s).toNat ++ List.replicate (l.length + 1 - (Lm.lim (Lm.val l * 2 ^ s).toNat).length) 0 :=
  fun out h1 h2 h3 => Lm.dig_inj h1 hdig (by rw [h2, hul]) (by rw [h3, hval])
 generalize Lm.lim (Lm.val l * 2 ^ s).toNat ++ List.replicate (l.length + 1 - (Lm.lim (Lm.val l * 2 ^ s).toNat).length) 0 = res at *
 have hexp : (2 : Int) ^ (min ((s : Int)).toNat IntKind.i64.bits) = 2 ^ s := by
  have : min ((s : Int)).toNat IntKind.i64.bits = s := by rw [Int.toNat_natCast, show IntKind.i64.bits = 64 from rfl]; omega
  rw [this]
 refine go Tryz.func177 rfl rfl ?_
 repeat refine vs ?_
 conv => whnf
 refine MakeK.mk (l.length + 1) (by omega) (by omega) (by omega) true ?_
 repeat refine vs ?_
 conv => whnf
 refine EVs.loopU (fun q : Nat × List Int => q.1 ≤ l.length ∧ Lm.UpIn l q.2 (2 ^ s) q.1) (fun q => l.length - q.1)
  (fun | (i, o) => [(15, .v false [.p (.int .i64 (i : Int))]), (5, .v false [.own (12, 0) 3 (.ints o)]), (12, .any)]) (0, List.replicate (l.length + 1) 0) ⟨by simp, Lm.UpIn.start hK⟩ Wk.fg ?_
 rintro ⟨i, o⟩ ⟨hi, hin⟩
 dsimp only at hi hin
 have hlo := hin.len
 refine go1 ?_
 repeat refine vs ?_
 conv => whnf
 by_cases c1 : (i : Int) < l.length
 ·have hlt : i < l.length := by omega
  obtain ⟨s1, s2, s3, s4, s5, s6, snext⟩ := hin.step hl hlt hk hK hk0 (by omega) (by omega)
  have g0 := List.getElem?_eq_getElem hlt
  have g1 := List.getElem?_eq_getElem (show i < o.length by omega)
  have hor : Go.bits .or .i64 o[i] ((l[i] * 2 ^ s) % 65536) = o[i] + (l[i] * 2 ^ s) % 65536 := or_add s1 s2 (Int.emod_nonneg _ (by omega)) s5 (by omega)
  obtain ⟨t1, t2⟩ := tdm s3
  repeat refine vs ?_
  conv => whnf
  refine Wr.mk (l[i] * 2 ^ s) (by rw [hexp]; exact wrap64 (by omega) (by omega)) ?_
  repeat refine vs ?_
  conv => whnf
  refine Eqz.mk _ t1 ?_
  repeat refine vs ?_
  conv => whnf
  refine Eqz.mk _ hor ?_
  repeat refine vs ?_
  conv => whnf
  first | refine Idx.mk (i) (by first | rfl | omega) (by omega) ?_ | skip
  repeat refine vs ?_
  conv => whnf
  first | refine Idx.mk ((i + 1)) (by first | rfl | omega) (by omega) ?_ | skip
  repeat refine vs ?_
  conv => whnf
  refine ⟨(i + 1, (o.set i (o[i] + (l[i] * 2 ^ s) % 65536)).set (i + 1) ((l[i] * 2 ^ s).tdiv 65536)), by simp only; omega, ⟨by simp only; omega, by simp only; rw [t2]; exact snext⟩, ?_⟩
  exact Wk.fg
 ·have hi2 : i = l.length := by omega
  subst hi2
  have hv := hin.val
  rw [List.take_length] at hv
  have := fin o hin.dig hin.len hv
  subst this
  repeat refine vs ?_
  conv => whnf
  first | rfl | exact ⟨rfl, rfl⟩ | exact ⟨by simp [toRes], rfl⟩

theorem l1Down_den (l : List Int) (s : Nat) (hl : Lm.Dig l) (hs : s ≤ 15) (hln : l.length ≤ 500000000000) : D 181 [lP l, iP (s : Int)] true (.one (lP (Lm.lim (Lm.val l / 2 ^ s).toNat))) := by
 obtain ⟨k, hk, hK, hk0, hK2, _⟩ := Lm.two_split (s := s) (by omega)
 have hexp : (2 : Int) ^ (min ((s : Int)).toNat IntKind.i64.bits) = 2 ^ s := by
  have : min ((s : Int)).toNat IntKind.i64.bits = s := by rw [Int.toNat_natCast, show IntKind.i64.bits = 64 from rfl]; omega
  rw [this]
 refine go Tryz.func181 rfl rfl ?_
 repeat refine vs ?_
 conv => whnf
 refine MakeK.mk l.length (by omega) (by omega) (by omega) true ?_
 repeat refine vs ?_
 conv => whnf
 refine EVs.loopU (fun q : Nat × List Int => q.1 ≤ l.length ∧ Lm.Dig q.2 ∧ q.2.length = l.length ∧ Lm.val l / 2 ^ s = Lm.val (q.2.take q.1) + Lm.pw q.1 * (Lm.val (l.drop q.1) / 2 ^ s)) (fun q => l.length - q.1)
  (fun | (i, o) => [(12, .v false [.p (.int .i64 (i : Int))]), (5, .v false [.own (9, 0) 3 (.ints o)]), (9, .any)]) (0, List.replicate l.length 0) ⟨by simp, Lm.Dig.replicate _, by simp, by simp [Lm.val, Lm.pw]⟩ Wk.fg ?_
 rintro ⟨i, o⟩ ⟨hi, hd, hol, hv⟩
 dsimp only at hi hd hol hv
 refine go1 ?_
 repeat refine vs ?_
 conv => whnf
 by_cases c1 : (i : Int) < l.length
 ·have hlt : i < l.length := by omega
  obtain ⟨e1, e2, e3⟩ := Lm.down_digit hl hk hK hlt
  have g0 := List.getElem?_eq_getElem hlt
  have hx := hl.get hlt
  have hy := hl.getD (i + 1)
  have dB := l1Limb_den l (i + 1 : Nat) (by omega) (by omega)
  rw [Int.toNat_natCast] at dB
  have hor : Go.bits .or .i64 l[i] (l.getD (i + 1) 0 * 65536) = l[i] + l.getD (i + 1) 0 * 65536 := or_add (s := 16) hx.1 (by simpa using hx.2) (by omega) ⟨l.getD (i + 1) 0, hy.1, by omega⟩ (by omega)
  have hfd : (l[i] + l.getD (i + 1) 0 * 65536).fdiv (2 ^ (min ((s : Int)).toNat IntKind.i64.bits)) = (l[i] + l.getD (i + 1) 0 * 65536) / 2 ^ s := by rw [hexp, Int.fdiv_eq_ediv_of_nonneg _ (by omega)]
  have hq0 : 0 ≤ (l[i] + l.getD (i + 1) 0 * 65536) / 2 ^ s := Int.ediv_nonneg (by omega) (by omega)
  obtain ⟨t1, t2⟩ := tdm hq0
  repeat refine vs ?_
  conv => whnf
  refine CallS.mk _ rfl true true _ (dB) rfl ?_
  repeat refine vs ?_
  conv => whnf
  refine Wr.mk (l.getD (i + 1) 0 * 65536) (by rw [show (2 : Int) ^ (min (Int.toNat 16) IntKind.i64.bits) = 65536 from rfl]; exact wrap64 (by omega) (by omega)) ?_
  repeat refine vs ?_
  conv => whnf
  refine Eqz.mk _ hor ?_
  repeat refine vs ?_
  conv => whnf
  refine Eqz.mk _ hfd ?_
  repeat refine vs ?_
  conv => whnf
  refine Eqz.mk _ t1 ?_
  repeat refine vs ?_
  conv => whnf
  first | refine Idx.mk (i) (by first | rfl | omega) (by omega) ?_ | skip
  repeat refine vs ?_
  conv => whnf
  refine ⟨(i + 1, o.set i ((l[i] + l.getD (i + 1) 0 * 65536) / 2 ^ s % 65536)), by simp only; omega, ⟨by simp only; omega, hd.set e2 e3, by simpa using hol, ?_⟩, ?_⟩
  ·simp only
   rw [hv, e1, Lm.val_take_succ, List.take_set_of_le (Nat.le_refl _), show (o.set i ((l[i] + l.getD (i + 1) 0 * 65536) / 2 ^ s % 65536)).getD i 0 = (l[i] + l.getD (i + 1) 0 * 65536) / 2 ^ s % 65536 by simp [List.getD, show i < o.length by omega], Lm.pw_succ]
   grind
  ·exact Wk.fg
 ·have hi2 : i = l.length := by omega
  subst hi2
  rw [List.take_of_length_le (by omega), List.drop_length] at hv
  simp only [Lm.val, Int.zero_ediv, Int.mul_zero, Int.add_zero] at hv
  have dC := l1Cut_den o (by omega)
  rw [Lm.cut_eq hd, ← hv] at dC
  repeat refine vs ?_
  conv => whnf
  refine CallS.mk _ rfl true true _ (dC) rfl ?_
  repeat refine vs ?_
  conv => whnf
  first | rfl | exact ⟨rfl, rfl⟩ | exact ⟨by simp [toRes], rfl⟩

theorem one_lim {x : Int} (h0 : 0 ≤ x) (h1 : x < 65536) : Lm.cut [x] = Lm.lim x.toNat := by
 rw [Lm.cut_eq (Lm.Dig.cons h0 h1 Lm.Dig.nil), Lm.val_single]
theorem tdmb {n b : Int} (h : 0 ≤ n) : n.tmod b = n % b ∧ n.tdiv b = n / b := ⟨Int.tmod_eq_emod_of_nonneg h, Int.tdiv_eq_ediv_of_nonneg h⟩

theorem l1Short_den (a : List Int) (b : Int) (ha : Lm.Dig a) (hb : 0 < b) (hb2 : b ≤ 65536) (hla : a.length ≤ 500000000000) :
  D 176 [lP a, iP b] true (.tup [lP (Lm.lim (Lm.val a / b).toNat), lP (Lm.lim (Lm.val a % b).toNat)]) := by
 refine go Tryz.func176 rfl rfl ?_
 repeat refine vs ?_
 conv => whnf
 refine MakeK.mk a.length (by omega) (by omega) (by omega) true ?_
 repeat refine vs ?_
 conv => whnf
 refine EVs.loopU (fun q : Nat × Int × Int × List Int => q.1 ≤ a.length ∧ q.2.1 = (q.1 : Int) - 1 ∧ Lm.ShortIn a q.2.2.2 b q.1 q.2.2.1) (fun q => q.1)
  (fun | (k, i, r, o) => [(8, .v false [.p (.int .i64 i)]), (7, .v false [.p (.int .i64 r)]), (6, .v false [.own (12, 0) 3 (.ints o)]), (12, .any)]) (a.length, (a.length : Int) - 1, 0, List.replicate a.length 0) ⟨by simp, by simp, Lm.ShortIn.start hb⟩ Wk.fg ?_
 rintro ⟨k, i, r, o⟩ ⟨hk, hi, hin⟩
 dsimp only at hk hi hin
 have hol := hin.len
 refine go1 ?_
 repeat refine vs ?_
 conv => whnf
 by_cases c1 : i ≥ 0
 ·obtain ⟨k, rfl⟩ : ∃ k', k = k' + 1 := ⟨k - 1, by omega⟩
  have hik : i = (k : Int) := by omega
  subst hik
  have hlt : k < a.length := by omega
  obtain ⟨s1, s2, s3, s4, snext⟩ := hin.step ha hb hb2 hlt rfl
  have r0 := hin.r0
  have r1 := hin.r1
  have hx := ha.get hlt
  have g0 := List.getElem?_eq_getElem hlt
  obtain ⟨t1, t2⟩ := tdmb (b := b) s1
  have hb0 : b ≠ 0 := by omega
  repeat refine vs ?_
  conv => whnf
  refine Eqz.mk _ t1 ?_
  repeat refine vs ?_
  conv => whnf
  refine ⟨(k, (k : Int) - 1, (r * 65536 + a[k]) % b, o.set k ((r * 65536 + a[k]).tdiv b)), by simp only; omega, ⟨by simp only; omega, by simp only, by simp only; rw [t2]; exact snext⟩, ?_⟩
  exact Wk.fg
 ·have hk0 : k = 0 := by omega
  subst hk0
  obtain ⟨e1, e2⟩ := hin.done hb
  have r0 := hin.r0
  have r1 := hin.r1
  have dC := l1Cut_den o (by omega)
  rw [Lm.cut_eq hin.dig, e1] at dC
  have dR := l1Cut_den [r] (by simp)
  rw [one_lim r0 (by omega), e2] at dR
  rw [← e2] at dR
  repeat refine vs ?_
  conv => whnf
  refine CallS.mk _ rfl true true _ (dC) rfl ?_
  repeat refine vs ?_
  conv => whnf
  refine NewK.mk false ?_
  repeat refine vs ?_
  conv => whnf
  refine CallS.mk _ rfl true true _ (dR) rfl ?_
  repeat refine vs ?_
  conv => whnf
  exact ⟨by simp [toRes, e2], rfl⟩

theorem divSmall_den (a : List Int) (b : Int) (ha : Lm.Dig a) (hb : 0 < b) (hb2 : b ≤ 65536) (hla : a.length ≤ 500000000000) :
  D 197 [lP a, iP b] false (.tup [lP (Lm.lim (Lm.val a / b).toNat), iP (Lm.val a % b)]) := by
 refine go Tryz.func197 rfl rfl ?_
 repeat refine vs ?_
 conv => whnf
 refine MakeK.mk a.length (by omega) (by omega) (by omega) true ?_
 repeat refine vs ?_
 conv => whnf
 refine EVs.un (11, 0) ?_
 refine EVs.loopU (fun q : Nat × Int × Int × List Int => q.1 ≤ a.length ∧ q.2.1 = (q.1 : Int) - 1 ∧ Lm.ShortIn a q.2.2.2 b q.1 q.2.2.1) (fun q => q.1)
  (fun | (k, i, r, o) => [(8, .v false [.p (.int .i64 i)]), (7, .v false [.p (.int .i64 r)]), (6, .v false [.own (11, 0) 3 (.ints o)]), (11, .any)]) (a.length, (a.length : Int) - 1, 0, List.replicate a.length 0) ⟨by simp, by simp, Lm.ShortIn.start hb⟩ Wk.fg ?_
 rintro ⟨k, i, r, o⟩ ⟨hk, hi, hin⟩
 dsimp only at hk hi hin
 have hol := hin.len
 refine go1 ?_
 repeat refine vs ?_
 conv => whnf
 by_cases c1 : i ≥ 0
 ·obtain ⟨k, rfl⟩ : ∃ k', k = k' + 1 := ⟨k - 1, by omega⟩
  have hik : i = (k : Int) := by omega
  subst hik
  have hlt : k < a.length := by omega
  obtain ⟨s1, s2, s3, s4, snext⟩ := hin.step ha hb hb2 hlt rfl
  have r0 := hin.r0
  have r1 := hin.r1
  have hx := ha.get hlt
  have g0 := List.getElem?_eq_getElem hlt
  obtain ⟨t1, t2⟩ := tdmb (b := b) s1
  have hb0 : b ≠ 0 := by omega
  repeat refine vs ?_
  conv => whnf
  refine Eqz.mk _ t1 ?_
  repeat refine vs ?_
  conv => whnf
  refine ⟨(k, (k : Int) - 1, (r * 65536 + a[k]) % b, o.set k ((r * 65536 + a[k]).tdiv b)), by simp only; omega, ⟨by simp only; omega, by simp only, by simp only; rw [t2]; exact snext⟩, ?_⟩
  exact Wk.fg
 ·have hk0 : k = 0 := by omega
  subst hk0
  obtain ⟨e1, e2⟩ := hin.done hb
  have dC := cut_den o (by omega)
  rw [Lm.cut_eq hin.dig, e1] at dC
  repeat refine vs ?_
  conv => whnf
  refine CallS.mk _ rfl false false _ (dC) rfl ?_
  repeat refine vs ?_
  conv => whnf
  exact by simp [toRes, e2]
end Go.Vx
end
