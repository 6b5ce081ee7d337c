/- B16, B17, B18 -/
import Derived.Test.YtpmgjmkobpeepaaGreatBGe
import Derived.Test.YtpmgjmkobpeepaaGreatLGa
set_option linter.unusedVariables false
set_option linter.unusedSectionVars false
set_option linter.unusedSimpArgs false
section
/- Chapter 1: the reference's step of a long division. -/
namespace Go.Vx
open Go.Proofs
set_option maxRecDepth 100000

set_option maxHeartbeats 4000000 in
theorem l1Guess_den (u v : List Int) (j : Nat) (hu : Lm.Dig u) (hv : Lm.Dig v) (hn : 2 ≤ v.length) (hl : j + v.length < u.length) (hlu : u.length ≤ 600000000000) (h1 : 1 ≤ v[v.length - 1]) (hW : Lm.val (u.drop j) < 65536 * Lm.val v) :
  ∃ q, Lm.GuessOk (Lm.val v) (Lm.val (u.drop j)) q ∧ D 178 [lP u, lP v, iP (j : Int)] true (.one (iP q)) := by
 have hwin : Lm.val (u.drop j) < Lm.pw (v.length + 1) := by
  have := Lm.val_lt hv
  rw [Lm.pw_succ]
  omega
 have lead := Lm.Lead.of hu hv hn hl h1 hwin
 have k1 := hv.get (show v.length - 1 < v.length by omega)
 have k2 := hv.get (show v.length - 2 < v.length by omega)
 have k3 := hu.get (show j + v.length - 2 < u.length by omega)
 have k4 := hu.get (show j + v.length - 1 < u.length by omega)
 have k5 := hu.get hl
 have g1 := List.getElem?_eq_getElem (show v.length - 1 < v.length by omega)
 have g2 := List.getElem?_eq_getElem (show v.length - 2 < v.length by omega)
 have g3 := List.getElem?_eq_getElem (show j + v.length - 2 < u.length by omega)
 have g4 := List.getElem?_eq_getElem (show j + v.length - 1 < u.length by omega)
 have g5 := List.getElem?_eq_getElem hl
 generalize v[v.length - 1] = v1 at *
 generalize v[v.length - 2] = v2 at *
 generalize u[j + v.length - 2] = u2 at *
 generalize u[j + v.length - 1] = u1 at *
 generalize u[j + v.length] = u0 at *
 have htop : 0 ≤ u0 * 65536 + u1 ∧ u0 * 65536 + u1 ≤ 4294967295 := by omega
 obtain ⟨t1, t2⟩ := tdmb (b := v1) htop.1
 have hq0 : 0 ≤ (u0 * 65536 + u1) / v1 := Int.ediv_nonneg htop.1 (by omega)
 have hst := Lm.GuessIn.start lead
 refine ⟨Lm.gS v1 v2 u2 ((u0 * 65536 + u1) / v1).toNat ((u0 * 65536 + u1) / v1) ((u0 * 65536 + u1) % v1), Lm.gS_ok lead hW _ _ _ hst (by omega), ?_⟩
 have hv10 : v1 ≠ 0 := by omega
 have hqb : (u0 * 65536 + u1) / v1 ≤ 4294967295 := by
  have := Int.ediv_le_self v1 htop.1
  omega
 have hrb := Int.emod_nonneg (u0 * 65536 + u1) hv10
 have hrb2 := Int.emod_lt_of_pos (u0 * 65536 + u1) (show 0 < v1 by omega)
 refine go Tryz.func178 rfl rfl ?_
 repeat refine vs ?_
 conv => whnf
 first | refine Idx.mk ((j + v.length)) (by first | rfl | omega) (by omega) ?_ | skip
 repeat refine vs ?_
 conv => whnf
 first | refine Idx.mk ((j + v.length - 1)) (by first | rfl | omega) (by omega) ?_ | skip
 repeat refine vs ?_
 conv => whnf
 first | refine Idx.mk ((v.length - 1)) (by first | rfl | omega) (by omega) ?_ | skip
 repeat refine vs ?_
 conv => whnf
 first | refine Idx.mk ((v.length - 1)) (by first | rfl | omega) (by omega) ?_ | skip
 repeat refine vs ?_
 conv => whnf
 refine Eqz.mk _ t1 ?_
 repeat refine vs ?_
 conv => whnf
 refine EVs.loopU (fun s : Nat × Int × Int => Lm.GuessIn (Lm.val v) (Lm.val (u.drop j)) v1 (u0 * 65536 + u1) s.2.1 s.2.2 ∧ s.2.1 ≤ s.1 ∧ s.2.1 ≤ 4294967295 ∧ s.2.2 ≤ 4294967295 ∧
   Lm.gS v1 v2 u2 s.1 s.2.1 s.2.2 = Lm.gS v1 v2 u2 ((u0 * 65536 + u1) / v1).toNat ((u0 * 65536 + u1) / v1) ((u0 * 65536 + u1) % v1)) (fun s => s.1)
  (fun | (f, q, r) => [(9, .v false [.p (.int .i64 q)]), (10, .v false [.p (.int .i64 r)])]) (((u0 * 65536 + u1) / v1).toNat, (u0 * 65536 + u1).tdiv v1, (u0 * 65536 + u1) % v1) ⟨by simp only; rw [t2]; exact hst, by simp only; omega, by simp only; omega, by simp only; omega, by simp only; rw [t2]⟩ Wk.fg ?_
 rintro ⟨f, q, r⟩ ⟨hin, hf, hqm, hrm, hS⟩
 dsimp only at hin hf hqm hrm hS
 have q0 := hin.q0
 have r0 := hin.r0
 have m0 : 0 ≤ q * v2 := Int.mul_nonneg q0 k2.1
 have m1 : q * v2 ≤ 4294967295 * 65535 := Int.mul_le_mul hqm (by omega) k2.1 (by omega)
 have go : r < 65536 ∧ (q ≥ 65536 ∨ q * v2 > r * 65536 + u2) → ∃ f', f = f' + 1 ∧ Lm.GuessIn (Lm.val v) (Lm.val (u.drop j)) v1 (u0 * 65536 + u1) (q - 1) (r + v1) ∧ 0 < q ∧ Lm.gS v1 v2 u2 f' (q - 1) (r + v1) = Lm.gS v1 v2 u2 f q r := by
  intro hc
  obtain ⟨n1, n2⟩ := hin.next lead hW (by omega)
  refine ⟨f - 1, by omega, n2, n1, ?_⟩
  obtain ⟨f', rfl⟩ : ∃ f', f = f' + 1 := ⟨f - 1, by omega⟩
  conv => rhs; unfold Lm.gS
  rw [if_pos hc]
  rfl
 refine go1 ?_
 repeat refine vs ?_
 conv => whnf
 by_cases c1 : r < 65536
 ·by_cases c2 : q ≥ 65536
  ·obtain ⟨f', hf', n2, n1, n3⟩ := go ⟨c1, .inl c2⟩
   repeat refine vs ?_
   conv => whnf
   first | refine Idx.mk ((v.length - 1)) (by first | rfl | omega) (by omega) ?_ | skip
   repeat refine vs ?_
   conv => whnf
   refine ⟨(f', q - 1, r + v1), by simp only; omega, ⟨n2, by simp only; omega, by simp only; omega, by simp only; omega, by simp only; rw [n3, hS]⟩, ?_⟩
   exact Wk.fg
  ·repeat refine vs ?_
   conv => whnf
   first | refine Idx.mk ((v.length - 2)) (by first | rfl | omega) (by omega) ?_ | skip
   repeat refine vs ?_
   conv => whnf
   first | refine Idx.mk ((j + v.length - 2)) (by first | rfl | omega) (by omega) ?_ | skip
   repeat refine vs ?_
   conv => whnf
   by_cases c3 : q * v2 > r * 65536 + u2
   ·obtain ⟨f', hf', n2, n1, n3⟩ := go ⟨c1, .inr c3⟩
    repeat refine vs ?_
    conv => whnf
    first | refine Idx.mk ((v.length - 1)) (by first | rfl | omega) (by omega) ?_ | skip
    repeat refine vs ?_
    conv => whnf
    refine ⟨(f', q - 1, r + v1), by simp only; omega, ⟨n2, by simp only; omega, by simp only; omega, by simp only; omega, by simp only; rw [n3, hS]⟩, ?_⟩
    exact Wk.fg
   ·have hs := Lm.gS_stop (v1 := v1) (f := f) (show ¬ (r < 65536 ∧ (q ≥ 65536 ∨ q * v2 > r * 65536 + u2)) by omega)
    rw [hs] at hS
    repeat refine vs ?_
    conv => whnf
    exact ⟨by simp [toRes, hS], rfl⟩
 ·have hs := Lm.gS_stop (v1 := v1) (f := f) (show ¬ (r < 65536 ∧ (q ≥ 65536 ∨ q * v2 > r * 65536 + u2)) by omega)
  rw [hs] at hS
  repeat refine vs ?_
  conv => whnf
  exact ⟨by simp [toRes, hS], rfl⟩
end Go.Vx
end
section
/- Chapter 1: the reference's step of a long division: what writes its argument. -/
namespace Go.Vx
open Go.Proofs
set_option maxRecDepth 100000

theorem getD_at {l : List Int} {i : Nat} (h : i < l.length) : l[i]? = some (l.getD i 0) := by simp [List.getD, h]
theorem less_len {u v : List Int} {j : Nat} {q : Int} : ∀ k, (Lm.lessF u v j q k).1.length = u.length
 | 0 => rfl
 | k + 1 => by unfold Lm.lessF; split <;> simp [less_len k]
theorem back_len {u v : List Int} {j : Nat} : ∀ k, (Lm.backF u v j k).1.length = u.length
 | 0 => rfl
 | k + 1 => by unfold Lm.backF; simp [back_len k]

set_option maxHeartbeats 4000000 in
theorem l1Less_m (u v : List Int) (j : Nat) (q : Int) (hu : Lm.Dig u) (hv : Lm.Dig v) (hq : 0 ≤ q ∧ q ≤ 65536) (hl : j + v.length < u.length) (hlu : u.length ≤ 600000000000) :
  Dm 179 [lP u, lP v, iP (j : Int), iP q] [lP (Lm.lessF u v j q (v.length + 1)).1, lP v, iP (j : Int), iP q] (.one (rI (Lm.lessF u v j q (v.length + 1)).2)) := by
 refine goM Tryz.func179 rfl rfl ?_
 repeat refine vs ?_
 conv => whnf
 refine EVs.loopU (fun s : Nat × Int × List Int => s.1 ≤ v.length + 1 ∧ s.2.2 = (Lm.lessF u v j q s.1).1 ∧ s.2.1 = (Lm.lessF u v j q s.1).2) (fun s => v.length + 1 - s.1)
  (fun | (k, c, l) => [(10, .v false [.p (.int .i64 (k : Int))]), (9, .v false [.p (.int .i64 c)]), (0, .v false [.own (2000000, 0) 3 (.ints l)])]) (0, 0, u) ⟨by simp, rfl, rfl⟩ Wk.fg ?_
 rintro ⟨k, c, l⟩ ⟨hk, hl1, hc1⟩
 dsimp only at hk hl1 hc1
 have hll := less_len (u := u) (v := v) (j := j) (q := q) k
 rw [← hl1] at hll
 refine go1 ?_
 repeat refine vs ?_
 conv => whnf
 by_cases c1 : (k : Int) ≤ v.length
 ·have hs := Lm.lessF_ok hu hv hq k (j := j) (by omega)
  have hlt : j + k < l.length := by omega
  obtain ⟨p0, p1, pneg, ppos⟩ := hs.step hq hv (by rw [← hl1]; exact hlt) rfl
  have l0 := hs.l0
  have l9 := hs.l1
  have hd := (hl1 ▸ hs.dig : Lm.Dig l).getD (j + k)
  have dB := l1Limb_den v k (by omega) (by omega)
  rw [Int.toNat_natCast] at dB
  have g1 := getD_at hlt
  rw [← hc1] at l0 l9
  have hF : Lm.lessF u v j q (k + 1) = (if l.getD (j + k) 0 - q * v.getD k 0 - c < 0 then (l.set (j + k) (l.getD (j + k) 0 - q * v.getD k 0 - c + (-(l.getD (j + k) 0 - q * v.getD k 0 - c) + 65535) / 65536 * 65536), (-(l.getD (j + k) 0 - q * v.getD k 0 - c) + 65535) / 65536) else (l.set (j + k) (l.getD (j + k) 0 - q * v.getD k 0 - c), 0)) := by
   rw [hl1, hc1]
   rfl
  repeat refine vs ?_
  conv => whnf
  first | refine Idx.mk ((j + k)) (by first | rfl | omega) (by omega) ?_ | skip
  repeat refine vs ?_
  conv => whnf
  refine CallS.mk _ rfl true true _ (dB) rfl ?_
  repeat refine vs ?_
  conv => whnf
  by_cases c2 : l.getD (j + k) 0 - q * v.getD k 0 - c < 0
  ·rw [if_pos c2] at hF
   have td : (-(l.getD (j + k) 0 - q * v.getD k 0 - c) + 65536 - 1).tdiv 65536 = (-(l.getD (j + k) 0 - q * v.getD k 0 - c) + 65535) / 65536 := by
    rw [(tdm (by omega)).2]
    congr 1
    omega
   repeat refine vs ?_
   conv => whnf
   rw [td]
   repeat refine vs ?_
   conv => whnf
   first | refine Idx.mk ((j + k)) (by first | rfl | omega) (by omega) ?_ | skip
   repeat refine vs ?_
   conv => whnf
   refine ⟨(k + 1, (-(l.getD (j + k) 0 - q * v.getD k 0 - c) + 65535) / 65536, l.set (j + k) (l.getD (j + k) 0 - q * v.getD k 0 - c + (-(l.getD (j + k) 0 - q * v.getD k 0 - c) + 65535) / 65536 * 65536)), by simp only; omega, ⟨by simp only; omega, by simp only; rw [hF], by simp only; rw [hF]⟩, ?_⟩
   exact Wk.fg
  ·rw [if_neg c2] at hF
   repeat refine vs ?_
   conv => whnf
   first | refine Idx.mk ((j + k)) (by first | rfl | omega) (by omega) ?_ | skip
   repeat refine vs ?_
   conv => whnf
   refine ⟨(k + 1, 0, l.set (j + k) (l.getD (j + k) 0 - q * v.getD k 0 - c)), by simp only; omega, ⟨by simp only; omega, by simp only; rw [hF], by simp only; rw [hF]⟩, ?_⟩
   exact Wk.fg
 ·have hk1 : k = v.length + 1 := by omega
  subst hk1
  subst hl1
  subst hc1
  repeat refine vs ?_
  conv => whnf
  repeat' (first | exact True.intro | rfl | exact ramp_len | exact ⟨rfl, rfl⟩ | (simp only [List.length_set]; done) | omega | refine And.intro ?_ ?_ | refine Exists.intro _ (And.intro rfl ?_))

set_option maxHeartbeats 4000000 in
theorem l1Back_m (u v : List Int) (j : Nat) (hu : Lm.Dig u) (hv : Lm.Dig v) (hl : j + v.length < u.length) (hlu : u.length ≤ 600000000000) :
  Dm 180 [lP u, lP v, iP (j : Int)] [lP (Lm.backF u v j (v.length + 1)).1, lP v, iP (j : Int)] (.tup []) := by
 refine goM Tryz.func180 rfl rfl ?_
 repeat refine vs ?_
 conv => whnf
 refine EVs.loopU (fun s : Nat × Int × List Int => s.1 ≤ v.length + 1 ∧ s.2.2 = (Lm.backF u v j s.1).1 ∧ s.2.1 = (Lm.backF u v j s.1).2) (fun s => v.length + 1 - s.1)
  (fun | (k, c, l) => [(7, .v false [.p (.int .i64 (k : Int))]), (6, .v false [.p (.int .i64 c)]), (0, .v false [.own (2000000, 0) 3 (.ints l)])]) (0, 0, u) ⟨by simp, rfl, rfl⟩ Wk.fg ?_
 rintro ⟨k, c, l⟩ ⟨hk, hl1, hc1⟩
 dsimp only at hk hl1 hc1
 have hll := back_len (u := u) (v := v) (j := j) k
 rw [← hl1] at hll
 refine go1 ?_
 repeat refine vs ?_
 conv => whnf
 by_cases c1 : (k : Int) ≤ v.length
 ·obtain ⟨hs, _⟩ := Lm.backF_ok hu hv k (j := j) (by omega)
  have hlt : j + k < l.length := by omega
  have l0 := hs.c0
  have l9 := hs.c1
  have hd := (hl1 ▸ hs.dig : Lm.Dig l).getD (j + k)
  have hy := hv.getD k
  have dB := l1Limb_den v k (by omega) (by omega)
  rw [Int.toNat_natCast] at dB
  have g1 := getD_at hlt
  rw [← hc1] at l0 l9
  have hF : Lm.backF u v j (k + 1) = (l.set (j + k) ((l.getD (j + k) 0 + v.getD k 0 + c) % 65536), (l.getD (j + k) 0 + v.getD k 0 + c) / 65536) := by
   rw [hl1, hc1]
   rfl
  obtain ⟨t1, t2⟩ := tdm (show 0 ≤ l.getD (j + k) 0 + v.getD k 0 + c by omega)
  repeat refine vs ?_
  conv => whnf
  first | refine Idx.mk ((j + k)) (by first | rfl | omega) (by omega) ?_ | skip
  repeat refine vs ?_
  conv => whnf
  refine CallS.mk _ rfl true true _ (dB) rfl ?_
  repeat refine vs ?_
  conv => whnf
  refine Eqz.mk _ t1 ?_
  repeat refine vs ?_
  conv => whnf
  first | refine Idx.mk ((j + k)) (by first | rfl | omega) (by omega) ?_ | skip
  repeat refine vs ?_
  conv => whnf
  refine ⟨(k + 1, (l.getD (j + k) 0 + v.getD k 0 + c).tdiv 65536, l.set (j + k) ((l.getD (j + k) 0 + v.getD k 0 + c) % 65536)), by simp only; omega, ⟨by simp only; omega, by simp only; rw [hF], by simp only; rw [hF, t2]⟩, ?_⟩
  exact Wk.fg
 ·have hk1 : k = v.length + 1 := by omega
  subst hk1
  subst hl1
  repeat refine vs ?_
  conv => whnf
  repeat' (first | exact True.intro | rfl | exact ramp_len | exact ⟨rfl, rfl⟩ | (simp only [List.length_set]; done) | omega | refine And.intro ?_ ?_ | refine Exists.intro _ (And.intro rfl ?_))
end Go.Vx
end
section
/- Chapter 1: the reference's long division. -/
namespace Go.Vx
open Go.Proofs
set_option maxRecDepth 100000

theorem lim_top {n : Nat} (h : Lm.lim n ≠ []) (hl : (Lm.lim n).length - 1 < (Lm.lim n).length) : 1 ≤ (Lm.lim n)[(Lm.lim n).length - 1] := by
 have h1 := (Lm.can_last (Lm.lim_dig n) (List.length_pos_iff.2 h)).1 (Lm.lim_can n)
 have h2 := (Lm.lim_dig n).get hl
 omega
/-- A number shifted so that its top limb stays one has as many limbs. -/
theorem lim_up_len {n s : Nat} (h : Lm.lim n ≠ []) (hs : s ≤ 15) (hl : (Lm.lim n).length - 1 < (Lm.lim n).length) (ht : (Lm.lim n)[(Lm.lim n).length - 1] * 2 ^ s < 65536) : (Lm.lim (n * 2 ^ s)).length = (Lm.lim n).length := by
 have hn : n ≠ 0 := fun e => h (Lm.lim_eq_nil.2 e)
 have hp : 0 < 2 ^ s := Nat.pow_pos (by omega)
 refine Nat.le_antisymm ?_ (lim_le (Nat.le_mul_of_pos_right n hp))
 rw [Lm.lim_length]
 obtain ⟨k, hk, hK, hk0, hK2, _⟩ := Lm.two_split (s := s) (by omega)
 have e := Lm.val_split (l := Lm.lim n) (i := (Lm.lim n).length - 1) hl
 rw [List.drop_of_length_le (by omega), Lm.val_lim] at e
 simp only [Lm.val, Int.mul_zero, Int.add_zero] at e
 have h1 := Lm.val_lt ((Lm.lim_dig n).take ((Lm.lim n).length - 1))
 rw [List.length_take, Nat.min_eq_left (by omega)] at h1
 have e2 : Lm.pw (Lm.lim n).length = 65536 * Lm.pw ((Lm.lim n).length - 1) := by
  rw [← Lm.pw_succ]
  congr 1
  omega
 rw [e2, Int.natCast_mul, e]
 have hcast : ((2 ^ s : Nat) : Int) = 2 ^ s := by simp
 rw [hcast]
 have hP := Lm.pw_pos ((Lm.lim n).length - 1)
 generalize (Lm.lim n)[(Lm.lim n).length - 1] = t at *
 generalize Lm.val ((Lm.lim n).take ((Lm.lim n).length - 1)) = x at *
 generalize Lm.pw ((Lm.lim n).length - 1) = P at *
 -- (t + 1) * 2^s <= 65536
 have h2 : (t + 1) * 2 ^ s ≤ 65536 := by
  rw [← hk, Int.mul_comm (2 ^ s) k]
  refine Int.mul_le_mul_of_nonneg_right ?_ (by omega)
  rw [← hk, Int.mul_comm (2 ^ s) k] at ht
  have := Int.lt_of_mul_lt_mul_right ht (by omega)
  omega
 have h3 : (x + P * t) * 2 ^ s < (P * (t + 1)) * 2 ^ s := Int.mul_lt_mul_of_pos_right (by grind) hK
 have h4 : P * ((t + 1) * 2 ^ s) ≤ P * 65536 := Int.mul_le_mul_of_nonneg_left h2 (by omega)
 grind

set_option maxHeartbeats 8000000 in
theorem l1DivLimbs_den (m n : Nat) (hn : n ≠ 0) (hlm : (Lm.lim m).length ≤ 400000000000) (hln : (Lm.lim n).length ≤ 400000000000) :
  D 149 [lP (Lm.lim m), lP (Lm.lim n)] true (.tup [lP (Lm.lim (m / n)), lP (Lm.lim (m % n))]) := by
 have hbn : Lm.lim n ≠ [] := fun e => hn (Lm.lim_eq_nil.1 e)
 have hbl := List.length_pos_iff.2 hbn
 have dC0 := l1Cut_den (Lm.lim m) (by omega)
 rw [Lm.cut_lim] at dC0
 have dCmp := l1Cmp_den _ _ (Lm.lim_can m) (Lm.lim_can n) (by omega) (by omega)
 rw [cmpI_lim] at dCmp
 have hlt : (Lm.lim n).length - 1 < (Lm.lim n).length := by omega
 have htop := lim_top hbn hlt
 have htopl := (Lm.lim_dig n).get hlt
 have g0 := List.getElem?_eq_getElem hlt
 refine go Tryz.func149 rfl rfl ?_
 repeat refine vs ?_
 conv => whnf
 refine CallS.mk _ rfl true true _ (dC0) rfl ?_
 repeat refine vs ?_
 conv => whnf
 refine CallS.mk _ rfl true true _ (dCmp) rfl ?_
 repeat refine vs ?_
 conv => whnf
 by_cases c1 : m < n
 ·have h1 : cmpI (m : Int) n < 0 := by unfold cmpI; rw [if_pos (by omega)]; omega
  rw [Nat.div_eq_of_lt c1, Nat.mod_eq_of_lt c1, Lm.lim_zero]
  repeat refine vs ?_
  conv => whnf
  first | rfl | exact ⟨rfl, rfl⟩ | exact ⟨by simp [toRes], rfl⟩
 ·have h1 : ¬ cmpI (m : Int) n < 0 := by have := cmpI_ge (m := m) (n := n); omega
  have hmn : (Lm.lim n).length ≤ (Lm.lim m).length := lim_le (by omega)
  repeat refine vs ?_
  conv => whnf
  by_cases c2 : ((Lm.lim n).length : Int) = 1
  ·have hb1 : Lm.lim n = [(n : Int)] := by
    have hv := Lm.val_lim n
    match h : Lm.lim n with
    | [] => exact absurd h hbn
    | [x] => rw [h, Lm.val_single] at hv; rw [hv]
    | x :: y :: r => rw [h] at c2; simp at c2; omega
   have hn1 : (n : Int) < 65536 := by
    have := (Lm.lim_dig n) (n : Int) (by rw [hb1]; exact List.mem_cons_self)
    omega
   have dS := l1Short_den (Lm.lim m) n (Lm.lim_dig m) (by omega) (by omega) (by omega)
   rw [Lm.val_lim, ← Int.natCast_ediv, ← Int.natCast_emod, Int.toNat_natCast, Int.toNat_natCast] at dS
   have gb : (Lm.lim n)[0]? = some (n : Int) := by rw [hb1]; rfl
   repeat refine vs ?_
   conv => whnf
   first | refine Idx.mk (0) (by first | rfl | omega) (by omega) ?_ | skip
   repeat refine vs ?_
   conv => whnf
   first | refine LdI.mk (_) (gb) ?_ | skip
   repeat refine vs ?_
   conv => whnf
   refine CallS.mk _ rfl true true _ (dS) rfl ?_
   repeat refine vs ?_
   conv => whnf
   first | rfl | exact ⟨rfl, rfl⟩ | exact ⟨by simp [toRes], rfl⟩
  ·repeat refine vs ?_
   conv => whnf
   refine EVs.loopU (fun s : Nat => s ≤ 15 ∧ (Lm.lim n)[(Lm.lim n).length - 1] * 2 ^ s < 65536) (fun s => 15 - s) (fun s => [(6, .v false [.p (.int .i64 (s : Int))])]) 0 ⟨by omega, by simp; omega⟩ Wk.fg ?_
   rintro s ⟨hs, hts⟩
   obtain ⟨k, hk, hK, hk0, hK2, _⟩ := Lm.two_split (s := s) (by omega)
   have hexp : (2 : Int) ^ (min ((s : Int)).toNat IntKind.i64.bits) = 2 ^ s := by
    have : min ((s : Int)).toNat IntKind.i64.bits = s := by rw [Int.toNat_natCast, show IntKind.i64.bits = 64 from rfl]; omega
    rw [this]
   have ht0 : 0 ≤ (Lm.lim n)[(Lm.lim n).length - 1] * 2 ^ s := Int.mul_nonneg (by omega) (by omega)
   refine go1 ?_
   repeat refine vs ?_
   conv => whnf
   first | refine Idx.mk (((Lm.lim n).length - 1)) (by first | rfl | omega) (by omega) ?_ | skip
   repeat refine vs ?_
   conv => whnf
   refine Wr.mk ((Lm.lim n)[(Lm.lim n).length - 1] * 2 ^ s) (by rw [hexp]; exact wrap64 (by omega) (by omega)) ?_
   repeat refine vs ?_
   conv => whnf
   by_cases c3 : (Lm.lim n)[(Lm.lim n).length - 1] * 2 ^ s < 32768
   ·have hs14 : s < 15 := by
     by_cases h : s < 15
     ·exact h
     ·have : s = 15 := by omega
      subst this
      omega
    repeat refine vs ?_
    conv => whnf
    refine ⟨s + 1, by omega, ⟨by omega, by rw [Int.pow_succ, ← Int.mul_assoc]; omega⟩, ?_⟩
    exact Wk.fg
   ·obtain ⟨u, hu, hul, huv, dU⟩ := l1Up_den (Lm.lim m) s (Lm.lim_dig m) hs (by omega)
    obtain ⟨v, hv, hvl, hvv, dV⟩ := l1Up_den (Lm.lim n) s (Lm.lim_dig n) hs (by omega)
    have hcast : (2 : Int) ^ s = ((2 ^ s : Nat) : Int) := by simp
    have hp : 0 < 2 ^ s := Nat.pow_pos (by omega)
    have dVc := l1Cut_den v (by omega)
    rw [Lm.cut_eq hv, hvv, Lm.val_lim, hcast, ← Int.natCast_mul, Int.toNat_natCast] at dVc
    have hvlen := lim_up_len hbn hs hlt hts
    have hnK : n * 2 ^ s ≠ 0 := Nat.mul_ne_zero hn (by omega)
    have hbn2 : Lm.lim (n * 2 ^ s) ≠ [] := fun e => hnK (Lm.lim_eq_nil.1 e)
    have hvt : 1 ≤ (Lm.lim (n * 2 ^ s))[(Lm.lim (n * 2 ^ s)).length - 1]'(by omega) := lim_top hbn2 (by omega)
    have hdv := Lm.lim_dig (n * 2 ^ s)
    have hV : Lm.val (Lm.lim (n * 2 ^ s)) = 2 ^ s * Lm.val (Lm.lim n) := by rw [Lm.val_lim, Lm.val_lim, hcast, Int.natCast_mul, Int.mul_comm]
    have hU : Lm.val u = 2 ^ s * Lm.val (Lm.lim m) := by rw [huv, Int.mul_comm]
    have hVpos : 0 < Lm.val (Lm.lim (n * 2 ^ s)) := by rw [Lm.val_lim]; omega
    have hst := Lm.DivIn.start (q := List.replicate ((Lm.lim m).length - (Lm.lim n).length + 1) 0) (m := (Lm.lim m).length - (Lm.lim n).length + 1) hu (Lm.lim_dig m) (Lm.lim_can n) hbn hK hU hV (by omega) (by omega) (Lm.Dig.replicate _) (by rw [List.drop_of_length_le (by simp)]; rfl)
    have hfin : ∀ qq uu : List Int, Lm.val qq = Lm.val u / Lm.val (Lm.lim (n * 2 ^ s)) ∧ Lm.val uu = Lm.val u % Lm.val (Lm.lim (n * 2 ^ s)) → Lm.val qq = ((m / n : Nat) : Int) ∧ Lm.val uu = (((m % n) * 2 ^ s : Nat) : Int) := by
     intro qq uu ⟨h1, h2⟩
     rw [h1, h2, hU, Lm.val_lim, Lm.val_lim, hcast, ← Int.natCast_mul, ← Int.natCast_ediv, ← Int.natCast_emod]
     constructor
     ·rw [Nat.mul_comm n, Nat.mul_div_mul_left _ _ hp]
     ·rw [Nat.mul_comm n, Nat.mul_mod_mul_left, Nat.mul_comm]
    have pack : ∃ w : List Int, Lm.Dig w ∧ w.length = (Lm.lim n).length ∧ (∀ h : w.length - 1 < w.length, 1 ≤ w[w.length - 1]) ∧ 0 < Lm.val w ∧
      Lm.DivIn (Lm.val u) (Lm.val w) u.length u (List.replicate ((Lm.lim m).length - (Lm.lim n).length + 1) 0) ((Lm.lim m).length - (Lm.lim n).length + 1) ∧ D 150 [lP v] true (.one (lP w)) ∧
      (∀ qq uu : List Int, Lm.val qq = Lm.val u / Lm.val w ∧ Lm.val uu = Lm.val u % Lm.val w → Lm.val qq = ((m / n : Nat) : Int) ∧ Lm.val uu = (((m % n) * 2 ^ s : Nat) : Int)) :=
     ⟨_, hdv, hvlen, fun _ => hvt, hVpos, hst, dVc, hfin⟩
    clear hdv hvlen hvt hVpos hst dVc hfin hV hU
    obtain ⟨w, hdv, hvlen, hvt, hVpos, hst, dVc, hfin⟩ := pack
    repeat refine vs ?_
    conv => whnf
    refine CallS.mk _ rfl true true _ (dU) rfl ?_
    repeat refine vs ?_
    conv => whnf
    refine CallS.mk _ rfl true true _ (dV) rfl ?_
    repeat refine vs ?_
    conv => whnf
    refine CallS.mk _ rfl true true _ (dVc) rfl ?_
    repeat refine vs ?_
    conv => whnf
    refine MakeK.mk ((Lm.lim m).length - (Lm.lim n).length + 1) (by omega) (by omega) (by omega) true ?_
    repeat refine vs ?_
    conv => whnf
    refine EVs.loopU (fun t : Nat × Int × List Int × List Int => t.1 ≤ (Lm.lim m).length - (Lm.lim n).length + 1 ∧ t.2.1 = (t.1 : Int) - 1 ∧ t.2.2.2.length = (Lm.lim m).length - (Lm.lim n).length + 1 ∧ Lm.DivIn (Lm.val u) (Lm.val w) u.length t.2.2.1 t.2.2.2 t.1) (fun t => t.1)
     (fun | (k, i, x, q) => [(10, .v false [.p (.int .i64 i)]), (7, .v false [.own (43, 0) 3 (.ints x)]), (43, .any), (9, .v false [.own (54, 0) 3 (.ints q)]), (54, .any), (47, .any), (46, .any)]) ((Lm.lim m).length - (Lm.lim n).length + 1, ((Lm.lim m).length : Int) - (Lm.lim n).length, u, List.replicate ((Lm.lim m).length - (Lm.lim n).length + 1) 0) ⟨by simp, by simp only; omega, by simp, hst⟩ Wk.fg ?_
    rintro ⟨k, i, x, q⟩ ⟨hk, hi, hql, hin⟩
    dsimp only at hk hi hql hin
    have hxl := hin.lu
    refine go1 ?_
    repeat refine vs ?_
    conv => whnf
    by_cases c4 : i ≥ 0
    ·obtain ⟨j, rfl⟩ : ∃ j, k = j + 1 := ⟨k - 1, by omega⟩
     have hij : i = (j : Int) := by omega
     subst hij
     have hjl : j + w.length < x.length := by omega
     have hW := hin.win (by omega)
     obtain ⟨d, hg, dG⟩ := l1Guess_den x w j hin.du hdv (by omega) hjl (by omega) (hvt (by omega)) hW
     have dL := l1Less_m x w j d hin.du hdv ⟨hg.q0, hg.q1⟩ hjl (by omega)
     have hsub := Lm.lessF_ok hin.du hdv ⟨hg.q0, hg.q1⟩ (w.length + 1) (j := j) (q := d) (by omega)
     have hL1 := less_len (u := x) (v := w) (j := j) (q := d) (w.length + 1)
     have q0 := hg.q0
     have q1 := hg.q1
     repeat refine vs ?_
     conv => whnf
     refine CallS.mk _ rfl true true _ (dG) rfl ?_
     repeat refine vs ?_
     conv => whnf
     refine MutS.mk' _ rfl _ rfl _ _ (dL) ?_
     repeat refine vs ?_
     conv => whnf
     by_cases c5 : (Lm.lessF x w j d (w.length + 1)).2 > 0
     ·have dK := l1Back_m (Lm.lessF x w j d (w.length + 1)).1 w j hsub.dig hdv (by omega) (by omega)
      obtain ⟨hbk, hbk2⟩ := Lm.backF_ok hsub.dig hdv (w.length + 1) (j := j) (by omega)
      obtain ⟨r1, r2, r3, r4, r5, r6, r7⟩ := Lm.div_back hin.du hdv hjl hW hg hsub c5 hbk hbk2
      have hL2 := back_len (u := (Lm.lessF x w j d (w.length + 1)).1) (v := w) (j := j) (w.length + 1)
      have hnext := hin.step (d := d - 1) (by omega) (by omega) r1 r2 r3 r4 r5 r6 r7
      repeat refine vs ?_
      conv => whnf
      refine MutS.mk' _ rfl _ rfl _ _ (dK) ?_
      repeat refine vs ?_
      conv => whnf
      refine ⟨(j, (j : Int) - 1, (Lm.backF (Lm.lessF x w j d (w.length + 1)).1 w j (w.length + 1)).1, q.set j (d - 1)), by simp only; omega, ⟨by simp only; omega, rfl, by simpa using hql, hnext⟩, ?_⟩
      exact Wk.fg
     ·obtain ⟨r1, r2, r3, r5, r6, r7⟩ := Lm.div_zero hin.du hdv hjl hW hg hsub c5
      have hnext := hin.step (d := d) (by omega) (by omega) r1 r2 r3 q0 r5 r6 r7
      repeat refine vs ?_
      conv => whnf
      refine ⟨(j, (j : Int) - 1, (Lm.lessF x w j d (w.length + 1)).1, q.set j d), by simp only; omega, ⟨by simp only; omega, rfl, by simpa using hql, hnext⟩, ?_⟩
      exact Wk.fg
    ·have hk0 : k = 0 := by omega
     subst hk0
     obtain ⟨f1, f2⟩ := hfin _ _ (hin.done hVpos)
     have d1 := l1Cut_den q (by omega)
     rw [Lm.cut_eq hin.dq, f1, Int.toNat_natCast] at d1
     have d2 := l1Cut_den x (by omega)
     rw [Lm.cut_eq hin.du, f2, Int.toNat_natCast] at d2
     have hxl2 : (Lm.lim ((m % n) * 2 ^ s)).length ≤ 500000000000 := by
      have := Lm.cut_length_le x
      rw [Lm.cut_eq hin.du, f2, Int.toNat_natCast] at this
      omega
     have d3 := l1Down_den (Lm.lim ((m % n) * 2 ^ s)) s (Lm.lim_dig _) hs hxl2
     rw [Lm.val_lim, hcast, ← Int.natCast_ediv, Int.toNat_natCast, Nat.mul_div_cancel _ hp] at d3
     repeat refine vs ?_
     conv => whnf
     refine CallS.mk _ rfl true true _ (d1) rfl ?_
     repeat refine vs ?_
     conv => whnf
     refine CallS.mk _ rfl true true _ (d2) rfl ?_
     repeat refine vs ?_
     conv => whnf
     refine CallS.mk _ rfl true true _ (d3) rfl ?_
     repeat refine vs ?_
     conv => whnf
     first | rfl | exact ⟨rfl, rfl⟩ | exact ⟨by simp [toRes], rfl⟩
end Go.Vx
end
