/- Chapter 3: the interval of a square root. -/
import Derived.Test.YtdgagbjmbddefaaS5
set_option linter.unusedVariables false
set_option linter.unusedSectionVars false
set_option linter.unusedSimpArgs false
namespace Go.Vx
open Go.Proofs
set_option maxRecDepth 100000

theorem le_of_sq {x N : Int} (h0 : 0 ≤ x) (h : x * x ≤ N) : x ≤ N := by
  by_cases c : x = 0
  · subst c; omega
  · have : 1 * x ≤ x * x := Int.mul_le_mul_of_nonneg_right (by omega) h0
    omega
theorem hi_eq {r P : Int} (hP : 0 < P) :
    nN (addN (nN r P) (dN r P) (nN 1 P) (dN 1 P)) (dN r P * dN 1 P) = nN (r + 1) P ∧ dN (addN (nN r P) (dN r P) (nN 1 P) (dN 1 P)) (dN r P * dN 1 P) = dN (r + 1) P := by
  have p1 := dN_pos (x := r) (y := P) (by omega)
  have p2 := dN_pos (x := 1) (y := P) (by omega)
  have e1 := nN_dN r P
  have e2 := nN_dN 1 P
  generalize nN r P = x at *
  generalize dN r P = y at *
  generalize nN 1 P = u at *
  generalize dN 1 P = v at *
  refine nd_eq (Int.mul_ne_zero (by omega) (by omega)) (by omega) ?_
  unfold addN
  grind
section
variable (a b : Int) (n : Nat) (hn : n ≤ 64) (hb : 0 < b) (ha0 : 0 ≤ a) (ha : Lm.ln a ≤ 40) (hbl : Lm.ln b ≤ 40)
variable (g1 : goodR (decide (a < 0)) (Lm.lim a.natAbs) (decide (b < 0)) (Lm.lim b.natAbs) = true)
include hn hb ha0 ha hbl
theorem root_num : flo (nN (nN (a * Lm.pow2 n) (b * 1) * Lm.pow2 n) (dN (a * Lm.pow2 n) (b * 1) * 1)) (dN (nN (a * Lm.pow2 n) (b * 1) * Lm.pow2 n) (dN (a * Lm.pow2 n) (b * 1) * 1)) = flo (nN (a * (Lm.pow2 n * Lm.pow2 n)) b) (dN (a * (Lm.pow2 n * Lm.pow2 n)) b) := by
  have hp := Lm.pow2_pos n
  generalize Lm.pow2 n = P at *
  rw [Int.mul_one, Int.mul_one]
  have d1 := dN_pos (x := a * P) (y := b) (by omega)
  have e1 := nN_dN (a * P) b
  rw [flo_low d1, flo_low hb]
  generalize nN (a * P) b = x at *
  generalize dN (a * P) b = y at *
  exact flo_val d1 hb (by grind)
include g1
theorem rootSpanS_den (r : Int) (hr : Lm.IsR (flo (nN (a * (Lm.pow2 n * Lm.pow2 n)) b) (dN (a * (Lm.pow2 n * Lm.pow2 n)) b)) r) (hi : Int × Int)
    (hhi : hi = if nN (nN r (Lm.pow2 n) * nN r (Lm.pow2 n)) (dN r (Lm.pow2 n) * dN r (Lm.pow2 n)) * b = a * dN (nN r (Lm.pow2 n) * nN r (Lm.pow2 n)) (dN r (Lm.pow2 n) * dN r (Lm.pow2 n)) then (nN r (Lm.pow2 n), dN r (Lm.pow2 n)) else (nN (r + 1) (Lm.pow2 n), dN (r + 1) (Lm.pow2 n)))
    (V : PV) (k : Bool) (hV : D 60 [spanV (nN r (Lm.pow2 n)) (dN r (Lm.pow2 n)) hi.1 hi.2] true (.tup [V, bP k])) (na : Bool) (la : List Int) (pa : Bool) (qa : List Int) (nb : Bool) (lb : List Int) (pb : Bool) (qb : List Int) (hVe : V = spanR na la pa qa nb lb pb qb) :
    D 45 [ratV a b, iP (n : Int)] false (.tup [spanR na la pa qa nb lb pb qb, bP k]) := by
  subst hVe
  have gS := goodRatS_den (decide (a < 0)) (Lm.lim a.natAbs) (decide (b < 0)) (Lm.lim b.natAbs) (Nat.le_trans ha (by decide)) (Nat.le_trans hbl (by decide))
  rw [g1] at gS
  have na0 : ¬ a < 0 := by omega
  have iS := l1In_den (n : Int) 0 64
  rw [decide_eq_true (by omega)] at iS
  have pS := l3Power_den (n : Int) (by omega) (by omega)
  rw [Int.toNat_natCast] at pS
  have hp := Lm.pow2_pos n
  have lp := ln_pow2 n
  generalize Lm.pow2 n = P at *
  have lP : Lm.ln P ≤ 68 := by omega
  have lPP := ln_mul' lP lP
  have laPP := Lm.ln_mul a (P * P) ha lPP
  have m1 := l1Mul_den P P (by omega) (by omega)
  have m2 := l1Mul_den a (P * P) (by omega) (by omega)
  have m3 := l2Make_den (a * (P * P)) b (by omega) (by omega) (by omega)
  have ln1 := ln_nN (a * (P * P)) b
  have ln2 := ln_dN (a * (P * P)) b
  have dp := dN_pos (x := a * (P * P)) (y := b) (by omega)
  have fS := l2Floor_den (nN (a * (P * P)) b) (dN (a * (P * P)) b) (by omega) (by omega) (by omega)
  have lN := ln_flo (nN (a * (P * P)) b) (dN (a * (P * P)) b)
  generalize nN (a * (P * P)) b = x1 at *
  generalize dN (a * (P * P)) b = y1 at *
  generalize flo x1 y1 = N at *
  have hNl : Lm.ln N ≤ 177 := by omega
  have hL : (Lm.lim N.natAbs).length ≤ 177 := hNl
  have hN0 : 0 ≤ N := by have := hr.1; have := hr.le; omega
  have hlt := (Lm.ln_le N _).1 (Nat.le_refl (Lm.ln N))
  have hrl : Lm.ln r ≤ 177 := Nat.le_trans (Lm.ln_mono (by have := hr.1; have := hr.le; omega)) hNl
  have l1 : Lm.ln 1 ≤ 4 := ln64 (by omega) (by omega)
  have hrl1 : Lm.ln (r + 1) ≤ 178 := Lm.ln_add _ _ hrl (by omega)
  have q1 := l2Make_den r P (by omega) (by omega) (by omega)
  have q2 := bigOfS_den 1 (by omega) (by omega)
  have q3 := l1Add_den r 1 (by omega) (by omega)
  have q4 := l2Make_den (r + 1) P (by omega) (by omega) (by omega)
  have b1 := ln_nN r P
  have b2 := ln_dN r P
  have b3 := dN_pos (x := r) (y := P) (by omega)
  generalize nN r P = X at *
  generalize dN r P = Y at *
  generalize nN (r + 1) P = Z at *
  generalize dN (r + 1) P = W at *
  have q5 := l2Mul_den X Y X Y (by omega) (by omega) (by omega) (by omega) (by omega) (by omega)
  have b4 := ln_nN (X * X) (Y * Y)
  have b5 := ln_dN (X * X) (Y * Y)
  have b6 := Lm.ln_mul X X (k := 177) (m := 177) (by omega) (by omega)
  have b7 := Lm.ln_mul Y Y (k := 177) (m := 177) (by omega) (by omega)
  have b8 := dN_pos (x := X * X) (y := Y * Y) (Int.mul_ne_zero (by omega) (by omega))
  generalize nN (X * X) (Y * Y) = U at *
  generalize dN (X * X) (Y * Y) = T at *
  have q6 := l2Cmp_den U T a b (by omega) (by omega) (by omega) (by omega) (by omega) (by omega)
  have hc6 : (cmpI (U * b) (a * T) = 0) ↔ U * b = a * T := by unfold cmpI; split <;> (try split) <;> omega
  have ed : decide (a < 0) = false := decide_eq_false na0
  have er : ratV a b = ratR false (Lm.lim a.natAbs) (decide (b < 0)) (Lm.lim b.natAbs) := by unfold ratV; rw [ed]
  rw [show bigV a = rawV false (Lm.lim a.natAbs) by unfold bigV; rw [ed]] at m2
  rw [er] at q6 ⊢
  rw [ed] at gS
  refine go Try.func45 rfl rfl ?_
  repeat refine vs ?_
  conv => whnf
  refine CallS.mk _ rfl true true _ (gS) rfl ?_
  repeat refine vs ?_
  conv => whnf
  refine CallS.mk _ rfl true true _ (iS) rfl ?_
  repeat refine vs ?_
  conv => whnf
  refine CallS.mk _ rfl false false _ (pS) rfl ?_
  repeat refine vs ?_
  conv => whnf
  refine CallS.mk _ rfl true false _ (m1) rfl ?_
  repeat refine vs ?_
  conv => whnf
  refine CallS.mk _ rfl true false _ (m2) rfl ?_
  repeat refine vs ?_
  conv => whnf
  refine CallS.mk _ rfl true false _ (m3) rfl ?_
  repeat refine vs ?_
  conv => whnf
  refine CallS.mk _ rfl true false _ (fS) rfl ?_
  repeat refine vs ?_
  conv => whnf
  refine CallS.mk _ rfl true false _ (bigOfS_den 0 (by omega) (by omega)) rfl ?_
  repeat refine vs ?_
  conv => whnf
  generalize hLe : (Lm.lim N.natAbs).length = L at *
  have hLn : Lm.ln N = L := hLe
  rw [hLn] at hlt
  refine EVs.loopU (fun s : Int × Int => -1 ≤ s.1 ∧ s.1 ≤ 100000 ∧ 0 ≤ s.2 ∧ s.2 * s.2 ≤ N ∧ N < (s.2 + Lm.pow2 (s.1 + 1).toNat) * (s.2 + Lm.pow2 (s.1 + 1).toNat)) (fun s => (s.1 + 1).toNat)
    (fun | (k, lo) => [(8, .box (8, 0) [.p (.bool (decide (lo < 0))), .p (.ints (Lm.lim lo.natAbs))] 0), (9, .v false [.p (.int .i64 k)])]) (8 * (L : Int) + 1, 0) ⟨by dsimp only; omega, by dsimp only; omega, by dsimp only; omega, by dsimp only; omega, ?_⟩ (Wk.refl _) ?_
  · dsimp only
    rw [show (8 * (L : Int) + 1 + 1).toNat = 8 * L + 2 by omega, Int.zero_add, ← Lm.pow2_add]
    have h1 := Lm.pow2_16 L
    have h2 : Lm.pow2 (16 * L) ≤ Lm.pow2 (8 * L + 2 + (8 * L + 2)) := Lm.pow2_mono (by omega)
    rw [h1] at h2
    unfold Lm.pw at hlt
    omega
  rintro ⟨k1, lo⟩ ⟨hk1, hk2, hlo, hlo2, hNlt⟩
  dsimp only at hk1 hk2 hlo hlo2 hNlt
  refine go1 ?_
  repeat refine vs ?_
  conv => whnf
  by_cases hk : k1 ≥ 0
  · have lpk := ln_pow2 k1.toNat
    have hlol : Lm.ln lo ≤ 177 := Nat.le_trans (Lm.ln_mono (by have := le_of_sq hlo hlo2; omega)) hNl
    have pK := l3Power_den k1 (by omega) (by omega)
    have aK := l1Add_den lo (Lm.pow2 k1.toNat) (by omega) (by omega)
    have laK : Lm.ln (lo + Lm.pow2 k1.toNat) ≤ 100005 := Lm.ln_add _ _ (k := 100004) (by omega) (by omega)
    have mK := l1Mul_den (lo + Lm.pow2 k1.toNat) (lo + Lm.pow2 k1.toNat) (by omega) (by omega)
    have lmK := ln_mul' laK laK
    have cK := l1CmpBig_den ((lo + Lm.pow2 k1.toNat) * (lo + Lm.pow2 k1.toNat)) N (by omega) (by omega)
    rw [show (k1 + 1).toNat = k1.toNat + 1 by omega] at hNlt
    obtain ⟨s1, s2⟩ := Lm.search hlo hlo2 hNlt
    have hcK : (cmpI ((lo + Lm.pow2 k1.toNat) * (lo + Lm.pow2 k1.toNat)) N ≤ 0) ↔ (lo + Lm.pow2 k1.toNat) * (lo + Lm.pow2 k1.toNat) ≤ N := by unfold cmpI; split <;> (try split) <;> omega
    repeat refine vs ?_
    conv => whnf
    refine CallS.mk _ rfl false false _ (pK) rfl ?_
    repeat refine vs ?_
    conv => whnf
    refine CallS.mk _ rfl true false _ (aK) rfl ?_
    repeat refine vs ?_
    conv => whnf
    refine CallS.mk _ rfl true false _ (mK) rfl ?_
    repeat refine vs ?_
    conv => whnf
    refine CallS.mk _ rfl true false _ (cK) rfl ?_
    repeat refine vs ?_
    conv => whnf
    by_cases hc : (lo + Lm.pow2 k1.toNat) * (lo + Lm.pow2 k1.toNat) ≤ N
    · have := hcK.2 hc
      repeat refine vs ?_
      conv => whnf
      refine ⟨(k1 - 1, lo + Lm.pow2 k1.toNat), by dsimp only; omega, ⟨by dsimp only; omega, by dsimp only; omega, (s1 hc).1, hc, ?_⟩, ?_⟩
      · dsimp only
        rw [show (k1 - 1 + 1).toNat = k1.toNat by omega]
        exact (s1 hc).2
      · refine Wk.le ?_
        repeat' (first | exact LeT.nil | refine LeT.drop1 ?_ | refine LeT.same1 ?_ | refine LeT.own1 ?_ | refine LeT.ownR ?_)
    · have := fun x => hc (hcK.1 x)
      repeat refine vs ?_
      conv => whnf
      refine ⟨(k1 - 1, lo), by dsimp only; omega, ⟨by dsimp only; omega, by dsimp only; omega, hlo, hlo2, ?_⟩, ?_⟩
      · dsimp only
        rw [show (k1 - 1 + 1).toNat = k1.toNat by omega]
        exact s2 hc
      · refine Wk.le ?_
        repeat' (first | exact LeT.nil | refine LeT.drop1 ?_ | refine LeT.same1 ?_ | refine LeT.own1 ?_ | refine LeT.ownR ?_)
  · have hk3 : k1 = -1 := by omega
    subst hk3
    have : lo = r := Lm.IsR.uniq ⟨hlo, hlo2, hNlt⟩ hr
    subst this
    repeat refine vs ?_
    conv => whnf
    refine CallS.mk _ rfl true false _ (q1) rfl ?_
    repeat refine vs ?_
    conv => whnf
    refine CallS.mk _ rfl true false _ (q2) rfl ?_
    repeat refine vs ?_
    conv => whnf
    refine CallS.mk _ rfl true false _ (q3) rfl ?_
    repeat refine vs ?_
    conv => whnf
    refine CallS.mk _ rfl true false _ (q4) rfl ?_
    repeat refine vs ?_
    conv => whnf
    refine CallS.mk _ rfl true false _ (q5) rfl ?_
    repeat refine vs ?_
    conv => whnf
    refine CallS.mk _ rfl true false _ (q6) rfl ?_
    repeat refine vs ?_
    conv => whnf
    by_cases hc : U * b = a * T
    · have := hc6.2 hc
      rw [if_pos hc] at hhi
      subst hhi
      repeat refine vs ?_
      conv => whnf
      refine CallS.mk _ rfl true false _ (hV) rfl ?_
      repeat refine vs ?_
      conv => whnf
      first | rfl | exact ⟨rfl, rfl⟩ | exact ⟨by simp [toRes], rfl⟩
    · have := fun x => hc (hc6.1 x)
      rw [if_neg hc] at hhi
      subst hhi
      repeat refine vs ?_
      conv => whnf
      refine CallS.mk _ rfl true false _ (hV) rfl ?_
      repeat refine vs ?_
      conv => whnf
      first | rfl | exact ⟨rfl, rfl⟩ | exact ⟨by simp [toRes], rfl⟩
theorem rootSpanI_den (r : Int) (hr : Lm.IsR (flo (nN (a * (Lm.pow2 n * Lm.pow2 n)) b) (dN (a * (Lm.pow2 n * Lm.pow2 n)) b)) r) (hi : Int × Int)
    (hhi : hi = if nN (nN r (Lm.pow2 n) * nN r (Lm.pow2 n)) (dN r (Lm.pow2 n) * dN r (Lm.pow2 n)) * b = a * dN (nN r (Lm.pow2 n) * nN r (Lm.pow2 n)) (dN r (Lm.pow2 n) * dN r (Lm.pow2 n)) then (nN r (Lm.pow2 n), dN r (Lm.pow2 n)) else (nN (r + 1) (Lm.pow2 n), dN (r + 1) (Lm.pow2 n)))
    (V : PV) (k : Bool) (hV : D 61 [ratV (nN r (Lm.pow2 n)) (dN r (Lm.pow2 n)), ratV hi.1 hi.2] true (.tup [V, bP k])) (na : Bool) (la : List Int) (pa : Bool) (qa : List Int) (nb : Bool) (lb : List Int) (pb : Bool) (qb : List Int) (hVe : V = spanR na la pa qa nb lb pb qb) :
    D 46 [ratV a b, iP (n : Int)] true (.tup [spanR na la pa qa nb lb pb qb, bP k]) := by
  subst hVe
  rw [← root_num a b n hn hb ha0 ha hbl] at hr
  have gS := goodRatI_den (decide (a < 0)) (Lm.lim a.natAbs) (decide (b < 0)) (Lm.lim b.natAbs) (Nat.le_trans ha (by decide)) (Nat.le_trans hbl (by decide))
  rw [g1] at gS
  have sS := ratSign_den a b (by omega)
  have hs : ¬ cmpI a 0 < 0 := by rcases cmpI_sgn a with h | h | h <;> omega
  have iS := within_den (n : Int) 0 64
  rw [decide_eq_true (by omega)] at iS
  have pS := scaleOf_den n hn
  have hp := Lm.pow2_pos n
  have lp := ln_pow2 n
  have hhe := hi_eq (r := r) hp
  generalize Lm.pow2 n = P at *
  have lP : Lm.ln P ≤ 68 := by omega
  have l1 : Lm.ln 1 ≤ 4 := ln64 (by omega) (by omega)
  have m1 := ratMul_den a b P 1 (by omega) (by omega) (by omega) (by omega) (by omega) (by omega)
  have laP := Lm.ln_mul a P ha lP
  have ln1 := ln_nN (a * P) (b * 1)
  have ln2 := ln_dN (a * P) (b * 1)
  rw [Int.mul_one b] at m1 ln1 ln2 hr
  have dp := dN_pos (x := a * P) (y := b) (by omega)
  generalize nN (a * P) b = x1 at *
  generalize dN (a * P) b = y1 at *
  have m2 := ratMul_den x1 y1 P 1 (by omega) (by omega) (by omega) (by omega) (by omega) (by omega)
  have lxP := Lm.ln_mul x1 P (k := 108) (by omega) lP
  have ln3 := ln_nN (x1 * P) (y1 * 1)
  have ln4 := ln_dN (x1 * P) (y1 * 1)
  rw [Int.mul_one y1] at m2 ln3 ln4 hr
  have dp2 := dN_pos (x := x1 * P) (y := y1) (by omega)
  generalize nN (x1 * P) y1 = x2 at *
  generalize dN (x1 * P) y1 = y2 at *
  have fS := floor_den x2 y2 (by omega) (by omega) (by omega)
  have lN := ln_flo x2 y2
  generalize flo x2 y2 = N at *
  have hNl : Lm.ln N ≤ 177 := by omega
  have hrl : Lm.ln r ≤ 177 := Nat.le_trans (Lm.ln_mono (by have := hr.1; have := hr.le; omega)) hNl
  have rI := rootOf_den N r hr (by omega)
  have oI := ofBig_den r (by omega)
  have q1 := ratDiv_den r 1 P 1 (by omega) (by omega) (by omega) (by omega) (by omega) (by omega) (by omega)
  rw [Int.mul_one, Int.one_mul] at q1
  have w1 := whole_den 1 (by omega) (by omega)
  have q2 := ratDiv_den 1 1 P 1 (by omega) (by omega) (by omega) (by omega) (by omega) (by omega) (by omega)
  rw [Int.mul_one, Int.one_mul] at q2
  have b1 := ln_nN r P
  have b2 := ln_dN r P
  have b3 := dN_pos (x := r) (y := P) (by omega)
  have c1 := ln_nN 1 P
  have c2 := ln_dN 1 P
  have c3 := dN_pos (x := 1) (y := P) (by omega)
  obtain ⟨he1, he2⟩ := hhe
  generalize nN r P = X at *
  generalize dN r P = Y at *
  generalize nN 1 P = X2 at *
  generalize dN 1 P = Y2 at *
  have q3 := ratAdd_den X Y X2 Y2 (by omega) (by omega) (by omega) (by omega) (by omega) (by omega)
  rw [he1, he2] at q3
  generalize nN (r + 1) P = Z at *
  generalize dN (r + 1) P = W at *
  have q5 := ratMul_den X Y X Y (by omega) (by omega) (by omega) (by omega) (by omega) (by omega)
  have b4 := ln_nN (X * X) (Y * Y)
  have b5 := ln_dN (X * X) (Y * Y)
  have b6 := Lm.ln_mul X X (k := 177) (m := 177) (by omega) (by omega)
  have b7 := Lm.ln_mul Y Y (k := 177) (m := 177) (by omega) (by omega)
  have b8 := dN_pos (x := X * X) (y := Y * Y) (Int.mul_ne_zero (by omega) (by omega))
  generalize nN (X * X) (Y * Y) = U at *
  generalize dN (X * X) (Y * Y) = T at *
  have q6 := same_den U T a b (by omega) (by omega) (by omega) (by omega) (by omega) (by omega)
  refine go Try.func46 rfl rfl ?_
  repeat refine vs ?_
  conv => whnf
  refine CallS.mk _ rfl true true _ (gS) rfl ?_
  repeat refine vs ?_
  conv => whnf
  refine CallS.mk _ rfl true true _ (sS) rfl ?_
  repeat refine vs ?_
  conv => whnf
  refine CallS.mk _ rfl true true _ (iS) rfl ?_
  repeat refine vs ?_
  conv => whnf
  refine CallS.mk _ rfl false false _ (pS) rfl ?_
  repeat refine vs ?_
  conv => whnf
  refine CallS.mk _ rfl true false _ (m1) rfl ?_
  repeat refine vs ?_
  conv => whnf
  refine CallS.mk _ rfl true false _ (m2) rfl ?_
  repeat refine vs ?_
  conv => whnf
  refine CallS.mk _ rfl true false _ (fS) rfl ?_
  repeat refine vs ?_
  conv => whnf
  refine CallS.mk _ rfl false false _ (rI) rfl ?_
  repeat refine vs ?_
  conv => whnf
  refine CallS.mk _ rfl true false _ (oI) rfl ?_
  repeat refine vs ?_
  conv => whnf
  refine CallS.mk _ rfl true false _ (q1) rfl ?_
  repeat refine vs ?_
  conv => whnf
  refine CallS.mk _ rfl true false _ (q5) rfl ?_
  repeat refine vs ?_
  conv => whnf
  by_cases hc : U * b = a * T
  · rw [if_pos hc] at hhi
    subst hhi
    rw [decide_eq_true hc] at q6
    refine CallS.mk _ rfl true false _ (q6) rfl ?_
    repeat refine vs ?_
    conv => whnf
    refine CallS.mk _ rfl true true _ (hV) rfl ?_
    repeat refine vs ?_
    conv => whnf
    first | rfl | exact ⟨rfl, rfl⟩ | exact ⟨by simp [toRes], rfl⟩
  · rw [if_neg hc] at hhi
    subst hhi
    rw [decide_eq_false hc] at q6
    refine CallS.mk _ rfl true false _ (q6) rfl ?_
    repeat refine vs ?_
    conv => whnf
    refine CallS.mk _ rfl true false _ (w1) rfl ?_
    repeat refine vs ?_
    conv => whnf
    refine CallS.mk _ rfl true false _ (q2) rfl ?_
    repeat refine vs ?_
    conv => whnf
    refine CallS.mk _ rfl true false _ (q3) rfl ?_
    repeat refine vs ?_
    conv => whnf
    refine CallS.mk _ rfl true true _ (hV) rfl ?_
    repeat refine vs ?_
    conv => whnf
    first | rfl | exact ⟨rfl, rfl⟩ | exact ⟨by simp [toRes], rfl⟩
end
theorem rootSpanBoth (n : Bool) (l : List Int) (p : Bool) (q : List Int) (z : Int) (hl : l.length ≤ 1000000000000) (hq : q.length ≤ 1000000000000) (_ : -9223372036854775808 ≤ z) (_ : z ≤ 9223372036854775807) :
    ∃ na la pa qa nb lb pb qb r, la.length ≤ 1000000 ∧ qa.length ≤ 1000000 ∧ lb.length ≤ 1000000 ∧ qb.length ≤ 1000000 ∧ D 45 [ratR n l p q, iP z] false (.tup [spanR na la pa qa nb lb pb qb, bP r]) ∧ D 46 [ratR n l p q, iP z] true (.tup [spanR na la pa qa nb lb pb qb, bP r]) := by
  have gS := goodRatS_den n l p q hl hq
  have gI := goodRatI_den n l p q hl hq
  cases hg : goodR n l p q with
  | false =>
    rw [hg] at gS gI
    refine ⟨false, [], false, [], false, [], false, [], false, by simp, by simp, by simp, by simp, go Try.func45 rfl rfl ?_, go Try.func46 rfl rfl ?_⟩
    · repeat refine vs ?_
      conv => whnf
      refine CallS.mk _ rfl true true _ (gS) rfl ?_
      repeat refine vs ?_
      conv => whnf
      first | rfl | exact ⟨rfl, rfl⟩ | exact ⟨by simp [toRes], rfl⟩
    · repeat refine vs ?_
      conv => whnf
      refine CallS.mk _ rfl true true _ (gI) rfl ?_
      repeat refine vs ?_
      conv => whnf
      first | rfl | exact ⟨rfl, rfl⟩ | exact ⟨by simp [toRes], rfl⟩
  | true =>
    have g1 := hg
    rw [hg] at gS gI
    obtain ⟨a, b, rfl, rfl, rfl, rfl, ha, hbl, hb, _⟩ := goodR_ex hg
    have sS := ratSign_den a b (by omega)
    by_cases ha0 : a < 0
    · have hs : cmpI a 0 < 0 := by rcases cmpI_sgn a with h | h | h <;> omega
      have ed : decide (a < 0) = true := decide_eq_true ha0
      rw [show ratV a b = ratR true (Lm.lim a.natAbs) (decide (b < 0)) (Lm.lim b.natAbs) by unfold ratV; rw [ed]] at sS
      rw [ed] at gS gI
      rw [ed]
      refine ⟨false, [], false, [], false, [], false, [], false, by simp, by simp, by simp, by simp, go Try.func45 rfl rfl ?_, go Try.func46 rfl rfl ?_⟩
      · repeat refine vs ?_
        conv => whnf
        refine CallS.mk _ rfl true true _ (gS) rfl ?_
        repeat refine vs ?_
        conv => whnf
        first | rfl | exact ⟨rfl, rfl⟩ | exact ⟨by simp [toRes], rfl⟩
      · repeat refine vs ?_
        conv => whnf
        refine CallS.mk _ rfl true true _ (gI) rfl ?_
        repeat refine vs ?_
        conv => whnf
        refine CallS.mk _ rfl true true _ (sS) rfl ?_
        repeat refine vs ?_
        conv => whnf
        first | rfl | exact ⟨rfl, rfl⟩ | exact ⟨by simp [toRes], rfl⟩
    · have hs : ¬ cmpI a 0 < 0 := by rcases cmpI_sgn a with h | h | h <;> omega
      have iS := l1In_den z 0 64
      have iI := within_den z 0 64
      by_cases hz : 0 ≤ z ∧ z ≤ 64
      · obtain ⟨k, rfl⟩ := Int.eq_ofNat_of_zero_le hz.1
        have hk : k ≤ 64 := by omega
        have hN0 : 0 ≤ flo (nN (a * (Lm.pow2 k * Lm.pow2 k)) b) (dN (a * (Lm.pow2 k * Lm.pow2 k)) b) := by
          rw [flo_low hb, flo_ediv hb]
          have := Lm.pow2_pos k
          exact Int.ediv_nonneg (Int.mul_nonneg (by omega) (Int.mul_nonneg (by omega) (by omega))) (by omega)
        obtain ⟨N, hN⟩ := Int.eq_ofNat_of_zero_le hN0
        obtain ⟨r, hr⟩ := Lm.IsR.ex N
        rw [← hN] at hr
        have hrS := rootSpanS_den a b k hk hb (by omega) ha hbl g1 r hr
        have hrI := rootSpanI_den a b k hk hb (by omega) ha hbl g1 r hr
        have hp := Lm.pow2_pos k
        have lp := ln_pow2 k
        -- the bounds
        have lN : Lm.ln (flo (nN (a * (Lm.pow2 k * Lm.pow2 k)) b) (dN (a * (Lm.pow2 k * Lm.pow2 k)) b)) ≤ 177 := by
          refine Nat.le_trans (ln_flo _ _) ?_
          have h1 := ln_nN (a * (Lm.pow2 k * Lm.pow2 k)) b
          have h2 := Lm.ln_mul a (Lm.pow2 k * Lm.pow2 k) ha (ln_mul' (k := 68) (by omega) (by omega))
          omega
        have hrl : Lm.ln r ≤ 177 := Nat.le_trans (Lm.ln_mono (by have := hr.1; have := hr.le; omega)) lN
        have hrl1 : Lm.ln (r + 1) ≤ 178 := Lm.ln_add _ _ hrl (Nat.le_trans (ln64 (by omega) (by omega)) (by decide))
        have b1 := ln_nN r (Lm.pow2 k)
        have b2 := ln_dN r (Lm.pow2 k)
        have b3 := dN_pos (x := r) (y := Lm.pow2 k) (by omega)
        have b4 := ln_nN (r + 1) (Lm.pow2 k)
        have b5 := ln_dN (r + 1) (Lm.pow2 k)
        have b6 := dN_pos (x := r + 1) (y := Lm.pow2 k) (by omega)
        generalize hhi : (if nN (nN r (Lm.pow2 k) * nN r (Lm.pow2 k)) (dN r (Lm.pow2 k) * dN r (Lm.pow2 k)) * b = a * dN (nN r (Lm.pow2 k) * nN r (Lm.pow2 k)) (dN r (Lm.pow2 k) * dN r (Lm.pow2 k)) then (nN r (Lm.pow2 k), dN r (Lm.pow2 k)) else (nN (r + 1) (Lm.pow2 k), dN (r + 1) (Lm.pow2 k))) = hi at *
        have hok : 0 < hi.2 ∧ Lm.ln hi.1 ≤ 400000000000 ∧ Lm.ln hi.2 ≤ 400000000000 := by
          rw [← hhi]
          split
          · exact ⟨b3, by dsimp only; omega, by dsimp only; omega⟩
          · exact ⟨b6, by dsimp only; omega, by dsimp only; omega⟩
        have fS := l3Fits_den (nN r (Lm.pow2 k)) (dN r (Lm.pow2 k)) hi.1 hi.2 b3 hok.1 (by omega) (by omega) hok.2.1 hok.2.2
        have fI := checkedSpan_den (nN r (Lm.pow2 k)) (dN r (Lm.pow2 k)) hi.1 hi.2 b3 hok.1 (by omega) (by omega) hok.2.1 hok.2.2
        obtain ⟨na, la, pa, qa, nb, lb, pb, qb, e1, e2, e3, e4, e⟩ := fitSV_ex (nN r (Lm.pow2 k)) (dN r (Lm.pow2 k)) hi.1 hi.2
        exact ⟨na, la, pa, qa, nb, lb, pb, qb, _, e1, e2, e3, e4, hrS hi rfl _ _ fS na la pa qa nb lb pb qb e, hrI hi rfl _ _ fI na la pa qa nb lb pb qb e⟩
      · rw [decide_eq_false hz] at iS iI
        have ed : decide (a < 0) = false := decide_eq_false ha0
        rw [show ratV a b = ratR false (Lm.lim a.natAbs) (decide (b < 0)) (Lm.lim b.natAbs) by unfold ratV; rw [ed]] at sS
        rw [ed] at gS gI
        rw [ed]
        refine ⟨false, [], false, [], false, [], false, [], false, by simp, by simp, by simp, by simp, go Try.func45 rfl rfl ?_, go Try.func46 rfl rfl ?_⟩
        · repeat refine vs ?_
          conv => whnf
          refine CallS.mk _ rfl true true _ (gS) rfl ?_
          repeat refine vs ?_
          conv => whnf
          refine CallS.mk _ rfl true true _ (iS) rfl ?_
          repeat refine vs ?_
          conv => whnf
          first | rfl | exact ⟨rfl, rfl⟩ | exact ⟨by simp [toRes], rfl⟩
        · repeat refine vs ?_
          conv => whnf
          refine CallS.mk _ rfl true true _ (gI) rfl ?_
          repeat refine vs ?_
          conv => whnf
          refine CallS.mk _ rfl true true _ (sS) rfl ?_
          repeat refine vs ?_
          conv => whnf
          refine CallS.mk _ rfl true true _ (iI) rfl ?_
          repeat refine vs ?_
          conv => whnf
          first | rfl | exact ⟨rfl, rfl⟩ | exact ⟨by simp [toRes], rfl⟩
end Go.Vx
