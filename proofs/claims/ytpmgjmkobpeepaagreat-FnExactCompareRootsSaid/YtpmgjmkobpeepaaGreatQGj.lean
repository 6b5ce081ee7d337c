/- Q23, Q24, Q25 -/
import Derived.Test.YtpmgjmkobpeepaaGreatQGi
set_option linter.unusedVariables false
set_option linter.unusedSectionVars false
set_option linter.unusedSimpArgs false
section
/- CompareRoots: the reference's function. -/
namespace Go.Vx
open Go.Proofs Sp
set_option maxRecDepth 100000

theorem verd_eq {X : Rat} {A A' B B' : Rat → Prop} (h1 : ∀ c, A c ↔ A' c) (h2 : ∀ c, B c ↔ B' c) : verd X A B = verd X A' B' := by
 have e1 : A = A' := funext fun c => propext (h1 c)
 have e2 : B = B' := funext fun c => propext (h2 c)
 rw [e1, e2]
/-- A fraction with few bits: so many halvings part it from the root. -/
theorem part_of {p : List (Int × Int)} (hp : RootP p) {s0 : Rat × Rat} (h0 : Iv (p2 64) (cnt p) (Sp.ev (vl (freeF p))) s0) {E : Int} (hE : E ≠ 0 ∧ E.natAbs ≤ 2 ^ 128) {n : Nat} (hn : n ≤ 72802382) {c : Rat} (hd : Dy E n c) :
  ∃ N, N ≤ 369229397 ∧ (Sp.ev (vl (freeF p)) c ≠ 0 → ¬ ((hvN (cnt p) N s0).1 < c ∧ c ≤ (hvN (cnt p) N s0).2)) := by
 obtain ⟨k, hk⟩ := hd
 have h2 : E * 2 ^ n ≠ 0 := Int.mul_ne_zero hE.1 (fun h => by have := int_pow_zero h; omega)
 obtain ⟨st, fn⟩ := hp.fp.stu
 obtain ⟨e, he⟩ : ∃ e : Nat, e = 72802510 := ⟨_, rfl⟩
 refine ⟨B0 + 332 + (16000 + e * 5) + 65, by unfold B0; omega, part_gen (B := B0) (D := dbits B0) (e := e) st fn h0 hp.fp.fht (by rw [vl_len]; exact hp.fp.free_low.2.2.2) ⟨E * 2 ^ n, k, h2, ?_, hk⟩ (by unfold dbits B0; omega) rfl⟩
 refine Nat.le_trans ?_ (Nat.pow_le_pow_right (by omega) (show 128 + n ≤ e by omega))
 rw [Int.natAbs_mul, int_pow_abs, Nat.pow_add]
 exact Nat.mul_le_mul_right _ hE.2
section
variable {p q : List (Int × Int)} (hp : RootP p) (hq : RootP q) {x y a b : Int × Int} (hx : lowT 4 x) (hy : lowT 4 y) (hle : x.1 * y.2 ≤ y.1 * x.2) (hi : isoF p x y = true)
 (ha : lowT 4 a) (hb : lowT 4 b) (hle2 : a.1 * b.2 ≤ b.1 * a.2) (hi2 : isoF q a b = true)
include hp hq hx hy hle hi ha hb hle2 hi2
set_option maxHeartbeats 4000000 in
theorem l6Side_den {n : Nat} (hn : n ≤ 72802382) {u : (Int × Int) × (Int × Int)} (hu : Hs q (a.2 * b.2) (val a, val b) n u) :
  D 79 [(false, [.arr 4 (p.map cellR)]), spanV x.1 x.2 y.1 y.2, spanV u.1.1 u.1.2 u.2.1 u.2.2] true (.one (iP (side (cnt p) (Sp.ev (vl (freeF p))) (val x, val y) (vsp u)))) := by
 have h0 := iv_of hp hx hy hle hi
 have k0 := iv_of hq ha hb hle2 hi2
 have hE := den_ok ha hb
 have hm : Mono (p2 64) (cnt q) := fun a b ha hb hab => hq.fp.stu.1.mono (dB_pos B0) ha hb hab
 obtain ⟨oku, ivu⟩ := hu.ok (K := 4600000) hm hE k0 (by omega)
 obtain ⟨N1, n1, n2⟩ := part_of hp h0 hE hn hu.dx
 obtain ⟨N2, n3, n4⟩ := part_of hp h0 hE hn hu.dy
 have dA := l6At_den hp hx hy hle hi oku.lx (oku.x.mono (by omega)) n1 n2 ivu.x
 have dB := l6At_den hp hx hy hle hi oku.ly (oku.y.mono (by omega)) n3 n4 ivu.y
 have dM := l2Cmp_den u.1.1 u.1.2 u.2.1 u.2.2 (by have := oku.x.1; omega) (by have := oku.y.1; omega) (Nat.le_trans oku.x.2.1 (by omega)) (Nat.le_trans oku.x.2.2 (by omega)) (Nat.le_trans oku.y.2.1 (by omega)) (Nat.le_trans oku.y.2.2 (by omega))
 have hc : (cmpI (u.1.1 * u.2.2) (u.2.1 * u.1.2) = 0) ↔ u.1.1 * u.2.2 = u.2.1 * u.1.2 := by unfold cmpI; split <;> (try split) <;> omega
 have ve := val_eq oku.x.1 oku.y.1
 have e1 : (vsp u).1 = val u.1 := rfl
 have e2 : (vsp u).2 = val u.2 := rfl
 unfold side
 rw [e1, e2]
 clear n2 n4
 generalize cmpA (cnt p) (Sp.ev (vl (freeF p))) (val x, val y) (val u.1) = A at *
 generalize cmpA (cnt p) (Sp.ev (vl (freeF p))) (val x, val y) (val u.2) = B at *
 generalize cmpI (u.1.1 * u.2.2) (u.2.1 * u.1.2) = z at *
 refine go Tryz.func79 rfl rfl ?_
 by_cases h1 : z = 0
 ·rw [if_pos (ve.2 (hc.1 h1))]
  repeat refine vs ?_
  conv => whnf
  refine CallS.mk _ rfl true true _ (dM) rfl ?_
  repeat refine vs ?_
  conv => whnf
  refine CallS.mk _ rfl true true _ (dA) rfl ?_
  repeat refine vs ?_
  conv => whnf
  first | rfl | exact ⟨rfl, rfl⟩ | exact ⟨by simp [toRes], rfl⟩
 ·rw [if_neg (fun h => h1 (hc.2 (ve.1 h)))]
  by_cases h2 : A ≤ 0
  ·rw [if_pos h2]
   repeat refine vs ?_
   conv => whnf
   refine CallS.mk _ rfl true true _ (dM) rfl ?_
   repeat refine vs ?_
   conv => whnf
   refine CallS.mk _ rfl true true _ (dA) rfl ?_
   repeat refine vs ?_
   conv => whnf
   first | rfl | exact ⟨rfl, rfl⟩ | exact ⟨by simp [toRes], rfl⟩
  ·rw [if_neg h2]
   by_cases h3 : B > 0
   ·rw [if_pos h3]
    repeat refine vs ?_
    conv => whnf
    refine CallS.mk _ rfl true true _ (dM) rfl ?_
    repeat refine vs ?_
    conv => whnf
    refine CallS.mk _ rfl true true _ (dA) rfl ?_
    repeat refine vs ?_
    conv => whnf
    refine CallS.mk _ rfl true true _ (dB) rfl ?_
    repeat refine vs ?_
    conv => whnf
    first | rfl | exact ⟨rfl, rfl⟩ | exact ⟨by simp [toRes], rfl⟩
   ·rw [if_neg h3]
    repeat refine vs ?_
    conv => whnf
    refine CallS.mk _ rfl true true _ (dM) rfl ?_
    repeat refine vs ?_
    conv => whnf
    refine CallS.mk _ rfl true true _ (dA) rfl ?_
    repeat refine vs ?_
    conv => whnf
    refine CallS.mk _ rfl true true _ (dB) rfl ?_
    repeat refine vs ?_
    conv => whnf
    first | rfl | exact ⟨rfl, rfl⟩ | exact ⟨by simp [toRes], rfl⟩
set_option maxHeartbeats 8000000 in
theorem cmpS_den {vg : Rat → Nat} {fg : Rat → Rat} (C : Cts (p2 64) (dB B0) (cnt p) (cnt q) vg (Sp.ev (vl (freeF p))) (Sp.ev (vl (freeF q))) fg)
  (hc : ((comF p q).length < 2 ∧ vg = (fun _ => 0) ∧ fg = fun _ => 1) ∨ (2 ≤ (comF p q).length ∧ vg = cnt (comF p q) ∧ fg = Sp.ev (vl (freeF (comF p q)))))
  (gS : D 63 [(false, [.arr 4 (p.map cellR)]), spanV x.1 x.2 y.1 y.2] true (.one (bP true))) (gS2 : D 63 [(false, [.arr 4 (q.map cellR)]), spanV a.1 a.2 b.1 b.2] true (.one (bP true))) :
  D 36 [(false, [.arr 4 (p.map cellR)]), spanV x.1 x.2 y.1 y.2, (false, [.arr 4 (q.map cellR)]), spanV a.1 a.2 b.1 b.2] false (.tup [iP (verd (p2 64) (leA (cnt p) (val x, val y)) (leA (cnt q) (val a, val b))), bP true]) := by
 have h0 := iv_of hp hx hy hle hi
 have k0 := iv_of hq ha hb hle2 hi2
 have hE := den_ok ha hb
 have z0 := st_zero (p := q) ha hb
 obtain ⟨v, v1, v2, v3, _, dS⟩ := signBoth hp hq hx hy hle hi C hc
 have dSide := fun (n : Nat) (hn : n ≤ 72802382) (u : (Int × Int) × (Int × Int)) (hu : Hs q (a.2 * b.2) (val a, val b) n u) => l6Side_den hp hq hx hy hle hi ha hb hle2 hi2 hn hu
 have d0 := dSide 0 (by omega) (a, b) z0
 have e0 : vsp (a, b) = (val a, val b) := rfl
 rw [e0] at d0
 -- what a side says
 have key : ∀ n, side (cnt p) (Sp.ev (vl (freeF p))) (val x, val y) (hvN (cnt q) n (val a, val b)) ≠ 0 → side (cnt p) (Sp.ev (vl (freeF p))) (val x, val y) (hvN (cnt q) n (val a, val b)) = verd (p2 64) (leA (cnt p) (val x, val y)) (leA (cnt q) (val a, val b)) := fun n hn => by
  obtain ⟨i1, i2, i3, i4, i5⟩ := k0.halves C.monoQ n
  rw [← verd_eq (fun c => Iff.rfl) i5]
  rcases side_cases C h0 i1 with h | h | h
  ·rw [h.1, verd_less h.2]
  ·rw [h.1, verd_more C.monoP C.monoQ h0 i1 h.2]
  ·exact absurd h.1 hn
 by_cases hs0 : side (cnt p) (Sp.ev (vl (freeF p))) (val x, val y) (val a, val b) = 0 ∧ v = 0
 ·have hv := verd_same (side_same C h0 k0 hs0.1 (v3.1 hs0.2))
  rw [hv]
  rw [hs0.1] at d0
  rw [hs0.2] at dS
  refine go Tryz.func36 rfl rfl ?_
  repeat refine vs ?_
  conv => whnf
  refine CallS.mk _ rfl true true _ (gS) rfl ?_
  repeat refine vs ?_
  conv => whnf
  refine CallS.mk _ rfl true true _ (gS2) rfl ?_
  repeat refine vs ?_
  conv => whnf
  refine CallS.mk _ rfl true true _ (d0) rfl ?_
  repeat refine vs ?_
  conv => whnf
  refine CallS.mk _ rfl true true _ (dS) rfl ?_
  repeat refine vs ?_
  conv => whnf
  first | rfl | exact ⟨rfl, rfl⟩ | exact ⟨by simp [toRes], rfl⟩
 ·obtain ⟨m, m1, m2, m3⟩ : ∃ m, m ≤ 72802381 ∧ side (cnt p) (Sp.ev (vl (freeF p))) (val x, val y) (hvN (cnt q) m (val a, val b)) ≠ 0 ∧ ∀ i, i < m → side (cnt p) (Sp.ev (vl (freeF p))) (val x, val y) (hvN (cnt q) i (val a, val b)) = 0 := by
   by_cases h : side (cnt p) (Sp.ev (vl (freeF p))) (val x, val y) (val a, val b) = 0
   ·have hn : side (cnt p) (Sp.ev (vl (freeF p))) (val x, val y) (hvN (cnt q) NB (val a, val b)) ≠ 0 := fun hs => hs0 ⟨h, v3.2 (side_end C h0 (k0.halves C.monoQ NB).1 (Iv.width C.monoQ k0 (width_le k0)) hs)⟩
    obtain ⟨m, m1, m2, m3⟩ := least (P := fun n => side (cnt p) (Sp.ev (vl (freeF p))) (val x, val y) (hvN (cnt q) n (val a, val b)) ≠ 0) hn
    exact ⟨m, m1, m2, fun i hi => Classical.byContradiction (m3 i hi)⟩
   ·exact ⟨0, by omega, h, fun i hi => absurd hi (by omega)⟩
  rw [← key m m2]
  have hbr : side (cnt p) (Sp.ev (vl (freeF p))) (val x, val y) (val a, val b) = 0 → ¬ v = 0 := fun h1 h2 => hs0 ⟨h1, h2⟩
  clear hs0 key
  generalize hF : (fun n => side (cnt p) (Sp.ev (vl (freeF p))) (val x, val y) (hvN (cnt q) n (val a, val b))) = F at *
  have hFn : ∀ n, side (cnt p) (Sp.ev (vl (freeF p))) (val x, val y) (hvN (cnt q) n (val a, val b)) = F n := fun n => by rw [← hF]
  have hF0 : side (cnt p) (Sp.ev (vl (freeF p))) (val x, val y) (val a, val b) = F 0 := hFn 0
  rw [hF0] at d0 hbr
  rw [hFn] at m2 ⊢
  have m3' : ∀ i, i < m → F i = 0 := fun i hi => by rw [← hFn]; exact m3 i hi
  clear m3
  refine go Tryz.func36 rfl rfl ?_
  by_cases hs : F 0 = 0
  ·have hv := hbr hs
   repeat refine vs ?_
   conv => whnf
   refine CallS.mk _ rfl true true _ (gS) rfl ?_
   repeat refine vs ?_
   conv => whnf
   refine CallS.mk _ rfl true true _ (gS2) rfl ?_
   repeat refine vs ?_
   conv => whnf
   refine CallS.mk _ rfl true true _ (d0) rfl ?_
   repeat refine vs ?_
   conv => whnf
   refine CallS.mk _ rfl true true _ (dS) rfl ?_
   repeat refine vs ?_
   conv => whnf
   refine EVs.loopU (fun s : Nat × ((Int × Int) × (Int × Int)) => s.1 ≤ m ∧ Hs q (a.2 * b.2) (val a, val b) s.1 s.2) (fun s => m - s.1)
    (fun | (i, u) => [(7, .box (7, 0) (spanL u.1 u.2) 0), (10, .v false [.p (.int .i64 (F i))])]) (0, (a, b)) ⟨Nat.zero_le _, z0⟩ (Wk.refl _) ?_
   rintro ⟨i, u⟩ ⟨j1, j2⟩
   dsimp only at j1 j2
   refine go1 ?_
   by_cases hlt : i < m
   ·have hz := m3' i hlt
    obtain ⟨oku, ivu⟩ := j2.ok (K := 4600000) C.monoQ hE k0 (by omega)
    have dH := l6Half_den hq u.1 u.2 (oku.x.mono (by omega)) (oku.y.mono (by omega))
    have j4 := j2.step hq.fp
    have dN := dSide (i + 1) (by omega) _ j4
    rw [j4.eq, hFn] at dN
    rw [show (u.1, u.2) = u from rfl] at dH
    generalize halfF (chainF q) u = u2 at *
    repeat refine vs ?_
    conv => whnf
    refine CallS.mk _ rfl false false _ (dH) rfl ?_
    repeat refine vs ?_
    conv => whnf
    refine CallS.mk _ rfl true true _ (dN) rfl ?_
    repeat refine vs ?_
    conv => whnf
    refine ⟨(i + 1, u2), by dsimp only; omega, ⟨by dsimp only; omega, j4⟩, ?_⟩
    exact Wk.fg
   ·obtain rfl : i = m := by omega
    repeat refine vs ?_
    conv => whnf
    first | rfl | exact ⟨rfl, rfl⟩ | exact ⟨by simp [toRes], rfl⟩
  ·have m0 : m = 0 := by
    rcases Nat.eq_zero_or_pos m with h | h
    ·exact h
    ·exact absurd (m3' 0 h) hs
   subst m0
   repeat refine vs ?_
   conv => whnf
   refine CallS.mk _ rfl true true _ (gS) rfl ?_
   repeat refine vs ?_
   conv => whnf
   refine CallS.mk _ rfl true true _ (gS2) rfl ?_
   repeat refine vs ?_
   conv => whnf
   refine CallS.mk _ rfl true true _ (d0) rfl ?_
   repeat refine vs ?_
   conv => whnf
   refine EVs.loopU (fun s : Nat => s = 0) (fun s => s)
    (fun | _ => [(10, .v false [.p (.int .i64 (F 0))])]) 0 rfl (Wk.refl _) ?_
   intro i j1
   refine go1 ?_
   repeat refine vs ?_
   conv => whnf
   first | rfl | exact ⟨rfl, rfl⟩ | exact ⟨by simp [toRes], rfl⟩
end
end Go.Vx
end
section
/- CompareRoots: the program's function. -/
namespace Go.Vx
open Go.Proofs Sp
set_option maxRecDepth 100000

/-- The part that two intervals have in common. -/
def meetF (s t : (Int × Int) × (Int × Int)) : (Int × Int) × (Int × Int) := (if s.1.1 * t.1.2 < t.1.1 * s.1.2 then t.1 else s.1, if t.2.1 * s.2.2 < s.2.1 * t.2.2 then t.2 else s.2)
theorem vsp_meet {s t : (Int × Int) × (Int × Int)} (h1 : 0 < s.1.2) (h2 : 0 < s.2.2) (h3 : 0 < t.1.2) (h4 : 0 < t.2.2) : vsp (meetF s t) = meet (vsp s) (vsp t) := by
 have e1 := val_lt h1 h3
 have e2 := val_lt h4 h2
 unfold vsp meetF meet
 dsimp only
 by_cases a : s.1.1 * t.1.2 < t.1.1 * s.1.2 <;> by_cases b : t.2.1 * s.2.2 < s.2.1 * t.2.2
 ·rw [if_pos a, if_pos b, if_pos (e1.2 a), if_pos (e2.2 b)]
 ·rw [if_pos a, if_neg b, if_pos (e1.2 a), if_neg (fun h => b (e2.1 h))]
 ·rw [if_neg a, if_pos b, if_neg (fun h => a (e1.1 h)), if_pos (e2.2 b)]
 ·rw [if_neg a, if_neg b, if_neg (fun h => a (e1.1 h)), if_neg (fun h => b (e2.1 h))]
theorem meetF_ok {K : Nat} {s t : (Int × Int) × (Int × Int)} (h1 : okF K s.1) (h2 : okF K s.2) (h3 : okF K t.1) (h4 : okF K t.2) : okF K (meetF s t).1 ∧ okF K (meetF s t).2 := by
 unfold meetF
 dsimp only
 constructor
 ·split
  ·exact h3
  ·exact h1
 ·split
  ·exact h4
  ·exact h2
theorem meeting_den {s t : (Int × Int) × (Int × Int)} (h1 : okF 10000000 s.1) (h2 : okF 10000000 s.2) (h3 : okF 10000000 t.1) (h4 : okF 10000000 t.2) :
  D 83 [spanV s.1.1 s.1.2 s.2.1 s.2.2, spanV t.1.1 t.1.2 t.2.1 t.2.2] false (.one (spanV (meetF s t).1.1 (meetF s t).1.2 (meetF s t).2.1 (meetF s t).2.2)) := by
 have dA := less_den s.1.1 s.1.2 t.1.1 t.1.2 (by have := h1.1; omega) (by have := h3.1; omega) (Nat.le_trans h1.2.1 (by omega)) (Nat.le_trans h1.2.2 (by omega)) (Nat.le_trans h3.2.1 (by omega)) (Nat.le_trans h3.2.2 (by omega))
 have dB := less_den t.2.1 t.2.2 s.2.1 s.2.2 (by have := h4.1; omega) (by have := h2.1; omega) (Nat.le_trans h4.2.1 (by omega)) (Nat.le_trans h4.2.2 (by omega)) (Nat.le_trans h2.2.1 (by omega)) (Nat.le_trans h2.2.2 (by omega))
 refine go Tryz.func83 rfl rfl ?_
 unfold meetF
 dsimp only
 by_cases a : s.1.1 * t.1.2 < t.1.1 * s.1.2
 ·rw [decide_eq_true a] at dA
  rw [if_pos a]
  by_cases b : t.2.1 * s.2.2 < s.2.1 * t.2.2
  ·rw [decide_eq_true b] at dB
   rw [if_pos b]
   repeat refine vs ?_
   conv => whnf
   refine CallS.mk _ rfl true true _ (dA) rfl ?_
   repeat refine vs ?_
   conv => whnf
   refine CallS.mk _ rfl true true _ (dB) rfl ?_
   repeat refine vs ?_
   conv => whnf
   first | rfl | exact ⟨rfl, rfl⟩ | exact ⟨by simp [toRes], rfl⟩
  ·rw [decide_eq_false b] at dB
   rw [if_neg b]
   repeat refine vs ?_
   conv => whnf
   refine CallS.mk _ rfl true true _ (dA) rfl ?_
   repeat refine vs ?_
   conv => whnf
   refine CallS.mk _ rfl true true _ (dB) rfl ?_
   repeat refine vs ?_
   conv => whnf
   first | rfl | exact ⟨rfl, rfl⟩ | exact ⟨by simp [toRes], rfl⟩
 ·rw [decide_eq_false a] at dA
  rw [if_neg a]
  by_cases b : t.2.1 * s.2.2 < s.2.1 * t.2.2
  ·rw [decide_eq_true b] at dB
   rw [if_pos b]
   repeat refine vs ?_
   conv => whnf
   refine CallS.mk _ rfl true true _ (dA) rfl ?_
   repeat refine vs ?_
   conv => whnf
   refine CallS.mk _ rfl true true _ (dB) rfl ?_
   repeat refine vs ?_
   conv => whnf
   first | rfl | exact ⟨rfl, rfl⟩ | exact ⟨by simp [toRes], rfl⟩
  ·rw [decide_eq_false b] at dB
   rw [if_neg b]
   repeat refine vs ?_
   conv => whnf
   refine CallS.mk _ rfl true true _ (dA) rfl ?_
   repeat refine vs ?_
   conv => whnf
   refine CallS.mk _ rfl true true _ (dB) rfl ?_
   repeat refine vs ?_
   conv => whnf
   first | rfl | exact ⟨rfl, rfl⟩ | exact ⟨by simp [toRes], rfl⟩
section
variable {p q : List (Int × Int)} (hp : RootP p) (hq : RootP q) {x y a b : Int × Int} (hx : lowT 4 x) (hy : lowT 4 y) (hle : x.1 * y.2 ≤ y.1 * x.2) (hi : isoF p x y = true)
 (ha : lowT 4 a) (hb : lowT 4 b) (hle2 : a.1 * b.2 ≤ b.1 * a.2) (hi2 : isoF q a b = true)
include hp hq hx hy hle hi ha hb hle2 hi2
set_option maxHeartbeats 16000000 in
theorem cmpI_den' {vg : Rat → Nat} {fg : Rat → Rat} (C : Cts (p2 64) (dB B0) (cnt p) (cnt q) vg (Sp.ev (vl (freeF p))) (Sp.ev (vl (freeF q))) fg)
  (hc : ((comF p q).length < 2 ∧ vg = (fun _ => 0) ∧ fg = fun _ => 1) ∨ (2 ≤ (comF p q).length ∧ vg = cnt (comF p q) ∧ fg = Sp.ev (vl (freeF (comF p q)))))
  (gI : D 68 [(false, [.arr 4 (p.map cellR)]), spanV x.1 x.2 y.1 y.2] true (.one (bP true))) (gI2 : D 68 [(false, [.arr 4 (q.map cellR)]), spanV a.1 a.2 b.1 b.2] true (.one (bP true))) :
  D 37 [(false, [.arr 4 (p.map cellR)]), spanV x.1 x.2 y.1 y.2, (false, [.arr 4 (q.map cellR)]), spanV a.1 a.2 b.1 b.2] true (.tup [iP (verd (p2 64) (leA (cnt p) (val x, val y)) (leA (cnt q) (val a, val b))), bP true]) := by
 have h0 := iv_of hp hx hy hle hi
 have k0 := iv_of hq ha hb hle2 hi2
 have hE := den_ok hx hy
 have hE2 := den_ok ha hb
 have z0 := st_zero (p := p) hx hy
 have z1 := st_zero (p := q) ha hb
 have dG := com_I hp hq
 have dCp := rp_chain_I hp
 have dCq := rp_chain_I hq
 -- the end
 have hend : case1 (hvN (cnt p) (NB + 1) (val x, val y)) (hvN (cnt q) (NB + 1) (val a, val b)) ∨ case1 (hvN (cnt q) (NB + 1) (val a, val b)) (hvN (cnt p) (NB + 1) (val x, val y)) ∨ hold vg fg (meet (hvN (cnt p) (NB + 1) (val x, val y)) (hvN (cnt q) (NB + 1) (val a, val b))) := by
  obtain ⟨i1, i2, i3, i4, i5⟩ := h0.halves C.monoP (NB + 1)
  obtain ⟨j1, j2, j3, j4, j5⟩ := k0.halves C.monoQ (NB + 1)
  have w1 := width_le h0
  have w2 := width_le k0
  rw [p2_add, p2_one] at i4 j4
  have hP := p2_pos NB
  generalize p2 NB = P at *
  generalize hvN (cnt p) (NB + 1) (val x, val y) = s at *
  generalize hvN (cnt q) (NB + 1) (val a, val b) = t at *
  rcases Classical.em (case1 s t) with h | h
  ·exact .inl h
  ·rcases Classical.em (case1 t s) with h' | h'
   ·exact .inr (.inl h')
   ·refine .inr (.inr (hold_end C i1 j1 h h' ?_))
    have c1 : (s.2 - s.1) * 2 ≤ dB B0 := Classical.byContradiction fun hn => by
     have := Rat.mul_lt_mul_of_pos_right (show dB B0 < (s.2 - s.1) * 2 by grind) hP
     grind
    have c2 : (t.2 - t.1) * 2 ≤ dB B0 := Classical.byContradiction fun hn => by
     have := Rat.mul_lt_mul_of_pos_right (show dB B0 < (t.2 - t.1) * 2 by grind) hP
     grind
    grind
 obtain ⟨m, m1, m2, m3⟩ := least (P := fun n => case1 (hvN (cnt p) n (val x, val y)) (hvN (cnt q) n (val a, val b)) ∨ case1 (hvN (cnt q) n (val a, val b)) (hvN (cnt p) n (val x, val y)) ∨ hold vg fg (meet (hvN (cnt p) n (val x, val y)) (hvN (cnt q) n (val a, val b)))) hend
 clear hend
 have hmN : m ≤ 72802382 := Nat.le_trans m1 (by unfold NB; omega)
 refine go Tryz.func37 rfl rfl ?_
 repeat refine vs ?_
 conv => whnf
 refine CallS.mk _ rfl true true _ (gI) rfl ?_
 repeat refine vs ?_
 conv => whnf
 refine CallS.mk _ rfl true true _ (gI2) rfl ?_
 repeat refine vs ?_
 conv => whnf
 refine CallS.mk _ rfl false false _ (dCp) rfl ?_
 repeat refine vs ?_
 conv => whnf
 refine CallS.mk _ rfl false false _ (dCq) rfl ?_
 repeat refine vs ?_
 conv => whnf
 refine CallS.mk _ rfl false false _ (dG) rfl ?_
 repeat refine vs ?_
 conv => whnf
 refine EVs.loopU (fun s : Nat × ((Int × Int) × (Int × Int)) × ((Int × Int) × (Int × Int)) => s.1 ≤ m ∧ Hs p (x.2 * y.2) (val x, val y) s.1 s.2.1 ∧ Hs q (a.2 * b.2) (val a, val b) s.1 s.2.2) (fun s => m - s.1)
  (fun | (i, u, t) => [(5, .box (5, 0) (spanL u.1 u.2) 0), (7, .box (7, 0) (spanL t.1 t.2) 0)]) (0, (x, y), (a, b)) ⟨Nat.zero_le _, z0, z1⟩ (Wk.refl _) ?_
 rintro ⟨i, u, t⟩ ⟨j1, j2, j3⟩
 dsimp only at j1 j2 j3
 obtain ⟨oku, ivu⟩ := j2.ok (K := 4600000) C.monoP hE h0 (by omega)
 obtain ⟨okt, ivt⟩ := j3.ok (K := 4600000) C.monoQ hE2 k0 (by omega)
 have hv : verd (p2 64) (leA (cnt p) (vsp u)) (leA (cnt q) (vsp t)) = verd (p2 64) (leA (cnt p) (val x, val y)) (leA (cnt q) (val a, val b)) := by
  rw [j2.eq, j3.eq]
  exact verd_eq (h0.halves C.monoP i).2.2.2.2 (k0.halves C.monoQ i).2.2.2.2
 rw [← hv]
 clear hv
 -- what is asked
 have dL1 := less_den t.1.1 t.1.2 u.2.1 u.2.2 (by have := okt.x.1; omega) (by have := oku.y.1; omega) (Nat.le_trans okt.x.2.1 (by omega)) (Nat.le_trans okt.x.2.2 (by omega)) (Nat.le_trans oku.y.2.1 (by omega)) (Nat.le_trans oku.y.2.2 (by omega))
 have dL2 := less_den u.1.1 u.1.2 t.2.1 t.2.2 (by have := oku.x.1; omega) (by have := okt.y.1; omega) (Nat.le_trans oku.x.2.1 (by omega)) (Nat.le_trans oku.x.2.2 (by omega)) (Nat.le_trans okt.y.2.1 (by omega)) (Nat.le_trans okt.y.2.2 (by omega))
 have dT := same_den t.1.1 t.1.2 t.2.1 t.2.2 (by have := okt.x.1; omega) (by have := okt.y.1; omega) (Nat.le_trans okt.x.2.1 (by omega)) (Nat.le_trans okt.x.2.2 (by omega)) (Nat.le_trans okt.y.2.1 (by omega)) (Nat.le_trans okt.y.2.2 (by omega))
 have dU := same_den u.1.1 u.1.2 u.2.1 u.2.2 (by have := oku.x.1; omega) (by have := oku.y.1; omega) (Nat.le_trans oku.x.2.1 (by omega)) (Nat.le_trans oku.x.2.2 (by omega)) (Nat.le_trans oku.y.2.1 (by omega)) (Nat.le_trans oku.y.2.2 (by omega))
 have dTU := same_den t.1.1 t.1.2 u.2.1 u.2.2 (by have := okt.x.1; omega) (by have := oku.y.1; omega) (Nat.le_trans okt.x.2.1 (by omega)) (Nat.le_trans okt.x.2.2 (by omega)) (Nat.le_trans oku.y.2.1 (by omega)) (Nat.le_trans oku.y.2.2 (by omega))
 have dUT := same_den u.1.1 u.1.2 t.2.1 t.2.2 (by have := oku.x.1; omega) (by have := okt.y.1; omega) (Nat.le_trans oku.x.2.1 (by omega)) (Nat.le_trans oku.x.2.2 (by omega)) (Nat.le_trans okt.y.2.1 (by omega)) (Nat.le_trans okt.y.2.2 (by omega))
 have dM := meeting_den (s := u) (t := t) (oku.x.mono (by omega)) (oku.y.mono (by omega)) (okt.x.mono (by omega)) (okt.y.mono (by omega))
 have mok := meetF_ok oku.x oku.y okt.x okt.y
 have dHo := com_holds hp hq (meetF u t).1 (meetF u t).2 (mok.1.mono (by omega)) (mok.2.mono (by omega))
 have hho := any_hold hp hq hc mok.1.1 mok.2.1
 have vm : (val (meetF u t).1, val (meetF u t).2) = meet (vsp u) (vsp t) := vsp_meet oku.x.1 oku.y.1 okt.x.1 okt.y.1
 rw [vm] at hho
 have l1 := val_lt okt.x.1 oku.y.1
 have l2 := val_lt oku.x.1 okt.y.1
 have e1 := val_eq okt.x.1 okt.y.1
 have e2 := val_eq oku.x.1 oku.y.1
 have e3 := val_eq okt.x.1 oku.y.1
 have e4 := val_eq oku.x.1 okt.y.1
 have hc1 : case1 (vsp u) (vsp t) ↔ (¬ t.1.1 * u.2.2 < u.2.1 * t.1.2 ∧ ¬ (t.1.1 * t.2.2 = t.2.1 * t.1.2 ∧ t.1.1 * u.2.2 = u.2.1 * t.1.2)) := by
  show (¬ val t.1 < val u.2 ∧ ¬ (val t.1 = val t.2 ∧ val t.1 = val u.2)) ↔ _
  rw [l1, e1, e3]
 have hc2 : case1 (vsp t) (vsp u) ↔ (¬ u.1.1 * t.2.2 < t.2.1 * u.1.2 ∧ ¬ (u.1.1 * u.2.2 = u.2.1 * u.1.2 ∧ u.1.1 * t.2.2 = t.2.1 * u.1.2)) := by
  show (¬ val u.1 < val t.2 ∧ ¬ (val u.1 = val u.2 ∧ val u.1 = val t.2)) ↔ _
  rw [l2, e2, e4]
 have r1 : case1 (vsp u) (vsp t) → verd (p2 64) (leA (cnt p) (vsp u)) (leA (cnt q) (vsp t)) = -1 := fun h => verd_less (case1_less C.monoP C.monoQ ivu ivt h)
 have r2 : case1 (vsp t) (vsp u) → verd (p2 64) (leA (cnt p) (vsp u)) (leA (cnt q) (vsp t)) = 1 := fun h => verd_more C.monoP C.monoQ ivu ivt (case1_less C.monoQ C.monoP ivt ivu h)
 have r3 : ¬ case1 (vsp u) (vsp t) → ¬ case1 (vsp t) (vsp u) → hold vg fg (meet (vsp u) (vsp t)) → verd (p2 64) (leA (cnt p) (vsp u)) (leA (cnt q) (vsp t)) = 0 := fun h h' k => verd_same (hold_same C ivu ivt h h' k)
 have r4 : ¬ case1 (vsp u) (vsp t) → ¬ case1 (vsp t) (vsp u) → (u.1.1 * u.2.2 = u.2.1 * u.1.2 ∧ t.1.1 * t.2.2 = t.2.1 * t.1.2) → hold vg fg (meet (vsp u) (vsp t)) := fun h h' k => hold_end C ivu ivt h h' (by
  have a1 : (vsp u).1 = (vsp u).2 := e2.2 k.1
  have a2 : (vsp t).1 = (vsp t).2 := e1.2 k.2
  have := dB_pos B0
  grind)
 have hlast : ¬ case1 (vsp u) (vsp t) → ¬ case1 (vsp t) (vsp u) → ¬ hold vg fg (meet (vsp u) (vsp t)) → i < m := fun h h' k => by
  rcases Nat.lt_or_ge i m with hlt | hge
  ·exact hlt
  ·obtain rfl : i = m := by omega
   rw [← j2.eq, ← j3.eq] at m2
   exact absurd m2 (by rintro (k1 | k1 | k1); exact h k1; exact h' k1; exact k k1)
 generalize verd (p2 64) (leA (cnt p) (vsp u)) (leA (cnt q) (vsp t)) = v at *
 generalize case1 (vsp u) (vsp t) = c1 at *
 generalize case1 (vsp t) (vsp u) = c2 at *
 generalize hold vg fg (meet (vsp u) (vsp t)) = ho at *
 have dH1 := halved_den hp u.1 u.2 (oku.x.mono (by omega)) (oku.y.mono (by omega))
 have dH2 := halved_den hq t.1 t.2 (okt.x.mono (by omega)) (okt.y.mono (by omega))
 have j4 := j2.step hp.fp
 have j5 := j3.step hq.fp
 rw [show (u.1, u.2) = u from rfl] at dH1
 rw [show (t.1, t.2) = t from rfl] at dH2
 generalize halfF (chainF p) u = u2 at *
 generalize halfF (chainF q) t = t2 at *
 generalize meetF u t = mt at *
 generalize comF p q = g at *
 refine go1 ?_
 by_cases hL1 : t.1.1 * u.2.2 < u.2.1 * t.1.2
 ·rw [decide_eq_true hL1] at dL1
  have n1 : ¬ c1 := fun h => by have := hc1.1 h; simp_all
  by_cases hL2 : u.1.1 * t.2.2 < t.2.1 * u.1.2
  ·rw [decide_eq_true hL2] at dL2
   have n2 : ¬ c2 := fun h => by have := hc2.1 h; simp_all
   by_cases hh : ho
   ·have hv := r3 n1 n2 hh
    rw [hv]
    rw [hho.2 hh] at dHo
    repeat refine vs ?_
    conv => whnf
    refine CallS.mk _ rfl true true _ (dL1) rfl ?_
    repeat refine vs ?_
    conv => whnf
    refine CallS.mk _ rfl true true _ (dL2) rfl ?_
    repeat refine vs ?_
    conv => whnf
    refine CallS.mk _ rfl false false _ (dM) rfl ?_
    repeat refine vs ?_
    conv => whnf
    refine CallS.mk _ rfl true true _ (dHo) rfl ?_
    repeat refine vs ?_
    conv => whnf
    first | rfl | exact ⟨rfl, rfl⟩ | exact ⟨by simp [toRes], rfl⟩
   ·have hlt := hlast n1 n2 hh
    rw [show anyF g mt.1 mt.2 = false from Bool.eq_false_iff.2 fun h => hh (hho.1 h)] at dHo
    by_cases hU : u.1.1 * u.2.2 = u.2.1 * u.1.2
    ·rw [decide_eq_true hU] at dU
     by_cases hT : t.1.1 * t.2.2 = t.2.1 * t.1.2
     ·rw [decide_eq_true hT] at dT
      exact absurd (r4 n1 n2 ⟨hU, hT⟩) hh
     ·rw [decide_eq_false hT] at dT
      repeat refine vs ?_
      conv => whnf
      refine CallS.mk _ rfl true true _ (dL1) rfl ?_
      repeat refine vs ?_
      conv => whnf
      refine CallS.mk _ rfl true true _ (dL2) rfl ?_
      repeat refine vs ?_
      conv => whnf
      refine CallS.mk _ rfl false false _ (dM) rfl ?_
      repeat refine vs ?_
      conv => whnf
      refine CallS.mk _ rfl true true _ (dHo) rfl ?_
      repeat refine vs ?_
      conv => whnf
      refine CallS.mk _ rfl true true _ (dU) rfl ?_
      repeat refine vs ?_
      conv => whnf
      refine CallS.mk _ rfl true true _ (dT) rfl ?_
      repeat refine vs ?_
      conv => whnf
      refine CallS.mk _ rfl false false _ (dH1) rfl ?_
      repeat refine vs ?_
      conv => whnf
      refine CallS.mk _ rfl false false _ (dH2) rfl ?_
      repeat refine vs ?_
      conv => whnf
      refine ⟨(i + 1, u2, t2), by dsimp only; omega, ⟨by dsimp only; omega, j4, j5⟩, ?_⟩
      exact Wk.fg
    ·rw [decide_eq_false hU] at dU
     repeat refine vs ?_
     conv => whnf
     refine CallS.mk _ rfl true true _ (dL1) rfl ?_
     repeat refine vs ?_
     conv => whnf
     refine CallS.mk _ rfl true true _ (dL2) rfl ?_
     repeat refine vs ?_
     conv => whnf
     refine CallS.mk _ rfl false false _ (dM) rfl ?_
     repeat refine vs ?_
     conv => whnf
     refine CallS.mk _ rfl true true _ (dHo) rfl ?_
     repeat refine vs ?_
     conv => whnf
     refine CallS.mk _ rfl true true _ (dU) rfl ?_
     repeat refine vs ?_
     conv => whnf
     refine CallS.mk _ rfl false false _ (dH1) rfl ?_
     repeat refine vs ?_
     conv => whnf
     refine CallS.mk _ rfl false false _ (dH2) rfl ?_
     repeat refine vs ?_
     conv => whnf
     refine ⟨(i + 1, u2, t2), by dsimp only; omega, ⟨by dsimp only; omega, j4, j5⟩, ?_⟩
     exact Wk.fg
  ·rw [decide_eq_false hL2] at dL2
   by_cases hU : u.1.1 * u.2.2 = u.2.1 * u.1.2
   ·rw [decide_eq_true hU] at dU
    by_cases hUT : u.1.1 * t.2.2 = t.2.1 * u.1.2
    ·rw [decide_eq_true hUT] at dUT
     have n2 : ¬ c2 := fun h => by have := hc2.1 h; simp_all
     by_cases hh : ho
     ·have hv := r3 n1 n2 hh
      rw [hv]
      rw [hho.2 hh] at dHo
      repeat refine vs ?_
      conv => whnf
      refine CallS.mk _ rfl true true _ (dL1) rfl ?_
      repeat refine vs ?_
      conv => whnf
      refine CallS.mk _ rfl true true _ (dL2) rfl ?_
      repeat refine vs ?_
      conv => whnf
      refine CallS.mk _ rfl true true _ (dU) rfl ?_
      repeat refine vs ?_
      conv => whnf
      refine CallS.mk _ rfl true true _ (dUT) rfl ?_
      repeat refine vs ?_
      conv => whnf
      refine CallS.mk _ rfl false false _ (dM) rfl ?_
      repeat refine vs ?_
      conv => whnf
      refine CallS.mk _ rfl true true _ (dHo) rfl ?_
      repeat refine vs ?_
      conv => whnf
      first | rfl | exact ⟨rfl, rfl⟩ | exact ⟨by simp [toRes], rfl⟩
     ·have hlt := hlast n1 n2 hh
      rw [show anyF g mt.1 mt.2 = false from Bool.eq_false_iff.2 fun h => hh (hho.1 h)] at dHo
      by_cases hT : t.1.1 * t.2.2 = t.2.1 * t.1.2
      ·rw [decide_eq_true hT] at dT
       exact absurd (r4 n1 n2 ⟨hU, hT⟩) hh
      ·rw [decide_eq_false hT] at dT
       repeat refine vs ?_
       conv => whnf
       refine CallS.mk _ rfl true true _ (dL1) rfl ?_
       repeat refine vs ?_
       conv => whnf
       refine CallS.mk _ rfl true true _ (dL2) rfl ?_
       repeat refine vs ?_
       conv => whnf
       refine CallS.mk _ rfl true true _ (dU) rfl ?_
       repeat refine vs ?_
       conv => whnf
       refine CallS.mk _ rfl true true _ (dUT) rfl ?_
       repeat refine vs ?_
       conv => whnf
       refine CallS.mk _ rfl false false _ (dM) rfl ?_
       repeat refine vs ?_
       conv => whnf
       refine CallS.mk _ rfl true true _ (dHo) rfl ?_
       repeat refine vs ?_
       conv => whnf
       refine CallS.mk _ rfl true true _ (dU) rfl ?_
       repeat refine vs ?_
       conv => whnf
       refine CallS.mk _ rfl true true _ (dT) rfl ?_
       repeat refine vs ?_
       conv => whnf
       refine CallS.mk _ rfl false false _ (dH1) rfl ?_
       repeat refine vs ?_
       conv => whnf
       refine CallS.mk _ rfl false false _ (dH2) rfl ?_
       repeat refine vs ?_
       conv => whnf
       refine ⟨(i + 1, u2, t2), by dsimp only; omega, ⟨by dsimp only; omega, j4, j5⟩, ?_⟩
       exact Wk.fg
    ·rw [decide_eq_false hUT] at dUT
     have hv := r2 (hc2.2 ⟨by assumption, fun h => by simp_all⟩)
     rw [hv]
     repeat refine vs ?_
     conv => whnf
     refine CallS.mk _ rfl true true _ (dL1) rfl ?_
     repeat refine vs ?_
     conv => whnf
     refine CallS.mk _ rfl true true _ (dL2) rfl ?_
     repeat refine vs ?_
     conv => whnf
     refine CallS.mk _ rfl true true _ (dU) rfl ?_
     repeat refine vs ?_
     conv => whnf
     refine CallS.mk _ rfl true true _ (dUT) rfl ?_
     repeat refine vs ?_
     conv => whnf
     first | rfl | exact ⟨rfl, rfl⟩ | exact ⟨by simp [toRes], rfl⟩
   ·rw [decide_eq_false hU] at dU
    have hv := r2 (hc2.2 ⟨by assumption, fun h => by simp_all⟩)
    rw [hv]
    repeat refine vs ?_
    conv => whnf
    refine CallS.mk _ rfl true true _ (dL1) rfl ?_
    repeat refine vs ?_
    conv => whnf
    refine CallS.mk _ rfl true true _ (dL2) rfl ?_
    repeat refine vs ?_
    conv => whnf
    refine CallS.mk _ rfl true true _ (dU) rfl ?_
    repeat refine vs ?_
    conv => whnf
    first | rfl | exact ⟨rfl, rfl⟩ | exact ⟨by simp [toRes], rfl⟩
 ·rw [decide_eq_false hL1] at dL1
  by_cases hT : t.1.1 * t.2.2 = t.2.1 * t.1.2
  ·rw [decide_eq_true hT] at dT
   by_cases hTU : t.1.1 * u.2.2 = u.2.1 * t.1.2
   ·rw [decide_eq_true hTU] at dTU
    have n1 : ¬ c1 := fun h => by have := hc1.1 h; simp_all
    by_cases hL2 : u.1.1 * t.2.2 < t.2.1 * u.1.2
    ·rw [decide_eq_true hL2] at dL2
     have n2 : ¬ c2 := fun h => by have := hc2.1 h; simp_all
     by_cases hh : ho
     ·have hv := r3 n1 n2 hh
      rw [hv]
      rw [hho.2 hh] at dHo
      repeat refine vs ?_
      conv => whnf
      refine CallS.mk _ rfl true true _ (dL1) rfl ?_
      repeat refine vs ?_
      conv => whnf
      refine CallS.mk _ rfl true true _ (dT) rfl ?_
      repeat refine vs ?_
      conv => whnf
      refine CallS.mk _ rfl true true _ (dTU) rfl ?_
      repeat refine vs ?_
      conv => whnf
      refine CallS.mk _ rfl true true _ (dL2) rfl ?_
      repeat refine vs ?_
      conv => whnf
      refine CallS.mk _ rfl false false _ (dM) rfl ?_
      repeat refine vs ?_
      conv => whnf
      refine CallS.mk _ rfl true true _ (dHo) rfl ?_
      repeat refine vs ?_
      conv => whnf
      first | rfl | exact ⟨rfl, rfl⟩ | exact ⟨by simp [toRes], rfl⟩
     ·have hlt := hlast n1 n2 hh
      rw [show anyF g mt.1 mt.2 = false from Bool.eq_false_iff.2 fun h => hh (hho.1 h)] at dHo
      by_cases hU : u.1.1 * u.2.2 = u.2.1 * u.1.2
      ·rw [decide_eq_true hU] at dU
       exact absurd (r4 n1 n2 ⟨hU, hT⟩) hh
      ·rw [decide_eq_false hU] at dU
       repeat refine vs ?_
       conv => whnf
       refine CallS.mk _ rfl true true _ (dL1) rfl ?_
       repeat refine vs ?_
       conv => whnf
       refine CallS.mk _ rfl true true _ (dT) rfl ?_
       repeat refine vs ?_
       conv => whnf
       refine CallS.mk _ rfl true true _ (dTU) rfl ?_
       repeat refine vs ?_
       conv => whnf
       refine CallS.mk _ rfl true true _ (dL2) rfl ?_
       repeat refine vs ?_
       conv => whnf
       refine CallS.mk _ rfl false false _ (dM) rfl ?_
       repeat refine vs ?_
       conv => whnf
       refine CallS.mk _ rfl true true _ (dHo) rfl ?_
       repeat refine vs ?_
       conv => whnf
       refine CallS.mk _ rfl true true _ (dU) rfl ?_
       repeat refine vs ?_
       conv => whnf
       refine CallS.mk _ rfl false false _ (dH1) rfl ?_
       repeat refine vs ?_
       conv => whnf
       refine CallS.mk _ rfl false false _ (dH2) rfl ?_
       repeat refine vs ?_
       conv => whnf
       refine ⟨(i + 1, u2, t2), by dsimp only; omega, ⟨by dsimp only; omega, j4, j5⟩, ?_⟩
       exact Wk.fg
    ·rw [decide_eq_false hL2] at dL2
     by_cases hU : u.1.1 * u.2.2 = u.2.1 * u.1.2
     ·rw [decide_eq_true hU] at dU
      by_cases hUT : u.1.1 * t.2.2 = t.2.1 * u.1.2
      ·rw [decide_eq_true hUT] at dUT
       have n2 : ¬ c2 := fun h => by have := hc2.1 h; simp_all
       by_cases hh : ho
       ·have hv := r3 n1 n2 hh
        rw [hv]
        rw [hho.2 hh] at dHo
        repeat refine vs ?_
        conv => whnf
        refine CallS.mk _ rfl true true _ (dL1) rfl ?_
        repeat refine vs ?_
        conv => whnf
        refine CallS.mk _ rfl true true _ (dT) rfl ?_
        repeat refine vs ?_
        conv => whnf
        refine CallS.mk _ rfl true true _ (dTU) rfl ?_
        repeat refine vs ?_
        conv => whnf
        refine CallS.mk _ rfl true true _ (dL2) rfl ?_
        repeat refine vs ?_
        conv => whnf
        refine CallS.mk _ rfl true true _ (dU) rfl ?_
        repeat refine vs ?_
        conv => whnf
        refine CallS.mk _ rfl true true _ (dUT) rfl ?_
        repeat refine vs ?_
        conv => whnf
        refine CallS.mk _ rfl false false _ (dM) rfl ?_
        repeat refine vs ?_
        conv => whnf
        refine CallS.mk _ rfl true true _ (dHo) rfl ?_
        repeat refine vs ?_
        conv => whnf
        first | rfl | exact ⟨rfl, rfl⟩ | exact ⟨by simp [toRes], rfl⟩
       ·have hlt := hlast n1 n2 hh
        rw [show anyF g mt.1 mt.2 = false from Bool.eq_false_iff.2 fun h => hh (hho.1 h)] at dHo
        exact absurd (r4 n1 n2 ⟨hU, hT⟩) hh
      ·rw [decide_eq_false hUT] at dUT
       have hv := r2 (hc2.2 ⟨by assumption, fun h => by simp_all⟩)
       rw [hv]
       repeat refine vs ?_
       conv => whnf
       refine CallS.mk _ rfl true true _ (dL1) rfl ?_
       repeat refine vs ?_
       conv => whnf
       refine CallS.mk _ rfl true true _ (dT) rfl ?_
       repeat refine vs ?_
       conv => whnf
       refine CallS.mk _ rfl true true _ (dTU) rfl ?_
       repeat refine vs ?_
       conv => whnf
       refine CallS.mk _ rfl true true _ (dL2) rfl ?_
       repeat refine vs ?_
       conv => whnf
       refine CallS.mk _ rfl true true _ (dU) rfl ?_
       repeat refine vs ?_
       conv => whnf
       refine CallS.mk _ rfl true true _ (dUT) rfl ?_
       repeat refine vs ?_
       conv => whnf
       first | rfl | exact ⟨rfl, rfl⟩ | exact ⟨by simp [toRes], rfl⟩
     ·rw [decide_eq_false hU] at dU
      have hv := r2 (hc2.2 ⟨by assumption, fun h => by simp_all⟩)
      rw [hv]
      repeat refine vs ?_
      conv => whnf
      refine CallS.mk _ rfl true true _ (dL1) rfl ?_
      repeat refine vs ?_
      conv => whnf
      refine CallS.mk _ rfl true true _ (dT) rfl ?_
      repeat refine vs ?_
      conv => whnf
      refine CallS.mk _ rfl true true _ (dTU) rfl ?_
      repeat refine vs ?_
      conv => whnf
      refine CallS.mk _ rfl true true _ (dL2) rfl ?_
      repeat refine vs ?_
      conv => whnf
      refine CallS.mk _ rfl true true _ (dU) rfl ?_
      repeat refine vs ?_
      conv => whnf
      first | rfl | exact ⟨rfl, rfl⟩ | exact ⟨by simp [toRes], rfl⟩
   ·rw [decide_eq_false hTU] at dTU
    have hv := r1 (hc1.2 ⟨by assumption, fun h => by simp_all⟩)
    rw [hv]
    repeat refine vs ?_
    conv => whnf
    refine CallS.mk _ rfl true true _ (dL1) rfl ?_
    repeat refine vs ?_
    conv => whnf
    refine CallS.mk _ rfl true true _ (dT) rfl ?_
    repeat refine vs ?_
    conv => whnf
    refine CallS.mk _ rfl true true _ (dTU) rfl ?_
    repeat refine vs ?_
    conv => whnf
    first | rfl | exact ⟨rfl, rfl⟩ | exact ⟨by simp [toRes], rfl⟩
  ·rw [decide_eq_false hT] at dT
   have hv := r1 (hc1.2 ⟨by assumption, fun h => by simp_all⟩)
   rw [hv]
   repeat refine vs ?_
   conv => whnf
   refine CallS.mk _ rfl true true _ (dL1) rfl ?_
   repeat refine vs ?_
   conv => whnf
   refine CallS.mk _ rfl true true _ (dT) rfl ?_
   repeat refine vs ?_
   conv => whnf
   first | rfl | exact ⟨rfl, rfl⟩ | exact ⟨by simp [toRes], rfl⟩
end
end Go.Vx
end
section
/- CompareRoots: both functions. -/
namespace Go.Vx
open Go.Proofs Sp
set_option maxRecDepth 100000
set_option maxHeartbeats 4000000 in
theorem compareRootsBoth (rs : List RawQ) (n1 : Bool) (l1 : List Int) (p1 : Bool) (q1 : List Int) (n2 : Bool) (l2 : List Int) (p2 : Bool) (q2 : List Int) (rs2 : List RawQ) (n3 : Bool) (l3 : List Int) (p3 : Bool) (q3 : List Int) (n4 : Bool) (l4 : List Int) (p4 : Bool) (q4 : List Int)
  (hrs : shortP 1048576 rs) (h1 : l1.length ≤ 1000000000000) (h2 : q1.length ≤ 1000000000000) (h3 : l2.length ≤ 1000000000000) (h4 : q2.length ≤ 1000000000000) (hrs2 : shortP 1048576 rs2) (h5 : l3.length ≤ 1000000000000) (h6 : q3.length ≤ 1000000000000) (h7 : l4.length ≤ 1000000000000) (h8 : q4.length ≤ 1000000000000) :
  ∃ y b, D 36 [polQ rs, spanR n1 l1 p1 q1 n2 l2 p2 q2, polQ rs2, spanR n3 l3 p3 q3 n4 l4 p4 q4] false (.tup [iP y, bP b]) ∧ D 37 [polQ rs, spanR n1 l1 p1 q1 n2 l2 p2 q2, polQ rs2, spanR n3 l3 p3 q3 n4 l4 p4 q4] true (.tup [iP y, bP b]) := by
 rcases l6Good_den rs ⟨n1, l1, p1, q1⟩ ⟨n2, l2, p2, q2⟩ hrs h1 h2 h3 h4 with ⟨fs, x, y, rfl, hx, hy, hr, hxl, hyl, hle, hiso, gS, gI⟩ | ⟨gS, gI⟩
 ·rcases l6Good_den rs2 ⟨n3, l3, p3, q3⟩ ⟨n4, l4, p4, q4⟩ hrs2 h5 h6 h7 h8 with ⟨gs, a, b, rfl, ha, hb, hq, hal, hbl, hle2, hiso2, gS2, gI2⟩ | ⟨gS2, gI2⟩
  ·unfold qF at hx hy ha hb
   cases hx
   cases hy
   cases ha
   cases hb
   obtain ⟨vg, fg, C, hc⟩ := cts_of hr hq
   unfold polQ at *
   rw [map_qF] at *
   rw [map_qF] at *
   exact ⟨_, true, cmpS_den hr hq hxl hyl hle hiso hal hbl hle2 hiso2 C hc gS gS2, cmpI_den' hr hq hxl hyl hle hiso hal hbl hle2 hiso2 C hc gI gI2⟩
  ·refine ⟨0, false, go Tryz.func36 rfl rfl ?_, go Tryz.func37 rfl rfl ?_⟩
   ·repeat refine vs ?_
    conv => whnf
    refine CallS.mk _ rfl true true _ (gS) rfl ?_
    repeat refine vs ?_
    conv => whnf
    refine CallS.mk _ rfl true true _ (gS2) rfl ?_
    repeat refine vs ?_
    conv => whnf
    first | rfl | exact ⟨rfl, rfl⟩ | exact ⟨by simp [toRes], rfl⟩
   ·repeat refine vs ?_
    conv => whnf
    refine CallS.mk _ rfl true true _ (gI) rfl ?_
    repeat refine vs ?_
    conv => whnf
    refine CallS.mk _ rfl true true _ (gI2) rfl ?_
    repeat refine vs ?_
    conv => whnf
    first | rfl | exact ⟨rfl, rfl⟩ | exact ⟨by simp [toRes], rfl⟩
 ·refine ⟨0, false, go Tryz.func36 rfl rfl ?_, go Tryz.func37 rfl rfl ?_⟩
  ·repeat refine vs ?_
   conv => whnf
   refine CallS.mk _ rfl true true _ (gS) rfl ?_
   repeat refine vs ?_
   conv => whnf
   first | rfl | exact ⟨rfl, rfl⟩ | exact ⟨by simp [toRes], rfl⟩
  ·repeat refine vs ?_
   conv => whnf
   refine CallS.mk _ rfl true true _ (gI) rfl ?_
   repeat refine vs ?_
   conv => whnf
   first | rfl | exact ⟨rfl, rfl⟩ | exact ⟨by simp [toRes], rfl⟩
end Go.Vx
end
