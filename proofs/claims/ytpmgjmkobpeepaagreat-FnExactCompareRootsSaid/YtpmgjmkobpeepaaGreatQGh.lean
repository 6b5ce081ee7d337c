/- Q19, Q20 -/
import Derived.Test.YtpmgjmkobpeepaaGreatQGg
set_option linter.unusedVariables false
set_option linter.unusedSectionVars false
set_option linter.unusedSimpArgs false
section
/- SignAtRoot: the two programs' loops. -/
namespace Go.Vx
open Go.Proofs Sp
set_option maxRecDepth 100000

theorem least {P : Nat → Prop} : ∀ {n : Nat}, P n → ∃ m, m ≤ n ∧ P m ∧ ∀ i, i < m → ¬ P i := by
 intro n
 induction n using Nat.strongRecOn with
 | _ n ih =>
  intro h
  by_cases k : ∃ i, i < n ∧ P i
  ·obtain ⟨i, i1, i2⟩ := k
   obtain ⟨m, m1, m2, m3⟩ := ih i i1 i2
   exact ⟨m, by omega, m2, m3⟩
  ·exact ⟨n, Nat.le_refl _, h, fun i hi hP => k ⟨i, hi, hP⟩⟩
def NB : Nat := 72802381
theorem NB_eq : NB = dbits B0 + 65 := by unfold NB dbits B0; rfl
theorem width_le {p : Rat → Nat} {fp : Rat → Rat} {s : Rat × Rat} (h : Iv (p2 64) p fp s) : s.2 - s.1 ≤ dB B0 * p2 NB := by
 have a1 := ab_le s.2
 have a2 := ab_neg_le s.1
 have hx := h.x
 have hy := h.y
 have e : dB B0 * p2 NB = p2 65 := by
  have := inv_mul (dbits B0)
  rw [NB_eq, p2_add, ← Rat.mul_assoc]
  unfold dB
  rw [this, Rat.one_mul]
 have e2 : p2 65 = p2 64 * 2 := by rw [show (65 : Nat) = 64 + 1 from rfl, p2_add, p2_one]
 rw [e, e2]
 grind
theorem refF_succ (L : List (List (Int × Int))) : ∀ (n : Nat) (s : (Int × Int) × (Int × Int)), refF L (n + 1) s = halfF L (refF L n s)
 | 0, _ => rfl
 | n + 1, s => by
  show refF L (n + 1) (halfF L s) = halfF L (refF L n (halfF L s))
  exact refF_succ L n (halfF L s)
theorem hs_ref {p : List (Int × Int)} (hp : FP p) {E : Int} {s0 : Rat × Rat} {s : (Int × Int) × (Int × Int)} (h : Hs p E s0 0 s) : ∀ n : Nat, Hs p E s0 n (refF (chainF p) n s)
 | 0 => h
 | n + 1 => by rw [refF_succ]; exact (hs_ref hp h n).step hp
theorem l6Sign_den (x : Int × Int) (hx : okF 40000000000 x) : D 131 [ratV x.1 x.2] true (.one (iP (cmpI x.1 0))) := by
 have d0 := whole_R 0 (by omega) (by omega)
 have dC := l2Cmp_den x.1 x.2 0 1 (by have := hx.1; omega) (by omega) (Nat.le_trans hx.2.1 (by omega)) (Nat.le_trans hx.2.2 (by omega)) (Nat.le_trans d0.2.1 (by omega)) (Nat.le_trans d0.2.2 (by omega))
 rw [Int.mul_one, Int.zero_mul] at dC
 refine go Tryz.func131 rfl rfl ?_
 repeat refine vs ?_
 conv => whnf
 refine CallS.mk _ rfl true false _ (l2Int_den 0 (by omega) (by omega)) rfl ?_
 repeat refine vs ?_
 conv => whnf
 refine CallS.mk _ rfl true true _ (dC) rfl ?_
 repeat refine vs ?_
 conv => whnf
 first | rfl | exact ⟨rfl, rfl⟩ | exact ⟨by simp [toRes], rfl⟩
set_option maxHeartbeats 8000000 in
/-- The reference's loop, for any second polynomial. -/
theorem signS_gen {p q g : List (Int × Int)} (hp : RootP p) {x y : Int × Int} {m : Nat} {S : (Int × Int) × (Int × Int)} {w : Int × Int} (Inv : Nat → (Int × Int) × (Int × Int) → Prop)
  (dGS : D 59 [(false, [.arr 4 (p.map cellR)]), (false, [.arr 4 (q.map cellR)])] false (.one (false, [.arr 4 (g.map cellR)])))
  (dIS : ¬ g.length < 2 → D 117 [(false, [.arr 4 (g.map cellR)]), spanV x.1 x.2 y.1 y.2] true (.one (bP false)))
  (h0 : Inv 0 (x, y)) (hS : refF (chainF p) m (x, y) = S) (hstep : ∀ i u, Inv i u → Inv (i + 1) (halfF (chainF p) u))
  (loop : ∀ (i : Nat) (u : (Int × Int) × (Int × Int)), i ≤ m → Inv i u → refF (chainF p) (m - i) u = S →
   SpanOK 30000000 u ∧ D 118 [ratV u.1.1 u.1.2, ratV u.2.1 u.2.2] true (.one (iP (cmpI (u.1.1 * u.2.2) (u.2.1 * u.1.2)))) ∧ D 120 [(false, [.arr 4 (q.map cellR)]), ratV u.1.1 u.1.2, ratV u.2.1 u.2.2] true (.one (iP (chgAt (chainF q) u.1 - chgAt (chainF q) u.2))) ∧
    ((i < m ∧ cmpI (u.1.1 * u.2.2) (u.2.1 * u.1.2) < 0 ∧ 0 < chgAt (chainF q) u.1 - chgAt (chainF q) u.2) ∨ (i = m ∧ u = S ∧ (¬ cmpI (u.1.1 * u.2.2) (u.2.1 * u.1.2) < 0 ∨ (cmpI (u.1.1 * u.2.2) (u.2.1 * u.1.2) < 0 ∧ ¬ 0 < chgAt (chainF q) u.1 - chgAt (chainF q) u.2)))))
  (dAS : D 130 [(false, [.arr 4 (q.map cellR)]), ratV S.2.1 S.2.2] false (.one (ratV w.1 w.2))) (ho : okF 40000000000 w) (hne : w.1 ≠ 0) :
  D 76 [(false, [.arr 4 (p.map cellR)]), spanV x.1 x.2 y.1 y.2, (false, [.arr 4 (q.map cellR)])] true (.one (iP (cmpI w.1 0))) := by
 have hgl : (g.map cellR).length = g.length := by simp
 have dSS := l6Sign_den w ho
 have hl4 := l4Zero_den (decide (w.1 < 0)) (Lm.lim w.1.natAbs) (decide (w.2 < 0)) (Lm.lim w.2.natAbs) (Nat.le_trans ho.2.1 (by omega))
 have hz : (Lm.lim w.1.natAbs = []) ↔ w.1 = 0 := by rw [Lm.lim_eq_nil]; omega
 rw [show decide (Lm.lim w.1.natAbs = []) = false from decide_eq_false fun h => hne (hz.1 h)] at hl4
 refine go Tryz.func76 rfl rfl ?_
 by_cases hl : g.length < 2
 ·repeat refine vs ?_
  conv => whnf
  refine CallS.mk _ rfl false false _ (dGS) rfl ?_
  repeat refine vs ?_
  conv => whnf
  refine EVs.loopU (fun s : Nat × ((Int × Int) × (Int × Int)) => s.1 ≤ m ∧ Inv s.1 s.2 ∧ refF (chainF p) (m - s.1) s.2 = S) (fun s => m - s.1)
   (fun | (i, u) => [(4, .box (4, 0) (spanL u.1 u.2) 0)]) (0, (x, y)) ⟨Nat.zero_le _, h0, by dsimp only; rw [Nat.sub_zero]; exact hS⟩ (Wk.refl _) ?_
  rintro ⟨i, u⟩ ⟨j1, j2, j3⟩
  dsimp only at j1 j2 j3
  obtain ⟨oku, dM, dC, hcase⟩ := loop i u j1 j2 j3
  generalize cmpI (u.1.1 * u.2.2) (u.2.1 * u.1.2) = c1 at *
  generalize chgAt (chainF q) u.1 - chgAt (chainF q) u.2 = c2 at *
  refine go1 ?_
  rcases hcase with ⟨hc, k1, k2⟩ | ⟨hc, k0, k1 | ⟨k1, k2⟩⟩
  ·have dH := l6Half_den hp u.1 u.2 (oku.x.mono (by omega)) (oku.y.mono (by omega))
   have j4 := hstep i u j2
   have j5 : refF (chainF p) (m - (i + 1)) (halfF (chainF p) u) = S := by
    rw [show m - i = (m - (i + 1)) + 1 by omega] at j3
    exact j3
   rw [show (u.1, u.2) = u from rfl] at dH
   generalize halfF (chainF p) u = u2 at *
   repeat refine vs ?_
   conv => whnf
   refine CallS.mk _ rfl true true _ (dM) rfl ?_
   repeat refine vs ?_
   conv => whnf
   refine CallS.mk _ rfl true true _ (dC) rfl ?_
   repeat refine vs ?_
   conv => whnf
   refine CallS.mk _ rfl false false _ (dH) rfl ?_
   repeat refine vs ?_
   conv => whnf
   refine ⟨(i + 1, u2), by dsimp only; omega, ⟨by dsimp only; omega, j4, j5⟩, ?_⟩
   exact Wk.fg
  ·cases k0
   repeat refine vs ?_
   conv => whnf
   refine CallS.mk _ rfl true true _ (dM) rfl ?_
   repeat refine vs ?_
   conv => whnf
   refine CallS.mk _ rfl false false _ (dAS) rfl ?_
   repeat refine vs ?_
   conv => whnf
   refine CallS.mk _ rfl true true _ (dSS) rfl ?_
   repeat refine vs ?_
   conv => whnf
   first | rfl | exact ⟨rfl, rfl⟩ | exact ⟨by simp [toRes], rfl⟩
  ·cases k0
   repeat refine vs ?_
   conv => whnf
   refine CallS.mk _ rfl true true _ (dM) rfl ?_
   repeat refine vs ?_
   conv => whnf
   refine CallS.mk _ rfl true true _ (dC) rfl ?_
   repeat refine vs ?_
   conv => whnf
   refine CallS.mk _ rfl false false _ (dAS) rfl ?_
   repeat refine vs ?_
   conv => whnf
   refine CallS.mk _ rfl true true _ (hl4) rfl ?_
   repeat refine vs ?_
   conv => whnf
   refine CallS.mk _ rfl false false _ (dAS) rfl ?_
   repeat refine vs ?_
   conv => whnf
   refine CallS.mk _ rfl true true _ (dSS) rfl ?_
   repeat refine vs ?_
   conv => whnf
   first | rfl | exact ⟨rfl, rfl⟩ | exact ⟨by simp [toRes], rfl⟩
 ·have dIS2 := dIS hl
  repeat refine vs ?_
  conv => whnf
  refine CallS.mk _ rfl false false _ (dGS) rfl ?_
  repeat refine vs ?_
  conv => whnf
  refine CallS.mk _ rfl true true _ (dIS2) rfl ?_
  repeat refine vs ?_
  conv => whnf
  refine EVs.loopU (fun s : Nat × ((Int × Int) × (Int × Int)) => s.1 ≤ m ∧ Inv s.1 s.2 ∧ refF (chainF p) (m - s.1) s.2 = S) (fun s => m - s.1)
   (fun | (i, u) => [(4, .box (4, 0) (spanL u.1 u.2) 0)]) (0, (x, y)) ⟨Nat.zero_le _, h0, by dsimp only; rw [Nat.sub_zero]; exact hS⟩ (Wk.refl _) ?_
  rintro ⟨i, u⟩ ⟨j1, j2, j3⟩
  dsimp only at j1 j2 j3
  obtain ⟨oku, dM, dC, hcase⟩ := loop i u j1 j2 j3
  generalize cmpI (u.1.1 * u.2.2) (u.2.1 * u.1.2) = c1 at *
  generalize chgAt (chainF q) u.1 - chgAt (chainF q) u.2 = c2 at *
  refine go1 ?_
  rcases hcase with ⟨hc, k1, k2⟩ | ⟨hc, k0, k1 | ⟨k1, k2⟩⟩
  ·have dH := l6Half_den hp u.1 u.2 (oku.x.mono (by omega)) (oku.y.mono (by omega))
   have j4 := hstep i u j2
   have j5 : refF (chainF p) (m - (i + 1)) (halfF (chainF p) u) = S := by
    rw [show m - i = (m - (i + 1)) + 1 by omega] at j3
    exact j3
   rw [show (u.1, u.2) = u from rfl] at dH
   generalize halfF (chainF p) u = u2 at *
   repeat refine vs ?_
   conv => whnf
   refine CallS.mk _ rfl true true _ (dM) rfl ?_
   repeat refine vs ?_
   conv => whnf
   refine CallS.mk _ rfl true true _ (dC) rfl ?_
   repeat refine vs ?_
   conv => whnf
   refine CallS.mk _ rfl false false _ (dH) rfl ?_
   repeat refine vs ?_
   conv => whnf
   refine ⟨(i + 1, u2), by dsimp only; omega, ⟨by dsimp only; omega, j4, j5⟩, ?_⟩
   exact Wk.fg
  ·cases k0
   repeat refine vs ?_
   conv => whnf
   refine CallS.mk _ rfl true true _ (dM) rfl ?_
   repeat refine vs ?_
   conv => whnf
   refine CallS.mk _ rfl false false _ (dAS) rfl ?_
   repeat refine vs ?_
   conv => whnf
   refine CallS.mk _ rfl true true _ (dSS) rfl ?_
   repeat refine vs ?_
   conv => whnf
   first | rfl | exact ⟨rfl, rfl⟩ | exact ⟨by simp [toRes], rfl⟩
  ·cases k0
   repeat refine vs ?_
   conv => whnf
   refine CallS.mk _ rfl true true _ (dM) rfl ?_
   repeat refine vs ?_
   conv => whnf
   refine CallS.mk _ rfl true true _ (dC) rfl ?_
   repeat refine vs ?_
   conv => whnf
   refine CallS.mk _ rfl false false _ (dAS) rfl ?_
   repeat refine vs ?_
   conv => whnf
   refine CallS.mk _ rfl true true _ (hl4) rfl ?_
   repeat refine vs ?_
   conv => whnf
   refine CallS.mk _ rfl false false _ (dAS) rfl ?_
   repeat refine vs ?_
   conv => whnf
   refine CallS.mk _ rfl true true _ (dSS) rfl ?_
   repeat refine vs ?_
   conv => whnf
   first | rfl | exact ⟨rfl, rfl⟩ | exact ⟨by simp [toRes], rfl⟩

section
variable {p q : List (Int × Int)} (hp : RootP p) (hq : RootP q) {x y : Int × Int} (hx : lowT 4 x) (hy : lowT 4 y) (hle : x.1 * y.2 ≤ y.1 * x.2) (hi : isoF p x y = true)
include hp hq hx hy hle hi
set_option maxHeartbeats 8000000 in
/-- **The sign at the root**: the two programs' functions agree; 0 just where the common part has the root. -/
theorem signBoth {vg : Rat → Nat} {fg : Rat → Rat} (C : Cts (p2 64) (dB B0) (cnt p) (cnt q) vg (Sp.ev (vl (freeF p))) (Sp.ev (vl (freeF q))) fg)
  (hc : ((comF p q).length < 2 ∧ vg = (fun _ => 0) ∧ fg = fun _ => 1) ∨ (2 ≤ (comF p q).length ∧ vg = cnt (comF p q) ∧ fg = Sp.ev (vl (freeF (comF p q))))) :
  ∃ v : Int, -1 ≤ v ∧ v ≤ 1 ∧ (v = 0 ↔ hold vg fg (val x, val y)) ∧ D 78 [(false, [.arr 4 (p.map cellR)]), spanV x.1 x.2 y.1 y.2, (false, [.arr 4 (q.map cellR)])] true (.one (iP v)) ∧
   D 76 [(false, [.arr 4 (p.map cellR)]), spanV x.1 x.2 y.1 y.2, (false, [.arr 4 (q.map cellR)])] true (.one (iP v)) := by
 have h5 := hp.le5
 have h6 := hq.le5
 have px := hx.1.1
 have py := hy.1.1
 have hx9 : okF 900000000 x := hx.1.mono (by omega)
 have hy9 : okF 900000000 y := hy.1.mono (by omega)
 have h0 := iv_of hp hx hy hle hi
 have hE := den_ok hx hy
 have z0 := st_zero (p := p) hx hy
 have dGI := com_I hp hq
 have dGS := com_S hp hq
 have dHI := com_holds hp hq x y hx9 hy9
 have hah := any_hold hp hq hc px py
 have hgl : ((comF p q).map cellR).length = (comF p q).length := by simp
 by_cases hany : anyF (comF p q) x y = true
 ·-- the root is common
  have hl : ¬ (comF p q).length < 2 := fun h => by unfold anyF at hany; rw [if_pos h] at hany; cases hany
  have h2 : 2 ≤ (comF p q).length := by omega
  have hvg : vg = cnt (comF p q) := by rcases hc with h | h; exact absurd h.1 hl; exact h.2.1
  have dIS := fp_isoS (com_fp hp hq h2) x y hx9 hy9
  rw [iso_any hp hq C h2 hvg px py h0, hany] at dIS
  rw [hany] at dHI
  generalize comF p q = g at *
  refine ⟨0, by omega, by omega, ⟨fun _ => hah.1 hany, fun _ => rfl⟩, ?_, ?_⟩
  ·refine go Tryz.func78 rfl rfl ?_
   repeat refine vs ?_
   conv => whnf
   refine CallS.mk _ rfl false false _ (dGI) rfl ?_
   repeat refine vs ?_
   conv => whnf
   refine CallS.mk _ rfl true true _ (dHI) rfl ?_
   repeat refine vs ?_
   conv => whnf
   first | rfl | exact ⟨rfl, rfl⟩ | exact ⟨by simp [toRes], rfl⟩
  ·refine go Tryz.func76 rfl rfl ?_
   repeat refine vs ?_
   conv => whnf
   refine CallS.mk _ rfl false false _ (dGS) rfl ?_
   repeat refine vs ?_
   conv => whnf
   refine CallS.mk _ rfl true true _ (dIS) rfl ?_
   repeat refine vs ?_
   conv => whnf
   first | rfl | exact ⟨rfl, rfl⟩ | exact ⟨by simp [toRes], rfl⟩
 ·have hnh : ¬ hold vg fg (val x, val y) := fun h => hany (hah.2 h)
  have hfalse : anyF (comF p q) x y = false := by cases h : anyF (comF p q) x y; rfl; exact absurd h hany
  rw [hfalse] at dHI
  -- what the reference asks
  have dIS : ¬ (comF p q).length < 2 → D 117 [(false, [.arr 4 ((comF p q).map cellR)]), spanV x.1 x.2 y.1 y.2] true (.one (bP false)) := fun hl => by
   have h2 : 2 ≤ (comF p q).length := by omega
   have hvg : vg = cnt (comF p q) := by rcases hc with h | h; exact absurd h.1 hl; exact h.2.1
   have dIS := fp_isoS (com_fp hp hq h2) x y hx9 hy9
   rw [iso_any hp hq C h2 hvg px py h0, hfalse] at dIS
   exact dIS
  -- the number of halvings
  obtain ⟨m, m1, m2, m3⟩ := least (P := fun n => ¬ Sp.guard (cnt q) (hvN (cnt p) n (val x, val y))) (sign_end C (dB_pos B0) h0 hnh (width_le h0))
  have hmN : m ≤ 72802381 := m1
  generalize hS : refF (chainF p) m (x, y) = S at *
  have hSm : Hs p (x.2 * y.2) (val x, val y) m S := by rw [← hS]; exact hs_ref hp.fp z0 m
  obtain ⟨okS, ivS⟩ := hSm.ok (K := 4600000) C.monoP hE h0 (by omega)
  have dAI := at_den q S.2 (by omega) (hq.okL.mono (by omega)) (okS.y.mono (by omega))
  have dAS := l4Eval_den q S.2 (by omega) (hq.okL.mono (by omega)) (okS.y.mono (by omega))
  have ho := (atF_ok hq.okL okS.y).mono (show 4 + q.length * (1 + 4600000 + 1) ≤ 40000000000 by have := Nat.mul_le_mul_right (1 + 4600000 + 1) h6; omega)
  have eva := atF_val (x := S.2) (by have := okS.y.1; omega) hq.lowL
  have hne : (atF q S.2).1 ≠ 0 := fun e => by
   have z := (val_zero_iff eva.1).2 e
   rw [eva.2] at z
   have zz := (hq.fp.root _).1 z
   refine sign_ne C h0 hnh ivS (fun h => ?_) (by rw [hSm.eq]; exact m2) zz
   rw [hSm.eq] at h ⊢
   exact hvN_point C.monoP h0 h
  have hvne : cmpI (atF q S.2).1 0 ≠ 0 := by rcases cmpI_sgn (atF q S.2).1 with h | h | h <;> omega
  have hv1 : -1 ≤ cmpI (atF q S.2).1 0 ∧ cmpI (atF q S.2).1 0 ≤ 1 := by rcases cmpI_sgn (atF q S.2).1 with h | h | h <;> omega
  have dSI := ratSign_den (atF q S.2).1 (atF q S.2).2 (Nat.le_trans ho.2.1 (by omega))
  generalize atF q S.2 = w at *
  -- at each step: what is asked
  have hcI := rp_chain_I hp
  have hcQ := rp_chain_I hq
  have hn := rp_chain_len hq
  have hqc : ∀ c ∈ chainF q, okL 900000000 c ∧ c.length ≤ 5 := fun c hc => ⟨(hq.chain_ok c hc).1, (hq.chain_ok c hc).2.1⟩
  refine ⟨cmpI w.1 0, hv1.1, hv1.2, ⟨fun h => absurd h hvne, fun h => absurd h hnh⟩, ?_, ?_⟩
  ·refine go Tryz.func78 rfl rfl ?_
   repeat refine vs ?_
   conv => whnf
   refine CallS.mk _ rfl false false _ (dGI) rfl ?_
   repeat refine vs ?_
   conv => whnf
   refine CallS.mk _ rfl true true _ (dHI) rfl ?_
   repeat refine vs ?_
   conv => whnf
   refine CallS.mk _ rfl false false _ (hcI) rfl ?_
   repeat refine vs ?_
   conv => whnf
   refine CallS.mk _ rfl false false _ (hcQ) rfl ?_
   repeat refine vs ?_
   conv => whnf
   refine EVs.loopU (fun s : Nat × ((Int × Int) × (Int × Int)) => s.1 ≤ m ∧ Hs p (x.2 * y.2) (val x, val y) s.1 s.2 ∧ refF (chainF p) (m - s.1) s.2 = S) (fun s => m - s.1)
    (fun | (i, u) => [(4, .box (4, 0) (spanL u.1 u.2) 0)]) (0, (x, y)) ⟨Nat.zero_le _, z0, by dsimp only; rw [Nat.sub_zero]; exact hS⟩ (Wk.refl _) ?_
   rintro ⟨i, u⟩ ⟨j1, j2, j3⟩
   dsimp only at j1 j2 j3
   obtain ⟨oku, ivu⟩ := j2.ok (K := 4600000) C.monoP hE h0 (by omega)
   have dM := same_den u.1.1 u.1.2 u.2.1 u.2.2 (by have := oku.x.1; omega) (by have := oku.y.1; omega) (Nat.le_trans oku.x.2.1 (by omega)) (Nat.le_trans oku.x.2.2 (by omega)) (Nat.le_trans oku.y.2.1 (by omega)) (Nat.le_trans oku.y.2.2 (by omega))
   have d1 := changesAt_den (chainF q) u.1 hn hqc (oku.x.mono (by omega))
   have d2 := changesAt_den (chainF q) u.2 hn hqc (oku.y.mono (by omega))
   have r1 := hq.fp.count oku.x.1
   have r2 := hq.fp.count oku.y.1
   have ve := val_eq oku.x.1 oku.y.1
   have hgu : Sp.guard (cnt q) (vsp u) ↔ (¬ u.1.1 * u.2.2 = u.2.1 * u.1.2 ∧ ¬ chgAt (chainF q) u.1 = chgAt (chainF q) u.2) := by
    unfold Sp.guard vsp
    dsimp only
    rw [r1, r2]
    constructor
    ·rintro ⟨k1, k2⟩; exact ⟨fun h => k1 (ve.2 h), fun h => k2 (by omega)⟩
    ·rintro ⟨k1, k2⟩; exact ⟨fun h => k1 (ve.1 h), fun h => k2 (by omega)⟩
   rw [j2.eq] at hgu
   generalize chgAt (chainF q) u.1 = c1 at *
   generalize chgAt (chainF q) u.2 = c2 at *
   refine go1 ?_
   by_cases hc : i < m
   ·have hg := hgu.1 (Classical.byContradiction (m3 i hc))
    have hc12 := hg.2
    rw [decide_eq_false hg.1] at dM
    have dH := halved_den hp u.1 u.2 (oku.x.mono (by omega)) (oku.y.mono (by omega))
    have j4 := j2.step hp.fp
    have j5 : refF (chainF p) (m - (i + 1)) (halfF (chainF p) u) = S := by
     rw [show m - i = (m - (i + 1)) + 1 by omega] at j3
     exact j3
    rw [show (u.1, u.2) = u from rfl] at dH
    generalize halfF (chainF p) u = u2 at *
    repeat refine vs ?_
    conv => whnf
    refine CallS.mk _ rfl true true _ (dM) rfl ?_
    repeat refine vs ?_
    conv => whnf
    refine CallS.mk _ rfl true true _ (d1) rfl ?_
    repeat refine vs ?_
    conv => whnf
    refine CallS.mk _ rfl true true _ (d2) rfl ?_
    repeat refine vs ?_
    conv => whnf
    refine CallS.mk _ rfl false false _ (dH) rfl ?_
    repeat refine vs ?_
    conv => whnf
    refine ⟨(i + 1, u2), by dsimp only; omega, ⟨by dsimp only; omega, j4, j5⟩, ?_⟩
    exact Wk.fg
   ·obtain rfl : i = m := by omega
    rw [Nat.sub_self] at j3
    have j6 : u = S := j3
    cases j6
    by_cases hs : S.1.1 * S.2.2 = S.2.1 * S.1.2
    ·rw [decide_eq_true hs] at dM
     repeat refine vs ?_
     conv => whnf
     refine CallS.mk _ rfl true true _ (dM) rfl ?_
     repeat refine vs ?_
     conv => whnf
     refine CallS.mk _ rfl false false _ (dAI) rfl ?_
     repeat refine vs ?_
     conv => whnf
     refine CallS.mk _ rfl true true _ (dSI) rfl ?_
     repeat refine vs ?_
     conv => whnf
     first | rfl | exact ⟨rfl, rfl⟩ | exact ⟨by simp [toRes], rfl⟩
    ·rw [decide_eq_false hs] at dM
     have hc12 : c1 = c2 := Classical.byContradiction fun h => m2 (hgu.2 ⟨hs, h⟩)
     repeat refine vs ?_
     conv => whnf
     refine CallS.mk _ rfl true true _ (dM) rfl ?_
     repeat refine vs ?_
     conv => whnf
     refine CallS.mk _ rfl true true _ (d1) rfl ?_
     repeat refine vs ?_
     conv => whnf
     refine CallS.mk _ rfl true true _ (d2) rfl ?_
     repeat refine vs ?_
     conv => whnf
     refine CallS.mk _ rfl false false _ (dAI) rfl ?_
     repeat refine vs ?_
     conv => whnf
     refine CallS.mk _ rfl true true _ (dSI) rfl ?_
     repeat refine vs ?_
     conv => whnf
     first | rfl | exact ⟨rfl, rfl⟩ | exact ⟨by simp [toRes], rfl⟩
  ·have loop : ∀ (i : Nat) (u : (Int × Int) × (Int × Int)), i ≤ m → Hs p (x.2 * y.2) (val x, val y) i u → refF (chainF p) (m - i) u = S →
     SpanOK 30000000 u ∧ D 118 [ratV u.1.1 u.1.2, ratV u.2.1 u.2.2] true (.one (iP (cmpI (u.1.1 * u.2.2) (u.2.1 * u.1.2)))) ∧ D 120 [(false, [.arr 4 (q.map cellR)]), ratV u.1.1 u.1.2, ratV u.2.1 u.2.2] true (.one (iP (chgAt (chainF q) u.1 - chgAt (chainF q) u.2))) ∧
      ((i < m ∧ cmpI (u.1.1 * u.2.2) (u.2.1 * u.1.2) < 0 ∧ 0 < chgAt (chainF q) u.1 - chgAt (chainF q) u.2) ∨ (i = m ∧ u = S ∧ (¬ cmpI (u.1.1 * u.2.2) (u.2.1 * u.1.2) < 0 ∨ (cmpI (u.1.1 * u.2.2) (u.2.1 * u.1.2) < 0 ∧ ¬ 0 < chgAt (chainF q) u.1 - chgAt (chainF q) u.2)))) := by
    intro i u j1 j2 j3
    obtain ⟨oku, ivu⟩ := j2.ok (K := 4600000) C.monoP hE h0 (by omega)
    have dM := l2Cmp_den u.1.1 u.1.2 u.2.1 u.2.2 (by have := oku.x.1; omega) (by have := oku.y.1; omega) (Nat.le_trans oku.x.2.1 (by omega)) (Nat.le_trans oku.x.2.2 (by omega)) (Nat.le_trans oku.y.2.1 (by omega)) (Nat.le_trans oku.y.2.2 (by omega))
    have dC := rp_count_S hq u.1 u.2 (oku.x.mono (by omega)) (oku.y.mono (by omega))
    have r1 := hq.fp.count oku.x.1
    have r2 := hq.fp.count oku.y.1
    have ve := val_eq oku.x.1 oku.y.1
    have mo := C.monoQ (val u.1) (val u.2) ivu.x ivu.y ivu.le
    have hgu : Sp.guard (cnt q) (vsp u) ↔ (¬ u.1.1 * u.2.2 = u.2.1 * u.1.2 ∧ ¬ chgAt (chainF q) u.1 = chgAt (chainF q) u.2) := by
     unfold Sp.guard vsp
     dsimp only
     rw [r1, r2]
     constructor
     ·rintro ⟨k1, k2⟩; exact ⟨fun h => k1 (ve.2 h), fun h => k2 (by omega)⟩
     ·rintro ⟨k1, k2⟩; exact ⟨fun h => k1 (ve.1 h), fun h => k2 (by omega)⟩
    rw [j2.eq] at hgu
    have hle := oku.le
    have hcm : cmpI (u.1.1 * u.2.2) (u.2.1 * u.1.2) < 0 ↔ u.1.1 * u.2.2 < u.2.1 * u.1.2 := by unfold cmpI; split <;> (try split) <;> omega
    refine ⟨⟨oku.x.mono (by omega), oku.y.mono (by omega), oku.lx, oku.ly, oku.le⟩, dM, dC, ?_⟩
    by_cases hc : i < m
    ·have hg := hgu.1 (Classical.byContradiction (m3 i hc))
     exact .inl ⟨hc, hcm.2 (by omega), by omega⟩
    ·obtain rfl : i = m := by omega
     rw [Nat.sub_self] at j3
     refine .inr ⟨rfl, j3, ?_⟩
     by_cases hs : u.1.1 * u.2.2 = u.2.1 * u.1.2
     ·exact .inl fun h => by have := hcm.1 h; omega
     ·have hc12 : chgAt (chainF q) u.1 = chgAt (chainF q) u.2 := Classical.byContradiction fun h => m2 (hgu.2 ⟨hs, h⟩)
      exact .inr ⟨hcm.2 (by omega), by omega⟩
   exact signS_gen hp (Hs p (x.2 * y.2) (val x, val y)) dGS dIS z0 hS (fun i u h => h.step hp.fp) loop dAS ho hne
end
end Go.Vx
end