/- Q21, Q22 -/
import Derived.Test.YtpmgjmkobpeepaaGreatQGh
import Derived.Test.YtpmgjmkobpeepaaGreatSGc
set_option linter.unusedVariables false
set_option linter.unusedSectionVars false
set_option linter.unusedSimpArgs false
section
/- The sign of a root less a fraction: the reference's way. -/
namespace Go.Vx
open Go.Proofs Sp
set_option maxRecDepth 100000

/-- The polynomial t - c. -/
def linF (c : Int × Int) : List (Int × Int) := [(-c.1, c.2), (1, 1)]
def oneF : List (Int × Int) := [(1, 1)]
theorem one_low : low ((1, 1) : Int × Int) := ⟨by decide, by decide⟩
theorem one_ok : okF 1 ((1, 1) : Int × Int) := small_R (n := 1) (by omega) (by omega)
section
variable {c : Int × Int} (hc : low c)
include hc
theorem neg_low : low ((-c.1, c.2) : Int × Int) := ⟨hc.1, by have := hc.2; simpa [Int.gcd] using this⟩
theorem lin_low : lowL (linF c) := fun f hf => by
 rcases List.mem_cons.1 hf with rfl | hf
 ·exact neg_low hc
 ·rw [List.mem_singleton] at hf; rw [hf]; exact one_low
theorem lin_top : topF (linF c) := fun _ => by show (1 : Int) ≠ 0; decide
theorem lin_ok {K : Nat} (h : okF K c) (hK : 1 ≤ K) : okL K (linF c) := fun f hf => by
 rcases List.mem_cons.1 hf with rfl | hf
 ·exact ⟨h.1, by show Lm.ln (-c.1) ≤ _; rw [Lm.ln_neg]; exact h.2.1, h.2.2⟩
 ·rw [List.mem_singleton] at hf; rw [hf]; exact one_ok.mono hK
theorem lin_vl : vl (linF c) = [-val c, 1] := by
 show [val (-c.1, c.2), val (1, 1)] = _
 rw [val_neg, val_whole]; rfl
theorem lin_ev (x : Rat) : Sp.ev (vl (linF c)) x = x - val c := by
 rw [lin_vl hc, Sp.ev_cons, Sp.ev_cons, Sp.ev_nil]; grind
end
theorem one_low' : lowL oneF := fun f hf => by rw [oneF, List.mem_singleton] at hf; rw [hf]; exact one_low
theorem one_top' : topF oneF := fun _ => by show (1 : Int) ≠ 0; decide
theorem one_monic : monicF oneF = oneF := monicF_one one_low' one_top' rfl
/-- Behind a constant there is nothing left. -/
theorem rest_one {p : List (Int × Int)} (hp : lowL p) : trimF (divF p oneF).2 = [] := by
 have := divF_rest hp one_low' (by unfold oneF; simp) (one_top' (by unfold oneF; simp))
 exact List.length_eq_zero_iff.1 (by have e : oneF.length = 1 := rfl; omega)
theorem com_one {p : List (Int × Int)} (hp : lowL p) : comF p oneF = oneF := by
 rw [comF_cons hp one_low' one_top' (by unfold oneF; simp), rest_one hp]
 show comF oneF [] = oneF
 rw [comF_nil, one_monic]
theorem mul_one1 : mulR (1, 1) (1, 1) = (1, 1) := by
 have h := divR_mulR (a := (1, 1)) (b := (1, 1)) one_low (by decide) (by decide)
 rw [divR_self (a := (1, 1)) (by decide) (by decide)] at h
 exact h
section
variable {c : Int × Int} (hc : low c)
include hc
theorem lin_der : derivF (linF c) = oneF := by
 show [mulR (1, 1) (1, 1)] = _
 rw [mul_one1]; rfl
theorem lin_scale : scaleF (1, 1) (linF c) = linF c := by
 show [divR (-c.1, c.2) (1, 1), divR (1, 1) (1, 1)] = _
 rw [divR_one (neg_low hc), divR_one one_low]; rfl
theorem lin_monic : monicF (linF c) = linF c := lin_scale hc
theorem lin_quo : (divF (linF c) oneF).1 = linF c := by
 show [divR (-c.1, c.2) (1, 1), divR (1, 1) (1, 1)] = _
 rw [divR_one (neg_low hc), divR_one one_low]; rfl
theorem lin_free : freeF (linF c) = linF c := by
 unfold freeF
 rw [lin_der hc, com_one (lin_low hc), lin_quo hc, trim_top (lin_top hc), lin_monic hc]
theorem lin_chain : chainF (linF c) = [linF c, oneF] := by
 have e := lin_free hc
 have l := lin_low hc
 have t := lin_top hc
 rw [chainF_eq (by rw [e]; exact l) (by rw [e]; exact t), e, lin_der hc, chL_cons l one_low' one_top' (by unfold oneF; simp), nextF_nil (rest_one l), chL_nil]
/-- The count of t - c. -/
theorem lin_count {x : Int × Int} (hx : 0 < x.2) : chgAt (chainF (linF c)) x = if val x < val c then 1 else 0 := by
 rw [lin_chain hc, chgAt_cnt (fun q hq => by
  rcases List.mem_cons.1 hq with rfl | hq
  ·exact lin_low hc
  ·rw [List.mem_singleton] at hq; rw [hq]; exact one_low') hx]
 have e1 : Sp.ev (vl oneF) (val x) = 1 := by
  show Sp.ev [val (1, 1)] (val x) = 1
  rw [val_whole, Sp.ev_cons, Sp.ev_nil]
  have : ((1 : Int) : Rat) = 1 := rfl
  rw [this]; grind
 have : cntL [linF c, oneF] (val x) = chg 0 [val x - val c, 1] := by
  show chg 0 [Sp.ev (vl (linF c)) (val x), Sp.ev (vl oneF) (val x)] = _
  rw [lin_ev hc, e1]
 rw [this, chg_cons]
 rcases Sp.tri (val x - val c) 0 with h | h | h
 ·rw [if_neg (by grind), Rat.zero_mul, if_neg (by grind), chg_cons, if_neg (by grind), if_pos (by grind), if_pos (by grind)]; rfl
 ·rw [if_pos h, chg_cons, if_neg (by grind), Rat.zero_mul, if_neg (by grind), if_neg (by grind)]; rfl
 ·rw [if_neg (by grind), Rat.zero_mul, if_neg (by grind), chg_cons, if_neg (by grind), if_neg (by grind), if_neg (by grind)]; rfl
end
/-! ### the common divisor with t - c -/
/-- True sizes along Euclid's steps. -/
def GB : Nat → List (Int × Int) → List (Int × Int) → Prop
 | 0, p, _ => okL 10000000000 p
 | n + 1, p, q => okL 10000000000 p ∧ (q ≠ [] → (∃ A B, okL A p ∧ okL B q ∧ szD B (p.length + 1 - q.length) A + B + 4 ≤ 1000000000) ∧ GB n q (monicF (trimF (divF p q).2)))
theorem GB.ok : ∀ {n : Nat} {p q : List (Int × Int)}, GB n p q → okL 10000000000 p
 | 0, _, _, h => h
 | _ + 1, _, _, h => h.1
theorem l4GcdB_den (f : Nat) (p q : List (Int × Int)) (hpl : p.length ≤ 100) (hql : q.length ≤ 100) (hp : lowL p) (hq : lowL q) (tp : topF p) (tq : topF q) (hf : q.length ≤ f) (hB : GB f p q) :
  D 59 [(false, [.arr 4 (p.map cellR)]), (false, [.arr 4 (q.map cellR)])] false (.one (false, [.arr 4 ((comF p q).map cellR)])) := by
 refine go Tryz.func59 rfl rfl ?_
 repeat refine vs ?_
 conv => whnf
 refine EVs.loopU (fun s : Nat × List (Int × Int) × List (Int × Int) => s.2.2.length ≤ s.1 ∧ s.2.1.length ≤ 100 ∧ s.2.2.length ≤ 100 ∧ lowL s.2.1 ∧ lowL s.2.2 ∧ topF s.2.1 ∧ topF s.2.2 ∧ GB s.1 s.2.1 s.2.2 ∧ comF s.2.1 s.2.2 = comF p q) (fun s => s.2.2.length)
  (fun | (_, p, q) => [(0, .v false [.p (.arr 4 (p.map cellR))]), (1, .v false [.p (.arr 4 (q.map cellR))])]) (f, p, q) ⟨hf, hpl, hql, hp, hq, tp, tq, hB, rfl⟩ Wk.fg ?_
 rintro ⟨g, a, b⟩ ⟨hf, hal, hbl, ha, hb, ta, tb, hB, hinv⟩
 dsimp only at hf hal hbl ha hb ta tb hB hinv
 have hrl : (b.map cellR).length = b.length := by simp
 refine go1 ?_
 repeat refine vs ?_
 conv => whnf
 by_cases h : b = []
 ·subst h
  rw [comF_nil] at hinv
  have dM := l4Monic_den a hal hB.ok ta
  rw [hinv] at dM
  repeat refine vs ?_
  conv => whnf
  refine CallS.mk _ rfl false false _ (dM) rfl ?_
  repeat refine vs ?_
  conv => whnf
  first | rfl | exact ⟨rfl, rfl⟩ | exact ⟨by simp [toRes], rfl⟩
 ·have hbn : 0 < b.length := List.length_pos_iff.2 h
  obtain ⟨g, rfl⟩ : ∃ n, g = n + 1 := ⟨g - 1, by omega⟩
  obtain ⟨⟨A, B, oa, ob, hS⟩, hB2⟩ := hB.2 h
  have h1 := divF_rest ha hb h (tb h)
  have h2 := divF_low ha hb (tb h)
  have h3 := (divF_ok oa ob h (tb h)).2
  have h4 : okL (szD B (a.length + 1 - b.length) A) (trimF (divF a b).2) := fun x hx => h3 x (trimF_sub hx)
  have dD := l4Div_den a b A B hal hbl oa ob h (tb h) hS
  have dM := l4Monic_den (trimF (divF a b).2) (by omega) (h4.mono (by omega)) (topF_trim _)
  have hc := comF_cons ha hb tb h
  rw [hc] at hinv
  have hml := monicF_len (p := trimF (divF a b).2)
  repeat refine vs ?_
  conv => whnf
  refine CallS.mk _ rfl false false _ (dD) rfl ?_
  repeat refine vs ?_
  conv => whnf
  refine CallS.mk _ rfl false false _ (dM) rfl ?_
  repeat refine vs ?_
  conv => whnf
  refine ⟨(g, b, monicF (trimF (divF a b).2)), by dsimp only; omega, ⟨by dsimp only; omega, hbl, by dsimp only; omega, hb, monicF_low (trimF_low h2.2) (topF_trim _), tb, monicF_top (trimF_low h2.2) (topF_trim _), hB2, hinv⟩, ?_⟩
  exact Wk.fg
theorem szD_lin : ∀ m, m < 6 → szD 5000000 (m + 1 - 2) 1 + 5000000 + 4 ≤ 1000000000 := by decide +kernel
theorem lin_cp {c : Int × Int} (hc : low c) (ok : okF 5000000 c) : CP (linF c) := by
 have e := lin_free hc
 refine ⟨5000000, ?_, ?_, ?_, ?_, by omega, ?_⟩
 ·rw [e]; exact lin_ok hc ok (by omega)
 ·rw [e]; exact lin_low hc
 ·rw [e]; exact lin_top hc
 ·rw [e]; show 2 ≤ 5; omega
 ·rw [e]; show eucB 8 2 1 5000000 5000001 ≤ 900000000; decide +kernel
theorem lin_free_S {c : Int × Int} (hc : low c) (ok : okF 5000000 c) : D 61 [(false, [.arr 4 ((linF c).map cellR)])] false (.one (false, [.arr 4 ((freeF (linF c)).map cellR)])) := by
 refine l4Free_den (linF c) 5000000 (by show 2 ≤ 7; omega) (by unfold linF; simp) (lin_low hc) (lin_top hc) (lin_ok hc ok (by omega)) (by show eucB 8 2 1 5000000 5000001 ≤ 1000000000; decide +kernel) ?_ (by omega)
 rw [lin_der hc, com_one (lin_low hc)]
 show freeB 2 5000000 1 ≤ 1000000000
 decide +kernel
section
variable {p : List (Int × Int)} (hp : RootP p) {c : Int × Int} (hc : low c)
include hp hc
/-- It is t - c where c is a root, else 1. -/
theorem com_lin : (Sp.ev (vl p) (val c) = 0 ∧ comF p (linF c) = linF c) ∨ (Sp.ev (vl p) (val c) ≠ 0 ∧ comF p (linF c) = oneF) := by
 have l := lin_low hc
 have t := lin_top hc
 have n : linF c ≠ [] := by unfold linF; simp
 have e := divF_eq hp.lowL l n (t n) (val c)
 have h1 := divF_rest hp.lowL l n (t n)
 have h2 := divF_low hp.lowL l (t n)
 have h3 := trimF_ev h2.2 (val c)
 have h4 := topF_trim (divF p (linF c)).2
 have h5 := trimF_low h2.2
 rw [lin_ev hc, ← h3] at e
 rw [comF_cons hp.lowL l t n]
 have hl : (linF c).length = 2 := rfl
 rw [hl] at h1
 generalize trimF (divF p (linF c)).2 = r at *
 match r, h1 with
 | [], _ =>
  refine .inl ⟨?_, ?_⟩
  ·rw [e]
   have : Sp.ev (vl []) (val c) = 0 := Sp.ev_nil _
   rw [this]; grind
  ·show comF (linF c) [] = _
   rw [comF_nil, lin_monic hc]
 | [a], _ =>
  refine .inr ⟨fun h0 => ?_, ?_⟩
  ·rw [e] at h0
   have e2 : Sp.ev (vl [a]) (val c) = val a := by
    show Sp.ev [val a] (val c) = _
    rw [Sp.ev_cons, Sp.ev_nil]; grind
   rw [e2] at h0
   have ha : a.1 ≠ 0 := h4 (by simp)
   exact ha ((val_zero_iff (low_ne (h5 a (by simp)))).1 (by grind))
  ·rw [monicF_one h5 h4 rfl]
   exact com_one l
 | _ :: _ :: _, h1 => simp at h1; omega
theorem com_lin_S (ok : okF 5000000 c) : D 59 [(false, [.arr 4 (p.map cellR)]), (false, [.arr 4 ((linF c).map cellR)])] false (.one (false, [.arr 4 ((comF p (linF c)).map cellR)])) := by
 have l := lin_low hc
 have t := lin_top hc
 have n : linF c ≠ [] := by unfold linF; simp
 have h5 := hp.le5
 have o := lin_ok hc ok (by omega)
 have hl : (linF c).length = 2 := rfl
 refine l4GcdB_den 3 p (linF c) (by omega) (by rw [hl]; omega) hp.lowL l hp.topF t (by rw [hl]; omega) ⟨hp.okL.mono (by omega), fun _ => ⟨⟨1, 5000000, hp.okL, o, by rw [hl]; exact szD_lin _ (by omega)⟩, ?_⟩⟩
 have h1 := divF_rest hp.lowL l n (t n)
 have h2 := divF_low hp.lowL l (t n)
 have h4 := topF_trim (divF p (linF c)).2
 have h6 := trimF_low h2.2
 rw [hl] at h1
 generalize trimF (divF p (linF c)).2 = r at *
 match r, h1 with
 | [], _ =>
  refine ⟨o.mono (by omega), fun h => absurd rfl h⟩
 | [a], _ =>
  rw [monicF_one h6 h4 rfl]
  refine ⟨o.mono (by omega), fun _ => ⟨⟨5000000, 1, o, fun f hf => by rw [List.mem_singleton] at hf; rw [hf]; exact one_ok, by show szD 1 2 5000000 + 1 + 4 ≤ 1000000000; decide +kernel⟩, ?_⟩⟩
  have := rest_one l
  unfold oneF at this
  rw [this]
  refine ⟨fun f hf => by rw [List.mem_singleton] at hf; rw [hf]; exact one_ok.mono (by omega), fun h => absurd rfl h⟩
 | _ :: _ :: _, h1 => simp at h1; omega
end
end Go.Vx
end
section
/- The sign of a root less a fraction. -/
namespace Go.Vx
open Go.Proofs Sp
set_option maxRecDepth 100000

theorem FP.stu {p : List (Int × Int)} (h : FP p) : Stu (p2 64) (dB B0) (Sp.ev (vl (freeF p))) (cnt p) ∧ Sp.Fn (p2 64) (p2 (B0 + 330)) (Sp.ev (vl (freeF p))) := by
 obtain ⟨l, p1, pP⟩ := h.pol
 have c1 : cnt p = W (vl (freeF p)) (vl (derivF (freeF p))) (l.map vl) := funext fun x => by unfold cnt cntL W; rw [p1]; simp [List.map_map]; rfl
 rw [c1]
 exact ⟨pP.stu, pP.lc.bd.1.fn (nums B0)⟩
section
variable {g : List (Int × Int)} (hc : CP g) (hf : D 61 [(false, [.arr 4 (g.map cellR)])] false (.one (false, [.arr 4 ((freeF g).map cellR)]))) (h5 : g.length ≤ 5) (hok : okL 5000000 g) (x y : Int × Int) (hx : okF 30000000 x) (hy : okF 30000000 y)
include hc hf h5 hok hx hy
theorem cp_isoS : D 117 [(false, [.arr 4 (g.map cellR)]), spanV x.1 x.2 y.1 y.2] true (.one (bP (isoF g x y))) := by
 have dM := l2Cmp_den x.1 x.2 y.1 y.2 (by have := hx.1; omega) (by have := hy.1; omega) (Nat.le_trans hx.2.1 (by omega)) (Nat.le_trans hx.2.2 (by omega)) (Nat.le_trans hy.2.1 (by omega)) (Nat.le_trans hy.2.2 (by omega))
 have dA := l4Eval_den g x (by omega) (hok.mono (by omega)) (hx.mono (by omega))
 have ho := (atF_ok hok hx).mono (show 4 + g.length * (5000000 + 30000000 + 1) ≤ 40000000000 by have := Nat.mul_le_mul_right (5000000 + 30000000 + 1) h5; omega)
 have dR := cp_count_S hc x y (hx.mono (by omega)) (hy.mono (by omega)) hf
 have hc : (cmpI (x.1 * y.2) (y.1 * x.2) = 0) ↔ x.1 * y.2 = y.1 * x.2 := by unfold cmpI; split <;> (try split) <;> omega
 unfold isoF
 generalize atF g x = v at *
 generalize chgAt (chainF g) x - chgAt (chainF g) y = n at *
 have dS := l4Zero_den (decide (v.1 < 0)) (Lm.lim v.1.natAbs) (decide (v.2 < 0)) (Lm.lim v.2.natAbs) (Nat.le_trans ho.2.1 (by omega))
 have hz : (Lm.lim v.1.natAbs = []) ↔ v.1 = 0 := by rw [Lm.lim_eq_nil]; omega
 rw [show decide (Lm.lim v.1.natAbs = []) = decide (v.1 = 0) from decide_eq_decide.2 hz] at dS
 refine go Tryz.func117 rfl rfl ?_
 by_cases h1 : x.1 * y.2 = y.1 * x.2
 ·have h2 := hc.2 h1
  rw [if_pos h1]
  repeat refine vs ?_
  conv => whnf
  refine CallS.mk _ rfl true true _ (dM) rfl ?_
  repeat refine vs ?_
  conv => whnf
  refine CallS.mk _ rfl false false _ (dA) rfl ?_
  repeat refine vs ?_
  conv => whnf
  refine CallS.mk _ rfl true true _ (dS) rfl ?_
  repeat refine vs ?_
  conv => whnf
  first | rfl | exact ⟨rfl, rfl⟩ | exact ⟨by simp [toRes], rfl⟩
 ·have h2 : ¬ cmpI (x.1 * y.2) (y.1 * x.2) = 0 := fun h => h1 (hc.1 h)
  rw [if_neg h1]
  by_cases h3 : n = 1
  ·rw [decide_eq_true h3]
   repeat refine vs ?_
   conv => whnf
   refine CallS.mk _ rfl true true _ (dM) rfl ?_
   repeat refine vs ?_
   conv => whnf
   refine CallS.mk _ rfl true true _ (dR) rfl ?_
   repeat refine vs ?_
   conv => whnf
   first | rfl | exact ⟨rfl, rfl⟩ | exact ⟨by simp [toRes], rfl⟩
  ·rw [decide_eq_false h3]
   repeat refine vs ?_
   conv => whnf
   refine CallS.mk _ rfl true true _ (dM) rfl ?_
   repeat refine vs ?_
   conv => whnf
   refine CallS.mk _ rfl true true _ (dR) rfl ?_
   repeat refine vs ?_
   conv => whnf
   first | rfl | exact ⟨rfl, rfl⟩ | exact ⟨by simp [toRes], rfl⟩
end
theorem delta_le {v : Rat} {B K e : Nat} (hK : K = B + 332 + e) (h : 1 ≤ ab v * p2 e) : 2 * (p2 (B + 330) * (1 / p2 K)) < ab v := by
 refine lt_of_mul (p2_pos K) ?_
 have i := inv_mul K
 have e1 : 2 * (p2 (B + 330) * (1 / p2 K)) * p2 K = p2 (B + 330) * 2 := by
  generalize 1 / p2 K = r at *
  have : 2 * (p2 (B + 330) * r) * p2 K = p2 (B + 330) * 2 * (r * p2 K) := by grind
  rw [this, i, Rat.mul_one]
 have e2 : p2 K = p2 e * (p2 (B + 330) * 2 * 2) := by
  rw [hK, show B + 332 + e = e + ((B + 330) + 1 + 1) by omega, p2_add, p2_add (B + 330 + 1) 1, p2_add (B + 330) 1, p2_one]
 rw [e1, e2, ← Rat.mul_assoc]
 have h2 := p2_pos (B + 330)
 have h1 := Rat.mul_le_mul_of_nonneg_right h (show 0 ≤ p2 (B + 330) * 2 * 2 by grind)
 grind
theorem inv_anti {m n : Nat} (h : m ≤ n) : 1 / p2 n ≤ 1 / p2 m := by
 refine Classical.byContradiction fun hn => ?_
 have a1 := inv_mul m
 have a2 := inv_mul n
 have a3 := p2_le h
 have a4 := inv_pos' n
 have a6 := p2_pos m
 have b1 := Rat.mul_lt_mul_of_pos_right (show 1 / p2 m < 1 / p2 n by grind) a6
 have b2 := Rat.mul_le_mul_of_nonneg_left a3 (show 0 ≤ 1 / p2 n by grind)
 grind
/-- Halvings enough to part the root from a fraction. -/
theorem part_gen {p : Rat → Nat} {P : List Rat} {B D e N : Nat} {s : Rat × Rat} (st : Stu (p2 64) (1 / p2 D) (Sp.ev P) p) (fn : Sp.Fn (p2 64) (p2 (B + 330)) (Sp.ev P)) (h0 : Iv (p2 64) p (Sp.ev P) s) (ht : Ht 16000 P) (hl : P.length ≤ 5) {c : Rat}
  (hE : ∃ E k : Int, E ≠ 0 ∧ E.natAbs ≤ 2 ^ e ∧ c * (E : Rat) = (k : Rat)) (hD : D ≤ B + 332 + (16000 + e * 5)) (hN : N = B + 332 + (16000 + e * 5) + 65) (hf : Sp.ev P c ≠ 0) : ¬ ((hvN p N s).1 < c ∧ c ≤ (hvN p N s).2) := by
 obtain ⟨E, k, e1, e2, e3⟩ := hE
 have hlow := val_low ht e1 e2 e3 hf
 have m : 16000 + e * P.length ≤ 16000 + e * 5 := by
  have := Nat.mul_le_mul_left e hl
  omega
 have m1 := p2_le m
 have hl2 : 1 ≤ ab (Sp.ev P c) * p2 (16000 + e * 5) := by
  have := Rat.mul_le_mul_of_nonneg_left m1 (ab_nonneg (Sp.ev P c))
  exact Rat.le_trans hlow this
 generalize 16000 + e * 5 = f at *
 have d2 := delta_le (B := B) rfl hl2
 refine lin_end (δ := 1 / p2 (B + 332 + f)) st (inv_pos' D) fn (by have := p2_pos (B + 330); grind) h0 (inv_anti hD) d2 ?_
 have a1 := ab_le s.2
 have a2 := ab_neg_le s.1
 have hxX := h0.x
 have hyX := h0.y
 have e5 : 1 / p2 (B + 332 + f) * p2 N = p2 65 := by
  rw [hN, p2_add (B + 332 + f) 65, ← Rat.mul_assoc, inv_mul, Rat.one_mul]
 have e6 : p2 65 = p2 64 * 2 := by rw [show (65 : Nat) = 64 + 1 from rfl, p2_add, p2_one]
 rw [e5, e6]
 grind
section
variable {p : List (Int × Int)} (hp : RootP p) {x y : Int × Int} (hx : lowT 4 x) (hy : lowT 4 y) (hle : x.1 * y.2 ≤ y.1 * x.2) (hi : isoF p x y = true) {c : Int × Int} (hc : low c) (ok : okF 5000000 c)
 {N : Nat} (hN : N ≤ 369229397) (hpart : Sp.ev (vl (freeF p)) (val c) ≠ 0 → ¬ ((hvN (cnt p) N (val x, val y)).1 < val c ∧ val c ≤ (hvN (cnt p) N (val x, val y)).2)) (hcX : ab (val c) ≤ p2 64)
include hp hx hy hle hi hc ok hN hpart hcX
set_option maxHeartbeats 8000000 in
theorem l6At_den : D 134 [(false, [.arr 4 (p.map cellR)]), spanV x.1 x.2 y.1 y.2, ratV c.1 c.2] true (.one (iP (cmpA (cnt p) (Sp.ev (vl (freeF p))) (val x, val y) (val c)))) := by
 have h0 := iv_of hp hx hy hle hi
 have px := hx.1.1
 have py := hy.1.1
 have hm : Mono (p2 64) (cnt p) := fun a b ha hb hab => hp.fp.stu.1.mono (dB_pos B0) ha hb hab
 have hroot := hp.fp.root (val c)
 have l := lin_low hc
 have o := lin_ok hc ok (by omega)
 have dG := com_lin_S hp hc ok
 have dN := l2Neg_den c.1 c.2 (Nat.le_trans ok.2.1 (by omega)) (Nat.le_trans ok.2.2 (by omega))
 have main : D 76 [(false, [.arr 4 (p.map cellR)]), spanV x.1 x.2 y.1 y.2, (false, [.arr 4 ((linF c).map cellR)])] true (.one (iP (cmpA (cnt p) (Sp.ev (vl (freeF p))) (val x, val y) (val c)))) := by
  have dI := cp_isoS (lin_cp hc ok) (lin_free_S hc ok) (by show 2 ≤ 5; omega) o x y (hx.1.mono (by omega)) (hy.1.mono (by omega))
  have eva := atF_val (x := x) (by omega) l
  have hax : (atF (linF c) x).1 = 0 ↔ val x = val c := by
   rw [← val_zero_iff eva.1, eva.2, lin_ev hc]
   constructor <;> intro h <;> grind
  have hiso : isoF (linF c) x y = true ↔ ((val x = val y ∧ val c = val x) ∨ (val x < val c ∧ val c ≤ val y)) := by
   unfold isoF
   have ve := val_eq px py
   have vle := h0.le
   dsimp only at vle
   by_cases h : x.1 * y.2 = y.1 * x.2
   ·rw [if_pos h, decide_eq_true_iff, hax]
    have := ve.2 h
    constructor
    ·intro k; exact .inl ⟨this, k.symm⟩
    ·rintro (k | k)
     ·exact k.2.symm
     ·exfalso; grind
   ·rw [if_neg h, decide_eq_true_iff, lin_count hc px, lin_count hc py]
    have hne : val x ≠ val y := fun k => h (ve.1 k)
    constructor
    ·intro k
     right
     by_cases a : val x < val c
     ·by_cases b : val y < val c
      ·rw [if_pos a, if_pos b] at k; omega
      ·exact ⟨a, by grind⟩
     ·by_cases b : val y < val c
      ·exfalso; grind
      ·rw [if_neg a, if_neg b] at k; omega
    ·rintro (k | k)
     ·exact absurd k.1 hne
     ·rw [if_pos k.1, if_neg (by grind)]; omega
  by_cases hr : isRt (Sp.ev (vl (freeF p))) (val x, val y) (val c)
  ·rw [cmpA_root hr]
   have hpc : Sp.ev (vl p) (val c) = 0 := by
    rcases hr with ⟨k1, k2⟩ | ⟨_, _, k3⟩
    ·rw [hroot, k2]; exact h0.pt k1
    ·exact hroot.2 k3
   have hc2 : comF p (linF c) = linF c := by
    rcases com_lin hp hc with h | h
    ·exact h.2
    ·exact absurd hpc h.1
   have ht : isoF (linF c) x y = true := by
    refine hiso.2 ?_
    rcases hr with ⟨k1, k2⟩ | ⟨k1, k2, _⟩
    ·exact .inl ⟨k1, k2⟩
    ·exact .inr ⟨k1, k2⟩
   rw [ht] at dI
   rw [hc2] at dG
   have hgl : ((linF c).map cellR).length = 2 := rfl
   generalize linF c = g at *
   refine go Tryz.func76 rfl rfl ?_
   repeat refine vs ?_
   conv => whnf
   refine CallS.mk _ rfl false false _ (dG) rfl ?_
   repeat refine vs ?_
   conv => whnf
   refine CallS.mk _ rfl true true _ (dI) rfl ?_
   repeat refine vs ?_
   conv => whnf
   first | rfl | exact ⟨rfl, rfl⟩ | exact ⟨by simp [toRes], rfl⟩
  ·have hnot : ¬ (Sp.ev (vl (freeF p)) (val c) = 0 ∧ ((val x = val y ∧ val c = val x) ∨ (val x < val c ∧ val c ≤ val y))) := by
    rintro ⟨k1, k2 | k2⟩
    ·exact hr (.inl k2)
    ·exact hr (.inr ⟨k2.1, k2.2, k1⟩)
   -- the number of halvings
   obtain ⟨m, m1, m2, m3⟩ : ∃ m, m ≤ N ∧ ¬ ((hvN (cnt p) m (val x, val y)).1 < val c ∧ val c ≤ (hvN (cnt p) m (val x, val y)).2) ∧ ∀ i, i < m → ((hvN (cnt p) i (val x, val y)).1 < val c ∧ val c ≤ (hvN (cnt p) i (val x, val y)).2) := by
    by_cases hf : Sp.ev (vl (freeF p)) (val c) = 0
    ·exact ⟨0, Nat.zero_le _, fun h => hnot ⟨hf, .inr h⟩, fun i hi => absurd hi (by omega)⟩
    ·obtain ⟨m, m1, m2, m3⟩ := least (P := fun n => ¬ ((hvN (cnt p) n (val x, val y)).1 < val c ∧ val c ≤ (hvN (cnt p) n (val x, val y)).2)) (hpart hf)
     exact ⟨m, m1, m2, fun i hi => Classical.byContradiction (m3 i hi)⟩
   have hmN : m ≤ 369229397 := Nat.le_trans m1 hN
   have hEd := den_ok hx hy
   have z0 := st_zero (p := p) hx hy
   generalize hS : refF (chainF p) m (x, y) = S at *
   have hSm : Hs p (x.2 * y.2) (val x, val y) m S := by rw [← hS]; exact hs_ref hp.fp z0 m
   obtain ⟨okS, ivS⟩ := hSm.ok (K := 23500000) hm hEd h0 (by omega)
   have hleA := (h0.halves hm m).2.2.2.2 (val c)
   rw [← hSm.eq] at hleA m2
   have evw := atF_val (x := S.2) (by have := okS.y.1; omega) l
   have posw := atF_pos (x := S.2) okS.y.1 l
   have ho := (atF_ok o okS.y).mono (show 4 + (linF c).length * (5000000 + 23500000 + 1) ≤ 40000000000 by show 4 + 2 * (5000000 + 23500000 + 1) ≤ 40000000000; omega)
   have dAS := l4Eval_den (linF c) S.2 (by show 2 ≤ 10; omega) (o.mono (by omega)) (okS.y.mono (by omega))
   have sw := sr_val posw
   rw [evw.2, lin_ev hc] at sw
   -- the point where it stands
   have hpt : (vsp S).1 = (vsp S).2 → val x = val y ∧ S = (x, y) ∨ val x = val y := fun h => by
    rw [hSm.eq] at h
    exact .inr (hvN_point hm h0 h).1
   have hval : val S.2 ≠ val c := fun h => by
    rcases ivS.iso with ⟨k1, k2⟩ | ⟨k1, k2⟩
    ·have hk := hvN_point hm h0 (by rw [← hSm.eq]; exact k1)
     have e : (vsp S).2 = val y := by rw [hSm.eq, hk.2]
     have e2 : val S.2 = val y := e
     exact hr (.inl ⟨hk.1, by show val c = val x; rw [← h, e2]; exact hk.1.symm⟩)
    ·exact m2 ⟨by rw [← h]; exact k1, by rw [← h]; show val S.2 ≤ val S.2; grind⟩
   have hne : (atF (linF c) S.2).1 ≠ 0 := fun e => by
    have z := (val_zero_iff evw.1).2 e
    rw [evw.2, lin_ev hc] at z
    exact hval (by grind)
   have hres : cmpA (cnt p) (Sp.ev (vl (freeF p))) (val x, val y) (val c) = cmpI (atF (linF c) S.2).1 0 := by
    rcases sw with ⟨k1, k2⟩ | ⟨k1, k2⟩ | ⟨k1, k2⟩
    ·exact absurd (show val S.2 = val c by grind) hval
    ·rw [k1]
     refine cmpA_gt hr fun hA => ?_
     have hA2 := hleA.2 hA
     rcases ivS.iso with ⟨q1, q2⟩ | ⟨q1, q2⟩
     ·rcases hA2 with ⟨r1, r2⟩ | ⟨r1, r2⟩
      ·have : (vsp S).1 = val S.1 := rfl
       have : (vsp S).2 = val S.2 := rfl
       grind
      ·exact r1 q1
     ·have n1 : ¬ (vsp S).1 < val c := fun h => m2 ⟨h, by show val c ≤ val S.2; grind⟩
      -- c lies at or below the lower bound
      rcases hA2 with ⟨r1, r2⟩ | ⟨r1, r2⟩
      ·grind
      ·have := hm (val c) (vsp S).1 hcX ivS.x (by grind)
       omega
    ·rw [k1]
     refine cmpA_le hr (hleA.1 ?_)
     exact leA_top hm ivS hcX (by show val S.2 ≤ val c; grind)
   rw [hres]
   refine signS_gen hp (Hs p (x.2 * y.2) (val x, val y)) dG ?_ z0 hS (fun i u h => h.step hp.fp) ?_ dAS ho hne
   ·intro hl
    rcases com_lin hp hc with h | h
    ·rw [h.2]
     have : isoF (linF c) x y = false := by
      cases hb : isoF (linF c) x y with
      | false => rfl
      | true => exact absurd ⟨hroot.1 h.1, hiso.1 hb⟩ hnot
     rw [this] at dI
     exact dI
    ·rw [h.2] at hl
     exact absurd (show oneF.length < 2 by show 1 < 2; omega) hl
   ·intro i u j1 j2 j3
    obtain ⟨oku, ivu⟩ := j2.ok (K := 23500000) hm hEd h0 (by omega)
    have dM := l2Cmp_den u.1.1 u.1.2 u.2.1 u.2.2 (by have := oku.x.1; omega) (by have := oku.y.1; omega) (Nat.le_trans oku.x.2.1 (by omega)) (Nat.le_trans oku.x.2.2 (by omega)) (Nat.le_trans oku.y.2.1 (by omega)) (Nat.le_trans oku.y.2.2 (by omega))
    have dC := cp_count_S (lin_cp hc ok) u.1 u.2 (oku.x.mono (by omega)) (oku.y.mono (by omega)) (lin_free_S hc ok)
    have vlt := val_lt oku.x.1 oku.y.1
    have hcm : cmpI (u.1.1 * u.2.2) (u.2.1 * u.1.2) < 0 ↔ u.1.1 * u.2.2 < u.2.1 * u.1.2 := by unfold cmpI; split <;> (try split) <;> omega
    have r1 := lin_count hc oku.x.1
    have r2 := lin_count hc oku.y.1
    have ule := ivu.le
    have e1 : (vsp u).1 = val u.1 := rfl
    have e2 : (vsp u).2 = val u.2 := rfl
    rw [e1, e2] at ule
    refine ⟨⟨oku.x.mono (by omega), oku.y.mono (by omega), oku.lx, oku.ly, oku.le⟩, dM, dC, ?_⟩
    by_cases hcc : i < m
    ·have hg := m3 i hcc
     rw [← j2.eq, e1, e2] at hg
     rw [r1, r2, if_pos hg.1, if_neg (by grind)]
     exact .inl ⟨hcc, hcm.2 (vlt.1 (by grind)), by omega⟩
    ·obtain rfl : i = m := by omega
     rw [Nat.sub_self] at j3
     have j6 : u = S := j3
     subst j6
     rw [e1, e2] at m2
     refine .inr ⟨rfl, rfl, ?_⟩
     by_cases hs : u.1.1 * u.2.2 < u.2.1 * u.1.2
     ·refine .inr ⟨hcm.2 hs, ?_⟩
      have := vlt.2 hs
      rw [r1, r2]
      by_cases a : val u.1 < val c
      ·have b : val u.2 < val c := Classical.byContradiction fun hb => m2 ⟨a, by grind⟩
       rw [if_pos a, if_pos b]; omega
      ·rw [if_neg a, if_neg (by grind)]; omega
     ·exact .inl fun h => hs (hcm.1 h)
 refine go Tryz.func134 rfl rfl ?_
 repeat refine vs ?_
 conv => whnf
 refine CallS.mk _ rfl false false _ (dN) rfl ?_
 repeat refine vs ?_
 conv => whnf
 refine CallS.mk _ rfl true false _ (l2Int_den 1 (by omega) (by omega)) rfl ?_
 repeat refine vs ?_
 conv => whnf
 refine NewK.mk false ?_
 repeat refine vs ?_
 conv => whnf
 refine CallS.mk _ rfl true true _ (main) rfl ?_
 repeat refine vs ?_
 conv => whnf
 first | rfl | exact ⟨rfl, rfl⟩ | exact ⟨by simp [toRes], rfl⟩
end
end Go.Vx
end
