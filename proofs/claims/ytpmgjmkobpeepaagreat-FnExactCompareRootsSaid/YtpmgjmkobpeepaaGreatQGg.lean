/- Q17, Q18 -/
import Derived.Test.YtpmgjmkobpeepaaGreatQGf
set_option linter.unusedVariables false
set_option linter.unusedSectionVars false
set_option linter.unusedSimpArgs false
section
/- Two root polynomials: what the programs' counts do. -/
namespace Go.Vx
open Go.Proofs Sp
set_option maxRecDepth 100000

/-! ### signs and order -/
theorem den_pos {f : Int × Int} (h : 0 < f.2) : (0 : Rat) < (f.2 : Rat) := by
 have : ((0 : Int) : Rat) < (f.2 : Rat) := Rat.intCast_lt_intCast.2 h
 exact this
theorem val_pos {f : Int × Int} (h : 0 < f.2) : 0 < val f ↔ 0 < f.1 := by
 have h1 := val_mul (f := f) (by omega)
 have h2 := den_pos h
 have e0 : ((0 : Int) : Rat) = 0 := rfl
 constructor
 ·intro k
  have := Rat.mul_pos k h2
  rw [h1, ← e0] at this
  exact Rat.intCast_lt_intCast.1 this
 ·intro k
  have k2 : (0 : Rat) < (f.1 : Rat) := by rw [← e0]; exact Rat.intCast_lt_intCast.2 k
  refine Classical.byContradiction fun hn => ?_
  have := Rat.mul_le_mul_of_nonneg_right (show val f ≤ 0 by grind) (show 0 ≤ (f.2 : Rat) by grind)
  grind
theorem val_neg_iff {f : Int × Int} (h : 0 < f.2) : val f < 0 ↔ f.1 < 0 := by
 have h1 := val_pos h
 have h2 := val_zero_iff (f := f) (by omega)
 rcases Sp.tri (val f) 0 with t | t | t
 ·refine ⟨fun _ => ?_, fun _ => t⟩
  have a1 : ¬ 0 < f.1 := fun k => by have := h1.2 k; grind
  have a2 : ¬ f.1 = 0 := fun k => by have := h2.2 k; grind
  omega
 ·have := h2.1 t
  exact ⟨fun k => by grind, fun k => by omega⟩
 ·have := h1.1 t
  exact ⟨fun k => by grind, fun k => by omega⟩
theorem val_lt {x y : Int × Int} (hx : 0 < x.2) (hy : 0 < y.2) : val x < val y ↔ x.1 * y.2 < y.1 * x.2 := by
 have h1 := val_mul (f := x) (by omega)
 have h2 := val_mul (f := y) (by omega)
 have p : (0 : Rat) < (x.2 : Rat) * (y.2 : Rat) := Rat.mul_pos (den_pos hx) (den_pos hy)
 have e1 : val x * ((x.2 : Rat) * (y.2 : Rat)) = ((x.1 * y.2 : Int) : Rat) := by rw [Rat.intCast_mul, ← h1]; grind
 have e2 : val y * ((x.2 : Rat) * (y.2 : Rat)) = ((y.1 * x.2 : Int) : Rat) := by rw [Rat.intCast_mul, ← h2]; grind
 constructor
 ·intro k
  have := Rat.mul_lt_mul_of_pos_right k p
  rw [e1, e2] at this
  exact Rat.intCast_lt_intCast.1 this
 ·intro k
  refine lt_of_mul p ?_
  rw [e1, e2]
  exact Rat.intCast_lt_intCast.2 k
theorem val_eq {x y : Int × Int} (hx : 0 < x.2) (hy : 0 < y.2) : val x = val y ↔ x.1 * y.2 = y.1 * x.2 := by
 have h1 := val_lt hx hy
 have h2 := val_lt hy hx
 constructor
 ·intro k
  have a1 : ¬ x.1 * y.2 < y.1 * x.2 := fun h => by have := h1.2 h; grind
  have a2 : ¬ y.1 * x.2 < x.1 * y.2 := fun h => by have := h2.2 h; grind
  omega
 ·intro k
  have a1 : ¬ val x < val y := fun h => by have := h1.1 h; omega
  have a2 : ¬ val y < val x := fun h => by have := h2.1 h; omega
  grind
theorem val_le {x y : Int × Int} (hx : 0 < x.2) (hy : 0 < y.2) : val x ≤ val y ↔ x.1 * y.2 ≤ y.1 * x.2 := by
 have h2 := val_lt hy hx
 constructor
 ·intro k
  have a1 : ¬ y.1 * x.2 < x.1 * y.2 := fun h => by have := h2.2 h; grind
  omega
 ·intro k
  have a1 : ¬ val y < val x := fun h => by have := h2.1 h; omega
  grind
/-- A sign as a number. -/
def SR (i : Int) (r : Rat) : Prop := (i = 0 ∧ r = 0) ∨ (i = 1 ∧ 0 < r) ∨ (i = -1 ∧ r < 0)
theorem sr_val {f : Int × Int} (h : 0 < f.2) : SR (cmpI f.1 0) (val f) := by
 rcases Int.lt_trichotomy f.1 0 with t | t | t
 ·exact .inr (.inr ⟨by unfold cmpI; simp [t], (val_neg_iff h).2 t⟩)
 ·exact .inl ⟨by rw [t]; rfl, (val_zero_iff (by omega)).2 t⟩
 ·exact .inr (.inl ⟨by unfold cmpI; rw [if_neg (by omega)]; simp; omega, (val_pos h).2 t⟩)
theorem chgF_chg : ∀ {l : List (Int × Int)} {i : Int} {r : Rat}, SR i r → (∀ f ∈ l, 0 < f.2) → chgF i l = (chg r (l.map val) : Int)
 | [], _, _, _, _ => rfl
 | f :: l, i, r, hs, hl => by
  have hf := sr_val (hl f List.mem_cons_self)
  have hl' : ∀ g ∈ l, 0 < g.2 := fun g hg => hl g (List.mem_cons_of_mem _ hg)
  have i1 := chgF_chg (l := l) hs hl'
  have i2 := chgF_chg (l := l) hf hl'
  rw [List.map_cons, chg_cons]
  unfold chgF
  rcases hf with ⟨h1, h2⟩ | ⟨h1, h2⟩ | ⟨h1, h2⟩
  ·rw [if_pos h1, if_pos h2, i1]
  ·rw [if_neg (show ¬ cmpI f.1 0 = 0 by omega), if_neg (show ¬ val f = 0 by grind), i2, h1]
   rcases hs with ⟨k1, k2⟩ | ⟨k1, k2⟩ | ⟨k1, k2⟩
   ·rw [k1, k2, Rat.zero_mul, if_neg (by omega), if_neg (by grind)]; omega
   ·rw [k1, if_neg (by omega), if_neg (by have := Rat.mul_pos k2 h2; grind)]; omega
   ·rw [k1, if_pos (by omega), if_pos (mul_np k2 h2)]; omega
  ·rw [if_neg (show ¬ cmpI f.1 0 = 0 by omega), if_neg (show ¬ val f = 0 by grind), i2, h1]
   rcases hs with ⟨k1, k2⟩ | ⟨k1, k2⟩ | ⟨k1, k2⟩
   ·rw [k1, k2, Rat.zero_mul, if_neg (by omega), if_neg (by grind)]; omega
   ·rw [k1, if_pos (by omega), if_pos (mul_pn k2 h2)]; omega
   ·rw [k1, if_neg (by omega), if_neg (by have := mul_nn k2 h2; grind)]; omega
/-- The count of a chain, at a rational number. -/
def cntL (L : List (List (Int × Int))) (x : Rat) : Nat := V (L.map fun c => Sp.ev (vl c)) x
def cnt (p : List (Int × Int)) (x : Rat) : Nat := cntL (chainF p) x
theorem dN_p {x y : Int} (h : y ≠ 0) : 0 < dN x y := dN_pos h
theorem atF_pos {x : Int × Int} (hx : 0 < x.2) : ∀ {q : List (Int × Int)}, lowL q → 0 < (atF q x).2
 | [], _ => (by decide : (0 : Int) < 1)
 | c :: q, h => by
  have h1 := atF_pos hx (q := q) (fun f hf => h f (List.mem_cons_of_mem _ hf))
  have hc := (h c List.mem_cons_self).1
  have hm : 0 < (mulR (atF q x) x).2 := dN_p (Int.mul_ne_zero (by omega) (by omega))
  rw [atF_cons]
  exact dN_p (Int.mul_ne_zero (by omega) (by omega))
theorem chgAt_cnt {L : List (List (Int × Int))} (hL : ∀ c ∈ L, lowL c) {x : Int × Int} (hx : 0 < x.2) : chgAt L x = (cntL L (val x) : Int) := by
 unfold chgAt cntL V vals
 rw [chgF_chg (.inl ⟨rfl, rfl⟩) (fun f hf => by
  obtain ⟨c, hc, rfl⟩ := List.mem_map.1 hf
  exact atF_pos hx (hL c hc)), List.map_map, List.map_map]
 congr 2
 refine List.map_congr_left fun c hc => ?_
 exact (atF_val (by omega) (hL c hc)).2

/-! ### square-free parts -/
def B0 : Nat := 5200000
/-- A polynomial whose chain we can bound. -/
structure FP (p : List (Int × Int)) : Prop where
 low : lowL p
 top : topF p
 ge2 : 2 ≤ p.length
 le5 : p.length ≤ 5
 ht : ∃ s, Ht s (vl p) ∧ (s + 1) * 3 ^ p.length ≤ 23571
theorem RootP.fp {p : List (Int × Int)} (hr : RootP p) : FP p :=
 ⟨hr.lowL, hr.topF, hr.ge2, hr.le5, 96, hr.ht, by
  have := Nat.pow_le_pow_right (n := 3) (by omega) (show p.length ≤ 5 from hr.le5)
  omega⟩
section
variable {p : List (Int × Int)} (h : FP p)
include h
theorem FP.ne : p ≠ [] := fun e => by have := h.ge2; rw [e] at this; simp at this
theorem FP.fht : Ht 16000 (vl (freeF p)) := by
 obtain ⟨s, h1, h2⟩ := h.ht
 exact freeF_ht h.low h.top h.ge2 h.le5 h1 h2
theorem FP.free_low : lowL (freeF p) ∧ topF (freeF p) ∧ freeF p ≠ [] ∧ (freeF p).length ≤ 5 := by
 obtain ⟨k1, k2, k3⟩ := comF_good h.low (derivF_low h.low) h.ne h.top (derivF_top h.low h.top)
 have h2 := (divF_low h.low k1 (k3 k2)).1
 obtain ⟨g, C, a1, a2, a3, a4, a5⟩ := freeF_good h.low h.ne h.top
 have hg : 0 < (comF p (derivF p)).length := List.length_pos_iff.2 k2
 refine ⟨monicF_low (trimF_low h2) (topF_trim _), monicF_top (trimF_low h2) (topF_trim _), fun e => ?_, ?_⟩
 ·obtain ⟨c, hc, _⟩ := a2
  rw [e] at hc
  cases hc
 ·unfold freeF
  rw [monicF_len]
  refine Nat.le_trans (trimF_len _) ?_
  rw [quo_len]
  have := h.le5
  omega
/-- The roots stay. -/
theorem FP.root (x : Rat) : Sp.ev (vl p) x = 0 ↔ Sp.ev (vl (freeF p)) x = 0 := by
 obtain ⟨g, C, a1, a2, a3, a4, a5⟩ := freeF_good h.low h.ne h.top
 constructor
 ·intro h0
  -- t - x divides p
  obtain ⟨k, r, h1, h2⟩ := divide [-x] 1 (by decide) (vl p).length (vl p) (Nat.le_refl _)
  have e1 : ∀ y, Sp.ev ([-x] ++ [1]) y = y - x := fun y => by
   show Sp.ev [-x, 1] y = _
   rw [Sp.ev_cons, Sp.ev_cons, Sp.ev_nil]; grind
  have hr : ∀ y, Sp.ev r y = 0 := by
   have hx := h1 x
   rw [h0, e1] at hx
   match r, h2 with
   | [], _ => exact fun y => Sp.ev_nil y
   | [c], _ =>
    rw [Sp.ev_cons, Sp.ev_nil] at hx
    intro y
    rw [Sp.ev_cons, Sp.ev_nil]; grind
   | _ :: _ :: _, h2 => simp at h2
  have hdv : Dv [-x, 1] (vl p) := ⟨k, fun y => by
   have := h1 y
   rw [hr y] at this
   rw [this]
   show _ = Sp.ev ([-x] ++ [1]) y * _
   grind⟩
  have hco : Co [-x, 1] (Sp.der [-x, 1]) := ⟨[], [1], fun y => by
   have : Sp.ev (Sp.der [-x, 1]) y = 1 := by
    rw [Sp.ev_der_cons, Sp.ev_cons, Sp.ev_nil, Sp.ev_der_cons, Sp.ev_nil]
    have : Sp.ev (Sp.der []) y = 0 := Sp.ev_nil y
    rw [this]; grind
   rw [this]; simp only [Sp.ev_nil, Sp.ev_cons]; grind⟩
  obtain ⟨w, hw⟩ := sq_part a1 a2 ⟨1, by simp, by decide⟩ a3 a4 a5 hco hdv
  rw [hw x]
  have : Sp.ev [-x, 1] x = 0 := by rw [Sp.ev_cons, Sp.ev_cons, Sp.ev_nil]; grind
  rw [this]; grind
 ·intro h0
  rw [a3 x, h0]; grind
theorem FP.free_len : 2 ≤ (freeF p).length := by
 obtain ⟨f1, f2, f3, f4⟩ := h.free_low
 obtain ⟨g, C, a1, a2, a3, a4, a5⟩ := freeF_good h.low h.ne h.top
 have hpos : 0 < (freeF p).length := List.length_pos_iff.2 f3
 refine Classical.byContradiction fun hn => ?_
 obtain ⟨m, t, h1, h2, h3⟩ := vl_split f1 f3 f2
 have hm : m = [] := List.length_eq_zero_iff.1 (by omega)
 subst hm
 obtain ⟨m', t', b1, b2, b3⟩ := vl_split h.low h.ne h.top
 have hl := derivF_len p
 have hd : Dv (m' ++ [t']) (vl (derivF p)) := by
  refine ⟨Sp.smul (1 / t) C, fun x => ?_⟩
  rw [derivF_ev h.low, a4 x, ← b1, a3 x, h1, Sp.ev_smul, List.nil_append, Sp.ev_cons, Sp.ev_nil]
  have e : 1 / t * t = 1 := Rat.div_mul_cancel h2
  generalize 1 / t = w at *
  have : Sp.ev g x * (t + x * 0) * (w * Sp.ev C x) = (w * t) * (Sp.ev g x * Sp.ev C x) := by grind
  rw [this, e]; grind
 have hz := small_dv b2 (r := vl (derivF p)) (by rw [vl_len]; omega) hd
 have hd0 : derivF p ≠ [] := fun e => by rw [e] at hl; have := h.ge2; simp at hl; omega
 obtain ⟨x, hx⟩ := nz_ex (vl_nz (derivF_low h.low) hd0 (derivF_top h.low h.top))
 exact hx (hz x)
/-- **The chain, with its numbers.** -/
theorem FP.pol : ∃ l, chainF p = freeF p :: derivF (freeF p) :: l ∧ PolB B0 (vl (freeF p)) (vl (derivF (freeF p))) (l.map vl) := by
 obtain ⟨f1, f2, f3, f4⟩ := h.free_low
 have fl := h.free_len
 obtain ⟨g, C, a1, a2, a3, a4, a5⟩ := freeF_good h.low h.ne h.top
 have hl := derivF_len (freeF p)
 have hco : Co (vl (freeF p)) (Sp.der (vl (freeF p))) := by
  rcases co_or a2 (Sp.der (vl (freeF p))) with k | ⟨c0, l, k1, ⟨A, kA⟩, ⟨B, kB⟩⟩
  ·exact k
  ·exact (free_sep (c0 := c0) (l := l) rfl k1 a1 a3 a4 a5 kA kB).elim
 have hd0 : derivF (freeF p) ≠ [] := fun e => by rw [e] at hl; simp at hl; omega
 have hco2 : Co (vl (freeF p)) (vl (derivF (freeF p))) := by
  obtain ⟨u, v, k⟩ := hco
  exact ⟨u, v, fun x => by rw [derivF_ev f1]; exact k x⟩
 have m3 : 3 ^ (freeF p).length ≤ 243 := Nat.pow_le_pow_right (n := 3) (by omega) (show (freeF p).length ≤ 5 from f4)
 obtain ⟨l, l1, l2, l3⟩ := chL_lc (B := B0) (n := (derivF (freeF p)).length) (s := 16000) (t := 16002) f1 (derivF_low f1) (derivF_top f1 f2) hd0 (Nat.le_refl _) f4 (by omega) h.fht (derivF_ht f1 f4 h.fht) (by omega) (by unfold B0; omega) (by
  rw [if_pos (by omega), show max (freeF p).length (derivF (freeF p)).length = (freeF p).length by omega]
  unfold B0
  omega) hco2
 refine ⟨l, by rw [chainF_eq f1 f2, l1], l2, fun x => derivF_ev f1 x, ?_⟩
 rw [List.length_map]
 omega
theorem FP.chain_low : ∀ c ∈ chainF p, lowL c := by
 obtain ⟨f1, f2, f3, f4⟩ := h.free_low
 intro c hc
 rw [chainF_eq f1 f2] at hc
 rcases List.mem_cons.1 hc with rfl | hc
 ·exact f1
 ·have gen : ∀ (n : Nat) (a b : List (Int × Int)), lowL a → lowL b → topF b → b.length ≤ n → ∀ c ∈ chL a b, lowL c := by
   intro n
   induction n with
   | zero =>
    intro a b _ _ _ hb c hc
    have : b = [] := List.length_eq_zero_iff.1 (by omega)
    subst this
    cases hc
   | succ n ih =>
    intro a b la lb tb hb c hc
    by_cases e : b = []
    ·subst e; cases hc
    ·obtain ⟨n1, n2, n3⟩ := nextF_low la lb tb e
     rw [chL_cons la lb tb e] at hc
     rcases List.mem_cons.1 hc with rfl | hc
     ·exact lb
     ·exact ih b (nextF a b) lb n1 n2 (by omega) c hc
  exact gen _ _ _ f1 (derivF_low f1) (derivF_top f1 f2) (Nat.le_refl _) c hc
theorem FP.count {x : Int × Int} (hx : 0 < x.2) : chgAt (chainF p) x = (cnt p (val x) : Int) := chgAt_cnt h.chain_low hx
end
/-- The common divisor. -/
theorem com_ht {p q : List (Int × Int)} (hp : RootP p) (hq : RootP q) : ∃ u, Ht u (vl (comF p q)) ∧ (u + 1) * 3 ^ (comF p q).length ≤ 23571 := by
 obtain ⟨u, u1, u2⟩ := gcdF_ht (n := q.length) (s := 96) (t := 96) hp.lowL hq.lowL hq.topF hq.ne (Nat.le_refl _) hp.le5 hq.le5 hp.ht hq.ht (Nat.le_refl _)
 refine ⟨u, u1, ?_⟩
 have h5 := hp.le5
 have h6 := hq.le5
 have m : 3 ^ (max p.length q.length) ≤ 243 := Nat.pow_le_pow_right (n := 3) (by omega) (show max p.length q.length ≤ 5 by omega)
 rw [Nat.pow_succ, ← Nat.mul_assoc] at u2
 have : (if q.length < p.length then 1 else 3) * ((96 + 1) * 3 ^ (max p.length q.length)) ≤ 3 * ((96 + 1) * 3 ^ (max p.length q.length)) := Nat.mul_le_mul_right _ (by split <;> omega)
 show (u + 1) * 3 ^ (gcdF q.length p q).length ≤ 23571
 omega
theorem com_len {p q : List (Int × Int)} (hp : RootP p) (hq : RootP q) : (comF p q).length ≤ 5 := comF_len hp.lowL hq.lowL hq.topF hp.le5 hq.le5
theorem com_fp {p q : List (Int × Int)} (hp : RootP p) (hq : RootP q) (h2 : 2 ≤ (comF p q).length) : FP (comF p q) := by
 obtain ⟨k1, k2, k3⟩ := comF_good hp.lowL hq.lowL hp.ne hp.topF hq.topF
 exact ⟨k1, k3, h2, com_len hp hq, com_ht hp hq⟩
theorem trim_quo {P G : List (Int × Int)} (hP : lowL P) (hG : lowL G) (hG0 : G ≠ []) (tG : topF G) (h : Dv (vl G) (vl P)) (x : Rat) : Sp.ev (vl P) x = Sp.ev (vl G) x * Sp.ev (vl (trimF (divF P G).1)) x := by
 rw [divF_dv hP hG hG0 tG h x, trimF_ev (divF_low hP hG (tG hG0)).1]; grind
/-- **The counts of two root polynomials and of their common part.** -/
theorem cts_of {p q : List (Int × Int)} (hp : RootP p) (hq : RootP q) : ∃ (vg : Rat → Nat) (fg : Rat → Rat), Cts (p2 64) (dB B0) (cnt p) (cnt q) vg (Sp.ev (vl (freeF p))) (Sp.ev (vl (freeF q))) fg ∧
  (((comF p q).length < 2 ∧ vg = (fun _ => 0) ∧ fg = fun _ => 1) ∨ (2 ≤ (comF p q).length ∧ vg = cnt (comF p q) ∧ fg = Sp.ev (vl (freeF (comF p q))))) := by
 obtain ⟨cP, cQ, cG, H0, K0, e1, e2, e3, e4⟩ := parts_two hp.lowL hp.ne hp.topF hq.lowL hq.ne hq.topF
 obtain ⟨k1, k2, k3⟩ := comF_good hp.lowL hq.lowL hp.ne hp.topF hq.topF
 obtain ⟨lp, p1, pP⟩ := hp.fp.pol
 obtain ⟨lq, q1, pQ⟩ := hq.fp.pol
 have c1 : ∀ x, cnt p x = W (vl (freeF p)) (vl (derivF (freeF p))) (lp.map vl) x := fun x => by unfold cnt cntL W; rw [p1]; simp [List.map_map]; rfl
 have c2 : ∀ x, cnt q x = W (vl (freeF q)) (vl (derivF (freeF q))) (lq.map vl) x := fun x => by unfold cnt cntL W; rw [q1]; simp [List.map_map]; rfl
 have c1' := funext c1
 have c2' := funext c2
 obtain ⟨a1, a2, a3, a4⟩ := hp.fp.free_low
 obtain ⟨b1, b2, b3, b4⟩ := hq.fp.free_low
 rw [c1', c2']
 by_cases hl : (comF p q).length < 2
 ·refine ⟨_, _, ?_, .inl ⟨hl, rfl, rfl⟩⟩
  have hco : Co (vl (freeF p)) (vl (freeF q)) := by
   obtain ⟨u, v, hg⟩ := (comF_gd hp.lowL hq.lowL hp.topF hq.topF).2.2
   obtain ⟨m, t, h1, h2, h3⟩ := vl_split k1 k2 k3
   have hm : m = [] := List.length_eq_zero_iff.1 (by omega)
   subst hm
   have e : 1 / t * t = 1 := Rat.div_mul_cancel h2
   obtain ⟨g, C, r1, r2, r3, r4, r5⟩ := freeF_good hp.lowL hp.ne hp.topF
   obtain ⟨g', C', s1, s2, s3, s4, s5⟩ := freeF_good hq.lowL hq.ne hq.topF
   refine ⟨Sp.smul (1 / t) (Sp.mul u g), Sp.smul (1 / t) (Sp.mul v g'), fun x => ?_⟩
   have hx := hg x
   rw [h1, List.nil_append, Sp.ev_cons, Sp.ev_nil, r3, s3] at hx
   simp only [Sp.ev_smul, Sp.ev_mul]
   generalize 1 / t = w at *
   have : w * (Sp.ev u x * Sp.ev g x) * Sp.ev (vl (freeF p)) x + w * (Sp.ev v x * Sp.ev g' x) * Sp.ev (vl (freeF q)) x = w * (Sp.ev u x * (Sp.ev g x * Sp.ev (vl (freeF p)) x) + Sp.ev v x * (Sp.ev g' x * Sp.ev (vl (freeF q)) x)) := by grind
   rw [this, ← hx]
   grind
  have m3 : 3 ^ (max (freeF p).length (freeF q).length) ≤ 243 := Nat.pow_le_pow_right (n := 3) (by omega) (show max (freeF p).length (freeF q).length ≤ 5 by omega)
  obtain ⟨l, l1, l2, l3⟩ := chL_lc (B := B0) (n := (freeF q).length) (s := 16000) (t := 16000) a1 b1 b2 b3 (Nat.le_refl _) a4 b4 hp.fp.fht hq.fp.fht (by omega) (by unfold B0; omega) (by
   have : (if (freeF q).length < (freeF p).length then 1 else 2) * ((16000 + 1) * 3 ^ (max (freeF p).length (freeF q).length)) ≤ 2 * ((16000 + 1) * 3 ^ (max (freeF p).length (freeF q).length)) := Nat.mul_le_mul_right _ (by split <;> omega)
   unfold B0
   omega) hco
  exact cts_one pP pQ l2 (by rw [List.length_map]; omega)
 ·have hl2 : 2 ≤ (comF p q).length := by omega
  have hg := com_fp hp hq hl2
  obtain ⟨lg, g1, pG⟩ := hg.pol
  have c3' : cnt (comF p q) = W (vl (freeF (comF p q))) (vl (derivF (freeF (comF p q)))) (lg.map vl) := funext fun x => by unfold cnt cntL W; rw [g1]; simp [List.map_map]; rfl
  refine ⟨_, _, ?_, .inr ⟨hl2, rfl, rfl⟩⟩
  rw [c3']
  obtain ⟨d1, d2, d3, d4⟩ := hg.free_low
  have hdp : Dv (vl (freeF (comF p q))) (vl (freeF p)) := ⟨H0, e1⟩
  have hdq : Dv (vl (freeF (comF p q))) (vl (freeF q)) := ⟨K0, e2⟩
  have t1 := trim_quo a1 d1 d3 d2 hdp
  have t2 := trim_quo b1 d1 d3 d2 hdq
  have nG := vl_nz d1 d3 d2
  have eH := cancel nG (a := vl (trimF (divF (freeF p) (freeF (comF p q))).1)) (b := H0) fun x => by rw [← t1, e1]
  have eK := cancel nG (a := vl (trimF (divF (freeF q) (freeF (comF p q))).1)) (b := K0) fun x => by rw [← t2, e2]
  have hH := trimF_ht (divF_ht a1 d1 d2 d3 hp.fp.fht hg.fht).1
  have hK := trimF_ht (divF_ht b1 d1 d2 d3 hq.fp.fht hg.fht).1
  have dl : 0 < (freeF (comF p q)).length := List.length_pos_iff.2 d3
  have qH := quo_len (freeF p) (freeF (comF p q))
  have qK := quo_len (freeF q) (freeF (comF p q))
  have oH := trimF_len (divF (freeF p) (freeF (comF p q))).1
  have oK := trimF_len (divF (freeF q) (freeF (comF p q))).1
  have lH := trimF_low (divF_low a1 d1 (d2 d3)).1
  have lK := trimF_low (divF_low b1 d1 (d2 d3)).1
  have tK := topF_trim (divF (freeF q) (freeF (comF p q))).1
  have i1 : (freeF p).length + 1 - (freeF (comF p q)).length ≤ 5 := by omega
  have i2 : (freeF q).length + 1 - (freeF (comF p q)).length ≤ 5 := by omega
  have j1 := Nat.mul_le_mul_right (16000 + 1) i1
  have j2 := Nat.mul_le_mul_right (16000 + 1) i2
  have hH2 : Ht 96005 (vl (trimF (divF (freeF p) (freeF (comF p q))).1)) := hH.mono (by omega)
  have hK2 : Ht 96005 (vl (trimF (divF (freeF q) (freeF (comF p q))).1)) := hK.mono (by omega)
  have hK0 : trimF (divF (freeF q) (freeF (comF p q))).1 ≠ [] := fun e => by
   obtain ⟨x, hx⟩ := nz_ex (vl_nz b1 b3 b2)
   refine hx ?_
   rw [t2 x, e]
   have : Sp.ev (vl []) x = 0 := Sp.ev_nil x
   rw [this]; grind
  have hco : Co (vl (trimF (divF (freeF p) (freeF (comF p q))).1)) (vl (trimF (divF (freeF q) (freeF (comF p q))).1)) := by
   obtain ⟨u, v, h⟩ := e4
   exact ⟨u, v, fun x => by rw [eH, eK]; exact h x⟩
  have e1' := t1
  have e2' := t2
  generalize trimF (divF (freeF p) (freeF (comF p q))).1 = HH at *
  generalize trimF (divF (freeF q) (freeF (comF p q))).1 = KK at *
  have m3 : 3 ^ (max HH.length KK.length) ≤ 243 := Nat.pow_le_pow_right (n := 3) (by omega) (show max HH.length KK.length ≤ 5 by omega)
  obtain ⟨l, l1, l2, l3⟩ := chL_lc (B := B0) (n := KK.length) (s := 96005) (t := 96005) lH lK tK hK0 (Nat.le_refl _) (by omega) (by omega) hH2 hK2 (by omega) (by unfold B0; omega) (by
   have : (if KK.length < HH.length then 1 else 2) * ((96005 + 1) * 3 ^ (max HH.length KK.length)) ≤ 2 * ((96005 + 1) * 3 ^ (max HH.length KK.length)) := Nat.mul_le_mul_right _ (by split <;> omega)
   unfold B0
   omega) hco
  exact cts_two pP pQ pG e1' e2' l2 (by rw [List.length_map]; omega)
end Go.Vx
end
section
/- Halving in the programs and over the rationals; where the common part has a root. -/
namespace Go.Vx
open Go.Proofs Sp
set_option maxRecDepth 100000

/-! ### sizes of ends -/
theorem val_ab {f : Int × Int} (h : 0 < f.2) {b : Nat} (h1 : f.1.natAbs ≤ 2 ^ b) : ab (val f) ≤ p2 b := by
 have e := val_mul (f := f) (by omega)
 have k1 : ab (val f) * ab (f.2 : Rat) = ab (f.1 : Rat) := by rw [← ab_mul, e]
 have k2 := one_le_int (D := f.2) (by omega)
 have k3 : ab (f.1 : Rat) ≤ p2 b := by rw [ab_int]; exact nat_le h1
 have k4 := Rat.mul_le_mul_of_nonneg_left k2 (ab_nonneg (val f))
 grind
theorem nat_of_rat {m n : Nat} (h : (m : Rat) ≤ (n : Rat)) : m ≤ n := Rat.natCast_le_natCast.1 h
theorem dy_ok {f : Int × Int} (hf : low f) {E : Int} {n K : Nat} (hE : E ≠ 0) (hEe : E.natAbs ≤ 2 ^ 128) (hd : Dy E n (val f)) (hx : ab (val f) ≤ p2 64) (hK : 192 + n < 16 * K) : okF K f := by
 obtain ⟨k, hk⟩ := hd
 have h2 : E * 2 ^ n ≠ 0 := Int.mul_ne_zero hE (fun h => by have := int_pow_zero h; omega)
 obtain ⟨a1, a2⟩ := low_abs hf h2 hk
 have e1 : (E * 2 ^ n).natAbs ≤ 2 ^ (128 + n) := by
  rw [Int.natAbs_mul, int_pow_abs, Nat.pow_add]
  exact Nat.mul_le_mul_right _ hEe
 have e2 : k.natAbs ≤ 2 ^ (192 + n) := by
  refine nat_of_rat ?_
  have : ((k.natAbs : Nat) : Rat) = ab (k : Rat) := (ab_int k).symm
  rw [this, ← hk, ab_mul]
  have m1 : ab ((E * 2 ^ n : Int) : Rat) ≤ p2 (128 + n) := by rw [ab_int]; exact nat_le e1
  have m2 := mul_le_mul' hx m1 (ab_nonneg _) (by have := p2_pos (128 + n); grind)
  rw [← p2_add, show 64 + (128 + n) = 192 + n by omega] at m2
  exact m2
 exact abs_okF (K := K) (s := 192 + n) hf.1 (Nat.le_trans a2 e2) (Nat.le_trans a1 (Nat.le_trans e1 (Nat.pow_le_pow_right (by omega) (by omega)))) hK
def vsp (s : (Int × Int) × (Int × Int)) : Rat × Rat := (val s.1, val s.2)
theorem val_mid {x y : Int × Int} (hx : 0 < x.2) (hy : 0 < y.2) : val (midF x y) = mid (val x, val y) := by
 unfold midF mid
 have h1 := (addR_low hx hy).1
 rw [val_divR (b := (2, 1)) (by omega) (show (1 : Int) ≠ 0 by decide) (show (2 : Int) ≠ 0 by decide), val_addR (by omega) (by omega), val_whole]
 rfl
theorem midF_pos {x y : Int × Int} (hx : 0 < x.2) (hy : 0 < y.2) : 0 < (midF x y).2 := (midF_low hx hy).1
/-- The programs' halving is that over the rationals. -/
theorem vs_half {p : List (Int × Int)} (hp : FP p) {s : (Int × Int) × (Int × Int)} (hx : 0 < s.1.2) (hy : 0 < s.2.2) : vsp (halfF (chainF p) s) = hv (cnt p) (vsp s) := by
 have hm := midF_pos hx hy
 have e1 := val_eq hx hy
 have e2 := val_mid hx hy
 have c1 := hp.count hx
 have c2 := hp.count hm
 unfold halfF hv vsp
 dsimp only
 by_cases h : s.1.1 * s.2.2 = s.2.1 * s.1.2
 ·rw [if_pos h, if_pos (e1.2 h)]
 ·rw [if_neg h, if_neg (fun k => h (e1.1 k))]
  rw [c1, c2, e2]
  by_cases k : cnt p (val s.1) = cnt p (mid (val s.1, val s.2)) + 1
  ·rw [if_pos (by omega), if_pos k]
   show (val s.1, val (midF s.1 s.2)) = _
   rw [e2]
  ·rw [if_neg (by omega), if_neg k]
   show (val (midF s.1 s.2), val s.2) = _
   rw [e2]
/-- What is kept about an interval after n halvings. -/
structure Hs (p : List (Int × Int)) (E : Int) (s0 : Rat × Rat) (n : Nat) (s : (Int × Int) × (Int × Int)) : Prop where
 lx : low s.1
 ly : low s.2
 dx : Dy E n (val s.1)
 dy : Dy E n (val s.2)
 eq : vsp s = hvN (cnt p) n s0
theorem Hs.step {p : List (Int × Int)} (hp : FP p) {E : Int} {s0 : Rat × Rat} {n : Nat} {s : (Int × Int) × (Int × Int)} (h : Hs p E s0 n s) : Hs p E s0 (n + 1) (halfF (chainF p) s) := by
 have e := vs_half hp h.lx.1 h.ly.1
 have d := Dy.hv (p := cnt p) (s := vsp s) h.dx h.dy
 rw [← e] at d
 exact ⟨(halfF_low h.lx h.ly).1, (halfF_low h.lx h.ly).2, d.1, d.2, by rw [e, hvN_succ, h.eq]⟩
theorem iv_of {p : List (Int × Int)} (hp : RootP p) {x y : Int × Int} (hx : lowT 4 x) (hy : lowT 4 y) (hle : x.1 * y.2 ≤ y.1 * x.2) (hi : isoF p x y = true) : Iv (p2 64) (cnt p) (Sp.ev (vl (freeF p))) (val x, val y) := by
 have a1 := okF_abs hx.1
 have a2 := okF_abs hy.1
 have px := hx.1.1
 have py := hy.1.1
 refine ⟨val_ab px a1.1, val_ab py a2.1, ?_⟩
 unfold isoF at hi
 split at hi
 ·rename_i h
  rw [decide_eq_true_iff] at hi
  refine .inl ⟨(val_eq px py).2 h, (hp.fp.root _).1 ?_⟩
  have e := atF_val (x := x) (by omega) hp.lowL
  show Sp.ev (vl p) (val x) = 0
  rw [← e.2]
  exact (val_zero_iff e.1).2 hi
 ·rename_i h
  rw [decide_eq_true_iff, hp.fp.count px, hp.fp.count py] at hi
  exact .inr ⟨(val_lt px py).2 (by omega), by dsimp only; omega⟩
theorem st_zero {p : List (Int × Int)} {x y : Int × Int} (hx : lowT 4 x) (hy : lowT 4 y) : Hs p (x.2 * y.2) (val x, val y) 0 (x, y) := by
 have e1 := val_mul (f := x) (by have := hx.1.1; omega)
 have e2 := val_mul (f := y) (by have := hy.1.1; omega)
 refine ⟨⟨hx.1.1, hx.2⟩, ⟨hy.1.1, hy.2⟩, ⟨x.1 * y.2, ?_⟩, ⟨y.1 * x.2, ?_⟩, rfl⟩
 ·rw [Int.pow_zero, Int.mul_one, Rat.intCast_mul, Rat.intCast_mul, ← e1]; grind
 ·rw [Int.pow_zero, Int.mul_one, Rat.intCast_mul, Rat.intCast_mul, ← e2]; grind
theorem den_ok {x y : Int × Int} (hx : lowT 4 x) (hy : lowT 4 y) : x.2 * y.2 ≠ 0 ∧ (x.2 * y.2).natAbs ≤ 2 ^ 128 := by
 have a1 := okF_abs hx.1
 have a2 := okF_abs hy.1
 have px := hx.1.1
 have py := hy.1.1
 refine ⟨Int.mul_ne_zero (by omega) (by omega), ?_⟩
 rw [Int.natAbs_mul, show (128 : Nat) = 16 * 4 + 16 * 4 from rfl, Nat.pow_add]
 exact Nat.mul_le_mul a1.2 a2.2
/-- Such an interval's ends are short, and in order. -/
theorem Hs.ok {p : List (Int × Int)} (hm : Mono (p2 64) (cnt p)) {fp : Rat → Rat} {E : Int} {s0 : Rat × Rat} (hE : E ≠ 0 ∧ E.natAbs ≤ 2 ^ 128) (h0 : Iv (p2 64) (cnt p) fp s0) {n K : Nat} {s : (Int × Int) × (Int × Int)} (h : Hs p E s0 n s) (hK : 192 + n < 16 * K) : SpanOK K s ∧ Iv (p2 64) (cnt p) fp (vsp s) := by
 have hi := (h0.halves hm n).1
 rw [← h.eq] at hi
 exact ⟨⟨dy_ok h.lx hE.1 hE.2 h.dx hi.x hK, dy_ok h.ly hE.1 hE.2 h.dy hi.y hK, h.lx, h.ly, (val_le h.lx.1 h.ly.1).1 hi.le⟩, hi⟩

/-! ### the common divisor's chain -/
theorem eucB_165 : ∀ m, m < 6 → eucB 8 m (m - 1) 165 166 ≤ 1000000000 := by decide +kernel
theorem freeB_165 : ∀ m, m < 6 → ∀ e, e < 8 → freeB m 165 e ≤ 1000000000 := by decide +kernel
theorem eucB_1001 : ∀ n, n < 6 → eucB 8 n (n - 1) 1001 1002 ≤ 900000000 := by decide +kernel
theorem eucB_11 : ∀ m, m < 6 → ∀ n, n < 6 → eucB 8 m n 1 1 ≤ 1000000000 := by decide +kernel
theorem fp_ok {g : List (Int × Int)} (h : FP g) : okL 165 g := by
 obtain ⟨s, h1, h2⟩ := h.ht
 have m4 : 9 ≤ 3 ^ g.length := Nat.pow_le_pow_right (n := 3) (i := 2) (by omega) h.ge2
 have m5 := Nat.mul_le_mul_left (s + 1) m4
 exact okL_of_ht h.low h1 (by omega)
theorem fp_cp {g : List (Int × Int)} (h : FP g) : CP g := by
 obtain ⟨f1, f2, f3, f4⟩ := h.free_low
 exact ⟨1001, okL_of_ht f1 h.fht (by omega), f1, f2, f4, by omega, eucB_1001 _ (by omega)⟩
section
variable {g : List (Int × Int)} (h : FP g)
include h
theorem fp_free_I : D 62 [(false, [.arr 4 (g.map cellR)])] false (.one (false, [.arr 4 ((freeF g).map cellR)])) := by
 have h5 := h.le5
 obtain ⟨g1, g2, g3, g4, g5⟩ := comD (by omega) h.ne h.low h.top (fp_ok h)
 exact squareFree_den g 165 (by omega) h.ne h.low h.top (fp_ok h) (eucB_165 _ (by omega)) (freeB_165 _ (by omega) _ (by omega)) (by omega)
theorem fp_free_S : D 61 [(false, [.arr 4 (g.map cellR)])] false (.one (false, [.arr 4 ((freeF g).map cellR)])) := by
 have h5 := h.le5
 obtain ⟨g1, g2, g3, g4, g5⟩ := comD (by omega) h.ne h.low h.top (fp_ok h)
 exact l4Free_den g 165 (by omega) h.ne h.low h.top (fp_ok h) (eucB_165 _ (by omega)) (freeB_165 _ (by omega) _ (by omega)) (by omega)
variable (x y : Int × Int) (hx : okF 900000000 x) (hy : okF 900000000 y)
include hx hy
theorem fp_isoS : D 117 [(false, [.arr 4 (g.map cellR)]), spanV x.1 x.2 y.1 y.2] true (.one (bP (isoF g x y))) := by
 have h5 := h.le5
 have hok := fp_ok h
 have dM := l2Cmp_den x.1 x.2 y.1 y.2 (by have := hx.1; omega) (by have := hy.1; omega) (Nat.le_trans hx.2.1 (by omega)) (Nat.le_trans hx.2.2 (by omega)) (Nat.le_trans hy.2.1 (by omega)) (Nat.le_trans hy.2.2 (by omega))
 have dA := l4Eval_den g x (by omega) (hok.mono (by omega)) (hx.mono (by omega))
 have ho := (atF_ok hok hx).mono (show 4 + g.length * (165 + 900000000 + 1) ≤ 40000000000 by have := Nat.mul_le_mul_right (165 + 900000000 + 1) h5; omega)
 have dR := cp_count_S (fp_cp h) x y hx hy (fp_free_S h)
 have hc : (cmpI (x.1 * y.2) (y.1 * x.2) = 0) ↔ x.1 * y.2 = y.1 * x.2 := by unfold cmpI; split <;> (try split) <;> omega
 unfold isoF
 generalize atF g x = v at *
 generalize chgAt (chainF g) x - chgAt (chainF g) y = n at *
 have dS := l4Zero_den (decide (v.1 < 0)) (Lm.lim v.1.natAbs) (decide (v.2 < 0)) (Lm.lim v.2.natAbs) (Nat.le_trans ho.2.1 (by omega))
 have hz : (Lm.lim v.1.natAbs = []) ↔ v.1 = 0 := by rw [Lm.lim_eq_nil]; omega
 rw [show decide (Lm.lim v.1.natAbs = []) = decide (v.1 = 0) from decide_eq_decide.2 hz] at dS
 refine go Tryz.func117 rfl rfl ?_
 by_cases h1 : x.1 * y.2 = y.1 * x.2
 ·have h2 := hc.2 h1
  rw [if_pos h1]
  repeat refine vs ?_
  conv => whnf
  refine CallS.mk _ rfl true true _ (dM) rfl ?_
  repeat refine vs ?_
  conv => whnf
  refine CallS.mk _ rfl false false _ (dA) rfl ?_
  repeat refine vs ?_
  conv => whnf
  refine CallS.mk _ rfl true true _ (dS) rfl ?_
  repeat refine vs ?_
  conv => whnf
  first | rfl | exact ⟨rfl, rfl⟩ | exact ⟨by simp [toRes], rfl⟩
 ·have h2 : ¬ cmpI (x.1 * y.2) (y.1 * x.2) = 0 := fun h => h1 (hc.1 h)
  rw [if_neg h1]
  by_cases h3 : n = 1
  ·rw [decide_eq_true h3]
   repeat refine vs ?_
   conv => whnf
   refine CallS.mk _ rfl true true _ (dM) rfl ?_
   repeat refine vs ?_
   conv => whnf
   refine CallS.mk _ rfl true true _ (dR) rfl ?_
   repeat refine vs ?_
   conv => whnf
   first | rfl | exact ⟨rfl, rfl⟩ | exact ⟨by simp [toRes], rfl⟩
  ·rw [decide_eq_false h3]
   repeat refine vs ?_
   conv => whnf
   refine CallS.mk _ rfl true true _ (dM) rfl ?_
   repeat refine vs ?_
   conv => whnf
   refine CallS.mk _ rfl true true _ (dR) rfl ?_
   repeat refine vs ?_
   conv => whnf
   first | rfl | exact ⟨rfl, rfl⟩ | exact ⟨by simp [toRes], rfl⟩
/-- Whether a polynomial has a root in an interval, as the program asks. -/
def anyF (g : List (Int × Int)) (x y : Int × Int) : Bool := if g.length < 2 then false else if x.1 * y.2 = y.1 * x.2 then decide ((atF g x).1 = 0) else decide (0 < chgAt (chainF g) x - chgAt (chainF g) y)
theorem fp_holds : D 82 [spanV x.1 x.2 y.1 y.2, (false, [.arr 4 (g.map cellR)])] true (.one (bP (anyF g x y))) := by
 have h5 := h.le5
 have hge := h.ge2
 have hrl : (g.map cellR).length = g.length := by simp
 have hok := fp_ok h
 have dM := same_den x.1 x.2 y.1 y.2 (by have := hx.1; omega) (by have := hy.1; omega) (Nat.le_trans hx.2.1 (by omega)) (Nat.le_trans hx.2.2 (by omega)) (Nat.le_trans hy.2.1 (by omega)) (Nat.le_trans hy.2.2 (by omega))
 have dA := at_den g x (by omega) (hok.mono (by omega)) (hx.mono (by omega))
 have ho := (atF_ok hok hx).mono (show 4 + g.length * (165 + 900000000 + 1) ≤ 40000000000 by have := Nat.mul_le_mul_right (165 + 900000000 + 1) h5; omega)
 have dR := cp_roots_I (fp_cp h) x y hx hy (fp_free_I h)
 unfold anyF
 rw [if_neg (by omega)]
 generalize atF g x = v at *
 generalize chgAt (chainF g) x - chgAt (chainF g) y = n at *
 have dS := ratSign_den v.1 v.2 (Nat.le_trans ho.2.1 (by omega))
 refine go Tryz.func82 rfl rfl ?_
 by_cases h1 : x.1 * y.2 = y.1 * x.2
 ·rw [decide_eq_true h1] at dM
  rw [if_pos h1]
  by_cases h0 : v.1 = 0
  ·have h2 : cmpI v.1 0 = 0 := by rw [h0]; rfl
   rw [decide_eq_true h0]
   repeat refine vs ?_
   conv => whnf
   refine CallS.mk _ rfl true true _ (dM) rfl ?_
   repeat refine vs ?_
   conv => whnf
   refine CallS.mk _ rfl false false _ (dA) rfl ?_
   repeat refine vs ?_
   conv => whnf
   refine CallS.mk _ rfl true true _ (dS) rfl ?_
   repeat refine vs ?_
   conv => whnf
   first | rfl | exact ⟨rfl, rfl⟩ | exact ⟨by simp [toRes], rfl⟩
  ·have h2 : ¬ cmpI v.1 0 = 0 := by rcases cmpI_sgn v.1 with h | h | h <;> omega
   rw [decide_eq_false h0]
   repeat refine vs ?_
   conv => whnf
   refine CallS.mk _ rfl true true _ (dM) rfl ?_
   repeat refine vs ?_
   conv => whnf
   refine CallS.mk _ rfl false false _ (dA) rfl ?_
   repeat refine vs ?_
   conv => whnf
   refine CallS.mk _ rfl true true _ (dS) rfl ?_
   repeat refine vs ?_
   conv => whnf
   first | rfl | exact ⟨rfl, rfl⟩ | exact ⟨by simp [toRes], rfl⟩
 ·rw [decide_eq_false h1] at dM
  rw [if_neg h1]
  by_cases h2 : 0 < n
  ·rw [decide_eq_true h2]
   repeat refine vs ?_
   conv => whnf
   refine CallS.mk _ rfl true true _ (dM) rfl ?_
   repeat refine vs ?_
   conv => whnf
   refine CallS.mk _ rfl true true _ (dR) rfl ?_
   repeat refine vs ?_
   conv => whnf
   first | rfl | exact ⟨rfl, rfl⟩ | exact ⟨by simp [toRes], rfl⟩
  ·rw [decide_eq_false h2]
   repeat refine vs ?_
   conv => whnf
   refine CallS.mk _ rfl true true _ (dM) rfl ?_
   repeat refine vs ?_
   conv => whnf
   refine CallS.mk _ rfl true true _ (dR) rfl ?_
   repeat refine vs ?_
   conv => whnf
   first | rfl | exact ⟨rfl, rfl⟩ | exact ⟨by simp [toRes], rfl⟩
end
theorem one_holds {g : List (Int × Int)} (hl : g.length < 2) (x y : Int × Int) : D 82 [spanV x.1 x.2 y.1 y.2, (false, [.arr 4 (g.map cellR)])] true (.one (bP (anyF g x y))) := by
 have hrl : (g.map cellR).length = g.length := by simp
 unfold anyF
 rw [if_pos hl]
 refine go Tryz.func82 rfl rfl ?_
 repeat refine vs ?_
 conv => whnf
 first | rfl | exact ⟨rfl, rfl⟩ | exact ⟨by simp [toRes], rfl⟩
section
variable {p q : List (Int × Int)} (hp : RootP p) (hq : RootP q)
include hp hq
theorem com_I : D 60 [(false, [.arr 4 (p.map cellR)]), (false, [.arr 4 (q.map cellR)])] false (.one (false, [.arr 4 ((comF p q).map cellR)])) := by
 have h5 := hp.le5
 have h6 := hq.le5
 exact common_den 8 p q 1 1 (by omega) (by omega) hp.lowL hq.lowL hp.topF hq.topF hp.okL hq.okL (by omega) (eucB_11 _ (by omega) _ (by omega))
theorem com_S : D 59 [(false, [.arr 4 (p.map cellR)]), (false, [.arr 4 (q.map cellR)])] false (.one (false, [.arr 4 ((comF p q).map cellR)])) := by
 have h5 := hp.le5
 have h6 := hq.le5
 exact l4Gcd_den 8 p q 1 1 (by omega) (by omega) hp.lowL hq.lowL hp.topF hq.topF hp.okL hq.okL (by omega) (eucB_11 _ (by omega) _ (by omega))
theorem com_holds (x y : Int × Int) (hx : okF 900000000 x) (hy : okF 900000000 y) : D 82 [spanV x.1 x.2 y.1 y.2, (false, [.arr 4 ((comF p q).map cellR)])] true (.one (bP (anyF (comF p q) x y))) := by
 by_cases h : (comF p q).length < 2
 ·exact one_holds h x y
 ·exact fp_holds (com_fp hp hq (by omega)) x y hx hy
/-- What the programs ask of the common divisor, over the rationals. -/
theorem any_hold {vg : Rat → Nat} {fg : Rat → Rat} (hc : ((comF p q).length < 2 ∧ vg = (fun _ => 0) ∧ fg = fun _ => 1) ∨ (2 ≤ (comF p q).length ∧ vg = cnt (comF p q) ∧ fg = Sp.ev (vl (freeF (comF p q))))) {x y : Int × Int} (hx : 0 < x.2) (hy : 0 < y.2) :
  anyF (comF p q) x y = true ↔ hold vg fg (val x, val y) := by
 unfold anyF hold
 dsimp only
 rcases hc with ⟨h1, h2, h3⟩ | ⟨h1, h2, h3⟩
 ·rw [if_pos h1, h2, h3]
  constructor
  ·intro h; cases h
  ·rintro (⟨_, h⟩ | ⟨_, h⟩)
   ·exfalso; grind
   ·exfalso; dsimp only at h; omega
 ·have hg := com_fp hp hq h1
  rw [if_neg (by omega)]
  have ev0 := val_eq hx hy
  by_cases h : x.1 * y.2 = y.1 * x.2
  ·rw [if_pos h, decide_eq_true_iff]
   have e := atF_val (x := x) (by omega) hg.low
   have z := val_zero_iff e.1
   rw [e.2] at z
   have r := hg.root (val x)
   rw [← h3] at r
   constructor
   ·intro k; exact .inl ⟨ev0.2 h, r.1 (z.2 k)⟩
   ·rintro (⟨_, k⟩ | ⟨k, _⟩)
    ·exact z.1 (r.2 k)
    ·exact absurd (ev0.2 h) k
  ·rw [if_neg h, decide_eq_true_iff, hg.count hx, hg.count hy, ← h2]
   constructor
   ·intro k; exact .inr ⟨fun e => h (ev0.1 e), by omega⟩
   ·rintro (⟨k, _⟩ | ⟨_, k⟩)
    ·exact absurd (ev0.1 k) h
    ·omega
/-- The reference asks alike. -/
theorem iso_any {vg : Rat → Nat} {fg : Rat → Rat} {d : Rat} (C : Cts (p2 64) d (cnt p) (cnt q) vg (Sp.ev (vl (freeF p))) (Sp.ev (vl (freeF q))) fg) (h1 : 2 ≤ (comF p q).length) (h2 : vg = cnt (comF p q)) {x y : Int × Int} (hx : 0 < x.2) (hy : 0 < y.2)
  (hi : Iv (p2 64) (cnt p) (Sp.ev (vl (freeF p))) (val x, val y)) : isoF (comF p q) x y = anyF (comF p q) x y := by
 have hg := com_fp hp hq h1
 unfold isoF anyF
 rw [if_neg (show ¬ (comF p q).length < 2 by omega)]
 by_cases h : x.1 * y.2 = y.1 * x.2
 ·rw [if_pos h, if_pos h]
 ·rw [if_neg h, if_neg h, hg.count hx, hg.count hy, ← h2]
  have hlt : val x < val y := by
   have := hi.le
   have k : val x ≠ val y := fun e => h ((val_eq hx hy).1 e)
   grind
  have := hold_iff C hi hlt
  refine decide_eq_decide.2 ?_
  dsimp only at this
  omega
end
end Go.Vx
end
