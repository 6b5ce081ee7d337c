/- Q15, Q16 -/
import Derived.Test.YtpmgjmkobpeepaaGreatQ14
import Derived.Test.YtpmgjmkobpeepaaGreatSGb
import Derived.Test.YtpmgjmkobpeepaaGreatSGc
set_option linter.unusedVariables false
set_option linter.unusedSectionVars false
set_option linter.unusedSimpArgs false
section
/- The programs' fractions as rational numbers. -/
namespace Go.Vx
open Go.Proofs Sp
set_option maxRecDepth 100000

def val (f : Int × Int) : Rat := (f.1 : Rat) / (f.2 : Rat)
def vl (l : List (Int × Int)) : List Rat := l.map val
theorem cast_ne {y : Int} (h : y ≠ 0) : (y : Rat) ≠ 0 := fun e => h (Rat.intCast_inj.1 e)
theorem val_mul {f : Int × Int} (h : f.2 ≠ 0) : val f * (f.2 : Rat) = (f.1 : Rat) := Rat.div_mul_cancel (cast_ne h)
theorem mul_canc {a b c : Rat} (hc : c ≠ 0) (h : a * c = b * c) : a = b := by
 have h1 : a * c / c = b * c / c := by rw [h]
 rwa [Rat.mul_div_cancel hc, Rat.mul_div_cancel hc] at h1
theorem val_nd {x y : Int} (hy : y ≠ 0) : val (nN x y, dN x y) * (y : Rat) = (x : Rat) := by
 have h1 := nN_dN x y
 have hd := dN_pos (x := x) hy
 have hd0 : ((dN x y : Int) : Rat) ≠ 0 := cast_ne (by omega)
 have h2 := val_mul (f := (nN x y, dN x y)) (by dsimp only; omega)
 dsimp only at h2
 have h3 : (nN x y : Rat) * (y : Rat) = (x : Rat) * (dN x y : Rat) := by
  rw [← Rat.intCast_mul, ← Rat.intCast_mul, h1]
 refine mul_canc hd0 ?_
 rw [← h3, ← h2]
 grind
theorem val_addR {a b : Int × Int} (ha : a.2 ≠ 0) (hb : b.2 ≠ 0) : val (addR a b) = val a + val b := by
 have h := val_nd (x := addN a.1 a.2 b.1 b.2) (y := a.2 * b.2) (Int.mul_ne_zero ha hb)
 refine mul_canc (cast_ne (Int.mul_ne_zero ha hb)) ?_
 show val (nN _ _, dN _ _) * _ = _
 rw [h]
 have h1 := val_mul ha
 have h2 := val_mul hb
 unfold addN
 rw [Rat.intCast_add, Rat.intCast_mul, Rat.intCast_mul, Rat.intCast_mul, ← h1, ← h2]
 grind
theorem val_subR {a b : Int × Int} (ha : a.2 ≠ 0) (hb : b.2 ≠ 0) : val (subR a b) = val a - val b := by
 have h := val_nd (x := addN a.1 a.2 (-b.1) b.2) (y := a.2 * b.2) (Int.mul_ne_zero ha hb)
 refine mul_canc (cast_ne (Int.mul_ne_zero ha hb)) ?_
 show val (nN _ _, dN _ _) * _ = _
 rw [h]
 have h1 := val_mul ha
 have h2 := val_mul hb
 unfold addN
 rw [Rat.intCast_add, Rat.intCast_mul, Rat.intCast_mul, Rat.intCast_mul, Rat.intCast_neg, ← h1, ← h2]
 grind
theorem val_mulR {a b : Int × Int} (ha : a.2 ≠ 0) (hb : b.2 ≠ 0) : val (mulR a b) = val a * val b := by
 have h := val_nd (x := a.1 * b.1) (y := a.2 * b.2) (Int.mul_ne_zero ha hb)
 refine mul_canc (cast_ne (Int.mul_ne_zero ha hb)) ?_
 show val (nN _ _, dN _ _) * _ = _
 rw [h]
 have h1 := val_mul ha
 have h2 := val_mul hb
 rw [Rat.intCast_mul, Rat.intCast_mul, ← h1, ← h2]
 grind
theorem val_zero_iff {f : Int × Int} (h : f.2 ≠ 0) : val f = 0 ↔ f.1 = 0 := by
 have h1 := val_mul h
 constructor
 ·intro e
  rw [e, Rat.zero_mul] at h1
  exact Rat.intCast_inj.1 h1.symm
 ·intro e
  rw [e] at h1
  rcases Rat.mul_eq_zero.1 h1 with h2 | h2
  ·exact h2
  ·exact absurd h2 (cast_ne h)
theorem val_divR {a b : Int × Int} (ha : a.2 ≠ 0) (hb : b.2 ≠ 0) (h0 : b.1 ≠ 0) : val (divR a b) = val a / val b := by
 have h := val_nd (x := a.1 * b.2) (y := a.2 * b.1) (Int.mul_ne_zero ha h0)
 have hv : val b ≠ 0 := fun e => h0 ((val_zero_iff hb).1 e)
 refine mul_canc hv ?_
 rw [Rat.div_mul_cancel hv]
 have h1 := val_mul ha
 have h2 := val_mul hb
 rw [Rat.intCast_mul, Rat.intCast_mul, ← h1, ← h2] at h
 refine mul_canc (cast_ne (Int.mul_ne_zero ha hb)) ?_
 rw [Rat.intCast_mul]
 have h3 : val (divR a b) = val (nN (a.1 * b.2) (a.2 * b.1), dN (a.1 * b.2) (a.2 * b.1)) := rfl
 rw [h3]
 grind
theorem val_01 : val (0, 1) = 0 := (val_zero_iff (by decide)).2 rfl
/-- Evaluation. -/
theorem atF_cons (c : Int × Int) (q : List (Int × Int)) (x : Int × Int) : atF (c :: q) x = addR (mulR (atF q x) x) c := by
 unfold atF
 rw [List.reverse_cons]
 generalize q.reverse = l
 have : ∀ (l : List (Int × Int)) (v : Int × Int), horF x v (l ++ [c]) = addR (mulR (horF x v l) x) c := by
  intro l
  induction l with
  | nil => intro v; rfl
  | cons d l ih => intro v; exact ih _
 exact this l (0, 1)
theorem atF_val {x : Int × Int} (hx : x.2 ≠ 0) : ∀ {q : List (Int × Int)}, lowL q → (atF q x).2 ≠ 0 ∧ val (atF q x) = Sp.ev (vl q) (val x)
 | [], _ => ⟨(by decide : (1 : Int) ≠ 0), val_01⟩
 | c :: q, h => by
  obtain ⟨h1, h2⟩ := atF_val hx (q := q) (fun f hf => h f (List.mem_cons_of_mem _ hf))
  have hc : c.2 ≠ 0 := by have := (h c List.mem_cons_self).1; omega
  have hm : (mulR (atF q x) x).2 ≠ 0 := by
   have := dN_pos (x := (atF q x).1 * x.1) (y := (atF q x).2 * x.2) (Int.mul_ne_zero h1 hx)
   show dN _ _ ≠ 0
   omega
  rw [atF_cons]
  refine ⟨?_, ?_⟩
  ·have := dN_pos (x := addN (mulR (atF q x) x).1 (mulR (atF q x) x).2 c.1 c.2) (y := (mulR (atF q x) x).2 * c.2) (Int.mul_ne_zero hm hc)
   show dN _ _ ≠ 0
   omega
  ·rw [val_addR hm hc, val_mulR h1 hx, h2]
   show _ = Sp.ev (val c :: vl q) (val x)
   rw [Sp.ev_cons]
   grind

/-! ### lists -/
theorem vl_getD (l : List (Int × Int)) (i : Nat) : (vl l).getD i 0 = val (l.getD i (0, 1)) := by
 unfold vl
 rw [List.getD, List.getD, List.getElem?_map]
 cases l[i]? with
 | none => exact val_01.symm
 | some f => rfl
theorem vl_len (l : List (Int × Int)) : (vl l).length = l.length := List.length_map _
theorem low_ne {f : Int × Int} (h : low f) : f.2 ≠ 0 := by have := h.1; omega
theorem vl_lead {q : List (Int × Int)} (hq : lowL q) (h0 : (q.getD (q.length - 1) (0, 1)).1 ≠ 0) : (vl q).getD ((vl q).length - 1) 0 ≠ 0 := by
 rw [vl_len, vl_getD]
 exact fun e => h0 ((val_zero_iff (low_ne (getD_low hq _))).1 e)
theorem subRow_val : ∀ {q out : List (Int × Int)} {j : Nat} {d : Int × Int}, lowL out → lowL q → low d → vl (subRow out j d q) = subQ (vl out) j (val d) (vl q)
 | [], _, _, _, _, _, _ => rfl
 | b :: q, out, j, d, h, hq, hd => by
  have hb := hq b List.mem_cons_self
  have hm := mulR_low hd.1 hb.1
  show _ = subQ (vl out) j (val d) (val b :: vl q)
  rw [subRow, subRow_val (set_low h (subR_low (getD_low h j).1 hm.1)) (fun f hf => hq f (List.mem_cons_of_mem _ hf)) hd, subQ, vl_getD]
  rw [show vl (out.set j (subR (out.getD j (0, 1)) (mulR d b))) = (vl out).set j (val (subR (out.getD j (0, 1)) (mulR d b))) from List.map_set]
  rw [val_subR (low_ne (getD_low h j)) (low_ne hm), val_mulR (low_ne hd) (low_ne hb)]
theorem divL_val {q : List (Int × Int)} (hq : lowL q) (h0 : (q.getD (q.length - 1) (0, 1)).1 ≠ 0) : ∀ {i : Nat} {s : List (Int × Int) × List (Int × Int)}, lowL s.1 → lowL s.2 →
  (vl (divL q i s).1, vl (divL q i s).2) = divQ (vl q) i (vl s.1, vl s.2)
 | 0, _, _, _ => rfl
 | i + 1, s, h1, h2 => by
  have hd := divR_low (b := q.getD (q.length - 1) (0, 1)) (getD_low h2 (i + q.length - 1)).1 h0
  have hv := val_divR (low_ne (getD_low h2 (i + q.length - 1))) (low_ne (getD_low hq (q.length - 1))) h0
  rw [divQ, vl_len, vl_getD, vl_getD, ← hv, divL]
  rw [divL_val hq h0 (i := i) (set_low h1 hd) (subRow_low h2 hq hd)]
  dsimp only
  rw [subRow_val h2 hq hd]
  rw [show ∀ x, vl (s.1.set i x) = (vl s.1).set i (val x) from fun x => List.map_set]
theorem vl_rep (n : Nat) : vl (List.replicate n (0, 1)) = List.replicate n 0 := by unfold vl; rw [List.map_replicate, val_01]
theorem divF_val {p q : List (Int × Int)} (hp : lowL p) (hq : lowL q) (h0 : (q.getD (q.length - 1) (0, 1)).1 ≠ 0) :
  (vl (divF p q).1, vl (divF p q).2) = divQ (vl q) ((vl p).length + 1 - (vl q).length) (List.replicate ((vl p).length + 1 - (vl q).length) 0, vl p) := by
 unfold divF
 rw [divL_val hq h0 (fun f hf => by rw [(List.mem_replicate.1 hf).2]; exact ⟨by decide, by decide⟩) hp]
 dsimp only
 rw [vl_rep, vl_len, vl_len]
/-- p = q times the quotient, and the rest. -/
theorem divF_eq {p q : List (Int × Int)} (hp : lowL p) (hq : lowL q) (hq0 : q ≠ []) (h0 : (q.getD (q.length - 1) (0, 1)).1 ≠ 0) (x : Rat) :
  Sp.ev (vl p) x = Sp.ev (vl (divF p q).1) x * Sp.ev (vl q) x + Sp.ev (vl (divF p q).2) x := by
 have e := divF_val hp hq h0
 have e1 := congrArg Prod.fst e
 have e2 := congrArg Prod.snd e
 dsimp only at e1 e2
 rw [e1, e2]
 by_cases hl : q.length ≤ p.length
 ·exact divQ_eq (by unfold vl; simpa using hq0) (by rw [vl_len, vl_len]; exact hl) x
 ·rw [show (vl p).length + 1 - (vl q).length = 0 by rw [vl_len, vl_len]; omega]
  show _ = Sp.ev [] x * _ + _
  rw [Sp.ev_nil]
  show _ = 0 * _ + Sp.ev (vl p) x
  grind
theorem trimF_val (x : Rat) : ∀ (n : Nat) {l : List (Int × Int)}, l.length ≤ n → lowL l → Sp.ev (vl (trimF l)) x = Sp.ev (vl l) x
 | 0, l, h, _ => by rw [List.length_eq_zero_iff.1 (show l.length = 0 by omega)]; rfl
 | n + 1, l, h, hl => by
  rcases List.eq_nil_or_concat l with e | ⟨m, a, e⟩
  ·rw [e]; rfl
  ·rw [List.concat_eq_append] at e
   subst e
   rw [trimF_snoc]
   split
   ·rename_i h0
    rw [trimF_val x n (by simp at h; omega) (fun f hf => hl f (List.mem_append_left _ hf))]
    unfold vl
    rw [List.map_append, List.map_singleton, ev_snoc, (val_zero_iff (low_ne (hl a (by simp)))).2 h0]
    grind
   ·rfl
theorem trimF_ev {l : List (Int × Int)} (h : lowL l) (x : Rat) : Sp.ev (vl (trimF l)) x = Sp.ev (vl l) x := trimF_val x _ (Nat.le_refl _) h
theorem scaleF_vl {b : Int × Int} {p : List (Int × Int)} (hp : lowL p) (hb : b.1 ≠ 0) (hb2 : b.2 ≠ 0) : vl (scaleF b p) = (vl p).map fun c => c / val b := by
 unfold vl scaleF
 rw [List.map_map, List.map_map]
 refine List.map_congr_left fun f hf => ?_
 exact val_divR (low_ne (hp f hf)) hb2 hb
theorem ev_over {b : Rat} (hb : b ≠ 0) (x : Rat) : ∀ (l : List Rat), Sp.ev l x = b * Sp.ev (l.map fun c => c / b) x
 | [] => by rw [List.map_nil, Sp.ev_nil]; grind
 | c :: l => by
  rw [List.map_cons, Sp.ev_cons, Sp.ev_cons, ev_over hb x l]
  have : c / b * b = c := Rat.div_mul_cancel hb
  grind
theorem scaleF_ev {b : Int × Int} {p : List (Int × Int)} (hp : lowL p) (hb : b.1 ≠ 0) (hb2 : b.2 ≠ 0) (x : Rat) : Sp.ev (vl p) x = val b * Sp.ev (vl (scaleF b p)) x := by
 rw [scaleF_vl hp hb hb2]
 exact ev_over (fun e => hb ((val_zero_iff hb2).1 e)) x _
theorem val_whole (n : Int) : val (n, 1) = (n : Rat) := by
 have := val_mul (f := (n, 1)) (show (1 : Int) ≠ 0 by decide)
 dsimp only at this
 rw [← this]
 show _ = _ * ((1 : Int) : Rat)
 rw [Rat.intCast_one]; grind
theorem derF_ev (x : Rat) : ∀ {l : List (Int × Int)} {i : Nat}, lowL l → Sp.ev (vl (derF i l)) x = (i : Rat) * Sp.ev (vl l) x + x * Sp.ev (Sp.der (vl l)) x
 | [], i, _ => by show Sp.ev [] x = _ * Sp.ev [] x + x * Sp.ev [] x; rw [Sp.ev_nil]; grind
 | f :: l, i, h => by
  have := derF_ev x (l := l) (i := i + 1) (fun g hg => h g (List.mem_cons_of_mem _ hg))
  show Sp.ev (val (mulR f ((i : Int), 1)) :: vl (derF (i + 1) l)) x = _ * Sp.ev (val f :: vl l) x + x * Sp.ev (Sp.der (val f :: vl l)) x
  rw [Sp.ev_cons, this, Sp.ev_cons, Sp.ev_der_cons, val_mulR (low_ne (h f List.mem_cons_self)) (show (1 : Int) ≠ 0 by decide), val_whole]
  have e : ((i + 1 : Nat) : Rat) = (i : Rat) + 1 := by rw [Rat.natCast_add]; rfl
  have e2 : (((i : Nat) : Int) : Rat) = (i : Rat) := rfl
  rw [e, e2]
  grind
theorem derivF_ev {p : List (Int × Int)} (h : lowL p) (x : Rat) : Sp.ev (vl (derivF p)) x = Sp.ev (Sp.der (vl p)) x := by
 cases p with
 | nil => rfl
 | cons f l =>
  show Sp.ev (vl (derF 1 l)) x = Sp.ev (Sp.der (val f :: vl l)) x
  rw [derF_ev x (fun g hg => h g (List.mem_cons_of_mem _ hg)), Sp.ev_der_cons]
  have : ((1 : Nat) : Rat) = 1 := rfl
  rw [this]; grind

/-! ### the common divisor -/
theorem monicF_ev {p : List (Int × Int)} (hp : lowL p) (tp : topF p) : ∃ c : Rat, c ≠ 0 ∧ ∀ x, Sp.ev (vl p) x = c * Sp.ev (vl (monicF p)) x := by
 by_cases h : p = []
 ·subst h
  exact ⟨1, by decide, fun x => by show Sp.ev [] x = 1 * Sp.ev [] x; rw [Sp.ev_nil]; grind⟩
 ·have h0 := tp h
  have hl := low_ne (getD_low hp (p.length - 1))
  exact ⟨_, fun e => h0 ((val_zero_iff hl).1 e), scaleF_ev hp h0 hl⟩
theorem gcdF_gd : ∀ {n : Nat} {p q : List (Int × Int)}, lowL p → lowL q → topF p → topF q → q.length ≤ n → Gd (vl (gcdF n p q)) (vl p) (vl q)
 | 0, p, q, hp, hq, tp, tq, hn => by
  have : q = [] := List.length_eq_zero_iff.1 (by omega)
  subst this
  obtain ⟨c, hc, h⟩ := monicF_ev hp tp
  exact Gd.nil hc (fun x => Sp.ev_nil x) h
 | n + 1, p, q, hp, hq, tp, tq, hn => by
  unfold gcdF
  split
  ·rename_i h
   subst h
   obtain ⟨c, hc, h⟩ := monicF_ev hp tp
   exact Gd.nil hc (fun x => Sp.ev_nil x) h
  ·rename_i h
   have h1 := divF_rest hp hq h (tq h)
   have h2 := divF_low hp hq (tq h)
   have l4 := trimF_low h2.2
   have t4 := topF_trim (divF p q).2
   obtain ⟨c, hc, h5⟩ := monicF_ev l4 t4
   refine Gd.step (divF_eq hp hq h (tq h)) (fun x => ?_) hc (gcdF_gd hq (monicF_low l4 t4) tq (monicF_top l4 t4) (by rw [monicF_len]; omega))
   rw [← h5, trimF_ev h2.2]
theorem comF_gd {p q : List (Int × Int)} (hp : lowL p) (hq : lowL q) (tp : topF p) (tq : topF q) : Gd (vl (comF p q)) (vl p) (vl q) := gcdF_gd hp hq tp tq (Nat.le_refl _)

theorem vl_split {q : List (Int × Int)} (hq : lowL q) (hq0 : q ≠ []) (tq : topF q) : ∃ (m : List Rat) (t : Rat), vl q = m ++ [t] ∧ t ≠ 0 ∧ m.length + 1 = q.length := by
 rcases List.eq_nil_or_concat q with e | ⟨m, a, e⟩
 ·exact absurd e hq0
 ·rw [List.concat_eq_append] at e
  subst e
  refine ⟨vl m, val a, ?_, fun e => ?_, ?_⟩
  ·unfold vl; rw [List.map_append, List.map_singleton]
  ·have h1 := (val_zero_iff (low_ne (hq a (by simp)))).1 e
   have h2 := tq hq0
   rw [List.length_append, List.length_singleton, Nat.add_sub_cancel, List.getD, List.getElem?_append_right (Nat.le_refl _), Nat.sub_self] at h2
   exact h2 h1
  ·rw [vl_len, List.length_append, List.length_singleton]
/-- The division by a divisor. -/
theorem divF_dv {p q : List (Int × Int)} (hp : lowL p) (hq : lowL q) (hq0 : q ≠ []) (tq : topF q) (h : Dv (vl q) (vl p)) (x : Rat) : Sp.ev (vl p) x = Sp.ev (vl (divF p q).1) x * Sp.ev (vl q) x := by
 obtain ⟨m, t, h1, h2, h3⟩ := vl_split hq hq0 tq
 have k1 := divF_eq hp hq hq0 (tq hq0)
 have k2 := divF_low hp hq (tq hq0)
 have k3 := divF_rest hp hq hq0 (tq hq0)
 have e : ∀ x, Sp.ev (vl (trimF (divF p q).2)) x = 0 := rest_zero (p := vl p) (k := vl (divF p q).1) (m := m) h2 (by rw [vl_len]; omega) (fun x => by rw [← h1, trimF_ev k2.2]; exact k1 x) (by rw [← h1]; exact h)
 have e2 := e x
 rw [trimF_ev k2.2] at e2
 rw [k1 x, e2]
 grind

/-- The square-free part: what Sd.common_parts asks. -/
theorem freeF_parts {p : List (Int × Int)} (hp : lowL p) (tp : topF p) (hg : lowL (comF p (derivF p))) (hg0 : comF p (derivF p) ≠ []) (tg : topF (comF p (derivF p))) :
  ∃ g C : List Rat, Nz g ∧ (∀ x, Sp.ev (vl p) x = Sp.ev g x * Sp.ev (vl (freeF p)) x) ∧ (∀ x, Sp.ev (Sp.der (vl p)) x = Sp.ev g x * Sp.ev C x) ∧ Co (vl (freeF p)) C := by
 have gd := comF_gd hp (derivF_low hp) tp (derivF_top hp tp)
 unfold freeF
 generalize comF p (derivF p) = G at *
 have l2 := divF_low hp hg (tg hg0)
 have l3 := trimF_low l2.1
 obtain ⟨c, hc, hm⟩ := monicF_ev l3 (topF_trim (divF p G).1)
 have e1 := divF_dv hp hg hg0 tg gd.1
 generalize monicF (trimF (divF p G).1) = P at *
 obtain ⟨C0, hC0⟩ := gd.2.1
 obtain ⟨m, t, h1, h2, h3⟩ := vl_split hg hg0 tg
 have nG : Nz (vl G) := ⟨t, by rw [h1]; simp, h2⟩
 have eP : ∀ x, Sp.ev (vl (divF p G).1) x = c * Sp.ev (vl P) x := fun x => by rw [← hm, trimF_ev l2.1]
 obtain ⟨u, v, co⟩ := gd.parts (P := vl (divF p G).1) (C := C0) nG (fun x => by rw [e1]; grind) hC0
 have k : 1 / c * c = 1 := Rat.div_mul_cancel hc
 refine ⟨smul c (vl G), smul (1 / c) C0, ?_, fun x => ?_, fun x => ?_, smul c u, smul c v, fun x => ?_⟩
 ·obtain ⟨x, hx⟩ := nz_ex nG
  refine nz_of_ev (x := x) fun e => ?_
  rw [Sp.ev_smul] at e
  rcases Rat.mul_eq_zero.1 e with e | e
  ·exact hc e
  ·exact hx e
 ·rw [e1, Sp.ev_smul, eP]; grind
 ·rw [← derivF_ev hp, hC0, Sp.ev_smul, Sp.ev_smul]
  have : Sp.ev C0 x = (1 / c * c) * Sp.ev C0 x := by rw [k]; grind
  generalize 1 / c = r at *
  grind
 ·have e := co x
  rw [eP] at e
  rw [Sp.ev_smul, Sp.ev_smul, Sp.ev_smul]
  have : Sp.ev C0 x = (1 / c * c) * Sp.ev C0 x := by rw [k]; grind
  generalize 1 / c = r at *
  grind

theorem vl_nz {q : List (Int × Int)} (hq : lowL q) (hq0 : q ≠ []) (tq : topF q) : Nz (vl q) := by
 obtain ⟨m, t, h1, h2, _⟩ := vl_split hq hq0 tq
 exact ⟨t, by rw [h1]; simp, h2⟩
theorem comF_good {p q : List (Int × Int)} (hp : lowL p) (hq : lowL q) (hp0 : p ≠ []) (tp : topF p) (tq : topF q) : lowL (comF p q) ∧ comF p q ≠ [] ∧ topF (comF p q) := by
 have h := gcdF_top (f := q.length) hp hq tp tq
 exact ⟨h.1, h.2.2 hp0, h.2.1⟩
theorem freeF_good {p : List (Int × Int)} (hp : lowL p) (hp0 : p ≠ []) (tp : topF p) :
  ∃ g C : List Rat, Nz g ∧ Nz (vl (freeF p)) ∧ (∀ x, Sp.ev (vl p) x = Sp.ev g x * Sp.ev (vl (freeF p)) x) ∧ (∀ x, Sp.ev (Sp.der (vl p)) x = Sp.ev g x * Sp.ev C x) ∧ Co (vl (freeF p)) C := by
 obtain ⟨k1, k2, k3⟩ := comF_good hp (derivF_low hp) hp0 tp (derivF_top hp tp)
 obtain ⟨g, C, h1, h2, h3, h4⟩ := freeF_parts hp tp k1 k2 k3
 refine ⟨g, C, h1, ?_, h2, h3, h4⟩
 obtain ⟨x, hx⟩ := nz_ex (vl_nz hp hp0 tp)
 exact nz_of_ev (x := x) fun e => hx (by rw [h2 x, e]; grind)
/-- Two polynomials and their common part. -/
theorem parts_two {p q : List (Int × Int)} (hp : lowL p) (hp0 : p ≠ []) (tp : topF p) (hq : lowL q) (hq0 : q ≠ []) (tq : topF q) :
  Co (vl (freeF p)) (Sp.der (vl (freeF p))) ∧ Co (vl (freeF q)) (Sp.der (vl (freeF q))) ∧ Co (vl (freeF (comF p q))) (Sp.der (vl (freeF (comF p q)))) ∧
   ∃ H K : List Rat, (∀ x, Sp.ev (vl (freeF p)) x = Sp.ev (vl (freeF (comF p q))) x * Sp.ev H x) ∧ (∀ x, Sp.ev (vl (freeF q)) x = Sp.ev (vl (freeF (comF p q))) x * Sp.ev K x) ∧ Co (vl (freeF (comF p q))) H ∧ Co H K := by
 obtain ⟨k1, k2, k3⟩ := comF_good hp hq hp0 tp tq
 have gd := comF_gd hp hq tp tq
 obtain ⟨g, C, a1, a2, a3, a4, a5⟩ := freeF_good hp hp0 tp
 obtain ⟨r, E, b1, b2, b3, b4, b5⟩ := freeF_good hq hq0 tq
 obtain ⟨h, D, c1, c2, c3, c4, c5⟩ := freeF_good k1 k2 k3
 exact common_parts a1 a2 a3 a4 a5 b1 b2 b3 b4 b5 c1 c2 c3 c4 c5 gd.1 gd.2.1 gd.2.2

/-! ### Sturm's chain -/
theorem val_neg (n d : Int) : val (-n, d) = -val (n, d) := by
 unfold val
 dsimp only
 rw [Rat.intCast_neg, Rat.div_def, Rat.div_def]; grind
theorem val_negA {f : Int × Int} (h : 0 < f.2) : val (negA f) = -ab (val f) := by
 have hd : (f.2 : Rat) ≠ 0 := cast_ne (by omega)
 have hd0 : (0 : Rat) ≤ (f.2 : Rat) := Rat.intCast_le_intCast.2 (show (0 : Int) ≤ f.2 by omega)
 have e1 := val_mul (f := f) (by omega)
 have e2 : val (negA f) * (f.2 : Rat) = ((-(f.1.natAbs : Int) : Int) : Rat) := val_mul (f := negA f) (show f.2 ≠ 0 by omega)
 refine mul_canc hd ?_
 have e3 : ab (val f) * (f.2 : Rat) = ((f.1.natAbs : Nat) : Rat) := by
  rw [← ab_int, ← e1, ab_mul, ab_nn hd0]
 rw [e2, Rat.intCast_neg]
 have : (((f.1.natAbs : Nat) : Int) : Rat) = ((f.1.natAbs : Nat) : Rat) := rfl
 rw [this, ← e3]; grind
theorem nextF_rel {p q : List (Int × Int)} (hp : lowL p) (hq : lowL q) (hq0 : q ≠ []) (tq : topF q) (h0 : nextF p q ≠ []) :
  ∃ f ∈ trimF (divF p q).2, val f ≠ 0 ∧ (vl (nextF p q)) = (vl (trimF (divF p q).2)).map (fun c => c / -ab (val f)) ∧
   ∀ x, Sp.ev (vl p) x = Sp.ev (vl (divF p q).1) x * Sp.ev (vl q) x - ab (val f) * Sp.ev (vl (nextF p q)) x := by
 have h2 := divF_low hp hq (tq hq0)
 have l4 := trimF_low h2.2
 have t4 := topF_trim (divF p q).2
 have e1 := divF_eq hp hq hq0 (tq hq0)
 have e2 := trimF_ev h2.2
 unfold nextF at h0 ⊢
 generalize trimF (divF p q).2 = r at *
 have hr : r ≠ [] := fun e => h0 (by rw [e]; rfl)
 have hlen : 0 < r.length := List.length_pos_iff.2 hr
 have hm : r.getD (r.length - 1) (0, 1) ∈ r := by
  rw [List.getD, List.getElem?_eq_getElem (by omega)]
  exact List.getElem_mem _
 have hne := t4 hr
 generalize r.getD (r.length - 1) (0, 1) = f at *
 have hf := l4 f hm
 have hv : val (negA f) = -ab (val f) := val_negA hf.1
 have hn2 : (negA f).2 ≠ 0 := (show f.2 ≠ 0 from low_ne hf)
 refine ⟨f, hm, fun e => hne ((val_zero_iff (low_ne hf)).1 e), ?_, fun x => ?_⟩
 ·rw [scaleF_vl l4 (negA_ne hne) hn2, hv]
 ·have e3 := scaleF_ev l4 (negA_ne hne) hn2 x
  rw [e1 x, ← e2 x, e3, hv]; grind
end Go.Vx
end
section
/- Heights along Euclid's steps; Sturm's chain with its numbers. -/
namespace Go.Vx
open Go.Proofs Sp
set_option maxRecDepth 100000

/-- How heights grow: what three to the length makes up for. -/
theorem pot : ∀ la, la < 6 → ∀ lb, lb < 6 → ∀ s t : Nat, s ≤ t → (s + (la + 1 - lb) * (t + 1) + 1) * 3 ^ lb ≤ (if lb < la then 1 else 2) * ((t + 1) * 3 ^ (max la lb)) ∧ (t + 1) * 3 ^ lb ≤ (if lb < la then 1 else 2) * ((t + 1) * 3 ^ (max la lb)) := by
 intro la ha lb hb s t hst
 have h1 : la = 0 ∨ la = 1 ∨ la = 2 ∨ la = 3 ∨ la = 4 ∨ la = 5 := by omega
 have h2 : lb = 0 ∨ lb = 1 ∨ lb = 2 ∨ lb = 3 ∨ lb = 4 ∨ lb = 5 := by omega
 rcases h1 with rfl | rfl | rfl | rfl | rfl | rfl <;> rcases h2 with rfl | rfl | rfl | rfl | rfl | rfl <;> (simp; omega)
theorem pot2 {B lb t : Nat} (h2 : 2 ≤ lb) (h : (t + 1) * 3 ^ lb ≤ 9 * (B + 1)) : t ≤ B := by
 have h3 : 3 ^ 2 ≤ 3 ^ lb := Nat.pow_le_pow_right (by omega) h2
 have := Nat.mul_le_mul_left (t + 1) h3
 omega
theorem len_top {p : List (Int × Int)} (hp : p ≠ []) : p.getD (p.length - 1) (0, 1) ∈ p := by
 have hlen : 0 < p.length := List.length_pos_iff.2 hp
 rw [List.getD, List.getElem?_eq_getElem (by omega)]
 exact List.getElem_mem _
theorem vl_mem {f : Int × Int} {l : List (Int × Int)} (h : f ∈ l) : val f ∈ vl l := List.mem_map.2 ⟨f, h, rfl⟩
theorem divF_ht {p q : List (Int × Int)} {s t : Nat} (hp : lowL p) (hq : lowL q) (tq : topF q) (hq0 : q ≠ []) (h1 : Ht s (vl p)) (h2 : Ht t (vl q)) :
  Ht (s + (p.length + 1 - q.length) * (t + 1)) (vl (divF p q).1) ∧ Ht (s + (p.length + 1 - q.length) * (t + 1)) (vl (divF p q).2) := by
 have e := divF_val hp hq (tq hq0)
 have h := h1.div h2 (vl_lead hq (tq hq0)) ((vl p).length + 1 - (vl q).length) ((vl p).length + 1 - (vl q).length)
 rw [← e] at h
 rw [vl_len, vl_len] at h
 exact ⟨h.sub fun c hc => List.mem_append_left _ hc, h.sub fun c hc => List.mem_append_right _ hc⟩
theorem vl_sub {l k : List (Int × Int)} (h : ∀ f ∈ k, f ∈ l) : ∀ c ∈ vl k, c ∈ vl l := fun c hc => by
 obtain ⟨f, hf, rfl⟩ := List.mem_map.1 hc
 exact vl_mem (h f hf)
theorem trimF_ht {l : List (Int × Int)} {s : Nat} (h : Ht s (vl l)) : Ht s (vl (trimF l)) := h.sub (vl_sub fun f hf => trimF_sub hf)
theorem monicF_ht {l : List (Int × Int)} {s : Nat} (hl : lowL l) (tl : topF l) (h : Ht s (vl l)) : Ht s (vl (monicF l)) := by
 by_cases e : l = []
 ·subst e; exact h
 ·have h0 := tl e
  have hm := len_top e
  unfold monicF
  rw [scaleF_vl hl h0 (low_ne (hl _ hm))]
  exact h.scale (vl_mem hm) (fun e => h0 ((val_zero_iff (low_ne (hl _ hm))).1 e))
/-- One step of the chain. -/
theorem nextF_ht {p q : List (Int × Int)} {s t : Nat} (hp : lowL p) (hq : lowL q) (tq : topF q) (hq0 : q ≠ []) (h1 : Ht s (vl p)) (h2 : Ht t (vl q)) (h0 : nextF p q ≠ []) :
  ∃ al : Rat, 0 < al ∧ 1 ≤ al * p2 (s + (p.length + 1 - q.length) * (t + 1)) ∧ Ht (s + (p.length + 1 - q.length) * (t + 1)) (vl (nextF p q)) ∧
   ∀ x, Sp.ev (vl p) x = Sp.ev (vl (divF p q).1) x * Sp.ev (vl q) x - al * Sp.ev (vl (nextF p q)) x := by
 obtain ⟨f, f1, f2, f3, f4⟩ := nextF_rel hp hq hq0 tq h0
 have hr := trimF_ht (divF_ht hp hq tq hq0 h1 h2).2
 refine ⟨ab (val f), ab_pos f2, hr.low (vl_mem f1) f2, ?_, f4⟩
 rw [f3]
 exact hr.scaleA (vl_mem f1) f2
theorem bd_of {B s : Nat} {l : List Rat} (h : Ht s l) (hs : s ≤ B) (hl : l.length ≤ 5) : Bd (p2 B) 5 l := ⟨fun c hc => by
 have h1 := h.abs hc
 have h2 := p2_le hs
 have : ((2 ^ s : Nat) : Rat) = p2 s := rfl
 grind, hl⟩
theorem inv_le_of {B s : Nat} {a : Rat} (h0 : 0 < a) (h : 1 ≤ a * p2 s) (hs : s ≤ B) : 1 / p2 B ≤ a := by
 have h1 := inv_mul B
 have h2 := p2_le hs
 have h3 := p2_pos B
 have h4 := Rat.mul_le_mul_of_nonneg_left h2 (show 0 ≤ a by grind)
 refine Classical.byContradiction fun hn => ?_
 have := Rat.mul_lt_mul_of_pos_right (show a < 1 / p2 B by grind) h3
 grind
/-- What divides 1 is constant. -/
theorem unit_const {q : List (Int × Int)} (hq : lowL q) (hq0 : q ≠ []) (tq : topF q) {w : List Rat} (h : ∀ x, Sp.ev (vl q) x * Sp.ev w x = 1) : ∃ k : Rat, k ≠ 0 ∧ vl q = [k] := by
 obtain ⟨m, t, h1, h2, h3⟩ := vl_split hq hq0 tq
 cases m with
 | nil => exact ⟨t, h2, h1⟩
 | cons c l =>
  exfalso
  rw [List.cons_append] at h1
  exact no_unit (c0 := c) (l := l ++ [t]) ⟨t, by simp, h2⟩ (w := w) fun x => by rw [← h1]; exact h x
theorem quo_len (p q : List (Int × Int)) : (divF p q).1.length = p.length + 1 - q.length := by unfold divF; rw [divL_len.1, List.length_replicate]
/-- **The chain of two polynomials without a common divisor, with its numbers.** -/
theorem chL_lc {B : Nat} : ∀ {n : Nat} {p q : List (Int × Int)} {s t : Nat}, lowL p → lowL q → topF q → q ≠ [] → q.length ≤ n → p.length ≤ 5 → q.length ≤ 5 → Ht s (vl p) → Ht t (vl q) → s ≤ t → t ≤ B →
  (if q.length < p.length then 1 else 2) * ((t + 1) * 3 ^ (max p.length q.length)) ≤ 9 * (B + 1) → Co (vl p) (vl q) →
  ∃ l, chL p q = q :: l ∧ LC (p2 B) (1 / p2 B) 5 (vl p) (vl q) (l.map vl) ∧ l.length + 1 ≤ q.length
 | 0, p, q, s, t, _, _, _, hq0, hn, _, _, _, _, _, _, _, _ => absurd (List.length_eq_zero_iff.1 (by omega)) hq0
 | n + 1, p, q, s, t, hp, hq, tq, hq0, hn, lp, lq, h1, h2, hst, ht, hB, hco => by
  have hqp : 0 < q.length := List.length_pos_iff.2 hq0
  have hc := chL_cons hp hq tq hq0
  obtain ⟨n1, n2, n3⟩ := nextF_low hp hq tq hq0
  have b1 : Bd (p2 B) 5 (vl p) := bd_of h1 (by omega) (by rw [vl_len]; exact lp)
  have b2 : Bd (p2 B) 5 (vl q) := bd_of h2 ht (by rw [vl_len]; exact lq)
  by_cases h0 : nextF p q = []
  ·refine ⟨[], by rw [hc, h0, chL_nil], ?_, by simp; omega⟩
   have e1 := divF_eq hp hq hq0 (tq hq0)
   have k2 := divF_low hp hq (tq hq0)
   have e2 := trimF_ev k2.2
   have e3 : trimF (divF p q).2 = [] := List.length_eq_zero_iff.1 (by rw [← nextF_len, h0]; rfl)
   rw [e3] at e2
   obtain ⟨u, v, hco⟩ := hco
   obtain ⟨k, k0, hk⟩ := unit_const hq hq0 tq (w := Sp.add (Sp.mul u (vl (divF p q).1)) v) fun x => by
    have a1 := hco x
    have a2 := e1 x
    have a3 := e2 x
    have a4 : Sp.ev (vl []) x = 0 := Sp.ev_nil x
    rw [Sp.ev_add, Sp.ev_mul]
    rw [a2, ← a3, a4] at a1
    grind
   have hlow : 1 ≤ ab k * p2 t := h2.low (by rw [hk]; simp) k0
   exact .last _ _ b1 b2 k (inv_le_of (ab_pos k0) hlow ht) fun x => by rw [hk, Sp.ev_cons, Sp.ev_nil]; grind
  ·obtain ⟨al, a1, a2, a3, a4⟩ := nextF_ht hp hq tq hq0 h1 h2 h0
   have hQ := (divF_ht hp hq tq hq0 h1 h2).1
   have hnl : 0 < (nextF p q).length := List.length_pos_iff.2 h0
   obtain ⟨p1, p2'⟩ := pot p.length (by omega) q.length (by omega) s t hst
   generalize s + (p.length + 1 - q.length) * (t + 1) = u at *
   have u1 : u ≤ B := pot2 (lb := q.length) (by omega) (Nat.le_trans p1 hB)
   have u2 := Nat.le_trans p1 hB
   have u3 := Nat.le_trans p2' hB
   have hco2 : Co (vl q) (vl (nextF p q)) := by
    obtain ⟨c, d, hco⟩ := hco
    refine ⟨Sp.add (Sp.mul c (vl (divF p q).1)) d, Sp.smul (-al) c, fun x => ?_⟩
    have b1 := hco x
    rw [a4 x] at b1
    rw [Sp.ev_add, Sp.ev_mul, Sp.ev_smul]
    grind
   obtain ⟨l, l1, l2, l3⟩ := chL_lc (B := B) (n := n) (s := t) (t := max u t) hq n1 n2 h0 (by omega) lq (by omega) h2 (a3.mono (by omega)) (by omega) (by omega) (by
    rw [if_pos n3, Nat.one_mul, show max q.length (nextF p q).length = q.length by omega]
    rcases Nat.le_total u t with k | k
    ·rw [Nat.max_eq_right k]; omega
    ·rw [Nat.max_eq_left k]; omega) hco2
   refine ⟨nextF p q :: l, by rw [hc, l1], ?_, by simp; omega⟩
   exact .step _ _ _ _ b1 b2 (vl (divF p q).1) (bd_of hQ u1 (by rw [vl_len, quo_len]; omega)) al (inv_le_of a1 a2 u1) a4 l2
/-- **The common divisor's height.** -/
theorem gcdF_ht : ∀ {n : Nat} {p q : List (Int × Int)} {s t : Nat}, lowL p → lowL q → topF q → q ≠ [] → q.length ≤ n → p.length ≤ 5 → q.length ≤ 5 → Ht s (vl p) → Ht t (vl q) → s ≤ t →
  ∃ u, Ht u (vl (gcdF n p q)) ∧ (u + 1) * 3 ^ ((gcdF n p q).length + 1) ≤ (if q.length < p.length then 1 else 3) * ((t + 1) * 3 ^ (max p.length q.length))
 | 0, p, q, s, t, _, _, _, hq0, hn, _, _, _, _, _ => absurd (List.length_eq_zero_iff.1 (by omega)) hq0
 | n + 1, p, q, s, t, hp, hq, tq, hq0, hn, lp, lq, h1, h2, hst => by
  have e : gcdF (n + 1) p q = gcdF n q (monicF (trimF (divF p q).2)) := by rw [gcdF, if_neg hq0]
  have k1 := divF_rest hp hq hq0 (tq hq0)
  have k2 := divF_low hp hq (tq hq0)
  have l4 := trimF_low k2.2
  have t4 := topF_trim (divF p q).2
  have hr := monicF_ht l4 t4 (trimF_ht (divF_ht hp hq tq hq0 h1 h2).2)
  rw [e]
  by_cases h0 : trimF (divF p q).2 = []
  ·rw [h0]
   show ∃ u, Ht u (vl (gcdF n q [])) ∧ _
   rw [show monicF [] = [] from rfl, gcdF_nil]
   refine ⟨t, monicF_ht hq tq h2, ?_⟩
   rw [monicF_len, Nat.pow_succ]
   have hmx : q.length ≤ max p.length q.length := by omega
   have m1 : 3 ^ q.length ≤ 3 ^ (max p.length q.length) := Nat.pow_le_pow_right (by omega) hmx
   split
   ·rename_i hlt
    have m2 : 3 ^ (q.length + 1) ≤ 3 ^ (max p.length q.length) := Nat.pow_le_pow_right (by omega) (by omega)
    rw [Nat.pow_succ] at m2
    have := Nat.mul_le_mul_left (t + 1) m2
    omega
   ·have := Nat.mul_le_mul_left (t + 1) m1
    have e : (t + 1) * (3 ^ q.length * 3) = 3 * ((t + 1) * 3 ^ q.length) := by rw [← Nat.mul_assoc, Nat.mul_comm]
    omega
  ·have hm0 : monicF (trimF (divF p q).2) ≠ [] := fun e => h0 (List.length_eq_zero_iff.1 (by rw [← monicF_len, e]; rfl))
   have hml := monicF_len (p := trimF (divF p q).2)
   obtain ⟨p1, p2'⟩ := pot p.length (by omega) q.length (by omega) s t hst
   generalize s + (p.length + 1 - q.length) * (t + 1) = u at *
   obtain ⟨w, w1, w2⟩ := gcdF_ht (n := n) (s := t) (t := max u t) hq (monicF_low l4 t4) (monicF_top l4 t4) hm0 (by omega) lq (by omega) h2 (hr.mono (by omega)) (by omega)
   refine ⟨w, w1, Nat.le_trans w2 ?_⟩
   rw [if_pos (by omega), Nat.one_mul, show max q.length (monicF (trimF (divF p q).2)).length = q.length by omega]
   have wk : (if q.length < p.length then 1 else 2) * ((t + 1) * 3 ^ (max p.length q.length)) ≤ (if q.length < p.length then 1 else 3) * ((t + 1) * 3 ^ (max p.length q.length)) := Nat.mul_le_mul_right _ (by split <;> omega)
   rcases Nat.le_total u t with k | k
   ·rw [Nat.max_eq_right k]; omega
   ·rw [Nat.max_eq_left k]; omega
theorem derF_mem : ∀ {l : List (Int × Int)} {i : Nat} {f : Int × Int}, f ∈ derF i l → ∃ g ∈ l, ∃ j : Nat, j < i + l.length ∧ f = mulR g ((j : Int), 1)
 | [], _, _, h => by cases h
 | g :: l, i, f, h => by
  rcases List.mem_cons.1 h with rfl | h
  ·exact ⟨g, List.mem_cons_self, i, by simp, rfl⟩
  ·obtain ⟨g', h1, j, h2, h3⟩ := derF_mem (l := l) h
   exact ⟨g', List.mem_cons_of_mem _ h1, j, by simp; omega, h3⟩
theorem derivF_ht {p : List (Int × Int)} {s : Nat} (hp : lowL p) (lp : p.length ≤ 5) (h : Ht s (vl p)) : Ht (s + 2) (vl (derivF p)) := by
 refine h.times fun c hc => ?_
 obtain ⟨f, hf, rfl⟩ := List.mem_map.1 hc
 obtain ⟨g, h1, j, h2, rfl⟩ := derF_mem hf
 have h3 := List.mem_of_mem_drop h1
 rw [List.length_drop] at h2
 have : 0 < p.length := List.length_pos_iff.2 fun e => by rw [e] at h3; cases h3
 refine ⟨val g, (j : Int), vl_mem h3, ?_, ?_⟩
 ·rw [Int.natAbs_natCast]; show j ≤ 4; omega
 ·rw [val_mulR (low_ne (hp g h3)) (show (1 : Int) ≠ 0 by decide), val_whole]
theorem three_le {n : Nat} (h : 1 ≤ n) : 9 ≤ 3 ^ (n + 1) := Nat.pow_le_pow_right (n := 3) (i := 2) (by omega) (by omega)
/-- **The square-free part's height.** -/
theorem freeF_ht {p : List (Int × Int)} {s : Nat} (hp : lowL p) (tp : topF p) (l2 : 2 ≤ p.length) (lp : p.length ≤ 5) (h : Ht s (vl p)) (hs : (s + 1) * 3 ^ p.length ≤ 23571) : Ht 16000 (vl (freeF p)) := by
 have hp0 : p ≠ [] := fun e => by rw [e] at l2; simp at l2
 have hl := derivF_len p
 have hd0 : derivF p ≠ [] := fun e => by rw [e] at hl; simp at hl; omega
 have ld := derivF_low hp
 have td := derivF_top hp tp
 obtain ⟨g1, g2, g3⟩ := comF_good hp ld hp0 tp td
 obtain ⟨u, u1, u2⟩ := gcdF_ht (n := (derivF p).length) (s := s) hp ld td hd0 (Nat.le_refl _) lp (by omega) h (derivF_ht hp lp h) (by omega)
 rw [if_pos (by omega), Nat.one_mul, show max p.length (derivF p).length = p.length by omega] at u2
 have hg : 0 < (gcdF (derivF p).length p (derivF p)).length := List.length_pos_iff.2 g2
 have m1 := three_le hg
 have m2 := Nat.mul_le_mul_left (u + 1) m1
 have m3 : 3 ^ p.length ≤ 243 := Nat.pow_le_pow_right (n := 3) (by omega) (show p.length ≤ 5 from lp)
 have m4 : 9 ≤ 3 ^ p.length := Nat.pow_le_pow_right (n := 3) (i := 2) (by omega) l2
 have m5 := Nat.mul_le_mul_left (s + 1) m4
 have m6 : (s + 2 + 1) * 3 ^ p.length = (s + 1) * 3 ^ p.length + 2 * 3 ^ p.length := by grind
 have hu : u + 1 ≤ 2673 := by omega
 have hd := divF_ht hp g1 g3 g2 h u1
 have k2 := divF_low hp g1 (g3 g2)
 have hm := monicF_ht (trimF_low k2.1) (topF_trim (divF p (comF p (derivF p))).1) (trimF_ht hd.1)
 refine Ht.mono hm ?_
 have hi : p.length + 1 - (comF p (derivF p)).length ≤ 5 := by
  have : (comF p (derivF p)).length = (gcdF (derivF p).length p (derivF p)).length := rfl
  omega
 have := Nat.mul_le_mul hi hu
 omega
/-- Short fractions. -/
theorem short_ht {b : Nat} : ∀ {p : List (Int × Int)}, lowL p → (∀ f ∈ p, f.1.natAbs ≤ 2 ^ b ∧ f.2.natAbs ≤ 2 ^ b) → ∃ D : Int, D ≠ 0 ∧ D.natAbs ≤ 2 ^ (b * p.length) ∧ HtD D (b * p.length) (vl p)
 | [], _, _ => ⟨1, by decide, by simp, fun c hc => by cases hc⟩
 | f :: p, hp, h => by
  obtain ⟨D, d1, d2, d3⟩ := short_ht (fun g hg => hp g (List.mem_cons_of_mem _ hg)) (fun g hg => h g (List.mem_cons_of_mem _ hg))
  obtain ⟨h1, h2⟩ := h f List.mem_cons_self
  have hf := low_ne (hp f List.mem_cons_self)
  have e : b * (f :: p).length = b + b * p.length := by rw [List.length_cons, Nat.mul_succ, Nat.add_comm]
  rw [e]
  refine ⟨f.2 * D, Int.mul_ne_zero hf d1, by rw [Int.natAbs_mul, Nat.pow_add]; exact Nat.mul_le_mul h2 d2, fun c hc => ?_⟩
  rcases List.mem_cons.1 hc with rfl | hc
  ·refine ⟨f.1 * D, by rw [Int.natAbs_mul, Nat.pow_add]; exact Nat.mul_le_mul h1 d2, ?_⟩
   have := val_mul hf
   rw [Rat.intCast_mul, Rat.intCast_mul, ← this]; grind
  ·obtain ⟨n, n1, n2⟩ := d3 c hc
   refine ⟨f.2 * n, by rw [Int.natAbs_mul, Nat.pow_add]; exact Nat.mul_le_mul h2 n1, ?_⟩
   rw [Rat.intCast_mul, Rat.intCast_mul, ← n2]; grind
theorem okF_abs {K : Nat} {f : Int × Int} (h : okF K f) : f.1.natAbs ≤ 2 ^ (16 * K) ∧ f.2.natAbs ≤ 2 ^ (16 * K) := by
 have e : (2 : Int) ^ (16 * K) = Lm.pw K := by
  unfold Lm.pw
  rw [Int.pow_mul]
  rfl
 have h1 := (Lm.lim_length f.1.natAbs K).1 h.2.1
 have h2 := (Lm.lim_length f.2.natAbs K).1 h.2.2
 rw [← e] at h1 h2
 have e2 : ((2 ^ (16 * K) : Nat) : Int) = (2 : Int) ^ (16 * K) := by rw [Int.natCast_pow]; rfl
 rw [← e2] at h1 h2
 exact ⟨by omega, by omega⟩
theorem abs_okF {K s : Nat} {f : Int × Int} (hf : 0 < f.2) (h1 : f.1.natAbs ≤ 2 ^ s) (h2 : f.2.natAbs ≤ 2 ^ s) (hs : s < 16 * K) : okF K f := by
 have e : (2 : Int) ^ (16 * K) = Lm.pw K := by
  unfold Lm.pw
  rw [Int.pow_mul]
  rfl
 have e2 : ((2 ^ (16 * K) : Nat) : Int) = (2 : Int) ^ (16 * K) := by rw [Int.natCast_pow]; rfl
 have lt : 2 ^ s < 2 ^ (16 * K) := Nat.pow_lt_pow_right (by omega) hs
 refine ⟨hf, (Lm.lim_length f.1.natAbs K).2 ?_, (Lm.lim_length f.2.natAbs K).2 ?_⟩
 ·rw [← e, ← e2]; omega
 ·rw [← e, ← e2]; omega
/-- A fraction in lowest terms is no longer than any way to write it. -/
theorem low_abs {f : Int × Int} (hf : low f) {D n : Int} (hD : D ≠ 0) (h : val f * (D : Rat) = (n : Rat)) : f.2.natAbs ≤ D.natAbs ∧ f.1.natAbs ≤ n.natAbs := by
 have h2 := val_mul (low_ne hf)
 have h3 : f.1 * D = n * f.2 := by
  refine Rat.intCast_inj.1 ?_
  rw [Rat.intCast_mul, Rat.intCast_mul, ← h2, ← h]; grind
 have d1 : f.2 ∣ D := by
  have : f.2 ∣ f.1 * D := ⟨n, by rw [h3, Int.mul_comm]⟩
  have h5 := Int.natAbs_dvd_natAbs.2 this
  rw [Int.natAbs_mul] at h5
  exact Int.natAbs_dvd_natAbs.1 (Nat.Coprime.dvd_of_dvd_mul_left (show Nat.Coprime f.2.natAbs f.1.natAbs by rw [Nat.coprime_comm]; exact hf.2) h5)
 obtain ⟨c, hc⟩ := d1
 have hc0 : c ≠ 0 := fun e => hD (by rw [hc, e, Int.mul_zero])
 have hn : n = f.1 * c := by
  have : (f.1 * c) * f.2 = n * f.2 := by rw [← h3, hc]; grind
  exact (Int.eq_of_mul_eq_mul_right (low_ne hf) this).symm
 have c1 : 1 ≤ c.natAbs := by omega
 constructor
 ·rw [hc, Int.natAbs_mul]
  have := Nat.mul_le_mul_left f.2.natAbs c1
  omega
 ·rw [hn, Int.natAbs_mul]
  have := Nat.mul_le_mul_left f.1.natAbs c1
  omega
theorem okL_of_ht {K s : Nat} {l : List (Int × Int)} (hl : lowL l) (h : Ht s (vl l)) (hs : s < 16 * K) : okL K l := by
 obtain ⟨D, d1, d2, d3⟩ := h
 intro f hf
 obtain ⟨n, n1, n2⟩ := d3 _ (vl_mem hf)
 obtain ⟨a1, a2⟩ := low_abs (hl f hf) d1 n2
 exact abs_okF (hl f hf).1 (Nat.le_trans a2 n1) (Nat.le_trans a1 d2) hs
theorem RootP.ht {p : List (Int × Int)} (hr : RootP p) : Ht 96 (vl p) := by
 obtain ⟨D, d1, d2, d3⟩ := short_ht (b := 16) hr.lowL fun f hf => okF_abs (K := 1) (hr.okL f hf)
 have h5 := hr.le5
 exact Ht.mono ⟨D, d1, d2, d3⟩ (by omega)
end Go.Vx
end
