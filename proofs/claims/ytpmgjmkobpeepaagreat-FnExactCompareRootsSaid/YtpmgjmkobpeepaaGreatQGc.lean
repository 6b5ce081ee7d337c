/- Q4, Q5 -/
import Derived.Test.YtpmgjmkobpeepaaGreatQGb
set_option linter.unusedVariables false
set_option linter.unusedSectionVars false
set_option linter.unusedSimpArgs false
section
/- Common divisors, polynomials without multiple roots: sizes; what the two programs do. -/
namespace Go.Vx
open Go.Proofs
set_option maxRecDepth 100000

def maxL : List Nat → Nat
 | [] => 0
 | x :: xs => max x (maxL xs)
theorem maxL_le {x : Nat} : ∀ {l : List Nat}, x ∈ l → x ≤ maxL l
 | y :: l, h => by
  rcases List.mem_cons.1 h with rfl | h
  ·exact Nat.le_max_left _ _
  ·exact Nat.le_trans (maxL_le h) (Nat.le_max_right _ _)
/-- What Euclid's steps make of sizes: of all that is computed; of a result of e members. -/
def eucB : Nat → Nat → Nat → Nat → Nat → Nat
 | 0, _, _, R, _ => 2 * R
 | f + 1, m, n, R, S => max (2 * R) (maxL ((List.range n).map fun j => max (szD S (m + 1 - n) R + S + 4) (eucB f n j S (2 * szD S (m + 1 - n) R))))
def eucG : Nat → Nat → Nat → Nat → Nat → Nat → Nat
 | 0, m, _, R, _, e => if m = e then (if e = 1 then 1 else 2 * R) else 0
 | f + 1, m, n, R, S, e => if n = 0 then (if m = e then (if e = 1 then 1 else 2 * R) else 0) else maxL ((List.range n).map fun j => eucG f n j S (2 * szD S (m + 1 - n) R) e)
theorem eucB_step {f m n j R S : Nat} (h : j < n) : szD S (m + 1 - n) R + S + 4 ≤ eucB (f + 1) m n R S ∧ eucB f n j S (2 * szD S (m + 1 - n) R) ≤ eucB (f + 1) m n R S := by
 have : max (szD S (m + 1 - n) R + S + 4) (eucB f n j S (2 * szD S (m + 1 - n) R)) ≤ eucB (f + 1) m n R S :=
  Nat.le_trans (maxL_le (List.mem_map.2 ⟨j, List.mem_range.2 h, rfl⟩)) (Nat.le_max_right _ _)
 omega
theorem eucB_R {f m n R S : Nat} : 2 * R ≤ eucB f m n R S := by
 cases f with
 | zero => exact Nat.le_refl _
 | succ f => exact Nat.le_max_left _ _
theorem monicF_one {p : List (Int × Int)} (hp : lowL p) (ht : topF p) (h1 : p.length = 1) : monicF p = [(1, 1)] := by
 match p, h1 with
 | [x], _ =>
  have h0 := ht (by simp)
  have hx := hp x (by simp)
  have h0 : x.1 ≠ 0 := h0
  show [divR x x] = _
  rw [divR_self hx.1 h0]
theorem monicF_sz {p : List (Int × Int)} {R : Nat} (hp : lowL p) (ho : okL R p) (ht : topF p) : okL (if p.length = 1 then 1 else 2 * R) (monicF p) := by
 split
 ·rename_i h
  rw [monicF_one hp ht h]
  intro f hf
  rw [List.mem_singleton] at hf
  rw [hf]
  exact ⟨by decide, by have := Lm.lim_length 1 1; exact this.2 (by decide), by have := Lm.lim_length 1 1; exact this.2 (by decide)⟩
 ·rw [Nat.two_mul]
  exact monicF_ok ho ht
theorem gcdF_sz : ∀ {f : Nat} {p q : List (Int × Int)} {R S : Nat}, lowL p → lowL q → topF p → topF q → okL R p → okL S q → q.length ≤ f → okL (eucG f p.length q.length R S (gcdF f p q).length) (gcdF f p q)
 | 0, p, q, R, S, hp, hq, tp, tq, op, oq, hf => by
  have : q = [] := List.length_eq_zero_iff.1 (by omega)
  subst this
  rw [gcdF_nil, monicF_len]
  unfold eucG
  rw [if_pos rfl]
  exact monicF_sz hp op tp
 | f + 1, p, q, R, S, hp, hq, tp, tq, op, oq, hf => by
  by_cases h : q = []
  ·subst h
   rw [gcdF_nil, monicF_len]
   unfold eucG
   rw [if_pos rfl]
   exact monicF_sz hp op tp
  ·have e : gcdF (f + 1) p q = gcdF f q (monicF (trimF (divF p q).2)) := by rw [gcdF, if_neg h]
   have hn : ¬ q.length = 0 := fun e => h (List.length_eq_zero_iff.1 e)
   rw [e]
   have h1 := divF_rest hp hq h (tq h)
   have h2 := divF_low hp hq (tq h)
   have h3 := (divF_ok op oq h (tq h)).2
   have h4 : okL (szD S (p.length + 1 - q.length) R) (trimF (divF p q).2) := fun g hg => h3 g (trimF_sub hg)
   have h5 := monicF_ok h4 (topF_trim _)
   rw [← Nat.two_mul] at h5
   have h6 := gcdF_sz (f := f) hq (monicF_low (trimF_low h2.2) (topF_trim _)) tq (monicF_top (trimF_low h2.2) (topF_trim _)) oq h5 (by rw [monicF_len]; omega)
   refine h6.mono ?_
   conv => rhs; unfold eucG
   rw [if_neg hn]
   refine maxL_le (List.mem_map.2 ⟨(monicF (trimF (divF p q).2)).length, List.mem_range.2 (by rw [monicF_len]; exact h1), rfl⟩)
theorem comF_sz {p q : List (Int × Int)} {R S : Nat} (hp : lowL p) (hq : lowL q) (tp : topF p) (tq : topF q) (op : okL R p) (oq : okL S q) : okL (eucG q.length p.length q.length R S (comF p q).length) (comF p q) := gcdF_sz hp hq tp tq op oq (Nat.le_refl _)
theorem gcdF_top : ∀ {f : Nat} {p q : List (Int × Int)}, lowL p → lowL q → topF p → topF q → lowL (gcdF f p q) ∧ topF (gcdF f p q) ∧ (p ≠ [] → gcdF f p q ≠ [])
 | 0, p, q, hp, hq, tp, tq => ⟨monicF_low hp tp, monicF_top hp tp, fun h e => h (List.length_eq_zero_iff.1 (by rw [← monicF_len]; exact List.length_eq_zero_iff.2 e))⟩
 | f + 1, p, q, hp, hq, tp, tq => by
  unfold gcdF
  split
  ·exact ⟨monicF_low hp tp, monicF_top hp tp, fun h e => h (List.length_eq_zero_iff.1 (by rw [← monicF_len]; exact List.length_eq_zero_iff.2 e))⟩
  ·rename_i h
   have h2 := divF_low hp hq (tq h)
   have := gcdF_top (f := f) hq (monicF_low (trimF_low h2.2) (topF_trim (divF p q).2)) tq (monicF_top (trimF_low h2.2) (topF_trim (divF p q).2))
   exact ⟨this.1, this.2.1, fun _ => this.2.2 h⟩

section
variable (f : Nat) (p q : List (Int × Int)) (R S : Nat) (hpl : p.length ≤ 100) (hql : q.length ≤ 100) (hp : lowL p) (hq : lowL q) (tp : topF p) (tq : topF q) (op : okL R p) (oq : okL S q) (hf : q.length ≤ f) (hB : eucB f p.length q.length R S ≤ 1000000000)
include hpl hql hp hq tp tq op oq hf hB
theorem common_den : D 60 [(false, [.arr 4 (p.map cellR)]), (false, [.arr 4 (q.map cellR)])] false (.one (false, [.arr 4 ((comF p q).map cellR)])) := by
 refine go Tryz.func60 rfl rfl ?_
 repeat refine vs ?_
 conv => whnf
 refine EVs.loopU (fun s : Nat × List (Int × Int) × List (Int × Int) × Nat × Nat => s.2.2.1.length ≤ s.1 ∧ s.2.1.length ≤ 100 ∧ s.2.2.1.length ≤ 100 ∧ lowL s.2.1 ∧ lowL s.2.2.1 ∧ topF s.2.1 ∧ topF s.2.2.1 ∧ okL s.2.2.2.1 s.2.1 ∧ okL s.2.2.2.2 s.2.2.1 ∧ eucB s.1 s.2.1.length s.2.2.1.length s.2.2.2.1 s.2.2.2.2 ≤ 1000000000 ∧ comF s.2.1 s.2.2.1 = comF p q) (fun s => s.2.2.1.length)
  (fun | (_, p, q, _, _) => [(0, .v false [.p (.arr 4 (p.map cellR))]), (1, .v false [.p (.arr 4 (q.map cellR))])]) (f, p, q, R, S) ⟨hf, hpl, hql, hp, hq, tp, tq, op, oq, hB, rfl⟩ Wk.fg ?_
 rintro ⟨g, a, b, A, B⟩ ⟨hf, hal, hbl, ha, hb, ta, tb, oa, ob, hB, hinv⟩
 dsimp only at hf hal hbl ha hb ta tb oa ob hB hinv
 have hR := eucB_R (f := g) (m := a.length) (n := b.length) (R := A) (S := B)
 have hrl : (b.map cellR).length = b.length := by simp
 refine go1 ?_
 repeat refine vs ?_
 conv => whnf
 by_cases h : b = []
 ·subst h
  rw [comF_nil] at hinv
  have dM := monic_den a hal (oa.mono (by omega)) ta
  rw [hinv] at dM
  repeat refine vs ?_
  conv => whnf
  refine CallS.mk _ rfl false false _ (dM) rfl ?_
  repeat refine vs ?_
  conv => whnf
  first | rfl | exact ⟨rfl, rfl⟩ | exact ⟨by simp [toRes], rfl⟩
 ·have hbn : 0 < b.length := List.length_pos_iff.2 h
  obtain ⟨g, rfl⟩ : ∃ n, g = n + 1 := ⟨g - 1, by omega⟩
  have h1 := divF_rest ha hb h (tb h)
  have h2 := divF_low ha hb (tb h)
  have h3 := (divF_ok oa ob h (tb h)).2
  have h4 : okL (szD B (a.length + 1 - b.length) A) (trimF (divF a b).2) := fun x hx => h3 x (trimF_sub hx)
  have h5 := monicF_ok h4 (topF_trim _)
  rw [← Nat.two_mul] at h5
  obtain ⟨e1, e2⟩ := eucB_step (f := g) (m := a.length) (n := b.length) (j := (trimF (divF a b).2).length) (R := A) (S := B) h1
  have dD := divided_den a b A B hal hbl oa ob h (tb h) (by omega)
  have dM := monic_den (trimF (divF a b).2) (by omega) (h4.mono (by omega)) (topF_trim _)
  have hc := comF_cons ha hb tb h
  rw [hc] at hinv
  have hml := monicF_len (p := trimF (divF a b).2)
  repeat refine vs ?_
  conv => whnf
  refine CallS.mk _ rfl false false _ (dD) rfl ?_
  repeat refine vs ?_
  conv => whnf
  refine CallS.mk _ rfl false false _ (dM) rfl ?_
  repeat refine vs ?_
  conv => whnf
  refine ⟨(g, b, monicF (trimF (divF a b).2), B, 2 * szD B (a.length + 1 - b.length) A), by dsimp only; omega, ⟨by dsimp only; omega, hbl, by dsimp only; omega, hb, monicF_low (trimF_low h2.2) (topF_trim _), tb, monicF_top (trimF_low h2.2) (topF_trim _), ob, h5, by dsimp only; rw [hml]; omega, hinv⟩, ?_⟩
  exact Wk.fg
theorem l4Gcd_den : D 59 [(false, [.arr 4 (p.map cellR)]), (false, [.arr 4 (q.map cellR)])] false (.one (false, [.arr 4 ((comF p q).map cellR)])) := by
 refine go Tryz.func59 rfl rfl ?_
 repeat refine vs ?_
 conv => whnf
 refine EVs.loopU (fun s : Nat × List (Int × Int) × List (Int × Int) × Nat × Nat => s.2.2.1.length ≤ s.1 ∧ s.2.1.length ≤ 100 ∧ s.2.2.1.length ≤ 100 ∧ lowL s.2.1 ∧ lowL s.2.2.1 ∧ topF s.2.1 ∧ topF s.2.2.1 ∧ okL s.2.2.2.1 s.2.1 ∧ okL s.2.2.2.2 s.2.2.1 ∧ eucB s.1 s.2.1.length s.2.2.1.length s.2.2.2.1 s.2.2.2.2 ≤ 1000000000 ∧ comF s.2.1 s.2.2.1 = comF p q) (fun s => s.2.2.1.length)
  (fun | (_, p, q, _, _) => [(0, .v false [.p (.arr 4 (p.map cellR))]), (1, .v false [.p (.arr 4 (q.map cellR))])]) (f, p, q, R, S) ⟨hf, hpl, hql, hp, hq, tp, tq, op, oq, hB, rfl⟩ Wk.fg ?_
 rintro ⟨g, a, b, A, B⟩ ⟨hf, hal, hbl, ha, hb, ta, tb, oa, ob, hB, hinv⟩
 dsimp only at hf hal hbl ha hb ta tb oa ob hB hinv
 have hR := eucB_R (f := g) (m := a.length) (n := b.length) (R := A) (S := B)
 have hrl : (b.map cellR).length = b.length := by simp
 refine go1 ?_
 repeat refine vs ?_
 conv => whnf
 by_cases h : b = []
 ·subst h
  rw [comF_nil] at hinv
  have dM := l4Monic_den a hal (oa.mono (by omega)) ta
  rw [hinv] at dM
  repeat refine vs ?_
  conv => whnf
  refine CallS.mk _ rfl false false _ (dM) rfl ?_
  repeat refine vs ?_
  conv => whnf
  first | rfl | exact ⟨rfl, rfl⟩ | exact ⟨by simp [toRes], rfl⟩
 ·have hbn : 0 < b.length := List.length_pos_iff.2 h
  obtain ⟨g, rfl⟩ : ∃ n, g = n + 1 := ⟨g - 1, by omega⟩
  have h1 := divF_rest ha hb h (tb h)
  have h2 := divF_low ha hb (tb h)
  have h3 := (divF_ok oa ob h (tb h)).2
  have h4 : okL (szD B (a.length + 1 - b.length) A) (trimF (divF a b).2) := fun x hx => h3 x (trimF_sub hx)
  have h5 := monicF_ok h4 (topF_trim _)
  rw [← Nat.two_mul] at h5
  obtain ⟨e1, e2⟩ := eucB_step (f := g) (m := a.length) (n := b.length) (j := (trimF (divF a b).2).length) (R := A) (S := B) h1
  have dD := l4Div_den a b A B hal hbl oa ob h (tb h) (by omega)
  have dM := l4Monic_den (trimF (divF a b).2) (by omega) (h4.mono (by omega)) (topF_trim _)
  have hc := comF_cons ha hb tb h
  rw [hc] at hinv
  have hml := monicF_len (p := trimF (divF a b).2)
  repeat refine vs ?_
  conv => whnf
  refine CallS.mk _ rfl false false _ (dD) rfl ?_
  repeat refine vs ?_
  conv => whnf
  refine CallS.mk _ rfl false false _ (dM) rfl ?_
  repeat refine vs ?_
  conv => whnf
  refine ⟨(g, b, monicF (trimF (divF a b).2), B, 2 * szD B (a.length + 1 - b.length) A), by dsimp only; omega, ⟨by dsimp only; omega, hbl, by dsimp only; omega, hb, monicF_low (trimF_low h2.2) (topF_trim _), tb, monicF_top (trimF_low h2.2) (topF_trim _), ob, h5, by dsimp only; rw [hml]; omega, hinv⟩, ?_⟩
  exact Wk.fg
end

/-! ### polynomials without multiple roots -/
def freeF (p : List (Int × Int)) : List (Int × Int) := monicF (trimF (divF p (comF p (derivF p))).1)
theorem derivF_len (p : List (Int × Int)) : (derivF p).length = p.length - 1 := by unfold derivF; rw [derF_len, List.length_drop]
theorem small_R {n : Int} (h0 : 0 ≤ n) (h1 : n < 65536) : okF 1 (n, 1) := ⟨show (0 : Int) < 1 by decide, (Lm.lim_length _ 1).2 (by show ((n.natAbs : Nat) : Int) < 65536; omega), (Lm.lim_length _ 1).2 (show ((1 : Nat) : Int) < Lm.pw 1 by decide)⟩
theorem derF_sm {M : Nat} : ∀ {l : List (Int × Int)} {i : Nat}, (i + l.length : Nat) ≤ 60000 → okL M l → okL (M + 1) (derF i l)
 | [], _, _, _, f, h => by cases h
 | g :: l, i, hi, hl, f, h => by
  rcases List.mem_cons.1 h with rfl | h
  ·exact mulR_ok (hl g List.mem_cons_self) (small_R (n := (i : Int)) (by omega) (by simp at hi; omega))
  ·exact derF_sm (by simp at hi; omega) (fun d hd => hl d (List.mem_cons_of_mem _ hd)) f h
theorem derivF_sm {M : Nat} {p : List (Int × Int)} (h : okL M p) (hl : p.length ≤ 100) : okL (M + 1) (derivF p) := derF_sm (by rw [List.length_drop]; omega) (fun f hf => h f (List.mem_of_mem_drop hf))
theorem derF_low : ∀ {l : List (Int × Int)} {i : Nat}, lowL l → lowL (derF i l)
 | [], _, _, f, h => by cases h
 | g :: l, i, hl, f, h => by
  rcases List.mem_cons.1 h with rfl | h
  ·exact mulR_low (hl g List.mem_cons_self).1 (show (0 : Int) < 1 by decide)
  ·exact derF_low (fun d hd => hl d (List.mem_cons_of_mem _ hd)) f h
theorem derivF_low {p : List (Int × Int)} (h : lowL p) : lowL (derivF p) := derF_low (fun f hf => h f (List.mem_of_mem_drop hf))
theorem mulR_ne {a b : Int × Int} (ha : 0 < a.2) (hb : 0 < b.2) (h1 : a.1 ≠ 0) (h2 : b.1 ≠ 0) : (mulR a b).1 ≠ 0 := by
 intro h
 have := (nN_zero (x := a.1 * b.1) (y := a.2 * b.2) (Int.mul_ne_zero (by omega) (by omega))).1 h
 rcases Int.mul_eq_zero.1 this with h | h
 ·exact h1 h
 ·exact h2 h
theorem derivF_top {p : List (Int × Int)} (hp : lowL p) (ht : topF p) : topF (derivF p) := by
 intro h
 have hl := derivF_len p
 have hpos : 0 < (derivF p).length := List.length_pos_iff.2 h
 have hpn : p ≠ [] := fun e => by subst e; exact h rfl
 have e : (derivF p).getD ((derivF p).length - 1) (0, 1) = mulR (p.getD (p.length - 1) (0, 1)) (((p.length - 1 : Nat) : Int), 1) := by
  rw [hl]
  rw [List.getD, List.getD]
  unfold derivF
  rw [derF_get (by rw [List.length_drop]; omega), List.getElem?_eq_getElem (by omega)]
  simp only [Option.getD_some, List.getElem_drop]
  congr 2
  ·congr 1; omega
  ·omega
 rw [e]
 exact mulR_ne (getD_low hp _).1 (show (0 : Int) < 1 by decide) (ht hpn) (by show ((p.length - 1 : Nat) : Int) ≠ 0; omega)
theorem trim_top {p : List (Int × Int)} (ht : topF p) : trimF p = p := by
 refine trimF_id (fun f hf => ?_)
 have hpn : p ≠ [] := fun e => by rw [e] at hf; cases hf
 have := ht hpn
 rw [List.getLast?_eq_getElem?] at hf
 rw [List.getD, hf] at this
 exact this
/-- Of what size a polynomial's part without multiple roots is, the common divisor having e members. -/
def freeB (m K e : Nat) : Nat := szD (eucG 8 m (m - 1) K (K + 1) e) (m + 1 - e) K + eucG 8 m (m - 1) K (K + 1) e + 4
theorem eucG_fuel : ∀ {f g m n R S e : Nat}, n ≤ f → f ≤ g → eucG f m n R S e ≤ eucG g m n R S e
 | 0, 0, m, n, R, S, e, _, _ => Nat.le_refl _
 | 0, g + 1, m, n, R, S, e, hn, _ => by
  have : n = 0 := by omega
  subst this
  unfold eucG
  rw [if_pos rfl]
  exact Nat.le_refl _
 | f + 1, 0, m, n, R, S, e, _, h => by omega
 | f + 1, g + 1, m, n, R, S, e, hn, h => by
  unfold eucG
  split
  ·exact Nat.le_refl _
  ·have gen : ∀ (l : List Nat), (∀ j ∈ l, j < n) → maxL (l.map fun j => eucG f n j S (2 * szD S (m + 1 - n) R) e) ≤ maxL (l.map fun j => eucG g n j S (2 * szD S (m + 1 - n) R) e) := by
    intro l
    induction l with
    | nil => intro _; exact Nat.le_refl _
    | cons j l ih =>
     intro hj
     have h1 := eucG_fuel (f := f) (g := g) (m := n) (n := j) (R := S) (S := 2 * szD S (m + 1 - n) R) (e := e) (by have := hj j List.mem_cons_self; omega) (by omega)
     have h2 := ih (fun k hk => hj k (List.mem_cons_of_mem _ hk))
     simp only [List.map_cons, maxL]
     omega
   exact gen _ (fun j hj => List.mem_range.1 hj)
end Go.Vx
end
section
/- Polynomials without multiple roots: what the two programs do; the laws' functions of divisions. -/
namespace Go.Vx
open Go.Proofs
set_option maxRecDepth 100000

theorem gcdF_len : ∀ {f : Nat} {p q : List (Int × Int)} {m : Nat}, lowL p → lowL q → topF q → p.length ≤ m → q.length ≤ m → (gcdF f p q).length ≤ m
 | 0, p, q, m, _, _, _, h1, _ => by show (monicF p).length ≤ m; rw [monicF_len]; exact h1
 | f + 1, p, q, m, hp, hq, tq, h1, h2 => by
  unfold gcdF
  split
  ·rw [monicF_len]; exact h1
  ·rename_i h
   have h3 := divF_rest hp hq h (tq h)
   have h4 := divF_low hp hq (tq h)
   exact gcdF_len hq (monicF_low (trimF_low h4.2) (topF_trim _)) (monicF_top (trimF_low h4.2) (topF_trim _)) h2 (by rw [monicF_len]; omega)
theorem comF_len {p q : List (Int × Int)} {m : Nat} (hp : lowL p) (hq : lowL q) (tq : topF q) (h1 : p.length ≤ m) (h2 : q.length ≤ m) : (comF p q).length ≤ m := gcdF_len hp hq tq h1 h2

section
variable {p : List (Int × Int)} {K : Nat} (hpl : p.length ≤ 7) (hp0 : p ≠ []) (hp : lowL p) (tp : topF p) (op : okL K p)
include hpl hp0 hp tp op
/-- The common divisor of a polynomial and its derivative. -/
theorem comD : lowL (comF p (derivF p)) ∧ topF (comF p (derivF p)) ∧ comF p (derivF p) ≠ [] ∧ (comF p (derivF p)).length ≤ 7 ∧ okL (eucG 8 p.length (p.length - 1) K (K + 1) (comF p (derivF p)).length) (comF p (derivF p)) := by
 have hd := derivF_low hp
 have td := derivF_top hp tp
 have h1 := gcdF_top (f := (derivF p).length) hp hd tp td
 have hl := derivF_len p
 have od := derivF_sm op (by omega)
 refine ⟨h1.1, h1.2.1, h1.2.2 hp0, comF_len hp hd td hpl (by omega), (comF_sz hp hd tp td op od).mono ?_⟩
 rw [hl]
 exact eucG_fuel (Nat.le_refl _) (by omega)
theorem freeF_sz : okL (2 * freeB p.length K (comF p (derivF p)).length) (freeF p) ∧ lowL (freeF p) ∧ topF (freeF p) ∧ (freeF p).length ≤ p.length + 1 - (comF p (derivF p)).length := by
 obtain ⟨g1, g2, g3, g4, g5⟩ := comD hpl hp0 hp tp op
 have h1 := (divF_ok op g5 g3 (g2 g3)).1
 have h2 := (divF_low hp g1 (g2 g3)).1
 have h3 : okL (freeB p.length K (comF p (derivF p)).length) (trimF (divF p (comF p (derivF p))).1) := fun f hf => h1 f (trimF_sub hf)
 have h4 := monicF_ok h3 (topF_trim _)
 rw [← Nat.two_mul] at h4
 refine ⟨h4, monicF_low (trimF_low h2) (topF_trim _), monicF_top (trimF_low h2) (topF_trim _), ?_⟩
 unfold freeF
 rw [monicF_len]
 refine Nat.le_trans (trimF_len _) ?_
 have hdl : (divF p (comF p (derivF p))).1.length = p.length + 1 - (comF p (derivF p)).length := by unfold divF; rw [divL_len.1]; simp
 omega
end
section
variable (p : List (Int × Int)) (K : Nat) (hpl : p.length ≤ 7) (hp0 : p ≠ []) (hp : lowL p) (tp : topF p) (op : okL K p) (hB : eucB 8 p.length (p.length - 1) K (K + 1) ≤ 1000000000) (hF : freeB p.length K (comF p (derivF p)).length ≤ 1000000000) (hK : K ≤ 100000000)
include hpl hp0 hp tp op hB hF hK
theorem squareFree_den : D 62 [(false, [.arr 4 (p.map cellR)])] false (.one (false, [.arr 4 ((freeF p).map cellR)])) := by
 obtain ⟨g1, g2, g3, g4, g5⟩ := comD hpl hp0 hp tp op
 have hl := derivF_len p
 have dV := derived_den p (by omega) (op.mono (by omega))
 have dC := common_den 8 p (derivF p) K (K + 1) (by omega) (by omega) hp (derivF_low hp) tp (derivF_top hp tp) op (derivF_sm op (by omega)) (by omega) (by rw [hl]; exact hB)
 have dD := divided_den p (comF p (derivF p)) K _ (by omega) (by omega) op g5 g3 (g2 g3) hF
 have h1 := (divF_ok op g5 g3 (g2 g3)).1
 have hdl : (divF p (comF p (derivF p))).1.length = p.length + 1 - (comF p (derivF p)).length := by unfold divF; rw [divL_len.1]; simp
 have htl := trimF_len (divF p (comF p (derivF p))).1
 have dM := monic_den (trimF (divF p (comF p (derivF p))).1) (by omega) (fun f hf => (h1 f (trimF_sub hf)).mono (by unfold freeB at hF; omega)) (topF_trim _)
 refine go Tryz.func62 rfl rfl ?_
 repeat refine vs ?_
 conv => whnf
 refine CallS.mk _ rfl false false _ (dV) rfl ?_
 repeat refine vs ?_
 conv => whnf
 refine CallS.mk _ rfl false false _ (dC) rfl ?_
 repeat refine vs ?_
 conv => whnf
 refine CallS.mk _ rfl false false _ (dD) rfl ?_
 repeat refine vs ?_
 conv => whnf
 refine CallS.mk _ rfl false false _ (dM) rfl ?_
 repeat refine vs ?_
 conv => whnf
 first | rfl | exact ⟨rfl, rfl⟩ | exact ⟨by simp [toRes], rfl⟩
theorem l4Free_den : D 61 [(false, [.arr 4 (p.map cellR)])] false (.one (false, [.arr 4 ((freeF p).map cellR)])) := by
 obtain ⟨g1, g2, g3, g4, g5⟩ := comD hpl hp0 hp tp op
 have hl := derivF_len p
 have dV := l4Derive_den p (by omega) (op.mono (by omega))
 rw [trim_top (derivF_top hp tp)] at dV
 have dC := l4Gcd_den 8 p (derivF p) K (K + 1) (by omega) (by omega) hp (derivF_low hp) tp (derivF_top hp tp) op (derivF_sm op (by omega)) (by omega) (by rw [hl]; exact hB)
 have dD := l4Div_den p (comF p (derivF p)) K _ (by omega) (by omega) op g5 g3 (g2 g3) hF
 have h1 := (divF_ok op g5 g3 (g2 g3)).1
 have hdl : (divF p (comF p (derivF p))).1.length = p.length + 1 - (comF p (derivF p)).length := by unfold divF; rw [divL_len.1]; simp
 have htl := trimF_len (divF p (comF p (derivF p))).1
 have dM := l4Monic_den (trimF (divF p (comF p (derivF p))).1) (by omega) (fun f hf => (h1 f (trimF_sub hf)).mono (by unfold freeB at hF; omega)) (topF_trim _)
 refine go Tryz.func61 rfl rfl ?_
 repeat refine vs ?_
 conv => whnf
 refine CallS.mk _ rfl false false _ (dV) rfl ?_
 repeat refine vs ?_
 conv => whnf
 refine CallS.mk _ rfl false false _ (dC) rfl ?_
 repeat refine vs ?_
 conv => whnf
 refine CallS.mk _ rfl false false _ (dD) rfl ?_
 repeat refine vs ?_
 conv => whnf
 refine CallS.mk _ rfl false false _ (dM) rfl ?_
 repeat refine vs ?_
 conv => whnf
 first | rfl | exact ⟨rfl, rfl⟩ | exact ⟨by simp [toRes], rfl⟩
end
theorem topF_good {fs : List (Int × Int)} (h : ∀ f, fs.getLast? = some f → f.1 ≠ 0) : topF fs := topF_of h
theorem lowL_T {K : Nat} {fs : List (Int × Int)} (h : ∀ f ∈ fs, lowT K f) : lowL fs := fun f hf => ⟨(h f hf).1.1, (h f hf).2⟩
theorem okL_T {K : Nat} {fs : List (Int × Int)} (h : ∀ f ∈ fs, lowT K f) : okL K fs := fun f hf => (h f hf).1
end Go.Vx
end
