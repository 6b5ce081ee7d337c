/- Q9, Q10, Q11, Q12 -/
import Derived.Test.YtpmgjmkobpeepaaGreatQGd
import Derived.Test.YtpmgjmkobpeepaaGreatRSb
set_option linter.unusedVariables false
set_option linter.unusedSectionVars false
set_option linter.unusedSimpArgs false
section
/- RootBound. -/
namespace Go.Vx
open Go.Proofs
set_option maxRecDepth 100000

def absR (x : Int × Int) : Int × Int := ((x.1.natAbs : Int), x.2)
theorem absR_ok {K : Nat} {x : Int × Int} (h : okF K x) : okF K (absR x) := ⟨h.1, by show (Lm.lim ((x.1.natAbs : Nat) : Int).natAbs).length ≤ K; rw [Int.natAbs_natCast]; exact h.2.1, h.2.2⟩
theorem absBig_den (x : Int) (hx : Lm.ln x ≤ 1000000000000) : D 159 [bigV x] true (.one (bigV (x.natAbs : Int))) := by
 have d := bigOf_den false (Lm.lim x.natAbs) hx
 rw [make_num] at d
 simp only [Bool.false_eq_true, if_false] at d
 refine go Tryz.func159 rfl rfl ?_
 repeat refine vs ?_
 conv => whnf
 refine CallS.mk _ rfl true true _ (d) rfl ?_
 repeat refine vs ?_
 conv => whnf
 first | rfl | exact ⟨rfl, rfl⟩ | exact ⟨by simp [toRes], rfl⟩
theorem ratAbs_den (x : Int × Int) (h : okF 40000000000 x) : D 123 [ratV x.1 x.2] true (.one (ratV (absR x).1 (absR x).2)) := by
 have h0 := h.1
 have h2 : (Lm.lim x.2.natAbs).length ≤ 40000000000 := h.2.2
 have dA := absBig_den x.1 (Nat.le_trans h.2.1 (by omega))
 have dB := bigOf_den false (Lm.lim x.2.natAbs) (by omega)
 rw [make_num] at dB
 simp only [Bool.false_eq_true, if_false] at dB
 rw [show ((x.2.natAbs : Nat) : Int) = x.2 by omega] at dB
 unfold absR
 refine go Tryz.func123 rfl rfl ?_
 repeat refine vs ?_
 conv => whnf
 refine CallS.mk _ rfl true true _ (dA) rfl ?_
 repeat refine vs ?_
 conv => whnf
 refine CallS.mk _ rfl true true _ (dB) rfl ?_
 repeat refine vs ?_
 conv => whnf
 first | rfl | exact ⟨rfl, rfl⟩ | exact ⟨by simp [toRes], rfl⟩
theorem l5Abs_den (x : Int × Int) (h : okF 40000000000 x) : D 198 [ratV x.1 x.2] false (.one (ratV (absR x).1 (absR x).2)) := by
 have h1 : (Lm.lim x.1.natAbs).length ≤ 40000000000 := h.2.1
 have dB := l1Make_den false (Lm.lim x.1.natAbs) (by omega)
 rw [make_num] at dB
 simp only [Bool.false_eq_true, if_false] at dB
 unfold absR
 refine go Tryz.func198 rfl rfl ?_
 repeat refine vs ?_
 conv => whnf
 refine CallS.mk _ rfl true false _ (dB) rfl ?_
 repeat refine vs ?_
 conv => whnf
 first | rfl | exact ⟨rfl, rfl⟩ | exact ⟨by simp [toRes], rfl⟩
end Go.Vx
end
section
/- Sturm's chain: what the two programs do. -/
namespace Go.Vx
open Go.Proofs
set_option maxRecDepth 100000

def negA (x : Int × Int) : Int × Int := (-(x.1.natAbs : Int), x.2)
/-- The negated remainder, divided by the absolute value of its last member. -/
def nextF (p q : List (Int × Int)) : List (Int × Int) := scaleF (negA ((trimF (divF p q).2).getD ((trimF (divF p q).2).length - 1) (0, 1))) (trimF (divF p q).2)
def chainL : Nat → List (Int × Int) → List (Int × Int) → List (List (Int × Int))
 | 0, _, _ => []
 | n + 1, p, q => if q = [] then [] else q :: chainL n q (nextF p q)
def chainF (p : List (Int × Int)) : List (List (Int × Int)) := freeF p :: chainL (freeF p).length (freeF p) (derivF (freeF p))
def rowL (q : List (Int × Int)) : List PL := [.arr 4 (q.map cellR)]
theorem nextF_len (p q : List (Int × Int)) : (nextF p q).length = (trimF (divF p q).2).length := scaleF_len
theorem chainL_nil {n : Nat} {p : List (Int × Int)} : chainL n p [] = [] := by cases n <;> rfl
theorem negA_ne {x : Int × Int} (h : x.1 ≠ 0) : (negA x).1 ≠ 0 := by unfold negA; dsimp only; omega
theorem nextF_low {p q : List (Int × Int)} (hp : lowL p) (hq : lowL q) (tq : topF q) (h : q ≠ []) : lowL (nextF p q) ∧ topF (nextF p q) ∧ (nextF p q).length < q.length := by
 have h1 := divF_rest hp hq h (tq h)
 have h2 := divF_low hp hq (tq h)
 have l4 := trimF_low h2.2
 have t4 := topF_trim (divF p q).2
 rw [nextF_len]
 unfold nextF
 generalize trimF (divF p q).2 = r at *
 by_cases hr : r = []
 ·subst hr
  exact ⟨(fun f hf => by cases hf), (fun hf => absurd rfl hf), h1⟩
 ·have hne := negA_ne (t4 hr)
  exact ⟨scaleF_low l4 hne, scaleF_top l4 t4 hne (getD_low l4 _).1, h1⟩
theorem nextF_ok {p q : List (Int × Int)} {R S : Nat} (tq : topF q) (op : okL R p) (oq : okL S q) (h : q ≠ []) : okL (2 * szD S (p.length + 1 - q.length) R) (nextF p q) := by
 have h3 := (divF_ok op oq h (tq h)).2
 have h4 : okL (szD S (p.length + 1 - q.length) R) (trimF (divF p q).2) := fun x hx => h3 x (trimF_sub hx)
 have t4 := topF_trim (divF p q).2
 unfold nextF
 generalize trimF (divF p q).2 = r at *
 by_cases hr : r = []
 ·subst hr
  exact fun f hf => by cases hf
 ·have hne := negA_ne (t4 hr)
  have hrp : 0 < r.length := List.length_pos_iff.2 hr
  have hok := getD_ok h4 (r.length - 1) (by omega)
  have hok2 : okF (szD S (p.length + 1 - q.length) R) (negA (r.getD (r.length - 1) (0, 1))) := ⟨hok.1, by show (Lm.lim (-((r.getD (r.length - 1) (0, 1)).1.natAbs : Int)).natAbs).length ≤ _; rw [Int.natAbs_neg, Int.natAbs_natCast]; exact hok.2.1, hok.2.2⟩
  rw [Nat.two_mul]
  exact scaleF_ok h4 hok2 hne
theorem divR_neg {a l : Int × Int} (ha : 0 < a.2) (hl : l.1 ≠ 0) (hl2 : 0 < l.2) : divR (-a.1, a.2) (absR l) = divR a (negA l) := by
 have e := nd_eq (x := -a.1 * l.2) (y := a.2 * (l.1.natAbs : Int)) (u := a.1 * l.2) (v := a.2 * (-(l.1.natAbs : Int))) (Int.mul_ne_zero (by omega) (by omega)) (Int.mul_ne_zero (by omega) (by omega)) (by grind)
 exact Prod.ext e.1 e.2

section
variable (p q : List (Int × Int)) (R S : Nat) (hpl : p.length ≤ 100) (hql : q.length ≤ 100) (hp : lowL p) (hq : lowL q) (tq : topF q) (op : okL R p) (oq : okL S q) (h : q ≠ []) (hS : szD S (p.length + 1 - q.length) R + S + 4 ≤ 1000000000)
include hpl hql hp hq tq op oq h hS
theorem l5Next_den : D 188 [(false, [.arr 4 (p.map cellR)]), (false, [.arr 4 (q.map cellR)])] false (.one (false, [.arr 4 ((nextF p q).map cellR)])) := by
 have dD := l4Div_den p q R S hpl hql op oq h (tq h) hS
 have h1 := divF_rest hp hq h (tq h)
 have h2 := divF_low hp hq (tq h)
 have h3 := (divF_ok op oq h (tq h)).2
 have h4 : okL (szD S (p.length + 1 - q.length) R) (trimF (divF p q).2) := fun x hx => h3 x (trimF_sub hx)
 have l4 := trimF_low h2.2
 have t4 := topF_trim (divF p q).2
 have hnl := nextF_len p q
 have hrl : ((trimF (divF p q).2).map cellR).length = (trimF (divF p q).2).length := by simp
 have hnx : nextF p q = scaleF (negA ((trimF (divF p q).2).getD ((trimF (divF p q).2).length - 1) (0, 1))) (trimF (divF p q).2) := rfl
 refine goP 4 Tryz.func188 rfl rfl ?_
 repeat refine vs ?_
 conv => whnf
 refine CallS.mk _ rfl false false _ (dD) rfl ?_
 repeat refine vs ?_
 conv => whnf
 generalize trimF (divF p q).2 = r at *
 generalize nextF p q = nx at *
 refine EVs.loopU (fun i : Nat => i ≤ r.length) (fun i => r.length - i) (fun i => [(7, .v false [.own (50, 0) 41 (.arr 4 ((nx.take i).map cellR))]), (18, .v false [.p (.int .i64 (i : Int))])]) 0 (by omega) ?_ ?_
 ·exact Wk.fg
 intro i hi
 refine go1 ?_
 repeat refine vs ?_
 conv => whnf
 by_cases hc : (i : Int) < (r.map cellR).length
 ·have hlt : i < r.length := by omega
  have hrn : r ≠ [] := fun e => by rw [e] at hlt; simp at hlt
  have ha := h4 r[i] (List.getElem_mem hlt)
  have ga : (r.map cellR)[i]? = some (cellR r[i]) := by rw [List.getElem?_map, List.getElem?_eq_getElem hlt]; rfl
  have hb := getD_ok h4 (r.length - 1) (by omega)
  have gb := getD_cell (l := r) (i := r.length - 1) (by omega)
  have h0 := t4 hrn
  have htk := take_cellR (fs := nx) (i := i) (by omega)
  have he : nx[i]'(by omega) = divR r[i] (negA (r.getD (r.length - 1) (0, 1))) := by simp only [hnx, scaleF, List.getElem_map]
  rw [he, ← divR_neg ha.1 h0 hb.1] at htk
  generalize r[i] = a at *
  generalize r.getD (r.length - 1) (0, 1) = b at *
  have dN := l2Neg_den a.1 a.2 (Nat.le_trans ha.2.1 (by omega)) (Nat.le_trans ha.2.2 (by omega))
  have dA := l5Abs_den b (hb.mono (by omega))
  have han : okF (szD S (p.length + 1 - q.length) R) ((-a.1, a.2) : Int × Int) := ⟨ha.1, by show Lm.ln (-a.1) ≤ _; rw [Lm.ln_neg]; exact ha.2.1, ha.2.2⟩
  have dD2 := divR_S (a := (-a.1, a.2)) (b := absR b) (han.mono (by omega)) ((absR_ok hb).mono (by omega)) (by show ((b.1.natAbs : Nat) : Int) ≠ 0; omega)
  generalize divR (-a.1, a.2) (absR b) = m at *
  have hrow : (nx.take i).map cellR ++ [[.bool (decide (m.1 < 0)), .ints (Lm.lim m.1.natAbs), .bool (decide (m.2 < 0)), .ints (Lm.lim m.2.natAbs)]] = (nx.take (i + 1)).map cellR := htk.symm
  repeat refine vs ?_
  conv => whnf
  first | refine Idx.mk (i) (by first | rfl | omega) (by omega) ?_ | skip
  repeat refine vs ?_
  conv => whnf
  refine LdR.mk (cellR a) ga ?_
  repeat refine vs ?_
  conv => whnf
  refine CallS.mk _ rfl false false _ (dN) rfl ?_
  repeat refine vs ?_
  conv => whnf
  first | refine Idx.mk ((r.length - 1)) (by first | rfl | omega) (by omega) ?_ | skip
  repeat refine vs ?_
  conv => whnf
  refine LdR.mk (cellR b) gb ?_
  repeat refine vs ?_
  conv => whnf
  refine CallS.mk _ rfl false false _ (dA) rfl ?_
  repeat refine vs ?_
  conv => whnf
  refine CallS.mk _ rfl true false _ (dD2) rfl ?_
  repeat refine vs ?_
  conv => whnf
  refine NewK.mk false ?_
  repeat refine vs ?_
  conv => whnf
  refine ⟨by simp only [List.length_map, List.length_take, List.length_singleton]; omega, ?_⟩
  repeat refine vs ?_
  conv => whnf
  refine NewK.mk true ?_
  repeat refine vs ?_
  conv => whnf
  rw [hrow]
  refine ⟨i + 1, by omega, by omega, ?_⟩
  exact Wk.fg
 ·have ht : nx.take i = nx := List.take_of_length_le (by omega)
  rw [ht]
  repeat refine vs ?_
  conv => whnf
  first | rfl | exact ⟨rfl, rfl⟩ | exact ⟨by simp [toRes], rfl⟩
end
theorem chainL_fuel : ∀ {n m : Nat} {p q : List (Int × Int)}, lowL p → lowL q → topF q → q.length ≤ n → q.length ≤ m → chainL n p q = chainL m p q
 | 0, m, p, q, _, _, _, hn, _ => by
  have : q = [] := List.length_eq_zero_iff.1 (by omega)
  subst this
  rw [chainL_nil, chainL_nil]
 | n + 1, 0, p, q, _, _, _, _, hm => by
  have : q = [] := List.length_eq_zero_iff.1 (by omega)
  subst this
  rw [chainL_nil, chainL_nil]
 | n + 1, m + 1, p, q, hp, hq, tq, hn, hm => by
  unfold chainL
  split
  ·rfl
  ·rename_i h
   obtain ⟨f1, f2, f4⟩ := nextF_low hp hq tq h
   rw [chainL_fuel (m := m) hq f1 f2 (by omega) (by omega)]
def chL (p q : List (Int × Int)) : List (List (Int × Int)) := chainL q.length p q
theorem chL_nil {p : List (Int × Int)} : chL p [] = [] := rfl
theorem chL_cons {p q : List (Int × Int)} (hp : lowL p) (hq : lowL q) (tq : topF q) (h : q ≠ []) : chL p q = q :: chL q (nextF p q) := by
 obtain ⟨f1, f2, f4⟩ := nextF_low hp hq tq h
 unfold chL
 obtain ⟨n, hn⟩ : ∃ n, q.length = n + 1 := ⟨q.length - 1, by have := List.length_pos_iff.2 h; omega⟩
 conv => lhs; rw [hn]; unfold chainL
 rw [if_neg h, chainL_fuel (m := (nextF p q).length) hq f1 f2 (by omega) (Nat.le_refl _)]
theorem chainF_eq {p : List (Int × Int)} (hp : lowL (freeF p)) (tp : topF (freeF p)) : chainF p = freeF p :: chL (freeF p) (derivF (freeF p)) := by
 unfold chainF chL
 rw [chainL_fuel (m := (derivF (freeF p)).length) hp (derivF_low hp) (derivF_top hp tp) (by rw [derivF_len]; omega) (Nat.le_refl _)]
theorem chL_ok {B : Nat} : ∀ {f : Nat} {p q : List (Int × Int)} {R S : Nat}, lowL p → lowL q → topF q → okL R p → okL S q → q.length ≤ f → eucB f p.length q.length R S ≤ B → S ≤ B → ∀ c ∈ chL p q, okL B c ∧ c.length ≤ q.length ∧ lowL c ∧ topF c
 | 0, p, q, R, S, hp, hq, tq, op, oq, hf, _, _ => fun c hc => by
  have : q = [] := List.length_eq_zero_iff.1 (by omega)
  subst this
  cases hc
 | f + 1, p, q, R, S, hp, hq, tq, op, oq, hf, hB, hS => fun c hc => by
  by_cases h : q = []
  ·subst h; cases hc
  ·obtain ⟨f1, f2, f4⟩ := nextF_low hp hq tq h
   have f3 := nextF_ok tq op oq h
   obtain ⟨e1, e2⟩ := eucB_step (f := f) (m := p.length) (n := q.length) (j := (nextF p q).length) (R := R) (S := S) f4
   have e3 := eucB_R (f := f) (m := q.length) (n := (nextF p q).length) (R := S) (S := 2 * szD S (p.length + 1 - q.length) R)
   rw [chL_cons hp hq tq h] at hc
   rcases List.mem_cons.1 hc with rfl | hc
   ·exact ⟨oq.mono hS, Nat.le_refl _, hq, tq⟩
   ·by_cases hn : nextF p q = []
    ·rw [hn] at hc; cases hc
    ·have hn0 : 0 < (nextF p q).length := List.length_pos_iff.2 hn
     have hS2 : 2 * szD S (p.length + 1 - q.length) R ≤ B := by
      cases f with
      | zero => omega
      | succ f =>
       have := (eucB_step (f := f) (m := q.length) (n := (nextF p q).length) (j := 0) (R := S) (S := 2 * szD S (p.length + 1 - q.length) R) hn0).1
       omega
     have := chL_ok (f := f) hq f1 f2 oq f3 (by omega) (by omega) hS2 c hc
     exact ⟨this.1, by omega, this.2.2⟩

/-- A root polynomial. -/
structure RootP (p : List (Int × Int)) : Prop where
 le5 : p.length ≤ 5
 ge2 : 2 ≤ p.length
 low : ∀ f ∈ p, lowT 1 f
 top : ∀ f, p.getLast? = some f → f.1 ≠ 0
theorem freeB_1 : ∀ m, m < 6 → ∀ e, e < 8 → freeB m 1 e ≤ 100000 ∧ eucB 8 m (m - 1) 1 2 ≤ 1000000000 := by decide +kernel
theorem chB_1 : ∀ m, m < 6 → ∀ e, e < 8 → ∀ n, n < m + 2 - e → eucB 8 n (n - 1) (2 * freeB m 1 e) (2 * freeB m 1 e + 1) ≤ 900000000 := by decide +kernel
section
variable {p : List (Int × Int)} (hr : RootP p)
include hr
theorem RootP.ne : p ≠ [] := fun e => by have := hr.ge2; rw [e] at this; simp at this
theorem RootP.lowL : lowL p := lowL_T hr.low
theorem RootP.topF : topF p := topF_good hr.top
theorem RootP.okL : okL 1 p := okL_T hr.low
theorem RootP.free : ∃ F, Vx.okL F (freeF p) ∧ Vx.lowL (freeF p) ∧ Vx.topF (freeF p) ∧ (freeF p).length ≤ 5 ∧ F ≤ 200000 ∧ eucB 8 (freeF p).length ((freeF p).length - 1) F (F + 1) ≤ 900000000 := by
 have h5 := hr.le5
 obtain ⟨g1, g2, g3, g4, g5⟩ := comD (by omega) hr.ne hr.lowL hr.topF hr.okL
 obtain ⟨f1, f2, f3, f4⟩ := freeF_sz (by omega) hr.ne hr.lowL hr.topF hr.okL
 have hg : 0 < (comF p (derivF p)).length := List.length_pos_iff.2 g3
 have b1 := (freeB_1 p.length (by omega) (comF p (derivF p)).length (by omega)).1
 have g6 := comF_len (m := p.length) hr.lowL (derivF_low hr.lowL) (derivF_top hr.lowL hr.topF) (Nat.le_refl _) (by rw [derivF_len]; omega)
 have b2 := chB_1 p.length (by omega) (comF p (derivF p)).length (by omega) (freeF p).length (by omega)
 exact ⟨_, f1, f2, f3, by omega, by omega, b2⟩
theorem RootP.free_I : D 62 [(false, [.arr 4 (p.map cellR)])] false (.one (false, [.arr 4 ((freeF p).map cellR)])) := by
 have h5 := hr.le5
 obtain ⟨g1, g2, g3, g4, g5⟩ := comD (by omega) hr.ne hr.lowL hr.topF hr.okL
 have b1 := freeB_1 p.length (by omega) (comF p (derivF p)).length (by omega)
 exact squareFree_den p 1 (by omega) hr.ne hr.lowL hr.topF hr.okL b1.2 (by omega) (by omega)
theorem RootP.free_S : D 61 [(false, [.arr 4 (p.map cellR)])] false (.one (false, [.arr 4 ((freeF p).map cellR)])) := by
 have h5 := hr.le5
 obtain ⟨g1, g2, g3, g4, g5⟩ := comD (by omega) hr.ne hr.lowL hr.topF hr.okL
 have b1 := freeB_1 p.length (by omega) (comF p (derivF p)).length (by omega)
 exact l4Free_den p 1 (by omega) hr.ne hr.lowL hr.topF hr.okL b1.2 (by omega) (by omega)
end
/-- What Sturm's chain needs. -/
def CP (p : List (Int × Int)) : Prop := ∃ F, Vx.okL F (freeF p) ∧ Vx.lowL (freeF p) ∧ Vx.topF (freeF p) ∧ (freeF p).length ≤ 5 ∧ F ≤ 40000000 ∧ eucB 8 (freeF p).length ((freeF p).length - 1) F (F + 1) ≤ 900000000
theorem RootP.cp {p : List (Int × Int)} (hr : RootP p) : CP p := by
 obtain ⟨F, f1, f2, f3, f4, f5, f6⟩ := hr.free
 exact ⟨F, f1, f2, f3, f4, by omega, f6⟩
section
variable {p : List (Int × Int)} (hr : CP p)
include hr
/-- The chain's members. -/
theorem CP.chain_ok : ∀ c ∈ chainF p, Vx.okL 900000000 c ∧ c.length ≤ 5 ∧ Vx.lowL c ∧ Vx.topF c := by
 obtain ⟨F, f1, f2, f3, f4, f5, f6⟩ := hr
 intro c hc
 rw [chainF_eq f2 f3] at hc
 rcases List.mem_cons.1 hc with rfl | hc
 ·exact ⟨f1.mono (by omega), f4, f2, f3⟩
 ·have hl := derivF_len (freeF p)
  have := chL_ok (B := 900000000) (f := 8) f2 (derivF_low f2) (derivF_top f2 f3) f1 (derivF_sm f1 (by omega)) (by omega) (by rw [hl]; exact f6) (by omega) c hc
  exact ⟨this.1, by omega, this.2.2⟩
end
theorem RootP.chain_ok {p : List (Int × Int)} (hr : RootP p) : ∀ c ∈ chainF p, Vx.okL 900000000 c ∧ c.length ≤ 5 ∧ Vx.lowL c ∧ Vx.topF c := hr.cp.chain_ok

/-- The signs' changes of some polynomials at a fraction. -/
def chgAt (L : List (List (Int × Int))) (x : Int × Int) : Int := chgF 0 (L.map fun q => atF q x)
section
variable (L : List (List (Int × Int))) (x : Int × Int) (hL : L.length ≤ 100) (hq : ∀ c ∈ L, okL 900000000 c ∧ c.length ≤ 5) (hx : okF 900000000 x)
include hL hq hx
theorem vals_ok : okL 40000000000 (L.map fun q => atF q x) := by
 intro f hf
 obtain ⟨q, hq', rfl⟩ := List.mem_map.1 hf
 obtain ⟨h1, h2⟩ := hq q hq'
 refine (atF_ok h1 hx).mono ?_
 have := Nat.mul_le_mul_right (900000000 + 900000000 + 1) h2
 omega
theorem changesAt_den : D 126 [(false, [.arr 1 (L.map rowL)]), ratV x.1 x.2] true (.one (iP (chgAt L x))) := by
 have hrl : (L.map rowL).length = L.length := by simp
 have hvl : (L.map fun q => atF q x).length = L.length := by simp
 have dC := changes_den (L.map fun q => atF q x) (by omega) (vals_ok L x hL hq hx)
 refine go Tryz.func126 rfl rfl ?_
 repeat refine vs ?_
 conv => whnf
 refine NewK.mk true ?_
 repeat refine vs ?_
 conv => whnf
 refine EVs.loopU (fun i : Nat => i ≤ L.length) (fun i => L.length - i) (fun i => [(5, .v false [.own (50, 0) 41 (.arr 4 (((L.map fun q => atF q x).take i).map cellR))]), (8, .any), (11, .v false [.p (.int .i64 (i : Int))])]) 0 (by omega) ?_ ?_
 ·refine Wk.trans (Wk.ren (8, 0) (50, 0)) ?_
  exact Wk.fg
 intro i hi
 refine go1 ?_
 repeat refine vs ?_
 conv => whnf
 by_cases h1 : (i : Int) < (L.map rowL).length
 ·have hlt : i < L.length := by omega
  obtain ⟨hc1, hc2⟩ := hq L[i] (List.getElem_mem hlt)
  have hget : (L.map rowL)[i]? = some (rowL L[i]) := by rw [List.getElem?_map, List.getElem?_eq_getElem hlt]; rfl
  have htk := take_cellR (fs := L.map fun q => atF q x) (i := i) (by omega)
  have he : (L.map fun q => atF q x)[i]'(by omega) = atF L[i] x := by simp
  rw [he] at htk
  generalize L[i] = c at *
  have dA := at_den c x (by omega) (hc1.mono (by omega)) (hx.mono (by omega))
  generalize atF c x = m at *
  have hrow : ((L.map fun q => atF q x).take i).map cellR ++ [[.bool (decide (m.1 < 0)), .ints (Lm.lim m.1.natAbs), .bool (decide (m.2 < 0)), .ints (Lm.lim m.2.natAbs)]] = ((L.map fun q => atF q x).take (i + 1)).map cellR := htk.symm
  repeat refine vs ?_
  conv => whnf
  first | refine Idx.mk (i) (by first | rfl | omega) (by omega) ?_ | skip
  repeat refine vs ?_
  conv => whnf
  refine LdR.mk (rowL c) hget ?_
  repeat refine vs ?_
  conv => whnf
  refine CallS.mk _ rfl false false _ (dA) rfl ?_
  repeat refine vs ?_
  conv => whnf
  refine NewK.mk false ?_
  repeat refine vs ?_
  conv => whnf
  refine ⟨by simp only [PL.len, List.length_map, List.length_take, List.length_singleton]; omega, ?_⟩
  repeat refine vs ?_
  conv => whnf
  refine NewK.mk true ?_
  repeat refine vs ?_
  conv => whnf
  rw [hrow]
  refine ⟨i + 1, by omega, by omega, ?_⟩
  exact Wk.fg
 ·have ht : (L.map fun q => atF q x).take i = L.map fun q => atF q x := List.take_of_length_le (by omega)
  rw [ht]
  unfold chgAt
  repeat refine vs ?_
  conv => whnf
  refine CallS.mk _ rfl true true _ (dC) rfl ?_
  repeat refine vs ?_
  conv => whnf
  first | rfl | exact ⟨rfl, rfl⟩ | exact ⟨by simp [toRes], rfl⟩
theorem l5Changes_den : D 158 [(false, [.arr 1 (L.map rowL)]), ratV x.1 x.2] true (.one (iP (chgAt L x))) := by
 have hrl : (L.map rowL).length = L.length := by simp
 have hvl : (L.map fun q => atF q x).length = L.length := by simp
 have dC := l4Signs_den (L.map fun q => atF q x) (by omega) (vals_ok L x hL hq hx)
 refine go Tryz.func158 rfl rfl ?_
 repeat refine vs ?_
 conv => whnf
 refine EVs.loopU (fun i : Nat => i ≤ L.length) (fun i => L.length - i) (fun i => [(5, .v false [.own (50, 0) 41 (.arr 4 (((L.map fun q => atF q x).take i).map cellR))]), (10, .v false [.p (.int .i64 (i : Int))])]) 0 (by omega) ?_ ?_
 ·exact Wk.fg
 intro i hi
 refine go1 ?_
 repeat refine vs ?_
 conv => whnf
 by_cases h1 : (i : Int) < (L.map rowL).length
 ·have hlt : i < L.length := by omega
  obtain ⟨hc1, hc2⟩ := hq L[i] (List.getElem_mem hlt)
  have hget : (L.map rowL)[i]? = some (rowL L[i]) := by rw [List.getElem?_map, List.getElem?_eq_getElem hlt]; rfl
  have htk := take_cellR (fs := L.map fun q => atF q x) (i := i) (by omega)
  have he : (L.map fun q => atF q x)[i]'(by omega) = atF L[i] x := by simp
  rw [he] at htk
  generalize L[i] = c at *
  have dA := l4Eval_den c x (by omega) (hc1.mono (by omega)) (hx.mono (by omega))
  generalize atF c x = m at *
  have hrow : ((L.map fun q => atF q x).take i).map cellR ++ [[.bool (decide (m.1 < 0)), .ints (Lm.lim m.1.natAbs), .bool (decide (m.2 < 0)), .ints (Lm.lim m.2.natAbs)]] = ((L.map fun q => atF q x).take (i + 1)).map cellR := htk.symm
  repeat refine vs ?_
  conv => whnf
  first | refine Idx.mk (i) (by first | rfl | omega) (by omega) ?_ | skip
  repeat refine vs ?_
  conv => whnf
  refine LdR.mk (rowL c) hget ?_
  repeat refine vs ?_
  conv => whnf
  refine CallS.mk _ rfl false false _ (dA) rfl ?_
  repeat refine vs ?_
  conv => whnf
  refine NewK.mk false ?_
  repeat refine vs ?_
  conv => whnf
  refine ⟨by simp only [PL.len, List.length_map, List.length_take, List.length_singleton]; omega, ?_⟩
  repeat refine vs ?_
  conv => whnf
  refine NewK.mk true ?_
  repeat refine vs ?_
  conv => whnf
  rw [hrow]
  refine ⟨i + 1, by omega, by omega, ?_⟩
  exact Wk.fg
 ·have ht : (L.map fun q => atF q x).take i = L.map fun q => atF q x := List.take_of_length_le (by omega)
  rw [ht]
  unfold chgAt
  repeat refine vs ?_
  conv => whnf
  refine CallS.mk _ rfl true true _ (dC) rfl ?_
  repeat refine vs ?_
  conv => whnf
  first | rfl | exact ⟨rfl, rfl⟩ | exact ⟨by simp [toRes], rfl⟩
end
end Go.Vx
end
section
/- Sturm's chain and the number of roots, in the two programs. -/
namespace Go.Vx
open Go.Proofs
set_option maxRecDepth 100000

theorem nextF_nil {p q : List (Int × Int)} (h : trimF (divF p q).2 = []) : nextF p q = [] := by unfold nextF; rw [h]; rfl

section
variable {p : List (Int × Int)} (hr : CP p)
include hr
set_option maxHeartbeats 4000000 in
theorem cp_chain_I (dF : D 62 [(false, [.arr 4 (p.map cellR)])] false (.one (false, [.arr 4 ((freeF p).map cellR)]))) : D 70 [(false, [.arr 4 (p.map cellR)])] false (.one (false, [.arr 1 ((chainF p).map rowL)])) := by
 obtain ⟨F, f1, f2, f3, f4, f5, f6⟩ := hr
 have dV := derived_den (freeF p) (by omega) (f1.mono (by omega))
 have hl := derivF_len (freeF p)
 have hc := chainF_eq f2 f3
 generalize freeF p = f at *
 refine go Tryz.func70 rfl rfl ?_
 repeat refine vs ?_
 conv => whnf
 refine CallS.mk _ rfl false false _ (dF) rfl ?_
 repeat refine vs ?_
 conv => whnf
 refine NewK.mk true ?_
 repeat refine vs ?_
 conv => whnf
 refine CallS.mk _ rfl false false _ (dV) rfl ?_
 repeat refine vs ?_
 conv => whnf
 refine EVs.loopU (fun s : List (List (Int × Int)) × List (Int × Int) × List (Int × Int) × Nat × Nat × Nat => s.1.length + s.2.2.1.length ≤ 10 ∧ s.2.1.length ≤ 100 ∧ lowL s.2.1 ∧ lowL s.2.2.1 ∧ topF s.2.2.1 ∧ okL s.2.2.2.1 s.2.1 ∧ okL s.2.2.2.2.1 s.2.2.1 ∧ s.2.2.1.length ≤ s.2.2.2.2.2 ∧ eucB s.2.2.2.2.2 s.2.1.length s.2.2.1.length s.2.2.2.1 s.2.2.2.2.1 ≤ 900000000 ∧ s.1 ++ s.2.1 :: chL s.2.1 s.2.2.1 = chainF p) (fun s => s.2.2.1.length)
  (fun | (pre, a, b, _, _, _) => [(4, .v false [.own (60, 0) 24 (.arr 1 ((pre ++ [a]).map rowL))]), (5, .v false [.p (.arr 4 (b.map cellR))]), (11, .any)]) ([], f, derivF f, F, F + 1, 8) ⟨by dsimp only [List.length_nil]; omega, by dsimp only; omega, f2, derivF_low f2, derivF_top f2 f3, f1, derivF_sm f1 (by omega), by dsimp only; omega, by dsimp only; rw [hl]; exact f6, hc.symm⟩ ?_ ?_
 ·refine Wk.trans (Wk.ren (11, 0) (60, 0)) ?_
  exact Wk.fg
 rintro ⟨pre, a, b, A, B, g⟩ ⟨hpl, hal, la, lb, tb, oa, ob, hbg, hB, hinv⟩
 dsimp only at hpl hal la lb tb oa ob hbg hB hinv
 have hrl : (b.map cellR).length = b.length := by simp
 refine go1 ?_
 repeat refine vs ?_
 conv => whnf
 by_cases h : b = []
 ·subst h
  rw [chL_nil] at hinv
  rw [hinv]
  repeat refine vs ?_
  conv => whnf
  first | rfl | exact ⟨rfl, rfl⟩ | exact ⟨by simp [toRes], rfl⟩
 ·have hbn : 0 < b.length := List.length_pos_iff.2 h
  obtain ⟨g, rfl⟩ : ∃ n, g = n + 1 := ⟨g - 1, by omega⟩
  obtain ⟨n1, n2, n3⟩ := nextF_low la lb tb h
  have n4 := nextF_ok tb oa ob h
  obtain ⟨e1, e2⟩ := eucB_step (f := g) (m := a.length) (n := b.length) (j := (nextF a b).length) (R := A) (S := B) n3
  have dD := divided_den a b A B hal (by omega) oa ob h (tb h) (by omega)
  rw [chL_cons la lb tb h] at hinv
  have hinv2 : (pre ++ [a]) ++ b :: chL b (nextF a b) = chainF p := by rw [← hinv]; simp
  have h3 := (divF_ok oa ob h (tb h)).2
  have h4 : okL (szD B (a.length + 1 - b.length) A) (trimF (divF a b).2) := fun x hx => h3 x (trimF_sub hx)
  have t4 := topF_trim (divF a b).2
  have hnl := nextF_len a b
  have hnil := nextF_nil (p := a) (q := b)
  have hnx : nextF a b = scaleF (negA ((trimF (divF a b).2).getD ((trimF (divF a b).2).length - 1) (0, 1))) (trimF (divF a b).2) := rfl
  have hprl : ((pre ++ [a]).map rowL).length = pre.length + 1 := by simp
  have hrow : (pre ++ [a]).map rowL ++ [[.arr 4 (b.map cellR)]] = ((pre ++ [a]) ++ [b]).map rowL := by rw [List.map_append (l₁ := pre ++ [a])]; rfl
  have hprl2 : (((pre ++ [a]) ++ [b]).map rowL).length = pre.length + 2 := by simp
  have ga : (((pre ++ [a]) ++ [b]).map rowL)[pre.length]? = some (rowL a) := by simp
  generalize trimF (divF a b).2 = r at *
  generalize nextF a b = nx at *
  repeat refine vs ?_
  conv => whnf
  refine NewK.mk false ?_
  repeat refine vs ?_
  conv => whnf
  refine NewK.mk true ?_
  repeat refine vs ?_
  conv => whnf
  rw [hrow]
  repeat refine vs ?_
  conv => whnf
  first | refine Idx.mk (pre.length) (by first | rfl | omega) (by omega) ?_ | skip
  repeat refine vs ?_
  conv => whnf
  refine LdR.mk (rowL a) ga ?_
  repeat refine vs ?_
  conv => whnf
  refine CallS.mk _ rfl false false _ (dD) rfl ?_
  repeat refine vs ?_
  conv => whnf
  by_cases hr0 : r = []
  ·have := hnil hr0
   subst this
   subst hr0
   repeat refine vs ?_
   conv => whnf
   refine ⟨(pre ++ [a], b, [], B, 2 * szD B (a.length + 1 - b.length) A, g), by dsimp only [List.length_nil]; omega, ⟨by simp; omega, by dsimp only; omega, lb, n1, n2, ob, n4, by dsimp only; omega, by dsimp only; omega, hinv2⟩, ?_⟩
   exact Wk.fg
  ·have hrn : 0 < r.length := List.length_pos_iff.2 hr0
   have hrc : (r.map cellR).length = r.length := by simp
   have hb := getD_ok h4 (r.length - 1) (by omega)
   have gb := getD_cell (l := r) (i := r.length - 1) (by omega)
   have h0 := t4 hr0
   have dS := scaledBy_den r (negA (r.getD (r.length - 1) (0, 1))) (by omega) (h4.mono (by omega)) ⟨hb.1, by show (Lm.lim (-((r.getD (r.length - 1) (0, 1)).1.natAbs : Int)).natAbs).length ≤ _; rw [Int.natAbs_neg, Int.natAbs_natCast]; exact Nat.le_trans hb.2.1 (by omega), Nat.le_trans hb.2.2 (by omega)⟩ (negA_ne h0)
   rw [← hnx] at dS
   generalize r.getD (r.length - 1) (0, 1) = c at *
   have dA := ratAbs_den c (hb.mono (by omega))
   have hca := absR_ok hb
   have dN := ratNeg_den (absR c).1 (absR c).2 hca.1 (Nat.le_trans hca.2.1 (by omega)) (Nat.le_trans hca.2.2 (by omega))
   repeat refine vs ?_
   conv => whnf
   first | refine Idx.mk ((r.length - 1)) (by first | rfl | omega) (by omega) ?_ | skip
   repeat refine vs ?_
   conv => whnf
   refine LdR.mk (cellR c) gb ?_
   repeat refine vs ?_
   conv => whnf
   refine CallS.mk _ rfl true false _ (dA) rfl ?_
   repeat refine vs ?_
   conv => whnf
   refine CallS.mk _ rfl true false _ (dN) rfl ?_
   repeat refine vs ?_
   conv => whnf
   refine CallS.mk _ rfl false false _ (dS) rfl ?_
   repeat refine vs ?_
   conv => whnf
   refine ⟨(pre ++ [a], b, nx, B, 2 * szD B (a.length + 1 - b.length) A, g), by dsimp only; omega, ⟨by simp; omega, by dsimp only; omega, lb, n1, n2, ob, n4, by dsimp only; omega, by dsimp only; omega, hinv2⟩, ?_⟩
   exact Wk.fg
set_option maxHeartbeats 4000000 in
theorem cp_chain_S (dF : D 61 [(false, [.arr 4 (p.map cellR)])] false (.one (false, [.arr 4 ((freeF p).map cellR)]))) : D 157 [(false, [.arr 4 (p.map cellR)])] false (.one (false, [.arr 1 ((chainF p).map rowL)])) := by
 obtain ⟨F, f1, f2, f3, f4, f5, f6⟩ := hr
 have dV := l4Derive_den (freeF p) (by omega) (f1.mono (by omega))
 rw [trim_top (derivF_top f2 f3)] at dV
 have hl := derivF_len (freeF p)
 have hc := chainF_eq f2 f3
 generalize freeF p = f at *
 refine go Tryz.func157 rfl rfl ?_
 repeat refine vs ?_
 conv => whnf
 refine CallS.mk _ rfl false false _ (dF) rfl ?_
 repeat refine vs ?_
 conv => whnf
 refine CallS.mk _ rfl false false _ (dV) rfl ?_
 repeat refine vs ?_
 conv => whnf
 refine NewK.mk true ?_
 repeat refine vs ?_
 conv => whnf
 refine EVs.un (60, 0) ?_
 refine EVs.loopU (fun s : List (List (Int × Int)) × List (Int × Int) × List (Int × Int) × Nat × Nat × Nat => s.1.length + s.2.2.1.length ≤ 10 ∧ s.2.1.length ≤ 100 ∧ lowL s.2.1 ∧ lowL s.2.2.1 ∧ topF s.2.2.1 ∧ okL s.2.2.2.1 s.2.1 ∧ okL s.2.2.2.2.1 s.2.2.1 ∧ s.2.2.1.length ≤ s.2.2.2.2.2 ∧ eucB s.2.2.2.2.2 s.2.1.length s.2.2.1.length s.2.2.2.1 s.2.2.2.2.1 ≤ 900000000 ∧ s.1 ++ s.2.1 :: chL s.2.1 s.2.2.1 = chainF p) (fun s => s.2.2.1.length)
  (fun | (pre, a, b, _, _, _) => [(4, .v false [.own (60, 0) 24 (.arr 1 ((pre ++ [a, b]).map rowL))]), (5, .v false [.p (.int .i64 ((pre.length + 1 : Nat) : Int))]), (11, .any)]) ([], f, derivF f, F, F + 1, 8) ⟨by dsimp only [List.length_nil]; omega, by dsimp only; omega, f2, derivF_low f2, derivF_top f2 f3, f1, derivF_sm f1 (by omega), by dsimp only; omega, by dsimp only; rw [hl]; exact f6, hc.symm⟩ ?_ ?_
 ·refine Wk.trans (Wk.ren (11, 0) (60, 0)) ?_
  exact Wk.fg
 rintro ⟨pre, a, b, A, B, g⟩ ⟨hpl, hal, la, lb, tb, oa, ob, hbg, hB, hinv⟩
 dsimp only at hpl hal la lb tb oa ob hbg hB hinv
 have hrl : (b.map cellR).length = b.length := by simp
 have hprl : ((pre ++ [a, b]).map rowL).length = pre.length + 2 := by simp
 have ga : ((pre ++ [a, b]).map rowL)[pre.length]? = some (rowL a) := by simp
 have gb : ((pre ++ [a, b]).map rowL)[pre.length + 1]? = some (rowL b) := by simp
 refine go1 ?_
 repeat refine vs ?_
 conv => whnf
 first | refine Idx.mk ((pre.length + 1)) (by first | rfl | omega) (by omega) ?_ | skip
 repeat refine vs ?_
 conv => whnf
 refine LdR.mk (rowL b) gb ?_
 repeat refine vs ?_
 conv => whnf
 by_cases h : b = []
 ·subst h
  rw [chL_nil] at hinv
  have htk : (((pre ++ [a, []]).map rowL).take (pre.length + 1)).drop 0 = (chainF p).map rowL := by
   rw [← hinv, List.drop_zero, ← List.map_take]
   congr 1
   rw [show pre ++ [a, []] = (pre ++ [a]) ++ [[]] by simp]
   exact List.take_left' (by simp)
  repeat refine vs ?_
  conv => whnf
  refine SubK.mk (0) ((pre.length + 1)) (by first | rfl | (show _ = _; omega)) (by first | rfl | (show _ = _; omega)) (by omega) (by omega) ?_
  repeat refine vs ?_
  conv => whnf
  rw [htk]
  first | rfl | exact ⟨rfl, rfl⟩ | exact ⟨by simp [toRes], rfl⟩
 ·have hbn : 0 < b.length := List.length_pos_iff.2 h
  obtain ⟨g, rfl⟩ : ∃ n, g = n + 1 := ⟨g - 1, by omega⟩
  obtain ⟨n1, n2, n3⟩ := nextF_low la lb tb h
  have n4 := nextF_ok tb oa ob h
  obtain ⟨e1, e2⟩ := eucB_step (f := g) (m := a.length) (n := b.length) (j := (nextF a b).length) (R := A) (S := B) n3
  have dD := l5Next_den a b A B hal (by omega) la lb tb oa ob h (by omega)
  rw [chL_cons la lb tb h] at hinv
  have hinv2 : (pre ++ [a]) ++ b :: chL b (nextF a b) = chainF p := by rw [← hinv]; simp
  generalize nextF a b = nx at *
  have hrow : (pre ++ [a, b]).map rowL ++ [[.arr 4 (nx.map cellR)]] = ((pre ++ [a]) ++ [b, nx]).map rowL := by simp [rowL]
  repeat refine vs ?_
  conv => whnf
  first | refine Idx.mk (pre.length) (by first | rfl | omega) (by omega) ?_ | skip
  repeat refine vs ?_
  conv => whnf
  refine LdR.mk (rowL a) ga ?_
  repeat refine vs ?_
  conv => whnf
  first | refine Idx.mk ((pre.length + 1)) (by first | rfl | omega) (by omega) ?_ | skip
  repeat refine vs ?_
  conv => whnf
  refine LdR.mk (rowL b) gb ?_
  repeat refine vs ?_
  conv => whnf
  refine CallS.mk _ rfl false false _ (dD) rfl ?_
  repeat refine vs ?_
  conv => whnf
  refine NewK.mk false ?_
  repeat refine vs ?_
  conv => whnf
  refine NewK.mk true ?_
  repeat refine vs ?_
  conv => whnf
  rw [hrow]
  refine ⟨(pre ++ [a], b, nx, B, 2 * szD B (a.length + 1 - b.length) A, g), by dsimp only; omega, ⟨by simp; omega, by dsimp only; omega, lb, n1, n2, ob, n4, by dsimp only; omega, by dsimp only; omega, hinv2⟩, ?_⟩
  have hl2 : (((pre ++ [a]).length + 1 : Nat) : Int) = ((pre.length + 1 : Nat) : Int) + 1 := by simp
  dsimp only
  rw [hl2]
  exact Wk.fg
/-- How many roots lie between two fractions. -/
theorem cp_chain_len : (chainF p).length ≤ 100 := by
 obtain ⟨F, f1, f2, f3, f4, f5, f6⟩ := hr
 rw [chainF_eq f2 f3]
 have : ∀ {n : Nat} {a b : List (Int × Int)}, (chainL n a b).length ≤ n := by
  intro n
  induction n with
  | zero => intro a b; exact Nat.le_refl _
  | succ n ih =>
   intro a b
   unfold chainL
   split
   ·exact Nat.zero_le _
   ·rw [List.length_cons]; have := ih (a := b) (b := nextF a b); omega
 have h := this (n := (derivF (freeF p)).length) (a := freeF p) (b := derivF (freeF p))
 have hl := derivF_len (freeF p)
 rw [List.length_cons]
 unfold chL
 omega
end
section
variable {p : List (Int × Int)} (hr : CP p) (x y : Int × Int) (hx : okF 900000000 x) (hy : okF 900000000 y)
include hr hx hy
theorem cp_roots_I (dF : D 62 [(false, [.arr 4 (p.map cellR)])] false (.one (false, [.arr 4 ((freeF p).map cellR)]))) : D 135 [(false, [.arr 4 (p.map cellR)]), ratV x.1 x.2, ratV y.1 y.2] true (.one (iP (chgAt (chainF p) x - chgAt (chainF p) y))) := by
 have dC := (cp_chain_I hr dF)
 have hn := (cp_chain_len hr)
 have hq : ∀ c ∈ chainF p, okL 900000000 c ∧ c.length ≤ 5 := fun c hc => ⟨(hr.chain_ok c hc).1, (hr.chain_ok c hc).2.1⟩
 have d1 := changesAt_den (chainF p) x hn hq hx
 have d2 := changesAt_den (chainF p) y hn hq hy
 have r1 := chgF_len ((chainF p).map fun q => atF q x) 0
 have r2 := chgF_len ((chainF p).map fun q => atF q y) 0
 rw [List.length_map] at r1 r2
 unfold chgAt at *
 generalize chgF 0 ((chainF p).map fun q => atF q x) = u at *
 generalize chgF 0 ((chainF p).map fun q => atF q y) = v at *
 refine go Tryz.func135 rfl rfl ?_
 repeat refine vs ?_
 conv => whnf
 refine CallS.mk _ rfl false false _ (dC) rfl ?_
 repeat refine vs ?_
 conv => whnf
 refine CallS.mk _ rfl true true _ (d1) rfl ?_
 repeat refine vs ?_
 conv => whnf
 refine CallS.mk _ rfl true true _ (d2) rfl ?_
 repeat refine vs ?_
 conv => whnf
 first | rfl | exact ⟨rfl, rfl⟩ | exact ⟨by simp [toRes], rfl⟩
theorem cp_count_S (dF : D 61 [(false, [.arr 4 (p.map cellR)])] false (.one (false, [.arr 4 ((freeF p).map cellR)]))) : D 120 [(false, [.arr 4 (p.map cellR)]), ratV x.1 x.2, ratV y.1 y.2] true (.one (iP (chgAt (chainF p) x - chgAt (chainF p) y))) := by
 have dC := (cp_chain_S hr dF)
 have hn := (cp_chain_len hr)
 have hq : ∀ c ∈ chainF p, okL 900000000 c ∧ c.length ≤ 5 := fun c hc => ⟨(hr.chain_ok c hc).1, (hr.chain_ok c hc).2.1⟩
 have d1 := l5Changes_den (chainF p) x hn hq hx
 have d2 := l5Changes_den (chainF p) y hn hq hy
 have r1 := chgF_len ((chainF p).map fun q => atF q x) 0
 have r2 := chgF_len ((chainF p).map fun q => atF q y) 0
 rw [List.length_map] at r1 r2
 unfold chgAt at *
 generalize chgF 0 ((chainF p).map fun q => atF q x) = u at *
 generalize chgF 0 ((chainF p).map fun q => atF q y) = v at *
 refine go Tryz.func120 rfl rfl ?_
 repeat refine vs ?_
 conv => whnf
 refine CallS.mk _ rfl false false _ (dC) rfl ?_
 repeat refine vs ?_
 conv => whnf
 refine CallS.mk _ rfl true true _ (d1) rfl ?_
 repeat refine vs ?_
 conv => whnf
 refine CallS.mk _ rfl true true _ (d2) rfl ?_
 repeat refine vs ?_
 conv => whnf
 first | rfl | exact ⟨rfl, rfl⟩ | exact ⟨by simp [toRes], rfl⟩
end
section
variable {p : List (Int × Int)} (hr : RootP p)
include hr
theorem rp_chain_len : (chainF p).length ≤ 100 := cp_chain_len hr.cp
theorem rp_chain_I : D 70 [(false, [.arr 4 (p.map cellR)])] false (.one (false, [.arr 1 ((chainF p).map rowL)])) := cp_chain_I hr.cp hr.free_I
variable (x y : Int × Int) (hx : okF 900000000 x) (hy : okF 900000000 y)
include hx hy
theorem rp_roots_I : D 135 [(false, [.arr 4 (p.map cellR)]), ratV x.1 x.2, ratV y.1 y.2] true (.one (iP (chgAt (chainF p) x - chgAt (chainF p) y))) := cp_roots_I hr.cp x y hx hy hr.free_I
theorem rp_count_S : D 120 [(false, [.arr 4 (p.map cellR)]), ratV x.1 x.2, ratV y.1 y.2] true (.one (iP (chgAt (chainF p) x - chgAt (chainF p) y))) := cp_count_S hr.cp x y hx hy hr.free_S
end
end Go.Vx
end
section
/- IsIsolating. -/
namespace Go.Vx
open Go.Proofs
set_option maxRecDepth 100000

/-- Whether an interval is isolating. -/
def isoF (p : List (Int × Int)) (x y : Int × Int) : Bool := if x.1 * y.2 = y.1 * x.2 then decide ((atF p x).1 = 0) else decide (chgAt (chainF p) x - chgAt (chainF p) y = 1)
section
variable {p : List (Int × Int)} (hr : RootP p) (x y : Int × Int) (hx : okF 900000000 x) (hy : okF 900000000 y)
include hr hx hy
theorem isoI_den : D 121 [(false, [.arr 4 (p.map cellR)]), spanV x.1 x.2 y.1 y.2] true (.one (bP (isoF p x y))) := by
 have h5 := hr.le5
 have dM := same_den x.1 x.2 y.1 y.2 (by have := hx.1; omega) (by have := hy.1; omega) (Nat.le_trans hx.2.1 (by omega)) (Nat.le_trans hx.2.2 (by omega)) (Nat.le_trans hy.2.1 (by omega)) (Nat.le_trans hy.2.2 (by omega))
 have dA := at_den p x (by omega) (hr.okL.mono (by omega)) (hx.mono (by omega))
 have ho := (atF_ok hr.okL hx).mono (show 4 + p.length * (900000000 + 1 + 1) ≤ 40000000000 by have := Nat.mul_le_mul_right (900000000 + 1 + 1) h5; omega)
 have dR := rp_roots_I hr x y hx hy
 unfold isoF
 generalize atF p x = v at *
 generalize chgAt (chainF p) x - chgAt (chainF p) y = n at *
 have dS := ratSign_den v.1 v.2 (Nat.le_trans ho.2.1 (by omega))
 refine go Tryz.func121 rfl rfl ?_
 by_cases h1 : x.1 * y.2 = y.1 * x.2
 ·rw [decide_eq_true h1] at dM
  rw [if_pos h1]
  by_cases h0 : v.1 = 0
  ·have h2 : cmpI v.1 0 = 0 := by rw [h0]; rfl
   rw [decide_eq_true h0]
   repeat refine vs ?_
   conv => whnf
   refine CallS.mk _ rfl true true _ (dM) rfl ?_
   repeat refine vs ?_
   conv => whnf
   refine CallS.mk _ rfl false false _ (dA) rfl ?_
   repeat refine vs ?_
   conv => whnf
   refine CallS.mk _ rfl true true _ (dS) rfl ?_
   repeat refine vs ?_
   conv => whnf
   first | rfl | exact ⟨rfl, rfl⟩ | exact ⟨by simp [toRes], rfl⟩
  ·have h2 : ¬ cmpI v.1 0 = 0 := by rcases cmpI_sgn v.1 with h | h | h <;> omega
   rw [decide_eq_false h0]
   repeat refine vs ?_
   conv => whnf
   refine CallS.mk _ rfl true true _ (dM) rfl ?_
   repeat refine vs ?_
   conv => whnf
   refine CallS.mk _ rfl false false _ (dA) rfl ?_
   repeat refine vs ?_
   conv => whnf
   refine CallS.mk _ rfl true true _ (dS) rfl ?_
   repeat refine vs ?_
   conv => whnf
   first | rfl | exact ⟨rfl, rfl⟩ | exact ⟨by simp [toRes], rfl⟩
 ·rw [decide_eq_false h1] at dM
  rw [if_neg h1]
  by_cases h2 : n = 1
  ·rw [decide_eq_true h2]
   repeat refine vs ?_
   conv => whnf
   refine CallS.mk _ rfl true true _ (dM) rfl ?_
   repeat refine vs ?_
   conv => whnf
   refine CallS.mk _ rfl true true _ (dR) rfl ?_
   repeat refine vs ?_
   conv => whnf
   first | rfl | exact ⟨rfl, rfl⟩ | exact ⟨by simp [toRes], rfl⟩
  ·rw [decide_eq_false h2]
   repeat refine vs ?_
   conv => whnf
   refine CallS.mk _ rfl true true _ (dM) rfl ?_
   repeat refine vs ?_
   conv => whnf
   refine CallS.mk _ rfl true true _ (dR) rfl ?_
   repeat refine vs ?_
   conv => whnf
   first | rfl | exact ⟨rfl, rfl⟩ | exact ⟨by simp [toRes], rfl⟩
theorem isoS_den : D 117 [(false, [.arr 4 (p.map cellR)]), spanV x.1 x.2 y.1 y.2] true (.one (bP (isoF p x y))) := by
 have h5 := hr.le5
 have dM := l2Cmp_den x.1 x.2 y.1 y.2 (by have := hx.1; omega) (by have := hy.1; omega) (Nat.le_trans hx.2.1 (by omega)) (Nat.le_trans hx.2.2 (by omega)) (Nat.le_trans hy.2.1 (by omega)) (Nat.le_trans hy.2.2 (by omega))
 have dA := l4Eval_den p x (by omega) (hr.okL.mono (by omega)) (hx.mono (by omega))
 have ho := (atF_ok hr.okL hx).mono (show 4 + p.length * (900000000 + 1 + 1) ≤ 40000000000 by have := Nat.mul_le_mul_right (900000000 + 1 + 1) h5; omega)
 have dR := rp_count_S hr x y hx hy
 have hc : (cmpI (x.1 * y.2) (y.1 * x.2) = 0) ↔ x.1 * y.2 = y.1 * x.2 := by unfold cmpI; split <;> (try split) <;> omega
 unfold isoF
 generalize atF p x = v at *
 generalize chgAt (chainF p) x - chgAt (chainF p) y = n at *
 have dS := l4Zero_den (decide (v.1 < 0)) (Lm.lim v.1.natAbs) (decide (v.2 < 0)) (Lm.lim v.2.natAbs) (Nat.le_trans ho.2.1 (by omega))
 have hz : (Lm.lim v.1.natAbs = []) ↔ v.1 = 0 := by rw [Lm.lim_eq_nil]; omega
 rw [show decide (Lm.lim v.1.natAbs = []) = decide (v.1 = 0) from decide_eq_decide.2 hz] at dS
 refine go Tryz.func117 rfl rfl ?_
 by_cases h1 : x.1 * y.2 = y.1 * x.2
 ·have h2 := hc.2 h1
  rw [if_pos h1]
  repeat refine vs ?_
  conv => whnf
  refine CallS.mk _ rfl true true _ (dM) rfl ?_
  repeat refine vs ?_
  conv => whnf
  refine CallS.mk _ rfl false false _ (dA) rfl ?_
  repeat refine vs ?_
  conv => whnf
  refine CallS.mk _ rfl true true _ (dS) rfl ?_
  repeat refine vs ?_
  conv => whnf
  first | rfl | exact ⟨rfl, rfl⟩ | exact ⟨by simp [toRes], rfl⟩
 ·have h2 : ¬ cmpI (x.1 * y.2) (y.1 * x.2) = 0 := fun h => h1 (hc.1 h)
  rw [if_neg h1]
  by_cases h3 : n = 1
  ·rw [decide_eq_true h3]
   repeat refine vs ?_
   conv => whnf
   refine CallS.mk _ rfl true true _ (dM) rfl ?_
   repeat refine vs ?_
   conv => whnf
   refine CallS.mk _ rfl true true _ (dR) rfl ?_
   repeat refine vs ?_
   conv => whnf
   first | rfl | exact ⟨rfl, rfl⟩ | exact ⟨by simp [toRes], rfl⟩
  ·rw [decide_eq_false h3]
   repeat refine vs ?_
   conv => whnf
   refine CallS.mk _ rfl true true _ (dM) rfl ?_
   repeat refine vs ?_
   conv => whnf
   refine CallS.mk _ rfl true true _ (dR) rfl ?_
   repeat refine vs ?_
   conv => whnf
   first | rfl | exact ⟨rfl, rfl⟩ | exact ⟨by simp [toRes], rfl⟩
end
theorem goodS_okQ {a b : RawQ} (ha : okQ 4 a = true) (hb : okQ 4 b = true) : goodS a.n a.l a.p a.q b.n b.l b.p b.q = leQ a b := by
 unfold okQ at ha hb
 rw [Bool.and_eq_true] at ha hb
 unfold goodS leQ
 rw [ha.1, hb.1]
 rfl
/-- Valid bounds that are places. -/
noncomputable def boundsQ (a b : RawQ) : Bool := okQ 4 a && (okQ 4 b && leQ a b)
theorem areBounds_den (a b : RawQ) (ha1 : a.l.length ≤ 1000000000000) (ha2 : a.q.length ≤ 1000000000000) (hb1 : b.l.length ≤ 1000000000000) (hb2 : b.q.length ≤ 1000000000000) :
  D 72 [spanR a.n a.l a.p a.q b.n b.l b.p b.q] true (.one (bP (boundsQ a b))) := by
 have gI := goodSpanI_den a.n a.l a.p a.q b.n b.l b.p b.q ha1 ha2 hb1 hb2
 have pa := isPlace_den a ha1 ha2
 have pb := isPlace_den b hb1 hb2
 unfold boundsQ
 refine go Tryz.func72 rfl rfl ?_
 cases h1 : okQ 4 a with
 | false =>
  rw [h1] at pa
  cases hg : goodS a.n a.l a.p a.q b.n b.l b.p b.q with
  | false =>
   rw [hg] at gI
   repeat refine vs ?_
   conv => whnf
   refine CallS.mk _ rfl true true _ (gI) rfl ?_
   repeat refine vs ?_
   conv => whnf
   first | rfl | exact ⟨rfl, rfl⟩ | exact ⟨by simp [toRes], rfl⟩
  | true =>
   rw [hg] at gI
   repeat refine vs ?_
   conv => whnf
   refine CallS.mk _ rfl true true _ (gI) rfl ?_
   repeat refine vs ?_
   conv => whnf
   refine CallS.mk _ rfl true true _ (pa) rfl ?_
   repeat refine vs ?_
   conv => whnf
   first | rfl | exact ⟨rfl, rfl⟩ | exact ⟨by simp [toRes], rfl⟩
 | true =>
  rw [h1] at pa
  cases h2 : okQ 4 b with
  | false =>
   rw [h2] at pb
   cases hg : goodS a.n a.l a.p a.q b.n b.l b.p b.q with
   | false =>
    rw [hg] at gI
    repeat refine vs ?_
    conv => whnf
    refine CallS.mk _ rfl true true _ (gI) rfl ?_
    repeat refine vs ?_
    conv => whnf
    first | rfl | exact ⟨rfl, rfl⟩ | exact ⟨by simp [toRes], rfl⟩
   | true =>
    rw [hg] at gI
    repeat refine vs ?_
    conv => whnf
    refine CallS.mk _ rfl true true _ (gI) rfl ?_
    repeat refine vs ?_
    conv => whnf
    refine CallS.mk _ rfl true true _ (pa) rfl ?_
    repeat refine vs ?_
    conv => whnf
    refine CallS.mk _ rfl true true _ (pb) rfl ?_
    repeat refine vs ?_
    conv => whnf
    first | rfl | exact ⟨rfl, rfl⟩ | exact ⟨by simp [toRes], rfl⟩
  | true =>
   rw [h2] at pb
   rw [goodS_okQ h1 h2] at gI
   cases hg : leQ a b with
   | false =>
    rw [hg] at gI
    repeat refine vs ?_
    conv => whnf
    refine CallS.mk _ rfl true true _ (gI) rfl ?_
    repeat refine vs ?_
    conv => whnf
    first | rfl | exact ⟨rfl, rfl⟩ | exact ⟨by simp [toRes], rfl⟩
   | true =>
    rw [hg] at gI
    repeat refine vs ?_
    conv => whnf
    refine CallS.mk _ rfl true true _ (gI) rfl ?_
    repeat refine vs ?_
    conv => whnf
    refine CallS.mk _ rfl true true _ (pa) rfl ?_
    repeat refine vs ?_
    conv => whnf
    refine CallS.mk _ rfl true true _ (pb) rfl ?_
    repeat refine vs ?_
    conv => whnf
    first | rfl | exact ⟨rfl, rfl⟩ | exact ⟨by simp [toRes], rfl⟩
theorem rootP_of {fs : List (Int × Int)} (h5 : fs.length ≤ 5) (h2 : 2 ≤ fs.length) (hl : ∀ f ∈ fs, lowT 1 f) (ht : ∀ f, fs.getLast? = some f → f.1 ≠ 0) : RootP fs := ⟨h5, h2, hl, ht⟩
theorem l6Span_den (rs : List RawQ) (a b : RawQ) (hrs : shortP 1000000000000 rs) (ha1 : a.l.length ≤ 1000000000000) (ha2 : a.q.length ≤ 1000000000000) (hb1 : b.l.length ≤ 1000000000000) (hb2 : b.q.length ≤ 1000000000000) :
  D 116 [polQ rs, spanR a.n a.l a.p a.q b.n b.l b.p b.q] true (.one (bP (betw rs a b))) := by
 have dB := l5Between_den rs a b hrs ha1 ha2 hb1 hb2
 refine go Tryz.func116 rfl rfl ?_
 repeat refine vs ?_
 conv => whnf
 refine CallS.mk _ rfl true true _ (dB) rfl ?_
 repeat refine vs ?_
 conv => whnf
 first | rfl | exact ⟨rfl, rfl⟩ | exact ⟨by simp [toRes], rfl⟩
end Go.Vx
end
