/- Sturm's chain: what the two programs do. -/
import Derived.Test.YthkgmogacmmfpaaGreatQGd
import Derived.Test.YthkgmogacmmfpaaGreatQ9
set_option linter.unusedVariables false
set_option linter.unusedSectionVars false
set_option linter.unusedSimpArgs false
namespace Go.Vx
open Go.Proofs
set_option maxRecDepth 100000

def negA (x : Int × Int) : Int × Int := (-(x.1.natAbs : Int), x.2)
/-- The negated remainder, divided by the absolute value of its last member. -/
def nextF (p q : List (Int × Int)) : List (Int × Int) := scaleF (negA ((trimF (divF p q).2).getD ((trimF (divF p q).2).length - 1) (0, 1))) (trimF (divF p q).2)
def chainL : Nat → List (Int × Int) → List (Int × Int) → List (List (Int × Int))
  | 0, _, _ => []
  | n + 1, p, q => if q = [] then [] else q :: chainL n q (nextF p q)
def chainF (p : List (Int × Int)) : List (List (Int × Int)) := freeF p :: chainL (freeF p).length (freeF p) (derivF (freeF p))
def rowL (q : List (Int × Int)) : List PL := [.arr 4 (q.map cellR)]
theorem nextF_len (p q : List (Int × Int)) : (nextF p q).length = (trimF (divF p q).2).length := scaleF_len
theorem chainL_nil {n : Nat} {p : List (Int × Int)} : chainL n p [] = [] := by cases n <;> rfl
theorem negA_ne {x : Int × Int} (h : x.1 ≠ 0) : (negA x).1 ≠ 0 := by unfold negA; dsimp only; omega
theorem nextF_low {p q : List (Int × Int)} (hp : lowL p) (hq : lowL q) (tq : topF q) (h : q ≠ []) : lowL (nextF p q) ∧ topF (nextF p q) ∧ (nextF p q).length < q.length := by
  have h1 := divF_rest hp hq h (tq h)
  have h2 := divF_low hp hq (tq h)
  have l4 := trimF_low h2.2
  have t4 := topF_trim (divF p q).2
  rw [nextF_len]
  unfold nextF
  generalize trimF (divF p q).2 = r at *
  by_cases hr : r = []
  · subst hr
    exact ⟨(fun f hf => by cases hf), (fun hf => absurd rfl hf), h1⟩
  · have hne := negA_ne (t4 hr)
    exact ⟨scaleF_low l4 hne, scaleF_top l4 t4 hne (getD_low l4 _).1, h1⟩
theorem nextF_ok {p q : List (Int × Int)} {R S : Nat} (tq : topF q) (op : okL R p) (oq : okL S q) (h : q ≠ []) : okL (2 * szD S (p.length + 1 - q.length) R) (nextF p q) := by
  have h3 := (divF_ok op oq h (tq h)).2
  have h4 : okL (szD S (p.length + 1 - q.length) R) (trimF (divF p q).2) := fun x hx => h3 x (trimF_sub hx)
  have t4 := topF_trim (divF p q).2
  unfold nextF
  generalize trimF (divF p q).2 = r at *
  by_cases hr : r = []
  · subst hr
    exact fun f hf => by cases hf
  · have hne := negA_ne (t4 hr)
    have hrp : 0 < r.length := List.length_pos_iff.2 hr
    have hok := getD_ok h4 (r.length - 1) (by omega)
    have hok2 : okF (szD S (p.length + 1 - q.length) R) (negA (r.getD (r.length - 1) (0, 1))) := ⟨hok.1, by show (Lm.lim (-((r.getD (r.length - 1) (0, 1)).1.natAbs : Int)).natAbs).length ≤ _; rw [Int.natAbs_neg, Int.natAbs_natCast]; exact hok.2.1, hok.2.2⟩
    rw [Nat.two_mul]
    exact scaleF_ok h4 hok2 hne
theorem divR_neg {a l : Int × Int} (ha : 0 < a.2) (hl : l.1 ≠ 0) (hl2 : 0 < l.2) : divR (-a.1, a.2) (absR l) = divR a (negA l) := by
  have e := nd_eq (x := -a.1 * l.2) (y := a.2 * (l.1.natAbs : Int)) (u := a.1 * l.2) (v := a.2 * (-(l.1.natAbs : Int))) (Int.mul_ne_zero (by omega) (by omega)) (Int.mul_ne_zero (by omega) (by omega)) (by grind)
  exact Prod.ext e.1 e.2

section
variable (p q : List (Int × Int)) (R S : Nat) (hpl : p.length ≤ 100) (hql : q.length ≤ 100) (hp : lowL p) (hq : lowL q) (tq : topF q) (op : okL R p) (oq : okL S q) (h : q ≠ []) (hS : szD S (p.length + 1 - q.length) R + S + 4 ≤ 1000000000)
include hpl hql hp hq tq op oq h hS
theorem l5Next_den : D 139 [(false, [.arr 4 (p.map cellR)]), (false, [.arr 4 (q.map cellR)])] false (.one (false, [.arr 4 ((nextF p q).map cellR)])) := by
  have dD := l4Div_den p q R S hpl hql op oq h (tq h) hS
  have h1 := divF_rest hp hq h (tq h)
  have h2 := divF_low hp hq (tq h)
  have h3 := (divF_ok op oq h (tq h)).2
  have h4 : okL (szD S (p.length + 1 - q.length) R) (trimF (divF p q).2) := fun x hx => h3 x (trimF_sub hx)
  have l4 := trimF_low h2.2
  have t4 := topF_trim (divF p q).2
  have hnl := nextF_len p q
  have hrl : ((trimF (divF p q).2).map cellR).length = (trimF (divF p q).2).length := by simp
  have hnx : nextF p q = scaleF (negA ((trimF (divF p q).2).getD ((trimF (divF p q).2).length - 1) (0, 1))) (trimF (divF p q).2) := rfl
  refine goP 4 Tryz.func139 rfl rfl ?_
  repeat refine vs ?_
  conv => whnf
  refine CallS.mk _ rfl false false _ (dD) rfl ?_
  repeat refine vs ?_
  conv => whnf
  generalize trimF (divF p q).2 = r at *
  generalize nextF p q = nx at *
  refine EVs.loopU (fun i : Nat => i ≤ r.length) (fun i => r.length - i) (fun i => [(7, .v false [.own (50, 0) 36 (.arr 4 ((nx.take i).map cellR))]), (18, .v false [.p (.int .i64 (i : Int))])]) 0 (by omega) ?_ ?_
  · refine Wk.le ?_
    repeat' (first | exact LeT.nil | refine LeT.drop1 ?_ | refine LeT.same1 ?_ | refine LeT.own1 ?_ | refine LeT.ownR ?_ | (refine LeT.deepR ?_ rfl))
  intro i hi
  refine go1 ?_
  repeat refine vs ?_
  conv => whnf
  by_cases hc : (i : Int) < (r.map cellR).length
  · have hlt : i < r.length := by omega
    have hrn : r ≠ [] := fun e => by rw [e] at hlt; simp at hlt
    have ha := h4 r[i] (List.getElem_mem hlt)
    have ga : (r.map cellR)[i]? = some (cellR r[i]) := by rw [List.getElem?_map, List.getElem?_eq_getElem hlt]; rfl
    have hb := getD_ok h4 (r.length - 1) (by omega)
    have gb := getD_cell (l := r) (i := r.length - 1) (by omega)
    have h0 := t4 hrn
    have htk := take_cellR (fs := nx) (i := i) (by omega)
    have he : nx[i]'(by omega) = divR r[i] (negA (r.getD (r.length - 1) (0, 1))) := by simp only [hnx, scaleF, List.getElem_map]
    rw [he, ← divR_neg ha.1 h0 hb.1] at htk
    generalize r[i] = a at *
    generalize r.getD (r.length - 1) (0, 1) = b at *
    have dN := l2Neg_den a.1 a.2 (Nat.le_trans ha.2.1 (by omega)) (Nat.le_trans ha.2.2 (by omega))
    have dA := l5Abs_den b (hb.mono (by omega))
    have han : okF (szD S (p.length + 1 - q.length) R) ((-a.1, a.2) : Int × Int) := ⟨ha.1, by show Lm.ln (-a.1) ≤ _; rw [Lm.ln_neg]; exact ha.2.1, ha.2.2⟩
    have dD2 := divR_S (a := (-a.1, a.2)) (b := absR b) (han.mono (by omega)) ((absR_ok hb).mono (by omega)) (by show ((b.1.natAbs : Nat) : Int) ≠ 0; omega)
    generalize divR (-a.1, a.2) (absR b) = m at *
    have hrow : (nx.take i).map cellR ++ [[.bool (decide (m.1 < 0)), .ints (Lm.lim m.1.natAbs), .bool (decide (m.2 < 0)), .ints (Lm.lim m.2.natAbs)]] = (nx.take (i + 1)).map cellR := htk.symm
    repeat refine vs ?_
    conv => whnf
    first | refine Idx.mk (i) (by first | rfl | omega) (by omega) ?_ | skip
    repeat refine vs ?_
    conv => whnf
    refine LdR.mk (cellR a) ga ?_
    repeat refine vs ?_
    conv => whnf
    refine CallS.mk _ rfl false false _ (dN) rfl ?_
    repeat refine vs ?_
    conv => whnf
    first | refine Idx.mk ((r.length - 1)) (by first | rfl | omega) (by omega) ?_ | skip
    repeat refine vs ?_
    conv => whnf
    refine LdR.mk (cellR b) gb ?_
    repeat refine vs ?_
    conv => whnf
    refine CallS.mk _ rfl false false _ (dA) rfl ?_
    repeat refine vs ?_
    conv => whnf
    refine CallS.mk _ rfl true false _ (dD2) rfl ?_
    repeat refine vs ?_
    conv => whnf
    refine NewK.mk false ?_
    repeat refine vs ?_
    conv => whnf
    refine ⟨by simp only [List.length_map, List.length_take, List.length_singleton]; omega, ?_⟩
    repeat refine vs ?_
    conv => whnf
    refine NewK.mk true ?_
    repeat refine vs ?_
    conv => whnf
    rw [hrow]
    refine ⟨i + 1, by omega, by omega, ?_⟩
    refine Wk.le ?_
    repeat' (first | exact LeT.nil | refine LeT.drop1 ?_ | refine LeT.same1 ?_ | refine LeT.own1 ?_ | refine LeT.ownR ?_ | (refine LeT.deepR ?_ rfl))
  · have ht : nx.take i = nx := List.take_of_length_le (by omega)
    rw [ht]
    repeat refine vs ?_
    conv => whnf
    first | rfl | exact ⟨rfl, rfl⟩ | exact ⟨by simp [toRes], rfl⟩
end
theorem chainL_fuel : ∀ {n m : Nat} {p q : List (Int × Int)}, lowL p → lowL q → topF q → q.length ≤ n → q.length ≤ m → chainL n p q = chainL m p q
  | 0, m, p, q, _, _, _, hn, _ => by
    have : q = [] := List.length_eq_zero_iff.1 (by omega)
    subst this
    rw [chainL_nil, chainL_nil]
  | n + 1, 0, p, q, _, _, _, _, hm => by
    have : q = [] := List.length_eq_zero_iff.1 (by omega)
    subst this
    rw [chainL_nil, chainL_nil]
  | n + 1, m + 1, p, q, hp, hq, tq, hn, hm => by
    unfold chainL
    split
    · rfl
    · rename_i h
      obtain ⟨f1, f2, f4⟩ := nextF_low hp hq tq h
      rw [chainL_fuel (m := m) hq f1 f2 (by omega) (by omega)]
def chL (p q : List (Int × Int)) : List (List (Int × Int)) := chainL q.length p q
theorem chL_nil {p : List (Int × Int)} : chL p [] = [] := rfl
theorem chL_cons {p q : List (Int × Int)} (hp : lowL p) (hq : lowL q) (tq : topF q) (h : q ≠ []) : chL p q = q :: chL q (nextF p q) := by
  obtain ⟨f1, f2, f4⟩ := nextF_low hp hq tq h
  unfold chL
  obtain ⟨n, hn⟩ : ∃ n, q.length = n + 1 := ⟨q.length - 1, by have := List.length_pos_iff.2 h; omega⟩
  conv => lhs; rw [hn]; unfold chainL
  rw [if_neg h, chainL_fuel (m := (nextF p q).length) hq f1 f2 (by omega) (Nat.le_refl _)]
theorem chainF_eq {p : List (Int × Int)} (hp : lowL (freeF p)) (tp : topF (freeF p)) : chainF p = freeF p :: chL (freeF p) (derivF (freeF p)) := by
  unfold chainF chL
  rw [chainL_fuel (m := (derivF (freeF p)).length) hp (derivF_low hp) (derivF_top hp tp) (by rw [derivF_len]; omega) (Nat.le_refl _)]
theorem chL_ok {B : Nat} : ∀ {f : Nat} {p q : List (Int × Int)} {R S : Nat}, lowL p → lowL q → topF q → okL R p → okL S q → q.length ≤ f → eucB f p.length q.length R S ≤ B → S ≤ B → ∀ c ∈ chL p q, okL B c ∧ c.length ≤ q.length ∧ lowL c ∧ topF c
  | 0, p, q, R, S, hp, hq, tq, op, oq, hf, _, _ => fun c hc => by
    have : q = [] := List.length_eq_zero_iff.1 (by omega)
    subst this
    cases hc
  | f + 1, p, q, R, S, hp, hq, tq, op, oq, hf, hB, hS => fun c hc => by
    by_cases h : q = []
    · subst h; cases hc
    · obtain ⟨f1, f2, f4⟩ := nextF_low hp hq tq h
      have f3 := nextF_ok tq op oq h
      obtain ⟨e1, e2⟩ := eucB_step (f := f) (m := p.length) (n := q.length) (j := (nextF p q).length) (R := R) (S := S) f4
      have e3 := eucB_R (f := f) (m := q.length) (n := (nextF p q).length) (R := S) (S := 2 * szD S (p.length + 1 - q.length) R)
      rw [chL_cons hp hq tq h] at hc
      rcases List.mem_cons.1 hc with rfl | hc
      · exact ⟨oq.mono hS, Nat.le_refl _, hq, tq⟩
      · by_cases hn : nextF p q = []
        · rw [hn] at hc; cases hc
        · have hn0 : 0 < (nextF p q).length := List.length_pos_iff.2 hn
          have hS2 : 2 * szD S (p.length + 1 - q.length) R ≤ B := by
            cases f with
            | zero => omega
            | succ f =>
              have := (eucB_step (f := f) (m := q.length) (n := (nextF p q).length) (j := 0) (R := S) (S := 2 * szD S (p.length + 1 - q.length) R) hn0).1
              omega
          have := chL_ok (f := f) hq f1 f2 oq f3 (by omega) (by omega) hS2 c hc
          exact ⟨this.1, by omega, this.2.2⟩

/-- A root polynomial. -/
structure RootP (p : List (Int × Int)) : Prop where
  le5 : p.length ≤ 5
  ge2 : 2 ≤ p.length
  low : ∀ f ∈ p, lowT 1 f
  top : ∀ f, p.getLast? = some f → f.1 ≠ 0
theorem freeB_1 : ∀ m, m < 6 → ∀ e, e < 8 → freeB m 1 e ≤ 100000 ∧ eucB 8 m (m - 1) 1 2 ≤ 1000000000 := by decide +kernel
theorem chB_1 : ∀ m, m < 6 → ∀ e, e < 8 → ∀ n, n < m + 2 - e → eucB 8 n (n - 1) (2 * freeB m 1 e) (2 * freeB m 1 e + 1) ≤ 900000000 := by decide +kernel
section
variable {p : List (Int × Int)} (hr : RootP p)
include hr
theorem RootP.ne : p ≠ [] := fun e => by have := hr.ge2; rw [e] at this; simp at this
theorem RootP.lowL : lowL p := lowL_T hr.low
theorem RootP.topF : topF p := topF_good hr.top
theorem RootP.okL : okL 1 p := okL_T hr.low
theorem RootP.free : ∃ F, Vx.okL F (freeF p) ∧ Vx.lowL (freeF p) ∧ Vx.topF (freeF p) ∧ (freeF p).length ≤ 5 ∧ F ≤ 200000 ∧ eucB 8 (freeF p).length ((freeF p).length - 1) F (F + 1) ≤ 900000000 := by
  have h5 := hr.le5
  obtain ⟨g1, g2, g3, g4, g5⟩ := comD (by omega) hr.ne hr.lowL hr.topF hr.okL
  obtain ⟨f1, f2, f3, f4⟩ := freeF_sz (by omega) hr.ne hr.lowL hr.topF hr.okL
  have hg : 0 < (comF p (derivF p)).length := List.length_pos_iff.2 g3
  have b1 := (freeB_1 p.length (by omega) (comF p (derivF p)).length (by omega)).1
  have g6 := comF_len (m := p.length) hr.lowL (derivF_low hr.lowL) (derivF_top hr.lowL hr.topF) (Nat.le_refl _) (by rw [derivF_len]; omega)
  have b2 := chB_1 p.length (by omega) (comF p (derivF p)).length (by omega) (freeF p).length (by omega)
  exact ⟨_, f1, f2, f3, by omega, by omega, b2⟩
theorem RootP.free_I : D 140 [(false, [.arr 4 (p.map cellR)])] false (.one (false, [.arr 4 ((freeF p).map cellR)])) := by
  have h5 := hr.le5
  obtain ⟨g1, g2, g3, g4, g5⟩ := comD (by omega) hr.ne hr.lowL hr.topF hr.okL
  have b1 := freeB_1 p.length (by omega) (comF p (derivF p)).length (by omega)
  exact squareFree_den p 1 (by omega) hr.ne hr.lowL hr.topF hr.okL b1.2 (by omega) (by omega)
theorem RootP.free_S : D 137 [(false, [.arr 4 (p.map cellR)])] false (.one (false, [.arr 4 ((freeF p).map cellR)])) := by
  have h5 := hr.le5
  obtain ⟨g1, g2, g3, g4, g5⟩ := comD (by omega) hr.ne hr.lowL hr.topF hr.okL
  have b1 := freeB_1 p.length (by omega) (comF p (derivF p)).length (by omega)
  exact l4Free_den p 1 (by omega) hr.ne hr.lowL hr.topF hr.okL b1.2 (by omega) (by omega)
/-- The chain's members. -/
theorem RootP.chain_ok : ∀ c ∈ chainF p, Vx.okL 900000000 c ∧ c.length ≤ 5 ∧ Vx.lowL c ∧ Vx.topF c := by
  obtain ⟨F, f1, f2, f3, f4, f5, f6⟩ := hr.free
  intro c hc
  rw [chainF_eq f2 f3] at hc
  rcases List.mem_cons.1 hc with rfl | hc
  · exact ⟨f1.mono (by omega), f4, f2, f3⟩
  · have hl := derivF_len (freeF p)
    have := chL_ok (B := 900000000) (f := 8) f2 (derivF_low f2) (derivF_top f2 f3) f1 (derivF_sm f1 (by omega)) (by omega) (by rw [hl]; exact f6) (by omega) c hc
    exact ⟨this.1, by omega, this.2.2⟩
end

/-- The signs' changes of some polynomials at a fraction. -/
def chgAt (L : List (List (Int × Int))) (x : Int × Int) : Int := chgF 0 (L.map fun q => atF q x)
section
variable (L : List (List (Int × Int))) (x : Int × Int) (hL : L.length ≤ 100) (hq : ∀ c ∈ L, okL 900000000 c ∧ c.length ≤ 5) (hx : okF 900000000 x)
include hL hq hx
theorem vals_ok : okL 40000000000 (L.map fun q => atF q x) := by
  intro f hf
  obtain ⟨q, hq', rfl⟩ := List.mem_map.1 hf
  obtain ⟨h1, h2⟩ := hq q hq'
  refine (atF_ok h1 hx).mono ?_
  have := Nat.mul_le_mul_right (900000000 + 900000000 + 1) h2
  omega
theorem changesAt_den : D 117 [(false, [.arr 1 (L.map rowL)]), ratV x.1 x.2] true (.one (iP (chgAt L x))) := by
  have hrl : (L.map rowL).length = L.length := by simp
  have hvl : (L.map fun q => atF q x).length = L.length := by simp
  have dC := changes_den (L.map fun q => atF q x) (by omega) (vals_ok L x hL hq hx)
  refine go Tryz.func117 rfl rfl ?_
  repeat refine vs ?_
  conv => whnf
  refine NewK.mk true ?_
  repeat refine vs ?_
  conv => whnf
  refine EVs.loopU (fun i : Nat => i ≤ L.length) (fun i => L.length - i) (fun i => [(5, .v false [.own (50, 0) 36 (.arr 4 (((L.map fun q => atF q x).take i).map cellR))]), (8, .any), (11, .v false [.p (.int .i64 (i : Int))])]) 0 (by omega) ?_ ?_
  · refine Wk.trans (Wk.ren (8, 0) (50, 0)) ?_
    refine Wk.le ?_
    repeat' (first | exact LeT.nil | refine LeT.drop1 ?_ | refine LeT.same1 ?_ | refine LeT.own1 ?_ | refine LeT.ownR ?_ | (refine LeT.deepR ?_ rfl))
  intro i hi
  refine go1 ?_
  repeat refine vs ?_
  conv => whnf
  by_cases h1 : (i : Int) < (L.map rowL).length
  · have hlt : i < L.length := by omega
    obtain ⟨hc1, hc2⟩ := hq L[i] (List.getElem_mem hlt)
    have hget : (L.map rowL)[i]? = some (rowL L[i]) := by rw [List.getElem?_map, List.getElem?_eq_getElem hlt]; rfl
    have htk := take_cellR (fs := L.map fun q => atF q x) (i := i) (by omega)
    have he : (L.map fun q => atF q x)[i]'(by omega) = atF L[i] x := by simp
    rw [he] at htk
    generalize L[i] = c at *
    have dA := at_den c x (by omega) (hc1.mono (by omega)) (hx.mono (by omega))
    generalize atF c x = m at *
    have hrow : ((L.map fun q => atF q x).take i).map cellR ++ [[.bool (decide (m.1 < 0)), .ints (Lm.lim m.1.natAbs), .bool (decide (m.2 < 0)), .ints (Lm.lim m.2.natAbs)]] = ((L.map fun q => atF q x).take (i + 1)).map cellR := htk.symm
    repeat refine vs ?_
    conv => whnf
    first | refine Idx.mk (i) (by first | rfl | omega) (by omega) ?_ | skip
    repeat refine vs ?_
    conv => whnf
    refine LdR.mk (rowL c) hget ?_
    repeat refine vs ?_
    conv => whnf
    refine CallS.mk _ rfl false false _ (dA) rfl ?_
    repeat refine vs ?_
    conv => whnf
    refine NewK.mk false ?_
    repeat refine vs ?_
    conv => whnf
    refine ⟨by simp only [PL.len, List.length_map, List.length_take, List.length_singleton]; omega, ?_⟩
    repeat refine vs ?_
    conv => whnf
    refine NewK.mk true ?_
    repeat refine vs ?_
    conv => whnf
    rw [hrow]
    refine ⟨i + 1, by omega, by omega, ?_⟩
    refine Wk.le ?_
    repeat' (first | exact LeT.nil | refine LeT.drop1 ?_ | refine LeT.same1 ?_ | refine LeT.own1 ?_ | refine LeT.ownR ?_ | (refine LeT.deepR ?_ rfl))
  · have ht : (L.map fun q => atF q x).take i = L.map fun q => atF q x := List.take_of_length_le (by omega)
    rw [ht]
    unfold chgAt
    repeat refine vs ?_
    conv => whnf
    refine CallS.mk _ rfl true true _ (dC) rfl ?_
    repeat refine vs ?_
    conv => whnf
    first | rfl | exact ⟨rfl, rfl⟩ | exact ⟨by simp [toRes], rfl⟩
theorem l5Changes_den : D 113 [(false, [.arr 1 (L.map rowL)]), ratV x.1 x.2] true (.one (iP (chgAt L x))) := by
  have hrl : (L.map rowL).length = L.length := by simp
  have hvl : (L.map fun q => atF q x).length = L.length := by simp
  have dC := l4Signs_den (L.map fun q => atF q x) (by omega) (vals_ok L x hL hq hx)
  refine go Tryz.func113 rfl rfl ?_
  repeat refine vs ?_
  conv => whnf
  refine EVs.loopU (fun i : Nat => i ≤ L.length) (fun i => L.length - i) (fun i => [(5, .v false [.own (50, 0) 36 (.arr 4 (((L.map fun q => atF q x).take i).map cellR))]), (10, .v false [.p (.int .i64 (i : Int))])]) 0 (by omega) ?_ ?_
  · refine Wk.le ?_
    repeat' (first | exact LeT.nil | refine LeT.drop1 ?_ | refine LeT.same1 ?_ | refine LeT.own1 ?_ | refine LeT.ownR ?_ | (refine LeT.deepR ?_ rfl))
  intro i hi
  refine go1 ?_
  repeat refine vs ?_
  conv => whnf
  by_cases h1 : (i : Int) < (L.map rowL).length
  · have hlt : i < L.length := by omega
    obtain ⟨hc1, hc2⟩ := hq L[i] (List.getElem_mem hlt)
    have hget : (L.map rowL)[i]? = some (rowL L[i]) := by rw [List.getElem?_map, List.getElem?_eq_getElem hlt]; rfl
    have htk := take_cellR (fs := L.map fun q => atF q x) (i := i) (by omega)
    have he : (L.map fun q => atF q x)[i]'(by omega) = atF L[i] x := by simp
    rw [he] at htk
    generalize L[i] = c at *
    have dA := l4Eval_den c x (by omega) (hc1.mono (by omega)) (hx.mono (by omega))
    generalize atF c x = m at *
    have hrow : ((L.map fun q => atF q x).take i).map cellR ++ [[.bool (decide (m.1 < 0)), .ints (Lm.lim m.1.natAbs), .bool (decide (m.2 < 0)), .ints (Lm.lim m.2.natAbs)]] = ((L.map fun q => atF q x).take (i + 1)).map cellR := htk.symm
    repeat refine vs ?_
    conv => whnf
    first | refine Idx.mk (i) (by first | rfl | omega) (by omega) ?_ | skip
    repeat refine vs ?_
    conv => whnf
    refine LdR.mk (rowL c) hget ?_
    repeat refine vs ?_
    conv => whnf
    refine CallS.mk _ rfl false false _ (dA) rfl ?_
    repeat refine vs ?_
    conv => whnf
    refine NewK.mk false ?_
    repeat refine vs ?_
    conv => whnf
    refine ⟨by simp only [PL.len, List.length_map, List.length_take, List.length_singleton]; omega, ?_⟩
    repeat refine vs ?_
    conv => whnf
    refine NewK.mk true ?_
    repeat refine vs ?_
    conv => whnf
    rw [hrow]
    refine ⟨i + 1, by omega, by omega, ?_⟩
    refine Wk.le ?_
    repeat' (first | exact LeT.nil | refine LeT.drop1 ?_ | refine LeT.same1 ?_ | refine LeT.own1 ?_ | refine LeT.ownR ?_ | (refine LeT.deepR ?_ rfl))
  · have ht : (L.map fun q => atF q x).take i = L.map fun q => atF q x := List.take_of_length_le (by omega)
    rw [ht]
    unfold chgAt
    repeat refine vs ?_
    conv => whnf
    refine CallS.mk _ rfl true true _ (dC) rfl ?_
    repeat refine vs ?_
    conv => whnf
    first | rfl | exact ⟨rfl, rfl⟩ | exact ⟨by simp [toRes], rfl⟩
end
end Go.Vx
