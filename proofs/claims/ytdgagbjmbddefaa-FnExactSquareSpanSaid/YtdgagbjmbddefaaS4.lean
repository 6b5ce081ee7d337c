/- Chapter 3: the least and the greatest of several fractions; products, squares, joins. -/
import Derived.Test.YtdgagbjmbddefaaS3
set_option linter.unusedVariables false
set_option linter.unusedSectionVars false
set_option linter.unusedSimpArgs false
namespace Go.Vx
open Go.Proofs
set_option maxRecDepth 100000

def lowF : Int × Int → List (Int × Int) → Int × Int
  | m, [] => m
  | m, a :: l => lowF (if a.1 * m.2 < m.1 * a.2 then a else m) l
def highF : Int × Int → List (Int × Int) → Int × Int
  | m, [] => m
  | m, a :: l => highF (if m.1 * a.2 < a.1 * m.2 then a else m) l
theorem lowF_cons (m a : Int × Int) (l : List (Int × Int)) : lowF m (a :: l) = lowF (if a.1 * m.2 < m.1 * a.2 then a else m) l := rfl
theorem lowF_nil (m : Int × Int) : lowF m [] = m := rfl
theorem highF_cons (m a : Int × Int) (l : List (Int × Int)) : highF m (a :: l) = highF (if m.1 * a.2 < a.1 * m.2 then a else m) l := rfl
theorem highF_nil (m : Int × Int) : highF m [] = m := rfl
def cellR (q : Int × Int) : List PL := [.bool (decide (q.1 < 0)), .ints (Lm.lim q.1.natAbs), .bool (decide (q.2 < 0)), .ints (Lm.lim q.2.natAbs)]
def okF (K : Nat) (q : Int × Int) : Prop := 0 < q.2 ∧ Lm.ln q.1 ≤ K ∧ Lm.ln q.2 ≤ K
theorem lowF_ok {K : Nat} : ∀ {l : List (Int × Int)} {m : Int × Int}, okF K m → (∀ q ∈ l, okF K q) → okF K (lowF m l)
  | [], _, h, _ => h
  | a :: l, m, h, k => by
    unfold lowF
    refine lowF_ok ?_ (fun q hq => k q (List.mem_cons_of_mem _ hq))
    split
    · exact k a List.mem_cons_self
    · exact h
theorem highF_ok {K : Nat} : ∀ {l : List (Int × Int)} {m : Int × Int}, okF K m → (∀ q ∈ l, okF K q) → okF K (highF m l)
  | [], _, h, _ => h
  | a :: l, m, h, k => by
    unfold highF
    refine highF_ok ?_ (fun q hq => k q (List.mem_cons_of_mem _ hq))
    split
    · exact k a List.mem_cons_self
    · exact h
theorem lowF_self (a : Int × Int) (l : List (Int × Int)) : lowF a (a :: l) = lowF a l := by
  show lowF (if a.1 * a.2 < a.1 * a.2 then a else a) l = _
  rw [ite_self]
theorem highF_self (a : Int × Int) (l : List (Int × Int)) : highF a (a :: l) = highF a l := by
  show highF (if a.1 * a.2 < a.1 * a.2 then a else a) l = _
  rw [ite_self]
theorem mul_okF {a b c d : Int} (ha : Lm.ln a ≤ 40) (hb : Lm.ln b ≤ 40) (hc : Lm.ln c ≤ 40) (hd : Lm.ln d ≤ 40) (pb : 0 < b) (pd : 0 < d) : okF 40000000000 (nN (a * c) (b * d), dN (a * c) (b * d)) := by
  have k1 := ln_mul' ha hc
  have k2 := ln_mul' hb hd
  have m1 := ln_nN (a * c) (b * d)
  have m2 := ln_dN (a * c) (b * d)
  exact ⟨dN_pos (Int.mul_ne_zero (show b ≠ 0 by omega) (show d ≠ 0 by omega)), by dsimp only; omega, by dsimp only; omega⟩
theorem cmp_lt (a b c d : Int) : (cmpI (a * d) (c * b) < 0) ↔ a * d < c * b := by unfold cmpI; split <;> (try split) <;> omega
theorem cmp_gt (a b c d : Int) : (cmpI (a * d) (c * b) > 0) ↔ c * b < a * d := by unfold cmpI; split <;> (try split) <;> omega

section
variable (f0 : Int × Int) (rest : List (Int × Int)) (hl : (f0 :: rest).length ≤ 1000000000000) (hq : ∀ q ∈ f0 :: rest, okF 40000000000 q)
include hl hq
theorem minFunc_den : D 114 [(false, [.arr 4 ((f0 :: rest).map cellR)]), fP 97] false (.one (ratV (lowF f0 rest).1 (lowF f0 rest).2)) := by
  refine go Try.func114 rfl rfl ?_
  generalize hfs : f0 :: rest = fs at *
  have hrl : (fs.map cellR).length = fs.length := by simp
  have hpos : 0 < fs.length := by rw [← hfs]; simp
  repeat refine vs ?_
  conv => whnf
  refine LdR.mk (cellR f0) (by rw [← hfs]; rfl) ?_
  repeat refine vs ?_
  conv => whnf
  refine EVs.loopU (fun s : Nat × (Int × Int) => 1 ≤ s.1 ∧ s.1 ≤ fs.length ∧ okF 40000000000 s.2 ∧ lowF s.2 (fs.drop s.1) = lowF f0 rest) (fun s => fs.length - s.1)
    (fun | (i, m) => [(5, .box (5, 0) ((cellR m).map .p) 0), (6, .v false [.p (.int .i64 (i : Int))])]) (1, f0) ⟨by omega, by dsimp only; omega, hq f0 (by rw [← hfs]; simp), by rw [← hfs]; rfl⟩ (Wk.refl _) ?_
  rintro ⟨i, m⟩ ⟨h1, hi, hm, hinv⟩
  dsimp only at h1 hi hm hinv
  refine go1 ?_
  repeat refine vs ?_
  conv => whnf
  by_cases hc : (i : Int) < (fs.map cellR).length
  · have hlt : i < fs.length := by omega
    have ha := hq fs[i] (List.getElem_mem hlt)
    rw [List.drop_eq_getElem_cons hlt] at hinv
    rw [lowF_cons] at hinv
    generalize hai : fs[i] = a at *
    have dC := compareRat_den a.1 a.2 m.1 m.2 (by have := ha.1; omega) (by have := hm.1; omega) ha.2.1 ha.2.2 hm.2.1 hm.2.2
    have hcl := cmp_lt a.1 a.2 m.1 m.2
    repeat refine vs ?_
    conv => whnf
    refine LdR.mk (cellR a) (by simp [hlt, hai]) ?_
    repeat refine vs ?_
    conv => whnf
    refine CallS.mk _ rfl true true _ (dC) rfl ?_
    repeat refine vs ?_
    conv => whnf
    by_cases hlo : a.1 * m.2 < m.1 * a.2
    · have := hcl.2 hlo
      rw [if_pos hlo] at hinv
      repeat refine vs ?_
      conv => whnf
      refine LdR.mk (cellR a) (by simp [hlt, hai]) ?_
      repeat refine vs ?_
      conv => whnf
      refine ⟨(i + 1, a), by dsimp only; omega, ⟨by dsimp only; omega, by dsimp only; omega, ha, hinv⟩, ?_⟩
      refine Wk.le ?_
      repeat' (first | exact LeT.nil | refine LeT.drop1 ?_ | refine LeT.same1 ?_ | refine LeT.own1 ?_ | refine LeT.ownR ?_)
    · have := fun x => hlo (hcl.1 x)
      rw [if_neg hlo] at hinv
      repeat refine vs ?_
      conv => whnf
      refine ⟨(i + 1, m), by dsimp only; omega, ⟨by dsimp only; omega, by dsimp only; omega, hm, hinv⟩, ?_⟩
      refine Wk.le ?_
      repeat' (first | exact LeT.nil | refine LeT.drop1 ?_ | refine LeT.same1 ?_ | refine LeT.own1 ?_ | refine LeT.ownR ?_)
  · repeat refine vs ?_
    conv => whnf
    rw [List.drop_eq_nil_of_le (by omega)] at hinv
    rw [lowF_nil] at hinv
    rw [← hinv]
    first | rfl | exact ⟨rfl, rfl⟩ | exact ⟨by simp [toRes], rfl⟩
theorem maxFunc_den : D 115 [(false, [.arr 4 ((f0 :: rest).map cellR)]), fP 97] false (.one (ratV (highF f0 rest).1 (highF f0 rest).2)) := by
  refine go Try.func115 rfl rfl ?_
  generalize hfs : f0 :: rest = fs at *
  have hrl : (fs.map cellR).length = fs.length := by simp
  have hpos : 0 < fs.length := by rw [← hfs]; simp
  repeat refine vs ?_
  conv => whnf
  refine LdR.mk (cellR f0) (by rw [← hfs]; rfl) ?_
  repeat refine vs ?_
  conv => whnf
  refine EVs.loopU (fun s : Nat × (Int × Int) => 1 ≤ s.1 ∧ s.1 ≤ fs.length ∧ okF 40000000000 s.2 ∧ highF s.2 (fs.drop s.1) = highF f0 rest) (fun s => fs.length - s.1)
    (fun | (i, m) => [(5, .box (5, 0) ((cellR m).map .p) 0), (6, .v false [.p (.int .i64 (i : Int))])]) (1, f0) ⟨by omega, by dsimp only; omega, hq f0 (by rw [← hfs]; simp), by rw [← hfs]; rfl⟩ (Wk.refl _) ?_
  rintro ⟨i, m⟩ ⟨h1, hi, hm, hinv⟩
  dsimp only at h1 hi hm hinv
  refine go1 ?_
  repeat refine vs ?_
  conv => whnf
  by_cases hc : (i : Int) < (fs.map cellR).length
  · have hlt : i < fs.length := by omega
    have ha := hq fs[i] (List.getElem_mem hlt)
    rw [List.drop_eq_getElem_cons hlt] at hinv
    rw [highF_cons] at hinv
    generalize hai : fs[i] = a at *
    have dC := compareRat_den a.1 a.2 m.1 m.2 (by have := ha.1; omega) (by have := hm.1; omega) ha.2.1 ha.2.2 hm.2.1 hm.2.2
    have hcl := cmp_gt a.1 a.2 m.1 m.2
    repeat refine vs ?_
    conv => whnf
    refine LdR.mk (cellR a) (by simp [hlt, hai]) ?_
    repeat refine vs ?_
    conv => whnf
    refine CallS.mk _ rfl true true _ (dC) rfl ?_
    repeat refine vs ?_
    conv => whnf
    by_cases hlo : m.1 * a.2 < a.1 * m.2
    · have := hcl.2 hlo
      rw [if_pos hlo] at hinv
      repeat refine vs ?_
      conv => whnf
      refine LdR.mk (cellR a) (by simp [hlt, hai]) ?_
      repeat refine vs ?_
      conv => whnf
      refine ⟨(i + 1, a), by dsimp only; omega, ⟨by dsimp only; omega, by dsimp only; omega, ha, hinv⟩, ?_⟩
      refine Wk.le ?_
      repeat' (first | exact LeT.nil | refine LeT.drop1 ?_ | refine LeT.same1 ?_ | refine LeT.own1 ?_ | refine LeT.ownR ?_)
    · have := fun x => hlo (hcl.1 x)
      rw [if_neg hlo] at hinv
      repeat refine vs ?_
      conv => whnf
      refine ⟨(i + 1, m), by dsimp only; omega, ⟨by dsimp only; omega, by dsimp only; omega, hm, hinv⟩, ?_⟩
      refine Wk.le ?_
      repeat' (first | exact LeT.nil | refine LeT.drop1 ?_ | refine LeT.same1 ?_ | refine LeT.own1 ?_ | refine LeT.ownR ?_)
  · repeat refine vs ?_
    conv => whnf
    rw [List.drop_eq_nil_of_le (by omega)] at hinv
    rw [highF_nil] at hinv
    rw [← hinv]
    first | rfl | exact ⟨rfl, rfl⟩ | exact ⟨by simp [toRes], rfl⟩
theorem l3Of_den : D 64 [(false, [.arr 4 ((f0 :: rest).map cellR)])] false (.one (spanV (lowF f0 rest).1 (lowF f0 rest).2 (highF f0 rest).1 (highF f0 rest).2)) := by
  refine go Try.func64 rfl rfl ?_
  rw [← lowF_self, ← highF_self]
  generalize hfs : f0 :: rest = fs at *
  have hrl : (fs.map cellR).length = fs.length := by simp
  have hpos : 0 < fs.length := by rw [← hfs]; simp
  repeat refine vs ?_
  conv => whnf
  refine LdR.mk (cellR f0) (by rw [← hfs]; rfl) ?_
  repeat refine vs ?_
  conv => whnf
  refine LdR.mk (cellR f0) (by rw [← hfs]; rfl) ?_
  repeat refine vs ?_
  conv => whnf
  refine EVs.loopU (fun s : Nat × (Int × Int) × (Int × Int) => s.1 ≤ fs.length ∧ okF 40000000000 s.2.1 ∧ okF 40000000000 s.2.2 ∧ lowF s.2.1 (fs.drop s.1) = lowF f0 fs ∧ highF s.2.2 (fs.drop s.1) = highF f0 fs) (fun s => fs.length - s.1)
    (fun | (i, m, n) => [(3, .box (3, 0) ((cellR m).map .p ++ (cellR n).map .p) 0), (15, .v false [.p (.int .i64 (i : Int))])]) (0, f0, f0) ⟨by dsimp only; omega, hq f0 (by rw [← hfs]; simp), hq f0 (by rw [← hfs]; simp), rfl, rfl⟩ (Wk.refl _) ?_
  rintro ⟨i, m, n⟩ ⟨hi, hm, hn, hinv, hinv2⟩
  dsimp only at hi hm hn hinv hinv2
  refine go1 ?_
  repeat refine vs ?_
  conv => whnf
  by_cases hc : (i : Int) < (fs.map cellR).length
  · have hlt : i < fs.length := by omega
    have ha := hq fs[i] (List.getElem_mem hlt)
    rw [List.drop_eq_getElem_cons hlt] at hinv hinv2
    rw [lowF_cons] at hinv
    rw [highF_cons] at hinv2
    generalize hai : fs[i] = a at *
    have dC := l2Cmp_den a.1 a.2 m.1 m.2 (by have := ha.1; omega) (by have := hm.1; omega) ha.2.1 ha.2.2 hm.2.1 hm.2.2
    have dC2 := l2Cmp_den a.1 a.2 n.1 n.2 (by have := ha.1; omega) (by have := hn.1; omega) ha.2.1 ha.2.2 hn.2.1 hn.2.2
    have hcl := cmp_lt a.1 a.2 m.1 m.2
    have hcg := cmp_gt a.1 a.2 n.1 n.2
    repeat refine vs ?_
    conv => whnf
    refine LdR.mk (cellR a) (by simp [hlt, hai]) ?_
    repeat refine vs ?_
    conv => whnf
    refine CallS.mk _ rfl true true _ (dC) rfl ?_
    repeat refine vs ?_
    conv => whnf
    by_cases hlo : a.1 * m.2 < m.1 * a.2
    · have := hcl.2 hlo
      rw [if_pos hlo] at hinv
      repeat refine vs ?_
      conv => whnf
      refine CallS.mk _ rfl true true _ (dC2) rfl ?_
      repeat refine vs ?_
      conv => whnf
      by_cases hhi : n.1 * a.2 < a.1 * n.2
      · have := hcg.2 hhi
        rw [if_pos hhi] at hinv2
        repeat refine vs ?_
        conv => whnf
        refine ⟨(i + 1, a, a), by dsimp only; omega, ⟨by dsimp only; omega, ha, ha, hinv, hinv2⟩, ?_⟩
        refine Wk.le ?_
        repeat' (first | exact LeT.nil | refine LeT.drop1 ?_ | refine LeT.same1 ?_ | refine LeT.own1 ?_ | refine LeT.ownR ?_)
      · have := fun x => hhi (hcg.1 x)
        rw [if_neg hhi] at hinv2
        repeat refine vs ?_
        conv => whnf
        refine ⟨(i + 1, a, n), by dsimp only; omega, ⟨by dsimp only; omega, ha, hn, hinv, hinv2⟩, ?_⟩
        refine Wk.le ?_
        repeat' (first | exact LeT.nil | refine LeT.drop1 ?_ | refine LeT.same1 ?_ | refine LeT.own1 ?_ | refine LeT.ownR ?_)
    · have := fun x => hlo (hcl.1 x)
      rw [if_neg hlo] at hinv
      repeat refine vs ?_
      conv => whnf
      refine CallS.mk _ rfl true true _ (dC2) rfl ?_
      repeat refine vs ?_
      conv => whnf
      by_cases hhi : n.1 * a.2 < a.1 * n.2
      · have := hcg.2 hhi
        rw [if_pos hhi] at hinv2
        repeat refine vs ?_
        conv => whnf
        refine ⟨(i + 1, m, a), by dsimp only; omega, ⟨by dsimp only; omega, hm, ha, hinv, hinv2⟩, ?_⟩
        refine Wk.le ?_
        repeat' (first | exact LeT.nil | refine LeT.drop1 ?_ | refine LeT.same1 ?_ | refine LeT.own1 ?_ | refine LeT.ownR ?_)
      · have := fun x => hhi (hcg.1 x)
        rw [if_neg hhi] at hinv2
        repeat refine vs ?_
        conv => whnf
        refine ⟨(i + 1, m, n), by dsimp only; omega, ⟨by dsimp only; omega, hm, hn, hinv, hinv2⟩, ?_⟩
        refine Wk.le ?_
        repeat' (first | exact LeT.nil | refine LeT.drop1 ?_ | refine LeT.same1 ?_ | refine LeT.own1 ?_ | refine LeT.ownR ?_)
  · repeat refine vs ?_
    conv => whnf
    rw [List.drop_eq_nil_of_le (by omega)] at hinv hinv2
    rw [lowF_nil] at hinv
    rw [highF_nil] at hinv2
    rw [← hinv, ← hinv2]
    first | rfl | exact ⟨rfl, rfl⟩ | exact ⟨by simp [toRes], rfl⟩
theorem around_den : D 66 [(false, [.arr 4 ((f0 :: rest).map cellR)])] true (.tup [fitSV (lowF f0 rest).1 (lowF f0 rest).2 (highF f0 rest).1 (highF f0 rest).2, bP (fitS (lowF f0 rest).1 (lowF f0 rest).2 (highF f0 rest).1 (highF f0 rest).2)]) := by
  have dm := minFunc_den f0 rest hl hq
  have dM := maxFunc_den f0 rest hl hq
  have k1 : okF 40000000000 (lowF f0 rest) := lowF_ok (hq f0 List.mem_cons_self) (fun q h => hq q (List.mem_cons_of_mem _ h))
  have k2 : okF 40000000000 (highF f0 rest) := highF_ok (hq f0 List.mem_cons_self) (fun q h => hq q (List.mem_cons_of_mem _ h))
  generalize lowF f0 rest = m at *
  generalize highF f0 rest = n at *
  have dS := checkedSpan_den m.1 m.2 n.1 n.2 k1.1 k2.1 (by have := k1.2.1; omega) (by have := k1.2.2; omega) (by have := k2.2.1; omega) (by have := k2.2.2; omega)
  refine go Try.func66 rfl rfl ?_
  obtain ⟨na, la, pa, qa, nb, lb, pb, qb, _, _, _, _, e⟩ := fitSV_ex m.1 m.2 n.1 n.2
  rw [e] at dS ⊢
  repeat refine vs ?_
  conv => whnf
  refine CallS.mk _ rfl false false _ (dm) rfl ?_
  repeat refine vs ?_
  conv => whnf
  refine CallS.mk _ rfl false false _ (dM) rfl ?_
  repeat refine vs ?_
  conv => whnf
  refine CallS.mk _ rfl true true _ (dS) rfl ?_
  repeat refine vs ?_
  conv => whnf
  first | rfl | exact ⟨rfl, rfl⟩ | exact ⟨by simp [toRes], rfl⟩
end
/-- The last part of each: the least interval of some fractions, by both. -/
theorem around_both (f0 : Int × Int) (rest : List (Int × Int)) (hl : (f0 :: rest).length ≤ 1000000000000) (hq : ∀ q ∈ f0 :: rest, okF 40000000000 q) :
    ∃ m n : Int × Int, ∃ na la pa qa nb lb pb qb r, la.length ≤ 1000000 ∧ qa.length ≤ 1000000 ∧ lb.length ≤ 1000000 ∧ qb.length ≤ 1000000 ∧
      D 66 [(false, [.arr 4 ((f0 :: rest).map cellR)])] true (.tup [spanR na la pa qa nb lb pb qb, bP r]) ∧
      D 64 [(false, [.arr 4 ((f0 :: rest).map cellR)])] false (.one (spanV m.1 m.2 n.1 n.2)) ∧
      D 60 [spanV m.1 m.2 n.1 n.2] true (.tup [spanR na la pa qa nb lb pb qb, bP r]) := by
  have k1 : okF 40000000000 (lowF f0 rest) := lowF_ok (hq f0 List.mem_cons_self) (fun q h => hq q (List.mem_cons_of_mem _ h))
  have k2 : okF 40000000000 (highF f0 rest) := highF_ok (hq f0 List.mem_cons_self) (fun q h => hq q (List.mem_cons_of_mem _ h))
  have dA := around_den f0 rest hl hq
  have dO := l3Of_den f0 rest hl hq
  have dF := l3Fits_den (lowF f0 rest).1 (lowF f0 rest).2 (highF f0 rest).1 (highF f0 rest).2 k1.1 k2.1 (by have := k1.2.1; omega) (by have := k1.2.2; omega) (by have := k2.2.1; omega) (by have := k2.2.2; omega)
  obtain ⟨na, la, pa, qa, nb, lb, pb, qb, e1, e2, e3, e4, e⟩ := fitSV_ex (lowF f0 rest).1 (lowF f0 rest).2 (highF f0 rest).1 (highF f0 rest).2
  rw [e] at dA dF
  exact ⟨_, _, na, la, pa, qa, nb, lb, pb, qb, _, e1, e2, e3, e4, dA, dO, dF⟩

section
variable (na : Bool) (la : List Int) (pa : Bool) (qa : List Int) (nb : Bool) (lb : List Int) (pb : Bool) (qb : List Int)
variable (ma : Bool) (ka : List Int) (oa : Bool) (sa : List Int) (mb : Bool) (kb : List Int) (ob : Bool) (sb : List Int)
variable (h1 : la.length ≤ 1000000000000) (h2 : qa.length ≤ 1000000000000) (h3 : lb.length ≤ 1000000000000) (h4 : qb.length ≤ 1000000000000)
variable (h5 : ka.length ≤ 1000000000000) (h6 : sa.length ≤ 1000000000000) (h7 : kb.length ≤ 1000000000000) (h8 : sb.length ≤ 1000000000000)
include h1 h2 h3 h4 h5 h6 h7 h8
theorem joinSpanBoth : ∃ n l p q m k o s r, l.length ≤ 1000000 ∧ q.length ≤ 1000000 ∧ k.length ≤ 1000000 ∧ s.length ≤ 1000000 ∧
    D 30 [spanR na la pa qa nb lb pb qb, spanR ma ka oa sa mb kb ob sb] false (.tup [spanR n l p q m k o s, bP r]) ∧ D 31 [spanR na la pa qa nb lb pb qb, spanR ma ka oa sa mb kb ob sb] true (.tup [spanR n l p q m k o s, bP r]) := by
  have sS := l3Both_den na la pa qa nb lb pb qb ma ka oa sa mb kb ob sb h1 h2 h3 h4 h5 h6 h7 h8
  have sI := areSpans2_den na la pa qa nb lb pb qb ma ka oa sa mb kb ob sb h1 h2 h3 h4 h5 h6 h7 h8
  cases hgg : goodS na la pa qa nb lb pb qb && goodS ma ka oa sa mb kb ob sb with
  | false =>
    rw [hgg] at sS sI
    refine ⟨false, [], false, [], false, [], false, [], false, by simp, by simp, by simp, by simp, go Try.func30 rfl rfl ?_, go Try.func31 rfl rfl ?_⟩
    · repeat refine vs ?_
      conv => whnf
      refine CallS.mk _ rfl true true _ (sS) rfl ?_
      repeat refine vs ?_
      conv => whnf
      first | rfl | exact ⟨rfl, rfl⟩ | exact ⟨by simp [toRes], rfl⟩
    · repeat refine vs ?_
      conv => whnf
      refine NewK.mk false ?_
      repeat refine vs ?_
      conv => whnf
      refine CallS.mk _ rfl true true _ (sI) rfl ?_
      repeat refine vs ?_
      conv => whnf
      first | rfl | exact ⟨rfl, rfl⟩ | exact ⟨by simp [toRes], rfl⟩
  | true =>
    rw [hgg] at sS sI
    rw [Bool.and_eq_true] at hgg
    obtain ⟨hs1, hs2⟩ := hgg
    obtain ⟨a, b, c, d, rfl, rfl, rfl, rfl, rfl, rfl, rfl, rfl, ha, hbl, hc, hdl, hb, hd, _⟩ := goodS_ex hs1
    obtain ⟨e, f, g, h, rfl, rfl, rfl, rfl, rfl, rfl, rfl, rfl, he, hfl, hg, hhl, hf, hh, _⟩ := goodS_ex hs2
    obtain ⟨M, N, n, l, p, q, m, k, o, s, r, e1, e2, e3, e4, dA, dO, dF⟩ := around_both (a, b) [(c, d), (e, f), (g, h)] (by simp) (by
      intro z hz
      simp only [List.mem_cons, List.not_mem_nil, or_false] at hz
      rcases hz with rfl | rfl | rfl | rfl <;> exact ⟨by assumption, by dsimp only; omega, by dsimp only; omega⟩)
    refine ⟨n, l, p, q, m, k, o, s, r, e1, e2, e3, e4, go Try.func30 rfl rfl ?_, go Try.func31 rfl rfl ?_⟩
    · repeat refine vs ?_
      conv => whnf
      refine CallS.mk _ rfl true true _ (sS) rfl ?_
      repeat refine vs ?_
      conv => whnf
      refine NewK.mk false ?_
      repeat refine vs ?_
      conv => whnf
      refine CallS.mk _ rfl false false _ (dO) rfl ?_
      repeat refine vs ?_
      conv => whnf
      refine CallS.mk _ rfl true true _ (dF) rfl ?_
      repeat refine vs ?_
      conv => whnf
      first | rfl | exact ⟨rfl, rfl⟩ | exact ⟨by simp [toRes], rfl⟩
    · repeat refine vs ?_
      conv => whnf
      refine NewK.mk false ?_
      repeat refine vs ?_
      conv => whnf
      refine CallS.mk _ rfl true true _ (sI) rfl ?_
      repeat refine vs ?_
      conv => whnf
      refine NewK.mk false ?_
      repeat refine vs ?_
      conv => whnf
      refine CallS.mk _ rfl true true _ (dA) rfl ?_
      repeat refine vs ?_
      conv => whnf
      first | rfl | exact ⟨rfl, rfl⟩ | exact ⟨by simp [toRes], rfl⟩
theorem mulSpanBoth : ∃ n l p q m k o s r, l.length ≤ 1000000 ∧ q.length ≤ 1000000 ∧ k.length ≤ 1000000 ∧ s.length ≤ 1000000 ∧
    D 34 [spanR na la pa qa nb lb pb qb, spanR ma ka oa sa mb kb ob sb] false (.tup [spanR n l p q m k o s, bP r]) ∧ D 35 [spanR na la pa qa nb lb pb qb, spanR ma ka oa sa mb kb ob sb] true (.tup [spanR n l p q m k o s, bP r]) := by
  have sS := l3Both_den na la pa qa nb lb pb qb ma ka oa sa mb kb ob sb h1 h2 h3 h4 h5 h6 h7 h8
  have sI := areSpans2_den na la pa qa nb lb pb qb ma ka oa sa mb kb ob sb h1 h2 h3 h4 h5 h6 h7 h8
  cases hgg : goodS na la pa qa nb lb pb qb && goodS ma ka oa sa mb kb ob sb with
  | false =>
    rw [hgg] at sS sI
    refine ⟨false, [], false, [], false, [], false, [], false, by simp, by simp, by simp, by simp, go Try.func34 rfl rfl ?_, go Try.func35 rfl rfl ?_⟩
    · repeat refine vs ?_
      conv => whnf
      refine CallS.mk _ rfl true true _ (sS) rfl ?_
      repeat refine vs ?_
      conv => whnf
      first | rfl | exact ⟨rfl, rfl⟩ | exact ⟨by simp [toRes], rfl⟩
    · repeat refine vs ?_
      conv => whnf
      refine NewK.mk false ?_
      repeat refine vs ?_
      conv => whnf
      refine CallS.mk _ rfl true true _ (sI) rfl ?_
      repeat refine vs ?_
      conv => whnf
      first | rfl | exact ⟨rfl, rfl⟩ | exact ⟨by simp [toRes], rfl⟩
  | true =>
    rw [hgg] at sS sI
    rw [Bool.and_eq_true] at hgg
    obtain ⟨hs1, hs2⟩ := hgg
    obtain ⟨a, b, c, d, rfl, rfl, rfl, rfl, rfl, rfl, rfl, rfl, ha, hbl, hc, hdl, hb, hd, _⟩ := goodS_ex hs1
    obtain ⟨e, f, g, h, rfl, rfl, rfl, rfl, rfl, rfl, rfl, rfl, he, hfl, hg, hhl, hf, hh, _⟩ := goodS_ex hs2
    have mS1 := l2Mul_den a b e f (by omega) (by omega) (by omega) (by omega) (by omega) (by omega)
    have mS2 := l2Mul_den a b g h (by omega) (by omega) (by omega) (by omega) (by omega) (by omega)
    have mS3 := l2Mul_den c d e f (by omega) (by omega) (by omega) (by omega) (by omega) (by omega)
    have mS4 := l2Mul_den c d g h (by omega) (by omega) (by omega) (by omega) (by omega) (by omega)
    have mI1 := ratMul_den a b e f (by omega) (by omega) (by omega) (by omega) (by omega) (by omega)
    have mI2 := ratMul_den a b g h (by omega) (by omega) (by omega) (by omega) (by omega) (by omega)
    have mI3 := ratMul_den c d e f (by omega) (by omega) (by omega) (by omega) (by omega) (by omega)
    have mI4 := ratMul_den c d g h (by omega) (by omega) (by omega) (by omega) (by omega) (by omega)
    have o1 := mul_okF ha hbl he hfl hb hf
    have o2 := mul_okF ha hbl hg hhl hb hh
    have o3 := mul_okF hc hdl he hfl hd hf
    have o4 := mul_okF hc hdl hg hhl hd hh
    generalize nN (a * e) (b * f) = x1 at *
    generalize dN (a * e) (b * f) = y1 at *
    generalize nN (a * g) (b * h) = x2 at *
    generalize dN (a * g) (b * h) = y2 at *
    generalize nN (c * e) (d * f) = x3 at *
    generalize dN (c * e) (d * f) = y3 at *
    generalize nN (c * g) (d * h) = x4 at *
    generalize dN (c * g) (d * h) = y4 at *
    obtain ⟨M, N, n, l, p, q, m, k, o, s, r, e1, e2, e3, e4, dA, dO, dF⟩ := around_both (x1, y1) [(x2, y2), (x3, y3), (x4, y4)] (by simp) (by
      intro z hz
      simp only [List.mem_cons, List.not_mem_nil, or_false] at hz
      rcases hz with rfl | rfl | rfl | rfl <;> assumption)
    refine ⟨n, l, p, q, m, k, o, s, r, e1, e2, e3, e4, go Try.func34 rfl rfl ?_, go Try.func35 rfl rfl ?_⟩
    · repeat refine vs ?_
      conv => whnf
      refine CallS.mk _ rfl true true _ (sS) rfl ?_
      repeat refine vs ?_
      conv => whnf
      refine CallS.mk _ rfl true false _ (mS1) rfl ?_
      repeat refine vs ?_
      conv => whnf
      refine CallS.mk _ rfl true false _ (mS2) rfl ?_
      repeat refine vs ?_
      conv => whnf
      refine CallS.mk _ rfl true false _ (mS3) rfl ?_
      repeat refine vs ?_
      conv => whnf
      refine CallS.mk _ rfl true false _ (mS4) rfl ?_
      repeat refine vs ?_
      conv => whnf
      refine NewK.mk false ?_
      repeat refine vs ?_
      conv => whnf
      refine CallS.mk _ rfl false false _ (dO) rfl ?_
      repeat refine vs ?_
      conv => whnf
      refine CallS.mk _ rfl true true _ (dF) rfl ?_
      repeat refine vs ?_
      conv => whnf
      first | rfl | exact ⟨rfl, rfl⟩ | exact ⟨by simp [toRes], rfl⟩
    · repeat refine vs ?_
      conv => whnf
      refine NewK.mk false ?_
      repeat refine vs ?_
      conv => whnf
      refine CallS.mk _ rfl true true _ (sI) rfl ?_
      repeat refine vs ?_
      conv => whnf
      refine CallS.mk _ rfl true false _ (mI1) rfl ?_
      repeat refine vs ?_
      conv => whnf
      refine CallS.mk _ rfl true false _ (mI2) rfl ?_
      repeat refine vs ?_
      conv => whnf
      refine CallS.mk _ rfl true false _ (mI3) rfl ?_
      repeat refine vs ?_
      conv => whnf
      refine CallS.mk _ rfl true false _ (mI4) rfl ?_
      repeat refine vs ?_
      conv => whnf
      refine NewK.mk false ?_
      repeat refine vs ?_
      conv => whnf
      refine CallS.mk _ rfl true true _ (dA) rfl ?_
      repeat refine vs ?_
      conv => whnf
      first | rfl | exact ⟨rfl, rfl⟩ | exact ⟨by simp [toRes], rfl⟩
end
section
variable (na : Bool) (la : List Int) (pa : Bool) (qa : List Int) (nb : Bool) (lb : List Int) (pb : Bool) (qb : List Int)
variable (h1 : la.length ≤ 1000000000000) (h2 : qa.length ≤ 1000000000000) (h3 : lb.length ≤ 1000000000000) (h4 : qb.length ≤ 1000000000000)
include h1 h2 h3 h4
theorem squareSpanBoth : ∃ n l p q m k o s r, l.length ≤ 1000000 ∧ q.length ≤ 1000000 ∧ k.length ≤ 1000000 ∧ s.length ≤ 1000000 ∧
    D 39 [spanR na la pa qa nb lb pb qb] false (.tup [spanR n l p q m k o s, bP r]) ∧ D 40 [spanR na la pa qa nb lb pb qb] true (.tup [spanR n l p q m k o s, bP r]) := by
  have sS := goodSpanS_den na la pa qa nb lb pb qb h1 h2 h3 h4
  have sI := goodSpanI_den na la pa qa nb lb pb qb h1 h2 h3 h4
  cases hgg : goodS na la pa qa nb lb pb qb with
  | false =>
    rw [hgg] at sS sI
    refine ⟨false, [], false, [], false, [], false, [], false, by simp, by simp, by simp, by simp, go Try.func39 rfl rfl ?_, go Try.func40 rfl rfl ?_⟩
    · repeat refine vs ?_
      conv => whnf
      refine CallS.mk _ rfl true true _ (sS) rfl ?_
      repeat refine vs ?_
      conv => whnf
      first | rfl | exact ⟨rfl, rfl⟩ | exact ⟨by simp [toRes], rfl⟩
    · repeat refine vs ?_
      conv => whnf
      refine CallS.mk _ rfl true true _ (sI) rfl ?_
      repeat refine vs ?_
      conv => whnf
      first | rfl | exact ⟨rfl, rfl⟩ | exact ⟨by simp [toRes], rfl⟩
  | true =>
    rw [hgg] at sS sI
    obtain ⟨a, b, c, d, rfl, rfl, rfl, rfl, rfl, rfl, rfl, rfl, ha, hbl, hc, hdl, hb, hd, _⟩ := goodS_ex hgg
    have l0 : Lm.ln 0 ≤ 4 := ln64 (by omega) (by omega)
    have l1 : Lm.ln 1 ≤ 4 := ln64 (by omega) (by omega)
    have mS1 := l2Mul_den a b a b (by omega) (by omega) (by omega) (by omega) (by omega) (by omega)
    have mS2 := l2Mul_den c d c d (by omega) (by omega) (by omega) (by omega) (by omega) (by omega)
    have mI1 := ratMul_den a b a b (by omega) (by omega) (by omega) (by omega) (by omega) (by omega)
    have mI2 := ratMul_den c d c d (by omega) (by omega) (by omega) (by omega) (by omega) (by omega)
    have o1 := mul_okF ha hbl ha hbl hb hb
    have o2 := mul_okF hc hdl hc hdl hd hd
    have iS := l3In_den a b c d 0 1 hb hd (by omega) (by omega) (by omega) (by omega) (by omega) (by omega) (by omega)
    have iI := has_den a b c d 0 1 hb hd (by omega) (by omega) (by omega) (by omega) (by omega) (by omega) (by omega)
    generalize nN (a * a) (b * b) = x1 at *
    generalize dN (a * a) (b * b) = y1 at *
    generalize nN (c * c) (d * d) = x2 at *
    generalize dN (c * c) (d * d) = y2 at *
    cases hin : inB a b c d 0 1 with
    | false =>
      rw [hin] at iS iI
      obtain ⟨M, N, n, l, p, q, m, k, o, s, r, e1, e2, e3, e4, dA, dO, dF⟩ := around_both (x1, y1) [(x2, y2)] (by simp) (by
        intro z hz
        simp only [List.mem_cons, List.not_mem_nil, or_false] at hz
        rcases hz with rfl | rfl <;> assumption)
      refine ⟨n, l, p, q, m, k, o, s, r, e1, e2, e3, e4, go Try.func39 rfl rfl ?_, go Try.func40 rfl rfl ?_⟩
      · repeat refine vs ?_
        conv => whnf
        refine CallS.mk _ rfl true true _ (sS) rfl ?_
        repeat refine vs ?_
        conv => whnf
        refine CallS.mk _ rfl true false _ (mS1) rfl ?_
        repeat refine vs ?_
        conv => whnf
        refine CallS.mk _ rfl true false _ (mS2) rfl ?_
        repeat refine vs ?_
        conv => whnf
        refine NewK.mk false ?_
        repeat refine vs ?_
        conv => whnf
        refine CallS.mk _ rfl true true _ (l2Int_den 0 (by omega) (by omega)) rfl ?_
        repeat refine vs ?_
        conv => whnf
        refine CallS.mk _ rfl true true _ (iS) rfl ?_
        repeat refine vs ?_
        conv => whnf
        refine CallS.mk _ rfl false false _ (dO) rfl ?_
        repeat refine vs ?_
        conv => whnf
        refine CallS.mk _ rfl true true _ (dF) rfl ?_
        repeat refine vs ?_
        conv => whnf
        first | rfl | exact ⟨rfl, rfl⟩ | exact ⟨by simp [toRes], rfl⟩
      · repeat refine vs ?_
        conv => whnf
        refine CallS.mk _ rfl true true _ (sI) rfl ?_
        repeat refine vs ?_
        conv => whnf
        refine CallS.mk _ rfl true false _ (mI1) rfl ?_
        repeat refine vs ?_
        conv => whnf
        refine CallS.mk _ rfl true false _ (mI2) rfl ?_
        repeat refine vs ?_
        conv => whnf
        refine NewK.mk false ?_
        repeat refine vs ?_
        conv => whnf
        refine CallS.mk _ rfl true true _ (whole_den 0 (by omega) (by omega)) rfl ?_
        repeat refine vs ?_
        conv => whnf
        refine CallS.mk _ rfl true true _ (iI) rfl ?_
        repeat refine vs ?_
        conv => whnf
        refine CallS.mk _ rfl true true _ (dA) rfl ?_
        repeat refine vs ?_
        conv => whnf
        first | rfl | exact ⟨rfl, rfl⟩ | exact ⟨by simp [toRes], rfl⟩
    | true =>
      rw [hin] at iS iI
      obtain ⟨M, N, n, l, p, q, m, k, o, s, r, e1, e2, e3, e4, dA, dO, dF⟩ := around_both (x1, y1) [(x2, y2), (0, 1)] (by simp) (by
        intro z hz
        simp only [List.mem_cons, List.not_mem_nil, or_false] at hz
        rcases hz with rfl | rfl | rfl
        · assumption
        · assumption
        · exact ⟨by decide, by dsimp only; omega, by dsimp only; omega⟩)
      refine ⟨n, l, p, q, m, k, o, s, r, e1, e2, e3, e4, go Try.func39 rfl rfl ?_, go Try.func40 rfl rfl ?_⟩
      · repeat refine vs ?_
        conv => whnf
        refine CallS.mk _ rfl true true _ (sS) rfl ?_
        repeat refine vs ?_
        conv => whnf
        refine CallS.mk _ rfl true false _ (mS1) rfl ?_
        repeat refine vs ?_
        conv => whnf
        refine CallS.mk _ rfl true false _ (mS2) rfl ?_
        repeat refine vs ?_
        conv => whnf
        refine NewK.mk true ?_
        repeat refine vs ?_
        conv => whnf
        refine CallS.mk _ rfl true true _ (l2Int_den 0 (by omega) (by omega)) rfl ?_
        repeat refine vs ?_
        conv => whnf
        refine CallS.mk _ rfl true true _ (iS) rfl ?_
        repeat refine vs ?_
        conv => whnf
        refine CallS.mk _ rfl true false _ (l2Int_den 0 (by omega) (by omega)) rfl ?_
        repeat refine vs ?_
        conv => whnf
        refine NewK.mk false ?_
        repeat refine vs ?_
        conv => whnf
        refine NewK.mk false ?_
        repeat refine vs ?_
        conv => whnf
        refine CallS.mk _ rfl false false _ (dO) rfl ?_
        repeat refine vs ?_
        conv => whnf
        refine CallS.mk _ rfl true true _ (dF) rfl ?_
        repeat refine vs ?_
        conv => whnf
        first | rfl | exact ⟨rfl, rfl⟩ | exact ⟨by simp [toRes], rfl⟩
      · repeat refine vs ?_
        conv => whnf
        refine CallS.mk _ rfl true true _ (sI) rfl ?_
        repeat refine vs ?_
        conv => whnf
        refine CallS.mk _ rfl true false _ (mI1) rfl ?_
        repeat refine vs ?_
        conv => whnf
        refine CallS.mk _ rfl true false _ (mI2) rfl ?_
        repeat refine vs ?_
        conv => whnf
        refine NewK.mk true ?_
        repeat refine vs ?_
        conv => whnf
        refine CallS.mk _ rfl true true _ (whole_den 0 (by omega) (by omega)) rfl ?_
        repeat refine vs ?_
        conv => whnf
        refine CallS.mk _ rfl true true _ (iI) rfl ?_
        repeat refine vs ?_
        conv => whnf
        refine CallS.mk _ rfl true false _ (whole_den 0 (by omega) (by omega)) rfl ?_
        repeat refine vs ?_
        conv => whnf
        refine NewK.mk false ?_
        repeat refine vs ?_
        conv => whnf
        refine NewK.mk false ?_
        repeat refine vs ?_
        conv => whnf
        refine CallS.mk _ rfl true true _ (dA) rfl ?_
        repeat refine vs ?_
        conv => whnf
        first | rfl | exact ⟨rfl, rfl⟩ | exact ⟨by simp [toRes], rfl⟩
end
end Go.Vx
