/- Chapter 3: the least and the greatest of several fractions; products, squares, joins. -/
import Derived.Test.YthkgmogacmmfpaaGreatS3
set_option linter.unusedVariables false
set_option linter.unusedSectionVars false
set_option linter.unusedSimpArgs false
namespace Go.Vx
open Go.Proofs
set_option maxRecDepth 100000

def lowF : Int × Int → List (Int × Int) → Int × Int
  | m, [] => m
  | m, a :: l => lowF (if a.1 * m.2 < m.1 * a.2 then a else m) l
def highF : Int × Int → List (Int × Int) → Int × Int
  | m, [] => m
  | m, a :: l => highF (if m.1 * a.2 < a.1 * m.2 then a else m) l
theorem lowF_cons (m a : Int × Int) (l : List (Int × Int)) : lowF m (a :: l) = lowF (if a.1 * m.2 < m.1 * a.2 then a else m) l := rfl
theorem lowF_nil (m : Int × Int) : lowF m [] = m := rfl
theorem highF_cons (m a : Int × Int) (l : List (Int × Int)) : highF m (a :: l) = highF (if m.1 * a.2 < a.1 * m.2 then a else m) l := rfl
theorem highF_nil (m : Int × Int) : highF m [] = m := rfl
def cellR (q : Int × Int) : List PL := [.bool (decide (q.1 < 0)), .ints (Lm.lim q.1.natAbs), .bool (decide (q.2 < 0)), .ints (Lm.lim q.2.natAbs)]
def okF (K : Nat) (q : Int × Int) : Prop := 0 < q.2 ∧ Lm.ln q.1 ≤ K ∧ Lm.ln q.2 ≤ K
theorem lowF_ok {K : Nat} : ∀ {l : List (Int × Int)} {m : Int × Int}, okF K m → (∀ q ∈ l, okF K q) → okF K (lowF m l)
  | [], _, h, _ => h
  | a :: l, m, h, k => by
    unfold lowF
    refine lowF_ok ?_ (fun q hq => k q (List.mem_cons_of_mem _ hq))
    split
    · exact k a List.mem_cons_self
    · exact h
theorem highF_ok {K : Nat} : ∀ {l : List (Int × Int)} {m : Int × Int}, okF K m → (∀ q ∈ l, okF K q) → okF K (highF m l)
  | [], _, h, _ => h
  | a :: l, m, h, k => by
    unfold highF
    refine highF_ok ?_ (fun q hq => k q (List.mem_cons_of_mem _ hq))
    split
    · exact k a List.mem_cons_self
    · exact h
theorem lowF_self (a : Int × Int) (l : List (Int × Int)) : lowF a (a :: l) = lowF a l := by
  show lowF (if a.1 * a.2 < a.1 * a.2 then a else a) l = _
  rw [ite_self]
theorem highF_self (a : Int × Int) (l : List (Int × Int)) : highF a (a :: l) = highF a l := by
  show highF (if a.1 * a.2 < a.1 * a.2 then a else a) l = _
  rw [ite_self]
theorem mul_okF {a b c d : Int} (ha : Lm.ln a ≤ 40) (hb : Lm.ln b ≤ 40) (hc : Lm.ln c ≤ 40) (hd : Lm.ln d ≤ 40) (pb : 0 < b) (pd : 0 < d) : okF 40000000000 (nN (a * c) (b * d), dN (a * c) (b * d)) := by
  have k1 := ln_mul' ha hc
  have k2 := ln_mul' hb hd
  have m1 := ln_nN (a * c) (b * d)
  have m2 := ln_dN (a * c) (b * d)
  exact ⟨dN_pos (Int.mul_ne_zero (show b ≠ 0 by omega) (show d ≠ 0 by omega)), by dsimp only; omega, by dsimp only; omega⟩
theorem cmp_lt (a b c d : Int) : (cmpI (a * d) (c * b) < 0) ↔ a * d < c * b := by unfold cmpI; split <;> (try split) <;> omega
theorem cmp_gt (a b c d : Int) : (cmpI (a * d) (c * b) > 0) ↔ c * b < a * d := by unfold cmpI; split <;> (try split) <;> omega

section
variable (f0 : Int × Int) (rest : List (Int × Int)) (hl : (f0 :: rest).length ≤ 1000000000000) (hq : ∀ q ∈ f0 :: rest, okF 40000000000 q)
include hl hq
theorem maxFunc_den : D 42 [(false, [.arr 4 ((f0 :: rest).map cellR)]), fP 45] false (.one (ratV (highF f0 rest).1 (highF f0 rest).2)) := by
  refine go Tryz.func42 rfl rfl ?_
  generalize hfs : f0 :: rest = fs at *
  have hrl : (fs.map cellR).length = fs.length := by simp
  have hpos : 0 < fs.length := by rw [← hfs]; simp
  repeat refine vs ?_
  conv => whnf
  refine LdR.mk (cellR f0) (by rw [← hfs]; rfl) ?_
  repeat refine vs ?_
  conv => whnf
  refine EVs.loopU (fun s : Nat × (Int × Int) => 1 ≤ s.1 ∧ s.1 ≤ fs.length ∧ okF 40000000000 s.2 ∧ highF s.2 (fs.drop s.1) = highF f0 rest) (fun s => fs.length - s.1)
    (fun | (i, m) => [(5, .box (5, 0) ((cellR m).map .p) 0), (6, .v false [.p (.int .i64 (i : Int))])]) (1, f0) ⟨by omega, by dsimp only; omega, hq f0 (by rw [← hfs]; simp), by rw [← hfs]; rfl⟩ (Wk.refl _) ?_
  rintro ⟨i, m⟩ ⟨h1, hi, hm, hinv⟩
  dsimp only at h1 hi hm hinv
  refine go1 ?_
  repeat refine vs ?_
  conv => whnf
  by_cases hc : (i : Int) < (fs.map cellR).length
  · have hlt : i < fs.length := by omega
    have ha := hq fs[i] (List.getElem_mem hlt)
    rw [List.drop_eq_getElem_cons hlt] at hinv
    rw [highF_cons] at hinv
    generalize hai : fs[i] = a at *
    have dC := compareRat_den a.1 a.2 m.1 m.2 (by have := ha.1; omega) (by have := hm.1; omega) ha.2.1 ha.2.2 hm.2.1 hm.2.2
    have hcl := cmp_gt a.1 a.2 m.1 m.2
    repeat refine vs ?_
    conv => whnf
    refine LdR.mk (cellR a) (by simp [hlt, hai]) ?_
    repeat refine vs ?_
    conv => whnf
    refine CallS.mk _ rfl true true _ (dC) rfl ?_
    repeat refine vs ?_
    conv => whnf
    by_cases hlo : m.1 * a.2 < a.1 * m.2
    · have := hcl.2 hlo
      rw [if_pos hlo] at hinv
      repeat refine vs ?_
      conv => whnf
      refine LdR.mk (cellR a) (by simp [hlt, hai]) ?_
      repeat refine vs ?_
      conv => whnf
      refine ⟨(i + 1, a), by dsimp only; omega, ⟨by dsimp only; omega, by dsimp only; omega, ha, hinv⟩, ?_⟩
      refine Wk.le ?_
      repeat' (first | exact LeT.nil | refine LeT.drop1 ?_ | refine LeT.same1 ?_ | refine LeT.own1 ?_ | refine LeT.ownR ?_ | (refine LeT.deepR ?_ rfl))
    · have := fun x => hlo (hcl.1 x)
      rw [if_neg hlo] at hinv
      repeat refine vs ?_
      conv => whnf
      refine ⟨(i + 1, m), by dsimp only; omega, ⟨by dsimp only; omega, by dsimp only; omega, hm, hinv⟩, ?_⟩
      refine Wk.le ?_
      repeat' (first | exact LeT.nil | refine LeT.drop1 ?_ | refine LeT.same1 ?_ | refine LeT.own1 ?_ | refine LeT.ownR ?_ | (refine LeT.deepR ?_ rfl))
  · repeat refine vs ?_
    conv => whnf
    rw [List.drop_eq_nil_of_le (by omega)] at hinv
    rw [highF_nil] at hinv
    rw [← hinv]
    first | rfl | exact ⟨rfl, rfl⟩ | exact ⟨by simp [toRes], rfl⟩
end
section
variable (na : Bool) (la : List Int) (pa : Bool) (qa : List Int) (nb : Bool) (lb : List Int) (pb : Bool) (qb : List Int)
variable (ma : Bool) (ka : List Int) (oa : Bool) (sa : List Int) (mb : Bool) (kb : List Int) (ob : Bool) (sb : List Int)
variable (h1 : la.length ≤ 1000000000000) (h2 : qa.length ≤ 1000000000000) (h3 : lb.length ≤ 1000000000000) (h4 : qb.length ≤ 1000000000000)
variable (h5 : ka.length ≤ 1000000000000) (h6 : sa.length ≤ 1000000000000) (h7 : kb.length ≤ 1000000000000) (h8 : sb.length ≤ 1000000000000)
include h1 h2 h3 h4 h5 h6 h7 h8
end
section
variable (na : Bool) (la : List Int) (pa : Bool) (qa : List Int) (nb : Bool) (lb : List Int) (pb : Bool) (qb : List Int)
variable (h1 : la.length ≤ 1000000000000) (h2 : qa.length ≤ 1000000000000) (h3 : lb.length ≤ 1000000000000) (h4 : qb.length ≤ 1000000000000)
include h1 h2 h3 h4
end
end Go.Vx
