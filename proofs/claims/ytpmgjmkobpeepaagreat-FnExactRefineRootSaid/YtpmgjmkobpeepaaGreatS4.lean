/- Chapter 3: the least and the greatest of several fractions; products, squares, joins. -/
import Derived.Test.YtpmgjmkobpeepaaGreatS3
set_option linter.unusedVariables false
set_option linter.unusedSectionVars false
set_option linter.unusedSimpArgs false
namespace Go.Vx
open Go.Proofs
set_option maxRecDepth 100000

def lowF : Int × Int → List (Int × Int) → Int × Int
  | m, [] => m
  | m, a :: l => lowF (if a.1 * m.2 < m.1 * a.2 then a else m) l
def highF : Int × Int → List (Int × Int) → Int × Int
  | m, [] => m
  | m, a :: l => highF (if m.1 * a.2 < a.1 * m.2 then a else m) l
theorem lowF_cons (m a : Int × Int) (l : List (Int × Int)) : lowF m (a :: l) = lowF (if a.1 * m.2 < m.1 * a.2 then a else m) l := rfl
theorem lowF_nil (m : Int × Int) : lowF m [] = m := rfl
theorem highF_cons (m a : Int × Int) (l : List (Int × Int)) : highF m (a :: l) = highF (if m.1 * a.2 < a.1 * m.2 then a else m) l := rfl
theorem highF_nil (m : Int × Int) : highF m [] = m := rfl
def cellR (q : Int × Int) : List PL := [.bool (decide (q.1 < 0)), .ints (Lm.lim q.1.natAbs), .bool (decide (q.2 < 0)), .ints (Lm.lim q.2.natAbs)]
def okF (K : Nat) (q : Int × Int) : Prop := 0 < q.2 ∧ Lm.ln q.1 ≤ K ∧ Lm.ln q.2 ≤ K
theorem lowF_ok {K : Nat} : ∀ {l : List (Int × Int)} {m : Int × Int}, okF K m → (∀ q ∈ l, okF K q) → okF K (lowF m l)
  | [], _, h, _ => h
  | a :: l, m, h, k => by
    unfold lowF
    refine lowF_ok ?_ (fun q hq => k q (List.mem_cons_of_mem _ hq))
    split
    · exact k a List.mem_cons_self
    · exact h
theorem highF_ok {K : Nat} : ∀ {l : List (Int × Int)} {m : Int × Int}, okF K m → (∀ q ∈ l, okF K q) → okF K (highF m l)
  | [], _, h, _ => h
  | a :: l, m, h, k => by
    unfold highF
    refine highF_ok ?_ (fun q hq => k q (List.mem_cons_of_mem _ hq))
    split
    · exact k a List.mem_cons_self
    · exact h
theorem lowF_self (a : Int × Int) (l : List (Int × Int)) : lowF a (a :: l) = lowF a l := by
  show lowF (if a.1 * a.2 < a.1 * a.2 then a else a) l = _
  rw [ite_self]
theorem highF_self (a : Int × Int) (l : List (Int × Int)) : highF a (a :: l) = highF a l := by
  show highF (if a.1 * a.2 < a.1 * a.2 then a else a) l = _
  rw [ite_self]
theorem mul_okF {a b c d : Int} (ha : Lm.ln a ≤ 40) (hb : Lm.ln b ≤ 40) (hc : Lm.ln c ≤ 40) (hd : Lm.ln d ≤ 40) (pb : 0 < b) (pd : 0 < d) : okF 40000000000 (nN (a * c) (b * d), dN (a * c) (b * d)) := by
  have k1 := ln_mul' ha hc
  have k2 := ln_mul' hb hd
  have m1 := ln_nN (a * c) (b * d)
  have m2 := ln_dN (a * c) (b * d)
  exact ⟨dN_pos (Int.mul_ne_zero (show b ≠ 0 by omega) (show d ≠ 0 by omega)), by dsimp only; omega, by dsimp only; omega⟩
theorem cmp_lt (a b c d : Int) : (cmpI (a * d) (c * b) < 0) ↔ a * d < c * b := by unfold cmpI; split <;> (try split) <;> omega
theorem cmp_gt (a b c d : Int) : (cmpI (a * d) (c * b) > 0) ↔ c * b < a * d := by unfold cmpI; split <;> (try split) <;> omega

section
variable (f0 : Int × Int) (rest : List (Int × Int)) (hl : (f0 :: rest).length ≤ 1000000000000) (hq : ∀ q ∈ f0 :: rest, okF 40000000000 q)
include hl hq
end
section
variable (na : Bool) (la : List Int) (pa : Bool) (qa : List Int) (nb : Bool) (lb : List Int) (pb : Bool) (qb : List Int)
variable (ma : Bool) (ka : List Int) (oa : Bool) (sa : List Int) (mb : Bool) (kb : List Int) (ob : Bool) (sb : List Int)
variable (h1 : la.length ≤ 1000000000000) (h2 : qa.length ≤ 1000000000000) (h3 : lb.length ≤ 1000000000000) (h4 : qb.length ≤ 1000000000000)
variable (h5 : ka.length ≤ 1000000000000) (h6 : sa.length ≤ 1000000000000) (h7 : kb.length ≤ 1000000000000) (h8 : sb.length ≤ 1000000000000)
include h1 h2 h3 h4 h5 h6 h7 h8
end
section
variable (na : Bool) (la : List Int) (pa : Bool) (qa : List Int) (nb : Bool) (lb : List Int) (pb : Bool) (qb : List Int)
variable (h1 : la.length ≤ 1000000000000) (h2 : qa.length ≤ 1000000000000) (h3 : lb.length ≤ 1000000000000) (h4 : qb.length ≤ 1000000000000)
include h1 h2 h3 h4
end
end Go.Vx
