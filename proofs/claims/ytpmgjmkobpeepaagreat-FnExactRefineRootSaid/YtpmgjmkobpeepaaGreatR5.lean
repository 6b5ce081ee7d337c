/- Chapter 2: the simplest fraction between two. -/
import Derived.Test.YtpmgjmkobpeepaaGreatR4
set_option linter.unusedVariables false
set_option linter.unusedSectionVars false
set_option linter.unusedSimpArgs false
namespace Go.Vx
open Go.Proofs
set_option maxRecDepth 100000

theorem less_den (a b c d : Int) (hb : b ≠ 0) (hd : d ≠ 0) (ha : Lm.ln a ≤ 40000000000) (hbl : Lm.ln b ≤ 40000000000) (hc : Lm.ln c ≤ 40000000000) (hdl : Lm.ln d ≤ 40000000000) :
    D 80 [ratV a b, ratV c d] true (.one (bP (decide (a * d < c * b)))) := by
  have dC := compareRat_den a b c d hb hd ha hbl hc hdl
  refine go Tryz.func80 rfl rfl ?_
  have h : (cmpI (a * d) (c * b) < 0) ↔ a * d < c * b := by unfold cmpI; split <;> (try split) <;> omega
  by_cases h1 : a * d < c * b
  · have h2 := h.2 h1
    rw [decide_eq_true h1]
    repeat refine vs ?_
    conv => whnf
    refine CallS.mk _ rfl true true _ (dC) rfl ?_
    repeat refine vs ?_
    conv => whnf
    first | rfl | exact ⟨rfl, rfl⟩ | exact ⟨by simp [toRes], rfl⟩
  · have h2 := fun x => h1 (h.1 x)
    rw [decide_eq_false h1]
    repeat refine vs ?_
    conv => whnf
    refine CallS.mk _ rfl true true _ (dC) rfl ?_
    repeat refine vs ?_
    conv => whnf
    first | rfl | exact ⟨rfl, rfl⟩ | exact ⟨by simp [toRes], rfl⟩

theorem whole_den (n : Int) (h1 : -9223372036854775808 ≤ n) (h2 : n ≤ 9223372036854775807) : D 92 [iP n] true (.one (ratV n 1)) := by
  refine go Tryz.func92 rfl rfl ?_
  repeat refine vs ?_
  conv => whnf
  refine CallS.mk _ rfl true true _ (bigOfI_den n h1 h2) rfl ?_
  repeat refine vs ?_
  conv => whnf
  refine CallS.mk _ rfl true true _ (bigOfI_den 1 (by omega) (by omega)) rfl ?_
  repeat refine vs ?_
  conv => whnf
  first | rfl | exact ⟨rfl, rfl⟩ | exact ⟨by simp [toRes], rfl⟩
theorem l2Int_den (n : Int) (h1 : -9223372036854775808 ≤ n) (h2 : n ≤ 9223372036854775807) : D 53 [iP n] true (.one (ratV n 1)) := by
  refine go Tryz.func53 rfl rfl ?_
  repeat refine vs ?_
  conv => whnf
  refine CallS.mk _ rfl true true _ (bigOfS_den n h1 h2) rfl ?_
  repeat refine vs ?_
  conv => whnf
  refine CallS.mk _ rfl true true _ (bigOfS_den 1 (by omega) (by omega)) rfl ?_
  repeat refine vs ?_
  conv => whnf
  first | rfl | exact ⟨rfl, rfl⟩ | exact ⟨by simp [toRes], rfl⟩
theorem bigOfV_den (x : Int) (hx : Lm.ln x ≤ 400000000000) : D 148 [bP (decide (x < 0)), lP (Lm.lim x.natAbs)] true (.one (bigV x)) := by
  have h2 : (Lm.lim x.natAbs).length ≤ 400000000000 := hx
  have dB := bigOf_den (decide (x < 0)) (Lm.lim x.natAbs) (by omega)
  rw [make_num] at dB
  rw [show (if decide (x < 0) = true then -((x.natAbs : Nat) : Int) else ((x.natAbs : Nat) : Int)) = x by by_cases hx0 : x < 0 <;> simp [hx0] <;> omega] at dB
  exact dB
theorem bigOfP_den (x : Int) (hx0 : 0 ≤ x) (hx : Lm.ln x ≤ 400000000000) : D 148 [bP false, lP (Lm.lim x.natAbs)] true (.one (bigV x)) := by
  have := bigOfV_den x hx
  rw [show decide (x < 0) = false from decide_eq_false (by omega)] at this
  exact this
/-- The walk down the tree of fractions between p/q and r/s. -/
def sb (a b c d : Int) : Nat → Int → Int → Int → Int → Option (Int × Int)
  | 0, _, _, _, _ => none
  | n + 1, p, q, r, s => if (p + r) * b ≤ a * (q + s) then sb a b c d n (p + r) (q + s) r s else if c * (q + s) ≤ (p + r) * d then sb a b c d n p q (p + r) (q + s) else some (p + r, q + s)
abbrev Q5 := Bool × List Int × Bool × List Int × Bool
noncomputable def oV : Option (Int × Int) → Q5
  | none => (false, [], false, [], false)
  | some (x, y) => if fitR x y then (decide (x < 0), Lm.lim x.natAbs, decide (y < 0), Lm.lim y.natAbs, true) else (false, [], false, [], false)
theorem oV_t {x y : Int} (h : fitR x y = true) : oV (some (x, y)) = (decide (x < 0), Lm.lim x.natAbs, decide (y < 0), Lm.lim y.natAbs, true) := if_pos h
theorem oV_f {x y : Int} (h : fitR x y = false) : oV (some (x, y)) = (false, [], false, [], false) := if_neg (by rw [h]; simp)
theorem oV_short (o : Option (Int × Int)) : (oV o).2.1.length ≤ 1000000 ∧ (oV o).2.2.2.1.length ≤ 1000000 := by
  cases o with
  | none => simp [oV]
  | some z =>
    obtain ⟨x, y⟩ := z
    cases h : fitR x y with
    | true =>
      rw [oV_t h]
      unfold fitR at h
      rw [Bool.and_eq_true, decide_eq_true_iff, decide_eq_true_iff] at h
      exact ⟨Nat.le_trans h.1 (by decide), Nat.le_trans h.2 (by decide)⟩
    | false => rw [oV_f h]; simp

theorem nN_one {x y : Int} (h : Int.gcd x y = 1) (hy : 0 < y) : nN x y = x := by unfold nN gS; rw [if_neg (by omega), h]; simp
theorem dN_one {x y : Int} (h : Int.gcd x y = 1) (hy : 0 < y) : dN x y = y := by unfold dN gS; rw [if_neg (by omega), h]; simp
theorem gcd_of_comb {x y u v : Int} (h : x * u - y * v = 1) : Int.gcd x y = 1 := by
  have h1 : (Int.gcd x y : Int) ∣ x * u - y * v := Int.dvd_sub (Int.dvd_mul_of_dvd_left (Int.gcd_dvd_left _ _)) (Int.dvd_mul_of_dvd_left (Int.gcd_dvd_right _ _))
  rw [h] at h1
  have := Int.eq_one_of_dvd_one (by omega) h1
  omega

section
variable (a b c d : Int) (hb : 0 < b) (hd : 0 < d) (ha : Lm.ln a ≤ 40) (hbl : Lm.ln b ≤ 40) (hc : Lm.ln c ≤ 40) (hdl : Lm.ln d ≤ 40)
variable (g1 : goodR (decide (a < 0)) (Lm.lim a.natAbs) (decide (b < 0)) (Lm.lim b.natAbs) = true) (g2 : goodR (decide (c < 0)) (Lm.lim c.natAbs) (decide (d < 0)) (Lm.lim d.natAbs) = true) (hlt : a * d < c * b)
include hb hd ha hbl hc hdl g1 g2 hlt

end

end Go.Vx
