/- Chapter 2: the simplest fraction between two. -/
import Derived.Test.YtdgagbjmbddefaaR4
set_option linter.unusedVariables false
set_option linter.unusedSectionVars false
set_option linter.unusedSimpArgs false
namespace Go.Vx
open Go.Proofs
set_option maxRecDepth 100000

theorem less_den (a b c d : Int) (hb : b ≠ 0) (hd : d ≠ 0) (ha : Lm.ln a ≤ 40000000000) (hbl : Lm.ln b ≤ 40000000000) (hc : Lm.ln c ≤ 40000000000) (hdl : Lm.ln d ≤ 40000000000) :
    D 52 [ratV a b, ratV c d] true (.one (bP (decide (a * d < c * b)))) := by
  have dC := compareRat_den a b c d hb hd ha hbl hc hdl
  refine go Try.func52 rfl rfl ?_
  have h : (cmpI (a * d) (c * b) < 0) ↔ a * d < c * b := by unfold cmpI; split <;> (try split) <;> omega
  by_cases h1 : a * d < c * b
  · have h2 := h.2 h1
    rw [decide_eq_true h1]
    repeat refine vs ?_
    conv => whnf
    refine CallS.mk _ rfl true true _ (dC) rfl ?_
    repeat refine vs ?_
    conv => whnf
    first | rfl | exact ⟨rfl, rfl⟩ | exact ⟨by simp [toRes], rfl⟩
  · have h2 := fun x => h1 (h.1 x)
    rw [decide_eq_false h1]
    repeat refine vs ?_
    conv => whnf
    refine CallS.mk _ rfl true true _ (dC) rfl ?_
    repeat refine vs ?_
    conv => whnf
    first | rfl | exact ⟨rfl, rfl⟩ | exact ⟨by simp [toRes], rfl⟩

theorem whole_den (n : Int) (h1 : -9223372036854775808 ≤ n) (h2 : n ≤ 9223372036854775807) : D 69 [iP n] true (.one (ratV n 1)) := by
  refine go Try.func69 rfl rfl ?_
  repeat refine vs ?_
  conv => whnf
  refine CallS.mk _ rfl true true _ (bigOfI_den n h1 h2) rfl ?_
  repeat refine vs ?_
  conv => whnf
  refine CallS.mk _ rfl true true _ (bigOfI_den 1 (by omega) (by omega)) rfl ?_
  repeat refine vs ?_
  conv => whnf
  first | rfl | exact ⟨rfl, rfl⟩ | exact ⟨by simp [toRes], rfl⟩
theorem l2Int_den (n : Int) (h1 : -9223372036854775808 ≤ n) (h2 : n ≤ 9223372036854775807) : D 67 [iP n] true (.one (ratV n 1)) := by
  refine go Try.func67 rfl rfl ?_
  repeat refine vs ?_
  conv => whnf
  refine CallS.mk _ rfl true true _ (bigOfS_den n h1 h2) rfl ?_
  repeat refine vs ?_
  conv => whnf
  refine CallS.mk _ rfl true true _ (bigOfS_den 1 (by omega) (by omega)) rfl ?_
  repeat refine vs ?_
  conv => whnf
  first | rfl | exact ⟨rfl, rfl⟩ | exact ⟨by simp [toRes], rfl⟩
theorem bigOfV_den (x : Int) (hx : Lm.ln x ≤ 400000000000) : D 127 [bP (decide (x < 0)), lP (Lm.lim x.natAbs)] true (.one (bigV x)) := by
  have h2 : (Lm.lim x.natAbs).length ≤ 400000000000 := hx
  have dB := bigOf_den (decide (x < 0)) (Lm.lim x.natAbs) (by omega)
  rw [make_num] at dB
  rw [show (if decide (x < 0) = true then -((x.natAbs : Nat) : Int) else ((x.natAbs : Nat) : Int)) = x by by_cases hx0 : x < 0 <;> simp [hx0] <;> omega] at dB
  exact dB
theorem bigOfP_den (x : Int) (hx0 : 0 ≤ x) (hx : Lm.ln x ≤ 400000000000) : D 127 [bP false, lP (Lm.lim x.natAbs)] true (.one (bigV x)) := by
  have := bigOfV_den x hx
  rw [show decide (x < 0) = false from decide_eq_false (by omega)] at this
  exact this
theorem ofBig_den (x : Int) (hx : Lm.ln x ≤ 400000000000) : D 91 [bigV x] true (.one (ratV x 1)) := by
  refine go Try.func91 rfl rfl ?_
  repeat refine vs ?_
  conv => whnf
  refine CallS.mk _ rfl true true _ (bigOfV_den x hx) rfl ?_
  repeat refine vs ?_
  conv => whnf
  refine CallS.mk _ rfl true true _ (bigOfI_den 1 (by omega) (by omega)) rfl ?_
  repeat refine vs ?_
  conv => whnf
  first | rfl | exact ⟨rfl, rfl⟩ | exact ⟨by simp [toRes], rfl⟩
/-- The walk down the tree of fractions between p/q and r/s. -/
def sb (a b c d : Int) : Nat → Int → Int → Int → Int → Option (Int × Int)
  | 0, _, _, _, _ => none
  | n + 1, p, q, r, s => if (p + r) * b ≤ a * (q + s) then sb a b c d n (p + r) (q + s) r s else if c * (q + s) ≤ (p + r) * d then sb a b c d n p q (p + r) (q + s) else some (p + r, q + s)
abbrev Q5 := Bool × List Int × Bool × List Int × Bool
noncomputable def oV : Option (Int × Int) → Q5
  | none => (false, [], false, [], false)
  | some (x, y) => if fitR x y then (decide (x < 0), Lm.lim x.natAbs, decide (y < 0), Lm.lim y.natAbs, true) else (false, [], false, [], false)
theorem oV_t {x y : Int} (h : fitR x y = true) : oV (some (x, y)) = (decide (x < 0), Lm.lim x.natAbs, decide (y < 0), Lm.lim y.natAbs, true) := if_pos h
theorem oV_f {x y : Int} (h : fitR x y = false) : oV (some (x, y)) = (false, [], false, [], false) := if_neg (by rw [h]; simp)
theorem oV_short (o : Option (Int × Int)) : (oV o).2.1.length ≤ 1000000 ∧ (oV o).2.2.2.1.length ≤ 1000000 := by
  cases o with
  | none => simp [oV]
  | some z =>
    obtain ⟨x, y⟩ := z
    cases h : fitR x y with
    | true =>
      rw [oV_t h]
      unfold fitR at h
      rw [Bool.and_eq_true, decide_eq_true_iff, decide_eq_true_iff] at h
      exact ⟨Nat.le_trans h.1 (by decide), Nat.le_trans h.2 (by decide)⟩
    | false => rw [oV_f h]; simp

theorem nN_one {x y : Int} (h : Int.gcd x y = 1) (hy : 0 < y) : nN x y = x := by unfold nN gS; rw [if_neg (by omega), h]; simp
theorem dN_one {x y : Int} (h : Int.gcd x y = 1) (hy : 0 < y) : dN x y = y := by unfold dN gS; rw [if_neg (by omega), h]; simp
theorem gcd_of_comb {x y u v : Int} (h : x * u - y * v = 1) : Int.gcd x y = 1 := by
  have h1 : (Int.gcd x y : Int) ∣ x * u - y * v := Int.dvd_sub (Int.dvd_mul_of_dvd_left (Int.gcd_dvd_left _ _)) (Int.dvd_mul_of_dvd_left (Int.gcd_dvd_right _ _))
  rw [h] at h1
  have := Int.eq_one_of_dvd_one (by omega) h1
  omega

section
variable (a b c d : Int) (hb : 0 < b) (hd : 0 < d) (ha : Lm.ln a ≤ 40) (hbl : Lm.ln b ≤ 40) (hc : Lm.ln c ≤ 40) (hdl : Lm.ln d ≤ 40)
variable (g1 : goodR (decide (a < 0)) (Lm.lim a.natAbs) (decide (b < 0)) (Lm.lim b.natAbs) = true) (g2 : goodR (decide (c < 0)) (Lm.lim c.natAbs) (decide (d < 0)) (Lm.lim d.natAbs) = true) (hlt : a * d < c * b)
include hb hd ha hbl hc hdl g1 g2 hlt

theorem simplestS_den (o : Q5) (ho : oV (if (flo a b + 1) * d < c then some (flo a b + 1, 1) else sb a b c d 200 (flo a b) 1 (flo a b + 1) 1) = o) :
    D 47 [ratV a b, ratV c d] false (.tup [ratR o.1 o.2.1 o.2.2.1 o.2.2.2.1, bP o.2.2.2.2]) := by
  have l1 : Lm.ln 1 ≤ 4 := ln64 (by omega) (by omega)
  have lf := ln_flo a b
  have dB := l2Both_den (decide (a < 0)) (Lm.lim a.natAbs) (decide (b < 0)) (Lm.lim b.natAbs) (decide (c < 0)) (Lm.lim c.natAbs) (decide (d < 0)) (Lm.lim d.natAbs) (Nat.le_trans ha (by decide)) (Nat.le_trans hbl (by decide)) (Nat.le_trans hc (by decide)) (Nat.le_trans hdl (by decide))
  rw [g1, g2] at dB
  have dC := l2Cmp_den a b c d (by omega) (by omega) (by omega) (by omega) (by omega) (by omega)
  have e1 : ¬ cmpI (a * d) (c * b) ≥ 0 := by unfold cmpI; split <;> (try split) <;> omega
  have dF := l2Floor_den a b (by omega) (by omega) (by omega)
  generalize flo a b = f at *
  have dO := bigOfS_den 1 (by omega) (by omega)
  have dI := l2Int_den 1 (by omega) (by omega)
  have lf1 : Lm.ln (f + 1) ≤ 42 := Lm.ln_add f 1 (k := 41) (by omega) (by omega)
  have dA := l2Add_den f 1 1 1 (by omega) (by omega) (by omega) (by omega) (by omega) (by omega)
  have ea : addN f 1 1 1 = f + 1 := by unfold addN; omega
  have eg : Int.gcd (f + 1) (1 * 1) = 1 := by simp
  rw [ea, nN_one eg (by omega), dN_one eg (by omega)] at dA
  have dD := l2Cmp_den (f + 1) 1 c d (by omega) (by omega) (by omega) (by omega) (by omega) (by omega)
  by_cases h1 : (f + 1) * d < c
  · rw [if_pos h1] at ho
    have e2 : cmpI ((f + 1) * d) (c * 1) < 0 := by unfold cmpI; split <;> (try split) <;> omega
    have dT := l2Fits_den (f + 1) 1 (by omega) (by omega) (by omega)
    unfold fitRV at dT
    simp only [Int.mul_one] at dA dD e2
    cases hf : fitR (f + 1) 1 with
    | true =>
      rw [hf] at dT
      simp only [if_true] at dT
      rw [oV_t hf] at ho
      subst ho
      refine go Try.func47 rfl rfl ?_
      repeat refine vs ?_
      conv => whnf
      refine CallS.mk _ rfl true true _ (dB) rfl ?_
      repeat refine vs ?_
      conv => whnf
      refine CallS.mk _ rfl true true _ (dC) rfl ?_
      repeat refine vs ?_
      conv => whnf
      refine CallS.mk _ rfl true true _ (dF) rfl ?_
      repeat refine vs ?_
      conv => whnf
      refine CallS.mk _ rfl true true _ (dO) rfl ?_
      repeat refine vs ?_
      conv => whnf
      refine CallS.mk _ rfl true true _ (dI) rfl ?_
      repeat refine vs ?_
      conv => whnf
      refine CallS.mk _ rfl true true _ (dA) rfl ?_
      repeat refine vs ?_
      conv => whnf
      refine CallS.mk _ rfl true true _ (dD) rfl ?_
      repeat refine vs ?_
      conv => whnf
      refine CallS.mk _ rfl true true _ (dT) rfl ?_
      repeat refine vs ?_
      conv => whnf
      first | rfl | exact ⟨rfl, rfl⟩ | exact ⟨by simp [toRes], rfl⟩
    | false =>
      rw [hf] at dT
      simp only [Bool.false_eq_true, if_false] at dT
      rw [oV_f hf] at ho
      subst ho
      refine go Try.func47 rfl rfl ?_
      repeat refine vs ?_
      conv => whnf
      refine CallS.mk _ rfl true true _ (dB) rfl ?_
      repeat refine vs ?_
      conv => whnf
      refine CallS.mk _ rfl true true _ (dC) rfl ?_
      repeat refine vs ?_
      conv => whnf
      refine CallS.mk _ rfl true true _ (dF) rfl ?_
      repeat refine vs ?_
      conv => whnf
      refine CallS.mk _ rfl true true _ (dO) rfl ?_
      repeat refine vs ?_
      conv => whnf
      refine CallS.mk _ rfl true true _ (dI) rfl ?_
      repeat refine vs ?_
      conv => whnf
      refine CallS.mk _ rfl true true _ (dA) rfl ?_
      repeat refine vs ?_
      conv => whnf
      refine CallS.mk _ rfl true true _ (dD) rfl ?_
      repeat refine vs ?_
      conv => whnf
      refine CallS.mk _ rfl true true _ (dT) rfl ?_
      repeat refine vs ?_
      conv => whnf
      first | rfl | exact ⟨rfl, rfl⟩ | exact ⟨by simp [toRes], rfl⟩
  · rw [if_neg h1] at ho
    have e2 : ¬ cmpI ((f + 1) * d) (c * 1) < 0 := by unfold cmpI; split <;> (try split) <;> omega
    simp only [Int.mul_one] at dA dD e2
    refine go Try.func47 rfl rfl ?_
    repeat refine vs ?_
    conv => whnf
    refine CallS.mk _ rfl true true _ (dB) rfl ?_
    repeat refine vs ?_
    conv => whnf
    refine CallS.mk _ rfl true true _ (dC) rfl ?_
    repeat refine vs ?_
    conv => whnf
    refine CallS.mk _ rfl true false _ (dF) rfl ?_
    repeat refine vs ?_
    conv => whnf
    refine CallS.mk _ rfl true false _ (dO) rfl ?_
    repeat refine vs ?_
    conv => whnf
    refine CallS.mk _ rfl true true _ (dI) rfl ?_
    repeat refine vs ?_
    conv => whnf
    refine CallS.mk _ rfl true false _ (dA) rfl ?_
    repeat refine vs ?_
    conv => whnf
    refine CallS.mk _ rfl true true _ (dD) rfl ?_
    repeat refine vs ?_
    conv => whnf
    refine EVs.loopU (fun q : Nat × Int × Int × Int × Int => q.1 ≤ 200 ∧ 0 < q.2.2.1 ∧ 0 < q.2.2.2.2 ∧ Lm.ln q.2.1 ≤ 42 + q.1 ∧ Lm.ln q.2.2.1 ≤ 42 + q.1 ∧ Lm.ln q.2.2.2.1 ≤ 42 + q.1 ∧ Lm.ln q.2.2.2.2 ≤ 42 + q.1 ∧ oV (sb a b c d (200 - q.1) q.2.1 q.2.2.1 q.2.2.2.1 q.2.2.2.2) = o) (fun q => 200 - q.1)
      (fun | (i, p, q, r, s) => [(8, .v false [.p (.int .i64 (i : Int))]), (6, .box (6, 0) [.p (.bool (decide (p < 0))), .p (.ints (Lm.lim p.natAbs)), .p (.bool (decide (q < 0))), .p (.ints (Lm.lim q.natAbs))] 0), (7, .box (7, 0) [.p (.bool (decide (r < 0))), .p (.ints (Lm.lim r.natAbs)), .p (.bool (decide (s < 0))), .p (.ints (Lm.lim s.natAbs))] 0)]) (0, f, 1, f + 1, 1) ⟨by dsimp only; omega, by dsimp only; omega, by dsimp only; omega, by dsimp only; omega, by dsimp only; omega, by dsimp only; omega, by dsimp only; omega, ho⟩ (Wk.le (by repeat' (first | exact LeT.nil | refine LeT.drop1 ?_ | refine LeT.same1 ?_ | refine LeT.own1 ?_ | refine LeT.ownR ?_))) ?_
    rintro ⟨i, p, q, r, s⟩ ⟨hi, hq, hs, lp, lq, lr, ls, hsb⟩
    dsimp only at hi hq hs lp lq lr ls hsb
    refine go1 ?_
    repeat refine vs ?_
    conv => whnf
    by_cases h2 : (i : Int) < 200
    · have lm : Lm.ln (p + r) ≤ 42 + (i + 1) := Lm.ln_add p r (k := 42 + i) lp lr
      have ln : Lm.ln (q + s) ≤ 42 + (i + 1) := Lm.ln_add q s (k := 42 + i) lq ls
      have dP := l1Add_den p r (by omega) (by omega)
      have dQ := l1Add_den q s (by omega) (by omega)
      have dM1 := l2Cmp_den (p + r) (q + s) a b (by omega) (by omega) (by omega) (by omega) (by omega) (by omega)
      have dM2 := l2Cmp_den (p + r) (q + s) c d (by omega) (by omega) (by omega) (by omega) (by omega) (by omega)
      have dT := l2Fits_den (p + r) (q + s) (by omega) (by omega) (by omega)
      rw [show 200 - i = (200 - (i + 1)) + 1 by omega] at hsb
      unfold sb at hsb
      repeat refine vs ?_
      conv => whnf
      refine CallS.mk _ rfl true false _ (dP) rfl ?_
      repeat refine vs ?_
      conv => whnf
      refine CallS.mk _ rfl true false _ (dQ) rfl ?_
      repeat refine vs ?_
      conv => whnf
      refine CallS.mk _ rfl true true _ (dM1) rfl ?_
      repeat refine vs ?_
      conv => whnf
      by_cases h3 : (p + r) * b ≤ a * (q + s)
      · have e3 : cmpI ((p + r) * b) (a * (q + s)) ≤ 0 := by unfold cmpI; split <;> (try split) <;> omega
        rw [if_pos h3] at hsb
        repeat refine vs ?_
        conv => whnf
        refine ⟨(i + 1, p + r, q + s, r, s), by simp only; omega, ⟨by simp only; omega, by simp only; omega, hs, lm, ln, by simp only; omega, by simp only; omega, hsb⟩, ?_⟩
        refine Wk.le ?_
        repeat' (first | exact LeT.nil | refine LeT.drop1 ?_ | refine LeT.same1 ?_ | refine LeT.own1 ?_ | refine LeT.ownR ?_)
      · have e3 : ¬ cmpI ((p + r) * b) (a * (q + s)) ≤ 0 := by unfold cmpI; split <;> (try split) <;> omega
        rw [if_neg h3] at hsb
        repeat refine vs ?_
        conv => whnf
        refine CallS.mk _ rfl true true _ (dM2) rfl ?_
        repeat refine vs ?_
        conv => whnf
        by_cases h4 : c * (q + s) ≤ (p + r) * d
        · have e4 : cmpI ((p + r) * d) (c * (q + s)) ≥ 0 := by unfold cmpI; split <;> (try split) <;> omega
          rw [if_pos h4] at hsb
          repeat refine vs ?_
          conv => whnf
          refine ⟨(i + 1, p, q, p + r, q + s), by simp only; omega, ⟨by simp only; omega, hq, by simp only; omega, by simp only; omega, by simp only; omega, lm, ln, hsb⟩, ?_⟩
          refine Wk.le ?_
          repeat' (first | exact LeT.nil | refine LeT.drop1 ?_ | refine LeT.same1 ?_ | refine LeT.own1 ?_ | refine LeT.ownR ?_)
        · have e4 : ¬ cmpI ((p + r) * d) (c * (q + s)) ≥ 0 := by unfold cmpI; split <;> (try split) <;> omega
          rw [if_neg h4] at hsb
          unfold fitRV at dT
          cases hf : fitR (p + r) (q + s) with
          | true =>
            rw [hf] at dT
            simp only [if_true] at dT
            rw [oV_t hf] at hsb
            subst hsb
            repeat refine vs ?_
            conv => whnf
            refine CallS.mk _ rfl true true _ (dT) rfl ?_
            repeat refine vs ?_
            conv => whnf
            first | rfl | exact ⟨rfl, rfl⟩ | exact ⟨by simp [toRes], rfl⟩
          | false =>
            rw [hf] at dT
            simp only [Bool.false_eq_true, if_false] at dT
            rw [oV_f hf] at hsb
            subst hsb
            repeat refine vs ?_
            conv => whnf
            refine CallS.mk _ rfl true true _ (dT) rfl ?_
            repeat refine vs ?_
            conv => whnf
            first | rfl | exact ⟨rfl, rfl⟩ | exact ⟨by simp [toRes], rfl⟩
    · have : i = 200 := by omega
      subst this
      have ho2 : o = (false, [], false, [], false) := by rw [← hsb]; simp [sb, oV]
      subst ho2
      repeat refine vs ?_
      conv => whnf
      first | rfl | exact ⟨rfl, rfl⟩ | exact ⟨by simp [toRes], rfl⟩
theorem simplestI_den (o : Q5) (ho : oV (if (flo a b + 1) * d < c then some (flo a b + 1, 1) else sb a b c d 200 (flo a b) 1 (flo a b + 1) 1) = o) :
    D 48 [ratV a b, ratV c d] true (.tup [ratR o.1 o.2.1 o.2.2.1 o.2.2.2.1, bP o.2.2.2.2]) := by
  have l1 : Lm.ln 1 ≤ 4 := ln64 (by omega) (by omega)
  have lf := ln_flo a b
  have dR := areRats2_den (decide (a < 0)) (Lm.lim a.natAbs) (decide (b < 0)) (Lm.lim b.natAbs) (decide (c < 0)) (Lm.lim c.natAbs) (decide (d < 0)) (Lm.lim d.natAbs) (Nat.le_trans ha (by decide)) (Nat.le_trans hbl (by decide)) (Nat.le_trans hc (by decide)) (Nat.le_trans hdl (by decide))
  rw [g1, g2] at dR
  have dC := less_den a b c d (by omega) (by omega) (by omega) (by omega) (by omega) (by omega)
  rw [decide_eq_true hlt] at dC
  have dF := floor_den a b (by omega) (by omega) (by omega)
  generalize flo a b = f at *
  have dO := ofBig_den f (by omega)
  have dI := whole_den 1 (by omega) (by omega)
  have lf1 : Lm.ln (f + 1) ≤ 42 := Lm.ln_add f 1 (k := 41) (by omega) (by omega)
  have dA := ratAdd_den f 1 1 1 (by omega) (by omega) (by omega) (by omega) (by omega) (by omega)
  have ea : addN f 1 1 1 = f + 1 := by unfold addN; omega
  have eg : Int.gcd (f + 1) (1 * 1) = 1 := by simp
  rw [ea, nN_one eg (by omega), dN_one eg (by omega)] at dA
  have dD := less_den (f + 1) 1 c d (by omega) (by omega) (by omega) (by omega) (by omega) (by omega)
  simp only [Int.mul_one] at dA dD
  by_cases h1 : (f + 1) * d < c
  · rw [if_pos h1] at ho
    rw [decide_eq_true h1] at dD
    have dT := checkedRat_m (f + 1) 1 (by omega) (by omega)
    cases hf : fitR (f + 1) 1 with
    | true =>
      rw [hf] at dT
      simp only [if_true] at dT
      rw [oV_t hf] at ho
      subst ho
      refine go Try.func48 rfl rfl ?_
      repeat refine vs ?_
      conv => whnf
      refine NewK.mk false ?_
      repeat refine vs ?_
      conv => whnf
      refine CallS.mk _ rfl true true _ (dR) rfl ?_
      repeat refine vs ?_
      conv => whnf
      refine CallS.mk _ rfl true true _ (dC) rfl ?_
      repeat refine vs ?_
      conv => whnf
      refine CallS.mk _ rfl true true _ (dF) rfl ?_
      repeat refine vs ?_
      conv => whnf
      refine CallS.mk _ rfl true true _ (dO) rfl ?_
      repeat refine vs ?_
      conv => whnf
      refine CallS.mk _ rfl true true _ (dI) rfl ?_
      repeat refine vs ?_
      conv => whnf
      refine CallS.mk _ rfl true true _ (dA) rfl ?_
      repeat refine vs ?_
      conv => whnf
      refine CallS.mk _ rfl true true _ (dD) rfl ?_
      repeat refine vs ?_
      conv => whnf
      refine MutS.mk _ rfl _ rfl _ _ (dT) ?_
      repeat refine vs ?_
      conv => whnf
      first | rfl | exact ⟨rfl, rfl⟩ | exact ⟨by simp [toRes], rfl⟩
    | false =>
      rw [hf] at dT
      simp only [Bool.false_eq_true, if_false] at dT
      rw [oV_f hf] at ho
      subst ho
      refine go Try.func48 rfl rfl ?_
      repeat refine vs ?_
      conv => whnf
      refine NewK.mk false ?_
      repeat refine vs ?_
      conv => whnf
      refine CallS.mk _ rfl true true _ (dR) rfl ?_
      repeat refine vs ?_
      conv => whnf
      refine CallS.mk _ rfl true true _ (dC) rfl ?_
      repeat refine vs ?_
      conv => whnf
      refine CallS.mk _ rfl true true _ (dF) rfl ?_
      repeat refine vs ?_
      conv => whnf
      refine CallS.mk _ rfl true true _ (dO) rfl ?_
      repeat refine vs ?_
      conv => whnf
      refine CallS.mk _ rfl true true _ (dI) rfl ?_
      repeat refine vs ?_
      conv => whnf
      refine CallS.mk _ rfl true true _ (dA) rfl ?_
      repeat refine vs ?_
      conv => whnf
      refine CallS.mk _ rfl true true _ (dD) rfl ?_
      repeat refine vs ?_
      conv => whnf
      refine MutS.mk _ rfl _ rfl _ _ (dT) ?_
      repeat refine vs ?_
      conv => whnf
      first | rfl | exact ⟨rfl, rfl⟩ | exact ⟨by simp [toRes], rfl⟩
  · rw [if_neg h1] at ho
    rw [decide_eq_false h1] at dD
    refine go Try.func48 rfl rfl ?_
    repeat refine vs ?_
    conv => whnf
    refine NewK.mk false ?_
    repeat refine vs ?_
    conv => whnf
    refine CallS.mk _ rfl true true _ (dR) rfl ?_
    repeat refine vs ?_
    conv => whnf
    refine CallS.mk _ rfl true true _ (dC) rfl ?_
    repeat refine vs ?_
    conv => whnf
    refine CallS.mk _ rfl true true _ (dF) rfl ?_
    repeat refine vs ?_
    conv => whnf
    refine CallS.mk _ rfl true false _ (dO) rfl ?_
    repeat refine vs ?_
    conv => whnf
    refine CallS.mk _ rfl true true _ (dI) rfl ?_
    repeat refine vs ?_
    conv => whnf
    refine CallS.mk _ rfl true false _ (dA) rfl ?_
    repeat refine vs ?_
    conv => whnf
    refine CallS.mk _ rfl true true _ (dD) rfl ?_
    repeat refine vs ?_
    conv => whnf
    refine EVs.loopU (fun q : Nat × Int × Int × Int × Int => q.1 ≤ 200 ∧ (0 < q.2.2.1 ∧ 0 < q.2.2.2.2 ∧ q.2.2.2.1 * q.2.2.1 - q.2.1 * q.2.2.2.2 = 1) ∧ Lm.ln q.2.1 ≤ 42 + q.1 ∧ Lm.ln q.2.2.1 ≤ 42 + q.1 ∧ Lm.ln q.2.2.2.1 ≤ 42 + q.1 ∧ Lm.ln q.2.2.2.2 ≤ 42 + q.1 ∧ oV (sb a b c d (200 - q.1) q.2.1 q.2.2.1 q.2.2.2.1 q.2.2.2.2) = o) (fun q => 200 - q.1)
      (fun | (i, p, q, r, s) => [(34, .v false [.p (.int .i64 (i : Int))]), (6, .box (6, 0) [.p (.bool (decide (p < 0))), .p (.ints (Lm.lim p.natAbs)), .p (.bool (decide (q < 0))), .p (.ints (Lm.lim q.natAbs))] 0), (7, .box (7, 0) [.p (.bool (decide (r < 0))), .p (.ints (Lm.lim r.natAbs)), .p (.bool (decide (s < 0))), .p (.ints (Lm.lim s.natAbs))] 0)]) (0, f, 1, f + 1, 1) ⟨by dsimp only; omega, ⟨by dsimp only; omega, by dsimp only; omega, by dsimp only; omega⟩, by dsimp only; omega, by dsimp only; omega, by dsimp only; omega, by dsimp only; omega, ho⟩ (Wk.le (by repeat' (first | exact LeT.nil | refine LeT.drop1 ?_ | refine LeT.same1 ?_ | refine LeT.own1 ?_ | refine LeT.ownR ?_))) ?_
    rintro ⟨i, p, q, r, s⟩ ⟨hi, ⟨hq, hs, huni⟩, lp, lq, lr, ls, hsb⟩
    dsimp only at hi hq hs huni lp lq lr ls hsb
    refine go1 ?_
    repeat refine vs ?_
    conv => whnf
    by_cases h2 : (i : Int) < 200
    · have lm : Lm.ln (p + r) ≤ 42 + (i + 1) := Lm.ln_add p r (k := 42 + i) lp lr
      have ln : Lm.ln (q + s) ≤ 42 + (i + 1) := Lm.ln_add q s (k := 42 + i) lq ls
      have u1 : (p + r) * q - (q + s) * p = 1 := by rw [Int.add_mul, Int.add_mul, Int.mul_comm q p, Int.mul_comm s p]; omega
      have ug := gcd_of_comb u1
      have u2 : r * (q + s) - (p + r) * s = 1 := by rw [Int.mul_add, Int.add_mul]; omega
      have u3 : (p + r) * q - p * (q + s) = 1 := by rw [Int.mul_comm p]; exact u1
      have dP := add_den p r (by omega) (by omega)
      have dQ := add_den q s (by omega) (by omega)
      have dN := ratOf_den (p + r) (q + s) (by omega) (by omega) (by omega)
      rw [nN_one ug (by omega), dN_one ug (by omega)] at dN
      have dM1 := less_den a b (p + r) (q + s) (by omega) (by omega) (by omega) (by omega) (by omega) (by omega)
      have dM2 := less_den (p + r) (q + s) c d (by omega) (by omega) (by omega) (by omega) (by omega) (by omega)
      have dT := checkedRat_m (p + r) (q + s) (by omega) (by omega)
      rw [show 200 - i = (200 - (i + 1)) + 1 by omega] at hsb
      unfold sb at hsb
      repeat refine vs ?_
      conv => whnf
      refine CallS.mk _ rfl true false _ (dP) rfl ?_
      repeat refine vs ?_
      conv => whnf
      refine CallS.mk _ rfl true false _ (dQ) rfl ?_
      repeat refine vs ?_
      conv => whnf
      refine CallS.mk _ rfl true true _ (dN) rfl ?_
      repeat refine vs ?_
      conv => whnf
      by_cases h3 : (p + r) * b ≤ a * (q + s)
      · rw [if_pos h3] at hsb
        have e3 : ¬ a * (q + s) < (p + r) * b := by omega
        rw [decide_eq_false e3] at dM1
        refine CallS.mk _ rfl true true _ (dM1) rfl ?_
        repeat refine vs ?_
        conv => whnf
        refine ⟨(i + 1, p + r, q + s, r, s), by simp only; omega, ⟨by simp only; omega, ⟨by simp only; omega, hs, u2⟩, lm, ln, by simp only; omega, by simp only; omega, hsb⟩, ?_⟩
        refine Wk.trans (Wk.unown (46, 1) rfl) (Wk.trans (Wk.unown (46, 3) rfl) ?_)
        refine Wk.le ?_
        repeat' (first | exact LeT.nil | refine LeT.drop1 ?_ | refine LeT.same1 ?_ | refine LeT.own1 ?_ | refine LeT.ownR ?_)
      · rw [if_neg h3] at hsb
        have e3 : a * (q + s) < (p + r) * b := by omega
        rw [decide_eq_true e3] at dM1
        refine CallS.mk _ rfl true true _ (dM1) rfl ?_
        repeat refine vs ?_
        conv => whnf
        by_cases h4 : c * (q + s) ≤ (p + r) * d
        · rw [if_pos h4] at hsb
          have e4 : ¬ (p + r) * d < c * (q + s) := by omega
          rw [decide_eq_false e4] at dM2
          refine CallS.mk _ rfl true true _ (dM2) rfl ?_
          repeat refine vs ?_
          conv => whnf
          refine ⟨(i + 1, p, q, p + r, q + s), by simp only; omega, ⟨by simp only; omega, ⟨hq, by simp only; omega, u3⟩, by simp only; omega, by simp only; omega, lm, ln, hsb⟩, ?_⟩
          refine Wk.trans (Wk.unown (46, 1) rfl) (Wk.trans (Wk.unown (46, 3) rfl) ?_)
          refine Wk.le ?_
          repeat' (first | exact LeT.nil | refine LeT.drop1 ?_ | refine LeT.same1 ?_ | refine LeT.own1 ?_ | refine LeT.ownR ?_)
        · rw [if_neg h4] at hsb
          have e4 : (p + r) * d < c * (q + s) := by omega
          rw [decide_eq_true e4] at dM2
          refine CallS.mk _ rfl true true _ (dM2) rfl ?_
          repeat refine vs ?_
          conv => whnf
          cases hf : fitR (p + r) (q + s) with
          | true =>
            rw [hf] at dT
            simp only [if_true] at dT
            rw [oV_t hf] at hsb
            subst hsb
            repeat refine vs ?_
            conv => whnf
            refine MutS.mk _ rfl _ rfl _ _ (dT) ?_
            repeat refine vs ?_
            conv => whnf
            first | rfl | exact ⟨rfl, rfl⟩ | exact ⟨by simp [toRes], rfl⟩
          | false =>
            rw [hf] at dT
            simp only [Bool.false_eq_true, if_false] at dT
            rw [oV_f hf] at hsb
            subst hsb
            repeat refine vs ?_
            conv => whnf
            refine MutS.mk _ rfl _ rfl _ _ (dT) ?_
            repeat refine vs ?_
            conv => whnf
            first | rfl | exact ⟨rfl, rfl⟩ | exact ⟨by simp [toRes], rfl⟩
    · have : i = 200 := by omega
      subst this
      have ho2 : o = (false, [], false, [], false) := by rw [← hsb]; simp [sb, oV]
      subst ho2
      repeat refine vs ?_
      conv => whnf
      first | rfl | exact ⟨rfl, rfl⟩ | exact ⟨by simp [toRes], rfl⟩
end

theorem simplestInBoth (n0 : Bool) (l0 : List Int) (p0 : Bool) (q0 : List Int) (n1 : Bool) (l1 : List Int) (p1 : Bool) (q1 : List Int) (h1 : l0.length ≤ 1000000000000) (h2 : q0.length ≤ 1000000000000) (h3 : l1.length ≤ 1000000000000) (h4 : q1.length ≤ 1000000000000) :
    ∃ n r p s b, r.length ≤ 1000000 ∧ s.length ≤ 1000000 ∧ D 47 [ratR n0 l0 p0 q0, ratR n1 l1 p1 q1] false (.tup [ratR n r p s, bP b]) ∧ D 48 [ratR n0 l0 p0 q0, ratR n1 l1 p1 q1] true (.tup [ratR n r p s, bP b]) := by
  have dB := l2Both_den n0 l0 p0 q0 n1 l1 p1 q1 h1 h2 h3 h4
  have dR := areRats2_den n0 l0 p0 q0 n1 l1 p1 q1 h1 h2 h3 h4
  cases hg : goodR n0 l0 p0 q0 && goodR n1 l1 p1 q1 with
  | false =>
    rw [hg] at dB dR
    refine ⟨false, [], false, [], false, by simp, by simp, go Try.func47 rfl rfl ?_, go Try.func48 rfl rfl ?_⟩
    · repeat refine vs ?_
      conv => whnf
      refine CallS.mk _ rfl true true _ (dB) rfl ?_
      repeat refine vs ?_
      conv => whnf
      first | rfl | exact ⟨rfl, rfl⟩ | exact ⟨by simp [toRes], rfl⟩
    · repeat refine vs ?_
      conv => whnf
      refine NewK.mk false ?_
      repeat refine vs ?_
      conv => whnf
      refine CallS.mk _ rfl true true _ (dR) rfl ?_
      repeat refine vs ?_
      conv => whnf
      first | rfl | exact ⟨rfl, rfl⟩ | exact ⟨by simp [toRes], rfl⟩
  | true =>
    rw [Bool.and_eq_true] at hg
    obtain ⟨g1, g2⟩ := hg
    obtain ⟨a, b, rfl, rfl, rfl, rfl, ha, hbl, hb, _⟩ := goodR_ex g1
    obtain ⟨c, d, rfl, rfl, rfl, rfl, hc, hdl, hd, _⟩ := goodR_ex g2
    by_cases hlt : a * d < c * b
    · have hs := oV_short (if (flo a b + 1) * d < c then some (flo a b + 1, 1) else sb a b c d 200 (flo a b) 1 (flo a b + 1) 1)
      exact ⟨(oV (if (flo a b + 1) * d < c then some (flo a b + 1, 1) else sb a b c d 200 (flo a b) 1 (flo a b + 1) 1)).1, (oV (if (flo a b + 1) * d < c then some (flo a b + 1, 1) else sb a b c d 200 (flo a b) 1 (flo a b + 1) 1)).2.1, (oV (if (flo a b + 1) * d < c then some (flo a b + 1, 1) else sb a b c d 200 (flo a b) 1 (flo a b + 1) 1)).2.2.1, (oV (if (flo a b + 1) * d < c then some (flo a b + 1, 1) else sb a b c d 200 (flo a b) 1 (flo a b + 1) 1)).2.2.2.1, (oV (if (flo a b + 1) * d < c then some (flo a b + 1, 1) else sb a b c d 200 (flo a b) 1 (flo a b + 1) 1)).2.2.2.2, hs.1, hs.2, simplestS_den a b c d hb hd ha hbl hc hdl g1 g2 hlt _ rfl, simplestI_den a b c d hb hd ha hbl hc hdl g1 g2 hlt _ rfl⟩
    · rw [g1, g2] at dB dR
      have dC := l2Cmp_den a b c d (by omega) (by omega) (by omega) (by omega) (by omega) (by omega)
      have dL := less_den a b c d (by omega) (by omega) (by omega) (by omega) (by omega) (by omega)
      rw [decide_eq_false hlt] at dL
      have e1 : cmpI (a * d) (c * b) ≥ 0 := by unfold cmpI; split <;> (try split) <;> omega
      refine ⟨false, [], false, [], false, by simp, by simp, go Try.func47 rfl rfl ?_, go Try.func48 rfl rfl ?_⟩
      · repeat refine vs ?_
        conv => whnf
        refine CallS.mk _ rfl true true _ (dB) rfl ?_
        repeat refine vs ?_
        conv => whnf
        refine CallS.mk _ rfl true true _ (dC) rfl ?_
        repeat refine vs ?_
        conv => whnf
        first | rfl | exact ⟨rfl, rfl⟩ | exact ⟨by simp [toRes], rfl⟩
      · repeat refine vs ?_
        conv => whnf
        refine NewK.mk false ?_
        repeat refine vs ?_
        conv => whnf
        refine CallS.mk _ rfl true true _ (dR) rfl ?_
        repeat refine vs ?_
        conv => whnf
        refine CallS.mk _ rfl true true _ (dL) rfl ?_
        repeat refine vs ?_
        conv => whnf
        first | rfl | exact ⟨rfl, rfl⟩ | exact ⟨by simp [toRes], rfl⟩
end Go.Vx
