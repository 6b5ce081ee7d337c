/- TermsOf: continued fractions. -/
import Derived.Test.YtpmgjmkobpeepaaT1
set_option linter.unusedVariables false
set_option linter.unusedSectionVars false
set_option linter.unusedSimpArgs false
namespace Go.Vx
open Go.Proofs
set_option maxRecDepth 100000

/-- The terms of a continued fraction, so many at most. -/
def termsF : Nat → Int → Int → Option (List Int)
  | 0, _, _ => none
  | k + 1, n, d => if n % d = 0 then some [n / d] else (termsF k d (n % d)).map (n / d :: ·)
def bF (z : Int) : RawB := ⟨decide (z < 0), Lm.lim z.natAbs⟩
def lowB (K : Nat) (n d : Int) : Prop := 0 < d ∧ Int.gcd n d = 1 ∧ Lm.ln n ≤ K ∧ Lm.ln d ≤ K
theorem ln_le {x y : Int} (h : x.natAbs ≤ y.natAbs) : Lm.ln x ≤ Lm.ln y := Lm.ln_mono h
theorem ediv_abs {n d : Int} (hd : 0 < d) : (n / d).natAbs ≤ n.natAbs := Int.natAbs_ediv_le_natAbs n d
theorem gcd_mod {n d : Int} (h : Int.gcd n d = 1) : Int.gcd (n % d) d = 1 := by
  have h1 := Int.gcd_add_mul_left_left d (n % d) (n / d)
  rw [Int.emod_add_mul_ediv] at h1
  rw [← h1]
  exact h
theorem sub_floor {n d : Int} (hd : 0 < d) (h : Int.gcd n d = 1) : nN (addN n d (-(n / d)) 1) (d * 1) = n % d ∧ dN (addN n d (-(n / d)) 1) (d * 1) = d := by
  have e : addN n d (-(n / d)) 1 = n % d := by
    unfold addN
    have := Int.emod_add_mul_ediv n d
    grind
  rw [e, Int.mul_one]
  exact nd_self hd (gcd_mod h)
theorem inv_low {n d : Int} (hn : 0 < n) (h : Int.gcd n d = 1) : nN (1 * d) (1 * n) = d ∧ dN (1 * d) (1 * n) = n := by
  rw [Int.one_mul, Int.one_mul]
  exact nd_self hn (by rw [Int.gcd_comm]; exact h)
def termsV (n d : Int) : List RawB := match termsF 60 n d with
  | some l => l.map bF
  | none => []
theorem l2Terms_den (l : List Int) (hl : l.length ≤ 1000) (hq : ∀ z ∈ l, Lm.ln z ≤ 40) : D 24 [(false, [.arr 2 ((l.map bF).map cellB)])] false (.tup [(false, [.arr 2 ((l.map bF).map cellB)]), bP true]) := by
  have hll : ((l.map bF).map cellB).length = l.length := by simp
  refine go Try.func24 rfl rfl ?_
  repeat refine vs ?_
  conv => whnf
  refine EVs.loopU (fun i : Nat => i ≤ l.length) (fun i => l.length - i) (fun i => [(8, .v false [.p (.int .i64 (i : Int))])]) 0 (by omega) (Wk.le (by repeat' (first | exact LeT.nil | refine LeT.drop1 ?_ | refine LeT.same1 ?_ | refine LeT.own1 ?_ | refine LeT.ownR ?_ | (refine LeT.deepR ?_ rfl)))) ?_
  intro i hi
  refine go1 ?_
  repeat refine vs ?_
  conv => whnf
  by_cases h1 : (i : Int) < ((l.map bF).map cellB).length
  · have hlt : i < l.length := by omega
    have hz := hq l[i] (List.getElem_mem hlt)
    have hget : ((l.map bF).map cellB)[i]? = some (cellB (bF l[i])) := by rw [List.getElem?_map, List.getElem?_map, List.getElem?_eq_getElem hlt]; rfl
    generalize l[i] = z at *
    have hzl : (bF z).l.length ≤ 40 := hz
    repeat refine vs ?_
    conv => whnf
    first | refine Idx.mk (i) (by first | rfl | omega) (by omega) ?_ | skip
    repeat refine vs ?_
    conv => whnf
    refine LdR.mk (cellB (bF z)) hget ?_
    repeat refine vs ?_
    conv => whnf
    refine ⟨i + 1, by omega, by omega, ?_⟩
    refine Wk.le ?_
    repeat' (first | exact LeT.nil | refine LeT.drop1 ?_ | refine LeT.same1 ?_ | refine LeT.own1 ?_ | refine LeT.ownR ?_ | (refine LeT.deepR ?_ rfl))
  · repeat refine vs ?_
    conv => whnf
    first | rfl | exact ⟨rfl, rfl⟩ | exact ⟨by simp [toRes], rfl⟩
section
variable (n d : Int) (h : lowB 40 n d)
include h
theorem termsI_loop : ∀ (gI : D 28 [ratV n d] true (.one (bP true))), D 8 [ratV n d] true (.tup [(false, [.arr 2 ((termsV n d).map cellB)]), bP (termsF 60 n d).isSome]) := by
  intro gI
  refine goN2 2 Try.func8 rfl rfl ?_
  repeat refine vs ?_
  conv => whnf
  refine CallS.mk _ rfl true true _ (gI) rfl ?_
  repeat refine vs ?_
  conv => whnf
  refine NewK.mk true ?_
  repeat refine vs ?_
  conv => whnf
  refine EVs.loopU (fun s : Nat × List Int × Int × Int => s.2.1.length + s.1 = 60 ∧ lowB 40 s.2.2.1 s.2.2.2 ∧ (termsF s.1 s.2.2.1 s.2.2.2).map (s.2.1 ++ ·) = termsF 60 n d) (fun s => s.1)
    (fun | (_, l, a, b) => [(1, .box (1, 0) [.p (.bool (decide (a < 0))), .p (.ints (Lm.lim a.natAbs)), .p (.bool (decide (b < 0))), .p (.ints (Lm.lim b.natAbs))] 0), (4, .v false [.deep (9, 0) 3 2 ((l.map bF).map cellB)]), (9, .any)]) (60, [], n, d) ⟨rfl, h, by simp⟩ ?_ ?_
  · refine Wk.le ?_
    repeat' (first | exact LeT.nil | refine LeT.drop1 ?_ | refine LeT.same1 ?_ | refine LeT.own1 ?_ | refine LeT.ownR ?_ | (refine LeT.deepR ?_ rfl))
  rintro ⟨k, l, a, b⟩ ⟨hk, hab, hinv⟩
  dsimp only at hk hab hinv
  obtain ⟨b1, b2, b3, b4⟩ := hab
  have hll : ((l.map bF).map cellB).length = l.length := by simp
  have dF := floor_den a b (by omega) (by omega) (by omega)
  rw [flo_ediv b1] at dF
  have hf : Lm.ln (a / b) ≤ 40 := Nat.le_trans (ln_le (ediv_abs b1)) b3
  have dG := goodI_den (decide (a / b < 0)) (Lm.lim (a / b).natAbs) (Nat.le_trans hf (by omega))
  rw [goodB_true (Lm.good_lim hf)] at dG
  have dO := ofBig_den (a / b) (by omega)
  have dS := ratSub_den a b (a / b) 1 (by omega) (by omega) (by omega) (by omega) (by omega) (show Lm.ln 1 ≤ 40000000000 from Nat.le_trans (ln64 (by decide) (by decide)) (by omega))
  obtain ⟨e1, e2⟩ := sub_floor b1 b2
  rw [e1, e2] at dS
  have hr0 : 0 ≤ a % b := Int.emod_nonneg _ (by omega)
  have hrl : Lm.ln (a % b) ≤ 40 := Nat.le_trans (ln_le (by have := Int.emod_lt_of_pos a b1; omega)) b4
  have hrg := gcd_mod b2
  have dZ := ratSign_den (a % b) b (by omega)
  have dW := whole_den 1 (by omega) (by omega)
  refine go1 ?_
  repeat refine vs ?_
  conv => whnf
  refine CallS.mk _ rfl true true _ (dF) rfl ?_
  repeat refine vs ?_
  conv => whnf
  cases k with
  | zero =>
    have hn : termsF 60 n d = none := by rw [← hinv]; rfl
    unfold termsV
    rw [hn]
    have h60 : l.length = 60 := by omega
    repeat refine vs ?_
    conv => whnf
    first | rfl | exact ⟨rfl, rfl⟩ | exact ⟨by simp [toRes], rfl⟩
  | succ k =>
    have hlt : ¬ (((l.map bF).map cellB).length : Int) = 60 := by omega
    have hrow : (l.map bF).map cellB ++ [[.bool (decide (a / b < 0)), .ints (Lm.lim (a / b).natAbs)]] = ((l ++ [a / b]).map bF).map cellB := by simp [bF, cellB]
    repeat refine vs ?_
    conv => whnf
    refine CallS.mk _ rfl true true _ (dG) rfl ?_
    repeat refine vs ?_
    conv => whnf
    rw [hrow]
    repeat refine vs ?_
    conv => whnf
    refine CallS.mk _ rfl true false _ (dO) rfl ?_
    repeat refine vs ?_
    conv => whnf
    refine CallS.mk _ rfl true false _ (dS) rfl ?_
    repeat refine vs ?_
    conv => whnf
    refine CallS.mk _ rfl true true _ (dZ) rfl ?_
    repeat refine vs ?_
    conv => whnf
    by_cases hz : a % b = 0
    · have hsome : termsF 60 n d = some (l ++ [a / b]) := by
        rw [← hinv]
        unfold termsF
        rw [if_pos hz]
        rfl
      unfold termsV
      rw [hsome]
      have h2 : cmpI (a % b) 0 = 0 := by rw [hz]; rfl
      repeat refine vs ?_
      conv => whnf
      first | rfl | exact ⟨rfl, rfl⟩ | exact ⟨by simp [toRes], rfl⟩
    · have h2 : ¬ cmpI (a % b) 0 = 0 := by rcases cmpI_sgn (a % b) with h | h | h <;> omega
      have dD := ratDiv_den 1 1 (a % b) b (by omega) (by omega) (show Lm.ln 1 ≤ 40000000000 from Nat.le_trans (ln64 (by decide) (by decide)) (by omega)) (show Lm.ln 1 ≤ 40000000000 from Nat.le_trans (ln64 (by decide) (by decide)) (by omega)) (by omega) (by omega) hz
      obtain ⟨e3, e4⟩ := inv_low (n := a % b) (d := b) (by omega) hrg
      rw [e3, e4] at dD
      repeat refine vs ?_
      conv => whnf
      refine CallS.mk _ rfl true false _ (dW) rfl ?_
      repeat refine vs ?_
      conv => whnf
      refine CallS.mk _ rfl true false _ (dD) rfl ?_
      repeat refine vs ?_
      conv => whnf
      refine ⟨(k, l ++ [a / b], b, a % b), by dsimp only; omega, ⟨by simp; omega, ⟨by dsimp only; omega, by dsimp only; rw [Int.gcd_comm]; exact hrg, b4, hrl⟩, ?_⟩, ?_⟩
      · rw [← hinv]
        dsimp only
        conv => rhs; unfold termsF
        rw [if_neg hz, Option.map_map]
        congr 1
        funext q
        simp
      · refine Wk.le ?_
        repeat' (first | exact LeT.nil | refine LeT.drop1 ?_ | refine LeT.same1 ?_ | refine LeT.own1 ?_ | refine LeT.ownR ?_ | (refine LeT.deepR ?_ rfl))
theorem termsS_loop : ∀ (gS : D 20 [ratV n d] true (.one (bP true))), D 6 [ratV n d] false (.tup [(false, [.arr 2 ((termsV n d).map cellB)]), bP (termsF 60 n d).isSome]) := by
  intro gS
  refine goP2 2 Try.func6 rfl rfl ?_
  repeat refine vs ?_
  conv => whnf
  refine CallS.mk _ rfl true true _ (gS) rfl ?_
  repeat refine vs ?_
  conv => whnf
  refine EVs.un (60, 0) ?_
  refine EVs.loopU (fun s : Nat × List Int × Int × Int => s.2.1.length + s.1 = 60 ∧ (∀ z ∈ s.2.1, Lm.ln z ≤ 40) ∧ lowB 40 s.2.2.1 s.2.2.2 ∧ (termsF s.1 s.2.2.1 s.2.2.2).map (s.2.1 ++ ·) = termsF 60 n d) (fun s => s.1)
    (fun | (_, l, a, b) => [(1, .box (1, 0) [.p (.bool (decide (a < 0))), .p (.ints (Lm.lim a.natAbs)), .p (.bool (decide (b < 0))), .p (.ints (Lm.lim b.natAbs))] 0), (4, .v false [.own (60, 0) 31 (.arr 2 ((l.map bF).map cellB))])]) (60, [], n, d) ⟨rfl, (fun z hz => by cases hz), h, by simp⟩ ?_ ?_
  · refine Wk.le ?_
    repeat' (first | exact LeT.nil | refine LeT.drop1 ?_ | refine LeT.same1 ?_ | refine LeT.own1 ?_ | refine LeT.ownR ?_ | (refine LeT.deepR ?_ rfl))
  rintro ⟨k, l, a, b⟩ ⟨hk, hlz, hab, hinv⟩
  dsimp only at hk hlz hab hinv
  obtain ⟨b1, b2, b3, b4⟩ := hab
  have hll : ((l.map bF).map cellB).length = l.length := by simp
  have dF := l2Floor_den a b (by omega) (by omega) (by omega)
  rw [flo_ediv b1] at dF
  have hf : Lm.ln (a / b) ≤ 40 := Nat.le_trans (ln_le (ediv_abs b1)) b3
  have dB := bigOfS_den 1 (by omega) (by omega)
  have dS := l2Sub_den a b (a / b) 1 (by omega) (by omega) (by omega) (by omega) (by omega) (show Lm.ln 1 ≤ 40000000000 from Nat.le_trans (ln64 (by decide) (by decide)) (by omega))
  obtain ⟨e1, e2⟩ := sub_floor b1 b2
  rw [e1, e2] at dS
  have hr0 : 0 ≤ a % b := Int.emod_nonneg _ (by omega)
  have hrl : Lm.ln (a % b) ≤ 40 := Nat.le_trans (ln_le (by have := Int.emod_lt_of_pos a b1; omega)) b4
  have hrg := gcd_mod b2
  have dI := l2Int_den 1 (by omega) (by omega)
  refine go1 ?_
  repeat refine vs ?_
  conv => whnf
  cases k with
  | zero =>
    have hn : termsF 60 n d = none := by rw [← hinv]; rfl
    unfold termsV
    rw [hn]
    have h60 : l.length = 60 := by omega
    repeat refine vs ?_
    conv => whnf
    first | rfl | exact ⟨rfl, rfl⟩ | exact ⟨by simp [toRes], rfl⟩
  | succ k =>
    have hlt : (((l.map bF).map cellB).length : Int) < 60 := by omega
    have hrow : (l.map bF).map cellB ++ [[.bool (decide (a / b < 0)), .ints (Lm.lim (a / b).natAbs)]] = ((l ++ [a / b]).map bF).map cellB := by simp [bF, cellB]
    have hlz2 : ∀ z ∈ l ++ [a / b], Lm.ln z ≤ 40 := fun z hz => by
      rcases List.mem_append.1 hz with hz | hz
      · exact hlz z hz
      · rw [List.mem_singleton] at hz; rw [hz]; exact hf
    have dT := l2Terms_den (l ++ [a / b]) (by simp; omega) hlz2
    by_cases hz : a % b = 0
    · have hsome : termsF 60 n d = some (l ++ [a / b]) := by
        rw [← hinv]
        unfold termsF
        rw [if_pos hz]
        rfl
      have h3 : (Lm.lim (a % b).natAbs).length = 0 := by rw [hz]; show (Lm.lim 0).length = 0; rw [Lm.lim_zero]; rfl
      unfold termsV
      rw [hsome]
      repeat refine vs ?_
      conv => whnf
      refine CallS.mk _ rfl true false _ (dF) rfl ?_
      repeat refine vs ?_
      conv => whnf
      refine NewK.mk false ?_
      repeat refine vs ?_
      conv => whnf
      refine NewK.mk false ?_
      repeat refine vs ?_
      conv => whnf
      rw [hrow]
      repeat refine vs ?_
      conv => whnf
      refine CallS.mk _ rfl true false _ (dB) rfl ?_
      repeat refine vs ?_
      conv => whnf
      refine CallS.mk _ rfl true false _ (dS) rfl ?_
      repeat refine vs ?_
      conv => whnf
      refine CallS.mk _ rfl false false _ (dT) rfl ?_
      repeat refine vs ?_
      conv => whnf
      first | rfl | exact ⟨rfl, rfl⟩ | exact ⟨by simp [toRes], rfl⟩
    · have h3 : ¬ (Lm.lim (a % b).natAbs).length = 0 := by rw [List.length_eq_zero_iff, Lm.lim_eq_nil]; omega
      have dD := l2Div_den 1 1 (a % b) b (by omega) (by omega) (show Lm.ln 1 ≤ 40000000000 from Nat.le_trans (ln64 (by decide) (by decide)) (by omega)) (show Lm.ln 1 ≤ 40000000000 from Nat.le_trans (ln64 (by decide) (by decide)) (by omega)) (by omega) (by omega) hz
      obtain ⟨e3, e4⟩ := inv_low (n := a % b) (d := b) (by omega) hrg
      rw [e3, e4] at dD
      repeat refine vs ?_
      conv => whnf
      refine CallS.mk _ rfl true false _ (dF) rfl ?_
      repeat refine vs ?_
      conv => whnf
      refine NewK.mk false ?_
      repeat refine vs ?_
      conv => whnf
      refine NewK.mk true ?_
      repeat refine vs ?_
      conv => whnf
      rw [hrow]
      repeat refine vs ?_
      conv => whnf
      refine CallS.mk _ rfl true false _ (dB) rfl ?_
      repeat refine vs ?_
      conv => whnf
      refine CallS.mk _ rfl true false _ (dS) rfl ?_
      repeat refine vs ?_
      conv => whnf
      refine CallS.mk _ rfl true false _ (dI) rfl ?_
      repeat refine vs ?_
      conv => whnf
      refine CallS.mk _ rfl true false _ (dD) rfl ?_
      repeat refine vs ?_
      conv => whnf
      refine ⟨(k, l ++ [a / b], b, a % b), by dsimp only; omega, ⟨by simp; omega, hlz2, ⟨by dsimp only; omega, by dsimp only; rw [Int.gcd_comm]; exact hrg, b4, hrl⟩, ?_⟩, ?_⟩
      · rw [← hinv]
        dsimp only
        conv => rhs; unfold termsF
        rw [if_neg hz, Option.map_map]
        congr 1
        funext q
        simp
      · refine Wk.le ?_
        repeat' (first | exact LeT.nil | refine LeT.drop1 ?_ | refine LeT.same1 ?_ | refine LeT.own1 ?_ | refine LeT.ownR ?_ | (refine LeT.deepR ?_ rfl))
end
theorem termsF_ok : ∀ {k : Nat} {n d : Int} {l : List Int}, lowB 40 n d → termsF k n d = some l → l.length ≤ k ∧ ∀ z ∈ l, Lm.ln z ≤ 40
  | 0, _, _, _, _, h => by cases h
  | k + 1, n, d, l, hb, h => by
    have hf : Lm.ln (n / d) ≤ 40 := Nat.le_trans (ln_le (ediv_abs hb.1)) hb.2.2.1
    unfold termsF at h
    split at h
    · cases h
      exact ⟨by simp, fun z hz => by rw [List.mem_singleton] at hz; rw [hz]; exact hf⟩
    · rename_i hz
      obtain ⟨q, hq, rfl⟩ := Option.map_eq_some_iff.1 h
      have hr0 : 0 ≤ n % d := Int.emod_nonneg _ (by have := hb.1; omega)
      have := termsF_ok (k := k) ⟨by omega, by rw [Int.gcd_comm]; exact gcd_mod hb.2.1, hb.2.2.2, Nat.le_trans (ln_le (by have := Int.emod_lt_of_pos n hb.1; omega)) hb.2.2.2⟩ hq
      refine ⟨by rw [List.length_cons]; omega, fun z hz => ?_⟩
      rcases List.mem_cons.1 hz with rfl | hz
      · exact hf
      · exact this.2 z hz
theorem termsOfBoth (n : Bool) (l : List Int) (p : Bool) (q : List Int) (hl : l.length ≤ 1000000000000) (hq : q.length ≤ 1000000000000) :
    ∃ rr b, shortB 1048576 rr ∧ D 6 [ratR n l p q] false (.tup [bigsQ rr, bP b]) ∧ D 8 [ratR n l p q] true (.tup [bigsQ rr, bP b]) := by
  have gS := goodRatS_den n l p q hl hq
  have gI := goodRatI_den n l p q hl hq
  cases hg : goodR n l p q with
  | false =>
    rw [hg] at gS gI
    refine ⟨[], false, ⟨by simp, fun r hr => by cases hr⟩, goP2 2 Try.func6 rfl rfl ?_, goN2 2 Try.func8 rfl rfl ?_⟩
    · repeat refine vs ?_
      conv => whnf
      refine CallS.mk _ rfl true true _ (gS) rfl ?_
      repeat refine vs ?_
      conv => whnf
      first | rfl | exact ⟨rfl, rfl⟩ | exact ⟨by simp [toRes], rfl⟩
    · repeat refine vs ?_
      conv => whnf
      refine CallS.mk _ rfl true true _ (gI) rfl ?_
      repeat refine vs ?_
      conv => whnf
      first | rfl | exact ⟨rfl, rfl⟩ | exact ⟨by simp [toRes], rfl⟩
  | true =>
    rw [hg] at gS gI
    obtain ⟨x, y, rfl, rfl, rfl, rfl, h1, h2, h3, h4⟩ := goodR_ex hg
    have hb : lowB 40 x y := ⟨h3, h4, h1, h2⟩
    have dS := termsS_loop x y hb gS
    have dI := termsI_loop x y hb gI
    refine ⟨termsV x y, _, ?_, dS, dI⟩
    unfold termsV
    cases ht : termsF 60 x y with
    | none => exact ⟨by simp, fun r hr => by cases hr⟩
    | some w =>
      obtain ⟨w1, w2⟩ := termsF_ok hb ht
      refine ⟨by simp; omega, fun r hr => ?_⟩
      obtain ⟨z, hz, rfl⟩ := List.mem_map.1 hr
      exact Nat.le_trans (w2 z hz) (by omega)
end Go.Vx
