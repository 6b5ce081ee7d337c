/- Chapter 1: the program's long division. -/
import Derived.Test.YtpmgjmkobpeepaaGreatBGf
import Derived.Test.YtpmgjmkobpeepaaGreatVGg
set_option linter.unusedVariables false
set_option linter.unusedSectionVars false
set_option linter.unusedSimpArgs false
namespace Go.Vx
open Go.Proofs
set_option maxRecDepth 100000

/-- A number times a small one that keeps its top limb one has as many limbs. -/
theorem lim_mul_len {n : Nat} {c : Nat} (h : Lm.lim n ≠ []) (hc : 1 ≤ c) (hl : (Lm.lim n).length - 1 < (Lm.lim n).length) (ht : ((Lm.lim n)[(Lm.lim n).length - 1] + 1) * c ≤ 65536) : (Lm.lim (n * c)).length = (Lm.lim n).length := by
 refine Nat.le_antisymm ?_ (lim_le (Nat.le_mul_of_pos_right n (by omega)))
 rw [Lm.lim_length]
 have e := Lm.val_split (l := Lm.lim n) (i := (Lm.lim n).length - 1) hl
 rw [List.drop_of_length_le (by omega), Lm.val_lim] at e
 simp only [Lm.val, Int.mul_zero, Int.add_zero] at e
 have h1 := Lm.val_lt ((Lm.lim_dig n).take ((Lm.lim n).length - 1))
 rw [List.length_take, Nat.min_eq_left (by omega)] at h1
 have e2 : Lm.pw (Lm.lim n).length = 65536 * Lm.pw ((Lm.lim n).length - 1) := by
  rw [← Lm.pw_succ]
  congr 1
  omega
 rw [e2, Int.natCast_mul, e]
 have hP := Lm.pw_pos ((Lm.lim n).length - 1)
 generalize (Lm.lim n)[(Lm.lim n).length - 1] = t at *
 generalize Lm.val ((Lm.lim n).take ((Lm.lim n).length - 1)) = x at *
 generalize Lm.pw ((Lm.lim n).length - 1) = P at *
 have h3 : (x + P * t) * (c : Int) < (P * (t + 1)) * c := Int.mul_lt_mul_of_pos_right (by grind) (by omega)
 have h4 : P * ((t + 1) * c) ≤ P * 65536 := Int.mul_le_mul_of_nonneg_left ht (by omega)
 grind
theorem bigV_nat (n : Nat) : bigV (n : Int) = rawV false (Lm.lim n) := by
 unfold bigV
 rw [decide_eq_false (by omega), Int.natAbs_natCast]
theorem val_snoc0 (l : List Int) : Lm.val (l ++ [0]) = Lm.val l := by rw [Lm.val_snoc]; simp

set_option maxHeartbeats 16000000 in
theorem divLimbs_den (m n : Nat) (hn : n ≠ 0) (hlm : (Lm.lim m).length ≤ 100000000000) (hln : (Lm.lim n).length ≤ 100000000000) :
  D 187 [lP (Lm.lim m), lP (Lm.lim n)] false (.tup [lP (Lm.lim (m / n)), lP (Lm.lim (m % n))]) := by
 have hbn : Lm.lim n ≠ [] := fun e => hn (Lm.lim_eq_nil.1 e)
 have hbl := List.length_pos_iff.2 hbn
 have dCmp := compareLimbs_den _ _ (Lm.lim_can m) (Lm.lim_can n) (by omega) (by omega)
 rw [cmpI_lim] at dCmp
 have hlt : (Lm.lim n).length - 1 < (Lm.lim n).length := by omega
 have htop := lim_top hbn hlt
 have htopl := (Lm.lim_dig n).get hlt
 have g0 := List.getElem?_eq_getElem hlt
 refine go Tryz.func187 rfl rfl ?_
 repeat refine vs ?_
 conv => whnf
 refine CallS.mk _ rfl true true _ (dCmp) rfl ?_
 repeat refine vs ?_
 conv => whnf
 by_cases c1 : m < n
 ·have h1 : cmpI (m : Int) n < 0 := by unfold cmpI; rw [if_pos (by omega)]; omega
  rw [Nat.div_eq_of_lt c1, Nat.mod_eq_of_lt c1, Lm.lim_zero]
  repeat refine vs ?_
  conv => whnf
  first | rfl | exact ⟨rfl, rfl⟩ | exact ⟨by simp [toRes], rfl⟩
 ·have h1 : ¬ cmpI (m : Int) n < 0 := by have := cmpI_ge (m := m) (n := n); omega
  have hmn : (Lm.lim n).length ≤ (Lm.lim m).length := lim_le (by omega)
  repeat refine vs ?_
  conv => whnf
  by_cases c2 : ((Lm.lim n).length : Int) = 1
  ·have hb1 : Lm.lim n = [(n : Int)] := by
    have hv := Lm.val_lim n
    match h : Lm.lim n with
    | [] => exact absurd h hbn
    | [x] => rw [h, Lm.val_single] at hv; rw [hv]
    | x :: y :: r => rw [h] at c2; simp at c2; omega
   have hn1 : (n : Int) < 65536 := by
    have := (Lm.lim_dig n) (n : Int) (by rw [hb1]; exact List.mem_cons_self)
    omega
   have dS := divSmall_den (Lm.lim m) n (Lm.lim_dig m) (by omega) (by omega) (by omega)
   rw [Lm.val_lim, ← Int.natCast_ediv, ← Int.natCast_emod, Int.toNat_natCast] at dS
   have dC := cut_den [((m % n : Nat) : Int)] (by simp)
   have hmod : m % n < n := Nat.mod_lt _ (by omega)
   rw [one_lim (by omega) (by omega), Int.toNat_natCast] at dC
   have gb : (Lm.lim n)[0]? = some (n : Int) := by rw [hb1]; rfl
   repeat refine vs ?_
   conv => whnf
   first | refine Idx.mk (0) (by first | rfl | omega) (by omega) ?_ | skip
   repeat refine vs ?_
   conv => whnf
   first | refine LdI.mk (_) (gb) ?_ | skip
   repeat refine vs ?_
   conv => whnf
   refine CallS.mk _ rfl false false _ (dS) rfl ?_
   repeat refine vs ?_
   conv => whnf
   refine NewK.mk false ?_
   repeat refine vs ?_
   conv => whnf
   refine CallS.mk _ rfl false false _ (dC) rfl ?_
   repeat refine vs ?_
   conv => whnf
   first | rfl | exact ⟨rfl, rfl⟩ | exact ⟨by simp [toRes], rfl⟩
  ·-- both are made greater
   have hby1 : 65536 / ((Lm.lim n)[(Lm.lim n).length - 1] + 1) = (((65536 / ((Lm.lim n)[(Lm.lim n).length - 1] + 1)).toNat : Nat) : Int) := (Int.toNat_of_nonneg (Int.ediv_nonneg (by omega) (by omega))).symm
   have hby2 : ((Lm.lim n)[(Lm.lim n).length - 1] + 1) * (65536 / ((Lm.lim n)[(Lm.lim n).length - 1] + 1)) ≤ 65536 := Int.mul_ediv_self_le (by omega)
   have hby3 : 1 ≤ 65536 / ((Lm.lim n)[(Lm.lim n).length - 1] + 1) := (Int.le_ediv_iff_mul_le (by omega)).2 (by omega)
   have hby4 : 65536 / ((Lm.lim n)[(Lm.lim n).length - 1] + 1) ≤ 65536 := Int.ediv_le_self _ (by omega)
   have td0 : (65536 : Int).tdiv ((Lm.lim n)[(Lm.lim n).length - 1] + 1) = 65536 / ((Lm.lim n)[(Lm.lim n).length - 1] + 1) := (tdmb (by omega)).2
   rw [hby1] at hby2 hby3 hby4 td0
   have hb0 : (Lm.lim n)[(Lm.lim n).length - 1] + 1 ≠ 0 := by omega
   generalize (65536 / ((Lm.lim n)[(Lm.lim n).length - 1] + 1)).toNat = c at *
   have hvlen := lim_mul_len hbn (by omega) hlt hby2
   have hnc : n * c ≠ 0 := Nat.mul_ne_zero hn (by omega)
   have hbn2 : Lm.lim (n * c) ≠ [] := fun e => hnc (Lm.lim_eq_nil.1 e)
   have dM : ∀ x : Nat, (Lm.lim x).length ≤ 100000000000 → D 137 [rawV false (Lm.lim x), rawV false (Lm.lim c)] true (.one (rawV false (Lm.lim (x * c)))) := fun x hx => by
    have hc4 : (Lm.lim c).length ≤ 4 := Lm.lim64 (by omega)
    have := mul_den (x : Int) (c : Int) (by unfold Lm.ln; simp; omega) (by unfold Lm.ln; simp; omega)
    rw [← Int.natCast_mul, bigV_nat, bigV_nat, bigV_nat] at this
    exact this
   have dMm := dM m hlm
   have dMn := dM n hln
   have dBc := bigOfI_den (c : Int) (by omega) (by omega)
   rw [bigV_nat] at dBc
   have dBm : D 148 [bP false, lP (Lm.lim m)] true (.one (rawV false (Lm.lim m))) := by
    have := bigOf_den false (Lm.lim m) (by omega)
    rwa [Lm.cut_lim] at this
   have dBn : D 148 [bP false, lP (Lm.lim n)] true (.one (rawV false (Lm.lim n))) := by
    have := bigOf_den false (Lm.lim n) (by omega)
    rwa [Lm.cut_lim] at this
   have hulen : (Lm.lim m).length ≤ (Lm.lim (m * c)).length := lim_le (Nat.le_mul_of_pos_right m (by omega))
   have hulen2 : (Lm.lim (m * c)).length ≤ 100000000004 := by
    have hc4 : (Lm.lim c).length ≤ 4 := Lm.lim64 (by omega)
    have := mul_len (m : Int) (c : Int)
    simp only [Int.natAbs_natCast, Lm.ln] at this
    omega
   have pack : ∃ u0 w : List Int, Lm.lim (m * c) ++ [0] = u0 ∧ Lm.lim (n * c) = w ∧ Lm.Dig w ∧ w.length = (Lm.lim n).length ∧ (∀ h : w.length - 1 < w.length, 1 ≤ w[w.length - 1]) ∧ 0 < Lm.val w ∧ (Lm.lim m).length + 1 ≤ u0.length ∧ u0.length ≤ 100000000005 ∧
     Lm.DivIn (Lm.val u0) (Lm.val w) u0.length u0 (List.replicate (u0.length - (Lm.lim n).length) 0) (u0.length - (Lm.lim n).length) ∧
     (∀ qq uu : List Int, Lm.val qq = Lm.val u0 / Lm.val w ∧ Lm.val uu = Lm.val u0 % Lm.val w → Lm.val qq = ((m / n : Nat) : Int) ∧ Lm.val uu = (((m % n) * c : Nat) : Int)) := by
    refine ⟨_, _, rfl, rfl, Lm.lim_dig _, hvlen, fun h => lim_top hbn2 h, by rw [Lm.val_lim]; omega, by simp; omega, by simp; omega, ?_, ?_⟩
    ·refine Lm.DivIn.start ((Lm.lim_dig _).append (Lm.Dig.cons (by omega) (by omega) Lm.Dig.nil)) (Lm.lim_dig m) (Lm.lim_can n) hbn (k := (c : Int)) (by omega) ?_ ?_ (by simp; omega) (by simp) (Lm.Dig.replicate _) (by rw [List.drop_of_length_le (by simp)]; rfl)
     ·rw [val_snoc0, Lm.val_lim, Lm.val_lim, Int.natCast_mul, Int.mul_comm]
     ·rw [Lm.val_lim, Lm.val_lim, Int.natCast_mul, Int.mul_comm]
    ·intro qq uu ⟨h1, h2⟩
     rw [h1, h2, val_snoc0, Lm.val_lim, Lm.val_lim, ← Int.natCast_ediv, ← Int.natCast_emod]
     constructor
     ·rw [Nat.mul_div_mul_right _ _ (by omega)]
     ·rw [Nat.mul_mod_mul_right]
   obtain ⟨u0, w, hu0, hw0, hdv, hvl, hvt, hVpos, hul, hul2, hst, hfin⟩ := pack
   repeat refine vs ?_
   conv => whnf
   first | refine Idx.mk (((Lm.lim n).length - 1)) (by first | rfl | omega) (by omega) ?_ | skip
   repeat refine vs ?_
   conv => whnf
   rw [td0]
   repeat refine vs ?_
   conv => whnf
   refine CallS.mk _ rfl true true _ (dBm) rfl ?_
   repeat refine vs ?_
   conv => whnf
   refine CallS.mk _ rfl true true _ (dBc) rfl ?_
   repeat refine vs ?_
   conv => whnf
   refine CallS.mk _ rfl true true _ (dMm) rfl ?_
   repeat refine vs ?_
   conv => whnf
   refine NewK.mk false ?_
   repeat refine vs ?_
   conv => whnf
   rw [hu0]
   repeat refine vs ?_
   conv => whnf
   refine CallS.mk _ rfl true true _ (dBn) rfl ?_
   repeat refine vs ?_
   conv => whnf
   refine CallS.mk _ rfl true true _ (dBc) rfl ?_
   repeat refine vs ?_
   conv => whnf
   refine CallS.mk _ rfl true true _ (dMn) rfl ?_
   repeat refine vs ?_
   conv => whnf
   rw [hw0]
   repeat refine vs ?_
   conv => whnf
   refine EVs.loopU (fun _ : Unit => True) (fun _ => 0) (fun _ => []) () True.intro Wk.fg ?_
   rintro _ _
   refine go1 ?_
   repeat refine vs ?_
   conv => whnf
   have hnl : ¬ ((u0.length : Int) < (Lm.lim m).length + 1) := by omega
   repeat refine vs ?_
   conv => whnf
   refine MakeK.mk (u0.length - (Lm.lim n).length) (by omega) (by omega) (by omega) true ?_
   repeat refine vs ?_
   conv => whnf
   refine EVs.un (56, 1) ?_
   refine EVs.un (79, 0) ?_
   refine EVs.loopU (fun t : Nat × Int × List Int × List Int => t.1 ≤ u0.length - (Lm.lim n).length ∧ t.2.1 = (t.1 : Int) - 1 ∧ t.2.2.2.length = u0.length - (Lm.lim n).length ∧ Lm.DivIn (Lm.val u0) (Lm.val w) u0.length t.2.2.1 t.2.2.2 t.1) (fun t => t.1)
    (fun | (k, i, x, q) => [(13, .v false [.p (.int .i64 i)]), (10, .v false [.own (56, 1) 3 (.ints x)]), (59, .any), (66, .any), (75, .any), (80, .any), (12, .v false [.own (79, 0) 3 (.ints q)]), (79, .any)]) (u0.length - (Lm.lim n).length, (u0.length : Int) - (Lm.lim n).length - 1, u0, List.replicate (u0.length - (Lm.lim n).length) 0) ⟨by simp, by simp only; omega, by simp, hst⟩ Wk.fg ?_
   rintro ⟨k, i, x, q⟩ ⟨hk, hi, hql, hin⟩
   dsimp only at hk hi hql hin
   have hxl := hin.lu
   refine go1 ?_
   repeat refine vs ?_
   conv => whnf
   by_cases c4 : i ≥ 0
   ·obtain ⟨j, rfl⟩ : ∃ j, k = j + 1 := ⟨k - 1, by omega⟩
    have hij : i = (j : Int) := by omega
    subst hij
    have hjl : j + w.length < x.length := by omega
    have hW := hin.win (by omega)
    have hwin : Lm.val (x.drop j) < Lm.pw (w.length + 1) := by
     have := Lm.val_lt hdv
     rw [Lm.pw_succ]
     omega
    have lead := Lm.Lead.of hin.du hdv (by omega) hjl (hvt (by omega)) hwin
    have k1 := hdv.get (show w.length - 1 < w.length by omega)
    have k2 := hdv.get (show w.length - 2 < w.length by omega)
    have k3 := hin.du.get (show j + w.length - 2 < x.length by omega)
    have k4 := hin.du.get (show j + w.length - 1 < x.length by omega)
    have k5 := hin.du.get hjl
    have k6 := hvt (by omega)
    have g1 := List.getElem?_eq_getElem (show w.length - 1 < w.length by omega)
    have g2 := List.getElem?_eq_getElem (show w.length - 2 < w.length by omega)
    have g3 := List.getElem?_eq_getElem (show j + w.length - 2 < x.length by omega)
    have g4 := List.getElem?_eq_getElem (show j + w.length - 1 < x.length by omega)
    have g5 := List.getElem?_eq_getElem hjl
    have ex5 : ∃ z, x[j + w.length] = z := ⟨_, rfl⟩
    obtain ⟨xt, hxt⟩ := ex5
    generalize w[w.length - 1] = v1 at *
    generalize w[w.length - 2] = v2 at *
    generalize x[j + w.length - 2] = u2 at *
    generalize x[j + w.length - 1] = u1 at *
    generalize hx0 : x[j + w.length] = xx at *
    subst hxt
    have htop2 : 0 ≤ xx * 65536 + u1 ∧ xx * 65536 + u1 ≤ 4294967295 := by omega
    obtain ⟨t1, t2⟩ := tdmb (b := v1) htop2.1
    have hq0 : 0 ≤ (xx * 65536 + u1) / v1 := Int.ediv_nonneg htop2.1 (by omega)
    have hstg := Lm.GuessIn.start lead
    have hv10 : v1 ≠ 0 := by omega
    have hqb : (xx * 65536 + u1) / v1 ≤ 4294967295 := by
     have := Int.ediv_le_self v1 htop2.1
     omega
    have hrb := Int.emod_nonneg (xx * 65536 + u1) hv10
    have hrb2 := Int.emod_lt_of_pos (xx * 65536 + u1) (show 0 < v1 by omega)
    rw [hvl] at g1 g2 g3 g4 g5
    repeat refine vs ?_
    conv => whnf
    first | refine Idx.mk ((j + (Lm.lim n).length - 1)) (by first | rfl | omega) (by omega) ?_ | skip
    repeat refine vs ?_
    conv => whnf
    first | refine Idx.mk (((Lm.lim n).length - 1)) (by first | rfl | omega) (by omega) ?_ | skip
    repeat refine vs ?_
    conv => whnf
    first | refine Idx.mk (((Lm.lim n).length - 1)) (by first | rfl | omega) (by omega) ?_ | skip
    repeat refine vs ?_
    conv => whnf
    refine Eqz.mk _ t1 ?_
    repeat refine vs ?_
    conv => whnf
    refine EVs.loopX 4 (fun s : Int × Int => Lm.GuessIn (Lm.val w) (Lm.val (x.drop j)) v1 (xx * 65536 + u1) s.1 s.2 ∧ s.1 ≤ 4294967295 ∧ s.2 ≤ 4294967295) (fun s => s.1.toNat)
     (fun | (d, r) => [(15, .v false [.p (.int .i64 d)]), (16, .v false [.p (.int .i64 r)])]) ((xx * 65536 + u1).tdiv v1, (xx * 65536 + u1) % v1) ⟨by simp only; rw [t2]; exact hstg, by simp only; omega, by simp only; omega⟩ Wk.fg
     (fun d : Int => Lm.GuessOk (Lm.val w) (Lm.val (x.drop j)) d) (fun d => [(15, .v false [.p (.int .i64 d)]), (16, .any)]) ?_ ?_
    rotate_left
    ·intro d hg
     have q0 := hg.q0
     have q1 := hg.q1
     repeat refine vs ?_
     conv => whnf
     refine EVs.loopU (fun s : Nat × Int × List Int => s.1 ≤ w.length ∧ Lm.SubRow x s.2.2 w j s.1 d s.2.1) (fun s => w.length - s.1)
      (fun | (i, bo, y) => [(154, .v false [.p (.int .i64 (i : Int))]), (17, .v false [.p (.int .i64 bo)]), (10, .v false [.own (56, 1) 3 (.ints y)]), (89, .any), (93, .any), (96, .any), (101, .any)]) (0, 0, x) ⟨by simp, Lm.SubRow.start hin.du⟩ Wk.fg ?_
     rintro ⟨i, bo, y⟩ ⟨hi, hs⟩
     dsimp only at hi hs
     have hyl := hs.len
     have l0 := hs.l0
     have l9 := hs.l1
     refine go1 ?_
     repeat refine vs ?_
     conv => whnf
     by_cases e1 : (i : Int) < (Lm.lim n).length
     ·have hlt2 : j + i < y.length := by omega
      obtain ⟨p0, p1, pneg, ppos⟩ := hs.step ⟨q0, q1⟩ hdv hlt2 rfl
      have gy := List.getElem?_eq_getElem hlt2
      have gw := getD_at (show i < w.length by omega)
      have hyd := hs.dig.get hlt2
      repeat refine vs ?_
      conv => whnf
      by_cases e2 : y[j + i] - d * w.getD i 0 - bo < 0
      ·have td : (-(y[j + i] - d * w.getD i 0 - bo) + 65536 - 1).tdiv 65536 = (-(y[j + i] - d * w.getD i 0 - bo) + 65535) / 65536 := by
        rw [(tdm (by omega)).2]
        congr 1
        omega
       repeat refine vs ?_
       conv => whnf
       rw [td]
       repeat refine vs ?_
       conv => whnf
       refine ⟨(i + 1, (-(y[j + i] - d * w.getD i 0 - bo) + 65535) / 65536, y.set (j + i) (y[j + i] - d * w.getD i 0 - bo + (-(y[j + i] - d * w.getD i 0 - bo) + 65535) / 65536 * 65536)), by simp only; omega, ⟨by simp only; omega, pneg e2⟩, ?_⟩
       exact Wk.fg
      ·repeat refine vs ?_
       conv => whnf
       refine ⟨(i + 1, 0, y.set (j + i) (y[j + i] - d * w.getD i 0 - bo)), by simp only; omega, ⟨by simp only; omega, ppos e2⟩, ?_⟩
       exact Wk.fg
     ·have hiw : i = w.length := by omega
      subst hiw
      have hyj : j + w.length < y.length := by omega
      have gy := List.getElem?_eq_getElem hyj
      have gy2 : (y.set (j + w.length) (y[j + w.length] - bo))[j + w.length]? = some (y[j + w.length] - bo) := set_self hyj
      have hyd := hs.dig.get hyj
      have hbk := fun (l : List Int) (cc : Int) h0 hb hk hll => Lm.div_backI hin.du hdv hjl hW hg (l := l) (c := cc) hs hyj h0 hb hk hll
      have hze := fun h0 => Lm.div_zeroI hin.du hdv hjl hW hg hs hyj h0
      have hsubI := Lm.div_subI hin.du hdv hjl hW hg hs hyj
      generalize y[j + w.length] = yt at *
      rw [hvl] at gy gy2
      repeat refine vs ?_
      conv => whnf
      by_cases e2 : yt - bo < 0
      ·have hset : y.set (j + (Lm.lim n).length) (yt - bo) = (y.set (j + (Lm.lim n).length) 0).set (j + (Lm.lim n).length) (yt - bo) := by rw [List.set_set]
       have htl : -65537 ≤ yt - bo := by omega
       have hd0 : Lm.Dig (y.set (j + w.length) 0) := hs.dig.set (by omega) (by omega)
       repeat refine vs ?_
       conv => whnf
       rw [hset]
       generalize yt - bo = t at *
       refine EVs.loopU (fun s : Nat × Int × List Int => s.1 ≤ w.length ∧ Lm.MulRow (y.set (j + w.length) 0) s.2.2 1 w j s.1 s.2.1 ∧ ∀ i, i < j → s.2.2[i]? = y[i]?) (fun s => w.length - s.1)
        (fun | (i, cc, l) => [(209, .v false [.p (.int .i64 (i : Int))]), (20, .v false [.p (.int .i64 cc)]), (10, .v false [.own (56, 1) 3 (.ints (l.set (j + (Lm.lim n).length) t))]), (190, .any), (194, .any), (198, .any), (199, .any), (203, .any)]) (0, 0, y.set (j + (Lm.lim n).length) 0)
        ⟨by simp, by simp only; rw [← hvl]; exact Lm.MulRow.start hd0, fun i hi => by simp only; rw [List.getElem?_set_ne (by omega)]⟩ Wk.fg ?_
       rintro ⟨i, cc, l⟩ ⟨hi, hb, hk2⟩
       dsimp only at hi hb hk2
       have hbl2 := hb.len
       rw [List.length_set] at hbl2
       have b0 := hb.c0
       have b9 := hb.c1
       refine go1 ?_
       repeat refine vs ?_
       conv => whnf
       by_cases e3 : (i : Int) < (Lm.lim n).length
       ·have hlt2 : j + i < l.length := by omega
        obtain ⟨p0, p1, p2, p3, pn⟩ := hb.step (by omega) hdv hlt2 rfl
        rw [Int.one_mul] at p0 p1 p2 p3 pn
        have gl : (l.set (j + (Lm.lim n).length) t)[j + i]? = some l[j + i] := by rw [List.getElem?_set_ne (by omega), List.getElem?_eq_getElem hlt2]
        have gw := getD_at (show i < w.length by omega)
        have hld := hb.dig.get hlt2
        have hwd := hdv.getD i
        have ec : cc + (l[j + i] + w.getD i 0) = l[j + i] + w.getD i 0 + cc := by omega
        obtain ⟨t3, t4⟩ := tdm p0
        have hnk : ∀ i', i' < j → (l.set (j + i) ((l[j + i] + w.getD i 0 + cc) % 65536))[i']? = y[i']? := fun i' hi' => by rw [List.getElem?_set_ne (by omega)]; exact hk2 i' hi'
        repeat refine vs ?_
        conv => whnf
        rw [ec]
        repeat refine vs ?_
        conv => whnf
        refine Eqz.mk _ t3 ?_
        repeat refine vs ?_
        conv => whnf
        refine ⟨(i + 1, (l[j + i] + w.getD i 0 + cc).tdiv 65536, l.set (j + i) ((l[j + i] + w.getD i 0 + cc) % 65536)), by simp only; omega, ⟨by simp only; omega, by simp only; rw [t4]; exact pn, hnk⟩, ?_⟩
        rw [List.set_comm _ _ (show j + (Lm.lim n).length ≠ j + i by omega)]
        exact Wk.fg
       ·have hiw : i = w.length := by omega
        subst hiw
        have hll : j + w.length < l.length := by omega
        obtain ⟨r1, r2, r3, r4, r5, r6, r7⟩ := hbk l cc e2 hb hk2 hll
        have gl : (l.set (j + (Lm.lim n).length) t)[j + (Lm.lim n).length]? = some t := set_self (by omega)
        have hnext := hin.step (d := d - 1) (by omega) (by omega) r2 (by simp; omega) r3 r4 r5 r6 r7
        rw [hvl] at hnext
        repeat refine vs ?_
        conv => whnf
        refine ⟨(j, (j : Int) - 1, l.set (j + (Lm.lim n).length) (t + cc), q.set j (d - 1)), by simp only; omega, ⟨by simp only; omega, rfl, by simpa using hql, hnext⟩, ?_⟩
        rw [List.set_set]
        exact Wk.fg
      ·obtain ⟨r1, r2, r3, r4⟩ := hze e2
       obtain ⟨_, r5⟩ := hsubI
       have hnext := hin.step (d := d) (by omega) (by omega) r1 (by simp; omega) r2 q0 r3 r5 r4
       rw [hvl] at hnext
       repeat refine vs ?_
       conv => whnf
       refine ⟨(j, (j : Int) - 1, y.set (j + (Lm.lim n).length) (yt - bo), q.set j d), by simp only; omega, ⟨by simp only; omega, rfl, by simpa using hql, hnext⟩, ?_⟩
       exact Wk.fg
    rintro ⟨d, r⟩ ⟨hgi, hdm, hrm⟩
    dsimp only at hgi hdm hrm
    have q0 := hgi.q0
    have r0 := hgi.r0
    have m0 : 0 ≤ d * v2 := Int.mul_nonneg q0 k2.1
    have m1 : d * v2 ≤ 4294967295 * 65535 := Int.mul_le_mul hdm (by omega) k2.1 (by omega)
    have rtop : r + v1 ≤ xx * 65536 + u1 ∨ d ≤ 0 := by
     by_cases hd0 : d ≤ 0
     ·exact .inr hd0
     ·left
      have e := hgi.eq
      have : 1 * v1 ≤ d * v1 := Int.mul_le_mul_of_nonneg_right (by omega) (by omega)
      omega
    have nxt : (65536 ≤ d ∨ d * v2 > r * 65536 + u2) → 0 < d ∧ Lm.GuessIn (Lm.val w) (Lm.val (x.drop j)) v1 (xx * 65536 + u1) (d - 1) (r + v1) := fun hc => hgi.next lead hW hc
    refine go1 ?_
    repeat refine vs ?_
    conv => whnf
    by_cases e1 : d ≥ 65536
    ·obtain ⟨n1, n2⟩ := nxt (.inl e1)
     repeat refine vs ?_
     conv => whnf
     first | refine Idx.mk (((Lm.lim n).length - 1)) (by first | rfl | omega) (by omega) ?_ | skip
     repeat refine vs ?_
     conv => whnf
     refine ⟨(d - 1, r + v1), by simp only; omega, ⟨n2, by simp only; omega, by simp only; omega⟩, ?_⟩
     exact Wk.fg
    ·by_cases e2 : r < 65536
     ·repeat refine vs ?_
      conv => whnf
      first | refine Idx.mk (((Lm.lim n).length - 2)) (by first | rfl | omega) (by omega) ?_ | skip
      repeat refine vs ?_
      conv => whnf
      first | refine Idx.mk ((j + (Lm.lim n).length - 2)) (by first | rfl | omega) (by omega) ?_ | skip
      repeat refine vs ?_
      conv => whnf
      by_cases e3 : d * v2 > r * 65536 + u2
      ·obtain ⟨n1, n2⟩ := nxt (.inr e3)
       repeat refine vs ?_
       conv => whnf
       first | refine Idx.mk (((Lm.lim n).length - 1)) (by first | rfl | omega) (by omega) ?_ | skip
       repeat refine vs ?_
       conv => whnf
       refine ⟨(d - 1, r + v1), by simp only; omega, ⟨n2, by simp only; omega, by simp only; omega⟩, ?_⟩
       exact Wk.fg
      ·repeat refine vs ?_
       conv => whnf
       refine ⟨d, hgi.done lead hW (.inr ⟨by omega, e3⟩), ?_⟩
       exact Wk.fg
     ·repeat refine vs ?_
      conv => whnf
      refine ⟨d, hgi.done lead hW (.inl (by omega)), ?_⟩
      exact Wk.fg
   ·have hk0 : k = 0 := by omega
    subst hk0
    obtain ⟨f1, f2⟩ := hfin _ _ (hin.done hVpos)
    have hlow : Lm.val (x.take (Lm.lim n).length) = Lm.val x := by
     have h2 := hin.hi
     rw [List.drop_zero] at h2
     have h3 := Lm.val_lt hdv
     rw [hvl] at h3
     have h4 := Lm.high_zero hin.du (m := (Lm.lim n).length) (by omega) (by omega)
     have h5 := Lm.val_td x (Lm.lim n).length (by omega)
     rw [h4] at h5
     omega
    have d1 := cut_den (x.take (Lm.lim n).length) (by simp; omega)
    rw [Lm.cut_eq (hin.du.take _), hlow, f2, Int.toNat_natCast] at d1
    have hxl2 : (Lm.lim ((m % n) * c)).length ≤ 500000000000 := by
     have := Lm.cut_length_le x
     rw [Lm.cut_eq hin.du, f2, Int.toNat_natCast] at this
     omega
    have d2 := divSmall_den (Lm.lim ((m % n) * c)) (c : Int) (Lm.lim_dig _) (by omega) (by omega) hxl2
    rw [Lm.val_lim, ← Int.natCast_ediv, Int.toNat_natCast, Nat.mul_div_cancel _ (by omega)] at d2
    have d3 := cut_den q (by omega)
    rw [Lm.cut_eq hin.dq, f1, Int.toNat_natCast] at d3
    repeat refine vs ?_
    conv => whnf
    refine SubK.mk (0) ((Lm.lim n).length) (by first | rfl | (show _ = _; omega)) (by first | rfl | (show _ = _; omega)) (by omega) (by omega) ?_
    repeat refine vs ?_
    conv => whnf
    refine CallS.mk _ rfl false false _ (d1) rfl ?_
    repeat refine vs ?_
    conv => whnf
    refine CallS.mk _ rfl false false _ (d2) rfl ?_
    repeat refine vs ?_
    conv => whnf
    refine CallS.mk _ rfl false false _ (d3) rfl ?_
    repeat refine vs ?_
    conv => whnf
    first | rfl | exact ⟨rfl, rfl⟩ | exact ⟨by simp [toRes], rfl⟩
end Go.Vx
