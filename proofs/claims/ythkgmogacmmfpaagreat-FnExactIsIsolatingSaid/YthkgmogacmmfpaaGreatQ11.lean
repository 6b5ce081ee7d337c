/- Sturm's chain and the number of roots, in the two programs. -/
import Derived.Test.YthkgmogacmmfpaaGreatQ10
set_option linter.unusedVariables false
set_option linter.unusedSectionVars false
set_option linter.unusedSimpArgs false
namespace Go.Vx
open Go.Proofs
set_option maxRecDepth 100000

theorem nilRR_le {l : Lab} {e : TypeId} {k : Nat} (hl : Nat.blt l.1 2000000 = true := by rfl) : LeF (.v false [.nil]) (.v false [.own l e (.arr k [])]) := fun F β w v h => by
  obtain ⟨x, hx, h⟩ := h
  cases hx
  exact ⟨_, rfl, ⟨rfl, PinR.low (by simpa using hl)⟩, .inl ⟨h, rfl⟩⟩
theorem chL_first {p q : List (Int × Int)} (h : q = []) : chL p q = [] := by rw [h]; rfl
theorem nextF_nil {p q : List (Int × Int)} (h : trimF (divF p q).2 = []) : nextF p q = [] := by unfold nextF; rw [h]; rfl

section
variable {p : List (Int × Int)} (hr : RootP p)
include hr
set_option maxHeartbeats 4000000 in
theorem rp_chain_I : D 116 [(false, [.arr 4 (p.map cellR)])] false (.one (false, [.arr 1 ((chainF p).map rowL)])) := by
  obtain ⟨F, f1, f2, f3, f4, f5, f6⟩ := hr.free
  have dF := hr.free_I
  have dV := derived_den (freeF p) (by omega) (f1.mono (by omega))
  have hl := derivF_len (freeF p)
  have hc := chainF_eq f2 f3
  generalize freeF p = f at *
  refine go Tryz.func116 rfl rfl ?_
  repeat refine vs ?_
  conv => whnf
  refine CallS.mk _ rfl false false _ (dF) rfl ?_
  repeat refine vs ?_
  conv => whnf
  refine NewK.mk true ?_
  repeat refine vs ?_
  conv => whnf
  refine CallS.mk _ rfl false false _ (dV) rfl ?_
  repeat refine vs ?_
  conv => whnf
  refine EVs.loopU (fun s : List (List (Int × Int)) × List (Int × Int) × List (Int × Int) × Nat × Nat × Nat => s.1.length + s.2.2.1.length ≤ 10 ∧ s.2.1.length ≤ 100 ∧ lowL s.2.1 ∧ lowL s.2.2.1 ∧ topF s.2.2.1 ∧ okL s.2.2.2.1 s.2.1 ∧ okL s.2.2.2.2.1 s.2.2.1 ∧ s.2.2.1.length ≤ s.2.2.2.2.2 ∧ eucB s.2.2.2.2.2 s.2.1.length s.2.2.1.length s.2.2.2.1 s.2.2.2.2.1 ≤ 900000000 ∧ s.1 ++ s.2.1 :: chL s.2.1 s.2.2.1 = chainF p) (fun s => s.2.2.1.length)
    (fun | (pre, a, b, _, _, _) => [(4, .v false [.own (60, 0) 32 (.arr 1 ((pre ++ [a]).map rowL))]), (5, .v false [.p (.arr 4 (b.map cellR))]), (11, .any)]) ([], f, derivF f, F, F + 1, 8) ⟨by dsimp only [List.length_nil]; omega, by dsimp only; omega, f2, derivF_low f2, derivF_top f2 f3, f1, derivF_sm f1 (by omega), by dsimp only; omega, by dsimp only; rw [hl]; exact f6, hc.symm⟩ ?_ ?_
  · refine Wk.trans (Wk.ren (11, 0) (60, 0)) ?_
    refine Wk.le ?_
    repeat' (first | exact LeT.nil | refine LeT.drop1 ?_ | refine LeT.same1 ?_ | refine LeT.own1 ?_ | refine LeT.ownR ?_ | (refine LeT.deepR ?_ rfl))
  rintro ⟨pre, a, b, A, B, g⟩ ⟨hpl, hal, la, lb, tb, oa, ob, hbg, hB, hinv⟩
  dsimp only at hpl hal la lb tb oa ob hbg hB hinv
  have hrl : (b.map cellR).length = b.length := by simp
  refine go1 ?_
  repeat refine vs ?_
  conv => whnf
  by_cases h : b = []
  · subst h
    rw [chL_nil] at hinv
    rw [hinv]
    repeat refine vs ?_
    conv => whnf
    first | rfl | exact ⟨rfl, rfl⟩ | exact ⟨by simp [toRes], rfl⟩
  · have hbn : 0 < b.length := List.length_pos_iff.2 h
    obtain ⟨g, rfl⟩ : ∃ n, g = n + 1 := ⟨g - 1, by omega⟩
    obtain ⟨n1, n2, n3⟩ := nextF_low la lb tb h
    have n4 := nextF_ok tb oa ob h
    obtain ⟨e1, e2⟩ := eucB_step (f := g) (m := a.length) (n := b.length) (j := (nextF a b).length) (R := A) (S := B) n3
    have dD := divided_den a b A B hal (by omega) oa ob h (tb h) (by omega)
    rw [chL_cons la lb tb h] at hinv
    have hinv2 : (pre ++ [a]) ++ b :: chL b (nextF a b) = chainF p := by rw [← hinv]; simp
    have h3 := (divF_ok oa ob h (tb h)).2
    have h4 : okL (szD B (a.length + 1 - b.length) A) (trimF (divF a b).2) := fun x hx => h3 x (trimF_sub hx)
    have t4 := topF_trim (divF a b).2
    have hnl := nextF_len a b
    have hnil := nextF_nil (p := a) (q := b)
    have hnx : nextF a b = scaleF (negA ((trimF (divF a b).2).getD ((trimF (divF a b).2).length - 1) (0, 1))) (trimF (divF a b).2) := rfl
    have hprl : ((pre ++ [a]).map rowL).length = pre.length + 1 := by simp
    have hrow : (pre ++ [a]).map rowL ++ [[.arr 4 (b.map cellR)]] = ((pre ++ [a]) ++ [b]).map rowL := by rw [List.map_append (l₁ := pre ++ [a])]; rfl
    have hprl2 : (((pre ++ [a]) ++ [b]).map rowL).length = pre.length + 2 := by simp
    have ga : (((pre ++ [a]) ++ [b]).map rowL)[pre.length]? = some (rowL a) := by simp
    generalize trimF (divF a b).2 = r at *
    generalize nextF a b = nx at *
    repeat refine vs ?_
    conv => whnf
    refine NewK.mk false ?_
    repeat refine vs ?_
    conv => whnf
    refine NewK.mk true ?_
    repeat refine vs ?_
    conv => whnf
    rw [hrow]
    repeat refine vs ?_
    conv => whnf
    first | refine Idx.mk (pre.length) (by first | rfl | omega) (by omega) ?_ | skip
    repeat refine vs ?_
    conv => whnf
    refine LdR.mk (rowL a) ga ?_
    repeat refine vs ?_
    conv => whnf
    refine CallS.mk _ rfl false false _ (dD) rfl ?_
    repeat refine vs ?_
    conv => whnf
    by_cases hr0 : r = []
    · have := hnil hr0
      subst this
      subst hr0
      repeat refine vs ?_
      conv => whnf
      refine ⟨(pre ++ [a], b, [], B, 2 * szD B (a.length + 1 - b.length) A, g), by dsimp only [List.length_nil]; omega, ⟨by simp; omega, by dsimp only; omega, lb, n1, n2, ob, n4, by dsimp only; omega, by dsimp only; omega, hinv2⟩, ?_⟩
      refine Wk.le ?_
      repeat' (first | exact LeT.nil | refine LeT.drop1 ?_ | refine LeT.same1 ?_ | refine LeT.own1 ?_ | refine LeT.ownR ?_ | (refine LeT.deepR ?_ rfl))
    · have hrn : 0 < r.length := List.length_pos_iff.2 hr0
      have hrc : (r.map cellR).length = r.length := by simp
      have hb := getD_ok h4 (r.length - 1) (by omega)
      have gb := getD_cell (l := r) (i := r.length - 1) (by omega)
      have h0 := t4 hr0
      have dS := scaledBy_den r (negA (r.getD (r.length - 1) (0, 1))) (by omega) (h4.mono (by omega)) ⟨hb.1, by show (Lm.lim (-((r.getD (r.length - 1) (0, 1)).1.natAbs : Int)).natAbs).length ≤ _; rw [Int.natAbs_neg, Int.natAbs_natCast]; exact Nat.le_trans hb.2.1 (by omega), Nat.le_trans hb.2.2 (by omega)⟩ (negA_ne h0)
      rw [← hnx] at dS
      generalize r.getD (r.length - 1) (0, 1) = c at *
      have dA := ratAbs_den c (hb.mono (by omega))
      have hca := absR_ok hb
      have dN := ratNeg_den (absR c).1 (absR c).2 hca.1 (Nat.le_trans hca.2.1 (by omega)) (Nat.le_trans hca.2.2 (by omega))
      repeat refine vs ?_
      conv => whnf
      first | refine Idx.mk ((r.length - 1)) (by first | rfl | omega) (by omega) ?_ | skip
      repeat refine vs ?_
      conv => whnf
      refine LdR.mk (cellR c) gb ?_
      repeat refine vs ?_
      conv => whnf
      refine CallS.mk _ rfl true false _ (dA) rfl ?_
      repeat refine vs ?_
      conv => whnf
      refine CallS.mk _ rfl true false _ (dN) rfl ?_
      repeat refine vs ?_
      conv => whnf
      refine CallS.mk _ rfl false false _ (dS) rfl ?_
      repeat refine vs ?_
      conv => whnf
      refine ⟨(pre ++ [a], b, nx, B, 2 * szD B (a.length + 1 - b.length) A, g), by dsimp only; omega, ⟨by simp; omega, by dsimp only; omega, lb, n1, n2, ob, n4, by dsimp only; omega, by dsimp only; omega, hinv2⟩, ?_⟩
      refine Wk.le ?_
      repeat' (first | exact LeT.nil | refine LeT.drop1 ?_ | refine LeT.same1 ?_ | refine LeT.own1 ?_ | refine LeT.ownR ?_ | (refine LeT.deepR ?_ rfl))
set_option maxHeartbeats 4000000 in
theorem rp_chain_S : D 112 [(false, [.arr 4 (p.map cellR)])] false (.one (false, [.arr 1 ((chainF p).map rowL)])) := by
  obtain ⟨F, f1, f2, f3, f4, f5, f6⟩ := hr.free
  have dF := hr.free_S
  have dV := l4Derive_den (freeF p) (by omega) (f1.mono (by omega))
  rw [trim_top (derivF_top f2 f3)] at dV
  have hl := derivF_len (freeF p)
  have hc := chainF_eq f2 f3
  generalize freeF p = f at *
  refine go Tryz.func112 rfl rfl ?_
  repeat refine vs ?_
  conv => whnf
  refine CallS.mk _ rfl false false _ (dF) rfl ?_
  repeat refine vs ?_
  conv => whnf
  refine CallS.mk _ rfl false false _ (dV) rfl ?_
  repeat refine vs ?_
  conv => whnf
  refine NewK.mk true ?_
  repeat refine vs ?_
  conv => whnf
  refine EVs.un (60, 0) ?_
  refine EVs.loopU (fun s : List (List (Int × Int)) × List (Int × Int) × List (Int × Int) × Nat × Nat × Nat => s.1.length + s.2.2.1.length ≤ 10 ∧ s.2.1.length ≤ 100 ∧ lowL s.2.1 ∧ lowL s.2.2.1 ∧ topF s.2.2.1 ∧ okL s.2.2.2.1 s.2.1 ∧ okL s.2.2.2.2.1 s.2.2.1 ∧ s.2.2.1.length ≤ s.2.2.2.2.2 ∧ eucB s.2.2.2.2.2 s.2.1.length s.2.2.1.length s.2.2.2.1 s.2.2.2.2.1 ≤ 900000000 ∧ s.1 ++ s.2.1 :: chL s.2.1 s.2.2.1 = chainF p) (fun s => s.2.2.1.length)
    (fun | (pre, a, b, _, _, _) => [(4, .v false [.own (60, 0) 32 (.arr 1 ((pre ++ [a, b]).map rowL))]), (5, .v false [.p (.int .i64 ((pre.length + 1 : Nat) : Int))]), (11, .any)]) ([], f, derivF f, F, F + 1, 8) ⟨by dsimp only [List.length_nil]; omega, by dsimp only; omega, f2, derivF_low f2, derivF_top f2 f3, f1, derivF_sm f1 (by omega), by dsimp only; omega, by dsimp only; rw [hl]; exact f6, hc.symm⟩ ?_ ?_
  · refine Wk.trans (Wk.ren (11, 0) (60, 0)) ?_
    refine Wk.le ?_
    repeat' (first | exact LeT.nil | refine LeT.drop1 ?_ | refine LeT.same1 ?_ | refine LeT.own1 ?_ | refine LeT.ownR ?_ | (refine LeT.deepR ?_ rfl))
  rintro ⟨pre, a, b, A, B, g⟩ ⟨hpl, hal, la, lb, tb, oa, ob, hbg, hB, hinv⟩
  dsimp only at hpl hal la lb tb oa ob hbg hB hinv
  have hrl : (b.map cellR).length = b.length := by simp
  have hprl : ((pre ++ [a, b]).map rowL).length = pre.length + 2 := by simp
  have ga : ((pre ++ [a, b]).map rowL)[pre.length]? = some (rowL a) := by simp
  have gb : ((pre ++ [a, b]).map rowL)[pre.length + 1]? = some (rowL b) := by simp
  refine go1 ?_
  repeat refine vs ?_
  conv => whnf
  first | refine Idx.mk ((pre.length + 1)) (by first | rfl | omega) (by omega) ?_ | skip
  repeat refine vs ?_
  conv => whnf
  refine LdR.mk (rowL b) gb ?_
  repeat refine vs ?_
  conv => whnf
  by_cases h : b = []
  · subst h
    rw [chL_nil] at hinv
    have htk : (((pre ++ [a, []]).map rowL).take (pre.length + 1)).drop 0 = (chainF p).map rowL := by
      rw [← hinv, List.drop_zero, ← List.map_take]
      congr 1
      rw [show pre ++ [a, []] = (pre ++ [a]) ++ [[]] by simp]
      exact List.take_left' (by simp)
    repeat refine vs ?_
    conv => whnf
    refine SubK.mk (0) ((pre.length + 1)) (by first | rfl | (show _ = _; omega)) (by first | rfl | (show _ = _; omega)) (by omega) (by omega) ?_
    repeat refine vs ?_
    conv => whnf
    rw [htk]
    first | rfl | exact ⟨rfl, rfl⟩ | exact ⟨by simp [toRes], rfl⟩
  · have hbn : 0 < b.length := List.length_pos_iff.2 h
    obtain ⟨g, rfl⟩ : ∃ n, g = n + 1 := ⟨g - 1, by omega⟩
    obtain ⟨n1, n2, n3⟩ := nextF_low la lb tb h
    have n4 := nextF_ok tb oa ob h
    obtain ⟨e1, e2⟩ := eucB_step (f := g) (m := a.length) (n := b.length) (j := (nextF a b).length) (R := A) (S := B) n3
    have dD := l5Next_den a b A B hal (by omega) la lb tb oa ob h (by omega)
    rw [chL_cons la lb tb h] at hinv
    have hinv2 : (pre ++ [a]) ++ b :: chL b (nextF a b) = chainF p := by rw [← hinv]; simp
    generalize nextF a b = nx at *
    have hrow : (pre ++ [a, b]).map rowL ++ [[.arr 4 (nx.map cellR)]] = ((pre ++ [a]) ++ [b, nx]).map rowL := by simp [rowL]
    repeat refine vs ?_
    conv => whnf
    first | refine Idx.mk (pre.length) (by first | rfl | omega) (by omega) ?_ | skip
    repeat refine vs ?_
    conv => whnf
    refine LdR.mk (rowL a) ga ?_
    repeat refine vs ?_
    conv => whnf
    first | refine Idx.mk ((pre.length + 1)) (by first | rfl | omega) (by omega) ?_ | skip
    repeat refine vs ?_
    conv => whnf
    refine LdR.mk (rowL b) gb ?_
    repeat refine vs ?_
    conv => whnf
    refine CallS.mk _ rfl false false _ (dD) rfl ?_
    repeat refine vs ?_
    conv => whnf
    refine NewK.mk false ?_
    repeat refine vs ?_
    conv => whnf
    refine NewK.mk true ?_
    repeat refine vs ?_
    conv => whnf
    rw [hrow]
    refine ⟨(pre ++ [a], b, nx, B, 2 * szD B (a.length + 1 - b.length) A, g), by dsimp only; omega, ⟨by simp; omega, by dsimp only; omega, lb, n1, n2, ob, n4, by dsimp only; omega, by dsimp only; omega, hinv2⟩, ?_⟩
    have hl2 : (((pre ++ [a]).length + 1 : Nat) : Int) = ((pre.length + 1 : Nat) : Int) + 1 := by simp
    dsimp only
    rw [hl2]
    refine Wk.le ?_
    repeat' (first | exact LeT.nil | refine LeT.drop1 ?_ | refine LeT.same1 ?_ | refine LeT.own1 ?_ | refine LeT.ownR ?_ | (refine LeT.deepR ?_ rfl))
/-- How many roots lie between two fractions. -/
theorem rp_chain_len : (chainF p).length ≤ 100 := by
  obtain ⟨F, f1, f2, f3, f4, f5, f6⟩ := hr.free
  rw [chainF_eq f2 f3]
  have : ∀ {n : Nat} {a b : List (Int × Int)}, (chainL n a b).length ≤ n := by
    intro n
    induction n with
    | zero => intro a b; exact Nat.le_refl _
    | succ n ih =>
      intro a b
      unfold chainL
      split
      · exact Nat.zero_le _
      · rw [List.length_cons]; have := ih (a := b) (b := nextF a b); omega
  have h := this (n := (derivF (freeF p)).length) (a := freeF p) (b := derivF (freeF p))
  have hl := derivF_len (freeF p)
  rw [List.length_cons]
  unfold chL
  omega
end
section
variable {p : List (Int × Int)} (hr : RootP p) (x y : Int × Int) (hx : okF 900000000 x) (hy : okF 900000000 y)
include hr hx hy
theorem rp_roots_I : D 80 [(false, [.arr 4 (p.map cellR)]), ratV x.1 x.2, ratV y.1 y.2] true (.one (iP (chgAt (chainF p) x - chgAt (chainF p) y))) := by
  have dC := (rp_chain_I hr)
  have hn := (rp_chain_len hr)
  have hq : ∀ c ∈ chainF p, okL 900000000 c ∧ c.length ≤ 5 := fun c hc => ⟨(hr.chain_ok c hc).1, (hr.chain_ok c hc).2.1⟩
  have d1 := changesAt_den (chainF p) x hn hq hx
  have d2 := changesAt_den (chainF p) y hn hq hy
  have r1 := chgF_len ((chainF p).map fun q => atF q x) 0
  have r2 := chgF_len ((chainF p).map fun q => atF q y) 0
  rw [List.length_map] at r1 r2
  unfold chgAt at *
  generalize chgF 0 ((chainF p).map fun q => atF q x) = u at *
  generalize chgF 0 ((chainF p).map fun q => atF q y) = v at *
  refine go Tryz.func80 rfl rfl ?_
  repeat refine vs ?_
  conv => whnf
  refine CallS.mk _ rfl false false _ (dC) rfl ?_
  repeat refine vs ?_
  conv => whnf
  refine CallS.mk _ rfl true true _ (d1) rfl ?_
  repeat refine vs ?_
  conv => whnf
  refine CallS.mk _ rfl true true _ (d2) rfl ?_
  repeat refine vs ?_
  conv => whnf
  first | rfl | exact ⟨rfl, rfl⟩ | exact ⟨by simp [toRes], rfl⟩
theorem rp_count_S : D 76 [(false, [.arr 4 (p.map cellR)]), ratV x.1 x.2, ratV y.1 y.2] true (.one (iP (chgAt (chainF p) x - chgAt (chainF p) y))) := by
  have dC := (rp_chain_S hr)
  have hn := (rp_chain_len hr)
  have hq : ∀ c ∈ chainF p, okL 900000000 c ∧ c.length ≤ 5 := fun c hc => ⟨(hr.chain_ok c hc).1, (hr.chain_ok c hc).2.1⟩
  have d1 := l5Changes_den (chainF p) x hn hq hx
  have d2 := l5Changes_den (chainF p) y hn hq hy
  have r1 := chgF_len ((chainF p).map fun q => atF q x) 0
  have r2 := chgF_len ((chainF p).map fun q => atF q y) 0
  rw [List.length_map] at r1 r2
  unfold chgAt at *
  generalize chgF 0 ((chainF p).map fun q => atF q x) = u at *
  generalize chgF 0 ((chainF p).map fun q => atF q y) = v at *
  refine go Tryz.func76 rfl rfl ?_
  repeat refine vs ?_
  conv => whnf
  refine CallS.mk _ rfl false false _ (dC) rfl ?_
  repeat refine vs ?_
  conv => whnf
  refine CallS.mk _ rfl true true _ (d1) rfl ?_
  repeat refine vs ?_
  conv => whnf
  refine CallS.mk _ rfl true true _ (d2) rfl ?_
  repeat refine vs ?_
  conv => whnf
  first | rfl | exact ⟨rfl, rfl⟩ | exact ⟨by simp [toRes], rfl⟩
end
end Go.Vx
