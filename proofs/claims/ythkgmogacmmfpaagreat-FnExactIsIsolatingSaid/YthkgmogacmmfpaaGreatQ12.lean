/- IsIsolating. -/
import Derived.Test.YthkgmogacmmfpaaGreatQ11
import Derived.Test.YthkgmogacmmfpaaGreatS5
set_option linter.unusedVariables false
set_option linter.unusedSectionVars false
set_option linter.unusedSimpArgs false
namespace Go.Vx
open Go.Proofs
set_option maxRecDepth 100000

/-- Whether an interval is isolating. -/
def isoF (p : List (Int × Int)) (x y : Int × Int) : Bool := if x.1 * y.2 = y.1 * x.2 then decide ((atF p x).1 = 0) else decide (chgAt (chainF p) x - chgAt (chainF p) y = 1)
section
variable {p : List (Int × Int)} (hr : RootP p) (x y : Int × Int) (hx : okF 900000000 x) (hy : okF 900000000 y)
include hr hx hy
theorem isoI_den : D 38 [(false, [.arr 4 (p.map cellR)]), spanV x.1 x.2 y.1 y.2] true (.one (bP (isoF p x y))) := by
  have h5 := hr.le5
  have dM := same_den x.1 x.2 y.1 y.2 (by have := hx.1; omega) (by have := hy.1; omega) (Nat.le_trans hx.2.1 (by omega)) (Nat.le_trans hx.2.2 (by omega)) (Nat.le_trans hy.2.1 (by omega)) (Nat.le_trans hy.2.2 (by omega))
  have dA := at_den p x (by omega) (hr.okL.mono (by omega)) (hx.mono (by omega))
  have ho := (atF_ok hr.okL hx).mono (show 4 + p.length * (900000000 + 1 + 1) ≤ 40000000000 by have := Nat.mul_le_mul_right (900000000 + 1 + 1) h5; omega)
  have dR := rp_roots_I hr x y hx hy
  unfold isoF
  generalize atF p x = v at *
  generalize chgAt (chainF p) x - chgAt (chainF p) y = n at *
  have dS := ratSign_den v.1 v.2 (Nat.le_trans ho.2.1 (by omega))
  refine go Tryz.func38 rfl rfl ?_
  by_cases h1 : x.1 * y.2 = y.1 * x.2
  · rw [decide_eq_true h1] at dM
    rw [if_pos h1]
    by_cases h0 : v.1 = 0
    · have h2 : cmpI v.1 0 = 0 := by rw [h0]; rfl
      rw [decide_eq_true h0]
      repeat refine vs ?_
      conv => whnf
      refine CallS.mk _ rfl true true _ (dM) rfl ?_
      repeat refine vs ?_
      conv => whnf
      refine CallS.mk _ rfl false false _ (dA) rfl ?_
      repeat refine vs ?_
      conv => whnf
      refine CallS.mk _ rfl true true _ (dS) rfl ?_
      repeat refine vs ?_
      conv => whnf
      first | rfl | exact ⟨rfl, rfl⟩ | exact ⟨by simp [toRes], rfl⟩
    · have h2 : ¬ cmpI v.1 0 = 0 := by rcases cmpI_sgn v.1 with h | h | h <;> omega
      rw [decide_eq_false h0]
      repeat refine vs ?_
      conv => whnf
      refine CallS.mk _ rfl true true _ (dM) rfl ?_
      repeat refine vs ?_
      conv => whnf
      refine CallS.mk _ rfl false false _ (dA) rfl ?_
      repeat refine vs ?_
      conv => whnf
      refine CallS.mk _ rfl true true _ (dS) rfl ?_
      repeat refine vs ?_
      conv => whnf
      first | rfl | exact ⟨rfl, rfl⟩ | exact ⟨by simp [toRes], rfl⟩
  · rw [decide_eq_false h1] at dM
    rw [if_neg h1]
    by_cases h2 : n = 1
    · rw [decide_eq_true h2]
      repeat refine vs ?_
      conv => whnf
      refine CallS.mk _ rfl true true _ (dM) rfl ?_
      repeat refine vs ?_
      conv => whnf
      refine CallS.mk _ rfl true true _ (dR) rfl ?_
      repeat refine vs ?_
      conv => whnf
      first | rfl | exact ⟨rfl, rfl⟩ | exact ⟨by simp [toRes], rfl⟩
    · rw [decide_eq_false h2]
      repeat refine vs ?_
      conv => whnf
      refine CallS.mk _ rfl true true _ (dM) rfl ?_
      repeat refine vs ?_
      conv => whnf
      refine CallS.mk _ rfl true true _ (dR) rfl ?_
      repeat refine vs ?_
      conv => whnf
      first | rfl | exact ⟨rfl, rfl⟩ | exact ⟨by simp [toRes], rfl⟩
theorem isoS_den : D 36 [(false, [.arr 4 (p.map cellR)]), spanV x.1 x.2 y.1 y.2] true (.one (bP (isoF p x y))) := by
  have h5 := hr.le5
  have dM := l2Cmp_den x.1 x.2 y.1 y.2 (by have := hx.1; omega) (by have := hy.1; omega) (Nat.le_trans hx.2.1 (by omega)) (Nat.le_trans hx.2.2 (by omega)) (Nat.le_trans hy.2.1 (by omega)) (Nat.le_trans hy.2.2 (by omega))
  have dA := l4Eval_den p x (by omega) (hr.okL.mono (by omega)) (hx.mono (by omega))
  have ho := (atF_ok hr.okL hx).mono (show 4 + p.length * (900000000 + 1 + 1) ≤ 40000000000 by have := Nat.mul_le_mul_right (900000000 + 1 + 1) h5; omega)
  have dR := rp_count_S hr x y hx hy
  have hc : (cmpI (x.1 * y.2) (y.1 * x.2) = 0) ↔ x.1 * y.2 = y.1 * x.2 := by unfold cmpI; split <;> (try split) <;> omega
  unfold isoF
  generalize atF p x = v at *
  generalize chgAt (chainF p) x - chgAt (chainF p) y = n at *
  have dS := l4Zero_den (decide (v.1 < 0)) (Lm.lim v.1.natAbs) (decide (v.2 < 0)) (Lm.lim v.2.natAbs) (Nat.le_trans ho.2.1 (by omega))
  have hz : (Lm.lim v.1.natAbs = []) ↔ v.1 = 0 := by rw [Lm.lim_eq_nil]; omega
  rw [show decide (Lm.lim v.1.natAbs = []) = decide (v.1 = 0) from decide_eq_decide.2 hz] at dS
  refine go Tryz.func36 rfl rfl ?_
  by_cases h1 : x.1 * y.2 = y.1 * x.2
  · have h2 := hc.2 h1
    rw [if_pos h1]
    repeat refine vs ?_
    conv => whnf
    refine CallS.mk _ rfl true true _ (dM) rfl ?_
    repeat refine vs ?_
    conv => whnf
    refine CallS.mk _ rfl false false _ (dA) rfl ?_
    repeat refine vs ?_
    conv => whnf
    refine CallS.mk _ rfl true true _ (dS) rfl ?_
    repeat refine vs ?_
    conv => whnf
    first | rfl | exact ⟨rfl, rfl⟩ | exact ⟨by simp [toRes], rfl⟩
  · have h2 : ¬ cmpI (x.1 * y.2) (y.1 * x.2) = 0 := fun h => h1 (hc.1 h)
    rw [if_neg h1]
    by_cases h3 : n = 1
    · rw [decide_eq_true h3]
      repeat refine vs ?_
      conv => whnf
      refine CallS.mk _ rfl true true _ (dM) rfl ?_
      repeat refine vs ?_
      conv => whnf
      refine CallS.mk _ rfl true true _ (dR) rfl ?_
      repeat refine vs ?_
      conv => whnf
      first | rfl | exact ⟨rfl, rfl⟩ | exact ⟨by simp [toRes], rfl⟩
    · rw [decide_eq_false h3]
      repeat refine vs ?_
      conv => whnf
      refine CallS.mk _ rfl true true _ (dM) rfl ?_
      repeat refine vs ?_
      conv => whnf
      refine CallS.mk _ rfl true true _ (dR) rfl ?_
      repeat refine vs ?_
      conv => whnf
      first | rfl | exact ⟨rfl, rfl⟩ | exact ⟨by simp [toRes], rfl⟩
end
theorem goodS_okQ {a b : RawQ} (ha : okQ 4 a = true) (hb : okQ 4 b = true) : goodS a.n a.l a.p a.q b.n b.l b.p b.q = leQ a b := by
  unfold okQ at ha hb
  rw [Bool.and_eq_true] at ha hb
  unfold goodS leQ
  rw [ha.1, hb.1]
  rfl
/-- Valid bounds that are places. -/
noncomputable def boundsQ (a b : RawQ) : Bool := okQ 4 a && (okQ 4 b && leQ a b)
theorem areBounds_den (a b : RawQ) (ha1 : a.l.length ≤ 1000000000000) (ha2 : a.q.length ≤ 1000000000000) (hb1 : b.l.length ≤ 1000000000000) (hb2 : b.q.length ≤ 1000000000000) :
    D 37 [spanR a.n a.l a.p a.q b.n b.l b.p b.q] true (.one (bP (boundsQ a b))) := by
  have gI := goodSpanI_den a.n a.l a.p a.q b.n b.l b.p b.q ha1 ha2 hb1 hb2
  have pa := isPlace_den a ha1 ha2
  have pb := isPlace_den b hb1 hb2
  unfold boundsQ
  refine go Tryz.func37 rfl rfl ?_
  cases h1 : okQ 4 a with
  | false =>
    rw [h1] at pa
    cases hg : goodS a.n a.l a.p a.q b.n b.l b.p b.q with
    | false =>
      rw [hg] at gI
      repeat refine vs ?_
      conv => whnf
      refine CallS.mk _ rfl true true _ (gI) rfl ?_
      repeat refine vs ?_
      conv => whnf
      first | rfl | exact ⟨rfl, rfl⟩ | exact ⟨by simp [toRes], rfl⟩
    | true =>
      rw [hg] at gI
      repeat refine vs ?_
      conv => whnf
      refine CallS.mk _ rfl true true _ (gI) rfl ?_
      repeat refine vs ?_
      conv => whnf
      refine CallS.mk _ rfl true true _ (pa) rfl ?_
      repeat refine vs ?_
      conv => whnf
      first | rfl | exact ⟨rfl, rfl⟩ | exact ⟨by simp [toRes], rfl⟩
  | true =>
    rw [h1] at pa
    cases h2 : okQ 4 b with
    | false =>
      rw [h2] at pb
      cases hg : goodS a.n a.l a.p a.q b.n b.l b.p b.q with
      | false =>
        rw [hg] at gI
        repeat refine vs ?_
        conv => whnf
        refine CallS.mk _ rfl true true _ (gI) rfl ?_
        repeat refine vs ?_
        conv => whnf
        first | rfl | exact ⟨rfl, rfl⟩ | exact ⟨by simp [toRes], rfl⟩
      | true =>
        rw [hg] at gI
        repeat refine vs ?_
        conv => whnf
        refine CallS.mk _ rfl true true _ (gI) rfl ?_
        repeat refine vs ?_
        conv => whnf
        refine CallS.mk _ rfl true true _ (pa) rfl ?_
        repeat refine vs ?_
        conv => whnf
        refine CallS.mk _ rfl true true _ (pb) rfl ?_
        repeat refine vs ?_
        conv => whnf
        first | rfl | exact ⟨rfl, rfl⟩ | exact ⟨by simp [toRes], rfl⟩
    | true =>
      rw [h2] at pb
      rw [goodS_okQ h1 h2] at gI
      cases hg : leQ a b with
      | false =>
        rw [hg] at gI
        repeat refine vs ?_
        conv => whnf
        refine CallS.mk _ rfl true true _ (gI) rfl ?_
        repeat refine vs ?_
        conv => whnf
        first | rfl | exact ⟨rfl, rfl⟩ | exact ⟨by simp [toRes], rfl⟩
      | true =>
        rw [hg] at gI
        repeat refine vs ?_
        conv => whnf
        refine CallS.mk _ rfl true true _ (gI) rfl ?_
        repeat refine vs ?_
        conv => whnf
        refine CallS.mk _ rfl true true _ (pa) rfl ?_
        repeat refine vs ?_
        conv => whnf
        refine CallS.mk _ rfl true true _ (pb) rfl ?_
        repeat refine vs ?_
        conv => whnf
        first | rfl | exact ⟨rfl, rfl⟩ | exact ⟨by simp [toRes], rfl⟩
theorem rootP_of {fs : List (Int × Int)} (h5 : fs.length ≤ 5) (h2 : 2 ≤ fs.length) (hl : ∀ f ∈ fs, lowT 1 f) (ht : ∀ f, fs.getLast? = some f → f.1 ≠ 0) : RootP fs := ⟨h5, h2, hl, ht⟩
theorem l6Span_den (rs : List RawQ) (a b : RawQ) (hrs : shortP 1000000000000 rs) (ha1 : a.l.length ≤ 1000000000000) (ha2 : a.q.length ≤ 1000000000000) (hb1 : b.l.length ≤ 1000000000000) (hb2 : b.q.length ≤ 1000000000000) :
    D 35 [polQ rs, spanR a.n a.l a.p a.q b.n b.l b.p b.q] true (.one (bP (betw rs a b))) := by
  have dB := l5Between_den rs a b hrs ha1 ha2 hb1 hb2
  refine go Tryz.func35 rfl rfl ?_
  repeat refine vs ?_
  conv => whnf
  refine CallS.mk _ rfl true true _ (dB) rfl ?_
  repeat refine vs ?_
  conv => whnf
  first | rfl | exact ⟨rfl, rfl⟩ | exact ⟨by simp [toRes], rfl⟩
set_option maxHeartbeats 4000000 in
theorem isIsolatingBoth (rs : List RawQ) (n1 : Bool) (l1 : List Int) (p1 : Bool) (q1 : List Int) (n2 : Bool) (l2 : List Int) (p2 : Bool) (q2 : List Int) (hrs : shortP 1048576 rs) (h1 : l1.length ≤ 1000000000000) (h2 : q1.length ≤ 1000000000000) (h3 : l2.length ≤ 1000000000000) (h4 : q2.length ≤ 1000000000000) :
    ∃ y b, D 15 [polQ rs, spanR n1 l1 p1 q1 n2 l2 p2 q2] false (.tup [bP y, bP b]) ∧ D 17 [polQ rs, spanR n1 l1 p1 q1 n2 l2 p2 q2] true (.tup [bP y, bP b]) := by
  have bS := l6Span_den rs ⟨n1, l1, p1, q1⟩ ⟨n2, l2, p2, q2⟩ hrs.big h1 h2 h3 h4
  have gI := rootsI_den rs hrs.big
  have bI := areBounds_den ⟨n1, l1, p1, q1⟩ ⟨n2, l2, p2, q2⟩ h1 h2 h3 h4
  have hbe : betw rs ⟨n1, l1, p1, q1⟩ ⟨n2, l2, p2, q2⟩ = (rootsQ rs && boundsQ ⟨n1, l1, p1, q1⟩ ⟨n2, l2, p2, q2⟩) := rfl
  cases hb : betw rs ⟨n1, l1, p1, q1⟩ ⟨n2, l2, p2, q2⟩ with
  | false =>
    rw [hb] at bS hbe
    refine ⟨false, false, go Tryz.func15 rfl rfl ?_, ?_⟩
    · repeat refine vs ?_
      conv => whnf
      refine CallS.mk _ rfl true true _ (bS) rfl ?_
      repeat refine vs ?_
      conv => whnf
      first | rfl | exact ⟨rfl, rfl⟩ | exact ⟨by simp [toRes], rfl⟩
    · refine go Tryz.func17 rfl rfl ?_
      cases g1 : rootsQ rs with
      | false =>
        rw [g1] at gI
        repeat refine vs ?_
        conv => whnf
        refine CallS.mk _ rfl true true _ (gI) rfl ?_
        repeat refine vs ?_
        conv => whnf
        first | rfl | exact ⟨rfl, rfl⟩ | exact ⟨by simp [toRes], rfl⟩
      | true =>
        rw [g1] at gI hbe
        have g2 : boundsQ ⟨n1, l1, p1, q1⟩ ⟨n2, l2, p2, q2⟩ = false := by simpa using hbe.symm
        rw [g2] at bI
        repeat refine vs ?_
        conv => whnf
        refine CallS.mk _ rfl true true _ (gI) rfl ?_
        repeat refine vs ?_
        conv => whnf
        refine CallS.mk _ rfl true true _ (bI) rfl ?_
        repeat refine vs ?_
        conv => whnf
        first | rfl | exact ⟨rfl, rfl⟩ | exact ⟨by simp [toRes], rfl⟩
  | true =>
    rw [hb] at bS hbe
    have hb2 := hbe.symm
    rw [Bool.and_eq_true] at hb2
    rw [hb2.1] at gI
    rw [hb2.2] at bI
    clear hb2 hbe
    obtain ⟨fs, x, y, rfl, hx, hy, hl5, hl2, hlow, ht, hxl, hyl, hle⟩ := betw_ex hb
    clear hb
    unfold qF at hx hy
    cases hx
    cases hy
    unfold polQ at *
    rw [map_qF] at *
    have hr := rootP_of hl5 hl2 hlow ht
    have iI := isoI_den hr x y (hxl.1.mono (by omega)) (hyl.1.mono (by omega))
    have iS := isoS_den hr x y (hxl.1.mono (by omega)) (hyl.1.mono (by omega))
    generalize isoF fs x y = b at *
    refine ⟨b, true, go Tryz.func15 rfl rfl ?_, go Tryz.func17 rfl rfl ?_⟩
    · repeat refine vs ?_
      conv => whnf
      refine CallS.mk _ rfl true true _ (bS) rfl ?_
      repeat refine vs ?_
      conv => whnf
      refine CallS.mk _ rfl true true _ (iS) rfl ?_
      repeat refine vs ?_
      conv => whnf
      first | rfl | exact ⟨rfl, rfl⟩ | exact ⟨by simp [toRes], rfl⟩
    · repeat refine vs ?_
      conv => whnf
      refine CallS.mk _ rfl true true _ (gI) rfl ?_
      repeat refine vs ?_
      conv => whnf
      refine CallS.mk _ rfl true true _ (bI) rfl ?_
      repeat refine vs ?_
      conv => whnf
      refine CallS.mk _ rfl true true _ (iI) rfl ?_
      repeat refine vs ?_
      conv => whnf
      first | rfl | exact ⟨rfl, rfl⟩ | exact ⟨by simp [toRes], rfl⟩
end Go.Vx
