/- RefineRoot: halves of isolating intervals. -/
import Derived.Test.YtpmgjmkobpeepaaGreatQGe
set_option linter.unusedVariables false
set_option linter.unusedSectionVars false
set_option linter.unusedSimpArgs false
namespace Go.Vx
open Go.Proofs
set_option maxRecDepth 100000

def midF (x y : Int × Int) : Int × Int := divR (addR x y) (2, 1)
/-- The half that is kept. -/
def halfF (L : List (List (Int × Int))) (s : (Int × Int) × (Int × Int)) : (Int × Int) × (Int × Int) :=
 if s.1.1 * s.2.2 = s.2.1 * s.1.2 then s else if chgAt L s.1 - chgAt L (midF s.1 s.2) = 1 then (s.1, midF s.1 s.2) else (midF s.1 s.2, s.2)
theorem two_R : okF 1 ((2, 1) : Int × Int) := small_R (n := 2) (by omega) (by omega)
theorem midF_ok {K : Nat} {x y : Int × Int} (hx : okF K x) (hy : okF K y) : okF (2 * K + 2) (midF x y) := (divR_ok (addR_ok hx hy) two_R (by decide)).mono (by omega)
theorem midF_low {x y : Int × Int} (hx : 0 < x.2) (hy : 0 < y.2) : low (midF x y) := divR_low (addR_low hx hy).1 (by decide)
theorem halfF_ok {K : Nat} {L : List (List (Int × Int))} {s : (Int × Int) × (Int × Int)} (hx : okF K s.1) (hy : okF K s.2) : okF (2 * K + 2) (halfF L s).1 ∧ okF (2 * K + 2) (halfF L s).2 := by
 have hm := midF_ok hx hy
 unfold halfF
 split
 ·exact ⟨hx.mono (by omega), hy.mono (by omega)⟩
 ·split
  ·exact ⟨hx.mono (by omega), hm⟩
  ·exact ⟨hm, hy.mono (by omega)⟩
theorem halfF_low {L : List (List (Int × Int))} {s : (Int × Int) × (Int × Int)} (hx : low s.1) (hy : low s.2) : low (halfF L s).1 ∧ low (halfF L s).2 := by
 have hm := midF_low hx.1 hy.1
 unfold halfF
 split
 ·exact ⟨hx, hy⟩
 ·split
  ·exact ⟨hx, hm⟩
  ·exact ⟨hm, hy⟩
/-- The midpoint lies between. -/
theorem midF_between {x y : Int × Int} (hx : 0 < x.2) (hy : 0 < y.2) (h : x.1 * y.2 ≤ y.1 * x.2) : x.1 * (midF x y).2 ≤ (midF x y).1 * x.2 ∧ (midF x y).1 * y.2 ≤ y.1 * (midF x y).2 := by
 -- the sum s: s1 (x2 y2) = (x1 y2 + y1 x2) s2; the midpoint m: m1 (2 s2) = s1 m2
 have hxy : 0 < x.2 * y.2 := Int.mul_pos hx hy
 have e1 := nN_dN (addN x.1 x.2 y.1 y.2) (x.2 * y.2)
 have p1 := dN_pos (x := addN x.1 x.2 y.1 y.2) (y := x.2 * y.2) (by omega)
 unfold midF addR divR
 dsimp only
 have e0 : addN x.1 x.2 y.1 y.2 = x.1 * y.2 + y.1 * x.2 := rfl
 rw [e0] at e1 p1 ⊢
 generalize nN (x.1 * y.2 + y.1 * x.2) (x.2 * y.2) = s1 at *
 generalize dN (x.1 * y.2 + y.1 * x.2) (x.2 * y.2) = s2 at *
 have e2 := nN_dN (s1 * 1) (s2 * 2)
 have p2 := dN_pos (x := s1 * 1) (y := s2 * 2) (by omega)
 generalize nN (s1 * 1) (s2 * 2) = m1 at *
 generalize dN (s1 * 1) (s2 * 2) = m2 at *
 -- m1 / m2 = (x1 y2 + y1 x2) / (2 x2 y2)
 have e3 : (m1 * (2 * (x.2 * y.2))) * s2 = ((x.1 * y.2 + y.1 * x.2) * m2) * s2 := by grind
 have e4 : m1 * (2 * (x.2 * y.2)) = (x.1 * y.2 + y.1 * x.2) * m2 := Int.eq_of_mul_eq_mul_right (by omega) e3
 constructor
 ·have : (x.1 * m2) * (2 * y.2) ≤ (m1 * x.2) * (2 * y.2) := by
   have h1 : (m1 * x.2) * (2 * y.2) = (x.1 * y.2 + y.1 * x.2) * m2 := by rw [← e4]; grind
   have h2 : (x.1 * y.2) * m2 ≤ (y.1 * x.2) * m2 := Int.mul_le_mul_of_nonneg_right h (by omega)
   rw [h1]
   grind
  exact Int.le_of_mul_le_mul_right this (by omega)
 ·have : (m1 * y.2) * (2 * x.2) ≤ (y.1 * m2) * (2 * x.2) := by
   have h1 : (m1 * y.2) * (2 * x.2) = (x.1 * y.2 + y.1 * x.2) * m2 := by rw [← e4]; grind
   have h2 : (x.1 * y.2) * m2 ≤ (y.1 * x.2) * m2 := Int.mul_le_mul_of_nonneg_right h (by omega)
   rw [h1]
   grind
  exact Int.le_of_mul_le_mul_right this (by omega)
theorem halfF_le {L : List (List (Int × Int))} {s : (Int × Int) × (Int × Int)} (hx : 0 < s.1.2) (hy : 0 < s.2.2) (h : s.1.1 * s.2.2 ≤ s.2.1 * s.1.2) : (halfF L s).1.1 * (halfF L s).2.2 ≤ (halfF L s).2.1 * (halfF L s).1.2 := by
 obtain ⟨h1, h2⟩ := midF_between hx hy h
 unfold halfF
 split
 ·exact h
 ·split
  ·exact h1
  ·exact h2
def spanL (x y : Int × Int) : List Lf := [.p (.bool (decide (x.1 < 0))), .p (.ints (Lm.lim x.1.natAbs)), .p (.bool (decide (x.2 < 0))), .p (.ints (Lm.lim x.2.natAbs)), .p (.bool (decide (y.1 < 0))), .p (.ints (Lm.lim y.1.natAbs)), .p (.bool (decide (y.2 < 0))), .p (.ints (Lm.lim y.2.natAbs))]
section
variable (x y : Int × Int) (hx : okF 10000000000 x) (hy : okF 10000000000 y)
include hx hy
theorem middle_den : D 125 [spanV x.1 x.2 y.1 y.2] true (.one (ratV (midF x y).1 (midF x y).2)) := by
 have dA := addR_I (hx.mono (by omega)) (hy.mono (by omega))
 have ho := addR_ok hx hy
 have hh : D 161 [ratV (addR x y).1 (addR x y).2] true (.one (ratV (midF x y).1 (midF x y).2)) := by
  unfold midF
  generalize addR x y = s at *
  have dD := divR_I (a := s) (b := (2, 1)) (ho.mono (by omega)) (two_R.mono (by omega)) (by decide)
  refine go Tryz.func161 rfl rfl ?_
  repeat refine vs ?_
  conv => whnf
  refine CallS.mk _ rfl true true _ (whole_den 2 (by omega) (by omega)) rfl ?_
  repeat refine vs ?_
  conv => whnf
  refine CallS.mk _ rfl true true _ (dD) rfl ?_
  repeat refine vs ?_
  conv => whnf
  first | rfl | exact ⟨rfl, rfl⟩ | exact ⟨by simp [toRes], rfl⟩
 refine go Tryz.func125 rfl rfl ?_
 repeat refine vs ?_
 conv => whnf
 refine CallS.mk _ rfl true false _ (dA) rfl ?_
 repeat refine vs ?_
 conv => whnf
 refine CallS.mk _ rfl true true _ (hh) rfl ?_
 repeat refine vs ?_
 conv => whnf
 first | rfl | exact ⟨rfl, rfl⟩ | exact ⟨by simp [toRes], rfl⟩
theorem l6Middle_den : D 119 [spanV x.1 x.2 y.1 y.2] true (.one (ratV (midF x y).1 (midF x y).2)) := by
 have dA := addR_S (hx.mono (by omega)) (hy.mono (by omega))
 have ho := addR_ok hx hy
 unfold midF
 generalize addR x y = s at *
 have dD := divR_S (a := s) (b := (2, 1)) (ho.mono (by omega)) (two_R.mono (by omega)) (by decide)
 refine go Tryz.func119 rfl rfl ?_
 repeat refine vs ?_
 conv => whnf
 refine CallS.mk _ rfl true false _ (dA) rfl ?_
 repeat refine vs ?_
 conv => whnf
 refine CallS.mk _ rfl true false _ (l2Int_den 2 (by omega) (by omega)) rfl ?_
 repeat refine vs ?_
 conv => whnf
 refine CallS.mk _ rfl true true _ (dD) rfl ?_
 repeat refine vs ?_
 conv => whnf
 first | rfl | exact ⟨rfl, rfl⟩ | exact ⟨by simp [toRes], rfl⟩
end
section
variable {p : List (Int × Int)} (hr : RootP p) (x y : Int × Int) (hx : okF 400000000 x) (hy : okF 400000000 y)
include hr hx hy
set_option maxHeartbeats 4000000 in
theorem halved_den : D 71 [(false, [.arr 1 ((chainF p).map rowL)]), spanV x.1 x.2 y.1 y.2] false (.one (spanV (halfF (chainF p) (x, y)).1.1 (halfF (chainF p) (x, y)).1.2 (halfF (chainF p) (x, y)).2.1 (halfF (chainF p) (x, y)).2.2)) := by
 have dM := same_den x.1 x.2 y.1 y.2 (by have := hx.1; omega) (by have := hy.1; omega) (Nat.le_trans hx.2.1 (by omega)) (Nat.le_trans hx.2.2 (by omega)) (Nat.le_trans hy.2.1 (by omega)) (Nat.le_trans hy.2.2 (by omega))
 have dI := middle_den x y (hx.mono (by omega)) (hy.mono (by omega))
 have hm := midF_ok hx hy
 have hn := rp_chain_len hr
 have hq : ∀ c ∈ chainF p, okL 900000000 c ∧ c.length ≤ 5 := fun c hc => ⟨(hr.chain_ok c hc).1, (hr.chain_ok c hc).2.1⟩
 have d1 := changesAt_den (chainF p) x hn hq (hx.mono (by omega))
 have d2 := changesAt_den (chainF p) (midF x y) hn hq (hm.mono (by omega))
 have r1 := chgF_len ((chainF p).map fun q => atF q x) 0
 have r2 := chgF_len ((chainF p).map fun q => atF q (midF x y)) 0
 rw [List.length_map] at r1 r2
 have e1 : chgF 0 ((chainF p).map fun q => atF q x) = chgAt (chainF p) x := rfl
 have e2 : chgF 0 ((chainF p).map fun q => atF q (midF x y)) = chgAt (chainF p) (midF x y) := rfl
 rw [e1] at r1
 rw [e2] at r2
 clear e1 e2 hq
 unfold halfF
 dsimp only
 generalize chgAt (chainF p) x = u at *
 generalize chgAt (chainF p) (midF x y) = v at *
 generalize midF x y = m at *
 refine go Tryz.func71 rfl rfl ?_
 by_cases h1 : x.1 * y.2 = y.1 * x.2
 ·rw [decide_eq_true h1] at dM
  rw [if_pos h1]
  repeat refine vs ?_
  conv => whnf
  refine CallS.mk _ rfl true true _ (dM) rfl ?_
  repeat refine vs ?_
  conv => whnf
  first | rfl | exact ⟨rfl, rfl⟩ | exact ⟨by simp [toRes], rfl⟩
 ·rw [decide_eq_false h1] at dM
  rw [if_neg h1]
  by_cases h2 : u - v = 1
  ·rw [if_pos h2]
   repeat refine vs ?_
   conv => whnf
   refine CallS.mk _ rfl true true _ (dM) rfl ?_
   repeat refine vs ?_
   conv => whnf
   refine CallS.mk _ rfl true false _ (dI) rfl ?_
   repeat refine vs ?_
   conv => whnf
   refine CallS.mk _ rfl true true _ (d1) rfl ?_
   repeat refine vs ?_
   conv => whnf
   refine CallS.mk _ rfl true true _ (d2) rfl ?_
   repeat refine vs ?_
   conv => whnf
   first | rfl | exact ⟨rfl, rfl⟩ | exact ⟨by simp [toRes], rfl⟩
  ·rw [if_neg h2]
   repeat refine vs ?_
   conv => whnf
   refine CallS.mk _ rfl true true _ (dM) rfl ?_
   repeat refine vs ?_
   conv => whnf
   refine CallS.mk _ rfl true false _ (dI) rfl ?_
   repeat refine vs ?_
   conv => whnf
   refine CallS.mk _ rfl true true _ (d1) rfl ?_
   repeat refine vs ?_
   conv => whnf
   refine CallS.mk _ rfl true true _ (d2) rfl ?_
   repeat refine vs ?_
   conv => whnf
   first | rfl | exact ⟨rfl, rfl⟩ | exact ⟨by simp [toRes], rfl⟩
theorem l6Half_den : D 65 [(false, [.arr 4 (p.map cellR)]), spanV x.1 x.2 y.1 y.2] false (.one (spanV (halfF (chainF p) (x, y)).1.1 (halfF (chainF p) (x, y)).1.2 (halfF (chainF p) (x, y)).2.1 (halfF (chainF p) (x, y)).2.2)) := by
 have dM := l2Cmp_den x.1 x.2 y.1 y.2 (by have := hx.1; omega) (by have := hy.1; omega) (Nat.le_trans hx.2.1 (by omega)) (Nat.le_trans hx.2.2 (by omega)) (Nat.le_trans hy.2.1 (by omega)) (Nat.le_trans hy.2.2 (by omega))
 have hc : (cmpI (x.1 * y.2) (y.1 * x.2) = 0) ↔ x.1 * y.2 = y.1 * x.2 := by unfold cmpI; split <;> (try split) <;> omega
 have dI := l6Middle_den x y (hx.mono (by omega)) (hy.mono (by omega))
 have hm := midF_ok hx hy
 have dC := rp_count_S hr x (midF x y) (hx.mono (by omega)) (hm.mono (by omega))
 unfold halfF
 dsimp only
 generalize chgAt (chainF p) x - chgAt (chainF p) (midF x y) = u at *
 generalize midF x y = m at *
 refine go Tryz.func65 rfl rfl ?_
 by_cases h1 : x.1 * y.2 = y.1 * x.2
 ·have h0 := hc.2 h1
  rw [if_pos h1]
  repeat refine vs ?_
  conv => whnf
  refine CallS.mk _ rfl true true _ (dM) rfl ?_
  repeat refine vs ?_
  conv => whnf
  first | rfl | exact ⟨rfl, rfl⟩ | exact ⟨by simp [toRes], rfl⟩
 ·have h0 : ¬ cmpI (x.1 * y.2) (y.1 * x.2) = 0 := fun h => h1 (hc.1 h)
  rw [if_neg h1]
  by_cases h2 : u = 1
  ·rw [if_pos h2]
   repeat refine vs ?_
   conv => whnf
   refine CallS.mk _ rfl true true _ (dM) rfl ?_
   repeat refine vs ?_
   conv => whnf
   refine CallS.mk _ rfl true false _ (dI) rfl ?_
   repeat refine vs ?_
   conv => whnf
   refine CallS.mk _ rfl true true _ (dC) rfl ?_
   repeat refine vs ?_
   conv => whnf
   first | rfl | exact ⟨rfl, rfl⟩ | exact ⟨by simp [toRes], rfl⟩
  ·rw [if_neg h2]
   repeat refine vs ?_
   conv => whnf
   refine CallS.mk _ rfl true true _ (dM) rfl ?_
   repeat refine vs ?_
   conv => whnf
   refine CallS.mk _ rfl true false _ (dI) rfl ?_
   repeat refine vs ?_
   conv => whnf
   refine CallS.mk _ rfl true true _ (dC) rfl ?_
   repeat refine vs ?_
   conv => whnf
   first | rfl | exact ⟨rfl, rfl⟩ | exact ⟨by simp [toRes], rfl⟩
end
/-- So many halvings. -/
def refF (L : List (List (Int × Int))) : Nat → (Int × Int) × (Int × Int) → (Int × Int) × (Int × Int)
 | 0, s => s
 | n + 1, s => refF L n (halfF L s)
structure SpanOK (K : Nat) (s : (Int × Int) × (Int × Int)) : Prop where
 x : okF K s.1
 y : okF K s.2
 lx : low s.1
 ly : low s.2
 le : s.1.1 * s.2.2 ≤ s.2.1 * s.1.2
theorem SpanOK.half {K : Nat} {L : List (List (Int × Int))} {s : (Int × Int) × (Int × Int)} (h : SpanOK K s) : SpanOK (2 * K + 2) (halfF L s) :=
 ⟨(halfF_ok h.x h.y).1, (halfF_ok h.x h.y).2, (halfF_low h.lx h.ly).1, (halfF_low h.lx h.ly).2, halfF_le h.lx.1 h.ly.1 h.le⟩
theorem l6Good_den (rs : List RawQ) (a b : RawQ) (hrs : shortP 1048576 rs) (ha1 : a.l.length ≤ 1000000000000) (ha2 : a.q.length ≤ 1000000000000) (hb1 : b.l.length ≤ 1000000000000) (hb2 : b.q.length ≤ 1000000000000) :
  (∃ (fs : List (Int × Int)) (x y : Int × Int), rs = fs.map qF ∧ a = qF x ∧ b = qF y ∧ RootP fs ∧ lowT 4 x ∧ lowT 4 y ∧ x.1 * y.2 ≤ y.1 * x.2 ∧ isoF fs x y = true ∧
   D 63 [polQ rs, spanR a.n a.l a.p a.q b.n b.l b.p b.q] true (.one (bP true)) ∧ D 68 [polQ rs, spanR a.n a.l a.p a.q b.n b.l b.p b.q] true (.one (bP true))) ∨
  (D 63 [polQ rs, spanR a.n a.l a.p a.q b.n b.l b.p b.q] true (.one (bP false)) ∧ D 68 [polQ rs, spanR a.n a.l a.p a.q b.n b.l b.p b.q] true (.one (bP false))) := by
 have bS := l6Span_den rs a b hrs.big ha1 ha2 hb1 hb2
 have gI := rootsI_den rs hrs.big
 have bI := areBounds_den a b ha1 ha2 hb1 hb2
 have hbe : betw rs a b = (rootsQ rs && boundsQ a b) := rfl
 cases hb : betw rs a b with
 | false =>
  rw [hb] at bS hbe
  refine .inr ⟨go Tryz.func63 rfl rfl ?_, ?_⟩
  ·repeat refine vs ?_
   conv => whnf
   refine CallS.mk _ rfl true true _ (bS) rfl ?_
   repeat refine vs ?_
   conv => whnf
   first | rfl | exact ⟨rfl, rfl⟩ | exact ⟨by simp [toRes], rfl⟩
  ·refine go Tryz.func68 rfl rfl ?_
   cases g1 : rootsQ rs with
   | false =>
    rw [g1] at gI
    repeat refine vs ?_
    conv => whnf
    refine CallS.mk _ rfl true true _ (gI) rfl ?_
    repeat refine vs ?_
    conv => whnf
    first | rfl | exact ⟨rfl, rfl⟩ | exact ⟨by simp [toRes], rfl⟩
   | true =>
    rw [g1] at gI hbe
    have g2 : boundsQ a b = false := by simpa using hbe.symm
    rw [g2] at bI
    repeat refine vs ?_
    conv => whnf
    refine CallS.mk _ rfl true true _ (gI) rfl ?_
    repeat refine vs ?_
    conv => whnf
    refine CallS.mk _ rfl true true _ (bI) rfl ?_
    repeat refine vs ?_
    conv => whnf
    first | rfl | exact ⟨rfl, rfl⟩ | exact ⟨by simp [toRes], rfl⟩
 | true =>
  rw [hb] at bS hbe
  have hb2 := hbe.symm
  rw [Bool.and_eq_true] at hb2
  rw [hb2.1] at gI
  rw [hb2.2] at bI
  clear hb2 hbe
  obtain ⟨fs, x, y, rfl, rfl, rfl, hl5, hl2, hlow, ht, hxl, hyl, hle⟩ := betw_ex hb
  clear hb
  unfold polQ at *
  rw [map_qF] at *
  have hr := rootP_of hl5 hl2 hlow ht
  have iI := isoI_den hr x y (hxl.1.mono (by omega)) (hyl.1.mono (by omega))
  have iS := isoS_den hr x y (hxl.1.mono (by omega)) (hyl.1.mono (by omega))
  have sS : D 63 [(false, [.arr 4 (fs.map cellR)]), spanV x.1 x.2 y.1 y.2] true (.one (bP (isoF fs x y))) := by
   refine go Tryz.func63 rfl rfl ?_
   repeat refine vs ?_
   conv => whnf
   refine CallS.mk _ rfl true true _ (bS) rfl ?_
   repeat refine vs ?_
   conv => whnf
   refine CallS.mk _ rfl true true _ (iS) rfl ?_
   repeat refine vs ?_
   conv => whnf
   first | rfl | exact ⟨rfl, rfl⟩ | exact ⟨by simp [toRes], rfl⟩
  have sI : D 68 [(false, [.arr 4 (fs.map cellR)]), spanV x.1 x.2 y.1 y.2] true (.one (bP (isoF fs x y))) := by
   refine go Tryz.func68 rfl rfl ?_
   repeat refine vs ?_
   conv => whnf
   refine CallS.mk _ rfl true true _ (gI) rfl ?_
   repeat refine vs ?_
   conv => whnf
   refine CallS.mk _ rfl true true _ (bI) rfl ?_
   repeat refine vs ?_
   conv => whnf
   refine CallS.mk _ rfl true true _ (iI) rfl ?_
   repeat refine vs ?_
   conv => whnf
   first | rfl | exact ⟨rfl, rfl⟩ | exact ⟨by simp [toRes], rfl⟩
  cases hi : isoF fs x y with
  | true =>
   rw [hi] at sS sI
   exact .inl ⟨fs, x, y, rfl, rfl, rfl, hr, hxl, hyl, hle, hi, sS, sI⟩
  | false =>
   rw [hi] at sS sI
   exact .inr ⟨sS, sI⟩
end Go.Vx
