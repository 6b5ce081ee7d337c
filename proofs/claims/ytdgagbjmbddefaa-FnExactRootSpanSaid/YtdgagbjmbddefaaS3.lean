/- Chapter 3: several intervals that are good; sums, differences of any intervals. -/
import Derived.Test.YtdgagbjmbddefaaS2
import Derived.Test.YtdgagbjmbddefaaC7
set_option linter.unusedVariables false
set_option linter.unusedSectionVars false
set_option linter.unusedSimpArgs false
namespace Go.Vx
open Go.Proofs
set_option maxRecDepth 100000

structure Q8 where
  na : Bool
  la : List Int
  pa : Bool
  qa : List Int
  nb : Bool
  lb : List Int
  pb : Bool
  qb : List Int
def cellsS (q : Q8) : List PL := [.bool q.na, .ints q.la, .bool q.pa, .ints q.qa, .bool q.nb, .ints q.lb, .bool q.pb, .ints q.qb]
def spanQ (q : Q8) : PV := spanR q.na q.la q.pa q.qa q.nb q.lb q.pb q.qb
noncomputable def goodQ8 (q : Q8) : Bool := goodS q.na q.la q.pa q.qa q.nb q.lb q.pb q.qb
def shortQ (q : Q8) : Prop := q.la.length ≤ 1000000000000 ∧ q.qa.length ≤ 1000000000000 ∧ q.lb.length ≤ 1000000000000 ∧ q.qb.length ≤ 1000000000000

theorem indexFuncS_den (qs : List Q8) (hl : qs.length ≤ 1000000000000) (f : FuncId) (p : Q8 → Bool) (hp : ∀ q ∈ qs, D f [spanR q.na q.la q.pa q.qa q.nb q.lb q.pb q.qb] true (.one (bP (p q)))) :
    D 141 [(false, [.arr 8 (qs.map cellsS)]), fP f] true (.one (iP (match qs.findIdx? p with | some i => (i : Int) | none => -1))) := by
  refine go Try.func141 rfl rfl ?_
  have hrl : (qs.map cellsS).length = qs.length := by simp
  repeat refine vs ?_
  conv => whnf
  refine EVs.loopU (fun i : Nat => i ≤ qs.length ∧ ∀ (j : Nat) (h : j < qs.length), j < i → p qs[j] = false) (fun i => qs.length - i) (fun i => [(8, .v false [.p (.int .i64 (i : Int))])]) 0 ⟨by omega, fun j h hj => by omega⟩ (Wk.refl _) ?_
  rintro i ⟨hi, hall⟩
  refine go1 ?_
  repeat refine vs ?_
  conv => whnf
  by_cases h1 : (i : Int) < (qs.map cellsS).length
  · have hlt : i < qs.length := by omega
    repeat refine vs ?_
    conv => whnf
    refine LdR.mk (cellsS qs[i]) (by simp [hlt]) ?_
    repeat refine vs ?_
    conv => whnf
    refine CallS.mk _ rfl true true _ (hp qs[i] (List.getElem_mem hlt)) rfl ?_
    repeat refine vs ?_
    conv => whnf
    cases hpi : p qs[i]
    · repeat refine vs ?_
      conv => whnf
      refine ⟨i + 1, by omega, ⟨by omega, fun j h hj => ?_⟩, ?_⟩
      · by_cases e : j = i
        · subst e; exact hpi
        · exact hall j h (by omega)
      · refine Wk.le ?_
        repeat' (first | exact LeT.nil | refine LeT.drop1 ?_ | refine LeT.same1 ?_ | refine LeT.own1 ?_ | refine LeT.ownR ?_)
    · repeat refine vs ?_
      conv => whnf
      have : qs.findIdx? p = some i := by
        rw [List.findIdx?_eq_some_iff_getElem]
        exact ⟨hlt, hpi, fun j hj => by simp [hall j (by omega) hj]⟩
      exact ⟨by simp [toRes, this], rfl⟩
  · repeat refine vs ?_
    conv => whnf
    have : qs.findIdx? p = none := by
      rw [List.findIdx?_eq_none_iff]
      intro x hx
      obtain ⟨j, hj, rfl⟩ := List.getElem_of_mem hx
      exact hall j hj (by omega)
    exact ⟨by simp [toRes, this], rfl⟩

theorem containsFuncS_den (qs : List Q8) (hl : qs.length ≤ 1000000000000) (f : FuncId) (p : Q8 → Bool) (hp : ∀ q ∈ qs, D f [spanR q.na q.la q.pa q.qa q.nb q.lb q.pb q.qb] true (.one (bP (p q)))) :
    D 112 [(false, [.arr 8 (qs.map cellsS)]), fP f] true (.one (bP (qs.any p))) := by
  refine go Try.func112 rfl rfl ?_
  repeat refine vs ?_
  conv => whnf
  refine CallS.mk _ rfl true true _ (indexFuncS_den qs hl f p hp) rfl ?_
  repeat refine vs ?_
  conv => whnf
  cases h : qs.findIdx? p with
  | none =>
    have : qs.any p = false := by
      rw [List.findIdx?_eq_none_iff] at h
      rw [List.any_eq_false]
      intro x hx
      simp [h x hx]
    repeat refine vs ?_
    conv => whnf
    exact ⟨by simp [toRes, this], rfl⟩
  | some i =>
    have : qs.any p = true := by
      rw [List.findIdx?_eq_some_iff_getElem] at h
      obtain ⟨h1, h2, _⟩ := h
      rw [List.any_eq_true]
      exact ⟨_, List.getElem_mem h1, h2⟩
    repeat refine vs ?_
    conv => whnf
    exact ⟨by simp [toRes, this], rfl⟩

theorem areSpans1_den (q : Q8) (h : shortQ q) : D 113 [spanR q.na q.la q.pa q.qa q.nb q.lb q.pb q.qb] true (.one (bP (!goodQ8 q))) := by
  obtain ⟨h1, h2, h3, h4⟩ := h
  refine go Try.func113 rfl rfl ?_
  repeat refine vs ?_
  conv => whnf
  refine CallS.mk _ rfl true true _ (goodSpanI_den q.na q.la q.pa q.qa q.nb q.lb q.pb q.qb h1 h2 h3 h4) rfl ?_
  repeat refine vs ?_
  conv => whnf
  refine Bo.mk _ rfl ?_
  repeat refine vs ?_
  conv => whnf
  first | rfl | exact ⟨rfl, rfl⟩ | exact ⟨by simp [toRes], rfl⟩
theorem areSpans_den (qs : List Q8) (hl : qs.length ≤ 1000000000000) (hq : ∀ q ∈ qs, shortQ q) : D 65 [(false, [.arr 8 (qs.map cellsS)])] true (.one (bP (qs.all goodQ8))) := by
  refine go Try.func65 rfl rfl ?_
  repeat refine vs ?_
  conv => whnf
  refine CallS.mk _ rfl true true _ (containsFuncS_den qs hl 113 (fun q => !goodQ8 q) (fun q hm => areSpans1_den q (hq q hm))) rfl ?_
  repeat refine vs ?_
  conv => whnf
  refine Bo.mk (qs.all goodQ8) (by rw [List.all_eq_not_any_not]) ?_
  repeat refine vs ?_
  conv => whnf
  first | rfl | exact ⟨rfl, rfl⟩ | exact ⟨by simp [toRes], rfl⟩
section
variable (na : Bool) (la : List Int) (pa : Bool) (qa : List Int) (nb : Bool) (lb : List Int) (pb : Bool) (qb : List Int)
variable (ma : Bool) (ka : List Int) (oa : Bool) (sa : List Int) (mb : Bool) (kb : List Int) (ob : Bool) (sb : List Int)
section
variable (h1 : la.length ≤ 1000000000000) (h2 : qa.length ≤ 1000000000000) (h3 : lb.length ≤ 1000000000000) (h4 : qb.length ≤ 1000000000000)
variable (h5 : ka.length ≤ 1000000000000) (h6 : sa.length ≤ 1000000000000) (h7 : kb.length ≤ 1000000000000) (h8 : sb.length ≤ 1000000000000)
include h1 h2 h3 h4 h5 h6 h7 h8
theorem areSpans2_den : D 65 [(false, [.arr 8 [[.bool na, .ints la, .bool pa, .ints qa, .bool nb, .ints lb, .bool pb, .ints qb], [.bool ma, .ints ka, .bool oa, .ints sa, .bool mb, .ints kb, .bool ob, .ints sb]]])] true (.one (bP (goodS na la pa qa nb lb pb qb && goodS ma ka oa sa mb kb ob sb))) := by
  have := areSpans_den [⟨na, la, pa, qa, nb, lb, pb, qb⟩, ⟨ma, ka, oa, sa, mb, kb, ob, sb⟩] (by simp) (by intro q hq; rcases List.mem_cons.1 hq with rfl | hq; exact ⟨h1, h2, h3, h4⟩; rcases List.mem_cons.1 hq with rfl | hq; exact ⟨h5, h6, h7, h8⟩; cases hq)
  simp only [List.all_cons, List.all_nil, Bool.and_true] at this
  exact this
theorem l3Both_den : D 63 [spanR na la pa qa nb lb pb qb, spanR ma ka oa sa mb kb ob sb] true (.one (bP (goodS na la pa qa nb lb pb qb && goodS ma ka oa sa mb kb ob sb))) := by
  have d1 := goodSpanS_den na la pa qa nb lb pb qb h1 h2 h3 h4
  have d2 := goodSpanS_den ma ka oa sa mb kb ob sb h5 h6 h7 h8
  refine go Try.func63 rfl rfl ?_
  cases g1 : goodS na la pa qa nb lb pb qb with
  | false =>
    rw [g1] at d1
    repeat refine vs ?_
    conv => whnf
    refine CallS.mk _ rfl true true _ (d1) rfl ?_
    repeat refine vs ?_
    conv => whnf
    first | rfl | exact ⟨rfl, rfl⟩ | exact ⟨by simp [toRes], rfl⟩
  | true =>
    rw [g1] at d1
    repeat refine vs ?_
    conv => whnf
    refine CallS.mk _ rfl true true _ (d1) rfl ?_
    repeat refine vs ?_
    conv => whnf
    refine CallS.mk _ rfl true true _ (d2) rfl ?_
    repeat refine vs ?_
    conv => whnf
    first | rfl | exact ⟨rfl, rfl⟩ | exact ⟨by simp [toRes], rfl⟩

theorem addSpanBoth : ∃ n l p q m k o s r, l.length ≤ 1000000 ∧ q.length ≤ 1000000 ∧ k.length ≤ 1000000 ∧ s.length ≤ 1000000 ∧
    D 41 [spanR na la pa qa nb lb pb qb, spanR ma ka oa sa mb kb ob sb] false (.tup [spanR n l p q m k o s, bP r]) ∧ D 42 [spanR na la pa qa nb lb pb qb, spanR ma ka oa sa mb kb ob sb] true (.tup [spanR n l p q m k o s, bP r]) := by
  have sS := l3Both_den na la pa qa nb lb pb qb ma ka oa sa mb kb ob sb h1 h2 h3 h4 h5 h6 h7 h8
  have sI := areSpans2_den na la pa qa nb lb pb qb ma ka oa sa mb kb ob sb h1 h2 h3 h4 h5 h6 h7 h8
  cases hgg : goodS na la pa qa nb lb pb qb && goodS ma ka oa sa mb kb ob sb with
  | false =>
    rw [hgg] at sS sI
    refine ⟨false, [], false, [], false, [], false, [], false, by simp, by simp, by simp, by simp, go Try.func41 rfl rfl ?_, go Try.func42 rfl rfl ?_⟩
    · repeat refine vs ?_
      conv => whnf
      refine CallS.mk _ rfl true true _ (sS) rfl ?_
      repeat refine vs ?_
      conv => whnf
      first | rfl | exact ⟨rfl, rfl⟩ | exact ⟨by simp [toRes], rfl⟩
    · repeat refine vs ?_
      conv => whnf
      refine NewK.mk false ?_
      repeat refine vs ?_
      conv => whnf
      refine CallS.mk _ rfl true true _ (sI) rfl ?_
      repeat refine vs ?_
      conv => whnf
      first | rfl | exact ⟨rfl, rfl⟩ | exact ⟨by simp [toRes], rfl⟩
  | true =>
    rw [hgg] at sS sI
    rw [Bool.and_eq_true] at hgg
    obtain ⟨hs1, hs2⟩ := hgg
    obtain ⟨a, b, c, d, rfl, rfl, rfl, rfl, rfl, rfl, rfl, rfl, ha, hbl, hc, hdl, hb, hd, _⟩ := goodS_ex hs1
    obtain ⟨e, f, g, h, rfl, rfl, rfl, rfl, rfl, rfl, rfl, rfl, he, hfl, hg, hhl, hf, hh, _⟩ := goodS_ex hs2
    have dS1 := l2Add_den a b e f (by omega) (by omega) (by omega) (by omega) (by omega) (by omega)
    have dS2 := l2Add_den c d g h (by omega) (by omega) (by omega) (by omega) (by omega) (by omega)
    have dI1 := ratAdd_den a b e f (by omega) (by omega) (by omega) (by omega) (by omega) (by omega)
    have dI2 := ratAdd_den c d g h (by omega) (by omega) (by omega) (by omega) (by omega) (by omega)
    have k1 := ln_addN ha hbl he hfl
    have k2 := ln_mul' hbl hfl
    have k3 := ln_addN hc hdl hg hhl
    have k4 := ln_mul' hdl hhl
    have m1 := ln_nN (addN a b e f) (b * f)
    have m2 := ln_dN (addN a b e f) (b * f)
    have m3 := ln_nN (addN c d g h) (d * h)
    have m4 := ln_dN (addN c d g h) (d * h)
    have kp1 := dN_pos (x := addN a b e f) (Int.mul_ne_zero (show b ≠ 0 by omega) (show f ≠ 0 by omega))
    have kp2 := dN_pos (x := addN c d g h) (Int.mul_ne_zero (show d ≠ 0 by omega) (show h ≠ 0 by omega))
    generalize nN (addN a b e f) (b * f) = X at *
    generalize dN (addN a b e f) (b * f) = Y at *
    generalize nN (addN c d g h) (d * h) = Z at *
    generalize dN (addN c d g h) (d * h) = W at *
    have fS := l3Fits_den X Y Z W kp1 kp2 (by omega) (by omega) (by omega) (by omega)
    have fI := checkedSpan_den X Y Z W kp1 kp2 (by omega) (by omega) (by omega) (by omega)
    obtain ⟨n, l, p, q, m, k, o, s, e1, e2, e3, e4, e⟩ := fitSV_ex X Y Z W
    rw [e] at fS fI
    refine ⟨n, l, p, q, m, k, o, s, fitS X Y Z W, e1, e2, e3, e4, go Try.func41 rfl rfl ?_, go Try.func42 rfl rfl ?_⟩
    · repeat refine vs ?_
      conv => whnf
      refine CallS.mk _ rfl true true _ (sS) rfl ?_
      repeat refine vs ?_
      conv => whnf
      refine CallS.mk _ rfl true true _ (dS1) rfl ?_
      repeat refine vs ?_
      conv => whnf
      refine CallS.mk _ rfl true true _ (dS2) rfl ?_
      repeat refine vs ?_
      conv => whnf
      refine CallS.mk _ rfl true true _ (fS) rfl ?_
      repeat refine vs ?_
      conv => whnf
      first | rfl | exact ⟨rfl, rfl⟩ | exact ⟨by simp [toRes], rfl⟩
    · repeat refine vs ?_
      conv => whnf
      refine NewK.mk false ?_
      repeat refine vs ?_
      conv => whnf
      refine CallS.mk _ rfl true true _ (sI) rfl ?_
      repeat refine vs ?_
      conv => whnf
      refine CallS.mk _ rfl true true _ (dI1) rfl ?_
      repeat refine vs ?_
      conv => whnf
      refine CallS.mk _ rfl true true _ (dI2) rfl ?_
      repeat refine vs ?_
      conv => whnf
      refine CallS.mk _ rfl true true _ (fI) rfl ?_
      repeat refine vs ?_
      conv => whnf
      first | rfl | exact ⟨rfl, rfl⟩ | exact ⟨by simp [toRes], rfl⟩

theorem subSpanBoth : ∃ n l p q m k o s r, l.length ≤ 1000000 ∧ q.length ≤ 1000000 ∧ k.length ≤ 1000000 ∧ s.length ≤ 1000000 ∧
    D 43 [spanR na la pa qa nb lb pb qb, spanR ma ka oa sa mb kb ob sb] false (.tup [spanR n l p q m k o s, bP r]) ∧ D 44 [spanR na la pa qa nb lb pb qb, spanR ma ka oa sa mb kb ob sb] true (.tup [spanR n l p q m k o s, bP r]) := by
  have sS := l3Both_den na la pa qa nb lb pb qb ma ka oa sa mb kb ob sb h1 h2 h3 h4 h5 h6 h7 h8
  have sI := areSpans2_den na la pa qa nb lb pb qb ma ka oa sa mb kb ob sb h1 h2 h3 h4 h5 h6 h7 h8
  cases hgg : goodS na la pa qa nb lb pb qb && goodS ma ka oa sa mb kb ob sb with
  | false =>
    rw [hgg] at sS sI
    refine ⟨false, [], false, [], false, [], false, [], false, by simp, by simp, by simp, by simp, go Try.func43 rfl rfl ?_, go Try.func44 rfl rfl ?_⟩
    · repeat refine vs ?_
      conv => whnf
      refine CallS.mk _ rfl true true _ (sS) rfl ?_
      repeat refine vs ?_
      conv => whnf
      first | rfl | exact ⟨rfl, rfl⟩ | exact ⟨by simp [toRes], rfl⟩
    · repeat refine vs ?_
      conv => whnf
      refine NewK.mk false ?_
      repeat refine vs ?_
      conv => whnf
      refine CallS.mk _ rfl true true _ (sI) rfl ?_
      repeat refine vs ?_
      conv => whnf
      first | rfl | exact ⟨rfl, rfl⟩ | exact ⟨by simp [toRes], rfl⟩
  | true =>
    rw [hgg] at sS sI
    rw [Bool.and_eq_true] at hgg
    obtain ⟨hs1, hs2⟩ := hgg
    obtain ⟨a, b, c, d, rfl, rfl, rfl, rfl, rfl, rfl, rfl, rfl, ha, hbl, hc, hdl, hb, hd, _⟩ := goodS_ex hs1
    obtain ⟨e, f, g, h, rfl, rfl, rfl, rfl, rfl, rfl, rfl, rfl, he, hfl, hg, hhl, hf, hh, _⟩ := goodS_ex hs2
    have dS1 := l2Sub_den a b g h (by omega) (by omega) (by omega) (by omega) (by omega) (by omega)
    have dS2 := l2Sub_den c d e f (by omega) (by omega) (by omega) (by omega) (by omega) (by omega)
    have dI1 := ratSub_den a b g h (by omega) (by omega) (by omega) (by omega) (by omega) (by omega)
    have dI2 := ratSub_den c d e f (by omega) (by omega) (by omega) (by omega) (by omega) (by omega)
    have k1 := ln_addN (a := a) (b := b) (c := -g) (d := h) ha hbl (by rw [Lm.ln_neg]; exact hg) hhl
    have k2 := ln_mul' hbl hhl
    have k3 := ln_addN (a := c) (b := d) (c := -e) (d := f) hc hdl (by rw [Lm.ln_neg]; exact he) hfl
    have k4 := ln_mul' hdl hfl
    have m1 := ln_nN (addN a b (-g) h) (b * h)
    have m2 := ln_dN (addN a b (-g) h) (b * h)
    have m3 := ln_nN (addN c d (-e) f) (d * f)
    have m4 := ln_dN (addN c d (-e) f) (d * f)
    have kp1 := dN_pos (x := addN a b (-g) h) (Int.mul_ne_zero (show b ≠ 0 by omega) (show h ≠ 0 by omega))
    have kp2 := dN_pos (x := addN c d (-e) f) (Int.mul_ne_zero (show d ≠ 0 by omega) (show f ≠ 0 by omega))
    generalize nN (addN a b (-g) h) (b * h) = X at *
    generalize dN (addN a b (-g) h) (b * h) = Y at *
    generalize nN (addN c d (-e) f) (d * f) = Z at *
    generalize dN (addN c d (-e) f) (d * f) = W at *
    have fS := l3Fits_den X Y Z W kp1 kp2 (by omega) (by omega) (by omega) (by omega)
    have fI := checkedSpan_den X Y Z W kp1 kp2 (by omega) (by omega) (by omega) (by omega)
    obtain ⟨n, l, p, q, m, k, o, s, e1, e2, e3, e4, e⟩ := fitSV_ex X Y Z W
    rw [e] at fS fI
    refine ⟨n, l, p, q, m, k, o, s, fitS X Y Z W, e1, e2, e3, e4, go Try.func43 rfl rfl ?_, go Try.func44 rfl rfl ?_⟩
    · repeat refine vs ?_
      conv => whnf
      refine CallS.mk _ rfl true true _ (sS) rfl ?_
      repeat refine vs ?_
      conv => whnf
      refine CallS.mk _ rfl true true _ (dS1) rfl ?_
      repeat refine vs ?_
      conv => whnf
      refine CallS.mk _ rfl true true _ (dS2) rfl ?_
      repeat refine vs ?_
      conv => whnf
      refine CallS.mk _ rfl true true _ (fS) rfl ?_
      repeat refine vs ?_
      conv => whnf
      first | rfl | exact ⟨rfl, rfl⟩ | exact ⟨by simp [toRes], rfl⟩
    · repeat refine vs ?_
      conv => whnf
      refine NewK.mk false ?_
      repeat refine vs ?_
      conv => whnf
      refine CallS.mk _ rfl true true _ (sI) rfl ?_
      repeat refine vs ?_
      conv => whnf
      refine CallS.mk _ rfl true true _ (dI1) rfl ?_
      repeat refine vs ?_
      conv => whnf
      refine CallS.mk _ rfl true true _ (dI2) rfl ?_
      repeat refine vs ?_
      conv => whnf
      refine CallS.mk _ rfl true true _ (fI) rfl ?_
      repeat refine vs ?_
      conv => whnf
      first | rfl | exact ⟨rfl, rfl⟩ | exact ⟨by simp [toRes], rfl⟩
end
end
end Go.Vx
