/- P1, P2, P3, P4 -/
import Derived.Test.YtpmgjmkobpeepaaGreatRSb
set_option linter.unusedVariables false
set_option linter.unusedSectionVars false
set_option linter.unusedSimpArgs false
section
/- Chapter 4: lists of fractions that are polynomials. -/
namespace Go.Vx
open Go.Proofs
set_option maxRecDepth 100000

structure RawQ where
 n : Bool
 l : List Int
 p : Bool
 q : List Int
def cellQ (r : RawQ) : List PL := [.bool r.n, .ints r.l, .bool r.p, .ints r.q]
abbrev polQ (rs : List RawQ) : PV := (false, [.arr 4 (rs.map cellQ)])
def shortP (K : Nat) (rs : List RawQ) : Prop := rs.length ≤ K ∧ ∀ r ∈ rs, r.l.length ≤ K ∧ r.q.length ≤ K
noncomputable def okQ (K : Nat) (r : RawQ) : Bool := goodR r.n r.l r.p r.q && (decide (r.l.length ≤ K) && decide (r.q.length ≤ K))
def lastQ (rs : List RawQ) : Bool := match rs.getLast? with
 | none => true
 | some r => decide (r.l ≠ [])
noncomputable def goodP (m K : Nat) (rs : List RawQ) : Bool := (decide (rs.length ≤ m) && rs.all (okQ K)) && lastQ rs
def qF (f : Int × Int) : RawQ := ⟨decide (f.1 < 0), Lm.lim f.1.natAbs, decide (f.2 < 0), Lm.lim f.2.natAbs⟩
theorem map_qF (fs : List (Int × Int)) : (fs.map qF).map cellQ = fs.map cellR := by rw [List.map_map]; rfl
/-- A fraction in lowest terms with so many limbs. -/
def lowT (K : Nat) (f : Int × Int) : Prop := okF K f ∧ Int.gcd f.1 f.2 = 1
theorem okQ_ex {K : Nat} {r : RawQ} (h : okQ K r = true) : ∃ f, r = qF f ∧ lowT K f := by
 unfold okQ at h
 rw [Bool.and_eq_true, Bool.and_eq_true, decide_eq_true_iff, decide_eq_true_iff] at h
 obtain ⟨h1, h2, h3⟩ := h
 obtain ⟨x, y, e1, e2, e3, e4, _, _, k3, k4⟩ := goodR_ex h1
 refine ⟨(x, y), ?_, ⟨⟨k3, ?_, ?_⟩, k4⟩⟩
 ·cases r; unfold qF; simp only at e1 e2 e3 e4; rw [e1, e2, e3, e4]
 ·rw [e2] at h2; exact h2
 ·rw [e4] at h3; exact h3
theorem all_ex {K : Nat} : ∀ {rs : List RawQ}, rs.all (okQ K) = true → ∃ fs : List (Int × Int), rs = fs.map qF ∧ ∀ f ∈ fs, lowT K f
 | [], _ => ⟨[], rfl, fun f h => by cases h⟩
 | r :: rs, h => by
  rw [List.all_cons, Bool.and_eq_true] at h
  obtain ⟨f, rfl, hf⟩ := okQ_ex h.1
  obtain ⟨fs, rfl, hfs⟩ := all_ex h.2
  refine ⟨f :: fs, rfl, fun g hg => ?_⟩
  rcases List.mem_cons.1 hg with rfl | hg
  ·exact hf
  ·exact hfs g hg
theorem goodP_ex {m K : Nat} {rs : List RawQ} (h : goodP m K rs = true) : ∃ fs : List (Int × Int), rs = fs.map qF ∧ fs.length ≤ m ∧ (∀ f ∈ fs, lowT K f) ∧ ∀ f, fs.getLast? = some f → f.1 ≠ 0 := by
 unfold goodP at h
 rw [Bool.and_eq_true, Bool.and_eq_true, decide_eq_true_iff] at h
 obtain ⟨⟨h1, h2⟩, h3⟩ := h
 obtain ⟨fs, rfl, hfs⟩ := all_ex h2
 refine ⟨fs, rfl, by simpa using h1, hfs, fun f hf => ?_⟩
 unfold lastQ at h3
 rw [List.getLast?_map, hf] at h3
 simp only [Option.map_some, decide_eq_true_iff] at h3
 intro h0
 apply h3
 show Lm.lim f.1.natAbs = []
 rw [h0]
 exact Lm.lim_zero

theorem isShortQ_den (n : Bool) (l : List Int) (p : Bool) (q : List Int) (k : Nat) (hl : l.length ≤ 1000000000000) (hq : q.length ≤ 1000000000000) : D 108 [ratR n l p q, iP (k : Int)] true (.one (bP (decide (l.length ≤ k) && decide (q.length ≤ k)))) := by
 refine go Tryz.func108 rfl rfl ?_
 by_cases h1 : l.length ≤ k
 ·rw [decide_eq_true h1]
  by_cases h2 : q.length ≤ k
  ·rw [decide_eq_true h2]
   repeat refine vs ?_
   conv => whnf
   first | rfl | exact ⟨rfl, rfl⟩ | exact ⟨by simp [toRes], rfl⟩
  ·rw [decide_eq_false h2]
   repeat refine vs ?_
   conv => whnf
   first | rfl | exact ⟨rfl, rfl⟩ | exact ⟨by simp [toRes], rfl⟩
 ·rw [decide_eq_false h1]
  repeat refine vs ?_
  conv => whnf
  first | rfl | exact ⟨rfl, rfl⟩ | exact ⟨by simp [toRes], rfl⟩
theorem isPoly1_den (r : RawQ) (k : Nat) (hl : r.l.length ≤ 1000000000000) (hq : r.q.length ≤ 1000000000000) : D 143 [ratR r.n r.l r.p r.q, (false, [.pint (k : Int)])] true (.one (bP (!okQ k r))) := by
 have gI := goodRatI_den r.n r.l r.p r.q hl hq
 have sI := isShortQ_den r.n r.l r.p r.q k hl hq
 unfold okQ
 refine go Tryz.func143 rfl rfl ?_
 cases hg : goodR r.n r.l r.p r.q with
 | false =>
  rw [hg] at gI
  repeat refine vs ?_
  conv => whnf
  refine CallS.mk _ rfl true true _ (gI) rfl ?_
  repeat refine vs ?_
  conv => whnf
  first | rfl | exact ⟨rfl, rfl⟩ | exact ⟨by simp [toRes], rfl⟩
 | true =>
  rw [hg] at gI
  cases hs : (decide (r.l.length ≤ k) && decide (r.q.length ≤ k)) with
  | false =>
   rw [hs] at sI
   repeat refine vs ?_
   conv => whnf
   refine CallS.mk _ rfl true true _ (gI) rfl ?_
   repeat refine vs ?_
   conv => whnf
   refine CallS.mk _ rfl true true _ (sI) rfl ?_
   repeat refine vs ?_
   conv => whnf
   first | rfl | exact ⟨rfl, rfl⟩ | exact ⟨by simp [toRes], rfl⟩
  | true =>
   rw [hs] at sI
   repeat refine vs ?_
   conv => whnf
   refine CallS.mk _ rfl true true _ (gI) rfl ?_
   repeat refine vs ?_
   conv => whnf
   refine CallS.mk _ rfl true true _ (sI) rfl ?_
   repeat refine vs ?_
   conv => whnf
   first | rfl | exact ⟨rfl, rfl⟩ | exact ⟨by simp [toRes], rfl⟩
theorem indexFuncC_den (rs : List RawQ) (hl : rs.length ≤ 1000000000000) (f : FuncId) (z : Int) (p : RawQ → Bool) (hp : ∀ r ∈ rs, D f [ratR r.n r.l r.p r.q, (false, [.pint z])] true (.one (bP (p r)))) :
  D 169 [polQ rs, (false, [.clo f z])] true (.one (iP (match rs.findIdx? p with | some i => (i : Int) | none => -1))) := by
 refine go Tryz.func169 rfl rfl ?_
 have hrl : (rs.map cellQ).length = rs.length := by simp
 repeat refine vs ?_
 conv => whnf
 refine EVs.loopU (fun i : Nat => i ≤ rs.length ∧ ∀ (j : Nat) (h : j < rs.length), j < i → p rs[j] = false) (fun i => rs.length - i) (fun i => [(8, .v false [.p (.int .i64 (i : Int))])]) 0 ⟨by omega, fun j h hj => by omega⟩ (Wk.refl _) ?_
 rintro i ⟨hi, hall⟩
 refine go1 ?_
 repeat refine vs ?_
 conv => whnf
 by_cases h1 : (i : Int) < (rs.map cellQ).length
 ·have hlt : i < rs.length := by omega
  repeat refine vs ?_
  conv => whnf
  refine LdR.mk (cellQ rs[i]) (by simp [hlt]) ?_
  repeat refine vs ?_
  conv => whnf
  refine CallS.mk _ rfl true true _ (hp rs[i] (List.getElem_mem hlt)) rfl ?_
  repeat refine vs ?_
  conv => whnf
  cases hpi : p rs[i]
  ·repeat refine vs ?_
   conv => whnf
   refine ⟨i + 1, by omega, ⟨by omega, fun j h hj => ?_⟩, ?_⟩
   ·by_cases e : j = i
    ·subst e; exact hpi
    ·exact hall j h (by omega)
   ·exact Wk.fg
  ·repeat refine vs ?_
   conv => whnf
   have : rs.findIdx? p = some i := by
    rw [List.findIdx?_eq_some_iff_getElem]
    exact ⟨hlt, hpi, fun j hj => by simp [hall j (by omega) hj]⟩
   exact ⟨by simp [toRes, this], rfl⟩
 ·repeat refine vs ?_
  conv => whnf
  have : rs.findIdx? p = none := by
   rw [List.findIdx?_eq_none_iff]
   intro x hx
   obtain ⟨j, hj, rfl⟩ := List.getElem_of_mem hx
   exact hall j hj (by omega)
  exact ⟨by simp [toRes, this], rfl⟩
theorem containsFuncC_den (rs : List RawQ) (hl : rs.length ≤ 1000000000000) (f : FuncId) (z : Int) (p : RawQ → Bool) (hp : ∀ r ∈ rs, D f [ratR r.n r.l r.p r.q, (false, [.pint z])] true (.one (bP (p r)))) :
  D 142 [polQ rs, (false, [.clo f z])] true (.one (bP (rs.any p))) := by
 refine go Tryz.func142 rfl rfl ?_
 repeat refine vs ?_
 conv => whnf
 refine CallS.mk _ rfl true true _ (indexFuncC_den rs hl f z p hp) rfl ?_
 repeat refine vs ?_
 conv => whnf
 cases h : rs.findIdx? p with
 | none =>
  have : rs.any p = false := by
   rw [List.findIdx?_eq_none_iff] at h
   rw [List.any_eq_false]
   intro x hx
   simp [h x hx]
  repeat refine vs ?_
  conv => whnf
  exact ⟨by simp [toRes, this], rfl⟩
 | some i =>
  have : rs.any p = true := by
   rw [List.findIdx?_eq_some_iff_getElem] at h
   obtain ⟨h1, h2, _⟩ := h
   rw [List.any_eq_true]
   exact ⟨_, List.getElem_mem h1, h2⟩
  repeat refine vs ?_
  conv => whnf
  exact ⟨by simp [toRes, this], rfl⟩
theorem lastQ_eq {rs : List RawQ} (h : 0 < rs.length) : lastQ rs = decide (rs[rs.length - 1].l ≠ []) := by
 unfold lastQ
 rw [List.getLast?_eq_getElem?, List.getElem?_eq_getElem (by omega)]
theorem isPoly_den (rs : List RawQ) (m K : Nat) (hm : m ≤ 1000) (hrs : shortP 1000000000000 rs) : D 89 [polQ rs, iP (m : Int), iP (K : Int)] true (.one (bP (goodP m K rs))) := by
 obtain ⟨hl, hr⟩ := hrs
 have hrl : (rs.map cellQ).length = rs.length := by simp
 have dC := containsFuncC_den rs hl 143 K (fun r => !okQ K r) (fun r hm => isPoly1_den r K (hr r hm).1 (hr r hm).2)
 have hall : (!rs.any fun r => !okQ K r) = rs.all (okQ K) := by rw [List.all_eq_not_any_not]
 refine go Tryz.func89 rfl rfl ?_
 by_cases h1 : rs.length ≤ m
 ·cases ha : rs.all (okQ K) with
  | false =>
   rw [ha] at hall
   have hany : (rs.any fun r => !okQ K r) = true := by simpa using hall
   rw [hany] at dC
   have e : goodP m K rs = false := by unfold goodP; rw [ha]; simp
   rw [e]
   repeat refine vs ?_
   conv => whnf
   refine CallS.mk _ rfl true true _ (dC) rfl ?_
   repeat refine vs ?_
   conv => whnf
   first | rfl | exact ⟨rfl, rfl⟩ | exact ⟨by simp [toRes], rfl⟩
  | true =>
   rw [ha] at hall
   have hany : (rs.any fun r => !okQ K r) = false := by simpa using hall
   rw [hany] at dC
   have e : goodP m K rs = lastQ rs := by unfold goodP; rw [ha, decide_eq_true h1]; rfl
   rw [e]
   by_cases h0 : rs = []
   ·subst h0
    repeat refine vs ?_
    conv => whnf
    refine CallS.mk _ rfl true true _ (dC) rfl ?_
    repeat refine vs ?_
    conv => whnf
    first | rfl | exact ⟨rfl, rfl⟩ | exact ⟨by simp [toRes], rfl⟩
   ·have hpos : 0 < rs.length := List.length_pos_iff.2 h0
    obtain ⟨fs, hfs, hlow⟩ := all_ex ha
    have hfl : fs.length = rs.length := by rw [hfs]; simp
    have hlast : rs[rs.length - 1] = qF fs[rs.length - 1] := by simp only [hfs, List.getElem_map]
    have hk := (hlow fs[rs.length - 1] (List.getElem_mem (by omega))).1
    generalize hf : fs[rs.length - 1] = f at *
    have hlen := (hr (qF f) (by rw [← hlast]; exact List.getElem_mem (by omega))).1
    have dS := ratSign_den f.1 f.2 (by exact hlen)
    rw [lastQ_eq hpos, hlast]
    have hne : ((qF f).l ≠ []) ↔ f.1 ≠ 0 := by
     show Lm.lim f.1.natAbs ≠ [] ↔ _
     rw [ne_eq, Lm.lim_eq_nil]
     omega
    have hgl : (rs.map cellQ)[rs.length - 1]? = some (cellQ (qF f)) := by rw [List.getElem?_map, List.getElem?_eq_getElem (by omega), hlast]; rfl
    by_cases hz : f.1 = 0
    ·have h2 : cmpI f.1 0 = 0 := by rw [hz]; rfl
     rw [decide_eq_false (show ¬ (qF f).l ≠ [] by rw [hne]; omega)]
     repeat refine vs ?_
     conv => whnf
     refine CallS.mk _ rfl true true _ (dC) rfl ?_
     repeat refine vs ?_
     conv => whnf
     first | refine Idx.mk ((rs.length - 1)) (by first | rfl | omega) (by omega) ?_ | skip
     repeat refine vs ?_
     conv => whnf
     refine LdR.mk (cellQ (qF f)) hgl ?_
     repeat refine vs ?_
     conv => whnf
     refine CallS.mk _ rfl true true _ (dS) rfl ?_
     repeat refine vs ?_
     conv => whnf
     first | rfl | exact ⟨rfl, rfl⟩ | exact ⟨by simp [toRes], rfl⟩
    ·have h2 : cmpI f.1 0 ≠ 0 := by rcases cmpI_sgn f.1 with h | h | h <;> omega
     rw [decide_eq_true (show (qF f).l ≠ [] by rw [hne]; omega)]
     repeat refine vs ?_
     conv => whnf
     refine CallS.mk _ rfl true true _ (dC) rfl ?_
     repeat refine vs ?_
     conv => whnf
     first | refine Idx.mk ((rs.length - 1)) (by first | rfl | omega) (by omega) ?_ | skip
     repeat refine vs ?_
     conv => whnf
     refine LdR.mk (cellQ (qF f)) hgl ?_
     repeat refine vs ?_
     conv => whnf
     refine CallS.mk _ rfl true true _ (dS) rfl ?_
     repeat refine vs ?_
     conv => whnf
     first | rfl | exact ⟨rfl, rfl⟩ | exact ⟨by simp [toRes], rfl⟩
 ·have e : goodP m K rs = false := by unfold goodP; rw [decide_eq_false h1]; rfl
  rw [e]
  repeat refine vs ?_
  conv => whnf
  first | rfl | exact ⟨rfl, rfl⟩ | exact ⟨by simp [toRes], rfl⟩
end Go.Vx
end
section
/- Chapters 4 and 5: which lists are polynomials, and root polynomials; sign changes; values. -/
namespace Go.Vx
open Go.Proofs
set_option maxRecDepth 100000

theorem l4Small_den (n : Bool) (l : List Int) (p : Bool) (q : List Int) (hl : l.length ≤ 1000000000000) (hq : q.length ≤ 1000000000000) : D 48 [ratR n l p q] true (.one (bP (decide (l.length ≤ 6) && decide (q.length ≤ 6)))) := by
 refine go Tryz.func48 rfl rfl ?_
 by_cases h1 : l.length ≤ 6
 ·rw [decide_eq_true h1]
  by_cases h2 : q.length ≤ 6
  ·rw [decide_eq_true h2]
   repeat refine vs ?_
   conv => whnf
   first | rfl | exact ⟨rfl, rfl⟩ | exact ⟨by simp [toRes], rfl⟩
  ·rw [decide_eq_false h2]
   repeat refine vs ?_
   conv => whnf
   first | rfl | exact ⟨rfl, rfl⟩ | exact ⟨by simp [toRes], rfl⟩
 ·rw [decide_eq_false h1]
  repeat refine vs ?_
  conv => whnf
  first | rfl | exact ⟨rfl, rfl⟩ | exact ⟨by simp [toRes], rfl⟩
theorem l4Zero_den (n : Bool) (l : List Int) (p : Bool) (q : List Int) (hl : l.length ≤ 1000000000000) : D 99 [ratR n l p q] true (.one (bP (decide (l = [])))) := by
 have h0 : l = [] ↔ l.length = 0 := List.length_eq_zero_iff.symm
 refine go Tryz.func99 rfl rfl ?_
 by_cases h1 : l = []
 ·rw [decide_eq_true h1]
  have := h0.1 h1
  repeat refine vs ?_
  conv => whnf
  first | rfl | exact ⟨rfl, rfl⟩ | exact ⟨by simp [toRes], rfl⟩
 ·rw [decide_eq_false h1]
  have : ¬ l.length = 0 := fun x => h1 (h0.2 x)
  repeat refine vs ?_
  conv => whnf
  first | rfl | exact ⟨rfl, rfl⟩ | exact ⟨by simp [toRes], rfl⟩
theorem goodP_spec (rs : List RawQ) (ha : rs.all (okQ 6) = true) : goodP 7 6 rs = (decide (rs.length ≤ 7) && lastQ rs) := by unfold goodP; rw [ha, Bool.and_true]
theorem goodPolyS_den (rs : List RawQ) (hrs : shortP 1000000000000 rs) : D 47 [polQ rs] true (.one (bP (goodP 7 6 rs))) := by
 obtain ⟨hl, hr⟩ := hrs
 have hrl : (rs.map cellQ).length = rs.length := by simp
 refine go Tryz.func47 rfl rfl ?_
 repeat refine vs ?_
 conv => whnf
 refine EVs.loopU (fun i : Nat => i ≤ rs.length ∧ ∀ (j : Nat) (h : j < rs.length), j < i → okQ 6 rs[j] = true) (fun i => rs.length - i) (fun i => [(7, .v false [.p (.int .i64 (i : Int))])]) 0 ⟨by omega, fun j h hj => by omega⟩ (Wk.refl _) ?_
 rintro i ⟨hi, hall⟩
 refine go1 ?_
 repeat refine vs ?_
 conv => whnf
 by_cases h1 : (i : Int) < (rs.map cellQ).length
 ·have hlt : i < rs.length := by omega
  obtain ⟨hr1, hr2⟩ := hr rs[i] (List.getElem_mem hlt)
  have hbad : okQ 6 rs[i] = false → goodP 7 6 rs = false := fun h => by
   have : rs.all (okQ 6) = false := by rw [List.all_eq_false]; exact ⟨rs[i], List.getElem_mem hlt, by simp [h]⟩
   unfold goodP
   rw [this, Bool.and_false, Bool.false_and]
  have hone : okQ 6 rs[i] = true → ∀ (j : Nat) (h : j < rs.length), j < i + 1 → okQ 6 rs[j] = true := fun h j hj hji => by
   by_cases e : j = i
   ·subst e; exact h
   ·exact hall j hj (by omega)
  have hget : (rs.map cellQ)[i]? = some (cellQ rs[i]) := by rw [List.getElem?_map, List.getElem?_eq_getElem hlt]; rfl
  generalize rs[i] = r at *
  have dS := l4Small_den r.n r.l r.p r.q hr1 hr2
  have dG := goodRatS_den r.n r.l r.p r.q hr1 hr2
  have hok : okQ 6 r = (goodR r.n r.l r.p r.q && (decide (r.l.length ≤ 6) && decide (r.q.length ≤ 6))) := rfl
  repeat refine vs ?_
  conv => whnf
  refine LdR.mk (cellQ r) hget ?_
  repeat refine vs ?_
  conv => whnf
  cases hs : (decide (r.l.length ≤ 6) && decide (r.q.length ≤ 6)) with
  | false =>
   rw [hs] at dS hok
   rw [Bool.and_false] at hok
   rw [hbad hok]
   refine CallS.mk _ rfl true true _ (dS) rfl ?_
   repeat refine vs ?_
   conv => whnf
   first | rfl | exact ⟨rfl, rfl⟩ | exact ⟨by simp [toRes], rfl⟩
  | true =>
   rw [hs] at dS hok
   rw [Bool.and_true] at hok
   cases hg : goodR r.n r.l r.p r.q with
   | false =>
    rw [hg] at dG hok
    rw [hbad hok]
    refine CallS.mk _ rfl true true _ (dS) rfl ?_
    repeat refine vs ?_
    conv => whnf
    refine CallS.mk _ rfl true true _ (dG) rfl ?_
    repeat refine vs ?_
    conv => whnf
    first | rfl | exact ⟨rfl, rfl⟩ | exact ⟨by simp [toRes], rfl⟩
   | true =>
    rw [hg] at dG hok
    refine CallS.mk _ rfl true true _ (dS) rfl ?_
    repeat refine vs ?_
    conv => whnf
    refine CallS.mk _ rfl true true _ (dG) rfl ?_
    repeat refine vs ?_
    conv => whnf
    refine ⟨i + 1, by omega, ⟨by omega, hone hok⟩, ?_⟩
    exact Wk.fg
 ·have hA : rs.all (okQ 6) = true := by
   rw [List.all_eq_true]
   intro x hx
   obtain ⟨j, hj, rfl⟩ := List.getElem_of_mem hx
   exact hall j hj (by omega)
  rw [goodP_spec rs hA]
  by_cases h7 : rs.length ≤ 7
  ·rw [decide_eq_true h7, Bool.true_and]
   by_cases h0 : rs = []
   ·subst h0
    repeat refine vs ?_
    conv => whnf
    first | rfl | exact ⟨rfl, rfl⟩ | exact ⟨by simp [toRes], rfl⟩
   ·have hpos : 0 < rs.length := List.length_pos_iff.2 h0
    obtain ⟨hr1, hr2⟩ := hr rs[rs.length - 1] (List.getElem_mem (by omega))
    have hget : (rs.map cellQ)[rs.length - 1]? = some (cellQ rs[rs.length - 1]) := by rw [List.getElem?_map, List.getElem?_eq_getElem (by omega)]; rfl
    rw [lastQ_eq hpos]
    generalize rs[rs.length - 1] = r at *
    have dZ := l4Zero_den r.n r.l r.p r.q hr1
    repeat refine vs ?_
    conv => whnf
    first | refine Idx.mk ((rs.length - 1)) (by first | rfl | omega) (by omega) ?_ | skip
    repeat refine vs ?_
    conv => whnf
    refine LdR.mk (cellQ r) hget ?_
    repeat refine vs ?_
    conv => whnf
    by_cases hz : r.l = []
    ·rw [decide_eq_true hz] at dZ
     rw [decide_eq_false (by simp [hz])]
     refine CallS.mk _ rfl true true _ (dZ) rfl ?_
     repeat refine vs ?_
     conv => whnf
     first | rfl | exact ⟨rfl, rfl⟩ | exact ⟨by simp [toRes], rfl⟩
    ·rw [decide_eq_false hz] at dZ
     rw [decide_eq_true hz]
     refine CallS.mk _ rfl true true _ (dZ) rfl ?_
     repeat refine vs ?_
     conv => whnf
     first | rfl | exact ⟨rfl, rfl⟩ | exact ⟨by simp [toRes], rfl⟩
  ·rw [decide_eq_false h7, Bool.false_and]
   repeat refine vs ?_
   conv => whnf
   first | rfl | exact ⟨rfl, rfl⟩ | exact ⟨by simp [toRes], rfl⟩
/-! ### sign changes -/
def chgF : Int → List (Int × Int) → Int
 | _, [] => 0
 | last, f :: l => if cmpI f.1 0 = 0 then chgF last l else (if last * cmpI f.1 0 < 0 then 1 else 0) + chgF (cmpI f.1 0) l
theorem chgF_zero {last : Int} {f : Int × Int} {l : List (Int × Int)} (h : cmpI f.1 0 = 0) : chgF last (f :: l) = chgF last l := if_pos h
theorem chgF_neg {last : Int} {f : Int × Int} {l : List (Int × Int)} (h : cmpI f.1 0 ≠ 0) (k : last * cmpI f.1 0 < 0) : chgF last (f :: l) = 1 + chgF (cmpI f.1 0) l := by
 show (if cmpI f.1 0 = 0 then _ else _) = _
 rw [if_neg h, if_pos k]
theorem chgF_pos {last : Int} {f : Int × Int} {l : List (Int × Int)} (h : cmpI f.1 0 ≠ 0) (k : ¬ last * cmpI f.1 0 < 0) : chgF last (f :: l) = chgF (cmpI f.1 0) l := by
 show (if cmpI f.1 0 = 0 then _ else _) = _
 rw [if_neg h, if_neg k, Int.zero_add]
theorem chgF_len : ∀ (l : List (Int × Int)) (last : Int), 0 ≤ chgF last l ∧ chgF last l ≤ l.length
 | [], _ => ⟨Int.le_refl _, Int.le_refl _⟩
 | f :: l, last => by
  have h1 := chgF_len l last
  have h2 := chgF_len l (cmpI f.1 0)
  rw [List.length_cons]
  by_cases c : cmpI f.1 0 = 0
  ·rw [chgF_zero c]; omega
  ·by_cases d : last * cmpI f.1 0 < 0
   ·rw [chgF_neg c d]; omega
   ·rw [chgF_pos c d]; omega
theorem sgn_mul {a b : Int} (ha : -1 ≤ a ∧ a ≤ 1) (hb : -1 ≤ b ∧ b ≤ 1) : a * b < 0 ↔ (b ≠ 0 ∧ a ≠ 0 ∧ b ≠ a) := by
 have h1 : a = -1 ∨ a = 0 ∨ a = 1 := by omega
 have h2 : b = -1 ∨ b = 0 ∨ b = 1 := by omega
 rcases h1 with rfl | rfl | rfl <;> rcases h2 with rfl | rfl | rfl <;> simp
section
variable (fs : List (Int × Int)) (hl : fs.length ≤ 1000000) (hq : ∀ f ∈ fs, okF 40000000000 f)
include hl hq
theorem changes_den : D 162 [(false, [.arr 4 (fs.map cellR)])] true (.one (iP (chgF 0 fs))) := by
 have hrl : (fs.map cellR).length = fs.length := by simp
 refine go Tryz.func162 rfl rfl ?_
 repeat refine vs ?_
 conv => whnf
 refine EVs.loopU (fun s : Nat × Int × Int => s.1 ≤ fs.length ∧ 0 ≤ s.2.1 ∧ s.2.1 ≤ s.1 ∧ (-1 ≤ s.2.2 ∧ s.2.2 ≤ 1) ∧ s.2.1 + chgF s.2.2 (fs.drop s.1) = chgF 0 fs) (fun s => fs.length - s.1)
  (fun | (i, c, last) => [(3, .v false [.p (.int .i64 c)]), (4, .v false [.p (.int .i64 last)]), (9, .v false [.p (.int .i64 (i : Int))])]) (0, 0, 0) ⟨by dsimp only; omega, by dsimp only; omega, by dsimp only; omega, by dsimp only; omega, by show (0 : Int) + _ = _; rw [Int.zero_add]; rfl⟩ (Wk.refl _) ?_
 rintro ⟨i, c, last⟩ ⟨hi, hc0, hci, hlast, hinv⟩
 dsimp only at hi hc0 hci hlast hinv
 refine go1 ?_
 repeat refine vs ?_
 conv => whnf
 by_cases h1 : (i : Int) < (fs.map cellR).length
 ·have hlt : i < fs.length := by omega
  have ha := hq fs[i] (List.getElem_mem hlt)
  have hget : (fs.map cellR)[i]? = some (cellR fs[i]) := by rw [List.getElem?_map, List.getElem?_eq_getElem hlt]; rfl
  rw [List.drop_eq_getElem_cons hlt] at hinv
  generalize fs[i] = f at *
  have dS := ratSign_den f.1 f.2 (by have := ha.2.1; omega)
  have hr := cmpI_range f.1 0
  have hsg := sgn_mul hlast hr
  repeat refine vs ?_
  conv => whnf
  refine LdR.mk (cellR f) hget ?_
  repeat refine vs ?_
  conv => whnf
  refine CallS.mk _ rfl true true _ (dS) rfl ?_
  repeat refine vs ?_
  conv => whnf
  by_cases hz : cmpI f.1 0 = 0
  ·rw [chgF_zero hz] at hinv
   repeat refine vs ?_
   conv => whnf
   refine ⟨(i + 1, c, last), by dsimp only; omega, ⟨by dsimp only; omega, hc0, by dsimp only; omega, hlast, hinv⟩, ?_⟩
   exact Wk.fg
  ·repeat refine vs ?_
   conv => whnf
   refine CallS.mk _ rfl true true _ (dS) rfl ?_
   repeat refine vs ?_
   conv => whnf
   have hm : -1 ≤ last * cmpI f.1 0 ∧ last * cmpI f.1 0 ≤ 1 := by
    have h1 : last = -1 ∨ last = 0 ∨ last = 1 := by omega
    rcases h1 with rfl | rfl | rfl <;> omega
   generalize hmm : last * cmpI f.1 0 = m at *
   by_cases hn : m < 0
   ·rw [chgF_neg hz (by omega)] at hinv
    repeat refine vs ?_
    conv => whnf
    refine CallS.mk _ rfl true true _ (dS) rfl ?_
    repeat refine vs ?_
    conv => whnf
    refine ⟨(i + 1, c + 1, cmpI f.1 0), by dsimp only; omega, ⟨by dsimp only; omega, by dsimp only; omega, by dsimp only; omega, hr, by dsimp only; omega⟩, ?_⟩
    exact Wk.fg
   ·rw [chgF_pos hz (by omega)] at hinv
    repeat refine vs ?_
    conv => whnf
    refine CallS.mk _ rfl true true _ (dS) rfl ?_
    repeat refine vs ?_
    conv => whnf
    refine ⟨(i + 1, c, cmpI f.1 0), by dsimp only; omega, ⟨by dsimp only; omega, hc0, by dsimp only; omega, hr, hinv⟩, ?_⟩
    exact Wk.fg
 ·have : i = fs.length := by omega
  subst this
  rw [List.drop_length] at hinv
  have : c = chgF 0 fs := by rw [← hinv]; show c = c + 0; omega
  rw [← this]
  repeat refine vs ?_
  conv => whnf
  first | rfl | exact ⟨rfl, rfl⟩ | exact ⟨by simp [toRes], rfl⟩
theorem l4Signs_den : D 189 [(false, [.arr 4 (fs.map cellR)])] true (.one (iP (chgF 0 fs))) := by
 have hrl : (fs.map cellR).length = fs.length := by simp
 refine go Tryz.func189 rfl rfl ?_
 repeat refine vs ?_
 conv => whnf
 refine EVs.loopU (fun s : Nat × Int × Int => s.1 ≤ fs.length ∧ 0 ≤ s.2.1 ∧ s.2.1 ≤ s.1 ∧ (-1 ≤ s.2.2 ∧ s.2.2 ≤ 1) ∧ s.2.1 + chgF s.2.2 (fs.drop s.1) = chgF 0 fs) (fun s => fs.length - s.1)
  (fun | (i, c, last) => [(3, .v false [.p (.int .i64 c)]), (4, .v false [.p (.int .i64 last)]), (10, .v false [.p (.int .i64 (i : Int))])]) (0, 0, 0) ⟨by dsimp only; omega, by dsimp only; omega, by dsimp only; omega, by dsimp only; omega, by show (0 : Int) + _ = _; rw [Int.zero_add]; rfl⟩ (Wk.refl _) ?_
 rintro ⟨i, c, last⟩ ⟨hi, hc0, hci, hlast, hinv⟩
 dsimp only at hi hc0 hci hlast hinv
 refine go1 ?_
 repeat refine vs ?_
 conv => whnf
 by_cases h1 : (i : Int) < (fs.map cellR).length
 ·have hlt : i < fs.length := by omega
  have ha := hq fs[i] (List.getElem_mem hlt)
  have hget : (fs.map cellR)[i]? = some (cellR fs[i]) := by rw [List.getElem?_map, List.getElem?_eq_getElem hlt]; rfl
  rw [List.drop_eq_getElem_cons hlt] at hinv
  generalize fs[i] = f at *
  have l0 : Lm.ln 0 ≤ 4 := ln64 (by omega) (by omega)
  have l1 : Lm.ln 1 ≤ 4 := ln64 (by omega) (by omega)
  have dI := l2Int_den 0 (by omega) (by omega)
  have dC := l2Cmp_den f.1 f.2 0 1 (by have := ha.1; omega) (by omega) ha.2.1 ha.2.2 (by omega) (by omega)
  rw [Int.mul_one, Int.zero_mul] at dC
  have hr := cmpI_range f.1 0
  have hsg := sgn_mul hlast hr
  generalize hs : cmpI f.1 0 = s at *
  repeat refine vs ?_
  conv => whnf
  refine LdR.mk (cellR f) hget ?_
  repeat refine vs ?_
  conv => whnf
  refine CallS.mk _ rfl true false _ (dI) rfl ?_
  repeat refine vs ?_
  conv => whnf
  refine CallS.mk _ rfl true true _ (dC) rfl ?_
  repeat refine vs ?_
  conv => whnf
  by_cases hz : s = 0
  ·rw [chgF_zero (by omega)] at hinv
   repeat refine vs ?_
   conv => whnf
   refine ⟨(i + 1, c, last), by dsimp only; omega, ⟨by dsimp only; omega, hc0, by dsimp only; omega, hlast, hinv⟩, ?_⟩
   exact Wk.fg
  ·by_cases hn : last ≠ 0 ∧ s ≠ last
   ·rw [chgF_neg (by omega) (by rw [hs]; exact hsg.2 ⟨hz, hn⟩), hs] at hinv
    obtain ⟨hn1, hn2⟩ := hn
    repeat refine vs ?_
    conv => whnf
    refine ⟨(i + 1, c + 1, s), by dsimp only; omega, ⟨by dsimp only; omega, by dsimp only; omega, by dsimp only; omega, hr, by dsimp only; omega⟩, ?_⟩
    exact Wk.fg
   ·rw [chgF_pos (by omega) (by rw [hs]; exact fun x => hn (hsg.1 x).2), hs] at hinv
    by_cases hn1 : last = 0
    ·repeat refine vs ?_
     conv => whnf
     refine ⟨(i + 1, c, s), by dsimp only; omega, ⟨by dsimp only; omega, hc0, by dsimp only; omega, hr, hinv⟩, ?_⟩
     exact Wk.fg
    ·have hn2 : s = last := by
      by_cases e : s = last
      ·exact e
      ·exact absurd ⟨hn1, e⟩ hn
     repeat refine vs ?_
     conv => whnf
     refine ⟨(i + 1, c, s), by dsimp only; omega, ⟨by dsimp only; omega, hc0, by dsimp only; omega, hr, hinv⟩, ?_⟩
     exact Wk.fg
 ·have : i = fs.length := by omega
  subst this
  rw [List.drop_length] at hinv
  have : c = chgF 0 fs := by rw [← hinv]; show c = c + 0; omega
  rw [← this]
  repeat refine vs ?_
  conv => whnf
  first | rfl | exact ⟨rfl, rfl⟩ | exact ⟨by simp [toRes], rfl⟩
end
end Go.Vx
end
section
/- The laws' own functions for lists of fractions. -/
namespace Go.Vx
open Go.Proofs
set_option maxRecDepth 100000

/-- What is left of the measure behind a fraction, behind several. -/
noncomputable def szQ (r : RawQ) (k : Int) : Int := @dite _ (∃ s : Int, D 17 [ratR r.n r.l r.p r.q, iP k] true (.one (iP s)) ∧ (¬ s < 0 → r.l.length ≤ 1048576 ∧ r.q.length ≤ 1048576 ∧ 0 ≤ s ∧ s ≤ 1048576)) (Classical.propDecidable _) (fun h => Classical.choose h) (fun _ => -1)
theorem szQ_den (r : RawQ) (k : Int) (hk : 0 ≤ k ∧ k ≤ 1048576) (hl : r.l.length ≤ 9223372036854775807) (hq : r.q.length ≤ 9223372036854775807) :
  D 17 [ratR r.n r.l r.p r.q, iP k] true (.one (iP (szQ r k))) ∧ (¬ szQ r k < 0 → r.l.length ≤ 1048576 ∧ r.q.length ≤ 1048576 ∧ 0 ≤ szQ r k ∧ szQ r k ≤ 1048576) := by
 have h := szRat_den r.n r.l r.p r.q k hk hl hq
 unfold szQ
 rw [dif_pos h]
 exact Classical.choose_spec h
noncomputable def szL : List RawQ → Int → Int
 | [], k => k
 | r :: rs, k => if szQ r k < 0 then -1 else szL rs (szQ r k)
theorem szL_neg {r : RawQ} {rs : List RawQ} {k : Int} (h : szQ r k < 0) : szL (r :: rs) k = -1 := if_pos h
theorem szL_pos {r : RawQ} {rs : List RawQ} {k : Int} (h : ¬ szQ r k < 0) : szL (r :: rs) k = szL rs (szQ r k) := if_neg h
theorem szL_ok : ∀ {rs : List RawQ} {k : Int}, (0 ≤ k ∧ k ≤ 1048576) → (∀ r ∈ rs, r.l.length ≤ 9223372036854775807 ∧ r.q.length ≤ 9223372036854775807) → ¬ szL rs k < 0 → (∀ r ∈ rs, r.l.length ≤ 1048576 ∧ r.q.length ≤ 1048576) ∧ 0 ≤ szL rs k ∧ szL rs k ≤ 1048576
 | [], k, hk, _, _ => ⟨fun r h => (by cases h), hk⟩
 | r :: rs, k, hk, hr, h => by
  obtain ⟨h1, h2⟩ := hr r List.mem_cons_self
  have hs := (szQ_den r k hk h1 h2).2
  by_cases c : szQ r k < 0
  ·rw [szL_neg c] at h; omega
  ·rw [szL_pos c] at h ⊢
   obtain ⟨a1, a2, a3⟩ := hs c
   obtain ⟨b1, b2⟩ := szL_ok a3 (fun q hq => hr q (List.mem_cons_of_mem _ hq)) h
   refine ⟨fun q hq => ?_, b2⟩
   rcases List.mem_cons.1 hq with rfl | hq
   ·exact ⟨a1, a2⟩
   ·exact b1 q hq
theorem szRatS_den (rs : List RawQ) (k : Int) (hk : 0 ≤ k ∧ k ≤ 1048576) (hrs : shortP 9223372036854775807 rs) :
  ∃ s : Int, D 10 [polQ rs, iP k] true (.one (iP s)) ∧ (¬ s < 0 → shortP 1048576 rs ∧ 0 ≤ s ∧ s ≤ 1048576) := by
 obtain ⟨hl, hr⟩ := hrs
 have hrl : (rs.map cellQ).length = rs.length := by simp
 by_cases h0 : k - (rs.length : Int) < 0
 ·refine ⟨-1, go Tryz.func10 rfl rfl ?_, fun h => by omega⟩
  repeat refine vs ?_
  conv => whnf
  first | rfl | exact ⟨rfl, rfl⟩ | exact ⟨by simp [toRes], rfl⟩
 ·refine ⟨szL rs (k - rs.length), go Tryz.func10 rfl rfl ?_, fun h => ?_⟩
  ·repeat refine vs ?_
   conv => whnf
   refine EVs.loopU (fun s : Nat × Int => s.1 ≤ rs.length ∧ (0 ≤ s.2 ∧ s.2 ≤ 1048576) ∧ szL (rs.drop s.1) s.2 = szL rs (k - rs.length)) (fun s => rs.length - s.1)
    (fun | (i, c) => [(1, .v false [.p (.int .i64 c)]), (5, .v false [.p (.int .i64 (i : Int))])]) (0, k - rs.length) ⟨by dsimp only; omega, by dsimp only; omega, rfl⟩ ?_ ?_
   ·rw [hrl]
    exact Wk.refl _
   rintro ⟨i, c⟩ ⟨hi, hc, hinv⟩
   dsimp only at hi hc hinv
   refine go1 ?_
   repeat refine vs ?_
   conv => whnf
   by_cases h1 : (i : Int) < (rs.map cellQ).length
   ·have hlt : i < rs.length := by omega
    obtain ⟨hr1, hr2⟩ := hr rs[i] (List.getElem_mem hlt)
    have hget : (rs.map cellQ)[i]? = some (cellQ rs[i]) := by rw [List.getElem?_map, List.getElem?_eq_getElem hlt]; rfl
    rw [List.drop_eq_getElem_cons hlt] at hinv
    generalize rs[i] = r at *
    obtain ⟨dZ, hZ⟩ := szQ_den r c hc hr1 hr2
    repeat refine vs ?_
    conv => whnf
    refine LdR.mk (cellQ r) hget ?_
    repeat refine vs ?_
    conv => whnf
    refine CallS.mk _ rfl true true _ (dZ) rfl ?_
    repeat refine vs ?_
    conv => whnf
    by_cases hn : szQ r c < 0
    ·rw [szL_neg hn] at hinv
     rw [← hinv]
     repeat refine vs ?_
     conv => whnf
     first | rfl | exact ⟨rfl, rfl⟩ | exact ⟨by simp [toRes], rfl⟩
    ·rw [szL_pos hn] at hinv
     obtain ⟨a1, a2, a3⟩ := hZ hn
     repeat refine vs ?_
     conv => whnf
     refine ⟨(i + 1, szQ r c), by dsimp only; omega, ⟨by dsimp only; omega, a3, hinv⟩, ?_⟩
     exact Wk.fg
   ·have : i = rs.length := by omega
    subst this
    rw [List.drop_length] at hinv
    rw [← hinv]
    repeat refine vs ?_
    conv => whnf
    first | rfl | exact ⟨rfl, rfl⟩ | exact ⟨by simp [toRes], rfl⟩
  ·obtain ⟨h1, h2⟩ := szL_ok (by omega) hr h
   exact ⟨⟨by omega, h1⟩, h2⟩
theorem eqRatS_rfl (rs : List RawQ) (hrs : shortP 1048576 rs) : D 14 [polQ rs, polQ rs] true (.one (bP true)) := by
 obtain ⟨hl, hr⟩ := hrs
 have hrl : (rs.map cellQ).length = rs.length := by simp
 refine go Tryz.func14 rfl rfl ?_
 repeat refine vs ?_
 conv => whnf
 refine EVs.loopU (fun i : Nat => i ≤ rs.length) (fun i => rs.length - i) (fun i => [(5, .v false [.p (.int .i64 (i : Int))])]) 0 (by omega) (Wk.refl _) ?_
 intro i hi
 refine go1 ?_
 repeat refine vs ?_
 conv => whnf
 by_cases h1 : (i : Int) < (rs.map cellQ).length
 ·have hlt : i < rs.length := by omega
  obtain ⟨hr1, hr2⟩ := hr rs[i] (List.getElem_mem hlt)
  have hget : (rs.map cellQ)[i]? = some (cellQ rs[i]) := by rw [List.getElem?_map, List.getElem?_eq_getElem hlt]; rfl
  generalize rs[i] = r at *
  repeat refine vs ?_
  conv => whnf
  refine LdR.mk (cellQ r) hget ?_
  repeat refine vs ?_
  conv => whnf
  refine LdR.mk (cellQ r) hget ?_
  repeat refine vs ?_
  conv => whnf
  refine CallS.mk _ rfl true true _ (eqRat_rfl r.n r.l r.p r.q (by omega) (by omega)) rfl ?_
  repeat refine vs ?_
  conv => whnf
  refine ⟨i + 1, by omega, by omega, ?_⟩
  exact Wk.fg
 ·repeat refine vs ?_
  conv => whnf
  first | rfl | exact ⟨rfl, rfl⟩ | exact ⟨by simp [toRes], rfl⟩
def zRow : List PL := [.bool false, .ints [], .bool false, .ints []]
theorem set_row {rs : List RawQ} {i : Nat} (h : i < rs.length) : ((rs.take i).map cellQ ++ List.replicate (rs.length - i) zRow).set i (cellQ rs[i]) = (rs.take (i + 1)).map cellQ ++ List.replicate (rs.length - (i + 1)) zRow := by
 have e1 : ((rs.take i).map cellQ).length = i := by simp; omega
 rw [List.set_append_right _ _ (by omega), e1, Nat.sub_self, show rs.length - i = (rs.length - (i + 1)) + 1 by omega, List.replicate_succ, List.set_cons_zero, List.take_succ_eq_append_getElem h, List.map_append, List.append_assoc]
 rfl
theorem toRatS_den (rs : List RawQ) (hrs : shortP 1048576 rs) : D 12 [polQ rs] false (.one (polQ rs)) := by
 obtain ⟨hl, hr⟩ := hrs
 have hrl : (rs.map cellQ).length = rs.length := by simp
 refine go Tryz.func12 rfl rfl ?_
 repeat refine vs ?_
 conv => whnf
 refine MakeR.mk (rs.map cellQ).length rfl rfl (by omega) true ?_
 repeat refine vs ?_
 conv => whnf
 refine EVs.un (7, 0) ?_
 refine EVs.loopU (fun i : Nat => i ≤ rs.length) (fun i => rs.length - i) (fun i => [(3, .v false [.own (7, 0) 41 (.arr 4 ((rs.take i).map cellQ ++ List.replicate ((rs.map cellQ).length - i) zRow))]), (4, .v false [.p (.int .i64 (i : Int))]), (7, .any)]) 0 (by omega) ?_ ?_
 ·exact Wk.fg
 intro i hi
 refine go1 ?_
 repeat refine vs ?_
 conv => whnf
 by_cases h1 : (i : Int) < (rs.map cellQ).length
 ·have hlt : i < rs.length := by omega
  obtain ⟨hr1, hr2⟩ := hr rs[i] (List.getElem_mem hlt)
  have hget : (rs.map cellQ)[i]? = some (cellQ rs[i]) := by rw [List.getElem?_map, List.getElem?_eq_getElem hlt]; rfl
  have hset := set_row hlt
  have hlen : ((rs.take i).map cellQ ++ List.replicate ((rs.map cellQ).length - i) zRow).length = rs.length := by simp; omega
  rw [← hrl] at hset
  generalize rs[i] = r at *
  repeat refine vs ?_
  conv => whnf
  refine LdR.mk (cellQ r) hget ?_
  repeat refine vs ?_
  conv => whnf
  refine CallS.mk _ rfl true false _ (toRat_den r.n r.l r.p r.q (by omega) (by omega)) rfl ?_
  repeat refine vs ?_
  conv => whnf
  have hset' : ((rs.take i).map cellQ ++ List.replicate ((rs.map cellQ).length - i) zRow).set i [.bool r.n, .ints r.l, .bool r.p, .ints r.q] = (rs.take (i + 1)).map cellQ ++ List.replicate ((rs.map cellQ).length - (i + 1)) zRow := hset
  rw [hset']
  refine ⟨i + 1, by omega, by omega, ?_⟩
  exact Wk.fg
 ·have : i = rs.length := by omega
  subst this
  repeat refine vs ?_
  conv => whnf
  rw [hrl, List.take_length, Nat.sub_self, List.replicate_zero, List.append_nil]
  rfl
end Go.Vx
end
section
/- Chapters 4 and 5: root polynomials; the value at a fraction. -/
namespace Go.Vx
open Go.Proofs
set_option maxRecDepth 100000

theorem okF.mono {K M : Nat} {f : Int × Int} (h : okF K f) (hk : K ≤ M) : okF M f := ⟨h.1, Nat.le_trans h.2.1 hk, Nat.le_trans h.2.2 hk⟩
def mulR (a b : Int × Int) : Int × Int := (nN (a.1 * b.1) (a.2 * b.2), dN (a.1 * b.1) (a.2 * b.2))
def addR (a b : Int × Int) : Int × Int := (nN (addN a.1 a.2 b.1 b.2) (a.2 * b.2), dN (addN a.1 a.2 b.1 b.2) (a.2 * b.2))
def subR (a b : Int × Int) : Int × Int := (nN (addN a.1 a.2 (-b.1) b.2) (a.2 * b.2), dN (addN a.1 a.2 (-b.1) b.2) (a.2 * b.2))
def divR (a b : Int × Int) : Int × Int := (nN (a.1 * b.2) (a.2 * b.1), dN (a.1 * b.2) (a.2 * b.1))
section
variable {K M : Nat} {a b : Int × Int} (ha : okF K a) (hb : okF M b)
include ha hb
theorem mulR_ok : okF (K + M) (mulR a b) :=
 ⟨dN_pos (Int.mul_ne_zero (by have := ha.1; omega) (by have := hb.1; omega)), Nat.le_trans (ln_nN _ _) (Lm.ln_mul _ _ ha.2.1 hb.2.1), Nat.le_trans (ln_dN _ _) (Lm.ln_mul _ _ ha.2.2 hb.2.2)⟩
theorem addR_ok : okF (K + M + 1) (addR a b) :=
 ⟨dN_pos (Int.mul_ne_zero (by have := ha.1; omega) (by have := hb.1; omega)), Nat.le_trans (ln_nN _ _) (Lm.ln_add _ _ (Lm.ln_mul _ _ ha.2.1 hb.2.2) (by have := Lm.ln_mul _ _ hb.2.1 ha.2.2; omega)), Nat.le_trans (ln_dN _ _) (Nat.le_trans (Lm.ln_mul _ _ ha.2.2 hb.2.2) (by omega))⟩
theorem subR_ok : okF (K + M + 1) (subR a b) :=
 ⟨dN_pos (Int.mul_ne_zero (by have := ha.1; omega) (by have := hb.1; omega)), Nat.le_trans (ln_nN _ _) (Lm.ln_add _ _ (Lm.ln_mul _ _ ha.2.1 hb.2.2) (by have := Lm.ln_mul (-b.1) a.2 (by rw [Lm.ln_neg]; exact hb.2.1) ha.2.2; omega)), Nat.le_trans (ln_dN _ _) (Nat.le_trans (Lm.ln_mul _ _ ha.2.2 hb.2.2) (by omega))⟩
theorem divR_ok (h0 : b.1 ≠ 0) : okF (K + M) (divR a b) :=
 ⟨dN_pos (Int.mul_ne_zero (by have := ha.1; omega) h0), Nat.le_trans (ln_nN _ _) (Lm.ln_mul _ _ ha.2.1 hb.2.2), Nat.le_trans (ln_dN _ _) (Lm.ln_mul _ _ ha.2.2 hb.2.1)⟩
end
section
variable {a b : Int × Int} (ha : okF 40000000000 a) (hb : okF 40000000000 b)
include ha hb
theorem mulR_I : D 95 [ratV a.1 a.2, ratV b.1 b.2] true (.one (ratV (mulR a b).1 (mulR a b).2)) := ratMul_den a.1 a.2 b.1 b.2 (by have := ha.1; omega) (by have := hb.1; omega) ha.2.1 ha.2.2 hb.2.1 hb.2.2
theorem mulR_S : D 87 [ratV a.1 a.2, ratV b.1 b.2] true (.one (ratV (mulR a b).1 (mulR a b).2)) := l2Mul_den a.1 a.2 b.1 b.2 (by have := ha.1; omega) (by have := hb.1; omega) ha.2.1 ha.2.2 hb.2.1 hb.2.2
theorem addR_I : D 147 [ratV a.1 a.2, ratV b.1 b.2] true (.one (ratV (addR a b).1 (addR a b).2)) := ratAdd_den a.1 a.2 b.1 b.2 (by have := ha.1; omega) (by have := hb.1; omega) ha.2.1 ha.2.2 hb.2.1 hb.2.2
theorem addR_S : D 103 [ratV a.1 a.2, ratV b.1 b.2] true (.one (ratV (addR a b).1 (addR a b).2)) := l2Add_den a.1 a.2 b.1 b.2 (by have := ha.1; omega) (by have := hb.1; omega) ha.2.1 ha.2.2 hb.2.1 hb.2.2
theorem subR_I : D 94 [ratV a.1 a.2, ratV b.1 b.2] true (.one (ratV (subR a b).1 (subR a b).2)) := ratSub_den a.1 a.2 b.1 b.2 (by have := ha.1; omega) hb.1 ha.2.1 ha.2.2 hb.2.1 hb.2.2
theorem subR_S : D 86 [ratV a.1 a.2, ratV b.1 b.2] true (.one (ratV (subR a b).1 (subR a b).2)) := l2Sub_den a.1 a.2 b.1 b.2 (by have := ha.1; omega) (by have := hb.1; omega) ha.2.1 ha.2.2 hb.2.1 hb.2.2
theorem divR_I (h0 : b.1 ≠ 0) : D 93 [ratV a.1 a.2, ratV b.1 b.2] true (.one (ratV (divR a b).1 (divR a b).2)) := ratDiv_den a.1 a.2 b.1 b.2 (by have := ha.1; omega) (by have := hb.1; omega) ha.2.1 ha.2.2 hb.2.1 hb.2.2 h0
theorem divR_S (h0 : b.1 ≠ 0) : D 85 [ratV a.1 a.2, ratV b.1 b.2] true (.one (ratV (divR a b).1 (divR a b).2)) := l2Div_den a.1 a.2 b.1 b.2 (by have := ha.1; omega) (by have := hb.1; omega) ha.2.1 ha.2.2 hb.2.1 hb.2.2 h0
end
theorem whole_R (n : Int) (h1 : -9223372036854775808 ≤ n) (h2 : n ≤ 9223372036854775807) : okF 4 (n, 1) := ⟨show (0 : Int) < 1 by decide, ln64 h1 h2, show Lm.ln 1 ≤ 4 from ln64 (by decide) (by decide)⟩

/-- Horner's scheme, over the coefficients from the last one on. -/
def horF (x : Int × Int) : Int × Int → List (Int × Int) → Int × Int
 | v, [] => v
 | v, c :: l => horF x (addR (mulR v x) c) l
def atF (fs : List (Int × Int)) (x : Int × Int) : Int × Int := horF x (0, 1) fs.reverse
theorem horF_ok {K M : Nat} {x : Int × Int} (hx : okF K x) : ∀ {l : List (Int × Int)} {v : Int × Int} {s : Nat}, (∀ c ∈ l, okF M c) → okF s v → okF (s + l.length * (K + M + 1)) (horF x v l)
 | [], v, s, _, hv => hv.mono (by simp)
 | c :: l, v, s, hl, hv => by
  have h1 := addR_ok (mulR_ok hv hx) (hl c List.mem_cons_self)
  have h2 := horF_ok hx (l := l) (fun d hd => hl d (List.mem_cons_of_mem _ hd)) h1
  refine h2.mono ?_
  rw [List.length_cons, Nat.add_mul, Nat.one_mul]
  omega
theorem take_rev {α : Type} {l : List α} {k : Nat} (h : k < l.length) : (l.take (k + 1)).reverse = l[k] :: (l.take k).reverse := by
 rw [List.take_succ_eq_append_getElem h, List.reverse_append]
 rfl
section
variable (fs : List (Int × Int)) (x : Int × Int) (hl : fs.length ≤ 10) (hq : ∀ f ∈ fs, okF 1000000000 f) (hx : okF 1000000000 x)
include hl hq hx
theorem at_den : D 132 [(false, [.arr 4 (fs.map cellR)]), ratV x.1 x.2] false (.one (ratV (atF fs x).1 (atF fs x).2)) := by
 have hrl : (fs.map cellR).length = fs.length := by simp
 refine go Tryz.func132 rfl rfl ?_
 repeat refine vs ?_
 conv => whnf
 refine CallS.mk _ rfl true false _ (whole_den 0 (by omega) (by omega)) rfl ?_
 repeat refine vs ?_
 conv => whnf
 refine EVs.loopU (fun s : Int × Int × Int => -1 ≤ s.1 ∧ s.1 + 1 ≤ fs.length ∧ okF (4 + (fs.length - (s.1 + 1).toNat) * 2000000001) s.2 ∧ horF x s.2 (fs.take (s.1 + 1).toNat).reverse = atF fs x) (fun s => (s.1 + 1).toNat)
  (fun | (k, v, d) => [(5, .box (5, 0) ((cellR (v, d)).map .p) 0), (6, .v false [.p (.int .i64 k)])]) ((fs.length : Int) - 1, (0, 1)) ⟨by dsimp only; omega, by dsimp only; omega, (whole_R 0 (by omega) (by omega)).mono (by omega), by dsimp only; rw [show ((fs.length : Int) - 1 + 1).toNat = fs.length by omega, List.take_length]; rfl⟩ ?_ ?_
 ·rw [hrl]
  exact Wk.refl _
 rintro ⟨k, v⟩ ⟨hk0, hk1, hv, hinv⟩
 dsimp only at hk0 hk1 hv hinv
 refine go1 ?_
 repeat refine vs ?_
 conv => whnf
 by_cases hk : k ≥ 0
 ·have hlt : k.toNat < fs.length := by omega
  have hc := hq fs[k.toNat] (List.getElem_mem hlt)
  have hget : (fs.map cellR)[k.toNat]? = some (cellR fs[k.toNat]) := by rw [List.getElem?_map, List.getElem?_eq_getElem hlt]; rfl
  rw [show (k + 1).toNat = k.toNat + 1 by omega] at hinv hv
  rw [take_rev hlt] at hinv
  have hi2 : horF x (addR (mulR v x) fs[k.toNat]) (fs.take k.toNat).reverse = atF fs x := hinv
  generalize fs[k.toNat] = c at *
  have m := mulR_ok hv hx
  have s := addR_ok m hc
  have dM := mulR_I (a := v) (b := x) (hv.mono (by omega)) (hx.mono (by omega))
  have dA := addR_I (a := mulR v x) (b := c) (m.mono (by omega)) (hc.mono (by omega))
  repeat refine vs ?_
  conv => whnf
  refine CallS.mk _ rfl true false _ (dM) rfl ?_
  repeat refine vs ?_
  conv => whnf
  first | refine Idx.mk (k.toNat) (by first | rfl | omega) (by omega) ?_ | skip
  repeat refine vs ?_
  conv => whnf
  refine LdR.mk (cellR c) hget ?_
  repeat refine vs ?_
  conv => whnf
  refine CallS.mk _ rfl true false _ (dA) rfl ?_
  repeat refine vs ?_
  conv => whnf
  refine ⟨(k - 1, addR (mulR v x) c), by dsimp only; omega, ⟨by dsimp only; omega, by dsimp only; omega, ?_, ?_⟩, ?_⟩
  ·refine s.mono ?_
   dsimp only
   rw [show (k - 1 + 1).toNat = k.toNat by omega]
   omega
  ·dsimp only
   rw [show (k - 1 + 1).toNat = k.toNat by omega]
   exact hi2
  ·exact Wk.fg
 ·have : k = -1 := by omega
  subst this
  have hvv : v = atF fs x := by rw [← hinv]; rfl
  rw [← hvv]
  repeat refine vs ?_
  conv => whnf
  first | rfl | exact ⟨rfl, rfl⟩ | exact ⟨by simp [toRes], rfl⟩
theorem l4Eval_den : D 130 [(false, [.arr 4 (fs.map cellR)]), ratV x.1 x.2] false (.one (ratV (atF fs x).1 (atF fs x).2)) := by
 have hrl : (fs.map cellR).length = fs.length := by simp
 refine go Tryz.func130 rfl rfl ?_
 repeat refine vs ?_
 conv => whnf
 refine CallS.mk _ rfl true false _ (l2Int_den 0 (by omega) (by omega)) rfl ?_
 repeat refine vs ?_
 conv => whnf
 refine EVs.loopU (fun s : Int × Int × Int => -1 ≤ s.1 ∧ s.1 + 1 ≤ fs.length ∧ okF (4 + (fs.length - (s.1 + 1).toNat) * 2000000001) s.2 ∧ horF x s.2 (fs.take (s.1 + 1).toNat).reverse = atF fs x) (fun s => (s.1 + 1).toNat)
  (fun | (k, v, d) => [(5, .box (5, 0) ((cellR (v, d)).map .p) 0), (6, .v false [.p (.int .i64 k)])]) ((fs.length : Int) - 1, (0, 1)) ⟨by dsimp only; omega, by dsimp only; omega, (whole_R 0 (by omega) (by omega)).mono (by omega), by dsimp only; rw [show ((fs.length : Int) - 1 + 1).toNat = fs.length by omega, List.take_length]; rfl⟩ ?_ ?_
 ·rw [hrl]
  exact Wk.refl _
 rintro ⟨k, v⟩ ⟨hk0, hk1, hv, hinv⟩
 dsimp only at hk0 hk1 hv hinv
 refine go1 ?_
 repeat refine vs ?_
 conv => whnf
 by_cases hk : k ≥ 0
 ·have hlt : k.toNat < fs.length := by omega
  have hc := hq fs[k.toNat] (List.getElem_mem hlt)
  have hget : (fs.map cellR)[k.toNat]? = some (cellR fs[k.toNat]) := by rw [List.getElem?_map, List.getElem?_eq_getElem hlt]; rfl
  rw [show (k + 1).toNat = k.toNat + 1 by omega] at hinv hv
  rw [take_rev hlt] at hinv
  have hi2 : horF x (addR (mulR v x) fs[k.toNat]) (fs.take k.toNat).reverse = atF fs x := hinv
  generalize fs[k.toNat] = c at *
  have m := mulR_ok hv hx
  have s := addR_ok m hc
  have dM := mulR_S (a := v) (b := x) (hv.mono (by omega)) (hx.mono (by omega))
  have dA := addR_S (a := mulR v x) (b := c) (m.mono (by omega)) (hc.mono (by omega))
  repeat refine vs ?_
  conv => whnf
  refine CallS.mk _ rfl true false _ (dM) rfl ?_
  repeat refine vs ?_
  conv => whnf
  first | refine Idx.mk (k.toNat) (by first | rfl | omega) (by omega) ?_ | skip
  repeat refine vs ?_
  conv => whnf
  refine LdR.mk (cellR c) hget ?_
  repeat refine vs ?_
  conv => whnf
  refine CallS.mk _ rfl true false _ (dA) rfl ?_
  repeat refine vs ?_
  conv => whnf
  refine ⟨(k - 1, addR (mulR v x) c), by dsimp only; omega, ⟨by dsimp only; omega, by dsimp only; omega, ?_, ?_⟩, ?_⟩
  ·refine s.mono ?_
   dsimp only
   rw [show (k - 1 + 1).toNat = k.toNat by omega]
   omega
  ·dsimp only
   rw [show (k - 1 + 1).toNat = k.toNat by omega]
   exact hi2
  ·exact Wk.fg
 ·have : k = -1 := by omega
  subst this
  have hvv : v = atF fs x := by rw [← hinv]; rfl
  rw [← hvv]
  repeat refine vs ?_
  conv => whnf
  first | rfl | exact ⟨rfl, rfl⟩ | exact ⟨by simp [toRes], rfl⟩
end
theorem atF_ok {fs : List (Int × Int)} {x : Int × Int} {K M : Nat} (hq : ∀ f ∈ fs, okF M f) (hx : okF K x) : okF (4 + fs.length * (K + M + 1)) (atF fs x) := by
 have := horF_ok hx (l := fs.reverse) (v := (0, 1)) (s := 4) (fun c hc => hq c (List.mem_reverse.1 hc)) (whole_R 0 (by omega) (by omega))
 rwa [List.length_reverse] at this

/-! ### root polynomials, places -/
noncomputable def rootsQ (rs : List RawQ) : Bool := goodP 5 1 rs && decide (2 ≤ rs.length)
theorem rootsI_den (rs : List RawQ) (hrs : shortP 1000000000000 rs) : D 77 [polQ rs] true (.one (bP (rootsQ rs))) := by
 have dP := isPoly_den rs 5 1 (by omega) hrs
 have hrl : (rs.map cellQ).length = rs.length := by simp
 have hl := hrs.1
 unfold rootsQ
 refine go Tryz.func77 rfl rfl ?_
 cases hg : goodP 5 1 rs with
 | false =>
  rw [hg] at dP
  repeat refine vs ?_
  conv => whnf
  refine CallS.mk _ rfl true true _ (dP) rfl ?_
  repeat refine vs ?_
  conv => whnf
  first | rfl | exact ⟨rfl, rfl⟩ | exact ⟨by simp [toRes], rfl⟩
 | true =>
  rw [hg] at dP
  by_cases h2 : 2 ≤ rs.length
  ·rw [decide_eq_true h2]
   repeat refine vs ?_
   conv => whnf
   refine CallS.mk _ rfl true true _ (dP) rfl ?_
   repeat refine vs ?_
   conv => whnf
   first | rfl | exact ⟨rfl, rfl⟩ | exact ⟨by simp [toRes], rfl⟩
  ·rw [decide_eq_false h2]
   repeat refine vs ?_
   conv => whnf
   refine CallS.mk _ rfl true true _ (dP) rfl ?_
   repeat refine vs ?_
   conv => whnf
   first | rfl | exact ⟨rfl, rfl⟩ | exact ⟨by simp [toRes], rfl⟩
theorem okQ_61 {r : RawQ} (h1 : r.l.length ≤ 1) (h2 : r.q.length ≤ 1) : okQ 6 r = okQ 1 r := by
 unfold okQ
 rw [decide_eq_true h1, decide_eq_true h2, decide_eq_true (show r.l.length ≤ 6 by omega), decide_eq_true (show r.q.length ≤ 6 by omega)]
theorem rootsS_den (rs : List RawQ) (hrs : shortP 1000000000000 rs) : D 75 [polQ rs] true (.one (bP (rootsQ rs))) := by
 have dP := goodPolyS_den rs hrs
 have dI := l1In_den ((rs.map cellQ).length : Int) 2 5
 obtain ⟨hl, hr⟩ := hrs
 have hrl : (rs.map cellQ).length = rs.length := by simp
 refine go Tryz.func75 rfl rfl ?_
 repeat refine vs ?_
 conv => whnf
 refine EVs.loopU (fun i : Nat => i ≤ rs.length ∧ ∀ (j : Nat) (h : j < rs.length), j < i → rs[j].l.length ≤ 1 ∧ rs[j].q.length ≤ 1) (fun i => rs.length - i) (fun i => [(7, .v false [.p (.int .i64 (i : Int))])]) 0 ⟨by omega, fun j h hj => by omega⟩ (Wk.refl _) ?_
 rintro i ⟨hi, hall⟩
 refine go1 ?_
 repeat refine vs ?_
 conv => whnf
 by_cases h1 : (i : Int) < (rs.map cellQ).length
 ·have hlt : i < rs.length := by omega
  obtain ⟨hr1, hr2⟩ := hr rs[i] (List.getElem_mem hlt)
  have hbad : okQ 1 rs[i] = false → rootsQ rs = false := fun h => by
   have : rs.all (okQ 1) = false := by rw [List.all_eq_false]; exact ⟨rs[i], List.getElem_mem hlt, by simp [h]⟩
   unfold rootsQ goodP
   rw [this, Bool.and_false, Bool.false_and, Bool.false_and]
  have hone : rs[i].l.length ≤ 1 ∧ rs[i].q.length ≤ 1 → ∀ (j : Nat) (h : j < rs.length), j < i + 1 → rs[j].l.length ≤ 1 ∧ rs[j].q.length ≤ 1 := fun h j hj hji => by
   by_cases e : j = i
   ·subst e; exact h
   ·exact hall j hj (by omega)
  have hget : (rs.map cellQ)[i]? = some (cellQ rs[i]) := by rw [List.getElem?_map, List.getElem?_eq_getElem hlt]; rfl
  generalize rs[i] = r at *
  have hok : okQ 1 r = (goodR r.n r.l r.p r.q && (decide (r.l.length ≤ 1) && decide (r.q.length ≤ 1))) := rfl
  repeat refine vs ?_
  conv => whnf
  refine LdR.mk (cellQ r) hget ?_
  repeat refine vs ?_
  conv => whnf
  by_cases hs : r.l.length ≤ 1
  ·by_cases hs2 : r.q.length ≤ 1
   ·repeat refine vs ?_
    conv => whnf
    refine ⟨i + 1, by omega, ⟨by omega, hone ⟨hs, hs2⟩⟩, ?_⟩
    exact Wk.fg
   ·rw [decide_eq_false hs2, Bool.and_false, Bool.and_false] at hok
    rw [hbad hok]
    repeat refine vs ?_
    conv => whnf
    first | rfl | exact ⟨rfl, rfl⟩ | exact ⟨by simp [toRes], rfl⟩
  ·rw [decide_eq_false hs, Bool.false_and, Bool.and_false] at hok
   rw [hbad hok]
   repeat refine vs ?_
   conv => whnf
   first | rfl | exact ⟨rfl, rfl⟩ | exact ⟨by simp [toRes], rfl⟩
 ·have hA : ∀ r ∈ rs, okQ 6 r = okQ 1 r := by
   intro x hx
   obtain ⟨j, hj, rfl⟩ := List.getElem_of_mem hx
   exact okQ_61 (hall j hj (by omega)).1 (hall j hj (by omega)).2
  have hAA : rs.all (okQ 6) = rs.all (okQ 1) := by
   rw [Bool.eq_iff_iff, List.all_eq_true, List.all_eq_true]
   constructor
   ·intro h x hx; rw [← hA x hx]; exact h x hx
   ·intro h x hx; rw [hA x hx]; exact h x hx
  by_cases h5 : 2 ≤ rs.length ∧ rs.length ≤ 5
  ·have e : rootsQ rs = goodP 7 6 rs := by
    unfold rootsQ goodP
    rw [hAA, decide_eq_true h5.1, decide_eq_true h5.2, decide_eq_true (show rs.length ≤ 7 by omega), Bool.and_true]
   rw [decide_eq_true (by omega)] at dI
   rw [e]
   cases hg : goodP 7 6 rs with
   | false =>
    rw [hg] at dP
    repeat refine vs ?_
    conv => whnf
    refine CallS.mk _ rfl true true _ (dP) rfl ?_
    repeat refine vs ?_
    conv => whnf
    first | rfl | exact ⟨rfl, rfl⟩ | exact ⟨by simp [toRes], rfl⟩
   | true =>
    rw [hg] at dP
    repeat refine vs ?_
    conv => whnf
    refine CallS.mk _ rfl true true _ (dP) rfl ?_
    repeat refine vs ?_
    conv => whnf
    refine CallS.mk _ rfl true true _ (dI) rfl ?_
    repeat refine vs ?_
    conv => whnf
    first | rfl | exact ⟨rfl, rfl⟩ | exact ⟨by simp [toRes], rfl⟩
  ·have e : rootsQ rs = false := by
    unfold rootsQ goodP
    by_cases h2 : 2 ≤ rs.length
    ·rw [decide_eq_false (show ¬ rs.length ≤ 5 by omega)]; rfl
    ·rw [decide_eq_false h2, Bool.and_false]
   rw [decide_eq_false (by omega)] at dI
   rw [e]
   cases hg : goodP 7 6 rs with
   | false =>
    rw [hg] at dP
    repeat refine vs ?_
    conv => whnf
    refine CallS.mk _ rfl true true _ (dP) rfl ?_
    repeat refine vs ?_
    conv => whnf
    first | rfl | exact ⟨rfl, rfl⟩ | exact ⟨by simp [toRes], rfl⟩
   | true =>
    rw [hg] at dP
    repeat refine vs ?_
    conv => whnf
    refine CallS.mk _ rfl true true _ (dP) rfl ?_
    repeat refine vs ?_
    conv => whnf
    refine CallS.mk _ rfl true true _ (dI) rfl ?_
    repeat refine vs ?_
    conv => whnf
    first | rfl | exact ⟨rfl, rfl⟩ | exact ⟨by simp [toRes], rfl⟩
theorem rootsQ_ex {rs : List RawQ} (h : rootsQ rs = true) : ∃ fs : List (Int × Int), rs = fs.map qF ∧ fs.length ≤ 5 ∧ 2 ≤ fs.length ∧ (∀ f ∈ fs, lowT 1 f) ∧ ∀ f, fs.getLast? = some f → f.1 ≠ 0 := by
 unfold rootsQ at h
 rw [Bool.and_eq_true, decide_eq_true_iff] at h
 obtain ⟨fs, rfl, h1, h2, h3⟩ := goodP_ex h.1
 exact ⟨fs, rfl, h1, by simpa using h.2, h2, h3⟩
theorem isPlace_den (r : RawQ) (hl : r.l.length ≤ 1000000000000) (hq : r.q.length ≤ 1000000000000) : D 128 [ratR r.n r.l r.p r.q] true (.one (bP (okQ 4 r))) := by
 have gI := goodRatI_den r.n r.l r.p r.q hl hq
 have sI := isShortQ_den r.n r.l r.p r.q 4 hl hq
 unfold okQ
 refine go Tryz.func128 rfl rfl ?_
 cases hg : goodR r.n r.l r.p r.q with
 | false =>
  rw [hg] at gI
  repeat refine vs ?_
  conv => whnf
  refine CallS.mk _ rfl true true _ (gI) rfl ?_
  repeat refine vs ?_
  conv => whnf
  first | rfl | exact ⟨rfl, rfl⟩ | exact ⟨by simp [toRes], rfl⟩
 | true =>
  rw [hg] at gI
  repeat refine vs ?_
  conv => whnf
  refine CallS.mk _ rfl true true _ (gI) rfl ?_
  repeat refine vs ?_
  conv => whnf
  refine CallS.mk _ rfl true true _ (sI) rfl ?_
  repeat refine vs ?_
  conv => whnf
  first | rfl | exact ⟨rfl, rfl⟩ | exact ⟨by simp [toRes], rfl⟩
theorem l5Place_den (r : RawQ) (hl : r.l.length ≤ 1000000000000) (hq : r.q.length ≤ 1000000000000) : D 66 [ratR r.n r.l r.p r.q] true (.one (bP (okQ 4 r))) := by
 have gS := goodRatS_den r.n r.l r.p r.q hl hq
 unfold okQ
 refine go Tryz.func66 rfl rfl ?_
 by_cases h1 : r.l.length ≤ 4
 ·by_cases h2 : r.q.length ≤ 4
  ·rw [decide_eq_true h1, decide_eq_true h2, Bool.and_true, Bool.and_true]
   repeat refine vs ?_
   conv => whnf
   refine CallS.mk _ rfl true true _ (gS) rfl ?_
   repeat refine vs ?_
   conv => whnf
   first | rfl | exact ⟨rfl, rfl⟩ | exact ⟨by simp [toRes], rfl⟩
  ·rw [decide_eq_false h2, Bool.and_false, Bool.and_false]
   repeat refine vs ?_
   conv => whnf
   first | rfl | exact ⟨rfl, rfl⟩ | exact ⟨by simp [toRes], rfl⟩
 ·rw [decide_eq_false h1, Bool.false_and, Bool.and_false]
  repeat refine vs ?_
  conv => whnf
  first | rfl | exact ⟨rfl, rfl⟩ | exact ⟨by simp [toRes], rfl⟩
end Go.Vx
end
