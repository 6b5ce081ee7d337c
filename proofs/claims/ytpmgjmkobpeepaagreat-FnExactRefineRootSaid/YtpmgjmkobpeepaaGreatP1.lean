/- Chapter 4: lists of fractions that are polynomials. -/
import Derived.Test.YtpmgjmkobpeepaaGreatS4
set_option linter.unusedVariables false
set_option linter.unusedSectionVars false
set_option linter.unusedSimpArgs false
namespace Go.Vx
open Go.Proofs
set_option maxRecDepth 100000

structure RawQ where
  n : Bool
  l : List Int
  p : Bool
  q : List Int
def cellQ (r : RawQ) : List PL := [.bool r.n, .ints r.l, .bool r.p, .ints r.q]
abbrev polQ (rs : List RawQ) : PV := (false, [.arr 4 (rs.map cellQ)])
def shortP (K : Nat) (rs : List RawQ) : Prop := rs.length ≤ K ∧ ∀ r ∈ rs, r.l.length ≤ K ∧ r.q.length ≤ K
noncomputable def okQ (K : Nat) (r : RawQ) : Bool := goodR r.n r.l r.p r.q && (decide (r.l.length ≤ K) && decide (r.q.length ≤ K))
def lastQ (rs : List RawQ) : Bool := match rs.getLast? with
  | none => true
  | some r => decide (r.l ≠ [])
noncomputable def goodP (m K : Nat) (rs : List RawQ) : Bool := (decide (rs.length ≤ m) && rs.all (okQ K)) && lastQ rs
def qF (f : Int × Int) : RawQ := ⟨decide (f.1 < 0), Lm.lim f.1.natAbs, decide (f.2 < 0), Lm.lim f.2.natAbs⟩
theorem cell_qF (f : Int × Int) : cellQ (qF f) = cellR f := rfl
theorem map_qF (fs : List (Int × Int)) : (fs.map qF).map cellQ = fs.map cellR := by rw [List.map_map]; rfl
/-- A fraction in lowest terms with so many limbs. -/
def lowT (K : Nat) (f : Int × Int) : Prop := okF K f ∧ Int.gcd f.1 f.2 = 1
theorem okQ_ex {K : Nat} {r : RawQ} (h : okQ K r = true) : ∃ f, r = qF f ∧ lowT K f := by
  unfold okQ at h
  rw [Bool.and_eq_true, Bool.and_eq_true, decide_eq_true_iff, decide_eq_true_iff] at h
  obtain ⟨h1, h2, h3⟩ := h
  obtain ⟨x, y, e1, e2, e3, e4, _, _, k3, k4⟩ := goodR_ex h1
  refine ⟨(x, y), ?_, ⟨⟨k3, ?_, ?_⟩, k4⟩⟩
  · cases r; unfold qF; simp only at e1 e2 e3 e4; rw [e1, e2, e3, e4]
  · rw [e2] at h2; exact h2
  · rw [e4] at h3; exact h3
theorem all_ex {K : Nat} : ∀ {rs : List RawQ}, rs.all (okQ K) = true → ∃ fs : List (Int × Int), rs = fs.map qF ∧ ∀ f ∈ fs, lowT K f
  | [], _ => ⟨[], rfl, fun f h => by cases h⟩
  | r :: rs, h => by
    rw [List.all_cons, Bool.and_eq_true] at h
    obtain ⟨f, rfl, hf⟩ := okQ_ex h.1
    obtain ⟨fs, rfl, hfs⟩ := all_ex h.2
    refine ⟨f :: fs, rfl, fun g hg => ?_⟩
    rcases List.mem_cons.1 hg with rfl | hg
    · exact hf
    · exact hfs g hg
theorem goodP_ex {m K : Nat} {rs : List RawQ} (h : goodP m K rs = true) : ∃ fs : List (Int × Int), rs = fs.map qF ∧ fs.length ≤ m ∧ (∀ f ∈ fs, lowT K f) ∧ ∀ f, fs.getLast? = some f → f.1 ≠ 0 := by
  unfold goodP at h
  rw [Bool.and_eq_true, Bool.and_eq_true, decide_eq_true_iff] at h
  obtain ⟨⟨h1, h2⟩, h3⟩ := h
  obtain ⟨fs, rfl, hfs⟩ := all_ex h2
  refine ⟨fs, rfl, by simpa using h1, hfs, fun f hf => ?_⟩
  unfold lastQ at h3
  rw [List.getLast?_map, hf] at h3
  simp only [Option.map_some, decide_eq_true_iff] at h3
  intro h0
  apply h3
  show Lm.lim f.1.natAbs = []
  rw [h0]
  exact Lm.lim_zero

theorem isShortQ_den (n : Bool) (l : List Int) (p : Bool) (q : List Int) (k : Nat) (hl : l.length ≤ 1000000000000) (hq : q.length ≤ 1000000000000) : D 108 [ratR n l p q, iP (k : Int)] true (.one (bP (decide (l.length ≤ k) && decide (q.length ≤ k)))) := by
  refine go Tryz.func108 rfl rfl ?_
  by_cases h1 : l.length ≤ k
  · rw [decide_eq_true h1]
    by_cases h2 : q.length ≤ k
    · rw [decide_eq_true h2]
      repeat refine vs ?_
      conv => whnf
      first | rfl | exact ⟨rfl, rfl⟩ | exact ⟨by simp [toRes], rfl⟩
    · rw [decide_eq_false h2]
      repeat refine vs ?_
      conv => whnf
      first | rfl | exact ⟨rfl, rfl⟩ | exact ⟨by simp [toRes], rfl⟩
  · rw [decide_eq_false h1]
    repeat refine vs ?_
    conv => whnf
    first | rfl | exact ⟨rfl, rfl⟩ | exact ⟨by simp [toRes], rfl⟩
theorem isPoly1_den (r : RawQ) (k : Nat) (hl : r.l.length ≤ 1000000000000) (hq : r.q.length ≤ 1000000000000) : D 143 [ratR r.n r.l r.p r.q, (false, [.pint (k : Int)])] true (.one (bP (!okQ k r))) := by
  have gI := goodRatI_den r.n r.l r.p r.q hl hq
  have sI := isShortQ_den r.n r.l r.p r.q k hl hq
  unfold okQ
  refine go Tryz.func143 rfl rfl ?_
  cases hg : goodR r.n r.l r.p r.q with
  | false =>
    rw [hg] at gI
    repeat refine vs ?_
    conv => whnf
    refine CallS.mk _ rfl true true _ (gI) rfl ?_
    repeat refine vs ?_
    conv => whnf
    first | rfl | exact ⟨rfl, rfl⟩ | exact ⟨by simp [toRes], rfl⟩
  | true =>
    rw [hg] at gI
    cases hs : (decide (r.l.length ≤ k) && decide (r.q.length ≤ k)) with
    | false =>
      rw [hs] at sI
      repeat refine vs ?_
      conv => whnf
      refine CallS.mk _ rfl true true _ (gI) rfl ?_
      repeat refine vs ?_
      conv => whnf
      refine CallS.mk _ rfl true true _ (sI) rfl ?_
      repeat refine vs ?_
      conv => whnf
      first | rfl | exact ⟨rfl, rfl⟩ | exact ⟨by simp [toRes], rfl⟩
    | true =>
      rw [hs] at sI
      repeat refine vs ?_
      conv => whnf
      refine CallS.mk _ rfl true true _ (gI) rfl ?_
      repeat refine vs ?_
      conv => whnf
      refine CallS.mk _ rfl true true _ (sI) rfl ?_
      repeat refine vs ?_
      conv => whnf
      first | rfl | exact ⟨rfl, rfl⟩ | exact ⟨by simp [toRes], rfl⟩
theorem indexFuncC_den (rs : List RawQ) (hl : rs.length ≤ 1000000000000) (f : FuncId) (z : Int) (p : RawQ → Bool) (hp : ∀ r ∈ rs, D f [ratR r.n r.l r.p r.q, (false, [.pint z])] true (.one (bP (p r)))) :
    D 169 [polQ rs, (false, [.clo f z])] true (.one (iP (match rs.findIdx? p with | some i => (i : Int) | none => -1))) := by
  refine go Tryz.func169 rfl rfl ?_
  have hrl : (rs.map cellQ).length = rs.length := by simp
  repeat refine vs ?_
  conv => whnf
  refine EVs.loopU (fun i : Nat => i ≤ rs.length ∧ ∀ (j : Nat) (h : j < rs.length), j < i → p rs[j] = false) (fun i => rs.length - i) (fun i => [(8, .v false [.p (.int .i64 (i : Int))])]) 0 ⟨by omega, fun j h hj => by omega⟩ (Wk.refl _) ?_
  rintro i ⟨hi, hall⟩
  refine go1 ?_
  repeat refine vs ?_
  conv => whnf
  by_cases h1 : (i : Int) < (rs.map cellQ).length
  · have hlt : i < rs.length := by omega
    repeat refine vs ?_
    conv => whnf
    refine LdR.mk (cellQ rs[i]) (by simp [hlt]) ?_
    repeat refine vs ?_
    conv => whnf
    refine CallS.mk _ rfl true true _ (hp rs[i] (List.getElem_mem hlt)) rfl ?_
    repeat refine vs ?_
    conv => whnf
    cases hpi : p rs[i]
    · repeat refine vs ?_
      conv => whnf
      refine ⟨i + 1, by omega, ⟨by omega, fun j h hj => ?_⟩, ?_⟩
      · by_cases e : j = i
        · subst e; exact hpi
        · exact hall j h (by omega)
      · refine Wk.le ?_
        repeat' (first | exact LeT.nil | refine LeT.drop1 ?_ | refine LeT.same1 ?_ | refine LeT.own1 ?_ | refine LeT.ownR ?_ | (refine LeT.deepR ?_ rfl))
    · repeat refine vs ?_
      conv => whnf
      have : rs.findIdx? p = some i := by
        rw [List.findIdx?_eq_some_iff_getElem]
        exact ⟨hlt, hpi, fun j hj => by simp [hall j (by omega) hj]⟩
      exact ⟨by simp [toRes, this], rfl⟩
  · repeat refine vs ?_
    conv => whnf
    have : rs.findIdx? p = none := by
      rw [List.findIdx?_eq_none_iff]
      intro x hx
      obtain ⟨j, hj, rfl⟩ := List.getElem_of_mem hx
      exact hall j hj (by omega)
    exact ⟨by simp [toRes, this], rfl⟩
theorem containsFuncC_den (rs : List RawQ) (hl : rs.length ≤ 1000000000000) (f : FuncId) (z : Int) (p : RawQ → Bool) (hp : ∀ r ∈ rs, D f [ratR r.n r.l r.p r.q, (false, [.pint z])] true (.one (bP (p r)))) :
    D 142 [polQ rs, (false, [.clo f z])] true (.one (bP (rs.any p))) := by
  refine go Tryz.func142 rfl rfl ?_
  repeat refine vs ?_
  conv => whnf
  refine CallS.mk _ rfl true true _ (indexFuncC_den rs hl f z p hp) rfl ?_
  repeat refine vs ?_
  conv => whnf
  cases h : rs.findIdx? p with
  | none =>
    have : rs.any p = false := by
      rw [List.findIdx?_eq_none_iff] at h
      rw [List.any_eq_false]
      intro x hx
      simp [h x hx]
    repeat refine vs ?_
    conv => whnf
    exact ⟨by simp [toRes, this], rfl⟩
  | some i =>
    have : rs.any p = true := by
      rw [List.findIdx?_eq_some_iff_getElem] at h
      obtain ⟨h1, h2, _⟩ := h
      rw [List.any_eq_true]
      exact ⟨_, List.getElem_mem h1, h2⟩
    repeat refine vs ?_
    conv => whnf
    exact ⟨by simp [toRes, this], rfl⟩
theorem lastQ_eq {rs : List RawQ} (h : 0 < rs.length) : lastQ rs = decide (rs[rs.length - 1].l ≠ []) := by
  unfold lastQ
  rw [List.getLast?_eq_getElem?, List.getElem?_eq_getElem (by omega)]
theorem isPoly_den (rs : List RawQ) (m K : Nat) (hm : m ≤ 1000) (hrs : shortP 1000000000000 rs) : D 89 [polQ rs, iP (m : Int), iP (K : Int)] true (.one (bP (goodP m K rs))) := by
  obtain ⟨hl, hr⟩ := hrs
  have hrl : (rs.map cellQ).length = rs.length := by simp
  have dC := containsFuncC_den rs hl 143 K (fun r => !okQ K r) (fun r hm => isPoly1_den r K (hr r hm).1 (hr r hm).2)
  have hall : (!rs.any fun r => !okQ K r) = rs.all (okQ K) := by rw [List.all_eq_not_any_not]
  refine go Tryz.func89 rfl rfl ?_
  by_cases h1 : rs.length ≤ m
  · cases ha : rs.all (okQ K) with
    | false =>
      rw [ha] at hall
      have hany : (rs.any fun r => !okQ K r) = true := by simpa using hall
      rw [hany] at dC
      have e : goodP m K rs = false := by unfold goodP; rw [ha]; simp
      rw [e]
      repeat refine vs ?_
      conv => whnf
      refine CallS.mk _ rfl true true _ (dC) rfl ?_
      repeat refine vs ?_
      conv => whnf
      first | rfl | exact ⟨rfl, rfl⟩ | exact ⟨by simp [toRes], rfl⟩
    | true =>
      rw [ha] at hall
      have hany : (rs.any fun r => !okQ K r) = false := by simpa using hall
      rw [hany] at dC
      have e : goodP m K rs = lastQ rs := by unfold goodP; rw [ha, decide_eq_true h1]; rfl
      rw [e]
      by_cases h0 : rs = []
      · subst h0
        repeat refine vs ?_
        conv => whnf
        refine CallS.mk _ rfl true true _ (dC) rfl ?_
        repeat refine vs ?_
        conv => whnf
        first | rfl | exact ⟨rfl, rfl⟩ | exact ⟨by simp [toRes], rfl⟩
      · have hpos : 0 < rs.length := List.length_pos_iff.2 h0
        obtain ⟨fs, hfs, hlow⟩ := all_ex ha
        have hfl : fs.length = rs.length := by rw [hfs]; simp
        have hlast : rs[rs.length - 1] = qF fs[rs.length - 1] := by simp only [hfs, List.getElem_map]
        have hk := (hlow fs[rs.length - 1] (List.getElem_mem (by omega))).1
        generalize hf : fs[rs.length - 1] = f at *
        have hlen := (hr (qF f) (by rw [← hlast]; exact List.getElem_mem (by omega))).1
        have dS := ratSign_den f.1 f.2 (by exact hlen)
        rw [lastQ_eq hpos, hlast]
        have hne : ((qF f).l ≠ []) ↔ f.1 ≠ 0 := by
          show Lm.lim f.1.natAbs ≠ [] ↔ _
          rw [ne_eq, Lm.lim_eq_nil]
          omega
        have hgl : (rs.map cellQ)[rs.length - 1]? = some (cellQ (qF f)) := by rw [List.getElem?_map, List.getElem?_eq_getElem (by omega), hlast]; rfl
        by_cases hz : f.1 = 0
        · have h2 : cmpI f.1 0 = 0 := by rw [hz]; rfl
          rw [decide_eq_false (show ¬ (qF f).l ≠ [] by rw [hne]; omega)]
          repeat refine vs ?_
          conv => whnf
          refine CallS.mk _ rfl true true _ (dC) rfl ?_
          repeat refine vs ?_
          conv => whnf
          first | refine Idx.mk ((rs.length - 1)) (by first | rfl | omega) (by omega) ?_ | skip
          repeat refine vs ?_
          conv => whnf
          refine LdR.mk (cellQ (qF f)) hgl ?_
          repeat refine vs ?_
          conv => whnf
          refine CallS.mk _ rfl true true _ (dS) rfl ?_
          repeat refine vs ?_
          conv => whnf
          first | rfl | exact ⟨rfl, rfl⟩ | exact ⟨by simp [toRes], rfl⟩
        · have h2 : cmpI f.1 0 ≠ 0 := by rcases cmpI_sgn f.1 with h | h | h <;> omega
          rw [decide_eq_true (show (qF f).l ≠ [] by rw [hne]; omega)]
          repeat refine vs ?_
          conv => whnf
          refine CallS.mk _ rfl true true _ (dC) rfl ?_
          repeat refine vs ?_
          conv => whnf
          first | refine Idx.mk ((rs.length - 1)) (by first | rfl | omega) (by omega) ?_ | skip
          repeat refine vs ?_
          conv => whnf
          refine LdR.mk (cellQ (qF f)) hgl ?_
          repeat refine vs ?_
          conv => whnf
          refine CallS.mk _ rfl true true _ (dS) rfl ?_
          repeat refine vs ?_
          conv => whnf
          first | rfl | exact ⟨rfl, rfl⟩ | exact ⟨by simp [toRes], rfl⟩
  · have e : goodP m K rs = false := by unfold goodP; rw [decide_eq_false h1]; rfl
    rw [e]
    repeat refine vs ?_
    conv => whnf
    first | rfl | exact ⟨rfl, rfl⟩ | exact ⟨by simp [toRes], rfl⟩
end Go.Vx
