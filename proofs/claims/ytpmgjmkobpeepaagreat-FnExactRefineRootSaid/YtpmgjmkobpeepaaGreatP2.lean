/- Chapters 4 and 5: which lists are polynomials, and root polynomials; sign changes; values. -/
import Derived.Test.YtpmgjmkobpeepaaGreatP1
set_option linter.unusedVariables false
set_option linter.unusedSectionVars false
set_option linter.unusedSimpArgs false
namespace Go.Vx
open Go.Proofs
set_option maxRecDepth 100000

theorem goodPolyI_den (rs : List RawQ) (hrs : shortP 1000000000000 rs) : D 41 [polQ rs] true (.one (bP (goodP 7 6 rs))) := by
  refine go Tryz.func41 rfl rfl ?_
  repeat refine vs ?_
  conv => whnf
  refine CallS.mk _ rfl true true _ (isPoly_den rs 7 6 (by omega) hrs) rfl ?_
  repeat refine vs ?_
  conv => whnf
  first | rfl | exact ⟨rfl, rfl⟩ | exact ⟨by simp [toRes], rfl⟩
theorem l4Small_den (n : Bool) (l : List Int) (p : Bool) (q : List Int) (hl : l.length ≤ 1000000000000) (hq : q.length ≤ 1000000000000) : D 48 [ratR n l p q] true (.one (bP (decide (l.length ≤ 6) && decide (q.length ≤ 6)))) := by
  refine go Tryz.func48 rfl rfl ?_
  by_cases h1 : l.length ≤ 6
  · rw [decide_eq_true h1]
    by_cases h2 : q.length ≤ 6
    · rw [decide_eq_true h2]
      repeat refine vs ?_
      conv => whnf
      first | rfl | exact ⟨rfl, rfl⟩ | exact ⟨by simp [toRes], rfl⟩
    · rw [decide_eq_false h2]
      repeat refine vs ?_
      conv => whnf
      first | rfl | exact ⟨rfl, rfl⟩ | exact ⟨by simp [toRes], rfl⟩
  · rw [decide_eq_false h1]
    repeat refine vs ?_
    conv => whnf
    first | rfl | exact ⟨rfl, rfl⟩ | exact ⟨by simp [toRes], rfl⟩
theorem l4Zero_den (n : Bool) (l : List Int) (p : Bool) (q : List Int) (hl : l.length ≤ 1000000000000) : D 99 [ratR n l p q] true (.one (bP (decide (l = [])))) := by
  have h0 : l = [] ↔ l.length = 0 := List.length_eq_zero_iff.symm
  refine go Tryz.func99 rfl rfl ?_
  by_cases h1 : l = []
  · rw [decide_eq_true h1]
    have := h0.1 h1
    repeat refine vs ?_
    conv => whnf
    first | rfl | exact ⟨rfl, rfl⟩ | exact ⟨by simp [toRes], rfl⟩
  · rw [decide_eq_false h1]
    have : ¬ l.length = 0 := fun x => h1 (h0.2 x)
    repeat refine vs ?_
    conv => whnf
    first | rfl | exact ⟨rfl, rfl⟩ | exact ⟨by simp [toRes], rfl⟩
theorem goodP_spec (rs : List RawQ) (ha : rs.all (okQ 6) = true) : goodP 7 6 rs = (decide (rs.length ≤ 7) && lastQ rs) := by unfold goodP; rw [ha, Bool.and_true]
theorem goodPolyS_den (rs : List RawQ) (hrs : shortP 1000000000000 rs) : D 47 [polQ rs] true (.one (bP (goodP 7 6 rs))) := by
  obtain ⟨hl, hr⟩ := hrs
  have hrl : (rs.map cellQ).length = rs.length := by simp
  refine go Tryz.func47 rfl rfl ?_
  repeat refine vs ?_
  conv => whnf
  refine EVs.loopU (fun i : Nat => i ≤ rs.length ∧ ∀ (j : Nat) (h : j < rs.length), j < i → okQ 6 rs[j] = true) (fun i => rs.length - i) (fun i => [(7, .v false [.p (.int .i64 (i : Int))])]) 0 ⟨by omega, fun j h hj => by omega⟩ (Wk.refl _) ?_
  rintro i ⟨hi, hall⟩
  refine go1 ?_
  repeat refine vs ?_
  conv => whnf
  by_cases h1 : (i : Int) < (rs.map cellQ).length
  · have hlt : i < rs.length := by omega
    obtain ⟨hr1, hr2⟩ := hr rs[i] (List.getElem_mem hlt)
    have hbad : okQ 6 rs[i] = false → goodP 7 6 rs = false := fun h => by
      have : rs.all (okQ 6) = false := by rw [List.all_eq_false]; exact ⟨rs[i], List.getElem_mem hlt, by simp [h]⟩
      unfold goodP
      rw [this, Bool.and_false, Bool.false_and]
    have hone : okQ 6 rs[i] = true → ∀ (j : Nat) (h : j < rs.length), j < i + 1 → okQ 6 rs[j] = true := fun h j hj hji => by
      by_cases e : j = i
      · subst e; exact h
      · exact hall j hj (by omega)
    have hget : (rs.map cellQ)[i]? = some (cellQ rs[i]) := by rw [List.getElem?_map, List.getElem?_eq_getElem hlt]; rfl
    generalize rs[i] = r at *
    have dS := l4Small_den r.n r.l r.p r.q hr1 hr2
    have dG := goodRatS_den r.n r.l r.p r.q hr1 hr2
    have hok : okQ 6 r = (goodR r.n r.l r.p r.q && (decide (r.l.length ≤ 6) && decide (r.q.length ≤ 6))) := rfl
    repeat refine vs ?_
    conv => whnf
    refine LdR.mk (cellQ r) hget ?_
    repeat refine vs ?_
    conv => whnf
    cases hs : (decide (r.l.length ≤ 6) && decide (r.q.length ≤ 6)) with
    | false =>
      rw [hs] at dS hok
      rw [Bool.and_false] at hok
      rw [hbad hok]
      refine CallS.mk _ rfl true true _ (dS) rfl ?_
      repeat refine vs ?_
      conv => whnf
      first | rfl | exact ⟨rfl, rfl⟩ | exact ⟨by simp [toRes], rfl⟩
    | true =>
      rw [hs] at dS hok
      rw [Bool.and_true] at hok
      cases hg : goodR r.n r.l r.p r.q with
      | false =>
        rw [hg] at dG hok
        rw [hbad hok]
        refine CallS.mk _ rfl true true _ (dS) rfl ?_
        repeat refine vs ?_
        conv => whnf
        refine CallS.mk _ rfl true true _ (dG) rfl ?_
        repeat refine vs ?_
        conv => whnf
        first | rfl | exact ⟨rfl, rfl⟩ | exact ⟨by simp [toRes], rfl⟩
      | true =>
        rw [hg] at dG hok
        refine CallS.mk _ rfl true true _ (dS) rfl ?_
        repeat refine vs ?_
        conv => whnf
        refine CallS.mk _ rfl true true _ (dG) rfl ?_
        repeat refine vs ?_
        conv => whnf
        refine ⟨i + 1, by omega, ⟨by omega, hone hok⟩, ?_⟩
        refine Wk.le ?_
        repeat' (first | exact LeT.nil | refine LeT.drop1 ?_ | refine LeT.same1 ?_ | refine LeT.own1 ?_ | refine LeT.ownR ?_ | (refine LeT.deepR ?_ rfl))
  · have hA : rs.all (okQ 6) = true := by
      rw [List.all_eq_true]
      intro x hx
      obtain ⟨j, hj, rfl⟩ := List.getElem_of_mem hx
      exact hall j hj (by omega)
    rw [goodP_spec rs hA]
    by_cases h7 : rs.length ≤ 7
    · rw [decide_eq_true h7, Bool.true_and]
      by_cases h0 : rs = []
      · subst h0
        repeat refine vs ?_
        conv => whnf
        first | rfl | exact ⟨rfl, rfl⟩ | exact ⟨by simp [toRes], rfl⟩
      · have hpos : 0 < rs.length := List.length_pos_iff.2 h0
        obtain ⟨hr1, hr2⟩ := hr rs[rs.length - 1] (List.getElem_mem (by omega))
        have hget : (rs.map cellQ)[rs.length - 1]? = some (cellQ rs[rs.length - 1]) := by rw [List.getElem?_map, List.getElem?_eq_getElem (by omega)]; rfl
        rw [lastQ_eq hpos]
        generalize rs[rs.length - 1] = r at *
        have dZ := l4Zero_den r.n r.l r.p r.q hr1
        repeat refine vs ?_
        conv => whnf
        first | refine Idx.mk ((rs.length - 1)) (by first | rfl | omega) (by omega) ?_ | skip
        repeat refine vs ?_
        conv => whnf
        refine LdR.mk (cellQ r) hget ?_
        repeat refine vs ?_
        conv => whnf
        by_cases hz : r.l = []
        · rw [decide_eq_true hz] at dZ
          rw [decide_eq_false (by simp [hz])]
          refine CallS.mk _ rfl true true _ (dZ) rfl ?_
          repeat refine vs ?_
          conv => whnf
          first | rfl | exact ⟨rfl, rfl⟩ | exact ⟨by simp [toRes], rfl⟩
        · rw [decide_eq_false hz] at dZ
          rw [decide_eq_true hz]
          refine CallS.mk _ rfl true true _ (dZ) rfl ?_
          repeat refine vs ?_
          conv => whnf
          first | rfl | exact ⟨rfl, rfl⟩ | exact ⟨by simp [toRes], rfl⟩
    · rw [decide_eq_false h7, Bool.false_and]
      repeat refine vs ?_
      conv => whnf
      first | rfl | exact ⟨rfl, rfl⟩ | exact ⟨by simp [toRes], rfl⟩
theorem goodPolyBoth (rs : List RawQ) (hrs : shortP 1048576 rs) : ∃ b, D 47 [polQ rs] false (.one (bP b)) ∧ D 41 [polQ rs] true (.one (bP b)) := by
  have h : shortP 1000000000000 rs := ⟨Nat.le_trans hrs.1 (by decide), fun r hr => ⟨Nat.le_trans (hrs.2 r hr).1 (by decide), Nat.le_trans (hrs.2 r hr).2 (by decide)⟩⟩
  exact ⟨_, (goodPolyS_den rs h).un, goodPolyI_den rs h⟩

/-! ### sign changes -/
def chgF : Int → List (Int × Int) → Int
  | _, [] => 0
  | last, f :: l => if cmpI f.1 0 = 0 then chgF last l else (if last * cmpI f.1 0 < 0 then 1 else 0) + chgF (cmpI f.1 0) l
theorem chgF_zero {last : Int} {f : Int × Int} {l : List (Int × Int)} (h : cmpI f.1 0 = 0) : chgF last (f :: l) = chgF last l := if_pos h
theorem chgF_neg {last : Int} {f : Int × Int} {l : List (Int × Int)} (h : cmpI f.1 0 ≠ 0) (k : last * cmpI f.1 0 < 0) : chgF last (f :: l) = 1 + chgF (cmpI f.1 0) l := by
  show (if cmpI f.1 0 = 0 then _ else _) = _
  rw [if_neg h, if_pos k]
theorem chgF_pos {last : Int} {f : Int × Int} {l : List (Int × Int)} (h : cmpI f.1 0 ≠ 0) (k : ¬ last * cmpI f.1 0 < 0) : chgF last (f :: l) = chgF (cmpI f.1 0) l := by
  show (if cmpI f.1 0 = 0 then _ else _) = _
  rw [if_neg h, if_neg k, Int.zero_add]
theorem chgF_len : ∀ (l : List (Int × Int)) (last : Int), 0 ≤ chgF last l ∧ chgF last l ≤ l.length
  | [], _ => ⟨Int.le_refl _, Int.le_refl _⟩
  | f :: l, last => by
    have h1 := chgF_len l last
    have h2 := chgF_len l (cmpI f.1 0)
    rw [List.length_cons]
    by_cases c : cmpI f.1 0 = 0
    · rw [chgF_zero c]; omega
    · by_cases d : last * cmpI f.1 0 < 0
      · rw [chgF_neg c d]; omega
      · rw [chgF_pos c d]; omega
theorem sgn_mul {a b : Int} (ha : -1 ≤ a ∧ a ≤ 1) (hb : -1 ≤ b ∧ b ≤ 1) : a * b < 0 ↔ (b ≠ 0 ∧ a ≠ 0 ∧ b ≠ a) := by
  have h1 : a = -1 ∨ a = 0 ∨ a = 1 := by omega
  have h2 : b = -1 ∨ b = 0 ∨ b = 1 := by omega
  rcases h1 with rfl | rfl | rfl <;> rcases h2 with rfl | rfl | rfl <;> simp
section
variable (fs : List (Int × Int)) (hl : fs.length ≤ 1000000) (hq : ∀ f ∈ fs, okF 40000000000 f)
include hl hq
theorem changes_den : D 162 [(false, [.arr 4 (fs.map cellR)])] true (.one (iP (chgF 0 fs))) := by
  have hrl : (fs.map cellR).length = fs.length := by simp
  refine go Tryz.func162 rfl rfl ?_
  repeat refine vs ?_
  conv => whnf
  refine EVs.loopU (fun s : Nat × Int × Int => s.1 ≤ fs.length ∧ 0 ≤ s.2.1 ∧ s.2.1 ≤ s.1 ∧ (-1 ≤ s.2.2 ∧ s.2.2 ≤ 1) ∧ s.2.1 + chgF s.2.2 (fs.drop s.1) = chgF 0 fs) (fun s => fs.length - s.1)
    (fun | (i, c, last) => [(3, .v false [.p (.int .i64 c)]), (4, .v false [.p (.int .i64 last)]), (9, .v false [.p (.int .i64 (i : Int))])]) (0, 0, 0) ⟨by dsimp only; omega, by dsimp only; omega, by dsimp only; omega, by dsimp only; omega, by show (0 : Int) + _ = _; rw [Int.zero_add]; rfl⟩ (Wk.refl _) ?_
  rintro ⟨i, c, last⟩ ⟨hi, hc0, hci, hlast, hinv⟩
  dsimp only at hi hc0 hci hlast hinv
  refine go1 ?_
  repeat refine vs ?_
  conv => whnf
  by_cases h1 : (i : Int) < (fs.map cellR).length
  · have hlt : i < fs.length := by omega
    have ha := hq fs[i] (List.getElem_mem hlt)
    have hget : (fs.map cellR)[i]? = some (cellR fs[i]) := by rw [List.getElem?_map, List.getElem?_eq_getElem hlt]; rfl
    rw [List.drop_eq_getElem_cons hlt] at hinv
    generalize fs[i] = f at *
    have dS := ratSign_den f.1 f.2 (by have := ha.2.1; omega)
    have hr := cmpI_range f.1 0
    have hsg := sgn_mul hlast hr
    repeat refine vs ?_
    conv => whnf
    refine LdR.mk (cellR f) hget ?_
    repeat refine vs ?_
    conv => whnf
    refine CallS.mk _ rfl true true _ (dS) rfl ?_
    repeat refine vs ?_
    conv => whnf
    by_cases hz : cmpI f.1 0 = 0
    · rw [chgF_zero hz] at hinv
      repeat refine vs ?_
      conv => whnf
      refine ⟨(i + 1, c, last), by dsimp only; omega, ⟨by dsimp only; omega, hc0, by dsimp only; omega, hlast, hinv⟩, ?_⟩
      refine Wk.le ?_
      repeat' (first | exact LeT.nil | refine LeT.drop1 ?_ | refine LeT.same1 ?_ | refine LeT.own1 ?_ | refine LeT.ownR ?_ | (refine LeT.deepR ?_ rfl))
    · repeat refine vs ?_
      conv => whnf
      refine CallS.mk _ rfl true true _ (dS) rfl ?_
      repeat refine vs ?_
      conv => whnf
      have hm : -1 ≤ last * cmpI f.1 0 ∧ last * cmpI f.1 0 ≤ 1 := by
        have h1 : last = -1 ∨ last = 0 ∨ last = 1 := by omega
        rcases h1 with rfl | rfl | rfl <;> omega
      generalize hmm : last * cmpI f.1 0 = m at *
      by_cases hn : m < 0
      · rw [chgF_neg hz (by omega)] at hinv
        repeat refine vs ?_
        conv => whnf
        refine CallS.mk _ rfl true true _ (dS) rfl ?_
        repeat refine vs ?_
        conv => whnf
        refine ⟨(i + 1, c + 1, cmpI f.1 0), by dsimp only; omega, ⟨by dsimp only; omega, by dsimp only; omega, by dsimp only; omega, hr, by dsimp only; omega⟩, ?_⟩
        refine Wk.le ?_
        repeat' (first | exact LeT.nil | refine LeT.drop1 ?_ | refine LeT.same1 ?_ | refine LeT.own1 ?_ | refine LeT.ownR ?_ | (refine LeT.deepR ?_ rfl))
      · rw [chgF_pos hz (by omega)] at hinv
        repeat refine vs ?_
        conv => whnf
        refine CallS.mk _ rfl true true _ (dS) rfl ?_
        repeat refine vs ?_
        conv => whnf
        refine ⟨(i + 1, c, cmpI f.1 0), by dsimp only; omega, ⟨by dsimp only; omega, hc0, by dsimp only; omega, hr, hinv⟩, ?_⟩
        refine Wk.le ?_
        repeat' (first | exact LeT.nil | refine LeT.drop1 ?_ | refine LeT.same1 ?_ | refine LeT.own1 ?_ | refine LeT.ownR ?_ | (refine LeT.deepR ?_ rfl))
  · have : i = fs.length := by omega
    subst this
    rw [List.drop_length] at hinv
    have : c = chgF 0 fs := by rw [← hinv]; show c = c + 0; omega
    rw [← this]
    repeat refine vs ?_
    conv => whnf
    first | rfl | exact ⟨rfl, rfl⟩ | exact ⟨by simp [toRes], rfl⟩
theorem l4Signs_den : D 189 [(false, [.arr 4 (fs.map cellR)])] true (.one (iP (chgF 0 fs))) := by
  have hrl : (fs.map cellR).length = fs.length := by simp
  refine go Tryz.func189 rfl rfl ?_
  repeat refine vs ?_
  conv => whnf
  refine EVs.loopU (fun s : Nat × Int × Int => s.1 ≤ fs.length ∧ 0 ≤ s.2.1 ∧ s.2.1 ≤ s.1 ∧ (-1 ≤ s.2.2 ∧ s.2.2 ≤ 1) ∧ s.2.1 + chgF s.2.2 (fs.drop s.1) = chgF 0 fs) (fun s => fs.length - s.1)
    (fun | (i, c, last) => [(3, .v false [.p (.int .i64 c)]), (4, .v false [.p (.int .i64 last)]), (10, .v false [.p (.int .i64 (i : Int))])]) (0, 0, 0) ⟨by dsimp only; omega, by dsimp only; omega, by dsimp only; omega, by dsimp only; omega, by show (0 : Int) + _ = _; rw [Int.zero_add]; rfl⟩ (Wk.refl _) ?_
  rintro ⟨i, c, last⟩ ⟨hi, hc0, hci, hlast, hinv⟩
  dsimp only at hi hc0 hci hlast hinv
  refine go1 ?_
  repeat refine vs ?_
  conv => whnf
  by_cases h1 : (i : Int) < (fs.map cellR).length
  · have hlt : i < fs.length := by omega
    have ha := hq fs[i] (List.getElem_mem hlt)
    have hget : (fs.map cellR)[i]? = some (cellR fs[i]) := by rw [List.getElem?_map, List.getElem?_eq_getElem hlt]; rfl
    rw [List.drop_eq_getElem_cons hlt] at hinv
    generalize fs[i] = f at *
    have l0 : Lm.ln 0 ≤ 4 := ln64 (by omega) (by omega)
    have l1 : Lm.ln 1 ≤ 4 := ln64 (by omega) (by omega)
    have dI := l2Int_den 0 (by omega) (by omega)
    have dC := l2Cmp_den f.1 f.2 0 1 (by have := ha.1; omega) (by omega) ha.2.1 ha.2.2 (by omega) (by omega)
    rw [Int.mul_one, Int.zero_mul] at dC
    have hr := cmpI_range f.1 0
    have hsg := sgn_mul hlast hr
    generalize hs : cmpI f.1 0 = s at *
    repeat refine vs ?_
    conv => whnf
    refine LdR.mk (cellR f) hget ?_
    repeat refine vs ?_
    conv => whnf
    refine CallS.mk _ rfl true false _ (dI) rfl ?_
    repeat refine vs ?_
    conv => whnf
    refine CallS.mk _ rfl true true _ (dC) rfl ?_
    repeat refine vs ?_
    conv => whnf
    by_cases hz : s = 0
    · rw [chgF_zero (by omega)] at hinv
      repeat refine vs ?_
      conv => whnf
      refine ⟨(i + 1, c, last), by dsimp only; omega, ⟨by dsimp only; omega, hc0, by dsimp only; omega, hlast, hinv⟩, ?_⟩
      refine Wk.le ?_
      repeat' (first | exact LeT.nil | refine LeT.drop1 ?_ | refine LeT.same1 ?_ | refine LeT.own1 ?_ | refine LeT.ownR ?_ | (refine LeT.deepR ?_ rfl))
    · by_cases hn : last ≠ 0 ∧ s ≠ last
      · rw [chgF_neg (by omega) (by rw [hs]; exact hsg.2 ⟨hz, hn⟩), hs] at hinv
        obtain ⟨hn1, hn2⟩ := hn
        repeat refine vs ?_
        conv => whnf
        refine ⟨(i + 1, c + 1, s), by dsimp only; omega, ⟨by dsimp only; omega, by dsimp only; omega, by dsimp only; omega, hr, by dsimp only; omega⟩, ?_⟩
        refine Wk.le ?_
        repeat' (first | exact LeT.nil | refine LeT.drop1 ?_ | refine LeT.same1 ?_ | refine LeT.own1 ?_ | refine LeT.ownR ?_ | (refine LeT.deepR ?_ rfl))
      · rw [chgF_pos (by omega) (by rw [hs]; exact fun x => hn (hsg.1 x).2), hs] at hinv
        by_cases hn1 : last = 0
        · repeat refine vs ?_
          conv => whnf
          refine ⟨(i + 1, c, s), by dsimp only; omega, ⟨by dsimp only; omega, hc0, by dsimp only; omega, hr, hinv⟩, ?_⟩
          refine Wk.le ?_
          repeat' (first | exact LeT.nil | refine LeT.drop1 ?_ | refine LeT.same1 ?_ | refine LeT.own1 ?_ | refine LeT.ownR ?_ | (refine LeT.deepR ?_ rfl))
        · have hn2 : s = last := by
            by_cases e : s = last
            · exact e
            · exact absurd ⟨hn1, e⟩ hn
          repeat refine vs ?_
          conv => whnf
          refine ⟨(i + 1, c, s), by dsimp only; omega, ⟨by dsimp only; omega, hc0, by dsimp only; omega, hr, hinv⟩, ?_⟩
          refine Wk.le ?_
          repeat' (first | exact LeT.nil | refine LeT.drop1 ?_ | refine LeT.same1 ?_ | refine LeT.own1 ?_ | refine LeT.ownR ?_ | (refine LeT.deepR ?_ rfl))
  · have : i = fs.length := by omega
    subst this
    rw [List.drop_length] at hinv
    have : c = chgF 0 fs := by rw [← hinv]; show c = c + 0; omega
    rw [← this]
    repeat refine vs ?_
    conv => whnf
    first | rfl | exact ⟨rfl, rfl⟩ | exact ⟨by simp [toRes], rfl⟩
end
theorem lowT_big {K : Nat} (hK : K ≤ 40000000000) {fs : List (Int × Int)} (h : ∀ f ∈ fs, lowT K f) : ∀ f ∈ fs, okF 40000000000 f := fun f hf => ⟨(h f hf).1.1, Nat.le_trans (h f hf).1.2.1 hK, Nat.le_trans (h f hf).1.2.2 hK⟩
end Go.Vx
