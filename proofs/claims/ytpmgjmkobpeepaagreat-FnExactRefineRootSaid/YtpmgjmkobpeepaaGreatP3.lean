/- The laws' own functions for lists of fractions. -/
import Derived.Test.YtpmgjmkobpeepaaGreatP1
import Derived.Test.YtpmgjmkobpeepaaGreatC5R
set_option linter.unusedVariables false
set_option linter.unusedSectionVars false
set_option linter.unusedSimpArgs false
namespace Go.Vx
open Go.Proofs
set_option maxRecDepth 100000

/-- What is left of the measure behind a fraction, behind several. -/
noncomputable def szQ (r : RawQ) (k : Int) : Int := @dite _ (∃ s : Int, D 17 [ratR r.n r.l r.p r.q, iP k] true (.one (iP s)) ∧ (¬ s < 0 → r.l.length ≤ 1048576 ∧ r.q.length ≤ 1048576 ∧ 0 ≤ s ∧ s ≤ 1048576)) (Classical.propDecidable _) (fun h => Classical.choose h) (fun _ => -1)
theorem szQ_den (r : RawQ) (k : Int) (hk : 0 ≤ k ∧ k ≤ 1048576) (hl : r.l.length ≤ 9223372036854775807) (hq : r.q.length ≤ 9223372036854775807) :
    D 17 [ratR r.n r.l r.p r.q, iP k] true (.one (iP (szQ r k))) ∧ (¬ szQ r k < 0 → r.l.length ≤ 1048576 ∧ r.q.length ≤ 1048576 ∧ 0 ≤ szQ r k ∧ szQ r k ≤ 1048576) := by
  have h := szRat_den r.n r.l r.p r.q k hk hl hq
  unfold szQ
  rw [dif_pos h]
  exact Classical.choose_spec h
noncomputable def szL : List RawQ → Int → Int
  | [], k => k
  | r :: rs, k => if szQ r k < 0 then -1 else szL rs (szQ r k)
theorem szL_neg {r : RawQ} {rs : List RawQ} {k : Int} (h : szQ r k < 0) : szL (r :: rs) k = -1 := if_pos h
theorem szL_pos {r : RawQ} {rs : List RawQ} {k : Int} (h : ¬ szQ r k < 0) : szL (r :: rs) k = szL rs (szQ r k) := if_neg h
theorem szL_ok : ∀ {rs : List RawQ} {k : Int}, (0 ≤ k ∧ k ≤ 1048576) → (∀ r ∈ rs, r.l.length ≤ 9223372036854775807 ∧ r.q.length ≤ 9223372036854775807) → ¬ szL rs k < 0 → (∀ r ∈ rs, r.l.length ≤ 1048576 ∧ r.q.length ≤ 1048576) ∧ 0 ≤ szL rs k ∧ szL rs k ≤ 1048576
  | [], k, hk, _, _ => ⟨fun r h => (by cases h), hk⟩
  | r :: rs, k, hk, hr, h => by
    obtain ⟨h1, h2⟩ := hr r List.mem_cons_self
    have hs := (szQ_den r k hk h1 h2).2
    by_cases c : szQ r k < 0
    · rw [szL_neg c] at h; omega
    · rw [szL_pos c] at h ⊢
      obtain ⟨a1, a2, a3⟩ := hs c
      obtain ⟨b1, b2⟩ := szL_ok a3 (fun q hq => hr q (List.mem_cons_of_mem _ hq)) h
      refine ⟨fun q hq => ?_, b2⟩
      rcases List.mem_cons.1 hq with rfl | hq
      · exact ⟨a1, a2⟩
      · exact b1 q hq
theorem szRatS_den (rs : List RawQ) (k : Int) (hk : 0 ≤ k ∧ k ≤ 1048576) (hrs : shortP 9223372036854775807 rs) :
    ∃ s : Int, D 10 [polQ rs, iP k] true (.one (iP s)) ∧ (¬ s < 0 → shortP 1048576 rs ∧ 0 ≤ s ∧ s ≤ 1048576) := by
  obtain ⟨hl, hr⟩ := hrs
  have hrl : (rs.map cellQ).length = rs.length := by simp
  by_cases h0 : k - (rs.length : Int) < 0
  · refine ⟨-1, go Tryz.func10 rfl rfl ?_, fun h => by omega⟩
    repeat refine vs ?_
    conv => whnf
    first | rfl | exact ⟨rfl, rfl⟩ | exact ⟨by simp [toRes], rfl⟩
  · refine ⟨szL rs (k - rs.length), go Tryz.func10 rfl rfl ?_, fun h => ?_⟩
    · repeat refine vs ?_
      conv => whnf
      refine EVs.loopU (fun s : Nat × Int => s.1 ≤ rs.length ∧ (0 ≤ s.2 ∧ s.2 ≤ 1048576) ∧ szL (rs.drop s.1) s.2 = szL rs (k - rs.length)) (fun s => rs.length - s.1)
        (fun | (i, c) => [(1, .v false [.p (.int .i64 c)]), (5, .v false [.p (.int .i64 (i : Int))])]) (0, k - rs.length) ⟨by dsimp only; omega, by dsimp only; omega, rfl⟩ ?_ ?_
      · rw [hrl]
        exact Wk.refl _
      rintro ⟨i, c⟩ ⟨hi, hc, hinv⟩
      dsimp only at hi hc hinv
      refine go1 ?_
      repeat refine vs ?_
      conv => whnf
      by_cases h1 : (i : Int) < (rs.map cellQ).length
      · have hlt : i < rs.length := by omega
        obtain ⟨hr1, hr2⟩ := hr rs[i] (List.getElem_mem hlt)
        have hget : (rs.map cellQ)[i]? = some (cellQ rs[i]) := by rw [List.getElem?_map, List.getElem?_eq_getElem hlt]; rfl
        rw [List.drop_eq_getElem_cons hlt] at hinv
        generalize rs[i] = r at *
        obtain ⟨dZ, hZ⟩ := szQ_den r c hc hr1 hr2
        repeat refine vs ?_
        conv => whnf
        refine LdR.mk (cellQ r) hget ?_
        repeat refine vs ?_
        conv => whnf
        refine CallS.mk _ rfl true true _ (dZ) rfl ?_
        repeat refine vs ?_
        conv => whnf
        by_cases hn : szQ r c < 0
        · rw [szL_neg hn] at hinv
          rw [← hinv]
          repeat refine vs ?_
          conv => whnf
          first | rfl | exact ⟨rfl, rfl⟩ | exact ⟨by simp [toRes], rfl⟩
        · rw [szL_pos hn] at hinv
          obtain ⟨a1, a2, a3⟩ := hZ hn
          repeat refine vs ?_
          conv => whnf
          refine ⟨(i + 1, szQ r c), by dsimp only; omega, ⟨by dsimp only; omega, a3, hinv⟩, ?_⟩
          refine Wk.le ?_
          repeat' (first | exact LeT.nil | refine LeT.drop1 ?_ | refine LeT.same1 ?_ | refine LeT.own1 ?_ | refine LeT.ownR ?_ | (refine LeT.deepR ?_ rfl))
      · have : i = rs.length := by omega
        subst this
        rw [List.drop_length] at hinv
        rw [← hinv]
        repeat refine vs ?_
        conv => whnf
        first | rfl | exact ⟨rfl, rfl⟩ | exact ⟨by simp [toRes], rfl⟩
    · obtain ⟨h1, h2⟩ := szL_ok (by omega) hr h
      exact ⟨⟨by omega, h1⟩, h2⟩
theorem eqRatS_rfl (rs : List RawQ) (hrs : shortP 1048576 rs) : D 14 [polQ rs, polQ rs] true (.one (bP true)) := by
  obtain ⟨hl, hr⟩ := hrs
  have hrl : (rs.map cellQ).length = rs.length := by simp
  refine go Tryz.func14 rfl rfl ?_
  repeat refine vs ?_
  conv => whnf
  refine EVs.loopU (fun i : Nat => i ≤ rs.length) (fun i => rs.length - i) (fun i => [(5, .v false [.p (.int .i64 (i : Int))])]) 0 (by omega) (Wk.refl _) ?_
  intro i hi
  refine go1 ?_
  repeat refine vs ?_
  conv => whnf
  by_cases h1 : (i : Int) < (rs.map cellQ).length
  · have hlt : i < rs.length := by omega
    obtain ⟨hr1, hr2⟩ := hr rs[i] (List.getElem_mem hlt)
    have hget : (rs.map cellQ)[i]? = some (cellQ rs[i]) := by rw [List.getElem?_map, List.getElem?_eq_getElem hlt]; rfl
    generalize rs[i] = r at *
    repeat refine vs ?_
    conv => whnf
    refine LdR.mk (cellQ r) hget ?_
    repeat refine vs ?_
    conv => whnf
    refine LdR.mk (cellQ r) hget ?_
    repeat refine vs ?_
    conv => whnf
    refine CallS.mk _ rfl true true _ (eqRat_rfl r.n r.l r.p r.q (by omega) (by omega)) rfl ?_
    repeat refine vs ?_
    conv => whnf
    refine ⟨i + 1, by omega, by omega, ?_⟩
    refine Wk.le ?_
    repeat' (first | exact LeT.nil | refine LeT.drop1 ?_ | refine LeT.same1 ?_ | refine LeT.own1 ?_ | refine LeT.ownR ?_ | (refine LeT.deepR ?_ rfl))
  · repeat refine vs ?_
    conv => whnf
    first | rfl | exact ⟨rfl, rfl⟩ | exact ⟨by simp [toRes], rfl⟩
def zRow : List PL := [.bool false, .ints [], .bool false, .ints []]
theorem set_row {rs : List RawQ} {i : Nat} (h : i < rs.length) : ((rs.take i).map cellQ ++ List.replicate (rs.length - i) zRow).set i (cellQ rs[i]) = (rs.take (i + 1)).map cellQ ++ List.replicate (rs.length - (i + 1)) zRow := by
  have e1 : ((rs.take i).map cellQ).length = i := by simp; omega
  rw [List.set_append_right _ _ (by omega), e1, Nat.sub_self, show rs.length - i = (rs.length - (i + 1)) + 1 by omega, List.replicate_succ, List.set_cons_zero, List.take_succ_eq_append_getElem h, List.map_append, List.append_assoc]
  rfl
theorem toRatS_den (rs : List RawQ) (hrs : shortP 1048576 rs) : D 12 [polQ rs] false (.one (polQ rs)) := by
  obtain ⟨hl, hr⟩ := hrs
  have hrl : (rs.map cellQ).length = rs.length := by simp
  refine go Tryz.func12 rfl rfl ?_
  repeat refine vs ?_
  conv => whnf
  refine MakeR.mk (rs.map cellQ).length rfl rfl (by omega) true ?_
  repeat refine vs ?_
  conv => whnf
  refine EVs.un (7, 0) ?_
  refine EVs.loopU (fun i : Nat => i ≤ rs.length) (fun i => rs.length - i) (fun i => [(3, .v false [.own (7, 0) 41 (.arr 4 ((rs.take i).map cellQ ++ List.replicate ((rs.map cellQ).length - i) zRow))]), (4, .v false [.p (.int .i64 (i : Int))]), (7, .any)]) 0 (by omega) ?_ ?_
  · refine Wk.le ?_
    repeat' (first | exact LeT.nil | refine LeT.drop1 ?_ | refine LeT.same1 ?_ | refine LeT.own1 ?_ | refine LeT.ownR ?_ | (refine LeT.deepR ?_ rfl))
  intro i hi
  refine go1 ?_
  repeat refine vs ?_
  conv => whnf
  by_cases h1 : (i : Int) < (rs.map cellQ).length
  · have hlt : i < rs.length := by omega
    obtain ⟨hr1, hr2⟩ := hr rs[i] (List.getElem_mem hlt)
    have hget : (rs.map cellQ)[i]? = some (cellQ rs[i]) := by rw [List.getElem?_map, List.getElem?_eq_getElem hlt]; rfl
    have hset := set_row hlt
    have hlen : ((rs.take i).map cellQ ++ List.replicate ((rs.map cellQ).length - i) zRow).length = rs.length := by simp; omega
    rw [← hrl] at hset
    generalize rs[i] = r at *
    repeat refine vs ?_
    conv => whnf
    refine LdR.mk (cellQ r) hget ?_
    repeat refine vs ?_
    conv => whnf
    refine CallS.mk _ rfl true false _ (toRat_den r.n r.l r.p r.q (by omega) (by omega)) rfl ?_
    repeat refine vs ?_
    conv => whnf
    have hset' : ((rs.take i).map cellQ ++ List.replicate ((rs.map cellQ).length - i) zRow).set i [.bool r.n, .ints r.l, .bool r.p, .ints r.q] = (rs.take (i + 1)).map cellQ ++ List.replicate ((rs.map cellQ).length - (i + 1)) zRow := hset
    rw [hset']
    refine ⟨i + 1, by omega, by omega, ?_⟩
    refine Wk.le ?_
    repeat' (first | exact LeT.nil | refine LeT.drop1 ?_ | refine LeT.same1 ?_ | refine LeT.own1 ?_ | refine LeT.ownR ?_ | (refine LeT.deepR ?_ rfl))
  · have : i = rs.length := by omega
    subst this
    repeat refine vs ?_
    conv => whnf
    rw [hrl, List.take_length, Nat.sub_self, List.replicate_zero, List.append_nil]
    rfl
end Go.Vx
