/- The laws' own functions for lists of Bigs. -/
import Derived.Test.YtpmgjmkobpeepaaC5R
import Derived.Test.YtpmgjmkobpeepaaC7
import Derived.Test.YtpmgjmkobpeepaaR6
import Derived.Test.YtpmgjmkobpeepaaR5
import Derived.Test.YtpmgjmkobpeepaaVGg
set_option linter.unusedVariables false
set_option linter.unusedSectionVars false
set_option linter.unusedSimpArgs false
namespace Go.Vx
open Go.Proofs
set_option maxRecDepth 100000

structure RawB where
  n : Bool
  l : List Int
def cellB (r : RawB) : List PL := [.bool r.n, .ints r.l]
abbrev bigsQ (rs : List RawB) : PV := (false, [.arr 2 (rs.map cellB)])
def shortB (K : Nat) (rs : List RawB) : Prop := rs.length ≤ K ∧ ∀ r ∈ rs, r.l.length ≤ K
def szBL : List RawB → Int → Int
  | [], k => k
  | r :: rs, k => if szR k r.l.length < 0 then -1 else szBL rs (szR k r.l.length)
theorem szBL_neg {r : RawB} {rs : List RawB} {k : Int} (h : szR k r.l.length < 0) : szBL (r :: rs) k = -1 := if_pos h
theorem szBL_pos {r : RawB} {rs : List RawB} {k : Int} (h : ¬ szR k r.l.length < 0) : szBL (r :: rs) k = szBL rs (szR k r.l.length) := if_neg h
theorem szBL_ok : ∀ {rs : List RawB} {k : Int}, (0 ≤ k ∧ k ≤ 1048576) → ¬ szBL rs k < 0 → (∀ r ∈ rs, r.l.length ≤ 1048576) ∧ 0 ≤ szBL rs k ∧ szBL rs k ≤ 1048576
  | [], k, hk, _ => ⟨fun r h => (by cases h), hk⟩
  | r :: rs, k, hk, h => by
    by_cases c : szR k r.l.length < 0
    · rw [szBL_neg c] at h; omega
    · rw [szBL_pos c] at h ⊢
      obtain ⟨a1, a2, a3, a4⟩ := szR_two hk.1 hk.2 c
      obtain ⟨b1, b2⟩ := szBL_ok ⟨a3, a4⟩ h
      refine ⟨fun q hq => ?_, b2⟩
      rcases List.mem_cons.1 hq with rfl | hq
      · exact a1
      · exact b1 q hq
theorem szBigS_den (rs : List RawB) (k : Int) (hk : 0 ≤ k ∧ k ≤ 1048576) (hrs : shortB 9223372036854775807 rs) :
    ∃ s : Int, D 14 [bigsQ rs, iP k] true (.one (iP s)) ∧ (¬ s < 0 → shortB 1048576 rs ∧ 0 ≤ s ∧ s ≤ 1048576) := by
  obtain ⟨hl, hr⟩ := hrs
  have hrl : (rs.map cellB).length = rs.length := by simp
  by_cases h0 : k - (rs.length : Int) < 0
  · refine ⟨-1, go Try.func14 rfl rfl ?_, fun h => by omega⟩
    repeat refine vs ?_
    conv => whnf
    first | rfl | exact ⟨rfl, rfl⟩ | exact ⟨by simp [toRes], rfl⟩
  · refine ⟨szBL rs (k - rs.length), go Try.func14 rfl rfl ?_, fun h => ?_⟩
    · repeat refine vs ?_
      conv => whnf
      refine EVs.loopU (fun s : Nat × Int => s.1 ≤ rs.length ∧ (0 ≤ s.2 ∧ s.2 ≤ 1048576) ∧ szBL (rs.drop s.1) s.2 = szBL rs (k - rs.length)) (fun s => rs.length - s.1)
        (fun | (i, c) => [(1, .v false [.p (.int .i64 c)]), (5, .v false [.p (.int .i64 (i : Int))])]) (0, k - rs.length) ⟨by dsimp only; omega, by dsimp only; omega, rfl⟩ ?_ ?_
      · rw [hrl]
        exact Wk.refl _
      rintro ⟨i, c⟩ ⟨hi, hc, hinv⟩
      dsimp only at hi hc hinv
      refine go1 ?_
      repeat refine vs ?_
      conv => whnf
      by_cases h1 : (i : Int) < (rs.map cellB).length
      · have hlt : i < rs.length := by omega
        have hr1 := hr rs[i] (List.getElem_mem hlt)
        have hget : (rs.map cellB)[i]? = some (cellB rs[i]) := by rw [List.getElem?_map, List.getElem?_eq_getElem hlt]; rfl
        rw [List.drop_eq_getElem_cons hlt] at hinv
        generalize rs[i] = r at *
        have dZ := szBig_den r.n r.l c (by omega) hr1
        repeat refine vs ?_
        conv => whnf
        refine LdR.mk (cellB r) hget ?_
        repeat refine vs ?_
        conv => whnf
        refine CallS.mk _ rfl true true _ (dZ) rfl ?_
        repeat refine vs ?_
        conv => whnf
        by_cases hn : szR c r.l.length < 0
        · rw [szBL_neg hn] at hinv
          rw [← hinv]
          repeat refine vs ?_
          conv => whnf
          first | rfl | exact ⟨rfl, rfl⟩ | exact ⟨by simp [toRes], rfl⟩
        · rw [szBL_pos hn] at hinv
          obtain ⟨a1, a2, a3, a4⟩ := szR_two hc.1 hc.2 hn
          repeat refine vs ?_
          conv => whnf
          refine ⟨(i + 1, szR c r.l.length), by dsimp only; omega, ⟨by dsimp only; omega, ⟨a3, a4⟩, hinv⟩, ?_⟩
          refine Wk.le ?_
          repeat' (first | exact LeT.nil | refine LeT.drop1 ?_ | refine LeT.same1 ?_ | refine LeT.own1 ?_ | refine LeT.ownR ?_ | (refine LeT.deepR ?_ rfl))
      · have : i = rs.length := by omega
        subst this
        rw [List.drop_length] at hinv
        rw [← hinv]
        repeat refine vs ?_
        conv => whnf
        first | rfl | exact ⟨rfl, rfl⟩ | exact ⟨by simp [toRes], rfl⟩
    · obtain ⟨h1, h2⟩ := szBL_ok (by omega) h
      exact ⟨⟨by omega, h1⟩, h2⟩
theorem eqBigS_rfl (rs : List RawB) (hrs : shortB 1048576 rs) : D 9 [bigsQ rs, bigsQ rs] true (.one (bP true)) := by
  obtain ⟨hl, hr⟩ := hrs
  have hrl : (rs.map cellB).length = rs.length := by simp
  refine go Try.func9 rfl rfl ?_
  repeat refine vs ?_
  conv => whnf
  refine EVs.loopU (fun i : Nat => i ≤ rs.length) (fun i => rs.length - i) (fun i => [(5, .v false [.p (.int .i64 (i : Int))])]) 0 (by omega) (Wk.refl _) ?_
  intro i hi
  refine go1 ?_
  repeat refine vs ?_
  conv => whnf
  by_cases h1 : (i : Int) < (rs.map cellB).length
  · have hlt : i < rs.length := by omega
    have hr1 := hr rs[i] (List.getElem_mem hlt)
    have hget : (rs.map cellB)[i]? = some (cellB rs[i]) := by rw [List.getElem?_map, List.getElem?_eq_getElem hlt]; rfl
    generalize rs[i] = r at *
    repeat refine vs ?_
    conv => whnf
    refine LdR.mk (cellB r) hget ?_
    repeat refine vs ?_
    conv => whnf
    refine LdR.mk (cellB r) hget ?_
    repeat refine vs ?_
    conv => whnf
    refine CallS.mk _ rfl true true _ (eqBig_rfl r.n r.l (by omega)) rfl ?_
    repeat refine vs ?_
    conv => whnf
    refine ⟨i + 1, by omega, by omega, ?_⟩
    refine Wk.le ?_
    repeat' (first | exact LeT.nil | refine LeT.drop1 ?_ | refine LeT.same1 ?_ | refine LeT.own1 ?_ | refine LeT.ownR ?_ | (refine LeT.deepR ?_ rfl))
  · repeat refine vs ?_
    conv => whnf
    first | rfl | exact ⟨rfl, rfl⟩ | exact ⟨by simp [toRes], rfl⟩
def zRow2 : List PL := [.bool false, .ints []]
theorem set_row2 {rs : List RawB} {i : Nat} (h : i < rs.length) : ((rs.take i).map cellB ++ List.replicate (rs.length - i) zRow2).set i (cellB rs[i]) = (rs.take (i + 1)).map cellB ++ List.replicate (rs.length - (i + 1)) zRow2 := by
  have e1 : ((rs.take i).map cellB).length = i := by simp; omega
  rw [List.set_append_right _ _ (by omega), e1, Nat.sub_self, show rs.length - i = (rs.length - (i + 1)) + 1 by omega, List.replicate_succ, List.set_cons_zero, List.take_succ_eq_append_getElem h, List.map_append, List.append_assoc]
  rfl
theorem toBigS_den (rs : List RawB) (hrs : shortB 1048576 rs) : D 16 [bigsQ rs] false (.one (bigsQ rs)) := by
  obtain ⟨hl, hr⟩ := hrs
  have hrl : (rs.map cellB).length = rs.length := by simp
  refine go Try.func16 rfl rfl ?_
  repeat refine vs ?_
  conv => whnf
  refine MakeR.mk (rs.map cellB).length rfl rfl (by omega) true ?_
  repeat refine vs ?_
  conv => whnf
  refine EVs.un (7, 0) ?_
  refine EVs.loopU (fun i : Nat => i ≤ rs.length) (fun i => rs.length - i) (fun i => [(3, .v false [.own (7, 0) 31 (.arr 2 ((rs.take i).map cellB ++ List.replicate ((rs.map cellB).length - i) zRow2))]), (4, .v false [.p (.int .i64 (i : Int))]), (7, .any)]) 0 (by omega) ?_ ?_
  · refine Wk.le ?_
    repeat' (first | exact LeT.nil | refine LeT.drop1 ?_ | refine LeT.same1 ?_ | refine LeT.own1 ?_ | refine LeT.ownR ?_ | (refine LeT.deepR ?_ rfl))
  intro i hi
  refine go1 ?_
  repeat refine vs ?_
  conv => whnf
  by_cases h1 : (i : Int) < (rs.map cellB).length
  · have hlt : i < rs.length := by omega
    have hr1 := hr rs[i] (List.getElem_mem hlt)
    have hget : (rs.map cellB)[i]? = some (cellB rs[i]) := by rw [List.getElem?_map, List.getElem?_eq_getElem hlt]; rfl
    have hset := set_row2 hlt
    have hlen : ((rs.take i).map cellB ++ List.replicate ((rs.map cellB).length - i) zRow2).length = rs.length := by simp; omega
    rw [← hrl] at hset
    generalize rs[i] = r at *
    repeat refine vs ?_
    conv => whnf
    refine LdR.mk (cellB r) hget ?_
    repeat refine vs ?_
    conv => whnf
    refine CallS.mk _ rfl true false _ (toBig_den r.n r.l (by omega)) rfl ?_
    repeat refine vs ?_
    conv => whnf
    have hset' : ((rs.take i).map cellB ++ List.replicate ((rs.map cellB).length - i) zRow2).set i [.bool r.n, .ints r.l] = (rs.take (i + 1)).map cellB ++ List.replicate ((rs.map cellB).length - (i + 1)) zRow2 := hset
    rw [hset']
    refine ⟨i + 1, by omega, by omega, ?_⟩
    refine Wk.le ?_
    repeat' (first | exact LeT.nil | refine LeT.drop1 ?_ | refine LeT.same1 ?_ | refine LeT.own1 ?_ | refine LeT.ownR ?_ | (refine LeT.deepR ?_ rfl))
  · have : i = rs.length := by omega
    subst this
    repeat refine vs ?_
    conv => whnf
    rw [hrl, List.take_length, Nat.sub_self, List.replicate_zero, List.append_nil]
    rfl
theorem toBigS_own (rs : List RawB) (hrs : shortB 1048576 rs) : D 16 [bigsQ rs] true (.one (bigsQ rs)) := by
  obtain ⟨hl, hr⟩ := hrs
  have hrl : (rs.map cellB).length = rs.length := by simp
  refine go Try.func16 rfl rfl ?_
  repeat refine vs ?_
  conv => whnf
  refine MakeR.mk (rs.map cellB).length rfl rfl (by omega) true ?_
  repeat refine vs ?_
  conv => whnf
  refine EVs.loopU (fun i : Nat => i ≤ rs.length) (fun i => rs.length - i) (fun i => [(3, .v false [.deep (7, 0) 3 2 ((rs.take i).map cellB ++ List.replicate ((rs.map cellB).length - i) zRow2)]), (4, .v false [.p (.int .i64 (i : Int))]), (7, .any)]) 0 (by omega) ?_ ?_
  · refine Wk.le ?_
    repeat' (first | exact LeT.nil | refine LeT.drop1 ?_ | refine LeT.same1 ?_ | (refine LeT.deepR ?_ (by simp [zeroRow, zRow2, PL.isA])))
  intro i hi
  refine go1 ?_
  repeat refine vs ?_
  conv => whnf
  by_cases h1 : (i : Int) < (rs.map cellB).length
  · have hlt : i < rs.length := by omega
    have hr1 := hr rs[i] (List.getElem_mem hlt)
    have hget : (rs.map cellB)[i]? = some (cellB rs[i]) := by rw [List.getElem?_map, List.getElem?_eq_getElem hlt]; rfl
    have hset := set_row2 hlt
    have hlen : ((rs.take i).map cellB ++ List.replicate ((rs.map cellB).length - i) zRow2).length = rs.length := by simp; omega
    rw [← hrl] at hset
    generalize rs[i] = r at *
    repeat refine vs ?_
    conv => whnf
    refine LdR.mk (cellB r) hget ?_
    repeat refine vs ?_
    conv => whnf
    refine CallS.mk _ rfl true true _ (toBig_den r.n r.l (by omega)) rfl ?_
    repeat refine vs ?_
    conv => whnf
    have hset' : stoD 2 i 0 [.bool r.n, .ints r.l] ((rs.take i).map cellB ++ List.replicate ((rs.map cellB).length - i) zRow2) = (rs.take (i + 1)).map cellB ++ List.replicate ((rs.map cellB).length - (i + 1)) zRow2 := hset
    rw [hset']
    refine ⟨i + 1, by omega, by omega, ?_⟩
    refine Wk.le ?_
    repeat' (first | exact LeT.nil | refine LeT.drop1 ?_ | refine LeT.same1 ?_ | refine LeT.own1 ?_ | refine LeT.ownR ?_ | (refine LeT.deepR ?_ rfl))
  · have : i = rs.length := by omega
    subst this
    repeat refine vs ?_
    conv => whnf
    rw [hrl, List.take_length, Nat.sub_self, List.replicate_zero, List.append_nil]
    first | rfl | exact ⟨rfl, rfl⟩ | exact ⟨by simp [toRes], rfl⟩

def mkB1 (r : RawB) (k : Int) : RawB := ⟨decide (k.tmod 3 = 0), ramp (k + 1) r.l.length⟩
def kB1 (r : RawB) (k : Int) : Int := k + 1 + r.l.length
def mkB : List RawB → Int → List RawB
  | [], _ => []
  | r :: rs, k => mkB1 r k :: mkB rs (kB1 r k)
def kB : List RawB → Int → Int
  | [], k => k
  | r :: rs, k => kB rs (kB1 r k)
theorem kB_le {N : Nat} : ∀ {rs : List RawB} {k : Int}, 0 ≤ k → (∀ r ∈ rs, r.l.length ≤ N) → k ≤ kB rs k ∧ kB rs k ≤ k + (rs.length : Int) * (N + 1)
  | [], k, _, _ => by simp [kB]
  | r :: rs, k, hk, h => by
    have h1 := h r List.mem_cons_self
    have h3 := kB_le (rs := rs) (k := kB1 r k) (by unfold kB1; omega) (fun q hq => h q (List.mem_cons_of_mem _ hq))
    unfold kB
    rw [List.length_cons, Int.natCast_add, Int.add_mul]
    unfold kB1 at h3 ⊢
    omega
theorem mkB_len : ∀ {rs : List RawB} {k : Int}, (mkB rs k).length = rs.length
  | [], _ => rfl
  | r :: rs, k => by simp [mkB, mkB_len]
theorem sto_atB {k : Nat} {pre post : List (List PL)} {r new : List PL} {i off : Nat} (hi : pre.length = i) (hn : (Nat.beq new.length k) = false) : stoD k i off new (pre ++ r :: post) = pre ++ (r.take off ++ new ++ r.drop (off + new.length)) :: post := by
  unfold stoD
  rw [hn]
  have h1 : (pre ++ r :: post)[i]? = some r := by rw [← hi]; simp
  dsimp only
  rw [h1]
  dsimp only
  rw [List.set_append_right _ _ (by omega), ← hi, Nat.sub_self, List.set_cons_zero]
theorem sto_at2 {pre post : List (List PL)} {r new : List PL} {i off : Nat} (hi : pre.length = i) (hn : (Nat.beq new.length 2) = false) : stoD 2 i off new (pre ++ r :: post) = pre ++ (r.take off ++ new ++ r.drop (off + new.length)) :: post := sto_atB hi hn
theorem kid_at2 {pre post : List (List PL)} {r : List PL} {z : List Int} {i q : Nat} (hi : pre.length = i) (hq : q < 2) :
    stoD 2 ((i * 2 + q) / 2) ((i * 2 + q) % 2) [.ints z] (pre ++ r :: post) = pre ++ (r.take q ++ [.ints z] ++ r.drop (q + 1)) :: post := by
  have h1 : (i * 2 + q) / 2 = i := by omega
  have h2 : (i * 2 + q) % 2 = q := by omega
  rw [h1, h2, sto_atB hi rfl]
  rfl
theorem len_at2 {pre post : List (List PL)} {r : List PL} {z : List Int} {i q : Nat} (hi : pre.length = i) (hq : q < 2) (hr : r[q]? = some (.ints z)) : cellLen 2 (i * 2 + q) (pre ++ r :: post) = some z.length := by
  have h1 : (i * 2 + q) / 2 = i := by omega
  have h2 : (i * 2 + q) % 2 = q := by omega
  unfold cellLen
  rw [h1, h2]
  have h3 : (pre ++ r :: post)[i]? = some r := by rw [← hi]; simp
  rw [h3]
  simp [hr, intsLen]
theorem markIntS_00 (l : List Int) (k : Int) (hl : l = []) : D 38 [lP l, iP k] false (.one (iP (k + l.length))) := by
  subst hl
  refine go Try.func38 rfl rfl ?_
  repeat refine vs ?_
  conv => whnf
  refine EVs.loopU (fun _ : Unit => True) (fun _ => 0) (fun _ => []) () True.intro (Wk.refl _) ?_
  intro _ _
  refine go1 ?_
  repeat refine vs ?_
  conv => whnf
  first | exact ⟨by simp [toRes], rfl⟩ | (simp [toRes]; done)
theorem markBigS_d (rs : List RawB) (k : Int) (hk : 0 ≤ k ∧ k ≤ 100000000000000000) (hrs : shortB 1048576 rs) : Dd 12 2 (rs.map cellB) [iP k] ((mkB rs k).map cellB) (.int .i64 (kB rs k)) := by
  obtain ⟨hl, hr⟩ := hrs
  have hrl : (rs.map cellB).length = rs.length := by simp
  refine goD Try.func12 rfl rfl rfl ?_
  repeat refine vs ?_
  conv => whnf
  refine EVs.loopU (fun s : Nat × List RawB × List RawB × Int => s.2.1.length = s.1 ∧ s.1 + s.2.2.1.length = rs.length ∧ (∀ r ∈ s.2.2.1, r.l.length ≤ 1048576) ∧ 0 ≤ s.2.2.2 ∧
      kB s.2.2.1 s.2.2.2 = kB rs k ∧ s.2.1 ++ mkB s.2.2.1 s.2.2.2 = mkB rs k) (fun s => rs.length - s.1)
    (fun | (i, pre, post, c) => [(0, .v false [.deep (2000000, 0) 3 2 (pre.map cellB ++ post.map cellB)]), (1, .v false [.p (.int .i64 c)]), (5, .v false [.p (.int .i64 (i : Int))])]) (0, [], rs, k) ⟨rfl, by simp, hr, hk.1, rfl, rfl⟩ (Wk.le (by repeat' (first | exact LeT.nil | refine LeT.drop1 ?_ | refine LeT.same1 ?_ | refine LeT.own1 ?_ | refine LeT.ownR ?_ | (refine LeT.deepR ?_ rfl)))) ?_
  rintro ⟨i, pre, post, c⟩ ⟨h1, h2, h3, h4, h5, h6⟩
  dsimp only at h1 h2 h3 h4 h5 h6
  have hkb := (kB_le (N := 1048576) hk.1 hr).2
  have hcb := (kB_le (N := 1048576) h4 h3).1
  have hpl : (pre.map cellB ++ post.map cellB).length = rs.length := by simp; omega
  refine go1 ?_
  repeat refine vs ?_
  conv => whnf
  by_cases c1 : (i : Int) < (pre.map cellB ++ post.map cellB).length
  · cases post with
    | nil => simp at h2; omega
    | cons r post =>
      rw [List.map_cons] at *
      have hr1 := h3 r List.mem_cons_self
      have hpre : (pre.map cellB).length = i := by rw [List.length_map]; exact h1
      repeat refine vs ?_
      conv => whnf
      refine Eqz.mk (c.tmod 3) rfl ?_
      repeat refine vs ?_
      conv => whnf
      refine Bo.mk _ rfl ?_
      repeat refine vs ?_
      conv => whnf
      first | refine Idx.mk (i) (by first | rfl | omega) (by omega) ?_ | skip
      repeat refine vs ?_
      conv => whnf
      have hlen : ∀ row : List PL, (i : Int) < (pre.map cellB ++ row :: post.map cellB).length := fun row => by simp; omega
      have hget : ∀ row : List PL, (pre.map cellB ++ row :: post.map cellB)[i]? = some row := fun row => by rw [← hpre]; simp
      have e1 : stoD 2 i (0 + ((0 : Nat), (none : Option Nat)).fst) [.bool (decide (c.tmod 3 = 0))] (pre.map cellB ++ cellB r :: post.map cellB) = pre.map cellB ++ [.bool (decide (c.tmod 3 = 0)), .ints r.l] :: post.map cellB := sto_at2 hpre rfl
      rw [e1]
      have hlen1 := hlen [.bool (decide (c.tmod 3 = 0)), .ints r.l]
      first | refine Idx.mk (i) (by first | rfl | omega) (by omega) ?_ | skip
      repeat refine vs ?_
      conv => whnf
      refine LdR.mk _ (hget _) ?_
      repeat refine vs ?_
      conv => whnf
      by_cases z1 : r.l = []
      · skip
        refine KidS.rd _ rfl _ (goE (markIntS_00 r.l (c + 1) z1)) rfl ?_
        repeat refine vs ?_
        conv => whnf
        have ef : pre.map cellB ++ [.bool (decide (c.tmod 3 = 0)), .ints r.l] :: post.map cellB = (pre ++ [mkB1 r c]).map cellB ++ post.map cellB := by
          have y1 : ramp (c + 1) r.l.length = r.l := by rw [z1]; rfl
          simp [mkB1, cellB, y1]
        rw [ef]
        refine ⟨(i + 1, pre ++ [mkB1 r c], post, kB1 r c), by dsimp only; omega, ⟨by simp [h1], by simp at h2 ⊢; omega, fun q hq => h3 q (List.mem_cons_of_mem _ hq), by unfold kB1; dsimp only; omega, h5, by rw [← h6]; simp [mkB]⟩, ?_⟩
        refine Wk.le ?_
        repeat' (first | exact LeT.nil | refine LeT.drop1 ?_ | refine LeT.same1 ?_ | refine LeT.own1 ?_ | refine LeT.ownR ?_ | (refine LeT.deepR ?_ rfl))
      · skip
        refine KidS.mk rfl _ rfl _ _ (markIntS_m r.l (c + 1) (by omega) (by omega)) rfl (z1) ?_ ?_ ?_
        · exact ramp_len
        · have hc : cellLen 2 (i * 2 + (0 + ((1 : Nat), (none : Option Nat)).fst)) (pre.map cellB ++ [.bool (decide (c.tmod 3 = 0)), .ints r.l] :: post.map cellB) = some r.l.length := len_at2 hpre (by decide) rfl
          repeat' (first | exact True.intro | refine ⟨hc, ?_⟩)
        repeat refine vs ?_
        conv => whnf
        have e2 : stoD 2 ((i * 2 + (0 + ((1 : Nat), (none : Option Nat)).fst)) / 2) ((i * 2 + (0 + ((1 : Nat), (none : Option Nat)).fst)) % 2) [.ints (ramp (c + 1) r.l.length)] (pre.map cellB ++ [.bool (decide (c.tmod 3 = 0)), .ints r.l] :: post.map cellB) = pre.map cellB ++ [.bool (decide (c.tmod 3 = 0)), .ints (ramp (c + 1) r.l.length)] :: post.map cellB := kid_at2 hpre (by decide)
        rw [e2]
        have ef : pre.map cellB ++ [.bool (decide (c.tmod 3 = 0)), .ints (ramp (c + 1) r.l.length)] :: post.map cellB = (pre ++ [mkB1 r c]).map cellB ++ post.map cellB := by simp [mkB1, cellB]
        rw [ef]
        refine ⟨(i + 1, pre ++ [mkB1 r c], post, kB1 r c), by dsimp only; omega, ⟨by simp [h1], by simp at h2 ⊢; omega, fun q hq => h3 q (List.mem_cons_of_mem _ hq), by unfold kB1; dsimp only; omega, h5, by rw [← h6]; simp [mkB]⟩, ?_⟩
        refine Wk.le ?_
        repeat' (first | exact LeT.nil | refine LeT.drop1 ?_ | refine LeT.same1 ?_ | refine LeT.own1 ?_ | refine LeT.ownR ?_ | (refine LeT.deepR ?_ rfl))
  · have : post = [] := by
      cases post with
      | nil => rfl
      | cons q post => simp at c1 h2; omega
    subst this
    simp only [mkB, List.append_nil, kB] at h5 h6
    subst h5
    subst h6
    repeat refine vs ?_
    conv => whnf
    rw [List.map_nil, List.append_nil]
    exact ⟨⟨rfl, rfl⟩, rfl, by simp [mkB_len]⟩
theorem heldBigS_den (rs : List RawB) (k : Int) (hk : 0 ≤ k ∧ k ≤ 100000000000000000) (hrs : shortB 1048576 rs) : D 13 [bigsQ (mkB rs k), iP k] true (.one (iP (kB rs k))) := by
  obtain ⟨hl, hr⟩ := hrs
  have hml : (mkB rs k).length = rs.length := mkB_len
  have hrl : ((mkB rs k).map cellB).length = rs.length := by rw [List.length_map, hml]
  refine go Try.func13 rfl rfl ?_
  repeat refine vs ?_
  conv => whnf
  refine EVs.loopU (fun s : Nat × List RawB × List RawB × Int => s.2.1.length = s.1 ∧ s.1 + s.2.2.1.length = rs.length ∧ (∀ r ∈ s.2.2.1, r.l.length ≤ 1048576) ∧ 0 ≤ s.2.2.2 ∧
      kB s.2.2.1 s.2.2.2 = kB rs k ∧ s.2.1 ++ mkB s.2.2.1 s.2.2.2 = mkB rs k) (fun s => rs.length - s.1)
    (fun | (i, pre, post, c) => [(1, .v false [.p (.int .i64 c)]), (5, .v false [.p (.int .i64 (i : Int))])]) (0, [], rs, k) ⟨rfl, by simp, hr, hk.1, rfl, rfl⟩ (Wk.le (by repeat' (first | exact LeT.nil | refine LeT.drop1 ?_ | refine LeT.same1 ?_ | refine LeT.own1 ?_ | refine LeT.ownR ?_ | (refine LeT.deepR ?_ rfl)))) ?_
  rintro ⟨i, pre, post, c⟩ ⟨h1, h2, h3, h4, h5, h6⟩
  dsimp only at h1 h2 h3 h4 h5 h6
  have hkb := (kB_le (N := 1048576) hk.1 hr).2
  have hcb := (kB_le (N := 1048576) h4 h3).1
  refine go1 ?_
  repeat refine vs ?_
  conv => whnf
  by_cases c1 : (i : Int) < ((mkB rs k).map cellB).length
  · cases post with
    | nil => simp at h2; omega
    | cons r post =>
      have hr1 := h3 r List.mem_cons_self
      have hget : ((mkB rs k).map cellB)[i]? = some (cellB (mkB1 r c)) := by
        rw [← h6, List.getElem?_map, mkB, ← h1]
        simp
      unfold mkB1 cellB at hget
      dsimp only at hget
      cases m0 : decide (c.tmod 3 = 0)
      all_goals
        rw [m0] at hget
        repeat refine vs ?_
        conv => whnf
        first | refine Idx.mk (i) (by first | rfl | omega) (by omega) ?_ | skip
        repeat refine vs ?_
        conv => whnf
        refine LdR.mk _ hget ?_
        repeat refine vs ?_
        conv => whnf
        refine Eqz.mk (c.tmod 3) rfl ?_
        repeat refine vs ?_
        conv => whnf
        repeat refine vs ?_
        conv => whnf
        first | refine Idx.mk (i) (by first | rfl | omega) (by omega) ?_ | skip
        repeat refine vs ?_
        conv => whnf
        refine LdR.mk _ hget ?_
        repeat refine vs ?_
        conv => whnf
        refine CallS.mk _ rfl true true _ (heldIntS_den r.l.length (c + 1) (by omega) (by omega)) rfl ?_
        repeat refine vs ?_
        conv => whnf
        have g1 : ¬ (c + 1 + (r.l.length : Int) < 0) := by omega
        repeat refine vs ?_
        conv => whnf
        refine ⟨(i + 1, pre ++ [mkB1 r c], post, kB1 r c), by dsimp only; omega, ⟨by simp [h1], by simp at h2 ⊢; omega, fun q hq => h3 q (List.mem_cons_of_mem _ hq), by unfold kB1; dsimp only; omega, h5, by rw [← h6]; simp [mkB]⟩, ?_⟩
        refine Wk.le ?_
        repeat' (first | exact LeT.nil | refine LeT.drop1 ?_ | refine LeT.same1 ?_ | refine LeT.own1 ?_ | refine LeT.ownR ?_ | (refine LeT.deepR ?_ rfl))
  · have : post = [] := by
      cases post with
      | nil => rfl
      | cons q post => simp at h2; omega
    subst this
    simp only [kB] at h5
    subst h5
    repeat refine vs ?_
    conv => whnf
    first | rfl | exact ⟨rfl, rfl⟩ | exact ⟨by simp [toRes], rfl⟩
/-! ### nil, as an empty slice -/
def FV.nilToB (d : Lf) : FV → FV
  | .v false [.nil] => .v false [d]
  | x => x
def modB : Nat → (FV → FV) → List FV → List FV
  | _, _, [] => []
  | 0, g, f :: T => g f :: T
  | n + 1, g, f :: T => f :: modB n g T
theorem modB_le {g : FV → FV} (hg : ∀ f, LeF f (g f)) : ∀ {n : Nat} {T : List FV}, All2 LeF T (modB n g T)
  | _, [] => by cases ‹Nat› <;> exact True.intro
  | 0, f :: T => ⟨hg f, All2.refl' T⟩
  | n + 1, f :: T => ⟨fun _ _ _ _ h => h, modB_le hg⟩
where All2.refl' : ∀ (T : List FV), All2 LeF T T
  | [] => True.intro
  | _ :: T => ⟨fun _ _ _ _ h => h, All2.refl' T⟩
theorem nilToB_le {d : Lf} (hd : ∀ F β w, RLf F β w d (.slice none 0 0)) (f : FV) : LeF f (f.nilToB d) := fun F β w v h => by
  unfold FV.nilToB
  split
  · obtain ⟨x, hx, h⟩ := h
    cases hx
    have h : v = .slice none 0 0 := h
    subst h
    exact ⟨_, rfl, hd F β w⟩
  · exact h
theorem goN2 (n : Nat) {g : FuncId} {fn : Func} {c : Code} {ps : List PV} {fl : Bool} {r : Res} (hf : Try.prog.funcs[g]? = some fn) (hname : (fn.name == "runtime.NumGoroutine") = false)
    (hb : fn.body = some c) (hev : fT (init fn.ntmps ps) fun T => evF Γ 3 D Try.prog c T fun e T' => fT (modB n (FV.nilToB (.deep (60, 0) 3 2 [])) T') (retK Γ 3 fn.results.toList fl r e)) : D g ps fl r := by
  refine den_intro mixed tabΓ hf hname hb (EVs.post ((ev_sound mixed tabΓ (fun _ _ _ _ h => h) (fun _ _ _ _ h => h) (fun _ _ _ _ _ _ h => h) (fun _ _ _ _ _ h => h) c (evF_le c (by rw [fT_eq] at hev; exact hev))).mono fun e T' hk => ?_))
  rw [fT_eq] at hk
  exact ⟨_, Wk.le (modB_le (nilToB_le (d := .deep (60, 0) 3 2 []) fun F β w => ⟨PinR.low (by decide), .inl ⟨rfl, rfl⟩⟩)), hk⟩
theorem goP2 (n : Nat) {g : FuncId} {fn : Func} {c : Code} {ps : List PV} {fl : Bool} {r : Res} (hf : Try.prog.funcs[g]? = some fn) (hname : (fn.name == "runtime.NumGoroutine") = false)
    (hb : fn.body = some c) (hev : fT (init fn.ntmps ps) fun T => evF Γ 3 D Try.prog c T fun e T' => fT (modB n (FV.nilToB (.p (.arr 2 []))) T') (retK Γ 3 fn.results.toList fl r e)) : D g ps fl r := by
  refine den_intro mixed tabΓ hf hname hb (EVs.post ((ev_sound mixed tabΓ (fun _ _ _ _ h => h) (fun _ _ _ _ h => h) (fun _ _ _ _ _ _ h => h) (fun _ _ _ _ _ h => h) c (evF_le c (by rw [fT_eq] at hev; exact hev))).mono fun e T' hk => ?_))
  rw [fT_eq] at hk
  exact ⟨_, Wk.le (modB_le (nilToB_le (d := .p (.arr 2 [])) fun F β w => ⟨none, 0, rfl, Nat.le_refl _, by simp, .inl rfl⟩)), hk⟩
end Go.Vx
