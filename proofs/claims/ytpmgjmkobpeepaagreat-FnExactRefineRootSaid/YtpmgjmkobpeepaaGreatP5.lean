/- Lists of fractions that own their limbs: made, marked, looked at. -/
import Derived.Test.YtpmgjmkobpeepaaGreatP3
set_option linter.unusedVariables false
set_option linter.unusedSectionVars false
set_option linter.unusedSimpArgs false
namespace Go.Vx
open Go.Proofs
set_option maxRecDepth 100000

theorem sto_at {k : Nat} {pre post : List (List PL)} {r new : List PL} {i off : Nat} (hi : pre.length = i) (hn : (Nat.beq new.length k) = false) : stoD k i off new (pre ++ r :: post) = pre ++ (r.take off ++ new ++ r.drop (off + new.length)) :: post := by
  unfold stoD
  rw [hn]
  have h1 : (pre ++ r :: post)[i]? = some r := by rw [← hi]; simp
  dsimp only
  rw [h1]
  dsimp only
  rw [List.set_append_right _ _ (by omega), ← hi, Nat.sub_self, List.set_cons_zero]
theorem kid_at {pre post : List (List PL)} {r : List PL} {z : List Int} {i q : Nat} (hi : pre.length = i) (hq : q < 4) :
    stoD 4 ((i * 4 + q) / 4) ((i * 4 + q) % 4) [.ints z] (pre ++ r :: post) = pre ++ (r.take q ++ [.ints z] ++ r.drop (q + 1)) :: post := by
  have h1 : (i * 4 + q) / 4 = i := by omega
  have h2 : (i * 4 + q) % 4 = q := by omega
  rw [h1, h2, sto_at hi rfl]
  rfl
theorem len_at {pre post : List (List PL)} {r : List PL} {z : List Int} {i q : Nat} (hi : pre.length = i) (hq : q < 4) (hr : r[q]? = some (.ints z)) : cellLen 4 (i * 4 + q) (pre ++ r :: post) = some z.length := by
  have h1 : (i * 4 + q) / 4 = i := by omega
  have h2 : (i * 4 + q) % 4 = q := by omega
  unfold cellLen
  rw [h1, h2]
  have h3 : (pre ++ r :: post)[i]? = some r := by rw [← hi]; simp
  rw [h3]
  simp [hr, intsLen]

theorem toRatS_own (rs : List RawQ) (hrs : shortP 1048576 rs) : D 12 [polQ rs] true (.one (polQ rs)) := by
  obtain ⟨hl, hr⟩ := hrs
  have hrl : (rs.map cellQ).length = rs.length := by simp
  refine go Tryz.func12 rfl rfl ?_
  repeat refine vs ?_
  conv => whnf
  refine MakeR.mk (rs.map cellQ).length rfl rfl (by omega) true ?_
  repeat refine vs ?_
  conv => whnf
  refine EVs.loopU (fun i : Nat => i ≤ rs.length) (fun i => rs.length - i) (fun i => [(3, .v false [.deep (7, 0) 3 4 ((rs.take i).map cellQ ++ List.replicate ((rs.map cellQ).length - i) zRow)]), (4, .v false [.p (.int .i64 (i : Int))]), (7, .any)]) 0 (by omega) ?_ ?_
  · refine Wk.le ?_
    repeat' (first | exact LeT.nil | refine LeT.drop1 ?_ | refine LeT.same1 ?_ | (refine LeT.deepR ?_ (by simp [zeroRow, zRow, cellQ, PL.isA])))
  intro i hi
  refine go1 ?_
  repeat refine vs ?_
  conv => whnf
  by_cases h1 : (i : Int) < (rs.map cellQ).length
  · have hlt : i < rs.length := by omega
    obtain ⟨hr1, hr2⟩ := hr rs[i] (List.getElem_mem hlt)
    have hget : (rs.map cellQ)[i]? = some (cellQ rs[i]) := by rw [List.getElem?_map, List.getElem?_eq_getElem hlt]; rfl
    have hset := set_row hlt
    have hlen : ((rs.take i).map cellQ ++ List.replicate ((rs.map cellQ).length - i) zRow).length = rs.length := by simp; omega
    rw [← hrl] at hset
    generalize rs[i] = r at *
    repeat refine vs ?_
    conv => whnf
    refine LdR.mk (cellQ r) hget ?_
    repeat refine vs ?_
    conv => whnf
    refine CallS.mk _ rfl true true _ (toRat_den r.n r.l r.p r.q (by omega) (by omega)) rfl ?_
    repeat refine vs ?_
    conv => whnf
    have hset' : stoD 4 i 0 [.bool r.n, .ints r.l, .bool r.p, .ints r.q] ((rs.take i).map cellQ ++ List.replicate ((rs.map cellQ).length - i) zRow) = (rs.take (i + 1)).map cellQ ++ List.replicate ((rs.map cellQ).length - (i + 1)) zRow := hset
    rw [hset']
    refine ⟨i + 1, by omega, by omega, ?_⟩
    refine Wk.le ?_
    repeat' (first | exact LeT.nil | refine LeT.drop1 ?_ | refine LeT.same1 ?_ | refine LeT.own1 ?_ | refine LeT.ownR ?_ | (refine LeT.deepR ?_ rfl))
  · have : i = rs.length := by omega
    subst this
    repeat refine vs ?_
    conv => whnf
    rw [hrl, List.take_length, Nat.sub_self, List.replicate_zero, List.append_nil]
    first | rfl | exact ⟨rfl, rfl⟩ | exact ⟨by simp [toRes], rfl⟩

/-- The marks of one fraction, of several. -/
def mkR (r : RawQ) (k : Int) : RawQ := ⟨decide (k.tmod 3 = 0), ramp (k + 1) r.l.length, decide ((k + 1 + r.l.length).tmod 3 = 0), ramp (k + 1 + r.l.length + 1) r.q.length⟩
def kR (r : RawQ) (k : Int) : Int := k + 1 + r.l.length + 1 + r.q.length
def mkL : List RawQ → Int → List RawQ
  | [], _ => []
  | r :: rs, k => mkR r k :: mkL rs (kR r k)
def kL : List RawQ → Int → Int
  | [], k => k
  | r :: rs, k => kL rs (kR r k)
theorem kL_le {N : Nat} : ∀ {rs : List RawQ} {k : Int}, 0 ≤ k → (∀ r ∈ rs, r.l.length ≤ N ∧ r.q.length ≤ N) → k ≤ kL rs k ∧ kL rs k ≤ k + (rs.length : Int) * (2 * N + 2)
  | [], k, _, _ => by simp [kL]
  | r :: rs, k, hk, h => by
    obtain ⟨h1, h2⟩ := h r List.mem_cons_self
    have h3 := kL_le (rs := rs) (k := kR r k) (by unfold kR; omega) (fun q hq => h q (List.mem_cons_of_mem _ hq))
    unfold kL
    rw [List.length_cons, Int.natCast_add, Int.add_mul]
    unfold kR at h3 ⊢
    omega
theorem mkL_len : ∀ {rs : List RawQ} {k : Int}, (mkL rs k).length = rs.length
  | [], _ => rfl
  | r :: rs, k => by simp [mkL, mkL_len]

theorem markIntS_0 (l : List Int) (k : Int) (hl : l = []) : D 44 [lP l, iP k] false (.one (iP (k + l.length))) := by
  subst hl
  refine go Tryz.func44 rfl rfl ?_
  repeat refine vs ?_
  conv => whnf
  refine EVs.loopU (fun _ : Unit => True) (fun _ => 0) (fun _ => []) () True.intro (Wk.refl _) ?_
  intro _ _
  refine go1 ?_
  repeat refine vs ?_
  conv => whnf
  first | exact ⟨by simp [toRes], rfl⟩ | (simp [toRes]; done)
theorem markRatS_d (rs : List RawQ) (k : Int) (hk : 0 ≤ k ∧ k ≤ 100000000000000000) (hrs : shortP 1048576 rs) : Dd 15 4 (rs.map cellQ) [iP k] ((mkL rs k).map cellQ) (.int .i64 (kL rs k)) := by
  obtain ⟨hl, hr⟩ := hrs
  have hrl : (rs.map cellQ).length = rs.length := by simp
  refine goD Tryz.func15 rfl rfl rfl ?_
  repeat refine vs ?_
  conv => whnf
  -- done: pre; to do: post
  refine EVs.loopU (fun s : Nat × List RawQ × List RawQ × Int => s.2.1.length = s.1 ∧ s.1 + s.2.2.1.length = rs.length ∧ (∀ r ∈ s.2.2.1, r.l.length ≤ 1048576 ∧ r.q.length ≤ 1048576) ∧ 0 ≤ s.2.2.2 ∧
      kL s.2.2.1 s.2.2.2 = kL rs k ∧ s.2.1 ++ mkL s.2.2.1 s.2.2.2 = mkL rs k) (fun s => rs.length - s.1)
    (fun | (i, pre, post, c) => [(0, .v false [.deep (2000000, 0) 3 4 (pre.map cellQ ++ post.map cellQ)]), (1, .v false [.p (.int .i64 c)]), (5, .v false [.p (.int .i64 (i : Int))])]) (0, [], rs, k) ⟨rfl, by simp, hr, hk.1, rfl, rfl⟩ (Wk.le (by repeat' (first | exact LeT.nil | refine LeT.drop1 ?_ | refine LeT.same1 ?_ | refine LeT.own1 ?_ | refine LeT.ownR ?_ | (refine LeT.deepR ?_ rfl)))) ?_
  rintro ⟨i, pre, post, c⟩ ⟨h1, h2, h3, h4, h5, h6⟩
  dsimp only at h1 h2 h3 h4 h5 h6
  have hkb := (kL_le (N := 1048576) hk.1 hr).2
  have hcb := (kL_le (N := 1048576) h4 h3).1
  have hpl : (pre.map cellQ ++ post.map cellQ).length = rs.length := by simp; omega
  refine go1 ?_
  repeat refine vs ?_
  conv => whnf
  by_cases c1 : (i : Int) < (pre.map cellQ ++ post.map cellQ).length
  · cases post with
    | nil => simp at h2; omega
    | cons r post =>
      rw [List.map_cons] at *
      obtain ⟨hr1, hr2⟩ := h3 r List.mem_cons_self
      have hpre : (pre.map cellQ).length = i := by rw [List.length_map]; exact h1
      repeat refine vs ?_
      conv => whnf
      refine Eqz.mk (c.tmod 3) rfl ?_
      repeat refine vs ?_
      conv => whnf
      refine Bo.mk _ rfl ?_
      repeat refine vs ?_
      conv => whnf
      first | refine Idx.mk (i) (by first | rfl | omega) (by omega) ?_ | skip
      repeat refine vs ?_
      conv => whnf
      have hlen : ∀ row : List PL, (i : Int) < (pre.map cellQ ++ row :: post.map cellQ).length := fun row => by simp; omega
      have hget : ∀ row : List PL, (pre.map cellQ ++ row :: post.map cellQ)[i]? = some row := fun row => by rw [← hpre]; simp
      have e1 : stoD 4 i (0 + ((0 : Nat), (some 2 : Option Nat)).fst + ((0 : Nat), (none : Option Nat)).fst) [.bool (decide (c.tmod 3 = 0))] (pre.map cellQ ++ cellQ r :: post.map cellQ) = pre.map cellQ ++ [.bool (decide (c.tmod 3 = 0)), .ints r.l, .bool r.p, .ints r.q] :: post.map cellQ := sto_at hpre rfl
      rw [e1]
      have hlen1 := hlen [.bool (decide (c.tmod 3 = 0)), .ints r.l, .bool r.p, .ints r.q]
      first | refine Idx.mk (i) (by first | rfl | omega) (by omega) ?_ | skip
      repeat refine vs ?_
      conv => whnf
      refine LdR.mk _ (hget _) ?_
      repeat refine vs ?_
      conv => whnf
      by_cases z1 : r.l = []
      · skip
        refine KidS.rd _ rfl _ (goE (markIntS_0 r.l (c + 1) z1)) rfl ?_
        repeat refine vs ?_
        conv => whnf
        have hlen2 := hlen [.bool (decide (c.tmod 3 = 0)), .ints r.l, .bool r.p, .ints r.q]
        refine Eqz.mk ((c + 1 + (r.l.length : Int)).tmod 3) rfl ?_
        repeat refine vs ?_
        conv => whnf
        refine Bo.mk _ rfl ?_
        repeat refine vs ?_
        conv => whnf
        first | refine Idx.mk (i) (by first | rfl | omega) (by omega) ?_ | skip
        repeat refine vs ?_
        conv => whnf
        have e3 : stoD 4 i (0 + ((2 : Nat), (some 2 : Option Nat)).fst + ((0 : Nat), (none : Option Nat)).fst) [.bool (decide ((c + 1 + (r.l.length : Int)).tmod 3 = 0))] (pre.map cellQ ++ [.bool (decide (c.tmod 3 = 0)), .ints r.l, .bool r.p, .ints r.q] :: post.map cellQ) = pre.map cellQ ++ [.bool (decide (c.tmod 3 = 0)), .ints r.l, .bool (decide ((c + 1 + (r.l.length : Int)).tmod 3 = 0)), .ints r.q] :: post.map cellQ := sto_at hpre rfl
        rw [e3]
        have hlen3 := hlen [.bool (decide (c.tmod 3 = 0)), .ints r.l, .bool (decide ((c + 1 + (r.l.length : Int)).tmod 3 = 0)), .ints r.q]
        first | refine Idx.mk (i) (by first | rfl | omega) (by omega) ?_ | skip
        repeat refine vs ?_
        conv => whnf
        refine LdR.mk _ (hget _) ?_
        repeat refine vs ?_
        conv => whnf
        by_cases z2 : r.q = []
        · skip
          refine KidS.rd _ rfl _ (goE (markIntS_0 r.q (c + 1 + (r.l.length : Int) + 1) z2)) rfl ?_
          repeat refine vs ?_
          conv => whnf
          have ef : pre.map cellQ ++ [.bool (decide (c.tmod 3 = 0)), .ints r.l, .bool (decide ((c + 1 + (r.l.length : Int)).tmod 3 = 0)), .ints r.q] :: post.map cellQ = (pre ++ [mkR r c]).map cellQ ++ post.map cellQ := by
            have y1 : ramp (c + 1) r.l.length = r.l := by rw [z1]; rfl
            have y2 : ramp (c + 1 + (r.l.length : Int) + 1) r.q.length = r.q := by rw [z2]; rfl
            simp [mkR, cellQ, y1, y2]
          rw [ef]
          refine ⟨(i + 1, pre ++ [mkR r c], post, kR r c), by dsimp only; omega, ⟨by simp [h1], by simp at h2 ⊢; omega, fun q hq => h3 q (List.mem_cons_of_mem _ hq), by unfold kR; dsimp only; omega, h5, by rw [← h6]; simp [mkL]⟩, ?_⟩
          refine Wk.le ?_
          repeat' (first | exact LeT.nil | refine LeT.drop1 ?_ | refine LeT.same1 ?_ | refine LeT.own1 ?_ | refine LeT.ownR ?_ | (refine LeT.deepR ?_ rfl))
        · skip
          refine KidS.mk rfl _ rfl _ _ (markIntS_m r.q (c + 1 + (r.l.length : Int) + 1) (by omega) (by omega)) rfl (z2) ?_ ?_ ?_
          · exact ramp_len
          · have hc : cellLen 4 (i * 4 + (0 + ((2 : Nat), (some 2 : Option Nat)).fst + ((1 : Nat), (none : Option Nat)).fst)) (pre.map cellQ ++ [.bool (decide (c.tmod 3 = 0)), .ints r.l, .bool (decide ((c + 1 + (r.l.length : Int)).tmod 3 = 0)), .ints r.q] :: post.map cellQ) = some r.q.length := len_at hpre (by decide) rfl
            repeat' (first | exact True.intro | refine ⟨hc, ?_⟩)
          repeat refine vs ?_
          conv => whnf
          have e4 : stoD 4 ((i * 4 + (0 + ((2 : Nat), (some 2 : Option Nat)).fst + ((1 : Nat), (none : Option Nat)).fst)) / 4) ((i * 4 + (0 + ((2 : Nat), (some 2 : Option Nat)).fst + ((1 : Nat), (none : Option Nat)).fst)) % 4) [.ints (ramp (c + 1 + (r.l.length : Int) + 1) r.q.length)] (pre.map cellQ ++ [.bool (decide (c.tmod 3 = 0)), .ints r.l, .bool (decide ((c + 1 + (r.l.length : Int)).tmod 3 = 0)), .ints r.q] :: post.map cellQ) = pre.map cellQ ++ [.bool (decide (c.tmod 3 = 0)), .ints r.l, .bool (decide ((c + 1 + (r.l.length : Int)).tmod 3 = 0)), .ints (ramp (c + 1 + (r.l.length : Int) + 1) r.q.length)] :: post.map cellQ := kid_at hpre (by decide)
          rw [e4]
          have ef : pre.map cellQ ++ [.bool (decide (c.tmod 3 = 0)), .ints r.l, .bool (decide ((c + 1 + (r.l.length : Int)).tmod 3 = 0)), .ints (ramp (c + 1 + (r.l.length : Int) + 1) r.q.length)] :: post.map cellQ = (pre ++ [mkR r c]).map cellQ ++ post.map cellQ := by
            have y1 : ramp (c + 1) r.l.length = r.l := by rw [z1]; rfl
            simp [mkR, cellQ, y1]
          rw [ef]
          refine ⟨(i + 1, pre ++ [mkR r c], post, kR r c), by dsimp only; omega, ⟨by simp [h1], by simp at h2 ⊢; omega, fun q hq => h3 q (List.mem_cons_of_mem _ hq), by unfold kR; dsimp only; omega, h5, by rw [← h6]; simp [mkL]⟩, ?_⟩
          refine Wk.le ?_
          repeat' (first | exact LeT.nil | refine LeT.drop1 ?_ | refine LeT.same1 ?_ | refine LeT.own1 ?_ | refine LeT.ownR ?_ | (refine LeT.deepR ?_ rfl))
      · skip
        refine KidS.mk rfl _ rfl _ _ (markIntS_m r.l (c + 1) (by omega) (by omega)) rfl (z1) ?_ ?_ ?_
        · exact ramp_len
        · have hc : cellLen 4 (i * 4 + (0 + ((0 : Nat), (some 2 : Option Nat)).fst + ((1 : Nat), (none : Option Nat)).fst)) (pre.map cellQ ++ [.bool (decide (c.tmod 3 = 0)), .ints r.l, .bool r.p, .ints r.q] :: post.map cellQ) = some r.l.length := len_at hpre (by decide) rfl
          repeat' (first | exact True.intro | refine ⟨hc, ?_⟩)
        repeat refine vs ?_
        conv => whnf
        have e2 : stoD 4 ((i * 4 + (0 + ((0 : Nat), (some 2 : Option Nat)).fst + ((1 : Nat), (none : Option Nat)).fst)) / 4) ((i * 4 + (0 + ((0 : Nat), (some 2 : Option Nat)).fst + ((1 : Nat), (none : Option Nat)).fst)) % 4) [.ints (ramp (c + 1) r.l.length)] (pre.map cellQ ++ [.bool (decide (c.tmod 3 = 0)), .ints r.l, .bool r.p, .ints r.q] :: post.map cellQ) = pre.map cellQ ++ [.bool (decide (c.tmod 3 = 0)), .ints (ramp (c + 1) r.l.length), .bool r.p, .ints r.q] :: post.map cellQ := kid_at hpre (by decide)
        rw [e2]
        have hlen2 := hlen [.bool (decide (c.tmod 3 = 0)), .ints (ramp (c + 1) r.l.length), .bool r.p, .ints r.q]
        refine Eqz.mk ((c + 1 + (r.l.length : Int)).tmod 3) rfl ?_
        repeat refine vs ?_
        conv => whnf
        refine Bo.mk _ rfl ?_
        repeat refine vs ?_
        conv => whnf
        first | refine Idx.mk (i) (by first | rfl | omega) (by omega) ?_ | skip
        repeat refine vs ?_
        conv => whnf
        have e3 : stoD 4 i (0 + ((2 : Nat), (some 2 : Option Nat)).fst + ((0 : Nat), (none : Option Nat)).fst) [.bool (decide ((c + 1 + (r.l.length : Int)).tmod 3 = 0))] (pre.map cellQ ++ [.bool (decide (c.tmod 3 = 0)), .ints (ramp (c + 1) r.l.length), .bool r.p, .ints r.q] :: post.map cellQ) = pre.map cellQ ++ [.bool (decide (c.tmod 3 = 0)), .ints (ramp (c + 1) r.l.length), .bool (decide ((c + 1 + (r.l.length : Int)).tmod 3 = 0)), .ints r.q] :: post.map cellQ := sto_at hpre rfl
        rw [e3]
        have hlen3 := hlen [.bool (decide (c.tmod 3 = 0)), .ints (ramp (c + 1) r.l.length), .bool (decide ((c + 1 + (r.l.length : Int)).tmod 3 = 0)), .ints r.q]
        first | refine Idx.mk (i) (by first | rfl | omega) (by omega) ?_ | skip
        repeat refine vs ?_
        conv => whnf
        refine LdR.mk _ (hget _) ?_
        repeat refine vs ?_
        conv => whnf
        by_cases z2 : r.q = []
        · skip
          refine KidS.rd _ rfl _ (goE (markIntS_0 r.q (c + 1 + (r.l.length : Int) + 1) z2)) rfl ?_
          repeat refine vs ?_
          conv => whnf
          have ef : pre.map cellQ ++ [.bool (decide (c.tmod 3 = 0)), .ints (ramp (c + 1) r.l.length), .bool (decide ((c + 1 + (r.l.length : Int)).tmod 3 = 0)), .ints r.q] :: post.map cellQ = (pre ++ [mkR r c]).map cellQ ++ post.map cellQ := by
            have y2 : ramp (c + 1 + (r.l.length : Int) + 1) r.q.length = r.q := by rw [z2]; rfl
            simp [mkR, cellQ, y2]
          rw [ef]
          refine ⟨(i + 1, pre ++ [mkR r c], post, kR r c), by dsimp only; omega, ⟨by simp [h1], by simp at h2 ⊢; omega, fun q hq => h3 q (List.mem_cons_of_mem _ hq), by unfold kR; dsimp only; omega, h5, by rw [← h6]; simp [mkL]⟩, ?_⟩
          refine Wk.le ?_
          repeat' (first | exact LeT.nil | refine LeT.drop1 ?_ | refine LeT.same1 ?_ | refine LeT.own1 ?_ | refine LeT.ownR ?_ | (refine LeT.deepR ?_ rfl))
        · skip
          refine KidS.mk rfl _ rfl _ _ (markIntS_m r.q (c + 1 + (r.l.length : Int) + 1) (by omega) (by omega)) rfl (z2) ?_ ?_ ?_
          · exact ramp_len
          · have hc : cellLen 4 (i * 4 + (0 + ((2 : Nat), (some 2 : Option Nat)).fst + ((1 : Nat), (none : Option Nat)).fst)) (pre.map cellQ ++ [.bool (decide (c.tmod 3 = 0)), .ints (ramp (c + 1) r.l.length), .bool (decide ((c + 1 + (r.l.length : Int)).tmod 3 = 0)), .ints r.q] :: post.map cellQ) = some r.q.length := len_at hpre (by decide) rfl
            repeat' (first | exact True.intro | refine ⟨hc, ?_⟩)
          repeat refine vs ?_
          conv => whnf
          have e4 : stoD 4 ((i * 4 + (0 + ((2 : Nat), (some 2 : Option Nat)).fst + ((1 : Nat), (none : Option Nat)).fst)) / 4) ((i * 4 + (0 + ((2 : Nat), (some 2 : Option Nat)).fst + ((1 : Nat), (none : Option Nat)).fst)) % 4) [.ints (ramp (c + 1 + (r.l.length : Int) + 1) r.q.length)] (pre.map cellQ ++ [.bool (decide (c.tmod 3 = 0)), .ints (ramp (c + 1) r.l.length), .bool (decide ((c + 1 + (r.l.length : Int)).tmod 3 = 0)), .ints r.q] :: post.map cellQ) = pre.map cellQ ++ [.bool (decide (c.tmod 3 = 0)), .ints (ramp (c + 1) r.l.length), .bool (decide ((c + 1 + (r.l.length : Int)).tmod 3 = 0)), .ints (ramp (c + 1 + (r.l.length : Int) + 1) r.q.length)] :: post.map cellQ := kid_at hpre (by decide)
          rw [e4]
          have ef : pre.map cellQ ++ [.bool (decide (c.tmod 3 = 0)), .ints (ramp (c + 1) r.l.length), .bool (decide ((c + 1 + (r.l.length : Int)).tmod 3 = 0)), .ints (ramp (c + 1 + (r.l.length : Int) + 1) r.q.length)] :: post.map cellQ = (pre ++ [mkR r c]).map cellQ ++ post.map cellQ := by
            simp [mkR, cellQ]
          rw [ef]
          refine ⟨(i + 1, pre ++ [mkR r c], post, kR r c), by dsimp only; omega, ⟨by simp [h1], by simp at h2 ⊢; omega, fun q hq => h3 q (List.mem_cons_of_mem _ hq), by unfold kR; dsimp only; omega, h5, by rw [← h6]; simp [mkL]⟩, ?_⟩
          refine Wk.le ?_
          repeat' (first | exact LeT.nil | refine LeT.drop1 ?_ | refine LeT.same1 ?_ | refine LeT.own1 ?_ | refine LeT.ownR ?_ | (refine LeT.deepR ?_ rfl))
  · have : post = [] := by
      cases post with
      | nil => rfl
      | cons q post => simp at c1 h2; omega
    subst this
    simp only [mkL, List.append_nil, kL] at h5 h6
    subst h5
    subst h6
    repeat refine vs ?_
    conv => whnf
    rw [List.map_nil, List.append_nil]
    exact ⟨⟨rfl, rfl⟩, rfl, by simp [mkL_len]⟩

theorem heldRatS_den (rs : List RawQ) (k : Int) (hk : 0 ≤ k ∧ k ≤ 100000000000000000) (hrs : shortP 1048576 rs) : D 16 [polQ (mkL rs k), iP k] true (.one (iP (kL rs k))) := by
  obtain ⟨hl, hr⟩ := hrs
  have hml : (mkL rs k).length = rs.length := mkL_len
  have hrl : ((mkL rs k).map cellQ).length = rs.length := by rw [List.length_map, hml]
  refine go Tryz.func16 rfl rfl ?_
  repeat refine vs ?_
  conv => whnf
  refine EVs.loopU (fun s : Nat × List RawQ × List RawQ × Int => s.2.1.length = s.1 ∧ s.1 + s.2.2.1.length = rs.length ∧ (∀ r ∈ s.2.2.1, r.l.length ≤ 1048576 ∧ r.q.length ≤ 1048576) ∧ 0 ≤ s.2.2.2 ∧
      kL s.2.2.1 s.2.2.2 = kL rs k ∧ s.2.1 ++ mkL s.2.2.1 s.2.2.2 = mkL rs k) (fun s => rs.length - s.1)
    (fun | (i, pre, post, c) => [(1, .v false [.p (.int .i64 c)]), (5, .v false [.p (.int .i64 (i : Int))])]) (0, [], rs, k) ⟨rfl, by simp, hr, hk.1, rfl, rfl⟩ (Wk.le (by repeat' (first | exact LeT.nil | refine LeT.drop1 ?_ | refine LeT.same1 ?_ | refine LeT.own1 ?_ | refine LeT.ownR ?_ | (refine LeT.deepR ?_ rfl)))) ?_
  rintro ⟨i, pre, post, c⟩ ⟨h1, h2, h3, h4, h5, h6⟩
  dsimp only at h1 h2 h3 h4 h5 h6
  have hkb := (kL_le (N := 1048576) hk.1 hr).2
  have hcb := (kL_le (N := 1048576) h4 h3).1
  refine go1 ?_
  repeat refine vs ?_
  conv => whnf
  by_cases c1 : (i : Int) < ((mkL rs k).map cellQ).length
  · cases post with
    | nil => simp at h2; omega
    | cons r post =>
      obtain ⟨hr1, hr2⟩ := h3 r List.mem_cons_self
      have hget : ((mkL rs k).map cellQ)[i]? = some (cellQ (mkR r c)) := by
        rw [← h6, List.getElem?_map, mkL, ← h1]
        simp
      unfold mkR cellQ at hget
      dsimp only at hget
      cases m0 : decide (c.tmod 3 = 0) <;> cases m1 : decide ((c + 1 + (r.l.length : Int)).tmod 3 = 0)
      all_goals
        rw [m0, m1] at hget
        repeat refine vs ?_
        conv => whnf
        first | refine Idx.mk (i) (by first | rfl | omega) (by omega) ?_ | skip
        repeat refine vs ?_
        conv => whnf
        refine LdR.mk _ hget ?_
        repeat refine vs ?_
        conv => whnf
        refine Eqz.mk (c.tmod 3) rfl ?_
        repeat refine vs ?_
        conv => whnf
        repeat refine vs ?_
        conv => whnf
        first | refine Idx.mk (i) (by first | rfl | omega) (by omega) ?_ | skip
        repeat refine vs ?_
        conv => whnf
        refine LdR.mk _ hget ?_
        repeat refine vs ?_
        conv => whnf
        refine CallS.mk _ rfl true true _ (heldIntS_den r.l.length (c + 1) (by omega) (by omega)) rfl ?_
        repeat refine vs ?_
        conv => whnf
        have g1 : ¬ (c + 1 + (r.l.length : Int) < 0) := by omega
        repeat refine vs ?_
        conv => whnf
        first | refine Idx.mk (i) (by first | rfl | omega) (by omega) ?_ | skip
        repeat refine vs ?_
        conv => whnf
        refine LdR.mk _ hget ?_
        repeat refine vs ?_
        conv => whnf
        refine Eqz.mk ((c + 1 + (r.l.length : Int)).tmod 3) rfl ?_
        repeat refine vs ?_
        conv => whnf
        repeat refine vs ?_
        conv => whnf
        first | refine Idx.mk (i) (by first | rfl | omega) (by omega) ?_ | skip
        repeat refine vs ?_
        conv => whnf
        refine LdR.mk _ hget ?_
        repeat refine vs ?_
        conv => whnf
        refine CallS.mk _ rfl true true _ (heldIntS_den r.q.length (c + 1 + r.l.length + 1) (by omega) (by omega)) rfl ?_
        repeat refine vs ?_
        conv => whnf
        have g2 : ¬ (c + 1 + (r.l.length : Int) + 1 + (r.q.length : Int) < 0) := by omega
        repeat refine vs ?_
        conv => whnf
        refine ⟨(i + 1, pre ++ [mkR r c], post, kR r c), by dsimp only; omega, ⟨by simp [h1], by simp at h2 ⊢; omega, fun q hq => h3 q (List.mem_cons_of_mem _ hq), by unfold kR; dsimp only; omega, h5, by rw [← h6]; simp [mkL]⟩, ?_⟩
        refine Wk.le ?_
        repeat' (first | exact LeT.nil | refine LeT.drop1 ?_ | refine LeT.same1 ?_ | refine LeT.own1 ?_ | refine LeT.ownR ?_ | (refine LeT.deepR ?_ rfl))
  · have : post = [] := by
      cases post with
      | nil => rfl
      | cons q post => simp at h2; omega
    subst this
    simp only [kL] at h5
    subst h5
    repeat refine vs ?_
    conv => whnf
    first | rfl | exact ⟨rfl, rfl⟩ | exact ⟨by simp [toRes], rfl⟩
end Go.Vx
