/- FromTerms: the value of a continued fraction. -/
import Derived.Test.YtpmgjmkobpeepaaT3
import Derived.Test.YtpmgjmkobpeepaaR4
import Derived.Test.YtpmgjmkobpeepaaP1
set_option linter.unusedVariables false
set_option linter.unusedSectionVars false
set_option linter.unusedSimpArgs false
namespace Go.Vx
open Go.Proofs
set_option maxRecDepth 100000

/-- A fraction's cells. -/
def ratLs (f : Int × Int) : List Lf := [.p (.bool (decide (f.1 < 0))), .p (.ints (Lm.lim f.1.natAbs)), .p (.bool (decide (f.2 < 0))), .p (.ints (Lm.lim f.2.natAbs))]
def ownCellB (s : Nat) (f : Int × Int) : List Lf := [.p (.bool (decide (f.1 < 0))), .own (s, 1) 3 (.ints (Lm.lim f.1.natAbs)), .p (.bool (decide (f.2 < 0))), .own (s, 3) 3 (.ints (Lm.lim f.2.natAbs))]
/-- The value of a list of terms. -/
def fromF : List Int → Int × Int
  | [] => (0, 1)
  | [z] => (z, 1)
  | z :: w :: l => (z * (fromF (w :: l)).1 + (fromF (w :: l)).2, (fromF (w :: l)).1)
theorem addF_low {z n d : Int} (hn : 0 < n) (h : Int.gcd n d = 1) : nN (addN z 1 d n) (1 * n) = z * n + d ∧ dN (addN z 1 d n) (1 * n) = n ∧ Int.gcd (z * n + d) n = 1 := by
  have e : addN z 1 d n = z * n + d := by unfold addN; grind
  have g : Int.gcd (z * n + d) n = 1 := by
    rw [show z * n + d = d + n * z by grind, Int.gcd_add_mul_left_left, Int.gcd_comm]
    exact h
  rw [e, Int.one_mul]
  exact ⟨(nd_self hn g).1, (nd_self hn g).2, g⟩
structure FromOK (K : Nat) (q : Int × Int) : Prop where
  pos : 0 < q.2
  gcd : Int.gcd q.1 q.2 = 1
  l1 : Lm.ln q.1 ≤ K
  l2 : Lm.ln q.2 ≤ K
theorem fromF_ok : ∀ (z : Int) (l : List Int), (∀ w ∈ z :: l, Lm.ln w ≤ 40) → (∀ w ∈ l, 0 < w) → FromOK (41 * (l.length + 1)) (fromF (z :: l)) ∧ (0 < z → 0 < (fromF (z :: l)).1)
  | z, [], h, _ => ⟨⟨Int.one_pos, Int.gcd_one_right _, Nat.le_trans (h z List.mem_cons_self) (by simp), Nat.le_trans (ln64 (by decide) (by decide) : Lm.ln 1 ≤ _) (by simp)⟩, fun hz => hz⟩
  | z, w :: l, h, hp => by
    obtain ⟨⟨a1, a2, a3, a4⟩, a5⟩ := fromF_ok w l (fun v hv => h v (List.mem_cons_of_mem _ hv)) (fun v hv => hp v (List.mem_cons_of_mem _ hv))
    have hn := a5 (hp w List.mem_cons_self)
    have hz := h z List.mem_cons_self
    have e : fromF (z :: w :: l) = (z * (fromF (w :: l)).1 + (fromF (w :: l)).2, (fromF (w :: l)).1) := rfl
    rw [e]
    generalize fromF (w :: l) = q at *
    have m := Lm.ln_mul _ _ hz a3
    have s := Lm.ln_add (k := 40 + 41 * (l.length + 1)) _ _ m (Nat.le_trans a4 (by omega))
    rw [List.length_cons]
    refine ⟨⟨hn, (addF_low hn a2).2.2, by dsimp only; omega, by dsimp only; omega⟩, fun hz2 => ?_⟩
    have := Int.mul_pos hz2 hn
    dsimp only
    omega
def okI (i : Nat) (r : RawB) : Prop := goodB r.n r.l = true ∧ (0 < i → r.n = false ∧ r.l ≠ [])
def fromOK (rs : List RawB) : Prop := (∀ (i : Nat) (h : i < rs.length), okI i rs[i]) ∧ 1 ≤ rs.length ∧ rs.length ≤ 60
theorem bF_ex : ∀ (rs : List RawB), (∀ r ∈ rs, goodB r.n r.l = true) → ∃ zs : List Int, rs = zs.map bF ∧ ∀ z ∈ zs, Lm.ln z ≤ 40
  | [], _ => ⟨[], rfl, fun z h => by cases h⟩
  | ⟨n, l⟩ :: rs, h => by
    obtain ⟨z, e1, e2, e3, _⟩ := good_ex (h _ List.mem_cons_self)
    obtain ⟨zs, rfl, h2⟩ := bF_ex rs (fun r hr => h r (List.mem_cons_of_mem _ hr))
    refine ⟨z :: zs, ?_, fun w hw => ?_⟩
    · dsimp only at e1 e2
      rw [e1, e2]
      rfl
    · rcases List.mem_cons.1 hw with rfl | hw
      · exact e3
      · exact h2 w hw
theorem rowsB_bigs (rs : List RawB) : rowsB (rs.map fun r => (r.n, r.l)) = rs.map cellB := by
  unfold rowsB
  rw [List.map_map]
  rfl
theorem areBigs_den (rs : List RawB) (hrs : shortB 1048576 rs) : D 45 [bigsQ rs] true (.one (bP (rs.all fun r => goodB r.n r.l))) := by
  have h := areBig_den (rs.map fun r => (r.n, r.l)) (by rw [List.length_map]; exact Nat.le_trans hrs.1 (by decide)) (fun q hq => by
    obtain ⟨r, hr, rfl⟩ := List.mem_map.1 hq
    exact Nat.le_trans (hrs.2 r hr) (by decide))
  rw [rowsB_bigs, List.all_map] at h
  exact h
section
variable (rs : List RawB) (hrs : shortB 1048576 rs)
include hrs
theorem fromS_bad (hb : ¬ fromOK rs) : D 15 [bigsQ rs] false (.tup [ratR false [] false [], bP false]) := by
  obtain ⟨hl, hr⟩ := hrs
  have hrl : (rs.map cellB).length = rs.length := by simp
  refine go Try.func15 rfl rfl ?_
  repeat refine vs ?_
  conv => whnf
  refine EVs.loopU (fun i : Nat => i ≤ rs.length ∧ ∀ (j : Nat) (h : j < rs.length), j < i → okI j rs[j]) (fun i => rs.length - i) (fun i => [(10, .v false [.p (.int .i64 (i : Int))])]) 0 ⟨by omega, fun j h hj => by omega⟩ (Wk.le (by repeat' (first | exact LeT.nil | refine LeT.drop1 ?_ | refine LeT.same1 ?_ | refine LeT.own1 ?_ | refine LeT.ownR ?_ | (refine LeT.deepR ?_ rfl)))) ?_
  rintro i ⟨hi, hall⟩
  refine go1 ?_
  repeat refine vs ?_
  conv => whnf
  by_cases h1 : (i : Int) < (rs.map cellB).length
  · have hlt : i < rs.length := by omega
    have hr1 := hr rs[i] (List.getElem_mem hlt)
    have hget : (rs.map cellB)[i]? = some (cellB rs[i]) := by rw [List.getElem?_map, List.getElem?_eq_getElem hlt]; rfl
    have step : okI i rs[i] → ∀ (j : Nat) (h : j < rs.length), j < i + 1 → okI j rs[j] := fun h j hj hj2 => by
      by_cases e : j = i
      · subst e; exact h
      · exact hall j hj (by omega)
    generalize rs[i] = r at *
    obtain ⟨n, l⟩ := r
    unfold okI at step
    dsimp only at hr1 step
    have dG := goodS_den n l (by omega)
    repeat refine vs ?_
    conv => whnf
    refine LdR.mk (cellB ⟨n, l⟩) hget ?_
    repeat refine vs ?_
    conv => whnf
    cases hg : goodB n l with
    | false =>
      rw [hg] at dG
      refine CallS.mk _ rfl true true _ (dG) rfl ?_
      repeat refine vs ?_
      conv => whnf
      first | rfl | exact ⟨rfl, rfl⟩ | exact ⟨by simp [toRes], rfl⟩
    | true =>
      rw [hg] at dG step
      refine CallS.mk _ rfl true true _ (dG) rfl ?_
      repeat refine vs ?_
      conv => whnf
      by_cases h0 : (i : Int) > 0
      · cases n with
        | true =>
          repeat refine vs ?_
          conv => whnf
          first | rfl | exact ⟨rfl, rfl⟩ | exact ⟨by simp [toRes], rfl⟩
        | false =>
          by_cases hl0 : l.length = 0
          · repeat refine vs ?_
            conv => whnf
            first | rfl | exact ⟨rfl, rfl⟩ | exact ⟨by simp [toRes], rfl⟩
          · repeat refine vs ?_
            conv => whnf
            refine ⟨i + 1, by omega, ⟨by omega, step ⟨rfl, fun _ => ⟨rfl, fun h => hl0 (by rw [h]; rfl)⟩⟩⟩, ?_⟩
            refine Wk.le ?_
            repeat' (first | exact LeT.nil | refine LeT.drop1 ?_ | refine LeT.same1 ?_ | refine LeT.own1 ?_ | refine LeT.ownR ?_ | (refine LeT.deepR ?_ rfl))
      · repeat refine vs ?_
        conv => whnf
        refine ⟨i + 1, by omega, ⟨by omega, step ⟨rfl, fun h => by omega⟩⟩, ?_⟩
        refine Wk.le ?_
        repeat' (first | exact LeT.nil | refine LeT.drop1 ?_ | refine LeT.same1 ?_ | refine LeT.own1 ?_ | refine LeT.ownR ?_ | (refine LeT.deepR ?_ rfl))
  · have hn : ¬ (1 ≤ ((rs.map cellB).length : Int) ∧ ((rs.map cellB).length : Int) ≤ 60) := fun h => hb ⟨fun j hj => hall j hj (by omega), by omega, by omega⟩
    have dI := l1In_den ((rs.map cellB).length : Int) 1 60
    rw [decide_eq_false hn] at dI
    repeat refine vs ?_
    conv => whnf
    refine CallS.mk _ rfl true true _ (dI) rfl ?_
    repeat refine vs ?_
    conv => whnf
    first | rfl | exact ⟨rfl, rfl⟩ | exact ⟨by simp [toRes], rfl⟩
theorem fromI_bad (hb : ¬ fromOK rs) : D 17 [bigsQ rs] true (.tup [ratR false [] false [], bP false]) := by
  have dA := areBigs_den rs hrs
  obtain ⟨hl, hr⟩ := hrs
  have hrl : (rs.map cellB).length = rs.length := by simp
  have dI := within_den ((rs.map cellB).length : Int) 1 60
  refine go Try.func17 rfl rfl ?_
  by_cases hn : 1 ≤ ((rs.map cellB).length : Int) ∧ ((rs.map cellB).length : Int) ≤ 60
  · rw [decide_eq_true hn] at dI
    cases hg : rs.all fun r => goodB r.n r.l with
    | false =>
      rw [hg] at dA
      repeat refine vs ?_
      conv => whnf
      refine CallS.mk _ rfl true true _ (dI) rfl ?_
      repeat refine vs ?_
      conv => whnf
      refine CallS.mk _ rfl true true _ (dA) rfl ?_
      repeat refine vs ?_
      conv => whnf
      first | rfl | exact ⟨rfl, rfl⟩ | exact ⟨by simp [toRes], rfl⟩
    | true =>
      rw [hg] at dA
      rw [List.all_eq_true] at hg
      obtain ⟨zs, rfl, hz⟩ := bF_ex rs hg
      have hzl : (zs.map bF).length = zs.length := by simp
      repeat refine vs ?_
      conv => whnf
      refine CallS.mk _ rfl true true _ (dI) rfl ?_
      repeat refine vs ?_
      conv => whnf
      refine CallS.mk _ rfl true true _ (dA) rfl ?_
      repeat refine vs ?_
      conv => whnf
      cases zs with
      | nil => simp at hn
      | cons z0 ws =>
      have hwz : (z0 :: ws).length = ws.length + 1 := rfl
      refine SubK.mk (1) (((ws.length : Nat) + 1)) (by first | rfl | (show _ = _; omega)) (by first | rfl | (show _ = _; omega)) (by omega) (by omega) ?_
      repeat refine vs ?_
      conv => whnf
      have ed : List.drop 1 (List.take (ws.length + 1) (((z0 :: ws).map bF).map cellB)) = (ws.map bF).map cellB := by
        rw [List.take_of_length_le (by simp)]
        rfl
      rw [ed]
      have hwl : ((ws.map bF).map cellB).length = ws.length := by simp
      refine EVs.loopU (fun i : Nat => i ≤ ws.length ∧ ∀ (j : Nat) (h : j < ws.length), j < i → 0 < ws[j]) (fun i => ws.length - i) (fun i => [(21, .v false [.p (.int .i64 (i : Int))])]) 0 ⟨by omega, fun j h hj => by omega⟩ (Wk.le (by repeat' (first | exact LeT.nil | refine LeT.drop1 ?_ | refine LeT.same1 ?_ | refine LeT.own1 ?_ | refine LeT.ownR ?_ | (refine LeT.deepR ?_ rfl)))) ?_
      rintro i ⟨hi, hall⟩
      refine go1 ?_
      repeat refine vs ?_
      conv => whnf
      by_cases h1 : (i : Int) < ((ws.map bF).map cellB).length
      · have hlt : i < ws.length := by omega
        have hget : ((ws.map bF).map cellB)[i]? = some (cellB (bF ws[i])) := by rw [List.getElem?_map, List.getElem?_map, List.getElem?_eq_getElem hlt]; rfl
        have hz1 := hz ws[i] (List.mem_cons_of_mem _ (List.getElem_mem hlt))
        have step : 0 < ws[i] → ∀ (j : Nat) (h : j < ws.length), j < i + 1 → 0 < ws[j] := fun h j hj hj2 => by
          by_cases e : j = i
          · subst e; exact h
          · exact hall j hj (by omega)
        generalize ws[i] = z at *
        have dS := sign_den z (by omega)
        have hc : cmpI z 0 ≤ 0 ↔ ¬ 0 < z := by rcases cmpI_sgn z with h | h | h <;> omega
        repeat refine vs ?_
        conv => whnf
        refine LdR.mk (cellB (bF z)) hget ?_
        repeat refine vs ?_
        conv => whnf
        refine CallS.mk _ rfl true true _ (dS) rfl ?_
        repeat refine vs ?_
        conv => whnf
        by_cases hp : 0 < z
        · have := fun h => hc.1 h hp
          repeat refine vs ?_
          conv => whnf
          refine ⟨i + 1, by omega, ⟨by omega, step hp⟩, ?_⟩
          refine Wk.le ?_
          repeat' (first | exact LeT.nil | refine LeT.drop1 ?_ | refine LeT.same1 ?_ | refine LeT.own1 ?_ | refine LeT.ownR ?_ | (refine LeT.deepR ?_ rfl))
        · have := hc.2 hp
          repeat refine vs ?_
          conv => whnf
          first | rfl | exact ⟨rfl, rfl⟩ | exact ⟨by simp [toRes], rfl⟩
      · exfalso
        refine hb ⟨fun j hj => ⟨hg _ (List.getElem_mem hj), fun h0 => ?_⟩, by omega, by omega⟩
        obtain ⟨k, rfl⟩ : ∃ k, j = k + 1 := ⟨j - 1, by omega⟩
        have hk : k < ws.length := by simp at hj; omega
        have e : ((z0 :: ws).map bF)[k + 1] = bF ws[k] := by simp
        have hw := hall k hk (by omega)
        rw [e]
        exact ⟨decide_eq_false (by omega), fun h => by have := Lm.lim_eq_nil.1 h; omega⟩
  · rw [decide_eq_false hn] at dI
    repeat refine vs ?_
    conv => whnf
    refine CallS.mk _ rfl true true _ (dI) rfl ?_
    repeat refine vs ?_
    conv => whnf
    first | rfl | exact ⟨rfl, rfl⟩ | exact ⟨by simp [toRes], rfl⟩
end
theorem fromF_step {L : List Int} {k : Nat} (h : k + 1 < L.length) : fromF (L.drop k) = (L[k] * (fromF (L.drop (k + 1))).1 + (fromF (L.drop (k + 1))).2, (fromF (L.drop (k + 1))).1) := by
  rw [List.drop_eq_getElem_cons (show k < L.length by omega), List.drop_eq_getElem_cons h]
  rfl
theorem fromF_last {L : List Int} {k : Nat} (h : k < L.length) (h2 : k + 1 = L.length) : fromF (L.drop k) = (L[k], 1) := by
  rw [List.drop_eq_getElem_cons h, List.drop_eq_nil_of_le (by omega)]
  rfl
section
variable (z0 : Int) (ws : List Int) (hl : ws.length ≤ 59) (hz : ∀ z ∈ z0 :: ws, Lm.ln z ≤ 40) (hp : ∀ z ∈ ws, 0 < z)
include hl hz hp
theorem fromF_drop {j : Nat} (hj : j ≤ ws.length) : FromOK 2460 (fromF ((z0 :: ws).drop j)) ∧ (1 ≤ j → 0 < (fromF ((z0 :: ws).drop j)).1) := by
  have hlen : (z0 :: ws).length = ws.length + 1 := rfl
  have e := List.drop_eq_getElem_cons (show j < (z0 :: ws).length by omega)
  have h1 := fromF_ok ((z0 :: ws)[j]) ((z0 :: ws).drop (j + 1)) (fun w hw => hz w (by rw [← e] at hw; exact List.mem_of_mem_drop hw)) (fun w hw => hp w (List.mem_of_mem_drop (i := j) (by simpa using hw)))
  rw [← e] at h1
  obtain ⟨⟨a1, a2, a3, a4⟩, a5⟩ := h1
  rw [List.length_drop, hlen] at a3 a4
  refine ⟨⟨a1, a2, Nat.le_trans a3 (by omega), Nat.le_trans a4 (by omega)⟩, fun h => a5 ?_⟩
  obtain ⟨k, rfl⟩ : ∃ k, j = k + 1 := ⟨j - 1, by omega⟩
  exact hp _ (List.getElem_mem _)
theorem fromS_good : D 15 [bigsQ ((z0 :: ws).map bF)] false (.tup [fitRV (fromF (z0 :: ws)).1 (fromF (z0 :: ws)).2, bP (fitR (fromF (z0 :: ws)).1 (fromF (z0 :: ws)).2)]) := by
  have hdrop := fun {j} => fromF_drop z0 ws hl hz hp (j := j)
  generalize hL : z0 :: ws = L at *
  have hlen : L.length = ws.length + 1 := by rw [← hL]; rfl
  have hrl : ((L.map bF).map cellB).length = L.length := by simp
  have hpos : ∀ (i : Nat) (h : i < L.length), 0 < i → 0 < L[i] := by
    intro i h h0
    subst hL
    obtain ⟨k, rfl⟩ : ∃ k, i = k + 1 := ⟨i - 1, by omega⟩
    exact hp _ (List.getElem_mem _)
  refine go Try.func15 rfl rfl ?_
  repeat refine vs ?_
  conv => whnf
  refine EVs.loopU (fun i : Nat => i ≤ L.length) (fun i => L.length - i) (fun i => [(10, .v false [.p (.int .i64 (i : Int))])]) 0 (by omega) (Wk.le (by repeat' (first | exact LeT.nil | refine LeT.drop1 ?_ | refine LeT.same1 ?_ | refine LeT.own1 ?_ | refine LeT.ownR ?_ | (refine LeT.deepR ?_ rfl)))) ?_
  intro i hi
  refine go1 ?_
  repeat refine vs ?_
  conv => whnf
  by_cases h1 : (i : Int) < ((L.map bF).map cellB).length
  · have hlt : i < L.length := by omega
    have hz1 := hz L[i] (List.getElem_mem hlt)
    have hget : ((L.map bF).map cellB)[i]? = some (cellB (bF L[i])) := by rw [List.getElem?_map, List.getElem?_map, List.getElem?_eq_getElem hlt]; rfl
    have hp1 := hpos i hlt
    generalize L[i] = z at *
    have dG := goodS_den (decide (z < 0)) (Lm.lim z.natAbs) (Nat.le_trans hz1 (by omega))
    rw [goodB_true (Lm.good_lim hz1)] at dG
    repeat refine vs ?_
    conv => whnf
    refine LdR.mk (cellB (bF z)) hget ?_
    repeat refine vs ?_
    conv => whnf
    refine CallS.mk _ rfl true true _ (dG) rfl ?_
    repeat refine vs ?_
    conv => whnf
    by_cases h0 : (i : Int) > 0
    · have hp2 := hp1 (by omega)
      have hn : decide (z < 0) = false := decide_eq_false (by omega)
      have hll : ¬ (Lm.lim z.natAbs).length = 0 := by rw [List.length_eq_zero_iff, Lm.lim_eq_nil]; omega
      unfold bF cellB
      dsimp only
      rw [hn]
      repeat refine vs ?_
      conv => whnf
      refine ⟨i + 1, by omega, by omega, ?_⟩
      refine Wk.le ?_
      repeat' (first | exact LeT.nil | refine LeT.drop1 ?_ | refine LeT.same1 ?_ | refine LeT.own1 ?_ | refine LeT.ownR ?_ | (refine LeT.deepR ?_ rfl))
    · repeat refine vs ?_
      conv => whnf
      refine ⟨i + 1, by omega, by omega, ?_⟩
      refine Wk.le ?_
      repeat' (first | exact LeT.nil | refine LeT.drop1 ?_ | refine LeT.same1 ?_ | refine LeT.own1 ?_ | refine LeT.ownR ?_ | (refine LeT.deepR ?_ rfl))
  · have hn : 1 ≤ (((L.map bF).map cellB).length : Int) ∧ (((L.map bF).map cellB).length : Int) ≤ 60 := by omega
    have dI := l1In_den (((L.map bF).map cellB).length : Int) 1 60
    rw [decide_eq_true hn] at dI
    have hlt : ws.length < L.length := by omega
    have hget : ((L.map bF).map cellB)[ws.length]? = some (cellB (bF L[ws.length])) := by rw [List.getElem?_map, List.getElem?_map, List.getElem?_eq_getElem hlt]; rfl
    have hlast := fromF_last hlt (by omega)
    have dB := bigOfS_den 1 (by omega) (by omega)
    repeat refine vs ?_
    conv => whnf
    refine CallS.mk _ rfl true true _ (dI) rfl ?_
    repeat refine vs ?_
    conv => whnf
    first | refine Idx.mk (ws.length) (by first | rfl | omega) (by omega) ?_ | skip
    repeat refine vs ?_
    conv => whnf
    refine LdR.mk _ hget ?_
    repeat refine vs ?_
    conv => whnf
    refine CallS.mk _ rfl true false _ (dB) rfl ?_
    repeat refine vs ?_
    conv => whnf
    rw [show (((L.map bF).map cellB).length : Int) - 2 = (ws.length : Int) - 1 by omega]
    refine EVs.loopU (fun s : Nat × (Int × Int) => s.1 ≤ ws.length ∧ s.2 = fromF (L.drop s.1)) (fun s => s.1)
      (fun | (j, q) => [(6, .box (6, 0) (ratLs q) 0), (7, .v false [.p (.int .i64 ((j : Int) - 1))])]) (ws.length, (L[ws.length], 1)) ⟨Nat.le_refl _, by dsimp only; rw [hlast]⟩ (Wk.refl _) ?_
    rintro ⟨j, q⟩ ⟨hj, hq⟩
    dsimp only at hj hq
    obtain ⟨⟨a1, a2, a3, a4⟩, a5⟩ := hdrop hj
    rw [← hq] at a1 a2 a3 a4 a5
    refine go1 ?_
    repeat refine vs ?_
    conv => whnf
    by_cases h0 : (j : Int) - 1 ≥ 0
    · obtain ⟨k, rfl⟩ : ∃ k, j = k + 1 := ⟨j - 1, by omega⟩
      have hn := a5 (by omega)
      have hk : k < L.length := by omega
      have hz1 := hz L[k] (List.getElem_mem hk)
      have hgk : ((L.map bF).map cellB)[k]? = some (cellB (bF L[k])) := by rw [List.getElem?_map, List.getElem?_map, List.getElem?_eq_getElem hk]; rfl
      have hst := fromF_step (L := L) (k := k) (by omega)
      rw [← hq] at hst
      have dI := l2Int_den 1 (by omega) (by omega)
      have l1 : Lm.ln 1 ≤ 40000000000 := Nat.le_trans (ln64 (by decide) (by decide)) (by omega)
      have dD := l2Div_den 1 1 q.1 q.2 (by omega) (by omega) l1 l1 (by omega) (by omega) (by omega)
      obtain ⟨e3, e4⟩ := inv_low hn a2
      rw [e3, e4] at dD
      generalize L[k] = z at *
      have dA := l2Add_den z 1 q.2 q.1 (by omega) (by omega) (by omega) l1 (by omega) (by omega)
      obtain ⟨e5, e6, _⟩ := addF_low (z := z) hn a2
      rw [e5, e6] at dA
      rw [show ((k + 1 : Nat) : Int) - 1 = (k : Int) by omega] at *
      unfold ratLs
      repeat refine vs ?_
      conv => whnf
      first | refine Idx.mk (k) (by first | rfl | omega) (by omega) ?_ | skip
      repeat refine vs ?_
      conv => whnf
      refine LdR.mk _ hgk ?_
      repeat refine vs ?_
      conv => whnf
      refine CallS.mk _ rfl true false _ (dB) rfl ?_
      repeat refine vs ?_
      conv => whnf
      refine CallS.mk _ rfl true false _ (dI) rfl ?_
      repeat refine vs ?_
      conv => whnf
      refine CallS.mk _ rfl true false _ (dD) rfl ?_
      repeat refine vs ?_
      conv => whnf
      refine CallS.mk _ rfl true false _ (dA) rfl ?_
      repeat refine vs ?_
      conv => whnf
      refine ⟨(k, (z * q.1 + q.2, q.1)), by dsimp only; omega, ⟨by dsimp only; omega, hst.symm⟩, ?_⟩
      refine Wk.le ?_
      repeat' (first | exact LeT.nil | refine LeT.drop1 ?_ | refine LeT.same1 ?_ | refine LeT.own1 ?_ | refine LeT.ownR ?_ | (refine LeT.deepR ?_ rfl))
    · obtain rfl : j = 0 := by omega
      rw [List.drop_zero] at hq
      rw [← hq]
      have fS := l2Fits_den q.1 q.2 a1 (by omega) (by omega)
      unfold fitRV at fS ⊢
      unfold ratLs
      cases hf : fitR q.1 q.2 with
      | true =>
        rw [hf] at fS
        repeat refine vs ?_
        conv => whnf
        refine CallS.mk _ rfl true true _ (fS) rfl ?_
        repeat refine vs ?_
        conv => whnf
        first | rfl | exact ⟨rfl, rfl⟩ | exact ⟨by simp [toRes], rfl⟩
      | false =>
        rw [hf] at fS
        repeat refine vs ?_
        conv => whnf
        refine CallS.mk _ rfl true true _ (fS) rfl ?_
        repeat refine vs ?_
        conv => whnf
        first | rfl | exact ⟨rfl, rfl⟩ | exact ⟨by simp [toRes], rfl⟩
theorem fromI_good : D 17 [bigsQ ((z0 :: ws).map bF)] true (.tup [fitRV (fromF (z0 :: ws)).1 (fromF (z0 :: ws)).2, bP (fitR (fromF (z0 :: ws)).1 (fromF (z0 :: ws)).2)]) := by
  have hdrop := fun {j} => fromF_drop z0 ws hl hz hp (j := j)
  have dA := areBigs_den ((z0 :: ws).map bF) ⟨by simp; omega, fun r hr => by
    obtain ⟨z, hz2, rfl⟩ := List.mem_map.1 hr
    exact Nat.le_trans (hz z hz2) (by omega)⟩
  have hall : (((z0 :: ws).map bF).all fun r => goodB r.n r.l) = true := by
    rw [List.all_eq_true]
    intro r hr
    obtain ⟨z, hz2, rfl⟩ := List.mem_map.1 hr
    exact goodB_true (Lm.good_lim (hz z hz2))
  rw [hall] at dA
  have hn : 1 ≤ ((((z0 :: ws).map bF).map cellB).length : Int) ∧ ((((z0 :: ws).map bF).map cellB).length : Int) ≤ 60 := by simp; omega
  have dI := within_den ((((z0 :: ws).map bF).map cellB).length : Int) 1 60
  rw [decide_eq_true hn] at dI
  refine go Try.func17 rfl rfl ?_
  repeat refine vs ?_
  conv => whnf
  refine CallS.mk _ rfl true true _ (dI) rfl ?_
  repeat refine vs ?_
  conv => whnf
  refine CallS.mk _ rfl true true _ (dA) rfl ?_
  repeat refine vs ?_
  conv => whnf
  have hwz : (((z0 :: ws).map bF).map cellB).length = ws.length + 1 := by simp
  refine SubK.mk (1) (((ws.length : Nat) + 1)) (by first | rfl | (show _ = _; omega)) (by first | rfl | (show _ = _; omega)) (by omega) (by omega) ?_
  repeat refine vs ?_
  conv => whnf
  have ed : List.drop 1 (List.take (ws.length + 1) (((z0 :: ws).map bF).map cellB)) = (ws.map bF).map cellB := by
    rw [List.take_of_length_le (by simp)]
    rfl
  rw [ed]
  have hwl : ((ws.map bF).map cellB).length = ws.length := by simp
  refine EVs.loopU (fun i : Nat => i ≤ ws.length) (fun i => ws.length - i) (fun i => [(21, .v false [.p (.int .i64 (i : Int))])]) 0 (by omega) (Wk.le (by repeat' (first | exact LeT.nil | refine LeT.drop1 ?_ | refine LeT.same1 ?_ | refine LeT.own1 ?_ | refine LeT.ownR ?_ | (refine LeT.deepR ?_ rfl)))) ?_
  intro i hi
  refine go1 ?_
  repeat refine vs ?_
  conv => whnf
  by_cases h1 : (i : Int) < ((ws.map bF).map cellB).length
  · have hlt : i < ws.length := by omega
    have hget : ((ws.map bF).map cellB)[i]? = some (cellB (bF ws[i])) := by rw [List.getElem?_map, List.getElem?_map, List.getElem?_eq_getElem hlt]; rfl
    have hz1 := hz ws[i] (List.mem_cons_of_mem _ (List.getElem_mem hlt))
    have hp1 := hp ws[i] (List.getElem_mem hlt)
    generalize ws[i] = z at *
    have dS := sign_den z (by omega)
    have hc : ¬ cmpI z 0 ≤ 0 := by rcases cmpI_sgn z with h | h | h <;> omega
    repeat refine vs ?_
    conv => whnf
    refine LdR.mk (cellB (bF z)) hget ?_
    repeat refine vs ?_
    conv => whnf
    refine CallS.mk _ rfl true true _ (dS) rfl ?_
    repeat refine vs ?_
    conv => whnf
    refine ⟨i + 1, by omega, by omega, ?_⟩
    refine Wk.le ?_
    repeat' (first | exact LeT.nil | refine LeT.drop1 ?_ | refine LeT.same1 ?_ | refine LeT.own1 ?_ | refine LeT.ownR ?_ | (refine LeT.deepR ?_ rfl))
  · generalize hL : z0 :: ws = L at *
    have hlen : L.length = ws.length + 1 := by rw [← hL]; rfl
    have hlt : ws.length < L.length := by omega
    have hget : ((L.map bF).map cellB)[ws.length]? = some (cellB (bF L[ws.length])) := by rw [List.getElem?_map, List.getElem?_map, List.getElem?_eq_getElem hlt]; rfl
    have hlast := fromF_last hlt (by omega)
    have hzl := hz L[ws.length] (List.getElem_mem hlt)
    have dO := ofBig_den L[ws.length] (by omega)
    repeat refine vs ?_
    conv => whnf
    first | refine Idx.mk (ws.length) (by first | rfl | omega) (by omega) ?_ | skip
    repeat refine vs ?_
    conv => whnf
    refine LdR.mk _ hget ?_
    repeat refine vs ?_
    conv => whnf
    refine CallS.mk _ rfl true true _ (dO) rfl ?_
    repeat refine vs ?_
    conv => whnf
    rw [show (((L.map bF).map cellB).length : Int) - 2 = (ws.length : Int) - 1 by omega]
    refine EVs.loopU (fun s : Nat × (Int × Int) => s.1 ≤ ws.length ∧ s.2 = fromF (L.drop s.1)) (fun s => s.1)
      (fun | (j, q) => [(6, .box (6, 0) (ownCellB 90 q) 0), (7, .v false [.p (.int .i64 ((j : Int) - 1))]), (36, .any)]) (ws.length, (L[ws.length], 1)) ⟨Nat.le_refl _, by dsimp only; rw [hlast]⟩ ?_ ?_
    · refine Wk.trans (Wk.ren (36, 1) (90, 1)) (Wk.trans (Wk.ren (36, 3) (90, 3)) ?_)
      refine Wk.le ?_
      repeat' (first | exact LeT.nil | refine LeT.drop1 ?_ | refine LeT.same1 ?_ | refine LeT.own1 ?_ | refine LeT.ownR ?_ | (refine LeT.deepR ?_ rfl))
    rintro ⟨j, q⟩ ⟨hj, hq⟩
    dsimp only at hj hq
    obtain ⟨⟨a1, a2, a3, a4⟩, a5⟩ := hdrop hj
    rw [← hq] at a1 a2 a3 a4 a5
    refine go1 ?_
    repeat refine vs ?_
    conv => whnf
    by_cases h0 : (j : Int) - 1 ≥ 0
    · obtain ⟨k, rfl⟩ : ∃ k, j = k + 1 := ⟨j - 1, by omega⟩
      have hn := a5 (by omega)
      have hk : k < L.length := by omega
      have hz1 := hz L[k] (List.getElem_mem hk)
      have hgk : ((L.map bF).map cellB)[k]? = some (cellB (bF L[k])) := by rw [List.getElem?_map, List.getElem?_map, List.getElem?_eq_getElem hk]; rfl
      have hst := fromF_step (L := L) (k := k) (by omega)
      rw [← hq] at hst
      have dI := whole_den 1 (by omega) (by omega)
      have l1 : Lm.ln 1 ≤ 40000000000 := Nat.le_trans (ln64 (by decide) (by decide)) (by omega)
      have dD := ratDiv_den 1 1 q.1 q.2 (by omega) (by omega) l1 l1 (by omega) (by omega) (by omega)
      obtain ⟨e3, e4⟩ := inv_low hn a2
      rw [e3, e4] at dD
      generalize L[k] = z at *
      have dO2 := ofBig_den z (by omega)
      have dA := ratAdd_den z 1 q.2 q.1 (by omega) (by omega) (by omega) l1 (by omega) (by omega)
      obtain ⟨e5, e6, _⟩ := addF_low (z := z) hn a2
      rw [e5, e6] at dA
      rw [show ((k + 1 : Nat) : Int) - 1 = (k : Int) by omega] at *
      unfold ownCellB
      repeat refine vs ?_
      conv => whnf
      first | refine Idx.mk (k) (by first | rfl | omega) (by omega) ?_ | skip
      repeat refine vs ?_
      conv => whnf
      refine LdR.mk _ hgk ?_
      repeat refine vs ?_
      conv => whnf
      refine CallS.mk _ rfl true false _ (dO2) rfl ?_
      repeat refine vs ?_
      conv => whnf
      refine CallS.mk _ rfl true false _ (dI) rfl ?_
      repeat refine vs ?_
      conv => whnf
      refine CallS.mk _ rfl true false _ (dD) rfl ?_
      repeat refine vs ?_
      conv => whnf
      refine CallS.mk _ rfl true true _ (dA) rfl ?_
      repeat refine vs ?_
      conv => whnf
      refine ⟨(k, (z * q.1 + q.2, q.1)), by dsimp only; omega, ⟨by dsimp only; omega, hst.symm⟩, ?_⟩
      refine Wk.trans (Wk.ren (52, 1) (90, 1)) (Wk.trans (Wk.ren (52, 3) (90, 3)) ?_)
      refine Wk.le ?_
      repeat' (first | exact LeT.nil | refine LeT.drop1 ?_ | refine LeT.same1 ?_ | refine LeT.own1 ?_ | refine LeT.ownR ?_ | (refine LeT.deepR ?_ rfl))
    · obtain rfl : j = 0 := by omega
      rw [List.drop_zero] at hq
      rw [← hq]
      have fI := checkedRat_m q.1 q.2 (by omega) (by omega)
      unfold fitRV
      unfold ownCellB
      cases hf : fitR q.1 q.2 with
      | true =>
        rw [hf] at fI
        simp only [if_true] at fI ⊢
        repeat refine vs ?_
        conv => whnf
        refine MutS.mk' _ rfl _ rfl _ _ (fI) ?_
        repeat refine vs ?_
        conv => whnf
        first | rfl | exact ⟨rfl, rfl⟩ | exact ⟨by simp [toRes], rfl⟩
      | false =>
        rw [hf] at fI
        simp only [Bool.false_eq_true, if_false] at fI ⊢
        repeat refine vs ?_
        conv => whnf
        refine MutS.mk' _ rfl _ rfl _ _ (fI) ?_
        repeat refine vs ?_
        conv => whnf
        first | rfl | exact ⟨rfl, rfl⟩ | exact ⟨by simp [toRes], rfl⟩
end
theorem fromTermsBoth (rs : List RawB) (hrs : shortB 1048576 rs) :
    ∃ n l p q b, l.length ≤ 1000000 ∧ q.length ≤ 1000000 ∧ D 15 [bigsQ rs] false (.tup [ratR n l p q, bP b]) ∧ D 17 [bigsQ rs] true (.tup [ratR n l p q, bP b]) := by
  by_cases h : fromOK rs
  · obtain ⟨h1, h2, h3⟩ := h
    obtain ⟨zs, rfl, hz⟩ := bF_ex rs (fun r hr => by
      obtain ⟨i, hi, rfl⟩ := List.mem_iff_getElem.1 hr
      exact (h1 i hi).1)
    cases zs with
    | nil => simp at h2
    | cons z0 ws =>
      have hp : ∀ z ∈ ws, 0 < z := by
        intro z hz2
        obtain ⟨i, hi, rfl⟩ := List.mem_iff_getElem.1 hz2
        have h4 := (h1 (i + 1) (by simp; omega)).2 (by omega)
        have e : ((z0 :: ws).map bF)[i + 1]'(by simp; omega) = bF ws[i] := by simp
        rw [e] at h4
        have h5 : ¬ ws[i] < 0 := of_decide_eq_false h4.1
        have h6 : ws[i] ≠ 0 := fun h => h4.2 (Lm.lim_eq_nil.2 (by omega))
        omega
      have hl : ws.length ≤ 59 := by simp at h3; omega
      have sS := fromS_good z0 ws hl hz hp
      have sI := fromI_good z0 ws hl hz hp
      obtain ⟨⟨_, _, a3, a4⟩, _⟩ := fromF_drop z0 ws hl hz hp (j := 0) (by omega)
      rw [List.drop_zero] at a3 a4
      generalize fromF (z0 :: ws) = v at *
      have hsome : ∃ n l p q, l.length ≤ 1000000 ∧ q.length ≤ 1000000 ∧ fitRV v.1 v.2 = ratR n l p q := by
        unfold fitRV
        split
        · exact ⟨_, _, _, _, Nat.le_trans a3 (by omega), Nat.le_trans a4 (by omega), rfl⟩
        · exact ⟨_, _, _, _, by simp, by simp, rfl⟩
      obtain ⟨n, l, p, q, h5, h6, hf⟩ := hsome
      rw [hf] at sS sI
      exact ⟨n, l, p, q, _, h5, h6, sS, sI⟩
  · exact ⟨_, _, _, _, _, by simp, by simp, fromS_bad rs hrs h, fromI_bad rs hrs h⟩
end Go.Vx
