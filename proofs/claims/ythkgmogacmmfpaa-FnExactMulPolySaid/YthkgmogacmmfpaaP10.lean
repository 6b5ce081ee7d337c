/- MulPoly: products of polynomials. -/
import Derived.Test.YthkgmogacmmfpaaP9
import Derived.Test.YthkgmogacmmfpaaPM
set_option linter.unusedVariables false
set_option linter.unusedSectionVars false
set_option linter.unusedSimpArgs false
namespace Go.Vx
open Go.Proofs
set_option maxRecDepth 100000

theorem zeros_cat {r z : List PL} {n m c : Nat} (hm : m ≤ n) (hc : c = min m (n - m)) :
    (List.replicate m r ++ List.replicate (n - m) z).take m ++ (((List.replicate m r ++ List.replicate (n - m) z).drop 0).take c ++ (List.replicate m r ++ List.replicate (n - m) z).drop (m + c)) = List.replicate (m + c) r ++ List.replicate (n - (m + c)) z := by
  have h1 : (List.replicate m r ++ List.replicate (n - m) z).take m = List.replicate m r := by rw [List.take_left' (by simp)]
  have h2 : ((List.replicate m r ++ List.replicate (n - m) z).drop 0).take c = List.replicate c r := by
    rw [List.drop_zero, List.take_append_of_le_length (by simp; omega), List.take_replicate, Nat.min_eq_left (by omega)]
  have h3 : (List.replicate m r ++ List.replicate (n - m) z).drop (m + c) = List.replicate (n - (m + c)) z := by
    rw [List.drop_append, List.drop_eq_nil_of_le (by simp), List.nil_append, List.drop_replicate, List.length_replicate]
    congr 1
    omega
  rw [h1, h2, h3, ← List.append_assoc, List.replicate_append_replicate]
theorem repeat_den (r : List PL) (n : Nat) (hn : n ≤ 1000) : Dh 100 [(false, [.arr 4 [r]]), iP (n : Int)] 41 4 (List.replicate n r) := by
  refine goH Try.func100 rfl rfl ?_
  have dM := bmul_den n (by omega)
  repeat refine vs ?_
  conv => whnf
  refine Wr.mk 1 (show IntKind.u64.wrap 1 = 1 from wrapU (by omega) (by omega)) ?_
  repeat refine vs ?_
  conv => whnf
  refine CallS.mk _ rfl true true _ (dM) rfl ?_
  repeat refine vs ?_
  conv => whnf
  refine MakeR.mk n rfl rfl (by omega) true ?_
  repeat refine vs ?_
  conv => whnf
  refine CpS.mk (min 1 n) (by simp) (List.replicate (min 1 n) r ++ List.replicate (n - min 1 n) zRow) ?_ ?_
  · rcases Nat.eq_zero_or_pos n with h | h
    · subst h; rfl
    · rw [Nat.min_eq_left h, List.drop_replicate]; rfl
  repeat refine vs ?_
  conv => whnf
  refine ⟨by repeat' (first | exact True.intro | refine ⟨rfl, ?_⟩), ?_⟩
  repeat refine vs ?_
  conv => whnf
  refine EVs.loopU (fun m : Nat => m ≤ n ∧ (n = 0 ∨ 1 ≤ m)) (fun m => n - m) (fun m => [(7, .v false [.own (30, 0) 41 (.arr 4 (List.replicate m r ++ List.replicate (n - m) zRow))]), (8, .v false [.p (.int .i64 (m : Int))]), (30, .any), (31, .any)]) (min 1 n) (by omega) ?_ ?_
  · refine Wk.le ?_
    repeat' (first | exact LeT.nil | refine LeT.drop1 ?_ | refine LeT.same1 ?_ | refine LeT.own1 ?_ | refine LeT.ownR ?_ | (refine LeT.deepR ?_ rfl))
  rintro m ⟨hm, hm1⟩
  have hlen : (List.replicate m r ++ List.replicate (n - m) zRow).length = n := by simp; omega
  refine go1 ?_
  repeat refine vs ?_
  conv => whnf
  by_cases h1 : (m : Int) < (List.replicate m r ++ List.replicate (n - m) zRow).length
  · repeat refine vs ?_
    conv => whnf
    refine SubK.mk (m) (n) (by first | rfl | (show _ = _; omega)) (by first | rfl | (show _ = _; omega)) (by omega) (by omega) ?_
    repeat refine vs ?_
    conv => whnf
    refine SubK.mk (0) (m) (by first | rfl | (show _ = _; omega)) (by first | rfl | (show _ = _; omega)) (by omega) (by omega) ?_
    repeat refine vs ?_
    conv => whnf
    refine CpS.mk (min m (n - m)) (by simp) (List.replicate (m + min m (n - m)) r ++ List.replicate (n - (m + min m (n - m))) zRow) (zeros_cat hm rfl).symm ?_
    repeat refine vs ?_
    conv => whnf
    refine ⟨by repeat' (first | exact True.intro | refine ⟨rfl, ?_⟩), ?_⟩
    repeat refine vs ?_
    conv => whnf
    refine ⟨m + min m (n - m), by omega, by omega, ?_⟩
    rw [Int.natCast_add]
    refine Wk.le ?_
    repeat' (first | exact LeT.nil | refine LeT.drop1 ?_ | refine LeT.same1 ?_ | refine LeT.own1 ?_ | refine LeT.ownR ?_ | (refine LeT.deepR ?_ rfl))
  · have : m = n := by omega
    subst this
    repeat refine vs ?_
    conv => whnf
    rw [Nat.sub_self, List.replicate_zero, List.append_nil]
    exact ⟨_, rfl⟩

/-- One row of a product: a times each member of q, added from place j on. -/
def mulRow : List (Int × Int) → Nat → Int × Int → List (Int × Int) → List (Int × Int)
  | out, _, _, [] => out
  | out, j, a, b :: q => mulRow (out.set j (addR (out.getD j (0, 1)) (mulR a b))) (j + 1) a q
def mulRows : List (Int × Int) → Nat → List (Int × Int) → List (Int × Int) → List (Int × Int)
  | out, _, [], _ => out
  | out, i, a :: p, q => mulRows (mulRow out i a q) (i + 1) p q
def timesF (p q : List (Int × Int)) : List (Int × Int) := mulRows (List.replicate (p.length + q.length) (0, 1)) 0 p q
theorem mulRow_len : ∀ {q out : List (Int × Int)} {j : Nat} {a : Int × Int}, (mulRow out j a q).length = out.length
  | [], _, _, _ => rfl
  | b :: q, out, j, a => by rw [mulRow, mulRow_len, List.length_set]
theorem mulRows_len : ∀ {p q out : List (Int × Int)} {i : Nat}, (mulRows out i p q).length = out.length
  | [], _, _, _ => rfl
  | a :: p, q, out, i => by rw [mulRows, mulRows_len, mulRow_len]
theorem timesF_len (p q : List (Int × Int)) : (timesF p q).length = p.length + q.length := by unfold timesF; rw [mulRows_len]; simp
/-- Members are short: from place j on K, ahead of it L. -/
def okAt (K L j : Nat) (l : List (Int × Int)) : Prop := ∀ (t : Nat) (f : Int × Int), l[t]? = some f → okF (if t < j then L else K) f
theorem okAt_step {K L M N j : Nat} {out : List (Int × Int)} {a b : Int × Int} (h : okAt K L j out) (hj : j < out.length) (ha : okF M a) (hb : okF N b) (hL : K + (M + N) + 1 ≤ L) : okAt K L (j + 1) (out.set j (addR (out.getD j (0, 1)) (mulR a b))) := by
  intro t f hf
  rw [List.getElem?_set] at hf
  split at hf
  · rename_i e
    subst e
    cases hf
    rw [if_pos (by omega)]
    have h1 := h j out[j] (List.getElem?_eq_getElem hj)
    rw [if_neg (by omega)] at h1
    have e : out.getD j (0, 1) = out[j] := by simp [List.getD, hj]
    rw [e]
    exact (addR_ok h1 (mulR_ok ha hb)).mono hL
  · rename_i e
    have h1 := h t f hf
    by_cases c : t < j
    · rw [if_pos c] at h1
      rw [if_pos (by omega)]
      exact h1
    · rw [if_neg c] at h1
      rw [if_neg (by omega)]
      exact h1
theorem mulRow_ok {K L M N : Nat} {a : Int × Int} (ha : okF M a) (hL : K + (M + N) + 1 ≤ L) : ∀ {q out : List (Int × Int)} {j : Nat}, okAt K L j out → j + q.length ≤ out.length → (∀ b ∈ q, okF N b) → okAt K L (j + q.length) (mulRow out j a q)
  | [], out, j, h, _, _ => h
  | b :: q, out, j, h, hl, hq => by
    have h1 := okAt_step h (by simp at hl; omega) ha (hq b List.mem_cons_self) hL
    have h2 := mulRow_ok (j := j + 1) ha hL h1 (by rw [List.length_set]; simp at hl; omega) (fun d hd => hq d (List.mem_cons_of_mem _ hd))
    rw [List.length_cons, show j + (q.length + 1) = j + 1 + q.length by omega]
    exact h2
theorem okAt.all {K L j : Nat} {l : List (Int × Int)} (h : okAt K L j l) (hKL : K ≤ L) : ∀ f ∈ l, okF L f := by
  intro f hf
  obtain ⟨t, ht⟩ := List.getElem?_of_mem hf
  have := h t f ht
  split at this
  · exact this
  · exact this.mono hKL
theorem okAt_of {K L j : Nat} {l : List (Int × Int)} (h : ∀ f ∈ l, okF K f) (hKL : K ≤ L) : okAt K L j l := fun t f hf => by
  have := h f (List.mem_of_getElem? hf)
  split
  · exact this.mono hKL
  · exact this
theorem mulRows_ok {M N : Nat} : ∀ {p q out : List (Int × Int)} {i K : Nat}, (∀ f ∈ out, okF K f) → i + p.length + q.length ≤ out.length → (∀ a ∈ p, okF M a) → (∀ b ∈ q, okF N b) → ∀ f ∈ mulRows out i p q, okF (K + p.length * (M + N + 1)) f
  | [], q, out, i, K, h, _, _, _ => fun f hf => (h f hf).mono (by simp)
  | a :: p, q, out, i, K, h, hl, hp, hq => by
    have h1 := mulRow_ok (K := K) (L := K + (M + N) + 1) (hp a List.mem_cons_self) (Nat.le_refl _) (okAt_of (j := i) h (by omega)) (by simp at hl; omega) hq
    have h2 := mulRows_ok (i := i + 1) (h1.all (by omega)) (by rw [mulRow_len]; simp at hl; omega) (fun d hd => hp d (List.mem_cons_of_mem _ hd)) hq
    intro f hf
    refine (h2 f hf).mono ?_
    rw [List.length_cons, Nat.add_mul, Nat.one_mul]
    omega
theorem timesF_ok {M N : Nat} {p q : List (Int × Int)} (hp : ∀ a ∈ p, okF M a) (hq : ∀ b ∈ q, okF N b) : ∀ f ∈ timesF p q, okF (4 + p.length * (M + N + 1)) f := by
  unfold timesF
  refine mulRows_ok (fun f hf => ?_) (by simp) hp hq
  rw [List.mem_replicate] at hf
  rw [hf.2]
  exact whole_R 0 (by omega) (by omega)
theorem getD_cell {l : List (Int × Int)} {i : Nat} (h : i < l.length) : (l.map cellR)[i]? = some (cellR (l.getD i (0, 1))) := by
  rw [List.getElem?_map, List.getElem?_eq_getElem h]
  simp [List.getD, h]
theorem set_cell {l : List (Int × Int)} {i : Nat} {f : Int × Int} : (l.map cellR).set i (cellR f) = (l.set i f).map cellR := by rw [List.map_set]

section
variable (p q : List (Int × Int)) (hpl : p.length ≤ 100) (hql : q.length ≤ 100) (hp : ∀ f ∈ p, okF 1000000 f) (hq : ∀ f ∈ q, okF 1000000 f)
include hpl hql hp hq
set_option maxHeartbeats 4000000 in
theorem times_den : D 79 [(false, [.arr 4 (p.map cellR)]), (false, [.arr 4 (q.map cellR)])] false (.one (false, [.arr 4 ((trimF (timesF p q)).map cellR)])) := by
  have hrl : (p.map cellR).length = p.length := by simp
  have hrl2 : (q.map cellR).length = q.length := by simp
  have hsl := timesF_len p q
  have hso := timesF_ok hp hq
  have dT := trim_den (timesF p q) (by omega) (fun f hf => (hso f hf).mono (by have := Nat.mul_le_mul_right (1000000 + 1000000 + 1) hpl; omega))
  have d0 := whole_R 0 (by omega) (by omega)
  refine go Try.func79 rfl rfl ?_
  repeat refine vs ?_
  conv => whnf
  refine CallS.mk _ rfl true false _ (whole_den 0 (by omega) (by omega)) rfl ?_
  repeat refine vs ?_
  conv => whnf
  refine NewK.mk false ?_
  repeat refine vs ?_
  conv => whnf
  rw [show ((p.map cellR).length : Int) + ((q.map cellR).length : Int) = ((p.length + q.length : Nat) : Int) by rw [hrl, hrl2]; omega]
  refine CallM.sh rfl _ rfl rfl _ _ _ (repeat_den (cellR (0, 1)) (p.length + q.length) (by omega)) ?_
  repeat refine vs ?_
  conv => whnf
  refine EVs.un (1000017, 0) ?_
  refine EVs.loopU (fun s : Nat × List (Int × Int) => s.1 ≤ p.length ∧ s.2.length = p.length + q.length ∧ (∀ f ∈ s.2, okF (4 + s.1 * 2000001) f) ∧ mulRows s.2 s.1 (p.drop s.1) q = timesF p q) (fun s => p.length - s.1)
    (fun | (i, l) => [(5, .v false [.own (1000017, 0) 41 (.arr 4 (l.map cellR))]), (17, .any), (20, .v false [.p (.int .i64 (i : Int))])]) (0, List.replicate (p.length + q.length) (0, 1)) ⟨by dsimp only; omega, by simp, fun f hf => by
      rw [List.mem_replicate] at hf
      rw [hf.2]
      exact d0.mono (by omega), by rw [List.drop_zero]; rfl⟩ ?_ ?_
  · have e : (List.replicate (p.length + q.length) ((0, 1) : Int × Int)).map cellR = List.replicate (p.length + q.length) (cellR (0, 1)) := List.map_replicate
    rw [← e]
    refine Wk.le ?_
    repeat' (first | exact LeT.nil | refine LeT.drop1 ?_ | refine LeT.same1 ?_ | refine LeT.own1 ?_ | refine LeT.ownR ?_ | (refine LeT.deepR ?_ rfl))
  rintro ⟨i, l⟩ ⟨hi, hll, hlo, hinv⟩
  dsimp only at hi hll hlo hinv
  refine go1 ?_
  repeat refine vs ?_
  conv => whnf
  by_cases h1 : (i : Int) < (p.map cellR).length
  · have hlt : i < p.length := by omega
    have ha := hp p[i] (List.getElem_mem hlt)
    have ga : (p.map cellR)[i]? = some (cellR p[i]) := by rw [List.getElem?_map, List.getElem?_eq_getElem hlt]; rfl
    have hd : p.drop i = p[i] :: p.drop (i + 1) := List.drop_eq_getElem_cons hlt
    rw [hd] at hinv
    generalize p[i] = a at *
    have hinv2 : mulRows (mulRow l i a q) (i + 1) (p.drop (i + 1)) q = timesF p q := hinv
    repeat refine vs ?_
    conv => whnf
    first | refine Idx.mk (i) (by first | rfl | omega) (by omega) ?_ | skip
    repeat refine vs ?_
    conv => whnf
    refine LdR.mk (cellR a) ga ?_
    repeat refine vs ?_
    conv => whnf
    -- the inner loop
    refine EVs.loopU (fun s : Nat × List (Int × Int) => s.1 ≤ q.length ∧ s.2.length = p.length + q.length ∧ okAt (4 + i * 2000001) (4 + (i + 1) * 2000001) (i + s.1) s.2 ∧ mulRow s.2 (i + s.1) a (q.drop s.1) = mulRow l i a q) (fun s => q.length - s.1)
      (fun | (j, l) => [(5, .v false [.own (1000017, 0) 41 (.arr 4 (l.map cellR))]), (27, .v false [.p (.int .i64 (j : Int))])]) (0, l) ⟨by dsimp only; omega, hll, okAt_of hlo (by omega), by rw [List.drop_zero]; rfl⟩ (Wk.le (by repeat' (first | exact LeT.nil | refine LeT.drop1 ?_ | refine LeT.same1 ?_ | refine LeT.own1 ?_ | refine LeT.ownR ?_ | (refine LeT.deepR ?_ rfl)))) ?_
    rintro ⟨j, m⟩ ⟨hj, hml, hmo, hjnv⟩
    dsimp only at hj hml hmo hjnv
    refine go1 ?_
    repeat refine vs ?_
    conv => whnf
    by_cases h2 : (j : Int) < (q.map cellR).length
    · have hjt : j < q.length := by omega
      have hb := hq q[j] (List.getElem_mem hjt)
      have gb : (q.map cellR)[j]? = some (cellR q[j]) := by rw [List.getElem?_map, List.getElem?_eq_getElem hjt]; rfl
      have hd2 : q.drop j = q[j] :: q.drop (j + 1) := List.drop_eq_getElem_cons hjt
      rw [hd2] at hjnv
      generalize q[j] = b at *
      have hst := okAt_step hmo (by omega) ha hb (by omega)
      have gm := getD_cell (l := m) (i := i + j) (by omega)
      have hmo1 := hmo (i + j) (m.getD (i + j) (0, 1)) (by simp [List.getD, show i + j < m.length by omega])
      rw [if_neg (by omega)] at hmo1
      have hjnv2 : mulRow (m.set (i + j) (addR (m.getD (i + j) (0, 1)) (mulR a b))) (i + j + 1) a (q.drop (j + 1)) = mulRow l i a q := hjnv
      have hset := set_cell (l := m) (i := i + j) (f := addR (m.getD (i + j) (0, 1)) (mulR a b))
      have hlen2 : (m.set (i + j) (addR (m.getD (i + j) (0, 1)) (mulR a b))).length = p.length + q.length := by rw [List.length_set]; exact hml
      generalize m.getD (i + j) (0, 1) = c at *
      have dM := mulR_I (a := a) (b := b) (ha.mono (by omega)) (hb.mono (by omega))
      have hm2 := mulR_ok ha hb
      have hbig : 4 + i * 2000001 ≤ 1000000000 := by omega
      have dA := addR_I (a := c) (b := mulR a b) (hmo1.mono (by omega)) (hm2.mono (by omega))
      generalize mulR a b = d at *
      generalize addR c d = e at *
      have hmc : (m.map cellR).length = p.length + q.length := by rw [List.length_map]; exact hml
      repeat refine vs ?_
      conv => whnf
      first | refine Idx.mk (j) (by first | rfl | omega) (by omega) ?_ | skip
      repeat refine vs ?_
      conv => whnf
      refine LdR.mk (cellR b) gb ?_
      repeat refine vs ?_
      conv => whnf
      first | refine Idx.mk ((i + j)) (by first | rfl | omega) (by omega) ?_ | skip
      repeat refine vs ?_
      conv => whnf
      refine LdR.mk (cellR c) gm ?_
      repeat refine vs ?_
      conv => whnf
      refine CallS.mk _ rfl true false _ (dM) rfl ?_
      repeat refine vs ?_
      conv => whnf
      refine CallS.mk _ rfl true false _ (dA) rfl ?_
      repeat refine vs ?_
      conv => whnf
      have hs2 : (m.map cellR).set (i + j) [.bool (decide (e.1 < 0)), .ints (Lm.lim e.1.natAbs), .bool (decide (e.2 < 0)), .ints (Lm.lim e.2.natAbs)] = (m.set (i + j) e).map cellR := hset
      rw [hs2]
      refine ⟨(j + 1, m.set (i + j) e), by dsimp only; omega, ⟨by dsimp only; omega, hlen2, hst, hjnv2⟩, ?_⟩
      refine Wk.le ?_
      repeat' (first | exact LeT.nil | refine LeT.drop1 ?_ | refine LeT.same1 ?_ | refine LeT.own1 ?_ | refine LeT.ownR ?_ | (refine LeT.deepR ?_ rfl))
    · have hjq : j = q.length := by omega
      subst hjq
      rw [List.drop_length] at hjnv
      have hjnv2 : m = mulRow l i a q := hjnv
      rw [← hjnv2] at hinv2
      repeat refine vs ?_
      conv => whnf
      refine ⟨(i + 1, m), by dsimp only; omega, ⟨by dsimp only; omega, hml, fun f hf => hmo.all (by omega) f hf, hinv2⟩, ?_⟩
      refine Wk.le ?_
      repeat' (first | exact LeT.nil | refine LeT.drop1 ?_ | refine LeT.same1 ?_ | refine LeT.own1 ?_ | refine LeT.ownR ?_ | (refine LeT.deepR ?_ rfl))
  · have hip : i = p.length := by omega
    subst hip
    rw [List.drop_length] at hinv
    have hinv2 : l = timesF p q := hinv
    rw [hinv2]
    repeat refine vs ?_
    conv => whnf
    refine CallM.rd _ rfl _ (goE (dT)) (.inr rfl) ?_
    repeat refine vs ?_
    conv => whnf
    first | rfl | exact ⟨rfl, rfl⟩ | exact ⟨by simp [toRes], rfl⟩
set_option maxHeartbeats 4000000 in
theorem l4Mul_den : D 78 [(false, [.arr 4 (p.map cellR)]), (false, [.arr 4 (q.map cellR)])] false (.one (false, [.arr 4 ((trimF (timesF p q)).map cellR)])) := by
  have hrl : (p.map cellR).length = p.length := by simp
  have hrl2 : (q.map cellR).length = q.length := by simp
  have hsl := timesF_len p q
  have hso := timesF_ok hp hq
  have dT := l4Cut_den (timesF p q) (by omega) (fun f hf => (hso f hf).mono (by have := Nat.mul_le_mul_right (1000000 + 1000000 + 1) hpl; omega))
  have d0 := whole_R 0 (by omega) (by omega)
  refine go Try.func78 rfl rfl ?_
  repeat refine vs ?_
  conv => whnf
  refine EVs.loopU (fun i : Nat => i ≤ p.length + q.length) (fun i => p.length + q.length - i) (fun i => [(5, .v false [.own (90, 0) 41 (.arr 4 ((List.replicate i ((0, 1) : Int × Int)).map cellR))]), (6, .v false [.p (.int .i64 (i : Int))])]) 0 (by omega) ?_ ?_
  · refine Wk.le ?_
    repeat' (first | exact LeT.nil | refine LeT.drop1 ?_ | refine LeT.same1 ?_ | refine LeT.own1 ?_ | refine LeT.ownR ?_ | (refine LeT.deepR ?_ rfl))
  · intro i hi
    have hln : ((List.replicate i ((0, 1) : Int × Int)).map cellR).length = i := by simp
    have hrow : (List.replicate i ((0, 1) : Int × Int)).map cellR ++ [[.bool (decide ((0 : Int) < 0)), .ints (Lm.lim (0 : Int).natAbs), .bool (decide ((1 : Int) < 0)), .ints (Lm.lim (1 : Int).natAbs)]] = (List.replicate (i + 1) ((0, 1) : Int × Int)).map cellR := by
      rw [List.replicate_succ', List.map_append]; rfl
    refine go1 ?_
    repeat refine vs ?_
    conv => whnf
    by_cases h1 : (i : Int) < (p.map cellR).length + (q.map cellR).length
    · repeat refine vs ?_
      conv => whnf
      refine CallS.mk _ rfl true false _ (l2Int_den 0 (by omega) (by omega)) rfl ?_
      repeat refine vs ?_
      conv => whnf
      refine NewK.mk false ?_
      repeat refine vs ?_
      conv => whnf
      refine NewK.mk true ?_
      repeat refine vs ?_
      conv => whnf
      rw [hrow]
      refine ⟨i + 1, by omega, by omega, ?_⟩
      refine Wk.le ?_
      repeat' (first | exact LeT.nil | refine LeT.drop1 ?_ | refine LeT.same1 ?_ | refine LeT.own1 ?_ | refine LeT.ownR ?_ | (refine LeT.deepR ?_ rfl))
    · have : i = p.length + q.length := by omega
      subst this
      repeat refine vs ?_
      conv => whnf
      refine EVs.un (90, 0) ?_
      refine EVs.loopU (fun s : Nat × List (Int × Int) => s.1 ≤ p.length ∧ s.2.length = p.length + q.length ∧ (∀ f ∈ s.2, okF (4 + s.1 * 2000001) f) ∧ mulRows s.2 s.1 (p.drop s.1) q = timesF p q) (fun s => p.length - s.1)
        (fun | (i, l) => [(5, .v false [.own (90, 0) 41 (.arr 4 (l.map cellR))]), (26, .v false [.p (.int .i64 (i : Int))])]) (0, List.replicate (p.length + q.length) (0, 1)) ⟨by dsimp only; omega, by simp, fun f hf => by
          rw [List.mem_replicate] at hf
          rw [hf.2]
          exact d0.mono (by omega), by rw [List.drop_zero]; rfl⟩ ?_ ?_
      · refine Wk.le ?_
        repeat' (first | exact LeT.nil | refine LeT.drop1 ?_ | refine LeT.same1 ?_ | refine LeT.own1 ?_ | refine LeT.ownR ?_ | (refine LeT.deepR ?_ rfl))
      rintro ⟨i, l⟩ ⟨hi, hll, hlo, hinv⟩
      dsimp only at hi hll hlo hinv
      refine go1 ?_
      repeat refine vs ?_
      conv => whnf
      by_cases h1 : (i : Int) < (p.map cellR).length
      · have hlt : i < p.length := by omega
        have ha := hp p[i] (List.getElem_mem hlt)
        have ga : (p.map cellR)[i]? = some (cellR p[i]) := by rw [List.getElem?_map, List.getElem?_eq_getElem hlt]; rfl
        have hd : p.drop i = p[i] :: p.drop (i + 1) := List.drop_eq_getElem_cons hlt
        rw [hd] at hinv
        generalize p[i] = a at *
        have hinv2 : mulRows (mulRow l i a q) (i + 1) (p.drop (i + 1)) q = timesF p q := hinv
        repeat refine vs ?_
        conv => whnf
        first | refine Idx.mk (i) (by first | rfl | omega) (by omega) ?_ | skip
        repeat refine vs ?_
        conv => whnf
        refine LdR.mk (cellR a) ga ?_
        repeat refine vs ?_
        conv => whnf
        refine EVs.loopU (fun s : Nat × List (Int × Int) => s.1 ≤ q.length ∧ s.2.length = p.length + q.length ∧ okAt (4 + i * 2000001) (4 + (i + 1) * 2000001) (i + s.1) s.2 ∧ mulRow s.2 (i + s.1) a (q.drop s.1) = mulRow l i a q) (fun s => q.length - s.1)
          (fun | (j, l) => [(5, .v false [.own (90, 0) 41 (.arr 4 (l.map cellR))]), (33, .v false [.p (.int .i64 (j : Int))])]) (0, l) ⟨by dsimp only; omega, hll, okAt_of hlo (by omega), by rw [List.drop_zero]; rfl⟩ (Wk.le (by repeat' (first | exact LeT.nil | refine LeT.drop1 ?_ | refine LeT.same1 ?_ | refine LeT.own1 ?_ | refine LeT.ownR ?_ | (refine LeT.deepR ?_ rfl)))) ?_
        rintro ⟨j, m⟩ ⟨hj, hml, hmo, hjnv⟩
        dsimp only at hj hml hmo hjnv
        refine go1 ?_
        repeat refine vs ?_
        conv => whnf
        by_cases h2 : (j : Int) < (q.map cellR).length
        · have hjt : j < q.length := by omega
          have hb := hq q[j] (List.getElem_mem hjt)
          have gb : (q.map cellR)[j]? = some (cellR q[j]) := by rw [List.getElem?_map, List.getElem?_eq_getElem hjt]; rfl
          have hd2 : q.drop j = q[j] :: q.drop (j + 1) := List.drop_eq_getElem_cons hjt
          rw [hd2] at hjnv
          generalize q[j] = b at *
          have hst := okAt_step hmo (by omega) ha hb (by omega)
          have gm := getD_cell (l := m) (i := i + j) (by omega)
          have hmo1 := hmo (i + j) (m.getD (i + j) (0, 1)) (by simp [List.getD, show i + j < m.length by omega])
          rw [if_neg (by omega)] at hmo1
          have hjnv2 : mulRow (m.set (i + j) (addR (m.getD (i + j) (0, 1)) (mulR a b))) (i + j + 1) a (q.drop (j + 1)) = mulRow l i a q := hjnv
          have hset := set_cell (l := m) (i := i + j) (f := addR (m.getD (i + j) (0, 1)) (mulR a b))
          have hlen2 : (m.set (i + j) (addR (m.getD (i + j) (0, 1)) (mulR a b))).length = p.length + q.length := by rw [List.length_set]; exact hml
          generalize m.getD (i + j) (0, 1) = c at *
          have dM := mulR_S (a := a) (b := b) (ha.mono (by omega)) (hb.mono (by omega))
          have hm2 := mulR_ok ha hb
          have hbig : 4 + i * 2000001 ≤ 1000000000 := by omega
          have dA := addR_S (a := c) (b := mulR a b) (hmo1.mono (by omega)) (hm2.mono (by omega))
          generalize mulR a b = d at *
          generalize addR c d = e at *
          have hmc : (m.map cellR).length = p.length + q.length := by rw [List.length_map]; exact hml
          have hs2 : (m.map cellR).set (i + j) [.bool (decide (e.1 < 0)), .ints (Lm.lim e.1.natAbs), .bool (decide (e.2 < 0)), .ints (Lm.lim e.2.natAbs)] = (m.set (i + j) e).map cellR := hset
          repeat refine vs ?_
          conv => whnf
          first | refine Idx.mk (j) (by first | rfl | omega) (by omega) ?_ | skip
          repeat refine vs ?_
          conv => whnf
          refine LdR.mk (cellR b) gb ?_
          repeat refine vs ?_
          conv => whnf
          first | refine Idx.mk ((i + j)) (by first | rfl | omega) (by omega) ?_ | skip
          repeat refine vs ?_
          conv => whnf
          refine LdR.mk (cellR c) gm ?_
          repeat refine vs ?_
          conv => whnf
          refine CallS.mk _ rfl true false _ (dM) rfl ?_
          repeat refine vs ?_
          conv => whnf
          refine CallS.mk _ rfl true false _ (dA) rfl ?_
          repeat refine vs ?_
          conv => whnf
          rw [hs2]
          refine ⟨(j + 1, m.set (i + j) e), by dsimp only; omega, ⟨by dsimp only; omega, hlen2, hst, hjnv2⟩, ?_⟩
          refine Wk.le ?_
          repeat' (first | exact LeT.nil | refine LeT.drop1 ?_ | refine LeT.same1 ?_ | refine LeT.own1 ?_ | refine LeT.ownR ?_ | (refine LeT.deepR ?_ rfl))
        · have hjq : j = q.length := by omega
          subst hjq
          rw [List.drop_length] at hjnv
          have hjnv2 : m = mulRow l i a q := hjnv
          rw [← hjnv2] at hinv2
          repeat refine vs ?_
          conv => whnf
          refine ⟨(i + 1, m), by dsimp only; omega, ⟨by dsimp only; omega, hml, fun f hf => hmo.all (by omega) f hf, hinv2⟩, ?_⟩
          refine Wk.le ?_
          repeat' (first | exact LeT.nil | refine LeT.drop1 ?_ | refine LeT.same1 ?_ | refine LeT.own1 ?_ | refine LeT.ownR ?_ | (refine LeT.deepR ?_ rfl))
      · have hip : i = p.length := by omega
        subst hip
        rw [List.drop_length] at hinv
        have hinv2 : l = timesF p q := hinv
        rw [hinv2]
        repeat refine vs ?_
        conv => whnf
        refine CallS.mk _ rfl false false _ (dT) rfl ?_
        repeat refine vs ?_
        conv => whnf
        first | rfl | exact ⟨rfl, rfl⟩ | exact ⟨by simp [toRes], rfl⟩
end
set_option maxHeartbeats 4000000 in
theorem mulPolyBoth (rs ss : List RawQ) (hrs : shortP 1048576 rs) (hss : shortP 1048576 ss) : ∃ rr b, shortP 1048576 rr ∧ D 41 [polQ rs, polQ ss] false (.tup [polQ rr, bP b]) ∧ D 42 [polQ rs, polQ ss] true (.tup [polQ rr, bP b]) := by
  have gS := l4Both_den rs ss hrs.big hss.big
  have gI := goodPolyI_den rs hrs.big
  have gJ := goodPolyI_den ss hss.big
  cases hg : goodP 7 6 rs with
  | false =>
    rw [hg] at gS gI
    refine ⟨[], false, ⟨by simp, fun r hr => by cases hr⟩, goP 4 Try.func41 rfl rfl ?_, goN 4 Try.func42 rfl rfl ?_⟩
    · repeat refine vs ?_
      conv => whnf
      refine CallS.mk _ rfl true true _ (gS) rfl ?_
      repeat refine vs ?_
      conv => whnf
      first | rfl | exact ⟨rfl, rfl⟩ | exact ⟨by simp [toRes], rfl⟩
    · repeat refine vs ?_
      conv => whnf
      refine CallS.mk _ rfl true true _ (gI) rfl ?_
      repeat refine vs ?_
      conv => whnf
      first | rfl | exact ⟨rfl, rfl⟩ | exact ⟨by simp [toRes], rfl⟩
  | true =>
    cases hh : goodP 7 6 ss with
    | false =>
      rw [hg] at gI
      rw [hh] at gJ
      rw [hg, hh] at gS
      refine ⟨[], false, ⟨by simp, fun r hr => by cases hr⟩, goP 4 Try.func41 rfl rfl ?_, goN 4 Try.func42 rfl rfl ?_⟩
      · repeat refine vs ?_
        conv => whnf
        refine CallS.mk _ rfl true true _ (gS) rfl ?_
        repeat refine vs ?_
        conv => whnf
        first | rfl | exact ⟨rfl, rfl⟩ | exact ⟨by simp [toRes], rfl⟩
      · repeat refine vs ?_
        conv => whnf
        refine CallS.mk _ rfl true true _ (gI) rfl ?_
        repeat refine vs ?_
        conv => whnf
        refine CallS.mk _ rfl true true _ (gJ) rfl ?_
        repeat refine vs ?_
        conv => whnf
        first | rfl | exact ⟨rfl, rfl⟩ | exact ⟨by simp [toRes], rfl⟩
    | true =>
      rw [hg] at gI
      rw [hh] at gJ
      rw [hg, hh] at gS
      obtain ⟨p, rfl, hpl, hpo, _⟩ := goodP_ex hg
      obtain ⟨q, rfl, hql, hqo, _⟩ := goodP_ex hh
      have hp : ∀ f ∈ p, okF 1000000 f := fun f hf => (hpo f hf).1.mono (by omega)
      have hq : ∀ f ∈ q, okF 1000000 f := fun f hf => (hqo f hf).1.mono (by omega)
      have hsl := timesF_len p q
      have hso : ∀ f ∈ timesF p q, okF 1000000000 f := fun f hf => (timesF_ok hp hq f hf).mono (by have := Nat.mul_le_mul_right (1000000 + 1000000 + 1) hpl; omega)
      have dS := l4Mul_den p q (by omega) (by omega) hp hq
      have dI := times_den p q (by omega) (by omega) hp hq
      have fS := l4Fits_den (trimF (timesF p q)) (by have := trimF_len (timesF p q); omega) (fun f hf => hso f (trimF_sub hf))
      have fI := checkedPoly_den (trimF (timesF p q)) (by have := trimF_len (timesF p q); omega) (fun f hf => hso f (trimF_sub hf))
      have e1 : okP (trimF (timesF p q)) = goodP 7 6 ((trimF (timesF p q)).map qF) := by unfold okP; rw [trimF_trim]
      have e2 : resP (trimF (timesF p q)) = if goodP 7 6 ((trimF (timesF p q)).map qF) then trimF (timesF p q) else [] := by unfold resP; rw [e1, trimF_trim]
      refine ⟨(resP (trimF (timesF p q))).map qF, okP (trimF (timesF p q)), resP_short _, ?_, ?_⟩
      · unfold polQ at *
        rw [map_qF, map_qF] at gS
        rw [map_qF, map_qF, map_qF, e1, e2]
        clear e1 e2 fI dI gI gJ hsl hso
        generalize trimF (timesF p q) = t at *
        generalize (if goodP 7 6 (t.map qF) then t else []) = res at *
        generalize goodP 7 6 (t.map qF) = b at *
        refine go Try.func41 rfl rfl ?_
        repeat refine vs ?_
        conv => whnf
        refine CallS.mk _ rfl true true _ (gS) rfl ?_
        repeat refine vs ?_
        conv => whnf
        refine CallS.mk _ rfl false false _ (dS) rfl ?_
        repeat refine vs ?_
        conv => whnf
        refine CallS.mk _ rfl false false _ (fS) rfl ?_
        repeat refine vs ?_
        conv => whnf
        first | rfl | exact ⟨rfl, rfl⟩ | exact ⟨by simp [toRes], rfl⟩
      · unfold polQ at *
        rw [map_qF] at gI gJ
        rw [map_qF, map_qF, map_qF]
        clear e1 e2 fS dS gS hsl hso
        generalize trimF (timesF p q) = t at *
        generalize resP t = res at *
        generalize okP t = b at *
        refine go Try.func42 rfl rfl ?_
        repeat refine vs ?_
        conv => whnf
        refine CallS.mk _ rfl true true _ (gI) rfl ?_
        repeat refine vs ?_
        conv => whnf
        refine CallS.mk _ rfl true true _ (gJ) rfl ?_
        repeat refine vs ?_
        conv => whnf
        refine CallS.mk _ rfl false false _ (dI) rfl ?_
        repeat refine vs ?_
        conv => whnf
        refine CallS.mk _ rfl true true _ (fI) rfl ?_
        repeat refine vs ?_
        conv => whnf
        first | rfl | exact ⟨rfl, rfl⟩ | exact ⟨by simp [toRes], rfl⟩
end Go.Vx
