/- Chapters 4 and 5: root polynomials; the value at a fraction. -/
import Derived.Test.YtpmgjmkobpeepaaGreatP2
set_option linter.unusedVariables false
set_option linter.unusedSectionVars false
set_option linter.unusedSimpArgs false
namespace Go.Vx
open Go.Proofs
set_option maxRecDepth 100000

theorem okF.mono {K M : Nat} {f : Int × Int} (h : okF K f) (hk : K ≤ M) : okF M f := ⟨h.1, Nat.le_trans h.2.1 hk, Nat.le_trans h.2.2 hk⟩
def mulR (a b : Int × Int) : Int × Int := (nN (a.1 * b.1) (a.2 * b.2), dN (a.1 * b.1) (a.2 * b.2))
def addR (a b : Int × Int) : Int × Int := (nN (addN a.1 a.2 b.1 b.2) (a.2 * b.2), dN (addN a.1 a.2 b.1 b.2) (a.2 * b.2))
def subR (a b : Int × Int) : Int × Int := (nN (addN a.1 a.2 (-b.1) b.2) (a.2 * b.2), dN (addN a.1 a.2 (-b.1) b.2) (a.2 * b.2))
def divR (a b : Int × Int) : Int × Int := (nN (a.1 * b.2) (a.2 * b.1), dN (a.1 * b.2) (a.2 * b.1))
section
variable {K M : Nat} {a b : Int × Int} (ha : okF K a) (hb : okF M b)
include ha hb
theorem mulR_ok : okF (K + M) (mulR a b) :=
  ⟨dN_pos (Int.mul_ne_zero (by have := ha.1; omega) (by have := hb.1; omega)), Nat.le_trans (ln_nN _ _) (Lm.ln_mul _ _ ha.2.1 hb.2.1), Nat.le_trans (ln_dN _ _) (Lm.ln_mul _ _ ha.2.2 hb.2.2)⟩
theorem addR_ok : okF (K + M + 1) (addR a b) :=
  ⟨dN_pos (Int.mul_ne_zero (by have := ha.1; omega) (by have := hb.1; omega)), Nat.le_trans (ln_nN _ _) (Lm.ln_add _ _ (Lm.ln_mul _ _ ha.2.1 hb.2.2) (by have := Lm.ln_mul _ _ hb.2.1 ha.2.2; omega)), Nat.le_trans (ln_dN _ _) (Nat.le_trans (Lm.ln_mul _ _ ha.2.2 hb.2.2) (by omega))⟩
theorem subR_ok : okF (K + M + 1) (subR a b) :=
  ⟨dN_pos (Int.mul_ne_zero (by have := ha.1; omega) (by have := hb.1; omega)), Nat.le_trans (ln_nN _ _) (Lm.ln_add _ _ (Lm.ln_mul _ _ ha.2.1 hb.2.2) (by have := Lm.ln_mul (-b.1) a.2 (by rw [Lm.ln_neg]; exact hb.2.1) ha.2.2; omega)), Nat.le_trans (ln_dN _ _) (Nat.le_trans (Lm.ln_mul _ _ ha.2.2 hb.2.2) (by omega))⟩
theorem divR_ok (h0 : b.1 ≠ 0) : okF (K + M) (divR a b) :=
  ⟨dN_pos (Int.mul_ne_zero (by have := ha.1; omega) h0), Nat.le_trans (ln_nN _ _) (Lm.ln_mul _ _ ha.2.1 hb.2.2), Nat.le_trans (ln_dN _ _) (Lm.ln_mul _ _ ha.2.2 hb.2.1)⟩
end
section
variable {a b : Int × Int} (ha : okF 40000000000 a) (hb : okF 40000000000 b)
include ha hb
theorem mulR_I : D 95 [ratV a.1 a.2, ratV b.1 b.2] true (.one (ratV (mulR a b).1 (mulR a b).2)) := ratMul_den a.1 a.2 b.1 b.2 (by have := ha.1; omega) (by have := hb.1; omega) ha.2.1 ha.2.2 hb.2.1 hb.2.2
theorem mulR_S : D 87 [ratV a.1 a.2, ratV b.1 b.2] true (.one (ratV (mulR a b).1 (mulR a b).2)) := l2Mul_den a.1 a.2 b.1 b.2 (by have := ha.1; omega) (by have := hb.1; omega) ha.2.1 ha.2.2 hb.2.1 hb.2.2
theorem addR_I : D 147 [ratV a.1 a.2, ratV b.1 b.2] true (.one (ratV (addR a b).1 (addR a b).2)) := ratAdd_den a.1 a.2 b.1 b.2 (by have := ha.1; omega) (by have := hb.1; omega) ha.2.1 ha.2.2 hb.2.1 hb.2.2
theorem addR_S : D 103 [ratV a.1 a.2, ratV b.1 b.2] true (.one (ratV (addR a b).1 (addR a b).2)) := l2Add_den a.1 a.2 b.1 b.2 (by have := ha.1; omega) (by have := hb.1; omega) ha.2.1 ha.2.2 hb.2.1 hb.2.2
theorem subR_I : D 94 [ratV a.1 a.2, ratV b.1 b.2] true (.one (ratV (subR a b).1 (subR a b).2)) := ratSub_den a.1 a.2 b.1 b.2 (by have := ha.1; omega) hb.1 ha.2.1 ha.2.2 hb.2.1 hb.2.2
theorem subR_S : D 86 [ratV a.1 a.2, ratV b.1 b.2] true (.one (ratV (subR a b).1 (subR a b).2)) := l2Sub_den a.1 a.2 b.1 b.2 (by have := ha.1; omega) (by have := hb.1; omega) ha.2.1 ha.2.2 hb.2.1 hb.2.2
theorem divR_I (h0 : b.1 ≠ 0) : D 93 [ratV a.1 a.2, ratV b.1 b.2] true (.one (ratV (divR a b).1 (divR a b).2)) := ratDiv_den a.1 a.2 b.1 b.2 (by have := ha.1; omega) (by have := hb.1; omega) ha.2.1 ha.2.2 hb.2.1 hb.2.2 h0
theorem divR_S (h0 : b.1 ≠ 0) : D 85 [ratV a.1 a.2, ratV b.1 b.2] true (.one (ratV (divR a b).1 (divR a b).2)) := l2Div_den a.1 a.2 b.1 b.2 (by have := ha.1; omega) (by have := hb.1; omega) ha.2.1 ha.2.2 hb.2.1 hb.2.2 h0
end
theorem whole_R (n : Int) (h1 : -9223372036854775808 ≤ n) (h2 : n ≤ 9223372036854775807) : okF 4 (n, 1) := ⟨show (0 : Int) < 1 by decide, ln64 h1 h2, show Lm.ln 1 ≤ 4 from ln64 (by decide) (by decide)⟩

/-- Horner's scheme, over the coefficients from the last one on. -/
def horF (x : Int × Int) : Int × Int → List (Int × Int) → Int × Int
  | v, [] => v
  | v, c :: l => horF x (addR (mulR v x) c) l
def atF (fs : List (Int × Int)) (x : Int × Int) : Int × Int := horF x (0, 1) fs.reverse
theorem horF_ok {K M : Nat} {x : Int × Int} (hx : okF K x) : ∀ {l : List (Int × Int)} {v : Int × Int} {s : Nat}, (∀ c ∈ l, okF M c) → okF s v → okF (s + l.length * (K + M + 1)) (horF x v l)
  | [], v, s, _, hv => hv.mono (by simp)
  | c :: l, v, s, hl, hv => by
    have h1 := addR_ok (mulR_ok hv hx) (hl c List.mem_cons_self)
    have h2 := horF_ok hx (l := l) (fun d hd => hl d (List.mem_cons_of_mem _ hd)) h1
    refine h2.mono ?_
    rw [List.length_cons, Nat.add_mul, Nat.one_mul]
    omega
theorem take_rev {α : Type} {l : List α} {k : Nat} (h : k < l.length) : (l.take (k + 1)).reverse = l[k] :: (l.take k).reverse := by
  rw [List.take_succ_eq_append_getElem h, List.reverse_append]
  rfl
section
variable (fs : List (Int × Int)) (x : Int × Int) (hl : fs.length ≤ 10) (hq : ∀ f ∈ fs, okF 1000000000 f) (hx : okF 1000000000 x)
include hl hq hx
theorem at_den : D 132 [(false, [.arr 4 (fs.map cellR)]), ratV x.1 x.2] false (.one (ratV (atF fs x).1 (atF fs x).2)) := by
  have hrl : (fs.map cellR).length = fs.length := by simp
  refine go Tryz.func132 rfl rfl ?_
  repeat refine vs ?_
  conv => whnf
  refine CallS.mk _ rfl true false _ (whole_den 0 (by omega) (by omega)) rfl ?_
  repeat refine vs ?_
  conv => whnf
  refine EVs.loopU (fun s : Int × Int × Int => -1 ≤ s.1 ∧ s.1 + 1 ≤ fs.length ∧ okF (4 + (fs.length - (s.1 + 1).toNat) * 2000000001) s.2 ∧ horF x s.2 (fs.take (s.1 + 1).toNat).reverse = atF fs x) (fun s => (s.1 + 1).toNat)
    (fun | (k, v, d) => [(5, .box (5, 0) ((cellR (v, d)).map .p) 0), (6, .v false [.p (.int .i64 k)])]) ((fs.length : Int) - 1, (0, 1)) ⟨by dsimp only; omega, by dsimp only; omega, (whole_R 0 (by omega) (by omega)).mono (by omega), by dsimp only; rw [show ((fs.length : Int) - 1 + 1).toNat = fs.length by omega, List.take_length]; rfl⟩ ?_ ?_
  · rw [hrl]
    exact Wk.refl _
  rintro ⟨k, v⟩ ⟨hk0, hk1, hv, hinv⟩
  dsimp only at hk0 hk1 hv hinv
  refine go1 ?_
  repeat refine vs ?_
  conv => whnf
  by_cases hk : k ≥ 0
  · have hlt : k.toNat < fs.length := by omega
    have hc := hq fs[k.toNat] (List.getElem_mem hlt)
    have hget : (fs.map cellR)[k.toNat]? = some (cellR fs[k.toNat]) := by rw [List.getElem?_map, List.getElem?_eq_getElem hlt]; rfl
    rw [show (k + 1).toNat = k.toNat + 1 by omega] at hinv hv
    rw [take_rev hlt] at hinv
    have hi2 : horF x (addR (mulR v x) fs[k.toNat]) (fs.take k.toNat).reverse = atF fs x := hinv
    generalize fs[k.toNat] = c at *
    have m := mulR_ok hv hx
    have s := addR_ok m hc
    have dM := mulR_I (a := v) (b := x) (hv.mono (by omega)) (hx.mono (by omega))
    have dA := addR_I (a := mulR v x) (b := c) (m.mono (by omega)) (hc.mono (by omega))
    repeat refine vs ?_
    conv => whnf
    refine CallS.mk _ rfl true false _ (dM) rfl ?_
    repeat refine vs ?_
    conv => whnf
    first | refine Idx.mk (k.toNat) (by first | rfl | omega) (by omega) ?_ | skip
    repeat refine vs ?_
    conv => whnf
    refine LdR.mk (cellR c) hget ?_
    repeat refine vs ?_
    conv => whnf
    refine CallS.mk _ rfl true false _ (dA) rfl ?_
    repeat refine vs ?_
    conv => whnf
    refine ⟨(k - 1, addR (mulR v x) c), by dsimp only; omega, ⟨by dsimp only; omega, by dsimp only; omega, ?_, ?_⟩, ?_⟩
    · refine s.mono ?_
      dsimp only
      rw [show (k - 1 + 1).toNat = k.toNat by omega]
      omega
    · dsimp only
      rw [show (k - 1 + 1).toNat = k.toNat by omega]
      exact hi2
    · refine Wk.le ?_
      repeat' (first | exact LeT.nil | refine LeT.drop1 ?_ | refine LeT.same1 ?_ | refine LeT.own1 ?_ | refine LeT.ownR ?_ | (refine LeT.deepR ?_ rfl))
  · have : k = -1 := by omega
    subst this
    have hvv : v = atF fs x := by rw [← hinv]; rfl
    rw [← hvv]
    repeat refine vs ?_
    conv => whnf
    first | rfl | exact ⟨rfl, rfl⟩ | exact ⟨by simp [toRes], rfl⟩
theorem l4Eval_den : D 130 [(false, [.arr 4 (fs.map cellR)]), ratV x.1 x.2] false (.one (ratV (atF fs x).1 (atF fs x).2)) := by
  have hrl : (fs.map cellR).length = fs.length := by simp
  refine go Tryz.func130 rfl rfl ?_
  repeat refine vs ?_
  conv => whnf
  refine CallS.mk _ rfl true false _ (l2Int_den 0 (by omega) (by omega)) rfl ?_
  repeat refine vs ?_
  conv => whnf
  refine EVs.loopU (fun s : Int × Int × Int => -1 ≤ s.1 ∧ s.1 + 1 ≤ fs.length ∧ okF (4 + (fs.length - (s.1 + 1).toNat) * 2000000001) s.2 ∧ horF x s.2 (fs.take (s.1 + 1).toNat).reverse = atF fs x) (fun s => (s.1 + 1).toNat)
    (fun | (k, v, d) => [(5, .box (5, 0) ((cellR (v, d)).map .p) 0), (6, .v false [.p (.int .i64 k)])]) ((fs.length : Int) - 1, (0, 1)) ⟨by dsimp only; omega, by dsimp only; omega, (whole_R 0 (by omega) (by omega)).mono (by omega), by dsimp only; rw [show ((fs.length : Int) - 1 + 1).toNat = fs.length by omega, List.take_length]; rfl⟩ ?_ ?_
  · rw [hrl]
    exact Wk.refl _
  rintro ⟨k, v⟩ ⟨hk0, hk1, hv, hinv⟩
  dsimp only at hk0 hk1 hv hinv
  refine go1 ?_
  repeat refine vs ?_
  conv => whnf
  by_cases hk : k ≥ 0
  · have hlt : k.toNat < fs.length := by omega
    have hc := hq fs[k.toNat] (List.getElem_mem hlt)
    have hget : (fs.map cellR)[k.toNat]? = some (cellR fs[k.toNat]) := by rw [List.getElem?_map, List.getElem?_eq_getElem hlt]; rfl
    rw [show (k + 1).toNat = k.toNat + 1 by omega] at hinv hv
    rw [take_rev hlt] at hinv
    have hi2 : horF x (addR (mulR v x) fs[k.toNat]) (fs.take k.toNat).reverse = atF fs x := hinv
    generalize fs[k.toNat] = c at *
    have m := mulR_ok hv hx
    have s := addR_ok m hc
    have dM := mulR_S (a := v) (b := x) (hv.mono (by omega)) (hx.mono (by omega))
    have dA := addR_S (a := mulR v x) (b := c) (m.mono (by omega)) (hc.mono (by omega))
    repeat refine vs ?_
    conv => whnf
    refine CallS.mk _ rfl true false _ (dM) rfl ?_
    repeat refine vs ?_
    conv => whnf
    first | refine Idx.mk (k.toNat) (by first | rfl | omega) (by omega) ?_ | skip
    repeat refine vs ?_
    conv => whnf
    refine LdR.mk (cellR c) hget ?_
    repeat refine vs ?_
    conv => whnf
    refine CallS.mk _ rfl true false _ (dA) rfl ?_
    repeat refine vs ?_
    conv => whnf
    refine ⟨(k - 1, addR (mulR v x) c), by dsimp only; omega, ⟨by dsimp only; omega, by dsimp only; omega, ?_, ?_⟩, ?_⟩
    · refine s.mono ?_
      dsimp only
      rw [show (k - 1 + 1).toNat = k.toNat by omega]
      omega
    · dsimp only
      rw [show (k - 1 + 1).toNat = k.toNat by omega]
      exact hi2
    · refine Wk.le ?_
      repeat' (first | exact LeT.nil | refine LeT.drop1 ?_ | refine LeT.same1 ?_ | refine LeT.own1 ?_ | refine LeT.ownR ?_ | (refine LeT.deepR ?_ rfl))
  · have : k = -1 := by omega
    subst this
    have hvv : v = atF fs x := by rw [← hinv]; rfl
    rw [← hvv]
    repeat refine vs ?_
    conv => whnf
    first | rfl | exact ⟨rfl, rfl⟩ | exact ⟨by simp [toRes], rfl⟩
end
theorem atF_ok {fs : List (Int × Int)} {x : Int × Int} {K M : Nat} (hq : ∀ f ∈ fs, okF M f) (hx : okF K x) : okF (4 + fs.length * (K + M + 1)) (atF fs x) := by
  have := horF_ok hx (l := fs.reverse) (v := (0, 1)) (s := 4) (fun c hc => hq c (List.mem_reverse.1 hc)) (whole_R 0 (by omega) (by omega))
  rwa [List.length_reverse] at this

/-! ### root polynomials, places -/
noncomputable def rootsQ (rs : List RawQ) : Bool := goodP 5 1 rs && decide (2 ≤ rs.length)
theorem rootsI_den (rs : List RawQ) (hrs : shortP 1000000000000 rs) : D 77 [polQ rs] true (.one (bP (rootsQ rs))) := by
  have dP := isPoly_den rs 5 1 (by omega) hrs
  have hrl : (rs.map cellQ).length = rs.length := by simp
  have hl := hrs.1
  unfold rootsQ
  refine go Tryz.func77 rfl rfl ?_
  cases hg : goodP 5 1 rs with
  | false =>
    rw [hg] at dP
    repeat refine vs ?_
    conv => whnf
    refine CallS.mk _ rfl true true _ (dP) rfl ?_
    repeat refine vs ?_
    conv => whnf
    first | rfl | exact ⟨rfl, rfl⟩ | exact ⟨by simp [toRes], rfl⟩
  | true =>
    rw [hg] at dP
    by_cases h2 : 2 ≤ rs.length
    · rw [decide_eq_true h2]
      repeat refine vs ?_
      conv => whnf
      refine CallS.mk _ rfl true true _ (dP) rfl ?_
      repeat refine vs ?_
      conv => whnf
      first | rfl | exact ⟨rfl, rfl⟩ | exact ⟨by simp [toRes], rfl⟩
    · rw [decide_eq_false h2]
      repeat refine vs ?_
      conv => whnf
      refine CallS.mk _ rfl true true _ (dP) rfl ?_
      repeat refine vs ?_
      conv => whnf
      first | rfl | exact ⟨rfl, rfl⟩ | exact ⟨by simp [toRes], rfl⟩
theorem okQ_61 {r : RawQ} (h1 : r.l.length ≤ 1) (h2 : r.q.length ≤ 1) : okQ 6 r = okQ 1 r := by
  unfold okQ
  rw [decide_eq_true h1, decide_eq_true h2, decide_eq_true (show r.l.length ≤ 6 by omega), decide_eq_true (show r.q.length ≤ 6 by omega)]
theorem rootsS_den (rs : List RawQ) (hrs : shortP 1000000000000 rs) : D 75 [polQ rs] true (.one (bP (rootsQ rs))) := by
  have dP := goodPolyS_den rs hrs
  have dI := l1In_den ((rs.map cellQ).length : Int) 2 5
  obtain ⟨hl, hr⟩ := hrs
  have hrl : (rs.map cellQ).length = rs.length := by simp
  refine go Tryz.func75 rfl rfl ?_
  repeat refine vs ?_
  conv => whnf
  refine EVs.loopU (fun i : Nat => i ≤ rs.length ∧ ∀ (j : Nat) (h : j < rs.length), j < i → rs[j].l.length ≤ 1 ∧ rs[j].q.length ≤ 1) (fun i => rs.length - i) (fun i => [(7, .v false [.p (.int .i64 (i : Int))])]) 0 ⟨by omega, fun j h hj => by omega⟩ (Wk.refl _) ?_
  rintro i ⟨hi, hall⟩
  refine go1 ?_
  repeat refine vs ?_
  conv => whnf
  by_cases h1 : (i : Int) < (rs.map cellQ).length
  · have hlt : i < rs.length := by omega
    obtain ⟨hr1, hr2⟩ := hr rs[i] (List.getElem_mem hlt)
    have hbad : okQ 1 rs[i] = false → rootsQ rs = false := fun h => by
      have : rs.all (okQ 1) = false := by rw [List.all_eq_false]; exact ⟨rs[i], List.getElem_mem hlt, by simp [h]⟩
      unfold rootsQ goodP
      rw [this, Bool.and_false, Bool.false_and, Bool.false_and]
    have hone : rs[i].l.length ≤ 1 ∧ rs[i].q.length ≤ 1 → ∀ (j : Nat) (h : j < rs.length), j < i + 1 → rs[j].l.length ≤ 1 ∧ rs[j].q.length ≤ 1 := fun h j hj hji => by
      by_cases e : j = i
      · subst e; exact h
      · exact hall j hj (by omega)
    have hget : (rs.map cellQ)[i]? = some (cellQ rs[i]) := by rw [List.getElem?_map, List.getElem?_eq_getElem hlt]; rfl
    generalize rs[i] = r at *
    have hok : okQ 1 r = (goodR r.n r.l r.p r.q && (decide (r.l.length ≤ 1) && decide (r.q.length ≤ 1))) := rfl
    repeat refine vs ?_
    conv => whnf
    refine LdR.mk (cellQ r) hget ?_
    repeat refine vs ?_
    conv => whnf
    by_cases hs : r.l.length ≤ 1
    · by_cases hs2 : r.q.length ≤ 1
      · repeat refine vs ?_
        conv => whnf
        refine ⟨i + 1, by omega, ⟨by omega, hone ⟨hs, hs2⟩⟩, ?_⟩
        refine Wk.le ?_
        repeat' (first | exact LeT.nil | refine LeT.drop1 ?_ | refine LeT.same1 ?_ | refine LeT.own1 ?_ | refine LeT.ownR ?_ | (refine LeT.deepR ?_ rfl))
      · rw [decide_eq_false hs2, Bool.and_false, Bool.and_false] at hok
        rw [hbad hok]
        repeat refine vs ?_
        conv => whnf
        first | rfl | exact ⟨rfl, rfl⟩ | exact ⟨by simp [toRes], rfl⟩
    · rw [decide_eq_false hs, Bool.false_and, Bool.and_false] at hok
      rw [hbad hok]
      repeat refine vs ?_
      conv => whnf
      first | rfl | exact ⟨rfl, rfl⟩ | exact ⟨by simp [toRes], rfl⟩
  · have hA : ∀ r ∈ rs, okQ 6 r = okQ 1 r := by
      intro x hx
      obtain ⟨j, hj, rfl⟩ := List.getElem_of_mem hx
      exact okQ_61 (hall j hj (by omega)).1 (hall j hj (by omega)).2
    have hAA : rs.all (okQ 6) = rs.all (okQ 1) := by
      rw [Bool.eq_iff_iff, List.all_eq_true, List.all_eq_true]
      constructor
      · intro h x hx; rw [← hA x hx]; exact h x hx
      · intro h x hx; rw [hA x hx]; exact h x hx
    by_cases h5 : 2 ≤ rs.length ∧ rs.length ≤ 5
    · have e : rootsQ rs = goodP 7 6 rs := by
        unfold rootsQ goodP
        rw [hAA, decide_eq_true h5.1, decide_eq_true h5.2, decide_eq_true (show rs.length ≤ 7 by omega), Bool.and_true]
      rw [decide_eq_true (by omega)] at dI
      rw [e]
      cases hg : goodP 7 6 rs with
      | false =>
        rw [hg] at dP
        repeat refine vs ?_
        conv => whnf
        refine CallS.mk _ rfl true true _ (dP) rfl ?_
        repeat refine vs ?_
        conv => whnf
        first | rfl | exact ⟨rfl, rfl⟩ | exact ⟨by simp [toRes], rfl⟩
      | true =>
        rw [hg] at dP
        repeat refine vs ?_
        conv => whnf
        refine CallS.mk _ rfl true true _ (dP) rfl ?_
        repeat refine vs ?_
        conv => whnf
        refine CallS.mk _ rfl true true _ (dI) rfl ?_
        repeat refine vs ?_
        conv => whnf
        first | rfl | exact ⟨rfl, rfl⟩ | exact ⟨by simp [toRes], rfl⟩
    · have e : rootsQ rs = false := by
        unfold rootsQ goodP
        by_cases h2 : 2 ≤ rs.length
        · rw [decide_eq_false (show ¬ rs.length ≤ 5 by omega)]; rfl
        · rw [decide_eq_false h2, Bool.and_false]
      rw [decide_eq_false (by omega)] at dI
      rw [e]
      cases hg : goodP 7 6 rs with
      | false =>
        rw [hg] at dP
        repeat refine vs ?_
        conv => whnf
        refine CallS.mk _ rfl true true _ (dP) rfl ?_
        repeat refine vs ?_
        conv => whnf
        first | rfl | exact ⟨rfl, rfl⟩ | exact ⟨by simp [toRes], rfl⟩
      | true =>
        rw [hg] at dP
        repeat refine vs ?_
        conv => whnf
        refine CallS.mk _ rfl true true _ (dP) rfl ?_
        repeat refine vs ?_
        conv => whnf
        refine CallS.mk _ rfl true true _ (dI) rfl ?_
        repeat refine vs ?_
        conv => whnf
        first | rfl | exact ⟨rfl, rfl⟩ | exact ⟨by simp [toRes], rfl⟩
theorem rootsPolyBoth (rs : List RawQ) (hrs : shortP 1048576 rs) : ∃ b, D 75 [polQ rs] false (.one (bP b)) ∧ D 77 [polQ rs] true (.one (bP b)) := by
  have h : shortP 1000000000000 rs := ⟨Nat.le_trans hrs.1 (by decide), fun r hr => ⟨Nat.le_trans (hrs.2 r hr).1 (by decide), Nat.le_trans (hrs.2 r hr).2 (by decide)⟩⟩
  exact ⟨_, (rootsS_den rs h).un, rootsI_den rs h⟩
theorem rootsQ_ex {rs : List RawQ} (h : rootsQ rs = true) : ∃ fs : List (Int × Int), rs = fs.map qF ∧ fs.length ≤ 5 ∧ 2 ≤ fs.length ∧ (∀ f ∈ fs, lowT 1 f) ∧ ∀ f, fs.getLast? = some f → f.1 ≠ 0 := by
  unfold rootsQ at h
  rw [Bool.and_eq_true, decide_eq_true_iff] at h
  obtain ⟨fs, rfl, h1, h2, h3⟩ := goodP_ex h.1
  exact ⟨fs, rfl, h1, by simpa using h.2, h2, h3⟩
theorem isPlace_den (r : RawQ) (hl : r.l.length ≤ 1000000000000) (hq : r.q.length ≤ 1000000000000) : D 128 [ratR r.n r.l r.p r.q] true (.one (bP (okQ 4 r))) := by
  have gI := goodRatI_den r.n r.l r.p r.q hl hq
  have sI := isShortQ_den r.n r.l r.p r.q 4 hl hq
  unfold okQ
  refine go Tryz.func128 rfl rfl ?_
  cases hg : goodR r.n r.l r.p r.q with
  | false =>
    rw [hg] at gI
    repeat refine vs ?_
    conv => whnf
    refine CallS.mk _ rfl true true _ (gI) rfl ?_
    repeat refine vs ?_
    conv => whnf
    first | rfl | exact ⟨rfl, rfl⟩ | exact ⟨by simp [toRes], rfl⟩
  | true =>
    rw [hg] at gI
    repeat refine vs ?_
    conv => whnf
    refine CallS.mk _ rfl true true _ (gI) rfl ?_
    repeat refine vs ?_
    conv => whnf
    refine CallS.mk _ rfl true true _ (sI) rfl ?_
    repeat refine vs ?_
    conv => whnf
    first | rfl | exact ⟨rfl, rfl⟩ | exact ⟨by simp [toRes], rfl⟩
theorem l5Place_den (r : RawQ) (hl : r.l.length ≤ 1000000000000) (hq : r.q.length ≤ 1000000000000) : D 66 [ratR r.n r.l r.p r.q] true (.one (bP (okQ 4 r))) := by
  have gS := goodRatS_den r.n r.l r.p r.q hl hq
  unfold okQ
  refine go Tryz.func66 rfl rfl ?_
  by_cases h1 : r.l.length ≤ 4
  · by_cases h2 : r.q.length ≤ 4
    · rw [decide_eq_true h1, decide_eq_true h2, Bool.and_true, Bool.and_true]
      repeat refine vs ?_
      conv => whnf
      refine CallS.mk _ rfl true true _ (gS) rfl ?_
      repeat refine vs ?_
      conv => whnf
      first | rfl | exact ⟨rfl, rfl⟩ | exact ⟨by simp [toRes], rfl⟩
    · rw [decide_eq_false h2, Bool.and_false, Bool.and_false]
      repeat refine vs ?_
      conv => whnf
      first | rfl | exact ⟨rfl, rfl⟩ | exact ⟨by simp [toRes], rfl⟩
  · rw [decide_eq_false h1, Bool.false_and, Bool.and_false]
    repeat refine vs ?_
    conv => whnf
    first | rfl | exact ⟨rfl, rfl⟩ | exact ⟨by simp [toRes], rfl⟩
end Go.Vx
