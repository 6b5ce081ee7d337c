/- RootBound. -/
import Derived.Test.YthkgmogacmmfpaaGreatQGd
import Derived.Test.YthkgmogacmmfpaaGreatS4
set_option linter.unusedVariables false
set_option linter.unusedSectionVars false
set_option linter.unusedSimpArgs false
namespace Go.Vx
open Go.Proofs
set_option maxRecDepth 100000

def absR (x : Int × Int) : Int × Int := ((x.1.natAbs : Int), x.2)
theorem absR_ok {K : Nat} {x : Int × Int} (h : okF K x) : okF K (absR x) := ⟨h.1, by show (Lm.lim ((x.1.natAbs : Nat) : Int).natAbs).length ≤ K; rw [Int.natAbs_natCast]; exact h.2.1, h.2.2⟩
theorem absBig_den (x : Int) (hx : Lm.ln x ≤ 1000000000000) : D 89 [bigV x] true (.one (bigV (x.natAbs : Int))) := by
  have d := bigOf_den false (Lm.lim x.natAbs) hx
  rw [make_num] at d
  simp only [Bool.false_eq_true, if_false] at d
  refine go Tryz.func89 rfl rfl ?_
  repeat refine vs ?_
  conv => whnf
  refine CallS.mk _ rfl true true _ (d) rfl ?_
  repeat refine vs ?_
  conv => whnf
  first | rfl | exact ⟨rfl, rfl⟩ | exact ⟨by simp [toRes], rfl⟩
theorem ratAbs_den (x : Int × Int) (h : okF 40000000000 x) : D 46 [ratV x.1 x.2] true (.one (ratV (absR x).1 (absR x).2)) := by
  have h0 := h.1
  have h2 : (Lm.lim x.2.natAbs).length ≤ 40000000000 := h.2.2
  have dA := absBig_den x.1 (Nat.le_trans h.2.1 (by omega))
  have dB := bigOf_den false (Lm.lim x.2.natAbs) (by omega)
  rw [make_num] at dB
  simp only [Bool.false_eq_true, if_false] at dB
  rw [show ((x.2.natAbs : Nat) : Int) = x.2 by omega] at dB
  unfold absR
  refine go Tryz.func46 rfl rfl ?_
  repeat refine vs ?_
  conv => whnf
  refine CallS.mk _ rfl true true _ (dA) rfl ?_
  repeat refine vs ?_
  conv => whnf
  refine CallS.mk _ rfl true true _ (dB) rfl ?_
  repeat refine vs ?_
  conv => whnf
  first | rfl | exact ⟨rfl, rfl⟩ | exact ⟨by simp [toRes], rfl⟩
theorem l5Abs_den (x : Int × Int) (h : okF 40000000000 x) : D 83 [ratV x.1 x.2] false (.one (ratV (absR x).1 (absR x).2)) := by
  have h1 : (Lm.lim x.1.natAbs).length ≤ 40000000000 := h.2.1
  have dB := l1Make_den false (Lm.lim x.1.natAbs) (by omega)
  rw [make_num] at dB
  simp only [Bool.false_eq_true, if_false] at dB
  unfold absR
  refine go Tryz.func83 rfl rfl ?_
  repeat refine vs ?_
  conv => whnf
  refine CallS.mk _ rfl true false _ (dB) rfl ?_
  repeat refine vs ?_
  conv => whnf
  first | rfl | exact ⟨rfl, rfl⟩ | exact ⟨by simp [toRes], rfl⟩
theorem rbCmp_den (a b : Int × Int) (ha : okF 40000000000 a) (hb : okF 40000000000 b) : D 44 [ratV a.1 a.2, ratV b.1 b.2] true (.one (iP (cmpI ((a.1.natAbs : Int) * b.2) ((b.1.natAbs : Int) * a.2)))) := by
  have dA := ratAbs_den a ha
  have dB := ratAbs_den b hb
  have h1 := absR_ok ha
  have h2 := absR_ok hb
  have dC := compareRat_den (absR a).1 (absR a).2 (absR b).1 (absR b).2 (by have := h1.1; omega) (by have := h2.1; omega) h1.2.1 h1.2.2 h2.2.1 h2.2.2
  refine go Tryz.func44 rfl rfl ?_
  repeat refine vs ?_
  conv => whnf
  refine CallS.mk _ rfl true true _ (dA) rfl ?_
  repeat refine vs ?_
  conv => whnf
  refine CallS.mk _ rfl true true _ (dB) rfl ?_
  repeat refine vs ?_
  conv => whnf
  refine CallS.mk _ rfl true true _ (dC) rfl ?_
  repeat refine vs ?_
  conv => whnf
  first | rfl | exact ⟨rfl, rfl⟩ | exact ⟨by simp [toRes], rfl⟩
/-- The member with the greatest absolute value, the first one of several. -/
def highA : Int × Int → List (Int × Int) → Int × Int
  | m, [] => m
  | m, x :: l => highA (if (m.1.natAbs : Int) * x.2 < (x.1.natAbs : Int) * m.2 then x else m) l
theorem highA_cons (m a : Int × Int) (l : List (Int × Int)) : highA m (a :: l) = highA (if (m.1.natAbs : Int) * a.2 < (a.1.natAbs : Int) * m.2 then a else m) l := rfl
theorem highA_ok {K : Nat} : ∀ {l : List (Int × Int)} {m : Int × Int}, okF K m → okL K l → okF K (highA m l)
  | [], _, h, _ => h
  | a :: l, m, h, hl => by
    rw [highA_cons]
    refine highA_ok ?_ (fun f hf => hl f (List.mem_cons_of_mem _ hf))
    split
    · exact hl a List.mem_cons_self
    · exact h
/-- The greatest absolute value, from one on. -/
def mostL : Int × Int → List (Int × Int) → Int × Int
  | m, [] => m
  | m, x :: l => mostL (if m.1 * x.2 < (x.1.natAbs : Int) * m.2 then absR x else m) l
theorem mostL_cons (m a : Int × Int) (l : List (Int × Int)) : mostL m (a :: l) = mostL (if m.1 * a.2 < (a.1.natAbs : Int) * m.2 then absR a else m) l := rfl
theorem mostL_abs : ∀ {l : List (Int × Int)} {m : Int × Int}, mostL (absR m) l = absR (highA m l)
  | [], _ => rfl
  | a :: l, m => by
    rw [mostL_cons, highA_cons]
    by_cases h : (m.1.natAbs : Int) * a.2 < (a.1.natAbs : Int) * m.2
    · rw [if_pos (show (absR m).1 * a.2 < (a.1.natAbs : Int) * (absR m).2 from h), if_pos h, mostL_abs]
    · rw [if_neg (show ¬ (absR m).1 * a.2 < (a.1.natAbs : Int) * (absR m).2 from h), if_neg h, mostL_abs]
theorem mostL_first {l : List (Int × Int)} {x : Int × Int} (hx : low x) : mostL (0, 1) (x :: l) = absR (highA x l) := by
  rw [mostL_cons]
  have e : (if ((0, 1) : Int × Int).1 * x.2 < (x.1.natAbs : Int) * ((0, 1) : Int × Int).2 then absR x else (0, 1)) = absR x := by
    by_cases h : x.1 = 0
    · rw [if_neg (by simp [h])]
      have h2 := hx.2
      rw [h, Int.gcd_zero_left] at h2
      have h3 := hx.1
      exact Prod.ext (by simp [absR, h]) (by show 1 = x.2; omega)
    · rw [if_pos (by simp; omega)]
  rw [e, mostL_abs]
theorem addR_comm (a b : Int × Int) : addR a b = addR b a := by
  have e1 : addN a.1 a.2 b.1 b.2 = addN b.1 b.2 a.1 a.2 := by unfold addN; omega
  unfold addR
  rw [e1, Int.mul_comm a.2 b.2]
section
variable (f0 : Int × Int) (rest : List (Int × Int)) (hl : (f0 :: rest).length ≤ 1000000) (hq : okL 40000000000 (f0 :: rest))
include hl hq
theorem maxAbs_den : D 42 [(false, [.arr 4 ((f0 :: rest).map cellR)]), fP 44] false (.one (ratV (highA f0 rest).1 (highA f0 rest).2)) := by
  refine go Tryz.func42 rfl rfl ?_
  generalize hfs : f0 :: rest = fs at *
  have hrl : (fs.map cellR).length = fs.length := by simp
  have hpos : 0 < fs.length := by rw [← hfs]; simp
  repeat refine vs ?_
  conv => whnf
  refine LdR.mk (cellR f0) (by rw [← hfs]; rfl) ?_
  repeat refine vs ?_
  conv => whnf
  refine EVs.loopU (fun s : Nat × (Int × Int) => 1 ≤ s.1 ∧ s.1 ≤ fs.length ∧ okF 40000000000 s.2 ∧ highA s.2 (fs.drop s.1) = highA f0 rest) (fun s => fs.length - s.1)
    (fun | (i, m) => [(5, .box (5, 0) ((cellR m).map .p) 0), (6, .v false [.p (.int .i64 (i : Int))])]) (1, f0) ⟨by omega, by dsimp only; omega, hq f0 (by rw [← hfs]; simp), by rw [← hfs]; rfl⟩ (Wk.refl _) ?_
  rintro ⟨i, m⟩ ⟨h1, hi, hm, hinv⟩
  dsimp only at h1 hi hm hinv
  refine go1 ?_
  repeat refine vs ?_
  conv => whnf
  by_cases hc : (i : Int) < (fs.map cellR).length
  · have hlt : i < fs.length := by omega
    have ha := hq fs[i] (List.getElem_mem hlt)
    rw [List.drop_eq_getElem_cons hlt, highA_cons] at hinv
    generalize hai : fs[i] = a at *
    have dC := rbCmp_den a m ha hm
    have hcl := cmp_gt (a.1.natAbs : Int) a.2 (m.1.natAbs : Int) m.2
    repeat refine vs ?_
    conv => whnf
    refine LdR.mk (cellR a) (by simp [hlt, hai]) ?_
    repeat refine vs ?_
    conv => whnf
    refine CallS.mk _ rfl true true _ (dC) rfl ?_
    repeat refine vs ?_
    conv => whnf
    by_cases hlo : (m.1.natAbs : Int) * a.2 < (a.1.natAbs : Int) * m.2
    · have := hcl.2 hlo
      rw [if_pos hlo] at hinv
      repeat refine vs ?_
      conv => whnf
      refine LdR.mk (cellR a) (by simp [hlt, hai]) ?_
      repeat refine vs ?_
      conv => whnf
      refine ⟨(i + 1, a), by dsimp only; omega, ⟨by dsimp only; omega, by dsimp only; omega, ha, hinv⟩, ?_⟩
      refine Wk.le ?_
      repeat' (first | exact LeT.nil | refine LeT.drop1 ?_ | refine LeT.same1 ?_ | refine LeT.own1 ?_ | refine LeT.ownR ?_ | (refine LeT.deepR ?_ rfl))
    · have := fun x => hlo (hcl.1 x)
      rw [if_neg hlo] at hinv
      repeat refine vs ?_
      conv => whnf
      refine ⟨(i + 1, m), by dsimp only; omega, ⟨by dsimp only; omega, by dsimp only; omega, hm, hinv⟩, ?_⟩
      refine Wk.le ?_
      repeat' (first | exact LeT.nil | refine LeT.drop1 ?_ | refine LeT.same1 ?_ | refine LeT.own1 ?_ | refine LeT.ownR ?_ | (refine LeT.deepR ?_ rfl))
  · repeat refine vs ?_
    conv => whnf
    rw [List.drop_eq_nil_of_le (by omega)] at hinv
    have hinv2 : m = highA f0 rest := hinv
    rw [← hinv2]
    first | rfl | exact ⟨rfl, rfl⟩ | exact ⟨by simp [toRes], rfl⟩
end
section
variable (fs : List (Int × Int)) (h2 : 2 ≤ fs.length) (hl : fs.length ≤ 5) (hlow : ∀ f ∈ fs, lowT 1 f) (ht : ∀ f, fs.getLast? = some f → f.1 ≠ 0)
include h2 hl hlow ht
/-- The bound, as the two programs compute it. -/
theorem bound_eq : ∃ x0 xs, scaleF (fs.getD (fs.length - 1) (0, 1)) (fs.take (fs.length - 1)) = x0 :: xs ∧ okL 2 (x0 :: xs) ∧ low x0 ∧ (x0 :: xs).length ≤ 5 ∧ mostL (0, 1) (x0 :: xs) = absR (highA x0 xs) := by
  have htop := topF_good ht (by intro e; rw [e] at h2; simp at h2)
  have hb := getD_ok (okL_T hlow) (fs.length - 1) (by omega)
  have hs := scaleF_ok (p := fs.take (fs.length - 1)) (fun f hf => okL_T hlow f (List.mem_of_mem_take hf)) hb htop
  have hw := scaleF_low (p := fs.take (fs.length - 1)) (fun f hf => lowL_T hlow f (List.mem_of_mem_take hf)) htop
  have hn : (scaleF (fs.getD (fs.length - 1) (0, 1)) (fs.take (fs.length - 1))).length = fs.length - 1 := by rw [scaleF_len, List.length_take]; omega
  generalize scaleF (fs.getD (fs.length - 1) (0, 1)) (fs.take (fs.length - 1)) = l at *
  cases l with
  | nil => simp at hn; omega
  | cons x0 xs => exact ⟨x0, xs, rfl, hs, hw x0 List.mem_cons_self, by omega, mostL_first (hw x0 List.mem_cons_self)⟩
theorem l5Bound_den : ∀ x0 xs, scaleF (fs.getD (fs.length - 1) (0, 1)) (fs.take (fs.length - 1)) = x0 :: xs → D 41 [(false, [.arr 4 (fs.map cellR)])] false (.one (ratV (addR (1, 1) (absR (highA x0 xs))).1 (addR (1, 1) (absR (highA x0 xs))).2)) := by
  intro x0 xs he
  obtain ⟨y0, ys, he2, hs, hw, hn, hm⟩ := bound_eq fs h2 hl hlow ht
  rw [he] at he2
  cases he2
  rw [addR_comm, ← hm, ← he]
  clear hm he
  have hrl : (fs.map cellR).length = fs.length := by simp
  have htl : (((fs.map cellR).take (fs.length - 1)).drop 0) = (fs.take (fs.length - 1)).map cellR := by rw [List.drop_zero, List.map_take]
  have htn : ((fs.take (fs.length - 1)).map cellR).length = fs.length - 1 := by rw [List.length_map, List.length_take]; omega
  have htop := topF_good ht (by intro e; rw [e] at h2; simp at h2)
  have hb := getD_ok (okL_T hlow) (fs.length - 1) (by omega)
  have gb := getD_cell (l := fs) (i := fs.length - 1) (by omega)
  generalize fs.getD (fs.length - 1) (0, 1) = b at *
  refine go Tryz.func41 rfl rfl ?_
  repeat refine vs ?_
  conv => whnf
  refine CallS.mk _ rfl true false _ (l2Int_den 0 (by omega) (by omega)) rfl ?_
  repeat refine vs ?_
  conv => whnf
  refine SubK.mk (0) ((fs.length - 1)) (by first | rfl | (show _ = _; omega)) (by first | rfl | (show _ = _; omega)) (by omega) (by omega) ?_
  repeat refine vs ?_
  conv => whnf
  rw [htl]
  repeat refine vs ?_
  conv => whnf
  refine EVs.loopU (fun s : Nat × (Int × Int) => s.1 ≤ fs.length - 1 ∧ okF 4 s.2 ∧ mostL s.2 (scaleF b ((fs.take (fs.length - 1)).drop s.1)) = mostL (0, 1) (scaleF b (fs.take (fs.length - 1)))) (fun s => fs.length - s.1)
    (fun | (i, m) => [(3, .box (3, 0) ((cellR m).map .p) 0), (14, .v false [.p (.int .i64 (i : Int))])]) (0, (0, 1)) ⟨by dsimp only; omega, whole_R 0 (by omega) (by omega), by rw [List.drop_zero]⟩ (Wk.refl _) ?_
  rintro ⟨i, m⟩ ⟨hi, hm, hinv⟩
  dsimp only at hi hm hinv
  refine go1 ?_
  repeat refine vs ?_
  conv => whnf
  by_cases hc : (i : Int) < ((fs.take (fs.length - 1)).map cellR).length
  · have hlt : i < fs.length - 1 := by omega
    have hlt2 : i < (fs.take (fs.length - 1)).length := by rw [List.length_take]; omega
    have ha := okL_T hlow (fs.take (fs.length - 1))[i] (List.mem_of_mem_take (List.getElem_mem hlt2))
    have ga : ((fs.take (fs.length - 1)).map cellR)[i]? = some (cellR (fs.take (fs.length - 1))[i]) := by rw [List.getElem?_map, List.getElem?_eq_getElem hlt2]; rfl
    have hd : (fs.take (fs.length - 1)).drop i = (fs.take (fs.length - 1))[i] :: (fs.take (fs.length - 1)).drop (i + 1) := List.drop_eq_getElem_cons hlt2
    rw [hd] at hinv
    generalize (fs.take (fs.length - 1))[i] = a at *
    have hinv1 : mostL m (divR a b :: scaleF b ((fs.take (fs.length - 1)).drop (i + 1))) = mostL (0, 1) (scaleF b (fs.take (fs.length - 1))) := hinv
    rw [mostL_cons] at hinv1
    have dD := divR_S (a := a) (b := b) (ha.mono (by omega)) (hb.mono (by omega)) htop
    have hx := divR_ok ha hb htop
    generalize divR a b = x at *
    have dA := l5Abs_den x (hx.mono (by omega))
    have hax := absR_ok hx
    have dC := l2Cmp_den (absR x).1 (absR x).2 m.1 m.2 (by have := hax.1; omega) (by have := hm.1; omega) (Nat.le_trans hax.2.1 (by omega)) (Nat.le_trans hax.2.2 (by omega)) (Nat.le_trans hm.2.1 (by omega)) (Nat.le_trans hm.2.2 (by omega))
    have hcl := cmp_gt (absR x).1 (absR x).2 m.1 m.2
    have e1 : (absR x).1 = (x.1.natAbs : Int) := rfl
    have e2 : (absR x).2 = x.2 := rfl
    repeat refine vs ?_
    conv => whnf
    first | refine Idx.mk (i) (by first | rfl | omega) (by omega) ?_ | skip
    repeat refine vs ?_
    conv => whnf
    refine LdR.mk (cellR a) ga ?_
    repeat refine vs ?_
    conv => whnf
    first | refine Idx.mk ((fs.length - 1)) (by first | rfl | omega) (by omega) ?_ | skip
    repeat refine vs ?_
    conv => whnf
    refine LdR.mk (cellR b) gb ?_
    repeat refine vs ?_
    conv => whnf
    refine CallS.mk _ rfl true false _ (dD) rfl ?_
    repeat refine vs ?_
    conv => whnf
    refine CallS.mk _ rfl false false _ (dA) rfl ?_
    repeat refine vs ?_
    conv => whnf
    refine CallS.mk _ rfl true true _ (dC) rfl ?_
    repeat refine vs ?_
    conv => whnf
    by_cases hlo : m.1 * x.2 < (x.1.natAbs : Int) * m.2
    · have := hcl.2 (by rw [e1, e2]; exact hlo)
      rw [if_pos hlo] at hinv1
      repeat refine vs ?_
      conv => whnf
      refine ⟨(i + 1, absR x), by dsimp only; omega, ⟨by dsimp only; omega, hax.mono (by omega), hinv1⟩, ?_⟩
      refine Wk.le ?_
      repeat' (first | exact LeT.nil | refine LeT.drop1 ?_ | refine LeT.same1 ?_ | refine LeT.own1 ?_ | refine LeT.ownR ?_ | (refine LeT.deepR ?_ rfl))
    · have : ¬ cmpI ((absR x).1 * m.2) (m.1 * (absR x).2) > 0 := fun h => hlo (by have := hcl.1 h; rw [e1, e2] at this; exact this)
      rw [if_neg hlo] at hinv1
      repeat refine vs ?_
      conv => whnf
      refine ⟨(i + 1, m), by dsimp only; omega, ⟨by dsimp only; omega, hm, hinv1⟩, ?_⟩
      refine Wk.le ?_
      repeat' (first | exact LeT.nil | refine LeT.drop1 ?_ | refine LeT.same1 ?_ | refine LeT.own1 ?_ | refine LeT.ownR ?_ | (refine LeT.deepR ?_ rfl))
  · have : i = fs.length - 1 := by omega
    subst this
    rw [List.drop_eq_nil_of_le (by rw [List.length_take]; omega)] at hinv
    have hinv2 : m = mostL (0, 1) (scaleF b (fs.take (fs.length - 1))) := hinv
    rw [← hinv2]
    have dI := l2Int_den 1 (by omega) (by omega)
    have dA := addR_S (a := m) (b := (1, 1)) (hm.mono (by omega)) ((small_R (n := 1) (by omega) (by omega)).mono (by omega))
    repeat refine vs ?_
    conv => whnf
    refine CallS.mk _ rfl true false _ (dI) rfl ?_
    repeat refine vs ?_
    conv => whnf
    refine CallS.mk _ rfl true false _ (dA) rfl ?_
    repeat refine vs ?_
    conv => whnf
    first | rfl | exact ⟨rfl, rfl⟩ | exact ⟨by simp [toRes], rfl⟩
end
set_option maxHeartbeats 4000000 in
theorem rootBoundBoth (rs : List RawQ) (hrs : shortP 1048576 rs) :
    ∃ n' l' p' q' b, l'.length ≤ 1000000 ∧ q'.length ≤ 1000000 ∧ D 19 [polQ rs] false (.tup [ratR n' l' p' q', bP b]) ∧ D 20 [polQ rs] true (.tup [ratR n' l' p' q', bP b]) := by
  have gS := rootsS_den rs hrs.big
  have gI := rootsI_den rs hrs.big
  cases hg : rootsQ rs with
  | false =>
    rw [hg] at gS gI
    refine ⟨false, [], false, [], false, by simp, by simp, go Tryz.func19 rfl rfl ?_, go Tryz.func20 rfl rfl ?_⟩
    · repeat refine vs ?_
      conv => whnf
      refine CallS.mk _ rfl true true _ (gS) rfl ?_
      repeat refine vs ?_
      conv => whnf
      first | rfl | exact ⟨rfl, rfl⟩ | exact ⟨by simp [toRes], rfl⟩
    · repeat refine vs ?_
      conv => whnf
      refine CallS.mk _ rfl true true _ (gI) rfl ?_
      repeat refine vs ?_
      conv => whnf
      first | rfl | exact ⟨rfl, rfl⟩ | exact ⟨by simp [toRes], rfl⟩
  | true =>
    rw [hg] at gS gI
    obtain ⟨fs, rfl, hl5, hl2, hlow, ht⟩ := rootsQ_ex hg
    unfold polQ at *
    rw [map_qF] at *
    obtain ⟨x0, xs, he, hs, hw, hn, hm⟩ := bound_eq fs hl2 hl5 hlow ht
    have dB := l5Bound_den fs hl2 hl5 hlow ht x0 xs he
    have hrl : (fs.map cellR).length = fs.length := by simp
    have htl : (((fs.map cellR).take (fs.length - 1)).drop 0) = (fs.take (fs.length - 1)).map cellR := by rw [List.drop_zero, List.map_take]
    have htop := topF_good ht (by intro e; rw [e] at hl2; simp at hl2)
    have hb := getD_ok (okL_T hlow) (fs.length - 1) (by omega)
    have gb := getD_cell (l := fs) (i := fs.length - 1) (by omega)
    have dS := scaledBy_den (fs.take (fs.length - 1)) (fs.getD (fs.length - 1) (0, 1)) (by rw [List.length_take]; omega) (fun f hf => (okL_T hlow f (List.mem_of_mem_take hf)).mono (by omega)) (hb.mono (by omega)) htop
    rw [he] at dS
    generalize fs.getD (fs.length - 1) (0, 1) = b at *
    have dM := maxAbs_den x0 xs (by omega) (hs.mono (by omega))
    have hmo := highA_ok (hs x0 List.mem_cons_self) (fun f hf => hs f (List.mem_cons_of_mem _ hf))
    generalize highA x0 xs = m at *
    have dA := ratAbs_den m (hmo.mono (by omega))
    have hma := absR_ok hmo
    have h11 : okF 1 ((1, 1) : Int × Int) := small_R (n := 1) (by omega) (by omega)
    have dP := addR_I (a := (1, 1)) (b := absR m) (h11.mono (by omega)) (hma.mono (by omega))
    have hob := (addR_ok h11 hma).mono (show 1 + 2 + 1 ≤ 100 by omega)
    generalize addR (1, 1) (absR m) = v at *
    have fS := l2Fits_den v.1 v.2 hob.1 (Nat.le_trans hob.2.1 (by omega)) (Nat.le_trans hob.2.2 (by omega))
    have fI := checkedRat_m v.1 v.2 (Nat.le_trans hob.2.1 (by omega)) (Nat.le_trans hob.2.2 (by omega))
    have hsome : ∃ n l p q, l.length ≤ 1000000 ∧ q.length ≤ 1000000 ∧ fitRV v.1 v.2 = ratR n l p q := by
      unfold fitRV
      split
      · exact ⟨_, _, _, _, Nat.le_trans hob.2.1 (by omega), Nat.le_trans hob.2.2 (by omega), rfl⟩
      · exact ⟨_, _, _, _, by simp, by simp, rfl⟩
    have sS : D 19 [(false, [.arr 4 (fs.map cellR)])] false (.tup [fitRV v.1 v.2, bP (fitR v.1 v.2)]) := by
      obtain ⟨n, l, p, q, _, _, hf⟩ := hsome
      rw [hf] at fS ⊢
      refine go Tryz.func19 rfl rfl ?_
      repeat refine vs ?_
      conv => whnf
      refine CallS.mk _ rfl true true _ (gS) rfl ?_
      repeat refine vs ?_
      conv => whnf
      refine CallS.mk _ rfl false false _ (dB) rfl ?_
      repeat refine vs ?_
      conv => whnf
      refine CallS.mk _ rfl true true _ (fS) rfl ?_
      repeat refine vs ?_
      conv => whnf
      first | rfl | exact ⟨rfl, rfl⟩ | exact ⟨by simp [toRes], rfl⟩
    have sI : D 20 [(false, [.arr 4 (fs.map cellR)])] true (.tup [fitRV v.1 v.2, bP (fitR v.1 v.2)]) := by
      unfold fitRV
      cases hf : fitR v.1 v.2 with
      | true =>
        rw [hf] at fI
        simp only [if_true] at fI ⊢
        refine go Tryz.func20 rfl rfl ?_
        repeat refine vs ?_
        conv => whnf
        refine CallS.mk _ rfl true true _ (gI) rfl ?_
        repeat refine vs ?_
        conv => whnf
        refine SubK.mk (0) ((fs.length - 1)) (by first | rfl | (show _ = _; omega)) (by first | rfl | (show _ = _; omega)) (by omega) (by omega) ?_
        repeat refine vs ?_
        conv => whnf
        rw [htl]
        repeat refine vs ?_
        conv => whnf
        first | refine Idx.mk ((fs.length - 1)) (by first | rfl | omega) (by omega) ?_ | skip
        repeat refine vs ?_
        conv => whnf
        refine LdR.mk (cellR b) gb ?_
        repeat refine vs ?_
        conv => whnf
        refine CallS.mk _ rfl false false _ (dS) rfl ?_
        repeat refine vs ?_
        conv => whnf
        refine CallS.mk _ rfl false false _ (dM) rfl ?_
        repeat refine vs ?_
        conv => whnf
        refine CallS.mk _ rfl true false _ (whole_den 1 (by omega) (by omega)) rfl ?_
        repeat refine vs ?_
        conv => whnf
        refine CallS.mk _ rfl true false _ (dA) rfl ?_
        repeat refine vs ?_
        conv => whnf
        refine CallS.mk _ rfl true true _ (dP) rfl ?_
        repeat refine vs ?_
        conv => whnf
        refine MutS.mk' _ rfl _ rfl _ _ (fI) ?_
        repeat refine vs ?_
        conv => whnf
        first | rfl | exact ⟨rfl, rfl⟩ | exact ⟨by simp [toRes], rfl⟩
      | false =>
        rw [hf] at fI
        simp only [Bool.false_eq_true, if_false] at fI ⊢
        refine go Tryz.func20 rfl rfl ?_
        repeat refine vs ?_
        conv => whnf
        refine CallS.mk _ rfl true true _ (gI) rfl ?_
        repeat refine vs ?_
        conv => whnf
        refine SubK.mk (0) ((fs.length - 1)) (by first | rfl | (show _ = _; omega)) (by first | rfl | (show _ = _; omega)) (by omega) (by omega) ?_
        repeat refine vs ?_
        conv => whnf
        rw [htl]
        repeat refine vs ?_
        conv => whnf
        first | refine Idx.mk ((fs.length - 1)) (by first | rfl | omega) (by omega) ?_ | skip
        repeat refine vs ?_
        conv => whnf
        refine LdR.mk (cellR b) gb ?_
        repeat refine vs ?_
        conv => whnf
        refine CallS.mk _ rfl false false _ (dS) rfl ?_
        repeat refine vs ?_
        conv => whnf
        refine CallS.mk _ rfl false false _ (dM) rfl ?_
        repeat refine vs ?_
        conv => whnf
        refine CallS.mk _ rfl true false _ (whole_den 1 (by omega) (by omega)) rfl ?_
        repeat refine vs ?_
        conv => whnf
        refine CallS.mk _ rfl true false _ (dA) rfl ?_
        repeat refine vs ?_
        conv => whnf
        refine CallS.mk _ rfl true true _ (dP) rfl ?_
        repeat refine vs ?_
        conv => whnf
        refine MutS.mk' _ rfl _ rfl _ _ (fI) ?_
        repeat refine vs ?_
        conv => whnf
        first | rfl | exact ⟨rfl, rfl⟩ | exact ⟨by simp [toRes], rfl⟩
    obtain ⟨n, l, p, q, h1, h2, hf⟩ := hsome
    rw [hf] at sS sI
    exact ⟨n, l, p, q, _, h1, h2, sS, sI⟩
end Go.Vx
