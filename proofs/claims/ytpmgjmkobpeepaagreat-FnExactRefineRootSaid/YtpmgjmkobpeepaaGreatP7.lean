/- Chapter 4: polynomials without zeros at the end; results that own their limbs. -/
import Derived.Test.YtpmgjmkobpeepaaGreatP6
set_option linter.unusedVariables false
set_option linter.unusedSectionVars false
set_option linter.unusedSimpArgs false
namespace Go.Vx
open Go.Proofs
set_option maxRecDepth 100000

/-- nil, as an empty array that is owned. -/
def FV.nilTo (d : Lf) : FV → FV
  | .v false [.nil] => .v false [d]
  | x => x
def modT : Nat → (FV → FV) → List FV → List FV
  | _, _, [] => []
  | 0, g, f :: T => g f :: T
  | n + 1, g, f :: T => f :: modT n g T
theorem modT_le {g : FV → FV} (hg : ∀ f, LeF f (g f)) : ∀ {n : Nat} {T : List FV}, All2 LeF T (modT n g T)
  | _, [] => by cases ‹Nat› <;> exact True.intro
  | 0, f :: T => ⟨hg f, All2.refl' T⟩
  | n + 1, f :: T => ⟨fun _ _ _ _ h => h, modT_le hg⟩
where All2.refl' : ∀ (T : List FV), All2 LeF T T
  | [] => True.intro
  | _ :: T => ⟨fun _ _ _ _ h => h, All2.refl' T⟩
theorem nilTo_le {d : Lf} (hd : ∀ F β w, RLf F β w d (.slice none 0 0)) (f : FV) : LeF f (f.nilTo d) := fun F β w v h => by
  unfold FV.nilTo
  split
  · obtain ⟨x, hx, h⟩ := h
    cases hx
    have h : v = .slice none 0 0 := h
    subst h
    exact ⟨_, rfl, hd F β w⟩
  · exact h
theorem EVs.nilD (n : Nat) (lab : Lab) {P : Program} {c : Code} {T : List FV} {K : Ex → List FV → Prop} (hb : Nat.blt lab.1 2000000 = true) (h : EVs P c T fun e T' => fT (modT n (FV.nilTo (.deep lab 3 4 [])) T') (K e)) : EVs P c T K := by
  refine EVs.post (h.mono fun e T' hk => ?_)
  rw [fT_eq] at hk
  exact ⟨_, Wk.le (modT_le (nilTo_le (d := .deep lab 3 4 []) fun F β w => ⟨PinR.low (by simpa using hb), .inl ⟨rfl, rfl⟩⟩)), hk⟩
theorem EVs.nilP (n : Nat) {P : Program} {c : Code} {T : List FV} {K : Ex → List FV → Prop} (h : EVs P c T fun e T' => fT (modT n (FV.nilTo (.p (.arr 4 []))) T') (K e)) : EVs P c T K := by
  refine EVs.post (h.mono fun e T' hk => ?_)
  rw [fT_eq] at hk
  exact ⟨_, Wk.le (modT_le (nilTo_le (d := .p (.arr 4 [])) fun F β w => ⟨none, 0, rfl, Nat.le_refl _, by simp, .inl rfl⟩)), hk⟩

theorem goN (n : Nat) {g : FuncId} {fn : Func} {c : Code} {ps : List PV} {fl : Bool} {r : Res} (hf : Tryz.prog.funcs[g]? = some fn) (hname : (fn.name == "runtime.NumGoroutine") = false)
    (hb : fn.body = some c) (hev : fT (init fn.ntmps ps) fun T => evF Γ 3 D Tryz.prog c T fun e T' => fT (modT n (FV.nilTo (.deep (60, 0) 3 4 [])) T') (retK Γ 3 fn.results.toList fl r e)) : D g ps fl r :=
  den_intro mixed tabΓ hf hname hb (EVs.nilD n (60, 0) rfl (ev_sound mixed tabΓ (fun _ _ _ _ h => h) (fun _ _ _ _ h => h) (fun _ _ _ _ _ _ h => h) (fun _ _ _ _ _ h => h) c (evF_le c (by rw [fT_eq] at hev; exact hev))))
theorem goP (n : Nat) {g : FuncId} {fn : Func} {c : Code} {ps : List PV} {fl : Bool} {r : Res} (hf : Tryz.prog.funcs[g]? = some fn) (hname : (fn.name == "runtime.NumGoroutine") = false)
    (hb : fn.body = some c) (hev : fT (init fn.ntmps ps) fun T => evF Γ 3 D Tryz.prog c T fun e T' => fT (modT n (FV.nilTo (.p (.arr 4 []))) T') (retK Γ 3 fn.results.toList fl r e)) : D g ps fl r :=
  den_intro mixed tabΓ hf hname hb (EVs.nilP n (ev_sound mixed tabΓ (fun _ _ _ _ h => h) (fun _ _ _ _ h => h) (fun _ _ _ _ _ _ h => h) (fun _ _ _ _ _ h => h) c (evF_le c (by rw [fT_eq] at hev; exact hev))))

/-- Without the zeros at the end. -/
def trimF (fs : List (Int × Int)) : List (Int × Int) := (fs.reverse.dropWhile fun f => decide (f.1 = 0)).reverse
theorem trimF_snoc (fs : List (Int × Int)) (f : Int × Int) : trimF (fs ++ [f]) = if f.1 = 0 then trimF fs else fs ++ [f] := by
  unfold trimF
  rw [List.reverse_append, List.reverse_singleton, List.singleton_append, List.dropWhile_cons]
  by_cases h : f.1 = 0
  · rw [if_pos (by simpa using h), if_pos h]
  · rw [if_neg (by simpa using h), if_neg h]
    simp
theorem trimF_nil : trimF [] = [] := rfl
theorem trimF_sub {fs : List (Int × Int)} : ∀ {f : Int × Int}, f ∈ trimF fs → f ∈ fs := by
  intro f hf
  unfold trimF at hf
  rw [List.mem_reverse] at hf
  have := (List.dropWhile_sublist _).subset hf
  simpa using this
theorem trimF_len (fs : List (Int × Int)) : (trimF fs).length ≤ fs.length := by
  unfold trimF
  rw [List.length_reverse]
  have := (List.dropWhile_sublist (fun f : Int × Int => decide (f.1 = 0)) (l := fs.reverse)).length_le
  simpa using this
theorem trimF_last (fs : List (Int × Int)) : ∀ f, (trimF fs).getLast? = some f → f.1 ≠ 0 := by
  intro f hf h0
  unfold trimF at hf
  rw [List.getLast?_reverse] at hf
  have := List.head?_dropWhile_not (fun f : Int × Int => decide (f.1 = 0)) fs.reverse
  rw [hf] at this
  simp [h0] at this
theorem trimF_id {fs : List (Int × Int)} (h : ∀ f, fs.getLast? = some f → f.1 ≠ 0) : trimF fs = fs := by
  rcases List.eq_nil_or_concat fs with rfl | ⟨l, f, rfl⟩
  · rfl
  · rw [List.concat_eq_append] at h ⊢
    rw [trimF_snoc, if_neg (h f (by simp))]
theorem trimF_trim (fs : List (Int × Int)) : trimF (trimF fs) = trimF fs := trimF_id (trimF_last fs)

theorem trim_den (fs : List (Int × Int)) (hl : fs.length ≤ 1000000) (hq : ∀ f ∈ fs, okF 1000000000 f) : D 96 [(false, [.arr 4 (fs.map cellR)])] false (.one (false, [.arr 4 ((trimF fs).map cellR)])) := by
  have hrl : (fs.map cellR).length = fs.length := by simp
  refine go Tryz.func96 rfl rfl ?_
  repeat refine vs ?_
  conv => whnf
  refine EVs.loopU (fun n : Nat => n ≤ fs.length ∧ trimF (fs.take n) = trimF fs) (fun n => n) (fun n => [(3, .v false [.p (.int .i64 (n : Int))])]) fs.length ⟨by omega, by rw [List.take_length]⟩ ?_ ?_
  · rw [hrl]
    refine Wk.le ?_
    repeat' (first | exact LeT.nil | refine LeT.drop1 ?_ | refine LeT.same1 ?_ | refine LeT.own1 ?_ | refine LeT.ownR ?_ | (refine LeT.deepR ?_ rfl))
  rintro n ⟨hn, hinv⟩
  refine go1 ?_
  repeat refine vs ?_
  conv => whnf
  by_cases h0 : (n : Int) > 0
  · have hlt : n - 1 < fs.length := by omega
    have hc := hq fs[n - 1] (List.getElem_mem hlt)
    have hget : (fs.map cellR)[n - 1]? = some (cellR fs[n - 1]) := by rw [List.getElem?_map, List.getElem?_eq_getElem hlt]; rfl
    have ht : fs.take n = fs.take (n - 1) ++ [fs[n - 1]] := by
      have := List.take_succ_eq_append_getElem hlt
      rwa [show n - 1 + 1 = n by omega] at this
    rw [ht, trimF_snoc] at hinv
    generalize hcc : fs[n - 1] = c at *
    have dS := ratSign_den c.1 c.2 (Nat.le_trans hc.2.1 (by omega))
    repeat refine vs ?_
    conv => whnf
    first | refine Idx.mk (n - 1) (by first | rfl | omega) (by omega) ?_ | skip
    repeat refine vs ?_
    conv => whnf
    refine LdR.mk (cellR c) hget ?_
    repeat refine vs ?_
    conv => whnf
    refine CallS.mk _ rfl true true _ (dS) rfl ?_
    by_cases hz : c.1 = 0
    · have h2 : cmpI c.1 0 = 0 := by rw [hz]; rfl
      rw [if_pos hz] at hinv
      repeat refine vs ?_
      conv => whnf
      refine ⟨n - 1, by omega, ⟨by omega, hinv⟩, ?_⟩
      rw [show (n : Int) - 1 = ((n - 1 : Nat) : Int) by omega]
      refine Wk.le ?_
      repeat' (first | exact LeT.nil | refine LeT.drop1 ?_ | refine LeT.same1 ?_ | refine LeT.own1 ?_ | refine LeT.ownR ?_ | (refine LeT.deepR ?_ rfl))
    · have h2 : ¬ cmpI c.1 0 = 0 := by rcases cmpI_sgn c.1 with h | h | h <;> omega
      rw [if_neg hz, ← ht] at hinv
      repeat refine vs ?_
      conv => whnf
      refine SubK.mk (0) (n) (by first | rfl | (show _ = _; omega)) (by first | rfl | (show _ = _; omega)) (by omega) (by omega) ?_
      repeat refine vs ?_
      conv => whnf
      have hs : ((fs.map cellR).take n).drop 0 = (trimF fs).map cellR := by rw [← hinv]; simp [List.map_take]
      rw [hs]
      first | rfl | exact ⟨rfl, rfl⟩ | exact ⟨by simp [toRes], rfl⟩
  · have h1 : n = 0 := by omega
    subst h1
    repeat refine vs ?_
    conv => whnf
    refine SubK.mk (0) (0) (by first | rfl | (show _ = _; omega)) (by first | rfl | (show _ = _; omega)) (by omega) (by omega) ?_
    repeat refine vs ?_
    conv => whnf
    have hs : ((fs.map cellR).take 0).drop 0 = (trimF fs).map cellR := by rw [← hinv]; simp [trimF_nil]
    rw [hs]
    first | rfl | exact ⟨rfl, rfl⟩ | exact ⟨by simp [toRes], rfl⟩

/-- The result of a computation with polynomials: trimmed; nothing, where the coefficients are too long. -/
noncomputable def okP (fs : List (Int × Int)) : Bool := goodP 7 6 ((trimF fs).map qF)
noncomputable def resP (fs : List (Int × Int)) : List (Int × Int) := if okP fs then trimF fs else []
theorem checkedPoly_den (fs : List (Int × Int)) (hl : fs.length ≤ 1000000) (hq : ∀ f ∈ fs, okF 1000000000 f) : D 43 [(false, [.arr 4 (fs.map cellR)])] true (.tup [(false, [.arr 4 ((resP fs).map cellR)]), bP (okP fs)]) := by
  have dT := trim_den fs hl hq
  have hlt := trimF_len fs
  have hqt : ∀ f ∈ trimF fs, okF 1000000000 f := fun f hf => hq f (trimF_sub hf)
  have gI := goodPolyI_den ((trimF fs).map qF) ⟨by rw [List.length_map]; omega, fun r hr => by
    obtain ⟨f, hf, rfl⟩ := List.mem_map.1 hr
    exact ⟨Nat.le_trans (hqt f hf).2.1 (by omega), Nat.le_trans (hqt f hf).2.2 (by omega)⟩⟩
  unfold polQ at gI
  rw [map_qF] at gI
  unfold resP okP
  generalize trimF fs = gs at *
  have hrl : (gs.map cellR).length = gs.length := by simp
  refine goN 2 Tryz.func43 rfl rfl ?_
  repeat refine vs ?_
  conv => whnf
  refine NewK.mk true ?_
  repeat refine vs ?_
  conv => whnf
  refine CallM.rd _ rfl _ (goE (dT)) (.inr rfl) ?_
  repeat refine vs ?_
  conv => whnf
  refine EVs.loopU (fun i : Nat => i ≤ gs.length) (fun i => gs.length - i) (fun i => [(4, .v false [.deep (7, 0) 3 4 ((gs.take i).map cellR)]), (11, .v false [.p (.int .i64 (i : Int))]), (7, .any)]) 0 (by omega) ?_ ?_
  · refine Wk.le ?_
    repeat' (first | exact LeT.nil | refine LeT.drop1 ?_ | refine LeT.same1 ?_ | refine LeT.own1 ?_ | refine LeT.ownR ?_ | (refine LeT.deepR ?_ rfl))
  intro i hi
  refine go1 ?_
  repeat refine vs ?_
  conv => whnf
  by_cases h1 : (i : Int) < (gs.map cellR).length
  · have hlt : i < gs.length := by omega
    have hc := hqt gs[i] (List.getElem_mem hlt)
    have hget : (gs.map cellR)[i]? = some (cellR gs[i]) := by rw [List.getElem?_map, List.getElem?_eq_getElem hlt]; rfl
    have htk : (gs.take (i + 1)).map cellR = (gs.take i).map cellR ++ [cellR gs[i]] := by rw [List.take_succ_eq_append_getElem hlt, List.map_append]; rfl
    generalize gs[i] = c at *
    have dO := ownRat_den c.1 c.2 hc.1 (Nat.le_trans hc.2.1 (by omega)) (Nat.le_trans hc.2.2 (by omega))
    repeat refine vs ?_
    conv => whnf
    first | refine Idx.mk (i) (by first | rfl | omega) (by omega) ?_ | skip
    repeat refine vs ?_
    conv => whnf
    refine LdR.mk (cellR c) hget ?_
    repeat refine vs ?_
    conv => whnf
    refine CallS.mk _ rfl true true _ (dO) rfl ?_
    repeat refine vs ?_
    conv => whnf
    refine ⟨by rw [List.length_map, List.length_take]; omega, ?_⟩
    repeat refine vs ?_
    conv => whnf
    have hrow : (gs.take i).map cellR ++ [[.bool (decide (c.1 < 0)), .ints (Lm.lim c.1.natAbs), .bool (decide (c.2 < 0)), .ints (Lm.lim c.2.natAbs)]] = (gs.take (i + 1)).map cellR := htk.symm
    rw [hrow]
    refine ⟨i + 1, by omega, by omega, ?_⟩
    refine Wk.le ?_
    repeat' (first | exact LeT.nil | refine LeT.drop1 ?_ | refine LeT.same1 ?_ | refine LeT.own1 ?_ | refine LeT.ownR ?_ | (refine LeT.deepR ?_ rfl))
  · have : i = gs.length := by omega
    subst this
    rw [List.take_length]
    repeat refine vs ?_
    conv => whnf
    refine CallS.mk _ rfl true true _ (gI) rfl ?_
    cases hg : goodP 7 6 (gs.map qF) with
    | false =>
      repeat refine vs ?_
      conv => whnf
      first | rfl | exact ⟨rfl, rfl⟩ | exact ⟨by simp [toRes], rfl⟩
    | true =>
      repeat refine vs ?_
      conv => whnf
      first | rfl | exact ⟨rfl, rfl⟩ | exact ⟨by simp [toRes], rfl⟩

theorem l4Cut_den (fs : List (Int × Int)) (hl : fs.length ≤ 1000000) (hq : ∀ f ∈ fs, okF 1000000000 f) : D 52 [(false, [.arr 4 (fs.map cellR)])] false (.one (false, [.arr 4 ((trimF fs).map cellR)])) := by
  refine go Tryz.func52 rfl rfl ?_
  repeat refine vs ?_
  conv => whnf
  refine EVs.loopU (fun n : Nat => n ≤ fs.length ∧ trimF (fs.take n) = trimF fs) (fun n => n) (fun n => [(0, .v false [.p (.arr 4 ((fs.take n).map cellR))])]) fs.length ⟨by omega, by rw [List.take_length]⟩ ?_ ?_
  · rw [List.take_length]
    refine Wk.le ?_
    repeat' (first | exact LeT.nil | refine LeT.drop1 ?_ | refine LeT.same1 ?_ | refine LeT.own1 ?_ | refine LeT.ownR ?_ | (refine LeT.deepR ?_ rfl))
  rintro n ⟨hn, hinv⟩
  have hrl : ((fs.take n).map cellR).length = n := by simp; omega
  refine go1 ?_
  repeat refine vs ?_
  conv => whnf
  by_cases h0 : (((fs.take n).map cellR).length : Int) > 0
  · have hlt : n - 1 < fs.length := by omega
    have hc := hq fs[n - 1] (List.getElem_mem hlt)
    have hget : ((fs.take n).map cellR)[n - 1]? = some (cellR fs[n - 1]) := by rw [List.getElem?_map, List.getElem?_take, if_pos (by omega), List.getElem?_eq_getElem hlt]; rfl
    have ht : fs.take n = fs.take (n - 1) ++ [fs[n - 1]] := by
      have := List.take_succ_eq_append_getElem hlt
      rwa [show n - 1 + 1 = n by omega] at this
    have hinv0 := hinv
    rw [ht, trimF_snoc] at hinv
    generalize hcc : fs[n - 1] = c at *
    have dZ := l4Zero_den (decide (c.1 < 0)) (Lm.lim c.1.natAbs) (decide (c.2 < 0)) (Lm.lim c.2.natAbs) (Nat.le_trans hc.2.1 (by omega))
    have hzz : (Lm.lim c.1.natAbs = []) ↔ c.1 = 0 := by rw [Lm.lim_eq_nil]; omega
    repeat refine vs ?_
    conv => whnf
    first | refine Idx.mk (n - 1) (by first | rfl | omega) (by omega) ?_ | skip
    repeat refine vs ?_
    conv => whnf
    refine LdR.mk (cellR c) hget ?_
    repeat refine vs ?_
    conv => whnf
    refine CallS.mk _ rfl true true _ (dZ) rfl ?_
    by_cases hz : c.1 = 0
    · have hd : decide (Lm.lim c.1.natAbs = []) = true := decide_eq_true (hzz.2 hz)
      rw [if_pos hz] at hinv
      repeat refine vs ?_
      conv => whnf
      refine SubK.mk (0) ((n - 1)) (by first | rfl | (show _ = _; omega)) (by first | rfl | (show _ = _; omega)) (by omega) (by omega) ?_
      repeat refine vs ?_
      conv => whnf
      have hs : (((fs.take n).map cellR).take (n - 1)).drop 0 = (fs.take (n - 1)).map cellR := by rw [List.drop_zero, ← List.map_take, List.take_take, Nat.min_eq_left (by omega)]
      rw [hs]
      refine ⟨n - 1, by omega, ⟨by omega, hinv⟩, ?_⟩
      refine Wk.le ?_
      repeat' (first | exact LeT.nil | refine LeT.drop1 ?_ | refine LeT.same1 ?_ | refine LeT.own1 ?_ | refine LeT.ownR ?_ | (refine LeT.deepR ?_ rfl))
    · have hd : decide (Lm.lim c.1.natAbs = []) = false := decide_eq_false (fun e => hz (hzz.1 e))
      rw [if_neg hz, ← ht] at hinv
      rw [← hinv]
      repeat refine vs ?_
      conv => whnf
      refine NewK.mk true ?_
      repeat refine vs ?_
      conv => whnf
      refine NewK.mk false ?_
      repeat refine vs ?_
      conv => whnf
      first | rfl | exact ⟨rfl, rfl⟩ | exact ⟨by simp [toRes], rfl⟩
  · have h1 : n = 0 := by omega
    subst h1
    rw [← hinv]
    repeat refine vs ?_
    conv => whnf
    refine NewK.mk true ?_
    repeat refine vs ?_
    conv => whnf
    refine NewK.mk false ?_
    repeat refine vs ?_
    conv => whnf
    first | rfl | exact ⟨rfl, rfl⟩ | exact ⟨by simp [toRes], rfl⟩

theorem okQ_6 {r : RawQ} {f : Int × Int} (h : okQ 6 (qF f) = true) : fitR f.1 f.2 = true := by
  unfold okQ at h
  simp only [Bool.and_eq_true, decide_eq_true_eq] at h
  unfold fitR
  rw [Bool.and_eq_true, decide_eq_true_iff, decide_eq_true_iff]
  exact ⟨Nat.le_trans h.2.1 (by decide), Nat.le_trans h.2.2 (by decide)⟩
theorem l4Fits_den (gs : List (Int × Int)) (hl : gs.length ≤ 1000000) (hq : ∀ f ∈ gs, okF 1000000000 f) : D 40 [(false, [.arr 4 (gs.map cellR)])] false (.tup [(false, [.arr 4 ((if goodP 7 6 (gs.map qF) then gs else []).map cellR)]), bP (goodP 7 6 (gs.map qF))]) := by
  have gS := goodPolyS_den (gs.map qF) ⟨by rw [List.length_map]; omega, fun r hr => by
    obtain ⟨f, hf, rfl⟩ := List.mem_map.1 hr
    exact ⟨Nat.le_trans (hq f hf).2.1 (by omega), Nat.le_trans (hq f hf).2.2 (by omega)⟩⟩
  unfold polQ at gS
  rw [map_qF] at gS
  have hrl : (gs.map cellR).length = gs.length := by simp
  refine goP 2 Tryz.func40 rfl rfl ?_
  cases hg : goodP 7 6 (gs.map qF) with
  | false =>
    rw [hg] at gS
    repeat refine vs ?_
    conv => whnf
    refine CallS.mk _ rfl true true _ (gS) rfl ?_
    repeat refine vs ?_
    conv => whnf
    first | rfl | exact ⟨rfl, rfl⟩ | exact ⟨by simp [toRes], rfl⟩
  | true =>
    rw [hg] at gS
    have hall : ∀ f ∈ gs, fitR f.1 f.2 = true := fun f hf => by
      unfold goodP at hg
      simp only [Bool.and_eq_true, List.all_eq_true] at hg
      exact okQ_6 (r := qF f) (hg.1.2 (qF f) (List.mem_map.2 ⟨f, hf, rfl⟩))
    rw [if_pos rfl]
    repeat refine vs ?_
    conv => whnf
    refine CallS.mk _ rfl true true _ (gS) rfl ?_
    repeat refine vs ?_
    conv => whnf
    refine EVs.loopU (fun i : Nat => i ≤ gs.length) (fun i => gs.length - i) (fun i => [(4, .v false [.own (50, 0) 41 (.arr 4 ((gs.take i).map cellR))]), (14, .v false [.p (.int .i64 (i : Int))])]) 0 (by omega) ?_ ?_
    · refine Wk.le ?_
      repeat' (first | exact LeT.nil | refine LeT.drop1 ?_ | refine LeT.same1 ?_ | refine LeT.own1 ?_ | refine LeT.ownR ?_ | (refine LeT.deepR ?_ rfl))
    intro i hi
    refine go1 ?_
    repeat refine vs ?_
    conv => whnf
    by_cases h1 : (i : Int) < (gs.map cellR).length
    · have hlt : i < gs.length := by omega
      have hc := hq gs[i] (List.getElem_mem hlt)
      have hfit := hall gs[i] (List.getElem_mem hlt)
      have hget : (gs.map cellR)[i]? = some (cellR gs[i]) := by rw [List.getElem?_map, List.getElem?_eq_getElem hlt]; rfl
      have htk : (gs.take (i + 1)).map cellR = (gs.take i).map cellR ++ [cellR gs[i]] := by rw [List.take_succ_eq_append_getElem hlt, List.map_append]; rfl
      generalize gs[i] = c at *
      have dF := l2Fits_den c.1 c.2 hc.1 (Nat.le_trans hc.2.1 (by omega)) (Nat.le_trans hc.2.2 (by omega))
      unfold fitRV at dF
      rw [hfit, if_pos rfl] at dF
      repeat refine vs ?_
      conv => whnf
      first | refine Idx.mk (i) (by first | rfl | omega) (by omega) ?_ | skip
      repeat refine vs ?_
      conv => whnf
      refine LdR.mk (cellR c) hget ?_
      repeat refine vs ?_
      conv => whnf
      refine CallS.mk _ rfl true false _ (dF) rfl ?_
      repeat refine vs ?_
      conv => whnf
      refine NewK.mk false ?_
      repeat refine vs ?_
      conv => whnf
      refine ⟨by simp only [PL.len, List.length_map, List.length_take, List.length_singleton]; omega, ?_⟩
      repeat refine vs ?_
      conv => whnf
      refine NewK.mk true ?_
      repeat refine vs ?_
      conv => whnf
      have hrow : (gs.take i).map cellR ++ [[.bool (decide (c.1 < 0)), .ints (Lm.lim c.1.natAbs), .bool (decide (c.2 < 0)), .ints (Lm.lim c.2.natAbs)]] = (gs.take (i + 1)).map cellR := htk.symm
      rw [hrow]
      refine ⟨i + 1, by omega, by omega, ?_⟩
      refine Wk.le ?_
      repeat' (first | exact LeT.nil | refine LeT.drop1 ?_ | refine LeT.same1 ?_ | refine LeT.own1 ?_ | refine LeT.ownR ?_ | (refine LeT.deepR ?_ rfl))
    · have : i = gs.length := by omega
      subst this
      rw [List.take_length]
      repeat refine vs ?_
      conv => whnf
      first | rfl | exact ⟨rfl, rfl⟩ | exact ⟨by simp [toRes], rfl⟩
end Go.Vx
