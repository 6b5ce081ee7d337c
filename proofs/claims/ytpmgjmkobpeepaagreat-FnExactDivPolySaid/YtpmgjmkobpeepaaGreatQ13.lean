/- DivPoly, GcdPoly, SquareFree, ShiftPoly. -/
import Derived.Test.YtpmgjmkobpeepaaGreatQGd
set_option linter.unusedVariables false
set_option linter.unusedSectionVars false
set_option linter.unusedSimpArgs false
namespace Go.Vx
open Go.Proofs
set_option maxRecDepth 100000

theorem goNN (n m : Nat) {g : FuncId} {fn : Func} {c : Code} {ps : List PV} {fl : Bool} {r : Res} (hf : Tryz.prog.funcs[g]? = some fn) (hname : (fn.name == "runtime.NumGoroutine") = false)
    (hb : fn.body = some c) (hev : fT (init fn.ntmps ps) fun T => evF Γ 3 D Tryz.prog c T fun e T' => fT (modT n (FV.nilTo (.deep (60, 0) 3 4 [])) T') fun T' => fT (modT m (FV.nilTo (.deep (61, 0) 3 4 [])) T') (retK Γ 3 fn.results.toList fl r e)) : D g ps fl r := by
  refine den_intro mixed tabΓ hf hname hb (EVs.post ((EVs.nilD n (60, 0) rfl (ev_sound mixed tabΓ (fun _ _ _ _ h => h) (fun _ _ _ _ h => h) (fun _ _ _ _ _ _ h => h) (fun _ _ _ _ _ h => h) c (evF_le c (by rw [fT_eq] at hev; exact hev)))).mono fun e T' hk => ?_))
  rw [fT_eq] at hk
  exact ⟨_, Wk.le (modT_le (nilTo_le (d := .deep (61, 0) 3 4 []) fun F β w => ⟨PinR.low (by decide), .inl ⟨rfl, rfl⟩⟩)), hk⟩
theorem goPP (n m : Nat) {g : FuncId} {fn : Func} {c : Code} {ps : List PV} {fl : Bool} {r : Res} (hf : Tryz.prog.funcs[g]? = some fn) (hname : (fn.name == "runtime.NumGoroutine") = false)
    (hb : fn.body = some c) (hev : fT (init fn.ntmps ps) fun T => evF Γ 3 D Tryz.prog c T fun e T' => fT (modT n (FV.nilTo (.p (.arr 4 []))) T') fun T' => fT (modT m (FV.nilTo (.p (.arr 4 []))) T') (retK Γ 3 fn.results.toList fl r e)) : D g ps fl r := by
  refine den_intro mixed tabΓ hf hname hb (EVs.post ((EVs.nilP n (ev_sound mixed tabΓ (fun _ _ _ _ h => h) (fun _ _ _ _ h => h) (fun _ _ _ _ _ _ h => h) (fun _ _ _ _ _ h => h) c (evF_le c (by rw [fT_eq] at hev; exact hev)))).mono fun e T' hk => ?_))
  rw [fT_eq] at hk
  exact ⟨_, Wk.le (modT_le (nilTo_le (d := .p (.arr 4 [])) fun F β w => ⟨none, 0, rfl, Nat.le_refl _, by simp, .inl rfl⟩)), hk⟩
theorem eucG_6 : ∀ m, m < 8 → ∀ n, n < 8 → ∀ e, e < 8 → eucG n m n 6 6 e ≤ 1000000000 := by decide +kernel
/-- What both programs make of a list. -/
theorem fits_pair (t : List (Int × Int)) (hl : t.length ≤ 1000000) (hq : okL 1000000000 t) (ht : trimF t = t) : D 40 [(false, [.arr 4 (t.map cellR)])] false (.tup [(false, [.arr 4 ((resP t).map cellR)]), bP (okP t)]) ∧ D 43 [(false, [.arr 4 (t.map cellR)])] true (.tup [(false, [.arr 4 ((resP t).map cellR)]), bP (okP t)]) := by
  have fS := l4Fits_den t hl hq
  have e1 : okP t = goodP 7 6 (t.map qF) := by unfold okP; rw [ht]
  have e2 : resP t = if goodP 7 6 (t.map qF) then t else [] := by unfold resP; rw [e1, ht]
  rw [← e2, ← e1] at fS
  exact ⟨fS, checkedPoly_den t hl hq⟩
set_option maxHeartbeats 4000000 in
theorem gcdPolyBoth (rs ss : List RawQ) (hrs : shortP 1048576 rs) (hss : shortP 1048576 ss) : ∃ rr b, shortP 1048576 rr ∧ D 23 [polQ rs, polQ ss] false (.tup [polQ rr, bP b]) ∧ D 24 [polQ rs, polQ ss] true (.tup [polQ rr, bP b]) := by
  have gS := l4Both_den rs ss hrs.big hss.big
  have gI := goodPolyI_den rs hrs.big
  have gJ := goodPolyI_den ss hss.big
  cases hg : goodP 7 6 rs with
  | false =>
    rw [hg] at gS gI
    refine ⟨[], false, ⟨by simp, fun r hr => by cases hr⟩, goP 4 Tryz.func23 rfl rfl ?_, goN 4 Tryz.func24 rfl rfl ?_⟩
    · repeat refine vs ?_
      conv => whnf
      refine CallS.mk _ rfl true true _ (gS) rfl ?_
      repeat refine vs ?_
      conv => whnf
      first | rfl | exact ⟨rfl, rfl⟩ | exact ⟨by simp [toRes], rfl⟩
    · repeat refine vs ?_
      conv => whnf
      refine CallS.mk _ rfl true true _ (gI) rfl ?_
      repeat refine vs ?_
      conv => whnf
      first | rfl | exact ⟨rfl, rfl⟩ | exact ⟨by simp [toRes], rfl⟩
  | true =>
    cases hh : goodP 7 6 ss with
    | false =>
      rw [hg] at gI
      rw [hh] at gJ
      rw [hg, hh] at gS
      refine ⟨[], false, ⟨by simp, fun r hr => by cases hr⟩, goP 4 Tryz.func23 rfl rfl ?_, goN 4 Tryz.func24 rfl rfl ?_⟩
      · repeat refine vs ?_
        conv => whnf
        refine CallS.mk _ rfl true true _ (gS) rfl ?_
        repeat refine vs ?_
        conv => whnf
        first | rfl | exact ⟨rfl, rfl⟩ | exact ⟨by simp [toRes], rfl⟩
      · repeat refine vs ?_
        conv => whnf
        refine CallS.mk _ rfl true true _ (gI) rfl ?_
        repeat refine vs ?_
        conv => whnf
        refine CallS.mk _ rfl true true _ (gJ) rfl ?_
        repeat refine vs ?_
        conv => whnf
        first | rfl | exact ⟨rfl, rfl⟩ | exact ⟨by simp [toRes], rfl⟩
    | true =>
      rw [hg] at gI
      rw [hh] at gJ
      rw [hg, hh] at gS
      obtain ⟨p, rfl, hpl, hpo, hpt⟩ := goodP_ex hg
      obtain ⟨q, rfl, hql, hqo, hqt⟩ := goodP_ex hh
      have lp := lowL_T hpo
      have lq := lowL_T hqo
      have op := okL_T hpo
      have oq := okL_T hqo
      have tp := topF_good hpt
      have tq := topF_good hqt
      have b1 := eucB_6 p.length (by omega) q.length (by omega)
      have dI := common_den 8 p q 6 6 (by omega) (by omega) lp lq tp tq op oq (by omega) b1
      have dS := l4Gcd_den 8 p q 6 6 (by omega) (by omega) lp lq tp tq op oq (by omega) b1
      have hcl := comF_len lp lq tq hpl hql
      have hco := (comF_sz lp lq tp tq op oq).mono (eucG_6 p.length (by omega) q.length (by omega) (comF p q).length (by omega))
      have hct := trim_top (gcdF_top (f := q.length) lp lq tp tq).2.1
      obtain ⟨fS, fI⟩ := fits_pair (comF p q) (by omega) hco hct
      refine ⟨(resP (comF p q)).map qF, okP (comF p q), resP_short _, ?_, ?_⟩
      · unfold polQ at *
        rw [map_qF, map_qF] at gS
        rw [map_qF, map_qF, map_qF]
        clear fI dI gI gJ hco hcl hct b1
        generalize comF p q = t at *
        generalize resP t = res at *
        generalize okP t = b at *
        refine go Tryz.func23 rfl rfl ?_
        repeat refine vs ?_
        conv => whnf
        refine CallS.mk _ rfl true true _ (gS) rfl ?_
        repeat refine vs ?_
        conv => whnf
        refine CallS.mk _ rfl false false _ (dS) rfl ?_
        repeat refine vs ?_
        conv => whnf
        refine CallS.mk _ rfl false false _ (fS) rfl ?_
        repeat refine vs ?_
        conv => whnf
        first | rfl | exact ⟨rfl, rfl⟩ | exact ⟨by simp [toRes], rfl⟩
      · unfold polQ at *
        rw [map_qF] at gI gJ
        rw [map_qF, map_qF, map_qF]
        clear fS dS gS hco hcl hct b1
        generalize comF p q = t at *
        generalize resP t = res at *
        generalize okP t = b at *
        refine go Tryz.func24 rfl rfl ?_
        repeat refine vs ?_
        conv => whnf
        refine CallS.mk _ rfl true true _ (gI) rfl ?_
        repeat refine vs ?_
        conv => whnf
        refine CallS.mk _ rfl true true _ (gJ) rfl ?_
        repeat refine vs ?_
        conv => whnf
        refine CallS.mk _ rfl false false _ (dI) rfl ?_
        repeat refine vs ?_
        conv => whnf
        refine CallS.mk _ rfl true true _ (fI) rfl ?_
        repeat refine vs ?_
        conv => whnf
        first | rfl | exact ⟨rfl, rfl⟩ | exact ⟨by simp [toRes], rfl⟩
theorem trim_monic {p : List (Int × Int)} (hp : lowL p) (ht : topF p) : trimF (monicF p) = monicF p := trim_top (monicF_top hp ht)
set_option maxHeartbeats 4000000 in
theorem squareFreeBoth (rs : List RawQ) (hrs : shortP 1048576 rs) : ∃ rr b, shortP 1048576 rr ∧ D 25 [polQ rs] false (.tup [polQ rr, bP b]) ∧ D 26 [polQ rs] true (.tup [polQ rr, bP b]) := by
  have gS := goodPolyS_den rs hrs.big
  have gI := goodPolyI_den rs hrs.big
  cases hg : goodP 7 6 rs with
  | false =>
    rw [hg] at gS gI
    refine ⟨[], false, ⟨by simp, fun r hr => by cases hr⟩, goP 2 Tryz.func25 rfl rfl ?_, goN 2 Tryz.func26 rfl rfl ?_⟩
    · repeat refine vs ?_
      conv => whnf
      refine CallS.mk _ rfl true true _ (gS) rfl ?_
      repeat refine vs ?_
      conv => whnf
      first | rfl | exact ⟨rfl, rfl⟩ | exact ⟨by simp [toRes], rfl⟩
    · repeat refine vs ?_
      conv => whnf
      refine CallS.mk _ rfl true true _ (gI) rfl ?_
      repeat refine vs ?_
      conv => whnf
      first | rfl | exact ⟨rfl, rfl⟩ | exact ⟨by simp [toRes], rfl⟩
  | true =>
    rw [hg] at gS gI
    obtain ⟨p, rfl, hpl, hpo, hpt⟩ := goodP_ex hg
    unfold polQ at *
    rw [map_qF] at *
    by_cases h0 : p = []
    · subst h0
      refine ⟨[], false, ⟨by simp, fun r hr => by cases hr⟩, goP 2 Tryz.func25 rfl rfl ?_, goN 2 Tryz.func26 rfl rfl ?_⟩
      · repeat refine vs ?_
        conv => whnf
        refine CallS.mk _ rfl true true _ (gS) rfl ?_
        repeat refine vs ?_
        conv => whnf
        first | rfl | exact ⟨rfl, rfl⟩ | exact ⟨by simp [toRes], rfl⟩
      · repeat refine vs ?_
        conv => whnf
        refine CallS.mk _ rfl true true _ (gI) rfl ?_
        repeat refine vs ?_
        conv => whnf
        first | rfl | exact ⟨rfl, rfl⟩ | exact ⟨by simp [toRes], rfl⟩
    · have hpp : 0 < p.length := List.length_pos_iff.2 h0
      have hrl : (p.map cellR).length = p.length := by simp
      have lp := lowL_T hpo
      have op := okL_T hpo
      have tp := topF_good hpt
      obtain ⟨g1, g2, g3, g4, g5⟩ := comD (by omega) h0 lp tp op
      have b1 := eucB_67 p.length (by omega)
      have b2 := freeB_6 p.length (by omega) (comF p (derivF p)).length (by omega)
      have dI := squareFree_den p 6 (by omega) h0 lp tp op b1 (by omega) (by omega)
      have dS := l4Free_den p 6 (by omega) h0 lp tp op b1 (by omega) (by omega)
      obtain ⟨f1, f2, f3, f4⟩ := freeF_sz (by omega) h0 lp tp op
      obtain ⟨fS, fI⟩ := fits_pair (freeF p) (by omega) (f1.mono (by omega)) (trim_top f3)
      refine ⟨(resP (freeF p)).map qF, okP (freeF p), resP_short _, ?_, ?_⟩
      · rw [map_qF]
        clear fI dI gI f1 f2 f3 f4 g1 g2 g3 g4 g5 b1 b2
        generalize freeF p = t at *
        generalize resP t = res at *
        generalize okP t = b at *
        refine go Tryz.func25 rfl rfl ?_
        repeat refine vs ?_
        conv => whnf
        refine CallS.mk _ rfl true true _ (gS) rfl ?_
        repeat refine vs ?_
        conv => whnf
        refine CallS.mk _ rfl false false _ (dS) rfl ?_
        repeat refine vs ?_
        conv => whnf
        refine CallS.mk _ rfl false false _ (fS) rfl ?_
        repeat refine vs ?_
        conv => whnf
        first | rfl | exact ⟨rfl, rfl⟩ | exact ⟨by simp [toRes], rfl⟩
      · rw [map_qF]
        clear fS dS gS f1 f2 f3 f4 g1 g2 g3 g4 g5 b1 b2
        generalize freeF p = t at *
        generalize resP t = res at *
        generalize okP t = b at *
        refine go Tryz.func26 rfl rfl ?_
        repeat refine vs ?_
        conv => whnf
        refine CallS.mk _ rfl true true _ (gI) rfl ?_
        repeat refine vs ?_
        conv => whnf
        refine CallS.mk _ rfl false false _ (dI) rfl ?_
        repeat refine vs ?_
        conv => whnf
        refine CallS.mk _ rfl true true _ (fI) rfl ?_
        repeat refine vs ?_
        conv => whnf
        first | rfl | exact ⟨rfl, rfl⟩ | exact ⟨by simp [toRes], rfl⟩
set_option maxHeartbeats 4000000 in
theorem shiftPolyBoth (rs : List RawQ) (n : Bool) (l : List Int) (p : Bool) (q : List Int) (hrs : shortP 1048576 rs) (hl : l.length ≤ 1000000000000) (hq : q.length ≤ 1000000000000) :
    ∃ rr b, shortP 1048576 rr ∧ D 18 [polQ rs, ratR n l p q] false (.tup [polQ rr, bP b]) ∧ D 20 [polQ rs, ratR n l p q] true (.tup [polQ rr, bP b]) := by
  have gS := goodPolyS_den rs hrs.big
  have gI := goodPolyI_den rs hrs.big
  have pS := l4Small_den n l p q hl hq
  have rS := goodRatS_den n l p q hl hq
  have pI := isArg_den ⟨n, l, p, q⟩ hl hq
  cases hg : goodP 7 6 rs with
  | false =>
    rw [hg] at gS gI
    refine ⟨[], false, ⟨by simp, fun r hr => by cases hr⟩, goP 4 Tryz.func18 rfl rfl ?_, goN 4 Tryz.func20 rfl rfl ?_⟩
    · repeat refine vs ?_
      conv => whnf
      refine CallS.mk _ rfl true true _ (gS) rfl ?_
      repeat refine vs ?_
      conv => whnf
      first | rfl | exact ⟨rfl, rfl⟩ | exact ⟨by simp [toRes], rfl⟩
    · repeat refine vs ?_
      conv => whnf
      refine CallS.mk _ rfl true true _ (gI) rfl ?_
      repeat refine vs ?_
      conv => whnf
      first | rfl | exact ⟨rfl, rfl⟩ | exact ⟨by simp [toRes], rfl⟩
  | true =>
    rw [hg] at gS gI
    cases hp : okQ 6 ⟨n, l, p, q⟩ with
    | false =>
      rw [hp] at pI
      refine ⟨[], false, ⟨by simp, fun r hr => by cases hr⟩, ?_, goN 4 Tryz.func20 rfl rfl ?_⟩
      · refine goP 4 Tryz.func18 rfl rfl ?_
        unfold okQ at hp
        cases hr : goodR n l p q with
        | false =>
          rw [hr] at rS
          cases hs : (decide (l.length ≤ 6) && decide (q.length ≤ 6)) with
          | false =>
            rw [hs] at pS
            repeat refine vs ?_
            conv => whnf
            refine CallS.mk _ rfl true true _ (gS) rfl ?_
            repeat refine vs ?_
            conv => whnf
            refine CallS.mk _ rfl true true _ (pS) rfl ?_
            repeat refine vs ?_
            conv => whnf
            first | rfl | exact ⟨rfl, rfl⟩ | exact ⟨by simp [toRes], rfl⟩
          | true =>
            rw [hs] at pS
            repeat refine vs ?_
            conv => whnf
            refine CallS.mk _ rfl true true _ (gS) rfl ?_
            repeat refine vs ?_
            conv => whnf
            refine CallS.mk _ rfl true true _ (pS) rfl ?_
            repeat refine vs ?_
            conv => whnf
            refine CallS.mk _ rfl true true _ (rS) rfl ?_
            repeat refine vs ?_
            conv => whnf
            first | rfl | exact ⟨rfl, rfl⟩ | exact ⟨by simp [toRes], rfl⟩
        | true =>
          simp only [hr, Bool.true_and] at hp
          rw [hp] at pS
          repeat refine vs ?_
          conv => whnf
          refine CallS.mk _ rfl true true _ (gS) rfl ?_
          repeat refine vs ?_
          conv => whnf
          refine CallS.mk _ rfl true true _ (pS) rfl ?_
          repeat refine vs ?_
          conv => whnf
          first | rfl | exact ⟨rfl, rfl⟩ | exact ⟨by simp [toRes], rfl⟩
      · repeat refine vs ?_
        conv => whnf
        refine CallS.mk _ rfl true true _ (gI) rfl ?_
        repeat refine vs ?_
        conv => whnf
        refine CallS.mk _ rfl true true _ (pI) rfl ?_
        repeat refine vs ?_
        conv => whnf
        first | rfl | exact ⟨rfl, rfl⟩ | exact ⟨by simp [toRes], rfl⟩
    | true =>
      obtain ⟨fs, rfl, hlen, hlow, ht⟩ := goodP_ex hg
      obtain ⟨x, hx, hxl⟩ := okQ_ex hp
      unfold qF at hx
      cases hx
      unfold polQ at *
      rw [map_qF] at *
      refine ⟨(resP (shiftF fs x)).map qF, okP (shiftF fs x), resP_short _, ?_, ?_⟩
      · rw [map_qF]
        exact shiftS_den fs x (by omega) hlow ht hxl
      · rw [map_qF]
        exact shiftI_den fs x (by omega) hlow ht hxl
theorem szD_66 : ∀ m, m < 9 → szD 6 m 6 + 6 + 4 ≤ 1000000000 := by decide +kernel
set_option maxHeartbeats 8000000 in
theorem divPolyBoth (rs ss : List RawQ) (hrs : shortP 1048576 rs) (hss : shortP 1048576 ss) : ∃ rr0 rr1 b, shortP 1048576 rr0 ∧ shortP 1048576 rr1 ∧ D 11 [polQ rs, polQ ss] false (.tup [polQ rr0, polQ rr1, bP b]) ∧ D 13 [polQ rs, polQ ss] true (.tup [polQ rr0, polQ rr1, bP b]) := by
  have hnil : shortP 1048576 [] := ⟨by simp, fun r hr => by cases hr⟩
  have gS := l4Both_den rs ss hrs.big hss.big
  have gI := goodPolyI_den rs hrs.big
  have gJ := goodPolyI_den ss hss.big
  cases hg : goodP 7 6 rs with
  | false =>
    rw [hg] at gS gI
    refine ⟨[], [], false, hnil, hnil, goPP 4 5 Tryz.func11 rfl rfl ?_, goNN 4 5 Tryz.func13 rfl rfl ?_⟩
    · repeat refine vs ?_
      conv => whnf
      refine CallS.mk _ rfl true true _ (gS) rfl ?_
      repeat refine vs ?_
      conv => whnf
      first | rfl | exact ⟨rfl, rfl⟩ | exact ⟨by simp [toRes], rfl⟩
    · repeat refine vs ?_
      conv => whnf
      refine CallS.mk _ rfl true true _ (gI) rfl ?_
      repeat refine vs ?_
      conv => whnf
      first | rfl | exact ⟨rfl, rfl⟩ | exact ⟨by simp [toRes], rfl⟩
  | true =>
    cases hh : goodP 7 6 ss with
    | false =>
      rw [hg] at gI
      rw [hh] at gJ
      rw [hg, hh] at gS
      refine ⟨[], [], false, hnil, hnil, goPP 4 5 Tryz.func11 rfl rfl ?_, goNN 4 5 Tryz.func13 rfl rfl ?_⟩
      · repeat refine vs ?_
        conv => whnf
        refine CallS.mk _ rfl true true _ (gS) rfl ?_
        repeat refine vs ?_
        conv => whnf
        first | rfl | exact ⟨rfl, rfl⟩ | exact ⟨by simp [toRes], rfl⟩
      · repeat refine vs ?_
        conv => whnf
        refine CallS.mk _ rfl true true _ (gI) rfl ?_
        repeat refine vs ?_
        conv => whnf
        refine CallS.mk _ rfl true true _ (gJ) rfl ?_
        repeat refine vs ?_
        conv => whnf
        first | rfl | exact ⟨rfl, rfl⟩ | exact ⟨by simp [toRes], rfl⟩
    | true =>
      rw [hg] at gI
      rw [hh] at gJ
      rw [hg, hh] at gS
      obtain ⟨p, rfl, hpl, hpo, hpt⟩ := goodP_ex hg
      obtain ⟨q, rfl, hql, hqo, hqt⟩ := goodP_ex hh
      unfold polQ at *
      rw [map_qF] at gI gJ
      rw [map_qF, map_qF] at gS
      rw [map_qF, map_qF]
      have hrl : (q.map cellR).length = q.length := by simp
      by_cases h0 : q = []
      · subst h0
        refine ⟨[], [], false, hnil, hnil, goPP 4 5 Tryz.func11 rfl rfl ?_, goNN 4 5 Tryz.func13 rfl rfl ?_⟩
        · repeat refine vs ?_
          conv => whnf
          refine CallS.mk _ rfl true true _ (gS) rfl ?_
          repeat refine vs ?_
          conv => whnf
          first | rfl | exact ⟨rfl, rfl⟩ | exact ⟨by simp [toRes], rfl⟩
        · repeat refine vs ?_
          conv => whnf
          refine CallS.mk _ rfl true true _ (gI) rfl ?_
          repeat refine vs ?_
          conv => whnf
          refine CallS.mk _ rfl true true _ (gJ) rfl ?_
          repeat refine vs ?_
          conv => whnf
          first | rfl | exact ⟨rfl, rfl⟩ | exact ⟨by simp [toRes], rfl⟩
      · have hqp : 0 < q.length := List.length_pos_iff.2 h0
        have op := okL_T hpo
        have oq := okL_T hqo
        have tq := topF_good hqt h0
        have hS := szD_66 (p.length + 1 - q.length) (by omega)
        have dI := divided_den p q 6 6 (by omega) (by omega) op oq h0 tq hS
        have dS := l4Div_den p q 6 6 (by omega) (by omega) op oq h0 tq hS
        have hdo := divF_ok op oq h0 tq
        have hdl : (divF p q).1.length = p.length + 1 - q.length ∧ (divF p q).2.length = p.length := by unfold divF; rw [divL_len.1, divL_len.2]; simp
        have l1 := trimF_len (divF p q).1
        have l2 := trimF_len (divF p q).2
        obtain ⟨fS1, fI1⟩ := fits_pair (trimF (divF p q).1) (by omega) (fun f hf => (hdo.1 f (trimF_sub hf)).mono (by omega)) (trimF_trim _)
        obtain ⟨fS2, fI2⟩ := fits_pair (trimF (divF p q).2) (by omega) (fun f hf => (hdo.2 f (trimF_sub hf)).mono (by omega)) (trimF_trim _)
        have s1 := resP_short (trimF (divF p q).1)
        have s2 := resP_short (trimF (divF p q).2)
        clear hdo hdl l1 l2 hS
        generalize trimF (divF p q).1 = A at *
        generalize trimF (divF p q).2 = B at *
        generalize resP A = rA at *
        generalize resP B = rB at *
        generalize okP A = a at *
        generalize okP B = b at *
        cases a with
        | false =>
          refine ⟨[], [], false, hnil, hnil, goPP 4 5 Tryz.func11 rfl rfl ?_, goNN 4 5 Tryz.func13 rfl rfl ?_⟩
          · repeat refine vs ?_
            conv => whnf
            refine CallS.mk _ rfl true true _ (gS) rfl ?_
            repeat refine vs ?_
            conv => whnf
            refine CallS.mk _ rfl false false _ (dS) rfl ?_
            repeat refine vs ?_
            conv => whnf
            refine CallS.mk _ rfl false false _ (fS1) rfl ?_
            repeat refine vs ?_
            conv => whnf
            refine CallS.mk _ rfl false false _ (fS2) rfl ?_
            repeat refine vs ?_
            conv => whnf
            first | rfl | exact ⟨rfl, rfl⟩ | exact ⟨by simp [toRes], rfl⟩
          · repeat refine vs ?_
            conv => whnf
            refine CallS.mk _ rfl true true _ (gI) rfl ?_
            repeat refine vs ?_
            conv => whnf
            refine CallS.mk _ rfl true true _ (gJ) rfl ?_
            repeat refine vs ?_
            conv => whnf
            refine CallS.mk _ rfl false false _ (dI) rfl ?_
            repeat refine vs ?_
            conv => whnf
            refine CallS.mk _ rfl true false _ (fI1) rfl ?_
            repeat refine vs ?_
            conv => whnf
            refine CallS.mk _ rfl true false _ (fI2) rfl ?_
            repeat refine vs ?_
            conv => whnf
            first | rfl | exact ⟨rfl, rfl⟩ | exact ⟨by simp [toRes], rfl⟩
        | true =>
          cases b with
          | false =>
            refine ⟨[], [], false, hnil, hnil, goPP 4 5 Tryz.func11 rfl rfl ?_, goNN 4 5 Tryz.func13 rfl rfl ?_⟩
            · repeat refine vs ?_
              conv => whnf
              refine CallS.mk _ rfl true true _ (gS) rfl ?_
              repeat refine vs ?_
              conv => whnf
              refine CallS.mk _ rfl false false _ (dS) rfl ?_
              repeat refine vs ?_
              conv => whnf
              refine CallS.mk _ rfl false false _ (fS1) rfl ?_
              repeat refine vs ?_
              conv => whnf
              refine CallS.mk _ rfl false false _ (fS2) rfl ?_
              repeat refine vs ?_
              conv => whnf
              first | rfl | exact ⟨rfl, rfl⟩ | exact ⟨by simp [toRes], rfl⟩
            · repeat refine vs ?_
              conv => whnf
              refine CallS.mk _ rfl true true _ (gI) rfl ?_
              repeat refine vs ?_
              conv => whnf
              refine CallS.mk _ rfl true true _ (gJ) rfl ?_
              repeat refine vs ?_
              conv => whnf
              refine CallS.mk _ rfl false false _ (dI) rfl ?_
              repeat refine vs ?_
              conv => whnf
              refine CallS.mk _ rfl true false _ (fI1) rfl ?_
              repeat refine vs ?_
              conv => whnf
              refine CallS.mk _ rfl true false _ (fI2) rfl ?_
              repeat refine vs ?_
              conv => whnf
              first | rfl | exact ⟨rfl, rfl⟩ | exact ⟨by simp [toRes], rfl⟩
          | true =>
            refine ⟨rA.map qF, rB.map qF, true, s1, s2, ?_, ?_⟩
            · rw [map_qF, map_qF]
              refine go Tryz.func11 rfl rfl ?_
              repeat refine vs ?_
              conv => whnf
              refine CallS.mk _ rfl true true _ (gS) rfl ?_
              repeat refine vs ?_
              conv => whnf
              refine CallS.mk _ rfl false false _ (dS) rfl ?_
              repeat refine vs ?_
              conv => whnf
              refine CallS.mk _ rfl false false _ (fS1) rfl ?_
              repeat refine vs ?_
              conv => whnf
              refine CallS.mk _ rfl false false _ (fS2) rfl ?_
              repeat refine vs ?_
              conv => whnf
              first | rfl | exact ⟨rfl, rfl⟩ | exact ⟨by simp [toRes], rfl⟩
            · rw [map_qF, map_qF]
              refine go Tryz.func13 rfl rfl ?_
              repeat refine vs ?_
              conv => whnf
              refine CallS.mk _ rfl true true _ (gI) rfl ?_
              repeat refine vs ?_
              conv => whnf
              refine CallS.mk _ rfl true true _ (gJ) rfl ?_
              repeat refine vs ?_
              conv => whnf
              refine CallS.mk _ rfl false false _ (dI) rfl ?_
              repeat refine vs ?_
              conv => whnf
              refine CallS.mk _ rfl true true _ (fI1) rfl ?_
              repeat refine vs ?_
              conv => whnf
              refine CallS.mk _ rfl true true _ (fI2) rfl ?_
              repeat refine vs ?_
              conv => whnf
              first | rfl | exact ⟨rfl, rfl⟩ | exact ⟨by simp [toRes], rfl⟩
end Go.Vx
