/- VxB, VxM -/
import Derived.Test.YtilodpbmmhmfiaaVGc
set_option linter.unusedVariables false
set_option linter.unusedSectionVars false
set_option linter.unusedSimpArgs false
section
/- Vx, part 9b: append, in the frame. -/
namespace Go.Vx
open Go.RowKit

section
variable {F : Fr} {β β' : BM} {T : List FV} {a : Act} {w w' : World} {o : Oper} {Γ : Tab} {ei : TypeId} {Q : Exit → Act → World → Prop} {K : Act → World → Prop}

theorem grown_at {q : PL} {us : List Value} {cc : Array Value} {e : TypeId} {g : Nat} {ok : Nat → Prop} (hq : q.isArr = true) (hrl : ∀ r ∈ q.rows, r.length = q.wd) (h : All2 (PL.R w' ok) q.rows.flatten us)
    (hg : w'.heap[g]? = some (.cells cc e (0, 0))) (hcc : ∀ (j : Nat) (u : Value), us[j]? = some u → cc[j]? = some u) : q.At w' ok g 0 :=
  (At_rows hq).2 (Rows_of hrl h fun j u hj => by rw [cell_of_row _ g _ cc e (0, 0) hg, Nat.zero_add]; exact hcc j u hj)

theorem Rs_move (m : Mv F β β' w w') : ∀ {ps : List PL} {us : List Value}, All2 (PL.R w (okU F β)) ps us → All2 (PL.R w' (okU F β')) ps us
  | [], [], _ => True.intro
  | _ :: _, _ :: _, h => ⟨PL.R.move m.hs m.ok _ _ h.1, Rs_move m h.2⟩
  | [], _ :: _, h => h.elim
  | _ :: _, [], h => h.elim

theorem R1s {ok : Nat → Prop} : ∀ {ps : List PL} {us : List Value}, All2 (PL.R w ok) ps us → ∀ u ∈ us, u.oneCell' = true
  | [], [], _, u, hu => by cases hu
  | p :: ps, v :: us, h, u, hu => by
    rcases List.mem_cons.1 hu with rfl | hu
    · exact PL.R.one h.1
    · exact R1s h.2 u hu
  | [], _ :: _, h, _, _ => h.elim
  | _ :: _, [], h, _, _ => h.elim

/-- The frame behind an append to an array of its own: the others under the label are gone. -/
theorem Sim.killed (h : Sim F β T a w) (m : Mv F β β' w w') {lab : Lab} (hB : (T.all fun f => !f.hasB lab) = true) (hk : ∀ l g, l ≠ lab → β l = some g → β' l = some g ∧ w'.heap[g]? = w.heap[g]?)
    (inj : ∀ l l' g, β' l = some g → β' l' = some g → l = l') (rng : ∀ l g, β' l = some g → g < w'.heap.size ∧ (F.base ≤ g ∨ g ∈ F.M))
    (os : w'.os = w.os) (tape : w'.tape = w.tape) (output : w'.output = w.output) (kept : ∀ k, k < F.base → k ∉ F.M → w'.heap[k]? = w.heap[k]?) : Sim F β' (T.map (FV.killO lab)) a w' :=
  { defers := h.defers, size := h.size.trans (by simp), inj := inj, rng := rng, os := os.trans h.os, tape := tape.trans h.tape, output := output.trans h.output,
    hsize := Nat.le_trans h.hsize m.hs, kept := fun k h1 h2 => (kept k h1 h2).trans (h.kept k h1 h2), mok := h.mok,
    rel := fun i f hf => by
      rw [List.getElem?_map] at hf
      obtain ⟨f0, hf0, rfl⟩ := Option.map_eq_some_iff.1 hf
      obtain ⟨c, hc, hr⟩ := h.rel i f0 hf0
      rw [List.all_eq_true] at hB
      exact ⟨c, hc, killO_R m hk (by simpa using hB f0 (List.mem_of_getElem? hf0)) hr⟩ }

theorem arr_of_ty {t : Ty} {y : PL} (h : tyArr t y = true) : y.isArr = true := tyArr_isArr h

/-- The new block of an array that has grown. -/
theorem grew_own {lab : Lab} (hlow : lab.1 < 2000000) {q : PL} {us : List Value} {zs : Array Value} {e : TypeId} {c : Nat} (hβ : β' lab = some w.heap.size) (hq : q.isArr = true) (hrl : ∀ r ∈ q.rows, r.length = q.wd)
    (h : All2 (PL.R w (okU F β)) q.rows.flatten us) (m : Mv F β β' w (w.drew.alloc (.cells (us.toArray ++ zs) e))) (hc : q.len ≤ c) (hm : c ≤ maxLen) (hz : us.length + zs.size = c * q.wd) :
    OwnR F β' (w.drew.alloc (.cells (us.toArray ++ zs) e)) lab e q (.slice (some ⟨w.heap.size, 0, none⟩) q.len c) :=
  ⟨⟨hq, PinR.low hlow⟩, .inr ⟨w.heap.size, c, _, rfl, hβ, heap_alloc_new w.drew _, hc, hm, by simpa using hz, grown_at hq hrl (Rs_move m h) (heap_alloc_new w.drew _) fun j u hj => by
    rw [Array.getElem?_append_left (by simpa using (List.getElem?_eq_some_iff.1 hj).1)]
    simpa using hj⟩⟩

theorem s_append (h : Sim F β T a w) (hT : tabB F.P ei Γ = true) {c : Call} {s x : Operand} {t : TypeId} (ho : o.op = .call c) (hc : c.callee = .builtin .append) (hargs : c.args.toList = [s, x]) (hts : c.argTypes.toList = [t, t])
    {r : TyRow} (hr : Γ.get t = some r) {sv xv : Lf} {y z q : PL} (hs : opd T s = .v false [sv]) (hx : opd T x = .v false [xv]) (hy : contA r.ty sv = some y) (hz : contA r.ty xv = some z) (hq : y.cat z = q)
    (hb : (y.len + z.len) * (r.ty.by + 1) ≤ 140737488355328)
    (hdst : o.dst.getD 0 < 1000000) (hnil : sv = .nil → noD T (1000000 + o.dst.getD 0) = true ∧ ∀ β' c w', Sim F β' (put T o.dst (.v false [.own (1000000 + o.dst.getD 0, 0) (r.ty.elem ei) q])) (a.put o.dst c) w' → K (a.put o.dst c) w')
    (hown : ∀ lab e y', sv = .own lab e y' → (e = r.ty.elem ei ∧ lab.1 < 2000000) ∧ (T.all fun f => !f.hasB lab) = true ∧ ∀ β' c w', Sim F β' (put (T.map (FV.killO lab)) o.dst (.v false [.own lab (r.ty.elem ei) q])) (a.put o.dst c) w' → K (a.put o.dst c) w')
    (hp : ∀ y', sv ≠ .p y') (hu : sv ≠ .undef) : o.wp F.P a w K Q := by
  have hei : eiB F.P ei = true := by unfold tabB at hT; rw [Bool.and_eq_true] at hT; exact hT.1
  obtain ⟨hid, hrow⟩ := tab_row hT hr
  have ty := contA_ty hy
  have tz := contA_ty hz
  obtain ⟨i, zr, hun, hi, hsz, hby, hzr, hzs, hpos, _⟩ := row_elem hei hrow ty hid
  obtain ⟨cA, cW, cW2, cL, cR⟩ := cat_spec ty tz
  rw [hq] at cA cW cL cR
  have hsv : RLf F β w sv (a.eval s) := by have := opd_R h s; rw [hs] at this; exact R_v1 this
  have hxv : RLf F β w xv (a.eval x) := by have := opd_R h x; rw [hx] at this; exact R_v1 this
  obtain ⟨A, cx, news, hxval, hzl, hzR, hzc⟩ := cont_list h hz hxv
  obtain ⟨B, cs, olds, hsval, hyl, hyR, hyc⟩ := cont_list h hy hsv
  have hnl : news.length = z.len * i.size := by rw [← hzR.length, flat_len hzl, rows_len (arr_of_ty tz), hsz, cW2]
  have hol : olds.length = y.len * i.size := by rw [← hyR.length, flat_len hyl, rows_len (arr_of_ty ty), hsz]
  have hbytes : (y.len + z.len) * i.bytes ≤ 140737488355328 := by
    rw [hby]
    exact Nat.le_trans (Nat.mul_le_mul_left _ (Nat.le_succ _)) hb
  have hzb : z.len * i.bytes ≤ 140737488355328 := Nat.le_trans (Nat.mul_le_mul_right _ (Nat.le_add_left _ _)) hbytes
  have hlen47 : y.len + z.len ≤ 140737488355328 := Nat.le_trans (by simpa using Nat.mul_le_mul_left (y.len + z.len) (show 1 ≤ r.ty.by + 1 by omega)) hb
  have h63 : ((y.len + z.len : Nat) : Int) ≤ 9223372036854775807 := by omega
  have hqR : All2 (PL.R w (okU F β)) q.rows.flatten (olds ++ news) := by rw [cR, List.flatten_append]; exact hyR.append hzR
  have hqrl : ∀ r ∈ q.rows, r.length = q.wd := by
    intro r' hr'
    rw [cR] at hr'
    rw [cW]
    rcases List.mem_append.1 hr' with h1 | h1
    · exact hyl r' h1
    · rw [hzl r' h1, cW2]
  have hg := fun (cc : Array Value) => (Grew.drew w).size
  have grewM : ∀ (β2 : BM) (cc : Array Value) (e : TypeId), (∀ l g, β2 l = some g → g = w.heap.size ∨ ∃ l', β l' = some g) → Mv F β β2 w (w.drew.alloc (.cells cc e)) := by
    intro β2 cc e hβ
    refine ⟨by simp, fun g hg hlt => ⟨⟨hg.1, fun l hl => ?_⟩, heap_alloc_old w.drew _ hlt⟩⟩
    rcases hβ l g hl with rfl | ⟨l', hl'⟩
    · omega
    · exact hg.2 l' hl'
  have hcapm : ∀ old, grownCap w (y.len + z.len) old (r.ty.elem ei) ≤ maxLen := fun old => grownCap_le_maxLen w _ old _ (by simp only [maxLen]; omega)
  have hcapg : ∀ old, y.len + z.len ≤ grownCap w (y.len + z.len) old (r.ty.elem ei) := fun old => grownCap_ge w _ old _
  have hzsz : ∀ old, (olds ++ news).length + (Builtin.zeroCells zr.cells (grownCap w (y.len + z.len) old (r.ty.elem ei) - (y.len + z.len))).size = grownCap w (y.len + z.len) old (r.ty.elem ei) * q.wd := by
    intro old
    rw [size_zeroCells, List.length_append, hol, hnl, hzs, cW, hsz, ← Nat.add_mul, ← Nat.add_mul]
    congr 1
    have := hcapg old
    omega
  cases sv with
  | undef => exact absurd rfl hu
  | p y' => exact absurd rfl (hp y')
  | nil =>
    obtain ⟨hnoD, hK⟩ := hnil rfl
    have hno := noD_has hnoD
    have hlow : ((1000000 + o.dst.getD 0, 0) : Lab).1 < 2000000 := Nat.add_lt_add_left hdst 1000000
    unfold RLf at hsv
    have hy0 : y.len = 0 := by rw [hsv] at hsval; injection hsval with _ h2 _; exact h2.symm
    have ho0 : olds = [] := List.eq_nil_of_length_eq_zero (by rw [hol, hy0]; simp)
    subst ho0
    by_cases hz0 : z.len = 0
    · rw [hz0] at hxval
      have hrun := run_append_empty (P := F.P) (t := t) (ty := o.type) hun hi (B := none) (A := A) (n := 0) (cap := 0) (c := cx) (Nat.le_refl _) w
      rw [← hsv, ← hxval] at hrun
      refine wp_value (run_append_op ho hc hargs hts hrun) (hK (relab β (1000000 + o.dst.getD 0) fun _ => none) _ _ ((h.label (Grew.refl w) _ _ hno (fun _ _ h => by cases h) (fun _ _ _ h => by cases h)).put o.dst ⟨_, rfl, ⟨cA, PinR.low hlow⟩, .inl ⟨hsv, by rw [cL]; omega⟩⟩))
    · obtain ⟨g, p, rfl, hcell⟩ : ∃ g p, A = some ⟨g, p, none⟩ ∧ ∀ j u, news[j]? = some u → w.cell? ⟨g, p + j, none⟩ = some u := by
        rcases hzc with h0 | h0
        · exact absurd h0 hz0
        · exact h0
      have hrun := run_append_nil (P := F.P) w t o.type _ i zr hun hi hzr ⟨g, p, none⟩ z.len cx news hnl (fun j u hj => by rw [Addr.add_lit]; exact hcell j u hj) (by omega) (by omega) (by omega)
      rw [← hsv, ← hxval] at hrun
      have hgr : Grew w (w.drew.alloc (.cells (news.toArray ++ Builtin.zeroCells zr.cells (grownCap w z.len 0 (r.ty.elem ei) - z.len)) (r.ty.elem ei))) := ⟨rfl, rfl, rfl, by simp, fun k hk => heap_alloc_old w.drew _ hk⟩
      refine wp_value (run_append_op ho hc hargs hts hrun) (hK (relab β (1000000 + o.dst.getD 0) (N1 w.heap.size)) _ _ ((h.label hgr _ _ hno (N1_lt (Nat.le_refl _) (by simp)) N1_inj).put o.dst ⟨_, rfl, ?_⟩))
      have hze : y.len + z.len = z.len := by omega
      have e1 := hzsz 0
      have e2 := hcapg 0
      have e3 := hcapm 0
      rw [hze] at e1 e2 e3
      simp only [List.nil_append] at hqR e1
      have := grew_own (F := F) (β := β) (β' := relab β (1000000 + o.dst.getD 0) (N1 w.heap.size)) (w := w) (lab := (1000000 + o.dst.getD 0, 0)) hlow (e := r.ty.elem ei) (c := grownCap w z.len 0 (r.ty.elem ei)) (relab_0 _ _ _) cA hqrl hqR
        (grewM _ _ _ (fun l b hl => by
          unfold relab at hl
          split at hl
          · unfold N1 at hl
            split at hl
            · cases hl; exact .inl rfl
            · cases hl
          · exact .inr ⟨l, hl⟩)) (by rw [cL, hze]; exact e2) e3 e1
      rw [cL, hze] at this
      exact this
  | own lab e y' =>
    obtain ⟨⟨he, hlow⟩, hB, hK⟩ := hown lab e y' rfl
    subst he
    have hyy : y' = y := by unfold contA at hy; dsimp only at hy; split at hy <;> cases hy; rfl
    subst hyy
    obtain ⟨_, hsv⟩ := hsv
    rcases hsv with ⟨hv, h0⟩ | ⟨g, cap, cur, hv, hbl, hh, k1, k2, k3, k4⟩
    · -- nil under a label
      have ho0 : olds = [] := List.eq_nil_of_length_eq_zero (by rw [hol, h0]; simp)
      subst ho0
      let β1 : BM := fun l => if l = lab then none else β l
      have h1 : ∀ l g, β1 l = some g → β l = some g := by
        intro l g hl
        by_cases hll : l = lab
        · simp [β1, hll] at hl
        · simpa [β1, hll] using hl
      by_cases hz0 : z.len = 0
      · rw [hz0] at hxval
        have hrun := run_append_empty (P := F.P) (t := t) (ty := o.type) hun hi (B := none) (A := A) (n := 0) (cap := 0) (c := cx) (Nat.le_refl _) w
        rw [← hv, ← hxval] at hrun
        refine wp_value (run_append_op ho hc hargs hts hrun) (hK β1 _ _ ((h.killed (β' := β1) (w' := w) ⟨Nat.le_refl _, fun g hg _ => ⟨⟨hg.1, fun l hl => hg.2 l (h1 l g hl)⟩, rfl⟩⟩ hB (fun l g hl hg => ⟨by simp [β1, hl, hg], rfl⟩)
          (fun l l' g hl hl' => h.inj l l' g (h1 l g hl) (h1 l' g hl')) (fun l g hl => h.rng l g (h1 l g hl)) rfl rfl rfl (fun _ _ _ => rfl)).put o.dst ⟨_, rfl, ⟨cA, PinR.low hlow⟩, .inl ⟨hv, by rw [cL]; omega⟩⟩))
      · obtain ⟨g, p, rfl, hcell⟩ : ∃ g p, A = some ⟨g, p, none⟩ ∧ ∀ j u, news[j]? = some u → w.cell? ⟨g, p + j, none⟩ = some u := by
          rcases hzc with h0 | h0
          · exact absurd h0 hz0
          · exact h0
        have hrun := run_append_nil (P := F.P) w t o.type _ i zr hun hi hzr ⟨g, p, none⟩ z.len cx news hnl (fun j u hj => by rw [Addr.add_lit]; exact hcell j u hj) (by omega) (by omega) (by omega)
        rw [← hv, ← hxval] at hrun
        let β2 : BM := fun l => if l = lab then some w.heap.size else β l
        have hβ2 : ∀ l b, β2 l = some b → b = w.heap.size ∨ ∃ l', β l' = some b := by
          intro l b hl
          by_cases hll : l = lab
          · simp [β2, hll] at hl; exact .inl hl.symm
          · simp [β2, hll] at hl; exact .inr ⟨l, hl⟩
        have hze : y'.len + z.len = z.len := by omega
        have e1 := hzsz 0
        have e2 := hcapg 0
        have e3 := hcapm 0
        rw [hze] at e1 e2 e3
        simp only [List.nil_append] at hqR e1
        have m := grewM β2 (news.toArray ++ Builtin.zeroCells zr.cells (grownCap w z.len 0 (r.ty.elem ei) - z.len)) (r.ty.elem ei) hβ2
        refine wp_value (run_append_op ho hc hargs hts hrun) (hK β2 _ _ ((h.killed (β' := β2) m hB (fun l b hl hb => ⟨by simp [β2, hl, hb], heap_alloc_old w.drew _ (h.rng l b hb).1⟩)
          (fun l l' b hl hl' => ?_) (fun l b hl => ?_) rfl rfl rfl (fun k hk _ => heap_alloc_old w.drew _ (Nat.lt_of_lt_of_le hk h.hsize))).put o.dst ⟨_, rfl, ?_⟩))
        · by_cases q1 : l = lab <;> by_cases q2 : l' = lab
          · rw [q1, q2]
          · simp [β2, q1] at hl; simp [β2, q2] at hl'; have := (h.rng _ _ hl').1; omega
          · simp [β2, q1] at hl; simp [β2, q2] at hl'; have := (h.rng _ _ hl).1; omega
          · simp [β2, q1] at hl; simp [β2, q2] at hl'; exact h.inj _ _ _ hl hl'
        · rcases hβ2 l b hl with rfl | ⟨l', hl'⟩
          · exact ⟨by simp, .inl h.hsize⟩
          · have := h.rng l' b hl'
            exact ⟨by simp; omega, this.2⟩
        · have := grew_own (F := F) (β := β) (β' := β2) (w := w) (lab := lab) hlow (e := r.ty.elem ei) (c := grownCap w z.len 0 (r.ty.elem ei)) (by simp [β2]) cA hqrl hqR m (by rw [cL, hze]; exact e2) e3 e1
          rw [cL, hze] at this
          exact this
    · -- a block
      have hBs : B = some ⟨g, 0, none⟩ ∧ cs = cap := by rw [hv] at hsval; cases hsval; exact ⟨rfl, rfl⟩
      obtain ⟨rfl, rfl⟩ := hBs
      -- the old cells are the block's
      obtain ⟨o1, olds2, o3, o4⟩ := Rows_list ((At_rows (arr_of_ty ty)).1 k4)
      have hol2 : olds2.length = y'.len * i.size := by rw [← o3.length, flat_len o1, rows_len (arr_of_ty ty), hsz]
      have hqR2 : All2 (PL.R w (okU F β)) q.rows.flatten (olds2 ++ news) := by rw [cR, List.flatten_append]; exact o3.append hzR
      have hcur : ∀ (j : Nat) (u : Value), olds2[j]? = some u → cur[j]? = some u := by
        intro j u hj
        have := o4 j u hj
        rw [cell_of_row _ g _ cur _ (0, 0) hh, Nat.zero_add] at this
        exact this
      have hcurs : cur.size = cs * i.size := by rw [k3, hsz]
      by_cases hroom : y'.len + z.len ≤ cs
      · -- room
        have hfit : y'.len * i.size + news.length ≤ cur.size := by rw [hnl, hcurs, ← Nat.add_mul]; exact Nat.mul_le_mul_right _ hroom
        have htake : cur.toList.take (y'.len * i.size) = olds2 := by
          apply List.ext_getElem?
          intro j
          rw [List.getElem?_take]
          by_cases hj : j < y'.len * i.size
          · rw [if_pos hj]
            have hlt : j < olds2.length := by omega
            rw [List.getElem?_eq_getElem hlt]
            have := hcur j _ (List.getElem?_eq_getElem hlt)
            simpa using this
          · rw [if_neg hj, List.getElem?_eq_none (by omega)]
        by_cases hz0 : z.len = 0
        · have hn0 : news = [] := List.eq_nil_of_length_eq_zero (by rw [hnl, hz0]; simp)
          subst hn0
          rw [hz0] at hxval
          have hrun := run_append_empty (P := F.P) (t := t) (ty := o.type) hun hi (B := some ⟨g, 0, none⟩) (A := A) (n := y'.len) (cap := cs) (c := cx) k1 w
          rw [← hv, ← hxval] at hrun
          refine wp_value (run_append_op ho hc hargs hts hrun) (hK β _ _ ((h.killed (β' := β) (w' := w) ⟨Nat.le_refl _, fun _ hg _ => ⟨hg, rfl⟩⟩ hB (fun l b _ hb => ⟨hb, rfl⟩) h.inj h.rng rfl rfl rfl (fun _ _ _ => rfl)).put o.dst
            ⟨_, rfl, ⟨cA, PinR.low hlow⟩, .inr ⟨g, cs, cur, ?_, hbl, hh, ?_, k2, ?_, ?_⟩⟩))
          · rw [hv, cL, hz0]; rfl
          · rw [cL]; omega
          · rw [k3, cW]
          · simp only [List.append_nil] at hqR2
            exact grown_at cA hqrl hqR2 hh hcur
        · obtain ⟨g2, p, rfl, hcell⟩ : ∃ g p, A = some ⟨g, p, none⟩ ∧ ∀ j u, news[j]? = some u → w.cell? ⟨g, p + j, none⟩ = some u := by
            rcases hzc with h0 | h0
            · exact absurd h0 hz0
            · exact h0
          have hrun := run_append_room (P := F.P) w t o.type _ i hun hi g y'.len cs cur hh ⟨g2, p, none⟩ z.len cx news hnl (fun j u hj => by rw [Addr.add_lit]; exact hcell j u hj) (R1s hzR) hroom hfit
          rw [← hv, ← hxval] at hrun
          rw [htake] at hrun
          generalize hcc : (olds2 ++ news ++ cur.toList.drop (y'.len * i.size + news.length)).toArray = cur' at hrun
          have hheap := setRow_heap w g cur cur' (r.ty.elem ei) (0, 0) hh
          have m := Mv.own h hbl cur'
          have hcs' : cur'.size = cur.size := by rw [← hcc]; simp [hol2]; omega
          refine wp_value (run_append_op ho hc hargs hts hrun) (hK β _ _ ((h.killed (β' := β) m hB (fun l b hl hb => ⟨hb, setRow_other w g b cur' (fun e => hl (by subst e; exact h.inj _ _ _ hb hbl))⟩) h.inj
            (fun l b hl => by simpa using h.rng l b hl) (by simp) (by simp) (by simp) (fun k h1 h2 => setRow_other w g k cur' (fun e => ?_))).put o.dst ⟨_, rfl, ⟨cA, PinR.low hlow⟩, .inr ⟨g, cs, cur', ?_, hbl, hheap, ?_, k2, ?_, ?_⟩⟩))
          · rcases (h.rng lab g hbl).2 with h3 | h3
            · omega
            · exact h2 (e ▸ h3)
          · rw [cL]
          · rw [cL]; exact hroom
          · rw [hcs', k3, cW]
          · refine grown_at cA hqrl (Rs_move m hqR2) hheap fun j u hj => ?_
            rw [← hcc]
            simp only [List.getElem?_toArray]
            rw [List.getElem?_append_left (List.getElem?_eq_some_iff.1 hj).1]
            exact hj
      · -- a new block
        have hz0 : z.len ≠ 0 := by omega
        obtain ⟨g2, p, rfl, hcell⟩ : ∃ g p, A = some ⟨g, p, none⟩ ∧ ∀ j u, news[j]? = some u → w.cell? ⟨g, p + j, none⟩ = some u := by
          rcases hzc with h0 | h0
          · exact absurd h0 hz0
          · exact h0
        have hrun := run_append_grow (P := F.P) w t o.type _ i zr hun hi hzr ⟨g, 0, none⟩ y'.len cs olds2 hol2 (fun j u hj => by rw [Addr.add_lit]; exact o4 j u hj) ⟨g2, p, none⟩ z.len cx news hnl (fun j u hj => by rw [Addr.add_lit]; exact hcell j u hj)
          (by omega) h63 (growslice_fits (by omega) hbytes)
        rw [← hv, ← hxval] at hrun
        rw [show olds2.toArray ++ news.toArray = (olds2 ++ news).toArray by simp] at hrun
        let β2 : BM := fun l => if l = lab then some w.heap.size else β l
        have hβ2 : ∀ l b, β2 l = some b → b = w.heap.size ∨ ∃ l', β l' = some b := by
          intro l b hl
          by_cases hll : l = lab
          · simp [β2, hll] at hl; exact .inl hl.symm
          · simp [β2, hll] at hl; exact .inr ⟨l, hl⟩
        have e1 := hzsz cs
        rw [List.length_append, hol, ← hol2, ← List.length_append] at e1
        have m := grewM β2 ((olds2 ++ news).toArray ++ Builtin.zeroCells zr.cells (grownCap w (y'.len + z.len) cs (r.ty.elem ei) - (y'.len + z.len))) (r.ty.elem ei) hβ2
        refine wp_value (run_append_op ho hc hargs hts hrun) (hK β2 _ _ ((h.killed (β' := β2) m hB (fun l b hl hb => ⟨by simp [β2, hl, hb], heap_alloc_old w.drew _ (h.rng l b hb).1⟩)
          (fun l l' b hl hl' => ?_) (fun l b hl => ?_) rfl rfl rfl (fun k hk _ => heap_alloc_old w.drew _ (Nat.lt_of_lt_of_le hk h.hsize))).put o.dst ⟨_, rfl, ?_⟩))
        · by_cases q1 : l = lab <;> by_cases q2 : l' = lab
          · rw [q1, q2]
          · simp [β2, q1] at hl; simp [β2, q2] at hl'; have := (h.rng _ _ hl').1; omega
          · simp [β2, q1] at hl; simp [β2, q2] at hl'; have := (h.rng _ _ hl).1; omega
          · simp [β2, q1] at hl; simp [β2, q2] at hl'; exact h.inj _ _ _ hl hl'
        · rcases hβ2 l b hl with rfl | ⟨l', hl'⟩
          · exact ⟨by simp, .inl h.hsize⟩
          · have := h.rng l' b hl'
            exact ⟨by simp; omega, this.2⟩
        · have := grew_own (F := F) (β := β) (β' := β2) (w := w) (lab := lab) hlow (e := r.ty.elem ei) (c := grownCap w (y'.len + z.len) cs (r.ty.elem ei)) (by simp [β2]) cA hqrl hqR2 m (by rw [cL]; exact hcapg cs) (hcapm cs) e1
          rw [cL] at this
          exact this
end
/-- An array is no longer the frame's own. -/
def unL1 (lab : Lab) : Lf → Lf
  | .own l e x => match decide (l = lab) with | true => .p x | false => .own l e x
  | x => x
def FV.unO (lab : Lab) : FV → FV
  | .v a xs => .v a (xs.map (unL1 lab))
  | .tup vs => .tup (vs.map fun q => (q.1, q.2.map (unL1 lab)))
  | .box l cs off => .box l (cs.map (unL1 lab)) off
  | .elt s j off => .elt (unL1 lab s) j off
  | .any => .any
theorem unL1_arr {lab : Lab} {s : Lf} {x : PL} (h : s.arr? = some x) : (unL1 lab s).arr? = some x := by
  cases s with
  | own l e y =>
    unfold unL1
    dsimp only
    split
    · cases y <;> exact h
    · exact h
  | _ => exact h

section
variable {F : Fr} {β β' : BM} {w : World} {T : List FV} {a : Act}
theorem unL1_R (h : Sim F β T a w) {lab : Lab} (hβ : ∀ l, β' l = if l = lab then none else β l) {x : Lf} {v : Value} (hx : RLf F β w x v) : RLf F β' w (unL1 lab x) v := by
  have hok : ∀ g, okU F β g → okU F β' g := fun g hg => ⟨hg.1, fun l hl => hg.2 l (by rw [hβ] at hl; split at hl <;> first | cases hl | exact hl)⟩
  have m : Mv F β β' w w := ⟨Nat.le_refl _, fun g hg _ => ⟨hok g hg, rfl⟩⟩
  cases x with
  | own l e x =>
    unfold unL1
    dsimp only
    by_cases hl : l = lab
    · subst hl
      rw [decide_eq_true rfl]
      obtain ⟨ha, hx⟩ := hx
      rcases hx with ⟨rfl, h0⟩ | ⟨g, c, cur, rfl, hb, hh, h1, h2, h3, h4⟩
      · cases x <;> simp [PL.isArr] at ha
        · exact ⟨none, 0, by simp [PL.len] at h0; rw [h0]; rfl, by simp [PL.len] at h0; simp [h0], by simp, .inl (by simpa [PL.len] using h0)⟩
        · exact ⟨none, 0, by simp [PL.len] at h0; rw [h0]; rfl, by simp [PL.len] at h0; simp [h0], by simp, .inl (by simpa [PL.len] using h0)⟩
      · have hg : okU F β' g := by
          refine ⟨?_, fun l2 hl2 => ?_⟩
          · rcases (h.rng l g hb).2 with h5 | h5
            · exact .inr h5
            · exact .inl (h.mok g h5)
          · rw [hβ] at hl2
            split at hl2
            · cases hl2
            · rename_i hne
              exact hne (h.inj _ _ _ hl2 hb)
        have h4 := h4.move m rfl
        have hlt := (h.rng l g hb).1
        cases x <;> simp [PL.isArr] at ha
        · exact ⟨_, c, rfl, h1, h2, .inr ⟨g, 0, rfl, hg, hlt, h4⟩⟩
        · exact ⟨_, c, rfl, h1, h2, .inr ⟨g, 0, rfl, hg, hlt, h4⟩⟩
    · rw [decide_eq_false hl]
      exact hx.move m (fun l2 g h2 hb => ⟨by
        simp [Lf.has] at h2
        rw [hβ, if_neg (by rw [← h2]; exact hl)]
        exact hb, rfl⟩)
  | _ => exact RLf.move m (fun l g h2 hb => by cases h2) hx
theorem unLs_R (h : Sim F β T a w) {lab : Lab} (hβ : ∀ l, β' l = if l = lab then none else β l) : ∀ {xs : List Lf} {cs : List Value}, All2 (RLf F β w) xs cs → All2 (RLf F β' w) (xs.map (unL1 lab)) cs
  | [], [], _ => True.intro
  | _ :: _, _ :: _, k => ⟨unL1_R h hβ k.1, unLs_R h hβ k.2⟩
  | [], _ :: _, k => k.elim
  | _ :: _, [], k => k.elim
theorem unV_R (h : Sim F β T a w) {lab : Lab} (hβ : ∀ l, β' l = if l = lab then none else β l) {b : Bool} {xs : List Lf} {v : Value} (k : RVal F β w b xs v) : RVal F β' w b (xs.map (unL1 lab)) v := by
  cases b with
  | true => obtain ⟨cs, hv, k⟩ := k; exact ⟨cs, hv, unLs_R h hβ k⟩
  | false => obtain ⟨x, rfl, k⟩ := k; exact ⟨_, rfl, unL1_R h hβ k⟩
theorem unVs_R (h : Sim F β T a w) {lab : Lab} (hβ : ∀ l, β' l = if l = lab then none else β l) : ∀ {vs : List (Bool × List Lf)} {cs : List Value}, All2 (fun (q : Bool × List Lf) c => RVal F β w q.1 q.2 c) vs cs → All2 (fun (q : Bool × List Lf) c => RVal F β' w q.1 q.2 c) (vs.map fun q => (q.1, q.2.map (unL1 lab))) cs
  | [], [], _ => True.intro
  | _ :: _, _ :: _, k => ⟨unV_R h hβ k.1, unVs_R h hβ k.2⟩
  | [], _ :: _, k => k.elim
  | _ :: _, [], k => k.elim
theorem unO_R (h : Sim F β T a w) {lab : Lab} (hβ : ∀ l, β' l = if l = lab then none else β l) {f : FV} {v : Value} (hB : f.hasB lab = false) (k : RFV F β w f v) : RFV F β' w (f.unO lab) v := by
  cases f with
  | any => exact True.intro
  | v b xs => exact unV_R h hβ k
  | tup vs => obtain ⟨cs, hv, k⟩ := k; exact ⟨cs, hv, unVs_R h hβ k⟩
  | box l cs off =>
    obtain ⟨g, cc, ty, hv, hb, hh, k⟩ := k
    exact ⟨g, cc, ty, hv, by rw [hβ, if_neg (by simpa [FV.hasB] using hB)]; exact hb, hh, unLs_R h hβ k⟩
  | elt s i off =>
    obtain ⟨g, o, n, c, x, hs, hx, hi, hv⟩ := k
    exact ⟨g, o, n, c, x, unL1_R h hβ hs, unL1_arr hx, hi, hv⟩
end


theorem unL1_kill {lab : Lab} (x : Lf) : unL1 lab (killL lab x) = killL lab x := by
  cases x with
  | own l e x =>
    unfold killL
    dsimp only
    by_cases h : l = lab
    · rw [decide_eq_true h]; rfl
    · rw [decide_eq_false h]; unfold unL1; dsimp only; rw [decide_eq_false h]
  | _ => rfl
theorem unO_kill {lab : Lab} (f : FV) : (f.killO lab).unO lab = f.killO lab := by
  have hm : ∀ xs : List Lf, (xs.map (killL lab)).map (unL1 lab) = xs.map (killL lab) := fun xs => by rw [List.map_map]; exact List.map_congr_left fun x _ => unL1_kill x
  cases f with
  | any => rfl
  | v a xs => show FV.v a _ = _; rw [hm]; rfl
  | tup vs =>
    show FV.tup ((vs.map _).map _) = FV.tup (vs.map _)
    rw [List.map_map]
    congr 1
    exact List.map_congr_left fun q _ => by show (q.1, (q.2.map (killL lab)).map (unL1 lab)) = _; rw [hm]
  | box l cs off => show FV.box l _ off = _; rw [hm]; rfl
  | elt s j off =>
    unfold FV.killO
    dsimp only
    split
    · show FV.elt (unL1 lab (killL lab s)) j off = _
      rw [unL1_kill]
    · rfl
theorem hasB_kill {lab l : Lab} {f : FV} (h : f.hasB l = false) : (f.killO lab).hasB l = false := by
  cases f with
  | box l' cs off => exact h
  | elt s j off => unfold FV.killO; dsimp only; split <;> rfl
  | _ => rfl
/-- What has been put under a label alone is nobody's own any more. -/
theorem Sim.unPut {F : Fr} {β : BM} {w : World} {T : List FV} {a : Act} {lab : Lab} {d : Option Tmp} {e : TypeId} {q : PL} (hB : (T.all fun f => !f.hasB lab) = true) (h : Sim F β (Vx.put (T.map (FV.killO lab)) d (.v false [.own lab e q])) a w) :
    ∃ β', Sim F β' (Vx.put (T.map (FV.killO lab)) d (.v false [.p q])) a w := by
  refine ⟨fun l => if l = lab then none else β l, ?_⟩
  have hT : Vx.put (T.map (FV.killO lab)) d (.v false [.p q]) = (Vx.put (T.map (FV.killO lab)) d (.v false [.own lab e q])).map (FV.unO lab) := by
    have e1 : (T.map (FV.killO lab)).map (FV.unO lab) = T.map (FV.killO lab) := by rw [List.map_map]; exact List.map_congr_left fun f _ => unO_kill f
    cases d with
    | none => exact e1.symm
    | some d =>
      show (T.map (FV.killO lab)).set d _ = ((T.map (FV.killO lab)).set d _).map _
      rw [List.map_set, e1]
      show _ = (T.map (FV.killO lab)).set d (.v false [unL1 lab (.own lab e q)])
      unfold unL1
      dsimp only
      rw [decide_eq_true rfl]
  rw [hT]
  have hB' : ∀ f ∈ Vx.put (T.map (FV.killO lab)) d (.v false [.own lab e q]), f.hasB lab = false := by
    intro f hf
    have : f ∈ T.map (FV.killO lab) ∨ f = .v false [.own lab e q] := by
      cases d with
      | none => exact .inl hf
      | some d => exact List.mem_or_eq_of_mem_set hf
    rcases this with h1 | rfl
    · rw [List.mem_map] at h1
      obtain ⟨f0, h0, rfl⟩ := h1
      rw [List.all_eq_true] at hB
      exact hasB_kill (by simpa using hB f0 h0)
    · rfl
  exact
   { defers := h.defers, size := h.size.trans (by simp), os := h.os, tape := h.tape, output := h.output, hsize := h.hsize, kept := h.kept, mok := h.mok,
     inj := fun l l' g h1 h2 => h.inj l l' g (by split at h1 <;> first | cases h1 | exact h1) (by split at h2 <;> first | cases h2 | exact h2)
     rng := fun l g h1 => h.rng l g (by split at h1 <;> first | cases h1 | exact h1)
     rel := fun i f hf => by
       rw [List.getElem?_map] at hf
       obtain ⟨f0, hf0, rfl⟩ := Option.map_eq_some_iff.1 hf
       obtain ⟨c, hc, hr⟩ := h.rel i f0 hf0
       exact ⟨c, hc, unO_R h (fun _ => rfl) (hB' f0 (List.mem_of_getElem? hf0)) hr⟩ }

/-- Some temporaries are forgotten. -/
def Fgt (T T' : List FV) : Prop := T.length = T'.length ∧ ∀ (i : Nat) (f : FV), T'[i]? = some f → f = FV.any ∨ T[i]? = some f
theorem Fgt.refl (T : List FV) : Fgt T T := ⟨rfl, fun _ _ h => .inr h⟩
theorem Sim.forget {F : Fr} {β : BM} {T T' : List FV} {a : Act} {w : World} (h : Sim F β T a w) (hf : Fgt T T') : Sim F β T' a w :=
  { h with
    size := h.size.trans hf.1
    rel := fun i f hi => by
      rcases hf.2 i f hi with rfl | h2
      · have hlt : i < a.tmps.size := by rw [h.size, hf.1]; exact (List.getElem?_eq_some_iff.1 hi).1
        exact ⟨a.tmps[i], Array.getElem?_eq_getElem hlt, True.intro⟩
      · exact h.rel i f h2 }
end Go.Vx
end
section
/- Vx, part 9c: calls that write their arguments' arrays. -/
namespace Go.Vx
open Go.RowKit

section
variable {F : Fr} {β β' : BM} {T : List FV} {a : Act} {w w' : World} {o : Oper} {Γ : Tab} {ei : TypeId} {Q : Exit → Act → World → Prop} {K : Act → World → Prop}

theorem fr_leaf {N : Nat → Option Nat} {j : Nat} {x : Lf} {y : PL} {v : Value} {ys : List PL} {cs : List Value} (hy : frL ei x = some y) (hN : ∀ l e q, x = .own l e q → v ≠ .slice none 0 0 → N j = β l) (h : RLf F β w x v)
    (hr : FrLs w ei N (j + 1) ys cs) : FrLs w ei N j (y :: ys) (v :: cs) := by
  cases x with
  | undef => cases hy
  | nil =>
    cases hy
    unfold RLf at h
    exact ⟨.inl ⟨h, rfl⟩, hr⟩
  | p x =>
    unfold frL at hy
    dsimp only at hy
    split at hy
    · cases hy
    · rename_i hx
      cases hy
      cases y <;> first | exact ⟨h, hr⟩ | cases hx
  | own l e x =>
    cases x <;> try (cases hy; done)
    rename_i q
    unfold frL at hy
    dsimp only at hy
    split at hy
    · rename_i he
      have he : e = ei := Nat.eq_of_beq_eq_true he
      subst he
      cases hy
      refine ⟨?_, hr⟩
      obtain ⟨_, h⟩ := h
      rcases h with ⟨hv, h0⟩ | ⟨g, c, cur, hv, hb, hh, h1, h2, h3, h4⟩
      · exact .inl ⟨hv, by simpa [PL.len] using h0⟩
      · exact .inr ⟨g, c, cur, hv, (hN l e _ rfl (by rw [hv]; intro h; cases h)).trans hb, hh, h1, h2, by simpa [PL.wd] using h3, h4⟩
    · cases hy
theorem fr_leaves {N : Nat → Option Nat} : ∀ {xs : List Lf} {ys : List PL} {cs : List Value} {j : Nat}, mapO (frL ei) xs = some ys → (∀ i l e q c, xs[i]? = some (.own l e q) → cs[i]? = some c → c ≠ .slice none 0 0 → N (j + i) = β l) → All2 (RLf F β w) xs cs → FrLs w ei N j ys cs
  | [], ys, [], _, he, _, _ => by cases he; exact True.intro
  | x :: xs, ys, c :: cs, j, he, hN, h => by
    unfold mapO at he
    split at he
    · rename_i y ys' hy hys
      cases he
      refine fr_leaf hy (fun l e q hx hc => hN 0 l e q c (by rw [hx]; rfl) rfl hc) h.1 (fr_leaves hys (fun i l e q c' hx hc' hne => ?_) h.2)
      rw [show j + 1 + i = j + (i + 1) by omega]
      exact hN (i + 1) l e q c' (by simpa using hx) (by simpa using hc') hne
    · cases he
  | [], _, _ :: _, _, _, _, h => h.elim
  | _ :: _, _, [], _, _, _, h => h.elim
theorem mapO_len {α γ : Type} {f : α → Option γ} : ∀ {xs : List α} {ys : List γ}, mapO f xs = some ys → ys.length = xs.length
  | [], ys, h => by cases h; rfl
  | x :: xs, ys, h => by
    unfold mapO at h
    split at h
    · rename_i y ys' hy hys
      cases h
      simp [mapO_len hys]
    · cases h
theorem fr_val {N : Nat → Option Nat} {q : Bool × List Lf} {p : PV} {v : Value} {j : Nat} (he : resV (frL ei) q = some p) (hN : ∀ i l e x c, q.2[i]? = some (.own l e x) → v.cells.toList[i]? = some c → c ≠ .slice none 0 0 → N (j + i) = β l) (h : RVal F β w q.1 q.2 v) :
    FrPV w ei N j p v ∧ p.2.length = q.2.length := by
  obtain ⟨b, xs⟩ := q
  unfold resV at he
  dsimp only at he h hN
  split at he
  · rename_i ys hys
    cases he
    refine ⟨?_, mapO_len hys⟩
    cases b with
    | true => obtain ⟨cs, rfl, h⟩ := h; exact ⟨cs, rfl, fr_leaves hys (by simpa [Value.cells] using hN) h⟩
    | false =>
      obtain ⟨x, rfl, h⟩ := h
      rw [cells_one (R_one h)] at hN
      have := fr_leaves (cs := [v]) hys hN ⟨h, True.intro⟩
      unfold mapO at hys
      split at hys
      · rename_i y ys' hy hys'
        cases hys
        cases hys'
        exact ⟨y, rfl, this⟩
      · cases hys
  · cases he
theorem fr_vals {N : Nat → Option Nat} : ∀ {qs : List (Bool × List Lf)} {ps : List PV} {cs : List Value} {j : Nat}, mapO (resV (frL ei)) qs = some ps → (∀ i l e x c, (qs.flatMap (·.2))[i]? = some (.own l e x) → (cellsOf cs)[i]? = some c → c ≠ .slice none 0 0 → N (j + i) = β l) →
    All2 (fun (q : Bool × List Lf) c => RVal F β w q.1 q.2 c) qs cs → FrPVs w ei N j ps cs
  | [], ps, [], _, he, _, _ => by cases he; exact True.intro
  | q :: qs, ps, c :: cs, j, he, hN, h => by
    unfold mapO at he
    split at he
    · rename_i y ys' hy hys
      cases he
      have hl := (cells_of_val h.1).length
      obtain ⟨h1, h2⟩ := fr_val (β := β) hy (fun i l e x c' hx hc' hne => hN i l e x c' (by
        rw [List.flatMap_cons, List.getElem?_append_left (List.getElem?_eq_some_iff.1 hx).1]
        exact hx) (by
        unfold cellsOf
        rw [List.flatMap_cons, List.getElem?_append_left (List.getElem?_eq_some_iff.1 hc').1]
        exact hc') hne) h.1
      refine ⟨h1, fr_vals hys (fun i l e x c' hx hc' hne => ?_) h.2⟩
      rw [h2, Nat.add_assoc]
      refine hN _ l e x c' ?_ ?_ hne
      · rw [List.flatMap_cons, List.getElem?_append_right (by omega)]
        simpa using hx
      · unfold cellsOf
        rw [List.flatMap_cons, List.getElem?_append_right (by omega), hl, Nat.add_sub_cancel_left]
        exact hc'
    · cases he
  | [], _, _ :: _, _, _, _, h => h.elim
  | _ :: _, _, [], _, _, _, h => h.elim
theorem labNodup_get : ∀ {xs : List Lf}, labNodup (labsOf xs) = true → ∀ {i j : Nat} {l l' : Lab} {e e' : TypeId} {x x' : PL}, xs[i]? = some (.own l e x) → xs[j]? = some (.own l' e' x') → l = l' → i = j
  | [], _, i, _, _, _, _, _, _, _, hi, _, _ => by simp at hi
  | y :: ys, h, i, j, l, l', e, e', x, x', hi, hj, hll => by
    have mem : ∀ {ys : List Lf} {i : Nat} {l : Lab} {e : TypeId} {x : PL}, ys[i]? = some (.own l e x) → l ∈ labsOf ys := by
      intro ys
      induction ys with
      | nil => intro i l e x h; simp at h
      | cons y ys ih =>
        intro i l e x h
        cases i with
        | zero => simp at h; subst h; exact List.mem_cons_self
        | succ i =>
          have := ih (i := i) (by simpa using h)
          cases y <;> first | exact this | exact List.mem_cons_of_mem _ this
    have hrest : labNodup (labsOf ys) = true := by
      cases y <;> first | exact h | skip
      unfold labsOf labNodup at h
      rw [Bool.and_eq_true] at h
      exact h.2
    cases i with
    | zero =>
      cases j with
      | zero => rfl
      | succ j =>
        exfalso
        simp at hi
        subst hi
        unfold labsOf labNodup at h
        rw [Bool.and_eq_true, List.all_eq_true] at h
        have := h.1 l' (mem (i := j) (by simpa using hj))
        simp [hll] at this
    | succ i =>
      cases j with
      | zero =>
        exfalso
        simp at hj
        subst hj
        unfold labsOf labNodup at h
        rw [Bool.and_eq_true, List.all_eq_true] at h
        have := h.1 l (mem (i := i) (by simpa using hi))
        simp [hll] at this
      | succ j => exact congrArg (· + 1) (labNodup_get hrest (i := i) (j := j) (by simpa using hi) (by simpa using hj) hll)


/-- What an argument's cell is. -/
def FrC (w : World) (ei : TypeId) (N : Nat → Option Nat) (j : Nat) (x : PL) (v : Value) : Prop := match x with
  | .ints l => FrA w ei N j l v
  | .arr _ _ => False
  | x => PL.R w (fun _ => False) x v
theorem FrLs_get {N : Nat → Option Nat} : ∀ {xs : List PL} {j : Nat} {cs : List Value}, FrLs w ei N j xs cs → ∀ (i : Nat) (x : PL) (c : Value), xs[i]? = some x → cs[i]? = some c → FrC w ei N (j + i) x c
  | [], _, _, _, i, x, c, hx, _ => by simp at hx
  | x :: xs, j, [], h, _, _, _, _, hc => by simp at hc
  | x :: xs, j, c :: cs, h, i, y, d, hx, hc => by
    have h2 : FrC w ei N j x c ∧ FrLs w ei N (j + 1) xs cs := by
      cases x with
      | arr k l => simp [FrLs] at h
      | _ => exact h
    cases i with
    | zero =>
      simp at hx hc
      subst hx; subst hc
      exact h2.1
    | succ i =>
      have := FrLs_get h2.2 i y d (by simpa using hx) (by simpa using hc)
      rwa [show j + (i + 1) = j + 1 + i by omega]
theorem FrPV_get {N : Nat → Option Nat} {q : PV} {j : Nat} {v : Value} (h : FrPV w ei N j q v) (i : Nat) (x : PL) (c : Value) (hx : q.2[i]? = some x) (hc : v.cells.toList[i]? = some c) : FrC w ei N (j + i) x c := by
  obtain ⟨b, xs⟩ := q
  cases b with
  | true => obtain ⟨cs, rfl, h⟩ := h; exact FrLs_get h i x c hx (by simpa [Value.cells] using hc)
  | false =>
    obtain ⟨y, rfl, h⟩ := h
    rw [cells_one (FrL_one h)] at hc
    exact FrLs_get h i x c hx hc
theorem FrPVs_get {N : Nat → Option Nat} : ∀ {qs : List PV} {j : Nat} {cs : List Value}, FrPVs w ei N j qs cs → ∀ (i : Nat) (x : PL) (c : Value), (qs.flatMap (·.2))[i]? = some x → (cellsOf cs)[i]? = some c → FrC w ei N (j + i) x c
  | [], _, _, _, i, x, c, hx, _ => by simp at hx
  | q :: qs, j, [], h, _, _, _, _, hc => by simp [cellsOf] at hc
  | q :: qs, j, v :: cs, h, i, y, d, hx, hc => by
    have hl := FrPV_len h.1
    unfold cellsOf at hc
    rw [List.flatMap_cons] at hx hc
    by_cases hi : i < q.2.length
    · rw [List.getElem?_append_left hi] at hx
      rw [List.getElem?_append_left (by omega)] at hc
      exact FrPV_get h.1 i y d hx hc
    · rw [List.getElem?_append_right (by omega)] at hx hc
      rw [← hl] at hc
      have := FrPVs_get h.2 (i - q.2.length) y d hx hc
      rwa [show j + q.2.length + (i - q.2.length) = j + i by omega] at this
theorem FrPVs_len {N : Nat → Option Nat} : ∀ {qs : List PV} {j : Nat} {cs : List Value}, FrPVs w ei N j qs cs → (qs.flatMap (·.2)).length = (cellsOf cs).length
  | [], _, [], _ => rfl
  | [], _, _ :: _, h => by simp [FrPVs] at h
  | q :: qs, j, [], h => by simp [FrPVs] at h
  | q :: qs, j, v :: cs, h => by
    have h1 := FrPV_len h.1
    have h2 := FrPVs_len h.2
    unfold cellsOf at h2 ⊢
    rw [List.flatMap_cons, List.flatMap_cons, List.length_append, List.length_append, h1, h2]

theorem lookC_some : ∀ {as : List Lf} {ys : List PL} {l : Lab} {y : PL}, lookC as ys l = some y → ∃ (j : Nat) (e : TypeId) (x : PL), as[j]? = some (.own l e x) ∧ ys[j]? = some y
  | [], _, _, _, h => by unfold lookC at h; simp at h
  | x :: xs, [], l, y, h => by cases x <;> (unfold lookC at h; simp at h)
  | x :: xs, z :: ys, l, y, h => by
    have up : lookC xs ys l = some y → ∃ (j : Nat) (e : TypeId) (x' : PL), (x :: xs)[j]? = some (.own l e x') ∧ (z :: ys)[j]? = some y := fun h => by
      obtain ⟨j, e, x', h1, h2⟩ := lookC_some h
      exact ⟨j + 1, e, x', by simpa using h1, by simpa using h2⟩
    cases x with
    | own l2 e2 q =>
      unfold lookC at h
      split at h
      · rename_i hl
        have hl : l2 = l := of_decide_eq_true hl
        subst hl
        cases h
        exact ⟨0, e2, q, rfl, rfl⟩
      · exact up h
    | _ => exact up h
theorem lookC_none : ∀ {as : List Lf} {ys : List PL} {l : Lab}, lookC as ys l = none → ∀ (j : Nat) (e : TypeId) (x : PL), as[j]? = some (.own l e x) → ys[j]? = none
  | [], _, _, _, j, e, x, hj => by simp at hj
  | x :: xs, [], l, h, j, _, _, _ => by simp
  | x :: xs, z :: ys, l, h, j, e, q, hj => by
    cases j with
    | zero =>
      simp at hj
      subst hj
      unfold lookC at h
      rw [decide_eq_true rfl] at h
      cases h
    | succ j =>
      have h2 : lookC xs ys l = none := by
        cases x with
        | own l2 e2 q2 =>
          unfold lookC at h
          split at h
          · cases h
          · exact h
        | _ => exact h
      simpa using lookC_none h2 j e q (by simpa using hj)

theorem lenLs_spec {as : List Lf} {ys : List PL} : ∀ {zs : List Lf} {c : Prop}, lenLs as ys zs c → (∀ l e q y, Lf.own l e (.ints q) ∈ zs → lookC as ys l = some y → q.length = y.len) ∧ c
  | [], c, h => ⟨(fun _ _ _ _ h => by cases h), h⟩
  | z :: zs, c, h => by
    unfold lenLs at h
    have h2 : (∀ l e q y, Lf.own l e (.ints q) = z → lookC as ys l = some y → q.length = y.len) ∧ lenLs as ys zs c := by
      unfold lenL at h
      split at h
      · split at h
        · rename_i y0 hy0
          refine ⟨fun l' e' q' y' he hy' => ?_, h.2⟩
          cases he
          rw [hy0] at hy'
          cases hy'
          exact h.1
        · exact h.elim
        · rename_i hy0
          refine ⟨fun l' e' q' y' he hy' => ?_, h⟩
          cases he
          rw [hy0] at hy'
          cases hy'
      · rename_i hne
        exact ⟨fun l' e' q' y' he hy' => (hne l' e' q' he.symm).elim, h⟩
    obtain ⟨h3, h4⟩ := lenLs_spec h2.2
    refine ⟨fun l e q y hm hy => ?_, h4⟩
    rcases List.mem_cons.1 hm with hm | hm
    · exact h2.1 l e q y hm hy
    · exact h3 l e q y hm hy
theorem lenT_spec {as : List Lf} {ys : List PL} : ∀ {T : List FV} {c : Prop}, lenT as ys T c → (∀ f ∈ T, ∀ l e q y, Lf.own l e (.ints q) ∈ f.lvs → lookC as ys l = some y → q.length = y.len) ∧ c
  | [], c, h => ⟨(fun _ h => by cases h), h⟩
  | f :: fs, c, h => by
    unfold lenT at h
    obtain ⟨h1, h2⟩ := lenLs_spec h
    obtain ⟨h3, h4⟩ := lenT_spec h2
    refine ⟨fun g hg => ?_, h4⟩
    rcases List.mem_cons.1 hg with rfl | hg
    · exact h1
    · exact h3 g hg

theorem lenLs_split {as : List Lf} {ys : List PL} : ∀ {zs : List Lf} {c : Prop}, lenLs as ys zs c → lenLs as ys zs True ∧ c
  | [], c, h => ⟨True.intro, h⟩
  | z :: zs, c, h => by
    unfold lenLs lenL at h ⊢
    split at h
    · split at h
      · obtain ⟨h1, h2⟩ := h
        obtain ⟨h3, h4⟩ := lenLs_split h2
        exact ⟨⟨h1, h3⟩, h4⟩
      · exact h.elim
      · exact lenLs_split h
    · exact lenLs_split h
theorem lenLs_join {as : List Lf} {ys : List PL} : ∀ {zs : List Lf} {c d : Prop}, lenLs as ys zs c → (c → d) → lenLs as ys zs d
  | [], c, d, h, hd => hd h
  | z :: zs, c, d, h, hd => by
    unfold lenLs lenL at h ⊢
    split at h
    · split at h
      · exact ⟨h.1, lenLs_join h.2 hd⟩
      · exact h.elim
      · exact lenLs_join h hd
    · exact lenLs_join h hd
theorem lenT_split {as : List Lf} {ys : List PL} : ∀ {T : List FV} {c : Prop}, lenT as ys T c → lenT as ys T True ∧ c
  | [], c, h => ⟨True.intro, h⟩
  | f :: fs, c, h => by
    unfold lenT at h ⊢
    have h1 := lenLs_split h
    obtain ⟨h3, h4⟩ := lenT_split h1.2
    exact ⟨lenLs_join h fun hc => (lenT_split hc).1, h4⟩

theorem args_R : ∀ {fs : List FV} {vs : List Value} {avs : List (Bool × List Lf)}, mapO argV fs = some avs → All2 (RFV F β w) fs vs → All2 (fun (q : Bool × List Lf) c => RVal F β w q.1 q.2 c) avs vs
  | [], [], avs, h, _ => by cases h; exact True.intro
  | f :: fs, v :: vs, avs, h, hr => by
    unfold mapO at h
    split at h
    · rename_i y ys hy hys
      cases h
      cases f <;> cases hy
      exact ⟨hr.1, args_R hys hr.2⟩
    · cases h
  | [], _ :: _, _, _, h => h.elim
  | _ :: _, [], _, _, h => h.elim

/-- The blocks of the arguments' arrays. -/
def N1of (β : BM) (as : List Lf) (cs : List Value) (j : Nat) : Option Nat := match as[j]?, cs[j]? with
  | some (.own l _ _), some (.slice (some _) _ _) => β l
  | _, _ => none
theorem N1of_some {as : List Lf} {cs : List Value} {j b : Nat} (h : N1of β as cs j = some b) : ∃ l e x, as[j]? = some (.own l e x) ∧ β l = some b := by
  unfold N1of at h
  split at h
  · rename_i l e x _ _ _ h1 h2
    exact ⟨l, e, x, h1, h⟩
  · cases h

theorem mem_labsOf : ∀ {as : List Lf} {j : Nat} {l : Lab} {e : TypeId} {x : PL}, as[j]? = some (.own l e x) → l ∈ labsOf as
  | [], _, _, _, _, h => by simp at h
  | y :: as, j, l, e, x, h => by
    cases j with
    | zero => simp at h; subst h; exact List.mem_cons_self
    | succ j =>
      have := mem_labsOf (as := as) (j := j) (by simpa using h)
      cases y <;> first | exact this | exact List.mem_cons_of_mem _ this
theorem mapO_get {α γ : Type} {f : α → Option γ} : ∀ {xs : List α} {ys : List γ} {j : Nat} {x : α}, mapO f xs = some ys → xs[j]? = some x → ∃ y, ys[j]? = some y ∧ f x = some y
  | [], _, _, _, _, hj => by simp at hj
  | x :: xs, ys, j, z, h, hj => by
    unfold mapO at h
    split at h
    · rename_i y ys' hy hys
      cases h
      cases j with
      | zero => simp at hj; subst hj; exact ⟨y, rfl, hy⟩
      | succ j => simpa using mapO_get hys (j := j) (by simpa using hj)
    · cases h
theorem resV_some {f : Lf → Option PL} {q : Bool × List Lf} {p : PV} (h : resV f q = some p) : mapO f q.2 = some p.2 := by
  unfold resV at h
  split at h
  · rename_i zs hzs
    cases h
    exact hzs
  · cases h
theorem mapV_len {f : Lf → Option PL} : ∀ {avs : List (Bool × List Lf)} {ps : List PV}, mapO (resV f) avs = some ps → (ps.flatMap (·.2)).length = (avs.flatMap (·.2)).length
  | [], _, h => by cases h; rfl
  | q :: avs, ps, h => by
    unfold mapO at h
    split at h
    · rename_i y ys' hy hys
      cases h
      rw [List.flatMap_cons, List.flatMap_cons, List.length_append, List.length_append, mapV_len hys, mapO_len (resV_some hy)]
    · cases h
theorem mapV_get {f : Lf → Option PL} : ∀ {avs : List (Bool × List Lf)} {ps : List PV} {j : Nat} {x : Lf}, mapO (resV f) avs = some ps → (avs.flatMap (·.2))[j]? = some x → ∃ p, (ps.flatMap (·.2))[j]? = some p ∧ f x = some p
  | [], _, _, _, _, hj => by simp at hj
  | q :: avs, ps, j, x, h, hj => by
    unfold mapO at h
    split at h
    · rename_i y ys' hy hys
      cases h
      have hl := mapO_len (resV_some hy)
      rw [List.flatMap_cons] at hj ⊢
      by_cases hjl : j < q.2.length
      · rw [List.getElem?_append_left hjl] at hj
        rw [List.getElem?_append_left (by omega)]
        exact mapO_get (resV_some hy) hj
      · rw [List.getElem?_append_right (by omega)] at hj
        rw [List.getElem?_append_right (by omega), hl]
        exact mapV_get hys hj
    · cases h
theorem cells_all : ∀ {avs : List (Bool × List Lf)} {vs : List Value}, All2 (fun (q : Bool × List Lf) c => RVal F β w q.1 q.2 c) avs vs → All2 (RLf F β w) (avs.flatMap (·.2)) (cellsOf vs)
  | [], [], _ => True.intro
  | q :: avs, v :: vs, h => by
    unfold cellsOf
    rw [List.flatMap_cons, List.flatMap_cons]
    exact (cells_of_val h.1).append (cells_all h.2)
  | [], _ :: _, h => h.elim
  | _ :: _, [], h => h.elim

theorem s_mut (h : Sim F β T a w) {c : Call} {g : FuncId} (ho : o.op = .call c) (hc : c.callee = .value (.func g)) {avs : List (Bool × List Lf)} (hav : mapO argV (c.args.toList.map (opd T)) = some avs)
    {ps : List PV} (hps : mapO (resV (frL ei)) avs = some ps) (hlab : (labNodup (labsOf (avs.flatMap (·.2))) && (labsOf (avs.flatMap (·.2))).all fun l => T.all fun f => !f.hasB l) = true)
    {qs : List PV} {r : MRes} (hden : DenM F.P ei g ps qs r)
    (hlen : ∀ f ∈ T, ∀ l e q y, Lf.own l e (.ints q) ∈ f.lvs → lookC (avs.flatMap (·.2)) (qs.flatMap (·.2)) l = some y → q.length = y.len)
    (hK : ∀ β' c w', Sim F β' (put (T.map (FV.mutF (avs.flatMap (·.2)) (qs.flatMap (·.2)))) o.dst (resFV (avs.flatMap (·.2)) (qs.flatMap (·.2)) r)) (a.put o.dst c) w' → K (a.put o.dst c) w') : o.wp F.P a w K Q := by
  rw [Bool.and_eq_true, List.all_eq_true] at hlab
  obtain ⟨hnd, hbx⟩ := hlab
  obtain ⟨⟨fn, hfn, hname, hb⟩, hcall⟩ := hden
  have hall := args_R hav (ops_R h c.args.toList)
  have hargs : (c.args.toList.map a.eval).toArray = c.args.map a.eval := by
    apply Array.ext'
    simp
  have hrun := run_enter ho hc (g := g) (a := a) rfl hfn hname hb w
  generalize has : avs.flatMap (·.2) = as at *
  generalize hys : qs.flatMap (·.2) = ys at *
  generalize hvs : c.args.toList.map a.eval = vs at *
  have hfr : FrPVs w ei (N1of β as (cellsOf vs)) 0 ps vs := by
    refine fr_vals (β := β) hps (fun i l e x c' hx hc' hne => ?_) hall
    rw [has] at hx
    rw [Nat.zero_add]
    have hsl : ∃ A n cp, c' = .slice (some A) n cp := by
      have hl2 := cells_all hall
      rw [has] at hl2
      obtain ⟨c2, hc2, hr2⟩ := hl2.get i _ hx
      rw [hc'] at hc2
      cases hc2
      obtain ⟨_, ⟨hv, _⟩ | ⟨g2, cp, cur, hv, _⟩⟩ := hr2
      · exact absurd hv hne
      · exact ⟨_, _, _, hv⟩
    obtain ⟨A, n, cp, rfl⟩ := hsl
    unfold N1of
    rw [hx, hc']
  have hNlt : ∀ j b, N1of β as (cellsOf vs) j = some b → b < w.heap.size := fun j b hj => by
    obtain ⟨l, _, _, _, hb⟩ := N1of_some hj
    exact (h.rng l b hb).1
  have hNinj : ∀ j j' b, N1of β as (cellsOf vs) j = some b → N1of β as (cellsOf vs) j' = some b → j = j' := fun j j' b hj hj' => by
    obtain ⟨l, e, x, h1, h2⟩ := N1of_some hj
    obtain ⟨l', e', x', h3, h4⟩ := N1of_some hj'
    exact labNodup_get hnd h1 h3 (h.inj _ _ _ h2 h4)
  unfold Oper.wp
  rw [hrun, Oper.upon_enter, ← hargs]
  refine (hcall _ w vs hNlt hNinj hfr).mono fun e w' hh => ?_
  obtain ⟨v, rfl, ⟨hos, htape, hout, hsize⟩, hkept, hfr', hres⟩ := hh
  have hlas : as.length = (cellsOf vs).length := by rw [← FrPVs_len hfr, ← has, mapV_len hps]
  have hlys : ys.length = (cellsOf vs).length := by rw [← hys]; exact FrPVs_len hfr'
  have hpget : ∀ (j : Nat) (l : Lab) (e : TypeId) (x : PL), as[j]? = some (.own l e x) → ∃ q, x = .ints q ∧ e = ei ∧ ∃ c', (cellsOf vs)[j]? = some c' ∧ FrA w ei (N1of β as (cellsOf vs)) j q c' := by
    intro j l e x hj
    have hlt : j < as.length := (List.getElem?_eq_some_iff.1 hj).1
    have hpj : ∃ p, (ps.flatMap (·.2))[j]? = some p ∧ frL ei (.own l e x) = some p := mapV_get hps (by rw [has]; exact hj)
    obtain ⟨p, hp1, hp2⟩ := hpj
    have hcj : ∃ c', (cellsOf vs)[j]? = some c' := ⟨_, List.getElem?_eq_getElem (by omega)⟩
    obtain ⟨c', hc'⟩ := hcj
    have hfc := FrPVs_get hfr j p c' hp1 hc'
    cases x with
    | ints q =>
      unfold frL at hp2
      dsimp only at hp2
      split at hp2
      · rename_i he
        have he : e = ei := Nat.eq_of_beq_eq_true he
        cases hp2
        rw [Nat.zero_add] at hfc
        exact ⟨q, rfl, he, c', hc', hfc⟩
      · cases hp2
    | _ => cases hp2
  have hsame : ∀ b, b < w.heap.size → (∀ (l : Lab) (e : TypeId) (x : PL) (j : Nat), as[j]? = some (.own l e x) → β l ≠ some b) → w'.heap[b]? = w.heap[b]? := fun b hb hn => hkept b hb (fun j hj => by
    obtain ⟨l, e, x, h1, h2⟩ := N1of_some hj
    exact hn l e x j h1 h2)
  have m : Mv F β β w w' := ⟨hsize, fun b hb hlt => ⟨hb, hsame b hlt (fun l e x j _ hl => hb.2 l hl)⟩⟩
  have lf : ∀ {f : FV} (_ : f ∈ T) {y : Lf} {v : Value}, y ∈ f.lvs → RLf F β w y v → RLf F β w' (updCs as ys y) v := by
    intro f hf y v hyf hy
    cases y with
    | own l2 e2 q =>
      unfold updCs
      dsimp only
      cases hl : lookC as ys l2 with
      | none =>
        dsimp only
        refine hy.move m (fun l3 b hl3 hb3 => ⟨hb3, hsame b (h.rng l3 b hb3).1 (fun l e x j hj hlb => ?_)⟩)
        have e1 : l = l3 := h.inj _ _ _ hlb hb3
        have e2 : l2 = l3 := by simpa [Lf.has] using hl3
        subst e1
        subst e2
        have := lookC_none hl j e x hj
        have hlt : j < as.length := (List.getElem?_eq_some_iff.1 hj).1
        rw [List.getElem?_eq_none_iff] at this
        omega
      | some y2 =>
        dsimp only
        split
        · rename_i q q2
          obtain ⟨j, e3, x3, hj, hyj⟩ := lookC_some hl
          obtain ⟨q3, rfl, rfl, cj, hcj, hfa⟩ := hpget j l2 e3 x3 hj
          have hfa' : FrA w' e3 (N1of β as (cellsOf vs)) j q2 cj := by
            have := FrPVs_get hfr' j (.ints q2) cj (by rw [hys]; exact hyj) hcj
            rw [Nat.zero_add] at this
            exact this
          have hql := hlen f hf l2 e2 q (.ints q2) hyf hl
          simp only [PL.len] at hql
          obtain ⟨⟨_, hpn⟩, hy⟩ := hy
          refine ⟨⟨rfl, hpn⟩, ?_⟩
          rcases hy with ⟨hv, h0⟩ | ⟨g2, c2, cur2, hv, hb2, hh2, j1, j2, j3, j4⟩
          · exact .inl ⟨hv, by simp only [PL.len] at h0 ⊢; omega⟩
          · simp only [PL.len, PL.wd] at hv j1 j3 ⊢
            rcases hfa' with ⟨hcn, hq2⟩ | ⟨g3, c3, cur3, hcv, hn3, hh3, i1, i2, i3, i4⟩
            · refine .inr ⟨g2, c2, cur2, by rw [hv, hql], hb2, ?_, by omega, j2, j3, ?_⟩
              · rw [hkept g2 (h.rng _ _ hb2).1 ?_]
                · exact hh2
                · intro j' hj'
                  obtain ⟨l, e, x, h1, h2⟩ := N1of_some hj'
                  have e1 : l = l2 := h.inj _ _ _ h2 hb2
                  have := labNodup_get hnd h1 hj e1
                  subst this
                  unfold N1of at hj'
                  rw [hj, hcj, hcn] at hj'
                  cases hj'
              · rw [hq2]
                intro i z hz
                simp at hz
            · have hb3 : β l2 = some g3 := by
                obtain ⟨l, e, x, h1, h2⟩ := N1of_some hn3
                rw [hj] at h1
                cases h1
                exact h2
              rw [hb2] at hb3
              cases hb3
              have hcap : c2 = c3 ∧ e2 = e3 := by
                rcases hfa with ⟨hcn, _⟩ | ⟨g4, c4, cur4, hcv4, hn4, hh4, k1, k2, k3, k4⟩
                · rw [hcn] at hcv; cases hcv
                · rw [hcv] at hcv4
                  injection hcv4 with u1 u2 u3
                  injection u1 with u1
                  injection u1 with u1 _ _
                  subst u1
                  rw [hh2] at hh4
                  cases hh4
                  exact ⟨by omega, rfl⟩
              obtain ⟨rfl, rfl⟩ := hcap
              exact .inr ⟨g2, c2, cur3, by rw [hv, hql], hb2, hh3, i1, i2, by omega, i4⟩
        · exact R_one hy
    | _ => exact RLf.move m (fun l3 b hl3 hb3 => by cases hl3) hy
  have hin : ∀ {l : Lab} {e : TypeId} {x : PL} {j : Nat}, as[j]? = some (.own l e x) → ∀ f ∈ T, f.hasB l = false := fun {l e x j} hj f hf => by
    have := hbx l (mem_labsOf hj)
    rw [List.all_eq_true] at this
    simpa using this f hf
  have lk : ∀ {y : Lf} {v : Value}, RLf F β w y v → RLf F β w' (killC as ys y) v := by
    intro y v hy
    cases y with
    | own l2 e2 q =>
      unfold killC
      dsimp only
      cases hl : lookC as ys l2 with
      | none =>
        dsimp only
        refine hy.move m (fun l3 b hl3 hb3 => ⟨hb3, hsame b (h.rng l3 b hb3).1 (fun l e x j hj hlb => ?_)⟩)
        have e1 : l = l3 := h.inj _ _ _ hlb hb3
        have e2 : l2 = l3 := by simpa [Lf.has] using hl3
        subst e1
        subst e2
        have := lookC_none hl j e x hj
        have hlt : j < as.length := (List.getElem?_eq_some_iff.1 hj).1
        rw [List.getElem?_eq_none_iff] at this
        omega
      | some y2 => exact R_one hy
    | _ => exact RLf.move m (fun l3 b hl3 hb3 => by cases hl3) hy
  have klen : ∀ {s : Lf} {x x' : PL}, s.arr? = some x → (killC as ys s).arr? = some x' → x'.len = x.len ∧ x'.wd = x.wd := by
    intro s x x' hs hs'
    cases s with
    | own l2 e2 q =>
      unfold killC at hs'
      dsimp only at hs'
      split at hs'
      · cases hs'
      · rw [hs] at hs'; cases hs'; exact ⟨rfl, rfl⟩
    | _ => have e : some x = some x' := hs.symm.trans hs'; cases e; exact ⟨rfl, rfl⟩
  have ulen : ∀ {f0 : FV} (_ : f0 ∈ T) {s : Lf} {x x' : PL}, s ∈ f0.lvs → s.arr? = some x → (updCs as ys s).arr? = some x' → x'.len = x.len ∧ x'.wd = x.wd := by
    intro f0 hfm s x x' hsm hs hs'
    cases s with
    | own l2 e2 q =>
      unfold updCs at hs'
      dsimp only at hs'
      split at hs'
      · rename_i y2 hy2
        split at hs'
        · cases hs; cases hs'
          have := hlen f0 hfm l2 e2 _ _ hsm hy2
          exact ⟨this.symm, rfl⟩
        · cases hs'
      · rw [hs] at hs'; cases hs'; exact ⟨rfl, rfl⟩
    | _ => have e : some x = some x' := hs.symm.trans hs'; cases e; exact ⟨rfl, rfl⟩
  have hS : Sim F β (T.map (FV.mutF as ys)) a w' :=
    { defers := h.defers, size := h.size.trans (by simp), inj := h.inj, rng := fun l b hl => ⟨Nat.lt_of_lt_of_le (h.rng l b hl).1 hsize, (h.rng l b hl).2⟩, os := hos.trans h.os, tape := htape.trans h.tape, output := hout.trans h.output,
      hsize := Nat.le_trans h.hsize hsize, mok := h.mok
      kept := fun k h1 h2 => (hkept k (Nat.lt_of_lt_of_le h1 h.hsize) (fun j hj => by
        obtain ⟨l, e, x, h3, h4⟩ := N1of_some hj
        rcases (h.rng l k h4).2 with h5 | h5
        · omega
        · exact h2 h5)).trans (h.kept k h1 h2)
      rel := fun i f hf => by
        rw [List.getElem?_map] at hf
        obtain ⟨f0, hf0, rfl⟩ := Option.map_eq_some_iff.1 hf
        obtain ⟨c0, hc0, hr0⟩ := h.rel i f0 hf0
        have hfm := List.mem_of_getElem? hf0
        refine ⟨c0, hc0, ?_⟩
        have kill : (∀ l cs off, f0 ≠ .box l cs off) → RFV F β w' (f0.mapL (killC as ys)) c0 := fun hb0 =>
          mapL_R (fun _ hy => lk hy) (fun _ hs hs' => klen hs hs') (fun l cs off hfe => (hb0 l cs off hfe).elim) hr0
        cases f0 with
        | any => exact True.intro
        | v b xs =>
          cases b with
          | true => exact kill (fun _ _ _ e => by cases e)
          | false => exact mapL_R (f := updCs as ys) (fv := .v false xs) (fun hy hr => lf hfm hy hr) (fun hsm hs hs' => ulen hfm hsm hs hs') (fun l cs off hfe => by cases hfe) hr0
        | tup vs => exact kill (fun _ _ _ e => by cases e)
        | elt s j off => exact kill (fun _ _ _ e => by cases e)
        | box l2 cs2 off2 =>
          refine mapL_R (f := updCs as ys) (fv := .box l2 cs2 off2) (fun hy hr => lf hfm hy hr) (fun hsm hs hs' => ulen hfm hsm hs hs') (fun l cs off hfe g0 cc ty hb0 hh0 => ⟨hb0, ?_⟩) hr0
          cases hfe
          rw [hsame g0 (h.rng l2 g0 hb0).1 (fun l' e x j hj hl => ?_)]
          · exact hh0
          · have e1 : l' = l2 := h.inj _ _ _ hl hb0
            subst e1
            have := hin hj _ hfm
            simp [FV.hasB] at this }
  have hcl := cells_all hall
  rw [has] at hcl
  have hone : ∀ (x : RL) (v : Value), RRL (cellsOf vs) x v → RLf F β w' (resL as ys x) v := by
    intro x v hx
    cases x with
    | p x =>
      unfold resL
      dsimp only
      cases hA : x.isA with
      | true => exact PL.R.one (hx w' (fun _ => True))
      | false => exact hx w' _
    | nil => exact hx
    | arg j =>
      unfold resL
      dsimp only
      have hx : (cellsOf vs)[j]? = some v := hx
      split
      · rename_i l e x q hj hyj
        obtain ⟨q3, rfl, rfl, cj, hcj, hfa⟩ := hpget j l e x hj
        rw [hx] at hcj
        cases hcj
        have hfa' : FrA w' e (N1of β as (cellsOf vs)) j q v := by
          have := FrPVs_get hfr' j (.ints q) v (by rw [hys]; exact hyj) hx
          rw [Nat.zero_add] at this
          exact this
        obtain ⟨v2, hv2, hr2⟩ := hcl.get j _ hj
        rw [hx] at hv2
        cases hv2
        refine ⟨⟨rfl, hr2.1.2⟩, ?_⟩
        rcases hfa' with ⟨hcn, hq2⟩ | ⟨g3, c3, cur3, hcv, hn3, hh3, i1, i2, i3, i4⟩
        · exact .inl ⟨hcn, by rw [hq2]; rfl⟩
        · have hb3 : β l = some g3 := by
            obtain ⟨l', e', x', h1, h2⟩ := N1of_some hn3
            rw [hj] at h1
            cases h1
            exact h2
          exact .inr ⟨g3, c3, cur3, hcv, hb3, hh3, i1, i2, by simpa [PL.wd] using i3, i4⟩
      · have hjl : j < as.length := by rw [hlas]; exact (List.getElem?_eq_some_iff.1 hx).1
        obtain ⟨v2, hv2, hr2⟩ := hcl.get j _ (List.getElem?_eq_getElem hjl)
        rw [hx] at hv2
        cases hv2
        exact R_one hr2
  have hones : ∀ {xs : List RL} {us : List Value}, All2 (RRL (cellsOf vs)) xs us → All2 (RLf F β w') (xs.map (resL as ys)) us := by
    intro xs
    induction xs with
    | nil => intro us h; cases us with
      | nil => exact True.intro
      | cons u us => exact h.elim
    | cons x xs ih => intro us h; cases us with
      | nil => exact h.elim
      | cons u us => exact ⟨hone _ _ h.1, ih h.2⟩
  have hval : ∀ {q : Bool × List RL} {v : Value}, RRV (cellsOf vs) q v → RVal F β w' q.1 (q.2.map (resL as ys)) v := by
    intro q v hq
    obtain ⟨b, xs⟩ := q
    cases b with
    | true => obtain ⟨us, rfl, h⟩ := hq; exact ⟨us, rfl, hones h⟩
    | false => obtain ⟨x, hx, h⟩ := hq; have hx : xs = [x] := hx; subst hx; exact ⟨_, rfl, hone _ _ h⟩
  refine hK β v w' (hS.put o.dst ?_)
  cases r with
  | one q => exact hval hres
  | tup qs' =>
    obtain ⟨us, rfl, h⟩ := hres
    refine ⟨us, rfl, ?_⟩
    have go : ∀ {qs' : List (Bool × List RL)} {us : List Value}, All2 (RRV (cellsOf vs)) qs' us → All2 (fun (q : Bool × List Lf) c => RVal F β w' q.1 q.2 c) (qs'.map fun r => (r.1, r.2.map (resL as ys))) us := by
      intro qs'
      induction qs' with
      | nil => intro us h; cases us with
        | nil => exact True.intro
        | cons u us => exact h.elim
      | cons x xs ih => intro us h; cases us with
        | nil => exact h.elim
        | cons u us => exact ⟨hval h.1, ih h.2⟩
    exact go h
end
end Go.Vx
end
