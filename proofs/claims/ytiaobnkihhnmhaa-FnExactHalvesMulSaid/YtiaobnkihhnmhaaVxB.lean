/- Vx, part 9b: append, in the frame. -/
import Derived.Test.YtiaobnkihhnmhaaVxA
namespace Go.Vx
open Go.RowKit

section
variable {F : Fr} {β β' : BM} {T : List FV} {a : Act} {w w' : World} {o : Oper} {Γ : Tab} {ei : TypeId} {Q : Exit → Act → World → Prop} {K : Act → World → Prop}

theorem grown_at {q : PL} {us : List Value} {cc : Array Value} {e : TypeId} {g : Nat} {ok : Nat → Prop} (hq : q.isArr = true) (hrl : ∀ r ∈ q.rows, r.length = q.wd) (h : All2 (PL.R w' ok) q.rows.flatten us)
    (hg : w'.heap[g]? = some (.cells cc e (0, 0))) (hcc : ∀ (j : Nat) (u : Value), us[j]? = some u → cc[j]? = some u) : q.At w' ok g 0 :=
  (At_rows hq).2 (Rows_of hrl h fun j u hj => by rw [cell_of_row _ g _ cc e (0, 0) hg, Nat.zero_add]; exact hcc j u hj)

theorem Rs_move (m : Mv F β β' w w') : ∀ {ps : List PL} {us : List Value}, All2 (PL.R w (okU F β)) ps us → All2 (PL.R w' (okU F β')) ps us
  | [], [], _ => True.intro
  | _ :: _, _ :: _, h => ⟨PL.R.move m.hs m.ok _ _ h.1, Rs_move m h.2⟩
  | [], _ :: _, h => h.elim
  | _ :: _, [], h => h.elim

theorem R1s {ok : Nat → Prop} : ∀ {ps : List PL} {us : List Value}, All2 (PL.R w ok) ps us → ∀ u ∈ us, u.oneCell' = true
  | [], [], _, u, hu => by cases hu
  | p :: ps, v :: us, h, u, hu => by
    rcases List.mem_cons.1 hu with rfl | hu
    · exact PL.R.one h.1
    · exact R1s h.2 u hu
  | [], _ :: _, h, _, _ => h.elim
  | _ :: _, [], h, _, _ => h.elim

/-- The frame behind an append to an array of its own: the others under the label are gone. -/
theorem Sim.killed (h : Sim F β T a w) (m : Mv F β β' w w') {lab : Lab} (hB : (T.all fun f => !f.hasB lab) = true) (hk : ∀ l g, l ≠ lab → β l = some g → β' l = some g ∧ w'.heap[g]? = w.heap[g]?)
    (inj : ∀ l l' g, β' l = some g → β' l' = some g → l = l') (rng : ∀ l g, β' l = some g → g < w'.heap.size ∧ (F.base ≤ g ∨ g ∈ F.M))
    (os : w'.os = w.os) (tape : w'.tape = w.tape) (output : w'.output = w.output) (kept : ∀ k, k < F.base → k ∉ F.M → w'.heap[k]? = w.heap[k]?) : Sim F β' (T.map (FV.killO lab)) a w' :=
  { defers := h.defers, size := h.size.trans (by simp), inj := inj, rng := rng, os := os.trans h.os, tape := tape.trans h.tape, output := output.trans h.output,
    hsize := Nat.le_trans h.hsize m.hs, kept := fun k h1 h2 => (kept k h1 h2).trans (h.kept k h1 h2), mok := h.mok,
    rel := fun i f hf => by
      rw [List.getElem?_map] at hf
      obtain ⟨f0, hf0, rfl⟩ := Option.map_eq_some_iff.1 hf
      obtain ⟨c, hc, hr⟩ := h.rel i f0 hf0
      rw [List.all_eq_true] at hB
      exact ⟨c, hc, killO_R m hk (by simpa using hB f0 (List.mem_of_getElem? hf0)) hr⟩ }

theorem arr_of_ty {t : Ty} {y : PL} (h : tyArr t y = true) : y.isArr = true := tyArr_isArr h

/-- The new block of an array that has grown. -/
theorem grew_own {lab : Lab} (hlow : lab.1 < 2000000) {q : PL} {us : List Value} {zs : Array Value} {e : TypeId} {c : Nat} (hβ : β' lab = some w.heap.size) (hq : q.isArr = true) (hrl : ∀ r ∈ q.rows, r.length = q.wd)
    (h : All2 (PL.R w (okU F β)) q.rows.flatten us) (m : Mv F β β' w (w.drew.alloc (.cells (us.toArray ++ zs) e))) (hc : q.len ≤ c) (hm : c ≤ maxLen) (hz : us.length + zs.size = c * q.wd) :
    OwnR F β' (w.drew.alloc (.cells (us.toArray ++ zs) e)) lab e q (.slice (some ⟨w.heap.size, 0, none⟩) q.len c) :=
  ⟨⟨hq, PinR.low hlow⟩, .inr ⟨w.heap.size, c, _, rfl, hβ, heap_alloc_new w.drew _, hc, hm, by simpa using hz, grown_at hq hrl (Rs_move m h) (heap_alloc_new w.drew _) fun j u hj => by
    rw [Array.getElem?_append_left (by simpa using (List.getElem?_eq_some_iff.1 hj).1)]
    simpa using hj⟩⟩

theorem s_append (h : Sim F β T a w) (hT : tabB F.P ei Γ = true) {c : Call} {s x : Operand} {t : TypeId} (ho : o.op = .call c) (hc : c.callee = .builtin .append) (hargs : c.args.toList = [s, x]) (hts : c.argTypes.toList = [t, t])
    {r : TyRow} (hr : Γ.get t = some r) {sv xv : Lf} {y z q : PL} (hs : opd T s = .v false [sv]) (hx : opd T x = .v false [xv]) (hy : contA r.ty sv = some y) (hz : contA r.ty xv = some z) (hq : y.cat z = q)
    (hb : (y.len + z.len) * (r.ty.by + 1) ≤ 140737488355328)
    (hdst : o.dst.getD 0 < 1000000) (hnil : sv = .nil → noD T (1000000 + o.dst.getD 0) = true ∧ ∀ β' c w', Sim F β' (put T o.dst (.v false [.own (1000000 + o.dst.getD 0, 0) (r.ty.elem ei) q])) (a.put o.dst c) w' → K (a.put o.dst c) w')
    (hown : ∀ lab e y', sv = .own lab e y' → (e = r.ty.elem ei ∧ lab.1 < 2000000) ∧ (T.all fun f => !f.hasB lab) = true ∧ ∀ β' c w', Sim F β' (put (T.map (FV.killO lab)) o.dst (.v false [.own lab (r.ty.elem ei) q])) (a.put o.dst c) w' → K (a.put o.dst c) w')
    (hp : ∀ y', sv ≠ .p y') (hu : sv ≠ .undef) : o.wp F.P a w K Q := by
  have hei : eiB F.P ei = true := by unfold tabB at hT; rw [Bool.and_eq_true] at hT; exact hT.1
  obtain ⟨hid, hrow⟩ := tab_row hT hr
  have ty := contA_ty hy
  have tz := contA_ty hz
  obtain ⟨i, zr, hun, hi, hsz, hby, hzr, hzs, hpos, _⟩ := row_elem hei hrow ty hid
  obtain ⟨cA, cW, cW2, cL, cR⟩ := cat_spec ty tz
  rw [hq] at cA cW cL cR
  have hsv : RLf F β w sv (a.eval s) := by have := opd_R h s; rw [hs] at this; exact R_v1 this
  have hxv : RLf F β w xv (a.eval x) := by have := opd_R h x; rw [hx] at this; exact R_v1 this
  obtain ⟨A, cx, news, hxval, hzl, hzR, hzc⟩ := cont_list h hz hxv
  obtain ⟨B, cs, olds, hsval, hyl, hyR, hyc⟩ := cont_list h hy hsv
  have hnl : news.length = z.len * i.size := by rw [← hzR.length, flat_len hzl, rows_len (arr_of_ty tz), hsz, cW2]
  have hol : olds.length = y.len * i.size := by rw [← hyR.length, flat_len hyl, rows_len (arr_of_ty ty), hsz]
  have hbytes : (y.len + z.len) * i.bytes ≤ 140737488355328 := by
    rw [hby]
    exact Nat.le_trans (Nat.mul_le_mul_left _ (Nat.le_succ _)) hb
  have hzb : z.len * i.bytes ≤ 140737488355328 := Nat.le_trans (Nat.mul_le_mul_right _ (Nat.le_add_left _ _)) hbytes
  have hlen47 : y.len + z.len ≤ 140737488355328 := Nat.le_trans (by simpa using Nat.mul_le_mul_left (y.len + z.len) (show 1 ≤ r.ty.by + 1 by omega)) hb
  have h63 : ((y.len + z.len : Nat) : Int) ≤ 9223372036854775807 := by omega
  have hqR : All2 (PL.R w (okU F β)) q.rows.flatten (olds ++ news) := by rw [cR, List.flatten_append]; exact hyR.append hzR
  have hqrl : ∀ r ∈ q.rows, r.length = q.wd := by
    intro r' hr'
    rw [cR] at hr'
    rw [cW]
    rcases List.mem_append.1 hr' with h1 | h1
    · exact hyl r' h1
    · rw [hzl r' h1, cW2]
  have hg := fun (cc : Array Value) => (Grew.drew w).size
  have grewM : ∀ (β2 : BM) (cc : Array Value) (e : TypeId), (∀ l g, β2 l = some g → g = w.heap.size ∨ ∃ l', β l' = some g) → Mv F β β2 w (w.drew.alloc (.cells cc e)) := by
    intro β2 cc e hβ
    refine ⟨by simp, fun g hg hlt => ⟨⟨hg.1, fun l hl => ?_⟩, heap_alloc_old w.drew _ hlt⟩⟩
    rcases hβ l g hl with rfl | ⟨l', hl'⟩
    · omega
    · exact hg.2 l' hl'
  have hcapm : ∀ old, grownCap w (y.len + z.len) old (r.ty.elem ei) ≤ maxLen := fun old => grownCap_le_maxLen w _ old _ (by simp only [maxLen]; omega)
  have hcapg : ∀ old, y.len + z.len ≤ grownCap w (y.len + z.len) old (r.ty.elem ei) := fun old => grownCap_ge w _ old _
  have hzsz : ∀ old, (olds ++ news).length + (Builtin.zeroCells zr.cells (grownCap w (y.len + z.len) old (r.ty.elem ei) - (y.len + z.len))).size = grownCap w (y.len + z.len) old (r.ty.elem ei) * q.wd := by
    intro old
    rw [size_zeroCells, List.length_append, hol, hnl, hzs, cW, hsz, ← Nat.add_mul, ← Nat.add_mul]
    congr 1
    have := hcapg old
    omega
  cases sv with
  | undef => exact absurd rfl hu
  | p y' => exact absurd rfl (hp y')
  | nil =>
    obtain ⟨hnoD, hK⟩ := hnil rfl
    have hno := noD_has hnoD
    have hlow : ((1000000 + o.dst.getD 0, 0) : Lab).1 < 2000000 := Nat.add_lt_add_left hdst 1000000
    unfold RLf at hsv
    have hy0 : y.len = 0 := by rw [hsv] at hsval; injection hsval with _ h2 _; exact h2.symm
    have ho0 : olds = [] := List.eq_nil_of_length_eq_zero (by rw [hol, hy0]; simp)
    subst ho0
    by_cases hz0 : z.len = 0
    · rw [hz0] at hxval
      have hrun := run_append_empty (P := F.P) (t := t) (ty := o.type) hun hi (B := none) (A := A) (n := 0) (cap := 0) (c := cx) (Nat.le_refl _) w
      rw [← hsv, ← hxval] at hrun
      refine wp_value (run_append_op ho hc hargs hts hrun) (hK (relab β (1000000 + o.dst.getD 0) fun _ => none) _ _ ((h.label (Grew.refl w) _ _ hno (fun _ _ h => by cases h) (fun _ _ _ h => by cases h)).put o.dst ⟨_, rfl, ⟨cA, PinR.low hlow⟩, .inl ⟨hsv, by rw [cL]; omega⟩⟩))
    · obtain ⟨g, p, rfl, hcell⟩ : ∃ g p, A = some ⟨g, p, none⟩ ∧ ∀ j u, news[j]? = some u → w.cell? ⟨g, p + j, none⟩ = some u := by
        rcases hzc with h0 | h0
        · exact absurd h0 hz0
        · exact h0
      have hrun := run_append_nil (P := F.P) w t o.type _ i zr hun hi hzr ⟨g, p, none⟩ z.len cx news hnl (fun j u hj => by rw [Addr.add_lit]; exact hcell j u hj) (by omega) (by omega) (by omega)
      rw [← hsv, ← hxval] at hrun
      have hgr : Grew w (w.drew.alloc (.cells (news.toArray ++ Builtin.zeroCells zr.cells (grownCap w z.len 0 (r.ty.elem ei) - z.len)) (r.ty.elem ei))) := ⟨rfl, rfl, rfl, by simp, fun k hk => heap_alloc_old w.drew _ hk⟩
      refine wp_value (run_append_op ho hc hargs hts hrun) (hK (relab β (1000000 + o.dst.getD 0) (N1 w.heap.size)) _ _ ((h.label hgr _ _ hno (N1_lt (Nat.le_refl _) (by simp)) N1_inj).put o.dst ⟨_, rfl, ?_⟩))
      have hze : y.len + z.len = z.len := by omega
      have e1 := hzsz 0
      have e2 := hcapg 0
      have e3 := hcapm 0
      rw [hze] at e1 e2 e3
      simp only [List.nil_append] at hqR e1
      have := grew_own (F := F) (β := β) (β' := relab β (1000000 + o.dst.getD 0) (N1 w.heap.size)) (w := w) (lab := (1000000 + o.dst.getD 0, 0)) hlow (e := r.ty.elem ei) (c := grownCap w z.len 0 (r.ty.elem ei)) (relab_0 _ _ _) cA hqrl hqR
        (grewM _ _ _ (fun l b hl => by
          unfold relab at hl
          split at hl
          · unfold N1 at hl
            split at hl
            · cases hl; exact .inl rfl
            · cases hl
          · exact .inr ⟨l, hl⟩)) (by rw [cL, hze]; exact e2) e3 e1
      rw [cL, hze] at this
      exact this
  | own lab e y' =>
    obtain ⟨⟨he, hlow⟩, hB, hK⟩ := hown lab e y' rfl
    subst he
    have hyy : y' = y := by unfold contA at hy; dsimp only at hy; split at hy <;> cases hy; rfl
    subst hyy
    obtain ⟨_, hsv⟩ := hsv
    rcases hsv with ⟨hv, h0⟩ | ⟨g, cap, cur, hv, hbl, hh, k1, k2, k3, k4⟩
    · -- nil under a label
      have ho0 : olds = [] := List.eq_nil_of_length_eq_zero (by rw [hol, h0]; simp)
      subst ho0
      let β1 : BM := fun l => if l = lab then none else β l
      have h1 : ∀ l g, β1 l = some g → β l = some g := by
        intro l g hl
        by_cases hll : l = lab
        · simp [β1, hll] at hl
        · simpa [β1, hll] using hl
      by_cases hz0 : z.len = 0
      · rw [hz0] at hxval
        have hrun := run_append_empty (P := F.P) (t := t) (ty := o.type) hun hi (B := none) (A := A) (n := 0) (cap := 0) (c := cx) (Nat.le_refl _) w
        rw [← hv, ← hxval] at hrun
        refine wp_value (run_append_op ho hc hargs hts hrun) (hK β1 _ _ ((h.killed (β' := β1) (w' := w) ⟨Nat.le_refl _, fun g hg _ => ⟨⟨hg.1, fun l hl => hg.2 l (h1 l g hl)⟩, rfl⟩⟩ hB (fun l g hl hg => ⟨by simp [β1, hl, hg], rfl⟩)
          (fun l l' g hl hl' => h.inj l l' g (h1 l g hl) (h1 l' g hl')) (fun l g hl => h.rng l g (h1 l g hl)) rfl rfl rfl (fun _ _ _ => rfl)).put o.dst ⟨_, rfl, ⟨cA, PinR.low hlow⟩, .inl ⟨hv, by rw [cL]; omega⟩⟩))
      · obtain ⟨g, p, rfl, hcell⟩ : ∃ g p, A = some ⟨g, p, none⟩ ∧ ∀ j u, news[j]? = some u → w.cell? ⟨g, p + j, none⟩ = some u := by
          rcases hzc with h0 | h0
          · exact absurd h0 hz0
          · exact h0
        have hrun := run_append_nil (P := F.P) w t o.type _ i zr hun hi hzr ⟨g, p, none⟩ z.len cx news hnl (fun j u hj => by rw [Addr.add_lit]; exact hcell j u hj) (by omega) (by omega) (by omega)
        rw [← hv, ← hxval] at hrun
        let β2 : BM := fun l => if l = lab then some w.heap.size else β l
        have hβ2 : ∀ l b, β2 l = some b → b = w.heap.size ∨ ∃ l', β l' = some b := by
          intro l b hl
          by_cases hll : l = lab
          · simp [β2, hll] at hl; exact .inl hl.symm
          · simp [β2, hll] at hl; exact .inr ⟨l, hl⟩
        have hze : y'.len + z.len = z.len := by omega
        have e1 := hzsz 0
        have e2 := hcapg 0
        have e3 := hcapm 0
        rw [hze] at e1 e2 e3
        simp only [List.nil_append] at hqR e1
        have m := grewM β2 (news.toArray ++ Builtin.zeroCells zr.cells (grownCap w z.len 0 (r.ty.elem ei) - z.len)) (r.ty.elem ei) hβ2
        refine wp_value (run_append_op ho hc hargs hts hrun) (hK β2 _ _ ((h.killed (β' := β2) m hB (fun l b hl hb => ⟨by simp [β2, hl, hb], heap_alloc_old w.drew _ (h.rng l b hb).1⟩)
          (fun l l' b hl hl' => ?_) (fun l b hl => ?_) rfl rfl rfl (fun k hk _ => heap_alloc_old w.drew _ (Nat.lt_of_lt_of_le hk h.hsize))).put o.dst ⟨_, rfl, ?_⟩))
        · by_cases q1 : l = lab <;> by_cases q2 : l' = lab
          · rw [q1, q2]
          · simp [β2, q1] at hl; simp [β2, q2] at hl'; have := (h.rng _ _ hl').1; omega
          · simp [β2, q1] at hl; simp [β2, q2] at hl'; have := (h.rng _ _ hl).1; omega
          · simp [β2, q1] at hl; simp [β2, q2] at hl'; exact h.inj _ _ _ hl hl'
        · rcases hβ2 l b hl with rfl | ⟨l', hl'⟩
          · exact ⟨by simp, .inl h.hsize⟩
          · have := h.rng l' b hl'
            exact ⟨by simp; omega, this.2⟩
        · have := grew_own (F := F) (β := β) (β' := β2) (w := w) (lab := lab) hlow (e := r.ty.elem ei) (c := grownCap w z.len 0 (r.ty.elem ei)) (by simp [β2]) cA hqrl hqR m (by rw [cL, hze]; exact e2) e3 e1
          rw [cL, hze] at this
          exact this
    · -- a block
      have hBs : B = some ⟨g, 0, none⟩ ∧ cs = cap := by rw [hv] at hsval; cases hsval; exact ⟨rfl, rfl⟩
      obtain ⟨rfl, rfl⟩ := hBs
      -- the old cells are the block's
      obtain ⟨o1, olds2, o3, o4⟩ := Rows_list ((At_rows (arr_of_ty ty)).1 k4)
      have hol2 : olds2.length = y'.len * i.size := by rw [← o3.length, flat_len o1, rows_len (arr_of_ty ty), hsz]
      have hqR2 : All2 (PL.R w (okU F β)) q.rows.flatten (olds2 ++ news) := by rw [cR, List.flatten_append]; exact o3.append hzR
      have hcur : ∀ (j : Nat) (u : Value), olds2[j]? = some u → cur[j]? = some u := by
        intro j u hj
        have := o4 j u hj
        rw [cell_of_row _ g _ cur _ (0, 0) hh, Nat.zero_add] at this
        exact this
      have hcurs : cur.size = cs * i.size := by rw [k3, hsz]
      by_cases hroom : y'.len + z.len ≤ cs
      · -- room
        have hfit : y'.len * i.size + news.length ≤ cur.size := by rw [hnl, hcurs, ← Nat.add_mul]; exact Nat.mul_le_mul_right _ hroom
        have htake : cur.toList.take (y'.len * i.size) = olds2 := by
          apply List.ext_getElem?
          intro j
          rw [List.getElem?_take]
          by_cases hj : j < y'.len * i.size
          · rw [if_pos hj]
            have hlt : j < olds2.length := by omega
            rw [List.getElem?_eq_getElem hlt]
            have := hcur j _ (List.getElem?_eq_getElem hlt)
            simpa using this
          · rw [if_neg hj, List.getElem?_eq_none (by omega)]
        by_cases hz0 : z.len = 0
        · have hn0 : news = [] := List.eq_nil_of_length_eq_zero (by rw [hnl, hz0]; simp)
          subst hn0
          rw [hz0] at hxval
          have hrun := run_append_empty (P := F.P) (t := t) (ty := o.type) hun hi (B := some ⟨g, 0, none⟩) (A := A) (n := y'.len) (cap := cs) (c := cx) k1 w
          rw [← hv, ← hxval] at hrun
          refine wp_value (run_append_op ho hc hargs hts hrun) (hK β _ _ ((h.killed (β' := β) (w' := w) ⟨Nat.le_refl _, fun _ hg _ => ⟨hg, rfl⟩⟩ hB (fun l b _ hb => ⟨hb, rfl⟩) h.inj h.rng rfl rfl rfl (fun _ _ _ => rfl)).put o.dst
            ⟨_, rfl, ⟨cA, PinR.low hlow⟩, .inr ⟨g, cs, cur, ?_, hbl, hh, ?_, k2, ?_, ?_⟩⟩))
          · rw [hv, cL, hz0]; rfl
          · rw [cL]; omega
          · rw [k3, cW]
          · simp only [List.append_nil] at hqR2
            exact grown_at cA hqrl hqR2 hh hcur
        · obtain ⟨g2, p, rfl, hcell⟩ : ∃ g p, A = some ⟨g, p, none⟩ ∧ ∀ j u, news[j]? = some u → w.cell? ⟨g, p + j, none⟩ = some u := by
            rcases hzc with h0 | h0
            · exact absurd h0 hz0
            · exact h0
          have hrun := run_append_room (P := F.P) w t o.type _ i hun hi g y'.len cs cur hh ⟨g2, p, none⟩ z.len cx news hnl (fun j u hj => by rw [Addr.add_lit]; exact hcell j u hj) (R1s hzR) hroom hfit
          rw [← hv, ← hxval] at hrun
          rw [htake] at hrun
          generalize hcc : (olds2 ++ news ++ cur.toList.drop (y'.len * i.size + news.length)).toArray = cur' at hrun
          have hheap := setRow_heap w g cur cur' (r.ty.elem ei) (0, 0) hh
          have m := Mv.own h hbl cur'
          have hcs' : cur'.size = cur.size := by rw [← hcc]; simp [hol2]; omega
          refine wp_value (run_append_op ho hc hargs hts hrun) (hK β _ _ ((h.killed (β' := β) m hB (fun l b hl hb => ⟨hb, setRow_other w g b cur' (fun e => hl (by subst e; exact h.inj _ _ _ hb hbl))⟩) h.inj
            (fun l b hl => by simpa using h.rng l b hl) (by simp) (by simp) (by simp) (fun k h1 h2 => setRow_other w g k cur' (fun e => ?_))).put o.dst ⟨_, rfl, ⟨cA, PinR.low hlow⟩, .inr ⟨g, cs, cur', ?_, hbl, hheap, ?_, k2, ?_, ?_⟩⟩))
          · rcases (h.rng lab g hbl).2 with h3 | h3
            · omega
            · exact h2 (e ▸ h3)
          · rw [cL]
          · rw [cL]; exact hroom
          · rw [hcs', k3, cW]
          · refine grown_at cA hqrl (Rs_move m hqR2) hheap fun j u hj => ?_
            rw [← hcc]
            simp only [List.getElem?_toArray]
            rw [List.getElem?_append_left (List.getElem?_eq_some_iff.1 hj).1]
            exact hj
      · -- a new block
        have hz0 : z.len ≠ 0 := by omega
        obtain ⟨g2, p, rfl, hcell⟩ : ∃ g p, A = some ⟨g, p, none⟩ ∧ ∀ j u, news[j]? = some u → w.cell? ⟨g, p + j, none⟩ = some u := by
          rcases hzc with h0 | h0
          · exact absurd h0 hz0
          · exact h0
        have hrun := run_append_grow (P := F.P) w t o.type _ i zr hun hi hzr ⟨g, 0, none⟩ y'.len cs olds2 hol2 (fun j u hj => by rw [Addr.add_lit]; exact o4 j u hj) ⟨g2, p, none⟩ z.len cx news hnl (fun j u hj => by rw [Addr.add_lit]; exact hcell j u hj)
          (by omega) h63 (growslice_fits (by omega) hbytes)
        rw [← hv, ← hxval] at hrun
        rw [show olds2.toArray ++ news.toArray = (olds2 ++ news).toArray by simp] at hrun
        let β2 : BM := fun l => if l = lab then some w.heap.size else β l
        have hβ2 : ∀ l b, β2 l = some b → b = w.heap.size ∨ ∃ l', β l' = some b := by
          intro l b hl
          by_cases hll : l = lab
          · simp [β2, hll] at hl; exact .inl hl.symm
          · simp [β2, hll] at hl; exact .inr ⟨l, hl⟩
        have e1 := hzsz cs
        rw [List.length_append, hol, ← hol2, ← List.length_append] at e1
        have m := grewM β2 ((olds2 ++ news).toArray ++ Builtin.zeroCells zr.cells (grownCap w (y'.len + z.len) cs (r.ty.elem ei) - (y'.len + z.len))) (r.ty.elem ei) hβ2
        refine wp_value (run_append_op ho hc hargs hts hrun) (hK β2 _ _ ((h.killed (β' := β2) m hB (fun l b hl hb => ⟨by simp [β2, hl, hb], heap_alloc_old w.drew _ (h.rng l b hb).1⟩)
          (fun l l' b hl hl' => ?_) (fun l b hl => ?_) rfl rfl rfl (fun k hk _ => heap_alloc_old w.drew _ (Nat.lt_of_lt_of_le hk h.hsize))).put o.dst ⟨_, rfl, ?_⟩))
        · by_cases q1 : l = lab <;> by_cases q2 : l' = lab
          · rw [q1, q2]
          · simp [β2, q1] at hl; simp [β2, q2] at hl'; have := (h.rng _ _ hl').1; omega
          · simp [β2, q1] at hl; simp [β2, q2] at hl'; have := (h.rng _ _ hl).1; omega
          · simp [β2, q1] at hl; simp [β2, q2] at hl'; exact h.inj _ _ _ hl hl'
        · rcases hβ2 l b hl with rfl | ⟨l', hl'⟩
          · exact ⟨by simp, .inl h.hsize⟩
          · have := h.rng l' b hl'
            exact ⟨by simp; omega, this.2⟩
        · have := grew_own (F := F) (β := β) (β' := β2) (w := w) (lab := lab) hlow (e := r.ty.elem ei) (c := grownCap w (y'.len + z.len) cs (r.ty.elem ei)) (by simp [β2]) cA hqrl hqR2 m (by rw [cL]; exact hcapg cs) (hcapm cs) e1
          rw [cL] at this
          exact this
end
end Go.Vx
