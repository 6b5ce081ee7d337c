/- VxB, VxM, VxP, VxQ -/
import Derived.Test.YtpmgjmkobpeepaaGreatVGc
set_option linter.unusedVariables false
set_option linter.unusedSectionVars false
set_option linter.unusedSimpArgs false
section
/- Vx, part 9b: append, in the frame. -/
namespace Go.Vx
open Go.RowKit

section
variable {F : Fr} {β β' : BM} {T : List FV} {a : Act} {w w' : World} {o : Oper} {Γ : Tab} {ei : TypeId} {Q : Exit → Act → World → Prop} {K : Act → World → Prop}

theorem grown_at {q : PL} {us : List Value} {cc : Array Value} {e : TypeId} {g : Nat} {ok : Nat → Prop} (hq : q.isArr = true) (hrl : ∀ r ∈ q.rows, r.length = q.wd) (h : All2 (PL.R w' ok) q.rows.flatten us)
  (hg : w'.heap[g]? = some (.cells cc e (0, 0))) (hcc : ∀ (j : Nat) (u : Value), us[j]? = some u → cc[j]? = some u) : q.At w' ok g 0 :=
 (At_rows hq).2 (Rows_of hrl h fun j u hj => by rw [cell_of_row _ g _ cc e (0, 0) hg, Nat.zero_add]; exact hcc j u hj)

theorem Rs_move (m : Mv F β β' w w') : ∀ {ps : List PL} {us : List Value}, All2 (PL.R w (okU F β)) ps us → All2 (PL.R w' (okU F β')) ps us
 | [], [], _ => True.intro
 | _ :: _, _ :: _, h => ⟨PL.R.move m.hs m.ok _ _ h.1, Rs_move m h.2⟩
 | [], _ :: _, h => h.elim
 | _ :: _, [], h => h.elim

theorem R1s {ok : Nat → Prop} : ∀ {ps : List PL} {us : List Value}, All2 (PL.R w ok) ps us → ∀ u ∈ us, u.oneCell' = true
 | [], [], _, u, hu => by cases hu
 | p :: ps, v :: us, h, u, hu => by
  rcases List.mem_cons.1 hu with rfl | hu
  ·exact PL.R.one h.1
  ·exact R1s h.2 u hu
 | [], _ :: _, h, _, _ => h.elim
 | _ :: _, [], h, _, _ => h.elim

/-- The frame behind an append to an array of its own: the others under the label are gone. -/
theorem Sim.killed (h : Sim F β T a w) (m : Mv F β β' w w') {lab : Lab} (hB : (T.all fun f => !f.hasB lab) = true) (hk : ∀ l g, l ≠ lab → β l = some g → β' l = some g ∧ w'.heap[g]? = w.heap[g]?)
  (inj : ∀ l l' g, β' l = some g → β' l' = some g → l = l') (rng : ∀ l g, β' l = some g → g < w'.heap.size ∧ (F.base ≤ g ∨ g ∈ F.M))
  (os : w'.os = w.os) (tape : w'.tape = w.tape) (output : w'.output = w.output) (kept : ∀ k, k < F.base → k ∉ F.M → w'.heap[k]? = w.heap[k]?) : Sim F β' (T.map (FV.killO lab)) a w' :=
 {defers := h.defers, size := h.size.trans (by simp), inj := inj, rng := rng, os := os.trans h.os, tape := tape.trans h.tape, output := output.trans h.output,
  hsize := Nat.le_trans h.hsize m.hs, kept := fun k h1 h2 => (kept k h1 h2).trans (h.kept k h1 h2), mok := h.mok,
  rel := fun i f hf => by
   rw [List.getElem?_map] at hf
   obtain ⟨f0, hf0, rfl⟩ := Option.map_eq_some_iff.1 hf
   obtain ⟨c, hc, hr⟩ := h.rel i f0 hf0
   rw [List.all_eq_true] at hB
   exact ⟨c, hc, killO_R m hk (by simpa using hB f0 (List.mem_of_getElem? hf0)) hr⟩ }

theorem arr_of_ty {t : Ty} {y : PL} (h : tyArr t y = true) : y.isArr = true := tyArr_isArr h

/-- The new block of an array that has grown. -/
theorem grew_own {lab : Lab} (hlow : lab.1 < 2000000) {q : PL} {us : List Value} {zs : Array Value} {e : TypeId} {c : Nat} (hβ : β' lab = some w.heap.size) (hq : q.isArr = true) (hrl : ∀ r ∈ q.rows, r.length = q.wd)
  (h : All2 (PL.R w (okU F β)) q.rows.flatten us) (m : Mv F β β' w (w.drew.alloc (.cells (us.toArray ++ zs) e))) (hc : q.len ≤ c) (hm : c ≤ maxLen) (hz : us.length + zs.size = c * q.wd) :
  OwnR F β' (w.drew.alloc (.cells (us.toArray ++ zs) e)) lab e q (.slice (some ⟨w.heap.size, 0, none⟩) q.len c) :=
 ⟨⟨hq, PinR.low hlow⟩, .inr ⟨w.heap.size, c, _, rfl, hβ, heap_alloc_new w.drew _, hc, hm, by simpa using hz, grown_at hq hrl (Rs_move m h) (heap_alloc_new w.drew _) fun j u hj => by
  rw [Array.getElem?_append_left (by simpa using (List.getElem?_eq_some_iff.1 hj).1)]
  simpa using hj⟩⟩

theorem sim_putLe {T : List FV} {d : Option Tmp} {f f' : FV} {a : Act} {w : World} {β : BM} (h : Sim F β (put T d f) a w) (hle : ∀ v, RFV F β w f v → RFV F β w f' v) : Sim F β (put T d f') a w := by
 cases d with
 | none => exact h
 | some d =>
  refine { h with size := by rw [h.size]; simp [put], rel := fun i g hg => ?_ }
  unfold put at hg
  dsimp only at hg
  by_cases hi : i = d
  ·subst hi
   have hlt : i < T.length := by have := (List.getElem?_eq_some_iff.1 hg).1; simpa using this
   rw [List.getElem?_set_self hlt] at hg
   cases hg
   obtain ⟨c, hc, hr⟩ := h.rel i f (by unfold put; dsimp only; exact List.getElem?_set_self hlt)
   exact ⟨c, hc, hle c hr⟩
  ·rw [List.getElem?_set_ne (fun h => hi h.symm)] at hg
   exact h.rel i g (by unfold put; dsimp only; rw [List.getElem?_set_ne (fun h => hi h.symm)]; exact hg)
/-- An own slice of structs without inner contents owns its inner slices. -/
theorem own_deep {β : BM} {w : World} {l : Lab} {e : TypeId} {k : Nat} {rows : List (List PL)} {v : Value} (hv : RFV F β w (.v false [.own l e (.arr k rows)]) v) (hz : rows.all zeroRow = true) : RFV F β w (.v false [.deep l ei k rows]) v := by
  obtain ⟨x, hx, hv⟩ := hv
  cases hx
  refine ⟨_, rfl, hv.1.2, ?_⟩
  rcases hv.2 with ⟨h1, h2⟩ | ⟨g, c, cur, h1, h2, h3, h4, h5, h6, h7⟩
  ·exact .inl ⟨h1, List.eq_nil_of_length_eq_zero h2⟩
  ·refine .inr ⟨g, c, cur, e, h1, h2, h3, h4, h5, h6, fun i r hr => ?_⟩
   obtain ⟨hk, hc⟩ := PL.Rows.get (show PL.Rows w _ k g 0 rows from h7) i r hr
   refine ⟨hk, fun q x hx => ?_⟩
   obtain ⟨u, hu, hxu⟩ := hc.get q x hx
   rw [Nat.zero_add] at hu
   have hu2 : cur[i * k + q]? = some u := by
    have := hu
    unfold World.cell? at this
    rw [h3] at this
    simpa using this
   refine ⟨u, hu2, ?_⟩
   rw [List.all_eq_true] at hz
   have hzr := hz r (List.mem_of_getElem? hr)
   unfold zeroRow at hzr
   rw [List.all_eq_true] at hzr
   have hzx := hzr x (List.mem_of_getElem? hx)
   unfold KidAt
   cases x with
   | ints z =>
    cases z with
    | nil =>
     obtain ⟨A, c2, e1, _, e2, _⟩ := hxu
     exact .inl ⟨rfl, A, c2, e1, e2⟩
    | cons a z => cases hzx
   | int k z => exact ⟨rfl, hxu⟩
   | bool b => exact ⟨rfl, hxu⟩
   | str s => exact ⟨rfl, hxu⟩
   | fn f => exact ⟨rfl, hxu⟩
   | clo f z => cases hzx
   | pint z => cases hzx
   | darr k l => cases hzx
   | arr k l => cases hzx
theorem s_append (h : Sim F β T a w) (hT : tabB F.P ei Γ = true) {c : Call} {s x : Operand} {t : TypeId} (ho : o.op = .call c) (hc : c.callee = .builtin .append) (hargs : c.args.toList = [s, x]) (hts : c.argTypes.toList = [t, t])
  {r : TyRow} (hr : Γ.get t = some r) {sv xv : Lf} {y z q : PL} (hs : opd T s = .v false [sv]) (hx : opd T x = .v false [xv]) (hy : contA r.ty sv = some y) (hz : contA r.ty xv = some z) (hq : y.cat z = q)
  (hb : (y.len + z.len) * (r.ty.by + 1) ≤ 140737488355328)
  (hdst : o.dst.getD 0 < 1000000) (hnil : sv = .nil → noD T (1000000 + o.dst.getD 0) = true ∧ ∀ β' c w', Sim F β' (put T o.dst (.v false [.own (1000000 + o.dst.getD 0, 0) (r.ty.elem ei) q])) (a.put o.dst c) w' → K (a.put o.dst c) w')
  (hown : ∀ lab e y', sv = .own lab e y' → (e = r.ty.elem ei ∧ lab.1 < 2000000) ∧ (T.all fun f => !f.hasB lab) = true ∧ ∀ β' c w', Sim F β' (put (T.map (FV.killO lab)) o.dst (.v false [.own lab (r.ty.elem ei) q])) (a.put o.dst c) w' → K (a.put o.dst c) w')
  (hp : ∀ y', sv ≠ .p y') (hu : sv ≠ .undef) : o.wp F.P a w K Q := by
 have hei : eiB F.P ei = true := by unfold tabB at hT; rw [Bool.and_eq_true] at hT; exact hT.1
 obtain ⟨hid, hrow⟩ := tab_row hT hr
 have ty := contA_ty hy
 have tz := contA_ty hz
 obtain ⟨i, zr, hun, hi, hsz, hby, hzr, hzs, hpos, _⟩ := row_elem hei hrow ty hid
 obtain ⟨cA, cW, cW2, cL, cR⟩ := cat_spec ty tz
 rw [hq] at cA cW cL cR
 have hsv : RLf F β w sv (a.eval s) := by have := opd_R h s; rw [hs] at this; exact R_v1 this
 have hxv : RLf F β w xv (a.eval x) := by have := opd_R h x; rw [hx] at this; exact R_v1 this
 obtain ⟨A, cx, news, hxval, hzl, hzR, hzc⟩ := cont_list h hz hxv
 obtain ⟨B, cs, olds, hsval, hyl, hyR, hyc⟩ := cont_list h hy hsv
 have hnl : news.length = z.len * i.size := by rw [← hzR.length, flat_len hzl, rows_len (arr_of_ty tz), hsz, cW2]
 have hol : olds.length = y.len * i.size := by rw [← hyR.length, flat_len hyl, rows_len (arr_of_ty ty), hsz]
 have hbytes : (y.len + z.len) * i.bytes ≤ 140737488355328 := by
  rw [hby]
  exact Nat.le_trans (Nat.mul_le_mul_left _ (Nat.le_succ _)) hb
 have hzb : z.len * i.bytes ≤ 140737488355328 := Nat.le_trans (Nat.mul_le_mul_right _ (Nat.le_add_left _ _)) hbytes
 have hlen47 : y.len + z.len ≤ 140737488355328 := Nat.le_trans (by simpa using Nat.mul_le_mul_left (y.len + z.len) (show 1 ≤ r.ty.by + 1 by omega)) hb
 have h63 : ((y.len + z.len : Nat) : Int) ≤ 9223372036854775807 := by omega
 have hqR : All2 (PL.R w (okU F β)) q.rows.flatten (olds ++ news) := by rw [cR, List.flatten_append]; exact hyR.append hzR
 have hqrl : ∀ r ∈ q.rows, r.length = q.wd := by
  intro r' hr'
  rw [cR] at hr'
  rw [cW]
  rcases List.mem_append.1 hr' with h1 | h1
  ·exact hyl r' h1
  ·rw [hzl r' h1, cW2]
 have hg := fun (cc : Array Value) => (Grew.drew w).size
 have grewM : ∀ (β2 : BM) (cc : Array Value) (e : TypeId), (∀ l g, β2 l = some g → g = w.heap.size ∨ ∃ l', β l' = some g) → Mv F β β2 w (w.drew.alloc (.cells cc e)) := by
  intro β2 cc e hβ
  refine ⟨by simp, fun g hg hlt => ⟨⟨hg.1, fun l hl => ?_⟩, heap_alloc_old w.drew _ hlt⟩⟩
  rcases hβ l g hl with rfl | ⟨l', hl'⟩
  ·omega
  ·exact hg.2 l' hl'
 have hcapm : ∀ old, grownCap w (y.len + z.len) old (r.ty.elem ei) ≤ maxLen := fun old => grownCap_le_maxLen w _ old _ (by simp only [maxLen]; omega)
 have hcapg : ∀ old, y.len + z.len ≤ grownCap w (y.len + z.len) old (r.ty.elem ei) := fun old => grownCap_ge w _ old _
 have hzsz : ∀ old, (olds ++ news).length + (Builtin.zeroCells zr.cells (grownCap w (y.len + z.len) old (r.ty.elem ei) - (y.len + z.len))).size = grownCap w (y.len + z.len) old (r.ty.elem ei) * q.wd := by
  intro old
  rw [size_zeroCells, List.length_append, hol, hnl, hzs, cW, hsz, ← Nat.add_mul, ← Nat.add_mul]
  congr 1
  have := hcapg old
  omega
 cases sv with
 | deep l e k x => cases hy
 | kid l e n x => cases hy
 | undef => exact absurd rfl hu
 | p y' => exact absurd rfl (hp y')
 | nil =>
  obtain ⟨hnoD, hK⟩ := hnil rfl
  have hno := noD_has hnoD
  have hlow : ((1000000 + o.dst.getD 0, 0) : Lab).1 < 2000000 := Nat.add_lt_add_left hdst 1000000
  unfold RLf at hsv
  have hy0 : y.len = 0 := by rw [hsv] at hsval; injection hsval with _ h2 _; exact h2.symm
  have ho0 : olds = [] := List.eq_nil_of_length_eq_zero (by rw [hol, hy0]; simp)
  subst ho0
  by_cases hz0 : z.len = 0
  ·rw [hz0] at hxval
   have hrun := run_append_empty (P := F.P) (t := t) (ty := o.type) hun hi (B := none) (A := A) (n := 0) (cap := 0) (c := cx) (Nat.le_refl _) w
   rw [← hsv, ← hxval] at hrun
   refine wp_value (run_append_op ho hc hargs hts hrun) (hK (relab β (1000000 + o.dst.getD 0) fun _ => none) _ _ ((h.label (Grew.refl w) _ _ hno (fun _ _ h => by cases h) (fun _ _ _ h => by cases h)).put o.dst ⟨_, rfl, ⟨cA, PinR.low hlow⟩, .inl ⟨hsv, by rw [cL]; omega⟩⟩))
  ·obtain ⟨g, p, rfl, hcell⟩ : ∃ g p, A = some ⟨g, p, none⟩ ∧ ∀ j u, news[j]? = some u → w.cell? ⟨g, p + j, none⟩ = some u := by
    rcases hzc with h0 | h0
    ·exact absurd h0 hz0
    ·exact h0
   have hrun := run_append_nil (P := F.P) w t o.type _ i zr hun hi hzr ⟨g, p, none⟩ z.len cx news hnl (fun j u hj => by rw [Addr.add_lit]; exact hcell j u hj) (by omega) (by omega) (by omega)
   rw [← hsv, ← hxval] at hrun
   have hgr : Grew w (w.drew.alloc (.cells (news.toArray ++ Builtin.zeroCells zr.cells (grownCap w z.len 0 (r.ty.elem ei) - z.len)) (r.ty.elem ei))) := ⟨rfl, rfl, rfl, by simp, fun k hk => heap_alloc_old w.drew _ hk⟩
   refine wp_value (run_append_op ho hc hargs hts hrun) (hK (relab β (1000000 + o.dst.getD 0) (N1 w.heap.size)) _ _ ((h.label hgr _ _ hno (N1_lt (Nat.le_refl _) (by simp)) N1_inj).put o.dst ⟨_, rfl, ?_⟩))
   have hze : y.len + z.len = z.len := by omega
   have e1 := hzsz 0
   have e2 := hcapg 0
   have e3 := hcapm 0
   rw [hze] at e1 e2 e3
   simp only [List.nil_append] at hqR e1
   have := grew_own (F := F) (β := β) (β' := relab β (1000000 + o.dst.getD 0) (N1 w.heap.size)) (w := w) (lab := (1000000 + o.dst.getD 0, 0)) hlow (e := r.ty.elem ei) (c := grownCap w z.len 0 (r.ty.elem ei)) (relab_0 _ _ _) cA hqrl hqR
    (grewM _ _ _ (fun l b hl => by
     unfold relab at hl
     split at hl
     ·unfold N1 at hl
      split at hl
      ·cases hl; exact .inl rfl
      ·cases hl
     ·exact .inr ⟨l, hl⟩)) (by rw [cL, hze]; exact e2) e3 e1
   rw [cL, hze] at this
   exact this
 | own lab e y' =>
  obtain ⟨⟨he, hlow⟩, hB, hK⟩ := hown lab e y' rfl
  subst he
  have hyy : y' = y := by unfold contA at hy; dsimp only at hy; split at hy <;> cases hy; rfl
  subst hyy
  obtain ⟨_, hsv⟩ := hsv
  rcases hsv with ⟨hv, h0⟩ | ⟨g, cap, cur, hv, hbl, hh, k1, k2, k3, k4⟩
  ·-- nil under a label
   have ho0 : olds = [] := List.eq_nil_of_length_eq_zero (by rw [hol, h0]; simp)
   subst ho0
   let β1 : BM := fun l => if l = lab then none else β l
   have h1 : ∀ l g, β1 l = some g → β l = some g := by
    intro l g hl
    by_cases hll : l = lab
    ·simp [β1, hll] at hl
    ·simpa [β1, hll] using hl
   by_cases hz0 : z.len = 0
   ·rw [hz0] at hxval
    have hrun := run_append_empty (P := F.P) (t := t) (ty := o.type) hun hi (B := none) (A := A) (n := 0) (cap := 0) (c := cx) (Nat.le_refl _) w
    rw [← hv, ← hxval] at hrun
    refine wp_value (run_append_op ho hc hargs hts hrun) (hK β1 _ _ ((h.killed (β' := β1) (w' := w) ⟨Nat.le_refl _, fun g hg _ => ⟨⟨hg.1, fun l hl => hg.2 l (h1 l g hl)⟩, rfl⟩⟩ hB (fun l g hl hg => ⟨by simp [β1, hl, hg], rfl⟩)
     (fun l l' g hl hl' => h.inj l l' g (h1 l g hl) (h1 l' g hl')) (fun l g hl => h.rng l g (h1 l g hl)) rfl rfl rfl (fun _ _ _ => rfl)).put o.dst ⟨_, rfl, ⟨cA, PinR.low hlow⟩, .inl ⟨hv, by rw [cL]; omega⟩⟩))
   ·obtain ⟨g, p, rfl, hcell⟩ : ∃ g p, A = some ⟨g, p, none⟩ ∧ ∀ j u, news[j]? = some u → w.cell? ⟨g, p + j, none⟩ = some u := by
     rcases hzc with h0 | h0
     ·exact absurd h0 hz0
     ·exact h0
    have hrun := run_append_nil (P := F.P) w t o.type _ i zr hun hi hzr ⟨g, p, none⟩ z.len cx news hnl (fun j u hj => by rw [Addr.add_lit]; exact hcell j u hj) (by omega) (by omega) (by omega)
    rw [← hv, ← hxval] at hrun
    let β2 : BM := fun l => if l = lab then some w.heap.size else β l
    have hβ2 : ∀ l b, β2 l = some b → b = w.heap.size ∨ ∃ l', β l' = some b := by
     intro l b hl
     by_cases hll : l = lab
     ·simp [β2, hll] at hl; exact .inl hl.symm
     ·simp [β2, hll] at hl; exact .inr ⟨l, hl⟩
    have hze : y'.len + z.len = z.len := by omega
    have e1 := hzsz 0
    have e2 := hcapg 0
    have e3 := hcapm 0
    rw [hze] at e1 e2 e3
    simp only [List.nil_append] at hqR e1
    have m := grewM β2 (news.toArray ++ Builtin.zeroCells zr.cells (grownCap w z.len 0 (r.ty.elem ei) - z.len)) (r.ty.elem ei) hβ2
    refine wp_value (run_append_op ho hc hargs hts hrun) (hK β2 _ _ ((h.killed (β' := β2) m hB (fun l b hl hb => ⟨by simp [β2, hl, hb], heap_alloc_old w.drew _ (h.rng l b hb).1⟩)
     (fun l l' b hl hl' => ?_) (fun l b hl => ?_) rfl rfl rfl (fun k hk _ => heap_alloc_old w.drew _ (Nat.lt_of_lt_of_le hk h.hsize))).put o.dst ⟨_, rfl, ?_⟩))
    ·by_cases q1 : l = lab <;> by_cases q2 : l' = lab
     ·rw [q1, q2]
     ·simp [β2, q1] at hl; simp [β2, q2] at hl'; have := (h.rng _ _ hl').1; omega
     ·simp [β2, q1] at hl; simp [β2, q2] at hl'; have := (h.rng _ _ hl).1; omega
     ·simp [β2, q1] at hl; simp [β2, q2] at hl'; exact h.inj _ _ _ hl hl'
    ·rcases hβ2 l b hl with rfl | ⟨l', hl'⟩
     ·exact ⟨by simp, .inl h.hsize⟩
     ·have := h.rng l' b hl'
      exact ⟨by simp; omega, this.2⟩
    ·have := grew_own (F := F) (β := β) (β' := β2) (w := w) (lab := lab) hlow (e := r.ty.elem ei) (c := grownCap w z.len 0 (r.ty.elem ei)) (by simp [β2]) cA hqrl hqR m (by rw [cL, hze]; exact e2) e3 e1
     rw [cL, hze] at this
     exact this
  ·-- a block
   have hBs : B = some ⟨g, 0, none⟩ ∧ cs = cap := by rw [hv] at hsval; cases hsval; exact ⟨rfl, rfl⟩
   obtain ⟨rfl, rfl⟩ := hBs
   -- the old cells are the block's
   obtain ⟨o1, olds2, o3, o4⟩ := Rows_list ((At_rows (arr_of_ty ty)).1 k4)
   have hol2 : olds2.length = y'.len * i.size := by rw [← o3.length, flat_len o1, rows_len (arr_of_ty ty), hsz]
   have hqR2 : All2 (PL.R w (okU F β)) q.rows.flatten (olds2 ++ news) := by rw [cR, List.flatten_append]; exact o3.append hzR
   have hcur : ∀ (j : Nat) (u : Value), olds2[j]? = some u → cur[j]? = some u := by
    intro j u hj
    have := o4 j u hj
    rw [cell_of_row _ g _ cur _ (0, 0) hh, Nat.zero_add] at this
    exact this
   have hcurs : cur.size = cs * i.size := by rw [k3, hsz]
   by_cases hroom : y'.len + z.len ≤ cs
   ·-- room
    have hfit : y'.len * i.size + news.length ≤ cur.size := by rw [hnl, hcurs, ← Nat.add_mul]; exact Nat.mul_le_mul_right _ hroom
    have htake : cur.toList.take (y'.len * i.size) = olds2 := by
     apply List.ext_getElem?
     intro j
     rw [List.getElem?_take]
     by_cases hj : j < y'.len * i.size
     ·rw [if_pos hj]
      have hlt : j < olds2.length := by omega
      rw [List.getElem?_eq_getElem hlt]
      have := hcur j _ (List.getElem?_eq_getElem hlt)
      simpa using this
     ·rw [if_neg hj, List.getElem?_eq_none (by omega)]
    by_cases hz0 : z.len = 0
    ·have hn0 : news = [] := List.eq_nil_of_length_eq_zero (by rw [hnl, hz0]; simp)
     subst hn0
     rw [hz0] at hxval
     have hrun := run_append_empty (P := F.P) (t := t) (ty := o.type) hun hi (B := some ⟨g, 0, none⟩) (A := A) (n := y'.len) (cap := cs) (c := cx) k1 w
     rw [← hv, ← hxval] at hrun
     refine wp_value (run_append_op ho hc hargs hts hrun) (hK β _ _ ((h.killed (β' := β) (w' := w) ⟨Nat.le_refl _, fun _ hg _ => ⟨hg, rfl⟩⟩ hB (fun l b _ hb => ⟨hb, rfl⟩) h.inj h.rng rfl rfl rfl (fun _ _ _ => rfl)).put o.dst
      ⟨_, rfl, ⟨cA, PinR.low hlow⟩, .inr ⟨g, cs, cur, ?_, hbl, hh, ?_, k2, ?_, ?_⟩⟩))
     ·rw [hv, cL, hz0]; rfl
     ·rw [cL]; omega
     ·rw [k3, cW]
     ·simp only [List.append_nil] at hqR2
      exact grown_at cA hqrl hqR2 hh hcur
    ·obtain ⟨g2, p, rfl, hcell⟩ : ∃ g p, A = some ⟨g, p, none⟩ ∧ ∀ j u, news[j]? = some u → w.cell? ⟨g, p + j, none⟩ = some u := by
      rcases hzc with h0 | h0
      ·exact absurd h0 hz0
      ·exact h0
     have hrun := run_append_room (P := F.P) w t o.type _ i hun hi g y'.len cs cur hh ⟨g2, p, none⟩ z.len cx news hnl (fun j u hj => by rw [Addr.add_lit]; exact hcell j u hj) (R1s hzR) hroom hfit
     rw [← hv, ← hxval] at hrun
     rw [htake] at hrun
     generalize hcc : (olds2 ++ news ++ cur.toList.drop (y'.len * i.size + news.length)).toArray = cur' at hrun
     have hheap := setRow_heap w g cur cur' (r.ty.elem ei) (0, 0) hh
     have m := Mv.own h hbl cur'
     have hcs' : cur'.size = cur.size := by rw [← hcc]; simp [hol2]; omega
     refine wp_value (run_append_op ho hc hargs hts hrun) (hK β _ _ ((h.killed (β' := β) m hB (fun l b hl hb => ⟨hb, setRow_other w g b cur' (fun e => hl (by subst e; exact h.inj _ _ _ hb hbl))⟩) h.inj
      (fun l b hl => by simpa using h.rng l b hl) (by simp) (by simp) (by simp) (fun k h1 h2 => setRow_other w g k cur' (fun e => ?_))).put o.dst ⟨_, rfl, ⟨cA, PinR.low hlow⟩, .inr ⟨g, cs, cur', ?_, hbl, hheap, ?_, k2, ?_, ?_⟩⟩))
     ·rcases (h.rng lab g hbl).2 with h3 | h3
      ·omega
      ·exact h2 (e ▸ h3)
     ·rw [cL]
     ·rw [cL]; exact hroom
     ·rw [hcs', k3, cW]
     ·refine grown_at cA hqrl (Rs_move m hqR2) hheap fun j u hj => ?_
      rw [← hcc]
      simp only [List.getElem?_toArray]
      rw [List.getElem?_append_left (List.getElem?_eq_some_iff.1 hj).1]
      exact hj
   ·-- a new block
    have hz0 : z.len ≠ 0 := by omega
    obtain ⟨g2, p, rfl, hcell⟩ : ∃ g p, A = some ⟨g, p, none⟩ ∧ ∀ j u, news[j]? = some u → w.cell? ⟨g, p + j, none⟩ = some u := by
     rcases hzc with h0 | h0
     ·exact absurd h0 hz0
     ·exact h0
    have hrun := run_append_grow (P := F.P) w t o.type _ i zr hun hi hzr ⟨g, 0, none⟩ y'.len cs olds2 hol2 (fun j u hj => by rw [Addr.add_lit]; exact o4 j u hj) ⟨g2, p, none⟩ z.len cx news hnl (fun j u hj => by rw [Addr.add_lit]; exact hcell j u hj)
     (by omega) h63 (growslice_fits (by omega) hbytes)
    rw [← hv, ← hxval] at hrun
    rw [show olds2.toArray ++ news.toArray = (olds2 ++ news).toArray by simp] at hrun
    let β2 : BM := fun l => if l = lab then some w.heap.size else β l
    have hβ2 : ∀ l b, β2 l = some b → b = w.heap.size ∨ ∃ l', β l' = some b := by
     intro l b hl
     by_cases hll : l = lab
     ·simp [β2, hll] at hl; exact .inl hl.symm
     ·simp [β2, hll] at hl; exact .inr ⟨l, hl⟩
    have e1 := hzsz cs
    rw [List.length_append, hol, ← hol2, ← List.length_append] at e1
    have m := grewM β2 ((olds2 ++ news).toArray ++ Builtin.zeroCells zr.cells (grownCap w (y'.len + z.len) cs (r.ty.elem ei) - (y'.len + z.len))) (r.ty.elem ei) hβ2
    refine wp_value (run_append_op ho hc hargs hts hrun) (hK β2 _ _ ((h.killed (β' := β2) m hB (fun l b hl hb => ⟨by simp [β2, hl, hb], heap_alloc_old w.drew _ (h.rng l b hb).1⟩)
     (fun l l' b hl hl' => ?_) (fun l b hl => ?_) rfl rfl rfl (fun k hk _ => heap_alloc_old w.drew _ (Nat.lt_of_lt_of_le hk h.hsize))).put o.dst ⟨_, rfl, ?_⟩))
    ·by_cases q1 : l = lab <;> by_cases q2 : l' = lab
     ·rw [q1, q2]
     ·simp [β2, q1] at hl; simp [β2, q2] at hl'; have := (h.rng _ _ hl').1; omega
     ·simp [β2, q1] at hl; simp [β2, q2] at hl'; have := (h.rng _ _ hl).1; omega
     ·simp [β2, q1] at hl; simp [β2, q2] at hl'; exact h.inj _ _ _ hl hl'
    ·rcases hβ2 l b hl with rfl | ⟨l', hl'⟩
     ·exact ⟨by simp, .inl h.hsize⟩
     ·have := h.rng l' b hl'
      exact ⟨by simp; omega, this.2⟩
    ·have := grew_own (F := F) (β := β) (β' := β2) (w := w) (lab := lab) hlow (e := r.ty.elem ei) (c := grownCap w (y'.len + z.len) cs (r.ty.elem ei)) (by simp [β2]) cA hqrl hqR2 m (by rw [cL]; exact hcapg cs) (hcapm cs) e1
     rw [cL] at this
     exact this
end
/-- An array is no longer the frame's own. -/
def unL1 (lab : Lab) : Lf → Lf
 | .own l e x => match decide (l = lab) with | true => .p x | false => .own l e x
 | .deep l e k x => safeL lab (.deep l e k x)
 | .kid l e n x => safeL lab (.kid l e n x)
 | x => x
def FV.unO (lab : Lab) : FV → FV
 | .v a xs => .v a (xs.map (unL1 lab))
 | .tup vs => .tup (vs.map fun q => (q.1, q.2.map (unL1 lab)))
 | .box l cs off => .box l (cs.map (unL1 lab)) off
 | .elt s j off => match (unL1 lab s).arr? with
  | some _ => .elt (unL1 lab s) j off
  | none => .any
 | .sub s j off => match (unL1 lab s).arr? with
  | some _ => .sub (unL1 lab s) j off
  | none => .any
 | .lit l k cs => .lit l k (cs.map (unL1 lab))
 | .any => .any
theorem unL1_arr {lab : Lab} {s : Lf} {x : PL} (h : s.arr? = some x) : (unL1 lab s).arr? = some x ∨ (unL1 lab s).arr? = none := by
 cases s with
 | own l e y =>
  left
  unfold unL1
  dsimp only
  split
  ·cases y <;> exact h
  ·exact h
 | deep l e k y =>
  rcases safeL_arr (lab := lab) h with h1 | h1
  ·exact .inl ((congrArg Lf.arr? h1).trans h)
  ·exact .inr h1
 | kid l e n y => cases h
 | _ => exact .inl h

section
variable {F : Fr} {β β' : BM} {w : World} {T : List FV} {a : Act}
theorem unL1_R (h : Sim F β T a w) {lab : Lab} (hβ : ∀ l, β' l = if l = lab then none else β l) {x : Lf} {v : Value} (hx : RLf F β w x v) : RLf F β' w (unL1 lab x) v := by
 have hok : ∀ g, okU F β g → okU F β' g := fun g hg => ⟨hg.1, fun l hl => hg.2 l (by rw [hβ] at hl; split at hl <;> first | cases hl | exact hl)⟩
 have m : Mv F β β' w w := ⟨Nat.le_refl _, fun g hg _ => ⟨hok g hg, rfl⟩⟩
 cases x with
 | own l e x =>
  unfold unL1
  dsimp only
  by_cases hl : l = lab
  ·subst hl
   rw [decide_eq_true rfl]
   obtain ⟨ha, hx⟩ := hx
   rcases hx with ⟨rfl, h0⟩ | ⟨g, c, cur, rfl, hb, hh, h1, h2, h3, h4⟩
   ·cases x <;> simp [PL.isArr] at ha
    ·exact ⟨none, 0, by simp [PL.len] at h0; rw [h0]; rfl, by simp [PL.len] at h0; simp [h0], by simp, .inl (by simpa [PL.len] using h0)⟩
    ·exact ⟨none, 0, by simp [PL.len] at h0; rw [h0]; rfl, by simp [PL.len] at h0; simp [h0], by simp, .inl (by simpa [PL.len] using h0)⟩
   ·have hg : okU F β' g := by
     refine ⟨?_, fun l2 hl2 => ?_⟩
     ·rcases (h.rng l g hb).2 with h5 | h5
      ·exact .inr h5
      ·exact .inl (h.mok g h5)
     ·rw [hβ] at hl2
      split at hl2
      ·cases hl2
      ·rename_i hne
       exact hne (h.inj _ _ _ hl2 hb)
    have h4 := h4.move m rfl
    have hlt := (h.rng l g hb).1
    cases x <;> simp [PL.isArr] at ha
    ·exact ⟨_, c, rfl, h1, h2, .inr ⟨g, 0, rfl, hg, hlt, h4⟩⟩
    ·exact ⟨_, c, rfl, h1, h2, .inr ⟨g, 0, rfl, hg, hlt, h4⟩⟩
  ·rw [decide_eq_false hl]
   exact hx.move m (fun l2 g h2 hb => ⟨by
    simp [Lf.has] at h2
    rw [hβ, if_neg (by rw [← h2]; exact hl)]
    exact hb, rfl⟩)
 | deep l e k x => exact safeL_R m (fun l2 g h2 hb => ⟨by rw [hβ, if_neg h2]; exact hb, rfl⟩) hx
 | kid l e n x => exact safeL_R m (fun l2 g h2 hb => ⟨by rw [hβ, if_neg h2]; exact hb, rfl⟩) hx
 | _ => exact RLf.move m (fun l g h2 hb => by cases h2) hx
theorem unLs_R (h : Sim F β T a w) {lab : Lab} (hβ : ∀ l, β' l = if l = lab then none else β l) : ∀ {xs : List Lf} {cs : List Value}, All2 (RLf F β w) xs cs → All2 (RLf F β' w) (xs.map (unL1 lab)) cs
 | [], [], _ => True.intro
 | _ :: _, _ :: _, k => ⟨unL1_R h hβ k.1, unLs_R h hβ k.2⟩
 | [], _ :: _, k => k.elim
 | _ :: _, [], k => k.elim
theorem unV_R (h : Sim F β T a w) {lab : Lab} (hβ : ∀ l, β' l = if l = lab then none else β l) {b : Bool} {xs : List Lf} {v : Value} (k : RVal F β w b xs v) : RVal F β' w b (xs.map (unL1 lab)) v := by
 cases b with
 | true => obtain ⟨cs, hv, k⟩ := k; exact ⟨cs, hv, unLs_R h hβ k⟩
 | false => obtain ⟨x, rfl, k⟩ := k; exact ⟨_, rfl, unL1_R h hβ k⟩
theorem unVs_R (h : Sim F β T a w) {lab : Lab} (hβ : ∀ l, β' l = if l = lab then none else β l) : ∀ {vs : List (Bool × List Lf)} {cs : List Value}, All2 (fun (q : Bool × List Lf) c => RVal F β w q.1 q.2 c) vs cs → All2 (fun (q : Bool × List Lf) c => RVal F β' w q.1 q.2 c) (vs.map fun q => (q.1, q.2.map (unL1 lab))) cs
 | [], [], _ => True.intro
 | _ :: _, _ :: _, k => ⟨unV_R h hβ k.1, unVs_R h hβ k.2⟩
 | [], _ :: _, k => k.elim
 | _ :: _, [], k => k.elim
theorem unO_R (h : Sim F β T a w) {lab : Lab} (hβ : ∀ l, β' l = if l = lab then none else β l) {f : FV} {v : Value} (hB : f.hasB lab = false) (k : RFV F β w f v) : RFV F β' w (f.unO lab) v := by
 cases f with
 | any => exact True.intro
 | v b xs => exact unV_R h hβ k
 | tup vs => obtain ⟨cs, hv, k⟩ := k; exact ⟨cs, hv, unVs_R h hβ k⟩
 | box l cs off =>
  obtain ⟨g, cc, ty, hv, hb, hh, k⟩ := k
  exact ⟨g, cc, ty, hv, by rw [hβ, if_neg (by simpa [FV.hasB] using hB)]; exact hb, hh, unLs_R h hβ k⟩
 | elt s i off =>
  obtain ⟨g, o, n, c, x, hs, hx, hi, hv⟩ := k
  unfold FV.unO
  dsimp only
  rcases unL1_arr (lab := lab) hx with h1 | h1
  ·rw [h1]
   exact ⟨g, o, n, c, x, unL1_R h hβ hs, h1, hi, hv⟩
  ·rw [h1]
   exact True.intro
 | sub s i off =>
  obtain ⟨g, o, n, c, x, hs, hx, hi, hv⟩ := k
  unfold FV.unO
  dsimp only
  rcases unL1_arr (lab := lab) hx with h1 | h1
  ·rw [h1]
   exact ⟨g, o, n, c, x, unL1_R h hβ hs, h1, hi, hv⟩
  ·rw [h1]
   exact True.intro
 | lit l k2 cs =>
  obtain ⟨g, cc, ty, n, hv, hb, hh, hs, hn, k⟩ := k
  exact ⟨g, cc, ty, n, hv, by rw [hβ, if_neg (by simpa [FV.hasB] using hB)]; exact hb, hh, hs, hn, unLs_R h hβ k⟩
end


theorem unL1_kill {lab : Lab} (x : Lf) : unL1 lab (killL lab x) = killL lab x := by
 cases x with
 | own l e x =>
  unfold killL
  dsimp only
  by_cases h : l = lab
  ·rw [decide_eq_true h]; rfl
  ·rw [decide_eq_false h]; unfold unL1; dsimp only; rw [decide_eq_false h]
 | deep l e k x =>
  show unL1 lab (safeL lab (.deep l e k x)) = safeL lab (.deep l e k x)
  rcases safeL_cases (lab := lab) (x := .deep l e k x) with ⟨h1, _⟩ | h1
  ·rw [h1]; exact h1
  ·rw [h1]; rfl
 | kid l e n x =>
  show unL1 lab (safeL lab (.kid l e n x)) = safeL lab (.kid l e n x)
  rcases safeL_cases (lab := lab) (x := .kid l e n x) with ⟨h1, _⟩ | h1
  ·rw [h1]; exact h1
  ·rw [h1]; rfl
 | _ => rfl
theorem unO_kill {lab : Lab} (f : FV) : (f.killO lab).unO lab = f.killO lab := by
 have hm : ∀ xs : List Lf, (xs.map (killL lab)).map (unL1 lab) = xs.map (killL lab) := fun xs => by rw [List.map_map]; exact List.map_congr_left fun x _ => unL1_kill x
 cases f with
 | any => rfl
 | v a xs => show FV.v a _ = _; rw [hm]; rfl
 | tup vs =>
  show FV.tup ((vs.map _).map _) = FV.tup (vs.map _)
  rw [List.map_map]
  congr 1
  exact List.map_congr_left fun q _ => by show (q.1, (q.2.map (killL lab)).map (unL1 lab)) = _; rw [hm]
 | box l cs off => show FV.box l _ off = _; rw [hm]; rfl
 | elt s j off =>
  unfold FV.killO
  dsimp only
  cases h : (killL lab s).arr? with
  | none => rfl
  | some x =>
   show (match (unL1 lab (killL lab s)).arr? with | some _ => FV.elt (unL1 lab (killL lab s)) j off | none => .any) = _
   rw [unL1_kill, h]
 | sub s j off =>
  unfold FV.killO
  dsimp only
  cases h : (killL lab s).arr? with
  | none => rfl
  | some x =>
   show (match (unL1 lab (killL lab s)).arr? with | some _ => FV.sub (unL1 lab (killL lab s)) j off | none => .any) = _
   rw [unL1_kill, h]
 | lit l k cs => show FV.lit l k _ = _; rw [hm]; rfl
theorem hasB_kill {lab l : Lab} {f : FV} (h : f.hasB l = false) : (f.killO lab).hasB l = false := by
 cases f with
 | box l' cs off => exact h
 | elt s j off => unfold FV.killO; dsimp only; split <;> rfl
 | sub s j off => unfold FV.killO; dsimp only; split <;> rfl
 | lit l' k cs => exact h
 | _ => rfl
/-- What has been put under a label alone is nobody's own any more. -/
theorem Sim.unPut {F : Fr} {β : BM} {w : World} {T : List FV} {a : Act} {lab : Lab} {d : Option Tmp} {e : TypeId} {q : PL} (hB : (T.all fun f => !f.hasB lab) = true) (h : Sim F β (Vx.put (T.map (FV.killO lab)) d (.v false [.own lab e q])) a w) :
    ∃ β', Sim F β' (Vx.put (T.map (FV.killO lab)) d (.v false [.p q])) a w := by
  refine ⟨fun l => if l = lab then none else β l, ?_⟩
  have hT : Vx.put (T.map (FV.killO lab)) d (.v false [.p q]) = (Vx.put (T.map (FV.killO lab)) d (.v false [.own lab e q])).map (FV.unO lab) := by
    have e1 : (T.map (FV.killO lab)).map (FV.unO lab) = T.map (FV.killO lab) := by rw [List.map_map]; exact List.map_congr_left fun f _ => unO_kill f
    cases d with
    | none => exact e1.symm
    | some d =>
      show (T.map (FV.killO lab)).set d _ = ((T.map (FV.killO lab)).set d _).map _
      rw [List.map_set, e1]
      show _ = (T.map (FV.killO lab)).set d (.v false [unL1 lab (.own lab e q)])
      unfold unL1
      dsimp only
      rw [decide_eq_true rfl]
  rw [hT]
  have hB' : ∀ f ∈ Vx.put (T.map (FV.killO lab)) d (.v false [.own lab e q]), f.hasB lab = false := by
    intro f hf
    have : f ∈ T.map (FV.killO lab) ∨ f = .v false [.own lab e q] := by
      cases d with
      | none => exact .inl hf
      | some d => exact List.mem_or_eq_of_mem_set hf
    rcases this with h1 | rfl
    · rw [List.mem_map] at h1
      obtain ⟨f0, h0, rfl⟩ := h1
      rw [List.all_eq_true] at hB
      exact hasB_kill (by simpa using hB f0 h0)
    · rfl
  exact
   { defers := h.defers, size := h.size.trans (by simp), os := h.os, tape := h.tape, output := h.output, hsize := h.hsize, kept := h.kept, mok := h.mok,
     inj := fun l l' g h1 h2 => h.inj l l' g (by split at h1 <;> first | cases h1 | exact h1) (by split at h2 <;> first | cases h2 | exact h2)
     rng := fun l g h1 => h.rng l g (by split at h1 <;> first | cases h1 | exact h1)
     rel := fun i f hf => by
       rw [List.getElem?_map] at hf
       obtain ⟨f0, hf0, rfl⟩ := Option.map_eq_some_iff.1 hf
       obtain ⟨c, hc, hr⟩ := h.rel i f0 hf0
       exact ⟨c, hc, unO_R h (fun _ => rfl) (hB' f0 (List.mem_of_getElem? hf0)) hr⟩ }

/-- Some temporaries are forgotten. -/
def Fgt (T T' : List FV) : Prop := T.length = T'.length ∧ ∀ (i : Nat) (f : FV), T'[i]? = some f → f = FV.any ∨ T[i]? = some f
theorem Fgt.refl (T : List FV) : Fgt T T := ⟨rfl, fun _ _ h => .inr h⟩
theorem Sim.forget {F : Fr} {β : BM} {T T' : List FV} {a : Act} {w : World} (h : Sim F β T a w) (hf : Fgt T T') : Sim F β T' a w :=
 {h with
  size := h.size.trans hf.1
  rel := fun i f hi => by
   rcases hf.2 i f hi with rfl | h2
   ·have hlt : i < a.tmps.size := by rw [h.size, hf.1]; exact (List.getElem?_eq_some_iff.1 hi).1
    exact ⟨a.tmps[i], Array.getElem?_eq_getElem hlt, True.intro⟩
   ·exact h.rel i f h2 }
end Go.Vx
end
section
/- Vx, part 9c: calls that write their arguments' arrays. -/
namespace Go.Vx
open Go.RowKit

section
variable {F : Fr} {β β' : BM} {T : List FV} {a : Act} {w w' : World} {o : Oper} {Γ : Tab} {ei : TypeId} {Q : Exit → Act → World → Prop} {K : Act → World → Prop}

theorem fr_leaf {N : Nat → Option Nat} {j : Nat} {x : Lf} {y : PL} {v : Value} {ys : List PL} {cs : List Value} (hy : frL ei x = some y) (hN : ∀ l e q, x = .own l e q → v ≠ .slice none 0 0 → N j = β l) (h : RLf F β w x v)
  (hr : FrLs w ei N (j + 1) ys cs) : FrLs w ei N j (y :: ys) (v :: cs) := by
 cases x with
 | undef => cases hy
 | nil =>
  cases hy
  unfold RLf at h
  exact ⟨.inl ⟨h, rfl⟩, hr⟩
 | p x =>
  unfold frL at hy
  dsimp only at hy
  split at hy
  ·cases hy
  ·rename_i hx
   cases hy
   cases y <;> first | exact ⟨h, hr⟩ | cases hx
 | own l e x =>
  cases x <;> try (cases hy; done)
  rename_i q
  unfold frL at hy
  dsimp only at hy
  split at hy
  ·rename_i he
   have he : e = ei := Nat.eq_of_beq_eq_true he
   subst he
   cases hy
   refine ⟨?_, hr⟩
   obtain ⟨_, h⟩ := h
   rcases h with ⟨hv, h0⟩ | ⟨g, c, cur, hv, hb, hh, h1, h2, h3, h4⟩
   ·exact .inl ⟨hv, by simpa [PL.len] using h0⟩
   ·exact .inr ⟨g, c, cur, hv, (hN l e _ rfl (by rw [hv]; intro h; cases h)).trans hb, hh, h1, h2, by simpa [PL.wd] using h3, h4⟩
  ·cases hy
 | deep l e k x => cases hy
 | kid l e n x => cases hy
theorem fr_leaves {N : Nat → Option Nat} : ∀ {xs : List Lf} {ys : List PL} {cs : List Value} {j : Nat}, mapO (frL ei) xs = some ys → (∀ i l e q c, xs[i]? = some (.own l e q) → cs[i]? = some c → c ≠ .slice none 0 0 → N (j + i) = β l) → All2 (RLf F β w) xs cs → FrLs w ei N j ys cs
 | [], ys, [], _, he, _, _ => by cases he; exact True.intro
 | x :: xs, ys, c :: cs, j, he, hN, h => by
  unfold mapO at he
  split at he
  ·rename_i y ys' hy hys
   cases he
   refine fr_leaf hy (fun l e q hx hc => hN 0 l e q c (by rw [hx]; rfl) rfl hc) h.1 (fr_leaves hys (fun i l e q c' hx hc' hne => ?_) h.2)
   rw [show j + 1 + i = j + (i + 1) by omega]
   exact hN (i + 1) l e q c' (by simpa using hx) (by simpa using hc') hne
  ·cases he
 | [], _, _ :: _, _, _, _, h => h.elim
 | _ :: _, _, [], _, _, _, h => h.elim
theorem mapO_len {α γ : Type} {f : α → Option γ} : ∀ {xs : List α} {ys : List γ}, mapO f xs = some ys → ys.length = xs.length
 | [], ys, h => by cases h; rfl
 | x :: xs, ys, h => by
  unfold mapO at h
  split at h
  ·rename_i y ys' hy hys
   cases h
   simp [mapO_len hys]
  ·cases h
theorem fr_val {N : Nat → Option Nat} {q : Bool × List Lf} {p : PV} {v : Value} {j : Nat} (he : resV (frL ei) q = some p) (hN : ∀ i l e x c, q.2[i]? = some (.own l e x) → v.cells.toList[i]? = some c → c ≠ .slice none 0 0 → N (j + i) = β l) (h : RVal F β w q.1 q.2 v) :
  FrPV w ei N j p v ∧ p.2.length = q.2.length := by
 obtain ⟨b, xs⟩ := q
 unfold resV at he
 dsimp only at he h hN
 split at he
 ·rename_i ys hys
  cases he
  refine ⟨?_, mapO_len hys⟩
  cases b with
  | true => obtain ⟨cs, rfl, h⟩ := h; exact ⟨cs, rfl, fr_leaves hys (by simpa [Value.cells] using hN) h⟩
  | false =>
   obtain ⟨x, rfl, h⟩ := h
   rw [cells_one (R_one h)] at hN
   have := fr_leaves (cs := [v]) hys hN ⟨h, True.intro⟩
   unfold mapO at hys
   split at hys
   ·rename_i y ys' hy hys'
    cases hys
    cases hys'
    exact ⟨y, rfl, this⟩
   ·cases hys
 ·cases he
theorem fr_vals {N : Nat → Option Nat} : ∀ {qs : List (Bool × List Lf)} {ps : List PV} {cs : List Value} {j : Nat}, mapO (resV (frL ei)) qs = some ps → (∀ i l e x c, (qs.flatMap (·.2))[i]? = some (.own l e x) → (cellsOf cs)[i]? = some c → c ≠ .slice none 0 0 → N (j + i) = β l) →
  All2 (fun (q : Bool × List Lf) c => RVal F β w q.1 q.2 c) qs cs → FrPVs w ei N j ps cs
 | [], ps, [], _, he, _, _ => by cases he; exact True.intro
 | q :: qs, ps, c :: cs, j, he, hN, h => by
  unfold mapO at he
  split at he
  ·rename_i y ys' hy hys
   cases he
   have hl := (cells_of_val h.1).length
   obtain ⟨h1, h2⟩ := fr_val (β := β) hy (fun i l e x c' hx hc' hne => hN i l e x c' (by
    rw [List.flatMap_cons, List.getElem?_append_left (List.getElem?_eq_some_iff.1 hx).1]
    exact hx) (by
    unfold cellsOf
    rw [List.flatMap_cons, List.getElem?_append_left (List.getElem?_eq_some_iff.1 hc').1]
    exact hc') hne) h.1
   refine ⟨h1, fr_vals hys (fun i l e x c' hx hc' hne => ?_) h.2⟩
   rw [h2, Nat.add_assoc]
   refine hN _ l e x c' ?_ ?_ hne
   ·rw [List.flatMap_cons, List.getElem?_append_right (by omega)]
    simpa using hx
   ·unfold cellsOf
    rw [List.flatMap_cons, List.getElem?_append_right (by omega), hl, Nat.add_sub_cancel_left]
    exact hc'
  ·cases he
 | [], _, _ :: _, _, _, _, h => h.elim
 | _ :: _, _, [], _, _, _, h => h.elim
theorem labNodup_get : ∀ {xs : List Lf}, labNodup (labsOf xs) = true → ∀ {i j : Nat} {l l' : Lab} {e e' : TypeId} {x x' : PL}, xs[i]? = some (.own l e x) → xs[j]? = some (.own l' e' x') → l = l' → i = j
 | [], _, i, _, _, _, _, _, _, _, hi, _, _ => by simp at hi
 | y :: ys, h, i, j, l, l', e, e', x, x', hi, hj, hll => by
  have mem : ∀ {ys : List Lf} {i : Nat} {l : Lab} {e : TypeId} {x : PL}, ys[i]? = some (.own l e x) → l ∈ labsOf ys := by
   intro ys
   induction ys with
   | nil => intro i l e x h; simp at h
   | cons y ys ih =>
    intro i l e x h
    cases i with
    | zero => simp at h; subst h; exact List.mem_cons_self
    | succ i =>
     have := ih (i := i) (by simpa using h)
     cases y <;> first | exact this | exact List.mem_cons_of_mem _ this
  have hrest : labNodup (labsOf ys) = true := by
   cases y <;> first | exact h | skip
   unfold labsOf labNodup at h
   rw [Bool.and_eq_true] at h
   exact h.2
  cases i with
  | zero =>
   cases j with
   | zero => rfl
   | succ j =>
    exfalso
    simp at hi
    subst hi
    unfold labsOf labNodup at h
    rw [Bool.and_eq_true, List.all_eq_true] at h
    have := h.1 l' (mem (i := j) (by simpa using hj))
    simp [hll] at this
  | succ i =>
   cases j with
   | zero =>
    exfalso
    simp at hj
    subst hj
    unfold labsOf labNodup at h
    rw [Bool.and_eq_true, List.all_eq_true] at h
    have := h.1 l (mem (i := i) (by simpa using hi))
    simp [hll] at this
   | succ j => exact congrArg (· + 1) (labNodup_get hrest (i := i) (j := j) (by simpa using hi) (by simpa using hj) hll)


theorem hitBy_spec {x : Lf} (hx : (∃ l e k q, x = .deep l e k q) ∨ ∃ l e n q, x = .kid l e n q) : ∀ {ls : List Lab}, hitBy ls x = false → ∀ l ∈ ls, x.has l = false
 | [], _, l, h => by cases h
 | a :: ls, h, l, hl => by
  have h2 : x.has a = false ∧ hitBy ls x = false := by
   rcases hx with ⟨l', e, k, q, rfl⟩ | ⟨l', e, n, q, rfl⟩
   ·unfold hitBy at h; rw [Bool.or_eq_false_iff] at h; exact h
   ·unfold hitBy at h; rw [Bool.or_eq_false_iff] at h; exact h
  rcases List.mem_cons.1 hl with rfl | hl
  ·exact h2.1
  ·exact hitBy_spec hx h2.2 l hl
theorem safeAs_cases {as : List Lf} {x : Lf} (hx : (∃ l e k q, x = .deep l e k q) ∨ ∃ l e n q, x = .kid l e n q) : (safeAs as x = x ∧ ∀ l ∈ labsOf as, x.has l = false) ∨ safeAs as x = .undef := by
 unfold safeAs
 cases h : hitBy (labsOf as) x with
 | true => exact .inr rfl
 | false => exact .inl ⟨rfl, hitBy_spec hx h⟩
/-- What an argument's cell is. -/
def FrC (w : World) (ei : TypeId) (N : Nat → Option Nat) (j : Nat) (x : PL) (v : Value) : Prop := match x with
 | .ints l => FrA w ei N j l v
 | .arr k l => DeepAt w ei (N j) (fun n => N (j + 1000 * (n + 1))) k l v
 | x => PL.R w (fun _ => False) x v
theorem FrLs_get {N : Nat → Option Nat} : ∀ {xs : List PL} {j : Nat} {cs : List Value}, FrLs w ei N j xs cs → ∀ (i : Nat) (x : PL) (c : Value), xs[i]? = some x → cs[i]? = some c → FrC w ei N (j + i) x c
 | [], _, _, _, i, x, c, hx, _ => by simp at hx
 | x :: xs, j, [], h, _, _, _, _, hc => by simp at hc
 | x :: xs, j, c :: cs, h, i, y, d, hx, hc => by
  have h2 : FrC w ei N j x c ∧ FrLs w ei N (j + 1) xs cs := by
   cases x with
   | _ => exact h
  cases i with
  | zero =>
   simp at hx hc
   subst hx; subst hc
   exact h2.1
  | succ i =>
   have := FrLs_get h2.2 i y d (by simpa using hx) (by simpa using hc)
   rwa [show j + (i + 1) = j + 1 + i by omega]
theorem FrPV_get {N : Nat → Option Nat} {q : PV} {j : Nat} {v : Value} (h : FrPV w ei N j q v) (i : Nat) (x : PL) (c : Value) (hx : q.2[i]? = some x) (hc : v.cells.toList[i]? = some c) : FrC w ei N (j + i) x c := by
 obtain ⟨b, xs⟩ := q
 cases b with
 | true => obtain ⟨cs, rfl, h⟩ := h; exact FrLs_get h i x c hx (by simpa [Value.cells] using hc)
 | false =>
  obtain ⟨y, rfl, h⟩ := h
  rw [cells_one (FrL_one h)] at hc
  exact FrLs_get h i x c hx hc
theorem FrPVs_get {N : Nat → Option Nat} : ∀ {qs : List PV} {j : Nat} {cs : List Value}, FrPVs w ei N j qs cs → ∀ (i : Nat) (x : PL) (c : Value), (qs.flatMap (·.2))[i]? = some x → (cellsOf cs)[i]? = some c → FrC w ei N (j + i) x c
 | [], _, _, _, i, x, c, hx, _ => by simp at hx
 | q :: qs, j, [], h, _, _, _, _, hc => by simp [cellsOf] at hc
 | q :: qs, j, v :: cs, h, i, y, d, hx, hc => by
  have hl := FrPV_len h.1
  unfold cellsOf at hc
  rw [List.flatMap_cons] at hx hc
  by_cases hi : i < q.2.length
  ·rw [List.getElem?_append_left hi] at hx
   rw [List.getElem?_append_left (by omega)] at hc
   exact FrPV_get h.1 i y d hx hc
  ·rw [List.getElem?_append_right (by omega)] at hx hc
   rw [← hl] at hc
   have := FrPVs_get h.2 (i - q.2.length) y d hx hc
   rwa [show j + q.2.length + (i - q.2.length) = j + i by omega] at this
theorem FrPVs_len {N : Nat → Option Nat} : ∀ {qs : List PV} {j : Nat} {cs : List Value}, FrPVs w ei N j qs cs → (qs.flatMap (·.2)).length = (cellsOf cs).length
 | [], _, [], _ => rfl
 | [], _, _ :: _, h => by simp [FrPVs] at h
 | q :: qs, j, [], h => by simp [FrPVs] at h
 | q :: qs, j, v :: cs, h => by
  have h1 := FrPV_len h.1
  have h2 := FrPVs_len h.2
  unfold cellsOf at h2 ⊢
  rw [List.flatMap_cons, List.flatMap_cons, List.length_append, List.length_append, h1, h2]

theorem lookC_some : ∀ {as : List Lf} {ys : List PL} {l : Lab} {y : PL}, lookC as ys l = some y → ∃ (j : Nat) (e : TypeId) (x : PL), as[j]? = some (.own l e x) ∧ ys[j]? = some y
 | [], _, _, _, h => by unfold lookC at h; simp at h
 | x :: xs, [], l, y, h => by cases x <;> (unfold lookC at h; simp at h)
 | x :: xs, z :: ys, l, y, h => by
  have up : lookC xs ys l = some y → ∃ (j : Nat) (e : TypeId) (x' : PL), (x :: xs)[j]? = some (.own l e x') ∧ (z :: ys)[j]? = some y := fun h => by
   obtain ⟨j, e, x', h1, h2⟩ := lookC_some h
   exact ⟨j + 1, e, x', by simpa using h1, by simpa using h2⟩
  cases x with
  | own l2 e2 q =>
   unfold lookC at h
   split at h
   ·rename_i hl
    have hl : l2 = l := of_decide_eq_true hl
    subst hl
    cases h
    exact ⟨0, e2, q, rfl, rfl⟩
   ·exact up h
  | _ => exact up h
theorem lookC_none : ∀ {as : List Lf} {ys : List PL} {l : Lab}, lookC as ys l = none → ∀ (j : Nat) (e : TypeId) (x : PL), as[j]? = some (.own l e x) → ys[j]? = none
 | [], _, _, _, j, e, x, hj => by simp at hj
 | x :: xs, [], l, h, j, _, _, _ => by simp
 | x :: xs, z :: ys, l, h, j, e, q, hj => by
  cases j with
  | zero =>
   simp at hj
   subst hj
   unfold lookC at h
   rw [decide_eq_true rfl] at h
   cases h
  | succ j =>
   have h2 : lookC xs ys l = none := by
    cases x with
    | own l2 e2 q2 =>
     unfold lookC at h
     split at h
     ·cases h
     ·exact h
    | _ => exact h
   simpa using lookC_none h2 j e q (by simpa using hj)

theorem lenLs_spec {as : List Lf} {ys : List PL} : ∀ {zs : List Lf} {c : Prop}, lenLs as ys zs c → (∀ l e q y, Lf.own l e (.ints q) ∈ zs → lookC as ys l = some y → q.length = y.len) ∧ c
 | [], c, h => ⟨(fun _ _ _ _ h => by cases h), h⟩
 | z :: zs, c, h => by
  unfold lenLs at h
  have h2 : (∀ l e q y, Lf.own l e (.ints q) = z → lookC as ys l = some y → q.length = y.len) ∧ lenLs as ys zs c := by
   unfold lenL at h
   split at h
   ·split at h
    ·rename_i y0 hy0
     refine ⟨fun l' e' q' y' he hy' => ?_, h.2⟩
     cases he
     rw [hy0] at hy'
     cases hy'
     exact h.1
    ·exact h.elim
    ·rename_i hy0
     refine ⟨fun l' e' q' y' he hy' => ?_, h⟩
     cases he
     rw [hy0] at hy'
     cases hy'
   ·rename_i hne
    exact ⟨fun l' e' q' y' he hy' => (hne l' e' q' he.symm).elim, h⟩
  obtain ⟨h3, h4⟩ := lenLs_spec h2.2
  refine ⟨fun l e q y hm hy => ?_, h4⟩
  rcases List.mem_cons.1 hm with hm | hm
  ·exact h2.1 l e q y hm hy
  ·exact h3 l e q y hm hy
theorem lenT_spec {as : List Lf} {ys : List PL} : ∀ {T : List FV} {c : Prop}, lenT as ys T c → (∀ f ∈ T, ∀ l e q y, Lf.own l e (.ints q) ∈ f.lvs → lookC as ys l = some y → q.length = y.len) ∧ c
 | [], c, h => ⟨(fun _ h => by cases h), h⟩
 | f :: fs, c, h => by
  unfold lenT at h
  obtain ⟨h1, h2⟩ := lenLs_spec h
  obtain ⟨h3, h4⟩ := lenT_spec h2
  refine ⟨fun g hg => ?_, h4⟩
  rcases List.mem_cons.1 hg with rfl | hg
  ·exact h1
  ·exact h3 g hg

theorem args_R : ∀ {fs : List FV} {vs : List Value} {avs : List (Bool × List Lf)}, mapO argV fs = some avs → All2 (RFV F β w) fs vs → All2 (fun (q : Bool × List Lf) c => RVal F β w q.1 q.2 c) avs vs
 | [], [], avs, h, _ => by cases h; exact True.intro
 | f :: fs, v :: vs, avs, h, hr => by
  unfold mapO at h
  split at h
  ·rename_i y ys hy hys
   cases h
   cases f <;> cases hy
   exact ⟨hr.1, args_R hys hr.2⟩
  ·cases h
 | [], _ :: _, _, _, h => h.elim
 | _ :: _, [], _, _, h => h.elim

/-- The blocks of the arguments' arrays. -/
def N1of (β : BM) (as : List Lf) (cs : List Value) (j : Nat) : Option Nat := match as[j]?, cs[j]? with
 | some (.own l _ _), some (.slice (some _) _ _) => β l
 | _, _ => none
theorem N1of_some {as : List Lf} {cs : List Value} {j b : Nat} (h : N1of β as cs j = some b) : ∃ l e x, as[j]? = some (.own l e x) ∧ β l = some b := by
 unfold N1of at h
 split at h
 ·rename_i l e x _ _ _ h1 h2
  exact ⟨l, e, x, h1, h⟩
 ·cases h

theorem mem_labsOf : ∀ {as : List Lf} {j : Nat} {l : Lab} {e : TypeId} {x : PL}, as[j]? = some (.own l e x) → l ∈ labsOf as
 | [], _, _, _, _, h => by simp at h
 | y :: as, j, l, e, x, h => by
  cases j with
  | zero => simp at h; subst h; exact List.mem_cons_self
  | succ j =>
   have := mem_labsOf (as := as) (j := j) (by simpa using h)
   cases y <;> first | exact this | exact List.mem_cons_of_mem _ this
theorem mapO_get {α γ : Type} {f : α → Option γ} : ∀ {xs : List α} {ys : List γ} {j : Nat} {x : α}, mapO f xs = some ys → xs[j]? = some x → ∃ y, ys[j]? = some y ∧ f x = some y
 | [], _, _, _, _, hj => by simp at hj
 | x :: xs, ys, j, z, h, hj => by
  unfold mapO at h
  split at h
  ·rename_i y ys' hy hys
   cases h
   cases j with
   | zero => simp at hj; subst hj; exact ⟨y, rfl, hy⟩
   | succ j => simpa using mapO_get hys (j := j) (by simpa using hj)
  ·cases h
theorem resV_some {f : Lf → Option PL} {q : Bool × List Lf} {p : PV} (h : resV f q = some p) : mapO f q.2 = some p.2 := by
 unfold resV at h
 split at h
 ·rename_i zs hzs
  cases h
  exact hzs
 ·cases h
theorem mapV_len {f : Lf → Option PL} : ∀ {avs : List (Bool × List Lf)} {ps : List PV}, mapO (resV f) avs = some ps → (ps.flatMap (·.2)).length = (avs.flatMap (·.2)).length
 | [], _, h => by cases h; rfl
 | q :: avs, ps, h => by
  unfold mapO at h
  split at h
  ·rename_i y ys' hy hys
   cases h
   rw [List.flatMap_cons, List.flatMap_cons, List.length_append, List.length_append, mapV_len hys, mapO_len (resV_some hy)]
  ·cases h
theorem mapV_get {f : Lf → Option PL} : ∀ {avs : List (Bool × List Lf)} {ps : List PV} {j : Nat} {x : Lf}, mapO (resV f) avs = some ps → (avs.flatMap (·.2))[j]? = some x → ∃ p, (ps.flatMap (·.2))[j]? = some p ∧ f x = some p
 | [], _, _, _, _, hj => by simp at hj
 | q :: avs, ps, j, x, h, hj => by
  unfold mapO at h
  split at h
  ·rename_i y ys' hy hys
   cases h
   have hl := mapO_len (resV_some hy)
   rw [List.flatMap_cons] at hj ⊢
   by_cases hjl : j < q.2.length
   ·rw [List.getElem?_append_left hjl] at hj
    rw [List.getElem?_append_left (by omega)]
    exact mapO_get (resV_some hy) hj
   ·rw [List.getElem?_append_right (by omega)] at hj
    rw [List.getElem?_append_right (by omega), hl]
    exact mapV_get hys hj
  ·cases h
theorem cells_all : ∀ {avs : List (Bool × List Lf)} {vs : List Value}, All2 (fun (q : Bool × List Lf) c => RVal F β w q.1 q.2 c) avs vs → All2 (RLf F β w) (avs.flatMap (·.2)) (cellsOf vs)
 | [], [], _ => True.intro
 | q :: avs, v :: vs, h => by
  unfold cellsOf
  rw [List.flatMap_cons, List.flatMap_cons]
  exact (cells_of_val h.1).append (cells_all h.2)
 | [], _ :: _, h => h.elim
 | _ :: _, [], h => h.elim

theorem s_mut (h : Sim F β T a w) {c : Call} {g : FuncId} (ho : o.op = .call c) (hc : c.callee = .value (.func g)) {avs : List (Bool × List Lf)} (hav : mapO argV (c.args.toList.map (opd T)) = some avs)
  {ps : List PV} (hps : mapO (resV (frL ei)) avs = some ps) (hlab : (labNodup (labsOf (avs.flatMap (·.2))) && (labsOf (avs.flatMap (·.2))).all fun l => T.all fun f => !f.hasB l) = true)
  {qs : List PV} {r : MRes} (hden : DenM F.P ei g ps qs r)
  (hlen : ∀ f ∈ T, ∀ l e q y, Lf.own l e (.ints q) ∈ f.lvs → lookC (avs.flatMap (·.2)) (qs.flatMap (·.2)) l = some y → q.length = y.len)
  (hK : ∀ β' c w', Sim F β' (put (T.map (FV.mutF (avs.flatMap (·.2)) (qs.flatMap (·.2)))) o.dst (resFV (avs.flatMap (·.2)) (qs.flatMap (·.2)) r)) (a.put o.dst c) w' → K (a.put o.dst c) w') : o.wp F.P a w K Q := by
 rw [Bool.and_eq_true, List.all_eq_true] at hlab
 obtain ⟨hnd, hbx⟩ := hlab
 obtain ⟨⟨fn, hfn, hname, hb⟩, hcall⟩ := hden
 have hall := args_R hav (ops_R h c.args.toList)
 have hargs : (c.args.toList.map a.eval).toArray = c.args.map a.eval := by
  apply Array.ext'
  simp
 have hrun := run_enter ho hc (g := g) (a := a) rfl hfn hname hb w
 generalize has : avs.flatMap (·.2) = as at *
 generalize hys : qs.flatMap (·.2) = ys at *
 generalize hvs : c.args.toList.map a.eval = vs at *
 have hfr : FrPVs w ei (N1of β as (cellsOf vs)) 0 ps vs := by
  refine fr_vals (β := β) hps (fun i l e x c' hx hc' hne => ?_) hall
  rw [has] at hx
  rw [Nat.zero_add]
  have hsl : ∃ A n cp, c' = .slice (some A) n cp := by
   have hl2 := cells_all hall
   rw [has] at hl2
   obtain ⟨c2, hc2, hr2⟩ := hl2.get i _ hx
   rw [hc'] at hc2
   cases hc2
   obtain ⟨_, ⟨hv, _⟩ | ⟨g2, cp, cur, hv, _⟩⟩ := hr2
   ·exact absurd hv hne
   ·exact ⟨_, _, _, hv⟩
  obtain ⟨A, n, cp, rfl⟩ := hsl
  unfold N1of
  rw [hx, hc']
 have hNlt : ∀ j b, N1of β as (cellsOf vs) j = some b → b < w.heap.size := fun j b hj => by
  obtain ⟨l, _, _, _, hb⟩ := N1of_some hj
  exact (h.rng l b hb).1
 have hNinj : ∀ j j' b, N1of β as (cellsOf vs) j = some b → N1of β as (cellsOf vs) j' = some b → j = j' := fun j j' b hj hj' => by
  obtain ⟨l, e, x, h1, h2⟩ := N1of_some hj
  obtain ⟨l', e', x', h3, h4⟩ := N1of_some hj'
  exact labNodup_get hnd h1 h3 (h.inj _ _ _ h2 h4)
 unfold Oper.wp
 rw [hrun, Oper.upon_enter, ← hargs]
 refine (hcall _ w vs (h.keeps fun k ⟨j, hj⟩ => by obtain ⟨l, _, _, _, hb⟩ := N1of_some hj; exact (h.rng l k hb).2) hNlt hNinj hfr).mono fun e w' hh => ?_
 obtain ⟨v, rfl, ⟨hos, htape, hout, hsize⟩, hkept, hfr', hres⟩ := hh
 have hlas : as.length = (cellsOf vs).length := by rw [← FrPVs_len hfr, ← has, mapV_len hps]
 have hlys : ys.length = (cellsOf vs).length := by rw [← hys]; exact FrPVs_len hfr'
 have hpget : ∀ (j : Nat) (l : Lab) (e : TypeId) (x : PL), as[j]? = some (.own l e x) → ∃ q, x = .ints q ∧ e = ei ∧ ∃ c', (cellsOf vs)[j]? = some c' ∧ FrA w ei (N1of β as (cellsOf vs)) j q c' := by
  intro j l e x hj
  have hlt : j < as.length := (List.getElem?_eq_some_iff.1 hj).1
  have hpj : ∃ p, (ps.flatMap (·.2))[j]? = some p ∧ frL ei (.own l e x) = some p := mapV_get hps (by rw [has]; exact hj)
  obtain ⟨p, hp1, hp2⟩ := hpj
  have hcj : ∃ c', (cellsOf vs)[j]? = some c' := ⟨_, List.getElem?_eq_getElem (by omega)⟩
  obtain ⟨c', hc'⟩ := hcj
  have hfc := FrPVs_get hfr j p c' hp1 hc'
  cases x with
  | ints q =>
   unfold frL at hp2
   dsimp only at hp2
   split at hp2
   ·rename_i he
    have he : e = ei := Nat.eq_of_beq_eq_true he
    cases hp2
    rw [Nat.zero_add] at hfc
    exact ⟨q, rfl, he, c', hc', hfc⟩
   ·cases hp2
  | _ => cases hp2
 have hsame : ∀ b, b < w.heap.size → (∀ (l : Lab) (e : TypeId) (x : PL) (j : Nat), as[j]? = some (.own l e x) → β l ≠ some b) → w'.heap[b]? = w.heap[b]? := fun b hb hn => hkept b hb (fun j hj => by
  obtain ⟨l, e, x, h1, h2⟩ := N1of_some hj
  exact hn l e x j h1 h2)
 have m : Mv F β β w w' := ⟨hsize, fun b hb hlt => ⟨hb, hsame b hlt (fun l e x j _ hl => hb.2 l hl)⟩⟩
 have ls : ∀ {y : Lf} {v : Value}, ((∃ l e k q, y = .deep l e k q) ∨ ∃ l e n q, y = .kid l e n q) → RLf F β w y v → RLf F β w' (safeAs as y) v := by
  intro y v hyk hy
  rcases safeAs_cases (as := as) hyk with ⟨h1, h2⟩ | h1
  ·rw [h1]
   refine hy.move m (fun l3 b hl3 hb3 => ⟨hb3, hsame b (h.rng l3 b hb3).1 (fun l e x j hj hlb => ?_)⟩)
   have e1 : l = l3 := h.inj _ _ _ hlb hb3
   subst e1
   rw [h2 l (mem_labsOf hj)] at hl3
   cases hl3
  ·rw [h1]
   exact R_one hy
 have lf : ∀ {f : FV} (_ : f ∈ T) {y : Lf} {v : Value}, y ∈ f.lvs → RLf F β w y v → RLf F β w' (updCs as ys y) v := by
  intro f hf y v hyf hy
  cases y with
  | own l2 e2 q =>
   unfold updCs
   dsimp only
   cases hl : lookC as ys l2 with
   | none =>
    dsimp only
    refine hy.move m (fun l3 b hl3 hb3 => ⟨hb3, hsame b (h.rng l3 b hb3).1 (fun l e x j hj hlb => ?_)⟩)
    have e1 : l = l3 := h.inj _ _ _ hlb hb3
    have e2 : l2 = l3 := by simpa [Lf.has] using hl3
    subst e1
    subst e2
    have := lookC_none hl j e x hj
    have hlt : j < as.length := (List.getElem?_eq_some_iff.1 hj).1
    rw [List.getElem?_eq_none_iff] at this
    omega
   | some y2 =>
    dsimp only
    split
    ·rename_i q q2
     obtain ⟨j, e3, x3, hj, hyj⟩ := lookC_some hl
     obtain ⟨q3, rfl, rfl, cj, hcj, hfa⟩ := hpget j l2 e3 x3 hj
     have hfa' : FrA w' e3 (N1of β as (cellsOf vs)) j q2 cj := by
      have := FrPVs_get hfr' j (.ints q2) cj (by rw [hys]; exact hyj) hcj
      rw [Nat.zero_add] at this
      exact this
     have hql := hlen f hf l2 e2 q (.ints q2) hyf hl
     simp only [PL.len] at hql
     obtain ⟨⟨_, hpn⟩, hy⟩ := hy
     refine ⟨⟨rfl, hpn⟩, ?_⟩
     rcases hy with ⟨hv, h0⟩ | ⟨g2, c2, cur2, hv, hb2, hh2, j1, j2, j3, j4⟩
     ·exact .inl ⟨hv, by simp only [PL.len] at h0 ⊢; omega⟩
     ·simp only [PL.len, PL.wd] at hv j1 j3 ⊢
      rcases hfa' with ⟨hcn, hq2⟩ | ⟨g3, c3, cur3, hcv, hn3, hh3, i1, i2, i3, i4⟩
      ·refine .inr ⟨g2, c2, cur2, by rw [hv, hql], hb2, ?_, by omega, j2, j3, ?_⟩
       ·rw [hkept g2 (h.rng _ _ hb2).1 ?_]
        ·exact hh2
        ·intro j' hj'
         obtain ⟨l, e, x, h1, h2⟩ := N1of_some hj'
         have e1 : l = l2 := h.inj _ _ _ h2 hb2
         have := labNodup_get hnd h1 hj e1
         subst this
         unfold N1of at hj'
         rw [hj, hcj, hcn] at hj'
         cases hj'
       ·rw [hq2]
        intro i z hz
        simp at hz
      ·have hb3 : β l2 = some g3 := by
        obtain ⟨l, e, x, h1, h2⟩ := N1of_some hn3
        rw [hj] at h1
        cases h1
        exact h2
       rw [hb2] at hb3
       cases hb3
       have hcap : c2 = c3 ∧ e2 = e3 := by
        rcases hfa with ⟨hcn, _⟩ | ⟨g4, c4, cur4, hcv4, hn4, hh4, k1, k2, k3, k4⟩
        ·rw [hcn] at hcv; cases hcv
        ·rw [hcv] at hcv4
         injection hcv4 with u1 u2 u3
         injection u1 with u1
         injection u1 with u1 _ _
         subst u1
         rw [hh2] at hh4
         cases hh4
         exact ⟨by omega, rfl⟩
       obtain ⟨rfl, rfl⟩ := hcap
       exact .inr ⟨g2, c2, cur3, by rw [hv, hql], hb2, hh3, i1, i2, by omega, i4⟩
    ·exact R_one hy
  | deep l2 e2 k2 q => exact ls (.inl ⟨_, _, _, _, rfl⟩) hy
  | kid l2 e2 n2 q => exact ls (.inr ⟨_, _, _, _, rfl⟩) hy
  | _ => exact RLf.move m (fun l3 b hl3 hb3 => by cases hl3) hy
 have hin : ∀ {l : Lab} {e : TypeId} {x : PL} {j : Nat}, as[j]? = some (.own l e x) → ∀ f ∈ T, f.hasB l = false := fun {l e x j} hj f hf => by
  have := hbx l (mem_labsOf hj)
  rw [List.all_eq_true] at this
  simpa using this f hf
 have lk : ∀ {y : Lf} {v : Value}, RLf F β w y v → RLf F β w' (killC as ys y) v := by
  intro y v hy
  cases y with
  | own l2 e2 q =>
   unfold killC
   dsimp only
   cases hl : lookC as ys l2 with
   | none =>
    dsimp only
    refine hy.move m (fun l3 b hl3 hb3 => ⟨hb3, hsame b (h.rng l3 b hb3).1 (fun l e x j hj hlb => ?_)⟩)
    have e1 : l = l3 := h.inj _ _ _ hlb hb3
    have e2 : l2 = l3 := by simpa [Lf.has] using hl3
    subst e1
    subst e2
    have := lookC_none hl j e x hj
    have hlt : j < as.length := (List.getElem?_eq_some_iff.1 hj).1
    rw [List.getElem?_eq_none_iff] at this
    omega
   | some y2 => exact R_one hy
  | deep l2 e2 k2 q => exact ls (.inl ⟨_, _, _, _, rfl⟩) hy
  | kid l2 e2 n2 q => exact ls (.inr ⟨_, _, _, _, rfl⟩) hy
  | _ => exact RLf.move m (fun l3 b hl3 hb3 => by cases hl3) hy
 have klen : ∀ {s : Lf} {x x' : PL}, s.arr? = some x → (killC as ys s).arr? = some x' → x'.len = x.len ∧ x'.wd = x.wd := by
  intro s x x' hs hs'
  cases s with
  | own l2 e2 q =>
   unfold killC at hs'
   dsimp only at hs'
   split at hs'
   ·cases hs'
   ·rw [hs] at hs'; cases hs'; exact ⟨rfl, rfl⟩
  | deep l2 e2 k2 q =>
   rcases safeAs_cases (as := as) (x := .deep l2 e2 k2 q) (.inl ⟨_, _, _, _, rfl⟩) with ⟨h1, _⟩ | h1
   ·have e : some x = some x' := hs.symm.trans ((congrArg Lf.arr? h1).symm.trans hs'); cases e; exact ⟨rfl, rfl⟩
   ·have e : none = some x' := (congrArg Lf.arr? h1).symm.trans hs'; cases e
  | kid l2 e2 n2 q => cases hs
  | _ => have e : some x = some x' := hs.symm.trans hs'; cases e; exact ⟨rfl, rfl⟩
 have ulen : ∀ {f0 : FV} (_ : f0 ∈ T) {s : Lf} {x x' : PL}, s ∈ f0.lvs → s.arr? = some x → (updCs as ys s).arr? = some x' → x'.len = x.len ∧ x'.wd = x.wd := by
  intro f0 hfm s x x' hsm hs hs'
  cases s with
  | own l2 e2 q =>
   unfold updCs at hs'
   dsimp only at hs'
   split at hs'
   ·rename_i y2 hy2
    split at hs'
    ·cases hs; cases hs'
     have := hlen f0 hfm l2 e2 _ _ hsm hy2
     exact ⟨this.symm, rfl⟩
    ·cases hs'
   ·rw [hs] at hs'; cases hs'; exact ⟨rfl, rfl⟩
  | deep l2 e2 k2 q =>
   rcases safeAs_cases (as := as) (x := .deep l2 e2 k2 q) (.inl ⟨_, _, _, _, rfl⟩) with ⟨h1, _⟩ | h1
   ·have e : some x = some x' := hs.symm.trans ((congrArg Lf.arr? h1).symm.trans hs'); cases e; exact ⟨rfl, rfl⟩
   ·have e : none = some x' := (congrArg Lf.arr? h1).symm.trans hs'; cases e
  | kid l2 e2 n2 q => cases hs
  | _ => have e : some x = some x' := hs.symm.trans hs'; cases e; exact ⟨rfl, rfl⟩
 have hS : Sim F β (T.map (FV.mutF as ys)) a w' :=
  {defers := h.defers, size := h.size.trans (by simp), inj := h.inj, rng := fun l b hl => ⟨Nat.lt_of_lt_of_le (h.rng l b hl).1 hsize, (h.rng l b hl).2⟩, os := hos.trans h.os, tape := htape.trans h.tape, output := hout.trans h.output,
   hsize := Nat.le_trans h.hsize hsize, mok := h.mok
   kept := fun k h1 h2 => (hkept k (Nat.lt_of_lt_of_le h1 h.hsize) (fun j hj => by
    obtain ⟨l, e, x, h3, h4⟩ := N1of_some hj
    rcases (h.rng l k h4).2 with h5 | h5
    ·omega
    ·exact h2 h5)).trans (h.kept k h1 h2)
   rel := fun i f hf => by
    rw [List.getElem?_map] at hf
    obtain ⟨f0, hf0, rfl⟩ := Option.map_eq_some_iff.1 hf
    obtain ⟨c0, hc0, hr0⟩ := h.rel i f0 hf0
    have hfm := List.mem_of_getElem? hf0
    refine ⟨c0, hc0, ?_⟩
    have kill : (∀ l, f0.hasB l = false) → RFV F β w' (f0.mapL (killC as ys)) c0 := fun hb0 =>
     mapL_R (fun _ hy => lk hy) (fun _ hs hs' => klen hs hs') (fun l hfe => by rw [hb0 l] at hfe; cases hfe) hr0
    cases f0 with
    | any => exact True.intro
    | v b xs =>
     cases b with
     | true => exact kill (fun _ => rfl)
     | false => exact mapL_R (f := updCs as ys) (fv := .v false xs) (fun hy hr => lf hfm hy hr) (fun hsm hs hs' => ulen hfm hsm hs hs') (fun l hfe => by cases hfe) hr0
    | tup vs => exact kill (fun _ => rfl)
    | elt s j off => exact kill (fun _ => rfl)
    | sub s j off => exact kill (fun _ => rfl)
    | lit l2 k2 cs2 =>
     refine mapL_R (f := killC as ys) (fv := .lit l2 k2 cs2) (fun _ hy => lk hy) (fun _ hs hs' => klen hs hs') (fun l hfe g0 cc ty hb0 hh0 => ⟨hb0, ?_⟩) hr0
     have hfe : l2 = l := by simpa [FV.hasB] using hfe
     subst hfe
     rw [hsame g0 (h.rng l2 g0 hb0).1 (fun l' e x j hj hl => ?_)]
     ·exact hh0
     ·have e1 : l' = l2 := h.inj _ _ _ hl hb0
      subst e1
      have := hin hj _ hfm
      simp [FV.hasB] at this
    | box l2 cs2 off2 =>
     refine mapL_R (f := updCs as ys) (fv := .box l2 cs2 off2) (fun hy hr => lf hfm hy hr) (fun hsm hs hs' => ulen hfm hsm hs hs') (fun l hfe g0 cc ty hb0 hh0 => ⟨hb0, ?_⟩) hr0
     have hfe : l2 = l := by simpa [FV.hasB] using hfe
     subst hfe
     rw [hsame g0 (h.rng l2 g0 hb0).1 (fun l' e x j hj hl => ?_)]
     ·exact hh0
     ·have e1 : l' = l2 := h.inj _ _ _ hl hb0
      subst e1
      have := hin hj _ hfm
      simp [FV.hasB] at this }
 have hcl := cells_all hall
 rw [has] at hcl
 have hone : ∀ (x : RL) (v : Value), RRL (cellsOf vs) x v → RLf F β w' (resL as ys x) v := by
  intro x v hx
  cases x with
  | p x =>
   unfold resL
   dsimp only
   cases hA : x.isA with
   | true => exact PL.R.one (hx w' (fun _ => True))
   | false => exact hx w' _
  | nil => exact hx
  | arg j =>
   unfold resL
   dsimp only
   have hx : (cellsOf vs)[j]? = some v := hx
   split
   ·rename_i l e x q hj hyj
    obtain ⟨q3, rfl, rfl, cj, hcj, hfa⟩ := hpget j l e x hj
    rw [hx] at hcj
    cases hcj
    have hfa' : FrA w' e (N1of β as (cellsOf vs)) j q v := by
     have := FrPVs_get hfr' j (.ints q) v (by rw [hys]; exact hyj) hx
     rw [Nat.zero_add] at this
     exact this
    obtain ⟨v2, hv2, hr2⟩ := hcl.get j _ hj
    rw [hx] at hv2
    cases hv2
    refine ⟨⟨rfl, hr2.1.2⟩, ?_⟩
    rcases hfa' with ⟨hcn, hq2⟩ | ⟨g3, c3, cur3, hcv, hn3, hh3, i1, i2, i3, i4⟩
    ·exact .inl ⟨hcn, by rw [hq2]; rfl⟩
    ·have hb3 : β l = some g3 := by
      obtain ⟨l', e', x', h1, h2⟩ := N1of_some hn3
      rw [hj] at h1
      cases h1
      exact h2
     exact .inr ⟨g3, c3, cur3, hcv, hb3, hh3, i1, i2, by simpa [PL.wd] using i3, i4⟩
   ·have hjl : j < as.length := by rw [hlas]; exact (List.getElem?_eq_some_iff.1 hx).1
    obtain ⟨v2, hv2, hr2⟩ := hcl.get j _ (List.getElem?_eq_getElem hjl)
    rw [hx] at hv2
    cases hv2
    exact R_one hr2
 have hones : ∀ {xs : List RL} {us : List Value}, All2 (RRL (cellsOf vs)) xs us → All2 (RLf F β w') (xs.map (resL as ys)) us := by
  intro xs
  induction xs with
  | nil => intro us h; cases us with
   | nil => exact True.intro
   | cons u us => exact h.elim
  | cons x xs ih => intro us h; cases us with
   | nil => exact h.elim
   | cons u us => exact ⟨hone _ _ h.1, ih h.2⟩
 have hval : ∀ {q : Bool × List RL} {v : Value}, RRV (cellsOf vs) q v → RVal F β w' q.1 (q.2.map (resL as ys)) v := by
  intro q v hq
  obtain ⟨b, xs⟩ := q
  cases b with
  | true => obtain ⟨us, rfl, h⟩ := hq; exact ⟨us, rfl, hones h⟩
  | false => obtain ⟨x, hx, h⟩ := hq; have hx : xs = [x] := hx; subst hx; exact ⟨_, rfl, hone _ _ h⟩
 refine hK β v w' (hS.put o.dst ?_)
 cases r with
 | one q => exact hval hres
 | tup qs' =>
  obtain ⟨us, rfl, h⟩ := hres
  refine ⟨us, rfl, ?_⟩
  have go : ∀ {qs' : List (Bool × List RL)} {us : List Value}, All2 (RRV (cellsOf vs)) qs' us → All2 (fun (q : Bool × List Lf) c => RVal F β w' q.1 q.2 c) (qs'.map fun r => (r.1, r.2.map (resL as ys))) us := by
   intro qs'
   induction qs' with
   | nil => intro us h; cases us with
    | nil => exact True.intro
    | cons u us => exact h.elim
   | cons x xs ih => intro us h; cases us with
    | nil => exact h.elim
    | cons u us => exact ⟨hval h.1, ih h.2⟩
  exact go h
end
end Go.Vx
end
section
/- Vx, part 9d: slices of structs that own their inner slices: what is absorbed. -/
namespace Go.Vx
open Go.RowKit

theorem clash_kid {l l' a : Lab} (h : isKid l a = true) (h' : isKid l' a = true) : clash l l' = true := by
 unfold isKid at h h'
 unfold clash
 simp only [Bool.and_eq_true, decide_eq_true_iff] at h h' ⊢
 omega
theorem clash_of_kid {l l' : Lab} (h : isKid l' l = true) : clash l l' = true := by
 unfold isKid at h
 unfold clash
 simp only [Bool.and_eq_true, decide_eq_true_iff] at h ⊢
 omega
theorem hitK_has {lab : Lab} {ls : List Lab} {x : Lf} (h : hitK lab ls x = false) {l : Lab} (hl : x.has l = true) : hitB lab ls l = false := by
 unfold hitB
 cases x with
 | own l' e y =>
  have e : l' = l := by simpa [Lf.has] using hl
  subst e
  exact h
 | deep l' e k y =>
  unfold hitK at h
  rw [Bool.or_eq_false_iff] at h
  obtain ⟨h1, h2⟩ := h
  rw [List.any_eq_false] at h2
  unfold Lf.has at hl
  rw [Bool.or_eq_true, decide_eq_true_iff] at hl
  rw [Bool.or_eq_false_iff, List.any_eq_false]
  refine ⟨fun a ha => ?_, ?_⟩
  ·have := h2 a ha
   rw [Bool.or_eq_true, decide_eq_true_iff, not_or] at this
   rw [decide_eq_true_iff]
   intro e
   subst e
   rcases hl with hl | hl
   ·exact this.1 hl
   ·exact this.2 hl
  ·cases hk : isKid lab l with
   | false => rfl
   | true =>
    rcases hl with hl | hl
    ·subst hl; rw [clash_of_kid hk] at h1; cases h1
    ·rw [clash_kid hl hk] at h1; cases h1
 | kid l' e n y =>
  unfold hitK at h
  rw [Bool.or_eq_false_iff] at h
  obtain ⟨h1, h2⟩ := h
  rw [List.any_eq_false] at h2
  have e : kidL l' n = l := by simpa [Lf.has] using hl
  subst e
  rw [Bool.or_eq_false_iff, List.any_eq_false]
  refine ⟨h2, ?_⟩
  cases hk : isKid lab (kidL l' n) with
  | false => rfl
  | true => rw [clash_kid isKid_kidL hk] at h1; cases h1
 | _ => cases hl

section
variable {F : Fr} {β β' : BM} {T : List FV} {a : Act} {w w' : World} {o : Oper} {Γ : Tab} {ei : TypeId} {Q : Exit → Act → World → Prop} {K : Act → World → Prop}

theorem killK_R (m : Mv F β β' w w') {lab : Lab} {ls : List Lab} (hk : ∀ l g, hitB lab ls l = false → β l = some g → β' l = some g ∧ w'.heap[g]? = w.heap[g]?) {x : Lf} {v : Value} (h : RLf F β w x v) : RLf F β' w' (killK lab ls x) v := by
 unfold killK
 cases hh : hitK lab ls x with
 | true => exact R_one h
 | false => exact h.move m (fun l g hl hb => hk l g (hitK_has hh hl) hb)
theorem killK_arr {lab : Lab} {ls : List Lab} {s : Lf} {x x' : PL} (h : s.arr? = some x) (h' : (killK lab ls s).arr? = some x') : x'.len = x.len ∧ x'.wd = x.wd := by
 unfold killK at h'
 cases hh : hitK lab ls s with
 | true => rw [hh] at h'; cases h'
 | false => rw [hh] at h'; rw [h] at h'; cases h'; exact ⟨rfl, rfl⟩
theorem mapK_R {g : Lf → Lf} {lab : Lab} {ls : List Lab} {f : FV} (lf : ∀ {y : Lf} {v : Value}, y ∈ f.lvs2 → RLf F β w y v → RLf F β' w' (g y) v) (hlen : ∀ {s : Lf} {x x' : PL}, s ∈ f.lvs2 → s.arr? = some x → (g s).arr? = some x' → x'.len = x.len ∧ x'.wd = x.wd)
    (hk : ∀ l b, hitB lab ls l = false → β l = some b → β' l = some b ∧ w'.heap[b]? = w.heap[b]?) {v : Value} (h : RFV F β w f v) : RFV F β' w' (f.mapK lab ls g) v := by
  have plain : (∀ l, f.hasB l = true → hitB lab ls l = false) → RFV F β' w' (f.mapL g) v := fun hb =>
    mapL_R lf hlen (fun l hl b cc ty hb0 hh0 => by
      obtain ⟨h1, h2⟩ := hk l b (hb l hl) hb0
      exact ⟨h1, by rw [h2]; exact hh0⟩) h
  cases f with
  | box l cs off =>
    unfold FV.mapK
    dsimp only
    cases hh : hitB lab ls l with
    | true => exact True.intro
    | false => exact plain (fun l2 h2 => by have e : l = l2 := by simpa [FV.hasB] using h2
                                            subst e; exact hh)
  | lit l k cs =>
    unfold FV.mapK
    dsimp only
    cases hh : hitB lab ls l with
    | true => exact True.intro
    | false => exact plain (fun l2 h2 => by have e : l = l2 := by simpa [FV.hasB] using h2
                                            subst e; exact hh)
  | any => exact plain (fun l h => by cases h)
  | v b xs => exact plain (fun l h => by cases h)
  | tup vs => exact plain (fun l h => by cases h)
  | elt s i off => exact plain (fun l h => by cases h)
  | sub s i off => exact plain (fun l h => by cases h)

/-- The struct's cell that becomes inner slice n. -/
def nkL (s : Nat) (xs : List Lf) (n : Nat) : Option (Option Lab) := match Nat.ble s n && Nat.blt n (s + xs.length) with
 | true => some (match xs[n - s]? with | some (.own l _ _) => some l | _ => none)
 | false => none
/-- Where a label's block comes from. -/
def srcL (lab : Lab) (s : Nat) (xs : List Lf) (ls : List Lab) (a : Lab) : Option Lab :=
 match (match isKid lab a with | true => nkL s xs ((a.2 - lab.2) / 1000 - 1) | false => none) with
 | some r => r
 | none => match ls.any (fun b => decide (a = b)) with
  | true => none
  | false => some a
def absB (β : BM) (lab : Lab) (o : Option Nat) (s : Nat) (xs : List Lf) (ls : List Lab) : BM := fun a => match decide (a = lab) with
 | true => o
 | false => (srcL lab s xs ls a).bind β

theorem idx_kidL {lab : Lab} {n : Nat} : ((kidL lab n).2 - lab.2) / 1000 - 1 = n := by unfold kidL; simp only; omega
theorem kid_idx {lab a : Lab} (h : isKid lab a = true) : a = kidL lab ((a.2 - lab.2) / 1000 - 1) := by
 obtain ⟨n, rfl⟩ := isKid_ex h
 rw [idx_kidL]
theorem nkL_some {s : Nat} {xs : List Lf} {n : Nat} {l : Lab} (h : nkL s xs n = some (some l)) : s ≤ n ∧ ∃ e x, xs[n - s]? = some (.own l e x) := by
 unfold nkL at h
 split at h
 ·rename_i hb
  rw [Bool.and_eq_true] at hb
  refine ⟨Nat.le_of_ble_eq_true hb.1, ?_⟩
  cases hx : xs[n - s]? with
  | none => rw [hx] at h; cases h
  | some x =>
   rw [hx] at h
   cases x <;> first | (cases h; done) | skip
   cases h
   exact ⟨_, _, rfl⟩
 ·cases h
theorem srcL_some {lab : Lab} {s : Nat} {xs : List Lf} {ls : List Lab} {a b : Lab} (h : srcL lab s xs ls a = some b) :
  (a = b ∧ a ∉ ls) ∨ ∃ n e x, a = kidL lab n ∧ s ≤ n ∧ xs[n - s]? = some (.own b e x) := by
 unfold srcL at h
 cases hk : isKid lab a with
 | true =>
  rw [hk] at h
  dsimp only at h
  cases hn : nkL s xs ((a.2 - lab.2) / 1000 - 1) with
  | some r =>
   rw [hn] at h
   dsimp only at h
   subst h
   obtain ⟨h1, e, x, h2⟩ := nkL_some hn
   exact .inr ⟨_, e, x, kid_idx hk, h1, h2⟩
  | none =>
   rw [hn] at h
   dsimp only at h
   split at h
   ·cases h
   ·rename_i hl
    cases h
    rw [List.any_eq_false] at hl
    exact .inl ⟨rfl, fun hm => by have := hl a hm; simp at this⟩
 | false =>
  rw [hk] at h
  dsimp only at h
  split at h
  ·cases h
  ·rename_i hl
   cases h
   rw [List.any_eq_false] at hl
   exact .inl ⟨rfl, fun hm => by have := hl a hm; simp at this⟩
theorem srcL_inj {lab : Lab} {s : Nat} {xs : List Lf} {ls : List Lab} (hsub : ∀ l ∈ labsOf xs, l ∈ ls) (hnd : labNodup (labsOf xs) = true) {a a' b : Lab} (h : srcL lab s xs ls a = some b) (h' : srcL lab s xs ls a' = some b) : a = a' := by
 rcases srcL_some h with ⟨e1, h1⟩ | ⟨n, e, x, e1, h1, h2⟩ <;> rcases srcL_some h' with ⟨e1', h1'⟩ | ⟨n', e', x', e1', h1', h2'⟩
 ·exact e1.trans e1'.symm
 ·exact absurd (hsub b (mem_labsOf h2')) (e1 ▸ h1)
 ·exact absurd (hsub b (mem_labsOf h2)) (e1' ▸ h1')
 ·have := labNodup_get hnd h2 h2' rfl
  rw [e1, e1', show n = n' by omega]
theorem srcL_keep {lab : Lab} {s : Nat} {xs : List Lf} {ls : List Lab} {a : Lab} (h : hitB lab ls a = false) : srcL lab s xs ls a = some a := by
 unfold hitB at h
 rw [Bool.or_eq_false_iff] at h
 unfold srcL
 rw [h.2, h.1]
theorem srcL_old {lab : Lab} {s : Nat} {xs : List Lf} {ls : List Lab} {n : Nat} (hlow : ∀ l ∈ ls, l.2 < 1000) (h : n < s ∨ s + xs.length ≤ n) : srcL lab s xs ls (kidL lab n) = some (kidL lab n) := by
 unfold srcL
 rw [isKid_kidL, idx_kidL]
 have hn : nkL s xs n = none := by
  unfold nkL
  have : (Nat.ble s n && Nat.blt n (s + xs.length)) = false := by
   cases hb : Nat.ble s n && Nat.blt n (s + xs.length) with
   | false => rfl
   | true =>
    rw [Bool.and_eq_true] at hb
    have h1 := Nat.le_of_ble_eq_true hb.1
    have h2 : n < s + xs.length := by simpa using hb.2
    omega
  rw [this]
 dsimp only
 rw [hn]
 dsimp only
 have : (ls.any fun b => decide (kidL lab n = b)) = false := by
  rw [List.any_eq_false]
  intro b hb
  rw [decide_eq_true_iff]
  intro e
  have := hlow b hb
  rw [← e] at this
  unfold kidL at this
  simp only at this
  omega
 rw [this]
theorem srcL_new {lab : Lab} {s : Nat} {xs : List Lf} {ls : List Lab} {q : Nat} {l : Lab} {e : TypeId} {x : PL} (h : xs[q]? = some (.own l e x)) : srcL lab s xs ls (kidL lab (s + q)) = some l := by
 have hq := (List.getElem?_eq_some_iff.1 h).1
 unfold srcL
 rw [isKid_kidL, idx_kidL]
 have hn : nkL s xs (s + q) = some (some l) := by
  unfold nkL
  have : (Nat.ble s (s + q) && Nat.blt (s + q) (s + xs.length)) = true := by
   rw [Bool.and_eq_true]
   exact ⟨Nat.ble_eq_true_of_le (by omega), by simpa using hq⟩
  rw [this, Nat.add_sub_cancel_left, h]
 dsimp only
 rw [hn]

theorem absB_some {lab : Lab} {oo : Option Nat} {s : Nat} {xs : List Lf} {ls : List Lab} {l : Lab} {g : Nat} (h : absB β lab oo s xs ls l = some g) :
  (l = lab ∧ oo = some g) ∨ ∃ b, l ≠ lab ∧ srcL lab s xs ls l = some b ∧ β b = some g := by
 unfold absB at h
 by_cases hl : l = lab
 ·rw [decide_eq_true hl] at h
  exact .inl ⟨hl, h⟩
 ·rw [decide_eq_false hl] at h
  dsimp only at h
  rw [Option.bind_eq_some_iff] at h
  obtain ⟨b, h1, h2⟩ := h
  exact .inr ⟨b, hl, h1, h2⟩
theorem okAbs_spec {lab : Lab} {ls : List Lab} (h : okAbs lab ls = true) : lab ∉ ls ∧ lab.2 < 1000 ∧ ∀ l ∈ ls, l.2 < 1000 := by
 unfold okAbs at h
 rw [Bool.and_eq_true] at h
 obtain ⟨h1, h2⟩ := h
 rw [List.all_eq_true] at h2
 unfold labNodup at h1
 rw [Bool.and_eq_true, List.all_eq_true] at h1
 refine ⟨fun hm => ?_, by simpa using h2 lab List.mem_cons_self, fun l hl => by simpa using h2 l (List.mem_cons_of_mem _ hl)⟩
 have := h1.1 lab hm
 simp at this

/-- What holds behind an absorption. -/
structure Abs (F : Fr) (β : BM) (w w' : World) (lab : Lab) (oo : Option Nat) : Prop where
 size : w.heap.size ≤ w'.heap.size
 os : w'.os = w.os
 tape : w'.tape = w.tape
 output : w'.output = w.output
 same : ∀ b, b < w.heap.size → β lab ≠ some b → w'.heap[b]? = w.heap[b]?
 outer : ∀ g, oo = some g → β lab = some g ∨ (w.heap.size ≤ g ∧ g < w'.heap.size)
theorem Abs.mv (h : Sim F β T a w) {lab : Lab} {oo : Option Nat} (A : Abs F β w w' lab oo) {s : Nat} {xs : List Lf} {ls : List Lab} : Mv F β (absB β lab oo s xs ls) w w' :=
 ⟨A.size, fun g hg hlt => ⟨⟨hg.1, fun l hl => by
  rcases absB_some hl with ⟨_, h1⟩ | ⟨b, _, _, h2⟩
  ·rcases A.outer g h1 with h3 | h3
   ·exact hg.2 _ h3
   ·omega
  ·exact hg.2 _ h2⟩, A.same g hlt (hg.2 lab)⟩⟩
theorem Abs.keep (h : Sim F β T a w) {lab : Lab} {oo : Option Nat} (A : Abs F β w w' lab oo) {s : Nat} {xs : List Lf} {ls : List Lab} {l : Lab} {g : Nat} (hl : hitB lab (lab :: ls) l = false) (hb : β l = some g) :
  absB β lab oo s xs ls l = some g ∧ w'.heap[g]? = w.heap[g]? := by
 have hl2 : l ≠ lab ∧ hitB lab ls l = false := by
  unfold hitB at hl ⊢
  rw [List.any_cons, Bool.or_eq_false_iff, Bool.or_eq_false_iff] at hl
  exact ⟨by simpa using hl.1.1, by rw [Bool.or_eq_false_iff]; exact ⟨hl.1.2, hl.2⟩⟩
 refine ⟨?_, A.same g (h.rng l g hb).1 (fun e => hl2.1 (h.inj _ _ _ hb e))⟩
 unfold absB
 rw [decide_eq_false hl2.1]
 dsimp only
 rw [srcL_keep hl2.2]
 exact hb
theorem Abs.inj (h : Sim F β T a w) {lab : Lab} {oo : Option Nat} (A : Abs F β w w' lab oo) {s : Nat} {xs : List Lf} {ls : List Lab} (hsub : ∀ l ∈ labsOf xs, l ∈ ls) (hnd : labNodup (labsOf xs) = true) (hlab : lab ∉ ls) :
  ∀ l l' g, absB β lab oo s xs ls l = some g → absB β lab oo s xs ls l' = some g → l = l' := by
 have hne : ∀ {l b : Lab}, l ≠ lab → srcL lab s xs ls l = some b → b ≠ lab := by
  intro l b hl hs e
  rcases srcL_some hs with ⟨e1, _⟩ | ⟨n, e2, x, _, _, h2⟩
  ·exact hl (e1.trans e)
  ·exact hlab (e ▸ hsub b (mem_labsOf h2))
 have mix : ∀ {l b : Lab} {g : Nat}, l ≠ lab → srcL lab s xs ls l = some b → β b = some g → oo = some g → False := by
  intro l b g hl hs hb ho
  rcases A.outer g ho with h3 | h3
  ·exact hne hl hs (h.inj _ _ _ hb h3)
  ·have := (h.rng b g hb).1; omega
 intro l l' g hl hl'
 rcases absB_some hl with ⟨e1, h1⟩ | ⟨b, e1, h1, h2⟩ <;> rcases absB_some hl' with ⟨e1', h1'⟩ | ⟨b', e1', h1', h2'⟩
 ·exact e1.trans e1'.symm
 ·exact (mix e1' h1' h2' h1).elim
 ·exact (mix e1 h1 h2 h1').elim
 ·have := h.inj _ _ _ h2 h2'
  subst this
  exact srcL_inj hsub hnd h1 h1'
theorem Abs.rng (h : Sim F β T a w) {lab : Lab} {oo : Option Nat} (A : Abs F β w w' lab oo) {s : Nat} {xs : List Lf} {ls : List Lab} : ∀ l g, absB β lab oo s xs ls l = some g → g < w'.heap.size ∧ (F.base ≤ g ∨ g ∈ F.M) := by
 intro l g hl
 rcases absB_some hl with ⟨_, h1⟩ | ⟨b, _, _, h2⟩
 ·rcases A.outer g h1 with h3 | h3
  ·have := h.rng lab g h3; exact ⟨Nat.lt_of_lt_of_le this.1 A.size, this.2⟩
  ·have := h.hsize; exact ⟨h3.2, .inl (by omega)⟩
 ·have := h.rng b g h2; exact ⟨Nat.lt_of_lt_of_le this.1 A.size, this.2⟩
theorem Abs.sim (h : Sim F β T a w) {lab : Lab} {oo : Option Nat} (A : Abs F β w w' lab oo) {s : Nat} {xs : List Lf} {ls : List Lab} (hsub : ∀ l ∈ labsOf xs, l ∈ ls) (hnd : labNodup (labsOf xs) = true) (hlab : lab ∉ ls)
  {g : Lf → Lf} (lf : ∀ {y : Lf} {v : Value}, RLf F β w y v → RLf F (absB β lab oo s xs ls) w' (g y) v) (hlen : ∀ {s : Lf} {x x' : PL}, s.arr? = some x → (g s).arr? = some x' → x'.len = x.len ∧ x'.wd = x.wd) :
  Sim F (absB β lab oo s xs ls) (T.map (FV.mapK lab (lab :: ls) g)) a w' :=
 {defers := h.defers, size := h.size.trans (by simp), inj := A.inj h hsub hnd hlab, rng := A.rng h, os := A.os.trans h.os, tape := A.tape.trans h.tape, output := A.output.trans h.output,
  hsize := Nat.le_trans h.hsize A.size, mok := h.mok
  kept := fun k h1 h2 => (A.same k (Nat.lt_of_lt_of_le h1 h.hsize) (fun e => by
   rcases (h.rng lab k e).2 with h3 | h3
   ·omega
   ·exact h2 h3)).trans (h.kept k h1 h2)
  rel := fun i f hf => by
   rw [List.getElem?_map] at hf
   obtain ⟨f0, hf0, rfl⟩ := Option.map_eq_some_iff.1 hf
   obtain ⟨c, hc, hr⟩ := h.rel i f0 hf0
   exact ⟨c, hc, mapK_R (fun _ => lf) (fun _ => hlen) (fun l b hl hb => A.keep h hl hb) hr⟩ }

/-- The struct's cells, as inner slices. -/
theorem toRow_len : ∀ {xs : List Lf} {row : List PL}, toRow ei xs = some row → row.length = xs.length
 | [], row, h => by cases h; rfl
 | x :: xs, row, h => by
  unfold toRow at h
  split at h
  ·rename_i heq; cases heq
  ·rename_i l e z xs' heq
   cases heq
   split at h
   ·rename_i ys he hys; cases h; simp [toRow_len hys]
   ·cases h
  ·rename_i xs' heq
   cases heq
   split at h
   ·rename_i ys hys; cases h; simp [toRow_len hys]
   ·cases h
  ·rename_i y xs' heq
   cases heq
   split at h
   ·rename_i ys he hys; cases h; simp [toRow_len hys]
   ·cases h
  ·cases h
def labO : Lf → Option Lab
 | .own l _ _ => some l
 | _ => none
theorem toRow_kid : ∀ {xs : List Lf} {row : List PL} {us : List Value}, toRow ei xs = some row → All2 (RLf F β w) xs us → ∀ (q : Nat) (x : PL), row[q]? = some x → ∃ u lf, xs[q]? = some lf ∧ us[q]? = some u ∧ KidAt w ei ((labO lf).bind β) x u
 | [], row, us, h, _, q, x, hx => by cases h; simp at hx
 | y :: xs, row, [], h, hu, _, _, _ => hu.elim
 | y :: xs, row, u :: us, h, hu, q, x, hx => by
  have step : ∀ {x0 : PL} {ys : List PL}, toRow ei xs = some ys → row = x0 :: ys → KidAt w ei ((labO y).bind β) x0 u → ∃ u' lf, (y :: xs)[q]? = some lf ∧ (u :: us)[q]? = some u' ∧ KidAt w ei ((labO lf).bind β) x u' := by
   intro x0 ys hys hr hk
   subst hr
   cases q with
   | zero => simp at hx; subst hx; exact ⟨u, y, rfl, rfl, hk⟩
   | succ q =>
    obtain ⟨u', lf, h1, h2, h3⟩ := toRow_kid hys hu.2 q x (by simpa using hx)
    exact ⟨u', lf, by simpa using h1, by simpa using h2, h3⟩
  unfold toRow at h
  split at h
  ·rename_i heq; cases heq
  ·rename_i l e z xs' heq
   cases heq
   split at h
   ·rename_i ys he hys
    cases h
    have he : e = ei := Nat.eq_of_beq_eq_true he
    subst he
    refine step hys rfl ?_
    obtain ⟨_, hv⟩ := hu.1
    rcases hv with ⟨hv, h0⟩ | ⟨g, c, cur, hv, hb, hh, h1, h2, h3, h4⟩
    ·exact .inl ⟨by simpa [PL.len] using h0, none, 0, hv, by simp⟩
    ·exact .inr ⟨g, c, cur, hv, hb, hh, h1, h2, by simpa [PL.wd] using h3, h4⟩
   ·cases h
  ·rename_i xs' heq
   cases heq
   split at h
   ·rename_i ys hys
    cases h
    exact step hys rfl (.inl ⟨rfl, none, 0, hu.1, by simp⟩)
   ·cases h
  ·rename_i y' xs' heq
   cases heq
   split at h
   ·rename_i ys he hys
    cases h
    refine step hys rfl ?_
    have hy : PL.R w (okU F β) y' u := hu.1
    have hy2 : PL.R w (fun _ => False) y' u := noArr_R he hy
    cases y' <;> first | (cases he; done) | exact ⟨rfl, hy2⟩
   ·cases h
  ·cases h

/-- An append with room, whatever type the block bears. -/
theorem run_append_room' {P : Program} (w : World) (t ty : TypeId) {e : TypeId} (i : TypeInfo) (ht : P.underlying t = some (.slice e)) (hi : P.info? e = some i)
  (g sLen sCap : Nat) (cur : Array Value) (e2 : TypeId) (hg : w.heap[g]? = some (.cells cur e2 (0, 0)))
  (b : Addr) (m c : Nat) (news : List Value) (hl : news.length = m * i.size) (hnews : ∀ j u, news[j]? = some u → w.cell? (b.add j) = some u) (h1 : ∀ u ∈ news, u.oneCell' = true)
  (hroom : sLen + m ≤ sCap) (hfit : sLen * i.size + news.length ≤ cur.size) :
  (Builtin.append_ #[t, t] ty #[.slice (some ⟨g, 0, none⟩) sLen sCap, .slice (some b) m c]).run P w =
   .ok (.slice (some ⟨g, 0, none⟩) (sLen + m) sCap) (w.setRow g (cur.toList.take (sLen * i.size) ++ news ++ cur.toList.drop (sLen * i.size + news.length)).toArray) := by
 have hf := run_firstCells_some (P := P) w i.size m b m c news hl hnews
 have hst := run_storeCells_at P g (sLen * i.size) e2 news 0 cur w hg (by simpa using hfit) h1
 simp only [Nat.add_zero] at hst
 simp [Builtin.append_, run_underlying ht, sizeOf, typeInfo, hi, Builtin.lenOf, hroom, hf, Addr.add_lit, hst]
theorem absIdx_spec {ei : TypeId} {l : Lab} : ∀ {xs : List Lf} {q0 q : Nat}, absIdx ei l q0 xs = some q → q0 ≤ q ∧ ∃ e z, xs[q - q0]? = some (.own l e (.ints z))
 | [], _, _, h => by cases h
 | x :: xs, q0, q, h => by
  have hrec : absIdx ei l (q0 + 1) xs = some q → q0 ≤ q ∧ ∃ e z, (x :: xs)[q - q0]? = some (.own l e (.ints z)) := fun h => by
   obtain ⟨h1, e, z, h2⟩ := absIdx_spec h
   refine ⟨by omega, e, z, ?_⟩
   rw [show q - q0 = (q - (q0 + 1)) + 1 by omega, List.getElem?_cons_succ]
   exact h2
  unfold absIdx at h
  split at h
  ·rename_i heq; cases heq
  ·rename_i q1 l' e z xs' heq
   split at h
   ·rename_i hc
    cases h
    cases heq
    rw [Bool.and_eq_true, decide_eq_true_iff] at hc
    refine ⟨Nat.le_refl _, e, z, ?_⟩
    rw [Nat.sub_self, ← hc.1]
    rfl
   ·cases heq
    exact hrec h
  ·rename_i _ heq
   cases heq
   exact hrec h
theorem absK_arr {lab : Lab} {ls : List Lab} {ei : TypeId} {n0 : Nat} {xs : List Lf} {s : Lf} {x x' : PL} (h : s.arr? = some x) (h' : (absK lab ls ei n0 xs s).arr? = some x') : x'.len = x.len ∧ x'.wd = x.wd := by
 unfold absK at h'
 split at h'
 ·split at h'
  ·cases h'
  ·exact killK_arr h h'
 ·exact killK_arr h h'
theorem absK_R (h : Sim F β T a w) {lab : Lab} {oo : Option Nat} (A : Abs F β w w' lab oo) {s : Nat} {xs : List Lf} {ls : List Lab} (hlab : lab ∉ ls) (hsub : ∀ l ∈ labsOf xs, l ∈ ls) {ei' : TypeId}
  (kill : ∀ {y : Lf} {v : Value}, RLf F β w y v → RLf F (absB β lab oo s xs ls) w' (killK lab (lab :: ls) y) v) {y : Lf} {v : Value} (hy : RLf F β w y v) : RLf F (absB β lab oo s xs ls) w' (absK lab (lab :: ls) ei' s xs y) v := by
 unfold absK
 split
 ·rename_i l e z
  split
  ·rename_i q hq he
   obtain ⟨_, e1, z1, hx⟩ := absIdx_spec hq
   rw [Nat.sub_zero] at hx
   have he2 : e = ei' := Nat.eq_of_beq_eq_true he
   subst he2
   have hb : absB β lab oo s xs ls (kidL lab (s + q)) = β l := by
    unfold absB
    rw [decide_eq_false kidL_ne]
    dsimp only
    rw [srcL_new hx]
    rfl
   show KidAt w' e (absB β lab oo s xs ls (kidL lab (s + q))) (.ints z) v
   rw [hb]
   rcases hy.2 with ⟨rfl, h0⟩ | ⟨g, c, cur, h1, h2, h3, h4, h5, h6, h7⟩
   ·exact .inl ⟨List.eq_nil_of_length_eq_zero h0, none, 0, rfl, by simp [maxLen]⟩
   ·have hs := A.same g (h.rng _ g h2).1 (fun e' => hlab (by rw [← h.inj _ _ _ h2 e']; exact hsub _ (mem_labsOf hx)))
    refine .inr ⟨g, c, cur, h1, h2, by rw [hs]; exact h3, h4, h5, by rw [h6]; exact Nat.mul_one _, IntsAt.move h7 hs⟩
  ·exact kill hy
 ·exact kill hy
theorem s_appendD (h : Sim F β T a w) (hT : tabB F.P ei Γ = true) {c : Call} {s x : Operand} {t : TypeId} (ho : o.op = .call c) (hc : c.callee = .builtin .append) (hargs : c.args.toList = [s, x]) (hts : c.argTypes.toList = [t, t])
  {r : TyRow} (hr : Γ.get t = some r) {lab lab2 : Lab} {ei' : TypeId} {kk kk2 : Nat} {l : List (List PL)} {xs : List Lf} {row : List PL} (hs : opd T s = .v false [.deep lab ei' kk l]) (hx : opd T x = .lit lab2 kk2 xs) (hrow : toRow ei' xs = some row)
  (hbb : ((Nat.beq kk kk2 && (Nat.beq xs.length kk && (tyIdx r.ty (.darr kk l) && Nat.blt lab.1 2000000))) && okAbs lab (lab2 :: labsOf xs)) = true) (hby : (l.length + 1) * (r.ty.by + 1) ≤ 140737488355328)
  (hK : ∀ β' c w', Sim F β' (put (T.map (FV.mapK lab (lab :: lab2 :: labsOf xs) (absK lab (lab :: lab2 :: labsOf xs) ei' (l.length * kk) xs))) o.dst (.v false [.deep lab ei' kk (l ++ [row])])) (a.put o.dst c) w' → K (a.put o.dst c) w') : o.wp F.P a w K Q := by
 have hei : eiB F.P ei = true := by unfold tabB at hT; rw [Bool.and_eq_true] at hT; exact hT.1
 obtain ⟨hid, hrw⟩ := tab_row hT hr
 simp only [Bool.and_eq_true] at hbb
 obtain ⟨⟨hk2, hxl, hty, hlow⟩, hok⟩ := hbb
 have hk2 := Nat.eq_of_beq_eq_true hk2
 subst hk2
 have hxl := Nat.eq_of_beq_eq_true hxl
 have hlow : lab.1 < 2000000 := by simpa using hlow
 have hty2 : tyArr r.ty (.arr kk l) = true := by
  cases hq : r.ty <;> rw [hq] at hty <;> first | exact hty | (simp [tyIdx, tyArr] at hty)
 obtain ⟨i, zr, hun, hi, hsz, hbyt, hzr, hzs, hpos, _⟩ := row_elem hei hrw hty2 hid
 simp only [PL.wd] at hsz hzs hpos
 obtain ⟨hlab, hlab2, hlows⟩ := okAbs_spec hok
 have hnd : labNodup (labsOf xs) = true := by
  unfold okAbs at hok
  rw [Bool.and_eq_true] at hok
  have h1 := hok.1
  unfold labNodup at h1
  rw [Bool.and_eq_true] at h1
  have h2 := h1.2
  unfold labNodup at h2
  rw [Bool.and_eq_true] at h2
  exact h2.2
 have hsub : ∀ l ∈ labsOf xs, l ∈ lab2 :: labsOf xs := fun l hl => List.mem_cons_of_mem _ hl
 have hsv : RLf F β w (.deep lab ei' kk l) (a.eval s) := by have := opd_R h s; rw [hs] at this; exact R_v1 this
 have hxv := opd_R h x
 rw [hx] at hxv
 obtain ⟨g2, cc, ty2, n2, hxval, hb2, hh2, hs2, hn2, hall⟩ := hxv
 have hn1 : n2 = 1 := by
  have h1 : xs.length = cc.size := by rw [hall.length]; exact Array.length_toList
  have h2 : n2 * kk = 1 * kk := by rw [← hs2, ← h1, hxl, Nat.one_mul]
  exact Nat.eq_of_mul_eq_mul_right hpos h2
 subst hn1
 have hnl : cc.toList.length = 1 * i.size := by rw [hsz, ← hs2]; exact Array.length_toList
 have hncell : ∀ j u, cc.toList[j]? = some u → w.cell? ((⟨g2, 0, none⟩ : Addr).add j) = some u := fun j u hj => by
  rw [Addr.add_lit, cell_of_row w g2 _ cc ty2 (0, 0) hh2, Nat.zero_add]
  simpa using hj
 have hrl : row.length = kk := by rw [toRow_len hrow, hxl]
 have hkid := toRow_kid (F := F) (β := β) (w := w) hrow hall
 have fin : ∀ {w' : World} {G C : Nat} {cur' : Array Value} {e : TypeId} (old : Nat → Option Value), Abs F β w w' lab (some G) → w'.heap[G]? = some (.cells cur' e (0, 0)) → l.length + 1 ≤ C → C ≤ maxLen → cur'.size = C * kk →
   (∀ n, n < l.length * kk → cur'[n]? = old n) → (∀ q, q < kk → cur'[l.length * kk + q]? = cc[q]?) →
   (∀ (i : Nat) (r : List PL), l[i]? = some r → r.length = kk ∧ ∀ (q : Nat) (x : PL), r[q]? = some x → ∃ u, old (i * kk + q) = some u ∧ KidAt w ei' (β (kidL lab (i * kk + q))) x u) →
   (execOp a.eval o).run F.P w = .ok (.value (.slice (some ⟨G, 0, none⟩) (l.length + 1) C)) w' → o.wp F.P a w K Q := by
  intro w' G C cur' e old A hG h1 h2 h3 h4 h5 h6 hrun
  refine wp_value hrun (hK (absB β lab (some G) (l.length * kk) xs (lab2 :: labsOf xs)) _ _ ((A.sim h hsub hnd hlab (fun hy => absK_R h A hlab hsub (fun hy => killK_R (A.mv h) (fun l g hl hb => A.keep h hl hb) hy) hy) (fun hs hs' => absK_arr hs hs')).put o.dst
   ⟨_, rfl, PinR.low hlow, .inr ⟨G, C, cur', e, by rw [List.length_append]; rfl, ?_, hG, by rw [List.length_append]; exact h1, h2, h3, fun j r hr => ?_⟩⟩))
  ·unfold absB
   rw [decide_eq_true rfl]
  ·by_cases hj : j < l.length
   ·rw [List.getElem?_append_left hj] at hr
    obtain ⟨k1, k2⟩ := h6 j r hr
    refine ⟨k1, fun q x hx => ?_⟩
    obtain ⟨u, hu, hkx⟩ := k2 q x hx
    have hq : q < kk := by rw [← k1]; exact (List.getElem?_eq_some_iff.1 hx).1
    have hlt : j * kk + q < l.length * kk := by
     have := Nat.mul_le_mul_right kk (show j + 1 ≤ l.length by omega)
     rw [Nat.add_mul, Nat.one_mul] at this
     omega
    refine ⟨u, by rw [h4 _ hlt]; exact hu, hkx.move (fun g hg => ⟨?_, A.same g (h.rng _ g hg).1 (fun e => kidL_ne (h.inj _ _ _ hg e))⟩)⟩
    show absB β lab (some G) (l.length * kk) xs (lab2 :: labsOf xs) (kidL lab (j * kk + q)) = some g
    unfold absB
    rw [decide_eq_false kidL_ne]
    dsimp only
    rw [srcL_old hlows (.inl hlt)]
    exact hg
   ·have hj2 : j = l.length := by
     have := (List.getElem?_eq_some_iff.1 hr).1
     rw [List.length_append, List.length_singleton] at this
     omega
    subst hj2
    rw [List.getElem?_append_right (Nat.le_refl _), Nat.sub_self] at hr
    cases hr
    refine ⟨hrl, fun q x hx => ?_⟩
    obtain ⟨u, lf, e1, e2, e3⟩ := hkid q x hx
    have hq : q < kk := by rw [← hrl]; exact (List.getElem?_eq_some_iff.1 hx).1
    refine ⟨u, by rw [h5 q hq]; simpa using e2, e3.move (fun g hg => ?_)⟩
    cases lf with
    | own l0 e0 x0 =>
     have hg : β l0 = some g := hg
     refine ⟨?_, A.same g (h.rng _ g hg).1 (fun e => hlab (by rw [← h.inj _ _ _ hg e]; exact hsub _ (mem_labsOf e1)))⟩
     show absB β lab (some G) (l.length * kk) xs (lab2 :: labsOf xs) (kidL lab (l.length * kk + q)) = some g
     unfold absB
     rw [decide_eq_false kidL_ne]
     dsimp only
     rw [srcL_new e1]
     exact hg
    | _ => cases hg
 have hby1 : 1 * i.bytes ≤ 140737488355328 := by
  rw [hbyt, Nat.one_mul]
  have := Nat.mul_le_mul_right (r.ty.by + 1) (show 1 ≤ l.length + 1 by omega)
  omega
 have hlen47 : l.length + 1 ≤ 140737488355328 := Nat.le_trans (by simpa using Nat.mul_le_mul_left (l.length + 1) (show 1 ≤ r.ty.by + 1 by omega)) hby
 have hbytes : (l.length + 1) * i.bytes ≤ 140737488355328 := by rw [hbyt]; exact Nat.le_trans (Nat.mul_le_mul_left _ (Nat.le_succ _)) hby
 have hcapm : ∀ old, grownCap w (l.length + 1) old (r.ty.elem ei) ≤ maxLen := fun old => grownCap_le_maxLen w _ old _ (by simp only [maxLen]; omega)
 have hcapg : ∀ old, l.length + 1 ≤ grownCap w (l.length + 1) old (r.ty.elem ei) := fun old => grownCap_ge w _ old _
 rcases hsv.2 with ⟨hv, h0⟩ | ⟨g, cp, cur, e, hv, hbl, hh, k1, k2, k3, k4⟩
 ·subst h0
  have hrun := run_append_nil (P := F.P) w t o.type _ i zr hun hi hzr ⟨g2, 0, none⟩ 1 1 cc.toList hnl hncell (by omega) (by omega) (by omega)
  rw [← hv, ← hxval] at hrun
  refine fin (w' := w.drew.alloc (.cells (cc.toList.toArray ++ Builtin.zeroCells zr.cells (grownCap w 1 0 (r.ty.elem ei) - 1)) (r.ty.elem ei))) (G := w.heap.size) (C := grownCap w 1 0 (r.ty.elem ei)) (fun _ => none) ⟨by simp, rfl, rfl, rfl, fun b hb _ => heap_alloc_old w.drew _ hb, fun g hg => by cases hg; exact .inr ⟨Nat.le_refl _, by simp⟩⟩ (heap_alloc_new w.drew _) (hcapg 0) (hcapm 0) ?_ (fun n hn => by simp at hn) (fun q hq => ?_) (fun i r hr => by simp at hr) (run_append_op ho hc hargs hts hrun)
  ·have := hcapg 0
   rw [Array.size_append, size_zeroCells, hzs, List.size_toArray, hnl, hsz, ← Nat.add_mul]
   congr 1
   have h8 : 1 ≤ grownCap w 1 0 (r.ty.elem ei) := this
   omega
  ·rw [List.length_nil, Nat.zero_mul, Nat.zero_add, Array.getElem?_append_left (by rw [List.size_toArray, hnl, hsz]; omega)]
 ·have hold : ∀ (i : Nat) (r : List PL), l[i]? = some r → r.length = kk ∧ ∀ (q : Nat) (x : PL), r[q]? = some x → ∃ u, cur[i * kk + q]? = some u ∧ KidAt w ei' (β (kidL lab (i * kk + q))) x u := k4
  by_cases hroom : l.length + 1 ≤ cp
  ·have hfit : l.length * kk + kk ≤ cur.size := by
    rw [k3]
    have := Nat.mul_le_mul_right kk hroom
    rw [Nat.add_mul, Nat.one_mul] at this
    exact this
   have hrun := run_append_room' (P := F.P) w t o.type i hun hi g l.length cp cur e hh ⟨g2, 0, none⟩ 1 1 cc.toList hnl hncell (fun u hu => by
    obtain ⟨j, hj⟩ := List.getElem?_of_mem hu
    obtain ⟨x, hx⟩ : ∃ x, xs[j]? = some x := ⟨_, List.getElem?_eq_getElem (by rw [hall.length]; exact (List.getElem?_eq_some_iff.1 hj).1)⟩
    obtain ⟨u2, hu2, hr2⟩ := hall.get j x hx
    rw [hj] at hu2
    cases hu2
    exact R_one hr2) hroom (by rw [hnl, hsz]; omega)
   rw [← hv, ← hxval] at hrun
   have hcl : cc.toList.length = kk := by rw [hnl, hsz]; omega
   generalize hcc : (cur.toList.take (l.length * i.size) ++ cc.toList ++ cur.toList.drop (l.length * i.size + cc.toList.length)).toArray = cur' at hrun
   rw [hsz, hcl] at hcc
   have hget : ∀ j, cur'[j]? = if j < l.length * kk then cur[j]? else if j < l.length * kk + kk then cc[j - l.length * kk]? else cur[j]? := by
    intro j
    rw [← hcc]
    have hgm := get_mid (cc := cur.toList) (mid := cc.toList) (i := l.length * kk) (q := j) (by have h9 : cur.toList.length = cur.size := Array.length_toList; omega)
    simp only [List.getElem?_toArray]
    rw [hcl] at hgm
    rw [hgm]
    simp
   refine fin (G := g) (C := cp) (fun n => cur[n]?) ⟨by simp, by simp, by simp, by simp, fun b _ hb => setRow_other w g b cur' (fun e => hb (by rw [e]; exact hbl)), fun g' hg => by cases hg; exact .inl hbl⟩ (setRow_heap w g cur cur' e (0, 0) hh) hroom k2 ?_ (fun n hn => by rw [hget, if_pos hn]) (fun q hq => by rw [hget, if_neg (by omega), if_pos (by omega), Nat.add_sub_cancel_left]) hold (run_append_op ho hc hargs hts hrun)
   rw [← hcc]
   simp only [List.size_toArray, List.length_append, List.length_take, List.length_drop, Array.length_toList, hcl]
   rw [← k3]
   have hcl2 : cc.size = kk := by rw [hs2, Nat.one_mul]
   omega
  ·have ho1 : (cur.toList.take (l.length * kk)).length = l.length * i.size := by
    have h9 : cur.toList.length = cp * kk := by rw [← k3]; exact Array.length_toList
    rw [List.length_take, h9, hsz]
    have := Nat.mul_le_mul_right kk k1
    omega
   have hrun := run_append_grow (P := F.P) w t o.type _ i zr hun hi hzr ⟨g, 0, none⟩ l.length cp (cur.toList.take (l.length * kk)) ho1 (fun j u hj => by
    rw [Addr.add_lit, cell_of_row w g _ cur e (0, 0) hh, Nat.zero_add]
    rw [List.getElem?_take] at hj
    split at hj
    ·simpa using hj
    ·cases hj) ⟨g2, 0, none⟩ 1 1 cc.toList hnl hncell (by omega) (by omega) (growslice_fits (by omega) hbytes)
   rw [← hv, ← hxval] at hrun
   have ho2 : (cur.toList.take (l.length * kk)).length = l.length * kk := by rw [ho1, hsz]
   have hcl : cc.toList.length = kk := by rw [hnl, hsz]; omega
   refine fin (w' := w.drew.alloc (.cells ((cur.toList.take (l.length * kk)).toArray ++ cc.toList.toArray ++ Builtin.zeroCells zr.cells (grownCap w (l.length + 1) cp (r.ty.elem ei) - (l.length + 1))) (r.ty.elem ei))) (G := w.heap.size) (C := grownCap w (l.length + 1) cp (r.ty.elem ei)) (fun n => cur[n]?) ⟨by simp, rfl, rfl, rfl, fun b hb _ => heap_alloc_old w.drew _ hb, fun g hg => by cases hg; exact .inr ⟨Nat.le_refl _, by simp⟩⟩ (heap_alloc_new w.drew _) (hcapg cp) (hcapm cp) ?_ (fun n hn => ?_) (fun q hq => ?_) hold (run_append_op ho hc hargs hts hrun)
   ·have := hcapg cp
    rw [Array.size_append, Array.size_append, size_zeroCells, hzs, List.size_toArray, List.size_toArray, ho2, hcl]
    have e1 : grownCap w (l.length + 1) cp (r.ty.elem ei) = l.length + 1 + (grownCap w (l.length + 1) cp (r.ty.elem ei) - (l.length + 1)) := by omega
    conv => rhs; rw [e1]
    rw [Nat.add_mul, Nat.add_mul, Nat.one_mul]
   ·rw [Array.getElem?_append_left (by rw [Array.size_append, List.size_toArray, List.size_toArray, ho2, hcl]; omega), Array.getElem?_append_left (by rw [List.size_toArray, ho2]; omega)]
    rw [List.getElem?_toArray, List.getElem?_take, if_pos hn]
    simp
   ·rw [Array.getElem?_append_left (by rw [Array.size_append, List.size_toArray, List.size_toArray, ho2, hcl]; omega), Array.getElem?_append_right (by rw [List.size_toArray, ho2]; omega)]
    rw [List.size_toArray, ho2, Nat.add_sub_cancel_left]

theorem stoD_len {k i off : Nat} {new : List PL} {x : List (List PL)} : (stoD k i off new x).length = x.length := by
 unfold stoD
 split
 ·simp
 ·split <;> simp
theorem stoD_get {k i off : Nat} {new : List PL} {x : List (List PL)} (hk : ∀ r ∈ x, r.length = k) (hl : off + new.length ≤ k) {j : Nat} {r : List PL} (hr : (stoD k i off new x)[j]? = some r) :
  (j ≠ i ∧ x[j]? = some r) ∨ (j = i ∧ ∃ r0, x[j]? = some r0 ∧ r.length = k ∧ ∀ (q : Nat) (y : PL), r[q]? = some y → (off ≤ q ∧ q < off + new.length ∧ new[q - off]? = some y) ∨ (¬ (off ≤ q ∧ q < off + new.length) ∧ r0[q]? = some y)) := by
 unfold stoD at hr
 split at hr
 ·rename_i he
  have he := Nat.eq_of_beq_eq_true he
  rw [List.getElem?_set] at hr
  by_cases hji : i = j
  ·subst hji
   rw [if_pos rfl] at hr
   split at hr
   ·rename_i hlt
    cases hr
    refine .inr ⟨rfl, _, List.getElem?_eq_getElem hlt, he, fun q y hy => .inl ?_⟩
    have hq := (List.getElem?_eq_some_iff.1 hy).1
    have h0 : off = 0 := by omega
    subst h0
    exact ⟨by omega, by omega, hy⟩
   ·cases hr
  ·rw [if_neg hji] at hr
   exact .inl ⟨fun e => hji e.symm, hr⟩
 ·split at hr
  ·rename_i r0 hr0
   rw [List.getElem?_set] at hr
   by_cases hji : i = j
   ·subst hji
    rw [if_pos rfl] at hr
    split at hr
    ·cases hr
     have hr0l := hk r0 (List.mem_of_getElem? hr0)
     refine .inr ⟨rfl, r0, hr0, by simp; omega, fun q y hy => ?_⟩
     have hgm := get_mid (cc := r0) (mid := new) (i := off) (q := q) (by omega)
     rw [hgm] at hy
     split at hy
     ·exact .inr ⟨by omega, hy⟩
     ·split at hy
      ·exact .inl ⟨by omega, by omega, hy⟩
      ·exact .inr ⟨by omega, hy⟩
    ·cases hr
   ·rw [if_neg hji] at hr
    exact .inl ⟨fun e => hji e.symm, hr⟩
  ·rename_i hn
   by_cases hji : j = i
   ·subst hji
    rw [hn] at hr
    cases hr
   ·exact .inl ⟨hji, hr⟩

theorem s_storeD (h : Sim F β T a w) (hT : tabB F.P ei Γ = true) {t : TypeId} {ad x : Operand} (ho : o.op = .store t ad x) {r : TyRow} (hr : Γ.get t = some r)
  {lab : Lab} {e' k' : Nat} {l : List (List PL)} {i off : Nat} {a' : Bool} {xs : List Lf} {row : List PL} (ha : opd T ad = .elt (.deep lab e' k' l) i off) (hx : opd T x = .v a' xs) (hrow : toRow e' xs = some row)
  (hbb : (Nat.beq xs.length (match r.cells with | some n => n | none => 1) && (Nat.ble (off + xs.length) k' && okAbs lab (labsOf xs))) = true) (hi : i < l.length)
  (hK : ∀ β' c w', Sim F β' (put (T.map (FV.mapK lab (lab :: labsOf xs) (stoDL lab e' k' i off row (lab :: labsOf xs)))) o.dst (.tup [])) (a.put o.dst c) w' → K (a.put o.dst c) w') : o.wp F.P a w K Q := by
 simp only [Bool.and_eq_true] at hbb
 obtain ⟨hn2, hle, hok⟩ := hbb
 have hn2 := Nat.eq_of_beq_eq_true hn2
 have hle := Nat.le_of_ble_eq_true hle
 obtain ⟨hlab, hlab2, hlows⟩ := okAbs_spec hok
 have hnd : labNodup (labsOf xs) = true := by
  unfold okAbs at hok
  rw [Bool.and_eq_true] at hok
  have h1 := hok.1
  unfold labNodup at h1
  rw [Bool.and_eq_true] at h1
  exact h1.2
 have hsub : ∀ l ∈ labsOf xs, l ∈ labsOf xs := fun _ h => h
 have h1 := opd_R h ad
 have h2 := opd_R h x
 rw [ha] at h1
 rw [hx] at h2
 obtain ⟨g, o', n, c, y, hs, hy, hiy, hv⟩ := h1
 cases hy
 obtain ⟨hpin, ⟨hv0, _⟩ | ⟨g', c', cur, e, hv0, hbl, hh, k1, k2, k3, k4⟩⟩ := hs
 ·cases hv0
 cases hv0
 simp only [PL.wd, Nat.zero_add] at hv
 have hcells := cells_of_val h2
 have hlen := hcells.length
 obtain ⟨hid, hrw⟩ := tab_row hT hr
 obtain ⟨hcs, hone⟩ := row_cells hrw
 rw [hid] at hcs hone
 have hsz : (sizeOf t).run F.P w = .ok xs.length w := by
  cases hc : r.cells with
  | some n =>
   rw [hc] at hn2
   rw [hn2]
   exact run_size (hcs n hc).2 w
  | none =>
   rw [hc] at hn2
   rw [hn2]
   exact run_size (hone hc).2 w
 generalize hvs : (a.eval x).cells.toList = vs at *
 have hvl : vs.length = xs.length := hlen.symm
 have hk' : ∀ r ∈ l, r.length = k' := fun r hr => by
  obtain ⟨j, hj⟩ := List.getElem?_of_mem hr
  exact (k4 j r hj).1
 have hfit : i * k' + off + xs.length ≤ cur.size := by
  rw [k3]
  have := Nat.mul_le_mul_right k' (show i + 1 ≤ c by omega)
  rw [Nat.add_mul, Nat.one_mul] at this
  omega
 have hone1 : ∀ v ∈ vs, v.oneCell' = true := fun v hv' => by
  obtain ⟨j, hj⟩ := List.getElem?_of_mem hv'
  have hlt : j < xs.length := by rw [hlen]; exact (List.getElem?_eq_some_iff.1 hj).1
  obtain ⟨c, hc, hxc⟩ := hcells.get j xs[j] (List.getElem?_eq_getElem hlt)
  rw [hj] at hc
  cases hc
  exact R_one hxc
 have hrun : (storeCells ⟨g, i * k' + off, none⟩ vs).run F.P w = .ok () (w.setRow g (cur.toList.take (i * k' + off) ++ vs ++ cur.toList.drop (i * k' + off + vs.length)).toArray) := by
  have := run_storeCells_at F.P g (i * k' + off) e vs 0 cur w hh (by simp; omega) hone1
  simpa using this
 have hsz2 : (a.eval x).cells.size = xs.length := by
  have := congrArg List.length hvs
  simp at this
  omega
 generalize hcs' : (cur.toList.take (i * k' + off) ++ vs ++ cur.toList.drop (i * k' + off + vs.length)).toArray = cur' at hrun
 have hcur' : cur'.size = cur.size := by rw [← hcs']; simp; omega
 have hget : ∀ j, cur'[j]? = if j < i * k' + off then cur[j]? else if j < i * k' + off + xs.length then vs[j - (i * k' + off)]? else cur[j]? := by
  intro j
  rw [← hcs']
  have hgm := get_mid (cc := cur.toList) (mid := vs) (i := i * k' + off) (q := j) (by have h9 : cur.toList.length = cur.size := Array.length_toList; omega)
  simp only [List.getElem?_toArray]
  rw [hgm, hvl]
  simp
 have hheap := setRow_heap w g cur cur' e (0, 0) hh
 have A : Abs F β w (w.setRow g cur') lab (β lab) := ⟨by simp, by simp, by simp, by simp, fun b _ hb => setRow_other w g b cur' (fun e => hb (by rw [e]; exact hbl)), fun g' hg => .inl hg⟩
 have hkid := toRow_kid (F := F) (β := β) (w := w) hrow hcells
 have hrl : row.length = xs.length := toRow_len hrow
 have old : ∀ {n : Nat}, (n < i * k' + off ∨ i * k' + off + xs.length ≤ n) → ∀ g2, β (kidL lab n) = some g2 → absB β lab (β lab) (i * k' + off) xs (labsOf xs) (kidL lab n) = some g2 ∧ (w.setRow g cur').heap[g2]? = w.heap[g2]? := by
  intro n hn g2 hg2
  refine ⟨?_, A.same g2 (h.rng _ _ hg2).1 (fun e => kidL_ne (h.inj _ _ _ hg2 e))⟩
  unfold absB
  rw [decide_eq_false kidL_ne]
  dsimp only
  rw [srcL_old hlows hn]
  exact hg2
 have lf : ∀ {y : Lf} {v : Value}, RLf F β w y v → RLf F (absB β lab (β lab) (i * k' + off) xs (labsOf xs)) (w.setRow g cur') (stoDL lab e' k' i off row (lab :: labsOf xs) y) v := by
  intro y v hy
  have kill : ∀ {y : Lf}, RLf F β w y v → RLf F (absB β lab (β lab) (i * k' + off) xs (labsOf xs)) (w.setRow g cur') (killK lab (lab :: labsOf xs) y) v := fun hy => killK_R (A.mv h) (fun l g hl hb => A.keep h hl hb) hy
  cases y with
  | deep l2 e2 kk2 x2 =>
   unfold stoDL
   dsimp only
   by_cases hl : l2 = lab
   ·subst hl
    rw [decide_eq_true rfl]
    dsimp only
    cases hkk : Nat.beq kk2 k' && Nat.beq e2 e' with
    | false => exact R_one hy
    | true =>
     rw [Bool.and_eq_true] at hkk
     have e1 := Nat.eq_of_beq_eq_true hkk.1
     have e2 := Nat.eq_of_beq_eq_true hkk.2
     subst e1
     subst e2
     refine ⟨hy.1, ?_⟩
     rcases hy.2 with ⟨hv1, h0⟩ | ⟨g3, c3, cur3, e3, hv1, hb3, hh3, j1, j2, j3, j4⟩
     ·refine .inl ⟨hv1, ?_⟩
      apply List.eq_nil_of_length_eq_zero
      rw [stoD_len, h0]
      rfl
     ·rw [hbl] at hb3
      cases hb3
      rw [hh] at hh3
      cases hh3
      refine .inr ⟨g, c3, cur', e, by rw [stoD_len]; exact hv1, ?_, hheap, by rw [stoD_len]; exact j1, j2, by rw [hcur']; exact j3, fun j r hr => ?_⟩
      ·unfold absB
       rw [decide_eq_true rfl]
       exact hbl
      ·rcases stoD_get (fun r hr => by obtain ⟨j, hj⟩ := List.getElem?_of_mem hr; exact (j4 j r hj).1) (by rw [hrl]; exact hle) hr with ⟨hji, hr0⟩ | ⟨hji, r0, hr0, hrk, hq⟩
       ·obtain ⟨m1, m2⟩ := j4 j r hr0
        refine ⟨m1, fun q x hx => ?_⟩
        obtain ⟨u, hu, hkx⟩ := m2 q x hx
        have hq : q < kk2 := by rw [← m1]; exact (List.getElem?_eq_some_iff.1 hx).1
        have hn : j * kk2 + q < i * kk2 + off ∨ i * kk2 + off + xs.length ≤ j * kk2 + q := by
         rcases Nat.lt_or_gt_of_ne hji with h7 | h7
         ·have := Nat.mul_le_mul_right kk2 (show j + 1 ≤ i by omega)
          rw [Nat.add_mul, Nat.one_mul] at this
          omega
         ·have := Nat.mul_le_mul_right kk2 (show i + 1 ≤ j by omega)
          rw [Nat.add_mul, Nat.one_mul] at this
          omega
        refine ⟨u, ?_, hkx.move (old hn)⟩
        rw [hget]
        rcases hn with hn | hn
        ·rw [if_pos hn]; exact hu
        ·rw [if_neg (by omega), if_neg (by omega)]; exact hu
       ·subst hji
        obtain ⟨m1, m2⟩ := j4 j r0 hr0
        refine ⟨hrk, fun q x hx => ?_⟩
        rcases hq q x hx with ⟨n1, n2, n3⟩ | ⟨n1, n2⟩
        ·obtain ⟨u, lf, f1, f2, f3⟩ := hkid (q - off) x n3
         refine ⟨u, ?_, f3.move (fun g hg => ?_)⟩
         ·rw [hget, if_neg (by omega), if_pos (by omega), show j * kk2 + q - (j * kk2 + off) = q - off by omega]
          exact f2
         ·cases lf with
          | own l0 e0 x0 =>
           have hg : β l0 = some g := hg
           refine ⟨?_, A.same g (h.rng _ g hg).1 (fun e => hlab (by rw [← h.inj _ _ _ hg e]; exact mem_labsOf f1))⟩
           show absB β l2 (β l2) (j * kk2 + off) xs (labsOf xs) (kidL l2 (j * kk2 + q)) = some g
           unfold absB
           rw [decide_eq_false kidL_ne]
           dsimp only
           rw [show j * kk2 + q = j * kk2 + off + (q - off) by omega, srcL_new f1]
           exact hg
          | _ => cases hg
        ·obtain ⟨u, hu, hkx⟩ := m2 q x n2
         have hn : j * kk2 + q < j * kk2 + off ∨ j * kk2 + off + xs.length ≤ j * kk2 + q := by
          rw [hrl] at n1
          omega
         refine ⟨u, ?_, hkx.move (old hn)⟩
         rw [hget]
         rcases hn with hn | hn
         ·rw [if_pos hn]; exact hu
         ·rw [if_neg (by omega), if_neg (by omega)]; exact hu
   ·rw [decide_eq_false hl]
    exact kill hy
  | _ => exact kill hy
 have hlen2 : ∀ {s : Lf} {x x' : PL}, s.arr? = some x → (stoDL lab e' k' i off row (lab :: labsOf xs) s).arr? = some x' → x'.len = x.len ∧ x'.wd = x.wd := by
  intro s x x' hs hs'
  cases s with
  | deep l2 e2 kk2 x2 =>
   unfold stoDL at hs'
   dsimp only at hs'
   split at hs'
   ·split at hs'
    ·cases hs; cases hs'
     exact ⟨by simp only [PL.len]; exact stoD_len, rfl⟩
    ·cases hs'
   ·exact killK_arr hs hs'
  | _ => exact killK_arr (lab := lab) (ls := lab :: labsOf xs) hs hs'
 have hst : (storeVar t ⟨g, i * k' + off, none⟩ (a.eval x)).run F.P w = .ok () (w.setRow g cur') := by
  simp only [storeVar, Sem.run_bind, hsz, Result.andThen, hsz2, ne_eq, not_true_eq_false, if_false, hvs]
  exact hrun
 refine wp_skip_ (w' := w.setRow g cur') ?_ (hK _ undef _ ((A.sim h hsub hnd hlab lf hlen2).put o.dst ⟨[], rfl, True.intro⟩))
 simp [execOp, ho, Instr.storeAt, Instr.sureAddr, hv, hst]

theorem plainL_Fr {N : Nat → Option Nat} : ∀ {xs : List Lf} {ys : List PL} {cs : List Value} {j : Nat}, plainL xs = some ys → All2 (RLf F β w) xs cs → FrLs w ei N j ys cs
 | [], ys, [], _, h, _ => by cases h; exact True.intro
 | x :: xs, ys, c :: cs, j, h, hr => by
  unfold plainL at h
  split at h
  ·rename_i heq; cases heq
  ·rename_i y xs' heq
   cases heq
   split at h
   ·rename_i ys' hA hys
    cases h
    have h1 : PL.R w (fun _ => False) y c := noArr_R hA (show PL.R w (okU F β) y c from hr.1)
    have h2 := plainL_Fr (N := N) (j := j + 1) hys hr.2
    cases y <;> first | (cases hA; done) | exact ⟨h1, h2⟩
   ·cases h
  ·cases h
 | [], _, _ :: _, _, _, h => h.elim
 | _ :: _, _, [], _, _, h => h.elim
theorem plainA_Fr {N : Nat → Option Nat} : ∀ {fs : List FV} {ps : List PV} {vs : List Value} {j : Nat}, plainA fs = some ps → All2 (RFV F β w) fs vs → FrPVs w ei N j ps vs
 | [], ps, [], _, h, _ => by cases h; exact True.intro
 | f :: fs, ps, v :: vs, j, h, hr => by
  unfold plainA at h
  split at h
  ·rename_i heq; cases heq
  ·rename_i b xs fs' heq
   cases heq
   split at h
   ·rename_i ys qs hys hqs
    cases h
    refine ⟨?_, plainA_Fr hqs hr.2⟩
    cases b with
    | true => obtain ⟨cs, rfl, hc⟩ := hr.1; exact ⟨cs, rfl, plainL_Fr hys hc⟩
    | false =>
     obtain ⟨x, rfl, hc⟩ := hr.1
     have h1 := plainL_Fr (ei := ei) (N := N) (j := j) (cs := [v]) hys ⟨hc, True.intro⟩
     cases ys with
     | nil => unfold plainL at hys; split at hys <;> first | (rename_i heq; cases heq; done) | (split at hys <;> cases hys) | cases hys
     | cons y ys =>
      cases ys with
      | nil => exact ⟨y, rfl, h1⟩
      | cons y2 ys =>
       unfold plainL at hys
       split at hys
       ·rename_i heq; cases heq
       ·rename_i heq
        cases heq
        split at hys
        ·rename_i hz; cases hys; cases hz
        ·cases hys
       ·cases hys
   ·cases h
  ·cases h
 | [], _, _ :: _, _, _, h => h.elim
 | _ :: _, _, [], _, _, h => h.elim
theorem hdK_some {l : List FV} {lab : Lab} {e : TypeId} {n : Nat} {z : List Int} {fs : List FV} (h : hdK l = some (lab, e, n, z, fs)) : l = .v false [.kid lab e n z] :: fs := by
 unfold hdK at h
 split at h
 ·cases h; rfl
 ·cases h
theorem hdD_some {l : List FV} {lab : Lab} {e : TypeId} {k : Nat} {x : List (List PL)} {fs : List FV} (h : hdD l = some (lab, e, k, x, fs)) : l = .v false [.deep lab e k x] :: fs := by
 unfold hdD at h
 split at h
 ·cases h; rfl
 ·cases h
theorem kidOks_spec {lab : Lab} {n m : Nat} : ∀ {xs : List Lf} {c : Prop}, kidOks lab n m xs c → (∀ x ∈ xs, ∀ e k q, x = .deep lab e k q → cellLen k n q = some m) ∧ c
 | [], c, h => ⟨fun _ h => (by cases h), h⟩
 | x :: xs, c, h => by
  unfold kidOks at h
  have step : ∀ {c : Prop}, kidOk lab n m x c → (∀ e k q, x = .deep lab e k q → cellLen k n q = some m) ∧ c := by
   intro c h
   cases x with
   | deep l e k q =>
    unfold kidOk at h
    dsimp only at h
    by_cases hl : l = lab
    ·rw [decide_eq_true hl] at h
     obtain ⟨ha, hb⟩ := h
     refine ⟨fun e2 k2 q2 he => ?_, hb⟩
     cases he
     exact ha
    ·rw [decide_eq_false hl] at h
     refine ⟨fun e2 k2 q2 he => ?_, h⟩
     cases he
     exact absurd rfl hl
   | _ => exact ⟨fun _ _ _ he => (by cases he), h⟩
  obtain ⟨h1, h2⟩ := step h
  obtain ⟨h3, h4⟩ := kidOks_spec h2
  refine ⟨fun y hy e k q he => ?_, h4⟩
  rcases List.mem_cons.1 hy with rfl | hy
  ·exact h1 e k q he
  ·exact h3 y hy e k q he
theorem kidT_spec {lab : Lab} {n m : Nat} : ∀ {T : List FV} {c : Prop}, kidT lab n m T c → (∀ f ∈ T, ∀ x ∈ f.lvs2, ∀ e k q, x = .deep lab e k q → cellLen k n q = some m) ∧ c
 | [], c, h => ⟨fun _ h => (by cases h), h⟩
 | f :: fs, c, h => by
  unfold kidT at h
  obtain ⟨h1, h2⟩ := kidOks_spec h
  obtain ⟨h3, h4⟩ := kidT_spec h2
  refine ⟨fun g hg => ?_, h4⟩
  rcases List.mem_cons.1 hg with rfl | hg
  ·exact h1
  ·exact h3 g hg
theorem lenDs_spec {lab : Lab} {m : Nat} : ∀ {xs : List Lf} {c : Prop}, lenDs lab m xs c → (∀ x ∈ xs, ∀ e k q, x = .deep lab e k q → q.length = m) ∧ c
 | [], c, h => ⟨fun _ h => (by cases h), h⟩
 | x :: xs, c, h => by
  have step : (∀ e k q, x = .deep lab e k q → q.length = m) ∧ lenDs lab m xs c := by
   cases x with
   | deep l e k q =>
    unfold lenDs at h
    by_cases hl : l = lab
    ·rw [decide_eq_true hl] at h
     obtain ⟨ha, hb⟩ := h
     refine ⟨fun e2 k2 q2 he => ?_, hb⟩
     cases he
     exact ha
    ·rw [decide_eq_false hl] at h
     refine ⟨fun e2 k2 q2 he => ?_, h⟩
     cases he
     exact absurd rfl hl
   | _ => exact ⟨fun _ _ _ he => (by cases he), h⟩
  obtain ⟨h3, h4⟩ := lenDs_spec step.2
  refine ⟨fun y hy => ?_, h4⟩
  rcases List.mem_cons.1 hy with rfl | hy
  ·exact step.1
  ·exact h3 y hy
theorem lenDT_spec {lab : Lab} {m : Nat} : ∀ {T : List FV} {c : Prop}, lenDT lab m T c → (∀ f ∈ T, ∀ x ∈ f.lvs2, ∀ e k q, x = .deep lab e k q → q.length = m) ∧ c
 | [], c, h => ⟨fun _ h => (by cases h), h⟩
 | f :: fs, c, h => by
  unfold lenDT at h
  obtain ⟨h1, h2⟩ := lenDs_spec h
  obtain ⟨h3, h4⟩ := lenDT_spec h2
  refine ⟨fun g hg => ?_, h4⟩
  rcases List.mem_cons.1 hg with rfl | hg
  ·exact h1
  ·exact h3 g hg

/-- A call that writes one inner slice. -/
theorem s_kid (h : Sim F β T a w) {c : Call} {g : FuncId} (ho : o.op = .call c) (hc : c.callee = .value (.func g)) {lab : Lab} {e : TypeId} {n : Nat} {z : List Int} {fs : List FV} (hd : hdK (c.args.toList.map (opd T)) = some (lab, e, n, z, fs))
  (he : Nat.beq e ei = true) {ps : List PV} (hps : plainA fs = some ps) {z' : List Int} {x : PL} (hden : DenM F.P ei g ((false, [.ints z]) :: ps) ((false, [.ints z']) :: ps) (.one (false, [.p x]))) (hz : z ≠ []) (hl : z'.length = z.length) (hT : kidT lab n z.length T True)
  (hK : ∀ β' c w', Sim F β' (put (T.map (FV.mapK lab [] (kidU lab n z'))) o.dst (.v false [.p x])) (a.put o.dst c) w' → K (a.put o.dst c) w') : o.wp F.P a w K Q := by
 have he := Nat.eq_of_beq_eq_true he
 subst he
 obtain ⟨⟨fn, hfn, hname, hb⟩, hcall⟩ := hden
 have hall := ops_R h c.args.toList
 rw [hdK_some hd] at hall
 have hargs : (c.args.toList.map a.eval).toArray = c.args.map a.eval := by
  apply Array.ext'
  simp
 have hrun := run_enter ho hc (g := g) (a := a) rfl hfn hname hb w
 generalize c.args.toList.map a.eval = vs at *
 cases vs with
 | nil => exact hall.elim
 | cons u us =>
 have hku : KidAt w e (β (kidL lab n)) (.ints z) u := R_v1' hall.1
 rcases hku with ⟨h0, _⟩ | ⟨b, cp, cur, hu, hbl, hh, i1, i2, i3, i4⟩
 ·exact absurd h0 hz
 have hblt := (h.rng _ _ hbl).1
 have hfr : FrPVs w e (fun j => if j = 0 then some b else none) 0 ((false, [.ints z]) :: ps) (u :: us) :=
  ⟨⟨_, rfl, .inr ⟨b, cp, cur, hu, by simp, hh, i1, i2, i3, i4⟩, True.intro⟩, plainA_Fr hps hall.2⟩
 unfold Oper.wp
 rw [hrun, Oper.upon_enter, ← hargs]
 refine (hcall _ w (u :: us) (h.keeps fun k ⟨j, hj⟩ => by
  split at hj
  ·cases hj; exact (h.rng _ _ hbl).2
  ·cases hj) (fun j b' hj => by
  split at hj
  ·cases hj; exact hblt
  ·cases hj) (fun j j' b' hj hj' => by
  by_cases h1 : j = 0
  ·by_cases h2 : j' = 0
   ·rw [h1, h2]
   ·rw [if_neg h2] at hj'; cases hj'
  ·rw [if_neg h1] at hj; cases hj) hfr).mono fun e' w' hhh => ?_
 obtain ⟨v, rfl, ⟨hos, htape, hout, hsize⟩, hkept, hfr', hres⟩ := hhh
 have hsame : ∀ k, k < w.heap.size → k ≠ b → w'.heap[k]? = w.heap[k]? := fun k hk hne => hkept k hk (fun j hj => by
  split at hj
  ·cases hj; exact hne rfl
  ·cases hj)
 -- the slice, as it is now
 have hnew : ∃ cur', w'.heap[b]? = some (.cells cur' e (0, 0)) ∧ cur'.size = cur.size ∧ IntsAt w' b 0 z' ∧ cp = cur.size := by
  obtain ⟨y, hy, hf⟩ := hfr'.1
  cases hy
  have hf : FrA w' e (fun j => if j = 0 then some b else none) 0 z' u := hf.1
  rcases hf with ⟨h1, _⟩ | ⟨b2, c2, cur2, h1, h2, h3, h4, h5, h6, h7⟩
  ·rw [hu] at h1; cases h1
  ·simp only [if_true] at h2
   cases h2
   rw [hu] at h1
   injection h1 with u1 u2 u3
   exact ⟨cur2, h3, by omega, h7, i3.symm⟩
 obtain ⟨cur', hh', hcs, hints, hcp⟩ := hnew
 have hkey : ∀ l2 b2, β l2 = some b2 → l2 ≠ kidL lab n → b2 ≠ b := fun l2 b2 h2 hne e2 => hne (h.inj _ _ _ h2 (e2 ▸ hbl))
 have m : Mv F β β w w' := ⟨hsize, fun k hk hlt => ⟨hk, hsame k hlt (fun e2 => by subst e2; exact hk.2 _ hbl)⟩⟩
 have hkeep : ∀ l2 b2, hitB lab [] l2 = false → β l2 = some b2 → β l2 = some b2 ∧ w'.heap[b2]? = w.heap[b2]? := fun l2 b2 h2 hb2 => ⟨hb2, hsame b2 (h.rng _ _ hb2).1 (hkey l2 b2 hb2 (fun e2 => by
  unfold hitB at h2
  rw [e2, isKid_kidL] at h2
  simp at h2))⟩
 have kill : ∀ {y : Lf} {v : Value}, RLf F β w y v → RLf F β w' (killK lab [] y) v := fun hy => killK_R m hkeep hy
 obtain ⟨hdeep, _⟩ := kidT_spec hT
 have lf : ∀ {f : FV} (_ : f ∈ T) {y : Lf} {v : Value}, y ∈ f.lvs2 → RLf F β w y v → RLf F β w' (kidU lab n z' y) v := by
  intro f hf y v hyf hy
  cases y with
  | deep l2 e2 k2 q2 =>
   unfold kidU
   dsimp only
   by_cases hl2 : l2 = lab
   ·subst hl2
    rw [decide_eq_true rfl]
    dsimp only
    cases hk0 : Nat.blt 0 k2 with
    | false => exact R_one hy
    | true =>
     have hk0 : 0 < k2 := by simpa using hk0
     have hcl := hdeep f hf _ hyf e2 k2 q2 rfl
     refine ⟨hy.1, ?_⟩
     rcases hy.2 with ⟨hv1, h0⟩ | ⟨g3, c3, cur3, e3, hv1, hb3, hh3, j1, j2, j3, j4⟩
     ·refine .inl ⟨hv1, ?_⟩
      apply List.eq_nil_of_length_eq_zero
      rw [stoD_len, h0]
      rfl
     ·have hg3 : g3 ≠ b := hkey _ _ hb3 (fun e4 => kidL_ne e4.symm)
      refine .inr ⟨g3, c3, cur3, e3, by rw [stoD_len]; exact hv1, hb3, by rw [hsame g3 (h.rng _ _ hb3).1 hg3]; exact hh3, by rw [stoD_len]; exact j1, j2, j3, fun j r hr => ?_⟩
      have hother : ∀ {q : Nat} {x : PL} {u2 : Value}, j * k2 + q ≠ n → KidAt w e2 (β (kidL l2 (j * k2 + q))) x u2 → KidAt w' e2 (β (kidL l2 (j * k2 + q))) x u2 := fun hne hkx =>
       hkx.move (fun g hg => ⟨hg, hsame g (h.rng _ _ hg).1 (hkey _ _ hg (fun e4 => hne (kidL_inj e4)))⟩)
      have hm : n % k2 < k2 := Nat.mod_lt _ hk0
      rcases stoD_get (fun r hr => by obtain ⟨j, hj⟩ := List.getElem?_of_mem hr; exact (j4 j r hj).1) (by simp only [List.length_singleton]; omega) hr with ⟨hji, hr0⟩ | ⟨hji, r0, hr0, hrk, hq⟩
      ·obtain ⟨m1, m2⟩ := j4 j r hr0
       refine ⟨m1, fun q x hx => ?_⟩
       obtain ⟨u2, hu2, hkx⟩ := m2 q x hx
       have hql : q < k2 := by rw [← m1]; exact (List.getElem?_eq_some_iff.1 hx).1
       refine ⟨u2, hu2, hother (fun e4 => hji ?_) hkx⟩
       rw [← e4, Nat.mul_comm, Nat.mul_add_div hk0, Nat.div_eq_of_lt hql, Nat.add_zero]
      ·subst hji
       obtain ⟨m1, m2⟩ := j4 _ r0 hr0
       refine ⟨hrk, fun q x hx => ?_⟩
       rcases hq q x hx with ⟨n1, n2, n3⟩ | ⟨n1, n2⟩
       ·simp only [List.length_singleton] at n2
        have hqq : q = n % k2 := by omega
        subst hqq
        rw [Nat.sub_self] at n3
        cases n3
        unfold cellLen at hcl
        rw [hr0] at hcl
        simp only [Option.bind_some] at hcl
        rw [Option.bind_eq_some_iff] at hcl
        obtain ⟨y0, hy0, hy1⟩ := hcl
        obtain ⟨u2, hu2, hkx⟩ := m2 _ y0 hy0
        have hn : n / k2 * k2 + n % k2 = n := by rw [Nat.mul_comm]; exact Nat.div_add_mod n k2
        rw [hn] at hu2 hkx ⊢
        refine ⟨u2, hu2, ?_⟩
        cases y0 <;> first | (cases hy1; done) | skip
        rename_i z0
        have hz0 : z0.length = z.length := by simpa [intsLen] using hy1
        rcases hkx with ⟨h9, _⟩ | ⟨b9, c9, cur9, k1, k2', k3, k4, k5, k6, k7⟩
        ·exfalso; apply hz; apply List.eq_nil_of_length_eq_zero; rw [← hz0, h9]; rfl
        ·have k2' : β (kidL l2 n) = some b9 := k2'
         rw [hbl] at k2'
         cases k2'
         rw [hh] at k3
         cases k3
         exact .inr ⟨b, c9, cur', by rw [hl, ← hz0]; exact k1, hbl, hh', by omega, k5, by omega, hints⟩
       ·obtain ⟨u2, hu2, hkx⟩ := m2 q x n2
        refine ⟨u2, hu2, hother (fun e4 => n1 ?_) hkx⟩
        have hql : q < k2 := by rw [← m1]; exact (List.getElem?_eq_some_iff.1 n2).1
        have : q = n % k2 := by
         have hn : n / k2 * k2 + n % k2 = n := by rw [Nat.mul_comm]; exact Nat.div_add_mod n k2
         omega
        simp only [List.length_singleton]
        omega
   ·rw [decide_eq_false hl2]
    exact kill hy
  | _ => exact kill hy
 have hlen2 : ∀ {s : Lf} {x x' : PL}, s.arr? = some x → (kidU lab n z' s).arr? = some x' → x'.len = x.len ∧ x'.wd = x.wd := by
  intro s x x' hs hs'
  cases s with
  | deep l2 e2 k2 q2 =>
   unfold kidU at hs'
   dsimp only at hs'
   split at hs'
   ·split at hs'
    ·cases hs; cases hs'
     exact ⟨by simp only [PL.len]; exact stoD_len, rfl⟩
    ·cases hs'
   ·exact killK_arr hs hs'
  | _ => exact killK_arr (lab := lab) (ls := []) hs hs'
 have hS : Sim F β (T.map (FV.mapK lab [] (kidU lab n z'))) a w' :=
  {defers := h.defers, size := h.size.trans (by simp), inj := h.inj, rng := fun l b hl => ⟨Nat.lt_of_lt_of_le (h.rng l b hl).1 hsize, (h.rng l b hl).2⟩, os := hos.trans h.os, tape := htape.trans h.tape, output := hout.trans h.output,
   hsize := Nat.le_trans h.hsize hsize, mok := h.mok
   kept := fun k h1 h2 => (hsame k (Nat.lt_of_lt_of_le h1 h.hsize) (fun e4 => by
    subst e4
    rcases (h.rng _ _ hbl).2 with h5 | h5
    ·omega
    ·exact h2 h5)).trans (h.kept k h1 h2)
   rel := fun i f hf => by
    rw [List.getElem?_map] at hf
    obtain ⟨f0, hf0, rfl⟩ := Option.map_eq_some_iff.1 hf
    obtain ⟨c0, hc0, hr0⟩ := h.rel i f0 hf0
    exact ⟨c0, hc0, mapK_R (fun hy hr => lf (List.mem_of_getElem? hf0) hy hr) (fun _ => hlen2) hkeep hr0⟩ }
 obtain ⟨y, hy, hyr⟩ := hres
 cases hy
 exact hK _ _ w' (hS.put o.dst ⟨_, rfl, hyr w' _⟩)
/-- A call that reads only. -/
theorem s_rd (h : Sim F β T a w) {c : Call} {g : FuncId} (ho : o.op = .call c) (hc : c.callee = .value (.func g)) {ps : List PV} (hps : erVs (c.args.toList.map (opd T)) = some ps) {x : PL} (hden : DenD F.P ei g 0 [] ps [] x)
  (hx : x.isA = false ∨ plainFs (c.args.toList.map (opd T)) = true)
  (hK : ∀ β' c w', Sim F β' (put T o.dst (.v false [.p x])) (a.put o.dst c) w' → K (a.put o.dst c) w') : o.wp F.P a w K Q := by
 obtain ⟨⟨fn, hfn, hname, hb⟩, hcall⟩ := hden
 have hall := ops_R h c.args.toList
 have hargs : (c.args.toList.map a.eval).toArray = c.args.map a.eval := by
  apply Array.ext'
  simp
 have hrun := run_enter ho hc (g := g) (a := a) rfl hfn hname hb w
 unfold Oper.wp
 rw [hrun, Oper.upon_enter, ← hargs]
 rcases hx with hx | hpl
 ·refine (hcall (okAny F β) w _ (h.keeps fun _ hx => hx.elim) (erVs_R (fun f _ x _ y v he hx => er_R h he hx) hps hall)).mono fun e w' hh => ?_
  obtain ⟨v, rfl, hbel, hr⟩ := hh
  have hr : RRes w' (fun b => okAny F β b ∨ w.heap.size ≤ b) (.one (false, [x])) v := hr
  obtain ⟨y, hy, hr⟩ := hr
  cases hy
  exact hK _ v w' ((h.grow (Grew.of_below hbel)).put o.dst ⟨_, rfl, noArr_R hx hr⟩)
 ·refine (hcall (okU F β) w _ (h.keeps fun _ hx => hx.elim) (erVs_R (fun f hf x hx y v he hr => er_Ru (by
   unfold plainFs at hpl
   rw [List.all_eq_true] at hpl
   have := hpl f hf
   rw [List.all_eq_true] at this
   simpa using this x hx) he hr) hps hall)).mono fun e w' hh => ?_
  obtain ⟨v, rfl, hbel, hr⟩ := hh
  have hnew : ∀ b, (okU F β b ∨ w.heap.size ≤ b) → okU F β b := by
   intro b hb
   rcases hb with hb | hb
   ·exact hb
   ·exact ⟨.inr (Nat.le_trans h.hsize hb), fun l hl => by have := (h.rng l b hl).1; omega⟩
  have hr : RRes w' (fun b => okU F β b ∨ w.heap.size ≤ b) (.one (false, [x])) v := hr
  exact hK _ v w' ((h.grow (Grew.of_below hbel)).put o.dst (show RFV F β w' (.v false [.p x]) v from RRes_FV (ei := ei) (d := 0) hnew hr))

/-- A call that hands back a new slice of structs. -/
theorem s_shal (h : Sim F β T a w) {c : Call} {g : FuncId} (ho : o.op = .call c) (hc : c.callee = .value (.func g)) {ps : List PV} (hps : erVs (c.args.toList.map (opd T)) = some ps) (hpl : plainFs (c.args.toList.map (opd T)) = true)
  {e : TypeId} {k : Nat} {rows : List (List PL)} (hden : DenH F.P g ps e k rows) (hno : noD T (1000000 + o.dst.getD 0) = true) (hd : o.dst.getD 0 < 1000000)
  (hK : ∀ β' c w', Sim F β' (put T o.dst (.v false [.own (1000000 + o.dst.getD 0, 0) e (.arr k rows)])) (a.put o.dst c) w' → K (a.put o.dst c) w') : o.wp F.P a w K Q := by
 obtain ⟨⟨fn, hfn, hname, hb⟩, hcall⟩ := hden
 have hall := ops_R h c.args.toList
 have hargs : (c.args.toList.map a.eval).toArray = c.args.map a.eval := by
  apply Array.ext'
  simp
 have hrun := run_enter ho hc (g := g) (a := a) rfl hfn hname hb w
 unfold Oper.wp
 rw [hrun, Oper.upon_enter, ← hargs]
 refine (hcall (okU F β) w _ (h.keeps fun _ hx => hx.elim) (erVs_R (fun f hf x hx y v he hr => er_Ru (by
   unfold plainFs at hpl
   rw [List.all_eq_true] at hpl
   have := hpl f hf
   rw [List.all_eq_true] at this
   simpa using this x hx) he hr) hps hall)).mono fun ed w' hh => ?_
 obtain ⟨v, rfl, hbel, hr⟩ := hh
 have hg := Grew.of_below hbel
 rcases hr with ⟨rfl, rfl⟩ | ⟨b, cp, cur, hlt, rfl, hh, k1, k2, k3, k4⟩
 ·exact hK β _ w' ((h.grow hg).put o.dst ⟨_, rfl, ⟨rfl, PinR.low (Nat.add_lt_add_left hd 1000000)⟩, .inl ⟨rfl, rfl⟩⟩)
 ·have hb2 : b < w'.heap.size := heap_lt hh
  have hS := h.label hg (1000000 + o.dst.getD 0) (N1 b) (noD_has hno) (fun j x hx => by
   unfold N1 at hx
   split at hx
   ·cases hx; exact ⟨hlt, hb2⟩
   ·cases hx) (fun j j' x h1 h2 => by
   unfold N1 at h1 h2
   split at h1
   ·split at h2
    ·omega
    ·cases h2
   ·cases h1)
  refine hK _ _ w' (hS.put o.dst ⟨_, rfl, ⟨rfl, PinR.low (Nat.add_lt_add_left hd 1000000)⟩, .inr ⟨b, cp, cur, rfl, relab_0 _ _ _, hh, k1, k2, k3, ?_⟩⟩)
  refine PL.Rows.move (Nat.le_refl _) (fun x hx _ => ⟨?_, rfl⟩) rfl _ _ k4
  obtain ⟨hx, hxb⟩ := hx
  have hold : okU F β x := by
   rcases hx with hx | hx
   ·exact hx
   ·exact ⟨.inr (Nat.le_trans h.hsize hx), fun l hl => by have := (h.rng l x hl).1; omega⟩
  refine ⟨hold.1, fun l hl => ?_⟩
  unfold relab at hl
  split at hl
  ·unfold N1 at hl
   split at hl
   ·cases hl; exact hxb rfl
   ·cases hl
  ·exact hold.2 l hl

/-- A call that writes all of a slice's inner slices. -/
theorem s_deep (h : Sim F β T a w) {c : Call} {g : FuncId} (ho : o.op = .call c) (hc : c.callee = .value (.func g)) {lab : Lab} {e : TypeId} {k : Nat} {l : List (List PL)} {fs : List FV} (hd : hdD (c.args.toList.map (opd T)) = some (lab, e, k, l, fs))
  (he0 : (Nat.beq e ei && Nat.blt 0 k) = true) {ps : List PV} (hps : plainA fs = some ps) {l' : List (List PL)} {x : PL} (hden : DenD F.P ei g k l ps l' x) (hok : okD l' x) (hl : l'.length = l.length) (hT : lenDT lab l.length T True)
  (hK : ∀ β' c w', Sim F β' (put (T.map (FV.mapK lab [lab] (deepU lab e k l'))) o.dst (resDF lab e k l' x)) (a.put o.dst c) w' → K (a.put o.dst c) w') : o.wp F.P a w K Q := by
 rw [Bool.and_eq_true] at he0
 have he := Nat.eq_of_beq_eq_true he0.1
 subst he
 have hden : DenD1 F.P e g k l ps l' x := by
  cases k with
  | zero => cases he0.2
  | succ k => exact hden
 obtain ⟨⟨fn, hfn, hname, hb⟩, hcall⟩ := hden
 have hall := ops_R h c.args.toList
 rw [hdD_some hd] at hall
 have hargs : (c.args.toList.map a.eval).toArray = c.args.map a.eval := by
  apply Array.ext'
  simp
 have hrun := run_enter ho hc (g := g) (a := a) rfl hfn hname hb w
 generalize c.args.toList.map a.eval = vs at *
 cases vs with
 | nil => exact hall.elim
 | cons u us =>
 have hku : RLf F β w (.deep lab e k l) u := R_v1' hall.1
 obtain ⟨hdeep, _⟩ := lenDT_spec hT
 -- the blocks: none, if the slice is nil
 have hob : ∃ (oo : Option Nat) (B : Nat → Option Nat), (∀ b, oo = some b → β lab = some b) ∧ (∀ n b, B n = some b → β (kidL lab n) = some b) ∧ DeepAt w e oo B k l u ∧
   ((u = .slice none 0 0 ∧ l = [] ∧ oo = none ∧ ∀ n, B n = none) ∨ (oo = β lab ∧ u ≠ .slice none 0 0)) := by
  rcases hku.2 with ⟨h1, h2⟩ | h1
  ·exact ⟨none, fun _ => none, fun _ h => (by cases h), fun _ _ h => (by cases h), .inl ⟨h1, h2⟩, .inl ⟨h1, h2, rfl, fun _ => rfl⟩⟩
  ·exact ⟨β lab, fun n => β (kidL lab n), fun _ h => h, fun _ _ h => h, .inr h1, .inr ⟨rfl, fun h2 => by
   obtain ⟨g4, c4, cur4, e4, k1, _⟩ := h1
   rw [k1] at h2
   cases h2⟩⟩
 obtain ⟨oo, B, hoo, hB, hdat, hcase⟩ := hob
 unfold Oper.wp
 rw [hrun, Oper.upon_enter, ← hargs]
 refine (hcall w u us oo B (h.keeps fun k hk => hk.elim (fun hk => (h.rng _ _ (hoo k hk)).2) (fun ⟨n, hk⟩ => (h.rng _ _ (hB n k hk)).2)) (fun b hb => (h.rng _ _ (hoo b hb)).1) (fun n b hb => ⟨(h.rng _ _ (hB n b hb)).1, fun h2 => kidL_ne (h.inj _ _ _ (hB n b hb) (hoo b h2))⟩)
  (fun n m b h1 h2 => kidL_inj (h.inj _ _ _ (hB n b h1) (hB m b h2))) hdat (plainA_Fr hps hall.2)).mono fun e' w' hhh => ?_
 obtain ⟨v, rfl, ⟨hos, htape, hout, hsize⟩, hkept, hres, B', hB', hBi, hdat'⟩ := hhh
 have hsame : ∀ j, j < w.heap.size → β lab ≠ some j → (∀ n, β (kidL lab n) ≠ some j) → w'.heap[j]? = w.heap[j]? := fun j hj h1 h2 =>
  hkept j hj (fun h3 => h1 (hoo j h3)) (fun n h3 => h2 n (hB n j h3))
 obtain ⟨β', hβ⟩ : ∃ β' : BM, β' = fun a => match isKid lab a with | true => B' ((a.2 - lab.2) / 1000 - 1) | false => β a := ⟨_, rfl⟩
 have hkid : ∀ n, β' (kidL lab n) = B' n := fun n => by
  rw [hβ]
  simp only [isKid_kidL, idx_kidL]
 have hnot : ∀ a, isKid lab a = false → β' a = β a := fun a ha => by
  rw [hβ]
  simp only [ha]
 have hk0 : isKid lab lab = false := by
  unfold isKid
  simp
 have hB2 : ∀ n b, B' n = some b → b < w'.heap.size ∧ β lab ≠ some b ∧ ((∃ m, β (kidL lab m) = some b) ∨ w.heap.size ≤ b) := fun n b hb => by
  obtain ⟨h1, h2, h3⟩ := hB' n b hb
  refine ⟨h1, fun h4 => ?_, h3.imp (fun ⟨m, hm⟩ => ⟨m, hB m b hm⟩) id⟩
  rcases h3 with ⟨m, hm⟩ | h3
  ·exact kidL_ne (h.inj _ _ _ (hB m b hm) h4)
  ·exact absurd (h.rng _ _ h4).1 (by omega)
 have hsplit : ∀ a, (∃ n, a = kidL lab n) ∨ isKid lab a = false := fun a => by
  cases hk : isKid lab a with
  | true => exact .inl (isKid_ex hk)
  | false => exact .inr rfl
 have hinj : ∀ l1 l2 b, β' l1 = some b → β' l2 = some b → l1 = l2 := by
  have mixed : ∀ n l2 b, B' n = some b → isKid lab l2 = false → β l2 = some b → False := fun n l2 b hb hk hb2 => by
   rcases (hB2 n b hb).2.2 with ⟨m, hm⟩ | h3
   ·have := h.inj _ _ _ hm hb2
    rw [← this, isKid_kidL] at hk
    cases hk
   ·exact absurd (h.rng _ _ hb2).1 (by omega)
  intro l1 l2 b h1 h2
  rcases hsplit l1 with ⟨n, rfl⟩ | hn <;> rcases hsplit l2 with ⟨m, rfl⟩ | hm
  ·rw [hkid] at h1 h2
   rw [hBi _ _ _ h1 h2]
  ·rw [hkid] at h1
   rw [hnot _ hm] at h2
   exact (mixed _ _ _ h1 hm h2).elim
  ·rw [hkid] at h2
   rw [hnot _ hn] at h1
   exact (mixed _ _ _ h2 hn h1).elim
  ·rw [hnot _ hn] at h1
   rw [hnot _ hm] at h2
   exact h.inj _ _ _ h1 h2
 have hrng : ∀ l1 b, β' l1 = some b → b < w'.heap.size ∧ (F.base ≤ b ∨ b ∈ F.M) := by
  intro l1 b h1
  rcases hsplit l1 with ⟨n, rfl⟩ | hn
  ·rw [hkid] at h1
   obtain ⟨h2, _, h3⟩ := hB2 n b h1
   refine ⟨h2, ?_⟩
   rcases h3 with ⟨m, hm⟩ | h3
   ·exact (h.rng _ _ hm).2
   ·exact .inl (Nat.le_trans h.hsize h3)
  ·rw [hnot _ hn] at h1
   exact ⟨Nat.lt_of_lt_of_le (h.rng _ _ h1).1 hsize, (h.rng _ _ h1).2⟩
 have m : Mv F β β' w w' := ⟨hsize, fun j hj hlt => ⟨⟨hj.1, fun l1 h1 => by
  rcases hsplit l1 with ⟨n, rfl⟩ | hn
  ·rw [hkid] at h1
   rcases (hB2 n j h1).2.2 with ⟨m, hm⟩ | h3
   ·exact hj.2 _ hm
   ·omega
  ·rw [hnot _ hn] at h1
   exact hj.2 _ h1⟩, hsame j hlt (hj.2 _) (fun n => hj.2 _)⟩⟩
 have hkeep : ∀ l2 b2, hitB lab [lab] l2 = false → β l2 = some b2 → β' l2 = some b2 ∧ w'.heap[b2]? = w.heap[b2]? := fun l2 b2 h2 hb2 => by
  unfold hitB at h2
  simp only [List.any_cons, List.any_nil, Bool.or_false, Bool.or_eq_false_iff, decide_eq_false_iff_not] at h2
  refine ⟨by rw [hnot _ h2.2]; exact hb2, hsame b2 (h.rng _ _ hb2).1 (fun h3 => h2.1 (h.inj _ _ _ hb2 h3)) (fun n h3 => ?_)⟩
  have h4 := h2.2
  rw [h.inj _ _ _ hb2 h3, isKid_kidL] at h4
  cases h4
 have kill : ∀ {y : Lf} {v : Value}, RLf F β w y v → RLf F β' w' (killK lab [lab] y) v := fun hy => killK_R m hkeep hy
 have hdat2 : DeepAt w' e oo (fun n => β' (kidL lab n)) k l' u := by
  have e0 : (fun n => β' (kidL lab n)) = B' := funext hkid
  rw [e0]
  exact hdat'
 have lf : ∀ {f : FV} (_ : f ∈ T) {y : Lf} {v : Value}, y ∈ f.lvs2 → RLf F β w y v → RLf F β' w' (deepU lab e k l' y) v := by
  intro f hf y v hyf hy
  cases y with
  | deep l2 e2 k2 q2 =>
   unfold deepU
   dsimp only
   by_cases hl2 : l2 = lab
   ·subst hl2
    rw [decide_eq_true rfl]
    dsimp only
    cases hkk : Nat.beq e2 e && (Nat.beq k2 k && Nat.blt 0 k2) with
    | false => exact R_one hy
    | true =>
     simp only [Bool.and_eq_true] at hkk
     obtain ⟨e5, e6, e7⟩ := hkk
     have e5 := Nat.eq_of_beq_eq_true e5
     have e6 := Nat.eq_of_beq_eq_true e6
     subst e5
     subst e6
     have e7 : 0 < k2 := by simpa using e7
     have hq := hdeep f hf _ hyf _ _ _ rfl
     refine ⟨hy.1, ?_⟩
     show DeepAt w' _ (β' l2) (fun n => β' (kidL l2 n)) k2 l' v
     rw [hnot _ hk0]
     rcases hy.2 with ⟨hv1, h0⟩ | ⟨g3, c3, cur3, e3, hv1, hb3, hh3, j1, j2, j3, j4⟩
     ·refine .inl ⟨hv1, ?_⟩
      apply List.eq_nil_of_length_eq_zero
      rw [hl, ← hq, h0]
      rfl
     ·rcases hcase with ⟨c1, c2, c4, c5⟩ | ⟨c1, c2⟩
      ·have hln : l' = [] := by
        apply List.eq_nil_of_length_eq_zero
        rw [hl, c2]
        rfl
       subst hln
       have hq0 : q2.length = 0 := by rw [hq, c2]; rfl
       refine .inr ⟨g3, c3, cur3, e3, by rw [hv1, hq0]; rfl, hb3, ?_, Nat.zero_le _, j2, j3, fun i r hr => by cases hr⟩
       rw [hkept g3 (h.rng _ _ hb3).1 (by rw [c4]; intro h9; cases h9) (fun n => by rw [c5]; intro h9; cases h9)]
       exact hh3
      ·have hvu : v = u := by
        rcases hku.2 with ⟨k1, k3⟩ | ⟨g4, c4, cur4, e4, k1, k3, k4, k5, k6, k7, _⟩
        ·exact absurd k1 c2
        ·have hb3 : β l2 = some g3 := hb3
         have k3 : β l2 = some g4 := k3
         rw [hb3] at k3
         cases k3
         rw [hh3] at k4
         cases k4
         have : c3 = c4 := Nat.eq_of_mul_eq_mul_right e7 (by rw [← j3, ← k7])
         rw [hv1, k1, this, hq]
       rw [hvu, ← c1]
       exact hdat2
   ·rw [decide_eq_false hl2]
    exact kill hy
  | _ => exact kill hy
 have hlen2 : ∀ {f : FV} (_ : f ∈ T) {s : Lf} {x x' : PL}, s ∈ f.lvs2 → s.arr? = some x → (deepU lab e k l' s).arr? = some x' → x'.len = x.len ∧ x'.wd = x.wd := by
  intro f hf s x x' hsf hs hs'
  cases s with
  | deep l2 e2 k2 q2 =>
   unfold deepU at hs'
   dsimp only at hs'
   by_cases hl2 : l2 = lab
   ·subst hl2
    rw [decide_eq_true rfl] at hs'
    dsimp only at hs'
    have hq := hdeep f hf _ hsf _ _ _ rfl
    split at hs'
    ·cases hs; cases hs'
     exact ⟨by simp only [PL.len]; rw [hl, hq], rfl⟩
    ·cases hs'
   ·rw [decide_eq_false hl2] at hs'
    exact killK_arr hs hs'
  | _ => exact killK_arr (lab := lab) (ls := [lab]) hs hs'
 have hS : Sim F β' (T.map (FV.mapK lab [lab] (deepU lab e k l'))) a w' :=
  {defers := h.defers, size := h.size.trans (by simp), inj := hinj, rng := hrng, os := hos.trans h.os, tape := htape.trans h.tape, output := hout.trans h.output,
   hsize := Nat.le_trans h.hsize hsize, mok := h.mok
   kept := fun j h1 h2 => (hsame j (Nat.lt_of_lt_of_le h1 h.hsize) (fun h5 => by
    rcases (h.rng _ _ h5).2 with h6 | h6
    ·omega
    ·exact h2 h6) (fun n h5 => by
    rcases (h.rng _ _ h5).2 with h6 | h6
    ·omega
    ·exact h2 h6)).trans (h.kept j h1 h2)
   rel := fun i f hf => by
    rw [List.getElem?_map] at hf
    obtain ⟨f0, hf0, rfl⟩ := Option.map_eq_some_iff.1 hf
    obtain ⟨c0, hc0, hr0⟩ := h.rel i f0 hf0
    exact ⟨c0, hc0, mapK_R (fun hy hr => lf (List.mem_of_getElem? hf0) hy hr) (hlen2 (List.mem_of_getElem? hf0)) hkeep hr0⟩ }
 have hrv : RFV F β' w' (resDF lab e k l' x) v := by
  rcases okD_cases hok with ⟨n, q, rfl, hok2⟩ | rfl | hok2
  ·refine ⟨_, rfl, ?_⟩
   obtain ⟨A, m, cp, hu1, hv1⟩ := hres
   have hlt : (l'.take n).length = n := by rw [List.length_take]; omega
   refine ⟨fun A' c' hp => ?_, ?_⟩
   ·obtain ⟨n2, hn2⟩ := hku.1 A' c' hp
    rw [hu1] at hn2
    cases hn2
    exact ⟨n, hv1⟩
   ·show DeepAt w' _ (β' lab) (fun n => β' (kidL lab n)) k (l'.take n) v
    rw [hnot _ hk0]
    rcases hdat2 with ⟨h1, h2⟩ | ⟨g2, c2, cur2, e2, h1, h2, h3, h4, h5, h6, h7⟩
    ·rw [hu1] at h1
     cases h1
     subst h2
     have : n = 0 := by simpa using hok2
     subst this
     exact .inl ⟨hv1, rfl⟩
    ·rw [hu1] at h1
     cases h1
     refine .inr ⟨g2, _, cur2, e2, by rw [hlt]; exact hv1, hoo _ h2, h3, by omega, h5, h6, fun i r hr => h7 i r ?_⟩
     rw [List.getElem?_take] at hr
     split at hr
     ·exact hr
     ·cases hr
  ·exact ⟨[], hres, True.intro⟩
  ·have hx0 : x ≠ .arr 0 [] := fun e => by rw [e] at hok2; cases hok2
   rw [resDF_plain hx0]
   refine ⟨_, rfl, ?_⟩
   have : resD lab e k l' x = .p x := by
    cases x with
    | darr n q => cases hok2
    | _ => rfl
   rw [this]
   exact ResD_plain hok2 hres w' (okU F β')
 exact hK _ _ w' (hS.put o.dst hrv)
end
end Go.Vx
end
section
/- Vx, part 11c: copies between slices of structs. -/
namespace Go.Vx
open Go.RowKit

theorem run_copyK {P : Program} (w : World) (dT sT ty elem : TypeId) (g o dLen dCap : Nat) (a : Addr) (sLen sCap : Nat) (cur : Array Value) (t : TypeId) (cs : List Value) {k : Nat}
  (hu : P.underlying dT = some (.slice elem)) (hs : sizeB P elem k = true)
  (hg : w.heap[g]? = some (.cells cur t (0, 0))) (hn : cs.length = Nat.min sLen dLen * k)
  (hsrc : ∀ j v, cs[j]? = some v → w.cell? (a.add j) = some v) (hfit : o + cs.length ≤ cur.size) (h1 : ∀ v ∈ cs, v.oneCell' = true) :
  (Builtin.copy_ #[dT, sT] ty #[.slice (some ⟨g, o, none⟩) dLen dCap, .slice (some a) sLen sCap]).run P w =
   .ok (goInt (Nat.min sLen dLen)) (w.setRow g (cur.toList.take o ++ cs ++ cur.toList.drop (o + cs.length)).toArray) := by
 have hl := run_loadCells_list (P := P) w a cs hsrc
 have hst := run_storeCells_at P g o t cs 0 cur w hg (by simpa using hfit) h1
 rw [hn] at hl
 simp [Builtin.copy_, run_underlying hu, Builtin.lenOf, Builtin.firstCells, run_size hs, hl, hst]
theorem run_copy0 {P : Program} (w : World) (dT sT ty elem : TypeId) (d a : Option Addr) (dLen dCap sLen sCap : Nat) {k : Nat} (hu : P.underlying dT = some (.slice elem)) (hs : sizeB P elem k = true) (hn : Nat.min sLen dLen = 0) :
  (Builtin.copy_ #[dT, sT] ty #[.slice d dLen dCap, .slice a sLen sCap]).run P w = .ok (goInt 0) w := by
 have hl : ∀ (x : Addr), (loadCells x 0).run P w = .ok #[] w := fun x => by simpa using run_loadCells_list (P := P) w x [] (by simp)
 cases d <;> cases a <;> simp [Builtin.copy_, run_underlying hu, Builtin.lenOf, Builtin.firstCells, run_size hs, hn, storeCells, hl]

section
variable {F : Fr} {β : BM} {T : List FV} {a : Act} {w : World} {o : Oper} {Γ : Tab} {ei : TypeId} {Q : Exit → Act → World → Prop} {K : Act → World → Prop}

theorem lenOs_spec {lab : Lab} {m : Nat} : ∀ {xs : List Lf} {c : Prop}, lenOs lab m xs c → (∀ x ∈ xs, ∀ e k q, x = .own lab e (.arr k q) → q.length = m) ∧ c
 | [], c, h => ⟨fun _ h => (by cases h), h⟩
 | x :: xs, c, h => by
  have step : (∀ e k q, x = .own lab e (.arr k q) → q.length = m) ∧ lenOs lab m xs c := by
   cases x with
   | own l e y =>
    cases y with
    | arr k q =>
     unfold lenOs at h
     by_cases hl : l = lab
     ·rw [decide_eq_true hl] at h
      obtain ⟨ha, hb⟩ := h
      refine ⟨fun e2 k2 q2 he => ?_, hb⟩
      cases he
      exact ha
     ·rw [decide_eq_false hl] at h
      refine ⟨fun e2 k2 q2 he => ?_, h⟩
      cases he
      exact absurd rfl hl
    | _ => exact ⟨fun _ _ _ he => (by cases he), h⟩
   | _ => exact ⟨fun _ _ _ he => (by cases he), h⟩
  obtain ⟨h3, h4⟩ := lenOs_spec step.2
  refine ⟨fun y hy => ?_, h4⟩
  rcases List.mem_cons.1 hy with rfl | hy
  ·exact step.1
  ·exact h3 y hy
theorem lenOT_spec {lab : Lab} {m : Nat} : ∀ {T : List FV} {c : Prop}, lenOT lab m T c → (∀ f ∈ T, ∀ x ∈ f.lvs2, ∀ e k q, x = .own lab e (.arr k q) → q.length = m) ∧ c
 | [], c, h => ⟨fun _ h => (by cases h), h⟩
 | f :: fs, c, h => by
  unfold lenOT at h
  obtain ⟨h1, h2⟩ := lenOs_spec h
  obtain ⟨h3, h4⟩ := lenOT_spec h2
  refine ⟨fun g hg => ?_, h4⟩
  rcases List.mem_cons.1 hg with rfl | hg
  ·exact h1
  ·exact h3 g hg

/-- Elements of an own slice of structs are written. -/
theorem copy_sim (h : Sim F β T a w) {lab : Lab} {e : TypeId} {k g c : Nat} {cur : Array Value} (hb : β lab = some g) (hh : w.heap[g]? = some (.cells cur e (0, 0))) (hsz : cur.size = c * k) {i m : Nat} {l new rows : List (List PL)} (hLc : l.length ≤ c) (him : i + m ≤ l.length)
  (hnew : new.length = m) {vs : List Value} (hvl : vs.length = m * k) (hvs : ∀ (q : Nat) (r : List PL), new[q]? = some r → r.length = k ∧ ∀ (t : Nat) (x : PL), r[t]? = some x → ∃ u, vs[q * k + t]? = some u ∧ PL.R w (okU F β) x u)
  (hAt : PL.Rows w (okU F β) k g 0 l) (hrows : rows = l.take i ++ (new ++ l.drop (i + m))) (hT : lenOT lab l.length T True) :
  Sim F β (T.map (FV.mapLB lab (setA lab k rows))) a (w.setRow g (cur.toList.take (i * k) ++ vs ++ cur.toList.drop (i * k + vs.length)).toArray) := by
 have hfit : i * k + vs.length ≤ cur.size := by
  rw [hvl, hsz, ← Nat.add_mul]
  exact Nat.mul_le_mul_right k (by omega)
 generalize hcs' : (cur.toList.take (i * k) ++ vs ++ cur.toList.drop (i * k + vs.length)).toArray = cur'
 have hcur' : cur'.size = cur.size := by rw [← hcs']; simp; omega
 have hget : ∀ j, cur'[j]? = if j < i * k then cur[j]? else if j < i * k + m * k then vs[j - i * k]? else cur[j]? := by
  intro j
  rw [← hcs']
  have hgm := get_mid (cc := cur.toList) (mid := vs) (i := i * k) (q := j) (by simp; omega)
  simp only [List.getElem?_toArray]
  rw [hgm, hvl]
  simp
 have hrl : rows.length = l.length := by rw [hrows]; simp; omega
 have hrget : ∀ q, rows[q]? = if q < i then l[q]? else if q < i + m then new[q - i]? else l[q]? := by
  intro q
  have hgm := get_mid (cc := l) (mid := new) (i := i) (q := q) (by omega)
  rw [hrows, ← List.append_assoc, ← hnew, hgm, hnew]
 have mv := Mv.own h hb cur'
 have hheap := setRow_heap w g cur cur' e (0, 0) hh
 have hnew' : PL.Rows (w.setRow g cur') (okU F β) k g 0 rows := by
  refine PL.Rows.of_get fun q2 rr hq2 => ?_
  rw [hrget] at hq2
  have old : ∀ (_ : l[q2]? = some rr) (_ : q2 < i ∨ i + m ≤ q2), rr.length = k ∧ PL.Cells (w.setRow g cur') (okU F β) g (0 + q2 * k) rr := by
   intro hq2 hout
   obtain ⟨g1, g2⟩ := PL.Rows.get hAt q2 rr hq2
   refine ⟨g1, PL.Cells.of_get fun m2 xx hm2 => ?_⟩
   obtain ⟨u, hu, hxu⟩ := g2.get m2 xx hm2
   refine ⟨u, ?_, PL.R.move mv.hs mv.ok _ _ hxu⟩
   have hm3 : m2 < k := by rw [← g1]; exact (List.getElem?_eq_some_iff.1 hm2).1
   rw [cell_of_row _ g _ cur e (0, 0) hh, Nat.zero_add] at hu
   rw [cell_of_row _ g _ cur' e (0, 0) hheap, Nat.zero_add, hget]
   rcases hout with h7 | h7
   ·have := Nat.mul_le_mul_right k (show q2 + 1 ≤ i by omega)
    rw [Nat.add_mul, Nat.one_mul] at this
    rw [if_pos (by omega)]
    exact hu
   ·have := Nat.mul_le_mul_right k h7
    rw [Nat.add_mul] at this
    rw [if_neg (by omega), if_neg (by omega)]
    exact hu
  by_cases c1 : q2 < i
  ·rw [if_pos c1] at hq2
   exact old hq2 (.inl c1)
  ·rw [if_neg c1] at hq2
   by_cases c2 : q2 < i + m
   ·rw [if_pos c2] at hq2
    obtain ⟨g1, g2⟩ := hvs _ _ hq2
    refine ⟨g1, PL.Cells.of_get fun m2 xx hm2 => ?_⟩
    obtain ⟨u, hu, hxu⟩ := g2 m2 xx hm2
    refine ⟨u, ?_, PL.R.move mv.hs mv.ok _ _ hxu⟩
    have hm3 : m2 < k := by rw [← g1]; exact (List.getElem?_eq_some_iff.1 hm2).1
    have e1 : q2 * k = i * k + (q2 - i) * k := by rw [← Nat.add_mul]; congr 1; omega
    have e2 := Nat.mul_le_mul_right k (show (q2 - i) + 1 ≤ m by omega)
    rw [Nat.add_mul, Nat.one_mul] at e2
    rw [cell_of_row _ g _ cur' e (0, 0) hheap, Nat.zero_add, hget, if_neg (by omega), if_pos (by omega), e1, show i * k + (q2 - i) * k + m2 - i * k = (q2 - i) * k + m2 by omega]
    exact hu
   ·rw [if_neg c2] at hq2
    exact old hq2 (.inr (by omega))
 obtain ⟨hlen, _⟩ := lenOT_spec hT
 have lf : ∀ {f : FV} (_ : f ∈ T) {y : Lf} {v : Value}, y ∈ f.lvs2 → RLf F β w y v → RLf F β (w.setRow g cur') (setA lab k rows y) v := by
  intro f hf y v hyf hy
  cases y with
  | own l2 e2 q =>
   unfold setA
   dsimp only
   by_cases hl : l2 = lab
   ·subst hl
    rw [decide_eq_true rfl]
    dsimp only
    cases q with
    | arr k2 q =>
     dsimp only
     cases hkk : Nat.beq k2 k with
     | false => exact R_one hy
     | true =>
      have hkk : k2 = k := Nat.eq_of_beq_eq_true hkk
      subst hkk
      dsimp only
      have hql := hlen f hf _ hyf _ _ _ rfl
      obtain ⟨⟨_, hpn⟩, hy⟩ := hy
      refine ⟨⟨rfl, hpn⟩, ?_⟩
      rcases hy with ⟨hv, h0⟩ | ⟨g2, c2, cur2, hv, hb2, hh2, j1, j2, j3, j4⟩
      ·have h0 : q.length = 0 := h0
       exact .inl ⟨hv, by show rows.length = 0; omega⟩
      ·rw [hb] at hb2
       cases hb2
       rw [hh] at hh2
       cases hh2
       have hv : v = .slice (some ⟨g, 0, none⟩) q.length c2 := hv
       have j1 : q.length ≤ c2 := j1
       exact .inr ⟨g, c2, cur', by show v = .slice _ rows.length c2; rw [hrl, ← hql]; exact hv, hb, hheap, by show rows.length ≤ c2; omega, j2, by rw [hcur']; exact j3, hnew'⟩
    | _ => exact R_one hy
   ·rw [decide_eq_false hl]
    exact hy.move mv (fun l3 b hl3 hb3 => ⟨hb3, setRow_other w g b cur' (fun e => hl (by
     subst e
     simp [Lf.has] at hl3
     rw [hl3]
     exact h.inj _ _ _ hb3 hb))⟩)
  | deep l2 e2 k2 q => exact safeL_own h hb cur' hy
  | kid l2 e2 n2 q => exact safeL_own h hb cur' hy
  | _ => exact RLf.move mv (fun l3 b hl3 hb3 => by cases hl3) hy
 refine h.stored hb cur' (by simp) (fun q f f' cc hf hf' hr => ?_)
 rw [List.getElem?_map, hf] at hf'
 cases hf'
 have hfm : f ∈ T := List.mem_of_getElem? hf
 have hlen2 : ∀ {s : Lf} {x x' : PL}, s ∈ f.lvs2 → s.arr? = some x → (setA lab k rows s).arr? = some x' → x'.len = x.len ∧ x'.wd = x.wd := by
  intro s x x' hsm hs hs'
  cases s with
  | own l2 e2 q =>
   unfold setA at hs'
   dsimp only at hs'
   by_cases hl : l2 = lab
   ·subst hl
    rw [decide_eq_true rfl] at hs'
    dsimp only at hs'
    cases q with
    | arr k2 q =>
     have hql := hlen f hfm _ hsm _ _ _ rfl
     dsimp only at hs'
     split at hs'
     ·cases hs; cases hs'
      exact ⟨by show rows.length = q.length; omega, rfl⟩
     ·cases hs'
    | _ => cases hs'
   ·rw [decide_eq_false hl] at hs'
    rw [hs] at hs'; cases hs'; exact ⟨rfl, rfl⟩
  | deep l2 e2 k2 q =>
   rcases safeL_arr (lab := lab) hs with h1 | h1
   ·have e : some x = some x' := hs.symm.trans ((congrArg Lf.arr? h1).symm.trans hs'); cases e; exact ⟨rfl, rfl⟩
   ·rw [show (setA lab k rows (.deep l2 e2 k2 q)).arr? = none from h1] at hs'; cases hs'
  | kid l2 e2 n2 q => cases hs
  | _ => have e : some x = some x' := hs.symm.trans hs'; cases e; exact ⟨rfl, rfl⟩
 have plain : (∀ l, f.hasB l = true → l ≠ lab) → RFV F β (w.setRow g cur') (f.mapL (setA lab k rows)) cc := fun hb2 =>
  mapL_R (fun hy hr => lf hfm hy hr) hlen2 (fun l2 hfe g0 cc0 ty0 hb0 hh0 => ⟨hb0, by
   rw [setRow_other w g g0 cur' (fun e => hb2 _ hfe (by subst e; exact h.inj _ _ _ hb0 hb))]
   exact hh0⟩) hr
 cases f with
 | box l2 cs2 off2 =>
  unfold FV.mapLB
  dsimp only
  by_cases hne : l2 = lab
  ·rw [decide_eq_true hne]; exact True.intro
  ·rw [decide_eq_false hne]
   exact plain (fun l e => by simp only [FV.hasB, decide_eq_true_eq] at e; rw [← e]; exact hne)
 | lit l2 k2 cs2 =>
  unfold FV.mapLB
  dsimp only
  by_cases hne : l2 = lab
  ·rw [decide_eq_true hne]; exact True.intro
  ·rw [decide_eq_false hne]
   exact plain (fun l e => by simp only [FV.hasB, decide_eq_true_eq] at e; rw [← e]; exact hne)
 | any => exact True.intro
 | v b xs => exact plain (fun l e => by cases e)
 | tup vs => exact plain (fun l e => by cases e)
 | elt s i off => exact plain (fun l e => by cases e)
 | sub s i off => exact plain (fun l e => by cases e)
/-- The cells of rows in a block, as a list. -/
theorem rows_cells {ok : Nat → Prop} {k g : Nat} : ∀ {q : List (List PL)} {o : Nat}, PL.Rows w ok k g o q → ∃ vs : List Value, vs.length = q.length * k ∧ (∀ (j : Nat) (v : Value), vs[j]? = some v → w.cell? ⟨g, o + j, none⟩ = some v) ∧
  ∀ (i : Nat) (r : List PL), q[i]? = some r → r.length = k ∧ ∀ (t : Nat) (x : PL), r[t]? = some x → ∃ u, vs[i * k + t]? = some u ∧ PL.R w ok x u
 | [], o, _ => ⟨[], by simp, fun j v h => by simp at h, fun i r h => by simp at h⟩
 | r :: q, o, h => by
  unfold PL.Rows at h
  obtain ⟨h1, h2, h3⟩ := h
  obtain ⟨vs, e1, e2, e3⟩ := rows_cells h3
  have hrow : ∃ us : List Value, us.length = r.length ∧ ∀ t x, r[t]? = some x → ∃ u, us[t]? = some u ∧ w.cell? ⟨g, o + t, none⟩ = some u ∧ PL.R w ok x u := by
   clear h1 h3 e1 e2 e3
   induction r generalizing o with
   | nil => exact ⟨[], rfl, fun t x h => by simp at h⟩
   | cons x r ih =>
    unfold PL.Cells at h2
    obtain ⟨⟨u, hu, hx⟩, h2⟩ := h2
    obtain ⟨us, g1, g2⟩ := ih (o := o + 1) h2
    refine ⟨u :: us, by simp [g1], fun t y hy => ?_⟩
    cases t with
    | zero => simp at hy; subst hy; exact ⟨u, by simp, hu, hx⟩
    | succ t =>
     obtain ⟨u2, k1, k2, k3⟩ := g2 t y (by simpa using hy)
     exact ⟨u2, by simpa using k1, by rw [show o + (t + 1) = o + 1 + t by omega]; exact k2, k3⟩
  obtain ⟨us, g1, g2⟩ := hrow
  refine ⟨us ++ vs, by rw [List.length_append, g1, h1, e1, List.length_cons, Nat.add_mul, Nat.one_mul, Nat.add_comm], fun j v hj => ?_, fun i r' hr' => ?_⟩
  ·rw [List.getElem?_append] at hj
   split at hj
   ·rename_i hlt
    obtain ⟨u, k1, k2, _⟩ := g2 j r[j] (List.getElem?_eq_getElem (by omega))
    rw [hj] at k1
    cases k1
    exact k2
   ·rename_i hlt
    have := e2 _ _ hj
    rwa [show o + k + (j - us.length) = o + j by omega] at this
  ·cases i with
   | zero =>
    simp at hr'
    subst hr'
    refine ⟨h1, fun t x hx => ?_⟩
    obtain ⟨u, k1, _, k3⟩ := g2 t x hx
    refine ⟨u, ?_, k3⟩
    have ht : t < us.length := (List.getElem?_eq_some_iff.1 k1).1
    rw [Nat.zero_mul, Nat.zero_add, List.getElem?_append_left ht]
    exact k1
   | succ i =>
    obtain ⟨k1, k2⟩ := e3 i r' (by simpa using hr')
    refine ⟨k1, fun t x hx => ?_⟩
    obtain ⟨u, k3, k4⟩ := k2 t x hx
    refine ⟨u, ?_, k4⟩
    rw [List.getElem?_append_right (by rw [g1, h1, Nat.add_mul, Nat.one_mul]; omega), g1, h1, show (i + 1) * k + t - k = i * k + t by rw [Nat.add_mul, Nat.one_mul]; omega]
    exact k3

theorem take_cells {k m : Nat} {q : List (List PL)} {vs : List Value} {R : PL → Value → Prop} (hl : vs.length = q.length * k) (hm : m ≤ q.length)
  (h : ∀ (i : Nat) (r : List PL), q[i]? = some r → r.length = k ∧ ∀ (t : Nat) (x : PL), r[t]? = some x → ∃ u, vs[i * k + t]? = some u ∧ R x u) :
  (vs.take (m * k)).length = m * k ∧ ∀ (i : Nat) (r : List PL), (q.take m)[i]? = some r → r.length = k ∧ ∀ (t : Nat) (x : PL), r[t]? = some x → ∃ u, (vs.take (m * k))[i * k + t]? = some u ∧ R x u := by
 have hmk := Nat.mul_le_mul_right k hm
 refine ⟨by rw [List.length_take]; omega, fun i r hr => ?_⟩
 rw [List.getElem?_take] at hr
 split at hr
 ·rename_i hi
  obtain ⟨h1, h2⟩ := h i r hr
  refine ⟨h1, fun t x hx => ?_⟩
  obtain ⟨u, hu, hxu⟩ := h2 t x hx
  have ht : t < k := by rw [← h1]; exact (List.getElem?_eq_some_iff.1 hx).1
  have := Nat.mul_le_mul_right k (show i + 1 ≤ m by omega)
  rw [Nat.add_mul, Nat.one_mul] at this
  exact ⟨u, by rw [List.getElem?_take, if_pos (by omega)]; exact hu, hxu⟩
 ·cases hr
theorem drop_cells {k i2 : Nat} {q : List (List PL)} {vs : List Value} {R : PL → Value → Prop}
  (h : ∀ (i : Nat) (r : List PL), q[i]? = some r → r.length = k ∧ ∀ (t : Nat) (x : PL), r[t]? = some x → ∃ u, vs[i * k + t]? = some u ∧ R x u) :
  ∀ (i : Nat) (r : List PL), (q.drop i2)[i]? = some r → r.length = k ∧ ∀ (t : Nat) (x : PL), r[t]? = some x → ∃ u, (vs.drop (i2 * k))[i * k + t]? = some u ∧ R x u := by
 intro i r hr
 rw [List.getElem?_drop] at hr
 obtain ⟨h1, h2⟩ := h _ r hr
 refine ⟨h1, fun t x hx => ?_⟩
 obtain ⟨u, hu, hxu⟩ := h2 t x hx
 refine ⟨u, ?_, hxu⟩
 rw [List.getElem?_drop, show i2 * k + (i * k + t) = (i2 + i) * k + t by rw [Nat.add_mul, Nat.add_assoc]]
 exact hu

theorem one_of {k m : Nat} {new : List (List PL)} {vs : List Value} {ok : Nat → Prop} (hl : vs.length = m * k) (hm : new.length = m)
  (h : ∀ (i : Nat) (r : List PL), new[i]? = some r → r.length = k ∧ ∀ (t : Nat) (x : PL), r[t]? = some x → ∃ u, vs[i * k + t]? = some u ∧ PL.R w ok x u) : ∀ v ∈ vs, v.oneCell' = true := by
 intro v hv
 obtain ⟨j, hj⟩ := List.getElem?_of_mem hv
 have hjl : j < m * k := by rw [← hl]; exact (List.getElem?_eq_some_iff.1 hj).1
 have hk : 0 < k := by
  rcases Nat.eq_zero_or_pos k with h0 | h0
  ·rw [h0, Nat.mul_zero] at hjl; omega
  ·exact h0
 have hq : j / k < m := by
  rw [Nat.div_lt_iff_lt_mul hk]
  exact hjl
 obtain ⟨h1, h2⟩ := h (j / k) new[j / k] (List.getElem?_eq_getElem (by omega))
 obtain ⟨u, hu, hxu⟩ := h2 (j % k) _ (List.getElem?_eq_getElem (by rw [h1]; exact Nat.mod_lt _ hk))
 have e : j / k * k + j % k = j := by rw [Nat.mul_comm]; exact Nat.div_add_mod j k
 rw [e, hj] at hu
 cases hu
 exact PL.R.one hxu

/-- The same rows, told anew. -/
theorem setA_same (h : Sim F β T a w) {lab : Lab} {k : Nat} {rows : List (List PL)} (hlf : ∀ e x v, RLf F β w (.own lab e (.arr k x)) v → x.length = rows.length → RLf F β w (.own lab e (.arr k rows)) v) (hT : lenOT lab rows.length T True) :
  Sim F β (T.map (FV.mapLB lab (setA lab k rows))) a w := by
 obtain ⟨hlen, _⟩ := lenOT_spec hT
 have mv : Mv F β β w w := ⟨Nat.le_refl _, fun g hg _ => ⟨hg, rfl⟩⟩
 have hsafe : ∀ {x : Lf} {v : Value}, RLf F β w x v → RLf F β w (safeL lab x) v := fun hx => safeL_R mv (fun l g _ hb => ⟨hb, rfl⟩) hx
 have lf : ∀ {f : FV} (_ : f ∈ T) {y : Lf} {v : Value}, y ∈ f.lvs2 → RLf F β w y v → RLf F β w (setA lab k rows y) v := by
  intro f hf y v hyf hy
  cases y with
  | own l2 e2 q =>
   unfold setA
   dsimp only
   by_cases hl : l2 = lab
   ·subst hl
    rw [decide_eq_true rfl]
    dsimp only
    cases q with
    | arr k2 q =>
     dsimp only
     cases hkk : Nat.beq k2 k with
     | false => exact R_one hy
     | true =>
      have hkk : k2 = k := Nat.eq_of_beq_eq_true hkk
      subst hkk
      exact hlf _ _ _ hy (hlen f hf _ hyf _ _ _ rfl)
    | _ => exact R_one hy
   ·rw [decide_eq_false hl]
    exact hy
  | deep l2 e2 k2 q => exact hsafe hy
  | kid l2 e2 n2 q => exact hsafe hy
  | _ => exact hy
 refine { h with size := h.size.trans (by simp), rel := fun j f' hf' => ?_ }
 rw [List.getElem?_map] at hf'
 obtain ⟨f, hf, rfl⟩ := Option.map_eq_some_iff.1 hf'
 obtain ⟨cc, hcc, hr⟩ := h.rel j f hf
 refine ⟨cc, hcc, ?_⟩
 have hfm : f ∈ T := List.mem_of_getElem? hf
 have hlen2 : ∀ {s : Lf} {x x' : PL}, s ∈ f.lvs2 → s.arr? = some x → (setA lab k rows s).arr? = some x' → x'.len = x.len ∧ x'.wd = x.wd := by
  intro s x x' hsm hs hs'
  cases s with
  | own l2 e2 q =>
   unfold setA at hs'
   dsimp only at hs'
   by_cases hl : l2 = lab
   ·subst hl
    rw [decide_eq_true rfl] at hs'
    dsimp only at hs'
    cases q with
    | arr k2 q =>
     have hql := hlen f hfm _ hsm _ _ _ rfl
     dsimp only at hs'
     split at hs'
     ·cases hs; cases hs'
      exact ⟨by show rows.length = q.length; omega, rfl⟩
     ·cases hs'
    | _ => cases hs'
   ·rw [decide_eq_false hl] at hs'
    rw [hs] at hs'; cases hs'; exact ⟨rfl, rfl⟩
  | deep l2 e2 k2 q =>
   rcases safeL_arr (lab := lab) hs with h1 | h1
   ·have e : some x = some x' := hs.symm.trans ((congrArg Lf.arr? h1).symm.trans hs'); cases e; exact ⟨rfl, rfl⟩
   ·rw [show (setA lab k rows (.deep l2 e2 k2 q)).arr? = none from h1] at hs'; cases hs'
  | kid l2 e2 n2 q => cases hs
  | _ => have e : some x = some x' := hs.symm.trans hs'; cases e; exact ⟨rfl, rfl⟩
 have plain : RFV F β w (f.mapL (setA lab k rows)) cc := mapL_R (fun hy hr => lf hfm hy hr) hlen2 (fun l2 _ g0 cc0 ty0 hb0 hh0 => ⟨hb0, hh0⟩) hr
 cases f with
 | box l2 cs2 off2 =>
  unfold FV.mapLB
  dsimp only
  by_cases hne : l2 = lab
  ·rw [decide_eq_true hne]; exact True.intro
  ·rw [decide_eq_false hne]
   exact plain
 | lit l2 k2 cs2 =>
  unfold FV.mapLB
  dsimp only
  by_cases hne : l2 = lab
  ·rw [decide_eq_true hne]; exact True.intro
  ·rw [decide_eq_false hne]
   exact plain
 | any => exact True.intro
 | v b xs => exact plain
 | tup vs => exact plain
 | elt s i off => exact plain
 | sub s i off => exact plain

/-- Elements are copied; the general case. -/
theorem copy_gen (h : Sim F β T a w) {lab : Lab} {e : TypeId} {k : Nat} {l rows new : List (List PL)} {v : Value} (hv : RLf F β w (.own lab e (.arr k l)) v) {dT ty el : TypeId} (hu : F.P.underlying dT = some (.slice el)) (hsz : sizeB F.P el k = true)
  {i m dLen : Nat} {d : Value} (hd : ∀ g c, v = .slice (some ⟨g, 0, none⟩) l.length c → ∃ dc, d = .slice (some ⟨g, i * k, none⟩) dLen dc) (hd0 : v = .slice none 0 0 → ∃ A dc, d = .slice A dLen dc)
  {A : Option Addr} {sLen sc : Nat} (hm : m = Nat.min sLen dLen) (him : i + m ≤ l.length) (hnew : new.length = m)
  (hsrc : m ≠ 0 → ∃ (ad : Addr) (vs : List Value), A = some ad ∧ vs.length = m * k ∧ (∀ (j : Nat) (u : Value), vs[j]? = some u → w.cell? (ad.add j) = some u) ∧
   ∀ (q : Nat) (r : List PL), new[q]? = some r → r.length = k ∧ ∀ (t : Nat) (x : PL), r[t]? = some x → ∃ u, vs[q * k + t]? = some u ∧ PL.R w (okU F β) x u)
  (hrows : rows = l.take i ++ (new ++ l.drop (i + m))) (hT : lenOT lab l.length T True) :
  ∃ w', (Builtin.copy_ #[dT, dT] ty #[d, .slice A sLen sc]).run F.P w = .ok (goInt m) w' ∧ Sim F β (T.map (FV.mapLB lab (setA lab k rows))) a w' := by
 by_cases h0 : m = 0
 ·have hn : new = [] := List.eq_nil_of_length_eq_zero (by omega)
  have hrl : rows = l := by rw [hrows, hn, h0]; simp
  subst hrl
  have hdd : ∃ A dc, d = .slice A dLen dc := by
   rcases hv.2 with ⟨h1, _⟩ | ⟨g, c, cur, h1, _⟩
   ·exact hd0 h1
   ·obtain ⟨dc, hd1⟩ := hd g c h1
    exact ⟨_, dc, hd1⟩
  obtain ⟨A2, dc, rfl⟩ := hdd
  refine ⟨w, by rw [run_copy0 w dT dT ty el A2 A dLen dc sLen sc hu hsz (by omega), h0]; rfl, setA_same h (fun e2 x v2 hx hxl => ?_) hT⟩
  rcases hv.2 with ⟨h1, h2⟩ | ⟨g, c, cur, h1, h2, h3, h4, h5, h6, h7⟩
  ·have h2 : rows.length = 0 := h2
   have e1 : rows = [] := List.eq_nil_of_length_eq_zero h2
   have e2 : x = [] := List.eq_nil_of_length_eq_zero (by omega)
   rw [e1]
   rw [e2] at hx
   exact hx
  ·refine ⟨hx.1, ?_⟩
   rcases hx.2 with ⟨g1, g2⟩ | ⟨g', c', cur', g1, g2, g3, g4, g5, g6, g7⟩
   ·have g2 : x.length = 0 := g2
    exact .inl ⟨g1, by show rows.length = 0; omega⟩
   ·rw [h2] at g2
    cases g2
    rw [h3] at g3
    cases g3
    have g1 : v2 = .slice (some ⟨g, 0, none⟩) x.length c' := g1
    have g4 : x.length ≤ c' := g4
    exact .inr ⟨g, c', cur, by show v2 = .slice _ rows.length c'; rw [← hxl]; exact g1, h2, h3, by show rows.length ≤ c'; omega, g5, g6, h7⟩
 ·obtain ⟨ad, vs, rfl, hvl, hcell, hvs⟩ := hsrc h0
  rcases hv.2 with ⟨_, h2⟩ | ⟨g, c, cur, h1, h2, h3, h4, h5, h6, h7⟩
  ·have h2 : l.length = 0 := h2
   omega
  ·obtain ⟨dc, rfl⟩ := hd g c h1
   have h4 : l.length ≤ c := h4
   have h6 : cur.size = c * k := h6
   have hfit : i * k + vs.length ≤ cur.size := by
    rw [hvl, h6, ← Nat.add_mul]
    exact Nat.mul_le_mul_right k (by omega)
   refine ⟨_, ?_, copy_sim h h2 h3 h6 h4 him hnew hvl hvs h7 hrows hT⟩
   rw [run_copyK w dT dT ty el g (i * k) dLen dc ad sLen sc cur e vs hu hsz h3 (by rw [hvl, hm]) hcell hfit (one_of hvl hnew hvs), hm]

theorem s_copyA (h : Sim F β T a w) (hT : tabB F.P ei Γ = true) {c : Call} (ho : o.op = .call c) (hc : c.callee = .builtin .copy) {d s : Operand} {t : TypeId} (hargs : c.args.toList = [d, s]) (hts : c.argTypes.toList = [t, t]) {r : TyRow} (hr : Γ.get t = some r)
  {lab : Lab} {e : TypeId} {k k2 : Nat} {l q : List (List PL)} (hd : opd T d = .v false [.own lab e (.arr k l)]) (hs : opd T s = .v false [.p (.arr k2 q)]) (hk : (Nat.beq k k2 && tyArr r.ty (.arr k l)) = true)
  {m : Nat} {rows : List (List PL)} (hm : m = min q.length l.length) (hrows : rows = q.take m ++ l.drop m) (hlen : lenOT lab l.length T True)
  (hK : ∀ β' c w', Sim F β' (put (T.map (FV.mapLB lab (setA lab k rows))) o.dst (.v false [.p (.int .i64 (m : Nat))])) (a.put o.dst c) w' → K (a.put o.dst c) w') : o.wp F.P a w K Q := by
 rw [Bool.and_eq_true] at hk
 have hkk := Nat.eq_of_beq_eq_true hk.1
 subst hkk
 have hargs' : c.args = #[d, s] := by cases hq : c.args; rw [hq] at hargs; simp at hargs; rw [hargs]
 have hts' : c.argTypes = #[t, t] := by cases hq : c.argTypes; rw [hq] at hts; simp at hts; rw [hts]
 obtain ⟨hid, hrow⟩ := tab_row hT hr
 obtain ⟨el, hu, hsz⟩ := row_arr (by unfold tabB at hT; rw [Bool.and_eq_true] at hT; exact hT.1) hrow hk.2 hid
 have hsz : sizeB F.P el k = true := hsz
 have h1 := opd_R h d
 have h2 := opd_R h s
 rw [hd] at h1
 rw [hs] at h2
 have h1 : RLf F β w (.own lab e (.arr k l)) (a.eval d) := R_v1' h1
 have h2 : PL.R w (okU F β) (.arr k q) (a.eval s) := R_v1 h2
 obtain ⟨A, cs, hv2, q1, q2, q3⟩ := h2
 obtain ⟨w', hrun, hS⟩ := copy_gen h h1 (dT := t) (ty := o.type) hu hsz (i := 0) (m := m) (dLen := l.length) (d := a.eval d) (new := q.take m) (rows := rows)
  (fun g c hv => ⟨c, by rw [hv, Nat.zero_mul]⟩) (fun hv => ⟨none, 0, by
   rcases h1.2 with ⟨_, h0⟩ | ⟨g, c, cur, hv', _⟩
   ·have h0 : l.length = 0 := h0
    rw [hv, h0]
   ·rw [hv] at hv'; cases hv'⟩)
  (A := A) (sLen := q.length) (sc := cs) hm (by rw [hm]; omega) (by rw [List.length_take, hm]; omega) (fun h0 => by
   rcases q3 with rfl | ⟨g2, o2, rfl, hok, hlt, hat⟩
   ·rw [hm] at h0; simp at h0
   ·obtain ⟨vs, e1, e2, e3⟩ := rows_cells hat
    obtain ⟨f1, f2⟩ := take_cells (m := m) e1 (by rw [hm]; omega) e3
    refine ⟨_, vs.take (m * k), rfl, f1, fun j u hj => ?_, f2⟩
    rw [List.getElem?_take] at hj
    split at hj
    ·have := e2 j u hj
     rwa [Addr.add_lit]
    ·cases hj) (by rw [hrows]; simp) hlen
 refine wp_value (c := .int .i64 (m : Nat)) (w' := w') ?_ (hK β _ w' (hS.put o.dst ⟨_, rfl, rfl⟩))
 rw [← hv2] at hrun
 simp [execOp, ho, resolve, hc, hargs', hts', invoke, builtin, hrun, goInt]

theorem s_copyB (h : Sim F β T a w) (hT : tabB F.P ei Γ = true) {c : Call} (ho : o.op = .call c) (hc : c.callee = .builtin .copy) {d s : Operand} {t : TypeId} (hargs : c.args.toList = [d, s]) (hts : c.argTypes.toList = [t, t]) {r : TyRow} (hr : Γ.get t = some r)
  {lab lab2 : Lab} {e e2 : TypeId} {k k2 i j i2 j2 : Nat} {l q : List (List PL)} (hd : opd T d = .sub (.own lab e (.arr k l)) i j) (hs : opd T s = .sub (.own lab2 e2 (.arr k2 q)) i2 j2) (hk : (decide (lab2 = lab) && (Nat.beq k k2 && tyArr r.ty (.arr k l))) = true)
  {m : Nat} {rows : List (List PL)} (hm : m = min (j2 - i2) (j - i)) (hrows : rows = l.take i ++ ((q.drop i2).take m ++ l.drop (i + m))) (hlen : lenOT lab l.length T True)
  (hK : ∀ β' c w', Sim F β' (put (T.map (FV.mapLB lab (setA lab k rows))) o.dst (.v false [.p (.int .i64 (m : Nat))])) (a.put o.dst c) w' → K (a.put o.dst c) w') : o.wp F.P a w K Q := by
 rw [Bool.and_eq_true, Bool.and_eq_true] at hk
 have hll : lab2 = lab := of_decide_eq_true hk.1
 subst hll
 have hkk := Nat.eq_of_beq_eq_true hk.2.1
 subst hkk
 have hargs' : c.args = #[d, s] := by cases hq : c.args; rw [hq] at hargs; simp at hargs; rw [hargs]
 have hts' : c.argTypes = #[t, t] := by cases hq : c.argTypes; rw [hq] at hts; simp at hts; rw [hts]
 obtain ⟨hid, hrow⟩ := tab_row hT hr
 obtain ⟨el, hu, hsz⟩ := row_arr (by unfold tabB at hT; rw [Bool.and_eq_true] at hT; exact hT.1) hrow hk.2.2 hid
 have hsz : sizeB F.P el k = true := hsz
 have h1 := opd_R h d
 have h2 := opd_R h s
 rw [hd] at h1
 rw [hs] at h2
 obtain ⟨g, o1, n1, c1, x1, g1, g2, g3, g4⟩ := h1
 obtain ⟨g', o2, n2, c2, x2, f1, f2, f3, f4⟩ := h2
 have g2 : x1 = .arr k l := by cases g2; rfl
 have f2 : x2 = .arr k q := by cases f2; rfl
 subst g2
 subst f2
 have g3 : i ≤ j ∧ j ≤ l.length := g3
 have f3 : i2 ≤ j2 ∧ j2 ≤ q.length := f3
 have hb2 : ∃ cur2, β lab2 = some g' ∧ w.heap[g']? = some (.cells cur2 e2 (0, 0)) ∧ o2 = 0 ∧ PL.Rows w (okU F β) k g' 0 q := by
  rcases f1.2 with ⟨hv, _⟩ | ⟨gg, cc, cur, hv, hb, hh, _, _, _, hat⟩
  ·cases hv
  ·cases hv
   exact ⟨cur, hb, hh, rfl, hat⟩
 obtain ⟨cur2, hb2, hh2, rfl, hat⟩ := hb2
 have ho1 : o1 = 0 ∧ n1 = l.length := by
  rcases g1.2 with ⟨hv, _⟩ | ⟨gg, cc, cur, hv, _⟩
  ·cases hv
  ·cases hv
   exact ⟨rfl, rfl⟩
 obtain ⟨rfl, rfl⟩ := ho1
 obtain ⟨vs, e1, ec, e3⟩ := rows_cells hat
 obtain ⟨w', hrun, hS⟩ := copy_gen h g1 (dT := t) (ty := o.type) hu hsz (i := i) (m := m) (dLen := j - i) (d := a.eval d) (new := (q.drop i2).take m) (rows := rows)
  (fun g0 c0 hv => ⟨c1 - i, by
   cases hv
   rw [g4]
   simp [PL.wd]⟩) (fun hv => by cases hv)
  (A := some ⟨g', i2 * k, none⟩) (sLen := j2 - i2) (sc := c2 - i2) hm (by rw [hm]; omega) (by rw [List.length_take, List.length_drop, hm]; omega) (fun h0 => by
   have d3 := drop_cells (i2 := i2) e3
   obtain ⟨t1, t2⟩ := take_cells (m := m) (q := q.drop i2) (vs := vs.drop (i2 * k)) (by rw [List.length_drop, List.length_drop, e1, Nat.sub_mul]) (by rw [List.length_drop, hm]; omega) d3
   refine ⟨_, (vs.drop (i2 * k)).take (m * k), rfl, t1, fun j u hj => ?_, t2⟩
   rw [List.getElem?_take] at hj
   split at hj
   ·rw [List.getElem?_drop] at hj
    have := ec _ u hj
    rw [Addr.add_lit]
    rwa [Nat.zero_add] at this
   ·cases hj) hrows hlen
 refine wp_value (c := .int .i64 (m : Nat)) (w' := w') ?_ (hK β _ w' (hS.put o.dst ⟨_, rfl, rfl⟩))
 have f4 : a.eval s = .slice (some ⟨g', i2 * k, none⟩) (j2 - i2) (c2 - i2) := by rw [f4]; simp [PL.wd]
 rw [← f4] at hrun
 simp [execOp, ho, resolve, hc, hargs', hts', invoke, builtin, hrun, goInt]
end
end Go.Vx
end
