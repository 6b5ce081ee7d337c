/- Vx, part 5: each operation, done in the model. -/
import Derived.Test.YtiaobnkihhnmhaaVx3
namespace Go.Vx
open Go.RowKit

theorem leaf_at {F : Fr} {β : BM} {w : World} {s : Lf} {x : PL} {g o n c : Nat} (h : RLf F β w s (.slice (some ⟨g, o, none⟩) n c)) (hx : s.arr? = some x) (hl : 0 < x.len) :
    n = x.len ∧ x.At w (okU F β) g o := by
  cases s with
  | undef => cases hx
  | nil => cases h
  | p y =>
    cases y with
    | ints l =>
      cases hx
      unfold RLf PL.R at h
      obtain ⟨A, c', hv, h1, h2, h⟩ := h
      cases hv
      rcases h with rfl | ⟨g', o', hA, _, _, h⟩
      · simp [PL.len] at hl
      · cases hA
        exact ⟨rfl, h⟩
    | arr k l =>
      cases hx
      unfold RLf PL.R at h
      obtain ⟨A, c', hv, h1, h2, h⟩ := h
      cases hv
      rcases h with rfl | ⟨g', o', hA, _, _, h⟩
      · simp [PL.len] at hl
      · cases hA
        exact ⟨rfl, h⟩
    | _ => cases hx
  | own l e y =>
    have hy : y = x := by cases y <;> simp_all [Lf.arr?]
    subst hy
    obtain ⟨_, ⟨hv, _⟩ | ⟨g', c', cur, hv, hb, hh, h1, h2, h3, h4⟩⟩ := h
    · cases hv
    · cases hv
      exact ⟨rfl, h4⟩

/-- A slice's value. -/
theorem leaf_slice {F : Fr} {β : BM} {w : World} {s : Lf} {x : PL} {v : Value} (h : RLf F β w s v) (hx : s.arr? = some x) :
    ∃ A c, v = .slice A x.len c ∧ x.len ≤ c ∧ c ≤ maxLen ∧ (0 < x.len → ∃ g o, A = some ⟨g, o, none⟩) := by
  cases s with
  | undef => cases hx
  | nil =>
    cases hx
    unfold RLf at h
    subst h
    exact ⟨none, 0, rfl, Nat.le_refl _, by simp, fun h => by simp [PL.len] at h⟩
  | p y =>
    cases y with
    | ints l =>
      cases hx
      unfold RLf PL.R at h
      obtain ⟨A, c', hv, h1, h2, h⟩ := h
      refine ⟨A, c', hv, h1, h2, fun hl => ?_⟩
      rcases h with rfl | ⟨g', o', hA, _⟩
      · simp [PL.len] at hl
      · exact ⟨g', o', hA⟩
    | arr k l =>
      cases hx
      unfold RLf PL.R at h
      obtain ⟨A, c', hv, h1, h2, h⟩ := h
      refine ⟨A, c', hv, h1, h2, fun hl => ?_⟩
      rcases h with rfl | ⟨g', o', hA, _⟩
      · simp [PL.len] at hl
      · exact ⟨g', o', hA⟩
    | _ => cases hx
  | own l e y =>
    have hy : y = x := by cases y <;> simp_all [Lf.arr?]
    subst hy
    obtain ⟨_, ⟨hv, h0⟩ | ⟨g', c', cur, hv, hb, hh, h1, h2, h3, h4⟩⟩ := h
    · rw [h0]
      exact ⟨none, 0, hv, Nat.le_refl _, by simp, fun h => by omega⟩
    · exact ⟨_, c', hv, h1, h2, fun _ => ⟨g', 0, rfl⟩⟩

theorem all2_p {F : Fr} {β : BM} {w : World} {ok : Nat → Prop} (hok : ∀ g, ok g → okU F β g) : ∀ {xs : List PL} {cs : List Value}, All2 (PL.R w ok) xs cs → All2 (RLf F β w) (xs.map .p) cs
  | [], [], _ => True.intro
  | x :: xs, c :: cs, h => ⟨PL.R.move (Nat.le_refl _) (fun g hg _ => ⟨hok g hg, rfl⟩) x c h.1, all2_p hok h.2⟩
  | [], _ :: _, h => h.elim
  | _ :: _, [], h => h.elim

/-- The cells of an element, as a list. -/
theorem cells_list {w : World} {ok : Nat → Prop} {g : Nat} : ∀ {xs : List PL} {o : Nat}, PL.Cells w ok g o xs → ∃ cs : List Value, All2 (PL.R w ok) xs cs ∧ ∀ j v, cs[j]? = some v → w.cell? ⟨g, o + j, none⟩ = some v
  | [], _, _ => ⟨[], True.intro, fun j v h => by simp at h⟩
  | x :: xs, o, h => by
    unfold PL.Cells at h
    obtain ⟨⟨u, hu, hx⟩, h⟩ := h
    obtain ⟨cs, h1, h2⟩ := cells_list h
    refine ⟨u :: cs, ⟨hx, h1⟩, fun j v hv => ?_⟩
    cases j with
    | zero => simp at hv; subst hv; exact hu
    | succ j =>
      have := h2 j v (by simpa using hv)
      rw [show o + (j + 1) = o + 1 + j by omega]
      exact this

theorem fields_get {P : Program} : ∀ {qs : List (Nat × Option Nat)} {fs : List Field} {i : Nat} {q : Nat × Option Nat}, fieldsB P qs fs = true → qs[i]? = some q →
    ∃ fd, fs[i]? = some fd ∧ q.1 = fd.offset ∧ (q.2 = none → oneB P fd.type = true ∧ sizeB P fd.type 1 = true) ∧ (∀ n, q.2 = some n → structB P fd.type = true ∧ sizeB P fd.type n = true ∧ n ≠ 0)
  | [], _, i, q, _, h => by simp at h
  | _ :: _, [], _, _, h, _ => by simp [fieldsB] at h
  | q :: qs, f :: fs, 0, q', h, hq => by
    simp at hq
    subst hq
    unfold fieldsB at h
    rw [Bool.and_eq_true, Bool.and_eq_true] at h
    refine ⟨f, rfl, by simpa using h.1.1, fun hn => ?_, fun n hn => ?_⟩
    · have := h.1.2
      rw [hn] at this
      simpa using this
    · have := h.1.2
      rw [hn] at this
      simp at this
      exact ⟨this.1.1, this.1.2, this.2⟩
  | q :: qs, f :: fs, i + 1, q', h, hq => by
    unfold fieldsB at h
    rw [Bool.and_eq_true] at h
    simpa using fields_get h.2 (by simpa using hq)

theorem row_agg {P : Program} {ei t : TypeId} {r : TyRow} {n : Nat} {qs : List (Nat × Option Nat)} (h : rowB P ei r = true) (hr : r.ty = .agg n qs) (hi : r.id = t) :
    ∃ fs, P.underlying t = some (.struct fs) ∧ fieldsB P qs fs.toList = true ∧ sizeB P t n = true := by
  unfold rowB at h
  rw [Bool.and_eq_true, Bool.and_eq_true] at h
  replace h := h.1.1
  rw [hr, hi] at h
  unfold tyB at h
  dsimp only at h
  split at h
  · rename_i fs hu
    rw [Bool.and_eq_true] at h
    exact ⟨fs, hu, h.1, h.2⟩
  · cases h

theorem row_elem {P : Program} {ei t : TypeId} {r : TyRow} {y : PL} (hei : eiB P ei = true) (h : rowB P ei r = true) (hy : tyArr r.ty y = true) (hi : r.id = t) :
    ∃ i z, P.underlying t = some (.slice (r.ty.elem ei)) ∧ P.info? (r.ty.elem ei) = some i ∧ i.size = y.wd ∧ i.bytes = r.ty.by ∧ i.zero = some z ∧ z.cells.size = y.wd ∧ 0 < y.wd ∧ (y.wd = 1 → ∀ l, y = .ints l → z = .int .i64 0) := by
  unfold rowB at h
  rw [Bool.and_eq_true, Bool.and_eq_true] at h
  replace h := h.1.1
  rw [hi] at h
  unfold tyB at h
  cases hr : r.ty with
  | ints =>
    rw [hr] at h hy
    dsimp only at h
    cases y <;> simp [tyArr] at hy
    split at h
    · rename_i e hu
      have he : e = ei := by simpa using h
      subst he
      unfold eiB at hei
      rw [Bool.and_eq_true] at hei
      have h2 := hei.2
      split at h2
      · rename_i i hinfo
        rw [Bool.and_eq_true, Bool.and_eq_true] at h2
        have h3 := h2.2
        split at h3
        · rename_i z hz
          have h3 : z = 0 := by simpa using h3
          subst h3
          exact ⟨i, _, hu, hinfo, by simpa [PL.wd] using h2.1.1, by simpa [Ty.by] using h2.1.2, hz, rfl, by simp [PL.wd], fun _ _ _ => rfl⟩
        · cases h3
      · cases h2
    · cases h
  | slice e k b =>
    rw [hr] at h hy
    dsimp only at h
    cases y <;> simp [tyArr] at hy
    rename_i k' l
    subst hy
    split at h
    · rename_i e' hu
      rw [Bool.and_eq_true, Bool.and_eq_true] at h
      have he : e' = e := by simpa using h.1.1
      subst he
      have h2 := h.2
      split at h2
      · rename_i i hinfo
        rw [Bool.and_eq_true, Bool.and_eq_true, Bool.and_eq_true] at h2
        have h3 := h2.2
        split at h3
        · rename_i z hz
          refine ⟨i, z, hu, hinfo, by simpa [PL.wd] using h2.1.1.1, by simpa [Ty.by] using h2.1.1.2, hz, by simpa [PL.wd] using h3, ?_, fun _ _ h => by cases h⟩
          have := h2.1.2
          simp at this
          simp only [PL.wd]
          omega
        · cases h3
      · cases h2
    · cases h
  | _ => rw [hr] at hy; cases y <;> simp [tyArr] at hy

theorem row_arr {P : Program} {ei t : TypeId} {r : TyRow} {y : PL} (hei : eiB P ei = true) (h : rowB P ei r = true) (hy : tyArr r.ty y = true) (hi : r.id = t) :
    ∃ e, P.underlying t = some (.slice e) ∧ sizeB P e y.wd = true := by
  unfold rowB at h
  rw [Bool.and_eq_true, Bool.and_eq_true] at h
  replace h := h.1.1
  rw [hi] at h
  unfold tyB at h
  cases hr : r.ty with
  | ints =>
    rw [hr] at h hy
    dsimp only at h
    cases y <;> simp [tyArr] at hy
    split at h
    · rename_i e hu
      have he : e = ei := by simpa using h
      subst he
      refine ⟨e, hu, ?_⟩
      unfold eiB at hei
      rw [Bool.and_eq_true] at hei
      have h2 := hei.2
      unfold sizeB
      split at h2
      · rename_i i hinfo
        simp at h2
        simp [PL.wd, h2.1.1]
      · cases h2
    · cases h
  | slice e k b =>
    rw [hr] at h hy
    dsimp only at h
    cases y <;> simp [tyArr] at hy
    rename_i k' l
    subst hy
    split at h
    · rename_i e' hu
      rw [Bool.and_eq_true, Bool.and_eq_true] at h
      have he : e' = e := by simpa using h.1.1
      subst he
      refine ⟨e', hu, ?_⟩
      have h2 := h.2
      unfold sizeB
      split at h2
      · rename_i i hinfo
        simp at h2
        simp [PL.wd, h2.1.1]
      · cases h2
    · cases h
  | _ => rw [hr] at hy; cases y <;> simp [tyArr] at hy

theorem row_sl {P : Program} {ei t : TypeId} {r : TyRow} (h : rowB P ei r = true) (hy : r.sl = true) (hi : r.id = t) : ∃ e, P.underlying t = some (.slice e) := by
  unfold rowB at h
  rw [Bool.and_eq_true, Bool.and_eq_true] at h
  replace h := h.1.1
  rw [hi] at h
  unfold tyB at h
  unfold TyRow.sl at hy
  cases hr : r.ty <;> rw [hr] at h hy <;> dsimp only at h hy <;> first | cases hy | skip
  · split at h
    · exact ⟨_, by assumption⟩
    · cases h
  · split at h
    · exact ⟨_, by assumption⟩
    · cases h

theorem row_bool {P : Program} {ei t : TypeId} {r : TyRow} (h : rowB P ei r = true) (hy : r.bool = true) (hi : r.id = t) : P.underlying t = some .bool := by
  unfold rowB at h
  rw [Bool.and_eq_true, Bool.and_eq_true] at h
  replace h := h.1.1
  rw [hi] at h
  unfold tyB at h
  unfold TyRow.bool at hy
  cases hr : r.ty <;> rw [hr] at h hy <;> dsimp only at h hy <;> first | cases hy | skip
  split at h
  · assumption
  · cases h

theorem row_int {P : Program} {ei t : TypeId} {r : TyRow} {kd : IntKind} (h : rowB P ei r = true) (hy : r.ty = .int kd) (hi : r.id = t) : P.underlying t = some (.int kd) := by
  unfold rowB at h
  rw [Bool.and_eq_true, Bool.and_eq_true] at h
  replace h := h.1.1
  rw [hi, hy] at h
  unfold tyB at h
  dsimp only at h
  split at h
  · rename_i k' hu
    have : kd = k' := by simpa using h
    rw [this]
    exact hu
  · cases h
theorem row_some {P : Program} {ei t : TypeId} {r : TyRow} (h : rowB P ei r = true) (hi : r.id = t) : ∃ d, P.underlying t = some d := by
  obtain ⟨h1, h2⟩ := row_cells h
  rw [hi] at h1 h2
  cases hc : r.cells with
  | some n =>
    have := (h1 n hc).1
    unfold structB at this
    split at this
    · exact ⟨_, by assumption⟩
    · cases this
  | none =>
    have := (h2 hc).1
    unfold oneB at this
    cases hu : P.underlying t with
    | some d => exact ⟨d, rfl⟩
    | none => rw [hu] at this; cases this

end Go.Vx
