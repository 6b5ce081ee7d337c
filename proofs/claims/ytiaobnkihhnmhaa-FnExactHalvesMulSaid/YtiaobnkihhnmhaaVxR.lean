/- Vx, part 15: what an argument reads as. -/
import Derived.Test.YtiaobnkihhnmhaaVxN
import Derived.ChangeArms
import Derived.ChangeSlices
import Derived.ProofKit
namespace Go.Vx
open Go.RowKit

section
variable {H : Type} {enc : TypeId × Value → H} {P : Program} {w : World} {base : Nat} {sp : Nat → Bool} {held : Bool} {t : TypeId}

/-- Cells that are trod at type t read as leaves that Q allows. -/
def Reads (enc : TypeId × Value → H) (P : Program) (w : World) (base : Nat) (sp : Nat → Bool) (held : Bool) (t : TypeId) (Q : List PL → Prop) : Prop :=
  ∀ (fuel : Nat) (cs : List Value) (x : DataW H × List MemPlace), DataW.trod enc P w base sp held fuel t cs = some x → ∃ ls, Q ls ∧ All2 (PL.R w (fun _ => True)) ls cs

theorem Reads.bool (ht : P.underlying t = some .bool) : Reads enc P w base sp held t (fun ls => ∃ b, ls = [.bool b]) := by
  intro fuel cs x h
  obtain ⟨b, rfl, _⟩ := DataW.trod_bool ht h
  exact ⟨[.bool b], ⟨b, rfl⟩, rfl, True.intro⟩
theorem Reads.int {k : IntKind} (ht : P.underlying t = some (.int k)) : Reads enc P w base sp held t (fun ls => ∃ n, ls = [.int k n] ∧ (Lit.int k n).wf = true) := by
  intro fuel cs x h
  obtain ⟨n, rfl, _, hw⟩ := DataW.trod_int ht h
  exact ⟨[.int k n], ⟨n, rfl, hw⟩, rfl, True.intro⟩

theorem wf64 {n : Int} (h : (Lit.int .i64 n).wf = true) : -9223372036854775808 ≤ n ∧ n ≤ 9223372036854775807 := by
  simp only [Lit.wf, Bool.and_eq_true, decide_eq_true_eq] at h
  have h1 : IntKind.i64.min = -9223372036854775808 := by decide
  have h2 : IntKind.i64.max = 9223372036854775807 := by decide
  omega

theorem cell_spot {a : Addr} {u : Value} (h : w.cell? a = some u) : a = ⟨a.block, a.off, none⟩ := by
  unfold World.cell? at h
  split at h
  · split at h
    · cases h
    · rename_i hs
      cases a with
      | mk b o s => cases s <;> simp_all
  · cases h
theorem cell_block {a : Addr} {u : Value} (h : w.cell? a = some u) : a.block < w.heap.size := by
  unfold World.cell? at h
  split at h
  · rename_i hg; exact (Array.getElem?_eq_some_iff.1 hg).1
  · cases h

theorem Reads.struct2 {f0 f1 : Field} (ht : P.underlying t = some (.struct #[f0, f1])) (h0 : f0.offset = 0) (h1 : f1.offset = P.cellsOf f0.type) (hc : P.cellsOf t = P.cellsOf f0.type + P.cellsOf f1.type)
    {Q0 Q1 : List PL → Prop} (r0 : Reads enc P w base sp held f0.type Q0) (r1 : Reads enc P w base sp held f1.type Q1) :
    Reads enc P w base sp held t (fun ls => ∃ a b, ls = a ++ b ∧ Q0 a ∧ Q1 b) := by
  intro fuel cs x h
  obtain ⟨y0, y1, n, _, hl, g0, g1⟩ := Go.ChangeShapes.trod_struct2 ht h
  obtain ⟨a, qa, ra⟩ := r0 n _ y0 g0
  obtain ⟨b, qb, rb⟩ := r1 n _ y1 g1
  refine ⟨a ++ b, ⟨a, b, rfl, qa, qb⟩, ?_⟩
  have := ra.append rb
  rw [h0, h1, List.drop_zero] at this
  have e : List.take (P.cellsOf f0.type) cs ++ List.take (P.cellsOf f1.type) (List.drop (P.cellsOf f0.type) cs) = cs := by
    rw [List.take_of_length_le (l := List.drop (P.cellsOf f0.type) cs) (by simp; omega), List.take_append_drop]
  rwa [e] at this

/-- Choose, index by index. -/
theorem choose_list {α : Type} {p : Nat → α → Prop} : ∀ (n : Nat), (∀ i, i < n → ∃ x, p i x) → ∃ l : List α, l.length = n ∧ ∀ (i : Nat) (x : α), l[i]? = some x → p i x
  | 0, _ => ⟨[], rfl, fun i x h => by simp at h⟩
  | n + 1, h => by
    obtain ⟨l, hl, hp⟩ := choose_list n (fun i hi => h i (by omega))
    obtain ⟨x, hx⟩ := h n (by omega)
    refine ⟨l ++ [x], by simp [hl], fun i y hy => ?_⟩
    rw [List.getElem?_append] at hy
    split at hy
    · exact hp i y hy
    · rename_i hi
      have : i = n := by
        have := (List.getElem?_eq_some_iff.1 hy).1
        simp at this
        omega
      subst this
      simp [hl] at hy
      subst hy
      exact hx

theorem Reads.ints {e : TypeId} (ht : P.underlying t = some (.slice e)) (he : P.underlying e = some (.int .i64)) (hc : P.cellsOf e = 1) : Reads enc P w base sp held t (fun ls => ∃ l, ls = [.ints l] ∧ l.length ≤ maxLen) := by
  intro fuel cs x h
  rcases Go.ChangeShapes.open_ints ht he hc h with ⟨rfl, _⟩ | ⟨a, len, cap, zs, rfl, _, hl, hm, hz, _, hcell, _⟩
  · exact ⟨[.ints []], ⟨[], rfl, by simp⟩, ⟨none, 0, rfl, Nat.le_refl _, by simp, .inl rfl⟩, True.intro⟩
  · have hlz : len ≤ zs.length := by rw [hz]; split <;> omega
    have hlen : (zs.take len).length = len := by simp; omega
    refine ⟨[.ints (zs.take len)], ⟨_, rfl, by rw [hlen]; omega⟩, ⟨some a, cap, by rw [hlen], by rw [hlen]; exact hl, hm, ?_⟩, True.intro⟩
    by_cases h0 : len = 0
    · left
      subst h0
      simp
    · right
      have c0 := hcell 0 (by omega)
      have e0 : a.add 0 = a := by simp [Addr.add]
      rw [e0] at c0
      refine ⟨a.block, a.off, by rw [← cell_spot c0], True.intro, cell_block c0, fun i z hi => ?_⟩
      rw [List.getElem?_take] at hi
      split at hi
      · have := hcell i (List.getElem?_eq_some_iff.1 hi).1
        rw [cell_spot c0, Addr.add_lit] at this
        rw [this]
        simp [List.getD, hi]
      · cases hi

theorem Reads.rows {e : TypeId} (ht : P.underlying t = some (.slice e)) {k : Nat} (hc : P.cellsOf e = k) (hk : 0 < k) {Q : List PL → Prop} (r : Reads enc P w base sp held e Q) :
    Reads enc P w base sp held t (fun ls => ∃ rows, ls = [.arr k rows] ∧ rows.length ≤ maxLen ∧ ∀ q ∈ rows, Q q) := by
  intro fuel cs x h
  rcases DataW.trod_slice ht h with ⟨rfl, _⟩ | ⟨a, len, cap, elems, rest, n, _, rfl, _, _, hl, hm, hlen, hel, _⟩
  · exact ⟨[.arr k []], ⟨[], rfl, by simp, fun _ h => by cases h⟩, ⟨none, 0, rfl, Nat.le_refl _, by simp, .inl rfl⟩, True.intro⟩
  · have each : ∀ i, i < len → ∃ q : List PL, Q q ∧ q.length = k ∧ ∀ (j : Nat) (x : PL), q[j]? = some x → ∃ u, w.cell? (a.add (i * k + j)) = some u ∧ PL.R w (fun _ => True) x u := by
      intro i hi
      have hi' : i < elems.length := by omega
      have h1 := hel i hi
      rw [List.getElem?_eq_getElem hi', Option.bind_eq_some_iff] at h1
      obtain ⟨cs', h2, h3⟩ := h1
      obtain ⟨q, hq, hR⟩ := r n cs' _ h3
      obtain ⟨hcl, _, hcc⟩ := World.cells?_some h2
      rw [hc] at hcl hcc h2
      refine ⟨q, hq, by rw [hR.length]; first | exact hcl | omega, fun j x hx => ?_⟩
      obtain ⟨u, hu, hxu⟩ := hR.get j x hx
      refine ⟨u, ?_, hxu⟩
      have hjk : j < k := by
        have := (List.getElem?_eq_some_iff.1 hu).1
        omega
      have := hcc j (by omega)
      rw [hu] at this
      have e1 : (a.add (i * k)).add j = a.add (i * k + j) := by
        unfold Addr.add
        split <;> split <;> simp_all <;> omega
      rw [e1] at this
      first | exact this | exact this.symm
    obtain ⟨rows, hrl, hrows⟩ := choose_list (p := fun i (q : List PL) => Q q ∧ q.length = k ∧ ∀ (j : Nat) (x : PL), q[j]? = some x → ∃ u, w.cell? (a.add (i * k + j)) = some u ∧ PL.R w (fun _ => True) x u) len each
    refine ⟨[.arr k rows], ⟨rows, rfl, by omega, fun q hq => ?_⟩, ⟨some a, cap, by rw [hrl], by omega, hm, ?_⟩, True.intro⟩
    · obtain ⟨i, hi⟩ := List.getElem?_of_mem hq
      exact (hrows i q hi).1
    · by_cases h0 : len = 0
      · left
        exact List.eq_nil_of_length_eq_zero (by omega)
      · right
        obtain ⟨_, hlq, hc0⟩ := hrows 0 rows[0] (List.getElem?_eq_getElem (by omega))
        obtain ⟨u, hu, _⟩ := hc0 0 _ (List.getElem?_eq_getElem (by omega))
        have e0 : a.add (0 * k + 0) = a := by simp [Addr.add]
        rw [e0] at hu
        refine ⟨a.block, a.off, by rw [← cell_spot hu], True.intro, cell_block hu, PL.Rows.of_get fun i q hq => ?_⟩
        obtain ⟨_, hlq, hcq⟩ := hrows i q hq
        refine ⟨hlq, PL.Cells.of_get fun j x hx => ?_⟩
        obtain ⟨u2, hu2, hxu⟩ := hcq j x hx
        rw [cell_spot hu, Addr.add_lit] at hu2
        exact ⟨u2, by rw [Nat.add_assoc]; exact hu2, hxu⟩
end
end Go.Vx
