/- What the laws' arguments read as: a Big, a fraction, an interval, lists of them. -/
import Derived.Test.YtiaobnkihhnmhaaVxR
import Derived.Test.YtiaobnkihhnmhaaB0
namespace Go.Vx
open Go.Proofs Go.RowKit
theorem agg_of {v : Value} {n : Nat} (hn : 2 ≤ n) (h : v.cells.toList.length = n) : v = .agg v.cells := by
  cases v <;> first | rfl | (simp [Value.cells] at h; omega)
theorem bool_of {w : World} {N : Nat → Option Nat} {b : Bool} {v : Value} (h : FrRes w 3 N (.one (bP b)) v) : v = .bool b := by
  obtain ⟨x, hx, h⟩ := h
  cases hx
  exact h.1
theorem maxLen_le {n : Nat} (h : n ≤ maxLen) : n ≤ 9223372036854775807 := by simpa [maxLen] using h
section
variable {H : Type} {enc : TypeId × Value → H} {w : World} {base : Nat} {sp : Nat → Bool} {held : Bool}
theorem readsBig : Reads enc Try.prog w base sp held 24 (fun ls => ∃ neg l, ls = [.bool neg, .ints l] ∧ l.length ≤ 9223372036854775807) := by
  intro fuel cs x h
  obtain ⟨ls, ⟨a, b, rfl, ⟨neg, rfl⟩, ⟨l, rfl, hl⟩⟩, hR⟩ := Reads.struct2 Try.underlying24 rfl (by kernel_rfl) (by kernel_rfl) (Reads.bool Try.underlying4) (Reads.ints Try.underlying22 Try.underlying3 (by kernel_rfl)) fuel cs x h
  exact ⟨_, ⟨neg, l, rfl, maxLen_le hl⟩, hR⟩
theorem argBig {v : Value} {d : DataW H} {ps : List MemPlace} (h : DataW.Trod enc Try.prog w base sp held 24 v d ps) : ∃ neg l, l.length ≤ 9223372036854775807 ∧ RPV w (fun _ => True) (rawV neg l) v := by
  obtain ⟨fuel, h⟩ := h
  obtain ⟨ls, ⟨neg, l, rfl, hl⟩, hR⟩ := readsBig fuel _ _ h
  refine ⟨neg, l, hl, v.cells.toList, ?_, hR⟩
  rw [agg_of (n := 2) (by omega) hR.length.symm]
  simp [Value.cells]
theorem argInt {r : Reach} {b0 : Nat} {v : Value} {d : DataW H} {ps : List MemPlace} (hval : Value.okWide Try.prog w r b0 3 v) (h : DataW.Trod enc Try.prog w base sp held 3 v d ps) :
    ∃ n : Int, -9223372036854775808 ≤ n ∧ n ≤ 9223372036854775807 ∧ RPV w (fun _ => True) (iP n) v := by
  obtain ⟨a, rfl, _, _, hw⟩ := Go.ChangeShapes.open_int Try.underlying3 hval h
  have := wf64 hw
  exact ⟨a, this.1, this.2, _, rfl, rfl⟩
end
end Go.Vx
