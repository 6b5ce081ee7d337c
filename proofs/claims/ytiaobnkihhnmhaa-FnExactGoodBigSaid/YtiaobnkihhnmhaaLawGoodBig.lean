/- The row of laws.FnExactGoodBig. -/
import Derived.Test.YtiaobnkihhnmhaaRows
import Derived.Test.YtiaobnkihhnmhaaC2
import Derived.Test.YtiaobnkihhnmhaaVxR
import Derived.WalkKit
import Derived.ProofKit
import Derived.OpenShut
import Derived.ChangeOld
import Derived.Below
import Derived.Carry
import Derived.SizedLaws
namespace Go.Proofs.Ytiaobnkihhnmhaa.fnExactGoodBig
open Go.ChangeShapes Go.WideShapes Go.ChangeAt Go.RowKit Go.Vx
set_option linter.unusedVariables false
theorem own : ownKnob Try.prog.godebug = none := by kernel_rfl
theorem laidOut : laidOutB Try.prog = true := by kernel_rfl

theorem agg_of {v : Value} {n : Nat} (hn : 2 ≤ n) (h : v.cells.toList.length = n) : v = .agg v.cells := by
  cases v <;> first | rfl | (simp [Value.cells] at h; omega)
theorem bool_of {w : World} {N : Nat → Option Nat} {b : Bool} {v : Value} (h : FrRes w 3 N (.one (bP b)) v) : v = .bool b := by
  obtain ⟨x, hx, h⟩ := h
  cases hx
  exact h.1
section
variable {H : Type} {enc : TypeId × Value → H} {w : World} {base : Nat} {sp : Nat → Bool} {held : Bool}
theorem readsBig : Reads enc Try.prog w base sp held 24 (fun ls => ∃ neg l, ls = [.bool neg, .ints l] ∧ l.length ≤ maxLen) := by
  intro fuel cs x h
  obtain ⟨ls, ⟨a, b, rfl, ⟨neg, rfl⟩, ⟨l, rfl, hl⟩⟩, hR⟩ := Reads.struct2 Try.underlying24 rfl (by kernel_rfl) (by kernel_rfl) (Reads.bool Try.underlying4) (Reads.ints Try.underlying22 Try.underlying3 (by kernel_rfl)) fuel cs x h
  exact ⟨_, ⟨neg, l, rfl, hl⟩, hR⟩
theorem argBig {fuel : Nat} {v : Value} {x : DataW H × List MemPlace} (h : DataW.trod enc Try.prog w base sp held fuel 24 v.cells.toList = some x) : ∃ neg l, l.length ≤ maxLen ∧ RPV w (fun _ => True) (rawV neg l) v := by
  obtain ⟨ls, ⟨neg, l, rfl, hl⟩, hR⟩ := readsBig fuel _ _ h
  refine ⟨neg, l, hl, v.cells.toList, ?_, hR⟩
  rw [agg_of (n := 2) (by omega) hR.length.symm]
  simp [Value.cells]
end

set_option maxRecDepth 100000 in
theorem lifted (os : Os) (started : os.Started) (H : Type) (enc : TypeId × Value → H) :
    ReturnsInHanded {} Try.checked os 3 .any (Rows.fnExactGoodBigSpec.pre6 enc Try.prog Try.f3 Rows.fnExactGoodBigRow.domain false) (Rows.fnExactGoodBigSpec.post enc Try.prog Try.f3 false true false false) := by
  refine returnsInHanded_of_change_sized (C := Try.checked) own started (by kernel_rfl) Try.func3
    (ChangeSpec.witness6 (enc := enc) (C := Try.checked) false ⟨#[], #[.agg #[.bool false, .slice none 0 0]], []⟩ 8 (by kernel_rfl) (by kernel_rfl) (by kernel_rfl) (by kernel_rfl)) ?_
  intro W base args ds gs before hval0 hW hcnd hsz0 _
  have hval : ∀ (j : Nat) t v, Try.f3.params[j]? = some t → args[j]? = some v → Value.okWide Try.prog W .any base t v := hval0
  have hW' := hW
  obtain ⟨p, q, hA0, hV, rfl, hfz, hnd⟩ := hW
  have hA : DataW.TrodAll enc Try.prog W 0 (fun _ => true) true Try.f3.params.toList args.toList ds p := hA0
  rw [Try.params3] at hA hval
  obtain ⟨v0, vs0, d0, ds0, p0, q0, hargs, rfl, rfl, h0, r0⟩ := trodAll_cons hA
  obtain ⟨rfl, rfl, rfl⟩ := trodAll_nil r0
  obtain rfl : args = #[v0] := by cases args; simp_all
  obtain ⟨rfl, rfl⟩ := trodVars_none hV
  have h0k := h0
  obtain ⟨fuel, h0⟩ := h0
  obtain ⟨neg, l, hl, hR⟩ := argBig h0
  have hl' : l.length ≤ 9223372036854775807 := by simpa [maxLen] using hl
  have hlt : ∀ x ∈ p0, x.block < W.heap.size := fun x hx => by simpa using hW'.lt x (by simp [hx])
  refine ((lawGoodBig neg l hl').2 (fun _ => True) W [v0] ⟨hR, True.intro⟩).mono fun e W' ⟨v, he, bel, N, _, _, hv⟩ => ?_
  subst he
  obtain rfl := bool_of hv
  exact ⟨_, rfl, _, _, _, [], _, [], hW', trodAll_mk1 (shut_bool Try.underlying4 _), (trodAll_cons_mk (Below.trod laidOut (by kernel_rfl) (of_decide_eq_true (by kernel_rfl)) h0k bel hlt) trodAll_mk0), rfl, bel.frame _, fun h => by cases h⟩
theorem over : Rows.fnExactGoodBigRow.holds Try.pinned (OpenSpec.ofChange Rows.fnExactGoodBigSpec) :=
  OpenClaim.holds_of_wide 3 Try.f3 rfl rfl rfl rfl rfl rfl rfl ⟨rfl, rfl, rfl, rfl, rfl⟩ rfl rfl rfl rfl rfl (by kernel_rfl) Try.func3 (by kernel_rfl)
    (of_decide_eq_true (by kernel_rfl)) (by unfold Func.isWrapper; first | (rw [if_pos (by decide +kernel)]; kernel_rfl) | (rw [if_neg (by decide +kernel)]; exact ⟨rfl, rfl⟩))
    (fun os started H enc _ => lifted os started H enc)
theorem proved : Rows.FnExactGoodBigSaid := over
end Go.Proofs.Ytiaobnkihhnmhaa.fnExactGoodBig
namespace Go.Proofs.Ytiaobnkihhnmhaa
/-- The row, under a short name, for the claim. -/
theorem fnExactGoodBig_holds : Rows.FnExactGoodBigSaid := fnExactGoodBig.proved
end Go.Proofs.Ytiaobnkihhnmhaa
