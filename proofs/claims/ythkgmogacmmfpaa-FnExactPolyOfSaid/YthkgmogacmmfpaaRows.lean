/-
  No cell of these rows narrows 'for every input' (looked for: loops, veiled, ifaces, maps, wideKeys, modest, calm, conditions, laid).
  DERIVED. THE GIVEN ROWS OF THIS SEAT. 9 by the template 'for every input the law returns true; each argument reads behind the call as it read before'; 0 by the template 'total and deterministic' (their statements: YthkgmogacmmfpaaTotals.lean).
  GIVEN WITH THE SEED: the statements are not yours to turn. If you find one false, say at which input.
  Laid BY PROGRAM, IN A SANDBOX (cutbox-rows.mjs): the forced cells as the released guide's own fill.sh prints them over the translation 031c7197a1c603db… (all of the seat's roots in one cut). By AI agents, Wed Nov 11 2026. No macro, syntax, notation, axiom, sorry.
-/
import Derived.Test.YthkgmogacmmfpaaChecked
import GoSem.Claim
import GoSem.ClaimJoined
import GoSem.ClaimMapViews
import Derived.JoinedTies
import Derived.KernelRfl
namespace Go.Proofs.Ythkgmogacmmfpaa
/- THE CELL 'sum', in the pinned program and in every row, IS THE sha256 OF THE DUMP (.gsa) THAT YthkgmogacmmfpaaProg.lean LOADS. Nothing in Lean hashes anything: it is a label: what it is worth is what the hold of that sum in a sandbox is worth. -/
noncomputable def Try.pinned : Pinned := { name := "ythkgmogacmmfpaa", sum := "031c7197a1c603dbcd54a7541d27b2af588fb0ddf0d67ec8ec459bcc765c3652", checked := Try.checked }
namespace Rows
def none {H : Type} : Left H := { results := [], args := [] }

/-- 'laws.FnExactGoodPoly': WHATEVER THE INPUT: true; the input reads as it did. -/
def fnExactGoodPolySpec : ChangeSpec := { name := "fnExactGoodPoly", fn := fun _ => fun
  | [d] => { results := [.lit (.bool true)], args := [d] }
  | _ => none }
def fnExactGoodPolyRow : OpenClaim := { program := "ythkgmogacmmfpaa", sum := "031c7197a1c603dbcd54a7541d27b2af588fb0ddf0d67ec8ec459bcc765c3652", func := "loop.example/g00409/laws.FnExactGoodPoly", spec := "fnExactGoodPoly", unfollowed := true, recurses := true, apart := false }
def FnExactGoodPolySaid : Prop := fnExactGoodPolyRow.holds Try.pinned (OpenSpec.ofChange fnExactGoodPolySpec)

/-- ITS FALSE NEIGHBOUR: 'it returns false'. Refute it at one input. -/
def fnExactGoodPolyWrong : ChangeSpec := { name := "fnExactGoodPoly", fn := fun _ => fun
  | [d] => { results := [.lit (.bool false)], args := [d] }
  | _ => none }
def FnExactGoodPolyWrongFalsely : Prop := fnExactGoodPolyRow.holds Try.pinned (OpenSpec.ofChange fnExactGoodPolyWrong)

/-- 'laws.FnExactRootsPoly': WHATEVER THE INPUT: true; the input reads as it did. -/
def fnExactRootsPolySpec : ChangeSpec := { name := "fnExactRootsPoly", fn := fun _ => fun
  | [d] => { results := [.lit (.bool true)], args := [d] }
  | _ => none }
def fnExactRootsPolyRow : OpenClaim := { program := "ythkgmogacmmfpaa", sum := "031c7197a1c603dbcd54a7541d27b2af588fb0ddf0d67ec8ec459bcc765c3652", func := "loop.example/g00409/laws.FnExactRootsPoly", spec := "fnExactRootsPoly", unfollowed := true, recurses := true, apart := false }
def FnExactRootsPolySaid : Prop := fnExactRootsPolyRow.holds Try.pinned (OpenSpec.ofChange fnExactRootsPolySpec)

/-- ITS FALSE NEIGHBOUR: 'it returns false'. Refute it at one input. -/
def fnExactRootsPolyWrong : ChangeSpec := { name := "fnExactRootsPoly", fn := fun _ => fun
  | [d] => { results := [.lit (.bool false)], args := [d] }
  | _ => none }
def FnExactRootsPolyWrongFalsely : Prop := fnExactRootsPolyRow.holds Try.pinned (OpenSpec.ofChange fnExactRootsPolyWrong)

/-- 'laws.FnExactSignsIn': WHATEVER THE INPUT: true; the input reads as it did. -/
def fnExactSignsInSpec : ChangeSpec := { name := "fnExactSignsIn", fn := fun _ => fun
  | [d] => { results := [.lit (.bool true)], args := [d] }
  | _ => none }
def fnExactSignsInRow : OpenClaim := { program := "ythkgmogacmmfpaa", sum := "031c7197a1c603dbcd54a7541d27b2af588fb0ddf0d67ec8ec459bcc765c3652", func := "loop.example/g00409/laws.FnExactSignsIn", spec := "fnExactSignsIn", unfollowed := true, recurses := true, apart := false }
def FnExactSignsInSaid : Prop := fnExactSignsInRow.holds Try.pinned (OpenSpec.ofChange fnExactSignsInSpec)

/-- ITS FALSE NEIGHBOUR: 'it returns false'. Refute it at one input. -/
def fnExactSignsInWrong : ChangeSpec := { name := "fnExactSignsIn", fn := fun _ => fun
  | [d] => { results := [.lit (.bool false)], args := [d] }
  | _ => none }
def FnExactSignsInWrongFalsely : Prop := fnExactSignsInRow.holds Try.pinned (OpenSpec.ofChange fnExactSignsInWrong)

/-- 'laws.FnExactHasRoot': WHATEVER THE INPUT: true; the input reads as it did. -/
def fnExactHasRootSpec : ChangeSpec := { name := "fnExactHasRoot", fn := fun _ => fun
  | [d1, d2] => { results := [.lit (.bool true)], args := [d1, d2] }
  | _ => none }
def fnExactHasRootRow : OpenClaim := { program := "ythkgmogacmmfpaa", sum := "031c7197a1c603dbcd54a7541d27b2af588fb0ddf0d67ec8ec459bcc765c3652", func := "loop.example/g00409/laws.FnExactHasRoot", spec := "fnExactHasRoot", unfollowed := true, recurses := true, apart := false }
def FnExactHasRootSaid : Prop := fnExactHasRootRow.holds Try.pinned (OpenSpec.ofChange fnExactHasRootSpec)

/-- ITS FALSE NEIGHBOUR: 'it returns false'. Refute it at one input. -/
def fnExactHasRootWrong : ChangeSpec := { name := "fnExactHasRoot", fn := fun _ => fun
  | [d1, d2] => { results := [.lit (.bool false)], args := [d1, d2] }
  | _ => none }
def FnExactHasRootWrongFalsely : Prop := fnExactHasRootRow.holds Try.pinned (OpenSpec.ofChange fnExactHasRootWrong)

/-- 'laws.FnExactEvalPoly': WHATEVER THE INPUT: true; the input reads as it did. -/
def fnExactEvalPolySpec : ChangeSpec := { name := "fnExactEvalPoly", fn := fun _ => fun
  | [d1, d2] => { results := [.lit (.bool true)], args := [d1, d2] }
  | _ => none }
def fnExactEvalPolyRow : OpenClaim := { program := "ythkgmogacmmfpaa", sum := "031c7197a1c603dbcd54a7541d27b2af588fb0ddf0d67ec8ec459bcc765c3652", func := "loop.example/g00409/laws.FnExactEvalPoly", spec := "fnExactEvalPoly", unfollowed := true, recurses := true, apart := false }
def FnExactEvalPolySaid : Prop := fnExactEvalPolyRow.holds Try.pinned (OpenSpec.ofChange fnExactEvalPolySpec)

/-- ITS FALSE NEIGHBOUR: 'it returns false'. Refute it at one input. -/
def fnExactEvalPolyWrong : ChangeSpec := { name := "fnExactEvalPoly", fn := fun _ => fun
  | [d1, d2] => { results := [.lit (.bool false)], args := [d1, d2] }
  | _ => none }
def FnExactEvalPolyWrongFalsely : Prop := fnExactEvalPolyRow.holds Try.pinned (OpenSpec.ofChange fnExactEvalPolyWrong)

/-- 'laws.FnExactPolyOf': WHATEVER THE INPUT: true; the input reads as it did. -/
def fnExactPolyOfSpec : ChangeSpec := { name := "fnExactPolyOf", fn := fun _ => fun
  | [d] => { results := [.lit (.bool true)], args := [d] }
  | _ => none }
def fnExactPolyOfRow : OpenClaim := { program := "ythkgmogacmmfpaa", sum := "031c7197a1c603dbcd54a7541d27b2af588fb0ddf0d67ec8ec459bcc765c3652", func := "loop.example/g00409/laws.FnExactPolyOf", spec := "fnExactPolyOf", unfollowed := true, recurses := true, apart := false }
def FnExactPolyOfSaid : Prop := fnExactPolyOfRow.holds Try.pinned (OpenSpec.ofChange fnExactPolyOfSpec)

/-- ITS FALSE NEIGHBOUR: 'it returns false'. Refute it at one input. -/
def fnExactPolyOfWrong : ChangeSpec := { name := "fnExactPolyOf", fn := fun _ => fun
  | [d] => { results := [.lit (.bool false)], args := [d] }
  | _ => none }
def FnExactPolyOfWrongFalsely : Prop := fnExactPolyOfRow.holds Try.pinned (OpenSpec.ofChange fnExactPolyOfWrong)

/-- 'laws.FnExactDerivePoly': WHATEVER THE INPUT: true; the input reads as it did. -/
def fnExactDerivePolySpec : ChangeSpec := { name := "fnExactDerivePoly", fn := fun _ => fun
  | [d] => { results := [.lit (.bool true)], args := [d] }
  | _ => none }
def fnExactDerivePolyRow : OpenClaim := { program := "ythkgmogacmmfpaa", sum := "031c7197a1c603dbcd54a7541d27b2af588fb0ddf0d67ec8ec459bcc765c3652", func := "loop.example/g00409/laws.FnExactDerivePoly", spec := "fnExactDerivePoly", unfollowed := true, recurses := true, apart := false }
def FnExactDerivePolySaid : Prop := fnExactDerivePolyRow.holds Try.pinned (OpenSpec.ofChange fnExactDerivePolySpec)

/-- ITS FALSE NEIGHBOUR: 'it returns false'. Refute it at one input. -/
def fnExactDerivePolyWrong : ChangeSpec := { name := "fnExactDerivePoly", fn := fun _ => fun
  | [d] => { results := [.lit (.bool false)], args := [d] }
  | _ => none }
def FnExactDerivePolyWrongFalsely : Prop := fnExactDerivePolyRow.holds Try.pinned (OpenSpec.ofChange fnExactDerivePolyWrong)

/-- 'laws.FnExactAddPoly': WHATEVER THE INPUT: true; the input reads as it did. -/
def fnExactAddPolySpec : ChangeSpec := { name := "fnExactAddPoly", fn := fun _ => fun
  | [d1, d2] => { results := [.lit (.bool true)], args := [d1, d2] }
  | _ => none }
def fnExactAddPolyRow : OpenClaim := { program := "ythkgmogacmmfpaa", sum := "031c7197a1c603dbcd54a7541d27b2af588fb0ddf0d67ec8ec459bcc765c3652", func := "loop.example/g00409/laws.FnExactAddPoly", spec := "fnExactAddPoly", unfollowed := true, recurses := true, apart := false }
def FnExactAddPolySaid : Prop := fnExactAddPolyRow.holds Try.pinned (OpenSpec.ofChange fnExactAddPolySpec)

/-- ITS FALSE NEIGHBOUR: 'it returns false'. Refute it at one input. -/
def fnExactAddPolyWrong : ChangeSpec := { name := "fnExactAddPoly", fn := fun _ => fun
  | [d1, d2] => { results := [.lit (.bool false)], args := [d1, d2] }
  | _ => none }
def FnExactAddPolyWrongFalsely : Prop := fnExactAddPolyRow.holds Try.pinned (OpenSpec.ofChange fnExactAddPolyWrong)

/-- 'laws.FnExactMulPoly': WHATEVER THE INPUT: true; the input reads as it did. -/
def fnExactMulPolySpec : ChangeSpec := { name := "fnExactMulPoly", fn := fun _ => fun
  | [d1, d2] => { results := [.lit (.bool true)], args := [d1, d2] }
  | _ => none }
def fnExactMulPolyRow : OpenClaim := { program := "ythkgmogacmmfpaa", sum := "031c7197a1c603dbcd54a7541d27b2af588fb0ddf0d67ec8ec459bcc765c3652", func := "loop.example/g00409/laws.FnExactMulPoly", spec := "fnExactMulPoly", unfollowed := true, recurses := true, apart := false }
def FnExactMulPolySaid : Prop := fnExactMulPolyRow.holds Try.pinned (OpenSpec.ofChange fnExactMulPolySpec)

/-- ITS FALSE NEIGHBOUR: 'it returns false'. Refute it at one input. -/
def fnExactMulPolyWrong : ChangeSpec := { name := "fnExactMulPoly", fn := fun _ => fun
  | [d1, d2] => { results := [.lit (.bool false)], args := [d1, d2] }
  | _ => none }
def FnExactMulPolyWrongFalsely : Prop := fnExactMulPolyRow.holds Try.pinned (OpenSpec.ofChange fnExactMulPolyWrong)

/- THE SECOND FORM. 'bulk': how many values and letters a reading holds, each counted each time it is reached (what is shared counts as often as it is met; a slice's spare places count too). A statement '..UptoSaid' is the law's where the arguments, and the package variables that the reading takes, are together of bulk at most 1048576: NARROWER than '..Said'. Prove '..Said' where nothing that the law and all that it calls make is longer than what came in: it says more and counts as full. Else prove '..UptoSaid'. A law counts once. -/
mutual
def uptoBulk {H : Type} : DataW H → Nat
  | .lit (.string bytes) => bytes.length + 1
  | .lit _ => 1
  | .nil => 1
  | .ptr d => uptoBulk d + 1
  | .slice elems spare => uptoBulkAll elems + uptoBulkAll spare + 1
  | .agg parts => uptoBulkAll parts + 1
  | .iface _ d => uptoBulk d + 1
  | .map entries => uptoBulkEntries entries + 1
  | .held _ => 1
def uptoBulkAll {H : Type} : List (DataW H) → Nat
  | [] => 0
  | d :: r => uptoBulk d + uptoBulkAll r
def uptoBulkEntries {H : Type} : List (Lit × DataW H) → Nat
  | [] => 0
  | x :: r => uptoBulkEntry x + uptoBulkEntries r
def uptoBulkEntry {H : Type} : Lit × DataW H → Nat
  | (.string bytes, d) => bytes.length + uptoBulk d + 1
  | (_, d) => uptoBulk d + 1
 end
def uptoSmall : (H : Type) → List (DataW H) → Bool := fun _ ds => decide (uptoBulkAll ds ≤ 1048576)
def OpenSpec.upto (s : _root_.Go.ChangeSpec) : _root_.Go.OpenSpec := { _root_.Go.OpenSpec.ofChange s with cond := some uptoSmall }

/-- 'laws.FnExactGoodPoly', WHERE WHAT IT READS IS OF BULK AT MOST 1048576: true; the input reads as it did. -/
def fnExactGoodPolyUptoRow : OpenClaim := { program := "ythkgmogacmmfpaa", sum := "031c7197a1c603dbcd54a7541d27b2af588fb0ddf0d67ec8ec459bcc765c3652", func := "loop.example/g00409/laws.FnExactGoodPoly", spec := "fnExactGoodPoly", unfollowed := true, recurses := true, apart := false, narrowed := true }
def FnExactGoodPolyUptoSaid : Prop := fnExactGoodPolyUptoRow.holds Try.pinned (OpenSpec.upto fnExactGoodPolySpec)

/-- 'laws.FnExactRootsPoly', WHERE WHAT IT READS IS OF BULK AT MOST 1048576: true; the input reads as it did. -/
def fnExactRootsPolyUptoRow : OpenClaim := { program := "ythkgmogacmmfpaa", sum := "031c7197a1c603dbcd54a7541d27b2af588fb0ddf0d67ec8ec459bcc765c3652", func := "loop.example/g00409/laws.FnExactRootsPoly", spec := "fnExactRootsPoly", unfollowed := true, recurses := true, apart := false, narrowed := true }
def FnExactRootsPolyUptoSaid : Prop := fnExactRootsPolyUptoRow.holds Try.pinned (OpenSpec.upto fnExactRootsPolySpec)

/-- 'laws.FnExactSignsIn', WHERE WHAT IT READS IS OF BULK AT MOST 1048576: true; the input reads as it did. -/
def fnExactSignsInUptoRow : OpenClaim := { program := "ythkgmogacmmfpaa", sum := "031c7197a1c603dbcd54a7541d27b2af588fb0ddf0d67ec8ec459bcc765c3652", func := "loop.example/g00409/laws.FnExactSignsIn", spec := "fnExactSignsIn", unfollowed := true, recurses := true, apart := false, narrowed := true }
def FnExactSignsInUptoSaid : Prop := fnExactSignsInUptoRow.holds Try.pinned (OpenSpec.upto fnExactSignsInSpec)

/-- 'laws.FnExactHasRoot', WHERE WHAT IT READS IS OF BULK AT MOST 1048576: true; the input reads as it did. -/
def fnExactHasRootUptoRow : OpenClaim := { program := "ythkgmogacmmfpaa", sum := "031c7197a1c603dbcd54a7541d27b2af588fb0ddf0d67ec8ec459bcc765c3652", func := "loop.example/g00409/laws.FnExactHasRoot", spec := "fnExactHasRoot", unfollowed := true, recurses := true, apart := false, narrowed := true }
def FnExactHasRootUptoSaid : Prop := fnExactHasRootUptoRow.holds Try.pinned (OpenSpec.upto fnExactHasRootSpec)

/-- 'laws.FnExactEvalPoly', WHERE WHAT IT READS IS OF BULK AT MOST 1048576: true; the input reads as it did. -/
def fnExactEvalPolyUptoRow : OpenClaim := { program := "ythkgmogacmmfpaa", sum := "031c7197a1c603dbcd54a7541d27b2af588fb0ddf0d67ec8ec459bcc765c3652", func := "loop.example/g00409/laws.FnExactEvalPoly", spec := "fnExactEvalPoly", unfollowed := true, recurses := true, apart := false, narrowed := true }
def FnExactEvalPolyUptoSaid : Prop := fnExactEvalPolyUptoRow.holds Try.pinned (OpenSpec.upto fnExactEvalPolySpec)

/-- 'laws.FnExactPolyOf', WHERE WHAT IT READS IS OF BULK AT MOST 1048576: true; the input reads as it did. -/
def fnExactPolyOfUptoRow : OpenClaim := { program := "ythkgmogacmmfpaa", sum := "031c7197a1c603dbcd54a7541d27b2af588fb0ddf0d67ec8ec459bcc765c3652", func := "loop.example/g00409/laws.FnExactPolyOf", spec := "fnExactPolyOf", unfollowed := true, recurses := true, apart := false, narrowed := true }
def FnExactPolyOfUptoSaid : Prop := fnExactPolyOfUptoRow.holds Try.pinned (OpenSpec.upto fnExactPolyOfSpec)

/-- 'laws.FnExactDerivePoly', WHERE WHAT IT READS IS OF BULK AT MOST 1048576: true; the input reads as it did. -/
def fnExactDerivePolyUptoRow : OpenClaim := { program := "ythkgmogacmmfpaa", sum := "031c7197a1c603dbcd54a7541d27b2af588fb0ddf0d67ec8ec459bcc765c3652", func := "loop.example/g00409/laws.FnExactDerivePoly", spec := "fnExactDerivePoly", unfollowed := true, recurses := true, apart := false, narrowed := true }
def FnExactDerivePolyUptoSaid : Prop := fnExactDerivePolyUptoRow.holds Try.pinned (OpenSpec.upto fnExactDerivePolySpec)

/-- 'laws.FnExactAddPoly', WHERE WHAT IT READS IS OF BULK AT MOST 1048576: true; the input reads as it did. -/
def fnExactAddPolyUptoRow : OpenClaim := { program := "ythkgmogacmmfpaa", sum := "031c7197a1c603dbcd54a7541d27b2af588fb0ddf0d67ec8ec459bcc765c3652", func := "loop.example/g00409/laws.FnExactAddPoly", spec := "fnExactAddPoly", unfollowed := true, recurses := true, apart := false, narrowed := true }
def FnExactAddPolyUptoSaid : Prop := fnExactAddPolyUptoRow.holds Try.pinned (OpenSpec.upto fnExactAddPolySpec)

/-- 'laws.FnExactMulPoly', WHERE WHAT IT READS IS OF BULK AT MOST 1048576: true; the input reads as it did. -/
def fnExactMulPolyUptoRow : OpenClaim := { program := "ythkgmogacmmfpaa", sum := "031c7197a1c603dbcd54a7541d27b2af588fb0ddf0d67ec8ec459bcc765c3652", func := "loop.example/g00409/laws.FnExactMulPoly", spec := "fnExactMulPoly", unfollowed := true, recurses := true, apart := false, narrowed := true }
def FnExactMulPolyUptoSaid : Prop := fnExactMulPolyUptoRow.holds Try.pinned (OpenSpec.upto fnExactMulPolySpec)

end Rows
end Go.Proofs.Ythkgmogacmmfpaa
