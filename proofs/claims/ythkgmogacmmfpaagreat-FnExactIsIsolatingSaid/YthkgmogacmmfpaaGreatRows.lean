/-
  No cell of these rows narrows 'for every input' (looked for: loops, veiled, ifaces, maps, wideKeys, modest, calm, conditions, laid).
  DERIVED. THE GIVEN ROWS OF THIS SEAT. 3 by the template 'for every input the law returns true; each argument reads behind the call as it read before'; 0 by the template 'total and deterministic' (their statements: YthkgmogacmmfpaaGreatTotals.lean).
  GIVEN WITH THE SEED: the statements are not yours to turn. If you find one false, say at which input.
  Laid BY PROGRAM, IN A SANDBOX (cutbox-rows.mjs): the forced cells as the released guide's own fill.sh prints them over the translation f982e04791e0c100… (all of the seat's roots in one cut). By AI agents, Wed Nov 11 2026. No macro, syntax, notation, axiom, sorry.
-/
import Derived.Test.YthkgmogacmmfpaaGreatChecked
import GoSem.Claim
import GoSem.ClaimJoined
import GoSem.ClaimMapViews
import Derived.JoinedTies
import Derived.KernelRfl
namespace Go.Proofs.YthkgmogacmmfpaaGreat
/- THE CELL 'sum', in the pinned program and in every row, IS THE sha256 OF THE DUMP (.gsa) THAT YthkgmogacmmfpaaGreatProg.lean LOADS. Nothing in Lean hashes anything: it is a label: what it is worth is what the hold of that sum in a sandbox is worth. -/
noncomputable def Tryz.pinned : Pinned := { name := "ythkgmogacmmfpaagreat", sum := "f982e04791e0c1008320ad9aafaba7e9a1c4f812f41b8e6ee5c915bf4a3a8e4f", checked := Tryz.checked }
namespace Rows
def none {H : Type} : Left H := { results := [], args := [] }

/-- 'laws.FnExactBudanCount': WHATEVER THE INPUT: true; the input reads as it did. -/
def fnExactBudanCountSpec : ChangeSpec := { name := "fnExactBudanCount", fn := fun _ => fun
  | [d1, d2, d3] => { results := [.lit (.bool true)], args := [d1, d2, d3] }
  | _ => none }
def fnExactBudanCountRow : OpenClaim := { program := "ythkgmogacmmfpaagreat", sum := "f982e04791e0c1008320ad9aafaba7e9a1c4f812f41b8e6ee5c915bf4a3a8e4f", func := "loop.example/g00409/laws.FnExactBudanCount", spec := "fnExactBudanCount", unfollowed := true, recurses := true, apart := false }
def FnExactBudanCountSaid : Prop := fnExactBudanCountRow.holds Tryz.pinned (OpenSpec.ofChange fnExactBudanCountSpec)

/-- ITS FALSE NEIGHBOUR: 'it returns false'. Refute it at one input. -/
def fnExactBudanCountWrong : ChangeSpec := { name := "fnExactBudanCount", fn := fun _ => fun
  | [d1, d2, d3] => { results := [.lit (.bool false)], args := [d1, d2, d3] }
  | _ => none }
def FnExactBudanCountWrongFalsely : Prop := fnExactBudanCountRow.holds Tryz.pinned (OpenSpec.ofChange fnExactBudanCountWrong)

/-- 'laws.FnExactIsIsolating': WHATEVER THE INPUT: true; the input reads as it did. -/
def fnExactIsIsolatingSpec : ChangeSpec := { name := "fnExactIsIsolating", fn := fun _ => fun
  | [d1, d2] => { results := [.lit (.bool true)], args := [d1, d2] }
  | _ => none }
def fnExactIsIsolatingRow : OpenClaim := { program := "ythkgmogacmmfpaagreat", sum := "f982e04791e0c1008320ad9aafaba7e9a1c4f812f41b8e6ee5c915bf4a3a8e4f", func := "loop.example/g00409/laws.FnExactIsIsolating", spec := "fnExactIsIsolating", unfollowed := true, recurses := true, apart := false }
def FnExactIsIsolatingSaid : Prop := fnExactIsIsolatingRow.holds Tryz.pinned (OpenSpec.ofChange fnExactIsIsolatingSpec)

/-- ITS FALSE NEIGHBOUR: 'it returns false'. Refute it at one input. -/
def fnExactIsIsolatingWrong : ChangeSpec := { name := "fnExactIsIsolating", fn := fun _ => fun
  | [d1, d2] => { results := [.lit (.bool false)], args := [d1, d2] }
  | _ => none }
def FnExactIsIsolatingWrongFalsely : Prop := fnExactIsIsolatingRow.holds Tryz.pinned (OpenSpec.ofChange fnExactIsIsolatingWrong)

/-- 'laws.FnExactRootBound': WHATEVER THE INPUT: true; the input reads as it did. -/
def fnExactRootBoundSpec : ChangeSpec := { name := "fnExactRootBound", fn := fun _ => fun
  | [d] => { results := [.lit (.bool true)], args := [d] }
  | _ => none }
def fnExactRootBoundRow : OpenClaim := { program := "ythkgmogacmmfpaagreat", sum := "f982e04791e0c1008320ad9aafaba7e9a1c4f812f41b8e6ee5c915bf4a3a8e4f", func := "loop.example/g00409/laws.FnExactRootBound", spec := "fnExactRootBound", unfollowed := true, recurses := true, apart := false }
def FnExactRootBoundSaid : Prop := fnExactRootBoundRow.holds Tryz.pinned (OpenSpec.ofChange fnExactRootBoundSpec)

/-- ITS FALSE NEIGHBOUR: 'it returns false'. Refute it at one input. -/
def fnExactRootBoundWrong : ChangeSpec := { name := "fnExactRootBound", fn := fun _ => fun
  | [d] => { results := [.lit (.bool false)], args := [d] }
  | _ => none }
def FnExactRootBoundWrongFalsely : Prop := fnExactRootBoundRow.holds Tryz.pinned (OpenSpec.ofChange fnExactRootBoundWrong)

/- THE SECOND FORM. 'bulk': how many values and letters a reading holds, each counted each time it is reached (what is shared counts as often as it is met; a slice's spare places count too). A statement '..UptoSaid' is the law's where the arguments, and the package variables that the reading takes, are together of bulk at most 1048576: NARROWER than '..Said'. Prove '..Said' where nothing that the law and all that it calls make is longer than what came in: it says more and counts as full. Else prove '..UptoSaid'. A law counts once. -/
mutual
def uptoBulk {H : Type} : DataW H → Nat
  | .lit (.string bytes) => bytes.length + 1
  | .lit _ => 1
  | .nil => 1
  | .ptr d => uptoBulk d + 1
  | .slice elems spare => uptoBulkAll elems + uptoBulkAll spare + 1
  | .agg parts => uptoBulkAll parts + 1
  | .iface _ d => uptoBulk d + 1
  | .map entries => uptoBulkEntries entries + 1
  | .held _ => 1
def uptoBulkAll {H : Type} : List (DataW H) → Nat
  | [] => 0
  | d :: r => uptoBulk d + uptoBulkAll r
def uptoBulkEntries {H : Type} : List (Lit × DataW H) → Nat
  | [] => 0
  | x :: r => uptoBulkEntry x + uptoBulkEntries r
def uptoBulkEntry {H : Type} : Lit × DataW H → Nat
  | (.string bytes, d) => bytes.length + uptoBulk d + 1
  | (_, d) => uptoBulk d + 1
 end
def uptoSmall : (H : Type) → List (DataW H) → Bool := fun _ ds => decide (uptoBulkAll ds ≤ 1048576)
def OpenSpec.upto (s : _root_.Go.ChangeSpec) : _root_.Go.OpenSpec := { _root_.Go.OpenSpec.ofChange s with cond := some uptoSmall }

/-- 'laws.FnExactBudanCount', WHERE WHAT IT READS IS OF BULK AT MOST 1048576: true; the input reads as it did. -/
def fnExactBudanCountUptoRow : OpenClaim := { program := "ythkgmogacmmfpaagreat", sum := "f982e04791e0c1008320ad9aafaba7e9a1c4f812f41b8e6ee5c915bf4a3a8e4f", func := "loop.example/g00409/laws.FnExactBudanCount", spec := "fnExactBudanCount", unfollowed := true, recurses := true, apart := false, narrowed := true }
def FnExactBudanCountUptoSaid : Prop := fnExactBudanCountUptoRow.holds Tryz.pinned (OpenSpec.upto fnExactBudanCountSpec)

/-- 'laws.FnExactIsIsolating', WHERE WHAT IT READS IS OF BULK AT MOST 1048576: true; the input reads as it did. -/
def fnExactIsIsolatingUptoRow : OpenClaim := { program := "ythkgmogacmmfpaagreat", sum := "f982e04791e0c1008320ad9aafaba7e9a1c4f812f41b8e6ee5c915bf4a3a8e4f", func := "loop.example/g00409/laws.FnExactIsIsolating", spec := "fnExactIsIsolating", unfollowed := true, recurses := true, apart := false, narrowed := true }
def FnExactIsIsolatingUptoSaid : Prop := fnExactIsIsolatingUptoRow.holds Tryz.pinned (OpenSpec.upto fnExactIsIsolatingSpec)

/-- 'laws.FnExactRootBound', WHERE WHAT IT READS IS OF BULK AT MOST 1048576: true; the input reads as it did. -/
def fnExactRootBoundUptoRow : OpenClaim := { program := "ythkgmogacmmfpaagreat", sum := "f982e04791e0c1008320ad9aafaba7e9a1c4f812f41b8e6ee5c915bf4a3a8e4f", func := "loop.example/g00409/laws.FnExactRootBound", spec := "fnExactRootBound", unfollowed := true, recurses := true, apart := false, narrowed := true }
def FnExactRootBoundUptoSaid : Prop := fnExactRootBoundUptoRow.holds Tryz.pinned (OpenSpec.upto fnExactRootBoundSpec)

end Rows
end Go.Proofs.YthkgmogacmmfpaaGreat
