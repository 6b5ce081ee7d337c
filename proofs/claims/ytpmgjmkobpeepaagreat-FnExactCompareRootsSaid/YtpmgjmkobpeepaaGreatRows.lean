/-
  No cell of these rows narrows 'for every input' (looked for: loops, veiled, ifaces, maps, wideKeys, modest, calm, conditions, laid).
  DERIVED. THE GIVEN ROWS OF THIS SEAT. 7 by the template 'for every input the law returns true; each argument reads behind the call as it read before'; 0 by the template 'total and deterministic' (their statements: YtpmgjmkobpeepaaGreatTotals.lean).
  GIVEN WITH THE SEED: the statements are not yours to turn. If you find one false, say at which input.
  Laid BY PROGRAM, IN A SANDBOX (cutbox-rows.mjs): the forced cells as the released guide's own fill.sh prints them over the translation 711cb74f0125340d… (all of the seat's roots in one cut). By AI agents, Wed Nov 11 2026. No macro, syntax, notation, axiom, sorry.
-/
import Derived.Test.YtpmgjmkobpeepaaGreatChecked
import GoSem.Claim
import GoSem.ClaimJoined
import GoSem.ClaimMapViews
import Derived.JoinedTies
import Derived.KernelRfl
namespace Go.Proofs.YtpmgjmkobpeepaaGreat
/- THE CELL 'sum', in the pinned program and in every row, IS THE sha256 OF THE DUMP (.gsa) THAT YtpmgjmkobpeepaaGreatProg.lean LOADS. Nothing in Lean hashes anything: it is a label: what it is worth is what the hold of that sum in a sandbox is worth. -/
noncomputable def Tryz.pinned : Pinned := { name := "ytpmgjmkobpeepaagreat", sum := "711cb74f0125340d6002bc9020138d8c95cb1ce38affea126f21f96d1c726ba5", checked := Tryz.checked }
namespace Rows
def none {H : Type} : Left H := { results := [], args := [] }

/-- 'laws.FnExactDivPoly': WHATEVER THE INPUT: true; the input reads as it did. -/
def fnExactDivPolySpec : ChangeSpec := { name := "fnExactDivPoly", fn := fun _ => fun
  | [d1, d2] => { results := [.lit (.bool true)], args := [d1, d2] }
  | _ => none }
def fnExactDivPolyRow : OpenClaim := { program := "ytpmgjmkobpeepaagreat", sum := "711cb74f0125340d6002bc9020138d8c95cb1ce38affea126f21f96d1c726ba5", func := "loop.example/g00409/laws.FnExactDivPoly", spec := "fnExactDivPoly", unfollowed := true, recurses := true, apart := false }
def FnExactDivPolySaid : Prop := fnExactDivPolyRow.holds Tryz.pinned (OpenSpec.ofChange fnExactDivPolySpec)

/-- ITS FALSE NEIGHBOUR: 'it returns false'. Refute it at one input. -/
def fnExactDivPolyWrong : ChangeSpec := { name := "fnExactDivPoly", fn := fun _ => fun
  | [d1, d2] => { results := [.lit (.bool false)], args := [d1, d2] }
  | _ => none }
def FnExactDivPolyWrongFalsely : Prop := fnExactDivPolyRow.holds Tryz.pinned (OpenSpec.ofChange fnExactDivPolyWrong)

/-- 'laws.FnExactShiftPoly': WHATEVER THE INPUT: true; the input reads as it did. -/
def fnExactShiftPolySpec : ChangeSpec := { name := "fnExactShiftPoly", fn := fun _ => fun
  | [d1, d2] => { results := [.lit (.bool true)], args := [d1, d2] }
  | _ => none }
def fnExactShiftPolyRow : OpenClaim := { program := "ytpmgjmkobpeepaagreat", sum := "711cb74f0125340d6002bc9020138d8c95cb1ce38affea126f21f96d1c726ba5", func := "loop.example/g00409/laws.FnExactShiftPoly", spec := "fnExactShiftPoly", unfollowed := true, recurses := true, apart := false }
def FnExactShiftPolySaid : Prop := fnExactShiftPolyRow.holds Tryz.pinned (OpenSpec.ofChange fnExactShiftPolySpec)

/-- ITS FALSE NEIGHBOUR: 'it returns false'. Refute it at one input. -/
def fnExactShiftPolyWrong : ChangeSpec := { name := "fnExactShiftPoly", fn := fun _ => fun
  | [d1, d2] => { results := [.lit (.bool false)], args := [d1, d2] }
  | _ => none }
def FnExactShiftPolyWrongFalsely : Prop := fnExactShiftPolyRow.holds Tryz.pinned (OpenSpec.ofChange fnExactShiftPolyWrong)

/-- 'laws.FnExactGcdPoly': WHATEVER THE INPUT: true; the input reads as it did. -/
def fnExactGcdPolySpec : ChangeSpec := { name := "fnExactGcdPoly", fn := fun _ => fun
  | [d1, d2] => { results := [.lit (.bool true)], args := [d1, d2] }
  | _ => none }
def fnExactGcdPolyRow : OpenClaim := { program := "ytpmgjmkobpeepaagreat", sum := "711cb74f0125340d6002bc9020138d8c95cb1ce38affea126f21f96d1c726ba5", func := "loop.example/g00409/laws.FnExactGcdPoly", spec := "fnExactGcdPoly", unfollowed := true, recurses := true, apart := false }
def FnExactGcdPolySaid : Prop := fnExactGcdPolyRow.holds Tryz.pinned (OpenSpec.ofChange fnExactGcdPolySpec)

/-- ITS FALSE NEIGHBOUR: 'it returns false'. Refute it at one input. -/
def fnExactGcdPolyWrong : ChangeSpec := { name := "fnExactGcdPoly", fn := fun _ => fun
  | [d1, d2] => { results := [.lit (.bool false)], args := [d1, d2] }
  | _ => none }
def FnExactGcdPolyWrongFalsely : Prop := fnExactGcdPolyRow.holds Tryz.pinned (OpenSpec.ofChange fnExactGcdPolyWrong)

/-- 'laws.FnExactSquareFree': WHATEVER THE INPUT: true; the input reads as it did. -/
def fnExactSquareFreeSpec : ChangeSpec := { name := "fnExactSquareFree", fn := fun _ => fun
  | [d] => { results := [.lit (.bool true)], args := [d] }
  | _ => none }
def fnExactSquareFreeRow : OpenClaim := { program := "ytpmgjmkobpeepaagreat", sum := "711cb74f0125340d6002bc9020138d8c95cb1ce38affea126f21f96d1c726ba5", func := "loop.example/g00409/laws.FnExactSquareFree", spec := "fnExactSquareFree", unfollowed := true, recurses := true, apart := false }
def FnExactSquareFreeSaid : Prop := fnExactSquareFreeRow.holds Tryz.pinned (OpenSpec.ofChange fnExactSquareFreeSpec)

/-- ITS FALSE NEIGHBOUR: 'it returns false'. Refute it at one input. -/
def fnExactSquareFreeWrong : ChangeSpec := { name := "fnExactSquareFree", fn := fun _ => fun
  | [d] => { results := [.lit (.bool false)], args := [d] }
  | _ => none }
def FnExactSquareFreeWrongFalsely : Prop := fnExactSquareFreeRow.holds Tryz.pinned (OpenSpec.ofChange fnExactSquareFreeWrong)

/-- 'laws.FnExactRefineRoot': WHATEVER THE INPUT: true; the input reads as it did. -/
def fnExactRefineRootSpec : ChangeSpec := { name := "fnExactRefineRoot", fn := fun _ => fun
  | [d1, d2, d3] => { results := [.lit (.bool true)], args := [d1, d2, d3] }
  | _ => none }
def fnExactRefineRootRow : OpenClaim := { program := "ytpmgjmkobpeepaagreat", sum := "711cb74f0125340d6002bc9020138d8c95cb1ce38affea126f21f96d1c726ba5", func := "loop.example/g00409/laws.FnExactRefineRoot", spec := "fnExactRefineRoot", unfollowed := true, recurses := true, apart := false }
def FnExactRefineRootSaid : Prop := fnExactRefineRootRow.holds Tryz.pinned (OpenSpec.ofChange fnExactRefineRootSpec)

/-- ITS FALSE NEIGHBOUR: 'it returns false'. Refute it at one input. -/
def fnExactRefineRootWrong : ChangeSpec := { name := "fnExactRefineRoot", fn := fun _ => fun
  | [d1, d2, d3] => { results := [.lit (.bool false)], args := [d1, d2, d3] }
  | _ => none }
def FnExactRefineRootWrongFalsely : Prop := fnExactRefineRootRow.holds Tryz.pinned (OpenSpec.ofChange fnExactRefineRootWrong)

/-- 'laws.FnExactSignAtRoot': WHATEVER THE INPUT: true; the input reads as it did. -/
def fnExactSignAtRootSpec : ChangeSpec := { name := "fnExactSignAtRoot", fn := fun _ => fun
  | [d1, d2, d3] => { results := [.lit (.bool true)], args := [d1, d2, d3] }
  | _ => none }
def fnExactSignAtRootRow : OpenClaim := { program := "ytpmgjmkobpeepaagreat", sum := "711cb74f0125340d6002bc9020138d8c95cb1ce38affea126f21f96d1c726ba5", func := "loop.example/g00409/laws.FnExactSignAtRoot", spec := "fnExactSignAtRoot", unfollowed := true, recurses := true, apart := false }
def FnExactSignAtRootSaid : Prop := fnExactSignAtRootRow.holds Tryz.pinned (OpenSpec.ofChange fnExactSignAtRootSpec)

/-- ITS FALSE NEIGHBOUR: 'it returns false'. Refute it at one input. -/
def fnExactSignAtRootWrong : ChangeSpec := { name := "fnExactSignAtRoot", fn := fun _ => fun
  | [d1, d2, d3] => { results := [.lit (.bool false)], args := [d1, d2, d3] }
  | _ => none }
def FnExactSignAtRootWrongFalsely : Prop := fnExactSignAtRootRow.holds Tryz.pinned (OpenSpec.ofChange fnExactSignAtRootWrong)

/-- 'laws.FnExactCompareRoots': WHATEVER THE INPUT: true; the input reads as it did. -/
def fnExactCompareRootsSpec : ChangeSpec := { name := "fnExactCompareRoots", fn := fun _ => fun
  | [d1, d2, d3, d4] => { results := [.lit (.bool true)], args := [d1, d2, d3, d4] }
  | _ => none }
def fnExactCompareRootsRow : OpenClaim := { program := "ytpmgjmkobpeepaagreat", sum := "711cb74f0125340d6002bc9020138d8c95cb1ce38affea126f21f96d1c726ba5", func := "loop.example/g00409/laws.FnExactCompareRoots", spec := "fnExactCompareRoots", unfollowed := true, recurses := true, apart := false }
def FnExactCompareRootsSaid : Prop := fnExactCompareRootsRow.holds Tryz.pinned (OpenSpec.ofChange fnExactCompareRootsSpec)

/-- ITS FALSE NEIGHBOUR: 'it returns false'. Refute it at one input. -/
def fnExactCompareRootsWrong : ChangeSpec := { name := "fnExactCompareRoots", fn := fun _ => fun
  | [d1, d2, d3, d4] => { results := [.lit (.bool false)], args := [d1, d2, d3, d4] }
  | _ => none }
def FnExactCompareRootsWrongFalsely : Prop := fnExactCompareRootsRow.holds Tryz.pinned (OpenSpec.ofChange fnExactCompareRootsWrong)

/- THE SECOND FORM. 'bulk': how many values and letters a reading holds, each counted each time it is reached (what is shared counts as often as it is met; a slice's spare places count too). A statement '..UptoSaid' is the law's where the arguments, and the package variables that the reading takes, are together of bulk at most 1048576: NARROWER than '..Said'. Prove '..Said' where nothing that the law and all that it calls make is longer than what came in: it says more and counts as full. Else prove '..UptoSaid'. A law counts once. -/
mutual
def uptoBulk {H : Type} : DataW H → Nat
  | .lit (.string bytes) => bytes.length + 1
  | .lit _ => 1
  | .nil => 1
  | .ptr d => uptoBulk d + 1
  | .slice elems spare => uptoBulkAll elems + uptoBulkAll spare + 1
  | .agg parts => uptoBulkAll parts + 1
  | .iface _ d => uptoBulk d + 1
  | .map entries => uptoBulkEntries entries + 1
  | .held _ => 1
def uptoBulkAll {H : Type} : List (DataW H) → Nat
  | [] => 0
  | d :: r => uptoBulk d + uptoBulkAll r
def uptoBulkEntries {H : Type} : List (Lit × DataW H) → Nat
  | [] => 0
  | x :: r => uptoBulkEntry x + uptoBulkEntries r
def uptoBulkEntry {H : Type} : Lit × DataW H → Nat
  | (.string bytes, d) => bytes.length + uptoBulk d + 1
  | (_, d) => uptoBulk d + 1
 end
def uptoSmall : (H : Type) → List (DataW H) → Bool := fun _ ds => decide (uptoBulkAll ds ≤ 1048576)
def OpenSpec.upto (s : _root_.Go.ChangeSpec) : _root_.Go.OpenSpec := { _root_.Go.OpenSpec.ofChange s with cond := some uptoSmall }

/-- 'laws.FnExactDivPoly', WHERE WHAT IT READS IS OF BULK AT MOST 1048576: true; the input reads as it did. -/
def fnExactDivPolyUptoRow : OpenClaim := { program := "ytpmgjmkobpeepaagreat", sum := "711cb74f0125340d6002bc9020138d8c95cb1ce38affea126f21f96d1c726ba5", func := "loop.example/g00409/laws.FnExactDivPoly", spec := "fnExactDivPoly", unfollowed := true, recurses := true, apart := false, narrowed := true }
def FnExactDivPolyUptoSaid : Prop := fnExactDivPolyUptoRow.holds Tryz.pinned (OpenSpec.upto fnExactDivPolySpec)

/-- 'laws.FnExactShiftPoly', WHERE WHAT IT READS IS OF BULK AT MOST 1048576: true; the input reads as it did. -/
def fnExactShiftPolyUptoRow : OpenClaim := { program := "ytpmgjmkobpeepaagreat", sum := "711cb74f0125340d6002bc9020138d8c95cb1ce38affea126f21f96d1c726ba5", func := "loop.example/g00409/laws.FnExactShiftPoly", spec := "fnExactShiftPoly", unfollowed := true, recurses := true, apart := false, narrowed := true }
def FnExactShiftPolyUptoSaid : Prop := fnExactShiftPolyUptoRow.holds Tryz.pinned (OpenSpec.upto fnExactShiftPolySpec)

/-- 'laws.FnExactGcdPoly', WHERE WHAT IT READS IS OF BULK AT MOST 1048576: true; the input reads as it did. -/
def fnExactGcdPolyUptoRow : OpenClaim := { program := "ytpmgjmkobpeepaagreat", sum := "711cb74f0125340d6002bc9020138d8c95cb1ce38affea126f21f96d1c726ba5", func := "loop.example/g00409/laws.FnExactGcdPoly", spec := "fnExactGcdPoly", unfollowed := true, recurses := true, apart := false, narrowed := true }
def FnExactGcdPolyUptoSaid : Prop := fnExactGcdPolyUptoRow.holds Tryz.pinned (OpenSpec.upto fnExactGcdPolySpec)

/-- 'laws.FnExactSquareFree', WHERE WHAT IT READS IS OF BULK AT MOST 1048576: true; the input reads as it did. -/
def fnExactSquareFreeUptoRow : OpenClaim := { program := "ytpmgjmkobpeepaagreat", sum := "711cb74f0125340d6002bc9020138d8c95cb1ce38affea126f21f96d1c726ba5", func := "loop.example/g00409/laws.FnExactSquareFree", spec := "fnExactSquareFree", unfollowed := true, recurses := true, apart := false, narrowed := true }
def FnExactSquareFreeUptoSaid : Prop := fnExactSquareFreeUptoRow.holds Tryz.pinned (OpenSpec.upto fnExactSquareFreeSpec)

/-- 'laws.FnExactRefineRoot', WHERE WHAT IT READS IS OF BULK AT MOST 1048576: true; the input reads as it did. -/
def fnExactRefineRootUptoRow : OpenClaim := { program := "ytpmgjmkobpeepaagreat", sum := "711cb74f0125340d6002bc9020138d8c95cb1ce38affea126f21f96d1c726ba5", func := "loop.example/g00409/laws.FnExactRefineRoot", spec := "fnExactRefineRoot", unfollowed := true, recurses := true, apart := false, narrowed := true }
def FnExactRefineRootUptoSaid : Prop := fnExactRefineRootUptoRow.holds Tryz.pinned (OpenSpec.upto fnExactRefineRootSpec)

/-- 'laws.FnExactSignAtRoot', WHERE WHAT IT READS IS OF BULK AT MOST 1048576: true; the input reads as it did. -/
def fnExactSignAtRootUptoRow : OpenClaim := { program := "ytpmgjmkobpeepaagreat", sum := "711cb74f0125340d6002bc9020138d8c95cb1ce38affea126f21f96d1c726ba5", func := "loop.example/g00409/laws.FnExactSignAtRoot", spec := "fnExactSignAtRoot", unfollowed := true, recurses := true, apart := false, narrowed := true }
def FnExactSignAtRootUptoSaid : Prop := fnExactSignAtRootUptoRow.holds Tryz.pinned (OpenSpec.upto fnExactSignAtRootSpec)

/-- 'laws.FnExactCompareRoots', WHERE WHAT IT READS IS OF BULK AT MOST 1048576: true; the input reads as it did. -/
def fnExactCompareRootsUptoRow : OpenClaim := { program := "ytpmgjmkobpeepaagreat", sum := "711cb74f0125340d6002bc9020138d8c95cb1ce38affea126f21f96d1c726ba5", func := "loop.example/g00409/laws.FnExactCompareRoots", spec := "fnExactCompareRoots", unfollowed := true, recurses := true, apart := false, narrowed := true }
def FnExactCompareRootsUptoSaid : Prop := fnExactCompareRootsUptoRow.holds Tryz.pinned (OpenSpec.upto fnExactCompareRootsSpec)

end Rows
end Go.Proofs.YtpmgjmkobpeepaaGreat
