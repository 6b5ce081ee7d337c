/-
  No cell of these rows narrows 'for every input' (looked for: loops, veiled, ifaces, maps, wideKeys, modest, calm, conditions, laid).
  DERIVED. THE GIVEN ROWS OF THIS SEAT. 12 by the template 'for every input the law returns true; each argument reads behind the call as it read before'; 0 by the template 'total and deterministic' (their statements: YtdgagbjmbddefaaTotals.lean).
  GIVEN WITH THE SEED: the statements are not yours to turn. If you find one false, say at which input.
  Laid BY PROGRAM, IN A SANDBOX (cutbox-rows.mjs): the forced cells as the released guide's own fill.sh prints them over the translation b00c5b5b85e279a7… (all of the seat's roots in one cut). By AI agents, Wed Nov 11 2026. No macro, syntax, notation, axiom, sorry.
-/
import Derived.Test.YtdgagbjmbddefaaChecked
import GoSem.Claim
import GoSem.ClaimJoined
import GoSem.ClaimMapViews
import Derived.JoinedTies
import Derived.KernelRfl
namespace Go.Proofs.Ytdgagbjmbddefaa
/- THE CELL 'sum', in the pinned program and in every row, IS THE sha256 OF THE DUMP (.gsa) THAT YtdgagbjmbddefaaProg.lean LOADS. Nothing in Lean hashes anything: it is a label: what it is worth is what the hold of that sum in a sandbox is worth. -/
noncomputable def Try.pinned : Pinned := { name := "ytdgagbjmbddefaa", sum := "b00c5b5b85e279a7753309c8cbeba961e210a475243fb5b0f36a01418c2e5fbf", checked := Try.checked }
namespace Rows
def none {H : Type} : Left H := { results := [], args := [] }

/-- 'laws.FnExactGoodSpan': WHATEVER THE INPUT: true; the input reads as it did. -/
def fnExactGoodSpanSpec : ChangeSpec := { name := "fnExactGoodSpan", fn := fun _ => fun
  | [d] => { results := [.lit (.bool true)], args := [d] }
  | _ => none }
def fnExactGoodSpanRow : OpenClaim := { program := "ytdgagbjmbddefaa", sum := "b00c5b5b85e279a7753309c8cbeba961e210a475243fb5b0f36a01418c2e5fbf", func := "loop.example/g00409/laws.FnExactGoodSpan", spec := "fnExactGoodSpan", unfollowed := true, recurses := true, apart := false }
def FnExactGoodSpanSaid : Prop := fnExactGoodSpanRow.holds Try.pinned (OpenSpec.ofChange fnExactGoodSpanSpec)

/-- ITS FALSE NEIGHBOUR: 'it returns false'. Refute it at one input. -/
def fnExactGoodSpanWrong : ChangeSpec := { name := "fnExactGoodSpan", fn := fun _ => fun
  | [d] => { results := [.lit (.bool false)], args := [d] }
  | _ => none }
def FnExactGoodSpanWrongFalsely : Prop := fnExactGoodSpanRow.holds Try.pinned (OpenSpec.ofChange fnExactGoodSpanWrong)

/-- 'laws.FnExactInSpan': WHATEVER THE INPUT: true; the input reads as it did. -/
def fnExactInSpanSpec : ChangeSpec := { name := "fnExactInSpan", fn := fun _ => fun
  | [d1, d2] => { results := [.lit (.bool true)], args := [d1, d2] }
  | _ => none }
def fnExactInSpanRow : OpenClaim := { program := "ytdgagbjmbddefaa", sum := "b00c5b5b85e279a7753309c8cbeba961e210a475243fb5b0f36a01418c2e5fbf", func := "loop.example/g00409/laws.FnExactInSpan", spec := "fnExactInSpan", unfollowed := true, recurses := true, apart := false }
def FnExactInSpanSaid : Prop := fnExactInSpanRow.holds Try.pinned (OpenSpec.ofChange fnExactInSpanSpec)

/-- ITS FALSE NEIGHBOUR: 'it returns false'. Refute it at one input. -/
def fnExactInSpanWrong : ChangeSpec := { name := "fnExactInSpan", fn := fun _ => fun
  | [d1, d2] => { results := [.lit (.bool false)], args := [d1, d2] }
  | _ => none }
def FnExactInSpanWrongFalsely : Prop := fnExactInSpanRow.holds Try.pinned (OpenSpec.ofChange fnExactInSpanWrong)

/-- 'laws.FnExactPointSpan': WHATEVER THE INPUT: true; the input reads as it did. -/
def fnExactPointSpanSpec : ChangeSpec := { name := "fnExactPointSpan", fn := fun _ => fun
  | [d] => { results := [.lit (.bool true)], args := [d] }
  | _ => none }
def fnExactPointSpanRow : OpenClaim := { program := "ytdgagbjmbddefaa", sum := "b00c5b5b85e279a7753309c8cbeba961e210a475243fb5b0f36a01418c2e5fbf", func := "loop.example/g00409/laws.FnExactPointSpan", spec := "fnExactPointSpan", unfollowed := true, recurses := true, apart := false }
def FnExactPointSpanSaid : Prop := fnExactPointSpanRow.holds Try.pinned (OpenSpec.ofChange fnExactPointSpanSpec)

/-- ITS FALSE NEIGHBOUR: 'it returns false'. Refute it at one input. -/
def fnExactPointSpanWrong : ChangeSpec := { name := "fnExactPointSpan", fn := fun _ => fun
  | [d] => { results := [.lit (.bool false)], args := [d] }
  | _ => none }
def FnExactPointSpanWrongFalsely : Prop := fnExactPointSpanRow.holds Try.pinned (OpenSpec.ofChange fnExactPointSpanWrong)

/-- 'laws.FnExactJoinSpan': WHATEVER THE INPUT: true; the input reads as it did. -/
def fnExactJoinSpanSpec : ChangeSpec := { name := "fnExactJoinSpan", fn := fun _ => fun
  | [d1, d2] => { results := [.lit (.bool true)], args := [d1, d2] }
  | _ => none }
def fnExactJoinSpanRow : OpenClaim := { program := "ytdgagbjmbddefaa", sum := "b00c5b5b85e279a7753309c8cbeba961e210a475243fb5b0f36a01418c2e5fbf", func := "loop.example/g00409/laws.FnExactJoinSpan", spec := "fnExactJoinSpan", unfollowed := true, recurses := true, apart := false }
def FnExactJoinSpanSaid : Prop := fnExactJoinSpanRow.holds Try.pinned (OpenSpec.ofChange fnExactJoinSpanSpec)

/-- ITS FALSE NEIGHBOUR: 'it returns false'. Refute it at one input. -/
def fnExactJoinSpanWrong : ChangeSpec := { name := "fnExactJoinSpan", fn := fun _ => fun
  | [d1, d2] => { results := [.lit (.bool false)], args := [d1, d2] }
  | _ => none }
def FnExactJoinSpanWrongFalsely : Prop := fnExactJoinSpanRow.holds Try.pinned (OpenSpec.ofChange fnExactJoinSpanWrong)

/-- 'laws.FnExactInvertSpan': WHATEVER THE INPUT: true; the input reads as it did. -/
def fnExactInvertSpanSpec : ChangeSpec := { name := "fnExactInvertSpan", fn := fun _ => fun
  | [d] => { results := [.lit (.bool true)], args := [d] }
  | _ => none }
def fnExactInvertSpanRow : OpenClaim := { program := "ytdgagbjmbddefaa", sum := "b00c5b5b85e279a7753309c8cbeba961e210a475243fb5b0f36a01418c2e5fbf", func := "loop.example/g00409/laws.FnExactInvertSpan", spec := "fnExactInvertSpan", unfollowed := true, recurses := true, apart := false }
def FnExactInvertSpanSaid : Prop := fnExactInvertSpanRow.holds Try.pinned (OpenSpec.ofChange fnExactInvertSpanSpec)

/-- ITS FALSE NEIGHBOUR: 'it returns false'. Refute it at one input. -/
def fnExactInvertSpanWrong : ChangeSpec := { name := "fnExactInvertSpan", fn := fun _ => fun
  | [d] => { results := [.lit (.bool false)], args := [d] }
  | _ => none }
def FnExactInvertSpanWrongFalsely : Prop := fnExactInvertSpanRow.holds Try.pinned (OpenSpec.ofChange fnExactInvertSpanWrong)

/-- 'laws.FnExactMulSpan': WHATEVER THE INPUT: true; the input reads as it did. -/
def fnExactMulSpanSpec : ChangeSpec := { name := "fnExactMulSpan", fn := fun _ => fun
  | [d1, d2] => { results := [.lit (.bool true)], args := [d1, d2] }
  | _ => none }
def fnExactMulSpanRow : OpenClaim := { program := "ytdgagbjmbddefaa", sum := "b00c5b5b85e279a7753309c8cbeba961e210a475243fb5b0f36a01418c2e5fbf", func := "loop.example/g00409/laws.FnExactMulSpan", spec := "fnExactMulSpan", unfollowed := true, recurses := true, apart := false }
def FnExactMulSpanSaid : Prop := fnExactMulSpanRow.holds Try.pinned (OpenSpec.ofChange fnExactMulSpanSpec)

/-- ITS FALSE NEIGHBOUR: 'it returns false'. Refute it at one input. -/
def fnExactMulSpanWrong : ChangeSpec := { name := "fnExactMulSpan", fn := fun _ => fun
  | [d1, d2] => { results := [.lit (.bool false)], args := [d1, d2] }
  | _ => none }
def FnExactMulSpanWrongFalsely : Prop := fnExactMulSpanRow.holds Try.pinned (OpenSpec.ofChange fnExactMulSpanWrong)

/-- 'laws.FnExactWidthOf': WHATEVER THE INPUT: true; the input reads as it did. -/
def fnExactWidthOfSpec : ChangeSpec := { name := "fnExactWidthOf", fn := fun _ => fun
  | [d] => { results := [.lit (.bool true)], args := [d] }
  | _ => none }
def fnExactWidthOfRow : OpenClaim := { program := "ytdgagbjmbddefaa", sum := "b00c5b5b85e279a7753309c8cbeba961e210a475243fb5b0f36a01418c2e5fbf", func := "loop.example/g00409/laws.FnExactWidthOf", spec := "fnExactWidthOf", unfollowed := true, recurses := true, apart := false }
def FnExactWidthOfSaid : Prop := fnExactWidthOfRow.holds Try.pinned (OpenSpec.ofChange fnExactWidthOfSpec)

/-- ITS FALSE NEIGHBOUR: 'it returns false'. Refute it at one input. -/
def fnExactWidthOfWrong : ChangeSpec := { name := "fnExactWidthOf", fn := fun _ => fun
  | [d] => { results := [.lit (.bool false)], args := [d] }
  | _ => none }
def FnExactWidthOfWrongFalsely : Prop := fnExactWidthOfRow.holds Try.pinned (OpenSpec.ofChange fnExactWidthOfWrong)

/-- 'laws.FnExactSquareSpan': WHATEVER THE INPUT: true; the input reads as it did. -/
def fnExactSquareSpanSpec : ChangeSpec := { name := "fnExactSquareSpan", fn := fun _ => fun
  | [d] => { results := [.lit (.bool true)], args := [d] }
  | _ => none }
def fnExactSquareSpanRow : OpenClaim := { program := "ytdgagbjmbddefaa", sum := "b00c5b5b85e279a7753309c8cbeba961e210a475243fb5b0f36a01418c2e5fbf", func := "loop.example/g00409/laws.FnExactSquareSpan", spec := "fnExactSquareSpan", unfollowed := true, recurses := true, apart := false }
def FnExactSquareSpanSaid : Prop := fnExactSquareSpanRow.holds Try.pinned (OpenSpec.ofChange fnExactSquareSpanSpec)

/-- ITS FALSE NEIGHBOUR: 'it returns false'. Refute it at one input. -/
def fnExactSquareSpanWrong : ChangeSpec := { name := "fnExactSquareSpan", fn := fun _ => fun
  | [d] => { results := [.lit (.bool false)], args := [d] }
  | _ => none }
def FnExactSquareSpanWrongFalsely : Prop := fnExactSquareSpanRow.holds Try.pinned (OpenSpec.ofChange fnExactSquareSpanWrong)

/-- 'laws.FnExactAddSpan': WHATEVER THE INPUT: true; the input reads as it did. -/
def fnExactAddSpanSpec : ChangeSpec := { name := "fnExactAddSpan", fn := fun _ => fun
  | [d1, d2] => { results := [.lit (.bool true)], args := [d1, d2] }
  | _ => none }
def fnExactAddSpanRow : OpenClaim := { program := "ytdgagbjmbddefaa", sum := "b00c5b5b85e279a7753309c8cbeba961e210a475243fb5b0f36a01418c2e5fbf", func := "loop.example/g00409/laws.FnExactAddSpan", spec := "fnExactAddSpan", unfollowed := true, recurses := true, apart := false }
def FnExactAddSpanSaid : Prop := fnExactAddSpanRow.holds Try.pinned (OpenSpec.ofChange fnExactAddSpanSpec)

/-- ITS FALSE NEIGHBOUR: 'it returns false'. Refute it at one input. -/
def fnExactAddSpanWrong : ChangeSpec := { name := "fnExactAddSpan", fn := fun _ => fun
  | [d1, d2] => { results := [.lit (.bool false)], args := [d1, d2] }
  | _ => none }
def FnExactAddSpanWrongFalsely : Prop := fnExactAddSpanRow.holds Try.pinned (OpenSpec.ofChange fnExactAddSpanWrong)

/-- 'laws.FnExactSubSpan': WHATEVER THE INPUT: true; the input reads as it did. -/
def fnExactSubSpanSpec : ChangeSpec := { name := "fnExactSubSpan", fn := fun _ => fun
  | [d1, d2] => { results := [.lit (.bool true)], args := [d1, d2] }
  | _ => none }
def fnExactSubSpanRow : OpenClaim := { program := "ytdgagbjmbddefaa", sum := "b00c5b5b85e279a7753309c8cbeba961e210a475243fb5b0f36a01418c2e5fbf", func := "loop.example/g00409/laws.FnExactSubSpan", spec := "fnExactSubSpan", unfollowed := true, recurses := true, apart := false }
def FnExactSubSpanSaid : Prop := fnExactSubSpanRow.holds Try.pinned (OpenSpec.ofChange fnExactSubSpanSpec)

/-- ITS FALSE NEIGHBOUR: 'it returns false'. Refute it at one input. -/
def fnExactSubSpanWrong : ChangeSpec := { name := "fnExactSubSpan", fn := fun _ => fun
  | [d1, d2] => { results := [.lit (.bool false)], args := [d1, d2] }
  | _ => none }
def FnExactSubSpanWrongFalsely : Prop := fnExactSubSpanRow.holds Try.pinned (OpenSpec.ofChange fnExactSubSpanWrong)

/-- 'laws.FnExactRootSpan': WHATEVER THE INPUT: true; the input reads as it did. -/
def fnExactRootSpanSpec : ChangeSpec := { name := "fnExactRootSpan", fn := fun _ => fun
  | [d1, d2] => { results := [.lit (.bool true)], args := [d1, d2] }
  | _ => none }
def fnExactRootSpanRow : OpenClaim := { program := "ytdgagbjmbddefaa", sum := "b00c5b5b85e279a7753309c8cbeba961e210a475243fb5b0f36a01418c2e5fbf", func := "loop.example/g00409/laws.FnExactRootSpan", spec := "fnExactRootSpan", unfollowed := true, recurses := true, apart := false }
def FnExactRootSpanSaid : Prop := fnExactRootSpanRow.holds Try.pinned (OpenSpec.ofChange fnExactRootSpanSpec)

/-- ITS FALSE NEIGHBOUR: 'it returns false'. Refute it at one input. -/
def fnExactRootSpanWrong : ChangeSpec := { name := "fnExactRootSpan", fn := fun _ => fun
  | [d1, d2] => { results := [.lit (.bool false)], args := [d1, d2] }
  | _ => none }
def FnExactRootSpanWrongFalsely : Prop := fnExactRootSpanRow.holds Try.pinned (OpenSpec.ofChange fnExactRootSpanWrong)

/-- 'laws.FnExactSimplestIn': WHATEVER THE INPUT: true; the input reads as it did. -/
def fnExactSimplestInSpec : ChangeSpec := { name := "fnExactSimplestIn", fn := fun _ => fun
  | [d1, d2] => { results := [.lit (.bool true)], args := [d1, d2] }
  | _ => none }
def fnExactSimplestInRow : OpenClaim := { program := "ytdgagbjmbddefaa", sum := "b00c5b5b85e279a7753309c8cbeba961e210a475243fb5b0f36a01418c2e5fbf", func := "loop.example/g00409/laws.FnExactSimplestIn", spec := "fnExactSimplestIn", unfollowed := true, recurses := true, apart := false }
def FnExactSimplestInSaid : Prop := fnExactSimplestInRow.holds Try.pinned (OpenSpec.ofChange fnExactSimplestInSpec)

/-- ITS FALSE NEIGHBOUR: 'it returns false'. Refute it at one input. -/
def fnExactSimplestInWrong : ChangeSpec := { name := "fnExactSimplestIn", fn := fun _ => fun
  | [d1, d2] => { results := [.lit (.bool false)], args := [d1, d2] }
  | _ => none }
def FnExactSimplestInWrongFalsely : Prop := fnExactSimplestInRow.holds Try.pinned (OpenSpec.ofChange fnExactSimplestInWrong)

/- THE SECOND FORM. 'bulk': how many values and letters a reading holds, each counted each time it is reached (what is shared counts as often as it is met; a slice's spare places count too). A statement '..UptoSaid' is the law's where the arguments, and the package variables that the reading takes, are together of bulk at most 1048576: NARROWER than '..Said'. Prove '..Said' where nothing that the law and all that it calls make is longer than what came in: it says more and counts as full. Else prove '..UptoSaid'. A law counts once. -/
mutual
def uptoBulk {H : Type} : DataW H → Nat
  | .lit (.string bytes) => bytes.length + 1
  | .lit _ => 1
  | .nil => 1
  | .ptr d => uptoBulk d + 1
  | .slice elems spare => uptoBulkAll elems + uptoBulkAll spare + 1
  | .agg parts => uptoBulkAll parts + 1
  | .iface _ d => uptoBulk d + 1
  | .map entries => uptoBulkEntries entries + 1
  | .held _ => 1
def uptoBulkAll {H : Type} : List (DataW H) → Nat
  | [] => 0
  | d :: r => uptoBulk d + uptoBulkAll r
def uptoBulkEntries {H : Type} : List (Lit × DataW H) → Nat
  | [] => 0
  | x :: r => uptoBulkEntry x + uptoBulkEntries r
def uptoBulkEntry {H : Type} : Lit × DataW H → Nat
  | (.string bytes, d) => bytes.length + uptoBulk d + 1
  | (_, d) => uptoBulk d + 1
 end
def uptoSmall : (H : Type) → List (DataW H) → Bool := fun _ ds => decide (uptoBulkAll ds ≤ 1048576)
def OpenSpec.upto (s : _root_.Go.ChangeSpec) : _root_.Go.OpenSpec := { _root_.Go.OpenSpec.ofChange s with cond := some uptoSmall }

/-- 'laws.FnExactGoodSpan', WHERE WHAT IT READS IS OF BULK AT MOST 1048576: true; the input reads as it did. -/
def fnExactGoodSpanUptoRow : OpenClaim := { program := "ytdgagbjmbddefaa", sum := "b00c5b5b85e279a7753309c8cbeba961e210a475243fb5b0f36a01418c2e5fbf", func := "loop.example/g00409/laws.FnExactGoodSpan", spec := "fnExactGoodSpan", unfollowed := true, recurses := true, apart := false, narrowed := true }
def FnExactGoodSpanUptoSaid : Prop := fnExactGoodSpanUptoRow.holds Try.pinned (OpenSpec.upto fnExactGoodSpanSpec)

/-- 'laws.FnExactInSpan', WHERE WHAT IT READS IS OF BULK AT MOST 1048576: true; the input reads as it did. -/
def fnExactInSpanUptoRow : OpenClaim := { program := "ytdgagbjmbddefaa", sum := "b00c5b5b85e279a7753309c8cbeba961e210a475243fb5b0f36a01418c2e5fbf", func := "loop.example/g00409/laws.FnExactInSpan", spec := "fnExactInSpan", unfollowed := true, recurses := true, apart := false, narrowed := true }
def FnExactInSpanUptoSaid : Prop := fnExactInSpanUptoRow.holds Try.pinned (OpenSpec.upto fnExactInSpanSpec)

/-- 'laws.FnExactPointSpan', WHERE WHAT IT READS IS OF BULK AT MOST 1048576: true; the input reads as it did. -/
def fnExactPointSpanUptoRow : OpenClaim := { program := "ytdgagbjmbddefaa", sum := "b00c5b5b85e279a7753309c8cbeba961e210a475243fb5b0f36a01418c2e5fbf", func := "loop.example/g00409/laws.FnExactPointSpan", spec := "fnExactPointSpan", unfollowed := true, recurses := true, apart := false, narrowed := true }
def FnExactPointSpanUptoSaid : Prop := fnExactPointSpanUptoRow.holds Try.pinned (OpenSpec.upto fnExactPointSpanSpec)

/-- 'laws.FnExactJoinSpan', WHERE WHAT IT READS IS OF BULK AT MOST 1048576: true; the input reads as it did. -/
def fnExactJoinSpanUptoRow : OpenClaim := { program := "ytdgagbjmbddefaa", sum := "b00c5b5b85e279a7753309c8cbeba961e210a475243fb5b0f36a01418c2e5fbf", func := "loop.example/g00409/laws.FnExactJoinSpan", spec := "fnExactJoinSpan", unfollowed := true, recurses := true, apart := false, narrowed := true }
def FnExactJoinSpanUptoSaid : Prop := fnExactJoinSpanUptoRow.holds Try.pinned (OpenSpec.upto fnExactJoinSpanSpec)

/-- 'laws.FnExactInvertSpan', WHERE WHAT IT READS IS OF BULK AT MOST 1048576: true; the input reads as it did. -/
def fnExactInvertSpanUptoRow : OpenClaim := { program := "ytdgagbjmbddefaa", sum := "b00c5b5b85e279a7753309c8cbeba961e210a475243fb5b0f36a01418c2e5fbf", func := "loop.example/g00409/laws.FnExactInvertSpan", spec := "fnExactInvertSpan", unfollowed := true, recurses := true, apart := false, narrowed := true }
def FnExactInvertSpanUptoSaid : Prop := fnExactInvertSpanUptoRow.holds Try.pinned (OpenSpec.upto fnExactInvertSpanSpec)

/-- 'laws.FnExactMulSpan', WHERE WHAT IT READS IS OF BULK AT MOST 1048576: true; the input reads as it did. -/
def fnExactMulSpanUptoRow : OpenClaim := { program := "ytdgagbjmbddefaa", sum := "b00c5b5b85e279a7753309c8cbeba961e210a475243fb5b0f36a01418c2e5fbf", func := "loop.example/g00409/laws.FnExactMulSpan", spec := "fnExactMulSpan", unfollowed := true, recurses := true, apart := false, narrowed := true }
def FnExactMulSpanUptoSaid : Prop := fnExactMulSpanUptoRow.holds Try.pinned (OpenSpec.upto fnExactMulSpanSpec)

/-- 'laws.FnExactWidthOf', WHERE WHAT IT READS IS OF BULK AT MOST 1048576: true; the input reads as it did. -/
def fnExactWidthOfUptoRow : OpenClaim := { program := "ytdgagbjmbddefaa", sum := "b00c5b5b85e279a7753309c8cbeba961e210a475243fb5b0f36a01418c2e5fbf", func := "loop.example/g00409/laws.FnExactWidthOf", spec := "fnExactWidthOf", unfollowed := true, recurses := true, apart := false, narrowed := true }
def FnExactWidthOfUptoSaid : Prop := fnExactWidthOfUptoRow.holds Try.pinned (OpenSpec.upto fnExactWidthOfSpec)

/-- 'laws.FnExactSquareSpan', WHERE WHAT IT READS IS OF BULK AT MOST 1048576: true; the input reads as it did. -/
def fnExactSquareSpanUptoRow : OpenClaim := { program := "ytdgagbjmbddefaa", sum := "b00c5b5b85e279a7753309c8cbeba961e210a475243fb5b0f36a01418c2e5fbf", func := "loop.example/g00409/laws.FnExactSquareSpan", spec := "fnExactSquareSpan", unfollowed := true, recurses := true, apart := false, narrowed := true }
def FnExactSquareSpanUptoSaid : Prop := fnExactSquareSpanUptoRow.holds Try.pinned (OpenSpec.upto fnExactSquareSpanSpec)

/-- 'laws.FnExactAddSpan', WHERE WHAT IT READS IS OF BULK AT MOST 1048576: true; the input reads as it did. -/
def fnExactAddSpanUptoRow : OpenClaim := { program := "ytdgagbjmbddefaa", sum := "b00c5b5b85e279a7753309c8cbeba961e210a475243fb5b0f36a01418c2e5fbf", func := "loop.example/g00409/laws.FnExactAddSpan", spec := "fnExactAddSpan", unfollowed := true, recurses := true, apart := false, narrowed := true }
def FnExactAddSpanUptoSaid : Prop := fnExactAddSpanUptoRow.holds Try.pinned (OpenSpec.upto fnExactAddSpanSpec)

/-- 'laws.FnExactSubSpan', WHERE WHAT IT READS IS OF BULK AT MOST 1048576: true; the input reads as it did. -/
def fnExactSubSpanUptoRow : OpenClaim := { program := "ytdgagbjmbddefaa", sum := "b00c5b5b85e279a7753309c8cbeba961e210a475243fb5b0f36a01418c2e5fbf", func := "loop.example/g00409/laws.FnExactSubSpan", spec := "fnExactSubSpan", unfollowed := true, recurses := true, apart := false, narrowed := true }
def FnExactSubSpanUptoSaid : Prop := fnExactSubSpanUptoRow.holds Try.pinned (OpenSpec.upto fnExactSubSpanSpec)

/-- 'laws.FnExactRootSpan', WHERE WHAT IT READS IS OF BULK AT MOST 1048576: true; the input reads as it did. -/
def fnExactRootSpanUptoRow : OpenClaim := { program := "ytdgagbjmbddefaa", sum := "b00c5b5b85e279a7753309c8cbeba961e210a475243fb5b0f36a01418c2e5fbf", func := "loop.example/g00409/laws.FnExactRootSpan", spec := "fnExactRootSpan", unfollowed := true, recurses := true, apart := false, narrowed := true }
def FnExactRootSpanUptoSaid : Prop := fnExactRootSpanUptoRow.holds Try.pinned (OpenSpec.upto fnExactRootSpanSpec)

/-- 'laws.FnExactSimplestIn', WHERE WHAT IT READS IS OF BULK AT MOST 1048576: true; the input reads as it did. -/
def fnExactSimplestInUptoRow : OpenClaim := { program := "ytdgagbjmbddefaa", sum := "b00c5b5b85e279a7753309c8cbeba961e210a475243fb5b0f36a01418c2e5fbf", func := "loop.example/g00409/laws.FnExactSimplestIn", spec := "fnExactSimplestIn", unfollowed := true, recurses := true, apart := false, narrowed := true }
def FnExactSimplestInUptoSaid : Prop := fnExactSimplestInUptoRow.holds Try.pinned (OpenSpec.upto fnExactSimplestInSpec)

end Rows
end Go.Proofs.Ytdgagbjmbddefaa
