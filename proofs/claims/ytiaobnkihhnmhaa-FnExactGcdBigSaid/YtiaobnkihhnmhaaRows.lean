/-
  No cell of these rows narrows 'for every input' (looked for: loops, veiled, ifaces, maps, wideKeys, modest, calm, conditions, laid).
  DERIVED. THE GIVEN ROWS OF THIS SEAT. 10 by the template 'for every input the law returns true; each argument reads behind the call as it read before'; 0 by the template 'total and deterministic' (their statements: YtiaobnkihhnmhaaTotals.lean).
  GIVEN WITH THE SEED: the statements are not yours to turn. If you find one false, say at which input.
  Laid BY PROGRAM, IN A SANDBOX (cutbox-rows.mjs): the forced cells as the released guide's own fill.sh prints them over the translation 651a19c1b653852a… (all of the seat's roots in one cut). By AI agents, Wed Nov 11 2026. No macro, syntax, notation, axiom, sorry.
-/
import Derived.Test.YtiaobnkihhnmhaaChecked
import GoSem.Claim
import GoSem.ClaimJoined
import GoSem.ClaimMapViews
import Derived.JoinedTies
import Derived.KernelRfl
namespace Go.Proofs.Ytiaobnkihhnmhaa
/- THE CELL 'sum', in the pinned program and in every row, IS THE sha256 OF THE DUMP (.gsa) THAT YtiaobnkihhnmhaaProg.lean LOADS. Nothing in Lean hashes anything: it is a label: what it is worth is what the hold of that sum in a sandbox is worth. -/
noncomputable def Try.pinned : Pinned := { name := "ytiaobnkihhnmhaa", sum := "651a19c1b653852a9eda5c568bce532ccd44f028627f3a493342f1e3ed0acce6", checked := Try.checked }
namespace Rows
def none {H : Type} : Left H := { results := [], args := [] }

/-- 'laws.FnExactGoodBig': WHATEVER THE INPUT: true; the input reads as it did. -/
def fnExactGoodBigSpec : ChangeSpec := { name := "fnExactGoodBig", fn := fun _ => fun
  | [d] => { results := [.lit (.bool true)], args := [d] }
  | _ => none }
def fnExactGoodBigRow : OpenClaim := { program := "ytiaobnkihhnmhaa", sum := "651a19c1b653852a9eda5c568bce532ccd44f028627f3a493342f1e3ed0acce6", func := "loop.example/g00409/laws.FnExactGoodBig", spec := "fnExactGoodBig", unfollowed := true, recurses := true, apart := false }
def FnExactGoodBigSaid : Prop := fnExactGoodBigRow.holds Try.pinned (OpenSpec.ofChange fnExactGoodBigSpec)

/-- ITS FALSE NEIGHBOUR: 'it returns false'. Refute it at one input. -/
def fnExactGoodBigWrong : ChangeSpec := { name := "fnExactGoodBig", fn := fun _ => fun
  | [d] => { results := [.lit (.bool false)], args := [d] }
  | _ => none }
def FnExactGoodBigWrongFalsely : Prop := fnExactGoodBigRow.holds Try.pinned (OpenSpec.ofChange fnExactGoodBigWrong)

/-- 'laws.FnExactBigOf': WHATEVER THE INPUT: true; the input reads as it did. -/
def fnExactBigOfSpec : ChangeSpec := { name := "fnExactBigOf", fn := fun _ => fun
  | [d] => { results := [.lit (.bool true)], args := [d] }
  | _ => none }
def fnExactBigOfRow : OpenClaim := { program := "ytiaobnkihhnmhaa", sum := "651a19c1b653852a9eda5c568bce532ccd44f028627f3a493342f1e3ed0acce6", func := "loop.example/g00409/laws.FnExactBigOf", spec := "fnExactBigOf", apart := false }
def FnExactBigOfSaid : Prop := fnExactBigOfRow.holds Try.pinned (OpenSpec.ofChange fnExactBigOfSpec)

/-- ITS FALSE NEIGHBOUR: 'it returns false'. Refute it at one input. -/
def fnExactBigOfWrong : ChangeSpec := { name := "fnExactBigOf", fn := fun _ => fun
  | [d] => { results := [.lit (.bool false)], args := [d] }
  | _ => none }
def FnExactBigOfWrongFalsely : Prop := fnExactBigOfRow.holds Try.pinned (OpenSpec.ofChange fnExactBigOfWrong)

/-- 'laws.FnExactCompareBig': WHATEVER THE INPUT: true; the input reads as it did. -/
def fnExactCompareBigSpec : ChangeSpec := { name := "fnExactCompareBig", fn := fun _ => fun
  | [d1, d2] => { results := [.lit (.bool true)], args := [d1, d2] }
  | _ => none }
def fnExactCompareBigRow : OpenClaim := { program := "ytiaobnkihhnmhaa", sum := "651a19c1b653852a9eda5c568bce532ccd44f028627f3a493342f1e3ed0acce6", func := "loop.example/g00409/laws.FnExactCompareBig", spec := "fnExactCompareBig", unfollowed := true, recurses := true, apart := false }
def FnExactCompareBigSaid : Prop := fnExactCompareBigRow.holds Try.pinned (OpenSpec.ofChange fnExactCompareBigSpec)

/-- ITS FALSE NEIGHBOUR: 'it returns false'. Refute it at one input. -/
def fnExactCompareBigWrong : ChangeSpec := { name := "fnExactCompareBig", fn := fun _ => fun
  | [d1, d2] => { results := [.lit (.bool false)], args := [d1, d2] }
  | _ => none }
def FnExactCompareBigWrongFalsely : Prop := fnExactCompareBigRow.holds Try.pinned (OpenSpec.ofChange fnExactCompareBigWrong)

/-- 'laws.FnExactIntOf': WHATEVER THE INPUT: true; the input reads as it did. -/
def fnExactIntOfSpec : ChangeSpec := { name := "fnExactIntOf", fn := fun _ => fun
  | [d] => { results := [.lit (.bool true)], args := [d] }
  | _ => none }
def fnExactIntOfRow : OpenClaim := { program := "ytiaobnkihhnmhaa", sum := "651a19c1b653852a9eda5c568bce532ccd44f028627f3a493342f1e3ed0acce6", func := "loop.example/g00409/laws.FnExactIntOf", spec := "fnExactIntOf", unfollowed := true, recurses := true, apart := false }
def FnExactIntOfSaid : Prop := fnExactIntOfRow.holds Try.pinned (OpenSpec.ofChange fnExactIntOfSpec)

/-- ITS FALSE NEIGHBOUR: 'it returns false'. Refute it at one input. -/
def fnExactIntOfWrong : ChangeSpec := { name := "fnExactIntOf", fn := fun _ => fun
  | [d] => { results := [.lit (.bool false)], args := [d] }
  | _ => none }
def FnExactIntOfWrongFalsely : Prop := fnExactIntOfRow.holds Try.pinned (OpenSpec.ofChange fnExactIntOfWrong)

/-- 'laws.FnExactMulBig': WHATEVER THE INPUT: true; the input reads as it did. -/
def fnExactMulBigSpec : ChangeSpec := { name := "fnExactMulBig", fn := fun _ => fun
  | [d1, d2] => { results := [.lit (.bool true)], args := [d1, d2] }
  | _ => none }
def fnExactMulBigRow : OpenClaim := { program := "ytiaobnkihhnmhaa", sum := "651a19c1b653852a9eda5c568bce532ccd44f028627f3a493342f1e3ed0acce6", func := "loop.example/g00409/laws.FnExactMulBig", spec := "fnExactMulBig", unfollowed := true, recurses := true, apart := false }
def FnExactMulBigSaid : Prop := fnExactMulBigRow.holds Try.pinned (OpenSpec.ofChange fnExactMulBigSpec)

/-- ITS FALSE NEIGHBOUR: 'it returns false'. Refute it at one input. -/
def fnExactMulBigWrong : ChangeSpec := { name := "fnExactMulBig", fn := fun _ => fun
  | [d1, d2] => { results := [.lit (.bool false)], args := [d1, d2] }
  | _ => none }
def FnExactMulBigWrongFalsely : Prop := fnExactMulBigRow.holds Try.pinned (OpenSpec.ofChange fnExactMulBigWrong)

/-- 'laws.FnExactHalvesMul': WHATEVER THE INPUT: true; the input reads as it did. -/
def fnExactHalvesMulSpec : ChangeSpec := { name := "fnExactHalvesMul", fn := fun _ => fun
  | [d1, d2] => { results := [.lit (.bool true)], args := [d1, d2] }
  | _ => none }
def fnExactHalvesMulRow : OpenClaim := { program := "ytiaobnkihhnmhaa", sum := "651a19c1b653852a9eda5c568bce532ccd44f028627f3a493342f1e3ed0acce6", func := "loop.example/g00409/laws.FnExactHalvesMul", spec := "fnExactHalvesMul", unfollowed := true, recurses := true, apart := false }
def FnExactHalvesMulSaid : Prop := fnExactHalvesMulRow.holds Try.pinned (OpenSpec.ofChange fnExactHalvesMulSpec)

/-- ITS FALSE NEIGHBOUR: 'it returns false'. Refute it at one input. -/
def fnExactHalvesMulWrong : ChangeSpec := { name := "fnExactHalvesMul", fn := fun _ => fun
  | [d1, d2] => { results := [.lit (.bool false)], args := [d1, d2] }
  | _ => none }
def FnExactHalvesMulWrongFalsely : Prop := fnExactHalvesMulRow.holds Try.pinned (OpenSpec.ofChange fnExactHalvesMulWrong)

/-- 'laws.FnExactAddBig': WHATEVER THE INPUT: true; the input reads as it did. -/
def fnExactAddBigSpec : ChangeSpec := { name := "fnExactAddBig", fn := fun _ => fun
  | [d1, d2] => { results := [.lit (.bool true)], args := [d1, d2] }
  | _ => none }
def fnExactAddBigRow : OpenClaim := { program := "ytiaobnkihhnmhaa", sum := "651a19c1b653852a9eda5c568bce532ccd44f028627f3a493342f1e3ed0acce6", func := "loop.example/g00409/laws.FnExactAddBig", spec := "fnExactAddBig", unfollowed := true, recurses := true, apart := false }
def FnExactAddBigSaid : Prop := fnExactAddBigRow.holds Try.pinned (OpenSpec.ofChange fnExactAddBigSpec)

/-- ITS FALSE NEIGHBOUR: 'it returns false'. Refute it at one input. -/
def fnExactAddBigWrong : ChangeSpec := { name := "fnExactAddBig", fn := fun _ => fun
  | [d1, d2] => { results := [.lit (.bool false)], args := [d1, d2] }
  | _ => none }
def FnExactAddBigWrongFalsely : Prop := fnExactAddBigRow.holds Try.pinned (OpenSpec.ofChange fnExactAddBigWrong)

/-- 'laws.FnExactSubBig': WHATEVER THE INPUT: true; the input reads as it did. -/
def fnExactSubBigSpec : ChangeSpec := { name := "fnExactSubBig", fn := fun _ => fun
  | [d1, d2] => { results := [.lit (.bool true)], args := [d1, d2] }
  | _ => none }
def fnExactSubBigRow : OpenClaim := { program := "ytiaobnkihhnmhaa", sum := "651a19c1b653852a9eda5c568bce532ccd44f028627f3a493342f1e3ed0acce6", func := "loop.example/g00409/laws.FnExactSubBig", spec := "fnExactSubBig", unfollowed := true, recurses := true, apart := false }
def FnExactSubBigSaid : Prop := fnExactSubBigRow.holds Try.pinned (OpenSpec.ofChange fnExactSubBigSpec)

/-- ITS FALSE NEIGHBOUR: 'it returns false'. Refute it at one input. -/
def fnExactSubBigWrong : ChangeSpec := { name := "fnExactSubBig", fn := fun _ => fun
  | [d1, d2] => { results := [.lit (.bool false)], args := [d1, d2] }
  | _ => none }
def FnExactSubBigWrongFalsely : Prop := fnExactSubBigRow.holds Try.pinned (OpenSpec.ofChange fnExactSubBigWrong)

/-- 'laws.FnExactGcdBig': WHATEVER THE INPUT: true; the input reads as it did. -/
def fnExactGcdBigSpec : ChangeSpec := { name := "fnExactGcdBig", fn := fun _ => fun
  | [d1, d2] => { results := [.lit (.bool true)], args := [d1, d2] }
  | _ => none }
def fnExactGcdBigRow : OpenClaim := { program := "ytiaobnkihhnmhaa", sum := "651a19c1b653852a9eda5c568bce532ccd44f028627f3a493342f1e3ed0acce6", func := "loop.example/g00409/laws.FnExactGcdBig", spec := "fnExactGcdBig", unfollowed := true, recurses := true, apart := false }
def FnExactGcdBigSaid : Prop := fnExactGcdBigRow.holds Try.pinned (OpenSpec.ofChange fnExactGcdBigSpec)

/-- ITS FALSE NEIGHBOUR: 'it returns false'. Refute it at one input. -/
def fnExactGcdBigWrong : ChangeSpec := { name := "fnExactGcdBig", fn := fun _ => fun
  | [d1, d2] => { results := [.lit (.bool false)], args := [d1, d2] }
  | _ => none }
def FnExactGcdBigWrongFalsely : Prop := fnExactGcdBigRow.holds Try.pinned (OpenSpec.ofChange fnExactGcdBigWrong)

/-- 'laws.FnExactDivBig': WHATEVER THE INPUT: true; the input reads as it did. -/
def fnExactDivBigSpec : ChangeSpec := { name := "fnExactDivBig", fn := fun _ => fun
  | [d1, d2] => { results := [.lit (.bool true)], args := [d1, d2] }
  | _ => none }
def fnExactDivBigRow : OpenClaim := { program := "ytiaobnkihhnmhaa", sum := "651a19c1b653852a9eda5c568bce532ccd44f028627f3a493342f1e3ed0acce6", func := "loop.example/g00409/laws.FnExactDivBig", spec := "fnExactDivBig", unfollowed := true, recurses := true, apart := false }
def FnExactDivBigSaid : Prop := fnExactDivBigRow.holds Try.pinned (OpenSpec.ofChange fnExactDivBigSpec)

/-- ITS FALSE NEIGHBOUR: 'it returns false'. Refute it at one input. -/
def fnExactDivBigWrong : ChangeSpec := { name := "fnExactDivBig", fn := fun _ => fun
  | [d1, d2] => { results := [.lit (.bool false)], args := [d1, d2] }
  | _ => none }
def FnExactDivBigWrongFalsely : Prop := fnExactDivBigRow.holds Try.pinned (OpenSpec.ofChange fnExactDivBigWrong)

/- THE SECOND FORM. 'bulk': how many values and letters a reading holds, each counted each time it is reached (what is shared counts as often as it is met; a slice's spare places count too). A statement '..UptoSaid' is the law's where the arguments, and the package variables that the reading takes, are together of bulk at most 1048576: NARROWER than '..Said'. Prove '..Said' where nothing that the law and all that it calls make is longer than what came in: it says more and counts as full. Else prove '..UptoSaid'. A law counts once. -/
mutual
def uptoBulk {H : Type} : DataW H → Nat
  | .lit (.string bytes) => bytes.length + 1
  | .lit _ => 1
  | .nil => 1
  | .ptr d => uptoBulk d + 1
  | .slice elems spare => uptoBulkAll elems + uptoBulkAll spare + 1
  | .agg parts => uptoBulkAll parts + 1
  | .iface _ d => uptoBulk d + 1
  | .map entries => uptoBulkEntries entries + 1
  | .held _ => 1
def uptoBulkAll {H : Type} : List (DataW H) → Nat
  | [] => 0
  | d :: r => uptoBulk d + uptoBulkAll r
def uptoBulkEntries {H : Type} : List (Lit × DataW H) → Nat
  | [] => 0
  | x :: r => uptoBulkEntry x + uptoBulkEntries r
def uptoBulkEntry {H : Type} : Lit × DataW H → Nat
  | (.string bytes, d) => bytes.length + uptoBulk d + 1
  | (_, d) => uptoBulk d + 1
 end
def uptoSmall : (H : Type) → List (DataW H) → Bool := fun _ ds => decide (uptoBulkAll ds ≤ 1048576)
def OpenSpec.upto (s : _root_.Go.ChangeSpec) : _root_.Go.OpenSpec := { _root_.Go.OpenSpec.ofChange s with cond := some uptoSmall }

/-- 'laws.FnExactGoodBig', WHERE WHAT IT READS IS OF BULK AT MOST 1048576: true; the input reads as it did. -/
def fnExactGoodBigUptoRow : OpenClaim := { program := "ytiaobnkihhnmhaa", sum := "651a19c1b653852a9eda5c568bce532ccd44f028627f3a493342f1e3ed0acce6", func := "loop.example/g00409/laws.FnExactGoodBig", spec := "fnExactGoodBig", unfollowed := true, recurses := true, apart := false, narrowed := true }
def FnExactGoodBigUptoSaid : Prop := fnExactGoodBigUptoRow.holds Try.pinned (OpenSpec.upto fnExactGoodBigSpec)

/-- 'laws.FnExactBigOf', WHERE WHAT IT READS IS OF BULK AT MOST 1048576: true; the input reads as it did. -/
def fnExactBigOfUptoRow : OpenClaim := { program := "ytiaobnkihhnmhaa", sum := "651a19c1b653852a9eda5c568bce532ccd44f028627f3a493342f1e3ed0acce6", func := "loop.example/g00409/laws.FnExactBigOf", spec := "fnExactBigOf", apart := false, narrowed := true }
def FnExactBigOfUptoSaid : Prop := fnExactBigOfUptoRow.holds Try.pinned (OpenSpec.upto fnExactBigOfSpec)

/-- 'laws.FnExactCompareBig', WHERE WHAT IT READS IS OF BULK AT MOST 1048576: true; the input reads as it did. -/
def fnExactCompareBigUptoRow : OpenClaim := { program := "ytiaobnkihhnmhaa", sum := "651a19c1b653852a9eda5c568bce532ccd44f028627f3a493342f1e3ed0acce6", func := "loop.example/g00409/laws.FnExactCompareBig", spec := "fnExactCompareBig", unfollowed := true, recurses := true, apart := false, narrowed := true }
def FnExactCompareBigUptoSaid : Prop := fnExactCompareBigUptoRow.holds Try.pinned (OpenSpec.upto fnExactCompareBigSpec)

/-- 'laws.FnExactIntOf', WHERE WHAT IT READS IS OF BULK AT MOST 1048576: true; the input reads as it did. -/
def fnExactIntOfUptoRow : OpenClaim := { program := "ytiaobnkihhnmhaa", sum := "651a19c1b653852a9eda5c568bce532ccd44f028627f3a493342f1e3ed0acce6", func := "loop.example/g00409/laws.FnExactIntOf", spec := "fnExactIntOf", unfollowed := true, recurses := true, apart := false, narrowed := true }
def FnExactIntOfUptoSaid : Prop := fnExactIntOfUptoRow.holds Try.pinned (OpenSpec.upto fnExactIntOfSpec)

/-- 'laws.FnExactMulBig', WHERE WHAT IT READS IS OF BULK AT MOST 1048576: true; the input reads as it did. -/
def fnExactMulBigUptoRow : OpenClaim := { program := "ytiaobnkihhnmhaa", sum := "651a19c1b653852a9eda5c568bce532ccd44f028627f3a493342f1e3ed0acce6", func := "loop.example/g00409/laws.FnExactMulBig", spec := "fnExactMulBig", unfollowed := true, recurses := true, apart := false, narrowed := true }
def FnExactMulBigUptoSaid : Prop := fnExactMulBigUptoRow.holds Try.pinned (OpenSpec.upto fnExactMulBigSpec)

/-- 'laws.FnExactHalvesMul', WHERE WHAT IT READS IS OF BULK AT MOST 1048576: true; the input reads as it did. -/
def fnExactHalvesMulUptoRow : OpenClaim := { program := "ytiaobnkihhnmhaa", sum := "651a19c1b653852a9eda5c568bce532ccd44f028627f3a493342f1e3ed0acce6", func := "loop.example/g00409/laws.FnExactHalvesMul", spec := "fnExactHalvesMul", unfollowed := true, recurses := true, apart := false, narrowed := true }
def FnExactHalvesMulUptoSaid : Prop := fnExactHalvesMulUptoRow.holds Try.pinned (OpenSpec.upto fnExactHalvesMulSpec)

/-- 'laws.FnExactAddBig', WHERE WHAT IT READS IS OF BULK AT MOST 1048576: true; the input reads as it did. -/
def fnExactAddBigUptoRow : OpenClaim := { program := "ytiaobnkihhnmhaa", sum := "651a19c1b653852a9eda5c568bce532ccd44f028627f3a493342f1e3ed0acce6", func := "loop.example/g00409/laws.FnExactAddBig", spec := "fnExactAddBig", unfollowed := true, recurses := true, apart := false, narrowed := true }
def FnExactAddBigUptoSaid : Prop := fnExactAddBigUptoRow.holds Try.pinned (OpenSpec.upto fnExactAddBigSpec)

/-- 'laws.FnExactSubBig', WHERE WHAT IT READS IS OF BULK AT MOST 1048576: true; the input reads as it did. -/
def fnExactSubBigUptoRow : OpenClaim := { program := "ytiaobnkihhnmhaa", sum := "651a19c1b653852a9eda5c568bce532ccd44f028627f3a493342f1e3ed0acce6", func := "loop.example/g00409/laws.FnExactSubBig", spec := "fnExactSubBig", unfollowed := true, recurses := true, apart := false, narrowed := true }
def FnExactSubBigUptoSaid : Prop := fnExactSubBigUptoRow.holds Try.pinned (OpenSpec.upto fnExactSubBigSpec)

/-- 'laws.FnExactGcdBig', WHERE WHAT IT READS IS OF BULK AT MOST 1048576: true; the input reads as it did. -/
def fnExactGcdBigUptoRow : OpenClaim := { program := "ytiaobnkihhnmhaa", sum := "651a19c1b653852a9eda5c568bce532ccd44f028627f3a493342f1e3ed0acce6", func := "loop.example/g00409/laws.FnExactGcdBig", spec := "fnExactGcdBig", unfollowed := true, recurses := true, apart := false, narrowed := true }
def FnExactGcdBigUptoSaid : Prop := fnExactGcdBigUptoRow.holds Try.pinned (OpenSpec.upto fnExactGcdBigSpec)

/-- 'laws.FnExactDivBig', WHERE WHAT IT READS IS OF BULK AT MOST 1048576: true; the input reads as it did. -/
def fnExactDivBigUptoRow : OpenClaim := { program := "ytiaobnkihhnmhaa", sum := "651a19c1b653852a9eda5c568bce532ccd44f028627f3a493342f1e3ed0acce6", func := "loop.example/g00409/laws.FnExactDivBig", spec := "fnExactDivBig", unfollowed := true, recurses := true, apart := false, narrowed := true }
def FnExactDivBigUptoSaid : Prop := fnExactDivBigUptoRow.holds Try.pinned (OpenSpec.upto fnExactDivBigSpec)

end Rows
end Go.Proofs.Ytiaobnkihhnmhaa
