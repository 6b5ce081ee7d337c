-- PRINTED BY print.sh 35421559b90ae4d0a3588c463048766b98c2df88dd9212a6774a882060cdf62d: not written by this session
import Derived.Test.YtmnkampkfcoghaaProg
import Derived.Below
import Derived.Deep.Draws
import Derived.Deep.AppendLies
import Derived.Maps.AppendAt
import Derived.OwnWalk
import Derived.Laws.BytesArg
import Derived.Laws.MakeOwn
import Derived.Laws.OwnMore
import Derived.Deep.OwnRows
import Derived.Tactics
import Derived.Lib.ConvBytes
import Derived.Laws.Slices
import Derived.WalkKit
import Derived.KernelRfl
import Derived.RowKit3
import Derived.Deep.LoopGhost
import Derived.Deep.QuietTactic
import Derived.BigQuiet
import Derived.WideLaws
import Derived.Deep.DeepCutAuto
import Derived.Deep.CutBlock
import Derived.Deep.RegionHeld3
import Derived.Laws.Rows
import Derived.Lib.AppendStr
import Derived.ArgAppend
import Derived.Laws.IdiomCopy
import Derived.OrdersHeld
import Derived.Laws.BitsLemmas
import Derived.RowKit
import Derived.Test.YtmnkampkfcoghaaWWords
import Derived.Test.YtmnkampkfcoghaaWLast
import Derived.Test.YtmnkampkfcoghaaWTab
import Derived.Test.YtmnkampkfcoghaaWFour
import Derived.Test.YtmnkampkfcoghaaWQPut
import Derived.Test.YtmnkampkfcoghaaWApart
import Derived.Test.YtmnkampkfcoghaaWArr
import Derived.Test.YtmnkampkfcoghaaWZeros
import Derived.Test.YtmnkampkfcoghaaWFoot
import Derived.Test.YtmnkampkfcoghaaWKept
import Derived.Test.YtmnkampkfcoghaaWShare
import Derived.Test.YtmnkampkfcoghaaWN
import Derived.Test.YtmnkampkfcoghaaWFootNe
import Derived.Test.YtmnkampkfcoghaaWAt
import Derived.Test.YtmnkampkfcoghaaWEqStruct
import Derived.Test.YtmnkampkfcoghaaWRepsOne
import Derived.Test.YtmnkampkfcoghaaWInv
import Derived.Test.YtmnkampkfcoghaaWInvWords
import Derived.Test.YtmnkampkfcoghaaWGuard
import Derived.Test.YtmnkampkfcoghaaWNEv
import Derived.Test.YtmnkampkfcoghaaWMore
namespace Go.Proofs.Ytmnkampkfcoghaa.PFnExactConstants
open Go.RowKit Go.Proofs.YtmnkampkfcoghaaW.PrintWords Go.Proofs.YtmnkampkfcoghaaW.PrintLast Go.Proofs.YtmnkampkfcoghaaW.PrintMore
attribute [local go_sem] max2_int min2_int max_two min_two max_three min_three max_four min_four   -- for this text's walks alone
set_option linter.unusedVariables false
set_option linter.unusedSimpArgs false



def errW : Option Int → Value
  | none => .nilIface
  | some c => .iface 0 (.int .i64 c)
theorem errW_none : errW none = .nilIface := rfl
theorem errW_some (c : Int) : errW (some c) = .iface 0 (.int .i64 c) := rfl

-- the values' own types

end Go.Proofs.Ytmnkampkfcoghaa.PFnExactConstants
