/- Proved: the program's constants are the reference's (the law returns true); no condition. -/
import Derived.Test.YtmnkampkfcoghaaPFnExactConstantsx1
namespace Go.Proofs.Ytmnkampkfcoghaa.Pure
open Go.RowKit Go.Proofs.Ytmnkampkfcoghaa.PFnExactConstants Go.Proofs.YtmnkampkfcoghaaW.PrintWords Go.Proofs.YtmnkampkfcoghaaW.PrintLast

/-- YOURS: laws_FnExactConstants.f  = some true
What it reaches (each with k first where it has rounds; `.mono`: more rounds tell the same; `.l0`, ..: its loops, with `.mono_l`): laws_FnExactConstants.f -/
theorem FnExactConstants : laws_FnExactConstants.Pure := by
  rfl

end Go.Proofs.Ytmnkampkfcoghaa.Pure
