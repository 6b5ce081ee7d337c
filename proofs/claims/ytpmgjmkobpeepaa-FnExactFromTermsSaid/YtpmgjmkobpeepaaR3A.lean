/- Chapter 2: several fractions that are good; the sign of a fraction. -/
import Derived.Test.YtpmgjmkobpeepaaR2
set_option linter.unusedVariables false
set_option linter.unusedSectionVars false
set_option linter.unusedSimpArgs false
namespace Go.Vx
open Go.Proofs
set_option maxRecDepth 100000

theorem ratSign_den (x y : Int) (hx : Lm.ln x ≤ 1000000000000) : D 33 [ratV x y] true (.one (iP (cmpI x 0))) := by
  refine go Try.func33 rfl rfl ?_
  repeat refine vs ?_
  conv => whnf
  refine CallS.mk _ rfl true true _ (sign_den x hx) rfl ?_
  repeat refine vs ?_
  conv => whnf
  first | rfl | exact ⟨rfl, rfl⟩ | exact ⟨by simp [toRes], rfl⟩
abbrev Q4 := Bool × List Int × Bool × List Int
def cellsR (q : Q4) : List PL := [.bool q.1, .ints q.2.1, .bool q.2.2.1, .ints q.2.2.2]
noncomputable def goodQ (q : Q4) : Bool := goodR q.1 q.2.1 q.2.2.1 q.2.2.2
end Go.Vx
