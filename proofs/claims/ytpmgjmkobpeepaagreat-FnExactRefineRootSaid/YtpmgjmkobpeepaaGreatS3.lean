/- Chapter 3: several intervals that are good; sums, differences of any intervals. -/
import Derived.Test.YtpmgjmkobpeepaaGreatS2
import Derived.Test.YtpmgjmkobpeepaaGreatC7
set_option linter.unusedVariables false
set_option linter.unusedSectionVars false
set_option linter.unusedSimpArgs false
namespace Go.Vx
open Go.Proofs
set_option maxRecDepth 100000

structure Q8 where
  na : Bool
  la : List Int
  pa : Bool
  qa : List Int
  nb : Bool
  lb : List Int
  pb : Bool
  qb : List Int
def cellsS (q : Q8) : List PL := [.bool q.na, .ints q.la, .bool q.pa, .ints q.qa, .bool q.nb, .ints q.lb, .bool q.pb, .ints q.qb]
def spanQ (q : Q8) : PV := spanR q.na q.la q.pa q.qa q.nb q.lb q.pb q.qb
noncomputable def goodQ8 (q : Q8) : Bool := goodS q.na q.la q.pa q.qa q.nb q.lb q.pb q.qb
def shortQ (q : Q8) : Prop := q.la.length ≤ 1000000000000 ∧ q.qa.length ≤ 1000000000000 ∧ q.lb.length ≤ 1000000000000 ∧ q.qb.length ≤ 1000000000000

section
variable (na : Bool) (la : List Int) (pa : Bool) (qa : List Int) (nb : Bool) (lb : List Int) (pb : Bool) (qb : List Int)
variable (ma : Bool) (ka : List Int) (oa : Bool) (sa : List Int) (mb : Bool) (kb : List Int) (ob : Bool) (sb : List Int)
section
variable (h1 : la.length ≤ 1000000000000) (h2 : qa.length ≤ 1000000000000) (h3 : lb.length ≤ 1000000000000) (h4 : qb.length ≤ 1000000000000)
variable (h5 : ka.length ≤ 1000000000000) (h6 : sa.length ≤ 1000000000000) (h7 : kb.length ≤ 1000000000000) (h8 : sb.length ≤ 1000000000000)
include h1 h2 h3 h4 h5 h6 h7 h8
end
end
end Go.Vx
