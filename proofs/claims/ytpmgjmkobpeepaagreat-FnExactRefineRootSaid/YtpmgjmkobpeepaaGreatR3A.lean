/- Chapter 2: several fractions that are good; the sign of a fraction. -/
import Derived.Test.YtpmgjmkobpeepaaGreatR2
set_option linter.unusedVariables false
set_option linter.unusedSectionVars false
set_option linter.unusedSimpArgs false
namespace Go.Vx
open Go.Proofs
set_option maxRecDepth 100000

theorem ratSign_den (x y : Int) (hx : Lm.ln x ≤ 1000000000000) : D 133 [ratV x y] true (.one (iP (cmpI x 0))) := by
  refine go Tryz.func133 rfl rfl ?_
  repeat refine vs ?_
  conv => whnf
  refine CallS.mk _ rfl true true _ (sign_den x hx) rfl ?_
  repeat refine vs ?_
  conv => whnf
  first | rfl | exact ⟨rfl, rfl⟩ | exact ⟨by simp [toRes], rfl⟩
abbrev Q4 := Bool × List Int × Bool × List Int
def cellsR (q : Q4) : List PL := [.bool q.1, .ints q.2.1, .bool q.2.2.1, .ints q.2.2.2]
noncomputable def goodQ (q : Q4) : Bool := goodR q.1 q.2.1 q.2.2.1 q.2.2.2
theorem areRats_den (qs : List Q4) (hl : qs.length ≤ 1000000000000) (hq : ∀ q ∈ qs, q.2.1.length ≤ 1000000000000 ∧ q.2.2.2.length ≤ 1000000000000) : D 163 [(false, [.arr 4 (qs.map cellsR)])] true (.one (bP (qs.all goodQ))) := by
  refine go Tryz.func163 rfl rfl ?_
  have hrl : (qs.map cellsR).length = qs.length := by simp
  repeat refine vs ?_
  conv => whnf
  refine EVs.loopU (fun i : Nat => i ≤ qs.length ∧ ∀ (j : Nat) (h : j < qs.length), j < i → goodQ qs[j] = true) (fun i => qs.length - i) (fun i => [(7, .v false [.p (.int .i64 (i : Int))])]) 0 ⟨by omega, fun j h hj => by omega⟩ (Wk.le (by repeat' (first | exact LeT.nil | refine LeT.drop1 ?_ | refine LeT.same1 ?_ | refine LeT.own1 ?_ | refine LeT.ownR ?_ | (refine LeT.deepR ?_ rfl)))) ?_
  rintro i ⟨hi, hall⟩
  refine go1 ?_
  repeat refine vs ?_
  conv => whnf
  by_cases h1 : (i : Int) < (qs.map cellsR).length
  · have hlt : i < qs.length := by omega
    have dG := goodRatI_den qs[i].1 qs[i].2.1 qs[i].2.2.1 qs[i].2.2.2 (hq _ (List.getElem_mem hlt)).1 (hq _ (List.getElem_mem hlt)).2
    repeat refine vs ?_
    conv => whnf
    refine LdR.mk (cellsR qs[i]) (by simp [hlt]) ?_
    repeat refine vs ?_
    conv => whnf
    refine CallS.mk _ rfl true true _ (dG) rfl ?_
    repeat refine vs ?_
    conv => whnf
    cases hpi : goodQ qs[i]
    · have hpi' := hpi
      unfold goodQ at hpi'
      rw [hpi']
      repeat refine vs ?_
      conv => whnf
      have : qs.all goodQ = false := by
        rw [List.all_eq_false]
        exact ⟨_, List.getElem_mem hlt, by simp [hpi]⟩
      exact ⟨by simp [toRes, this], rfl⟩
    · have hpi' := hpi
      unfold goodQ at hpi'
      rw [hpi']
      repeat refine vs ?_
      conv => whnf
      refine ⟨i + 1, by omega, ⟨by omega, fun j h hj => ?_⟩, ?_⟩
      · by_cases e : j = i
        · subst e; exact hpi
        · exact hall j h (by omega)
      · refine Wk.le ?_
        repeat' (first | exact LeT.nil | refine LeT.drop1 ?_ | refine LeT.same1 ?_ | refine LeT.own1 ?_ | refine LeT.ownR ?_ | (refine LeT.deepR ?_ rfl))
  · repeat refine vs ?_
    conv => whnf
    have : qs.all goodQ = true := by
      rw [List.all_eq_true]
      intro x hx
      obtain ⟨j, hj, rfl⟩ := List.getElem_of_mem hx
      exact hall j hj (by omega)
    exact ⟨by simp [toRes, this], rfl⟩
theorem areRats2_den (n0 : Bool) (l0 : List Int) (p0 : Bool) (q0 : List Int) (n1 : Bool) (l1 : List Int) (p1 : Bool) (q1 : List Int) (h1 : l0.length ≤ 1000000000000) (h2 : q0.length ≤ 1000000000000) (h3 : l1.length ≤ 1000000000000) (h4 : q1.length ≤ 1000000000000) :
    D 163 [(false, [.arr 4 [[.bool n0, .ints l0, .bool p0, .ints q0], [.bool n1, .ints l1, .bool p1, .ints q1]]])] true (.one (bP (goodR n0 l0 p0 q0 && goodR n1 l1 p1 q1))) := by
  have := areRats_den [(n0, l0, p0, q0), (n1, l1, p1, q1)] (by simp) (by intro q hq; rcases List.mem_cons.1 hq with rfl | hq; exact ⟨h1, h2⟩; rcases List.mem_cons.1 hq with rfl | hq; exact ⟨h3, h4⟩; cases hq)
  simp only [List.all_cons, List.all_nil, Bool.and_true] at this
  exact this
end Go.Vx
