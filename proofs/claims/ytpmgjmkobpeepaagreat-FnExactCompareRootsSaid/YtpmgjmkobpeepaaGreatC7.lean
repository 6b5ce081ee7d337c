/- Chapter 1: several numbers that are good; sums, differences, products of any arguments. -/
import Derived.Test.YtpmgjmkobpeepaaGreatCGa
import Derived.Test.YtpmgjmkobpeepaaGreatBGd
set_option linter.unusedVariables false
set_option linter.unusedSectionVars false
set_option linter.unusedSimpArgs false
namespace Go.Vx
open Go.Proofs
set_option maxRecDepth 100000

def cellsB (q : Bool × List Int) : List PL := [.bool q.1, .ints q.2]
def rowsB (qs : List (Bool × List Int)) : List (List PL) := qs.map cellsB

theorem indexFuncB_den (qs : List (Bool × List Int)) (hl : qs.length ≤ 1000000000000) (f : FuncId) (p : Bool × List Int → Bool) (hp : ∀ q ∈ qs, D f [rawV q.1 q.2] true (.one (bP (p q)))) :
  D 194 [(false, [.arr 2 (rowsB qs)]), fP f] true (.one (iP (match qs.findIdx? p with | some i => (i : Int) | none => -1))) := by
 refine go Tryz.func194 rfl rfl ?_
 have hrl : (rowsB qs).length = qs.length := by simp [rowsB]
 repeat refine vs ?_
 conv => whnf
 refine EVs.loopU (fun i : Nat => i ≤ qs.length ∧ ∀ (j : Nat) (h : j < qs.length), j < i → p qs[j] = false) (fun i => qs.length - i) (fun i => [(8, .v false [.p (.int .i64 (i : Int))])]) 0 ⟨by omega, fun j h hj => by omega⟩ (Wk.refl _) ?_
 rintro i ⟨hi, hall⟩
 refine go1 ?_
 repeat refine vs ?_
 conv => whnf
 by_cases h1 : (i : Int) < (rowsB qs).length
 ·have hlt : i < qs.length := by omega
  repeat refine vs ?_
  conv => whnf
  refine LdR.mk (cellsB qs[i]) (by simp [rowsB, hlt]) ?_
  repeat refine vs ?_
  conv => whnf
  refine CallS.mk _ rfl true true _ (hp qs[i] (List.getElem_mem hlt)) rfl ?_
  repeat refine vs ?_
  conv => whnf
  cases hpi : p qs[i]
  ·repeat refine vs ?_
   conv => whnf
   refine ⟨i + 1, by omega, ⟨by omega, fun j h hj => ?_⟩, ?_⟩
   ·by_cases e : j = i
    ·subst e; exact hpi
    ·exact hall j h (by omega)
   ·exact Wk.fg
  ·repeat refine vs ?_
   conv => whnf
   have : qs.findIdx? p = some i := by
    rw [List.findIdx?_eq_some_iff_getElem]
    exact ⟨hlt, hpi, fun j hj => by simp [hall j (by omega) hj]⟩
   exact ⟨by simp [toRes, this], rfl⟩
 ·repeat refine vs ?_
  conv => whnf
  have : qs.findIdx? p = none := by
   rw [List.findIdx?_eq_none_iff]
   intro x hx
   obtain ⟨j, hj, rfl⟩ := List.getElem_of_mem hx
   exact hall j hj (by omega)
  exact ⟨by simp [toRes, this], rfl⟩

theorem containsFuncB_den (qs : List (Bool × List Int)) (hl : qs.length ≤ 1000000000000) (f : FuncId) (p : Bool × List Int → Bool) (hp : ∀ q ∈ qs, D f [rawV q.1 q.2] true (.one (bP (p q)))) :
  D 184 [(false, [.arr 2 (rowsB qs)]), fP f] true (.one (bP (qs.any p))) := by
 refine go Tryz.func184 rfl rfl ?_
 repeat refine vs ?_
 conv => whnf
 refine CallS.mk _ rfl true true _ (indexFuncB_den qs hl f p hp) rfl ?_
 repeat refine vs ?_
 conv => whnf
 cases h : qs.findIdx? p with
 | none =>
  have : qs.any p = false := by
   rw [List.findIdx?_eq_none_iff] at h
   rw [List.any_eq_false]
   intro x hx
   simp [h x hx]
  repeat refine vs ?_
  conv => whnf
  exact ⟨by simp [toRes, this], rfl⟩
 | some i =>
  have : qs.any p = true := by
   rw [List.findIdx?_eq_some_iff_getElem] at h
   obtain ⟨h1, h2, _⟩ := h
   rw [List.any_eq_true]
   exact ⟨_, List.getElem_mem h1, h2⟩
  repeat refine vs ?_
  conv => whnf
  exact ⟨by simp [toRes, this], rfl⟩

theorem areBig1_den (neg : Bool) (l : List Int) (hl : l.length ≤ 1000000000000) : D 185 [rawV neg l] true (.one (bP (!goodB neg l))) := by
 refine go Tryz.func185 rfl rfl ?_
 repeat refine vs ?_
 conv => whnf
 refine CallS.mk _ rfl true true _ (goodI_den neg l hl) rfl ?_
 repeat refine vs ?_
 conv => whnf
 refine Bo.mk _ rfl ?_
 repeat refine vs ?_
 conv => whnf
 first | rfl | exact ⟨rfl, rfl⟩ | exact ⟨by simp [toRes], rfl⟩

theorem areBig_den (qs : List (Bool × List Int)) (hl : qs.length ≤ 1000000000000) (hq : ∀ q ∈ qs, q.2.length ≤ 1000000000000) : D 152 [(false, [.arr 2 (rowsB qs)])] true (.one (bP (qs.all fun q => goodB q.1 q.2))) := by
 refine go Tryz.func152 rfl rfl ?_
 repeat refine vs ?_
 conv => whnf
 refine CallS.mk _ rfl true true _ (containsFuncB_den qs hl 185 (fun q => !goodB q.1 q.2) (fun q hm => areBig1_den q.1 q.2 (hq q hm))) rfl ?_
 repeat refine vs ?_
 conv => whnf
 refine Bo.mk (qs.all fun q => goodB q.1 q.2) (by rw [List.all_eq_not_any_not]) ?_
 repeat refine vs ?_
 conv => whnf
 first | rfl | exact ⟨rfl, rfl⟩ | exact ⟨by simp [toRes], rfl⟩

theorem are2_den (n1 n2 : Bool) (l m : List Int) (hl : l.length ≤ 1000000000000) (hm : m.length ≤ 1000000000000) : D 152 [(false, [.arr 2 [[.bool n1, .ints l], [.bool n2, .ints m]]])] true (.one (bP (goodB n1 l && goodB n2 m))) := by
 have := areBig_den [(n1, l), (n2, m)] (by simp) (by intro q hq; rcases List.mem_cons.1 hq with rfl | hq; exact hl; rcases List.mem_cons.1 hq with rfl | hq; exact hm; cases hq)
 simp only [List.all_cons, List.all_nil, Bool.and_true] at this
 exact this

end Go.Vx
