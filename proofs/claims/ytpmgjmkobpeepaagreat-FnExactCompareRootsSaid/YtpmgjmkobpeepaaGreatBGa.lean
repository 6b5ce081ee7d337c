/- B0, CR, B1, B2, B3 -/
import Derived.Test.YtpmgjmkobpeepaaGreatVGg
import Derived.Test.YtpmgjmkobpeepaaGreatLGa
import Derived.Test.YtpmgjmkobpeepaaGreatProg
set_option linter.unusedVariables false
set_option linter.unusedSectionVars false
set_option linter.unusedSimpArgs false
section
/- The seat: its types; how a function's fact is begun. -/
namespace Go.Vx
open Go.Proofs

def Γ : Tab := { rows := [⟨39, .agg 2 [(0, none), (1, none)], [.p (.bool false), .nil]⟩, ⟨33, .agg 2 [(0, none), (1, none)], [.p (.bool false), .nil]⟩, ⟨4, .bool, [.p (.bool false)]⟩, ⟨31, .ints, [.nil]⟩, ⟨3, .int .i64, [.p (.int .i64 0)]⟩,
  ⟨146, .slice 39 2 32, [.nil]⟩,
  ⟨41, .agg 4 [(0, some 2), (2, some 2)], [.p (.bool false), .nil, .p (.bool false), .nil]⟩,
  ⟨35, .agg 4 [(0, some 2), (2, some 2)], [.p (.bool false), .nil, .p (.bool false), .nil]⟩,
  ⟨24, .slice 41 4 64, [.nil]⟩,
  ⟨53, .agg 8 [(0, some 4), (4, some 4)], [.p (.bool false), .nil, .p (.bool false), .nil, .p (.bool false), .nil, .p (.bool false), .nil]⟩,
  ⟨50, .agg 8 [(0, some 4), (4, some 4)], [.p (.bool false), .nil, .p (.bool false), .nil, .p (.bool false), .nil, .p (.bool false), .nil]⟩,
  ⟨22, .slice 35 4 64, [.nil]⟩,
  ⟨82, .slice 24 1 24, [.nil]⟩,
  ⟨9, .str, [.undef]⟩,
  ⟨5, .int .u8, [.p (.int .u8 0)]⟩,
  ⟨120, .int .u64, [.p (.int .u64 0)]⟩,
  ⟨137, .int .u64, [.p (.int .u64 0)]⟩]
                 muts := [44, 58, 22, 32, 179, 180, 99999999, 99999999, 15, 99999999, 91, 90, 96, 99999999]
                 md := DenM Tryz.prog 3
                 mdd := DenD Tryz.prog 3
                 msh := DenH Tryz.prog }
theorem tabΓ : tabB Tryz.prog 3 Γ = true := by kernel_rfl
theorem mixed : Tryz.prog.follows .mixedOrders = true := by kernel_rfl
abbrev D := DenS Tryz.prog 3

theorem go {g : FuncId} {fn : Func} {c : Code} {ps : List PV} {fl : Bool} {r : Res} (hf : Tryz.prog.funcs[g]? = some fn) (hname : (fn.name == "runtime.NumGoroutine") = false)
  (hb : fn.body = some c) (hev : fT (init fn.ntmps ps) fun T => evF Γ 3 D Tryz.prog c T (retK Γ 3 fn.results.toList fl r)) : D g ps fl r :=
 den_intro mixed tabΓ hf hname hb (ev_sound mixed tabΓ (fun _ _ _ _ h => h) (fun _ _ _ _ h => h) (fun _ _ _ _ _ _ h => h) (fun _ _ _ _ _ h => h) c (evF_le c (by rw [fT_eq] at hev; exact hev)))
abbrev Dm := DenM Tryz.prog 3
theorem goM {g : FuncId} {fn : Func} {c : Code} {ps qs : List PV} {r : MRes} (hf : Tryz.prog.funcs[g]? = some fn) (hname : (fn.name == "runtime.NumGoroutine") = false)
  (hb : fn.body = some c) (hev : fT (initM 3 fn.ntmps ps) fun T => evF Γ 3 D Tryz.prog c T (retKM Γ 3 fn.results.toList ps qs r)) : Dm g ps qs r :=
 den_introM tabΓ hf hname hb (ev_sound mixed tabΓ (fun _ _ _ _ h => h) (fun _ _ _ _ h => h) (fun _ _ _ _ _ _ h => h) (fun _ _ _ _ _ h => h) c (evF_le c (by rw [fT_eq] at hev; exact hev)))
theorem go1 {c : Code} {T : List FV} {K : Ex → List FV → Prop} (h : fT T fun T => evF Γ 3 D Tryz.prog c T K) : EVs Tryz.prog c T K := ev_sound mixed tabΓ (fun _ _ _ _ h => h) (fun _ _ _ _ h => h) (fun _ _ _ _ _ _ h => h) (fun _ _ _ _ _ h => h) c (evF_le c (by rw [fT_eq] at h; exact h))

/-- Calls that write the inner slices of their first argument. -/
abbrev Dd := DenD Tryz.prog 3
abbrev Dh := DenH Tryz.prog
theorem goH {g : FuncId} {fn : Func} {c : Code} {ps : List PV} {e : TypeId} {k : Nat} {rows : List (List PL)} (hf : Tryz.prog.funcs[g]? = some fn) (hname : (fn.name == "runtime.NumGoroutine") = false)
  (hb : fn.body = some c) (hev : fT (init fn.ntmps ps) fun T => evF Γ 3 D Tryz.prog c T (retKH Γ fn.results.toList e k rows)) : Dh g ps e k rows :=
 den_introH tabΓ hf hname hb (ev_sound mixed tabΓ (fun _ _ _ _ h => h) (fun _ _ _ _ h => h) (fun _ _ _ _ _ _ h => h) (fun _ _ _ _ _ h => h) c (evF_le c (by rw [fT_eq] at hev; exact hev)))
theorem goE {g : FuncId} {ps : List PV} {x : PL} (h : D g ps false (.one (false, [x]))) : Dd g 0 [] ps [] x := h
abbrev iP (z : Int) : PV := (false, [.int .i64 z])
abbrev bP (b : Bool) : PV := (false, [.bool b])
abbrev lP (l : List Int) : PV := (false, [.ints l])
/-- Results of calls that write their arguments' arrays. -/
abbrev rI (z : Int) : Bool × List RL := (false, [.p (.int .i64 z)])
abbrev fP (f : FuncId) : PV := (false, [.fn f])
/-- A Big of a sign and limbs. -/
abbrev rawV (neg : Bool) (l : List Int) : PV := (true, [.bool neg, .ints l])
/-- The Big of a number. -/
abbrev bigV (x : Int) : PV := rawV (decide (x < 0)) (Lm.lim x.natAbs)
end Go.Vx
end
section
/- What the laws' arguments read as: a Big, a fraction, an interval, lists of them. -/
namespace Go.Vx
set_option maxRecDepth 100000
open Go.Proofs Go.RowKit
theorem agg_of {v : Value} {n : Nat} (hn : 2 ≤ n) (h : v.cells.toList.length = n) : v = .agg v.cells := by
 cases v <;> first | rfl | (simp [Value.cells] at h; omega)
theorem bool_of {w : World} {N : Nat → Option Nat} {b : Bool} {v : Value} (h : FrRes w 3 N (.one (bP b)) v) : v = .bool b := by
 obtain ⟨x, hx, h⟩ := h
 cases hx
 exact h.1
theorem maxLen_le {n : Nat} (h : n ≤ maxLen) : n ≤ 9223372036854775807 := by simpa [maxLen] using h
section
variable {H : Type} {enc : TypeId × Value → H} {w : World} {base : Nat} {sp : Nat → Bool} {held : Bool}
theorem readsBig : Reads enc Tryz.prog w base sp held 33 (fun ls => ∃ neg l, ls = [.bool neg, .ints l] ∧ l.length ≤ 9223372036854775807) := by
 intro fuel cs x h
 obtain ⟨ls, ⟨a, b, rfl, ⟨neg, rfl⟩, ⟨l, rfl, hl⟩⟩, hR⟩ := Reads.struct2 Tryz.underlying33 rfl (by kernel_rfl) (by kernel_rfl) (Reads.bool Tryz.underlying4) (Reads.ints Tryz.underlying31 Tryz.underlying3 (by kernel_rfl)) fuel cs x h
 exact ⟨_, ⟨neg, l, rfl, maxLen_le hl⟩, hR⟩
end
end Go.Vx
end
section
/- Chapter 1, the small ones. -/
namespace Go.Vx
open Go.Proofs
set_option maxRecDepth 100000

theorem within_den (n lo hi : Int) : D 69 [iP n, iP lo, iP hi] true (.one (bP (decide (lo ≤ n ∧ n ≤ hi)))) := by
 refine go Tryz.func69 rfl rfl ?_
 repeat refine vs ?_
 conv => whnf
 by_cases h1 : n ≥ lo
 ·repeat refine vs ?_
  conv => whnf
  by_cases h2 : n ≤ hi
  ·repeat refine vs ?_
   conv => whnf
   exact ⟨by simp [toRes]; omega, rfl⟩
  ·repeat refine vs ?_
   conv => whnf
   exact ⟨by simp [toRes]; omega, rfl⟩
 ·repeat refine vs ?_
  conv => whnf
  exact ⟨by simp [toRes]; omega, rfl⟩
theorem l1In_den (n lo hi : Int) : D 64 [iP n, iP lo, iP hi] true (.one (bP (decide (lo ≤ n ∧ n ≤ hi)))) := by
 refine go Tryz.func64 rfl rfl ?_
 repeat refine vs ?_
 conv => whnf
 by_cases h1 : n ≥ lo
 ·repeat refine vs ?_
  conv => whnf
  by_cases h2 : n ≤ hi
  ·repeat refine vs ?_
   conv => whnf
   exact ⟨by simp [toRes]; omega, rfl⟩
  ·repeat refine vs ?_
   conv => whnf
   exact ⟨by simp [toRes]; omega, rfl⟩
 ·repeat refine vs ?_
  conv => whnf
  exact ⟨by simp [toRes]; omega, rfl⟩

theorem l1Limb_den (l : List Int) (i : Int) (h0 : 0 ≤ i) (hl : l.length ≤ 1000000000000) : D 191 [lP l, iP i] true (.one (iP (l.getD i.toNat 0))) := by
 refine go Tryz.func191 rfl rfl ?_
 repeat refine vs ?_
 conv => whnf
 by_cases h1 : i < (l.length : Int)
 ·repeat refine vs ?_
  conv => whnf
  first | refine Idx.mk (i.toNat) (by first | rfl | omega) (by omega) ?_ | skip
  repeat refine vs ?_
  conv => whnf
  first | refine LdI.mk (_) (List.getElem?_eq_getElem (by omega : i.toNat < l.length)) ?_ | skip
  repeat refine vs ?_
  conv => whnf
  exact ⟨by simp [toRes, List.getD, List.getElem?_eq_getElem (by omega : i.toNat < l.length)], rfl⟩
 ·repeat refine vs ?_
  conv => whnf
  exact ⟨by simp [toRes, List.getD, List.getElem?_eq_none (by omega : l.length ≤ i.toNat)], rfl⟩

theorem isNaN_den (n : Int) : D 190 [iP n] true (.one (bP false)) := by
 refine go Tryz.func190 rfl rfl ?_
 repeat refine vs ?_
 conv => whnf
 rfl
def cmpI (a b : Int) : Int := if a < b then -1 else if a > b then 1 else 0
theorem cmp_den (a b : Int) : D 164 [iP a, iP b] true (.one (iP (cmpI a b))) := by
 refine go Tryz.func164 rfl rfl ?_
 repeat refine vs ?_
 conv => whnf
 refine CallS.mk _ rfl true true _ (isNaN_den a) rfl ?_
 repeat refine vs ?_
 conv => whnf
 refine CallS.mk _ rfl true true _ (isNaN_den b) rfl ?_
 repeat refine vs ?_
 conv => whnf
 by_cases h1 : a < b
 ·repeat refine vs ?_
  conv => whnf
  exact ⟨by simp [toRes, cmpI, h1], rfl⟩
 ·repeat refine vs ?_
  conv => whnf
  by_cases h2 : a > b
  ·repeat refine vs ?_
   conv => whnf
   exact ⟨by simp [toRes, cmpI, h1, h2], rfl⟩
  ·repeat refine vs ?_
   conv => whnf
   exact ⟨by simp [toRes, cmpI, h1, h2], rfl⟩
end Go.Vx
end
section
/- Chapter 1: cutting, making. -/
namespace Go.Vx
open Go.Proofs
set_option maxRecDepth 100000

theorem clone_den (l : List Int) (hl : l.length ≤ 1000000000000) : D 174 [lP l] true (.one (lP l)) := by
 refine den_intro mixed tabΓ Tryz.func174 rfl rfl ?_
 refine EVs.seq (go1 ?_)
 repeat refine vs ?_
 conv => whnf
 refine EVs.seq (EVs.seq ?_)
 refine EVs.nilTest (s := 0) (x := .ints l) tabΓ rfl rfl rfl rfl rfl rfl rfl rfl rfl (by show 3 < 8; omega) ?_
 intro b hb
 refine go1 ?_
 cases b with
 | true =>
  have hb := hb rfl
  have : l = [] := List.eq_nil_of_length_eq_zero hb
  subst this
  repeat refine vs ?_
  conv => whnf
  rfl
 | false =>
  repeat refine vs ?_
  conv => whnf
  refine go1 ?_
  repeat refine vs ?_
  conv => whnf
  refine NewK.mk true ?_
  repeat refine vs ?_
  conv => whnf
  repeat refine vs ?_
  conv => whnf
  repeat refine vs ?_
  conv => whnf
  first | rfl | exact ⟨rfl, rfl⟩ | exact ⟨by simp [toRes], rfl⟩

theorem l1Cut_den (l : List Int) (hl : l.length ≤ 1000000000000) : D 150 [lP l] true (.one (lP (Lm.cut l))) := by
 refine go Tryz.func150 rfl rfl ?_
 repeat refine vs ?_
 conv => whnf
 refine EVs.loopU (fun l' : List Int => Lm.cut l' = Lm.cut l ∧ l'.length ≤ l.length) List.length (fun l' => [(0, .v false [.p (.ints l')])]) l ⟨rfl, Nat.le_refl _⟩ (Wk.refl _) ?_
 rintro l' ⟨h1, h2⟩
 refine go1 ?_
 repeat refine vs ?_
 conv => whnf
 by_cases h0 : l' = []
 ·subst h0
  repeat refine vs ?_
  conv => whnf
  refine NewK.mk true ?_
  repeat refine vs ?_
  conv => whnf
  repeat refine vs ?_
  conv => whnf
  repeat refine vs ?_
  conv => whnf
  exact ⟨by rw [← h1]; rfl, rfl⟩
 ·have hpos : 0 < l'.length := List.length_pos_iff.2 h0
  have hlast : l'[l'.length - 1]? = some l'[l'.length - 1] := List.getElem?_eq_getElem (by omega)
  have hsplit : l' = l'.take (l'.length - 1) ++ [l'[l'.length - 1]] := by
   rw [List.take_append_getElem (h := by omega)]
   exact (List.take_of_length_le (by omega)).symm
  repeat refine vs ?_
  conv => whnf
  first | refine Idx.mk ((l'.length - 1)) (by first | rfl | omega) (by omega) ?_ | skip
  repeat refine vs ?_
  conv => whnf
  first | refine LdI.mk (_) (hlast) ?_ | skip
  repeat refine vs ?_
  conv => whnf
  by_cases hz : l'[l'.length - 1] = 0
  ·repeat refine vs ?_
   conv => whnf
   refine SubK.mk (0) ((l'.length - 1)) (by first | rfl | (show _ = _; omega)) (by first | rfl | (show _ = _; omega)) (by omega) (by omega) ?_
   repeat refine vs ?_
   conv => whnf
   refine ⟨l'.take (l'.length - 1), by simp; omega, ⟨?_, by simp; omega⟩, ?_⟩
   ·rw [hz] at hsplit
    rw [← h1]
    conv => rhs; rw [hsplit, Lm.cut_snoc_zero]
   ·exact Wk.fg
  ·repeat refine vs ?_
   conv => whnf
   refine NewK.mk true ?_
   repeat refine vs ?_
   conv => whnf
   repeat refine vs ?_
   conv => whnf
   repeat refine vs ?_
   conv => whnf
   refine ⟨?_, rfl⟩
   rw [← h1, hsplit, Lm.cut_snoc _ hz]
   rfl

theorem cut_den (l : List Int) (hl : l.length ≤ 1000000000000) : D 175 [lP l] false (.one (lP (Lm.cut l))) := by
 refine go Tryz.func175 rfl rfl ?_
 repeat refine vs ?_
 conv => whnf
 refine EVs.loopU (fun n : Nat => Lm.cut (l.take n) = Lm.cut l ∧ n ≤ l.length) id (fun n => [(3, .v false [.p (.int .i64 (n : Int))])]) l.length ⟨by rw [List.take_length], Nat.le_refl _⟩ (Wk.refl _) ?_
 rintro n ⟨h1, h2⟩
 refine go1 ?_
 repeat refine vs ?_
 conv => whnf
 by_cases h0 : n = 0
 ·subst h0
  repeat refine vs ?_
  conv => whnf
  refine SubK.mk (0) (0) (by first | rfl | (show _ = _; omega)) (by first | rfl | (show _ = _; omega)) (by omega) (by omega) ?_
  repeat refine vs ?_
  conv => whnf
  rw [← h1]
  rfl
 ·have hlast : l[n - 1]? = some l[n - 1] := List.getElem?_eq_getElem (by omega)
  have hsplit : l.take n = l.take (n - 1) ++ [l[n - 1]] := by
   rw [List.take_append_getElem (h := by omega)]
   congr 1
   omega
  repeat refine vs ?_
  conv => whnf
  first | refine Idx.mk ((n - 1)) (by first | rfl | omega) (by omega) ?_ | skip
  repeat refine vs ?_
  conv => whnf
  first | refine LdI.mk (_) (hlast) ?_ | skip
  repeat refine vs ?_
  conv => whnf
  by_cases hz : l[n - 1] = 0
  ·repeat refine vs ?_
   conv => whnf
   refine ⟨n - 1, by simp; omega, ⟨?_, by omega⟩, ?_⟩
   ·rw [hz] at hsplit
    rw [← h1, hsplit, Lm.cut_snoc_zero]
   ·rw [show (((n - 1 : Nat)) : Int) = (n : Int) - 1 by omega]
    exact Wk.fg
  ·repeat refine vs ?_
   conv => whnf
   refine SubK.mk (0) (n) (by first | rfl | (show _ = _; omega)) (by first | rfl | (show _ = _; omega)) (by omega) (by omega) ?_
   repeat refine vs ?_
   conv => whnf
   rw [← h1, hsplit, Lm.cut_snoc _ hz, ← hsplit]
   rfl

theorem l1Make_den (neg : Bool) (l : List Int) (hl : l.length ≤ 1000000000000) : D 141 [bP neg, lP l] true (.one (rawV (neg && decide (Lm.cut l ≠ [])) (Lm.cut l))) := by
 have hcl := Lm.cut_length_le l
 refine go Tryz.func141 rfl rfl ?_
 repeat refine vs ?_
 conv => whnf
 refine CallS.mk _ rfl true true _ (l1Cut_den l hl) rfl ?_
 repeat refine vs ?_
 conv => whnf
 cases neg
 ·repeat refine vs ?_
  conv => whnf
  first | rfl | exact ⟨rfl, rfl⟩ | exact ⟨by simp [toRes], rfl⟩
 ·repeat refine vs ?_
  conv => whnf
  by_cases h : Lm.cut l = []
  ·rw [h]
   repeat refine vs ?_
   conv => whnf
   first | rfl | exact ⟨rfl, rfl⟩ | exact ⟨by simp [toRes], rfl⟩
  ·have := List.length_pos_iff.2 h
   repeat refine vs ?_
   conv => whnf
   exact ⟨by simp [toRes, h], rfl⟩

theorem bigOf_den (neg : Bool) (l : List Int) (hl : l.length ≤ 1000000000000) : D 148 [bP neg, lP l] true (.one (rawV (neg && decide (Lm.cut l ≠ [])) (Lm.cut l))) := by
 have hcl := Lm.cut_length_le l
 refine go Tryz.func148 rfl rfl ?_
 repeat refine vs ?_
 conv => whnf
 refine CallS.mk _ rfl false false _ (cut_den l hl) rfl ?_
 repeat refine vs ?_
 conv => whnf
 refine CallS.mk _ rfl true true _ (clone_den _ (by omega)) rfl ?_
 repeat refine vs ?_
 conv => whnf
 cases neg
 ·repeat refine vs ?_
  conv => whnf
  first | rfl | exact ⟨rfl, rfl⟩ | exact ⟨by simp [toRes], rfl⟩
 ·repeat refine vs ?_
  conv => whnf
  by_cases h : Lm.cut l = []
  ·rw [h]
   repeat refine vs ?_
   conv => whnf
   first | rfl | exact ⟨rfl, rfl⟩ | exact ⟨by simp [toRes], rfl⟩
  ·have := List.length_pos_iff.2 h
   repeat refine vs ?_
   conv => whnf
   exact ⟨by simp [toRes, h], rfl⟩
end Go.Vx
end
section
/- Chapter 1: valid, compared. -/
namespace Go.Vx
open Go.Proofs
set_option maxRecDepth 100000

noncomputable def goodB (neg : Bool) (l : List Int) : Bool := @decide (Lm.Good neg l) (Classical.propDecidable _)
theorem goodB_true {neg : Bool} {l : List Int} (h : Lm.Good neg l) : goodB neg l = true := by unfold goodB; simp [h]
theorem goodB_false {neg : Bool} {l : List Int} (h : ¬ Lm.Good neg l) : goodB neg l = false := by unfold goodB; simp [h]

theorem indexFunc_den (l : List Int) (hl : l.length ≤ 1000000000000) (f : FuncId) (p : Int → Bool) (hp : ∀ x ∈ l, D f [iP x] true (.one (bP (p x)))) :
  D 199 [lP l, fP f] true (.one (iP (match l.findIdx? p with | some i => (i : Int) | none => -1))) := by
 refine go Tryz.func199 rfl rfl ?_
 repeat refine vs ?_
 conv => whnf
 refine EVs.loopU (fun i : Nat => i ≤ l.length ∧ ∀ (j : Nat) (h : j < l.length), j < i → p l[j] = false) (fun i => l.length - i) (fun i => [(8, .v false [.p (.int .i64 (i : Int))])]) 0 ⟨by omega, fun j h hj => by omega⟩ (Wk.refl _) ?_
 rintro i ⟨hi, hall⟩
 refine go1 ?_
 repeat refine vs ?_
 conv => whnf
 by_cases h1 : (i : Int) < l.length
 ·have hlt : i < l.length := by omega
  repeat refine vs ?_
  conv => whnf
  first | refine Idx.mk (i) (by first | rfl | omega) (by omega) ?_ | skip
  repeat refine vs ?_
  conv => whnf
  first | refine LdI.mk (l[i]) (List.getElem?_eq_getElem hlt) ?_ | skip
  repeat refine vs ?_
  conv => whnf
  refine CallS.mk _ rfl true true _ (hp l[i] (List.getElem_mem hlt)) rfl ?_
  repeat refine vs ?_
  conv => whnf
  cases hpi : p l[i]
  ·repeat refine vs ?_
   conv => whnf
   refine ⟨i + 1, by omega, ⟨by omega, fun j h hj => ?_⟩, ?_⟩
   ·by_cases e : j = i
    ·subst e; exact hpi
    ·exact hall j h (by omega)
   ·exact Wk.fg
  ·repeat refine vs ?_
   conv => whnf
   have : l.findIdx? p = some i := by
    rw [List.findIdx?_eq_some_iff_getElem]
    exact ⟨hlt, hpi, fun j hj => by simp [hall j (by omega) hj]⟩
   exact ⟨by simp [toRes, this], rfl⟩
 ·repeat refine vs ?_
  conv => whnf
  have : l.findIdx? p = none := by
   rw [List.findIdx?_eq_none_iff]
   intro x hx
   obtain ⟨j, hj, rfl⟩ := List.getElem_of_mem hx
   exact hall j hj (by omega)
  exact ⟨by simp [toRes, this], rfl⟩

theorem containsFunc_den (l : List Int) (hl : l.length ≤ 1000000000000) (f : FuncId) (p : Int → Bool) (hp : ∀ x ∈ l, D f [iP x] true (.one (bP (p x)))) :
  D 195 [lP l, fP f] true (.one (bP (l.any p))) := by
 refine go Tryz.func195 rfl rfl ?_
 repeat refine vs ?_
 conv => whnf
 refine CallS.mk _ rfl true true _ (indexFunc_den l hl f p hp) rfl ?_
 repeat refine vs ?_
 conv => whnf
 cases h : l.findIdx? p with
 | none =>
  have : l.any p = false := by
   rw [List.findIdx?_eq_none_iff] at h
   rw [List.any_eq_false]
   intro x hx
   simp [h x hx]
  repeat refine vs ?_
  conv => whnf
  exact ⟨by simp [toRes, this], rfl⟩
 | some i =>
  have : l.any p = true := by
   rw [List.findIdx?_eq_some_iff_getElem] at h
   obtain ⟨h1, h2, _⟩ := h
   rw [List.any_eq_true]
   exact ⟨_, List.getElem_mem h1, h2⟩
  repeat refine vs ?_
  conv => whnf
  exact ⟨by simp [toRes, this], rfl⟩

theorem good1_den (x : Int) : D 196 [iP x] true (.one (bP (!decide (0 ≤ x ∧ x ≤ 65535)))) := by
 refine go Tryz.func196 rfl rfl ?_
 repeat refine vs ?_
 conv => whnf
 refine CallS.mk _ rfl true true _ (within_den x 0 65535) rfl ?_
 repeat refine vs ?_
 conv => whnf
 refine Bo.mk _ rfl ?_
 repeat refine vs ?_
 conv => whnf
 first | rfl | exact ⟨rfl, rfl⟩ | exact ⟨by simp [toRes], rfl⟩

theorem goodI_den (neg : Bool) (l : List Int) (hl : l.length ≤ 1000000000000) : D 186 [rawV neg l] true (.one (bP (goodB neg l))) := by
 refine go Tryz.func186 rfl rfl ?_
 repeat refine vs ?_
 conv => whnf
 by_cases h40 : (l.length : Int) > 40
 ·rw [goodB_false (fun h => by have := h.2.1; omega)]
  repeat refine vs ?_
  conv => whnf
  first | rfl | exact ⟨rfl, rfl⟩ | exact ⟨by simp [toRes], rfl⟩
 ·by_cases h0 : l = []
  ·subst h0
   cases neg
   ·rw [goodB_true ⟨Lm.Can.nil, by simp, fun _ => rfl⟩]
    repeat refine vs ?_
    conv => whnf
    refine CallS.mk _ rfl true true _ (containsFunc_den [] (by simp) 196 (fun x => !decide (0 ≤ x ∧ x ≤ 65535)) (fun x _ => good1_den x)) rfl ?_
    repeat refine vs ?_
    conv => whnf
    first | rfl | exact ⟨rfl, rfl⟩ | exact ⟨by simp [toRes], rfl⟩
   ·rw [goodB_false (fun h => by cases h.2.2 rfl)]
    repeat refine vs ?_
    conv => whnf
    first | rfl | exact ⟨rfl, rfl⟩ | exact ⟨by simp [toRes], rfl⟩
  ·have hpos := List.length_pos_iff.2 h0
   have hlast : l[l.length - 1]? = some l[l.length - 1] := List.getElem?_eq_getElem (by omega)
   repeat refine vs ?_
   conv => whnf
   first | refine Idx.mk ((l.length - 1)) (by first | rfl | omega) (by omega) ?_ | skip
   repeat refine vs ?_
   conv => whnf
   first | refine LdI.mk (_) (hlast) ?_ | skip
   repeat refine vs ?_
   conv => whnf
   by_cases hz : l[l.length - 1] = 0
   ·rw [goodB_false (fun h => (Lm.can_last h.1.1 hpos).1 h.1 hz)]
    repeat refine vs ?_
    conv => whnf
    first | rfl | exact ⟨rfl, rfl⟩ | exact ⟨by simp [toRes], rfl⟩
   ·repeat refine vs ?_
    conv => whnf
    refine CallS.mk _ rfl true true _ (containsFunc_den l hl 196 (fun x => !decide (0 ≤ x ∧ x ≤ 65535)) (fun x _ => good1_den x)) rfl ?_
    repeat refine vs ?_
    conv => whnf
    refine Bo.mk _ rfl ?_
    repeat refine vs ?_
    conv => whnf
    refine ⟨?_, rfl⟩
    by_cases hd : Lm.Dig l
    ·rw [goodB_true ⟨(Lm.can_last hd hpos).2 hz, by omega, fun e => absurd e h0⟩]
     rw [Lm.dig_dec] at hd
     have : (l.any fun x => !decide (0 ≤ x ∧ x ≤ 65535)) = false := by
      rw [List.any_eq_false]
      intro x hx
      simp [hd x hx]
     rw [this]
     rfl
    ·rw [goodB_false (fun h => hd h.1.1)]
     rw [Lm.dig_dec] at hd
     have : (l.any fun x => !decide (0 ≤ x ∧ x ≤ 65535)) = true := by
      rw [List.any_eq_true]
      obtain ⟨x, hx⟩ := Classical.not_forall.1 hd
      obtain ⟨h1, h2⟩ := Classical.not_imp.1 hx
      exact ⟨x, h1, by simp at h2 ⊢; omega⟩
     rw [this]
     rfl

theorem goodS_den (neg : Bool) (l : List Int) (hl : l.length ≤ 1000000000000) : D 100 [rawV neg l] true (.one (bP (goodB neg l))) := by
 refine go Tryz.func100 rfl rfl ?_
 repeat refine vs ?_
 conv => whnf
 refine EVs.loopU (fun i : Nat => i ≤ l.length ∧ ∀ (j : Nat) (h : j < l.length), j < i → 0 ≤ l[j] ∧ l[j] ≤ 65535) (fun i => l.length - i) (fun i => [(9, .v false [.p (.int .i64 (i : Int))])]) 0 ⟨by omega, fun j h hj => by omega⟩ (Wk.refl _) ?_
 rintro i ⟨hi, hall⟩
 refine go1 ?_
 repeat refine vs ?_
 conv => whnf
 by_cases h1 : (i : Int) < l.length
 ·have hlt : i < l.length := by omega
  repeat refine vs ?_
  conv => whnf
  first | refine Idx.mk (i) (by first | rfl | omega) (by omega) ?_ | skip
  repeat refine vs ?_
  conv => whnf
  first | refine LdI.mk (l[i]) (List.getElem?_eq_getElem hlt) ?_ | skip
  repeat refine vs ?_
  conv => whnf
  refine CallS.mk _ rfl true true _ (l1In_den l[i] 0 65535) rfl ?_
  repeat refine vs ?_
  conv => whnf
  by_cases hb : 0 ≤ l[i] ∧ l[i] ≤ 65535
  ·rw [decide_eq_true hb]
   repeat refine vs ?_
   conv => whnf
   refine ⟨i + 1, by omega, ⟨by omega, fun j h hj => ?_⟩, ?_⟩
   ·by_cases e : j = i
    ·subst e; exact hb
    ·exact hall j h (by omega)
   ·exact Wk.fg
  ·rw [decide_eq_false hb]
   repeat refine vs ?_
   conv => whnf
   rw [goodB_false (fun h => hb (by have := h.1.1 l[i] (List.getElem_mem hlt); omega))]
   first | rfl | exact ⟨rfl, rfl⟩ | exact ⟨by simp [toRes], rfl⟩
 ·have hd : Lm.Dig l := by
   rw [Lm.dig_dec]
   intro x hx
   obtain ⟨j, hj, rfl⟩ := List.getElem_of_mem hx
   exact hall j hj (by omega)
  by_cases h0 : l = []
  ·subst h0
   repeat refine vs ?_
   conv => whnf
   cases neg
   ·rw [goodB_true ⟨Lm.Can.nil, by simp, fun _ => rfl⟩]
    repeat refine vs ?_
    conv => whnf
    first | rfl | exact ⟨rfl, rfl⟩ | exact ⟨by simp [toRes], rfl⟩
   ·rw [goodB_false (fun h => by cases h.2.2 rfl)]
    repeat refine vs ?_
    conv => whnf
    first | rfl | exact ⟨rfl, rfl⟩ | exact ⟨by simp [toRes], rfl⟩
  ·have hpos := List.length_pos_iff.2 h0
   have hlast : l[l.length - 1]? = some l[l.length - 1] := List.getElem?_eq_getElem (by omega)
   by_cases h40 : (l.length : Int) ≤ 40
   ·repeat refine vs ?_
    conv => whnf
    first | refine Idx.mk ((l.length - 1)) (by first | rfl | omega) (by omega) ?_ | skip
    repeat refine vs ?_
    conv => whnf
    first | refine LdI.mk (_) (hlast) ?_ | skip
    repeat refine vs ?_
    conv => whnf
    by_cases hz : l[l.length - 1] ≠ 0
    ·rw [goodB_true ⟨(Lm.can_last hd hpos).2 hz, by omega, fun e => absurd e h0⟩]
     repeat refine vs ?_
     conv => whnf
     first | rfl | exact ⟨rfl, rfl⟩ | exact ⟨by simp [toRes], rfl⟩
    ·rw [goodB_false (fun h => hz ((Lm.can_last hd hpos).1 h.1))]
     repeat refine vs ?_
     conv => whnf
     first | rfl | exact ⟨rfl, rfl⟩ | exact ⟨by simp [toRes], rfl⟩
   ·rw [goodB_false (fun h => by have := h.2.1; omega)]
    repeat refine vs ?_
    conv => whnf
    first | rfl | exact ⟨rfl, rfl⟩ | exact ⟨by simp [toRes], rfl⟩
end Go.Vx
end
