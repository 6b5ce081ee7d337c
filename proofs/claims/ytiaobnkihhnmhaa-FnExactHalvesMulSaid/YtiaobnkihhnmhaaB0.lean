/- The seat: its types; how a function's fact is begun. -/
import Derived.Test.YtiaobnkihhnmhaaVxG
import Derived.Test.YtiaobnkihhnmhaaLm
import Derived.Test.YtiaobnkihhnmhaaProg
namespace Go.Vx
open Go.Proofs

abbrev tInt : TypeId := 3
def Γ : Tab := { rows := [⟨27, .agg 2 [(0, none), (1, none)], [.p (.bool false), .nil]⟩, ⟨24, .agg 2 [(0, none), (1, none)], [.p (.bool false), .nil]⟩, ⟨4, .bool, [.p (.bool false)]⟩, ⟨22, .ints, [.nil]⟩, ⟨3, .int .i64, [.p (.int .i64 0)]⟩,
  ⟨62, .slice 27 2 32, [.nil]⟩,
  ⟨70, .int .u64, [.p (.int .u64 0)]⟩,
  ⟨48, .int .u64, [.p (.int .u64 0)]⟩]
                 muts := [46, 20, 99999999, 99999999, 93, 94, 55, 99999999]
                 md := DenM Try.prog 3 }
theorem tabΓ : tabB Try.prog 3 Γ = true := by kernel_rfl
theorem mixed : Try.prog.follows .mixedOrders = true := by kernel_rfl
abbrev D := DenS Try.prog 3

theorem go {g : FuncId} {fn : Func} {c : Code} {ps : List PV} {fl : Bool} {r : Res} (hf : Try.prog.funcs[g]? = some fn) (hname : (fn.name == "runtime.NumGoroutine") = false)
    (hb : fn.body = some c) (hev : fT (init fn.ntmps ps) fun T => evF Γ 3 D Try.prog c T (retK Γ 3 fn.results.toList fl r)) : D g ps fl r :=
  den_intro mixed tabΓ hf hname hb (ev_sound mixed tabΓ (fun _ _ _ _ h => h) (fun _ _ _ _ h => h) c (evF_le c (by rw [fT_eq] at hev; exact hev)))
abbrev Dm := DenM Try.prog 3
theorem goM {g : FuncId} {fn : Func} {c : Code} {ps qs : List PV} {r : MRes} (hf : Try.prog.funcs[g]? = some fn) (hname : (fn.name == "runtime.NumGoroutine") = false)
    (hb : fn.body = some c) (hev : fT (initM 3 fn.ntmps ps) fun T => evF Γ 3 D Try.prog c T (retKM Γ 3 fn.results.toList ps qs r)) : Dm g ps qs r :=
  den_introM tabΓ hf hname hb (ev_sound mixed tabΓ (fun _ _ _ _ h => h) (fun _ _ _ _ h => h) c (evF_le c (by rw [fT_eq] at hev; exact hev)))
theorem go1 {c : Code} {T : List FV} {K : Ex → List FV → Prop} (h : fT T fun T => evF Γ 3 D Try.prog c T K) : EVs Try.prog c T K := ev_sound mixed tabΓ (fun _ _ _ _ h => h) (fun _ _ _ _ h => h) c (evF_le c (by rw [fT_eq] at h; exact h))

abbrev iP (z : Int) : PV := (false, [.int .i64 z])
abbrev bP (b : Bool) : PV := (false, [.bool b])
abbrev lP (l : List Int) : PV := (false, [.ints l])
/-- Results of calls that write their arguments' arrays. -/
abbrev rI (z : Int) : Bool × List RL := (false, [.p (.int .i64 z)])
abbrev rB (b : Bool) : Bool × List RL := (false, [.p (.bool b)])
abbrev fP (f : FuncId) : PV := (false, [.fn f])
/-- A Big of a sign and limbs. -/
abbrev rawV (neg : Bool) (l : List Int) : PV := (true, [.bool neg, .ints l])
/-- The Big of a number. -/
abbrev bigV (x : Int) : PV := rawV (decide (x < 0)) (Lm.lim x.natAbs)
end Go.Vx
