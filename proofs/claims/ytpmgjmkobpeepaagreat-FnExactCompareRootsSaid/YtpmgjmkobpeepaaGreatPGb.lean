/- P5, P6, P7, P8, P9 -/
import Derived.Test.YtpmgjmkobpeepaaGreatPGa
import Derived.Test.YtpmgjmkobpeepaaGreatVGg
set_option linter.unusedVariables false
set_option linter.unusedSectionVars false
set_option linter.unusedSimpArgs false
section
/- Chapter 4: polynomials without zeros at the end; results that own their limbs. -/
namespace Go.Vx
open Go.Proofs
set_option maxRecDepth 100000

/-- nil, as an empty array that is owned. -/
def FV.nilTo (d : Lf) : FV → FV
 | .v false [.nil] => .v false [d]
 | x => x
def modT : Nat → (FV → FV) → List FV → List FV
 | _, _, [] => []
 | 0, g, f :: T => g f :: T
 | n + 1, g, f :: T => f :: modT n g T
theorem modT_le {g : FV → FV} (hg : ∀ f, LeF f (g f)) : ∀ {n : Nat} {T : List FV}, All2 LeF T (modT n g T)
 | _, [] => by cases ‹Nat› <;> exact True.intro
 | 0, f :: T => ⟨hg f, All2.refl' T⟩
 | n + 1, f :: T => ⟨fun _ _ _ _ h => h, modT_le hg⟩
where All2.refl' : ∀ (T : List FV), All2 LeF T T
 | [] => True.intro
 | _ :: T => ⟨fun _ _ _ _ h => h, All2.refl' T⟩
theorem nilTo_le {d : Lf} (hd : ∀ F β w, RLf F β w d (.slice none 0 0)) (f : FV) : LeF f (f.nilTo d) := fun F β w v h => by
 unfold FV.nilTo
 split
 ·obtain ⟨x, hx, h⟩ := h
  cases hx
  have h : v = .slice none 0 0 := h
  subst h
  exact ⟨_, rfl, hd F β w⟩
 ·exact h
theorem EVs.nilP (n : Nat) {P : Program} {c : Code} {T : List FV} {K : Ex → List FV → Prop} (h : EVs P c T fun e T' => fT (modT n (FV.nilTo (.p (.arr 4 []))) T') (K e)) : EVs P c T K := by
 refine EVs.post (h.mono fun e T' hk => ?_)
 rw [fT_eq] at hk
 exact ⟨_, Wk.le (modT_le (nilTo_le (d := .p (.arr 4 [])) fun F β w => ⟨none, 0, rfl, Nat.le_refl _, by simp, .inl rfl⟩)), hk⟩

theorem goP (n : Nat) {g : FuncId} {fn : Func} {c : Code} {ps : List PV} {fl : Bool} {r : Res} (hf : Tryz.prog.funcs[g]? = some fn) (hname : (fn.name == "runtime.NumGoroutine") = false)
  (hb : fn.body = some c) (hev : fT (init fn.ntmps ps) fun T => evF Γ 3 D Tryz.prog c T fun e T' => fT (modT n (FV.nilTo (.p (.arr 4 []))) T') (retK Γ 3 fn.results.toList fl r e)) : D g ps fl r :=
 den_intro mixed tabΓ hf hname hb (EVs.nilP n (ev_sound mixed tabΓ (fun _ _ _ _ h => h) (fun _ _ _ _ h => h) (fun _ _ _ _ _ _ h => h) (fun _ _ _ _ _ h => h) c (evF_le c (by rw [fT_eq] at hev; exact hev))))

/-- Without the zeros at the end. -/
def trimF (fs : List (Int × Int)) : List (Int × Int) := (fs.reverse.dropWhile fun f => decide (f.1 = 0)).reverse
theorem trimF_snoc (fs : List (Int × Int)) (f : Int × Int) : trimF (fs ++ [f]) = if f.1 = 0 then trimF fs else fs ++ [f] := by
 unfold trimF
 rw [List.reverse_append, List.reverse_singleton, List.singleton_append, List.dropWhile_cons]
 by_cases h : f.1 = 0
 ·rw [if_pos (by simpa using h), if_pos h]
 ·rw [if_neg (by simpa using h), if_neg h]
  simp
theorem trimF_nil : trimF [] = [] := rfl
theorem trimF_sub {fs : List (Int × Int)} : ∀ {f : Int × Int}, f ∈ trimF fs → f ∈ fs := by
 intro f hf
 unfold trimF at hf
 rw [List.mem_reverse] at hf
 have := (List.dropWhile_sublist _).subset hf
 simpa using this
theorem trimF_len (fs : List (Int × Int)) : (trimF fs).length ≤ fs.length := by
 unfold trimF
 rw [List.length_reverse]
 have := (List.dropWhile_sublist (fun f : Int × Int => decide (f.1 = 0)) (l := fs.reverse)).length_le
 simpa using this
theorem trimF_last (fs : List (Int × Int)) : ∀ f, (trimF fs).getLast? = some f → f.1 ≠ 0 := by
 intro f hf h0
 unfold trimF at hf
 rw [List.getLast?_reverse] at hf
 have := List.head?_dropWhile_not (fun f : Int × Int => decide (f.1 = 0)) fs.reverse
 rw [hf] at this
 simp [h0] at this
theorem trimF_id {fs : List (Int × Int)} (h : ∀ f, fs.getLast? = some f → f.1 ≠ 0) : trimF fs = fs := by
 rcases List.eq_nil_or_concat fs with rfl | ⟨l, f, rfl⟩
 ·rfl
 ·rw [List.concat_eq_append] at h ⊢
  rw [trimF_snoc, if_neg (h f (by simp))]
theorem trim_den (fs : List (Int × Int)) (hl : fs.length ≤ 1000000) (hq : ∀ f ∈ fs, okF 1000000000 f) : D 96 [(false, [.arr 4 (fs.map cellR)])] false (.one (false, [.arr 4 ((trimF fs).map cellR)])) := by
 have hrl : (fs.map cellR).length = fs.length := by simp
 refine go Tryz.func96 rfl rfl ?_
 repeat refine vs ?_
 conv => whnf
 refine EVs.loopU (fun n : Nat => n ≤ fs.length ∧ trimF (fs.take n) = trimF fs) (fun n => n) (fun n => [(3, .v false [.p (.int .i64 (n : Int))])]) fs.length ⟨by omega, by rw [List.take_length]⟩ ?_ ?_
 ·rw [hrl]
  exact Wk.fg
 rintro n ⟨hn, hinv⟩
 refine go1 ?_
 repeat refine vs ?_
 conv => whnf
 by_cases h0 : (n : Int) > 0
 ·have hlt : n - 1 < fs.length := by omega
  have hc := hq fs[n - 1] (List.getElem_mem hlt)
  have hget : (fs.map cellR)[n - 1]? = some (cellR fs[n - 1]) := by rw [List.getElem?_map, List.getElem?_eq_getElem hlt]; rfl
  have ht : fs.take n = fs.take (n - 1) ++ [fs[n - 1]] := by
   have := List.take_succ_eq_append_getElem hlt
   rwa [show n - 1 + 1 = n by omega] at this
  rw [ht, trimF_snoc] at hinv
  generalize hcc : fs[n - 1] = c at *
  have dS := ratSign_den c.1 c.2 (Nat.le_trans hc.2.1 (by omega))
  repeat refine vs ?_
  conv => whnf
  first | refine Idx.mk (n - 1) (by first | rfl | omega) (by omega) ?_ | skip
  repeat refine vs ?_
  conv => whnf
  refine LdR.mk (cellR c) hget ?_
  repeat refine vs ?_
  conv => whnf
  refine CallS.mk _ rfl true true _ (dS) rfl ?_
  by_cases hz : c.1 = 0
  ·have h2 : cmpI c.1 0 = 0 := by rw [hz]; rfl
   rw [if_pos hz] at hinv
   repeat refine vs ?_
   conv => whnf
   refine ⟨n - 1, by omega, ⟨by omega, hinv⟩, ?_⟩
   rw [show (n : Int) - 1 = ((n - 1 : Nat) : Int) by omega]
   exact Wk.fg
  ·have h2 : ¬ cmpI c.1 0 = 0 := by rcases cmpI_sgn c.1 with h | h | h <;> omega
   rw [if_neg hz, ← ht] at hinv
   repeat refine vs ?_
   conv => whnf
   refine SubK.mk (0) (n) (by first | rfl | (show _ = _; omega)) (by first | rfl | (show _ = _; omega)) (by omega) (by omega) ?_
   repeat refine vs ?_
   conv => whnf
   have hs : ((fs.map cellR).take n).drop 0 = (trimF fs).map cellR := by rw [← hinv]; simp [List.map_take]
   rw [hs]
   first | rfl | exact ⟨rfl, rfl⟩ | exact ⟨by simp [toRes], rfl⟩
 ·have h1 : n = 0 := by omega
  subst h1
  repeat refine vs ?_
  conv => whnf
  refine SubK.mk (0) (0) (by first | rfl | (show _ = _; omega)) (by first | rfl | (show _ = _; omega)) (by omega) (by omega) ?_
  repeat refine vs ?_
  conv => whnf
  have hs : ((fs.map cellR).take 0).drop 0 = (trimF fs).map cellR := by rw [← hinv]; simp [trimF_nil]
  rw [hs]
  first | rfl | exact ⟨rfl, rfl⟩ | exact ⟨by simp [toRes], rfl⟩

theorem l4Cut_den (fs : List (Int × Int)) (hl : fs.length ≤ 1000000) (hq : ∀ f ∈ fs, okF 1000000000 f) : D 52 [(false, [.arr 4 (fs.map cellR)])] false (.one (false, [.arr 4 ((trimF fs).map cellR)])) := by
 refine go Tryz.func52 rfl rfl ?_
 repeat refine vs ?_
 conv => whnf
 refine EVs.loopU (fun n : Nat => n ≤ fs.length ∧ trimF (fs.take n) = trimF fs) (fun n => n) (fun n => [(0, .v false [.p (.arr 4 ((fs.take n).map cellR))])]) fs.length ⟨by omega, by rw [List.take_length]⟩ ?_ ?_
 ·rw [List.take_length]
  exact Wk.fg
 rintro n ⟨hn, hinv⟩
 have hrl : ((fs.take n).map cellR).length = n := by simp; omega
 refine go1 ?_
 repeat refine vs ?_
 conv => whnf
 by_cases h0 : (((fs.take n).map cellR).length : Int) > 0
 ·have hlt : n - 1 < fs.length := by omega
  have hc := hq fs[n - 1] (List.getElem_mem hlt)
  have hget : ((fs.take n).map cellR)[n - 1]? = some (cellR fs[n - 1]) := by rw [List.getElem?_map, List.getElem?_take, if_pos (by omega), List.getElem?_eq_getElem hlt]; rfl
  have ht : fs.take n = fs.take (n - 1) ++ [fs[n - 1]] := by
   have := List.take_succ_eq_append_getElem hlt
   rwa [show n - 1 + 1 = n by omega] at this
  have hinv0 := hinv
  rw [ht, trimF_snoc] at hinv
  generalize hcc : fs[n - 1] = c at *
  have dZ := l4Zero_den (decide (c.1 < 0)) (Lm.lim c.1.natAbs) (decide (c.2 < 0)) (Lm.lim c.2.natAbs) (Nat.le_trans hc.2.1 (by omega))
  have hzz : (Lm.lim c.1.natAbs = []) ↔ c.1 = 0 := by rw [Lm.lim_eq_nil]; omega
  repeat refine vs ?_
  conv => whnf
  first | refine Idx.mk (n - 1) (by first | rfl | omega) (by omega) ?_ | skip
  repeat refine vs ?_
  conv => whnf
  refine LdR.mk (cellR c) hget ?_
  repeat refine vs ?_
  conv => whnf
  refine CallS.mk _ rfl true true _ (dZ) rfl ?_
  by_cases hz : c.1 = 0
  ·have hd : decide (Lm.lim c.1.natAbs = []) = true := decide_eq_true (hzz.2 hz)
   rw [if_pos hz] at hinv
   repeat refine vs ?_
   conv => whnf
   refine SubK.mk (0) ((n - 1)) (by first | rfl | (show _ = _; omega)) (by first | rfl | (show _ = _; omega)) (by omega) (by omega) ?_
   repeat refine vs ?_
   conv => whnf
   have hs : (((fs.take n).map cellR).take (n - 1)).drop 0 = (fs.take (n - 1)).map cellR := by rw [List.drop_zero, ← List.map_take, List.take_take, Nat.min_eq_left (by omega)]
   rw [hs]
   refine ⟨n - 1, by omega, ⟨by omega, hinv⟩, ?_⟩
   exact Wk.fg
  ·have hd : decide (Lm.lim c.1.natAbs = []) = false := decide_eq_false (fun e => hz (hzz.1 e))
   rw [if_neg hz, ← ht] at hinv
   rw [← hinv]
   repeat refine vs ?_
   conv => whnf
   refine NewK.mk true ?_
   repeat refine vs ?_
   conv => whnf
   refine NewK.mk false ?_
   repeat refine vs ?_
   conv => whnf
   first | rfl | exact ⟨rfl, rfl⟩ | exact ⟨by simp [toRes], rfl⟩
 ·have h1 : n = 0 := by omega
  subst h1
  rw [← hinv]
  repeat refine vs ?_
  conv => whnf
  refine NewK.mk true ?_
  repeat refine vs ?_
  conv => whnf
  refine NewK.mk false ?_
  repeat refine vs ?_
  conv => whnf
  first | rfl | exact ⟨rfl, rfl⟩ | exact ⟨by simp [toRes], rfl⟩

end Go.Vx
end
section
/- DerivePoly and AddPoly. -/
namespace Go.Vx
open Go.Proofs
set_option maxRecDepth 100000

theorem take_cellR {fs : List (Int × Int)} {i : Nat} (h : i < fs.length) : (fs.take (i + 1)).map cellR = (fs.take i).map cellR ++ [cellR fs[i]] := by
 rw [List.take_succ_eq_append_getElem h, List.map_append]
 rfl
/-- The derivative: the members times their indices, from i on. -/
def derF : Nat → List (Int × Int) → List (Int × Int)
 | _, [] => []
 | i, f :: l => mulR f ((i : Int), 1) :: derF (i + 1) l
def derivF (fs : List (Int × Int)) : List (Int × Int) := derF 1 (fs.drop 1)
theorem derF_len : ∀ {l : List (Int × Int)} {i : Nat}, (derF i l).length = l.length
 | [], _ => rfl
 | f :: l, i => by simp [derF, derF_len]
theorem derF_get : ∀ {l : List (Int × Int)} {i j : Nat} (h : j < l.length), (derF i l)[j]? = some (mulR l[j] (((i + j : Nat) : Int), 1))
 | f :: l, i, 0, _ => by simp [derF]
 | f :: l, i, j + 1, h => by
  simp only [derF, List.getElem?_cons_succ, List.getElem_cons_succ]
  rw [derF_get (by simpa using h)]
  rw [show i + 1 + j = i + (j + 1) by omega]
theorem derivF_take {fs : List (Int × Int)} {i : Nat} (h1 : 1 ≤ i) (h : i < fs.length) : (derivF fs).take i = (derivF fs).take (i - 1) ++ [mulR fs[i] ((i : Int), 1)] := by
 have hl : (derivF fs).length = fs.length - 1 := by unfold derivF; rw [derF_len, List.length_drop]
 have hg : (derivF fs)[i - 1]? = some (mulR fs[i] ((i : Int), 1)) := by
  unfold derivF
  rw [derF_get (by rw [List.length_drop]; omega)]
  simp only [List.getElem_drop]
  congr 3
  ·congr 1; omega
  ·omega
 have hlt : i - 1 < (derivF fs).length := by omega
 have := List.take_succ_eq_append_getElem hlt
 rw [show i - 1 + 1 = i by omega] at this
 rw [this]
 rw [List.getElem?_eq_getElem hlt] at hg
 rw [Option.some.inj hg]
theorem derF_ok {M : Nat} : ∀ {l : List (Int × Int)} {i : Nat}, (i + l.length : Nat) ≤ 1000000 → (∀ f ∈ l, okF M f) → ∀ f ∈ derF i l, okF (M + 4) f
 | [], _, _, _, f, h => by cases h
 | g :: l, i, hi, hl, f, h => by
  rcases List.mem_cons.1 h with rfl | h
  ·exact mulR_ok (hl g List.mem_cons_self) (whole_R (i : Int) (by omega) (by simp at hi; omega))
  ·exact derF_ok (by simp at hi; omega) (fun d hd => hl d (List.mem_cons_of_mem _ hd)) f h

section
variable (fs : List (Int × Int)) (hl : fs.length ≤ 100) (hq : ∀ f ∈ fs, okF 100000000 f)
include hl hq
theorem derived_den : D 115 [(false, [.arr 4 (fs.map cellR)])] false (.one (false, [.arr 4 ((derivF fs).map cellR)])) := by
 have hrl : (fs.map cellR).length = fs.length := by simp
 have hdl : (derivF fs).length = fs.length - 1 := by unfold derivF; rw [derF_len, List.length_drop]
 refine go Tryz.func115 rfl rfl ?_
 repeat refine vs ?_
 conv => whnf
 refine NewK.mk true ?_
 repeat refine vs ?_
 conv => whnf
 refine EVs.loopU (fun i : Nat => 1 ≤ i ∧ (i ≤ fs.length ∨ i = 1)) (fun i => fs.length - i) (fun i => [(3, .v false [.own (50, 0) 41 (.arr 4 (((derivF fs).take (i - 1)).map cellR))]), (4, .v false [.p (.int .i64 (i : Int))]), (5, .any)]) 1 (by omega) ?_ ?_
 ·refine Wk.trans (Wk.ren (5, 0) (50, 0)) ?_
  exact Wk.fg
 rintro i ⟨hi1, hi⟩
 refine go1 ?_
 repeat refine vs ?_
 conv => whnf
 by_cases h1 : (i : Int) < (fs.map cellR).length
 ·have hlt : i < fs.length := by omega
  have hc := hq fs[i] (List.getElem_mem hlt)
  have hget : (fs.map cellR)[i]? = some (cellR fs[i]) := by rw [List.getElem?_map, List.getElem?_eq_getElem hlt]; rfl
  have htk := derivF_take hi1 hlt
  generalize fs[i] = c at *
  have dM := mulR_I (a := c) (b := ((i : Int), 1)) (hc.mono (by omega)) ((whole_R (i : Int) (by omega) (by omega)).mono (by omega))
  have dW := whole_den (i : Int) (by omega) (by omega)
  generalize mulR c ((i : Int), 1) = m at *
  have hrow : ((derivF fs).take (i - 1)).map cellR ++ [[.bool (decide (m.1 < 0)), .ints (Lm.lim m.1.natAbs), .bool (decide (m.2 < 0)), .ints (Lm.lim m.2.natAbs)]] = ((derivF fs).take (i + 1 - 1)).map cellR := by
   rw [Nat.add_sub_cancel, htk, List.map_append]
   rfl
  repeat refine vs ?_
  conv => whnf
  first | refine Idx.mk (i) (by first | rfl | omega) (by omega) ?_ | skip
  repeat refine vs ?_
  conv => whnf
  refine LdR.mk (cellR c) hget ?_
  repeat refine vs ?_
  conv => whnf
  refine CallS.mk _ rfl true false _ (dW) rfl ?_
  repeat refine vs ?_
  conv => whnf
  refine CallS.mk _ rfl true false _ (dM) rfl ?_
  repeat refine vs ?_
  conv => whnf
  refine NewK.mk false ?_
  repeat refine vs ?_
  conv => whnf
  refine ⟨by simp only [PL.len, List.length_map, List.length_take, List.length_singleton]; omega, ?_⟩
  repeat refine vs ?_
  conv => whnf
  refine NewK.mk true ?_
  repeat refine vs ?_
  conv => whnf
  rw [hrow]
  refine ⟨i + 1, by omega, by omega, ?_⟩
  exact Wk.fg
 ·repeat refine vs ?_
  conv => whnf
  have ht : (derivF fs).take (i - 1) = derivF fs := List.take_of_length_le (by omega)
  rw [ht]
  first | rfl | exact ⟨rfl, rfl⟩ | exact ⟨by simp [toRes], rfl⟩
theorem l4Derive_den : D 114 [(false, [.arr 4 (fs.map cellR)])] false (.one (false, [.arr 4 ((trimF (derivF fs)).map cellR)])) := by
 have hrl : (fs.map cellR).length = fs.length := by simp
 have hdl : (derivF fs).length = fs.length - 1 := by unfold derivF; rw [derF_len, List.length_drop]
 have hdo : ∀ f ∈ derivF fs, okF 1000000000 f := fun f hf => (derF_ok (M := 100000000) (l := fs.drop 1) (i := 1) (by rw [List.length_drop]; omega) (fun g hg => hq g (List.mem_of_mem_drop hg)) f hf).mono (by omega)
 have dC := l4Cut_den (derivF fs) (by omega) hdo
 refine go Tryz.func114 rfl rfl ?_
 repeat refine vs ?_
 conv => whnf
 refine EVs.un (50, 0) ?_
 refine EVs.loopU (fun i : Nat => 1 ≤ i ∧ (i ≤ fs.length ∨ i = 1)) (fun i => fs.length - i) (fun i => [(3, .v false [.own (50, 0) 41 (.arr 4 (((derivF fs).take (i - 1)).map cellR))]), (4, .v false [.p (.int .i64 (i : Int))])]) 1 (by omega) ?_ ?_
 ·exact Wk.fg
 rintro i ⟨hi1, hi⟩
 refine go1 ?_
 repeat refine vs ?_
 conv => whnf
 by_cases h1 : (i : Int) < (fs.map cellR).length
 ·have hlt : i < fs.length := by omega
  have hc := hq fs[i] (List.getElem_mem hlt)
  have hget : (fs.map cellR)[i]? = some (cellR fs[i]) := by rw [List.getElem?_map, List.getElem?_eq_getElem hlt]; rfl
  have htk := derivF_take hi1 hlt
  generalize fs[i] = c at *
  have dM := mulR_S (a := c) (b := ((i : Int), 1)) (hc.mono (by omega)) ((whole_R (i : Int) (by omega) (by omega)).mono (by omega))
  have dW := l2Int_den (i : Int) (by omega) (by omega)
  generalize mulR c ((i : Int), 1) = m at *
  have hrow : ((derivF fs).take (i - 1)).map cellR ++ [[.bool (decide (m.1 < 0)), .ints (Lm.lim m.1.natAbs), .bool (decide (m.2 < 0)), .ints (Lm.lim m.2.natAbs)]] = ((derivF fs).take (i + 1 - 1)).map cellR := by
   rw [Nat.add_sub_cancel, htk, List.map_append]
   rfl
  repeat refine vs ?_
  conv => whnf
  first | refine Idx.mk (i) (by first | rfl | omega) (by omega) ?_ | skip
  repeat refine vs ?_
  conv => whnf
  refine LdR.mk (cellR c) hget ?_
  repeat refine vs ?_
  conv => whnf
  refine CallS.mk _ rfl true false _ (dW) rfl ?_
  repeat refine vs ?_
  conv => whnf
  refine CallS.mk _ rfl true false _ (dM) rfl ?_
  repeat refine vs ?_
  conv => whnf
  refine NewK.mk false ?_
  repeat refine vs ?_
  conv => whnf
  refine ⟨by simp only [PL.len, List.length_map, List.length_take, List.length_singleton]; omega, ?_⟩
  repeat refine vs ?_
  conv => whnf
  refine NewK.mk true ?_
  repeat refine vs ?_
  conv => whnf
  rw [hrow]
  refine ⟨i + 1, by omega, by omega, ?_⟩
  exact Wk.fg
 ·have ht : (derivF fs).take (i - 1) = derivF fs := List.take_of_length_le (by omega)
  rw [ht]
  repeat refine vs ?_
  conv => whnf
  refine CallS.mk _ rfl false false _ (dC) rfl ?_
  repeat refine vs ?_
  conv => whnf
  first | rfl | exact ⟨rfl, rfl⟩ | exact ⟨by simp [toRes], rfl⟩
end
theorem shortP.big {rs : List RawQ} (hrs : shortP 1048576 rs) : shortP 1000000000000 rs := ⟨Nat.le_trans hrs.1 (by decide), fun r hr => ⟨Nat.le_trans (hrs.2 r hr).1 (by decide), Nat.le_trans (hrs.2 r hr).2 (by decide)⟩⟩
end Go.Vx
end
section
/- AddPoly: sums of polynomials. -/
namespace Go.Vx
open Go.Proofs
set_option maxRecDepth 100000

/-- Lowest terms, whatever the size. -/
def low (f : Int × Int) : Prop := 0 < f.2 ∧ Int.gcd f.1 f.2 = 1
end Go.Vx
end
