/- Numbers as texts. -/
import Derived.Test.YthholhhohlnlnaaDoorX1
import Derived.Test.YthholhhohlnlnaaDoorBGe
import Derived.Test.YthholhhohlnlnaaDoorBGf
import Derived.Test.YthholhhohlnlnaaDoorBGb
set_option linter.unusedVariables false
set_option linter.unusedSectionVars false
set_option linter.unusedSimpArgs false
namespace Go.Vx
open Go.Proofs
set_option maxRecDepth 100000

theorem nDigits_le : ∀ (k u : Nat), u < 10 ^ (k + 1) → Lib.nDigits u ≤ k + 1
  | 0, u, h => by rw [Lib.nDigits_small (by simpa using h)]; exact Nat.le_refl _
  | k + 1, u, h => by
    by_cases h1 : u < 10
    · rw [Lib.nDigits_small h1]; omega
    · rw [Lib.nDigits_big h1]
      have := nDigits_le k (u / 10) (by rw [Nat.pow_succ] at h; omega)
      omega
theorem pw40 : Lm.pw 40 ≤ (10 : Int) ^ 193 := by decide +kernel
theorem dec_len {u : Nat} (h : (Lm.lim u).length ≤ 40) : (Lib.decDigits u).length ≤ 193 := by
  rw [Lib.decDigits_length]
  refine nDigits_le 192 u ?_
  have := (Lm.lim_length u 40).1 h
  have h2 := pw40
  have h3 : ((10 ^ 193 : Nat) : Int) = (10 : Int) ^ 193 := by rw [Int.natCast_pow]; rfl
  omega
/-- A number's text. -/
def textF (x : Int) : List UInt8 := if x = 0 then [48] else (if x < 0 then [45] else []) ++ Lib.decDigits x.natAbs
theorem textF_len {x : Int} (h : Lm.ln x ≤ 40) : (textF x).length ≤ 194 := by
  have := dec_len (u := x.natAbs) h
  unfold textF
  split
  · simp
  · split <;> simp <;> omega
theorem wrap8 {z : Int} (h0 : 0 ≤ z) (h1 : z ≤ 255) : IntKind.u8.wrap z = z := by
  rw [IntKind.wrap_u8]
  omega
theorem byte_one {n : Nat} (h : n < 10) : byteRows (strL [UInt8.ofNat (48 + n)]) = [[.int .u8 (48 + (n : Int))]] := by
  unfold byteRows
  rw [strL_data]
  have : (UInt8.ofNat (48 + n)).toNat = 48 + n := by simp; omega
  rw [List.map_cons, List.map_nil, this]
  simp
theorem l1Num_den (n : Nat) (h : n < 10) : D 45 [iP (n : Int)] true (.one (sP [UInt8.ofNat (48 + n)])) := by
  have hb := byte_one h
  refine go Tryd.func45 rfl rfl ?_
  repeat refine vs ?_
  conv => whnf
  refine Wr.mk (48 + (n : Int)) (wrap8 (by omega) (by omega)) ?_
  repeat refine vs ?_
  conv => whnf
  refine NewK.mk false ?_
  repeat refine vs ?_
  conv => whnf
  refine UnB.mk _ hb ?_
  repeat refine vs ?_
  conv => whnf
  first | rfl | exact ⟨rfl, rfl⟩ | exact ⟨by simp [toRes], rfl⟩
theorem limb0 {d : Nat} (h : d < 65536) : (Lm.lim d).getD 0 0 = (d : Int) := by
  by_cases h0 : d = 0
  · subst h0; rw [Lm.lim_zero]; rfl
  · rw [Lm.lim_pos h0, Nat.mod_eq_of_lt h]; rfl
theorem dec_step {m : Nat} (h : m ≠ 0) : Lib.decDigits m = (if m / 10 = 0 then [] else Lib.decDigits (m / 10)) ++ [UInt8.ofNat (48 + m % 10)] := by
  by_cases h1 : m < 10
  · rw [dec_small h1, if_pos (by omega), Nat.mod_eq_of_lt h1]; rfl
  · rw [dec_big (by omega), if_neg (by omega)]
section
variable (x : Int) (hx : Lm.ln x ≤ 40)
include hx
theorem l1Text_den : D 22 [bigV x] true (.one (sP (textF x))) := by
  have hl : (Lm.lim x.natAbs).length ≤ 40 := hx
  have hdl := dec_len hl
  refine go Tryd.func22 rfl rfl ?_
  by_cases h0 : x = 0
  · have hz : (Lm.lim x.natAbs).length = 0 := by rw [h0]; show (Lm.lim 0).length = 0; rw [Lm.lim_zero]; rfl
    unfold textF
    rw [if_pos h0]
    repeat refine vs ?_
    conv => whnf
    first | rfl | exact ⟨rfl, rfl⟩ | exact ⟨by simp [toRes], rfl⟩
  · have hz : ¬ (Lm.lim x.natAbs).length = 0 := by rw [List.length_eq_zero_iff, Lm.lim_eq_nil]; omega
    repeat refine vs ?_
    conv => whnf
    refine EVs.loopU (fun s : Nat × List UInt8 => s.1 ≤ x.natAbs ∧ (if s.1 = 0 then [] else Lib.decDigits s.1) ++ s.2 = Lib.decDigits x.natAbs) (fun s => s.1)
      (fun | (m, acc) => [(3, .v false [.p (.str (strL acc))]), (4, .v false [.p (.ints (Lm.lim m))])]) (x.natAbs, []) ⟨Nat.le_refl _, by dsimp only; rw [if_neg (by omega), List.append_nil]⟩ (Wk.refl _) ?_
    rintro ⟨m, acc⟩ ⟨h1, h2⟩
    dsimp only at h1 h2
    have hml : (Lm.lim m).length ≤ 40 := by rw [Lm.lim_length] at hl ⊢; omega
    refine go1 ?_
    repeat refine vs ?_
    conv => whnf
    by_cases hm : m = 0
    · have hc : ¬ ((Lm.lim m).length : Int) > 0 := by rw [hm, Lm.lim_zero]; simp
      rw [if_pos hm, List.nil_append] at h2
      unfold textF
      rw [if_neg h0, ← h2]
      rw [← h2] at hdl
      by_cases hn : x < 0
      · have hnd : decide (x < 0) = true := decide_eq_true hn
        rw [if_pos hn]
        repeat refine vs ?_
        conv => whnf
        refine CatS.mk (strL (45 :: acc)) (by rw [strL_size]; show 1 + acc.length ≤ _; omega) (strL_app [45] acc) ?_
        repeat refine vs ?_
        conv => whnf
        first | rfl | exact ⟨rfl, rfl⟩ | exact ⟨by simp [toRes], rfl⟩
      · have hnd : decide (x < 0) = false := decide_eq_false hn
        rw [if_neg hn]
        repeat refine vs ?_
        conv => whnf
        first | rfl | exact ⟨rfl, rfl⟩ | exact ⟨by simp [toRes], rfl⟩
    · have hc : ((Lm.lim m).length : Int) > 0 := by have : Lm.lim m ≠ [] := fun h => hm (Lm.lim_eq_nil.1 h); have := List.length_pos_iff.2 this; omega
      have e10 : Lm.lim 10 = [10] := by rw [Lm.lim_pos (by omega), show 10 / 65536 = 0 by decide, Lm.lim_zero]; rfl
      have dD := l1DivLimbs_den m 10 (by omega) (by omega) (by rw [e10]; simp)
      rw [e10] at dD
      have hr : (Lm.lim (m % 10)).length ≤ 40 := by rw [Lm.lim_length] at hml ⊢; omega
      have dL := l1Limb_den (Lm.lim (m % 10)) 0 (by omega) (by omega)
      rw [show ((0 : Int).toNat) = 0 from rfl, limb0 (by omega)] at dL
      have dN := l1Num_den (m % 10) (by omega)
      rw [if_neg hm, dec_step hm] at h2
      have hal : acc.length ≤ 193 := by have := congrArg List.length h2; simp only [List.length_append, List.length_cons, List.length_nil] at this; omega
      repeat refine vs ?_
      conv => whnf
      refine NewK.mk false ?_
      repeat refine vs ?_
      conv => whnf
      refine CallS.mk _ rfl true false _ (dD) rfl ?_
      repeat refine vs ?_
      conv => whnf
      refine CallS.mk _ rfl true true _ (dL) rfl ?_
      repeat refine vs ?_
      conv => whnf
      refine CallS.mk _ rfl true true _ (dN) rfl ?_
      repeat refine vs ?_
      conv => whnf
      refine CatS.mk (strL ([UInt8.ofNat (48 + m % 10)] ++ acc)) (by rw [strL_size, strL_size]; simp; omega) (strL_app _ _) ?_
      repeat refine vs ?_
      conv => whnf
      refine ⟨(m / 10, [UInt8.ofNat (48 + m % 10)] ++ acc), by dsimp only; omega, ⟨by dsimp only; omega, by dsimp only; rw [← List.append_assoc]; exact h2⟩, ?_⟩
      refine Wk.le ?_
      repeat' (first | exact LeT.nil | refine LeT.drop1 ?_ | refine LeT.same1 ?_ | refine LeT.own1 ?_ | refine LeT.ownR ?_ | (refine LeT.deepR ?_ rfl))
end
end Go.Vx
