/- The program's texts of numbers. -/
import Derived.Test.YthholhhohlnlnaaDoorX2
import Derived.Test.YthholhhohlnlnaaDoorVGg
set_option linter.unusedVariables false
set_option linter.unusedSectionVars false
set_option linter.unusedSimpArgs false
namespace Go.Vx
open Go.Proofs
set_option maxRecDepth 100000

theorem pieces_step (m : Nat) : pieces m = (if m / 10000 = 0 then [Lib.decDigits (m % 10000)] else padS (Lib.decDigits (m % 10000)) :: pieces (m / 10000)) := by
  rw [pieces]
  by_cases h : m < 10000
  · rw [dif_pos h, if_pos (by omega), Nat.mod_eq_of_lt h]
  · rw [dif_neg h, if_neg (by omega)]
theorem itoa_nat (n : Nat) : Lib.itoa (n : Int) = Lib.decDigits n := by
  unfold Lib.itoa
  rw [if_neg (by omega), Int.toNat_natCast]
theorem rowsS_snoc (xs : List (List UInt8)) (l : List UInt8) : rowsS xs ++ [[.str (strL l)]] = rowsS (xs ++ [l]) := by simp [rowsS]
theorem rowsS_zero (xs : List (List UInt8)) : (rowsS xs).all zeroRow = true := by
  rw [List.all_eq_true]
  intro r hr
  obtain ⟨l, _, rfl⟩ := List.mem_map.1 hr
  rfl
theorem rev_flat (u : Nat) : (pieces u).reverse.flatten = Lib.decDigits u := pieces_flat u
theorem dec4 {r : Nat} (h : r < 10000) : (Lib.decDigits r).length ≤ 4 := by
  rw [Lib.decDigits_length]
  exact nDigits_le 3 r (by omega)
section
variable (x : Int) (hx : Lm.ln x ≤ 40)
include hx
theorem text_den : D 25 [bigV x] true (.one (sP (textF x))) := by
  have hl : (Lm.lim x.natAbs).length ≤ 40 := hx
  have hdl := dec_len hl
  have hpl := pieces_len x.natAbs
  have dS := sign_den x (Nat.le_trans hx (by omega))
  refine go Tryd.func25 rfl rfl ?_
  by_cases h0 : x = 0
  · have hz : cmpI x 0 = 0 := by rw [h0]; rfl
    unfold textF
    rw [if_pos h0]
    repeat refine vs ?_
    conv => whnf
    refine CallS.mk _ rfl true true _ (dS) rfl ?_
    repeat refine vs ?_
    conv => whnf
    first | rfl | exact ⟨rfl, rfl⟩ | exact ⟨by simp [toRes], rfl⟩
  · have hz : ¬ cmpI x 0 = 0 := by rcases cmpI_sgn x with h | h | h <;> omega
    -- a round
    have round : ∀ (m : Nat) (xs : List (List UInt8)), m ≠ 0 → m ≤ x.natAbs → xs ++ pieces m = pieces x.natAbs →
        ∃ p q : List UInt8, p = Lib.decDigits (m % 10000) ∧ q = (if m / 10000 = 0 then p else padS p) ∧ (xs ++ [q]) ++ (if m / 10000 = 0 then [] else pieces (m / 10000)) = pieces x.natAbs ∧ xs.length ≤ 193 ∧ p.length ≤ 4 ∧
        D 50 [lP (Lm.lim m), iP 10000] false (.tup [lP (Lm.lim (m / 10000)), iP ((m % 10000 : Nat) : Int)]) ∧ D 51 [iP ((m % 10000 : Nat) : Int)] false (.one (sP p)) := by
      intro m xs hm h1 h2
      have hml : (Lm.lim m).length ≤ 40 := by rw [Lm.lim_length] at hl ⊢; omega
      have dD := divSmall_den (Lm.lim m) 10000 (Lm.lim_dig m) (by omega) (by omega) (by omega)
      rw [Lm.val_lim, show ((m : Int) / 10000).toNat = m / 10000 by omega, show (m : Int) % 10000 = ((m % 10000 : Nat) : Int) by omega] at dD
      have dI := itoa_den ((m % 10000 : Nat) : Int) (by omega) (by omega)
      rw [itoa_nat] at dI
      refine ⟨_, _, rfl, rfl, ?_, ?_, dec4 (by omega), dD, dI⟩
      · rw [← h2, pieces_step m, List.append_assoc]
        congr 1
        split <;> rfl
      · have := congrArg List.length h2
        rw [List.length_append] at this
        omega
    by_cases hn : x < 0
    · have hnd : decide (x < 0) = true := decide_eq_true hn
      unfold textF
      rw [if_neg h0, if_pos hn]
      repeat refine vs ?_
      conv => whnf
      refine CallS.mk _ rfl true true _ (dS) rfl ?_
      repeat refine vs ?_
      conv => whnf
      refine NewK.mk true ?_
      repeat refine vs ?_
      conv => whnf
      refine EVs.loopU (fun s : Nat × List (List UInt8) => s.1 ≤ x.natAbs ∧ s.2 ++ (if s.1 = 0 then [] else pieces s.1) = pieces x.natAbs) (fun s => s.1)
        (fun | (m, xs) => [(3, .v false [.own (10, 0) 9 (.arr 1 (rowsS xs))]), (4, .v false [.p (.ints (Lm.lim m))]), (10, .any)]) (x.natAbs, []) ⟨Nat.le_refl _, by dsimp only; rw [if_neg (by omega), List.nil_append]⟩ ?_ ?_
      · refine Wk.le ?_
        repeat' (first | exact LeT.nil | refine LeT.drop1 ?_ | refine LeT.same1 ?_ | refine LeT.own1 ?_ | refine LeT.ownR ?_ | (refine LeT.deepR ?_ rfl))
      rintro ⟨m, xs⟩ ⟨h1, h2⟩
      dsimp only at h1 h2
      refine go1 ?_
      repeat refine vs ?_
      conv => whnf
      by_cases hm : m = 0
      · have hc : ¬ ((Lm.lim m).length : Int) > 0 := by rw [hm, Lm.lim_zero]; simp
        rw [if_pos hm, List.append_nil] at h2
        have hxl : (rowsS xs).length ≤ 193 := by rw [rowsS_len, h2]; omega
        rw [rowsS_len] at hxl
        have hrl : (rowsS xs).length ≤ 193 := by rw [rowsS_len]; exact hxl
        have hfl : (xs ++ [[45]]).reverse.flatten = 45 :: Lib.decDigits x.natAbs := by rw [List.reverse_append, List.flatten_append, h2, rev_flat]; rfl
        repeat refine vs ?_
        conv => whnf
        refine NewK.mk false ?_
        repeat refine vs ?_
        conv => whnf
        refine NewK.dp ⟨(show (rowsS xs ++ [[PL.str (strL [45])]]).all zeroRow = true by rw [rowsS_snoc]; exact rowsS_zero _), ?_⟩
        repeat refine vs ?_
        conv => whnf
        have dR := reverse_den (xs ++ [[45]]) (by simp; omega)
        have dJ := join_den (xs ++ [[45]]).reverse (by simp; omega) (by rw [hfl]; simp; omega)
        rw [hfl] at dJ
        rw [← rowsS_snoc] at dR
        refine DeepS.mk rfl _ rfl _ _ dR True.intro ?_ ?_ ?_
        · simp [rowsS]
        · repeat' (first | exact True.intro | refine ⟨rfl, ?_⟩)
        repeat refine vs ?_
        conv => whnf
        refine CallS.mk _ rfl false false _ (dJ) rfl ?_
        repeat refine vs ?_
        conv => whnf
        first | rfl | exact ⟨rfl, rfl⟩ | exact ⟨by simp [toRes], rfl⟩
      · have hc : ((Lm.lim m).length : Int) > 0 := by have : Lm.lim m ≠ [] := fun h => hm (Lm.lim_eq_nil.1 h); have := List.length_pos_iff.2 this; omega
        rw [if_neg hm] at h2
        obtain ⟨p, q, hp, hq, h3, hxl, hpl4, dD, dI⟩ := round m xs hm h1 h2
        have hrl : (rowsS xs).length ≤ 193 := by rw [rowsS_len]; exact hxl
        have hsz := strL_size p
        clear hp
        by_cases hd : m / 10000 = 0
        · have hc2 : ¬ ((Lm.lim (m / 10000)).length : Int) > 0 := by rw [hd, Lm.lim_zero]; simp
          rw [if_pos hd] at hq
          subst hq
          repeat refine vs ?_
          conv => whnf
          refine CallS.mk _ rfl false false _ (dD) rfl ?_
          repeat refine vs ?_
          conv => whnf
          refine CallS.mk _ rfl false false _ (dI) rfl ?_
          repeat refine vs ?_
          conv => whnf
          refine NewK.mk false ?_
          repeat refine vs ?_
          conv => whnf
          refine NewK.mk true ?_
          repeat refine vs ?_
          conv => whnf
          rw [rowsS_snoc]
          refine ⟨(m / 10000, xs ++ [q]), by dsimp only; omega, ⟨by dsimp only; omega, h3⟩, ?_⟩
          refine Wk.le ?_
          repeat' (first | exact LeT.nil | refine LeT.drop1 ?_ | refine LeT.same1 ?_ | refine LeT.own1 ?_ | refine LeT.ownR ?_ | (refine LeT.deepR ?_ rfl))
        · have hc2 : ((Lm.lim (m / 10000)).length : Int) > 0 := by have : Lm.lim (m / 10000) ≠ [] := fun h => hd (Lm.lim_eq_nil.1 h); have := List.length_pos_iff.2 this; omega
          rw [if_neg hd] at hq
          have dR := repeat_den [48] (4 - p.length) (by omega) (by simp)
          have e4 : (4 : Int) - ((strL p).size : Int) = ((4 - p.length : Nat) : Int) := by rw [hsz]; omega
          have hql : q.length ≤ 8 := by rw [hq]; unfold padS; rw [List.length_append, Lib.repeatL_length]; simp; omega
          have ecat : strL (Lib.repeatL [48] (4 - p.length)) ++ strL p = strL q := by rw [strL_app, hq]; rfl
          have hrs : (strL (Lib.repeatL [48] (4 - p.length))).size + (strL p).size ≤ 9223372036854775807 := by rw [strL_size, strL_size, Lib.repeatL_length]; simp; omega
          repeat refine vs ?_
          conv => whnf
          refine CallS.mk _ rfl false false _ (dD) rfl ?_
          repeat refine vs ?_
          conv => whnf
          refine CallS.mk _ rfl false false _ (dI) rfl ?_
          repeat refine vs ?_
          conv => whnf
          rw [e4]
          refine CallS.mk _ rfl false false _ (dR) rfl ?_
          repeat refine vs ?_
          conv => whnf
          refine CatS.mk _ hrs ecat ?_
          repeat refine vs ?_
          conv => whnf
          refine NewK.mk false ?_
          repeat refine vs ?_
          conv => whnf
          refine NewK.mk true ?_
          repeat refine vs ?_
          conv => whnf
          rw [rowsS_snoc]
          refine ⟨(m / 10000, xs ++ [q]), by dsimp only; omega, ⟨by dsimp only; omega, h3⟩, ?_⟩
          refine Wk.le ?_
          repeat' (first | exact LeT.nil | refine LeT.drop1 ?_ | refine LeT.same1 ?_ | refine LeT.own1 ?_ | refine LeT.ownR ?_ | (refine LeT.deepR ?_ rfl))
    · have hnd : decide (x < 0) = false := decide_eq_false hn
      unfold textF
      rw [if_neg h0, if_neg hn]
      repeat refine vs ?_
      conv => whnf
      refine CallS.mk _ rfl true true _ (dS) rfl ?_
      repeat refine vs ?_
      conv => whnf
      refine NewK.mk true ?_
      repeat refine vs ?_
      conv => whnf
      refine EVs.loopX 0 (fun s : Nat × List (List UInt8) => s.1 ≤ x.natAbs ∧ s.2 ++ (if s.1 = 0 then [] else pieces s.1) = pieces x.natAbs) (fun s => s.1)
        (fun | (m, xs) => [(3, .v false [.own (10, 0) 9 (.arr 1 (rowsS xs))]), (4, .v false [.p (.ints (Lm.lim m))]), (10, .any)]) (x.natAbs, []) ⟨Nat.le_refl _, by dsimp only; rw [if_neg (by omega), List.nil_append]⟩ ?_
        (fun _ : Unit => True) (fun _ => [(3, .v false [.deep (10, 0) 3 1 (rowsS (pieces x.natAbs))]), (4, .any), (10, .any)]) ?_ ?_
      · refine Wk.le ?_
        repeat' (first | exact LeT.nil | refine LeT.drop1 ?_ | refine LeT.same1 ?_ | refine LeT.own1 ?_ | refine LeT.ownR ?_ | (refine LeT.deepR ?_ rfl))
      rintro ⟨m, xs⟩ ⟨h1, h2⟩
      dsimp only at h1 h2
      refine go1 ?_
      repeat refine vs ?_
      conv => whnf
      by_cases hm : m = 0
      · have hc : ¬ ((Lm.lim m).length : Int) > 0 := by rw [hm, Lm.lim_zero]; simp
        rw [if_pos hm, List.append_nil] at h2
        repeat refine vs ?_
        conv => whnf
        refine ⟨(), True.intro, ?_⟩
        rw [h2]
        refine Wk.le ?_
        repeat' (first | exact LeT.nil | refine LeT.drop1 ?_ | refine LeT.same1 ?_ | (refine LeT.deepR ?_ (rowsS_zero _)))
      · have hc : ((Lm.lim m).length : Int) > 0 := by have : Lm.lim m ≠ [] := fun h => hm (Lm.lim_eq_nil.1 h); have := List.length_pos_iff.2 this; omega
        rw [if_neg hm] at h2
        obtain ⟨p, q, hp, hq, h3, hxl, hpl4, dD, dI⟩ := round m xs hm h1 h2
        have hrl : (rowsS xs).length ≤ 193 := by rw [rowsS_len]; exact hxl
        have hsz := strL_size p
        clear hp
        by_cases hd : m / 10000 = 0
        · have hc2 : ¬ ((Lm.lim (m / 10000)).length : Int) > 0 := by rw [hd, Lm.lim_zero]; simp
          rw [if_pos hd] at hq
          subst hq
          repeat refine vs ?_
          conv => whnf
          refine CallS.mk _ rfl false false _ (dD) rfl ?_
          repeat refine vs ?_
          conv => whnf
          refine CallS.mk _ rfl false false _ (dI) rfl ?_
          repeat refine vs ?_
          conv => whnf
          refine NewK.mk false ?_
          repeat refine vs ?_
          conv => whnf
          refine NewK.mk true ?_
          repeat refine vs ?_
          conv => whnf
          rw [rowsS_snoc]
          refine ⟨(m / 10000, xs ++ [q]), by dsimp only; omega, ⟨by dsimp only; omega, h3⟩, ?_⟩
          refine Wk.le ?_
          repeat' (first | exact LeT.nil | refine LeT.drop1 ?_ | refine LeT.same1 ?_ | refine LeT.own1 ?_ | refine LeT.ownR ?_ | (refine LeT.deepR ?_ rfl))
        · have hc2 : ((Lm.lim (m / 10000)).length : Int) > 0 := by have : Lm.lim (m / 10000) ≠ [] := fun h => hd (Lm.lim_eq_nil.1 h); have := List.length_pos_iff.2 this; omega
          rw [if_neg hd] at hq
          have dR := repeat_den [48] (4 - p.length) (by omega) (by simp)
          have e4 : (4 : Int) - ((strL p).size : Int) = ((4 - p.length : Nat) : Int) := by rw [hsz]; omega
          have hql : q.length ≤ 8 := by rw [hq]; unfold padS; rw [List.length_append, Lib.repeatL_length]; simp; omega
          have ecat : strL (Lib.repeatL [48] (4 - p.length)) ++ strL p = strL q := by rw [strL_app, hq]; rfl
          have hrs : (strL (Lib.repeatL [48] (4 - p.length))).size + (strL p).size ≤ 9223372036854775807 := by rw [strL_size, strL_size, Lib.repeatL_length]; simp; omega
          repeat refine vs ?_
          conv => whnf
          refine CallS.mk _ rfl false false _ (dD) rfl ?_
          repeat refine vs ?_
          conv => whnf
          refine CallS.mk _ rfl false false _ (dI) rfl ?_
          repeat refine vs ?_
          conv => whnf
          rw [e4]
          refine CallS.mk _ rfl false false _ (dR) rfl ?_
          repeat refine vs ?_
          conv => whnf
          refine CatS.mk _ hrs ecat ?_
          repeat refine vs ?_
          conv => whnf
          refine NewK.mk false ?_
          repeat refine vs ?_
          conv => whnf
          refine NewK.mk true ?_
          repeat refine vs ?_
          conv => whnf
          rw [rowsS_snoc]
          refine ⟨(m / 10000, xs ++ [q]), by dsimp only; omega, ⟨by dsimp only; omega, h3⟩, ?_⟩
          refine Wk.le ?_
          repeat' (first | exact LeT.nil | refine LeT.drop1 ?_ | refine LeT.same1 ?_ | refine LeT.own1 ?_ | refine LeT.ownR ?_ | (refine LeT.deepR ?_ rfl))
      intro _ _
      have hxl : (pieces x.natAbs).length ≤ 193 := by omega
      have hrl : (rowsS (pieces x.natAbs)).length ≤ 193 := by rw [rowsS_len]; exact hxl
      have dR := reverse_den (pieces x.natAbs) (by omega)
      have dJ := join_den (pieces x.natAbs).reverse (by simp; omega) (by rw [rev_flat]; omega)
      rw [rev_flat] at dJ
      repeat refine vs ?_
      conv => whnf
      refine DeepS.mk rfl _ rfl _ _ dR True.intro ?_ ?_ ?_
      · simp [rowsS]
      · repeat' (first | exact True.intro | refine ⟨rfl, ?_⟩)
      repeat refine vs ?_
      conv => whnf
      refine CallS.mk _ rfl false false _ (dJ) rfl ?_
      repeat refine vs ?_
      conv => whnf
      first | rfl | exact ⟨rfl, rfl⟩ | exact ⟨by simp [toRes], rfl⟩
end
end Go.Vx
