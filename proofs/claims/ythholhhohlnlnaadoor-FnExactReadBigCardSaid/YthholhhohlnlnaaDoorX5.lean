/- ReadBig. -/
import Derived.Test.YthholhhohlnlnaaDoorX4
import Derived.Test.YthholhhohlnlnaaDoorBGd
set_option linter.unusedVariables false
set_option linter.unusedSectionVars false
set_option linter.unusedSimpArgs false
namespace Go.Vx
open Go.Proofs
set_option maxRecDepth 100000

/-- nil reads as an empty slice. -/
theorem LeT.nilP {T T' : List FV} (h : All2 LeF T T') : All2 LeF (.v false [.nil] :: T) (.v false [.p (.ints [])] :: T') :=
  ⟨fun F β w v hv => by
    obtain ⟨x, hx, hv⟩ := hv
    cases hx
    exact ⟨_, rfl, none, 0, hv, Nat.le_refl _, by simp, .inl rfl⟩, h⟩
theorem LeT.boxNil {T T' : List FV} {l : Lab} {b : Bool} (h : All2 LeF T T') : All2 LeF (.box l [.p (.bool b), .nil] 0 :: T) (.box l [.p (.bool b), .p (.ints [])] 0 :: T') :=
  ⟨fun F β w v hv => by
    obtain ⟨g, cc, ty, h1, h2, h3, h4⟩ := hv
    refine ⟨g, cc, ty, h1, h2, h3, ?_⟩
    generalize cc.toList = cs at h4
    match cs, h4 with
    | [u1, u2], ⟨k1, k2, _⟩ => exact ⟨k1, ⟨none, 0, k2, Nat.le_refl _, by simp, .inl rfl⟩, True.intro⟩, h⟩
theorem strL_get {l : List UInt8} {i : Nat} (h : i < l.length) : (strL l)[i]? = some l[i] := by
  rw [getElem?_pos (strL l) i (by rw [strL_size]; exact h)]
  rfl
theorem strL_tail (c : UInt8) (t : List UInt8) : (strL (c :: t)).extract 1 (t.length + 1) = strL t := by
  apply ByteArray.ext
  apply Array.toList_inj.1
  rw [Lib.extract_data, strL_data, strL_data]
  simp
theorem strL_ne (a b : List UInt8) : (!((strL a).toList == (strL b).toList)) = decide (¬ a = b) := by
  rw [Lib.toList_data, Lib.toList_data, strL_data, strL_data]
  by_cases h : a = b
  · subst h; simp
  · simp [h]
theorem strL_eq (a b : List UInt8) : ((strL a).toList == (strL b).toList) = decide (a = b) := by
  rw [Lib.toList_data, Lib.toList_data, strL_data, strL_data]
  by_cases h : a = b
  · subst h; simp
  · simp [h]
theorem val_one (d : Int) : Lm.val [d] = d := by rw [Lm.val_cons, Lm.val_nil]; omega
theorem ten_len {m n i : Nat} (h : (Lm.lim m).length ≤ i + 1) (hn : n ≤ 10 * m + 9) : (Lm.lim n).length ≤ i + 2 := by
  rw [Lm.lim_length] at h ⊢
  rw [show Lm.pw (i + 2) = Lm.pw (i + 1) * 65536 by unfold Lm.pw; rw [Int.pow_succ]]
  omega
/-- The number that digits stand for. -/
def rdF : Nat → List UInt8 → Option Nat
  | m, [] => some m
  | m, c :: r => if 48 ≤ c.toNat ∧ c.toNat ≤ 57 then rdF (10 * m + (c.toNat - 48)) r else none
theorem rdF_cons (m : Nat) (c : UInt8) (r : List UInt8) : rdF m (c :: r) = if 48 ≤ c.toNat ∧ c.toNat ≤ 57 then rdF (10 * m + (c.toNat - 48)) r else none := rfl
def sgnZ (neg : Bool) (m : Nat) : Int := if neg then -(m : Int) else m
theorem sgnZ_abs (neg : Bool) (m : Nat) : (sgnZ neg m).natAbs = m ∧ decide (sgnZ neg m < 0) = (neg && decide (Lm.lim m ≠ [])) := by
  unfold sgnZ
  have h : (Lm.lim m ≠ []) ↔ m ≠ 0 := by rw [Ne, Lm.lim_eq_nil]
  cases neg
  · exact ⟨by simp, by simp⟩
  · refine ⟨by simp, ?_⟩
    by_cases h0 : m = 0
    · subst h0; rw [Lm.lim_zero]; simp
    · rw [decide_eq_true (h.2 h0)]
      simp
      omega
theorem sgnZ_V (neg : Bool) (m : Nat) : rawV (neg && decide (Lm.lim m ≠ [])) (Lm.lim m) = bigV (sgnZ neg m) := by
  obtain ⟨h1, h2⟩ := sgnZ_abs neg m
  show rawV _ _ = rawV (decide (sgnZ neg m < 0)) (Lm.lim (sgnZ neg m).natAbs)
  rw [h1, h2]
def strS (neg : Bool) (t : List UInt8) : List UInt8 := if neg then 45 :: t else t
def readF (neg : Bool) (t : List UInt8) : Option Int := if 1 ≤ t.length ∧ t.length ≤ 200 then (match rdF 0 t with
  | some m => if (Lm.lim m).length ≤ 40 ∧ textF (sgnZ neg m) = strS neg t then some (sgnZ neg m) else none
  | none => none) else none
def readV (neg : Bool) (t : List UInt8) : PV := match readF neg t with
  | some z => bigV z
  | none => rawV false []
theorem readV_none {neg : Bool} {t : List UInt8} (h : readF neg t = none) : readV neg t = rawV false [] := by unfold readV; rw [h]
theorem readV_some {neg : Bool} {t : List UInt8} {z : Int} (h : readF neg t = some z) : readV neg t = bigV z := by unfold readV; rw [h]
theorem readF_none {neg : Bool} {t : List UInt8} (h : ¬ (1 ≤ t.length ∧ t.length ≤ 200) ∨ rdF 0 t = none) : readF neg t = none := by
  unfold readF
  rcases h with h | h
  · rw [if_neg h]
  · rw [h]; split <;> rfl
theorem readF_bad {neg : Bool} {t : List UInt8} {m : Nat} (hm : rdF 0 t = some m) (h : ¬ ((Lm.lim m).length ≤ 40 ∧ textF (sgnZ neg m) = strS neg t)) : readF neg t = none := by
  unfold readF
  rw [hm]
  split
  · exact if_neg h
  · rfl
theorem readF_some {neg : Bool} {t : List UInt8} {m : Nat} (hr : 1 ≤ t.length ∧ t.length ≤ 200) (hm : rdF 0 t = some m) (hl : (Lm.lim m).length ≤ 40) (he : textF (sgnZ neg m) = strS neg t) : readF neg t = some (sgnZ neg m) := by
  unfold readF
  rw [hm, if_pos hr]
  exact if_pos ⟨hl, he⟩
theorem readF_long {neg : Bool} {t : List UInt8} (h : ¬ ((strS neg t).length ≤ 200 ∧ t ≠ [])) : readF neg t = none := by
  by_cases h0 : t = []
  · exact readF_none (.inl (by rw [h0]; simp))
  · have hl : ¬ (strS neg t).length ≤ 200 := fun hl => h ⟨hl, h0⟩
    cases hm : rdF 0 t with
    | none => exact readF_none (.inr hm)
    | some m =>
      refine readF_bad hm fun hh => ?_
      have := textF_len (x := sgnZ neg m) (by show (Lm.lim (sgnZ neg m).natAbs).length ≤ 40; rw [(sgnZ_abs neg m).1]; exact hh.1)
      rw [hh.2] at this
      omega
theorem has_pos {t : List UInt8} (h45 : ∀ c r, t = c :: r → c ≠ 45) : Lib.hasPrefix t [45] = false := by
  cases t with
  | nil => rfl
  | cons c r =>
    have := h45 c r rfl
    unfold Lib.hasPrefix
    simp [List.isPrefixOf]
    exact fun h => this h.symm
theorem trim_pos {t : List UInt8} (h45 : ∀ c r, t = c :: r → c ≠ 45) : Lib.trimPrefix t [45] = t := by
  unfold Lib.trimPrefix
  rw [has_pos h45]
  rfl
set_option maxHeartbeats 1000000 in
theorem readS_neg (t : List UInt8) (ht : t.length ≤ 1048576) : D 11 [sP (45 :: t)] false (.tup [readV true t, bP (readF true t).isSome]) := by
  have e10 : Lm.lim 10 = [10] := by rw [Lm.lim_pos (by omega), show 10 / 65536 = 0 by decide, Lm.lim_zero]; rfl
  have hsz := strL_size t
  have dI := l1In_den (t.length : Int) 1 200
  refine go Tryd.func11 rfl rfl ?_
  have hs0 : (strL (45 :: t)).size = t.length + 1 := strL_size _
  have hget0 : (strL (45 :: t))[0]? = some 45 := strL_get (l := 45 :: t) (i := 0) (by simp)
  have hext := strL_tail 45 t
  by_cases hr : 1 ≤ t.length ∧ t.length ≤ 200
  · rw [decide_eq_true (show 1 ≤ (t.length : Int) ∧ (t.length : Int) ≤ 200 by omega)] at dI
    repeat refine vs ?_
    conv => whnf
    refine IdxS.mk 0 rfl 45 hget0 ?_
    repeat refine vs ?_
    conv => whnf
    refine SubK.mk 1 (t.length + 1) rfl (by exact hs0.symm) (by omega) (by omega) ?_
    repeat refine vs ?_
    conv => whnf
    refine Eqs.mk _ hext ?_
    repeat refine vs ?_
    conv => whnf
    rw [hsz]
    refine CallS.mk _ rfl true true _ (dI) rfl ?_
    repeat refine vs ?_
    conv => whnf
    refine EVs.loopU (fun s : Nat × Nat => s.1 ≤ t.length ∧ (Lm.lim s.2).length ≤ s.1 + 1 ∧ rdF s.2 (t.drop s.1) = rdF 0 t) (fun s => t.length - s.1)
      (fun | (i, m) => [(6, .v false [.p (.ints (Lm.lim m))]), (7, .v false [.p (.int .i64 (i : Int))])]) (0, 0) ⟨Nat.zero_le _, by dsimp only; rw [Lm.lim_zero]; simp, rfl⟩ ?_ ?_
    · dsimp only
      rw [Lm.lim_zero]
      refine Wk.le ?_
      repeat' (first | exact LeT.nil | refine LeT.drop1 ?_ | refine LeT.same1 ?_ | refine LeT.nilP ?_)
    rintro ⟨i, m⟩ ⟨h1, h2, h3⟩
    dsimp only at h1 h2 h3
    refine go1 ?_
    repeat refine vs ?_
    conv => whnf
    by_cases hc : (i : Int) < ((strL t).size : Int)
    · have hlt : i < t.length := by omega
      have hget := strL_get hlt
      rw [List.drop_eq_getElem_cons hlt] at h3
      generalize t[i] = c at *
      have hc9 : c.toNat < 256 := c.toNat_lt
      by_cases hd : 48 ≤ c.toNat ∧ c.toNat ≤ 57
      · rw [rdF_cons, if_pos hd] at h3
        have c1 : ¬ (c.toNat : Int) < 48 := by omega
        have c2 : ¬ (c.toNat : Int) > 57 := by omega
        have hdn : (c.toNat : Int) - 48 = ((c.toNat - 48 : Nat) : Int) := by omega
        have dM := l1MulLimbs_den (Lm.lim m) (Lm.lim 10) (Lm.lim_dig _) (Lm.lim_dig _) (by omega) (by rw [e10]; simp)
        rw [Lm.val_lim, Lm.val_lim, e10, show ((m : Int) * ((10 : Nat) : Int)).toNat = 10 * m by omega] at dM
        have hml : (Lm.lim (10 * m)).length ≤ i + 2 := ten_len h2 (by omega)
        have hmd : (Lm.lim (10 * m + (c.toNat - 48))).length ≤ i + 2 := ten_len h2 (by omega)
        have hdig : Lm.Dig [((c.toNat - 48 : Nat) : Int)] := Lm.Dig.cons (by omega) (by omega) Lm.Dig.nil
        have dA := l1AddLimbs_den (Lm.lim (10 * m)) [((c.toNat - 48 : Nat) : Int)] (Lm.lim_dig _) hdig (by omega) (by simp)
        have hal := Lm.addF_len (a := Lm.lim (10 * m)) (b := [((c.toNat - 48 : Nat) : Int)]) (c := 0)
        have dC := l1Cut_den (Lm.addF (Lm.lim (10 * m)) [((c.toNat - 48 : Nat) : Int)] 0) (by simp at hal; omega)
        rw [Lm.addF_lim (Lm.lim_dig _) hdig, Lm.val_lim, val_one, show (((10 * m : Nat) : Int) + ((c.toNat - 48 : Nat) : Int)).toNat = 10 * m + (c.toNat - 48) by omega] at dC
        repeat refine vs ?_
        conv => whnf
        refine IdxS.mk i rfl c hget ?_
        repeat refine vs ?_
        conv => whnf
        refine IdxS.mk i rfl c hget ?_
        repeat refine vs ?_
        conv => whnf
        refine NewK.mk false ?_
        repeat refine vs ?_
        conv => whnf
        refine CallS.mk _ rfl true false _ (dM) rfl ?_
        repeat refine vs ?_
        conv => whnf
        refine IdxS.mk i rfl c hget ?_
        repeat refine vs ?_
        conv => whnf
        refine Wr.mk ((c.toNat - 48 : Nat) : Int) (by rw [hdn]; exact wrap8 (by omega) (by omega)) ?_
        repeat refine vs ?_
        conv => whnf
        refine NewK.mk false ?_
        repeat refine vs ?_
        conv => whnf
        refine CallS.mk _ rfl true false _ (dA) rfl ?_
        repeat refine vs ?_
        conv => whnf
        refine CallS.mk _ rfl true false _ (dC) rfl ?_
        repeat refine vs ?_
        conv => whnf
        refine ⟨(i + 1, 10 * m + (c.toNat - 48)), by dsimp only; omega, ⟨by dsimp only; omega, by dsimp only; omega, h3⟩, ?_⟩
        refine Wk.le ?_
        repeat' (first | exact LeT.nil | refine LeT.drop1 ?_ | refine LeT.same1 ?_ | refine LeT.own1 ?_ | refine LeT.ownR ?_ | (refine LeT.deepR ?_ rfl))
      · rw [rdF_cons, if_neg hd] at h3
        rw [show readV true t = rawV false [] from readV_none (readF_none (.inr h3.symm)), show (readF true t).isSome = false by rw [readF_none (.inr h3.symm)]; rfl]
        by_cases c1 : (c.toNat : Int) < 48
        · repeat refine vs ?_
          conv => whnf
          refine IdxS.mk i rfl c hget ?_
          repeat refine vs ?_
          conv => whnf
          first | rfl | exact ⟨rfl, rfl⟩ | exact ⟨by simp [toRes], rfl⟩
        · have c2 : (c.toNat : Int) > 57 := by omega
          repeat refine vs ?_
          conv => whnf
          refine IdxS.mk i rfl c hget ?_
          repeat refine vs ?_
          conv => whnf
          refine IdxS.mk i rfl c hget ?_
          repeat refine vs ?_
          conv => whnf
          first | rfl | exact ⟨rfl, rfl⟩ | exact ⟨by simp [toRes], rfl⟩
    · have hi : i = t.length := by omega
      rw [hi, List.drop_length] at h3
      have hm : rdF 0 t = some m := h3.symm
      have hml : (Lm.lim m).length ≤ 1000 := by omega
      have dK := l1Make_den true (Lm.lim m) (by omega)
      rw [Lm.cut_lim, sgnZ_V true m] at dK
      obtain ⟨z1, z2⟩ := sgnZ_abs true m
      by_cases hl : (Lm.lim m).length ≤ 40
      · have dT := l1Text_den (sgnZ true m) (by show (Lm.lim (sgnZ true m).natAbs).length ≤ 40; rw [z1]; exact hl)
        have hbo := strL_ne (textF (sgnZ true m)) (45 :: t)
        by_cases he : textF (sgnZ true m) = 45 :: t
        · rw [show readV true t = bigV (sgnZ true m) from readV_some (readF_some hr hm hl he), show (readF true t).isSome = true by rw [readF_some hr hm hl he]; rfl]
          rw [decide_eq_false (fun h => h he)] at hbo
          repeat refine vs ?_
          conv => whnf
          refine CallS.mk _ rfl true false _ (dK) rfl ?_
          repeat refine vs ?_
          conv => whnf
          refine CallS.mk _ rfl true true _ (dT) rfl ?_
          repeat refine vs ?_
          conv => whnf
          first | rfl | exact ⟨rfl, rfl⟩ | exact ⟨by simp [toRes], rfl⟩
        · rw [show readV true t = rawV false [] from readV_none (readF_bad hm (fun h => he h.2)), show (readF true t).isSome = false by rw [readF_bad hm (fun h => he h.2)]; rfl]
          rw [decide_eq_true he] at hbo
          repeat refine vs ?_
          conv => whnf
          refine CallS.mk _ rfl true false _ (dK) rfl ?_
          repeat refine vs ?_
          conv => whnf
          refine CallS.mk _ rfl true true _ (dT) rfl ?_
          repeat refine vs ?_
          conv => whnf
          first | rfl | exact ⟨rfl, rfl⟩ | exact ⟨by simp [toRes], rfl⟩
      · rw [show readV true t = rawV false [] from readV_none (readF_bad hm (fun h => hl h.1)), show (readF true t).isSome = false by rw [readF_bad hm (fun h => hl h.1)]; rfl]
        repeat refine vs ?_
        conv => whnf
        refine CallS.mk _ rfl true false _ (dK) rfl ?_
        repeat refine vs ?_
        conv => whnf
        first | rfl | exact ⟨rfl, rfl⟩ | exact ⟨by simp [toRes], rfl⟩
  · rw [decide_eq_false (fun h => hr (by omega))] at dI
    rw [show readV true t = rawV false [] from readV_none (readF_none (.inl hr)), show (readF true t).isSome = false by rw [readF_none (.inl hr)]; rfl]
    repeat refine vs ?_
    conv => whnf
    refine IdxS.mk 0 rfl 45 hget0 ?_
    repeat refine vs ?_
    conv => whnf
    refine SubK.mk 1 (t.length + 1) rfl (by exact hs0.symm) (by omega) (by omega) ?_
    repeat refine vs ?_
    conv => whnf
    refine Eqs.mk _ hext ?_
    repeat refine vs ?_
    conv => whnf
    rw [hsz]
    refine CallS.mk _ rfl true true _ (dI) rfl ?_
    repeat refine vs ?_
    conv => whnf
    first | rfl | exact ⟨rfl, rfl⟩ | exact ⟨by simp [toRes], rfl⟩
set_option maxHeartbeats 1000000 in
theorem readS_pos (t : List UInt8) (h45 : ∀ c r, t = c :: r → c ≠ 45) (ht : t.length ≤ 1048576) : D 11 [sP (t)] false (.tup [readV false t, bP (readF false t).isSome]) := by
  have e10 : Lm.lim 10 = [10] := by rw [Lm.lim_pos (by omega), show 10 / 65536 = 0 by decide, Lm.lim_zero]; rfl
  have hsz := strL_size t
  have dI := l1In_den (t.length : Int) 1 200
  refine go Tryd.func11 rfl rfl ?_
  cases t with
  | nil =>
    rw [decide_eq_false (fun h => by simp at h)] at dI
    rw [show readV false [] = rawV false [] from readV_none (readF_none (.inl (by simp))), show (readF false []).isSome = false by rw [readF_none (.inl (by simp))]; rfl]
    repeat refine vs ?_
    conv => whnf
    rw [hsz]
    refine CallS.mk _ rfl true true _ (dI) rfl ?_
    repeat refine vs ?_
    conv => whnf
    first | rfl | exact ⟨rfl, rfl⟩ | exact ⟨by simp [toRes], rfl⟩
  | cons c0 r0 =>
  have hget0 : (strL (c0 :: r0))[0]? = some c0 := strL_get (l := c0 :: r0) (i := 0) (by simp)
  have hne := h45 c0 r0 rfl
  have hne2 : ¬ (c0.toNat : Int) = 45 := fun h => hne (UInt8.toNat_inj.1 (by show c0.toNat = 45; omega))
  have hlen : 0 < (c0 :: r0).length := by simp
  clear h45
  generalize htt : c0 :: r0 = t at *
  by_cases hr : 1 ≤ t.length ∧ t.length ≤ 200
  · rw [decide_eq_true (show 1 ≤ (t.length : Int) ∧ (t.length : Int) ≤ 200 by omega)] at dI
    repeat refine vs ?_
    conv => whnf
    refine IdxS.mk 0 rfl c0 hget0 ?_
    repeat refine vs ?_
    conv => whnf
    rw [hsz]
    refine CallS.mk _ rfl true true _ (dI) rfl ?_
    repeat refine vs ?_
    conv => whnf
    refine EVs.loopU (fun s : Nat × Nat => s.1 ≤ t.length ∧ (Lm.lim s.2).length ≤ s.1 + 1 ∧ rdF s.2 (t.drop s.1) = rdF 0 t) (fun s => t.length - s.1)
      (fun | (i, m) => [(6, .v false [.p (.ints (Lm.lim m))]), (7, .v false [.p (.int .i64 (i : Int))])]) (0, 0) ⟨Nat.zero_le _, by dsimp only; rw [Lm.lim_zero]; simp, rfl⟩ ?_ ?_
    · dsimp only
      rw [Lm.lim_zero]
      refine Wk.le ?_
      repeat' (first | exact LeT.nil | refine LeT.drop1 ?_ | refine LeT.same1 ?_ | refine LeT.nilP ?_)
    rintro ⟨i, m⟩ ⟨h1, h2, h3⟩
    dsimp only at h1 h2 h3
    refine go1 ?_
    repeat refine vs ?_
    conv => whnf
    by_cases hc : (i : Int) < ((strL t).size : Int)
    · have hlt : i < t.length := by omega
      have hget := strL_get hlt
      rw [List.drop_eq_getElem_cons hlt] at h3
      generalize t[i] = c at *
      have hc9 : c.toNat < 256 := c.toNat_lt
      by_cases hd : 48 ≤ c.toNat ∧ c.toNat ≤ 57
      · rw [rdF_cons, if_pos hd] at h3
        have c1 : ¬ (c.toNat : Int) < 48 := by omega
        have c2 : ¬ (c.toNat : Int) > 57 := by omega
        have hdn : (c.toNat : Int) - 48 = ((c.toNat - 48 : Nat) : Int) := by omega
        have dM := l1MulLimbs_den (Lm.lim m) (Lm.lim 10) (Lm.lim_dig _) (Lm.lim_dig _) (by omega) (by rw [e10]; simp)
        rw [Lm.val_lim, Lm.val_lim, e10, show ((m : Int) * ((10 : Nat) : Int)).toNat = 10 * m by omega] at dM
        have hml : (Lm.lim (10 * m)).length ≤ i + 2 := ten_len h2 (by omega)
        have hmd : (Lm.lim (10 * m + (c.toNat - 48))).length ≤ i + 2 := ten_len h2 (by omega)
        have hdig : Lm.Dig [((c.toNat - 48 : Nat) : Int)] := Lm.Dig.cons (by omega) (by omega) Lm.Dig.nil
        have dA := l1AddLimbs_den (Lm.lim (10 * m)) [((c.toNat - 48 : Nat) : Int)] (Lm.lim_dig _) hdig (by omega) (by simp)
        have hal := Lm.addF_len (a := Lm.lim (10 * m)) (b := [((c.toNat - 48 : Nat) : Int)]) (c := 0)
        have dC := l1Cut_den (Lm.addF (Lm.lim (10 * m)) [((c.toNat - 48 : Nat) : Int)] 0) (by simp at hal; omega)
        rw [Lm.addF_lim (Lm.lim_dig _) hdig, Lm.val_lim, val_one, show (((10 * m : Nat) : Int) + ((c.toNat - 48 : Nat) : Int)).toNat = 10 * m + (c.toNat - 48) by omega] at dC
        repeat refine vs ?_
        conv => whnf
        refine IdxS.mk i rfl c hget ?_
        repeat refine vs ?_
        conv => whnf
        refine IdxS.mk i rfl c hget ?_
        repeat refine vs ?_
        conv => whnf
        refine NewK.mk false ?_
        repeat refine vs ?_
        conv => whnf
        refine CallS.mk _ rfl true false _ (dM) rfl ?_
        repeat refine vs ?_
        conv => whnf
        refine IdxS.mk i rfl c hget ?_
        repeat refine vs ?_
        conv => whnf
        refine Wr.mk ((c.toNat - 48 : Nat) : Int) (by rw [hdn]; exact wrap8 (by omega) (by omega)) ?_
        repeat refine vs ?_
        conv => whnf
        refine NewK.mk false ?_
        repeat refine vs ?_
        conv => whnf
        refine CallS.mk _ rfl true false _ (dA) rfl ?_
        repeat refine vs ?_
        conv => whnf
        refine CallS.mk _ rfl true false _ (dC) rfl ?_
        repeat refine vs ?_
        conv => whnf
        refine ⟨(i + 1, 10 * m + (c.toNat - 48)), by dsimp only; omega, ⟨by dsimp only; omega, by dsimp only; omega, h3⟩, ?_⟩
        refine Wk.le ?_
        repeat' (first | exact LeT.nil | refine LeT.drop1 ?_ | refine LeT.same1 ?_ | refine LeT.own1 ?_ | refine LeT.ownR ?_ | (refine LeT.deepR ?_ rfl))
      · rw [rdF_cons, if_neg hd] at h3
        rw [show readV false t = rawV false [] from readV_none (readF_none (.inr h3.symm)), show (readF false t).isSome = false by rw [readF_none (.inr h3.symm)]; rfl]
        by_cases c1 : (c.toNat : Int) < 48
        · repeat refine vs ?_
          conv => whnf
          refine IdxS.mk i rfl c hget ?_
          repeat refine vs ?_
          conv => whnf
          first | rfl | exact ⟨rfl, rfl⟩ | exact ⟨by simp [toRes], rfl⟩
        · have c2 : (c.toNat : Int) > 57 := by omega
          repeat refine vs ?_
          conv => whnf
          refine IdxS.mk i rfl c hget ?_
          repeat refine vs ?_
          conv => whnf
          refine IdxS.mk i rfl c hget ?_
          repeat refine vs ?_
          conv => whnf
          first | rfl | exact ⟨rfl, rfl⟩ | exact ⟨by simp [toRes], rfl⟩
    · have hi : i = t.length := by omega
      rw [hi, List.drop_length] at h3
      have hm : rdF 0 t = some m := h3.symm
      have hml : (Lm.lim m).length ≤ 1000 := by omega
      have dK := l1Make_den false (Lm.lim m) (by omega)
      rw [Lm.cut_lim, sgnZ_V false m] at dK
      obtain ⟨z1, z2⟩ := sgnZ_abs false m
      by_cases hl : (Lm.lim m).length ≤ 40
      · have dT := l1Text_den (sgnZ false m) (by show (Lm.lim (sgnZ false m).natAbs).length ≤ 40; rw [z1]; exact hl)
        have hbo := strL_ne (textF (sgnZ false m)) (t)
        by_cases he : textF (sgnZ false m) = t
        · rw [show readV false t = bigV (sgnZ false m) from readV_some (readF_some hr hm hl he), show (readF false t).isSome = true by rw [readF_some hr hm hl he]; rfl]
          rw [decide_eq_false (fun h => h he)] at hbo
          repeat refine vs ?_
          conv => whnf
          refine CallS.mk _ rfl true false _ (dK) rfl ?_
          repeat refine vs ?_
          conv => whnf
          refine CallS.mk _ rfl true true _ (dT) rfl ?_
          repeat refine vs ?_
          conv => whnf
          first | rfl | exact ⟨rfl, rfl⟩ | exact ⟨by simp [toRes], rfl⟩
        · rw [show readV false t = rawV false [] from readV_none (readF_bad hm (fun h => he h.2)), show (readF false t).isSome = false by rw [readF_bad hm (fun h => he h.2)]; rfl]
          rw [decide_eq_true he] at hbo
          repeat refine vs ?_
          conv => whnf
          refine CallS.mk _ rfl true false _ (dK) rfl ?_
          repeat refine vs ?_
          conv => whnf
          refine CallS.mk _ rfl true true _ (dT) rfl ?_
          repeat refine vs ?_
          conv => whnf
          first | rfl | exact ⟨rfl, rfl⟩ | exact ⟨by simp [toRes], rfl⟩
      · rw [show readV false t = rawV false [] from readV_none (readF_bad hm (fun h => hl h.1)), show (readF false t).isSome = false by rw [readF_bad hm (fun h => hl h.1)]; rfl]
        repeat refine vs ?_
        conv => whnf
        refine CallS.mk _ rfl true false _ (dK) rfl ?_
        repeat refine vs ?_
        conv => whnf
        first | rfl | exact ⟨rfl, rfl⟩ | exact ⟨by simp [toRes], rfl⟩
  · rw [decide_eq_false (fun h => hr (by omega))] at dI
    rw [show readV false t = rawV false [] from readV_none (readF_none (.inl hr)), show (readF false t).isSome = false by rw [readF_none (.inl hr)]; rfl]
    repeat refine vs ?_
    conv => whnf
    refine IdxS.mk 0 rfl c0 hget0 ?_
    repeat refine vs ?_
    conv => whnf
    rw [hsz]
    refine CallS.mk _ rfl true true _ (dI) rfl ?_
    repeat refine vs ?_
    conv => whnf
    first | rfl | exact ⟨rfl, rfl⟩ | exact ⟨by simp [toRes], rfl⟩
set_option maxHeartbeats 1000000 in
theorem readI_neg (t : List UInt8) (ht : t.length ≤ 1048576) : D 12 [sP (45 :: t)] true (.tup [readV true t, bP (readF true t).isSome]) := by
  have hsz := strL_size t
  have hss := strL_size (45 :: t)
  have dP := cutPrefix_den (45 :: t) [45]
  rw [show Lib.trimPrefix (45 :: t) [45] = t from by simp [Lib.trimPrefix, Lib.hasPrefix], show Lib.hasPrefix (45 :: t) [45] = true from by simp [Lib.hasPrefix]] at dP
  have hem := strL_eq t []
  refine go Tryd.func12 rfl rfl ?_
  by_cases hr : (45 :: t).length ≤ 200 ∧ t ≠ []
  · have hr0 : 1 ≤ t.length ∧ t.length ≤ 200 := ⟨List.length_pos_iff.2 hr.2, Nat.le_trans (m := (45 :: t).length) (by simp) hr.1⟩
    have hrl := hr.1
    rw [decide_eq_false hr.2] at hem
    repeat refine vs ?_
    conv => whnf
    refine CallS.mk _ rfl false false _ (dP) rfl ?_
    repeat refine vs ?_
    conv => whnf
    refine EVs.loopU (fun s : Nat × Nat => s.1 ≤ t.length ∧ (Lm.lim s.2).length ≤ s.1 + 1 ∧ rdF s.2 (t.drop s.1) = rdF 0 t) (fun s => t.length - s.1)
      (fun | (i, m) => [(6, .box (6, 0) [.p (.bool (decide ((m : Int) < 0))), .p (.ints (Lm.lim m))] 0), (26, .v false [.p (.int .i64 (i : Int))])]) (0, 0) ⟨Nat.zero_le _, by dsimp only; rw [Lm.lim_zero]; simp, rfl⟩ ?_ ?_
    · dsimp only
      rw [Lm.lim_zero]
      refine Wk.le ?_
      repeat' (first | exact LeT.nil | refine LeT.drop1 ?_ | refine LeT.same1 ?_ | refine LeT.boxNil ?_)
    rintro ⟨i, m⟩ ⟨h1, h2, h3⟩
    dsimp only at h1 h2 h3
    have hbl : (byteRows (strL t)).length = t.length := by unfold byteRows; simp [strL_data]
    refine go1 ?_
    repeat refine vs ?_
    conv => whnf
    by_cases hc : (i : Int) < ((byteRows (strL t)).length : Int)
    · have hlt : i < t.length := by omega
      have hget : (byteRows (strL t))[i]? = some [.int .u8 ((t[i]).toNat : Int)] := by unfold byteRows; rw [List.getElem?_map, strL_data, List.getElem?_eq_getElem hlt]; rfl
      rw [List.drop_eq_getElem_cons hlt] at h3
      generalize t[i] = c at *
      have hc9 : c.toNat < 256 := c.toNat_lt
      have dW := within_den (c.toNat : Int) 48 57
      repeat refine vs ?_
      conv => whnf
      first | refine Idx.mk (i) (by first | rfl | omega) (by omega) ?_ | skip
      repeat refine vs ?_
      conv => whnf
      refine LdR.mk _ hget ?_
      repeat refine vs ?_
      conv => whnf
      by_cases hd : 48 ≤ c.toNat ∧ c.toNat ≤ 57
      · rw [rdF_cons, if_pos hd] at h3
        rw [decide_eq_true (show 48 ≤ (c.toNat : Int) ∧ (c.toNat : Int) ≤ 57 by omega)] at dW
        have hdn : (c.toNat : Int) - 48 = ((c.toNat - 48 : Nat) : Int) := by omega
        have hml : (Lm.lim (10 * m)).length ≤ i + 2 := ten_len h2 (by omega)
        have hmd : (Lm.lim (10 * m + (c.toNat - 48))).length ≤ i + 2 := ten_len h2 (by omega)
        have d10 := bigOfI_den 10 (by omega) (by omega)
        have dd := bigOfI_den ((c.toNat - 48 : Nat) : Int) (by omega) (by omega)
        have dM := mul_den (m : Int) 10 (by show (Lm.lim m).length ≤ _; omega) (Nat.le_trans ((Lm.ln_le 10 1).2 (by decide)) (by omega))
        rw [show (m : Int) * 10 = ((10 * m : Nat) : Int) by omega] at dM
        have dA := add_den ((10 * m : Nat) : Int) ((c.toNat - 48 : Nat) : Int) (by show (Lm.lim (10 * m)).length ≤ _; omega) (Nat.le_trans ((Lm.ln_le _ 1).2 (by show _ < (65536 : Int); omega)) (by omega))
        rw [show ((10 * m : Nat) : Int) + ((c.toNat - 48 : Nat) : Int) = ((10 * m + (c.toNat - 48) : Nat) : Int) by omega] at dA
        refine CallS.mk _ rfl true true _ (dW) rfl ?_
        repeat refine vs ?_
        conv => whnf
        refine CallS.mk _ rfl true false _ (d10) rfl ?_
        repeat refine vs ?_
        conv => whnf
        refine CallS.mk _ rfl true false _ (dM) rfl ?_
        repeat refine vs ?_
        conv => whnf
        refine Wr.mk ((c.toNat - 48 : Nat) : Int) (by rw [hdn]; exact wrap8 (by omega) (by omega)) ?_
        repeat refine vs ?_
        conv => whnf
        refine CallS.mk _ rfl true false _ (dd) rfl ?_
        repeat refine vs ?_
        conv => whnf
        refine CallS.mk _ rfl true false _ (dA) rfl ?_
        repeat refine vs ?_
        conv => whnf
        refine ⟨(i + 1, 10 * m + (c.toNat - 48)), by dsimp only; omega, ⟨by dsimp only; omega, by dsimp only; omega, h3⟩, ?_⟩
        refine Wk.le ?_
        repeat' (first | exact LeT.nil | refine LeT.drop1 ?_ | refine LeT.same1 ?_ | refine LeT.own1 ?_ | refine LeT.ownR ?_ | (refine LeT.deepR ?_ rfl))
      · rw [rdF_cons, if_neg hd] at h3
        rw [decide_eq_false (show ¬ (48 ≤ (c.toNat : Int) ∧ (c.toNat : Int) ≤ 57) by omega)] at dW
        rw [show readV true t = rawV false [] from readV_none (readF_none (.inr h3.symm)), show (readF true t).isSome = false by rw [readF_none (.inr h3.symm)]; rfl]
        refine CallS.mk _ rfl true true _ (dW) rfl ?_
        repeat refine vs ?_
        conv => whnf
        first | rfl | exact ⟨rfl, rfl⟩ | exact ⟨by simp [toRes], rfl⟩
    · have hi : i = t.length := by omega
      rw [hi, List.drop_length] at h3
      have hm : rdF 0 t = some m := h3.symm
      have hml : (Lm.lim m).length ≤ 1000 := by omega
      have dK := bigOf_den true (Lm.lim m) (by omega)
      rw [Lm.cut_lim, sgnZ_V true m] at dK
      obtain ⟨z1, z2⟩ := sgnZ_abs true m
      have hzl : Lm.ln (sgnZ true m) = (Lm.lim m).length := by show (Lm.lim (sgnZ true m).natAbs).length = _; rw [z1]
      have hzl2 : (Lm.lim (sgnZ true m).natAbs).length = (Lm.lim m).length := hzl
      have dG := goodI_den (decide (sgnZ true m < 0)) (Lm.lim (sgnZ true m).natAbs) (by omega)
      by_cases hl : (Lm.lim m).length ≤ 40
      · have dT := text_den (sgnZ true m) (by omega)
        rw [goodB_true (Lm.good_lim (by omega))] at dG
        have hbo := strL_ne (textF (sgnZ true m)) (45 :: t)
        by_cases he : textF (sgnZ true m) = 45 :: t
        · rw [show readV true t = bigV (sgnZ true m) from readV_some (readF_some hr0 hm hl he), show (readF true t).isSome = true by rw [readF_some hr0 hm hl he]; rfl]
          rw [decide_eq_false (fun h => h he)] at hbo
          repeat refine vs ?_
          conv => whnf
          refine CallS.mk _ rfl true true _ (dK) rfl ?_
          repeat refine vs ?_
          conv => whnf
          refine CallS.mk _ rfl true true _ (dG) rfl ?_
          repeat refine vs ?_
          conv => whnf
          refine CallS.mk _ rfl true true _ (dT) rfl ?_
          repeat refine vs ?_
          conv => whnf
          first | rfl | exact ⟨rfl, rfl⟩ | exact ⟨by simp [toRes], rfl⟩
        · rw [show readV true t = rawV false [] from readV_none (readF_bad hm (fun h => he h.2)), show (readF true t).isSome = false by rw [readF_bad hm (fun h => he h.2)]; rfl]
          rw [decide_eq_true he] at hbo
          repeat refine vs ?_
          conv => whnf
          refine CallS.mk _ rfl true true _ (dK) rfl ?_
          repeat refine vs ?_
          conv => whnf
          refine CallS.mk _ rfl true true _ (dG) rfl ?_
          repeat refine vs ?_
          conv => whnf
          refine CallS.mk _ rfl true true _ (dT) rfl ?_
          repeat refine vs ?_
          conv => whnf
          first | rfl | exact ⟨rfl, rfl⟩ | exact ⟨by simp [toRes], rfl⟩
      · rw [goodB_false (fun h => by have := h.2.1; omega)] at dG
        rw [show readV true t = rawV false [] from readV_none (readF_bad hm (fun h => hl h.1)), show (readF true t).isSome = false by rw [readF_bad hm (fun h => hl h.1)]; rfl]
        repeat refine vs ?_
        conv => whnf
        refine CallS.mk _ rfl true true _ (dK) rfl ?_
        repeat refine vs ?_
        conv => whnf
        refine CallS.mk _ rfl true true _ (dG) rfl ?_
        repeat refine vs ?_
        conv => whnf
        first | rfl | exact ⟨rfl, rfl⟩ | exact ⟨by simp [toRes], rfl⟩
  · have hno : readF true t = none := readF_long (fun h => hr ⟨h.1, h.2⟩)
    rw [show readV true t = rawV false [] from readV_none hno, show (readF true t).isSome = false by rw [hno]; rfl]
    by_cases hl : (45 :: t).length ≤ 200
    · have hte : t = [] := Classical.byContradiction fun h => hr ⟨hl, h⟩
      rw [decide_eq_true hte] at hem
      repeat refine vs ?_
      conv => whnf
      refine CallS.mk _ rfl false false _ (dP) rfl ?_
      repeat refine vs ?_
      conv => whnf
      first | rfl | exact ⟨rfl, rfl⟩ | exact ⟨by simp [toRes], rfl⟩
    · repeat refine vs ?_
      conv => whnf
      refine CallS.mk _ rfl false false _ (dP) rfl ?_
      repeat refine vs ?_
      conv => whnf
      first | rfl | exact ⟨rfl, rfl⟩ | exact ⟨by simp [toRes], rfl⟩
set_option maxHeartbeats 1000000 in
theorem readI_pos (t : List UInt8) (h45 : ∀ c r, t = c :: r → c ≠ 45) (ht : t.length ≤ 1048576) : D 12 [sP (t)] true (.tup [readV false t, bP (readF false t).isSome]) := by
  have hsz := strL_size t
  have hss := strL_size (t)
  have dP := cutPrefix_den (t) [45]
  rw [show Lib.trimPrefix (t) [45] = t from trim_pos h45, show Lib.hasPrefix (t) [45] = false from has_pos h45] at dP
  have hem := strL_eq t []
  refine go Tryd.func12 rfl rfl ?_
  by_cases hr : (t).length ≤ 200 ∧ t ≠ []
  · have hr0 : 1 ≤ t.length ∧ t.length ≤ 200 := ⟨List.length_pos_iff.2 hr.2, Nat.le_trans (m := (t).length) (by simp) hr.1⟩
    have hrl := hr.1
    rw [decide_eq_false hr.2] at hem
    repeat refine vs ?_
    conv => whnf
    refine CallS.mk _ rfl false false _ (dP) rfl ?_
    repeat refine vs ?_
    conv => whnf
    refine EVs.loopU (fun s : Nat × Nat => s.1 ≤ t.length ∧ (Lm.lim s.2).length ≤ s.1 + 1 ∧ rdF s.2 (t.drop s.1) = rdF 0 t) (fun s => t.length - s.1)
      (fun | (i, m) => [(6, .box (6, 0) [.p (.bool (decide ((m : Int) < 0))), .p (.ints (Lm.lim m))] 0), (26, .v false [.p (.int .i64 (i : Int))])]) (0, 0) ⟨Nat.zero_le _, by dsimp only; rw [Lm.lim_zero]; simp, rfl⟩ ?_ ?_
    · dsimp only
      rw [Lm.lim_zero]
      refine Wk.le ?_
      repeat' (first | exact LeT.nil | refine LeT.drop1 ?_ | refine LeT.same1 ?_ | refine LeT.boxNil ?_)
    rintro ⟨i, m⟩ ⟨h1, h2, h3⟩
    dsimp only at h1 h2 h3
    have hbl : (byteRows (strL t)).length = t.length := by unfold byteRows; simp [strL_data]
    refine go1 ?_
    repeat refine vs ?_
    conv => whnf
    by_cases hc : (i : Int) < ((byteRows (strL t)).length : Int)
    · have hlt : i < t.length := by omega
      have hget : (byteRows (strL t))[i]? = some [.int .u8 ((t[i]).toNat : Int)] := by unfold byteRows; rw [List.getElem?_map, strL_data, List.getElem?_eq_getElem hlt]; rfl
      rw [List.drop_eq_getElem_cons hlt] at h3
      generalize t[i] = c at *
      have hc9 : c.toNat < 256 := c.toNat_lt
      have dW := within_den (c.toNat : Int) 48 57
      repeat refine vs ?_
      conv => whnf
      first | refine Idx.mk (i) (by first | rfl | omega) (by omega) ?_ | skip
      repeat refine vs ?_
      conv => whnf
      refine LdR.mk _ hget ?_
      repeat refine vs ?_
      conv => whnf
      by_cases hd : 48 ≤ c.toNat ∧ c.toNat ≤ 57
      · rw [rdF_cons, if_pos hd] at h3
        rw [decide_eq_true (show 48 ≤ (c.toNat : Int) ∧ (c.toNat : Int) ≤ 57 by omega)] at dW
        have hdn : (c.toNat : Int) - 48 = ((c.toNat - 48 : Nat) : Int) := by omega
        have hml : (Lm.lim (10 * m)).length ≤ i + 2 := ten_len h2 (by omega)
        have hmd : (Lm.lim (10 * m + (c.toNat - 48))).length ≤ i + 2 := ten_len h2 (by omega)
        have d10 := bigOfI_den 10 (by omega) (by omega)
        have dd := bigOfI_den ((c.toNat - 48 : Nat) : Int) (by omega) (by omega)
        have dM := mul_den (m : Int) 10 (by show (Lm.lim m).length ≤ _; omega) (Nat.le_trans ((Lm.ln_le 10 1).2 (by decide)) (by omega))
        rw [show (m : Int) * 10 = ((10 * m : Nat) : Int) by omega] at dM
        have dA := add_den ((10 * m : Nat) : Int) ((c.toNat - 48 : Nat) : Int) (by show (Lm.lim (10 * m)).length ≤ _; omega) (Nat.le_trans ((Lm.ln_le _ 1).2 (by show _ < (65536 : Int); omega)) (by omega))
        rw [show ((10 * m : Nat) : Int) + ((c.toNat - 48 : Nat) : Int) = ((10 * m + (c.toNat - 48) : Nat) : Int) by omega] at dA
        refine CallS.mk _ rfl true true _ (dW) rfl ?_
        repeat refine vs ?_
        conv => whnf
        refine CallS.mk _ rfl true false _ (d10) rfl ?_
        repeat refine vs ?_
        conv => whnf
        refine CallS.mk _ rfl true false _ (dM) rfl ?_
        repeat refine vs ?_
        conv => whnf
        refine Wr.mk ((c.toNat - 48 : Nat) : Int) (by rw [hdn]; exact wrap8 (by omega) (by omega)) ?_
        repeat refine vs ?_
        conv => whnf
        refine CallS.mk _ rfl true false _ (dd) rfl ?_
        repeat refine vs ?_
        conv => whnf
        refine CallS.mk _ rfl true false _ (dA) rfl ?_
        repeat refine vs ?_
        conv => whnf
        refine ⟨(i + 1, 10 * m + (c.toNat - 48)), by dsimp only; omega, ⟨by dsimp only; omega, by dsimp only; omega, h3⟩, ?_⟩
        refine Wk.le ?_
        repeat' (first | exact LeT.nil | refine LeT.drop1 ?_ | refine LeT.same1 ?_ | refine LeT.own1 ?_ | refine LeT.ownR ?_ | (refine LeT.deepR ?_ rfl))
      · rw [rdF_cons, if_neg hd] at h3
        rw [decide_eq_false (show ¬ (48 ≤ (c.toNat : Int) ∧ (c.toNat : Int) ≤ 57) by omega)] at dW
        rw [show readV false t = rawV false [] from readV_none (readF_none (.inr h3.symm)), show (readF false t).isSome = false by rw [readF_none (.inr h3.symm)]; rfl]
        refine CallS.mk _ rfl true true _ (dW) rfl ?_
        repeat refine vs ?_
        conv => whnf
        first | rfl | exact ⟨rfl, rfl⟩ | exact ⟨by simp [toRes], rfl⟩
    · have hi : i = t.length := by omega
      rw [hi, List.drop_length] at h3
      have hm : rdF 0 t = some m := h3.symm
      have hml : (Lm.lim m).length ≤ 1000 := by omega
      have dK := bigOf_den false (Lm.lim m) (by omega)
      rw [Lm.cut_lim, sgnZ_V false m] at dK
      obtain ⟨z1, z2⟩ := sgnZ_abs false m
      have hzl : Lm.ln (sgnZ false m) = (Lm.lim m).length := by show (Lm.lim (sgnZ false m).natAbs).length = _; rw [z1]
      have hzl2 : (Lm.lim (sgnZ false m).natAbs).length = (Lm.lim m).length := hzl
      have dG := goodI_den (decide (sgnZ false m < 0)) (Lm.lim (sgnZ false m).natAbs) (by omega)
      by_cases hl : (Lm.lim m).length ≤ 40
      · have dT := text_den (sgnZ false m) (by omega)
        rw [goodB_true (Lm.good_lim (by omega))] at dG
        have hbo := strL_ne (textF (sgnZ false m)) (t)
        by_cases he : textF (sgnZ false m) = t
        · rw [show readV false t = bigV (sgnZ false m) from readV_some (readF_some hr0 hm hl he), show (readF false t).isSome = true by rw [readF_some hr0 hm hl he]; rfl]
          rw [decide_eq_false (fun h => h he)] at hbo
          repeat refine vs ?_
          conv => whnf
          refine CallS.mk _ rfl true true _ (dK) rfl ?_
          repeat refine vs ?_
          conv => whnf
          refine CallS.mk _ rfl true true _ (dG) rfl ?_
          repeat refine vs ?_
          conv => whnf
          refine CallS.mk _ rfl true true _ (dT) rfl ?_
          repeat refine vs ?_
          conv => whnf
          first | rfl | exact ⟨rfl, rfl⟩ | exact ⟨by simp [toRes], rfl⟩
        · rw [show readV false t = rawV false [] from readV_none (readF_bad hm (fun h => he h.2)), show (readF false t).isSome = false by rw [readF_bad hm (fun h => he h.2)]; rfl]
          rw [decide_eq_true he] at hbo
          repeat refine vs ?_
          conv => whnf
          refine CallS.mk _ rfl true true _ (dK) rfl ?_
          repeat refine vs ?_
          conv => whnf
          refine CallS.mk _ rfl true true _ (dG) rfl ?_
          repeat refine vs ?_
          conv => whnf
          refine CallS.mk _ rfl true true _ (dT) rfl ?_
          repeat refine vs ?_
          conv => whnf
          first | rfl | exact ⟨rfl, rfl⟩ | exact ⟨by simp [toRes], rfl⟩
      · rw [goodB_false (fun h => by have := h.2.1; omega)] at dG
        rw [show readV false t = rawV false [] from readV_none (readF_bad hm (fun h => hl h.1)), show (readF false t).isSome = false by rw [readF_bad hm (fun h => hl h.1)]; rfl]
        repeat refine vs ?_
        conv => whnf
        refine CallS.mk _ rfl true true _ (dK) rfl ?_
        repeat refine vs ?_
        conv => whnf
        refine CallS.mk _ rfl true true _ (dG) rfl ?_
        repeat refine vs ?_
        conv => whnf
        first | rfl | exact ⟨rfl, rfl⟩ | exact ⟨by simp [toRes], rfl⟩
  · have hno : readF false t = none := readF_long (fun h => hr ⟨h.1, h.2⟩)
    rw [show readV false t = rawV false [] from readV_none hno, show (readF false t).isSome = false by rw [hno]; rfl]
    by_cases hl : (t).length ≤ 200
    · have hte : t = [] := Classical.byContradiction fun h => hr ⟨hl, h⟩
      rw [decide_eq_true hte] at hem
      repeat refine vs ?_
      conv => whnf
      refine CallS.mk _ rfl false false _ (dP) rfl ?_
      repeat refine vs ?_
      conv => whnf
      first | rfl | exact ⟨rfl, rfl⟩ | exact ⟨by simp [toRes], rfl⟩
    · repeat refine vs ?_
      conv => whnf
      refine CallS.mk _ rfl false false _ (dP) rfl ?_
      repeat refine vs ?_
      conv => whnf
      first | rfl | exact ⟨rfl, rfl⟩ | exact ⟨by simp [toRes], rfl⟩
theorem readBoth (s : List UInt8) (hs : s.length ≤ 1048576) :
    ∃ n l b, l.length ≤ 1000000 ∧ D 11 [sP s] false (.tup [rawV n l, bP b]) ∧ D 12 [sP s] true (.tup [rawV n l, bP b]) := by
  have fin : ∀ (neg : Bool) (t : List UInt8), ∃ n l, l.length ≤ 1000000 ∧ readV neg t = rawV n l := by
    intro neg t
    cases h : readF neg t with
    | none => exact ⟨false, [], by simp, readV_none h⟩
    | some z =>
      refine ⟨_, _, ?_, readV_some h⟩
      unfold readF at h
      split at h
      · split at h
        · split at h
          · rename_i m _ hc
            cases h
            rw [(sgnZ_abs neg m).1]
            omega
          · cases h
        · cases h
      · cases h
  by_cases h : ∃ t, s = 45 :: t
  · obtain ⟨t, rfl⟩ := h
    have ht : t.length ≤ 1048576 := by simp at hs; omega
    have dS := readS_neg t ht
    have dI := readI_neg t ht
    obtain ⟨n, l, hl, e⟩ := fin true t
    rw [e] at dS dI
    exact ⟨n, l, _, hl, dS, dI⟩
  · have h45 : ∀ c r, s = c :: r → c ≠ 45 := fun c r e hc => h ⟨r, by rw [e, hc]⟩
    have dS := readS_pos s h45 hs
    have dI := readI_pos s h45 hs
    obtain ⟨n, l, hl, e⟩ := fin false s
    rw [e] at dS dI
    exact ⟨n, l, _, hl, dS, dI⟩
end Go.Vx
