/- B14, B15 -/
import Derived.Test.YtiaobnkihhnmhaaBGd
import Derived.Test.YtiaobnkihhnmhaaLGa
set_option linter.unusedVariables false
set_option linter.unusedSectionVars false
set_option linter.unusedSimpArgs false
section
/- Chapter 1: products by halves. -/
namespace Go.Vx
open Go.Proofs
set_option maxRecDepth 100000

theorem l1Low_den (m h : Nat) (hl : (Lm.lim m).length ≤ 400000000000) (hh : h ≤ 400000000000) : D 74 [lP (Lm.lim m), iP (h : Int)] true (.one (lP (Lm.lim (m % 65536 ^ h)))) := by
  have e := Lm.cut_take_lim m h
  have c := Lm.cut_lim m
  have l2 : ((Lm.lim m).take h).length ≤ 400000000000 := by simp; omega
  generalize Lm.lim m = l at *
  refine go Try.func74 rfl rfl ?_
  repeat refine vs ?_
  conv => whnf
  by_cases h1 : (l.length : Int) ≤ h
  · have e1 : l.take h = l := List.take_of_length_le (by omega)
    rw [e1] at e
    repeat refine vs ?_
    conv => whnf
    refine CallS.mk _ rfl true true _ (l1Cut_den l (by omega)) rfl ?_
    repeat refine vs ?_
    conv => whnf
    exact ⟨by simp [toRes, e], rfl⟩
  · repeat refine vs ?_
    conv => whnf
    refine SubK.mk (0) (h) (by first | rfl | (show _ = _; omega)) (by first | rfl | (show _ = _; omega)) (by omega) (by omega) ?_
    repeat refine vs ?_
    conv => whnf
    refine CallS.mk _ rfl true true _ (l1Cut_den (l.take h) (by omega)) rfl ?_
    repeat refine vs ?_
    conv => whnf
    exact ⟨by simp [toRes, e], rfl⟩

theorem l1High_den (m h : Nat) (hl : (Lm.lim m).length ≤ 400000000000) (hh : h ≤ 400000000000) : D 75 [lP (Lm.lim m), iP (h : Int)] true (.one (lP (Lm.lim (m / 65536 ^ h)))) := by
  have e := Lm.cut_drop_lim m h
  have l2 : ((Lm.lim m).drop h).length ≤ 400000000000 := by simp; omega
  generalize Lm.lim m = l at *
  refine go Try.func75 rfl rfl ?_
  repeat refine vs ?_
  conv => whnf
  by_cases h1 : (l.length : Int) ≤ h
  · have e1 : l.drop h = [] := List.drop_of_length_le (by omega)
    rw [e1] at e
    have e2 : Lm.cut [] = [] := rfl
    rw [e2] at e
    repeat refine vs ?_
    conv => whnf
    exact ⟨by simp [toRes, ← e], rfl⟩
  · repeat refine vs ?_
    conv => whnf
    refine SubK.mk (h) (l.length) (by first | rfl | (show _ = _; omega)) (by first | rfl | (show _ = _; omega)) (by omega) (by omega) ?_
    repeat refine vs ?_
    conv => whnf
    have e3 : ((l.take l.length).drop h) = l.drop h := by rw [List.take_length]
    rw [e3]
    refine CallS.mk _ rfl true true _ (l1Cut_den (l.drop h) (by omega)) rfl ?_
    repeat refine vs ?_
    conv => whnf
    exact ⟨by simp [toRes, e], rfl⟩

theorem l1Shift_den (m h : Nat) (hl : (Lm.lim m).length ≤ 400000000000) (hh : h ≤ 400000000000) : D 78 [lP (Lm.lim m), iP (h : Int)] true (.one (lP (Lm.lim (65536 ^ h * m)))) := by
  by_cases h0 : m = 0
  · subst h0
    rw [Nat.mul_zero, Lm.lim_zero]
    refine go Try.func78 rfl rfl ?_
    repeat refine vs ?_
    conv => whnf
    first | rfl | exact ⟨rfl, rfl⟩ | exact ⟨by simp [toRes], rfl⟩
  · have e := Lm.lim_shift h0 h
    have hn : Lm.lim m ≠ [] := fun e => h0 (Lm.lim_eq_nil.1 e)
    have hn2 := List.length_pos_iff.2 hn
    generalize Lm.lim m = l at *
    refine go Try.func78 rfl rfl ?_
    repeat refine vs ?_
    conv => whnf
    refine MakeK.mk h rfl rfl (by omega) true ?_
    repeat refine vs ?_
    conv => whnf
    exact ⟨by simp [toRes, e], rfl⟩

set_option maxHeartbeats 4000000 in
theorem l1Halves_den : ∀ (s m n : Nat), m + n = s → (Lm.lim m).length ≤ 100000000000 → (Lm.lim n).length ≤ 100000000000 → D 57 [lP (Lm.lim m), lP (Lm.lim n)] true (.one (lP (Lm.lim (m * n)))) := by
  intro s
  induction s using Nat.strongRecOn with
  | _ s ih =>
    intro m n hs hlm hln
    have dM := l1MulLimbs_den _ _ (Lm.lim_dig m) (Lm.lim_dig n) (by omega) (by omega)
    have hmn : (Lm.val (Lm.lim m) * Lm.val (Lm.lim n)).toNat = m * n := by rw [Lm.val_lim, Lm.val_lim, ← Int.natCast_mul, Int.toNat_natCast]
    rw [hmn] at dM
    -- the greater length, halved
    have big : ∀ (k : Nat), 2 < k → k ≤ 100000000000 → (k = (Lm.lim m).length ∨ k = (Lm.lim n).length) → ∃ P, P = 65536 ^ (k / 2) ∧
        D 74 [lP (Lm.lim m), iP ((k / 2 : Nat) : Int)] true (.one (lP (Lm.lim (m % P)))) ∧ D 74 [lP (Lm.lim n), iP ((k / 2 : Nat) : Int)] true (.one (lP (Lm.lim (n % P)))) ∧
        D 75 [lP (Lm.lim m), iP ((k / 2 : Nat) : Int)] true (.one (lP (Lm.lim (m / P)))) ∧ D 75 [lP (Lm.lim n), iP ((k / 2 : Nat) : Int)] true (.one (lP (Lm.lim (n / P)))) ∧
        D 57 [lP (Lm.lim (m % P)), lP (Lm.lim (n % P))] true (.one (lP (Lm.lim ((m % P) * (n % P))))) ∧
        D 57 [lP (Lm.lim (m / P)), lP (Lm.lim (n / P))] true (.one (lP (Lm.lim ((m / P) * (n / P))))) ∧
        D 76 [lP (Lm.lim (m % P)), lP (Lm.lim (m / P))] true (.one (lP (Lm.lim (m % P + m / P)))) ∧ D 76 [lP (Lm.lim (n % P)), lP (Lm.lim (n / P))] true (.one (lP (Lm.lim (n % P + n / P)))) ∧
        D 57 [lP (Lm.lim (m % P + m / P)), lP (Lm.lim (n % P + n / P))] true (.one (lP (Lm.lim ((m % P + m / P) * (n % P + n / P))))) ∧
        D 77 [lP (Lm.lim ((m % P + m / P) * (n % P + n / P))), lP (Lm.lim ((m % P) * (n % P)))] true (.one (lP (Lm.lim ((m % P + m / P) * (n % P + n / P) - (m % P) * (n % P))))) ∧
        D 77 [lP (Lm.lim ((m % P + m / P) * (n % P + n / P) - (m % P) * (n % P))), lP (Lm.lim ((m / P) * (n / P)))] true (.one (lP (Lm.lim ((m % P + m / P) * (n % P + n / P) - (m % P) * (n % P) - (m / P) * (n / P))))) ∧
        D 78 [lP (Lm.lim ((m % P + m / P) * (n % P + n / P) - (m % P) * (n % P) - (m / P) * (n / P))), iP ((k / 2 : Nat) : Int)] true (.one (lP (Lm.lim (P * ((m % P + m / P) * (n % P + n / P) - (m % P) * (n % P) - (m / P) * (n / P)))))) ∧
        D 78 [lP (Lm.lim ((m / P) * (n / P))), iP (2 * ((k / 2 : Nat) : Int))] true (.one (lP (Lm.lim (P * P * ((m / P) * (n / P)))))) ∧
        D 76 [lP (Lm.lim (P * ((m % P + m / P) * (n % P + n / P) - (m % P) * (n % P) - (m / P) * (n / P)))), lP (Lm.lim (P * P * ((m / P) * (n / P))))] true (.one (lP (Lm.lim (P * ((m % P + m / P) * (n % P + n / P) - (m % P) * (n % P) - (m / P) * (n / P)) + P * P * ((m / P) * (n / P)))))) ∧
        D 76 [lP (Lm.lim ((m % P) * (n % P))), lP (Lm.lim (P * ((m % P + m / P) * (n % P + n / P) - (m % P) * (n % P) - (m / P) * (n / P)) + P * P * ((m / P) * (n / P))))] true (.one (lP (Lm.lim (m * n)))) ∧
        D 68 [lP (Lm.lim (m * n))] true (.one (lP (Lm.lim (m * n)))) := by
      intro k hk hk2 hkl
      refine ⟨65536 ^ (k / 2), rfl, ?_⟩
      have dl := fun x h => l1Low_den x (k / 2) h (by omega)
      have dh := fun x h => l1High_den x (k / 2) h (by omega)
      have hP : 65536 ≤ 65536 ^ (k / 2) := Nat.le_self_pow (by omega) _
      have hgt : 65536 ^ (k / 2) ≤ m ∨ 65536 ^ (k / 2) ≤ n := by
        rcases hkl with e | e
        · exact .inl (Lm.lim_big (by omega))
        · exact .inr (Lm.lim_big (by omega))
      have hid := Lm.halves m n (65536 ^ (k / 2))
      have hsh : ∀ x, (Lm.lim x).length ≤ 400000000000 → D 78 [lP (Lm.lim x), iP ((k / 2 : Nat) : Int)] true (.one (lP (Lm.lim (65536 ^ (k / 2) * x)))) := fun x h => l1Shift_den x (k / 2) h (by omega)
      have hsh2 : ∀ x, (Lm.lim x).length ≤ 400000000000 → D 78 [lP (Lm.lim x), iP (2 * ((k / 2 : Nat) : Int))] true (.one (lP (Lm.lim (65536 ^ (k / 2) * 65536 ^ (k / 2) * x)))) := fun x h => by
        have := l1Shift_den x (2 * (k / 2)) h (by omega)
        rw [show ((2 * (k / 2) : Nat) : Int) = 2 * ((k / 2 : Nat) : Int) by omega, Nat.two_mul, Nat.pow_add] at this
        exact this
      have hmn2 := mul_len (m : Int) (n : Int)
      simp only [Int.natAbs_natCast, Lm.ln] at hmn2
      generalize 65536 ^ (k / 2) = P at *
      have m1 : m % P ≤ m := Nat.mod_le _ _
      have n1 : n % P ≤ n := Nat.mod_le _ _
      have m2 : m / P ≤ m := Nat.div_le_self _ _
      have n2 : n / P ≤ n := Nat.div_le_self _ _
      have mlt : P ≤ m → m % P < m ∧ m / P < m ∧ m % P + m / P < m := fun h => by
        have e := Nat.mod_add_div m P
        have h1 := Nat.mod_lt m (show 0 < P by omega)
        have h2 : 0 < m / P := Nat.div_pos h (by omega)
        have h3 : 2 * (m / P) ≤ P * (m / P) := Nat.mul_le_mul_right _ (by omega)
        omega
      have nlt : P ≤ n → n % P < n ∧ n / P < n ∧ n % P + n / P < n := fun h => by
        have e := Nat.mod_add_div n P
        have h1 := Nat.mod_lt n (show 0 < P by omega)
        have h2 : 0 < n / P := Nat.div_pos h (by omega)
        have h3 : 2 * (n / P) ≤ P * (n / P) := Nat.mul_le_mul_right _ (by omega)
        omega
      have mle : m % P + m / P ≤ m := by
        by_cases h : P ≤ m
        · have := mlt h; omega
        · rw [Nat.mod_eq_of_lt (by omega), Nat.div_eq_of_lt (by omega)]; omega
      have nle : n % P + n / P ≤ n := by
        by_cases h : P ≤ n
        · have := nlt h; omega
        · rw [Nat.mod_eq_of_lt (by omega), Nat.div_eq_of_lt (by omega)]; omega
      have L : ∀ {x : Nat}, x ≤ m → (Lm.lim x).length ≤ 100000000000 := fun h => Nat.le_trans (lim_le h) hlm
      have L' : ∀ {x : Nat}, x ≤ n → (Lm.lim x).length ≤ 100000000000 := fun h => Nat.le_trans (lim_le h) hln
      have Lmn : ∀ {x : Nat}, x ≤ m * n → (Lm.lim x).length ≤ 200000000000 := fun h => by have := lim_le h; omega
      have dadd : ∀ x y : Nat, (Lm.lim x).length ≤ 400000000000 → (Lm.lim y).length ≤ 400000000000 → D 76 [lP (Lm.lim x), lP (Lm.lim y)] true (.one (lP (Lm.lim (x + y)))) := fun x y h1 h2 => by
        have := l1AddLimbs_den _ _ (Lm.lim_dig x) (Lm.lim_dig y) (by omega) (by omega)
        rwa [Lm.addF_lims] at this
      have dsub : ∀ x y : Nat, y ≤ x → (Lm.lim x).length ≤ 400000000000 → D 77 [lP (Lm.lim x), lP (Lm.lim y)] true (.one (lP (Lm.lim (x - y)))) := fun x y h h1 => by
        have h2 := lim_le h
        have := l1SubLimbs_den _ _ (Lm.lim_dig x) (Lm.lim_dig y) (by omega) (by omega)
        rwa [subL h] at this
      have s1 : (m % P) * (n % P) ≤ (m % P + m / P) * (n % P + n / P) := Nat.mul_le_mul (Nat.le_add_right _ _) (Nat.le_add_right _ _)
      have s2 : (m / P) * (n / P) ≤ (m % P + m / P) * (n % P + n / P) - (m % P) * (n % P) := by
        have : (m % P + m / P) * (n % P + n / P) = (m % P) * (n % P) + ((m % P) * (n / P) + (m / P) * (n % P)) + (m / P) * (n / P) := by grind
        omega
      have s3 : (m % P + m / P) * (n % P + n / P) ≤ m * n := Nat.mul_le_mul mle nle
      have b1 : (m % P) * (n % P) ≤ m * n := Nat.mul_le_mul m1 n1
      have b2 : (m / P) * (n / P) ≤ m * n := Nat.mul_le_mul m2 n2
      refine ⟨dl m (by omega), dl n (by omega), dh m (by omega), dh n (by omega), ih (m % P + n % P) (by rcases hgt with h | h; have := mlt h; omega; have := nlt h; omega) _ _ rfl (L m1) (L' n1),
        ih (m / P + n / P) (by rcases hgt with h | h; have := mlt h; omega; have := nlt h; omega) _ _ rfl (L m2) (L' n2),
        dadd _ _ (by have := L m1; omega) (by have := L m2; omega), dadd _ _ (by have := L' n1; omega) (by have := L' n2; omega),
        ih _ (by rcases hgt with h | h; have := mlt h; omega; have := nlt h; omega) _ _ rfl (L mle) (L' nle), dsub _ _ s1 (by have := Lmn s3; omega), dsub _ _ s2 (by have := Lmn (Nat.le_trans (Nat.sub_le _ ((m % P) * (n % P))) s3); omega), ?_, hsh2 _ (by have := Lmn b2; omega), ?_, ?_, ?_⟩
      · refine hsh _ ?_
        have := Lmn (Nat.le_trans (Nat.sub_le _ ((m / P) * (n / P))) (Nat.le_trans (Nat.sub_le _ ((m % P) * (n % P))) s3))
        omega
      · generalize (m % P + m / P) * (n % P + n / P) - (m % P) * (n % P) - (m / P) * (n / P) = A at *
        refine dadd _ _ ?_ ?_
        · have := Lmn (x := P * A) (by omega); omega
        · have := Lmn (x := P * P * ((m / P) * (n / P))) (by omega); omega
      · have h1 := dadd ((m % P) * (n % P)) (P * ((m % P + m / P) * (n % P + n / P) - (m % P) * (n % P) - (m / P) * (n / P)) + P * P * ((m / P) * (n / P))) (by have := Lmn b1; omega) (by have := Lmn (x := P * ((m % P + m / P) * (n % P + n / P) - (m % P) * (n % P) - (m / P) * (n / P)) + P * P * ((m / P) * (n / P))) (by omega); omega)
        rwa [hid] at h1
      · have h1 := l1Cut_den (Lm.lim (m * n)) (by omega)
        rwa [Lm.cut_lim] at h1
    have htd : ∀ k : Nat, (k : Int).tdiv 2 = ((k / 2 : Nat) : Int) := fun k => by rw [Int.tdiv_eq_ediv_of_nonneg (by omega)]; omega
    refine go Try.func57 rfl rfl ?_
    repeat refine vs ?_
    conv => whnf
    by_cases c1 : ((Lm.lim n).length : Int) > (Lm.lim m).length
    · by_cases c2 : ((Lm.lim n).length : Int) ≤ 2
      · repeat refine vs ?_
        conv => whnf
        refine CallS.mk _ rfl true true _ (dM) rfl ?_
        repeat refine vs ?_
        conv => whnf
        first | rfl | exact ⟨rfl, rfl⟩ | exact ⟨by simp [toRes], rfl⟩
      · obtain ⟨P, hP, a1, a2, a3, a4, a5, a6, a7, a8, a9, a10, a11, a12, a13, a14, a15, a16⟩ := big (Lm.lim n).length (by omega) (by omega) (.inr rfl)
        have ht := htd (Lm.lim n).length
        repeat refine vs ?_
        conv => whnf
        rw [ht]
        repeat refine vs ?_
        conv => whnf
        refine CallS.mk _ rfl true true _ (a1) rfl ?_
        repeat refine vs ?_
        conv => whnf
        refine CallS.mk _ rfl true true _ (a2) rfl ?_
        repeat refine vs ?_
        conv => whnf
        refine CallS.mk _ rfl true true _ (a5) rfl ?_
        repeat refine vs ?_
        conv => whnf
        refine CallS.mk _ rfl true true _ (a3) rfl ?_
        repeat refine vs ?_
        conv => whnf
        refine CallS.mk _ rfl true true _ (a4) rfl ?_
        repeat refine vs ?_
        conv => whnf
        refine CallS.mk _ rfl true true _ (a6) rfl ?_
        repeat refine vs ?_
        conv => whnf
        refine CallS.mk _ rfl true true _ (a1) rfl ?_
        repeat refine vs ?_
        conv => whnf
        refine CallS.mk _ rfl true true _ (a3) rfl ?_
        repeat refine vs ?_
        conv => whnf
        refine CallS.mk _ rfl true true _ (a7) rfl ?_
        repeat refine vs ?_
        conv => whnf
        refine CallS.mk _ rfl true true _ (a2) rfl ?_
        repeat refine vs ?_
        conv => whnf
        refine CallS.mk _ rfl true true _ (a4) rfl ?_
        repeat refine vs ?_
        conv => whnf
        refine CallS.mk _ rfl true true _ (a8) rfl ?_
        repeat refine vs ?_
        conv => whnf
        refine CallS.mk _ rfl true true _ (a9) rfl ?_
        repeat refine vs ?_
        conv => whnf
        refine CallS.mk _ rfl true true _ (a10) rfl ?_
        repeat refine vs ?_
        conv => whnf
        refine CallS.mk _ rfl true true _ (a11) rfl ?_
        repeat refine vs ?_
        conv => whnf
        refine CallS.mk _ rfl true true _ (a12) rfl ?_
        repeat refine vs ?_
        conv => whnf
        refine CallS.mk _ rfl true true _ (a13) rfl ?_
        repeat refine vs ?_
        conv => whnf
        refine CallS.mk _ rfl true true _ (a14) rfl ?_
        repeat refine vs ?_
        conv => whnf
        refine CallS.mk _ rfl true true _ (a15) rfl ?_
        repeat refine vs ?_
        conv => whnf
        refine CallS.mk _ rfl true true _ (a16) rfl ?_
        repeat refine vs ?_
        conv => whnf
        first | rfl | exact ⟨rfl, rfl⟩ | exact ⟨by simp [toRes], rfl⟩
    · by_cases c2 : ((Lm.lim m).length : Int) ≤ 2
      · repeat refine vs ?_
        conv => whnf
        refine CallS.mk _ rfl true true _ (dM) rfl ?_
        repeat refine vs ?_
        conv => whnf
        first | rfl | exact ⟨rfl, rfl⟩ | exact ⟨by simp [toRes], rfl⟩
      · obtain ⟨P, hP, a1, a2, a3, a4, a5, a6, a7, a8, a9, a10, a11, a12, a13, a14, a15, a16⟩ := big (Lm.lim m).length (by omega) (by omega) (.inl rfl)
        have ht := htd (Lm.lim m).length
        repeat refine vs ?_
        conv => whnf
        rw [ht]
        repeat refine vs ?_
        conv => whnf
        refine CallS.mk _ rfl true true _ (a1) rfl ?_
        repeat refine vs ?_
        conv => whnf
        refine CallS.mk _ rfl true true _ (a2) rfl ?_
        repeat refine vs ?_
        conv => whnf
        refine CallS.mk _ rfl true true _ (a5) rfl ?_
        repeat refine vs ?_
        conv => whnf
        refine CallS.mk _ rfl true true _ (a3) rfl ?_
        repeat refine vs ?_
        conv => whnf
        refine CallS.mk _ rfl true true _ (a4) rfl ?_
        repeat refine vs ?_
        conv => whnf
        refine CallS.mk _ rfl true true _ (a6) rfl ?_
        repeat refine vs ?_
        conv => whnf
        refine CallS.mk _ rfl true true _ (a1) rfl ?_
        repeat refine vs ?_
        conv => whnf
        refine CallS.mk _ rfl true true _ (a3) rfl ?_
        repeat refine vs ?_
        conv => whnf
        refine CallS.mk _ rfl true true _ (a7) rfl ?_
        repeat refine vs ?_
        conv => whnf
        refine CallS.mk _ rfl true true _ (a2) rfl ?_
        repeat refine vs ?_
        conv => whnf
        refine CallS.mk _ rfl true true _ (a4) rfl ?_
        repeat refine vs ?_
        conv => whnf
        refine CallS.mk _ rfl true true _ (a8) rfl ?_
        repeat refine vs ?_
        conv => whnf
        refine CallS.mk _ rfl true true _ (a9) rfl ?_
        repeat refine vs ?_
        conv => whnf
        refine CallS.mk _ rfl true true _ (a10) rfl ?_
        repeat refine vs ?_
        conv => whnf
        refine CallS.mk _ rfl true true _ (a11) rfl ?_
        repeat refine vs ?_
        conv => whnf
        refine CallS.mk _ rfl true true _ (a12) rfl ?_
        repeat refine vs ?_
        conv => whnf
        refine CallS.mk _ rfl true true _ (a13) rfl ?_
        repeat refine vs ?_
        conv => whnf
        refine CallS.mk _ rfl true true _ (a14) rfl ?_
        repeat refine vs ?_
        conv => whnf
        refine CallS.mk _ rfl true true _ (a15) rfl ?_
        repeat refine vs ?_
        conv => whnf
        refine CallS.mk _ rfl true true _ (a16) rfl ?_
        repeat refine vs ?_
        conv => whnf
        first | rfl | exact ⟨rfl, rfl⟩ | exact ⟨by simp [toRes], rfl⟩
end Go.Vx
end
section
/- Chapter 1: limbs shifted by bits, divided by one limb. -/
namespace Go.Vx
open Go.Proofs
set_option maxRecDepth 100000

theorem wrap_bit {n : Nat} (h : n < 9223372036854775808) : IntKind.i64.wrap (n : Int) = n := wrap64 (by omega) (by omega)
/-- Or of numbers whose bits are apart. -/
theorem or_add {x y : Int} {s : Nat} (hx : 0 ≤ x) (hx1 : x < 2 ^ s) (hy : 0 ≤ y) (hm : ∃ z, 0 ≤ z ∧ y = 2 ^ s * z) (hb : x + y < 9223372036854775808) : Go.bits .or .i64 x y = x + y := by
  obtain ⟨z, hz, rfl⟩ := hm
  obtain ⟨x, rfl⟩ := Int.eq_ofNat_of_zero_le hx
  obtain ⟨z, rfl⟩ := Int.eq_ofNat_of_zero_le hz
  have e : (2 : Int) ^ s * (z : Int) = ((2 ^ s * z : Nat) : Int) := by simp
  rw [e] at hb ⊢
  have hx2 : x < 2 ^ s := by exact_mod_cast hx1
  have h1 : (BitVec.ofInt 64 (x : Int)).toNat = x := by simp; omega
  have h2 : (BitVec.ofInt 64 ((2 ^ s * z : Nat) : Int)).toNat = 2 ^ s * z := by
    rw [BitVec.toNat_ofInt]
    have : ((2 ^ s * z : Nat) : Int) % ((2 ^ 64 : Nat) : Int) = ((2 ^ s * z : Nat) : Int) := Int.emod_eq_of_lt (by omega) (by omega)
    rw [this]
    exact Int.toNat_natCast _
  unfold Go.bits
  dsimp only
  rw [show IntKind.i64.bits = 64 from rfl, BitVec.toNat_or, h1, h2, Lm.or_nat hx2]
  rw [wrap_bit (by omega)]
  simp

theorem l1Up_den (l : List Int) (s : Nat) (hl : Lm.Dig l) (hs : s ≤ 15) (hln : l.length ≤ 500000000000) : ∃ u, Lm.Dig u ∧ u.length = l.length + 1 ∧ Lm.val u = Lm.val l * 2 ^ s ∧ D 91 [lP l, iP (s : Int)] true (.one (lP u)) := by
  obtain ⟨k, hk, hK, hk0, hK2, _⟩ := Lm.two_split (s := s) (by omega)
  refine ⟨Lm.lim (Lm.val l * 2 ^ s).toNat ++ List.replicate (l.length + 1 - (Lm.lim (Lm.val l * 2 ^ s).toNat).length) 0, ?_⟩
  have h0 : 0 ≤ Lm.val l * 2 ^ s := Int.mul_nonneg (Lm.val_nonneg hl) (by omega)
  have hlen : (Lm.lim (Lm.val l * 2 ^ s).toNat).length ≤ l.length + 1 := by
    rw [Lm.lim_length, Int.toNat_of_nonneg h0, Lm.pw_succ]
    have h1 := Lm.val_lt hl
    have h2 := Lm.val_nonneg hl
    have h3 : Lm.val l * 2 ^ s ≤ Lm.val l * 65536 := Int.mul_le_mul_of_nonneg_left hK2 h2
    omega
  have hdig : Lm.Dig (Lm.lim (Lm.val l * 2 ^ s).toNat ++ List.replicate (l.length + 1 - (Lm.lim (Lm.val l * 2 ^ s).toNat).length) 0) := (Lm.lim_dig _).append (Lm.Dig.replicate _)
  have hval : Lm.val (Lm.lim (Lm.val l * 2 ^ s).toNat ++ List.replicate (l.length + 1 - (Lm.lim (Lm.val l * 2 ^ s).toNat).length) 0) = Lm.val l * 2 ^ s := by
    rw [Lm.val_append, Lm.val_replicate, Lm.val_lim]
    omega
  have hul : (Lm.lim (Lm.val l * 2 ^ s).toNat ++ List.replicate (l.length + 1 - (Lm.lim (Lm.val l * 2 ^ s).toNat).length) 0).length = l.length + 1 := by simp; omega
  refine ⟨hdig, hul, hval, ?_⟩
  have fin : ∀ out : List Int, Lm.Dig out → out.length = l.length + 1 → Lm.val out = Lm.val l * 2 ^ s → out = Lm.lim (Lm.val l * 2 ^ s).toNat ++ List.replicate (l.length + 1 - (Lm.lim (Lm.val l * 2 ^ s).toNat).length) 0 :=
    fun out h1 h2 h3 => Lm.dig_inj h1 hdig (by rw [h2, hul]) (by rw [h3, hval])
  generalize Lm.lim (Lm.val l * 2 ^ s).toNat ++ List.replicate (l.length + 1 - (Lm.lim (Lm.val l * 2 ^ s).toNat).length) 0 = res at *
  have hexp : (2 : Int) ^ (min ((s : Int)).toNat IntKind.i64.bits) = 2 ^ s := by
    have : min ((s : Int)).toNat IntKind.i64.bits = s := by rw [Int.toNat_natCast, show IntKind.i64.bits = 64 from rfl]; omega
    rw [this]
  refine go Try.func91 rfl rfl ?_
  repeat refine vs ?_
  conv => whnf
  refine MakeK.mk (l.length + 1) (by omega) (by omega) (by omega) true ?_
  repeat refine vs ?_
  conv => whnf
  refine EVs.loopU (fun q : Nat × List Int => q.1 ≤ l.length ∧ Lm.UpIn l q.2 (2 ^ s) q.1) (fun q => l.length - q.1)
    (fun | (i, o) => [(15, .v false [.p (.int .i64 (i : Int))]), (5, .v false [.own (12, 0) 3 (.ints o)]), (12, .any)]) (0, List.replicate (l.length + 1) 0) ⟨by simp, Lm.UpIn.start hK⟩ (Wk.le (by repeat' (first | exact LeT.nil | refine LeT.drop1 ?_ | refine LeT.same1 ?_ | refine LeT.own1 ?_ | refine LeT.ownR ?_))) ?_
  rintro ⟨i, o⟩ ⟨hi, hin⟩
  dsimp only at hi hin
  have hlo := hin.len
  refine go1 ?_
  repeat refine vs ?_
  conv => whnf
  by_cases c1 : (i : Int) < l.length
  · have hlt : i < l.length := by omega
    obtain ⟨s1, s2, s3, s4, s5, s6, snext⟩ := hin.step hl hlt hk hK hk0 (by omega) (by omega)
    have g0 := List.getElem?_eq_getElem hlt
    have g1 := List.getElem?_eq_getElem (show i < o.length by omega)
    have hor : Go.bits .or .i64 o[i] ((l[i] * 2 ^ s) % 65536) = o[i] + (l[i] * 2 ^ s) % 65536 := or_add s1 s2 (Int.emod_nonneg _ (by omega)) s5 (by omega)
    obtain ⟨t1, t2⟩ := tdm s3
    repeat refine vs ?_
    conv => whnf
    refine Wr.mk (l[i] * 2 ^ s) (by rw [hexp]; exact wrap64 (by omega) (by omega)) ?_
    repeat refine vs ?_
    conv => whnf
    refine Eqz.mk _ t1 ?_
    repeat refine vs ?_
    conv => whnf
    refine Eqz.mk _ hor ?_
    repeat refine vs ?_
    conv => whnf
    first | refine Idx.mk (i) (by first | rfl | omega) (by omega) ?_ | skip
    repeat refine vs ?_
    conv => whnf
    first | refine Idx.mk ((i + 1)) (by first | rfl | omega) (by omega) ?_ | skip
    repeat refine vs ?_
    conv => whnf
    refine ⟨(i + 1, (o.set i (o[i] + (l[i] * 2 ^ s) % 65536)).set (i + 1) ((l[i] * 2 ^ s).tdiv 65536)), by simp only; omega, ⟨by simp only; omega, by simp only; rw [t2]; exact snext⟩, ?_⟩
    refine Wk.le ?_
    repeat' (first | exact LeT.nil | refine LeT.drop1 ?_ | refine LeT.same1 ?_ | refine LeT.own1 ?_ | refine LeT.ownR ?_)
  · have hi2 : i = l.length := by omega
    subst hi2
    have hv := hin.val
    rw [List.take_length] at hv
    have := fin o hin.dig hin.len hv
    subst this
    repeat refine vs ?_
    conv => whnf
    first | rfl | exact ⟨rfl, rfl⟩ | exact ⟨by simp [toRes], rfl⟩

theorem l1Down_den (l : List Int) (s : Nat) (hl : Lm.Dig l) (hs : s ≤ 15) (hln : l.length ≤ 500000000000) : D 95 [lP l, iP (s : Int)] true (.one (lP (Lm.lim (Lm.val l / 2 ^ s).toNat))) := by
  obtain ⟨k, hk, hK, hk0, hK2, _⟩ := Lm.two_split (s := s) (by omega)
  have hexp : (2 : Int) ^ (min ((s : Int)).toNat IntKind.i64.bits) = 2 ^ s := by
    have : min ((s : Int)).toNat IntKind.i64.bits = s := by rw [Int.toNat_natCast, show IntKind.i64.bits = 64 from rfl]; omega
    rw [this]
  refine go Try.func95 rfl rfl ?_
  repeat refine vs ?_
  conv => whnf
  refine MakeK.mk l.length (by omega) (by omega) (by omega) true ?_
  repeat refine vs ?_
  conv => whnf
  refine EVs.loopU (fun q : Nat × List Int => q.1 ≤ l.length ∧ Lm.Dig q.2 ∧ q.2.length = l.length ∧ Lm.val l / 2 ^ s = Lm.val (q.2.take q.1) + Lm.pw q.1 * (Lm.val (l.drop q.1) / 2 ^ s)) (fun q => l.length - q.1)
    (fun | (i, o) => [(12, .v false [.p (.int .i64 (i : Int))]), (5, .v false [.own (9, 0) 3 (.ints o)]), (9, .any)]) (0, List.replicate l.length 0) ⟨by simp, Lm.Dig.replicate _, by simp, by simp [Lm.val, Lm.pw]⟩ (Wk.le (by repeat' (first | exact LeT.nil | refine LeT.drop1 ?_ | refine LeT.same1 ?_ | refine LeT.own1 ?_ | refine LeT.ownR ?_))) ?_
  rintro ⟨i, o⟩ ⟨hi, hd, hol, hv⟩
  dsimp only at hi hd hol hv
  refine go1 ?_
  repeat refine vs ?_
  conv => whnf
  by_cases c1 : (i : Int) < l.length
  · have hlt : i < l.length := by omega
    obtain ⟨e1, e2, e3⟩ := Lm.down_digit hl hk hK hlt
    have g0 := List.getElem?_eq_getElem hlt
    have hx := hl.get hlt
    have hy := hl.getD (i + 1)
    have dB := l1Limb_den l (i + 1 : Nat) (by omega) (by omega)
    rw [Int.toNat_natCast] at dB
    have hor : Go.bits .or .i64 l[i] (l.getD (i + 1) 0 * 65536) = l[i] + l.getD (i + 1) 0 * 65536 := or_add (s := 16) hx.1 (by simpa using hx.2) (by omega) ⟨l.getD (i + 1) 0, hy.1, by omega⟩ (by omega)
    have hfd : (l[i] + l.getD (i + 1) 0 * 65536).fdiv (2 ^ (min ((s : Int)).toNat IntKind.i64.bits)) = (l[i] + l.getD (i + 1) 0 * 65536) / 2 ^ s := by rw [hexp, Int.fdiv_eq_ediv_of_nonneg _ (by omega)]
    have hq0 : 0 ≤ (l[i] + l.getD (i + 1) 0 * 65536) / 2 ^ s := Int.ediv_nonneg (by omega) (by omega)
    obtain ⟨t1, t2⟩ := tdm hq0
    repeat refine vs ?_
    conv => whnf
    refine CallS.mk _ rfl true true _ (dB) rfl ?_
    repeat refine vs ?_
    conv => whnf
    refine Wr.mk (l.getD (i + 1) 0 * 65536) (by rw [show (2 : Int) ^ (min (Int.toNat 16) IntKind.i64.bits) = 65536 from rfl]; exact wrap64 (by omega) (by omega)) ?_
    repeat refine vs ?_
    conv => whnf
    refine Eqz.mk _ hor ?_
    repeat refine vs ?_
    conv => whnf
    refine Eqz.mk _ hfd ?_
    repeat refine vs ?_
    conv => whnf
    refine Eqz.mk _ t1 ?_
    repeat refine vs ?_
    conv => whnf
    first | refine Idx.mk (i) (by first | rfl | omega) (by omega) ?_ | skip
    repeat refine vs ?_
    conv => whnf
    refine ⟨(i + 1, o.set i ((l[i] + l.getD (i + 1) 0 * 65536) / 2 ^ s % 65536)), by simp only; omega, ⟨by simp only; omega, hd.set e2 e3, by simpa using hol, ?_⟩, ?_⟩
    · simp only
      rw [hv, e1, Lm.val_take_succ, List.take_set_of_le (Nat.le_refl _), show (o.set i ((l[i] + l.getD (i + 1) 0 * 65536) / 2 ^ s % 65536)).getD i 0 = (l[i] + l.getD (i + 1) 0 * 65536) / 2 ^ s % 65536 by simp [List.getD, show i < o.length by omega], Lm.pw_succ]
      grind
    · refine Wk.le ?_
      repeat' (first | exact LeT.nil | refine LeT.drop1 ?_ | refine LeT.same1 ?_ | refine LeT.own1 ?_ | refine LeT.ownR ?_)
  · have hi2 : i = l.length := by omega
    subst hi2
    rw [List.take_of_length_le (by omega), List.drop_length] at hv
    simp only [Lm.val, Int.zero_ediv, Int.mul_zero, Int.add_zero] at hv
    have dC := l1Cut_den o (by omega)
    rw [Lm.cut_eq hd, ← hv] at dC
    repeat refine vs ?_
    conv => whnf
    refine CallS.mk _ rfl true true _ (dC) rfl ?_
    repeat refine vs ?_
    conv => whnf
    first | rfl | exact ⟨rfl, rfl⟩ | exact ⟨by simp [toRes], rfl⟩

theorem lim_int {x : Int} (h : 0 ≤ x) : Lm.val (Lm.lim x.toNat) = x := by rw [Lm.val_lim]; omega
theorem one_lim {x : Int} (h0 : 0 ≤ x) (h1 : x < 65536) : Lm.cut [x] = Lm.lim x.toNat := by
  rw [Lm.cut_eq (Lm.Dig.cons h0 h1 Lm.Dig.nil), Lm.val_single]
theorem tdmb {n b : Int} (h : 0 ≤ n) : n.tmod b = n % b ∧ n.tdiv b = n / b := ⟨Int.tmod_eq_emod_of_nonneg h, Int.tdiv_eq_ediv_of_nonneg h⟩

theorem l1Short_den (a : List Int) (b : Int) (ha : Lm.Dig a) (hb : 0 < b) (hb2 : b ≤ 65536) (hla : a.length ≤ 500000000000) :
    D 90 [lP a, iP b] true (.tup [lP (Lm.lim (Lm.val a / b).toNat), lP (Lm.lim (Lm.val a % b).toNat)]) := by
  refine go Try.func90 rfl rfl ?_
  repeat refine vs ?_
  conv => whnf
  refine MakeK.mk a.length (by omega) (by omega) (by omega) true ?_
  repeat refine vs ?_
  conv => whnf
  refine EVs.loopU (fun q : Nat × Int × Int × List Int => q.1 ≤ a.length ∧ q.2.1 = (q.1 : Int) - 1 ∧ Lm.ShortIn a q.2.2.2 b q.1 q.2.2.1) (fun q => q.1)
    (fun | (k, i, r, o) => [(8, .v false [.p (.int .i64 i)]), (7, .v false [.p (.int .i64 r)]), (6, .v false [.own (12, 0) 3 (.ints o)]), (12, .any)]) (a.length, (a.length : Int) - 1, 0, List.replicate a.length 0) ⟨by simp, by simp, Lm.ShortIn.start hb⟩ (Wk.le (by repeat' (first | exact LeT.nil | refine LeT.drop1 ?_ | refine LeT.same1 ?_ | refine LeT.own1 ?_ | refine LeT.ownR ?_))) ?_
  rintro ⟨k, i, r, o⟩ ⟨hk, hi, hin⟩
  dsimp only at hk hi hin
  have hol := hin.len
  refine go1 ?_
  repeat refine vs ?_
  conv => whnf
  by_cases c1 : i ≥ 0
  · obtain ⟨k, rfl⟩ : ∃ k', k = k' + 1 := ⟨k - 1, by omega⟩
    have hik : i = (k : Int) := by omega
    subst hik
    have hlt : k < a.length := by omega
    obtain ⟨s1, s2, s3, s4, snext⟩ := hin.step ha hb hb2 hlt rfl
    have r0 := hin.r0
    have r1 := hin.r1
    have hx := ha.get hlt
    have g0 := List.getElem?_eq_getElem hlt
    obtain ⟨t1, t2⟩ := tdmb (b := b) s1
    have hb0 : b ≠ 0 := by omega
    repeat refine vs ?_
    conv => whnf
    refine Eqz.mk _ t1 ?_
    repeat refine vs ?_
    conv => whnf
    refine ⟨(k, (k : Int) - 1, (r * 65536 + a[k]) % b, o.set k ((r * 65536 + a[k]).tdiv b)), by simp only; omega, ⟨by simp only; omega, by simp only, by simp only; rw [t2]; exact snext⟩, ?_⟩
    refine Wk.le ?_
    repeat' (first | exact LeT.nil | refine LeT.drop1 ?_ | refine LeT.same1 ?_ | refine LeT.own1 ?_ | refine LeT.ownR ?_)
  · have hk0 : k = 0 := by omega
    subst hk0
    obtain ⟨e1, e2⟩ := hin.done hb
    have r0 := hin.r0
    have r1 := hin.r1
    have dC := l1Cut_den o (by omega)
    rw [Lm.cut_eq hin.dig, e1] at dC
    have dR := l1Cut_den [r] (by simp)
    rw [one_lim r0 (by omega), e2] at dR
    rw [← e2] at dR
    repeat refine vs ?_
    conv => whnf
    refine CallS.mk _ rfl true true _ (dC) rfl ?_
    repeat refine vs ?_
    conv => whnf
    refine NewK.mk false ?_
    repeat refine vs ?_
    conv => whnf
    refine CallS.mk _ rfl true true _ (dR) rfl ?_
    repeat refine vs ?_
    conv => whnf
    exact ⟨by simp [toRes, e2], rfl⟩

theorem divSmall_den (a : List Int) (b : Int) (ha : Lm.Dig a) (hb : 0 < b) (hb2 : b ≤ 65536) (hla : a.length ≤ 500000000000) :
    D 96 [lP a, iP b] false (.tup [lP (Lm.lim (Lm.val a / b).toNat), iP (Lm.val a % b)]) := by
  refine go Try.func96 rfl rfl ?_
  repeat refine vs ?_
  conv => whnf
  refine MakeK.mk a.length (by omega) (by omega) (by omega) true ?_
  repeat refine vs ?_
  conv => whnf
  refine EVs.un (11, 0) ?_
  refine EVs.loopU (fun q : Nat × Int × Int × List Int => q.1 ≤ a.length ∧ q.2.1 = (q.1 : Int) - 1 ∧ Lm.ShortIn a q.2.2.2 b q.1 q.2.2.1) (fun q => q.1)
    (fun | (k, i, r, o) => [(8, .v false [.p (.int .i64 i)]), (7, .v false [.p (.int .i64 r)]), (6, .v false [.own (11, 0) 3 (.ints o)]), (11, .any)]) (a.length, (a.length : Int) - 1, 0, List.replicate a.length 0) ⟨by simp, by simp, Lm.ShortIn.start hb⟩ (Wk.le (by repeat' (first | exact LeT.nil | refine LeT.drop1 ?_ | refine LeT.same1 ?_ | refine LeT.own1 ?_ | refine LeT.ownR ?_))) ?_
  rintro ⟨k, i, r, o⟩ ⟨hk, hi, hin⟩
  dsimp only at hk hi hin
  have hol := hin.len
  refine go1 ?_
  repeat refine vs ?_
  conv => whnf
  by_cases c1 : i ≥ 0
  · obtain ⟨k, rfl⟩ : ∃ k', k = k' + 1 := ⟨k - 1, by omega⟩
    have hik : i = (k : Int) := by omega
    subst hik
    have hlt : k < a.length := by omega
    obtain ⟨s1, s2, s3, s4, snext⟩ := hin.step ha hb hb2 hlt rfl
    have r0 := hin.r0
    have r1 := hin.r1
    have hx := ha.get hlt
    have g0 := List.getElem?_eq_getElem hlt
    obtain ⟨t1, t2⟩ := tdmb (b := b) s1
    have hb0 : b ≠ 0 := by omega
    repeat refine vs ?_
    conv => whnf
    refine Eqz.mk _ t1 ?_
    repeat refine vs ?_
    conv => whnf
    refine ⟨(k, (k : Int) - 1, (r * 65536 + a[k]) % b, o.set k ((r * 65536 + a[k]).tdiv b)), by simp only; omega, ⟨by simp only; omega, by simp only, by simp only; rw [t2]; exact snext⟩, ?_⟩
    refine Wk.le ?_
    repeat' (first | exact LeT.nil | refine LeT.drop1 ?_ | refine LeT.same1 ?_ | refine LeT.own1 ?_ | refine LeT.ownR ?_)
  · have hk0 : k = 0 := by omega
    subst hk0
    obtain ⟨e1, e2⟩ := hin.done hb
    have dC := cut_den o (by omega)
    rw [Lm.cut_eq hin.dig, e1] at dC
    repeat refine vs ?_
    conv => whnf
    refine CallS.mk _ rfl false false _ (dC) rfl ?_
    repeat refine vs ?_
    conv => whnf
    exact by simp [toRes, e2]
end Go.Vx
end
