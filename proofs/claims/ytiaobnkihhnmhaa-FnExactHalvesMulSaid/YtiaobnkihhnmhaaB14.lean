/- Chapter 1: products by halves. -/
import Derived.Test.YtiaobnkihhnmhaaB13
import Derived.Test.YtiaobnkihhnmhaaLh
namespace Go.Vx
open Go.Proofs
set_option maxRecDepth 100000

theorem l1Low_den (m h : Nat) (hl : (Lm.lim m).length ≤ 400000000000) (hh : h ≤ 400000000000) : D 74 [lP (Lm.lim m), iP (h : Int)] true (.one (lP (Lm.lim (m % 65536 ^ h)))) := by
  have e := Lm.cut_take_lim m h
  have c := Lm.cut_lim m
  have l2 : ((Lm.lim m).take h).length ≤ 400000000000 := by simp; omega
  generalize Lm.lim m = l at *
  refine go Try.func74 rfl rfl ?_
  repeat refine vs ?_
  conv => whnf
  by_cases h1 : (l.length : Int) ≤ h
  · have e1 : l.take h = l := List.take_of_length_le (by omega)
    rw [e1] at e
    repeat refine vs ?_
    conv => whnf
    refine CallS.mk _ rfl true true _ (l1Cut_den l (by omega)) rfl ?_
    repeat refine vs ?_
    conv => whnf
    exact ⟨by simp [toRes, e], rfl⟩
  · repeat refine vs ?_
    conv => whnf
    refine SubK.mk (0) (h) (by first | rfl | (show _ = _; omega)) (by first | rfl | (show _ = _; omega)) (by omega) (by omega) ?_
    repeat refine vs ?_
    conv => whnf
    refine CallS.mk _ rfl true true _ (l1Cut_den (l.take h) (by omega)) rfl ?_
    repeat refine vs ?_
    conv => whnf
    exact ⟨by simp [toRes, e], rfl⟩

theorem l1High_den (m h : Nat) (hl : (Lm.lim m).length ≤ 400000000000) (hh : h ≤ 400000000000) : D 75 [lP (Lm.lim m), iP (h : Int)] true (.one (lP (Lm.lim (m / 65536 ^ h)))) := by
  have e := Lm.cut_drop_lim m h
  have l2 : ((Lm.lim m).drop h).length ≤ 400000000000 := by simp; omega
  generalize Lm.lim m = l at *
  refine go Try.func75 rfl rfl ?_
  repeat refine vs ?_
  conv => whnf
  by_cases h1 : (l.length : Int) ≤ h
  · have e1 : l.drop h = [] := List.drop_of_length_le (by omega)
    rw [e1] at e
    have e2 : Lm.cut [] = [] := rfl
    rw [e2] at e
    repeat refine vs ?_
    conv => whnf
    exact ⟨by simp [toRes, ← e], rfl⟩
  · repeat refine vs ?_
    conv => whnf
    refine SubK.mk (h) (l.length) (by first | rfl | (show _ = _; omega)) (by first | rfl | (show _ = _; omega)) (by omega) (by omega) ?_
    repeat refine vs ?_
    conv => whnf
    have e3 : ((l.take l.length).drop h) = l.drop h := by rw [List.take_length]
    rw [e3]
    refine CallS.mk _ rfl true true _ (l1Cut_den (l.drop h) (by omega)) rfl ?_
    repeat refine vs ?_
    conv => whnf
    exact ⟨by simp [toRes, e], rfl⟩

theorem l1Shift_den (m h : Nat) (hl : (Lm.lim m).length ≤ 400000000000) (hh : h ≤ 400000000000) : D 78 [lP (Lm.lim m), iP (h : Int)] true (.one (lP (Lm.lim (65536 ^ h * m)))) := by
  by_cases h0 : m = 0
  · subst h0
    rw [Nat.mul_zero, Lm.lim_zero]
    refine go Try.func78 rfl rfl ?_
    repeat refine vs ?_
    conv => whnf
    first | rfl | exact ⟨rfl, rfl⟩ | exact ⟨by simp [toRes], rfl⟩
  · have e := Lm.lim_shift h0 h
    have hn : Lm.lim m ≠ [] := fun e => h0 (Lm.lim_eq_nil.1 e)
    have hn2 := List.length_pos_iff.2 hn
    generalize Lm.lim m = l at *
    refine go Try.func78 rfl rfl ?_
    repeat refine vs ?_
    conv => whnf
    refine MakeK.mk h rfl rfl (by omega) true ?_
    repeat refine vs ?_
    conv => whnf
    exact ⟨by simp [toRes, e], rfl⟩

set_option maxHeartbeats 4000000 in
theorem l1Halves_den : ∀ (s m n : Nat), m + n = s → (Lm.lim m).length ≤ 100000000000 → (Lm.lim n).length ≤ 100000000000 → D 57 [lP (Lm.lim m), lP (Lm.lim n)] true (.one (lP (Lm.lim (m * n)))) := by
  intro s
  induction s using Nat.strongRecOn with
  | _ s ih =>
    intro m n hs hlm hln
    have dM := l1MulLimbs_den _ _ (Lm.lim_dig m) (Lm.lim_dig n) (by omega) (by omega)
    have hmn : (Lm.val (Lm.lim m) * Lm.val (Lm.lim n)).toNat = m * n := by rw [Lm.val_lim, Lm.val_lim, ← Int.natCast_mul, Int.toNat_natCast]
    rw [hmn] at dM
    -- the greater length, halved
    have big : ∀ (k : Nat), 2 < k → k ≤ 100000000000 → (k = (Lm.lim m).length ∨ k = (Lm.lim n).length) → ∃ P, P = 65536 ^ (k / 2) ∧
        D 74 [lP (Lm.lim m), iP ((k / 2 : Nat) : Int)] true (.one (lP (Lm.lim (m % P)))) ∧ D 74 [lP (Lm.lim n), iP ((k / 2 : Nat) : Int)] true (.one (lP (Lm.lim (n % P)))) ∧
        D 75 [lP (Lm.lim m), iP ((k / 2 : Nat) : Int)] true (.one (lP (Lm.lim (m / P)))) ∧ D 75 [lP (Lm.lim n), iP ((k / 2 : Nat) : Int)] true (.one (lP (Lm.lim (n / P)))) ∧
        D 57 [lP (Lm.lim (m % P)), lP (Lm.lim (n % P))] true (.one (lP (Lm.lim ((m % P) * (n % P))))) ∧
        D 57 [lP (Lm.lim (m / P)), lP (Lm.lim (n / P))] true (.one (lP (Lm.lim ((m / P) * (n / P))))) ∧
        D 76 [lP (Lm.lim (m % P)), lP (Lm.lim (m / P))] true (.one (lP (Lm.lim (m % P + m / P)))) ∧ D 76 [lP (Lm.lim (n % P)), lP (Lm.lim (n / P))] true (.one (lP (Lm.lim (n % P + n / P)))) ∧
        D 57 [lP (Lm.lim (m % P + m / P)), lP (Lm.lim (n % P + n / P))] true (.one (lP (Lm.lim ((m % P + m / P) * (n % P + n / P))))) ∧
        D 77 [lP (Lm.lim ((m % P + m / P) * (n % P + n / P))), lP (Lm.lim ((m % P) * (n % P)))] true (.one (lP (Lm.lim ((m % P + m / P) * (n % P + n / P) - (m % P) * (n % P))))) ∧
        D 77 [lP (Lm.lim ((m % P + m / P) * (n % P + n / P) - (m % P) * (n % P))), lP (Lm.lim ((m / P) * (n / P)))] true (.one (lP (Lm.lim ((m % P + m / P) * (n % P + n / P) - (m % P) * (n % P) - (m / P) * (n / P))))) ∧
        D 78 [lP (Lm.lim ((m % P + m / P) * (n % P + n / P) - (m % P) * (n % P) - (m / P) * (n / P))), iP ((k / 2 : Nat) : Int)] true (.one (lP (Lm.lim (P * ((m % P + m / P) * (n % P + n / P) - (m % P) * (n % P) - (m / P) * (n / P)))))) ∧
        D 78 [lP (Lm.lim ((m / P) * (n / P))), iP (2 * ((k / 2 : Nat) : Int))] true (.one (lP (Lm.lim (P * P * ((m / P) * (n / P)))))) ∧
        D 76 [lP (Lm.lim (P * ((m % P + m / P) * (n % P + n / P) - (m % P) * (n % P) - (m / P) * (n / P)))), lP (Lm.lim (P * P * ((m / P) * (n / P))))] true (.one (lP (Lm.lim (P * ((m % P + m / P) * (n % P + n / P) - (m % P) * (n % P) - (m / P) * (n / P)) + P * P * ((m / P) * (n / P)))))) ∧
        D 76 [lP (Lm.lim ((m % P) * (n % P))), lP (Lm.lim (P * ((m % P + m / P) * (n % P + n / P) - (m % P) * (n % P) - (m / P) * (n / P)) + P * P * ((m / P) * (n / P))))] true (.one (lP (Lm.lim (m * n)))) ∧
        D 68 [lP (Lm.lim (m * n))] true (.one (lP (Lm.lim (m * n)))) := by
      intro k hk hk2 hkl
      refine ⟨65536 ^ (k / 2), rfl, ?_⟩
      have dl := fun x h => l1Low_den x (k / 2) h (by omega)
      have dh := fun x h => l1High_den x (k / 2) h (by omega)
      have hP : 65536 ≤ 65536 ^ (k / 2) := Nat.le_self_pow (by omega) _
      have hgt : 65536 ^ (k / 2) ≤ m ∨ 65536 ^ (k / 2) ≤ n := by
        rcases hkl with e | e
        · exact .inl (Lm.lim_big (by omega))
        · exact .inr (Lm.lim_big (by omega))
      have hid := Lm.halves m n (65536 ^ (k / 2))
      have hsh : ∀ x, (Lm.lim x).length ≤ 400000000000 → D 78 [lP (Lm.lim x), iP ((k / 2 : Nat) : Int)] true (.one (lP (Lm.lim (65536 ^ (k / 2) * x)))) := fun x h => l1Shift_den x (k / 2) h (by omega)
      have hsh2 : ∀ x, (Lm.lim x).length ≤ 400000000000 → D 78 [lP (Lm.lim x), iP (2 * ((k / 2 : Nat) : Int))] true (.one (lP (Lm.lim (65536 ^ (k / 2) * 65536 ^ (k / 2) * x)))) := fun x h => by
        have := l1Shift_den x (2 * (k / 2)) h (by omega)
        rw [show ((2 * (k / 2) : Nat) : Int) = 2 * ((k / 2 : Nat) : Int) by omega, Nat.two_mul, Nat.pow_add] at this
        exact this
      have hmn2 := mul_len (m : Int) (n : Int)
      simp only [Int.natAbs_natCast, Lm.ln] at hmn2
      generalize 65536 ^ (k / 2) = P at *
      have m1 : m % P ≤ m := Nat.mod_le _ _
      have n1 : n % P ≤ n := Nat.mod_le _ _
      have m2 : m / P ≤ m := Nat.div_le_self _ _
      have n2 : n / P ≤ n := Nat.div_le_self _ _
      have mlt : P ≤ m → m % P < m ∧ m / P < m ∧ m % P + m / P < m := fun h => by
        have e := Nat.mod_add_div m P
        have h1 := Nat.mod_lt m (show 0 < P by omega)
        have h2 : 0 < m / P := Nat.div_pos h (by omega)
        have h3 : 2 * (m / P) ≤ P * (m / P) := Nat.mul_le_mul_right _ (by omega)
        omega
      have nlt : P ≤ n → n % P < n ∧ n / P < n ∧ n % P + n / P < n := fun h => by
        have e := Nat.mod_add_div n P
        have h1 := Nat.mod_lt n (show 0 < P by omega)
        have h2 : 0 < n / P := Nat.div_pos h (by omega)
        have h3 : 2 * (n / P) ≤ P * (n / P) := Nat.mul_le_mul_right _ (by omega)
        omega
      have mle : m % P + m / P ≤ m := by
        by_cases h : P ≤ m
        · have := mlt h; omega
        · rw [Nat.mod_eq_of_lt (by omega), Nat.div_eq_of_lt (by omega)]; omega
      have nle : n % P + n / P ≤ n := by
        by_cases h : P ≤ n
        · have := nlt h; omega
        · rw [Nat.mod_eq_of_lt (by omega), Nat.div_eq_of_lt (by omega)]; omega
      have L : ∀ {x : Nat}, x ≤ m → (Lm.lim x).length ≤ 100000000000 := fun h => Nat.le_trans (lim_le h) hlm
      have L' : ∀ {x : Nat}, x ≤ n → (Lm.lim x).length ≤ 100000000000 := fun h => Nat.le_trans (lim_le h) hln
      have Lmn : ∀ {x : Nat}, x ≤ m * n → (Lm.lim x).length ≤ 200000000000 := fun h => by have := lim_le h; omega
      have dadd : ∀ x y : Nat, (Lm.lim x).length ≤ 400000000000 → (Lm.lim y).length ≤ 400000000000 → D 76 [lP (Lm.lim x), lP (Lm.lim y)] true (.one (lP (Lm.lim (x + y)))) := fun x y h1 h2 => by
        have := l1AddLimbs_den _ _ (Lm.lim_dig x) (Lm.lim_dig y) (by omega) (by omega)
        rwa [Lm.addF_lims] at this
      have dsub : ∀ x y : Nat, y ≤ x → (Lm.lim x).length ≤ 400000000000 → D 77 [lP (Lm.lim x), lP (Lm.lim y)] true (.one (lP (Lm.lim (x - y)))) := fun x y h h1 => by
        have h2 := lim_le h
        have := l1SubLimbs_den _ _ (Lm.lim_dig x) (Lm.lim_dig y) (by omega) (by omega)
        rwa [subL h] at this
      have s1 : (m % P) * (n % P) ≤ (m % P + m / P) * (n % P + n / P) := Nat.mul_le_mul (Nat.le_add_right _ _) (Nat.le_add_right _ _)
      have s2 : (m / P) * (n / P) ≤ (m % P + m / P) * (n % P + n / P) - (m % P) * (n % P) := by
        have : (m % P + m / P) * (n % P + n / P) = (m % P) * (n % P) + ((m % P) * (n / P) + (m / P) * (n % P)) + (m / P) * (n / P) := by grind
        omega
      have s3 : (m % P + m / P) * (n % P + n / P) ≤ m * n := Nat.mul_le_mul mle nle
      have b1 : (m % P) * (n % P) ≤ m * n := Nat.mul_le_mul m1 n1
      have b2 : (m / P) * (n / P) ≤ m * n := Nat.mul_le_mul m2 n2
      refine ⟨dl m (by omega), dl n (by omega), dh m (by omega), dh n (by omega), ih (m % P + n % P) (by rcases hgt with h | h; have := mlt h; omega; have := nlt h; omega) _ _ rfl (L m1) (L' n1),
        ih (m / P + n / P) (by rcases hgt with h | h; have := mlt h; omega; have := nlt h; omega) _ _ rfl (L m2) (L' n2),
        dadd _ _ (by have := L m1; omega) (by have := L m2; omega), dadd _ _ (by have := L' n1; omega) (by have := L' n2; omega),
        ih _ (by rcases hgt with h | h; have := mlt h; omega; have := nlt h; omega) _ _ rfl (L mle) (L' nle), dsub _ _ s1 (by have := Lmn s3; omega), dsub _ _ s2 (by have := Lmn (Nat.le_trans (Nat.sub_le _ ((m % P) * (n % P))) s3); omega), ?_, hsh2 _ (by have := Lmn b2; omega), ?_, ?_, ?_⟩
      · refine hsh _ ?_
        have := Lmn (Nat.le_trans (Nat.sub_le _ ((m / P) * (n / P))) (Nat.le_trans (Nat.sub_le _ ((m % P) * (n % P))) s3))
        omega
      · generalize (m % P + m / P) * (n % P + n / P) - (m % P) * (n % P) - (m / P) * (n / P) = A at *
        refine dadd _ _ ?_ ?_
        · have := Lmn (x := P * A) (by omega); omega
        · have := Lmn (x := P * P * ((m / P) * (n / P))) (by omega); omega
      · have h1 := dadd ((m % P) * (n % P)) (P * ((m % P + m / P) * (n % P + n / P) - (m % P) * (n % P) - (m / P) * (n / P)) + P * P * ((m / P) * (n / P))) (by have := Lmn b1; omega) (by have := Lmn (x := P * ((m % P + m / P) * (n % P + n / P) - (m % P) * (n % P) - (m / P) * (n / P)) + P * P * ((m / P) * (n / P))) (by omega); omega)
        rwa [hid] at h1
      · have h1 := l1Cut_den (Lm.lim (m * n)) (by omega)
        rwa [Lm.cut_lim] at h1
    have htd : ∀ k : Nat, (k : Int).tdiv 2 = ((k / 2 : Nat) : Int) := fun k => by rw [Int.tdiv_eq_ediv_of_nonneg (by omega)]; omega
    refine go Try.func57 rfl rfl ?_
    repeat refine vs ?_
    conv => whnf
    by_cases c1 : ((Lm.lim n).length : Int) > (Lm.lim m).length
    · by_cases c2 : ((Lm.lim n).length : Int) ≤ 2
      · repeat refine vs ?_
        conv => whnf
        refine CallS.mk _ rfl true true _ (dM) rfl ?_
        repeat refine vs ?_
        conv => whnf
        first | rfl | exact ⟨rfl, rfl⟩ | exact ⟨by simp [toRes], rfl⟩
      · obtain ⟨P, hP, a1, a2, a3, a4, a5, a6, a7, a8, a9, a10, a11, a12, a13, a14, a15, a16⟩ := big (Lm.lim n).length (by omega) (by omega) (.inr rfl)
        have ht := htd (Lm.lim n).length
        repeat refine vs ?_
        conv => whnf
        rw [ht]
        repeat refine vs ?_
        conv => whnf
        refine CallS.mk _ rfl true true _ (a1) rfl ?_
        repeat refine vs ?_
        conv => whnf
        refine CallS.mk _ rfl true true _ (a2) rfl ?_
        repeat refine vs ?_
        conv => whnf
        refine CallS.mk _ rfl true true _ (a5) rfl ?_
        repeat refine vs ?_
        conv => whnf
        refine CallS.mk _ rfl true true _ (a3) rfl ?_
        repeat refine vs ?_
        conv => whnf
        refine CallS.mk _ rfl true true _ (a4) rfl ?_
        repeat refine vs ?_
        conv => whnf
        refine CallS.mk _ rfl true true _ (a6) rfl ?_
        repeat refine vs ?_
        conv => whnf
        refine CallS.mk _ rfl true true _ (a1) rfl ?_
        repeat refine vs ?_
        conv => whnf
        refine CallS.mk _ rfl true true _ (a3) rfl ?_
        repeat refine vs ?_
        conv => whnf
        refine CallS.mk _ rfl true true _ (a7) rfl ?_
        repeat refine vs ?_
        conv => whnf
        refine CallS.mk _ rfl true true _ (a2) rfl ?_
        repeat refine vs ?_
        conv => whnf
        refine CallS.mk _ rfl true true _ (a4) rfl ?_
        repeat refine vs ?_
        conv => whnf
        refine CallS.mk _ rfl true true _ (a8) rfl ?_
        repeat refine vs ?_
        conv => whnf
        refine CallS.mk _ rfl true true _ (a9) rfl ?_
        repeat refine vs ?_
        conv => whnf
        refine CallS.mk _ rfl true true _ (a10) rfl ?_
        repeat refine vs ?_
        conv => whnf
        refine CallS.mk _ rfl true true _ (a11) rfl ?_
        repeat refine vs ?_
        conv => whnf
        refine CallS.mk _ rfl true true _ (a12) rfl ?_
        repeat refine vs ?_
        conv => whnf
        refine CallS.mk _ rfl true true _ (a13) rfl ?_
        repeat refine vs ?_
        conv => whnf
        refine CallS.mk _ rfl true true _ (a14) rfl ?_
        repeat refine vs ?_
        conv => whnf
        refine CallS.mk _ rfl true true _ (a15) rfl ?_
        repeat refine vs ?_
        conv => whnf
        refine CallS.mk _ rfl true true _ (a16) rfl ?_
        repeat refine vs ?_
        conv => whnf
        first | rfl | exact ⟨rfl, rfl⟩ | exact ⟨by simp [toRes], rfl⟩
    · by_cases c2 : ((Lm.lim m).length : Int) ≤ 2
      · repeat refine vs ?_
        conv => whnf
        refine CallS.mk _ rfl true true _ (dM) rfl ?_
        repeat refine vs ?_
        conv => whnf
        first | rfl | exact ⟨rfl, rfl⟩ | exact ⟨by simp [toRes], rfl⟩
      · obtain ⟨P, hP, a1, a2, a3, a4, a5, a6, a7, a8, a9, a10, a11, a12, a13, a14, a15, a16⟩ := big (Lm.lim m).length (by omega) (by omega) (.inl rfl)
        have ht := htd (Lm.lim m).length
        repeat refine vs ?_
        conv => whnf
        rw [ht]
        repeat refine vs ?_
        conv => whnf
        refine CallS.mk _ rfl true true _ (a1) rfl ?_
        repeat refine vs ?_
        conv => whnf
        refine CallS.mk _ rfl true true _ (a2) rfl ?_
        repeat refine vs ?_
        conv => whnf
        refine CallS.mk _ rfl true true _ (a5) rfl ?_
        repeat refine vs ?_
        conv => whnf
        refine CallS.mk _ rfl true true _ (a3) rfl ?_
        repeat refine vs ?_
        conv => whnf
        refine CallS.mk _ rfl true true _ (a4) rfl ?_
        repeat refine vs ?_
        conv => whnf
        refine CallS.mk _ rfl true true _ (a6) rfl ?_
        repeat refine vs ?_
        conv => whnf
        refine CallS.mk _ rfl true true _ (a1) rfl ?_
        repeat refine vs ?_
        conv => whnf
        refine CallS.mk _ rfl true true _ (a3) rfl ?_
        repeat refine vs ?_
        conv => whnf
        refine CallS.mk _ rfl true true _ (a7) rfl ?_
        repeat refine vs ?_
        conv => whnf
        refine CallS.mk _ rfl true true _ (a2) rfl ?_
        repeat refine vs ?_
        conv => whnf
        refine CallS.mk _ rfl true true _ (a4) rfl ?_
        repeat refine vs ?_
        conv => whnf
        refine CallS.mk _ rfl true true _ (a8) rfl ?_
        repeat refine vs ?_
        conv => whnf
        refine CallS.mk _ rfl true true _ (a9) rfl ?_
        repeat refine vs ?_
        conv => whnf
        refine CallS.mk _ rfl true true _ (a10) rfl ?_
        repeat refine vs ?_
        conv => whnf
        refine CallS.mk _ rfl true true _ (a11) rfl ?_
        repeat refine vs ?_
        conv => whnf
        refine CallS.mk _ rfl true true _ (a12) rfl ?_
        repeat refine vs ?_
        conv => whnf
        refine CallS.mk _ rfl true true _ (a13) rfl ?_
        repeat refine vs ?_
        conv => whnf
        refine CallS.mk _ rfl true true _ (a14) rfl ?_
        repeat refine vs ?_
        conv => whnf
        refine CallS.mk _ rfl true true _ (a15) rfl ?_
        repeat refine vs ?_
        conv => whnf
        refine CallS.mk _ rfl true true _ (a16) rfl ?_
        repeat refine vs ?_
        conv => whnf
        first | rfl | exact ⟨rfl, rfl⟩ | exact ⟨by simp [toRes], rfl⟩
end Go.Vx
