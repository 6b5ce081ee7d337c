/- Chapter 1: the Big of an int. -/
import Derived.Test.YtiaobnkihhnmhaaB4
namespace Go.Vx
open Go.Proofs
set_option maxRecDepth 100000

theorem bigOfS_den (n : Int) (h1 : -9223372036854775808 ≤ n) (h2 : n ≤ 9223372036854775807) : D 18 [iP n] true (.one (bigV n)) := by
  refine go Try.func18 rfl rfl ?_
  repeat refine vs ?_
  conv => whnf
  refine EVs.loopU (fun q : Int × List Int => q.2 ++ Lm.lim q.1.natAbs = Lm.lim n.natAbs ∧ q.1.natAbs ≤ n.natAbs ∧ (n < 0 → q.1 ≤ 0) ∧ (0 ≤ n → 0 ≤ q.1)) (fun q => q.1.natAbs)
    (fun | (m, l) => [(4, .v false [.p (.int .i64 m)]), (3, .v false [.own (1000020, 0) 3 (.ints l)])]) (n, []) ⟨rfl, Nat.le_refl _, by omega, by omega⟩ (Wk.le (by repeat' (first | exact LeT.nil | refine LeT.drop1 ?_ | refine LeT.same1 ?_ | refine LeT.own1 ?_ | refine LeT.ownR ?_))) ?_
  rintro ⟨m, l⟩ ⟨hd, hle, hn, hp⟩
  dsimp only at hd hle hn hp
  have hlen : l.length ≤ 4 := by
    have e := congrArg List.length hd
    rw [List.length_append] at e
    have := Lm.lim64 (n := n.natAbs) (by omega)
    omega
  refine go1 ?_
  repeat refine vs ?_
  conv => whnf
  by_cases h0 : m ≠ 0
  · have hq : (m.tdiv 65536).natAbs = m.natAbs / 65536 := by rw [Int.natAbs_tdiv]; rfl
    have hr : (m.tmod 65536).natAbs = m.natAbs % 65536 := by rw [Int.natAbs_tmod]; rfl
    have hs := Lm.lim_step hd (by omega)
    have hq0 : n < 0 → m.tdiv 65536 ≤ 0 := fun h => by have := Int.tdiv_nonneg (a := -m) (b := 65536) (by have := hn h; omega) (by omega); rw [Int.neg_tdiv] at this; omega
    have hq1 : 0 ≤ n → 0 ≤ m.tdiv 65536 := fun h => Int.tdiv_nonneg (hp h) (by omega)
    repeat refine vs ?_
    conv => whnf
    refine Eqz.mk _ rfl ?_
    repeat refine vs ?_
    conv => whnf
    by_cases hx : m.tmod 65536 < 0
    · repeat refine vs ?_
      conv => whnf
      refine NewK.mk false ?_
      repeat refine vs ?_
      conv => whnf
      refine ⟨(m.tdiv 65536, l ++ [-(m.tmod 65536)]), by simp only; omega, ⟨?_, by simp only; omega, hq0, hq1⟩, ?_⟩
      · simp only
        rw [hq, show -(m.tmod 65536) = ((m.natAbs % 65536 : Nat) : Int) by omega]
        exact hs
      · refine Wk.le ?_
        repeat' (first | exact LeT.nil | refine LeT.drop1 ?_ | refine LeT.same1 ?_ | refine LeT.own1 ?_ | refine LeT.ownR ?_)
    · repeat refine vs ?_
      conv => whnf
      refine NewK.mk false ?_
      repeat refine vs ?_
      conv => whnf
      refine ⟨(m.tdiv 65536, l ++ [m.tmod 65536]), by simp only; omega, ⟨?_, by simp only; omega, hq0, hq1⟩, ?_⟩
      · simp only
        rw [hq, show m.tmod 65536 = ((m.natAbs % 65536 : Nat) : Int) by omega]
        exact hs
      · refine Wk.le ?_
        repeat' (first | exact LeT.nil | refine LeT.drop1 ?_ | refine LeT.same1 ?_ | refine LeT.own1 ?_ | refine LeT.ownR ?_)
  · have hm0 : m = 0 := by omega
    subst hm0
    have hl : l = Lm.lim n.natAbs := by rw [← hd]; simp [Lm.lim_zero]
    subst hl
    repeat refine vs ?_
    conv => whnf
    have d := fun b => l1Make_den b (Lm.lim n.natAbs) (by omega)
    rw [Lm.cut_lim] at d
    by_cases hneg : n < 0
    · repeat refine vs ?_
      conv => whnf
      refine CallS.mk _ rfl true true _ (d true) rfl ?_
      repeat refine vs ?_
      conv => whnf
      have : Lm.lim n.natAbs ≠ [] := fun e => by have := Lm.lim_neg e; omega
      exact ⟨by simp [toRes, hneg, this], rfl⟩
    · repeat refine vs ?_
      conv => whnf
      refine CallS.mk _ rfl true true _ (d false) rfl ?_
      repeat refine vs ?_
      conv => whnf
      exact ⟨by simp [toRes, hneg], rfl⟩

theorem wrapU_neg {n : Int} (h1 : -9223372036854775808 ≤ n) (h2 : n < 0) : IntKind.u64.wrap n = n + 18446744073709551616 := by
  rw [IntKind.wrap_u64]
  omega
theorem wrapU_neg2 {n : Int} (h1 : -9223372036854775808 ≤ n) (h2 : n < 0) : IntKind.u64.wrap (-(n + 18446744073709551616)) = -n := by
  rw [IntKind.wrap_u64]
  omega

theorem bigOfI_den (n : Int) (h1 : -9223372036854775808 ≤ n) (h2 : n ≤ 9223372036854775807) : D 19 [iP n] true (.one (bigV n)) := by
  refine go Try.func19 rfl rfl ?_
  by_cases hneg : n < 0
  · repeat refine vs ?_
    conv => whnf
    refine Wr.mk _ (wrapU_neg h1 hneg) ?_
    repeat refine vs ?_
    conv => whnf
    refine Wr.mk _ (wrapU_neg2 h1 hneg) ?_
    repeat refine vs ?_
    conv => whnf
    refine NewK.mk true ?_
    repeat refine vs ?_
    conv => whnf
    refine EVs.loopU (fun q : Int × List Int => q.2 ++ Lm.lim q.1.natAbs = Lm.lim n.natAbs ∧ 0 ≤ q.1 ∧ q.1 ≤ 9223372036854775808) (fun q => q.1.natAbs)
      (fun | (m, l) => [(4, .v false [.p (.int .u64 m)]), (5, .v false [.own (13, 0) 3 (.ints l)]), (13, .any)]) (-n, []) ⟨by simp, by simp only; omega, by simp only; omega⟩ (Wk.le (by repeat' (first | exact LeT.nil | refine LeT.drop1 ?_ | refine LeT.same1 ?_ | refine LeT.own1 ?_ | refine LeT.ownR ?_))) ?_
    rintro ⟨m, l⟩ ⟨hd, hm0, hm1⟩
    dsimp only at hd hm0 hm1
    have hlen : l.length ≤ 4 := by
      have e := congrArg List.length hd
      rw [List.length_append] at e
      have := Lm.lim64 (n := n.natAbs) (by omega)
      omega
    refine go1 ?_
    repeat refine vs ?_
    conv => whnf
    by_cases h0 : m > 0
    · have hq : (m.tdiv 65536).natAbs = m.natAbs / 65536 := by rw [Int.natAbs_tdiv]; rfl
      have hr : (m.tmod 65536).natAbs = m.natAbs % 65536 := by rw [Int.natAbs_tmod]; rfl
      have hs := Lm.lim_step hd (by omega)
      have hq0 := Int.tdiv_nonneg (a := m) (b := 65536) hm0 (by omega)
      have hr0 := Int.tmod_nonneg (a := m) 65536 hm0
      repeat refine vs ?_
      conv => whnf
      refine Eqz.mk _ rfl ?_
      repeat refine vs ?_
      conv => whnf
      refine NewK.mk false ?_
      repeat refine vs ?_
      conv => whnf
      refine ⟨(m.tdiv 65536, l ++ [m.tmod 65536]), by simp only; omega, ⟨?_, by simp only; omega, by simp only; omega⟩, ?_⟩
      · simp only
        rw [hq, show m.tmod 65536 = ((m.natAbs % 65536 : Nat) : Int) by omega]
        exact hs
      · refine Wk.le ?_
        repeat' (first | exact LeT.nil | refine LeT.drop1 ?_ | refine LeT.same1 ?_ | refine LeT.own1 ?_ | refine LeT.ownR ?_)
    · have hm0 : m = 0 := by omega
      subst hm0
      have hl : l = Lm.lim n.natAbs := by rw [← hd]; simp [Lm.lim_zero]
      subst hl
      repeat refine vs ?_
      conv => whnf
      exact ⟨by simp [toRes, hneg], rfl⟩
  · repeat refine vs ?_
    conv => whnf
    refine NewK.mk true ?_
    repeat refine vs ?_
    conv => whnf
    refine EVs.loopU (fun q : Int × List Int => q.2 ++ Lm.lim q.1.natAbs = Lm.lim n.natAbs ∧ 0 ≤ q.1 ∧ q.1 ≤ 9223372036854775808) (fun q => q.1.natAbs)
      (fun | (m, l) => [(4, .v false [.p (.int .u64 m)]), (5, .v false [.own (13, 0) 3 (.ints l)]), (13, .any)]) (n, []) ⟨by simp, by simp only; omega, by simp only; omega⟩ (Wk.le (by repeat' (first | exact LeT.nil | refine LeT.drop1 ?_ | refine LeT.same1 ?_ | refine LeT.own1 ?_ | refine LeT.ownR ?_))) ?_
    rintro ⟨m, l⟩ ⟨hd, hm0, hm1⟩
    dsimp only at hd hm0 hm1
    have hlen : l.length ≤ 4 := by
      have e := congrArg List.length hd
      rw [List.length_append] at e
      have := Lm.lim64 (n := n.natAbs) (by omega)
      omega
    refine go1 ?_
    repeat refine vs ?_
    conv => whnf
    by_cases h0 : m > 0
    · have hq : (m.tdiv 65536).natAbs = m.natAbs / 65536 := by rw [Int.natAbs_tdiv]; rfl
      have hr : (m.tmod 65536).natAbs = m.natAbs % 65536 := by rw [Int.natAbs_tmod]; rfl
      have hs := Lm.lim_step hd (by omega)
      have hq0 := Int.tdiv_nonneg (a := m) (b := 65536) hm0 (by omega)
      have hr0 := Int.tmod_nonneg (a := m) 65536 hm0
      repeat refine vs ?_
      conv => whnf
      refine Eqz.mk _ rfl ?_
      repeat refine vs ?_
      conv => whnf
      refine NewK.mk false ?_
      repeat refine vs ?_
      conv => whnf
      refine ⟨(m.tdiv 65536, l ++ [m.tmod 65536]), by simp only; omega, ⟨?_, by simp only; omega, by simp only; omega⟩, ?_⟩
      · simp only
        rw [hq, show m.tmod 65536 = ((m.natAbs % 65536 : Nat) : Int) by omega]
        exact hs
      · refine Wk.le ?_
        repeat' (first | exact LeT.nil | refine LeT.drop1 ?_ | refine LeT.same1 ?_ | refine LeT.own1 ?_ | refine LeT.ownR ?_)
    · have hm0 : m = 0 := by omega
      subst hm0
      have hl : l = Lm.lim n.natAbs := by rw [← hd]; simp [Lm.lim_zero]
      subst hl
      repeat refine vs ?_
      conv => whnf
      exact ⟨by simp [toRes, hneg], rfl⟩
end Go.Vx
