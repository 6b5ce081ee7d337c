/- Chapter 1: the int of a Big. -/
import Derived.Test.YtiaobnkihhnmhaaB5
namespace Go.Vx
open Go.Proofs
set_option maxRecDepth 100000

theorem intOfBoth (neg : Bool) (l : List Int) (hl : l.length ≤ 1000000000000) : ∃ z b, D 24 [rawV neg l] true (.tup [iP z, bP b]) ∧ D 25 [rawV neg l] true (.tup [iP z, bP b]) := by
  by_cases hg : Lm.Good neg l
  · have hc := hg.1
    have hv0 := Lm.val_nonneg hc.1
    have ec : Lm.val (Lm.lim (4611686018427387904 : Int).natAbs) = 4611686018427387904 := by rw [Lm.val_lim]; rfl
    have hl62 : (Lm.lim (4611686018427387904 : Int).natAbs).length ≤ 4 := Lm.lim64 (by decide)
    have dS := bigOfS_den 4611686018427387904 (by omega) (by omega)
    have dI := bigOfI_den 4611686018427387904 (by omega) (by omega)
    have cS := l1Cmp_den l _ hc (Lm.lim_can (4611686018427387904 : Int).natAbs) hl (by omega)
    have cI := compareLimbs_den l _ hc (Lm.lim_can (4611686018427387904 : Int).natAbs) hl (by omega)
    rw [ec] at cS cI
    by_cases hv : Lm.val l ≤ 4611686018427387904
    · have h4 : l.length ≤ 4 := by
        rw [Lm.can_length hc]
        have : Lm.pw 4 = 18446744073709551616 := by decide
        omega
      have hcm : ¬ cmpI (Lm.val l) 4611686018427387904 > 0 := by unfold cmpI; split <;> (try split) <;> omega
      refine ⟨if neg then -Lm.val l else Lm.val l, true, ?_, ?_⟩
      · refine go Try.func24 rfl rfl ?_
        repeat refine vs ?_
        conv => whnf
        refine CallS.mk _ rfl true true _ (goodS_den neg l hl) rfl ?_
        rw [goodB_true hg]
        repeat refine vs ?_
        conv => whnf
        refine CallS.mk _ rfl true true _ (dS) rfl ?_
        repeat refine vs ?_
        conv => whnf
        refine CallS.mk _ rfl true true _ (cS) rfl ?_
        repeat refine vs ?_
        conv => whnf
        refine EVs.loopU (fun k : Nat => k ≤ l.length) id (fun k => [(6, .v false [.p (.int .i64 ((k : Int) - 1))]), (5, .v false [.p (.int .i64 (Lm.val (l.drop k)))])]) l.length (Nat.le_refl _) (by rw [show Lm.val (l.drop l.length) = 0 by simp [Lm.val]]; exact Wk.le (by repeat' (first | exact LeT.nil | refine LeT.drop1 ?_ | refine LeT.same1 ?_))) ?_
        intro k hk
        refine go1 ?_
        repeat refine vs ?_
        conv => whnf
        by_cases hk0 : k = 0
        · subst hk0
          rw [List.drop_zero]
          cases neg
          · repeat refine vs ?_
            conv => whnf
            first | rfl | exact ⟨rfl, rfl⟩ | exact ⟨by simp [toRes], rfl⟩
          · repeat refine vs ?_
            conv => whnf
            first | rfl | exact ⟨rfl, rfl⟩ | exact ⟨by simp [toRes], rfl⟩
        · have hlt : k - 1 < l.length := by omega
          have hd := Lm.val_drop hlt
          rw [show k - 1 + 1 = k by omega] at hd
          have hle := Lm.val_drop_le hc.1 (k - 1)
          have hle2 := Lm.val_drop_le hc.1 k
          have hn0 := Lm.val_nonneg (hc.1.drop k)
          have hn1 := Lm.val_nonneg (hc.1.drop (k - 1))
          have hdg := hc.1 l[k - 1] (List.getElem_mem hlt)
          repeat refine vs ?_
          conv => whnf
          first | refine Idx.mk ((k - 1)) (by first | rfl | omega) (by omega) ?_ | skip
          repeat refine vs ?_
          conv => whnf
          first | refine LdI.mk (l[k - 1]) (List.getElem?_eq_getElem hlt) ?_ | skip
          repeat refine vs ?_
          conv => whnf
          refine ⟨k - 1, by simp; omega, by omega, ?_⟩
          rw [show (((k - 1 : Nat)) : Int) = (k : Int) - 1 by omega, hd, show l[k - 1] + 65536 * Lm.val (l.drop k) = Lm.val (l.drop k) * 65536 + l[k - 1] by omega]
          refine Wk.le ?_
          repeat' (first | exact LeT.nil | refine LeT.drop1 ?_ | refine LeT.same1 ?_ | refine LeT.own1 ?_ | refine LeT.ownR ?_)

      · refine go Try.func25 rfl rfl ?_
        repeat refine vs ?_
        conv => whnf
        refine CallS.mk _ rfl true true _ (goodI_den neg l hl) rfl ?_
        rw [goodB_true hg]
        repeat refine vs ?_
        conv => whnf
        refine CallS.mk _ rfl true true _ (dI) rfl ?_
        repeat refine vs ?_
        conv => whnf
        refine CallS.mk _ rfl true true _ (cI) rfl ?_
        repeat refine vs ?_
        conv => whnf
        refine EVs.loopU (fun k : Nat => k ≤ l.length) id (fun k => [(5, .v false [.p (.int .i64 ((k : Int) - 1))]), (4, .v false [.p (.int .i64 (Lm.val (l.drop k)))])]) l.length (Nat.le_refl _) (by rw [show Lm.val (l.drop l.length) = 0 by simp [Lm.val]]; exact Wk.le (by repeat' (first | exact LeT.nil | refine LeT.drop1 ?_ | refine LeT.same1 ?_))) ?_
        intro k hk
        refine go1 ?_
        repeat refine vs ?_
        conv => whnf
        by_cases hk0 : k = 0
        · subst hk0
          rw [List.drop_zero]
          cases neg
          · repeat refine vs ?_
            conv => whnf
            first | rfl | exact ⟨rfl, rfl⟩ | exact ⟨by simp [toRes], rfl⟩
          · repeat refine vs ?_
            conv => whnf
            first | rfl | exact ⟨rfl, rfl⟩ | exact ⟨by simp [toRes], rfl⟩
        · have hlt : k - 1 < l.length := by omega
          have hd := Lm.val_drop hlt
          rw [show k - 1 + 1 = k by omega] at hd
          have hle := Lm.val_drop_le hc.1 (k - 1)
          have hle2 := Lm.val_drop_le hc.1 k
          have hn0 := Lm.val_nonneg (hc.1.drop k)
          have hn1 := Lm.val_nonneg (hc.1.drop (k - 1))
          have hdg := hc.1 l[k - 1] (List.getElem_mem hlt)
          repeat refine vs ?_
          conv => whnf
          first | refine Idx.mk ((k - 1)) (by first | rfl | omega) (by omega) ?_ | skip
          repeat refine vs ?_
          conv => whnf
          first | refine LdI.mk (l[k - 1]) (List.getElem?_eq_getElem hlt) ?_ | skip
          repeat refine vs ?_
          conv => whnf
          refine ⟨k - 1, by simp; omega, by omega, ?_⟩
          rw [show (((k - 1 : Nat)) : Int) = (k : Int) - 1 by omega, hd, show l[k - 1] + 65536 * Lm.val (l.drop k) = Lm.val (l.drop k) * 65536 + l[k - 1] by omega]
          refine Wk.le ?_
          repeat' (first | exact LeT.nil | refine LeT.drop1 ?_ | refine LeT.same1 ?_ | refine LeT.own1 ?_ | refine LeT.ownR ?_)

    · have hcm : cmpI (Lm.val l) 4611686018427387904 > 0 := by unfold cmpI; rw [if_neg (by omega), if_pos (by omega)]; omega
      refine ⟨0, false, ?_, ?_⟩
      · refine go Try.func24 rfl rfl ?_
        repeat refine vs ?_
        conv => whnf
        refine CallS.mk _ rfl true true _ (goodS_den neg l hl) rfl ?_
        rw [goodB_true hg]
        repeat refine vs ?_
        conv => whnf
        by_cases h4 : (l.length : Int) > 4
        · repeat refine vs ?_
          conv => whnf
          first | rfl | exact ⟨rfl, rfl⟩ | exact ⟨by simp [toRes], rfl⟩
        · repeat refine vs ?_
          conv => whnf
          refine CallS.mk _ rfl true true _ (dS) rfl ?_
          repeat refine vs ?_
          conv => whnf
          refine CallS.mk _ rfl true true _ (cS) rfl ?_
          repeat refine vs ?_
          conv => whnf
          first | rfl | exact ⟨rfl, rfl⟩ | exact ⟨by simp [toRes], rfl⟩
      · refine go Try.func25 rfl rfl ?_
        repeat refine vs ?_
        conv => whnf
        refine CallS.mk _ rfl true true _ (goodI_den neg l hl) rfl ?_
        rw [goodB_true hg]
        repeat refine vs ?_
        conv => whnf
        refine CallS.mk _ rfl true true _ (dI) rfl ?_
        repeat refine vs ?_
        conv => whnf
        refine CallS.mk _ rfl true true _ (cI) rfl ?_
        repeat refine vs ?_
        conv => whnf
        first | rfl | exact ⟨rfl, rfl⟩ | exact ⟨by simp [toRes], rfl⟩
  · refine ⟨0, false, ?_, ?_⟩
    · refine go Try.func24 rfl rfl ?_
      repeat refine vs ?_
      conv => whnf
      refine CallS.mk _ rfl true true _ (goodS_den neg l hl) rfl ?_
      rw [goodB_false hg]
      repeat refine vs ?_
      conv => whnf
      first | rfl | exact ⟨rfl, rfl⟩ | exact ⟨by simp [toRes], rfl⟩
    · refine go Try.func25 rfl rfl ?_
      repeat refine vs ?_
      conv => whnf
      refine CallS.mk _ rfl true true _ (goodI_den neg l hl) rfl ?_
      rw [goodB_false hg]
      repeat refine vs ?_
      conv => whnf
      first | rfl | exact ⟨rfl, rfl⟩ | exact ⟨by simp [toRes], rfl⟩
end Go.Vx
