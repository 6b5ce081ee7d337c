/- Numbers split into halves. Plain Lean. -/
import Derived.Test.YtiaobnkihhnmhaaLp
namespace Lm
theorem pw_nat (h : Nat) : pw h = ((65536 ^ h : Nat) : Int) := by unfold pw; simp
theorem val_td (l : List Int) (h : Nat) (hl : h ≤ l.length) : val l = val (l.take h) + pw h * val (l.drop h) := by
  have := val_append (l.take h) (l.drop h)
  rw [List.take_append_drop, List.length_take, Nat.min_eq_left hl] at this
  exact this
theorem lim_split (m h : Nat) : val ((lim m).take h) = ((m % 65536 ^ h : Nat) : Int) ∧ val ((lim m).drop h) = ((m / 65536 ^ h : Nat) : Int) := by
  have hp : 0 < 65536 ^ h := Nat.pow_pos (by omega)
  by_cases hl : h ≤ (lim m).length
  · have e := val_td (lim m) h hl
    rw [val_lim, pw_nat] at e
    have h1 := val_lt ((lim_dig m).take h)
    have h2 := val_nonneg ((lim_dig m).take h)
    have h3 := val_nonneg ((lim_dig m).drop h)
    rw [List.length_take, Nat.min_eq_left hl, pw_nat] at h1
    generalize val ((lim m).take h) = a at *
    generalize val ((lim m).drop h) = b at *
    obtain ⟨a, rfl⟩ := Int.eq_ofNat_of_zero_le h2
    obtain ⟨b, rfl⟩ := Int.eq_ofNat_of_zero_le h3
    have e2 : m = a + 65536 ^ h * b := by exact_mod_cast e
    have h4 : a < 65536 ^ h := by exact_mod_cast h1
    rw [e2, Nat.add_mul_mod_self_left, Nat.mod_eq_of_lt h4, Nat.add_mul_div_left _ _ hp, Nat.div_eq_of_lt h4, Nat.zero_add]
    exact ⟨rfl, rfl⟩
  · have h1 : m < 65536 ^ h := by
      have := (lim_length m h).1 (by omega)
      rw [pw_nat] at this
      exact_mod_cast this
    rw [List.take_of_length_le (by omega), List.drop_of_length_le (by omega), val_lim, Nat.mod_eq_of_lt h1, Nat.div_eq_of_lt h1]
    exact ⟨rfl, rfl⟩
theorem cut_take_lim (m h : Nat) : cut ((lim m).take h) = lim (m % 65536 ^ h) := by
  rw [cut_eq ((lim_dig m).take h), (lim_split m h).1, Int.toNat_natCast]
theorem cut_drop_lim (m h : Nat) : cut ((lim m).drop h) = lim (m / 65536 ^ h) := by
  rw [cut_eq ((lim_dig m).drop h), (lim_split m h).2, Int.toNat_natCast]
theorem lim_shift {m : Nat} (hm : m ≠ 0) (h : Nat) : List.replicate h 0 ++ lim m = lim (65536 ^ h * m) := by
  refine can_eq' ⟨(Dig.replicate h).append (lim_dig m), ?_⟩ ?_
  · have hn : lim m ≠ [] := fun e => hm (lim_eq_nil.1 e)
    rw [List.getLast?_append]
    cases hg : (lim m).getLast? with
    | none => exact absurd (List.getLast?_eq_none_iff.1 hg) hn
    | some x =>
      have := (lim_can m).2
      rw [hg] at this
      simpa using this
  · rw [val_append, val_replicate, val_lim, List.length_replicate, pw_nat]
    simp
theorem addF_can : ∀ {a b : List Int} {c : Int}, Can a → Can b → 0 ≤ c → c ≤ 1 → Can (addF a b c)
  | [], [], c, _, _, h0, h1 => by
    unfold addF
    split
    · exact ⟨Dig.cons h0 (by omega) Dig.nil, by simp; omega⟩
    · exact Can.nil
  | x :: a, [], c, ha, hb, h0, h1 => by
    have hx := ha.1.head
    have ih := addF_can (c := (x + c) / 65536) ha.tail hb (by omega) (by omega)
    unfold addF
    refine can_cons (by omega) (by omega) ih fun e hz => ?_
    have h2 := addF_nil e
    have h3 : (x + c) / 65536 = 0 := by omega
    have : a = [] := h2.1
    subst this
    have := ha.ne_zero
    omega
  | [], y :: b, c, ha, hb, h0, h1 => by
    have hy := hb.1.head
    have ih := addF_can (c := (y + c) / 65536) ha hb.tail (by omega) (by omega)
    unfold addF
    refine can_cons (by omega) (by omega) ih fun e hz => ?_
    have h2 := addF_nil e
    have h3 : (y + c) / 65536 = 0 := by omega
    have : b = [] := h2.2.1
    subst this
    have := hb.ne_zero
    omega
  | x :: a, y :: b, c, ha, hb, h0, h1 => by
    have hx := ha.1.head
    have hy := hb.1.head
    have ih := addF_can (c := (x + y + c) / 65536) ha.tail hb.tail (by omega) (by omega)
    unfold addF
    refine can_cons (by omega) (by omega) ih fun e hz => ?_
    have h2 := addF_nil e
    have h3 : (x + y + c) / 65536 = 0 := by omega
    have e1 : a = [] := h2.1
    have e2 : b = [] := h2.2.1
    subst e1
    subst e2
    have := ha.ne_zero
    have := hb.ne_zero
    omega
    where
  can_cons {x : Int} {l : List Int} (h0 : 0 ≤ x) (h1 : x < 65536) (h : Can l) (hz : l = [] → x = 0 → False) : Can (x :: l) := by
    refine ⟨Dig.cons h0 h1 h.1, ?_⟩
    cases l with
    | nil => simp only [List.getLast?_singleton, ne_eq, Option.some.injEq]; exact hz rfl
    | cons y l => rw [List.getLast?_cons_cons]; exact h.2
  addF_nil {a b : List Int} {c : Int} (h : addF a b c = []) : a = [] ∧ b = [] ∧ ¬ 0 < c := by
    cases a with
    | nil => cases b with
      | nil =>
        unfold addF at h
        split at h
        · cases h
        · exact ⟨rfl, rfl, by assumption⟩
      | cons y b => simp [addF] at h
    | cons x a => cases b <;> simp [addF] at h
theorem addF_lims (m n : Nat) : addF (lim m) (lim n) 0 = lim (m + n) := by
  have h := addF_can (c := 0) (lim_can m) (lim_can n) (by omega) (by omega)
  have hs := addF_spec (c := 0) (lim_dig m) (lim_dig n) (by omega) (by omega)
  rw [val_lim, val_lim] at hs
  exact can_eq' h (by rw [hs.2]; simp)
/-- Three products of halves. -/
theorem halves (a b P : Nat) : (a % P) * (b % P) + (P * ((a % P + a / P) * (b % P + b / P) - (a % P) * (b % P) - (a / P) * (b / P)) + P * P * ((a / P) * (b / P))) = a * b := by
  have ha := Nat.mod_add_div a P
  have hb := Nat.mod_add_div b P
  generalize a % P = x at *
  generalize a / P = y at *
  generalize b % P = z at *
  generalize b / P = w at *
  subst ha
  subst hb
  have e : (x + y) * (z + w) - x * z - y * w = x * w + y * z := by
    have : (x + y) * (z + w) = x * z + (x * w + y * z) + y * w := by grind
    omega
  rw [e]
  grind
theorem lim_big {m h : Nat} (hl : h < (lim m).length) : 65536 ^ h ≤ m := by
  by_cases hc : 65536 ^ h ≤ m
  · exact hc
  · exfalso
    have := (lim_length m h).2 (by rw [pw_nat]; exact_mod_cast (by omega : m < 65536 ^ h))
    omega
end Lm
