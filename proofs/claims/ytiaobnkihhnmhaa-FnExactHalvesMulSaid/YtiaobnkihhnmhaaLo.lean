/- Limbs added and subtracted, as the loops do it. Plain Lean. -/
import Derived.Test.YtiaobnkihhnmhaaLn
namespace Lm
/-- A sum, digit by digit, with a carry. -/
def addF : List Int → List Int → Int → List Int
  | [], [], c => if c > 0 then [c] else []
  | x :: a, [], c => (x + c) % 65536 :: addF a [] ((x + c) / 65536)
  | [], y :: b, c => (y + c) % 65536 :: addF [] b ((y + c) / 65536)
  | x :: a, y :: b, c => (x + y + c) % 65536 :: addF a b ((x + y + c) / 65536)
theorem addF_spec : ∀ {a b : List Int} {c : Int}, Dig a → Dig b → 0 ≤ c → c ≤ 1 → Dig (addF a b c) ∧ val (addF a b c) = val a + val b + c
  | [], [], c, _, _, h0, h1 => by
    unfold addF
    split
    · exact ⟨Dig.cons h0 (by omega) Dig.nil, by simp [val]⟩
    · exact ⟨Dig.nil, by simp [val]; omega⟩
  | x :: a, [], c, ha, _, h0, h1 => by
    have hx := ha.head
    have ih := addF_spec (c := (x + c) / 65536) ha.tail Dig.nil (by omega) (by omega)
    unfold addF
    exact ⟨Dig.cons (by omega) (by omega) ih.1, by rw [val_cons, ih.2, val_cons]; simp only [val]; omega⟩
  | [], y :: b, c, _, hb, h0, h1 => by
    have hx := hb.head
    have ih := addF_spec (c := (y + c) / 65536) Dig.nil hb.tail (by omega) (by omega)
    unfold addF
    exact ⟨Dig.cons (by omega) (by omega) ih.1, by rw [val_cons, ih.2, val_cons]; simp only [val]; omega⟩
  | x :: a, y :: b, c, ha, hb, h0, h1 => by
    have hx := ha.head
    have hy := hb.head
    have ih := addF_spec (c := (x + y + c) / 65536) ha.tail hb.tail (by omega) (by omega)
    unfold addF
    exact ⟨Dig.cons (by omega) (by omega) ih.1, by rw [val_cons, ih.2, val_cons, val_cons]; omega⟩
theorem addF_step {a b : List Int} {c : Int} {i : Nat} (h : i < a.length ∨ i < b.length) :
    addF (a.drop i) (b.drop i) c = (a.getD i 0 + b.getD i 0 + c) % 65536 :: addF (a.drop (i + 1)) (b.drop (i + 1)) ((a.getD i 0 + b.getD i 0 + c) / 65536) := by
  have ga : ∀ {l : List Int} (h : i < l.length), l.getD i 0 = l[i] := fun h => by simp [List.getD, h]
  have gn : ∀ {l : List Int}, ¬ i < l.length → l.getD i 0 = 0 ∧ l.drop i = [] ∧ l.drop (i + 1) = [] := fun h =>
    ⟨by simp [List.getD, h], List.drop_of_length_le (by omega), List.drop_of_length_le (by omega)⟩
  by_cases ha : i < a.length
  · by_cases hb : i < b.length
    · rw [ga ha, ga hb, show a.drop i = a[i] :: a.drop (i + 1) from (List.getElem_cons_drop ha).symm, show b.drop i = b[i] :: b.drop (i + 1) from (List.getElem_cons_drop hb).symm]
      rw [addF]
    · obtain ⟨e1, e2, e3⟩ := gn hb
      rw [ga ha, e1, e2, e3, show a.drop i = a[i] :: a.drop (i + 1) from (List.getElem_cons_drop ha).symm, Int.add_zero]
      rw [addF]
  · have hb : i < b.length := by omega
    obtain ⟨e1, e2, e3⟩ := gn ha
    rw [ga hb, e1, e2, e3, show b.drop i = b[i] :: b.drop (i + 1) from (List.getElem_cons_drop hb).symm, Int.zero_add]
    rw [addF]
theorem addF_len : ∀ {a b : List Int} {c : Int}, (addF a b c).length ≤ max a.length b.length + 1
  | [], [], c => by unfold addF; split <;> simp
  | x :: a, [], c => by unfold addF; have := addF_len (a := a) (b := []) (c := (x + c) / 65536); simp at this ⊢; omega
  | [], y :: b, c => by unfold addF; have := addF_len (a := []) (b := b) (c := (y + c) / 65536); simp at this ⊢; omega
  | x :: a, y :: b, c => by unfold addF; have := addF_len (a := a) (b := b) (c := (x + y + c) / 65536); simp at this ⊢; omega
end Lm
namespace Lm
/-- A difference, digit by digit, with a borrow. -/
def subF : List Int → List Int → Int → List Int
  | [], _, _ => []
  | x :: a, b, c => (if x - b.headD 0 - c < 0 then x - b.headD 0 - c + 65536 else x - b.headD 0 - c) :: subF a b.tail (if x - b.headD 0 - c < 0 then 1 else 0)
theorem subF_len : ∀ {a b : List Int} {c : Int}, (subF a b c).length = a.length
  | [], _, _ => rfl
  | x :: a, b, c => by unfold subF; rw [List.length_cons, subF_len, List.length_cons]
theorem val_ht {b : List Int} (h : Dig b) : val b = b.headD 0 + 65536 * val b.tail ∧ 0 ≤ b.headD 0 ∧ b.headD 0 < 65536 ∧ Dig b.tail := by
  cases b with
  | nil => exact ⟨by simp [val], by simp, by simp, Dig.nil⟩
  | cons y b => exact ⟨rfl, h.head.1, h.head.2, h.tail⟩
theorem subF_spec : ∀ {a b : List Int} {c : Int}, Dig a → Dig b → 0 ≤ c → c ≤ 1 → val b + c ≤ val a → Dig (subF a b c) ∧ val (subF a b c) = val a - val b - c
  | [], b, c, _, hb, h0, h1, hv => by
    have := val_nonneg hb
    simp only [val] at hv ⊢
    exact ⟨Dig.nil, by unfold subF; simp only [val]; omega⟩
  | x :: a, b, c, ha, hb, h0, h1, hv => by
    have hx := ha.head
    obtain ⟨e1, e2, e3, e4⟩ := val_ht hb
    rw [val_cons] at hv
    unfold subF
    by_cases hn : x - b.headD 0 - c < 0
    · rw [if_pos hn, if_pos hn]
      have ih := subF_spec (c := 1) ha.tail e4 (by omega) (by omega) (by omega)
      exact ⟨Dig.cons (by omega) (by omega) ih.1, by rw [val_cons, ih.2, val_cons]; omega⟩
    · rw [if_neg hn, if_neg hn]
      have ih := subF_spec (c := 0) ha.tail e4 (by omega) (by omega) (by omega)
      exact ⟨Dig.cons (by omega) (by omega) ih.1, by rw [val_cons, ih.2, val_cons]; omega⟩
theorem headD_drop (b : List Int) (i : Nat) : (b.drop i).headD 0 = b.getD i 0 := by
  by_cases h : i < b.length
  · rw [show b.drop i = b[i] :: b.drop (i + 1) from (List.getElem_cons_drop h).symm]
    simp [List.getD, h]
  · rw [List.drop_of_length_le (by omega)]
    simp [List.getD, h]
theorem subF_step {a b : List Int} {c : Int} {i : Nat} (h : i < a.length) :
    subF (a.drop i) (b.drop i) c = (if a[i] - b.getD i 0 - c < 0 then a[i] - b.getD i 0 - c + 65536 else a[i] - b.getD i 0 - c) :: subF (a.drop (i + 1)) (b.drop (i + 1)) (if a[i] - b.getD i 0 - c < 0 then 1 else 0) := by
  rw [show a.drop i = a[i] :: a.drop (i + 1) from (List.getElem_cons_drop h).symm, subF, headD_drop, List.tail_drop]
theorem subF_lim {a b : List Int} (ha : Dig a) (hb : Dig b) (h : val b ≤ val a) : cut (subF a b 0) = lim (val a - val b).toNat := by
  obtain ⟨h1, h2⟩ := subF_spec ha hb (by omega) (by omega) (show val b + 0 ≤ val a by omega)
  rw [cut_eq h1, h2, Int.sub_zero]
theorem addF_lim {a b : List Int} (ha : Dig a) (hb : Dig b) : cut (addF a b 0) = lim (val a + val b).toNat := by
  obtain ⟨h1, h2⟩ := addF_spec ha hb (by omega) (show (0 : Int) ≤ 1 by omega)
  rw [cut_eq h1, h2, Int.add_zero]
end Lm
