set_option linter.unusedVariables false
set_option linter.unusedSectionVars false
set_option linter.unusedSimpArgs false
/- Lm, Ln, Lo, Lp, Lh, Lk, Ls, Lt, Lu -/
section
/- Limbs: lists of digits in base 65536, the least significant first; their values, canonical lists, and the list of a number. Plain Lean, no program. -/
namespace Lm

def pw (n : Nat) : Int := 65536 ^ n
def val : List Int → Int
 | [] => 0
 | x :: r => x + 65536 * val r
def Dig (l : List Int) : Prop := ∀ x ∈ l, 0 ≤ x ∧ x < 65536
/-- canonical: digits, the last one not 0 -/
def Can (l : List Int) : Prop := Dig l ∧ l.getLast? ≠ some 0

theorem pw_zero : pw 0 = 1 := rfl
theorem pw_succ (n : Nat) : pw (n + 1) = 65536 * pw n := by unfold pw; rw [Int.pow_succ, Int.mul_comm]
theorem pw_pos (n : Nat) : 0 < pw n := by
 induction n with
 | zero => decide
 | succ n ih => rw [pw_succ]; omega
theorem pw_add (m n : Nat) : pw (m + n) = pw m * pw n := by unfold pw; rw [Int.pow_add]
theorem pw_mono {m n : Nat} (h : m ≤ n) : pw m ≤ pw n := by
  induction n with
  | zero => have : m = 0 := by omega
            subst this; exact Int.le_refl _
  | succ n ih =>
    by_cases e : m = n + 1
    · subst e; exact Int.le_refl _
    · have := ih (by omega); have := pw_pos n; rw [pw_succ]; omega

theorem Dig.nil : Dig [] := fun x h => by cases h
theorem Dig.cons {x : Int} {l : List Int} (h0 : 0 ≤ x) (h1 : x < 65536) (h : Dig l) : Dig (x :: l) := by
 intro y hy
 rcases List.mem_cons.1 hy with rfl | hy
 ·exact ⟨h0, h1⟩
 ·exact h y hy
theorem Dig.head {x : Int} {l : List Int} (h : Dig (x :: l)) : 0 ≤ x ∧ x < 65536 := h x List.mem_cons_self
theorem Dig.tail {x : Int} {l : List Int} (h : Dig (x :: l)) : Dig l := fun y hy => h y (List.mem_cons_of_mem _ hy)
theorem Dig.append {a b : List Int} (h : Dig a) (k : Dig b) : Dig (a ++ b) := by
 intro y hy
 rcases List.mem_append.1 hy with hy | hy
 ·exact h y hy
 ·exact k y hy
theorem Dig.left {a b : List Int} (h : Dig (a ++ b)) : Dig a := fun y hy => h y (List.mem_append_left _ hy)
theorem Dig.right {a b : List Int} (h : Dig (a ++ b)) : Dig b := fun y hy => h y (List.mem_append_right _ hy)
theorem Dig.take {a : List Int} (h : Dig a) (n : Nat) : Dig (a.take n) := fun y hy => h y (List.mem_of_mem_take hy)
theorem Dig.drop {a : List Int} (h : Dig a) (n : Nat) : Dig (a.drop n) := fun y hy => h y (List.mem_of_mem_drop hy)
theorem Dig.replicate (n : Nat) : Dig (List.replicate n 0) := by
 intro y hy
 have := (List.mem_replicate.1 hy).2
 omega

theorem val_nil : val [] = 0 := rfl
theorem val_cons (x : Int) (l : List Int) : val (x :: l) = x + 65536 * val l := rfl
theorem val_append (a b : List Int) : val (a ++ b) = val a + pw a.length * val b := by
 induction a with
 | nil => simp [val, pw]
 | cons x a ih =>
  rw [List.cons_append, val_cons, val_cons, ih, List.length_cons, pw_succ, Int.mul_add, Int.add_assoc, Int.mul_assoc]
theorem val_single (x : Int) : val [x] = x := by simp [val]
theorem val_snoc (a : List Int) (x : Int) : val (a ++ [x]) = val a + pw a.length * x := by rw [val_append, val_single]
theorem val_replicate (n : Nat) : val (List.replicate n 0) = 0 := by
 induction n with
 | zero => rfl
 | succ n ih => rw [List.replicate_succ, val_cons, ih]; rfl
theorem val_nonneg {l : List Int} (h : Dig l) : 0 ≤ val l := by
 induction l with
 | nil => exact Int.le_refl _
 | cons x l ih => have := ih h.tail; have := h.head; rw [val_cons]; omega
theorem val_lt {l : List Int} (h : Dig l) : val l < pw l.length := by
 induction l with
 | nil => decide
 | cons x l ih => have := ih h.tail; have := h.head; rw [val_cons, List.length_cons, pw_succ]; omega

/-- A list's digits are told by its value and its length. -/
theorem dig_inj : ∀ {a b : List Int}, Dig a → Dig b → a.length = b.length → val a = val b → a = b
 | [], [], _, _, _, _ => rfl
 | [], _ :: _, _, _, h, _ => by simp at h
 | _ :: _, [], _, _, h, _ => by simp at h
 | x :: a, y :: b, ha, hb, hl, hv => by
  have h1 := ha.head
  have h2 := hb.head
  rw [val_cons, val_cons] at hv
  have e : x = y := by omega
  have e2 : val a = val b := by omega
  rw [e, dig_inj ha.tail hb.tail (by simpa using hl) e2]

theorem Can.nil : Can [] := ⟨Dig.nil, by simp⟩
theorem Can.dig {l : List Int} (h : Can l) : Dig l := h.1
theorem Can.tail {x : Int} {l : List Int} (h : Can (x :: l)) : Can l := by
 refine ⟨h.1.tail, ?_⟩
 intro e
 apply h.2
 rw [List.getLast?_cons, e]
 rfl
theorem Can.ne_zero {x : Int} (h : Can [x]) : x ≠ 0 := fun e => h.2 (by simp [e])
theorem can_ge {l : List Int} (h : Can l) (hn : l ≠ []) : pw (l.length - 1) ≤ val l := by
 induction l with
 | nil => exact absurd rfl hn
 | cons x l ih =>
  have h0 := h.1.head
  by_cases e : l = []
  ·subst e
   have := h.ne_zero
   simp only [List.length_cons, List.length_nil, val]
   show pw 0 ≤ _
   rw [pw_zero]
   omega
  ·have h1 := ih h.tail e
   have hl : (x :: l).length - 1 = (l.length - 1) + 1 := by
    have : l.length ≠ 0 := fun h => e (List.eq_nil_of_length_eq_zero h)
    simp only [List.length_cons]
    omega
   rw [hl, pw_succ, val_cons]
   omega
theorem can_pos {l : List Int} (h : Can l) (hn : l ≠ []) : 0 < val l := by
 have := can_ge h hn
 have := pw_pos (l.length - 1)
 omega
theorem can_length_le {a b : List Int} (ha : Can a) (hb : Dig b) (hv : val a ≤ val b) : a.length ≤ b.length := by
 by_cases hn : a = []
 ·subst hn; simp
 ·have h1 := can_ge ha hn
  have h2 := val_lt hb
  by_cases hl : a.length ≤ b.length
  ·exact hl
  ·have := pw_mono (m := b.length) (n := a.length - 1) (by omega)
   omega
theorem can_inj {a b : List Int} (ha : Can a) (hb : Can b) (hv : val a = val b) : a = b :=
 dig_inj ha.1 hb.1 (Nat.le_antisymm (can_length_le ha hb.1 (by omega)) (can_length_le hb ha.1 (by omega))) hv
theorem can_length {l : List Int} (h : Can l) (n : Nat) : l.length ≤ n ↔ val l < pw n := by
 constructor
 ·intro hl
  have := val_lt h.1
  have := pw_mono hl
  omega
 ·intro hv
  by_cases hn : l = []
  ·subst hn; simp
  ·have h1 := can_ge h hn
   by_cases hl : l.length ≤ n
   ·exact hl
   ·have := pw_mono (m := n) (n := l.length - 1) (by omega)
    omega
/-- The longer one is the greater one. -/
theorem can_lt_of_length {a b : List Int} (ha : Can a) (hb : Can b) (hl : a.length < b.length) : val a < val b := by
 by_cases h : val a < val b
 ·exact h
 ·have := can_length_le hb ha.1 (by omega)
  omega

/-- The limbs of a number. -/
def lim (n : Nat) : List Int := if n = 0 then [] else ((n % 65536 : Nat) : Int) :: lim (n / 65536)
termination_by n
decreasing_by omega

theorem lim_zero : lim 0 = [] := by rw [lim]; simp
theorem lim_pos {n : Nat} (h : n ≠ 0) : lim n = ((n % 65536 : Nat) : Int) :: lim (n / 65536) := by rw [lim, if_neg h]
theorem lim_spec (n : Nat) : Can (lim n) ∧ val (lim n) = n := by
 induction n using Nat.strongRecOn with
 | _ n ih =>
  by_cases h : n = 0
  ·subst h; rw [lim_zero]; exact ⟨Can.nil, rfl⟩
  ·obtain ⟨h1, h2⟩ := ih (n / 65536) (by omega)
   rw [lim_pos h]
   refine ⟨⟨Dig.cons (by omega) (by omega) h1.1, ?_⟩, ?_⟩
   ·by_cases e : lim (n / 65536) = []
    ·rw [e] at h2 ⊢
     rw [val_nil] at h2
     simp only [List.getLast?_singleton, ne_eq, Option.some.injEq]
     omega
    ·intro hl
     apply h1.2
     obtain ⟨y, r, hr⟩ := List.exists_cons_of_ne_nil e
     rw [hr] at hl ⊢
     rw [List.getLast?_cons_cons] at hl
     exact hl
   ·rw [val_cons, h2]
    omega
theorem lim_can (n : Nat) : Can (lim n) := (lim_spec n).1
theorem lim_dig (n : Nat) : Dig (lim n) := (lim_spec n).1.1
theorem val_lim (n : Nat) : val (lim n) = n := (lim_spec n).2
theorem can_eq {l : List Int} (h : Can l) : l = lim (val l).toNat :=
 can_inj h (lim_can _) (by rw [val_lim, Int.toNat_of_nonneg (val_nonneg h.1)])
theorem lim_eq_nil {n : Nat} : lim n = [] ↔ n = 0 := by
 constructor
 ·intro h; have := val_lim n; rw [h, val_nil] at this; omega
 ·intro h; subst h; exact lim_zero
theorem lim_length (n k : Nat) : (lim n).length ≤ k ↔ (n : Int) < pw k := by rw [can_length (lim_can n), val_lim]

/-- Noughts off the end. -/
def cut (l : List Int) : List Int := match l with
 | [] => []
 | x :: r => if cut r = [] ∧ x = 0 then [] else x :: cut r
theorem cut_spec {l : List Int} (h : Dig l) : Can (cut l) ∧ val (cut l) = val l := by
 induction l with
 | nil => exact ⟨Can.nil, rfl⟩
 | cons x r ih =>
  obtain ⟨h1, h2⟩ := ih h.tail
  unfold cut
  split
  ·rename_i hc
   refine ⟨Can.nil, ?_⟩
   rw [hc.1, val_nil] at h2
   rw [val_cons, ← h2, hc.2]
   rfl
  ·rename_i hc
   refine ⟨⟨Dig.cons h.head.1 h.head.2 h1.1, ?_⟩, by rw [val_cons, val_cons, h2]⟩
   by_cases e : cut r = []
   ·rw [e]
    simp only [List.getLast?_singleton, ne_eq, Option.some.injEq]
    exact fun h0 => hc ⟨e, h0⟩
   ·intro hl
    apply h1.2
    obtain ⟨y, s, hs⟩ := List.exists_cons_of_ne_nil e
    rw [hs] at hl ⊢
    rw [List.getLast?_cons_cons] at hl
    exact hl
theorem cut_eq {l : List Int} (h : Dig l) : cut l = lim (val l).toNat := by
 rw [can_eq (cut_spec h).1, (cut_spec h).2]
theorem cut_length_le (l : List Int) : (cut l).length ≤ l.length := by
 induction l with
 | nil => exact Nat.le_refl _
 | cons x r ih => unfold cut; split <;> simp; omega
theorem cut_snoc_zero (l : List Int) : cut (l ++ [0]) = cut l := by
 induction l with
 | nil => simp [cut]
 | cons x r ih => rw [List.cons_append]; simp only [cut, ih]
theorem cut_snoc {x : Int} (l : List Int) (h : x ≠ 0) : cut (l ++ [x]) = l ++ [x] := by
 induction l with
 | nil => simp [cut, h]
 | cons y r ih => rw [List.cons_append]; simp only [cut, ih]; rw [if_neg (by simp)]

end Lm
end
section
/- Limbs, more: comparing; what a Big is. Plain Lean. -/
namespace Lm

theorem val_split {l : List Int} {i : Nat} (h : i < l.length) : val l = val (l.take i) + pw i * (l[i] + 65536 * val (l.drop (i + 1))) := by
 have e : l = l.take i ++ (l[i] :: l.drop (i + 1)) := by rw [List.getElem_cons_drop, List.take_append_drop]
 conv => lhs; rw [e, val_append, val_cons, List.length_take, Nat.min_eq_left (by omega)]
theorem cmp_top {a b : List Int} (ha : Dig a) (hb : Dig b) {i : Nat} (hia : i < a.length) (hib : i < b.length) (hd : a.drop (i + 1) = b.drop (i + 1)) (h : a[i] < b[i]) : val a < val b := by
 rw [val_split hia, val_split hib, hd]
 have h1 := val_lt (ha.take i)
 have h2 := val_nonneg (hb.take i)
 rw [List.length_take, Nat.min_eq_left (by omega)] at h1
 have h3 : pw i * (a[i] + 65536 * val (b.drop (i + 1))) + pw i ≤ pw i * (b[i] + 65536 * val (b.drop (i + 1))) := by
  have : pw i * (a[i] + 65536 * val (b.drop (i + 1)) + 1) ≤ pw i * (b[i] + 65536 * val (b.drop (i + 1))) := Int.mul_le_mul_of_nonneg_left (by omega) (Int.le_of_lt (pw_pos i))
  rw [Int.mul_add] at this
  omega
 omega

/-- What GoodBig says. -/
def Good (neg : Bool) (l : List Int) : Prop := Can l ∧ l.length ≤ 40 ∧ (l = [] → neg = false)
/-- The number of a sign and limbs. -/
def num (neg : Bool) (l : List Int) : Int := if neg then -val l else val l
theorem lim_neg {x : Int} (h : lim x.natAbs = []) : x = 0 := by
 have := lim_eq_nil.1 h
 omega
/-- A good one is the one of its number. -/
theorem good_num {neg : Bool} {l : List Int} (h : Can l) (hn : l = [] → neg = false) : neg = decide (num neg l < 0) ∧ l = lim (num neg l).natAbs := by
 have hv := val_nonneg h.1
 have e : (num neg l).natAbs = (val l).toNat := by unfold num; split <;> omega
 refine ⟨?_, by rw [e]; exact can_eq h⟩
 cases neg
 ·simp only [num, Bool.false_eq_true, if_false]
  rw [eq_comm, decide_eq_false_iff_not]
  omega
 ·have hl : l ≠ [] := fun e => by cases hn e
  have := can_pos h hl
  simp only [num, if_true]
  rw [eq_comm, decide_eq_true_iff]
  omega
theorem num_lim (x : Int) : num (decide (x < 0)) (lim x.natAbs) = x := by
 unfold num
 rw [val_lim]
 by_cases h : x < 0
 ·rw [decide_eq_true h, if_pos rfl]; omega
 ·rw [decide_eq_false h]; simp only [Bool.false_eq_true, if_false]; omega
theorem good_lim {x : Int} (h : (lim x.natAbs).length ≤ 40) : Good (decide (x < 0)) (lim x.natAbs) :=
 ⟨lim_can _, h, fun e => by rw [lim_neg e]; rfl⟩
theorem dig_dec (l : List Int) : Dig l ↔ ∀ x ∈ l, 0 ≤ x ∧ x ≤ 65535 := ⟨fun h x hx => ⟨(h x hx).1, by have := (h x hx).2; omega⟩, fun h x hx => ⟨(h x hx).1, by have := (h x hx).2; omega⟩⟩
theorem can_last {l : List Int} (h : Dig l) (hl : 0 < l.length) : Can l ↔ l[l.length - 1] ≠ 0 := by
 have : l.getLast? = some l[l.length - 1] := by rw [List.getLast?_eq_getElem?, List.getElem?_eq_getElem]
 constructor
 ·intro hc he
  exact hc.2 (by rw [this, he])
 ·intro hne
  exact ⟨h, by rw [this]; simpa using hne⟩
end Lm
namespace Lm
/-- How many limbs a number has. -/
def ln (x : Int) : Nat := (lim x.natAbs).length
theorem ln_le (x : Int) (k : Nat) : ln x ≤ k ↔ (x.natAbs : Int) < pw k := lim_length _ _
theorem ln_neg (x : Int) : ln (-x) = ln x := by unfold ln; rw [Int.natAbs_neg]
theorem ln_add (x y : Int) {k : Nat} (hx : ln x ≤ k) (hy : ln y ≤ k) : ln (x + y) ≤ k + 1 := by
 rw [ln_le] at *
 rw [pw_succ]
 have := Int.natAbs_add_le x y
 have := pw_pos k
 omega
theorem ln_mul (x y : Int) {k m : Nat} (hx : ln x ≤ k) (hy : ln y ≤ m) : ln (x * y) ≤ k + m := by
 rw [ln_le] at *
 rw [pw_add, Int.natAbs_mul]
 have h1 := pw_pos k
 rw [Int.natCast_mul]
 exact Int.lt_of_le_of_lt (Int.mul_le_mul_of_nonneg_right (Int.le_of_lt hx) (by omega)) (Int.mul_lt_mul_of_pos_left hy h1)
theorem ln_mono {x y : Int} (h : x.natAbs ≤ y.natAbs) : ln x ≤ ln y := by
 rw [ln_le]
 have := (ln_le y (ln y)).1 (Nat.le_refl _)
 omega
end Lm
namespace Lm
theorem lim_step {l : List Int} {m n : Nat} (h : l ++ lim m = lim n) (h0 : m ≠ 0) : l ++ [((m % 65536 : Nat) : Int)] ++ lim (m / 65536) = lim n := by
 rw [← h, lim_pos h0, List.append_assoc]
 rfl
theorem lim64 {n : Nat} (h : n ≤ 18446744073709551615) : (lim n).length ≤ 4 := by
 rw [lim_length]
 have : pw 4 = 18446744073709551616 := by decide
 omega
theorem cut_lim (n : Nat) : cut (lim n) = lim n := by rw [cut_eq (lim_dig n), val_lim]; rfl
end Lm
namespace Lm
theorem val_drop {l : List Int} {i : Nat} (h : i < l.length) : val (l.drop i) = l[i] + 65536 * val (l.drop (i + 1)) := by
 rw [← List.getElem_cons_drop h, val_cons]
end Lm
namespace Lm
end Lm
end
section
/- Limbs added and subtracted, as the loops do it. Plain Lean. -/
namespace Lm
/-- A sum, digit by digit, with a carry. -/
def addF : List Int → List Int → Int → List Int
 | [], [], c => if c > 0 then [c] else []
 | x :: a, [], c => (x + c) % 65536 :: addF a [] ((x + c) / 65536)
 | [], y :: b, c => (y + c) % 65536 :: addF [] b ((y + c) / 65536)
 | x :: a, y :: b, c => (x + y + c) % 65536 :: addF a b ((x + y + c) / 65536)
theorem addF_spec : ∀ {a b : List Int} {c : Int}, Dig a → Dig b → 0 ≤ c → c ≤ 1 → Dig (addF a b c) ∧ val (addF a b c) = val a + val b + c
 | [], [], c, _, _, h0, h1 => by
  unfold addF
  split
  ·exact ⟨Dig.cons h0 (by omega) Dig.nil, by simp [val]⟩
  ·exact ⟨Dig.nil, by simp [val]; omega⟩
 | x :: a, [], c, ha, _, h0, h1 => by
  have hx := ha.head
  have ih := addF_spec (c := (x + c) / 65536) ha.tail Dig.nil (by omega) (by omega)
  unfold addF
  exact ⟨Dig.cons (by omega) (by omega) ih.1, by rw [val_cons, ih.2, val_cons]; simp only [val]; omega⟩
 | [], y :: b, c, _, hb, h0, h1 => by
  have hx := hb.head
  have ih := addF_spec (c := (y + c) / 65536) Dig.nil hb.tail (by omega) (by omega)
  unfold addF
  exact ⟨Dig.cons (by omega) (by omega) ih.1, by rw [val_cons, ih.2, val_cons]; simp only [val]; omega⟩
 | x :: a, y :: b, c, ha, hb, h0, h1 => by
  have hx := ha.head
  have hy := hb.head
  have ih := addF_spec (c := (x + y + c) / 65536) ha.tail hb.tail (by omega) (by omega)
  unfold addF
  exact ⟨Dig.cons (by omega) (by omega) ih.1, by rw [val_cons, ih.2, val_cons, val_cons]; omega⟩
theorem addF_step {a b : List Int} {c : Int} {i : Nat} (h : i < a.length ∨ i < b.length) :
  addF (a.drop i) (b.drop i) c = (a.getD i 0 + b.getD i 0 + c) % 65536 :: addF (a.drop (i + 1)) (b.drop (i + 1)) ((a.getD i 0 + b.getD i 0 + c) / 65536) := by
 have ga : ∀ {l : List Int} (h : i < l.length), l.getD i 0 = l[i] := fun h => by simp [List.getD, h]
 have gn : ∀ {l : List Int}, ¬ i < l.length → l.getD i 0 = 0 ∧ l.drop i = [] ∧ l.drop (i + 1) = [] := fun h =>
  ⟨by simp [List.getD, h], List.drop_of_length_le (by omega), List.drop_of_length_le (by omega)⟩
 by_cases ha : i < a.length
 ·by_cases hb : i < b.length
  ·rw [ga ha, ga hb, show a.drop i = a[i] :: a.drop (i + 1) from (List.getElem_cons_drop ha).symm, show b.drop i = b[i] :: b.drop (i + 1) from (List.getElem_cons_drop hb).symm]
   rw [addF]
  ·obtain ⟨e1, e2, e3⟩ := gn hb
   rw [ga ha, e1, e2, e3, show a.drop i = a[i] :: a.drop (i + 1) from (List.getElem_cons_drop ha).symm, Int.add_zero]
   rw [addF]
 ·have hb : i < b.length := by omega
  obtain ⟨e1, e2, e3⟩ := gn ha
  rw [ga hb, e1, e2, e3, show b.drop i = b[i] :: b.drop (i + 1) from (List.getElem_cons_drop hb).symm, Int.zero_add]
  rw [addF]
theorem addF_len : ∀ {a b : List Int} {c : Int}, (addF a b c).length ≤ max a.length b.length + 1
 | [], [], c => by unfold addF; split <;> simp
 | x :: a, [], c => by unfold addF; have := addF_len (a := a) (b := []) (c := (x + c) / 65536); simp at this ⊢; omega
 | [], y :: b, c => by unfold addF; have := addF_len (a := []) (b := b) (c := (y + c) / 65536); simp at this ⊢; omega
 | x :: a, y :: b, c => by unfold addF; have := addF_len (a := a) (b := b) (c := (x + y + c) / 65536); simp at this ⊢; omega
end Lm
namespace Lm
/-- A difference, digit by digit, with a borrow. -/
def subF : List Int → List Int → Int → List Int
 | [], _, _ => []
 | x :: a, b, c => (if x - b.headD 0 - c < 0 then x - b.headD 0 - c + 65536 else x - b.headD 0 - c) :: subF a b.tail (if x - b.headD 0 - c < 0 then 1 else 0)
theorem subF_len : ∀ {a b : List Int} {c : Int}, (subF a b c).length = a.length
 | [], _, _ => rfl
 | x :: a, b, c => by unfold subF; rw [List.length_cons, subF_len, List.length_cons]
theorem val_ht {b : List Int} (h : Dig b) : val b = b.headD 0 + 65536 * val b.tail ∧ 0 ≤ b.headD 0 ∧ b.headD 0 < 65536 ∧ Dig b.tail := by
 cases b with
 | nil => exact ⟨by simp [val], by simp, by simp, Dig.nil⟩
 | cons y b => exact ⟨rfl, h.head.1, h.head.2, h.tail⟩
theorem subF_spec : ∀ {a b : List Int} {c : Int}, Dig a → Dig b → 0 ≤ c → c ≤ 1 → val b + c ≤ val a → Dig (subF a b c) ∧ val (subF a b c) = val a - val b - c
 | [], b, c, _, hb, h0, h1, hv => by
  have := val_nonneg hb
  simp only [val] at hv ⊢
  exact ⟨Dig.nil, by unfold subF; simp only [val]; omega⟩
 | x :: a, b, c, ha, hb, h0, h1, hv => by
  have hx := ha.head
  obtain ⟨e1, e2, e3, e4⟩ := val_ht hb
  rw [val_cons] at hv
  unfold subF
  by_cases hn : x - b.headD 0 - c < 0
  ·rw [if_pos hn, if_pos hn]
   have ih := subF_spec (c := 1) ha.tail e4 (by omega) (by omega) (by omega)
   exact ⟨Dig.cons (by omega) (by omega) ih.1, by rw [val_cons, ih.2, val_cons]; omega⟩
  ·rw [if_neg hn, if_neg hn]
   have ih := subF_spec (c := 0) ha.tail e4 (by omega) (by omega) (by omega)
   exact ⟨Dig.cons (by omega) (by omega) ih.1, by rw [val_cons, ih.2, val_cons]; omega⟩
theorem headD_drop (b : List Int) (i : Nat) : (b.drop i).headD 0 = b.getD i 0 := by
 by_cases h : i < b.length
 ·rw [show b.drop i = b[i] :: b.drop (i + 1) from (List.getElem_cons_drop h).symm]
  simp [List.getD, h]
 ·rw [List.drop_of_length_le (by omega)]
  simp [List.getD, h]
theorem subF_step {a b : List Int} {c : Int} {i : Nat} (h : i < a.length) :
  subF (a.drop i) (b.drop i) c = (if a[i] - b.getD i 0 - c < 0 then a[i] - b.getD i 0 - c + 65536 else a[i] - b.getD i 0 - c) :: subF (a.drop (i + 1)) (b.drop (i + 1)) (if a[i] - b.getD i 0 - c < 0 then 1 else 0) := by
 rw [show a.drop i = a[i] :: a.drop (i + 1) from (List.getElem_cons_drop h).symm, subF, headD_drop, List.tail_drop]
theorem subF_lim {a b : List Int} (ha : Dig a) (hb : Dig b) (h : val b ≤ val a) : cut (subF a b 0) = lim (val a - val b).toNat := by
 obtain ⟨h1, h2⟩ := subF_spec ha hb (by omega) (by omega) (show val b + 0 ≤ val a by omega)
 rw [cut_eq h1, h2, Int.sub_zero]
theorem addF_lim {a b : List Int} (ha : Dig a) (hb : Dig b) : cut (addF a b 0) = lim (val a + val b).toNat := by
 obtain ⟨h1, h2⟩ := addF_spec ha hb (by omega) (show (0 : Int) ≤ 1 by omega)
 rw [cut_eq h1, h2, Int.add_zero]
end Lm
end
section
/- Limbs multiplied, as the loops do it. Plain Lean. -/
namespace Lm

theorem val_set {l : List Int} {i : Nat} {v : Int} (h : i < l.length) : val (l.set i v) = val l + pw i * (v - l[i]) := by
 induction l generalizing i with
 | nil => simp at h
 | cons x l ih =>
  cases i with
  | zero => simp only [List.set_cons_zero, val_cons, pw_zero, List.getElem_cons_zero]; omega
  | succ i =>
   simp only [List.set_cons_succ, val_cons, List.getElem_cons_succ, pw_succ]
   rw [ih (by simpa using h)]
   grind
theorem Dig.set {l : List Int} (hl : Dig l) {i : Nat} {v : Int} (h0 : 0 ≤ v) (h1 : v < 65536) : Dig (l.set i v) := by
 intro x hx
 rcases List.mem_or_eq_of_mem_set hx with h | rfl
 ·exact hl x h
 ·exact ⟨h0, h1⟩
theorem Dig.get {l : List Int} (hl : Dig l) {i : Nat} (h : i < l.length) : 0 ≤ l[i] ∧ l[i] < 65536 := hl _ (List.getElem_mem h)
theorem Dig.getD {l : List Int} (hl : Dig l) (i : Nat) : 0 ≤ l.getD i 0 ∧ l.getD i 0 < 65536 := by
 by_cases h : i < l.length
 ·rw [show l.getD i 0 = l[i] by simp [List.getD, h]]
  exact hl.get h
 ·rw [show l.getD i 0 = 0 by simp [List.getD, h]]
  omega
theorem val_take_succ (l : List Int) (k : Nat) : val (l.take (k + 1)) = val (l.take k) + pw k * l.getD k 0 := by
 by_cases h : k < l.length
 ·rw [List.take_add_one, List.getElem?_eq_getElem h]
  simp only [Option.toList]
  rw [val_snoc, List.length_take, Nat.min_eq_left (by omega), show l.getD k 0 = l[k] by simp [List.getD, h]]
 ·rw [List.take_of_length_le (by omega), List.take_of_length_le (by omega), show l.getD k 0 = 0 by simp [List.getD, h]]
  simp
/-- A digit beyond the value's size is 0. -/
theorem dig_zero {l : List Int} (hl : Dig l) {m j : Nat} (hv : val l < pw m) (hm : m ≤ j) (hj : j < l.length) : l[j] = 0 := by
 have h1 := val_split hj
 have h2 := val_nonneg (hl.take j)
 have h3 := hl.get hj
 have h4 := val_nonneg (hl.drop (j + 1))
 by_cases h : l[j] = 0
 ·exact h
 ·have h5 : pw j * 1 ≤ pw j * (l[j] + 65536 * val (l.drop (j + 1))) := Int.mul_le_mul_of_nonneg_left (by omega) (Int.le_of_lt (pw_pos j))
  have := pw_mono hm
  omega

/-- A row of the product, under way: k digits of b are done; c is carried. -/
structure MulRow (out0 out : List Int) (x : Int) (b : List Int) (i k : Nat) (c : Int) : Prop where
 dig : Dig out
 len : out.length = out0.length
 c0 : 0 ≤ c
 c1 : c ≤ 65535
 rest : ∀ j, i + k ≤ j → out[j]? = out0[j]?
 val : Lm.val out + pw (i + k) * c = Lm.val out0 + x * (pw i * Lm.val (b.take k))
theorem MulRow.start {out0 b : List Int} {x : Int} {i : Nat} (h : Dig out0) : MulRow out0 out0 x b i 0 0 :=
 ⟨h, rfl, by omega, by omega, fun _ _ => rfl, by simp [Lm.val]⟩
theorem MulRow.step {out0 out b : List Int} {x c : Int} {i k : Nat} (h : MulRow out0 out x b i k c) (hx : 0 ≤ x ∧ x < 65536) (hb : Dig b) (hlt : i + k < out.length) {n : Int} (hn : n = out[i + k] + x * b.getD k 0 + c) :
  0 ≤ n ∧ n ≤ 4295032831 ∧ 0 ≤ x * b.getD k 0 ∧ x * b.getD k 0 ≤ 4294836225 ∧ MulRow out0 (out.set (i + k) (n % 65536)) x b i (k + 1) (n / 65536) := by
 have hy := hb.getD k
 have ho := h.dig.get hlt
 have hxy0 : 0 ≤ x * b.getD k 0 := Int.mul_nonneg hx.1 hy.1
 have hxy1 : x * b.getD k 0 ≤ 65535 * 65535 := Int.mul_le_mul (by omega) (by omega) hy.1 (by omega)
 have c0 := h.c0
 have c1 := h.c1
 have hn0 : 0 ≤ n := by omega
 have hn1 : n ≤ 4295032831 := by omega
 refine ⟨hn0, hn1, hxy0, by omega, h.dig.set (by omega) (by omega), by simp [h.len], by omega, by omega, fun j hj => ?_, ?_⟩
 ·rw [List.getElem?_set_ne (by omega)]
  exact h.rest j (by omega)
 ·rw [val_set hlt, val_take_succ]
  have e := h.val
  have e1 : pw (i + (k + 1)) = 65536 * pw (i + k) := pw_succ (i + k)
  have e2 := pw_add i k
  have e3 : n = 65536 * (n / 65536) + n % 65536 := by omega
  generalize n / 65536 = q at *
  generalize n % 65536 = r at *
  clear hn0 hn1 hxy0 hxy1 ho hy
  rw [e1]
  grind
/-- What is carried at the end of b is the digit there. -/
theorem MulRow.carry {out0 out b : List Int} {x c : Int} {i k : Nat} (h : MulRow out0 out x b i k c) (hx : 0 ≤ x ∧ x < 65536) (hb : Dig b) (hd : Dig out0) (hv : Lm.val out0 < pw (i + b.length)) (hk : b.length < k) : c = 0 := by
 have e := h.val
 rw [List.take_of_length_le (by omega)] at e
 have h1 := val_lt hb
 have h2 := val_nonneg hb
 have h3 := val_nonneg h.dig
 have c0 := h.c0
 by_cases hc : c = 0
 ·exact hc
 ·exfalso
  have h4 : pw (i + k) * 1 ≤ pw (i + k) * c := Int.mul_le_mul_of_nonneg_left (by omega) (Int.le_of_lt (pw_pos _))
  have h5 : pw (i + b.length + 1) ≤ pw (i + k) := pw_mono (by omega)
  rw [pw_succ, pw_add] at h5
  rw [pw_add] at hv
  have hp := pw_pos i
  have h6 : pw i * Lm.val b ≤ pw i * (pw b.length - 1) := Int.mul_le_mul_of_nonneg_left (by omega) (Int.le_of_lt hp)
  have h7 : 0 ≤ pw i * Lm.val b := Int.mul_nonneg (Int.le_of_lt hp) h2
  have h8 : x * (pw i * Lm.val b) ≤ 65535 * (pw i * Lm.val b) := Int.mul_le_mul_of_nonneg_right (by omega) h7
  rw [Int.mul_sub] at h6
  generalize pw i * pw b.length = A at *
  generalize pw i * Lm.val b = B at *
  omega
/-- A row is done: the product so far. -/
theorem MulRow.done {out0 out b a : List Int} {c : Int} {i k : Nat} (hi : i < a.length) (h : MulRow out0 out a[i] b i k c) (hk : b.length ≤ k) (hc : c = 0) (h0 : Lm.val out0 = Lm.val (a.take i) * Lm.val b) : Lm.val out = Lm.val (a.take (i + 1)) * Lm.val b := by
 have e := h.val
 subst hc
 rw [List.take_of_length_le hk, h0] at e
 rw [val_take_succ, show a.getD i 0 = a[i] by simp [List.getD, hi]]
 grind
theorem mul_lt {a b : List Int} (ha : Dig a) (hb : Dig b) (i : Nat) : Lm.val (a.take i) * Lm.val b < pw (i + b.length) := by
 have h1 := val_lt (ha.take i)
 have h2 := val_lt hb
 have h3 := val_nonneg (ha.take i)
 have h4 := val_nonneg hb
 have h5 : pw (a.take i).length ≤ pw i := pw_mono (by simp; omega)
 rw [pw_add]
 have h6 : val (a.take i) * val b ≤ pw i * val b := Int.mul_le_mul_of_nonneg_right (by omega) h4
 have h7 : pw i * val b < pw i * pw b.length := Int.mul_lt_mul_of_pos_left h2 (pw_pos i)
 omega
end Lm
end
section
/- Numbers split into halves. Plain Lean. -/
namespace Lm
theorem val_td (l : List Int) (h : Nat) (hl : h ≤ l.length) : val l = val (l.take h) + pw h * val (l.drop h) := by
 have := val_append (l.take h) (l.drop h)
 rw [List.take_append_drop, List.length_take, Nat.min_eq_left hl] at this
 exact this
/-- Three products of halves. -/
theorem halves (a b P : Nat) : (a % P) * (b % P) + (P * ((a % P + a / P) * (b % P + b / P) - (a % P) * (b % P) - (a / P) * (b / P)) + P * P * ((a / P) * (b / P))) = a * b := by
 have ha := Nat.mod_add_div a P
 have hb := Nat.mod_add_div b P
 generalize a % P = x at *
 generalize a / P = y at *
 generalize b % P = z at *
 generalize b / P = w at *
 subst ha
 subst hb
 have e : (x + y) * (z + w) - x * z - y * w = x * w + y * z := by
  have : (x + y) * (z + w) = x * z + (x * w + y * z) + y * w := by grind
  omega
 rw [e]
 grind
end Lm
end
section
/- A digit of a quotient (Knuth). Plain Lean. -/
namespace Lm

/-- The leading parts of a divisor V and of a window W. -/
structure Lead (V W v1 v2 u2 top : Int) : Prop where
 ex : ∃ p c d : Int, 0 < p ∧ 0 ≤ c ∧ c < p ∧ 0 ≤ d ∧ d < p ∧ V = c + p * (v2 + 65536 * v1) ∧ W = d + p * (u2 + 65536 * top)
 v1p : 1 ≤ v1
 v1l : v1 < 65536
 v20 : 0 ≤ v2
 v2l : v2 < 65536
 u20 : 0 ≤ u2
 u2l : u2 < 65536
 tp : 0 ≤ top
theorem Lead.first {V W v1 v2 u2 top : Int} (h : Lead V W v1 v2 u2 top) : W < (top / v1 + 1) * V := by
 obtain ⟨⟨p, c, d, hp, c0, c1, d0, d1, hV, hW⟩, h1, h1l, h20, h2l, hu0, hul, ht⟩ := h
 have e := Int.mul_ediv_add_emod top v1
 have e1 := Int.emod_lt_of_pos top (show 0 < v1 by omega)
 have hq : 0 ≤ top / v1 := Int.ediv_nonneg ht (by omega)
 generalize top / v1 = q at *
 generalize top % v1 = r at *
 have a1 : p * (u2 + 1) ≤ p * 65536 := Int.mul_le_mul_of_nonneg_left (by omega) (by omega)
 have a2 : W < p * 65536 * (top + 1) := by grind
 have a3 : p * 65536 * (top + 1) ≤ p * 65536 * ((q + 1) * v1) := Int.mul_le_mul_of_nonneg_left (by grind) (by omega)
 have a4 : 0 ≤ p * v2 := Int.mul_nonneg (by omega) h20
 have a5 : p * 65536 * v1 ≤ V := by grind
 have a6 : (q + 1) * (p * 65536 * v1) ≤ (q + 1) * V := Int.mul_le_mul_of_nonneg_left a5 (by omega)
 grind
/-- A guess that is too great. -/
theorem Lead.down {V W v1 v2 u2 top q r : Int} (h : Lead V W v1 v2 u2 top) (hq : 0 ≤ q) (hr : top = q * v1 + r) (hd : q * v2 > r * 65536 + u2) : W < q * V := by
 obtain ⟨⟨p, c, d, hp, c0, c1, d0, d1, hV, hW⟩, h1, h1l, h20, h2l, hu0, hul, ht⟩ := h
 have a1 : p * (r * 65536 + u2 + 1) ≤ p * (q * v2) := Int.mul_le_mul_of_nonneg_left (by omega) (by omega)
 have a2 : 0 ≤ q * c := Int.mul_nonneg hq c0
 subst hr
 have e1 : q * V = q * c + p * (q * v2) + 65536 * (p * (q * v1)) := by rw [hV]; grind
 have e2 : W = d + p * u2 + 65536 * (p * (q * v1)) + 65536 * (p * r) := by rw [hW]; grind
 have e3 : p * (r * 65536 + u2 + 1) = 65536 * (p * r) + p * u2 + p := by grind
 omega
theorem Lead.upA {V W v1 v2 u2 top q r : Int} (h : Lead V W v1 v2 u2 top) (hq : 0 ≤ q) (hql : q ≤ 65536) (hr : top = q * v1 + r) (hd : ¬ q * v2 > r * 65536 + u2) : (q - 1) * V ≤ W := by
 obtain ⟨⟨p, c, d, hp, c0, c1, d0, d1, hV, hW⟩, h1, h1l, h20, h2l, hu0, hul, ht⟩ := h
 have a1 : p * (q * v2) ≤ p * (r * 65536 + u2) := Int.mul_le_mul_of_nonneg_left (by omega) (by omega)
 have a2 : q * c ≤ 65536 * c := Int.mul_le_mul_of_nonneg_right hql c0
 have a3 : p * 65536 * 1 ≤ p * 65536 * v1 := Int.mul_le_mul_of_nonneg_left h1 (by omega)
 have a4 : 0 ≤ p * v2 := Int.mul_nonneg (by omega) h20
 subst hr
 have e1 : (q - 1) * V = q * c + p * (q * v2) + 65536 * (p * (q * v1)) - c - p * v2 - p * 65536 * v1 := by rw [hV]; grind
 have e2 : W = d + p * u2 + 65536 * (p * (q * v1)) + 65536 * (p * r) := by rw [hW]; grind
 have e3 : p * (r * 65536 + u2) = 65536 * (p * r) + p * u2 := by grind
 omega
theorem Lead.upB {V W v1 v2 u2 top q r : Int} (h : Lead V W v1 v2 u2 top) (hq : 0 ≤ q) (hql : q < 65536) (hr : top = q * v1 + r) (hd : 65536 ≤ r) : (q - 1) * V ≤ W := by
 obtain ⟨⟨p, c, d, hp, c0, c1, d0, d1, hV, hW⟩, h1, h1l, h20, h2l, hu0, hul, ht⟩ := h
 have a1 : p * (v2 + 1) ≤ p * 65536 := Int.mul_le_mul_of_nonneg_left (by omega) (by omega)
 have a2 : V ≤ p * 65536 * (1 + v1) := by grind
 have a3 : q * V ≤ q * (p * 65536 * (1 + v1)) := Int.mul_le_mul_of_nonneg_left a2 hq
 have a4 : p * 65536 * (q + q * v1) ≤ p * 65536 * (top - 1) := Int.mul_le_mul_of_nonneg_left (by omega) (by omega)
 have a5 : 0 ≤ p * u2 := Int.mul_nonneg (by omega) hu0
 have a6 : 0 ≤ p * v2 := Int.mul_nonneg (by omega) h20
 have a7 : 0 ≤ p * v1 := Int.mul_nonneg (by omega) (by omega)
 have e1 : (q - 1) * V = q * V - V := by grind
 have e2 : q * (p * 65536 * (1 + v1)) = p * 65536 * (q + q * v1) := by grind
 have e3 : V = c + p * v2 + 65536 * (p * v1) := by rw [hV]; grind
 have e4 : p * 65536 * (top - 1) = 65536 * (p * top) - 65536 * p := by grind
 have e5 : W = d + p * u2 + 65536 * (p * top) := by rw [hW]; grind
 omega
/-- The quotient, or one more. -/
structure GuessOk (V W q : Int) : Prop where
 q0 : 0 ≤ q
 q1 : q ≤ 65536
 lo : (q - 1) * V ≤ W
 hi : W < (q + 1) * V
/-- The search, under way. -/
structure GuessIn (V W v1 top q r : Int) : Prop where
 q0 : 0 ≤ q
 r0 : 0 ≤ r
 eq : top = q * v1 + r
 hi : W < (q + 1) * V
theorem GuessIn.start {V W v1 v2 u2 top : Int} (h : Lead V W v1 v2 u2 top) : GuessIn V W v1 top (top / v1) (top % v1) :=
 ⟨Int.ediv_nonneg h.tp (by have := h.v1p; omega), Int.emod_nonneg _ (by have := h.v1p; omega), by rw [Int.mul_comm]; exact (Int.mul_ediv_add_emod top v1).symm, h.first⟩
theorem Lead.posV {V W v1 v2 u2 top : Int} (h : Lead V W v1 v2 u2 top) : 0 < V := by
 obtain ⟨⟨p, c, d, hp, c0, c1, d0, d1, hV, hW⟩, h1, h1l, h20, h2l, hu0, hul, ht⟩ := h
 have a1 : p * 1 ≤ p * (v2 + 65536 * v1) := Int.mul_le_mul_of_nonneg_left (by omega) (by omega)
 omega
theorem Lead.W0 {V W v1 v2 u2 top : Int} (h : Lead V W v1 v2 u2 top) : 0 ≤ W := by
 obtain ⟨⟨p, c, d, hp, c0, c1, d0, d1, hV, hW⟩, h1, h1l, h20, h2l, hu0, hul, ht⟩ := h
 have a1 : 0 ≤ p * (u2 + 65536 * top) := Int.mul_nonneg (by omega) (by omega)
 omega
theorem GuessIn.next {V W v1 v2 u2 top q r : Int} (h : Lead V W v1 v2 u2 top) (g : GuessIn V W v1 top q r) (hW : W < 65536 * V) (hc : 65536 ≤ q ∨ q * v2 > r * 65536 + u2) : 0 < q ∧ GuessIn V W v1 top (q - 1) (r + v1) := by
 have hV := h.posV
 have h0 := h.W0
 have hlt : W < q * V := by
  rcases hc with hc | hc
  ·have : 65536 * V ≤ q * V := Int.mul_le_mul_of_nonneg_right hc (by omega)
   omega
  ·exact h.down g.q0 g.eq hc
 have hq : 0 < q := by
  by_cases hq : 0 < q
  ·exact hq
  ·have : q = 0 := by have := g.q0; omega
   subst this
   omega
 refine ⟨hq, by omega, by have := g.r0; have := h.v1p; omega, by have := g.eq; grind, by rw [Int.sub_add_cancel]; exact hlt⟩
theorem GuessIn.small {V W v1 v2 u2 top q r : Int} (h : Lead V W v1 v2 u2 top) (g : GuessIn V W v1 top q r) (hW : W < 65536 * V) (hr : 65536 ≤ r) : q < 65536 := by
 have hV := h.posV
 obtain ⟨⟨p, c, d, hp, c0, c1, d0, d1, hV2, hW2⟩, h1, h1l, h20, h2l, hu0, hul, ht⟩ := h
 by_cases hq : q < 65536
 ·exact hq
 ·exfalso
  have a1 : p * (v2 + 1) ≤ p * 65536 := Int.mul_le_mul_of_nonneg_left (by omega) (by omega)
  have a2 : V ≤ p * 65536 * (1 + v1) := by grind
  have a3 : 65536 * v1 ≤ q * v1 := Int.mul_le_mul_of_nonneg_right (by omega) (by omega)
  have e := g.eq
  have a4 : p * 65536 * (65536 * v1 + 65536) ≤ p * 65536 * top := Int.mul_le_mul_of_nonneg_left (by omega) (by omega)
  have a5 : 0 ≤ p * u2 := Int.mul_nonneg (by omega) hu0
  grind
theorem GuessIn.done {V W v1 v2 u2 top q r : Int} (h : Lead V W v1 v2 u2 top) (g : GuessIn V W v1 top q r) (hW : W < 65536 * V) (hc : (65536 ≤ r) ∨ (q < 65536 ∧ ¬ q * v2 > r * 65536 + u2)) : GuessOk V W q := by
 rcases hc with hc | ⟨hq, hc⟩
 ·have hq := g.small h hW hc
  exact ⟨g.q0, by omega, h.upB g.q0 hq g.eq hc, g.hi⟩
 ·exact ⟨g.q0, by omega, h.upA g.q0 (by omega) g.eq hc, g.hi⟩

/-! windows -/
theorem Lead.of {u v : List Int} (hu : Dig u) (hv : Dig v) {j : Nat} (hn : 2 ≤ v.length) (hl : j + v.length < u.length) (h1 : 1 ≤ v[v.length - 1]) (hW : val (u.drop j) < pw (v.length + 1)) :
  Lead (val v) (val (u.drop j)) v[v.length - 1] v[v.length - 2] u[j + v.length - 2] (u[j + v.length] * 65536 + u[j + v.length - 1]) := by
 have a1 := val_split (l := v) (i := v.length - 2) (by omega)
 have a2 : val (v.drop (v.length - 2 + 1)) = v[v.length - 1] := by
  have e : v.drop (v.length - 2 + 1) = [v[v.length - 1]] := by
   rw [show v.length - 2 + 1 = v.length - 1 by omega, ← List.getElem_cons_drop (show v.length - 1 < v.length by omega), List.drop_of_length_le (by omega)]
  rw [e, val_single]
 have hdl : (u.drop j).length = u.length - j := List.length_drop
 have b1 := val_split (l := u.drop j) (i := v.length - 2) (by omega)
 have b2 := val_drop (l := u.drop j) (i := v.length - 2 + 1) (by omega)
 have b3 := val_drop (l := u.drop j) (i := v.length - 2 + 1 + 1) (by omega)
 have g1 : (u.drop j)[v.length - 2]'(by omega) = u[j + v.length - 2] := by rw [List.getElem_drop]; congr 1; omega
 have g2 : (u.drop j)[v.length - 2 + 1]'(by omega) = u[j + v.length - 1] := by rw [List.getElem_drop]; congr 1; omega
 have g3 : (u.drop j)[v.length - 2 + 1 + 1]'(by omega) = u[j + v.length] := by rw [List.getElem_drop]; congr 1; omega
 have b4 : val ((u.drop j).drop (v.length - 2 + 1 + 1 + 1)) = 0 := by
  have h2 := val_td (u.drop j) (v.length + 1) (by omega)
  have h3 := val_nonneg ((hu.drop j).take (v.length + 1))
  have h4 := val_nonneg ((hu.drop j).drop (v.length + 1))
  rw [show v.length - 2 + 1 + 1 + 1 = v.length + 1 by omega]
  by_cases hz : val ((u.drop j).drop (v.length + 1)) = 0
  ·exact hz
  ·have : pw (v.length + 1) * 1 ≤ pw (v.length + 1) * val ((u.drop j).drop (v.length + 1)) := Int.mul_le_mul_of_nonneg_left (by omega) (Int.le_of_lt (pw_pos _))
   omega
 rw [g1] at b1
 rw [g2] at b2
 rw [g3, b4] at b3
 rw [b2, b3] at b1
 rw [a2] at a1
 have c1 := val_nonneg (hv.take (v.length - 2))
 have c2 := val_lt (hv.take (v.length - 2))
 have c3 := val_nonneg ((hu.drop j).take (v.length - 2))
 have c4 := val_lt ((hu.drop j).take (v.length - 2))
 rw [List.length_take, Nat.min_eq_left (by omega)] at c2 c4
 have k1 := hv.get (show v.length - 1 < v.length by omega)
 have k2 := hv.get (show v.length - 2 < v.length by omega)
 have k3 := hu.get (show j + v.length - 2 < u.length by omega)
 have k4 := hu.get (show j + v.length - 1 < u.length by omega)
 have k5 := hu.get hl
 refine ⟨⟨pw (v.length - 2), _, _, pw_pos _, c1, c2, c3, c4, a1, ?_⟩, h1, k1.2, k2.1, k2.2, k3.1, k3.2, by omega⟩
 rw [b1]
 congr 2
 omega
end Lm
end
section
/- A step of a long division. Plain Lean. -/
namespace Lm

/-- q times v is taken off, k digits done; left is to be taken still. -/
structure SubRow (u0 u v : List Int) (j k : Nat) (q left : Int) : Prop where
 dig : Dig u
 len : u.length = u0.length
 l0 : 0 ≤ left
 l1 : left ≤ 65537
 rest : ∀ i, (i < j ∨ j + k ≤ i) → u[i]? = u0[i]?
 val : Lm.val u - left * pw (j + k) = Lm.val u0 - q * (pw j * Lm.val (v.take k))
theorem SubRow.start {u v : List Int} {j : Nat} {q : Int} (h : Dig u) : SubRow u u v j 0 q 0 := ⟨h, rfl, by omega, by omega, fun _ _ => rfl, by simp [Lm.val]⟩
theorem SubRow.step {u0 u v : List Int} {j k : Nat} {q left n : Int} (h : SubRow u0 u v j k q left) (hq : 0 ≤ q ∧ q ≤ 65536) (hv : Dig v) (hlt : j + k < u.length) (hn : n = u[j + k] - q * v.getD k 0 - left) :
  0 ≤ q * v.getD k 0 ∧ q * v.getD k 0 ≤ 4294901760 ∧ (n < 0 → SubRow u0 (u.set (j + k) (n + (-n + 65535) / 65536 * 65536)) v j (k + 1) q ((-n + 65535) / 65536)) ∧ (¬ n < 0 → SubRow u0 (u.set (j + k) n) v j (k + 1) q 0) := by
 have hy := hv.getD k
 have ho := h.dig.get hlt
 have p0 : 0 ≤ q * v.getD k 0 := Int.mul_nonneg hq.1 hy.1
 have p1 : q * v.getD k 0 ≤ 65536 * 65535 := Int.mul_le_mul hq.2 (by omega) hy.1 (by omega)
 have l0 := h.l0
 have l1 := h.l1
 have main : ∀ left' d : Int, d = n + left' * 65536 → 0 ≤ d → d < 65536 → 0 ≤ left' → left' ≤ 65537 → SubRow u0 (u.set (j + k) d) v j (k + 1) q left' := by
  intro left' d hd d0 d1 e0 e1
  refine ⟨h.dig.set d0 d1, by simp [h.len], e0, e1, fun i hi => ?_, ?_⟩
  ·rw [List.getElem?_set_ne (by omega)]
   exact h.rest i (by omega)
  ·rw [val_set hlt, val_take_succ]
   have e := h.val
   have e1 : pw (j + (k + 1)) = 65536 * pw (j + k) := pw_succ (j + k)
   have e2 := pw_add j k
   rw [e1]
   subst hd
   subst hn
   clear p0 p1 ho hy d0 d1
   grind
 refine ⟨p0, by omega, fun hneg => main _ _ rfl (by omega) (by omega) (by omega) (by omega), fun hneg => main 0 n (by omega) (by omega) (by omega) (by omega) (by omega)⟩

theorem take_same {u u1 : List Int} {j : Nat} (h : ∀ i, i < j → u1[i]? = u[i]?) : u1.take j = u.take j := by
 apply List.ext_getElem?
 intro i
 rw [List.getElem?_take, List.getElem?_take]
 split
 ·exact h i (by assumption)
 ·rfl
theorem drop_same {u u1 : List Int} {j : Nat} (h : ∀ i, j ≤ i → u1[i]? = u[i]?) : u1.drop j = u.drop j := by
 apply List.ext_getElem?
 intro i
 rw [List.getElem?_drop, List.getElem?_drop]
 exact h _ (by omega)
/-- What is added above j is added to the window. -/
theorem drop_val {u u1 : List Int} {j : Nat} {x : Int} (h1 : u1.take j = u.take j) (hl : j ≤ u.length) (hl1 : j ≤ u1.length) (hv : val u1 = val u + pw j * x) : val (u1.drop j) = val (u.drop j) + x := by
 rw [val_td u1 j hl1, val_td u j hl, h1] at hv
 have : pw j * val (u1.drop j) = pw j * (val (u.drop j) + x) := by grind
 exact Int.eq_of_mul_eq_mul_left (by have := pw_pos j; omega) this
/-- Digits beyond a small value are nought. -/
theorem high_zero {l : List Int} (hl : Dig l) {m : Nat} (hm : m ≤ l.length) (hv : val l < pw m) : val (l.drop m) = 0 := by
 have h2 := val_td l m hm
 have h3 := val_nonneg (hl.take m)
 have h4 := val_nonneg (hl.drop m)
 by_cases hz : val (l.drop m) = 0
 ·exact hz
 ·have : pw m * 1 ≤ pw m * val (l.drop m) := Int.mul_le_mul_of_nonneg_left (by omega) (Int.le_of_lt (pw_pos _))
  omega
/-- A list that is as another one beyond the window is small too. -/
theorem win_lt {u u1 : List Int} {j m : Nat} (hu : Dig u) (hu1 : Dig u1) (hl : j + m ≤ u.length) (hl1 : u1.length = u.length) (hr : ∀ i, j + m ≤ i → u1[i]? = u[i]?) (hv : val (u.drop j) < pw m) : val (u1.drop j) < pw m := by
 have hz := high_zero (hu.drop j) (m := m) (by simp; omega) hv
 rw [List.drop_drop] at hz
 have e : u1.drop (j + m) = u.drop (j + m) := drop_same hr
 have h2 := val_td (u1.drop j) m (by simp; omega)
 rw [List.drop_drop, e, hz, Int.mul_zero, Int.add_zero] at h2
 rw [h2]
 have := val_lt ((hu1.drop j).take m)
 rw [List.length_take, Nat.min_eq_left (by simp; omega)] at this
 exact this

section
variable {u u1 v : List Int} {j : Nat} {q left : Int} (hu : Dig u) (hv : Dig v) (hl : j + v.length < u.length) (hW : val (u.drop j) < 65536 * val v) (hg : GuessOk (val v) (val (u.drop j)) q)
include hu hv hl hW hg

theorem div_win : val (u.drop j) < pw (v.length + 1) := by
 have h1 := val_lt hv
 rw [pw_succ]
 omega
/-- The reference's step. -/
theorem div_sub (hs : SubRow u u1 v j (v.length + 1) q left) :
  val (u1.drop j) = val (u.drop j) - q * val v + left * pw (v.length + 1) ∧ val (u1.drop j) < pw (v.length + 1) := by
 have hw := div_win hu hv hl hW hg
 refine ⟨?_, win_lt hu hs.dig (by omega) hs.len (fun i hi => hs.rest i (.inr hi)) hw⟩
 have e := hs.val
 rw [List.take_of_length_le (by omega)] at e
 have := drop_val (take_same (fun i hi => hs.rest i (.inl hi))) (by omega) (by rw [hs.len]; omega) (x := left * pw (v.length + 1) - q * val v) (u := u) (u1 := u1) (by
  rw [show j + (v.length + 1) = j + (v.length + 1) from rfl, pw_add] at e
  grind)
 omega
theorem div_zero (hs : SubRow u u1 v j (v.length + 1) q left) (h0 : ¬ left > 0) : Dig u1 ∧ u1.length = u.length ∧ (∀ i, i < j → u1[i]? = u[i]?) ∧ q ≤ 65535 ∧ val (u1.drop j) = val (u.drop j) - q * val v ∧ val (u1.drop j) < val v := by
 obtain ⟨h1, h2⟩ := div_sub hu hv hl hW hg hs
 have h3 : left = 0 := by have := hs.l0; omega
 subst h3
 have h4 := val_nonneg (hs.dig.drop j)
 have h5 : val (u1.drop j) = val (u.drop j) - q * val v := by omega
 have h6 := hg.hi
 have h7 : (q + 1) * val v = q * val v + val v := by grind
 refine ⟨hs.dig, hs.len, fun i hi => hs.rest i (.inl hi), ?_, h5, by omega⟩
 by_cases hq : q ≤ 65535
 ·exact hq
 ·have : 65536 * val v ≤ q * val v := Int.mul_le_mul_of_nonneg_right (by omega) (val_nonneg hv)
  omega
theorem div_back {u2 : List Int} {c : Int} (hs : SubRow u u1 v j (v.length + 1) q left) (h0 : left > 0) (hb : MulRow u1 u2 1 v j (v.length + 1) c) (hk : ∀ i, i < j → u2[i]? = u1[i]?) :
  Dig u2 ∧ u2.length = u.length ∧ (∀ i, i < j → u2[i]? = u[i]?) ∧ 0 ≤ q - 1 ∧ q - 1 ≤ 65535 ∧ val (u2.drop j) = val (u.drop j) - (q - 1) * val v ∧ val (u2.drop j) < val v := by
 obtain ⟨h1, h2⟩ := div_sub hu hv hl hW hg hs
 have hp := pw_pos (v.length + 1)
 have hVp : val v < pw (v.length + 1) := by
  have h1 := val_lt hv
  rw [pw_succ]
  have := pw_pos v.length
  omega
 have hlo := hg.lo
 have h7 : (q - 1) * val v = q * val v - val v := by grind
 have h4 := val_nonneg (hs.dig.drop j)
 have hl1 : left = 1 := by
  by_cases hl1 : left = 1
  ·exact hl1
  ·have : 2 * pw (v.length + 1) ≤ left * pw (v.length + 1) := Int.mul_le_mul_of_nonneg_right (by omega) (Int.le_of_lt hp)
   omega
 subst hl1
 have hval : val (u2.drop j) = val (u1.drop j) + (val v - c * pw (v.length + 1)) := by
  refine drop_val (take_same hk) (by rw [hs.len]; omega) (by rw [hb.len, hs.len]; omega) ?_
  have e := hb.val
  rw [List.take_of_length_le (by omega), Int.one_mul, pw_add] at e
  grind
 have hlt : val (u2.drop j) < pw (v.length + 1) := win_lt hs.dig hb.dig (by rw [hs.len]; omega) hb.len (fun i hi => hb.rest i hi) h2
 have h5 := val_nonneg (hb.dig.drop j)
 have c0 := hb.c0
 have hneg : val (u.drop j) - q * val v < 0 := by omega
 have hc : c = 1 := by
  by_cases hc : c = 1
  ·exact hc
  ·by_cases hc0 : c = 0
   ·subst hc0; omega
   ·have : 2 * pw (v.length + 1) ≤ c * pw (v.length + 1) := Int.mul_le_mul_of_nonneg_right (by omega) (Int.le_of_lt hp)
    omega
 subst hc
 have hq := hg.q1
 have hq0 : 0 ≤ q - 1 := by
  have h0 := val_nonneg (hu.drop j)
  by_cases hq0 : 0 ≤ q - 1
  ·exact hq0
  ·have : q = 0 := by have := hg.q0; omega
   subst this
   omega
 exact ⟨hb.dig, by rw [hb.len, hs.len], fun i hi => by rw [hk i hi, hs.rest i (.inl hi)], hq0, by omega, by omega, by omega⟩
/-- The program's step. -/
theorem div_subI (hs : SubRow u u1 v j v.length q left) (hl1 : j + v.length < u1.length) :
  u1[j + v.length] = u[j + v.length] ∧ val ((u1.set (j + v.length) (u1[j + v.length] - left)).drop j) = val (u.drop j) - q * val v := by
 have hr : u1[j + v.length] = u[j + v.length] := by
  have e := hs.rest (j + v.length) (.inr (Nat.le_refl _))
  rw [List.getElem?_eq_getElem hl1, List.getElem?_eq_getElem hl] at e
  exact Option.some.inj e
 refine ⟨hr, ?_⟩
 have e := hs.val
 rw [List.take_length] at e
 have := drop_val (u := u) (u1 := u1.set (j + v.length) (u1[j + v.length] - left)) (j := j) (x := - (q * val v)) (take_same (fun i hi => by rw [List.getElem?_set_ne (by omega)]; exact hs.rest i (.inl hi))) (by omega) (by simp; omega) (by
  rw [val_set hl1]
  grind)
 omega
theorem div_zeroI (hs : SubRow u u1 v j v.length q left) (hl1 : j + v.length < u1.length) (h0 : ¬ u1[j + v.length] - left < 0) :
  Dig (u1.set (j + v.length) (u1[j + v.length] - left)) ∧ (∀ i, i < j → (u1.set (j + v.length) (u1[j + v.length] - left))[i]? = u[i]?) ∧ q ≤ 65535 ∧ val ((u1.set (j + v.length) (u1[j + v.length] - left)).drop j) < val v := by
 obtain ⟨h1, h2⟩ := div_subI hu hv hl hW hg hs hl1
 have h3 := hs.dig.get hl1
 have l0 := hs.l0
 have hd : Dig (u1.set (j + v.length) (u1[j + v.length] - left)) := hs.dig.set (by omega) (by omega)
 have h4 := val_nonneg (hd.drop j)
 have h6 := hg.hi
 have h7 : (q + 1) * val v = q * val v + val v := by grind
 refine ⟨hd, fun i hi => by rw [List.getElem?_set_ne (by omega)]; exact hs.rest i (.inl hi), ?_, by omega⟩
 by_cases hq : q ≤ 65535
 ·exact hq
 ·have : 65536 * val v ≤ q * val v := Int.mul_le_mul_of_nonneg_right (by omega) (val_nonneg hv)
  omega
theorem div_backI {l : List Int} {c : Int} (hs : SubRow u u1 v j v.length q left) (hl1 : j + v.length < u1.length) (h0 : u1[j + v.length] - left < 0) (hb : MulRow (u1.set (j + v.length) 0) l 1 v j v.length c) (hk : ∀ i, i < j → l[i]? = u1[i]?) (hll : j + v.length < l.length) :
  u1[j + v.length] - left + c = 0 ∧ Dig (l.set (j + v.length) (u1[j + v.length] - left + c)) ∧ (∀ i, i < j → (l.set (j + v.length) (u1[j + v.length] - left + c))[i]? = u[i]?) ∧ 0 ≤ q - 1 ∧ q - 1 ≤ 65535 ∧
   val ((l.set (j + v.length) (u1[j + v.length] - left + c)).drop j) = val (u.drop j) - (q - 1) * val v ∧ val ((l.set (j + v.length) (u1[j + v.length] - left + c)).drop j) < val v := by
 obtain ⟨h1, h2⟩ := div_subI hu hv hl hW hg hs hl1
 have hw := div_win hu hv hl hW hg
 have lz : l[j + v.length] = 0 := by
  have e := hb.rest (j + v.length) (Nat.le_refl _)
  rw [List.getElem?_eq_getElem hll, List.getElem?_set_self hl1] at e
  exact Option.some.inj e
 have h7 : (q - 1) * val v = q * val v - val v := by grind
 generalize ht : u1[j + v.length] - left = t at *
 have hval : val ((l.set (j + v.length) (t + c)).drop j) = val ((u1.set (j + v.length) t).drop j) + val v := by
  refine drop_val (take_same fun i hi => ?_) (by simp; omega) (by simp; omega) ?_
  ·rw [List.getElem?_set_ne (by omega), List.getElem?_set_ne (by omega)]
   exact hk i hi
  ·rw [val_set hll, val_set hl1, lz]
   have e := hb.val
   rw [List.take_length, Int.one_mul, val_set hl1] at e
   grind
 have hlow : ∀ (m : List Int) (d : Int), Dig m → m.length = u.length → (∀ i, j + v.length + 1 ≤ i → m[i]? = u[i]?) → j + v.length < m.length → ∃ x, 0 ≤ x ∧ x < pw v.length ∧ val ((m.set (j + v.length) d).drop j) = x + pw v.length * d := by
  intro m d hm hml hmr hmj
  have hz := high_zero (hu.drop j) (m := v.length + 1) (by simp; omega) hw
  rw [List.drop_drop] at hz
  have e1 := val_td ((m.set (j + v.length) d).drop j) v.length (by simp; omega)
  rw [List.drop_drop] at e1
  have e2 := val_drop (l := m.set (j + v.length) d) (i := j + v.length) (by simp; omega)
  rw [List.getElem_set_self] at e2
  have e3 : (m.set (j + v.length) d).drop (j + v.length + 1) = u.drop (j + v.length + 1) := drop_same fun i hi => by rw [List.getElem?_set_ne (by omega)]; exact hmr i hi
  rw [e3, show j + v.length + 1 = j + (v.length + 1) by omega, hz, Int.mul_zero, Int.add_zero] at e2
  rw [e2] at e1
  have e4 : ((m.set (j + v.length) d).drop j).take v.length = (m.drop j).take v.length := by
   apply List.ext_getElem?
   intro i
   rw [List.getElem?_take, List.getElem?_take]
   split
   ·rw [List.getElem?_drop, List.getElem?_drop, List.getElem?_set_ne (by omega)]
   ·rfl
  rw [e4] at e1
  have e5 := val_nonneg ((hm.drop j).take v.length)
  have e6 := val_lt ((hm.drop j).take v.length)
  rw [List.length_take, Nat.min_eq_left (by simp; omega)] at e6
  exact ⟨_, e5, e6, e1⟩
 have hVp := val_lt hv
 have hp := pw_pos v.length
 have hneg : val (u.drop j) - q * val v < 0 := by
  obtain ⟨x, x0, x1, x2⟩ := hlow u1 t hs.dig hs.len (fun i hi => hs.rest i (.inr (by omega))) hl1
  have : pw v.length * t ≤ pw v.length * (-1) := Int.mul_le_mul_of_nonneg_left (by omega) (Int.le_of_lt hp)
  omega
 have hlo := hg.lo
 obtain ⟨x, x0, x1, x2⟩ := hlow l (t + c) hb.dig (by rw [hb.len, List.length_set, hs.len]) (fun i hi => by
  rw [hb.rest i (by omega), List.getElem?_set_ne (by omega)]
  exact hs.rest i (.inr (by omega))) hll
 have htc : t + c = 0 := by
  by_cases h : t + c = 0
  ·exact h
  ·by_cases hp2 : 0 < t + c
   ·have : pw v.length * 1 ≤ pw v.length * (t + c) := Int.mul_le_mul_of_nonneg_left (by omega) (Int.le_of_lt hp)
    omega
   ·have : pw v.length * (t + c) ≤ pw v.length * (-1) := Int.mul_le_mul_of_nonneg_left (by omega) (Int.le_of_lt hp)
    omega
 have hq := hg.q1
 have hq0 : 0 ≤ q - 1 := by
  have h0 := val_nonneg (hu.drop j)
  by_cases hq0 : 0 ≤ q - 1
  ·exact hq0
  ·have : q = 0 := by have := hg.q0; omega
   subst this
   omega
 refine ⟨htc, hb.dig.set (by omega) (by omega), fun i hi => by rw [List.getElem?_set_ne (by omega), hk i hi, hs.rest i (.inl hi)], hq0, by omega, by omega, by omega⟩
end

/-- The division, under way: the digits from j on are done. -/
structure DivIn (U V : Int) (L : Nat) (u q : List Int) (j : Nat) : Prop where
 du : Dig u
 lu : u.length = L
 dq : Dig q
 val : U = V * (pw j * Lm.val (q.drop j)) + Lm.val u
 hi : Lm.val (u.drop j) < V
theorem DivIn.win {U : Int} {v : List Int} {L : Nat} {u q : List Int} {j : Nat} (h : DivIn U (Lm.val v) L u q (j + 1)) (hj : j < u.length) : Lm.val (u.drop j) < 65536 * Lm.val v := by
 rw [val_drop hj]
 have := h.hi
 have := h.du.get hj
 omega
theorem DivIn.step {U V d : Int} {L : Nat} {u u1 q : List Int} {j : Nat} (h : DivIn U V L u q (j + 1)) (hj : j < q.length) (hju : j ≤ u.length) (hd1 : Dig u1) (hl1 : u1.length = u.length) (hk : ∀ i, i < j → u1[i]? = u[i]?) (d0 : 0 ≤ d) (d1 : d ≤ 65535)
  (hv : Lm.val (u1.drop j) = Lm.val (u.drop j) - d * V) (hlt : Lm.val (u1.drop j) < V) : DivIn U V L u1 (q.set j d) j := by
 refine ⟨hd1, by rw [hl1, h.lu], h.dq.set d0 (by omega), ?_, hlt⟩
 have e1 := val_td u1 j (by omega)
 have e2 := val_td u j hju
 rw [take_same hk, hv] at e1
 have e3 := val_drop (l := q.set j d) (i := j) (by simpa using hj)
 have e0 : (q.set j d).drop (j + 1) = q.drop (j + 1) := drop_same fun i hi => by rw [List.getElem?_set_ne (by omega)]
 rw [List.getElem_set_self, e0] at e3
 have e4 := h.val
 rw [pw_succ] at e4
 rw [e3, e1]
 grind
theorem DivIn.done {U V : Int} {L : Nat} {u q : List Int} (h : DivIn U V L u q 0) (hV : 0 < V) : Lm.val q = U / V ∧ Lm.val u = U % V := by
 have e := h.val
 have hi := h.hi
 simp only [List.drop_zero, pw_zero, Int.one_mul] at e hi
 have h0 := val_nonneg h.du
 rw [e]
 constructor
 ·rw [Int.add_comm, Int.add_mul_ediv_left _ _ (by omega), Int.ediv_eq_zero_of_lt h0 hi]; omega
 ·rw [Int.add_comm, Int.add_mul_emod_self_left, Int.emod_eq_of_lt h0 hi]
theorem DivIn.start {a b : List Int} {u v q : List Int} (hu : Dig u) (ha : Dig a) (hb : Can b) (hbn : b ≠ []) {k : Int} (hk : 0 < k) (hua : Lm.val u = k * Lm.val a) (hvb : Lm.val v = k * Lm.val b) {m : Nat} (hm : a.length ≤ b.length - 1 + m) (hmu : m ≤ u.length) (hq : Dig q) (hqz : Lm.val (q.drop m) = 0) :
  DivIn (Lm.val u) (Lm.val v) u.length u q m := by
 refine ⟨hu, rfl, hq, by rw [hqz]; simp, ?_⟩
 have h1 := val_lt ha
 have h2 := can_ge hb hbn
 have h3 := pw_mono hm
 rw [pw_add] at h3
 have h4 : pw (b.length - 1) * pw m ≤ Lm.val b * pw m := Int.mul_le_mul_of_nonneg_right h2 (Int.le_of_lt (pw_pos m))
 have h5 : k * Lm.val a < k * (Lm.val b * pw m) := Int.mul_lt_mul_of_pos_left (by omega) hk
 have e := val_td u m hmu
 have h6 := val_nonneg (hu.take m)
 have h7 : pw m * Lm.val (u.drop m) < pw m * Lm.val v := by rw [hvb]; grind
 exact Int.lt_of_mul_lt_mul_left h7 (Int.le_of_lt (pw_pos m))
end Lm
end
section
/- Limbs shifted by bits, and divided by one limb. Plain Lean. -/
namespace Lm

theorem or_nat {x y i : Nat} (h : x < 2 ^ i) : x ||| 2 ^ i * y = x + 2 ^ i * y := by
 rw [Nat.or_comm, ← Nat.two_pow_add_eq_or_of_lt h, Nat.add_comm]
/-- 2 to the s divides 65536. -/
theorem two_split {s : Nat} (h : s ≤ 16) : ∃ k : Int, (2 : Int) ^ s * k = 65536 ∧ 0 < (2 : Int) ^ s ∧ 0 < k ∧ (2 : Int) ^ s ≤ 65536 ∧ k = 2 ^ (16 - s) := by
 have e : (2 : Int) ^ s * 2 ^ (16 - s) = 65536 := by rw [← Int.pow_add, show s + (16 - s) = 16 by omega]; rfl
 have h1 : 0 < (2 : Int) ^ s := Int.pow_pos (by omega)
 have h2 : 0 < (2 : Int) ^ (16 - s) := Int.pow_pos (by omega)
 refine ⟨2 ^ (16 - s), e, h1, h2, ?_, rfl⟩
 have : (2 : Int) ^ s * 1 ≤ 2 ^ s * 2 ^ (16 - s) := Int.mul_le_mul_of_nonneg_left (by omega) (by omega)
 omega

/-- Limbs shifted up, i of them done. -/
structure UpIn (l out : List Int) (K : Int) (i : Nat) : Prop where
 dig : Dig out
 len : out.length = l.length + 1
 val : Lm.val out = Lm.val (l.take i) * K
 z : ∀ j, i < j → out.getD j 0 = 0
 c : out.getD i 0 < K
theorem UpIn.start {l : List Int} {K : Int} (hK : 0 < K) : UpIn l (List.replicate (l.length + 1) 0) K 0 :=
 ⟨Dig.replicate _, by simp, by simp [val_replicate, Lm.val], fun j _ => by rw [List.getD_eq_getElem?_getD, List.getElem?_replicate]; split <;> rfl, by simp [List.getD]; exact hK⟩
theorem UpIn.step {l out : List Int} {K k : Int} {i : Nat} (h : UpIn l out K i) (hl : Dig l) (hi : i < l.length) (hk : K * k = 65536) (hK : 0 < K) (hk0 : 0 < k) (hio : i < out.length) (hio1 : i + 1 < out.length) :
  0 ≤ out[i] ∧ out[i] < K ∧ 0 ≤ l[i] * K ∧ l[i] * K ≤ 4294967296 ∧ (∃ y, 0 ≤ y ∧ l[i] * K % 65536 = K * y) ∧ out[i] + l[i] * K % 65536 < 65536 ∧
   UpIn l ((out.set i (out[i] + l[i] * K % 65536)).set (i + 1) (l[i] * K / 65536)) K (i + 1) := by
 have hx := hl.get hi
 have ho := h.dig.get hio
 have hc := h.c
 rw [show out.getD i 0 = out[i] by simp [List.getD, hio]] at hc
 have hz := h.z (i + 1) (by omega)
 rw [show out.getD (i + 1) 0 = out[i + 1] by simp [List.getD, hio1]] at hz
 have hK2 : K ≤ 65536 := by
  have : K * 1 ≤ K * k := Int.mul_le_mul_of_nonneg_left (by omega) (by omega)
  omega
 have p0 : 0 ≤ l[i] * K := Int.mul_nonneg hx.1 (by omega)
 have p1 : l[i] * K ≤ 65535 * K := Int.mul_le_mul_of_nonneg_right (by omega) (by omega)
 have e0 : l[i] * K % 65536 = K * (l[i] % k) := by rw [← hk, Int.mul_comm l[i] K, Int.mul_emod_mul_of_pos _ _ hK]
 have e1 : l[i] * K / 65536 = l[i] / k := by rw [← hk, Int.mul_comm l[i] K, Int.mul_ediv_mul_of_pos _ _ hK]
 have y0 := Int.emod_nonneg l[i] (show k ≠ 0 by omega)
 have y1 := Int.emod_lt_of_pos l[i] hk0
 have q0 : 0 ≤ l[i] / k := Int.ediv_nonneg hx.1 (by omega)
 have q1 : l[i] / k < K := by
  rw [Int.ediv_lt_iff_lt_mul hk0]
  omega
 have h2 : K * (l[i] % k) ≤ K * (k - 1) := Int.mul_le_mul_of_nonneg_left (by omega) (by omega)
 have h3 : K * (k - 1) = 65536 - K := by rw [Int.mul_sub, hk, Int.mul_one]
 have h4 : 0 ≤ K * (l[i] % k) := Int.mul_nonneg (by omega) y0
 refine ⟨ho.1, hc, p0, by omega, ⟨_, y0, e0⟩, by omega, (h.dig.set (by omega) (by omega)).set (by omega) (by omega), by simp [h.len], ?_, fun j hj => ?_, ?_⟩
 ·rw [val_set (by simpa using hio1), val_set hio, val_take_succ, List.getElem_set_ne (by omega), show l.getD i 0 = l[i] by simp [List.getD, hi], hz, h.val, pw_succ]
  have := Int.mul_ediv_add_emod (l[i] * K) 65536
  generalize l[i] * K / 65536 = a at *
  generalize l[i] * K % 65536 = b at *
  clear h2 h3 h4 e0 e1 p0 p1
  grind
 ·have := h.z j (by omega)
  simp only [List.getD, List.getElem?_set_ne (show i + 1 ≠ j by omega), List.getElem?_set_ne (show i ≠ j by omega)] at this ⊢
  exact this
 ·rw [List.getD_eq_getElem?_getD, List.getElem?_set_self (by simpa using hio1)]
  simp only [Option.getD_some]
  omega

/-- A digit of a number shifted down. -/
theorem down_digit {l : List Int} (hl : Dig l) {K k : Int} (hk : K * k = 65536) (hK : 0 < K) {i : Nat} (hi : i < l.length) :
  val (l.drop i) / K = (l[i] + l.getD (i + 1) 0 * 65536) / K % 65536 + 65536 * (val (l.drop (i + 1)) / K) ∧ 0 ≤ (l[i] + l.getD (i + 1) 0 * 65536) / K % 65536 ∧ (l[i] + l.getD (i + 1) 0 * 65536) / K % 65536 < 65536 := by
 have hx := hl.get hi
 have hy := hl.getD (i + 1)
 refine ⟨?_, Int.emod_nonneg _ (by omega), Int.emod_lt_of_pos _ (by omega)⟩
 have e1 := val_drop hi
 have e2 : val (l.drop (i + 1)) = l.getD (i + 1) 0 + 65536 * val (l.drop (i + 2)) := by
  by_cases h : i + 1 < l.length
  ·rw [val_drop h, show l.getD (i + 1) 0 = l[i + 1] by simp [List.getD, h]]
  ·rw [List.drop_of_length_le (by omega), List.drop_of_length_le (by omega), show l.getD (i + 1) 0 = 0 by simp [List.getD, h]]
   simp [val]
 -- the whole, by K, then by 65536
 have h1 : val (l.drop i) / K / 65536 = val (l.drop (i + 1)) / K := by
  rw [Int.ediv_ediv_of_nonneg (by omega), Int.mul_comm, ← Int.ediv_ediv_of_nonneg (by omega), e1, Int.add_mul_ediv_left _ _ (by omega), Int.ediv_eq_zero_of_lt hx.1 hx.2, Int.zero_add]
 have h2 : val (l.drop i) / K % 65536 = (l[i] + l.getD (i + 1) 0 * 65536) / K % 65536 := by
  have e3 : val (l.drop i) = (l[i] + l.getD (i + 1) 0 * 65536) + K * (k * 65536 * val (l.drop (i + 2))) := by
   rw [e1, e2]
   have : K * (k * 65536 * val (l.drop (i + 2))) = (K * k) * (65536 * val (l.drop (i + 2))) := by grind
   rw [this, hk]
   omega
  rw [e3, Int.add_mul_ediv_left _ _ (by omega), show k * 65536 * val (l.drop (i + 2)) = 65536 * (k * val (l.drop (i + 2))) by grind, Int.add_mul_emod_self_left]
 have := Int.mul_ediv_add_emod (val (l.drop i) / K) 65536
 rw [h1, h2] at this
 omega

/-- Limbs divided by one limb, those from k on are done. -/
structure ShortIn (a q : List Int) (by' : Int) (k : Nat) (rest : Int) : Prop where
 dig : Dig q
 len : q.length = a.length
 val : Lm.val (a.drop k) = by' * Lm.val (q.drop k) + rest
 r0 : 0 ≤ rest
 r1 : rest < by'
theorem ShortIn.start {a : List Int} {b : Int} (hb : 0 < b) : ShortIn a (List.replicate a.length 0) b a.length 0 :=
 ⟨Dig.replicate _, by simp, by simp [Lm.val], by omega, hb⟩
theorem ShortIn.step {a q : List Int} {b rest n : Int} {k : Nat} (h : ShortIn a q b (k + 1) rest) (ha : Dig a) (hb : 0 < b) (hb2 : b ≤ 65536) (hk : k < a.length) (hn : n = rest * 65536 + a[k]) :
  0 ≤ n ∧ n ≤ 4294967295 ∧ 0 ≤ n / b ∧ n / b < 65536 ∧ ShortIn a (q.set k (n / b)) b k (n % b) := by
 have hx := ha.get hk
 have r0 := h.r0
 have r1 := h.r1
 have hq : n / b < 65536 := by
  rw [Int.ediv_lt_iff_lt_mul hb]
  have : (rest + 1) * 65536 ≤ b * 65536 := Int.mul_le_mul_of_nonneg_right (by omega) (by omega)
  omega
 have q0 : 0 ≤ n / b := Int.ediv_nonneg (by omega) (by omega)
 refine ⟨by omega, by omega, q0, hq, h.dig.set q0 hq, by simp [h.len], ?_, Int.emod_nonneg _ (by omega), Int.emod_lt_of_pos _ hb⟩
 have hkq : k < (q.set k (n / b)).length := by simp [h.len]; omega
 have e0 : (q.set k (n / b)).drop (k + 1) = q.drop (k + 1) := drop_same fun i hi => by rw [List.getElem?_set_ne (by omega)]
 rw [val_drop hk, val_drop hkq, List.getElem_set_self, e0, h.val]
 have := Int.mul_ediv_add_emod n b
 subst hn
 grind
theorem ShortIn.done {a q : List Int} {b rest : Int} (h : ShortIn a q b 0 rest) (hb : 0 < b) : Lm.val q = Lm.val a / b ∧ rest = Lm.val a % b := by
 have e := h.val
 simp only [List.drop_zero] at e
 have r0 := h.r0
 have r1 := h.r1
 rw [e]
 constructor
 ·rw [Int.add_comm, Int.add_mul_ediv_left _ _ (by omega), Int.ediv_eq_zero_of_lt r0 r1]; omega
 ·rw [Int.add_comm, Int.add_mul_emod_self_left, Int.emod_eq_of_lt r0 r1]
end Lm
end
section
/- The loops of a step of a long division, as functions. Plain Lean. -/
namespace Lm
def gS (v1 v2 u2 : Int) : Nat → Int → Int → Int
 | 0, q, _ => q
 | f + 1, q, r => if r < 65536 ∧ (q ≥ 65536 ∨ q * v2 > r * 65536 + u2) then gS v1 v2 u2 f (q - 1) (r + v1) else q
theorem gS_ok {V W v1 v2 u2 top : Int} (h : Lead V W v1 v2 u2 top) (hW : W < 65536 * V) : ∀ (f : Nat) (q r : Int), GuessIn V W v1 top q r → q ≤ f → GuessOk V W (gS v1 v2 u2 f q r)
 | 0, q, r, g, hq => by
  have := g.q0
  have : q = 0 := by omega
  subst this
  have h0 := h.W0
  have h1 := h.posV
  exact ⟨by simp [gS], by simp [gS], by simp [gS]; omega, by simpa [gS] using g.hi⟩
 | f + 1, q, r, g, hq => by
  unfold gS
  split
  ·rename_i hc
   obtain ⟨h1, h2⟩ := g.next h hW (by omega)
   exact gS_ok h hW f _ _ h2 (by omega)
  ·rename_i hc
   exact g.done h hW (by omega)
theorem gS_stop {v1 v2 u2 q r : Int} {f : Nat} (h : ¬ (r < 65536 ∧ (q ≥ 65536 ∨ q * v2 > r * 65536 + u2))) : gS v1 v2 u2 f q r = q := by
 cases f with
 | zero => rfl
 | succ f => unfold gS; rw [if_neg h]

def lessF (u v : List Int) (j : Nat) (q : Int) : Nat → List Int × Int
 | 0 => (u, 0)
 | k + 1 =>
  if (lessF u v j q k).1.getD (j + k) 0 - q * v.getD k 0 - (lessF u v j q k).2 < 0 then
   ((lessF u v j q k).1.set (j + k) ((lessF u v j q k).1.getD (j + k) 0 - q * v.getD k 0 - (lessF u v j q k).2 + (-((lessF u v j q k).1.getD (j + k) 0 - q * v.getD k 0 - (lessF u v j q k).2) + 65535) / 65536 * 65536),
    (-((lessF u v j q k).1.getD (j + k) 0 - q * v.getD k 0 - (lessF u v j q k).2) + 65535) / 65536)
  else ((lessF u v j q k).1.set (j + k) ((lessF u v j q k).1.getD (j + k) 0 - q * v.getD k 0 - (lessF u v j q k).2), 0)
theorem lessF_ok {u v : List Int} {j : Nat} {q : Int} (hu : Dig u) (hv : Dig v) (hq : 0 ≤ q ∧ q ≤ 65536) : ∀ k, j + k ≤ u.length → SubRow u (lessF u v j q k).1 v j k q (lessF u v j q k).2
 | 0, _ => SubRow.start hu
 | k + 1, hk => by
  have ih := lessF_ok (j := j) hu hv hq k (by omega)
  have hlt : j + k < (lessF u v j q k).1.length := by rw [ih.len]; omega
  obtain ⟨h1, h2, h3, h4⟩ := ih.step hq hv hlt rfl
  rw [show (lessF u v j q k).1[j + k] = (lessF u v j q k).1.getD (j + k) 0 by simp [List.getD, hlt]] at h3 h4
  unfold lessF
  split
  ·exact h3 (by assumption)
  ·exact h4 (by assumption)

def backF (u v : List Int) (j : Nat) : Nat → List Int × Int
 | 0 => (u, 0)
 | k + 1 => ((backF u v j k).1.set (j + k) (((backF u v j k).1.getD (j + k) 0 + v.getD k 0 + (backF u v j k).2) % 65536), ((backF u v j k).1.getD (j + k) 0 + v.getD k 0 + (backF u v j k).2) / 65536)
theorem backF_ok {u v : List Int} {j : Nat} (hu : Dig u) (hv : Dig v) : ∀ k, j + k ≤ u.length → MulRow u (backF u v j k).1 1 v j k (backF u v j k).2 ∧ ∀ i, i < j → (backF u v j k).1[i]? = u[i]?
 | 0, _ => ⟨MulRow.start hu, fun _ _ => rfl⟩
 | k + 1, hk => by
  obtain ⟨ih, ih2⟩ := backF_ok (j := j) hu hv k (by omega)
  have hlt : j + k < (backF u v j k).1.length := by rw [ih.len]; omega
  obtain ⟨h1, h2, h3, h4, h5⟩ := ih.step (by omega) hv hlt rfl
  rw [show (backF u v j k).1[j + k] = (backF u v j k).1.getD (j + k) 0 by simp [List.getD, hlt], Int.one_mul] at h5
  refine ⟨h5, fun i hi => ?_⟩
  show ((backF u v j k).1.set (j + k) _)[i]? = _
  rw [List.getElem?_set_ne (by omega)]
  exact ih2 i hi
end Lm
end
