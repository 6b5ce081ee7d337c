/- Limbs: lists of digits in base 65536, the least significant first; their values, canonical lists, and the list of a number. Plain Lean, no program. -/
namespace Lm

def pw (n : Nat) : Int := 65536 ^ n
def val : List Int → Int
  | [] => 0
  | x :: r => x + 65536 * val r
def Dig (l : List Int) : Prop := ∀ x ∈ l, 0 ≤ x ∧ x < 65536
/-- canonical: digits, the last one not 0 -/
def Can (l : List Int) : Prop := Dig l ∧ l.getLast? ≠ some 0

theorem pw_zero : pw 0 = 1 := rfl
theorem pw_succ (n : Nat) : pw (n + 1) = 65536 * pw n := by unfold pw; rw [Int.pow_succ, Int.mul_comm]
theorem pw_pos (n : Nat) : 0 < pw n := by
  induction n with
  | zero => decide
  | succ n ih => rw [pw_succ]; omega
theorem pw_add (m n : Nat) : pw (m + n) = pw m * pw n := by unfold pw; rw [Int.pow_add]
theorem pw_mono {m n : Nat} (h : m ≤ n) : pw m ≤ pw n := by
  induction n with
  | zero => have : m = 0 := by omega
            subst this; exact Int.le_refl _
  | succ n ih =>
    by_cases e : m = n + 1
    · subst e; exact Int.le_refl _
    · have := ih (by omega); have := pw_pos n; rw [pw_succ]; omega

theorem Dig.nil : Dig [] := fun x h => by cases h
theorem Dig.cons {x : Int} {l : List Int} (h0 : 0 ≤ x) (h1 : x < 65536) (h : Dig l) : Dig (x :: l) := by
  intro y hy
  rcases List.mem_cons.1 hy with rfl | hy
  · exact ⟨h0, h1⟩
  · exact h y hy
theorem Dig.head {x : Int} {l : List Int} (h : Dig (x :: l)) : 0 ≤ x ∧ x < 65536 := h x List.mem_cons_self
theorem Dig.tail {x : Int} {l : List Int} (h : Dig (x :: l)) : Dig l := fun y hy => h y (List.mem_cons_of_mem _ hy)
theorem Dig.append {a b : List Int} (h : Dig a) (k : Dig b) : Dig (a ++ b) := by
  intro y hy
  rcases List.mem_append.1 hy with hy | hy
  · exact h y hy
  · exact k y hy
theorem Dig.left {a b : List Int} (h : Dig (a ++ b)) : Dig a := fun y hy => h y (List.mem_append_left _ hy)
theorem Dig.right {a b : List Int} (h : Dig (a ++ b)) : Dig b := fun y hy => h y (List.mem_append_right _ hy)
theorem Dig.take {a : List Int} (h : Dig a) (n : Nat) : Dig (a.take n) := fun y hy => h y (List.mem_of_mem_take hy)
theorem Dig.drop {a : List Int} (h : Dig a) (n : Nat) : Dig (a.drop n) := fun y hy => h y (List.mem_of_mem_drop hy)
theorem Dig.replicate (n : Nat) : Dig (List.replicate n 0) := by
  intro y hy
  have := (List.mem_replicate.1 hy).2
  omega

theorem val_nil : val [] = 0 := rfl
theorem val_cons (x : Int) (l : List Int) : val (x :: l) = x + 65536 * val l := rfl
theorem val_append (a b : List Int) : val (a ++ b) = val a + pw a.length * val b := by
  induction a with
  | nil => simp [val, pw]
  | cons x a ih =>
    rw [List.cons_append, val_cons, val_cons, ih, List.length_cons, pw_succ, Int.mul_add, Int.add_assoc, Int.mul_assoc]
theorem val_single (x : Int) : val [x] = x := by simp [val]
theorem val_snoc (a : List Int) (x : Int) : val (a ++ [x]) = val a + pw a.length * x := by rw [val_append, val_single]
theorem val_replicate (n : Nat) : val (List.replicate n 0) = 0 := by
  induction n with
  | zero => rfl
  | succ n ih => rw [List.replicate_succ, val_cons, ih]; rfl
theorem val_nonneg {l : List Int} (h : Dig l) : 0 ≤ val l := by
  induction l with
  | nil => exact Int.le_refl _
  | cons x l ih => have := ih h.tail; have := h.head; rw [val_cons]; omega
theorem val_lt {l : List Int} (h : Dig l) : val l < pw l.length := by
  induction l with
  | nil => decide
  | cons x l ih => have := ih h.tail; have := h.head; rw [val_cons, List.length_cons, pw_succ]; omega

/-- A list's digits are told by its value and its length. -/
theorem dig_inj : ∀ {a b : List Int}, Dig a → Dig b → a.length = b.length → val a = val b → a = b
  | [], [], _, _, _, _ => rfl
  | [], _ :: _, _, _, h, _ => by simp at h
  | _ :: _, [], _, _, h, _ => by simp at h
  | x :: a, y :: b, ha, hb, hl, hv => by
    have h1 := ha.head
    have h2 := hb.head
    rw [val_cons, val_cons] at hv
    have e : x = y := by omega
    have e2 : val a = val b := by omega
    rw [e, dig_inj ha.tail hb.tail (by simpa using hl) e2]

theorem Can.nil : Can [] := ⟨Dig.nil, by simp⟩
theorem Can.dig {l : List Int} (h : Can l) : Dig l := h.1
theorem Can.tail {x : Int} {l : List Int} (h : Can (x :: l)) : Can l := by
  refine ⟨h.1.tail, ?_⟩
  intro e
  apply h.2
  rw [List.getLast?_cons, e]
  rfl
theorem Can.ne_zero {x : Int} (h : Can [x]) : x ≠ 0 := fun e => h.2 (by simp [e])
theorem can_ge {l : List Int} (h : Can l) (hn : l ≠ []) : pw (l.length - 1) ≤ val l := by
  induction l with
  | nil => exact absurd rfl hn
  | cons x l ih =>
    have h0 := h.1.head
    by_cases e : l = []
    · subst e
      have := h.ne_zero
      simp only [List.length_cons, List.length_nil, val]
      show pw 0 ≤ _
      rw [pw_zero]
      omega
    · have h1 := ih h.tail e
      have hl : (x :: l).length - 1 = (l.length - 1) + 1 := by
        have : l.length ≠ 0 := fun h => e (List.eq_nil_of_length_eq_zero h)
        simp only [List.length_cons]
        omega
      rw [hl, pw_succ, val_cons]
      omega
theorem can_pos {l : List Int} (h : Can l) (hn : l ≠ []) : 0 < val l := by
  have := can_ge h hn
  have := pw_pos (l.length - 1)
  omega
theorem can_zero {l : List Int} (h : Can l) : val l = 0 ↔ l = [] := by
  constructor
  · intro e
    by_cases hn : l = []
    · exact hn
    · have := can_pos h hn; omega
  · intro e; subst e; rfl
theorem can_length_le {a b : List Int} (ha : Can a) (hb : Dig b) (hv : val a ≤ val b) : a.length ≤ b.length := by
  by_cases hn : a = []
  · subst hn; simp
  · have h1 := can_ge ha hn
    have h2 := val_lt hb
    by_cases hl : a.length ≤ b.length
    · exact hl
    · have := pw_mono (m := b.length) (n := a.length - 1) (by omega)
      omega
theorem can_inj {a b : List Int} (ha : Can a) (hb : Can b) (hv : val a = val b) : a = b :=
  dig_inj ha.1 hb.1 (Nat.le_antisymm (can_length_le ha hb.1 (by omega)) (can_length_le hb ha.1 (by omega))) hv
theorem can_length {l : List Int} (h : Can l) (n : Nat) : l.length ≤ n ↔ val l < pw n := by
  constructor
  · intro hl
    have := val_lt h.1
    have := pw_mono hl
    omega
  · intro hv
    by_cases hn : l = []
    · subst hn; simp
    · have h1 := can_ge h hn
      by_cases hl : l.length ≤ n
      · exact hl
      · have := pw_mono (m := n) (n := l.length - 1) (by omega)
        omega
/-- The longer one is the greater one. -/
theorem can_lt_of_length {a b : List Int} (ha : Can a) (hb : Can b) (hl : a.length < b.length) : val a < val b := by
  by_cases h : val a < val b
  · exact h
  · have := can_length_le hb ha.1 (by omega)
    omega

/-- The limbs of a number. -/
def lim (n : Nat) : List Int := if n = 0 then [] else ((n % 65536 : Nat) : Int) :: lim (n / 65536)
termination_by n
decreasing_by omega

theorem lim_zero : lim 0 = [] := by rw [lim]; simp
theorem lim_pos {n : Nat} (h : n ≠ 0) : lim n = ((n % 65536 : Nat) : Int) :: lim (n / 65536) := by rw [lim, if_neg h]
theorem lim_spec (n : Nat) : Can (lim n) ∧ val (lim n) = n := by
  induction n using Nat.strongRecOn with
  | _ n ih =>
    by_cases h : n = 0
    · subst h; rw [lim_zero]; exact ⟨Can.nil, rfl⟩
    · obtain ⟨h1, h2⟩ := ih (n / 65536) (by omega)
      rw [lim_pos h]
      refine ⟨⟨Dig.cons (by omega) (by omega) h1.1, ?_⟩, ?_⟩
      · by_cases e : lim (n / 65536) = []
        · rw [e] at h2 ⊢
          rw [val_nil] at h2
          simp only [List.getLast?_singleton, ne_eq, Option.some.injEq]
          omega
        · intro hl
          apply h1.2
          obtain ⟨y, r, hr⟩ := List.exists_cons_of_ne_nil e
          rw [hr] at hl ⊢
          rw [List.getLast?_cons_cons] at hl
          exact hl
      · rw [val_cons, h2]
        omega
theorem lim_can (n : Nat) : Can (lim n) := (lim_spec n).1
theorem lim_dig (n : Nat) : Dig (lim n) := (lim_spec n).1.1
theorem val_lim (n : Nat) : val (lim n) = n := (lim_spec n).2
theorem can_eq {l : List Int} (h : Can l) : l = lim (val l).toNat :=
  can_inj h (lim_can _) (by rw [val_lim, Int.toNat_of_nonneg (val_nonneg h.1)])
theorem can_eq' {l : List Int} {n : Nat} (h : Can l) (hv : val l = n) : l = lim n := by
  rw [can_eq h, hv, Int.toNat_natCast]
theorem lim_eq_nil {n : Nat} : lim n = [] ↔ n = 0 := by
  constructor
  · intro h; have := val_lim n; rw [h, val_nil] at this; omega
  · intro h; subst h; exact lim_zero
theorem lim_inj {m n : Nat} (h : lim m = lim n) : m = n := by
  have := congrArg val h
  rw [val_lim, val_lim] at this
  omega
theorem lim_length (n k : Nat) : (lim n).length ≤ k ↔ (n : Int) < pw k := by rw [can_length (lim_can n), val_lim]

/-- Noughts off the end. -/
def cut (l : List Int) : List Int := match l with
  | [] => []
  | x :: r => if cut r = [] ∧ x = 0 then [] else x :: cut r
theorem cut_spec {l : List Int} (h : Dig l) : Can (cut l) ∧ val (cut l) = val l := by
  induction l with
  | nil => exact ⟨Can.nil, rfl⟩
  | cons x r ih =>
    obtain ⟨h1, h2⟩ := ih h.tail
    unfold cut
    split
    · rename_i hc
      refine ⟨Can.nil, ?_⟩
      rw [hc.1, val_nil] at h2
      rw [val_cons, ← h2, hc.2]
      rfl
    · rename_i hc
      refine ⟨⟨Dig.cons h.head.1 h.head.2 h1.1, ?_⟩, by rw [val_cons, val_cons, h2]⟩
      by_cases e : cut r = []
      · rw [e]
        simp only [List.getLast?_singleton, ne_eq, Option.some.injEq]
        exact fun h0 => hc ⟨e, h0⟩
      · intro hl
        apply h1.2
        obtain ⟨y, s, hs⟩ := List.exists_cons_of_ne_nil e
        rw [hs] at hl ⊢
        rw [List.getLast?_cons_cons] at hl
        exact hl
theorem cut_eq {l : List Int} (h : Dig l) : cut l = lim (val l).toNat := by
  rw [can_eq (cut_spec h).1, (cut_spec h).2]
theorem cut_length_le (l : List Int) : (cut l).length ≤ l.length := by
  induction l with
  | nil => exact Nat.le_refl _
  | cons x r ih => unfold cut; split <;> simp; omega
theorem cut_take (l : List Int) : cut l = l.take (cut l).length := by
  induction l with
  | nil => rfl
  | cons x r ih =>
    unfold cut
    split
    · rfl
    · rw [List.length_cons, List.take_succ_cons, ← ih]
theorem cut_snoc_zero (l : List Int) : cut (l ++ [0]) = cut l := by
  induction l with
  | nil => simp [cut]
  | cons x r ih => rw [List.cons_append]; simp only [cut, ih]
theorem cut_snoc {x : Int} (l : List Int) (h : x ≠ 0) : cut (l ++ [x]) = l ++ [x] := by
  induction l with
  | nil => simp [cut, h]
  | cons y r ih => rw [List.cons_append]; simp only [cut, ih]; rw [if_neg (by simp)]

end Lm
