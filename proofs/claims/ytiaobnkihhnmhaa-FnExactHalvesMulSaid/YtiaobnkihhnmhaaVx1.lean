/- Vx, part 1: pure values, what they say of the memory, and how that is carried from world to world. -/
import Derived.WalkKit
import Derived.KernelRfl
import Derived.RowKit3
import Derived.Below
import Derived.Laws.AppendOwn
import Derived.Laws.OwnMore
import Derived.Laws.MakeOwn
import Derived.Laws.Rows
import Derived.Orders
import Derived.LoopN
namespace Go.Vx

/-- What one cell says, with the contents of the slices that it leads to. `ints`: a []int; `arr k`: a slice whose elements take k cells each. -/
inductive PL where
  | int (k : IntKind) (z : Int)
  | bool (b : Bool)
  | str (s : ByteArray)
  | fn (f : FuncId)
  | ints (l : List Int)
  | arr (k : Nat) (l : List (List PL))

/-- The integers of a []int lie in block g from o on. -/
def IntsAt (w : World) (g o : Nat) (l : List Int) : Prop := ∀ (i : Nat) (z : Int), l[i]? = some z → w.cell? ⟨g, o + i, none⟩ = some (.int .i64 z)

mutual
/-- The value v reads as the pure leaf; each block that is read is ok. -/
def PL.R (w : World) (ok : Nat → Prop) : PL → Value → Prop
  | .int k z, v => v = .int k z
  | .bool b, v => v = .bool b
  | .str s, v => v = .string s
  | .fn f, v => v = .func (.func f) #[] #[]
  | .ints l, v => ∃ A c, v = .slice A l.length c ∧ l.length ≤ c ∧ c ≤ maxLen ∧ (l = [] ∨ ∃ g o, A = some ⟨g, o, none⟩ ∧ ok g ∧ g < w.heap.size ∧ IntsAt w g o l)
  | .arr k l, v => ∃ A c, v = .slice A l.length c ∧ l.length ≤ c ∧ c ≤ maxLen ∧ (l = [] ∨ ∃ g o, A = some ⟨g, o, none⟩ ∧ ok g ∧ g < w.heap.size ∧ PL.Rows w ok k g o l)
/-- Elements of k cells each, in block g from o on. -/
def PL.Rows (w : World) (ok : Nat → Prop) (k g : Nat) : Nat → List (List PL) → Prop
  | _, [] => True
  | o, r :: rs => r.length = k ∧ PL.Cells w ok g o r ∧ PL.Rows w ok k g (o + k) rs
/-- The cells in block g from o on. -/
def PL.Cells (w : World) (ok : Nat → Prop) (g : Nat) : Nat → List PL → Prop
  | _, [] => True
  | o, x :: xs => (∃ u, w.cell? ⟨g, o, none⟩ = some u ∧ PL.R w ok x u) ∧ PL.Cells w ok g (o + 1) xs
end

/-- Two lists, member by member. -/
def All2 {α β : Type} (R : α → β → Prop) : List α → List β → Prop
  | [], [] => True
  | x :: xs, y :: ys => R x y ∧ All2 R xs ys
  | _, _ => False

namespace All2
variable {α β : Type} {R R' : α → β → Prop}
theorem imp (h : ∀ x y, R x y → R' x y) : ∀ {xs : List α} {ys : List β}, All2 R xs ys → All2 R' xs ys
  | [], [], _ => True.intro
  | _ :: _, _ :: _, k => ⟨h _ _ k.1, imp h k.2⟩
  | [], _ :: _, k => k.elim
  | _ :: _, [], k => k.elim
theorem length : ∀ {xs : List α} {ys : List β}, All2 R xs ys → xs.length = ys.length
  | [], [], _ => rfl
  | _ :: _, _ :: _, k => by simp [length k.2]
  | [], _ :: _, k => k.elim
  | _ :: _, [], k => k.elim
theorem get : ∀ {xs : List α} {ys : List β}, All2 R xs ys → ∀ (i : Nat) (x : α), xs[i]? = some x → ∃ y, ys[i]? = some y ∧ R x y
  | [], [], _, i, x, h => by simp at h
  | a :: xs, b :: ys, k, 0, x, h => by simp at h; subst h; exact ⟨b, rfl, k.1⟩
  | a :: xs, b :: ys, k, i + 1, x, h => by simpa using get k.2 i x (by simpa using h)
  | [], _ :: _, k, _, _, _ => k.elim
  | _ :: _, [], k, _, _, _ => k.elim
theorem of_get : ∀ {xs : List α} {ys : List β}, xs.length = ys.length → (∀ (i : Nat) (x : α) (y : β), xs[i]? = some x → ys[i]? = some y → R x y) → All2 R xs ys
  | [], [], _, _ => True.intro
  | a :: xs, b :: ys, hl, h => ⟨h 0 a b rfl rfl, of_get (by simpa using hl) (fun i x y hx hy => h (i + 1) x y (by simpa using hx) (by simpa using hy))⟩
  | [], _ :: _, hl, _ => by simp at hl
  | _ :: _, [], hl, _ => by simp at hl
theorem drop : ∀ {xs : List α} {ys : List β} (n : Nat), All2 R xs ys → All2 R (xs.drop n) (ys.drop n)
  | [], [], n, _ => by simp [All2]
  | _ :: _, _ :: _, 0, k => k
  | _ :: xs, _ :: ys, n + 1, k => by simpa using drop n k.2
  | [], _ :: _, _, k => k.elim
  | _ :: _, [], _, k => k.elim
theorem take : ∀ {xs : List α} {ys : List β} (n : Nat), All2 R xs ys → All2 R (xs.take n) (ys.take n)
  | [], [], n, _ => by simp [All2]
  | _ :: _, _ :: _, 0, _ => True.intro
  | _ :: xs, _ :: ys, n + 1, k => ⟨k.1, take n k.2⟩
  | [], _ :: _, _, k => k.elim
  | _ :: _, [], _, k => k.elim
theorem append : ∀ {xs : List α} {ys : List β} {xs' : List α} {ys' : List β}, All2 R xs ys → All2 R xs' ys' → All2 R (xs ++ xs') (ys ++ ys')
  | [], [], _, _, _, k => k
  | _ :: _, _ :: _, _, _, h, k => ⟨h.1, append h.2 k⟩
  | [], _ :: _, _, _, k, _ => k.elim
  | _ :: _, [], _, _, k, _ => k.elim
theorem map_left {γ : Type} {f : γ → α} : ∀ {xs : List γ} {ys : List β}, All2 (fun x y => R (f x) y) xs ys → All2 R (xs.map f) ys
  | [], [], _ => True.intro
  | _ :: _, _ :: _, k => ⟨k.1, map_left k.2⟩
  | [], _ :: _, k => k.elim
  | _ :: _, [], k => k.elim
theorem of_map_left {γ : Type} {f : γ → α} : ∀ {xs : List γ} {ys : List β}, All2 R (xs.map f) ys → All2 (fun x y => R (f x) y) xs ys
  | [], [], _ => True.intro
  | _ :: _, _ :: _, k => ⟨k.1, of_map_left k.2⟩
  | [], _ :: _, k => k.elim
  | _ :: _, [], k => k.elim
end All2

/-! ### carrying -/
section
variable {w w' : World} {ok ok' : Nat → Prop}
theorem cell_of_heap {g o : Nat} (h : w'.heap[g]? = w.heap[g]?) : w'.cell? ⟨g, o, none⟩ = w.cell? ⟨g, o, none⟩ := by simp [World.cell?, h]
theorem cell_lt {g o : Nat} {u : Value} (h : w.cell? ⟨g, o, none⟩ = some u) : g < w.heap.size := by
  unfold World.cell? at h
  split at h
  · rename_i hg
    exact (Array.getElem?_eq_some_iff.1 hg).1
  · cases h

theorem IntsAt.move {g o : Nat} {l : List Int} (h : IntsAt w g o l) (hm : w'.heap[g]? = w.heap[g]?) : IntsAt w' g o l :=
  fun i z hz => by have := h i z hz; rw [cell_of_heap hm]; exact this

/-- What is read stays, where the ok blocks of the old world are as they were. -/
theorem PL.R.move (hs : w.heap.size ≤ w'.heap.size) (hok : ∀ g, ok g → g < w.heap.size → ok' g ∧ w'.heap[g]? = w.heap[g]?) :
    (x : PL) → ∀ (v : Value), PL.R w ok x v → PL.R w' ok' x v
  | .int _ _, _, h => h
  | .bool _, _, h => h
  | .str _, _, h => h
  | .fn _, _, h => h
  | .ints l, v, h => by
    unfold PL.R at h ⊢
    obtain ⟨A, c, hv, hl, hc, h⟩ := h
    refine ⟨A, c, hv, hl, hc, ?_⟩
    rcases h with h | ⟨g, o, hA, hg, hlt, h⟩
    · exact .inl h
    · exact .inr ⟨g, o, hA, (hok g hg hlt).1, by omega, h.move (hok g hg hlt).2⟩
  | .arr k l, v, h => by
    unfold PL.R at h ⊢
    obtain ⟨A, c, hv, hl, hc, h⟩ := h
    refine ⟨A, c, hv, hl, hc, ?_⟩
    rcases h with h | ⟨g, o, hA, hg, hlt, h⟩
    · exact .inl h
    · exact .inr ⟨g, o, hA, (hok g hg hlt).1, by omega, rows g (hok g hg hlt).2 l o h⟩
    where
  rows {k : Nat} (g : Nat) (hg : w'.heap[g]? = w.heap[g]?) : (l : List (List PL)) → ∀ o, PL.Rows w ok k g o l → PL.Rows w' ok' k g o l
    | [], _, _ => by unfold PL.Rows; exact True.intro
    | r :: rs, o, h => by
      unfold PL.Rows at h ⊢
      exact ⟨h.1, cells g hg r o h.2.1, rows g hg rs (o + k) h.2.2⟩
  cells (g : Nat) (hg : w'.heap[g]? = w.heap[g]?) : (l : List PL) → ∀ o, PL.Cells w ok g o l → PL.Cells w' ok' g o l
    | [], _, _ => by unfold PL.Cells; exact True.intro
    | x :: xs, o, h => by
      unfold PL.Cells at h ⊢
      obtain ⟨⟨u, hu, hx⟩, h⟩ := h
      exact ⟨⟨u, by rw [cell_of_heap hg]; exact hu, PL.R.move hs hok x u hx⟩, cells g hg xs (o + 1) h⟩

theorem PL.Rows.move {k g : Nat} (hs : w.heap.size ≤ w'.heap.size) (hok : ∀ g, ok g → g < w.heap.size → ok' g ∧ w'.heap[g]? = w.heap[g]?) (hg : w'.heap[g]? = w.heap[g]?)
    (l : List (List PL)) (o : Nat) (h : PL.Rows w ok k g o l) : PL.Rows w' ok' k g o l := PL.R.move.rows hs hok g hg l o h
theorem PL.Cells.move {g : Nat} (hs : w.heap.size ≤ w'.heap.size) (hok : ∀ g, ok g → g < w.heap.size → ok' g ∧ w'.heap[g]? = w.heap[g]?) (hg : w'.heap[g]? = w.heap[g]?)
    (l : List PL) (o : Nat) (h : PL.Cells w ok g o l) : PL.Cells w' ok' g o l := PL.R.move.cells hs hok g hg l o h

theorem PL.Rows.get {k g : Nat} : ∀ {l : List (List PL)} {o : Nat}, PL.Rows w ok k g o l → ∀ (i : Nat) (r : List PL), l[i]? = some r → r.length = k ∧ PL.Cells w ok g (o + i * k) r
  | [], _, _, i, r, h => by simp at h
  | r :: rs, o, h, 0, r', hr => by
    unfold PL.Rows at h
    simp at hr
    subst hr
    simpa using ⟨h.1, h.2.1⟩
  | r :: rs, o, h, i + 1, r', hr => by
    unfold PL.Rows at h
    have := h.2.2.get i r' (by simpa using hr)
    rw [show o + (i + 1) * k = o + k + i * k by rw [Nat.add_mul]; omega]
    exact this
theorem PL.Cells.get {g : Nat} : ∀ {l : List PL} {o : Nat}, PL.Cells w ok g o l → ∀ (j : Nat) (x : PL), l[j]? = some x → ∃ u, w.cell? ⟨g, o + j, none⟩ = some u ∧ PL.R w ok x u
  | [], _, _, j, x, h => by simp at h
  | y :: ys, o, h, 0, x, hx => by
    unfold PL.Cells at h
    simp at hx
    subst hx
    exact h.1
  | y :: ys, o, h, j + 1, x, hx => by
    unfold PL.Cells at h
    have := h.2.get j x (by simpa using hx)
    rw [show o + (j + 1) = o + 1 + j by omega]
    exact this
theorem PL.Cells.of_get {g : Nat} : ∀ {l : List PL} {o : Nat}, (∀ (j : Nat) (x : PL), l[j]? = some x → ∃ u, w.cell? ⟨g, o + j, none⟩ = some u ∧ PL.R w ok x u) → PL.Cells w ok g o l
  | [], _, _ => by unfold PL.Cells; exact True.intro
  | y :: ys, o, h => by
    unfold PL.Cells
    refine ⟨by simpa using h 0 y rfl, PL.Cells.of_get (fun j x hx => ?_)⟩
    have := h (j + 1) x (by simpa using hx)
    rw [show o + 1 + j = o + (j + 1) by omega]
    exact this
theorem PL.Rows.of_get {k g : Nat} : ∀ {l : List (List PL)} {o : Nat}, (∀ (i : Nat) (r : List PL), l[i]? = some r → r.length = k ∧ PL.Cells w ok g (o + i * k) r) → PL.Rows w ok k g o l
  | [], _, _ => by unfold PL.Rows; exact True.intro
  | y :: ys, o, h => by
    unfold PL.Rows
    refine ⟨(h 0 y rfl).1, by simpa using (h 0 y rfl).2, PL.Rows.of_get (fun j x hx => ?_)⟩
    have := h (j + 1) x (by simpa using hx)
    rw [show o + (j + 1) * k = o + k + j * k by rw [Nat.add_mul]; omega] at this
    exact this
/-- A cell's value is one cell. -/
theorem PL.R.one {x : PL} {v : Value} (h : PL.R w ok x v) : v.oneCell' = true := by
  cases x <;> unfold PL.R at h
  · subst h; rfl
  · subst h; rfl
  · subst h; rfl
  · subst h; rfl
  · obtain ⟨A, c, rfl, _⟩ := h; rfl
  · obtain ⟨A, c, rfl, _⟩ := h; rfl
end

end Go.Vx
