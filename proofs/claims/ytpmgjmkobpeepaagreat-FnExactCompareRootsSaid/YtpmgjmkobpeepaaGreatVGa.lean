/- Vx1, VxD, Vx2, Vx3, Vx4 -/
import Derived.WalkKit
import Derived.KernelRfl
import Derived.RowKit3
import Derived.Below
import Derived.Laws.AppendOwn
import Derived.Laws.OwnMore
import Derived.Laws.MakeOwn
import Derived.Laws.Rows
import Derived.Orders
import Derived.LoopN
import Derived.Lib.LaidTab
import Derived.Lib.ItoaNum
set_option linter.unusedVariables false
set_option linter.unusedSectionVars false
set_option linter.unusedSimpArgs false
section
/- Vx, part 1: pure values, what they say of the memory, and how that is carried from world to world. -/
namespace Go.Vx

/-- What one cell says, with the contents of the slices that it leads to. `ints`: a []int; `arr k`: a slice whose elements take k cells each. -/
inductive PL where
 | int (k : IntKind) (z : Int)
 | bool (b : Bool)
 | str (s : ByteArray)
 | fn (f : FuncId)
 | clo (f : FuncId) (z : Int)
 | pint (z : Int)
 | darr (k : Nat) (l : List (List PL))
 | ints (l : List Int)
 | arr (k : Nat) (l : List (List PL))

/-- The integers of a []int lie in block g from o on. -/
def IntsAt (w : World) (g o : Nat) (l : List Int) : Prop := ∀ (i : Nat) (z : Int), l[i]? = some z → w.cell? ⟨g, o + i, none⟩ = some (.int .i64 z)

mutual
/-- The value v reads as the pure leaf; each block that is read is ok. -/
def PL.R (w : World) (ok : Nat → Prop) : PL → Value → Prop
 | .int k z, v => v = .int k z
 | .bool b, v => v = .bool b
 | .str s, v => v = .string s
 | .fn f, v => v = .func (.func f) #[] #[]
 | .clo f z, v => ∃ g o, v = .func (.func f) #[] #[.pointer (some ⟨g, o, none⟩)] ∧ ok g ∧ g < w.heap.size ∧ w.cell? ⟨g, o, none⟩ = some (.int .i64 z)
 | .pint z, v => ∃ g o, v = .pointer (some ⟨g, o, none⟩) ∧ ok g ∧ g < w.heap.size ∧ w.cell? ⟨g, o, none⟩ = some (.int .i64 z)
 | .darr _ _, v => False ∧ v.oneCell' = true
 | .ints l, v => ∃ A c, v = .slice A l.length c ∧ l.length ≤ c ∧ c ≤ maxLen ∧ (l = [] ∨ ∃ g o, A = some ⟨g, o, none⟩ ∧ ok g ∧ g < w.heap.size ∧ IntsAt w g o l)
 | .arr k l, v => ∃ A c, v = .slice A l.length c ∧ l.length ≤ c ∧ c ≤ maxLen ∧ (l = [] ∨ ∃ g o, A = some ⟨g, o, none⟩ ∧ ok g ∧ g < w.heap.size ∧ PL.Rows w ok k g o l)
/-- Elements of k cells each, in block g from o on. -/
def PL.Rows (w : World) (ok : Nat → Prop) (k g : Nat) : Nat → List (List PL) → Prop
 | _, [] => True
 | o, r :: rs => r.length = k ∧ PL.Cells w ok g o r ∧ PL.Rows w ok k g (o + k) rs
/-- The cells in block g from o on. -/
def PL.Cells (w : World) (ok : Nat → Prop) (g : Nat) : Nat → List PL → Prop
 | _, [] => True
 | o, x :: xs => (∃ u, w.cell? ⟨g, o, none⟩ = some u ∧ PL.R w ok x u) ∧ PL.Cells w ok g (o + 1) xs
end

/-- Two lists, member by member. -/
def All2 {α β : Type} (R : α → β → Prop) : List α → List β → Prop
 | [], [] => True
 | x :: xs, y :: ys => R x y ∧ All2 R xs ys
 | _, _ => False

namespace All2
variable {α β : Type} {R R' : α → β → Prop}
theorem imp (h : ∀ x y, R x y → R' x y) : ∀ {xs : List α} {ys : List β}, All2 R xs ys → All2 R' xs ys
 | [], [], _ => True.intro
 | _ :: _, _ :: _, k => ⟨h _ _ k.1, imp h k.2⟩
 | [], _ :: _, k => k.elim
 | _ :: _, [], k => k.elim
theorem length : ∀ {xs : List α} {ys : List β}, All2 R xs ys → xs.length = ys.length
 | [], [], _ => rfl
 | _ :: _, _ :: _, k => by simp [length k.2]
 | [], _ :: _, k => k.elim
 | _ :: _, [], k => k.elim
theorem get : ∀ {xs : List α} {ys : List β}, All2 R xs ys → ∀ (i : Nat) (x : α), xs[i]? = some x → ∃ y, ys[i]? = some y ∧ R x y
 | [], [], _, i, x, h => by simp at h
 | a :: xs, b :: ys, k, 0, x, h => by simp at h; subst h; exact ⟨b, rfl, k.1⟩
 | a :: xs, b :: ys, k, i + 1, x, h => by simpa using get k.2 i x (by simpa using h)
 | [], _ :: _, k, _, _, _ => k.elim
 | _ :: _, [], k, _, _, _ => k.elim
theorem of_get : ∀ {xs : List α} {ys : List β}, xs.length = ys.length → (∀ (i : Nat) (x : α) (y : β), xs[i]? = some x → ys[i]? = some y → R x y) → All2 R xs ys
 | [], [], _, _ => True.intro
 | a :: xs, b :: ys, hl, h => ⟨h 0 a b rfl rfl, of_get (by simpa using hl) (fun i x y hx hy => h (i + 1) x y (by simpa using hx) (by simpa using hy))⟩
 | [], _ :: _, hl, _ => by simp at hl
 | _ :: _, [], hl, _ => by simp at hl
theorem drop : ∀ {xs : List α} {ys : List β} (n : Nat), All2 R xs ys → All2 R (xs.drop n) (ys.drop n)
 | [], [], n, _ => by simp [All2]
 | _ :: _, _ :: _, 0, k => k
 | _ :: xs, _ :: ys, n + 1, k => by simpa using drop n k.2
 | [], _ :: _, _, k => k.elim
 | _ :: _, [], _, k => k.elim
theorem take : ∀ {xs : List α} {ys : List β} (n : Nat), All2 R xs ys → All2 R (xs.take n) (ys.take n)
 | [], [], n, _ => by simp [All2]
 | _ :: _, _ :: _, 0, _ => True.intro
 | _ :: xs, _ :: ys, n + 1, k => ⟨k.1, take n k.2⟩
 | [], _ :: _, _, k => k.elim
 | _ :: _, [], _, k => k.elim
theorem append : ∀ {xs : List α} {ys : List β} {xs' : List α} {ys' : List β}, All2 R xs ys → All2 R xs' ys' → All2 R (xs ++ xs') (ys ++ ys')
 | [], [], _, _, _, k => k
 | _ :: _, _ :: _, _, _, h, k => ⟨h.1, append h.2 k⟩
 | [], _ :: _, _, _, k, _ => k.elim
 | _ :: _, [], _, _, k, _ => k.elim
end All2

/-! ### carrying -/
section
variable {w w' : World} {ok ok' : Nat → Prop}
theorem cell_of_heap {g o : Nat} (h : w'.heap[g]? = w.heap[g]?) : w'.cell? ⟨g, o, none⟩ = w.cell? ⟨g, o, none⟩ := by simp [World.cell?, h]
theorem IntsAt.move {g o : Nat} {l : List Int} (h : IntsAt w g o l) (hm : w'.heap[g]? = w.heap[g]?) : IntsAt w' g o l :=
 fun i z hz => by have := h i z hz; rw [cell_of_heap hm]; exact this

/-- What is read stays, where the ok blocks of the old world are as they were. -/
theorem PL.R.move (hs : w.heap.size ≤ w'.heap.size) (hok : ∀ g, ok g → g < w.heap.size → ok' g ∧ w'.heap[g]? = w.heap[g]?) :
  (x : PL) → ∀ (v : Value), PL.R w ok x v → PL.R w' ok' x v
 | .int _ _, _, h => h
 | .bool _, _, h => h
 | .str _, _, h => h
 | .fn _, _, h => h
 | .clo _ _, _, h => by
  unfold PL.R at h ⊢
  obtain ⟨g, o, hv, hg, hlt, hc⟩ := h
  exact ⟨g, o, hv, (hok g hg hlt).1, by omega, by rw [cell_of_heap (hok g hg hlt).2]; exact hc⟩
 | .pint _, _, h => by
  unfold PL.R at h ⊢
  obtain ⟨g, o, hv, hg, hlt, hc⟩ := h
  exact ⟨g, o, hv, (hok g hg hlt).1, by omega, by rw [cell_of_heap (hok g hg hlt).2]; exact hc⟩
 | .darr _ _, _, h => by
  unfold PL.R at h
  exact h.1.elim
 | .ints l, v, h => by
  unfold PL.R at h ⊢
  obtain ⟨A, c, hv, hl, hc, h⟩ := h
  refine ⟨A, c, hv, hl, hc, ?_⟩
  rcases h with h | ⟨g, o, hA, hg, hlt, h⟩
  ·exact .inl h
  ·exact .inr ⟨g, o, hA, (hok g hg hlt).1, by omega, h.move (hok g hg hlt).2⟩
 | .arr k l, v, h => by
  unfold PL.R at h ⊢
  obtain ⟨A, c, hv, hl, hc, h⟩ := h
  refine ⟨A, c, hv, hl, hc, ?_⟩
  rcases h with h | ⟨g, o, hA, hg, hlt, h⟩
  ·exact .inl h
  ·exact .inr ⟨g, o, hA, (hok g hg hlt).1, by omega, rows g (hok g hg hlt).2 l o h⟩
  where
 rows {k : Nat} (g : Nat) (hg : w'.heap[g]? = w.heap[g]?) : (l : List (List PL)) → ∀ o, PL.Rows w ok k g o l → PL.Rows w' ok' k g o l
  | [], _, _ => by unfold PL.Rows; exact True.intro
  | r :: rs, o, h => by
   unfold PL.Rows at h ⊢
   exact ⟨h.1, cells g hg r o h.2.1, rows g hg rs (o + k) h.2.2⟩
 cells (g : Nat) (hg : w'.heap[g]? = w.heap[g]?) : (l : List PL) → ∀ o, PL.Cells w ok g o l → PL.Cells w' ok' g o l
  | [], _, _ => by unfold PL.Cells; exact True.intro
  | x :: xs, o, h => by
   unfold PL.Cells at h ⊢
   obtain ⟨⟨u, hu, hx⟩, h⟩ := h
   exact ⟨⟨u, by rw [cell_of_heap hg]; exact hu, PL.R.move hs hok x u hx⟩, cells g hg xs (o + 1) h⟩

theorem PL.Rows.move {k g : Nat} (hs : w.heap.size ≤ w'.heap.size) (hok : ∀ g, ok g → g < w.heap.size → ok' g ∧ w'.heap[g]? = w.heap[g]?) (hg : w'.heap[g]? = w.heap[g]?)
  (l : List (List PL)) (o : Nat) (h : PL.Rows w ok k g o l) : PL.Rows w' ok' k g o l := PL.R.move.rows hs hok g hg l o h
theorem PL.Cells.move {g : Nat} (hs : w.heap.size ≤ w'.heap.size) (hok : ∀ g, ok g → g < w.heap.size → ok' g ∧ w'.heap[g]? = w.heap[g]?) (hg : w'.heap[g]? = w.heap[g]?)
  (l : List PL) (o : Nat) (h : PL.Cells w ok g o l) : PL.Cells w' ok' g o l := PL.R.move.cells hs hok g hg l o h

theorem PL.Rows.get {k g : Nat} : ∀ {l : List (List PL)} {o : Nat}, PL.Rows w ok k g o l → ∀ (i : Nat) (r : List PL), l[i]? = some r → r.length = k ∧ PL.Cells w ok g (o + i * k) r
 | [], _, _, i, r, h => by simp at h
 | r :: rs, o, h, 0, r', hr => by
  unfold PL.Rows at h
  simp at hr
  subst hr
  simpa using ⟨h.1, h.2.1⟩
 | r :: rs, o, h, i + 1, r', hr => by
  unfold PL.Rows at h
  have := h.2.2.get i r' (by simpa using hr)
  rw [show o + (i + 1) * k = o + k + i * k by rw [Nat.add_mul]; omega]
  exact this
theorem PL.Cells.get {g : Nat} : ∀ {l : List PL} {o : Nat}, PL.Cells w ok g o l → ∀ (j : Nat) (x : PL), l[j]? = some x → ∃ u, w.cell? ⟨g, o + j, none⟩ = some u ∧ PL.R w ok x u
 | [], _, _, j, x, h => by simp at h
 | y :: ys, o, h, 0, x, hx => by
  unfold PL.Cells at h
  simp at hx
  subst hx
  exact h.1
 | y :: ys, o, h, j + 1, x, hx => by
  unfold PL.Cells at h
  have := h.2.get j x (by simpa using hx)
  rw [show o + (j + 1) = o + 1 + j by omega]
  exact this
theorem PL.Cells.of_get {g : Nat} : ∀ {l : List PL} {o : Nat}, (∀ (j : Nat) (x : PL), l[j]? = some x → ∃ u, w.cell? ⟨g, o + j, none⟩ = some u ∧ PL.R w ok x u) → PL.Cells w ok g o l
 | [], _, _ => by unfold PL.Cells; exact True.intro
 | y :: ys, o, h => by
  unfold PL.Cells
  refine ⟨by simpa using h 0 y rfl, PL.Cells.of_get (fun j x hx => ?_)⟩
  have := h (j + 1) x (by simpa using hx)
  rw [show o + 1 + j = o + (j + 1) by omega]
  exact this
theorem PL.Rows.of_get {k g : Nat} : ∀ {l : List (List PL)} {o : Nat}, (∀ (i : Nat) (r : List PL), l[i]? = some r → r.length = k ∧ PL.Cells w ok g (o + i * k) r) → PL.Rows w ok k g o l
 | [], _, _ => by unfold PL.Rows; exact True.intro
 | y :: ys, o, h => by
  unfold PL.Rows
  refine ⟨(h 0 y rfl).1, by simpa using (h 0 y rfl).2, PL.Rows.of_get (fun j x hx => ?_)⟩
  have := h (j + 1) x (by simpa using hx)
  rw [show o + (j + 1) * k = o + k + j * k by rw [Nat.add_mul]; omega] at this
  exact this
/-- A cell's value is one cell. -/
theorem PL.R.one {x : PL} {v : Value} (h : PL.R w ok x v) : v.oneCell' = true := by
 cases x <;> unfold PL.R at h
 ·subst h; rfl
 ·subst h; rfl
 ·subst h; rfl
 ·subst h; rfl
 ·obtain ⟨g, o, rfl, _⟩ := h; rfl
 ·obtain ⟨g, o, rfl, _⟩ := h; rfl
 ·exact h.1.elim
 ·obtain ⟨A, c, rfl, _⟩ := h; rfl
 ·obtain ⟨A, c, rfl, _⟩ := h; rfl
end

end Go.Vx
end
section
/- Vx, part 2: the frame's values, and what an operation makes of them. -/
namespace Go.Vx

abbrev Lab := Nat × Nat

/-- A cell of the frame's: `own`: an array that is the frame's alone (label, element type). -/
inductive Lf where
 | undef
 | nil
 | p (x : PL)
 | own (lab : Lab) (e : TypeId) (x : PL)
 /-- A slice of structs that is the frame's alone, with its inner int slices: cell n's under label kidL lab n. -/
 | deep (lab : Lab) (ei : TypeId) (k : Nat) (l : List (List PL))
 /-- Such an inner slice. -/
 | kid (lab : Lab) (ei : TypeId) (n : Nat) (l : List Int)

/-- The labels of inner slices. -/
def kidL (lab : Lab) (n : Nat) : Lab := (lab.1, lab.2 + 1000 * (n + 1))
def isKid (lab l : Lab) : Bool := decide (l.1 = lab.1) && (decide (lab.2 < l.2) && decide ((l.2 - lab.2) % 1000 = 0))
theorem isKid_kidL {lab : Lab} {n : Nat} : isKid lab (kidL lab n) = true := by
 unfold isKid kidL
 simp only [Bool.and_eq_true, decide_eq_true_iff]
 exact ⟨trivial, by omega, by omega⟩
theorem isKid_ex {lab l : Lab} (h : isKid lab l = true) : ∃ n, l = kidL lab n := by
 unfold isKid at h
 simp only [Bool.and_eq_true, decide_eq_true_iff] at h
 obtain ⟨h1, h2, h3⟩ := h
 refine ⟨(l.2 - lab.2) / 1000 - 1, Prod.ext h1 ?_⟩
 show l.2 = lab.2 + 1000 * ((l.2 - lab.2) / 1000 - 1 + 1)
 omega
theorem kidL_inj {lab : Lab} {m n : Nat} (h : kidL lab m = kidL lab n) : m = n := by
 unfold kidL at h
 have := congrArg Prod.snd h
 simp only at this
 omega
theorem kidL_ne {lab : Lab} {n : Nat} : kidL lab n ≠ lab := by
 intro h
 have := congrArg Prod.snd h
 unfold kidL at this
 simp only at this
 omega

/-- What a temporary holds. `box`: the address of a cell of a variable in memory; `elt`: of a cell of an element. -/
inductive FV where
 | any
 | v (agg : Bool) (xs : List Lf)
 | tup (vs : List (Bool × List Lf))
 | box (lab : Lab) (cs : List Lf) (off : Nat)
 | elt (s : Lf) (i off : Nat)
 /-- A part of a slice, from i to off. -/
 | sub (s : Lf) (i off : Nat)
 /-- A new slice of structs, with what its cells hold. -/
 | lit (lab : Lab) (k : Nat) (cs : List Lf)

/-- A type: its cells; a struct's fields (offset, and of a struct field its cells); a slice's element. -/
inductive Ty where
 | bool
 | str
 | int (k : IntKind)
 | other
 | agg (n : Nat) (offs : List (Nat × Option Nat))
 | ints
 | slice (e : TypeId) (k : Nat) (bytes : Nat)
structure TyRow where
 id : TypeId
 ty : Ty
 zero : List Lf
def getR : List TyRow → TypeId → Option TyRow
 | [], _ => none
 | r :: rs, t => if r.id = t then some r else getR rs t
/-- none: not in the table; some none: one cell; some (some n): a struct of n cells. -/
def TyRow.cells (r : TyRow) : Option Nat := match r.ty with
 | .agg n _ => some n
 | _ => none

def constFV : Value → FV
 | .int k z => .v false [.p (.int k z)]
 | .bool b => .v false [.p (.bool b)]
 | .string s => .v false [.p (.str s)]
 | .slice none 0 0 => .v false [.nil]
 | _ => .any
def opd (T : List FV) : Operand → FV
 | .tmp t => T.getD t .any
 | .const v => constFV v
 | .func f => .v false [.p (.fn f)]
 | .global _ => .any

/-- A function that is called, with what it has captured. -/
def FV.fnc : FV → Option (FuncId × List FV)
 | .v false [.p (.fn g)] => some (g, [])
 | .v false [.p (.clo g z)] => some (g, [.v false [.p (.pint z)]])
 | _ => none

def put (T : List FV) (d : Option Tmp) (f : FV) : List FV := match d with
 | some d => T.set d f
 | none => T

/-- A slice's contents. -/
def Lf.arr? : Lf → Option PL
 | .p (.ints l) => some (.ints l)
 | .p (.arr k l) => some (.arr k l)
 | .own _ _ (.ints l) => some (.ints l)
 | .own _ _ (.arr k l) => some (.arr k l)
 | .nil => some (.ints [])
 | .deep _ _ k l => some (.darr k l)
 | _ => none
def PL.len : PL → Nat
 | .ints l => l.length
 | .arr _ l => l.length
 | .darr _ l => l.length
 | _ => 0
def PL.wd : PL → Nat
 | .arr k _ => k
 | .darr k _ => k
 | _ => 1

def cmpK (op : BinOp) (x y : Int) : Option Bool := match op with
 | .lss => some (decide (x < y))
 | .gtr => some (decide (x > y))
 | .leq => some (decide (x ≤ y))
 | .geq => some (decide (x ≥ y))
 | .eql => some (decide (x = y))
 | .neq => some (decide (x ≠ y))
 | _ => none
def ariK (op : BinOp) (x y : Int) : Option Int := match op with
 | .add => some (x + y)
 | .sub => some (x - y)
 | .mul => some (x * y)
 | _ => none

def binK (isB : Bool) (op : BinOp) (a b : PL) (c : PL → Prop) : Prop :=
 match a, b with
 | .int k x, .int k' y => match op with
  | .shl => 0 ≤ y ∧ ∃ z, k.wrap (x * 2 ^ (min y.toNat k.bits)) = z ∧ c (.int k z)
  | .shr => 0 ≤ y ∧ ∃ z, x.fdiv (2 ^ (min y.toNat k.bits)) = z ∧ c (.int k z)
  | .or => k = k' ∧ ∃ z, Go.bits .or k x y = z ∧ c (.int k z)
  | .and => k = k' ∧ ∃ z, Go.bits .and k x y = z ∧ c (.int k z)
  | op => k = k' ∧ match ariK op x y with
   | some u => ∃ z, k.wrap u = z ∧ c (.int k z)
   | none => match cmpK op x y with
    | some u => ∃ t, u = t ∧ c (.bool t)
    | none => match op with
     | .quo => y ≠ 0 ∧ ∃ z, k.wrap (x.tdiv y) = z ∧ c (.int k z)
     | .rem => y ≠ 0 ∧ ∃ z, x.tmod y = z ∧ c (.int k z)
     | _ => False
 | .bool x, .bool y => match op with
  | .eql => isB = true ∧ ∃ t, (x == y) = t ∧ c (.bool t)
  | .neq => isB = true ∧ ∃ t, (x != y) = t ∧ c (.bool t)
  | _ => False
 | .str x, .str y => match op with
  | .add => x.size + y.size ≤ 9223372036854775807 ∧ ∃ z, x ++ y = z ∧ c (.str z)
  | .eql => ∃ t, (x.toList == y.toList) = t ∧ c (.bool t)
  | .neq => ∃ t, (!(x.toList == y.toList)) = t ∧ c (.bool t)
  | _ => False
 | _, _ => False

abbrev PV := Bool × List PL
inductive Res where
 | one (r : PV)
 | tup (rs : List PV)
/-- A cell of what a call hands back that writes its arguments' arrays: a plain one, nil, or the j-th cell of the arguments. -/
inductive RL where
 | p (x : PL)
 | nil
 | arg (j : Nat)
inductive MRes where
 | one (r : Bool × List RL)
 | tup (rs : List (Bool × List RL))
/-- The table: types; the functions that write their arguments' arrays, and what is known of them (arguments, what they are then, the result). -/
structure Tab where
 rows : List TyRow
 muts : List FuncId
 /-- Functions that write a slice of structs with its inner slices (cells of an element, contents, further arguments; what they are then, the result). -/
 mdd : FuncId → Nat → List (List PL) → List PV → List (List PL) → PL → Prop := fun _ _ _ _ _ _ => False
 msh : FuncId → List PV → TypeId → Nat → List (List PL) → Prop := fun _ _ _ _ _ => False
 md : FuncId → List PV → List PV → MRes → Prop
def Tab.get (Γ : Tab) (t : TypeId) : Option TyRow := getR Γ.rows t
def isMut : List FuncId → FuncId → Bool
 | [], _ => false
 | g :: gs, f => Nat.beq g f || isMut gs f

/-- A leaf handed to a call, or back. -/
def erL : Lf → Option PL
 | .p x => some x
 | .own _ _ x => some x
 | .nil => some (.ints [])
 | .undef => none
 | .deep _ _ k l => some (.arr k l)
 | .kid _ _ _ l => some (.ints l)
def erLs : List Lf → Option (List PL)
 | [] => some []
 | x :: xs => match erL x, erLs xs with
  | some y, some ys => some (y :: ys)
  | _, _ => none
def erV : FV → Option PV
 | .v a xs => match erLs xs with
  | some ys => some (a, ys)
  | none => none
 | _ => none
def erVs : List FV → Option (List PV)
 | [] => some []
 | f :: fs => match erV f, erVs fs with
  | some y, some ys => some (y :: ys)
  | _, _ => none

def FV.leaves : FV → List Lf
 | .v _ xs => xs
 | _ => []
/-- What a call hands back: each array of its own gets a label. (3: the element type, int.) -/
def labelP (ei : TypeId) (d : Nat) : Nat → List PL → List Lf
 | _, [] => []
 | j, .ints l :: xs => .own (d, j) ei (.ints l) :: labelP ei d (j + 1) xs
 | j, .arr k l :: xs => .deep (d, j) ei k l :: labelP ei d (j + 1) xs
 | j, x :: xs => .p x :: labelP ei d (j + 1) xs
def labelVs (ei : TypeId) (d : Nat) : Nat → List PV → List (Bool × List Lf)
 | _, [] => []
 | j, (a, xs) :: rs => (a, labelP ei d j xs) :: labelVs ei d (j + xs.length) rs
def labelR (ei : TypeId) (d : Nat) (fl : Bool) : Res → FV
 | .one (a, xs) => .v a (match fl with | true => labelP ei d 0 xs | false => xs.map .p)
 | .tup rs => .tup (match fl with | true => labelVs ei d 0 rs | false => rs.map fun q => (q.1, q.2.map .p))

def PL.isA : PL → Bool
 | .darr _ _ => true
 | .clo _ _ => true
 | .pint _ => true
 | .ints _ => true
 | .arr _ _ => true
 | _ => false
def Lf.isOwn : Lf → Bool
 | .own _ _ _ => true
 | .deep _ _ _ _ => true
 | .kid _ _ _ _ => true
 | _ => false
def Res.noArr : Res → Bool
 | .one (_, xs) => xs.all fun x => !x.isA
 | .tup rs => rs.all fun q => q.2.all fun x => !x.isA
/-- What comes back shares nothing with what is owned. -/
def callOk (fl : Bool) (fs : List FV) (r : Res) : Bool := match fl with
 | true => true
 | false => r.noArr || fs.all fun f => f.leaves.all fun x => !x.isOwn

/-- A result's cell that is the call's own. -/
def frL (ei : TypeId) : Lf → Option PL
 | .own _ e (.ints l) => match Nat.beq e ei with
  | true => some (.ints l)
  | false => none
 | .nil => some (.ints [])
 | .p x => match x.isA with
  | true => none
  | false => some x
 | _ => none
/-- The same, and slices with inner slices of their own. -/
def frR (ei : TypeId) : Lf → Option PL
 | .deep _ e k l => match Nat.beq e ei with
  | true => some (.arr k l)
  | false => none
 | x => frL ei x
def mapO {α β : Type} (f : α → Option β) : List α → Option (List β)
 | [] => some []
 | x :: xs => match f x, mapO f xs with
  | some y, some ys => some (y :: ys)
  | _, _ => none
def resV (f : Lf → Option PL) (q : Bool × List Lf) : Option PV := match mapO f q.2 with
 | some ys => some (q.1, ys)
 | none => none
def labsOf : List Lf → List Lab
 | [] => []
 | .own l _ _ :: xs => l :: labsOf xs
 | _ :: xs => labsOf xs
def labNodup : List Lab → Bool
 | [] => true
 | l :: ls => ls.all (fun l' => !(decide (l' = l))) && labNodup ls

/-- A slice with inner slices of its own, where none of these labels is hit. -/
def hitBy : List Lab → Lf → Bool
 | [], _ => false
 | a :: ls, .deep l e k x => (decide (l = a) || isKid l a) || hitBy ls (.deep l e k x)
 | a :: ls, .kid l e n x => decide (kidL l n = a) || hitBy ls (.kid l e n x)
 | _ :: _, _ => false
def safeAs (as : List Lf) (x : Lf) : Lf := match hitBy (labsOf as) x with
 | true => .undef
 | false => x
/-- What an argument's label has become. -/
def lookC : List Lf → List PL → Lab → Option PL
 | .own lab _ _ :: xs, y :: ys, l => match decide (lab = l) with
  | true => some y
  | false => lookC xs ys l
 | _ :: xs, _ :: ys, l => lookC xs ys l
 | _, _, _ => none
def updCs (as : List Lf) (ys : List PL) : Lf → Lf
 | .own l e x => match lookC as ys l with
  | some y => match x, y with
   | .ints _, .ints q => .own l e (.ints q)
   | _, _ => .undef
  | none => .own l e x
 | .deep l e k x => safeAs as (.deep l e k x)
 | .kid l e n x => safeAs as (.kid l e n x)
 | x => x
def FV.mapL (f : Lf → Lf) : FV → FV
 | .v a xs => .v a (xs.map f)
 | .tup vs => .tup (vs.map fun q => (q.1, q.2.map f))
 | .box l cs off => .box l (cs.map f) off
 | .elt s j off => match (f s).arr? with
  | some _ => .elt (f s) j off
  | none => .any
 | .sub s j off => match (f s).arr? with
  | some _ => .sub (f s) j off
  | none => .any
 | .lit l k cs => .lit l k (cs.map f)
 | .any => .any
/-- The leaves of a variable. -/
def FV.lvs : FV → List Lf
 | .v false xs => xs
 | .box _ cs _ => cs
 | _ => []
def killC (as : List Lf) (ys : List PL) : Lf → Lf
 | .own l e x => match lookC as ys l with
  | some _ => .undef
  | none => .own l e x
 | .deep l e k x => safeAs as (.deep l e k x)
 | .kid l e n x => safeAs as (.kid l e n x)
 | x => x
/-- What a call that writes its arguments leaves: variables are as told; what has been loaded from them is gone. -/
def FV.mutF (as : List Lf) (ys : List PL) : FV → FV
 | .v false xs => .v false (xs.map (updCs as ys))
 | .v true xs => .v true (xs.map (killC as ys))
 | .box l cs off => .box l (cs.map (updCs as ys)) off
 | .tup vs => .tup (vs.map fun q => (q.1, q.2.map (killC as ys)))
 | .elt s j off => match (killC as ys s).arr? with
  | some _ => .elt (killC as ys s) j off
  | none => .any
 | .sub s j off => match (killC as ys s).arr? with
  | some _ => .sub (killC as ys s) j off
  | none => .any
 | .lit l k cs => .lit l k (cs.map (killC as ys))
 | .any => .any
/-- Others under these labels are as long. -/
def lenL (as : List Lf) (ys : List PL) (z : Lf) (c : Prop) : Prop := match z with
 | .own l _ (.ints q) => match lookC as ys l with
  | some (.ints l') => q.length = l'.length ∧ c
  | some _ => False
  | none => c
 | _ => c
def lenLs (as : List Lf) (ys : List PL) : List Lf → Prop → Prop
 | [], c => c
 | z :: zs, c => lenL as ys z (lenLs as ys zs c)
def lenT (as : List Lf) (ys : List PL) : List FV → Prop → Prop
 | [], c => c
 | f :: fs, c => lenLs as ys f.lvs (lenT as ys fs c)
/-- What a cell of the result is to the caller. -/
def resL (as : List Lf) (ys : List PL) : RL → Lf
 | .p x => match x.isA with
  | true => .undef
  | false => .p x
 | .nil => .nil
 | .arg j => match as[j]?, ys[j]? with
  | some (.own l e _), some (.ints q) => .own l e (.ints q)
  | _, _ => .undef
def resFV (as : List Lf) (ys : List PL) : MRes → FV
 | .one r => .v r.1 (r.2.map (resL as ys))
 | .tup rs => .tup (rs.map fun r => (r.1, r.2.map (resL as ys)))
def argV : FV → Option (Bool × List Lf)
 | .v a xs => some (a, xs)
 | _ => none

/-- A part of a slice. -/
def PL.sub (i j : Nat) : PL → PL
 | .ints l => .ints ((l.take j).drop i)
 | .arr k l => .arr k ((l.take j).drop i)
 | x => x
/-- A cell of a slice that owns its inner slices. -/
def kidLf : Lf → Nat → PL → Option Lf
 | .deep lab e _ _, n, .ints z => some (.kid lab e n z)
 | .deep _ _ _ _, _, y => match y.isA with
  | true => none
  | false => some (.p y)
 | _, _, _ => none
/-- Cells of such a slice, from one on. -/
def kidLfs (s : Lf) : Nat → List PL → Option (List Lf)
 | _, [] => some []
 | n, y :: ys => match kidLf s n y, kidLfs s (n + 1) ys with
  | some z, some zs => some (z :: zs)
  | _, _ => none
def bndA (d i : Nat) : Option FV → Prop
 | none => i = d
 | some (.v false [.p (.int _ z)]) => z = (i : Int)
 | some _ => False
def over (cs : List Lf) (off : Nat) (xs : List Lf) : List Lf := cs.take off ++ xs ++ cs.drop (off + xs.length)
/-- A struct's parts, laid over its zero. -/
def fillA (offs : List (Nat × Option Nat)) : List (Nat × FV) → List Lf → Option (List Lf)
 | [], cs => some cs
 | (i, f) :: rest, cs => match f, offs[i]? with
  | .v _ xs, some q => match Nat.beq xs.length (q.2.getD 1) && Nat.ble (q.1 + xs.length) cs.length with
   | true => fillA offs rest (over cs q.1 xs)
   | false => none
  | _, _ => none
/-- A slice's elements, in order. -/
def intsA : Nat → List (Nat × FV) → Option (List Int)
 | _, [] => some []
 | j, (i, f) :: rest => match Nat.beq i j, f, intsA (j + 1) rest with
  | true, .v false [.p (.int .i64 z)], some zs => some (z :: zs)
  | _, _, _ => none
/-- A leaf that is nobody's own. -/
def unL : Lf → Option PL
 | .p x => some x
 | .nil => some (.ints [])
 | _ => none
def unLs : List Lf → Option (List PL)
 | [] => some []
 | x :: xs => match unL x, unLs xs with
  | some y, some ys => some (y :: ys)
  | _, _ => none
def rowsA (kk : Nat) : Nat → List (Nat × FV) → Option (List (List PL))
 | _, [] => some []
 | j, (i, f) :: rest => match Nat.beq i j, f, rowsA kk (j + 1) rest with
  | true, .v _ xs, some rs => match unLs xs, Nat.beq xs.length kk with
   | some ys, true => some (ys :: rs)
   | _, _ => none
  | _, _, _ => none

def tyArr : Ty → PL → Bool
 | .ints, .ints _ => true
 | .slice _ k _, .arr k' _ => k == k'
 | _, _ => false
/-- A slice that may be indexed. -/
def tyIdx : Ty → PL → Bool
 | .slice _ k _, .darr k' _ => k == k'
 | t, y => tyArr t y
def TyRow.sl (r : TyRow) : Bool := match r.ty with
 | .ints => true
 | .slice .. => true
 | _ => false
def TyRow.str (r : TyRow) : Bool := match r.ty with
 | .str => true
 | _ => false
def TyRow.bool (r : TyRow) : Bool := match r.ty with
 | .bool => true
 | _ => false

/-- A new array, under a label or not. -/
def ownIf (lb : Bool) (l : Lab) (e : TypeId) (x : PL) : Lf := match lb with
 | true => .own l e x
 | false => .p x
def Ty.elem (ei : TypeId) : Ty → TypeId
 | .slice e _ _ => e
 | _ => ei
def Ty.by : Ty → Nat
 | .slice _ _ b => b
 | _ => 8
/-- A row without inner contents. -/
def zeroRow (r : List PL) : Bool := r.all fun x => match x with
 | .ints [] => true
 | x => !x.isA
/-- What an own slice may be after an append: own, nobody's, or one that owns its (empty) inner slices. -/
inductive ApL (lab : Lab) (ei e : TypeId) (q : PL) : Lf → Prop where
 | own : ApL lab ei e q (.own lab e q)
 | un : ApL lab ei e q (.p q)
 | deep (kk : Nat) (rows : List (List PL)) (h : q = .arr kk rows) (hz : rows.all zeroRow = true) : ApL lab ei e q (.deep lab ei kk rows)
theorem ApL.ofIf {lab : Lab} {ei e : TypeId} {q : PL} (lb : Bool) : ApL lab ei e q (ownIf lb lab e q) := by
 cases lb
 ·exact .un
 ·exact .own
/-- A string's bytes, one a row. -/
def byteRows (s : ByteArray) : List (List PL) := s.data.toList.map fun b => [.int .u8 (b.toNat : Int)]
/-- The operations that touch no more than their own temporary. -/
def Yk (Γ : Tab) (ei : TypeId) (Den : FuncId → List PV → Bool → Res → Prop) (o : Oper) (ρ : Operand → FV) (k : FV → Prop) : Prop :=
 match o.op with
 | .move x => k (ρ x)
 | .assign x => k (ρ x)
 | .pick c a b => match ρ c with
  | .v false [.p (.bool t)] => ∃ t', t = t' ∧ k (match t' with | true => ρ a | false => ρ b)
  | _ => False
 | .alloc t => match Γ.get t with
  | some r => k (.box (o.dst.getD 0, 0) r.zero 0)
  | none => False
 | .box t x => match Γ.get t, ρ x with
  | some _, .v _ xs => k (.box (o.dst.getD 0, 0) xs 0)
  | _, _ => False
 | .load t x => match Γ.get t with
  | none => False
  | some r => match ρ x with
   | .box _ cs off => match r.cells with
    | some n => Nat.ble (off + n) cs.length = true ∧ k (.v true ((cs.drop off).take n))
    | none => ∃ y, cs[off]? = some y ∧ k (.v false [y])
   | .elt s i off => match s.arr? with
    | some (.ints l) => match r.cells with
     | some _ => False
     | none => ∃ z, l[i]? = some z ∧ off = 0 ∧ k (.v false [.p (.int .i64 z)])
    | some (.arr _ l) => ∃ q, l[i]? = some q ∧ match r.cells with
     | some n => Nat.ble (off + n) q.length = true ∧ k (.v true (((q.drop off).take n).map .p))
     | none => ∃ y, q[off]? = some y ∧ k (.v false [.p y])
    | some (.darr w l) => ∃ q, l[i]? = some q ∧ match r.cells with
     | some n => Nat.ble (off + n) q.length = true ∧ ∃ zs, kidLfs s (i * w + off) ((q.drop off).take n) = some zs ∧ k (.v true zs)
     | none => ∃ y, q[off]? = some y ∧ ∃ z, kidLf s (i * w + off) y = some z ∧ k (.v false [z])
    | _ => False
   | .v false [.p (.pint z)] => match r.cells with
    | none => k (.v false [.p (.int .i64 z)])
    | some _ => False
   | _ => False
 | .binOp op t x y _ => match ρ x, ρ y with
  | .v false [.p a], .v false [.p b] => binK (match Γ.get t with | some r => r.bool | none => false) op a b (fun r => k (.v false [.p r]))
  | _, _ => False
 | .unOp op _ x => match op, ρ x with
  | .not, .v false [.p (.bool b)] => ∃ t, (!b) = t ∧ k (.v false [.p (.bool t)])
  | .neg, .v false [.p (.int kd z)] => ∃ t, kd.wrap (-z) = t ∧ k (.v false [.p (.int kd t)])
  | _, _ => False
 | .fieldAddr s x f => match Γ.get s with
  | some ⟨_, .agg _ offs, _⟩ => match offs[f]? with
   | none => False
   | some q => match ρ x with
    | .box lab cs off => k (.box lab cs (off + q.1))
    | .elt l i off => k (.elt l i (off + q.1))
    | _ => False
  | _ => False
 | .field s x f => match Γ.get s with
  | some ⟨_, .agg _ offs, _⟩ => match offs[f]? with
   | none => False
   | some q => match ρ x with
    | .v true xs => match q.2 with
     | some n => Nat.ble (q.1 + n) xs.length = true ∧ k (.v true ((xs.drop q.1).take n))
     | none => ∃ y, xs[q.1]? = some y ∧ k (.v false [y])
    | _ => False
  | _ => False
 | .indexAddr t x ix => match Γ.get t with
  | none => False
  | some r => match ρ x, ρ ix with
   | .v false [s], .v false [.p (.int _ z)] => match s.arr? with
    | some y => tyIdx r.ty y = true ∧ ∃ i : Nat, z = (i : Int) ∧ i < y.len ∧ k (.elt s i 0)
    | none => False
   | _, _ => False
 | .index t x ix => match Γ.get t, ρ x, ρ ix with
  | some r, .v false [.p (.str s)], .v false [.p (.int _ z)] => r.str = true ∧ ∃ i : Nat, z = (i : Int) ∧ ∃ b, s[i]? = some b ∧ k (.v false [.p (.int .u8 (b.toNat : Int))])
  | _, _, _ => False
 | .extract x j => match ρ x with
  | .tup vs => ∃ q, vs[j]? = some q ∧ k (.v q.1 q.2)
  | _ => False
 | .call c => match c.callee with
  | .builtin .len => match c.args.toList, c.argTypes.toList with
   | [x], [t] => match Γ.get t, ρ x with
    | some r, .v false [.p (.str s)] => r.str = true ∧ k (.v false [.p (.int .i64 s.size)])
    | some r, .v false [s] => match s.arr? with
     | some y => r.sl = true ∧ k (.v false [.p (.int .i64 y.len)])
     | none => False
    | _, _ => False
   | _, _ => False
  | .builtin .max => match c.args.toList with
   | [x, y] => match ρ x, ρ y with
    | .v false [.p (.int kx u)], .v false [.p (.int _ v)] => ∃ z, (if v > u then v else u) = z ∧ k (.v false [.p (.int kx z)])
    | _, _ => False
   | _ => False
  | .value f => match (ρ f).fnc with
   | some (g, cs) => ∃ ps, erVs (c.args.toList.map ρ ++ cs) = some ps ∧ ∃ fl lb r, Den g ps fl r ∧ callOk fl (c.args.toList.map ρ ++ cs) r = true ∧ k (labelR ei (o.dst.getD 0) (fl && lb) r)
   | none => False
  | _ => False
 | .build t parts => match Γ.get t with
  | some ⟨_, .agg _ offs, zero⟩ => match fillA offs (parts.toList.map fun q => (q.1, ρ q.2)) zero with
   | some cs => k (.v true cs)
   | none => False
  | _ => False
 | .slice t x lo hi mx => match mx with
  | some _ => False
  | none => match Γ.get t, ρ x with
   | some r, .v false [.p (.str s)] => r.str = true ∧ ∃ i j : Nat, bndA 0 i (lo.map ρ) ∧ bndA s.size j (hi.map ρ) ∧ i ≤ j ∧ j ≤ s.size ∧ ∃ z, s.extract i j = z ∧ k (.v false [.p (.str z)])
   | some r, .v false [.p y] => tyArr r.ty y = true ∧ ∃ i j : Nat, bndA 0 i (lo.map ρ) ∧ bndA y.len j (hi.map ρ) ∧ i ≤ j ∧ j ≤ y.len ∧ k (.v false [.p (y.sub i j)])
   | some r, .v false [.own lab e (.arr kk l)] => tyArr r.ty (.arr kk l) = true ∧ ∃ i j : Nat, bndA 0 i (lo.map ρ) ∧ bndA l.length j (hi.map ρ) ∧ i ≤ j ∧ j ≤ l.length ∧ i < l.length ∧ k (.sub (.own lab e (.arr kk l)) i j)
   | some r, .v false [.deep lab e kk l] => tyArr r.ty (.arr kk l) = true ∧ lo.isNone = true ∧ ∃ i j : Nat, bndA 0 i none ∧ bndA l.length j (hi.map ρ) ∧ i ≤ j ∧ j ≤ l.length ∧ k (.v false [.deep lab e kk (l.take j)])
   | _, _ => False
 | .convert s d x => match Γ.get s, Γ.get d, ρ x with
  | some _, some ⟨_, .int kd, _⟩, .v false [.p (.int _ z)] => ∃ u, kd.wrap z = u ∧ k (.v false [.p (.int kd u)])
  | some _, some ⟨_, .slice e _ _, _⟩, .v false [.p (.str s)] => (match Γ.get e with | some ⟨_, .int .u8, _⟩ => true | _ => false) = true ∧ s.size ≤ 1000000000000 ∧ k (.v false [.p (.arr 1 (byteRows s))])
  | some ⟨_, .slice e _ _, _⟩, some r, .v false [.p (.arr kk rows)] => (Nat.beq kk 1 && (r.str && (match Γ.get e with | some ⟨_, .int .u8, _⟩ => true | _ => false))) = true ∧ 0 < rows.length ∧ ∃ str, byteRows str = rows ∧ k (.v false [.p (.str str)])
  | _, _, _ => False
 | .buildSlice t n parts => match Γ.get t with
  | some ⟨_, .ints, _⟩ => match intsA 0 (parts.toList.map fun q => (q.1, ρ q.2)) with
   | some zs => (Nat.beq n zs.length && Nat.ble n 1000) = true ∧ ∃ lb, k (.v false [ownIf lb (o.dst.getD 0, 0) ei (.ints zs)])
   | none => False
  | some ⟨_, .slice e kk _, _⟩ => match rowsA kk 0 (parts.toList.map fun q => (q.1, ρ q.2)) with
   | some rows => (Nat.beq n rows.length && Nat.ble (n * kk) 1000) = true ∧ ∃ lb, k (.v false [ownIf lb (o.dst.getD 0, 0) e (.arr kk rows)])
   | none => match parts.toList.map fun q => (q.1, ρ q.2) with
    | [(0, .v true xs)] => (Nat.beq n 1 && (Nat.beq xs.length kk && Nat.ble kk 1000)) = true ∧ k (.lit (o.dst.getD 0, 0) kk xs)
    | _ => False
  | _ => False
 | .makeSlice t l c => match Γ.get t, ρ l, ρ c with
  | some ⟨_, .ints, _⟩, .v false [.p (.int _ z)], .v false [.p (.int _ z')] => ∃ n : Nat, z = (n : Int) ∧ z' = (n : Int) ∧ n ≤ 17592186044416 ∧ ∃ lb, k (.v false [ownIf lb (o.dst.getD 0, 0) ei (.ints (List.replicate n 0))])
  | some ⟨_, .slice e kk b, _⟩, .v false [.p (.int _ z)], .v false [.p (.int _ z')] => match Γ.get e with
   | some r => match unLs r.zero with
    | some zs => ∃ n : Nat, z = (n : Int) ∧ z' = (n : Int) ∧ n * (b + 1) ≤ 140737488355328 ∧ ∃ lb, k (.v false [ownIf lb (o.dst.getD 0, 0) e (.arr kk (List.replicate n zs))])
    | none => False
   | none => False
  | _, _, _ => False
 | _ => False

/-- Operations that lay labels on what is new. -/
def creates : Op → Bool
 | .alloc _ => true
 | .box .. => true
 | .call _ => true
 | .buildSlice .. => true
 | .makeSlice .. => true
 | _ => false


end Go.Vx
end
section
/- Vx, part 3: what the frame's values say of the world; the simulation and its moves. -/
namespace Go.Vx
open Go.RowKit

/-- The library's table of powers of ten, where the program has it, holds them. -/
def Wp (P : Program) (w : World) : Prop := (P.globalNamed "internal/strconv.uint64pow10").isSome = true → Lib.TabIs P w "internal/strconv.uint64pow10" .u64 Lib.pow10Tab
/-- The table stays, whatever becomes of the blocks X and of what is new. -/
def Keeps (P : Program) (X : Nat → Prop) (w : World) : Prop := ∀ w' : World, (∀ k, k < w.heap.size → ¬ X k → w'.heap[k]? = w.heap[k]?) → Wp P w'
theorem Keeps.none {P : Program} {X : Nat → Prop} {w : World} (h : (P.globalNamed "internal/strconv.uint64pow10").isSome = false) : Keeps P X w := fun w' _ h' => by rw [h] at h'; cases h'
/-- A call's constants: program, the heap's size at its begin, blocks of arguments that it may write, blocks that may be read, the world at its begin. -/
structure Fr where
 P : Program
 base : Nat
 M : List Nat
 ok0 : Nat → Prop
 w0 : World
 /-- The arguments' own arrays: where they lie, their capacity. -/
 pin : Lab → Option (Option Addr × Nat)
 pinOk : ∀ l q, pin l = some q → 2000000 ≤ l.1
 wpk : ∀ w' : World, (∀ k, k < base → k ∉ M → w'.heap[k]? = w0.heap[k]?) → Wp P w'

abbrev BM := Lab → Option Nat
/-- A block that is read, and that the frame does not own. -/
def okU (F : Fr) (β : BM) (g : Nat) : Prop := (F.ok0 g ∨ F.base ≤ g) ∧ ∀ lab, β lab ≠ some g

/-- An array's contents in block g from o on. -/
def PL.At (w : World) (ok : Nat → Prop) (g o : Nat) : PL → Prop
 | .ints l => IntsAt w g o l
 | .arr k l => PL.Rows w ok k g o l
 | .darr _ _ => True
 | _ => False
def PL.isArr : PL → Bool
 | .ints _ => true
 | .arr _ _ => true
 | _ => false

/-- A value under a label of an argument's: the argument's array. -/
def PinR (F : Fr) (lab : Lab) (v : Value) : Prop := ∀ A c, F.pin lab = some (A, c) → ∃ n, v = .slice A n c
theorem PinR.low {F : Fr} {lab : Lab} {v : Value} (h : lab.1 < 2000000) : PinR F lab v := fun g c hp => by have := F.pinOk _ _ hp; omega
def OwnR (F : Fr) (β : BM) (w : World) (lab : Lab) (e : TypeId) (x : PL) (v : Value) : Prop :=
 (x.isArr = true ∧ PinR F lab v) ∧ ((v = .slice none 0 0 ∧ x.len = 0) ∨
  ∃ g c cur, v = .slice (some ⟨g, 0, none⟩) x.len c ∧ β lab = some g ∧ w.heap[g]? = some (.cells cur e (0, 0)) ∧ x.len ≤ c ∧ c ≤ maxLen ∧ cur.size = c * x.wd ∧ x.At w (okU F β) g 0)

/-- A cell of a slice of structs that owns its inner slices: block b. -/
def KidAt (w : World) (ei : TypeId) (b : Option Nat) (x : PL) (u : Value) : Prop := match x with
 | .ints z => (z = [] ∧ ∃ A c, u = .slice A 0 c ∧ c ≤ maxLen) ∨ ∃ g c cur, u = .slice (some ⟨g, 0, none⟩) z.length c ∧ b = some g ∧ w.heap[g]? = some (.cells cur ei (0, 0)) ∧ z.length ≤ c ∧ c ≤ maxLen ∧ cur.size = c ∧ IntsAt w g 0 z
 | x => x.isA = false ∧ PL.R w (fun _ => False) x u
/-- A slice of structs that owns its inner slices: block o, and cell n's B n. -/
def DeepAt (w : World) (ei : TypeId) (o : Option Nat) (B : Nat → Option Nat) (k : Nat) (l : List (List PL)) (v : Value) : Prop :=
 (v = .slice none 0 0 ∧ l = []) ∨ ∃ g c cur e, v = .slice (some ⟨g, 0, none⟩) l.length c ∧ o = some g ∧ w.heap[g]? = some (.cells cur e (0, 0)) ∧ l.length ≤ c ∧ c ≤ maxLen ∧ cur.size = c * k ∧
  ∀ (i : Nat) (r : List PL), l[i]? = some r → r.length = k ∧ ∀ (q : Nat) (x : PL), r[q]? = some x → ∃ u, cur[i * k + q]? = some u ∧ KidAt w ei (B (i * k + q)) x u
theorem KidAt.move {w w' : World} {ei : TypeId} {b b' : Option Nat} {x : PL} {u : Value} (hb : ∀ g, b = some g → b' = some g ∧ w'.heap[g]? = w.heap[g]?) (h : KidAt w ei b x u) : KidAt w' ei b' x u := by
 unfold KidAt at h ⊢
 cases x with
 | ints z =>
  rcases h with h | ⟨g, c, cur, h1, h2, h3, h4, h5, h6, h7⟩
  ·exact .inl h
  ·obtain ⟨e1, e2⟩ := hb g h2
   exact .inr ⟨g, c, cur, h1, e1, by rw [e2]; exact h3, h4, h5, h6, h7.move e2⟩
 | int k z => exact h
 | bool b => exact h
 | str s => exact h
 | fn f => exact h
 | clo f z => exact absurd h.1 (by simp [PL.isA])
 | pint z => exact absurd h.1 (by simp [PL.isA])
 | darr k l => exact absurd h.1 (by simp [PL.isA])
 | arr k l => exact absurd h.1 (by simp [PL.isA])
theorem DeepAt.move {w w' : World} {ei : TypeId} {o o' : Option Nat} {B B' : Nat → Option Nat} {k : Nat} {l : List (List PL)} {v : Value} (ho : ∀ g, o = some g → o' = some g ∧ w'.heap[g]? = w.heap[g]?)
  (hB : ∀ n g, B n = some g → B' n = some g ∧ w'.heap[g]? = w.heap[g]?) (h : DeepAt w ei o B k l v) : DeepAt w' ei o' B' k l v := by
 rcases h with h | ⟨g, c, cur, e, h1, h2, h3, h4, h5, h6, h7⟩
 ·exact .inl h
 ·obtain ⟨e1, e2⟩ := ho g h2
  refine .inr ⟨g, c, cur, e, h1, e1, by rw [e2]; exact h3, h4, h5, h6, fun i r hr => ?_⟩
  obtain ⟨hk, hc⟩ := h7 i r hr
  refine ⟨hk, fun q x hx => ?_⟩
  obtain ⟨u, hu, hx⟩ := hc q x hx
  exact ⟨u, hu, hx.move (hB _)⟩
theorem KidAt.one {w : World} {ei : TypeId} {b : Option Nat} {x : PL} {u : Value} (h : KidAt w ei b x u) : u.oneCell' = true := by
 unfold KidAt at h
 cases x with
 | ints z =>
  rcases h with ⟨_, A, c, rfl, _⟩ | ⟨g, c, cur, rfl, _⟩ <;> rfl
 | _ => exact PL.R.one h.2
theorem DeepAt.one {w : World} {ei : TypeId} {o : Option Nat} {B : Nat → Option Nat} {k : Nat} {l : List (List PL)} {v : Value} (h : DeepAt w ei o B k l v) : v.oneCell' = true := by
 rcases h with ⟨rfl, _⟩ | ⟨g, c, cur, e, rfl, _⟩ <;> rfl

theorem heap_lt {w : World} {g : Nat} {x : Obj} (h : w.heap[g]? = some x) : g < w.heap.size := (Array.getElem?_eq_some_iff.1 h).1
/-- What is read of it. -/
theorem KidAt.R {w : World} {ei : TypeId} {b : Option Nat} {x : PL} {u : Value} {ok : Nat → Prop} (hb : ∀ g, b = some g → ok g) (h : KidAt w ei b x u) : PL.R w ok x u := by
 unfold KidAt at h
 cases x with
 | ints z =>
  rcases h with ⟨rfl, A, c, rfl, hc⟩ | ⟨g, c, cur, h1, h2, h3, h4, h5, h6, h7⟩
  ·exact ⟨A, c, rfl, Nat.zero_le _, hc, .inl rfl⟩
  ·exact ⟨_, c, h1, h4, h5, .inr ⟨g, 0, rfl, hb g h2, heap_lt h3, h7⟩⟩
 | int k z => exact h.2
 | bool b => exact h.2
 | str s => exact h.2
 | fn f => exact h.2
 | clo f z => exact absurd h.1 (by simp [PL.isA])
 | pint z => exact absurd h.1 (by simp [PL.isA])
 | darr k l => exact absurd h.1 (by simp [PL.isA])
 | arr k l => exact absurd h.1 (by simp [PL.isA])
theorem DeepAt.R {w : World} {ei : TypeId} {o : Option Nat} {B : Nat → Option Nat} {k : Nat} {l : List (List PL)} {v : Value} {ok : Nat → Prop} (ho : ∀ g, o = some g → ok g) (hB : ∀ n g, B n = some g → ok g) (h : DeepAt w ei o B k l v) : PL.R w ok (.arr k l) v := by
 rcases h with ⟨rfl, rfl⟩ | ⟨g, c, cur, e, h1, h2, h3, h4, h5, h6, h7⟩
 ·exact ⟨none, 0, rfl, Nat.le_refl _, by simp, .inl rfl⟩
 ·refine ⟨_, c, h1, h4, h5, .inr ⟨g, 0, rfl, ho g h2, heap_lt h3, PL.Rows.of_get fun i r hr => ?_⟩⟩
  obtain ⟨hk, hc⟩ := h7 i r hr
  refine ⟨hk, PL.Cells.of_get fun q x hx => ?_⟩
  obtain ⟨u, hu, hxu⟩ := hc q x hx
  exact ⟨u, by rw [Nat.zero_add, cell_of_row w g _ cur e (0, 0) h3]; exact hu, hxu.R (hB _)⟩

def RLf (F : Fr) (β : BM) (w : World) : Lf → Value → Prop
 | .undef, v => v.oneCell' = true
 | .nil, v => v = .slice none 0 0
 | .p x, v => PL.R w (okU F β) x v
 | .own lab e x, v => OwnR F β w lab e x v
 | .deep lab ei k l, v => PinR F lab v ∧ DeepAt w ei (β lab) (fun n => β (kidL lab n)) k l v
 | .kid lab ei n l, v => KidAt w ei (β (kidL lab n)) (.ints l) v

def RVal (F : Fr) (β : BM) (w : World) (a : Bool) (xs : List Lf) (v : Value) : Prop :=
 match a with
 | true => ∃ cs : List Value, v = .agg cs.toArray ∧ All2 (RLf F β w) xs cs
 | false => ∃ x, xs = [x] ∧ RLf F β w x v

def RFV (F : Fr) (β : BM) (w : World) : FV → Value → Prop
 | .any, _ => True
 | .v a xs, v => RVal F β w a xs v
 | .tup vs, v => ∃ cs : List Value, v = .tuple cs.toArray ∧ All2 (fun q c => RVal F β w q.1 q.2 c) vs cs
 | .box lab cs off, v => ∃ g cc ty, v = .pointer (some ⟨g, off, none⟩) ∧ β lab = some g ∧ w.heap[g]? = some (.cells cc ty (0, 0)) ∧ All2 (RLf F β w) cs cc.toList
 | .lit lab k cs, v => ∃ g cc ty n, v = .slice (some ⟨g, 0, none⟩) n n ∧ β lab = some g ∧ w.heap[g]? = some (.cells cc ty (0, 0)) ∧ cc.size = n * k ∧ n ≤ maxLen ∧ All2 (RLf F β w) cs cc.toList
 | .elt s i off, v => ∃ g o n c x, RLf F β w s (.slice (some ⟨g, o, none⟩) n c) ∧ s.arr? = some x ∧ i < x.len ∧ v = .pointer (some ⟨g, o + i * x.wd + off, none⟩)
 | .sub s i off, v => ∃ g o n c x, RLf F β w s (.slice (some ⟨g, o, none⟩) n c) ∧ s.arr? = some x ∧ (i ≤ off ∧ off ≤ x.len) ∧ v = .slice (some ⟨g, o + i * x.wd, none⟩) (off - i) (c - i)

structure Sim (F : Fr) (β : BM) (T : List FV) (a : Act) (w : World) : Prop where
 defers : a.defers = []
 size : a.tmps.size = T.length
 rel : ∀ (i : Nat) (f : FV), T[i]? = some f → ∃ c, a.tmps[i]? = some c ∧ RFV F β w f c
 inj : ∀ l l' g, β l = some g → β l' = some g → l = l'
 rng : ∀ l g, β l = some g → g < w.heap.size ∧ (F.base ≤ g ∨ g ∈ F.M)
 os : w.os = F.w0.os
 tape : w.tape = F.w0.tape
 output : w.output = F.w0.output
 hsize : F.base ≤ w.heap.size
 kept : ∀ k, k < F.base → k ∉ F.M → w.heap[k]? = F.w0.heap[k]?
 mok : ∀ k, k ∈ F.M → F.ok0 k

theorem Sim.keeps {F : Fr} {β : BM} {T : List FV} {a : Act} {w : World} (h : Sim F β T a w) {X : Nat → Prop} (hX : ∀ k, X k → F.base ≤ k ∨ k ∈ F.M) : Keeps F.P X w := fun w' hw' =>
 F.wpk w' fun k hk hM => by
  rw [hw' k (Nat.lt_of_lt_of_le hk h.hsize) (fun hx => (hX k hx).elim (fun h => by omega) hM)]
  exact h.kept k hk hM
theorem R_one {F : Fr} {β : BM} {w : World} {x : Lf} {v : Value} (h : RLf F β w x v) : v.oneCell' = true := by
 cases x with
 | undef => exact h
 | nil => unfold RLf at h; subst h; rfl
 | p x => exact PL.R.one h
 | own l e x => obtain ⟨_, ⟨rfl, _⟩ | ⟨g, c, cur, rfl, _⟩⟩ := h <;> rfl
 | deep l e k x => exact DeepAt.one h.2
 | kid l e n x => exact KidAt.one (show KidAt w e (β (kidL l n)) (.ints x) v from h)

/-! ### labels that are in use -/
def Lf.has (l : Lab) : Lf → Bool
 | .own l' _ _ => decide (l' = l)
 | .deep l' _ _ _ => decide (l' = l) || isKid l' l
 | .kid l' _ n _ => decide (kidL l' n = l)
 | _ => false
def FV.has (l : Lab) : FV → Bool
 | .v _ xs => xs.any (Lf.has l)
 | .tup vs => vs.any fun q => q.2.any (Lf.has l)
 | .box l' cs _ => decide (l' = l) || cs.any (Lf.has l)
 | .lit l' _ cs => decide (l' = l) || cs.any (Lf.has l)
 | .elt s _ _ => s.has l
 | .sub s _ _ => s.has l
 | .any => false

/-! ### moving the world -/
section
variable {F : Fr} {β β' : BM} {w w' : World}

/-- What is not owned stays. -/
structure Mv (F : Fr) (β β' : BM) (w w' : World) : Prop where
 hs : w.heap.size ≤ w'.heap.size
 ok : ∀ g, okU F β g → g < w.heap.size → okU F β' g ∧ w'.heap[g]? = w.heap[g]?

theorem PL.At.move (m : Mv F β β' w w') {g o : Nat} {x : PL} (hg : w'.heap[g]? = w.heap[g]?) (h : x.At w (okU F β) g o) : x.At w' (okU F β') g o := by
 cases x <;> try exact h
 ·exact IntsAt.move h hg
 ·exact PL.Rows.move m.hs m.ok hg _ _ h

theorem RLf.move (m : Mv F β β' w w') {x : Lf} {v : Value} (hk : ∀ l g, x.has l = true → β l = some g → β' l = some g ∧ w'.heap[g]? = w.heap[g]?) (h : RLf F β w x v) : RLf F β' w' x v := by
 cases x with
 | undef => exact h
 | nil => exact h
 | p x => exact PL.R.move m.hs m.ok x v h
 | own l e x =>
  obtain ⟨ha, h⟩ := h
  refine ⟨ha, ?_⟩
  rcases h with h | ⟨g, c, cur, hv, hb, hh, h1, h2, h3, h4⟩
  ·exact .inl h
  ·have := hk l g (by simp [Lf.has]) hb
   exact .inr ⟨g, c, cur, hv, this.1, by rw [this.2]; exact hh, h1, h2, h3, h4.move m this.2⟩
 | deep l e k x =>
  obtain ⟨hp, h⟩ := h
  exact ⟨hp, h.move (fun g hg => hk l g (by simp [Lf.has]) hg) (fun n g hg => hk (kidL l n) g (by simp [Lf.has, isKid_kidL]) hg)⟩
 | kid l e n x => exact (show KidAt w e (β (kidL l n)) (.ints x) v from h).move (fun g hg => hk (kidL l n) g (by simp [Lf.has]) hg)

theorem RLfs.move (m : Mv F β β' w w') {xs : List Lf} {cs : List Value} (hk : ∀ l g, xs.any (Lf.has l) = true → β l = some g → β' l = some g ∧ w'.heap[g]? = w.heap[g]?)
  (h : All2 (RLf F β w) xs cs) : All2 (RLf F β' w') xs cs := by
 induction xs generalizing cs with
 | nil => cases cs <;> exact h
 | cons x xs ih =>
  cases cs with
  | nil => exact h.elim
  | cons c cs =>
   refine ⟨h.1.move m (fun l g hl => hk l g (by simp [hl])), ih (fun l g hl => hk l g (by simp at hl ⊢; exact .inr hl)) h.2⟩

theorem RVal.move (m : Mv F β β' w w') {a : Bool} {xs : List Lf} {v : Value} (hk : ∀ l g, xs.any (Lf.has l) = true → β l = some g → β' l = some g ∧ w'.heap[g]? = w.heap[g]?)
  (h : RVal F β w a xs v) : RVal F β' w' a xs v := by
 cases a with
 | true =>
  obtain ⟨cs, hv, h⟩ := h
  exact ⟨cs, hv, RLfs.move m hk h⟩
 | false =>
  obtain ⟨x, rfl, h⟩ := h
  exact ⟨x, rfl, h.move m (fun l g hl => hk l g (by simp [hl]))⟩

theorem RFV.move (m : Mv F β β' w w') {f : FV} {v : Value} (hk : ∀ l g, f.has l = true → β l = some g → β' l = some g ∧ w'.heap[g]? = w.heap[g]?)
  (h : RFV F β w f v) : RFV F β' w' f v := by
 cases f with
 | any => exact True.intro
 | v a xs => exact RVal.move m hk h
 | tup vs =>
  obtain ⟨cs, hv, h⟩ := h
  refine ⟨cs, hv, ?_⟩
  clear hv
  induction vs generalizing cs with
  | nil => cases cs <;> exact h
  | cons q vs ih =>
   cases cs with
   | nil => exact h.elim
   | cons c cs =>
    exact ⟨RVal.move m (fun l g hl => hk l g (by simp [FV.has] at hl ⊢; exact .inl hl)) h.1, ih (fun l g hl => hk l g (by simp [FV.has] at hl ⊢; exact .inr hl)) cs h.2⟩
 | box lab cs off =>
  obtain ⟨g, cc, ty, hv, hb, hh, h⟩ := h
  have := hk lab g (by simp [FV.has]) hb
  exact ⟨g, cc, ty, hv, this.1, by rw [this.2]; exact hh, RLfs.move m (fun l g hl => hk l g (by simp [FV.has] at hl ⊢; exact .inr hl)) h⟩
 | elt s i off =>
  obtain ⟨g, o, n, c, x, h, hx, hi, hv⟩ := h
  exact ⟨g, o, n, c, x, h.move m (fun l g hl => hk l g hl), hx, hi, hv⟩
 | sub s i off =>
  obtain ⟨g, o, n, c, x, h, hx, hi, hv⟩ := h
  exact ⟨g, o, n, c, x, h.move m (fun l g hl => hk l g hl), hx, hi, hv⟩
 | lit lab k cs =>
  obtain ⟨g, cc, ty, n, hv, hb, hh, hs, hn, h⟩ := h
  have := hk lab g (by simp [FV.has]) hb
  exact ⟨g, cc, ty, n, hv, this.1, by rw [this.2]; exact hh, hs, hn, RLfs.move m (fun l g hl => hk l g (by simp [FV.has] at hl ⊢; exact .inr hl)) h⟩
end

/-! ### the simulation's moves -/
section
variable {F : Fr} {β β' : BM} {w w' : World} {T : List FV} {a : Act}

theorem constFV_R {v : Value} : RFV F β w (constFV v) v := by
 unfold constFV; split <;> first | exact True.intro | exact ⟨_, rfl, rfl⟩

theorem opd_R (h : Sim F β T a w) (x : Operand) : RFV F β w (opd T x) (a.eval x) := by
 cases x with
 | tmp t =>
  show RFV F β w (T.getD t .any) (a.tmps.getD t undef)
  by_cases ht : t < T.length
  ·obtain ⟨c, hc, hr⟩ := h.rel t T[t] (List.getElem?_eq_getElem ht)
   have h1 : T.getD t .any = T[t] := by simp [List.getD, List.getElem?_eq_getElem ht]
   have h2 : a.tmps.getD t undef = c := by
    rw [Array.getD_eq_getD_getElem?, hc]
    rfl
   rw [h1, h2]
   exact hr
  ·have h1 : T.getD t .any = .any := by simp [List.getD, List.getElem?_eq_none (Nat.le_of_not_lt ht)]
   rw [h1]
   exact True.intro
 | const v => exact constFV_R
 | global g => exact True.intro
 | func f => exact ⟨_, rfl, rfl⟩

/-- A temporary gets a value; the world stays. -/
theorem Sim.put (h : Sim F β T a w) (d : Option Tmp) {f : FV} {c : Value} (hr : RFV F β w f c) : Sim F β (Vx.put T d f) (a.put d c) w := by
 cases d with
 | none => exact h
 | some d =>
  refine { h with size := ?_, rel := ?_ }
  ·simp [Act.put, Vx.put, h.size]
  ·intro i f' hf
   simp only [Vx.put, List.getElem?_set] at hf
   simp only [Act.put, Array.getElem?_setIfInBounds]
   split at hf
   ·rename_i hd
    subst hd
    split at hf
    ·rename_i hlt
     cases hf
     exact ⟨c, by simp [h.size, hlt], hr⟩
    ·cases hf
   ·rename_i hd
    obtain ⟨c', hc, hr'⟩ := h.rel i f' hf
    exact ⟨c', by simp [hd, hc], hr'⟩

/-- The world moves, and what is in use stays. -/
theorem Sim.move (h : Sim F β T a w) (m : Mv F β β' w w')
  (hk : ∀ f ∈ T, ∀ l g, f.has l = true → β l = some g → β' l = some g ∧ w'.heap[g]? = w.heap[g]?)
  (inj : ∀ l l' g, β' l = some g → β' l' = some g → l = l')
  (rng : ∀ l g, β' l = some g → g < w'.heap.size ∧ (F.base ≤ g ∨ g ∈ F.M))
  (os : w'.os = w.os) (tape : w'.tape = w.tape) (output : w'.output = w.output)
  (kept : ∀ k, k < F.base → k ∉ F.M → w'.heap[k]? = w.heap[k]?) : Sim F β' T a w' :=
 {defers := h.defers, size := h.size, inj := inj, rng := rng, os := os.trans h.os, tape := tape.trans h.tape, output := output.trans h.output,
  hsize := Nat.le_trans h.hsize m.hs, kept := fun k h1 h2 => (kept k h1 h2).trans (h.kept k h1 h2), mok := h.mok,
  rel := fun i f hf => by
   obtain ⟨c, hc, hr⟩ := h.rel i f hf
   exact ⟨c, hc, hr.move m (hk f (List.mem_of_getElem? hf))⟩ }

/-- New blocks alone. -/
structure Grew (w w' : World) : Prop where
 os : w'.os = w.os
 tape : w'.tape = w.tape
 output : w'.output = w.output
 size : w.heap.size ≤ w'.heap.size
 old : ∀ k, k < w.heap.size → w'.heap[k]? = w.heap[k]?
theorem Grew.of_below (h : Below w.heap.size w w') : Grew w w' := ⟨h.os, h.tape, h.output, h.size, h.block⟩
theorem Grew.refl (w : World) : Grew w w := ⟨rfl, rfl, rfl, Nat.le_refl _, fun _ _ => rfl⟩
theorem Grew.drew (w : World) : Grew w w.drew := ⟨rfl, rfl, rfl, Nat.le_refl _, fun _ _ => rfl⟩
theorem Grew.alloc (w : World) (o : Obj) : Grew w (w.alloc o) := ⟨rfl, rfl, rfl, by simp, fun k hk => Below.heap_alloc w o k hk⟩

theorem Sim.grow (h : Sim F β T a w) (g : Grew w w') : Sim F β T a w' :=
 h.move ⟨g.size, fun k hk hl => ⟨hk, g.old k hl⟩⟩ (fun _ _ l b _ hb => ⟨hb, g.old b (h.rng l b hb).1⟩) h.inj (fun l b hb => ⟨Nat.lt_of_lt_of_le (h.rng l b hb).1 g.size, (h.rng l b hb).2⟩)
  g.os g.tape g.output (fun k hk _ => g.old k (Nat.lt_of_lt_of_le hk h.hsize))

/-- New blocks, and labels that nobody uses laid on some of them (label (d, j): block N j). -/
def relab (β : BM) (d : Nat) (N : Nat → Option Nat) : BM := fun l => if l.1 = d then N l.2 else β l

theorem Sim.label (h : Sim F β T a w) (g : Grew w w') (d : Nat) (N : Nat → Option Nat)
  (hno : ∀ f ∈ T, ∀ j, f.has (d, j) = false)
  (hN : ∀ j b, N j = some b → w.heap.size ≤ b ∧ b < w'.heap.size) (hinj : ∀ j j' b, N j = some b → N j' = some b → j = j') : Sim F (relab β d N) T a w' := by
 have hne : ∀ f ∈ T, ∀ l : Lab, f.has l = true → l.1 ≠ d := fun f hf l hl e => by
  have := hno f hf l.2
  rw [← e, hl] at this
  cases this
 refine h.move ⟨g.size, fun k hk hl => ⟨⟨hk.1, fun l hb => ?_⟩, g.old k hl⟩⟩ (fun f hf l b hl hb => ⟨?_, g.old b (h.rng l b hb).1⟩) ?_ ?_ g.os g.tape g.output (fun k hk _ => g.old k (Nat.lt_of_lt_of_le hk h.hsize))
 ·unfold relab at hb
  split at hb
  ·have := hN _ _ hb; omega
  ·exact hk.2 l hb
 ·unfold relab
  rw [if_neg (hne f hf l hl)]
  exact hb
 ·intro l l' b h1 h2
  unfold relab at h1 h2
  split at h1 <;> split at h2
  ·rename_i e e'
   have := hinj _ _ _ h1 h2
   exact Prod.ext (e.trans e'.symm) this
  ·have := hN _ _ h1; have := (h.rng _ _ h2).1; omega
  ·have := hN _ _ h2; have := (h.rng _ _ h1).1; omega
  ·exact h.inj _ _ _ h1 h2
 ·intro l b hb
  unfold relab at hb
  split at hb
  ·have h1 := hN _ _ hb; have := h.hsize; exact ⟨h1.2, .inl (by omega)⟩
  ·exact ⟨Nat.lt_of_lt_of_le (h.rng l b hb).1 g.size, (h.rng l b hb).2⟩
end

end Go.Vx
end
section
/- Vx, part 4: the table of types; what each operation does in the model. -/
namespace Go.Vx
open Go.RowKit

/-! ### the table -/
def zeroOkB : List Lf → List Value → Bool
 | [], [] => true
 | .p (.bool b) :: xs, .bool c :: ys => b == c && zeroOkB xs ys
 | .p (.int k z) :: xs, .int k' z' :: ys => k == k' && z == z' && zeroOkB xs ys
 | .nil :: xs, .slice none 0 0 :: ys => zeroOkB xs ys
 | .undef :: xs, y :: ys => y.oneCell' && zeroOkB xs ys
 | _, _ => false
def sizeB (P : Program) (t : TypeId) (n : Nat) : Bool := match P.info? t with
 | some i => i.size == n
 | none => false
def oneB (P : Program) (t : TypeId) : Bool := match P.underlying t with
 | some (.struct _) => false
 | some (.array _ _) => false
 | some _ => true
 | none => false
def structB (P : Program) (t : TypeId) : Bool := match P.underlying t with
 | some (.struct _) => true
 | _ => false
def fieldsB (P : Program) : List (Nat × Option Nat) → List Field → Bool
 | [], [] => true
 | q :: qs, f :: fs => q.1 == f.offset && (match q.2 with | none => oneB P f.type && sizeB P f.type 1 | some n => structB P f.type && sizeB P f.type n && n != 0) && fieldsB P qs fs
 | _, _ => false
def tyB (P : Program) (ei : TypeId) (t : TypeId) : Ty → Bool
 | .str => match P.underlying t with | some .string => true | _ => false
 | .bool => match P.underlying t with | some .bool => true | _ => false
 | .int k => match P.underlying t with | some (.int k') => k == k' | _ => false
 | .other => oneB P t
 | .agg n qs => match P.underlying t with | some (.struct fs) => fieldsB P qs fs.toList && sizeB P t n | _ => false
 | .ints => match P.underlying t with | some (.slice e) => e == ei | _ => false
 | .slice e k b => match P.underlying t with
  | some (.slice e') => e' == e && e != ei && (match P.info? e with | some i => i.size == k && i.bytes == b && k != 0 && (match i.zero with | some z => z.cells.size == k | none => false) | none => false)
  | _ => false
def rowB (P : Program) (ei : TypeId) (r : TyRow) : Bool :=
 tyB P ei r.id r.ty && (match P.info? r.id with
  | some i => i.size == r.zero.length && (match i.zero with | some z => zeroOkB r.zero z.cells.toList | none => false)
  | none => false) && (match r.cells with | some _ => true | none => sizeB P r.id 1)
def eiB (P : Program) (ei : TypeId) : Bool :=
 (match P.underlying ei with | some (.int .i64) => true | _ => false) &&
 (match P.info? ei with | some i => i.size == 1 && i.bytes == 8 && (match i.zero with | some (.int .i64 z) => z == 0 | _ => false) | none => false)
def tabB (P : Program) (ei : TypeId) (Γ : Tab) : Bool := eiB P ei && Γ.rows.all (rowB P ei)

theorem tab_row {P : Program} {ei : TypeId} {Γ : Tab} (h : tabB P ei Γ = true) {t : TypeId} {r : TyRow} (hr : Γ.get t = some r) : r.id = t ∧ rowB P ei r = true := by
 unfold tabB at h
 rw [Bool.and_eq_true] at h
 replace h := h.2
 unfold Tab.get at hr
 generalize Γ.rows = rows at h hr
 induction rows with
 | nil => cases hr
 | cons q rows ih =>
  rw [List.all_cons, Bool.and_eq_true] at h
  unfold getR at hr
  split at hr
  ·cases hr
   exact ⟨by assumption, h.1⟩
  ·exact ih h.2 hr

theorem size_of {P : Program} {t : TypeId} {n : Nat} (h : sizeB P t n = true) : ∃ i, P.info? t = some i ∧ i.size = n := by
 unfold sizeB at h
 split at h
 ·rename_i i hi
  exact ⟨i, hi, by simpa using h⟩
 ·cases h
theorem run_size {P : Program} {t : TypeId} {n : Nat} (h : sizeB P t n = true) (w : World) : (sizeOf t).run P w = .ok n w := by
 obtain ⟨i, hi, hs⟩ := size_of h
 simp [sizeOf, typeInfo, hi, hs]
theorem run_one {P : Program} {t : TypeId} (h : oneB P t = true) (w : World) : (isAgg t).run P w = .ok false w := by
 unfold oneB at h
 unfold isAgg
 cases hu : P.underlying t with
 | none => rw [hu] at h; cases h
 | some d =>
  rw [hu] at h
  rw [Sem.run_bind, run_underlying hu w]
  cases d <;> first | rfl | cases h
theorem run_struct {P : Program} {t : TypeId} (h : structB P t = true) (w : World) : (isAgg t).run P w = .ok true w := by
 unfold structB at h
 unfold isAgg
 split at h
 ·rename_i fs hu
  rw [Sem.run_bind, run_underlying hu w]
  rfl
 ·cases h

/-- A row's facts: cells of a struct, or one cell. -/
theorem row_cells {P : Program} {ei : TypeId} {r : TyRow} (h : rowB P ei r = true) :
  (∀ n, r.cells = some n → structB P r.id = true ∧ sizeB P r.id n = true) ∧ (r.cells = none → oneB P r.id = true ∧ sizeB P r.id 1 = true) := by
 unfold rowB at h
 rw [Bool.and_eq_true, Bool.and_eq_true] at h
 have h2 := h.2
 replace h := h.1.1
 unfold tyB at h
 constructor
 ·intro n hn
  unfold TyRow.cells at hn
  split at hn
  ·rename_i n' qs hq
   cases hn
   rw [hq] at h
   dsimp only at h
   split at h
   ·rename_i fs hu
    rw [Bool.and_eq_true] at h
    exact ⟨by simp [structB, hu], h.2⟩
   ·cases h
  ·cases hn
 ·intro hn
  refine ⟨?_, by rw [show r.cells = none from hn] at h2; exact h2⟩
  unfold oneB
  unfold TyRow.cells at hn
  split at hn
  ·cases hn
  ·rename_i hna
   cases ht : r.ty <;> rw [ht] at h <;> dsimp only at h
   ·split at h <;> simp_all
   ·split at h <;> simp_all
   ·split at h <;> simp_all
   ·exact h
   ·exact absurd ht (hna _ _)
   ·split at h <;> simp_all
   ·split at h <;> simp_all

theorem zero_ok {F : Fr} {β : BM} {w : World} : ∀ {xs : List Lf} {cs : List Value}, zeroOkB xs cs = true → All2 (RLf F β w) xs cs
 | [], [], _ => True.intro
 | x :: xs, c :: cs, h => by
  unfold zeroOkB at h
  split at h
  ·simp_all
  ·rename_i heq1 heq2
   cases heq1; cases heq2
   rw [Bool.and_eq_true] at h
   refine ⟨?_, zero_ok h.2⟩
   have h1 := h.1
   simp at h1
   subst h1
   rfl
  ·rename_i heq1 heq2
   cases heq1; cases heq2
   rw [Bool.and_eq_true, Bool.and_eq_true] at h
   refine ⟨?_, zero_ok h.2⟩
   have h1 := h.1
   simp at h1
   obtain ⟨h1, h2⟩ := h1
   subst h1; subst h2
   rfl
  ·rename_i heq1 heq2
   cases heq1; cases heq2
   exact ⟨rfl, zero_ok h⟩
  ·rename_i heq1 heq2
   cases heq1; cases heq2
   rw [Bool.and_eq_true] at h
   exact ⟨h.1, zero_ok h.2⟩
  ·cases h
 | [], _ :: _, h => by unfold zeroOkB at h; simp at h
 | _ :: _, [], h => by unfold zeroOkB at h; simp at h

/-! ### loads and stores of a variable -/
theorem run_load_agg {P : Program} {t : TypeId} {n : Nat} (hs : structB P t = true) (hn : sizeB P t n = true) {w : World} {g o : Nat} {cs : List Value} (hl : cs.length = n)
  (hc : ∀ j v, cs[j]? = some v → w.cell? ⟨g, o + j, none⟩ = some v) : (loadVar t ⟨g, o, none⟩).run P w = .ok (.agg cs.toArray) w := by
 have h := run_loadCells_list (P := P) w ⟨g, o, none⟩ cs (fun j v hv => by rw [Addr.add_lit]; exact hc j v hv)
 rw [hl] at h
 simp [loadVar, Sem.run_bind, run_struct hs w, run_size hn w, h]
theorem run_load_one {P : Program} {t : TypeId} (hs : oneB P t = true) {w : World} {a : Addr} {v : Value} (hc : w.cell? a = some v) : (loadVar t a).run P w = .ok v w := by
 simp [loadVar, Sem.run_bind, run_one hs w, run_load, hc]

theorem wp_value {P : Program} {o : Oper} {a : Act} {w w' : World} {c : Value} {K : Act → World → Prop} {Q : Exit → Act → World → Prop}
  (hr : (execOp a.eval o).run P w = .ok (.value c) w') (hK : K (a.put o.dst c) w') : o.wp P a w K Q := by
 unfold Oper.wp
 rw [hr]
 exact hK
theorem wp_skip_ {P : Program} {o : Oper} {a : Act} {w w' : World} {K : Act → World → Prop} {Q : Exit → Act → World → Prop}
  (hr : (execOp a.eval o).run P w = .ok .skip w') (hK : K (a.put o.dst undef) w') : o.wp P a w K Q := by
 unfold Oper.wp
 rw [hr]
 exact hK

end Go.Vx
end
section
/- Vx, part 5: each operation, done in the model. -/
namespace Go.Vx
open Go.RowKit

theorem leaf_at {F : Fr} {β : BM} {w : World} {s : Lf} {x : PL} {g o n c : Nat} (h : RLf F β w s (.slice (some ⟨g, o, none⟩) n c)) (hx : s.arr? = some x) (hl : 0 < x.len) :
  n = x.len ∧ x.At w (okU F β) g o := by
 cases s with
 | undef => cases hx
 | nil => cases h
 | p y =>
  cases y with
  | ints l =>
   cases hx
   unfold RLf PL.R at h
   obtain ⟨A, c', hv, h1, h2, h⟩ := h
   cases hv
   rcases h with rfl | ⟨g', o', hA, _, _, h⟩
   ·simp [PL.len] at hl
   ·cases hA
    exact ⟨rfl, h⟩
  | arr k l =>
   cases hx
   unfold RLf PL.R at h
   obtain ⟨A, c', hv, h1, h2, h⟩ := h
   cases hv
   rcases h with rfl | ⟨g', o', hA, _, _, h⟩
   ·simp [PL.len] at hl
   ·cases hA
    exact ⟨rfl, h⟩
  | _ => cases hx
 | own l e y =>
  have hy : y = x := by cases y <;> simp_all [Lf.arr?]
  subst hy
  obtain ⟨_, ⟨hv, _⟩ | ⟨g', c', cur, hv, hb, hh, h1, h2, h3, h4⟩⟩ := h
  ·cases hv
  ·cases hv
   exact ⟨rfl, h4⟩
 | deep l e k y =>
  cases hx
  rcases h.2 with ⟨hv, _⟩ | ⟨g', c', cur, e', hv, _⟩
  ·cases hv
  ·cases hv
   exact ⟨rfl, True.intro⟩
 | kid l e k y => cases hx

/-- A slice's value. -/
theorem leaf_slice {F : Fr} {β : BM} {w : World} {s : Lf} {x : PL} {v : Value} (h : RLf F β w s v) (hx : s.arr? = some x) :
  ∃ A c, v = .slice A x.len c ∧ x.len ≤ c ∧ c ≤ maxLen ∧ (0 < x.len → ∃ g o, A = some ⟨g, o, none⟩) := by
 cases s with
 | undef => cases hx
 | nil =>
  cases hx
  unfold RLf at h
  subst h
  exact ⟨none, 0, rfl, Nat.le_refl _, by simp, fun h => by simp [PL.len] at h⟩
 | p y =>
  cases y with
  | ints l =>
   cases hx
   unfold RLf PL.R at h
   obtain ⟨A, c', hv, h1, h2, h⟩ := h
   refine ⟨A, c', hv, h1, h2, fun hl => ?_⟩
   rcases h with rfl | ⟨g', o', hA, _⟩
   ·simp [PL.len] at hl
   ·exact ⟨g', o', hA⟩
  | arr k l =>
   cases hx
   unfold RLf PL.R at h
   obtain ⟨A, c', hv, h1, h2, h⟩ := h
   refine ⟨A, c', hv, h1, h2, fun hl => ?_⟩
   rcases h with rfl | ⟨g', o', hA, _⟩
   ·simp [PL.len] at hl
   ·exact ⟨g', o', hA⟩
  | _ => cases hx
 | own l e y =>
  have hy : y = x := by cases y <;> simp_all [Lf.arr?]
  subst hy
  obtain ⟨_, ⟨hv, h0⟩ | ⟨g', c', cur, hv, hb, hh, h1, h2, h3, h4⟩⟩ := h
  ·rw [h0]
   exact ⟨none, 0, hv, Nat.le_refl _, by simp, fun h => by omega⟩
  ·exact ⟨_, c', hv, h1, h2, fun _ => ⟨g', 0, rfl⟩⟩
 | deep l e k y =>
  cases hx
  rcases h.2 with ⟨hv, h0⟩ | ⟨g', c', cur, e', hv, _, _, h1, h2, _⟩
  ·exact ⟨none, 0, by rw [hv, h0]; rfl, by rw [h0]; simp [PL.len], by simp, fun hl => by rw [h0] at hl; simp [PL.len] at hl⟩
  ·exact ⟨_, c', hv, h1, h2, fun _ => ⟨g', 0, rfl⟩⟩
 | kid l e k y => cases hx

theorem all2_p {F : Fr} {β : BM} {w : World} {ok : Nat → Prop} (hok : ∀ g, ok g → okU F β g) : ∀ {xs : List PL} {cs : List Value}, All2 (PL.R w ok) xs cs → All2 (RLf F β w) (xs.map .p) cs
 | [], [], _ => True.intro
 | x :: xs, c :: cs, h => ⟨PL.R.move (Nat.le_refl _) (fun g hg _ => ⟨hok g hg, rfl⟩) x c h.1, all2_p hok h.2⟩
 | [], _ :: _, h => h.elim
 | _ :: _, [], h => h.elim

/-- The cells of an element, as a list. -/
theorem cells_list {w : World} {ok : Nat → Prop} {g : Nat} : ∀ {xs : List PL} {o : Nat}, PL.Cells w ok g o xs → ∃ cs : List Value, All2 (PL.R w ok) xs cs ∧ ∀ j v, cs[j]? = some v → w.cell? ⟨g, o + j, none⟩ = some v
 | [], _, _ => ⟨[], True.intro, fun j v h => by simp at h⟩
 | x :: xs, o, h => by
  unfold PL.Cells at h
  obtain ⟨⟨u, hu, hx⟩, h⟩ := h
  obtain ⟨cs, h1, h2⟩ := cells_list h
  refine ⟨u :: cs, ⟨hx, h1⟩, fun j v hv => ?_⟩
  cases j with
  | zero => simp at hv; subst hv; exact hu
  | succ j =>
   have := h2 j v (by simpa using hv)
   rw [show o + (j + 1) = o + 1 + j by omega]
   exact this

theorem fields_get {P : Program} : ∀ {qs : List (Nat × Option Nat)} {fs : List Field} {i : Nat} {q : Nat × Option Nat}, fieldsB P qs fs = true → qs[i]? = some q →
  ∃ fd, fs[i]? = some fd ∧ q.1 = fd.offset ∧ (q.2 = none → oneB P fd.type = true ∧ sizeB P fd.type 1 = true) ∧ (∀ n, q.2 = some n → structB P fd.type = true ∧ sizeB P fd.type n = true ∧ n ≠ 0)
 | [], _, i, q, _, h => by simp at h
 | _ :: _, [], _, _, h, _ => by simp [fieldsB] at h
 | q :: qs, f :: fs, 0, q', h, hq => by
  simp at hq
  subst hq
  unfold fieldsB at h
  rw [Bool.and_eq_true, Bool.and_eq_true] at h
  refine ⟨f, rfl, by simpa using h.1.1, fun hn => ?_, fun n hn => ?_⟩
  ·have := h.1.2
   rw [hn] at this
   simpa using this
  ·have := h.1.2
   rw [hn] at this
   simp at this
   exact ⟨this.1.1, this.1.2, this.2⟩
 | q :: qs, f :: fs, i + 1, q', h, hq => by
  unfold fieldsB at h
  rw [Bool.and_eq_true] at h
  simpa using fields_get h.2 (by simpa using hq)

theorem row_agg {P : Program} {ei t : TypeId} {r : TyRow} {n : Nat} {qs : List (Nat × Option Nat)} (h : rowB P ei r = true) (hr : r.ty = .agg n qs) (hi : r.id = t) :
  ∃ fs, P.underlying t = some (.struct fs) ∧ fieldsB P qs fs.toList = true ∧ sizeB P t n = true := by
 unfold rowB at h
 rw [Bool.and_eq_true, Bool.and_eq_true] at h
 replace h := h.1.1
 rw [hr, hi] at h
 unfold tyB at h
 dsimp only at h
 split at h
 ·rename_i fs hu
  rw [Bool.and_eq_true] at h
  exact ⟨fs, hu, h.1, h.2⟩
 ·cases h

theorem row_elem {P : Program} {ei t : TypeId} {r : TyRow} {y : PL} (hei : eiB P ei = true) (h : rowB P ei r = true) (hy : tyArr r.ty y = true) (hi : r.id = t) :
  ∃ i z, P.underlying t = some (.slice (r.ty.elem ei)) ∧ P.info? (r.ty.elem ei) = some i ∧ i.size = y.wd ∧ i.bytes = r.ty.by ∧ i.zero = some z ∧ z.cells.size = y.wd ∧ 0 < y.wd ∧ (y.wd = 1 → ∀ l, y = .ints l → z = .int .i64 0) := by
 unfold rowB at h
 rw [Bool.and_eq_true, Bool.and_eq_true] at h
 replace h := h.1.1
 rw [hi] at h
 unfold tyB at h
 cases hr : r.ty with
 | ints =>
  rw [hr] at h hy
  dsimp only at h
  cases y <;> simp [tyArr] at hy
  split at h
  ·rename_i e hu
   have he : e = ei := by simpa using h
   subst he
   unfold eiB at hei
   rw [Bool.and_eq_true] at hei
   have h2 := hei.2
   split at h2
   ·rename_i i hinfo
    rw [Bool.and_eq_true, Bool.and_eq_true] at h2
    have h3 := h2.2
    split at h3
    ·rename_i z hz
     have h3 : z = 0 := by simpa using h3
     subst h3
     exact ⟨i, _, hu, hinfo, by simpa [PL.wd] using h2.1.1, by simpa [Ty.by] using h2.1.2, hz, rfl, by simp [PL.wd], fun _ _ _ => rfl⟩
    ·cases h3
   ·cases h2
  ·cases h
 | slice e k b =>
  rw [hr] at h hy
  dsimp only at h
  cases y <;> simp [tyArr] at hy
  rename_i k' l
  subst hy
  split at h
  ·rename_i e' hu
   rw [Bool.and_eq_true, Bool.and_eq_true] at h
   have he : e' = e := by simpa using h.1.1
   subst he
   have h2 := h.2
   split at h2
   ·rename_i i hinfo
    rw [Bool.and_eq_true, Bool.and_eq_true, Bool.and_eq_true] at h2
    have h3 := h2.2
    split at h3
    ·rename_i z hz
     refine ⟨i, z, hu, hinfo, by simpa [PL.wd] using h2.1.1.1, by simpa [Ty.by] using h2.1.1.2, hz, by simpa [PL.wd] using h3, ?_, fun _ _ h => by cases h⟩
     have := h2.1.2
     simp at this
     simp only [PL.wd]
     omega
    ·cases h3
   ·cases h2
  ·cases h
 | _ => rw [hr] at hy; cases y <;> simp [tyArr] at hy

theorem row_arr {P : Program} {ei t : TypeId} {r : TyRow} {y : PL} (hei : eiB P ei = true) (h : rowB P ei r = true) (hy : tyArr r.ty y = true) (hi : r.id = t) :
  ∃ e, P.underlying t = some (.slice e) ∧ sizeB P e y.wd = true := by
 unfold rowB at h
 rw [Bool.and_eq_true, Bool.and_eq_true] at h
 replace h := h.1.1
 rw [hi] at h
 unfold tyB at h
 cases hr : r.ty with
 | ints =>
  rw [hr] at h hy
  dsimp only at h
  cases y <;> simp [tyArr] at hy
  split at h
  ·rename_i e hu
   have he : e = ei := by simpa using h
   subst he
   refine ⟨e, hu, ?_⟩
   unfold eiB at hei
   rw [Bool.and_eq_true] at hei
   have h2 := hei.2
   unfold sizeB
   split at h2
   ·rename_i i hinfo
    simp at h2
    simp [PL.wd, h2.1.1]
   ·cases h2
  ·cases h
 | slice e k b =>
  rw [hr] at h hy
  dsimp only at h
  cases y <;> simp [tyArr] at hy
  rename_i k' l
  subst hy
  split at h
  ·rename_i e' hu
   rw [Bool.and_eq_true, Bool.and_eq_true] at h
   have he : e' = e := by simpa using h.1.1
   subst he
   refine ⟨e', hu, ?_⟩
   have h2 := h.2
   unfold sizeB
   split at h2
   ·rename_i i hinfo
    simp at h2
    simp [PL.wd, h2.1.1]
   ·cases h2
  ·cases h
 | _ => rw [hr] at hy; cases y <;> simp [tyArr] at hy

theorem row_idx {P : Program} {ei t : TypeId} {r : TyRow} {y : PL} (hei : eiB P ei = true) (h : rowB P ei r = true) (hy : tyIdx r.ty y = true) (hi : r.id = t) :
  ∃ e, P.underlying t = some (.slice e) ∧ sizeB P e y.wd = true := by
 cases y with
 | darr k l =>
  have h1 : tyArr r.ty (.arr k l) = true := by
   cases hr : r.ty <;> rw [hr] at hy <;> first | exact hy | (simp [tyIdx, tyArr] at hy)
  exact row_arr (y := .arr k l) hei h h1 hi
 | _ => exact row_arr hei h (by cases hr : r.ty <;> rw [hr] at hy <;> first | exact hy | (simp [tyIdx, tyArr] at hy)) hi
theorem row_sl {P : Program} {ei t : TypeId} {r : TyRow} (h : rowB P ei r = true) (hy : r.sl = true) (hi : r.id = t) : ∃ e, P.underlying t = some (.slice e) := by
 unfold rowB at h
 rw [Bool.and_eq_true, Bool.and_eq_true] at h
 replace h := h.1.1
 rw [hi] at h
 unfold tyB at h
 unfold TyRow.sl at hy
 cases hr : r.ty <;> rw [hr] at h hy <;> dsimp only at h hy <;> first | cases hy | skip
 ·split at h
  ·exact ⟨_, by assumption⟩
  ·cases h
 ·split at h
  ·exact ⟨_, by assumption⟩
  ·cases h

theorem row_bool {P : Program} {ei t : TypeId} {r : TyRow} (h : rowB P ei r = true) (hy : r.bool = true) (hi : r.id = t) : P.underlying t = some .bool := by
 unfold rowB at h
 rw [Bool.and_eq_true, Bool.and_eq_true] at h
 replace h := h.1.1
 rw [hi] at h
 unfold tyB at h
 unfold TyRow.bool at hy
 cases hr : r.ty <;> rw [hr] at h hy <;> dsimp only at h hy <;> first | cases hy | skip
 split at h
 ·assumption
 ·cases h

theorem row_str {P : Program} {ei t : TypeId} {r : TyRow} (h : rowB P ei r = true) (hy : r.str = true) (hi : r.id = t) : P.underlying t = some .string := by
 unfold rowB at h
 rw [Bool.and_eq_true, Bool.and_eq_true] at h
 replace h := h.1.1
 rw [hi] at h
 unfold tyB at h
 unfold TyRow.str at hy
 cases hr : r.ty <;> rw [hr] at h hy <;> dsimp only at h hy <;> first | cases hy | skip
 split at h
 ·assumption
 ·cases h

theorem row_slice_e {P : Program} {ei t e : TypeId} {kk b : Nat} {r : TyRow} (h : rowB P ei r = true) (hy : r.ty = .slice e kk b) (hi : r.id = t) : P.underlying t = some (.slice e) := by
 unfold rowB at h
 rw [Bool.and_eq_true, Bool.and_eq_true] at h
 replace h := h.1.1
 rw [hi, hy] at h
 unfold tyB at h
 dsimp only at h
 split at h
 ·rename_i e' hu
  rw [Bool.and_eq_true, Bool.and_eq_true] at h
  have : e' = e := by simpa using h.1.1
  rw [← this]
  exact hu
 ·cases h

theorem row_int {P : Program} {ei t : TypeId} {r : TyRow} {kd : IntKind} (h : rowB P ei r = true) (hy : r.ty = .int kd) (hi : r.id = t) : P.underlying t = some (.int kd) := by
 unfold rowB at h
 rw [Bool.and_eq_true, Bool.and_eq_true] at h
 replace h := h.1.1
 rw [hi, hy] at h
 unfold tyB at h
 dsimp only at h
 split at h
 ·rename_i k' hu
  have : kd = k' := by simpa using h
  rw [this]
  exact hu
 ·cases h
theorem row_some {P : Program} {ei t : TypeId} {r : TyRow} (h : rowB P ei r = true) (hi : r.id = t) : ∃ d, P.underlying t = some d := by
 obtain ⟨h1, h2⟩ := row_cells h
 rw [hi] at h1 h2
 cases hc : r.cells with
 | some n =>
  have := (h1 n hc).1
  unfold structB at this
  split at this
  ·exact ⟨_, by assumption⟩
  ·cases this
 | none =>
  have := (h2 hc).1
  unfold oneB at this
  cases hu : P.underlying t with
  | some d => exact ⟨d, rfl⟩
  | none => rw [hu] at this; cases this

end Go.Vx
end
