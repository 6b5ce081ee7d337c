/- Vx, part 3: what the frame's values say of the world; the simulation and its moves. -/
import Derived.Test.YtiaobnkihhnmhaaVxD
namespace Go.Vx
open Go.RowKit

/-- A call's constants: program, the heap's size at its begin, blocks of arguments that it may write, blocks that may be read, the world at its begin. -/
structure Fr where
  P : Program
  base : Nat
  M : List Nat
  ok0 : Nat → Prop
  w0 : World
  /-- The arguments' own arrays: where they lie, their capacity. -/
  pin : Lab → Option (Option Addr × Nat)
  pinOk : ∀ l q, pin l = some q → 2000000 ≤ l.1

abbrev BM := Lab → Option Nat
/-- A block that is read, and that the frame does not own. -/
def okU (F : Fr) (β : BM) (g : Nat) : Prop := (F.ok0 g ∨ F.base ≤ g) ∧ ∀ lab, β lab ≠ some g

/-- An array's contents in block g from o on. -/
def PL.At (w : World) (ok : Nat → Prop) (g o : Nat) : PL → Prop
  | .ints l => IntsAt w g o l
  | .arr k l => PL.Rows w ok k g o l
  | _ => False
def PL.isArr : PL → Bool
  | .ints _ => true
  | .arr _ _ => true
  | _ => false

/-- A value under a label of an argument's: the argument's array. -/
def PinR (F : Fr) (lab : Lab) (v : Value) : Prop := ∀ A c, F.pin lab = some (A, c) → ∃ n, v = .slice A n c
theorem PinR.low {F : Fr} {lab : Lab} {v : Value} (h : lab.1 < 2000000) : PinR F lab v := fun g c hp => by have := F.pinOk _ _ hp; omega
def OwnR (F : Fr) (β : BM) (w : World) (lab : Lab) (e : TypeId) (x : PL) (v : Value) : Prop :=
  (x.isArr = true ∧ PinR F lab v) ∧ ((v = .slice none 0 0 ∧ x.len = 0) ∨
    ∃ g c cur, v = .slice (some ⟨g, 0, none⟩) x.len c ∧ β lab = some g ∧ w.heap[g]? = some (.cells cur e (0, 0)) ∧ x.len ≤ c ∧ c ≤ maxLen ∧ cur.size = c * x.wd ∧ x.At w (okU F β) g 0)

def RLf (F : Fr) (β : BM) (w : World) : Lf → Value → Prop
  | .undef, v => v.oneCell' = true
  | .nil, v => v = .slice none 0 0
  | .p x, v => PL.R w (okU F β) x v
  | .own lab e x, v => OwnR F β w lab e x v

def RVal (F : Fr) (β : BM) (w : World) (a : Bool) (xs : List Lf) (v : Value) : Prop :=
  match a with
  | true => ∃ cs : List Value, v = .agg cs.toArray ∧ All2 (RLf F β w) xs cs
  | false => ∃ x, xs = [x] ∧ RLf F β w x v

def RFV (F : Fr) (β : BM) (w : World) : FV → Value → Prop
  | .any, _ => True
  | .v a xs, v => RVal F β w a xs v
  | .tup vs, v => ∃ cs : List Value, v = .tuple cs.toArray ∧ All2 (fun q c => RVal F β w q.1 q.2 c) vs cs
  | .box lab cs off, v => ∃ g cc ty, v = .pointer (some ⟨g, off, none⟩) ∧ β lab = some g ∧ w.heap[g]? = some (.cells cc ty (0, 0)) ∧ All2 (RLf F β w) cs cc.toList
  | .elt s i off, v => ∃ g o n c x, RLf F β w s (.slice (some ⟨g, o, none⟩) n c) ∧ s.arr? = some x ∧ i < x.len ∧ v = .pointer (some ⟨g, o + i * x.wd + off, none⟩)

structure Sim (F : Fr) (β : BM) (T : List FV) (a : Act) (w : World) : Prop where
  defers : a.defers = []
  size : a.tmps.size = T.length
  rel : ∀ (i : Nat) (f : FV), T[i]? = some f → ∃ c, a.tmps[i]? = some c ∧ RFV F β w f c
  inj : ∀ l l' g, β l = some g → β l' = some g → l = l'
  rng : ∀ l g, β l = some g → g < w.heap.size ∧ (F.base ≤ g ∨ g ∈ F.M)
  os : w.os = F.w0.os
  tape : w.tape = F.w0.tape
  output : w.output = F.w0.output
  hsize : F.base ≤ w.heap.size
  kept : ∀ k, k < F.base → k ∉ F.M → w.heap[k]? = F.w0.heap[k]?
  mok : ∀ k, k ∈ F.M → F.ok0 k

theorem R_one {F : Fr} {β : BM} {w : World} {x : Lf} {v : Value} (h : RLf F β w x v) : v.oneCell' = true := by
  cases x with
  | undef => exact h
  | nil => unfold RLf at h; subst h; rfl
  | p x => exact PL.R.one h
  | own l e x => obtain ⟨_, ⟨rfl, _⟩ | ⟨g, c, cur, rfl, _⟩⟩ := h <;> rfl

/-! ### labels that are in use -/
def Lf.has (l : Lab) : Lf → Bool
  | .own l' _ _ => decide (l' = l)
  | _ => false
def FV.has (l : Lab) : FV → Bool
  | .v _ xs => xs.any (Lf.has l)
  | .tup vs => vs.any fun q => q.2.any (Lf.has l)
  | .box l' cs _ => decide (l' = l) || cs.any (Lf.has l)
  | .elt s _ _ => s.has l
  | .any => false

/-! ### moving the world -/
section
variable {F : Fr} {β β' : BM} {w w' : World}

/-- What is not owned stays. -/
structure Mv (F : Fr) (β β' : BM) (w w' : World) : Prop where
  hs : w.heap.size ≤ w'.heap.size
  ok : ∀ g, okU F β g → g < w.heap.size → okU F β' g ∧ w'.heap[g]? = w.heap[g]?

theorem PL.At.move (m : Mv F β β' w w') {g o : Nat} {x : PL} (hg : w'.heap[g]? = w.heap[g]?) (h : x.At w (okU F β) g o) : x.At w' (okU F β') g o := by
  cases x <;> try exact h
  · exact IntsAt.move h hg
  · exact PL.Rows.move m.hs m.ok hg _ _ h

theorem RLf.move (m : Mv F β β' w w') {x : Lf} {v : Value} (hk : ∀ l g, x.has l = true → β l = some g → β' l = some g ∧ w'.heap[g]? = w.heap[g]?) (h : RLf F β w x v) : RLf F β' w' x v := by
  cases x with
  | undef => exact h
  | nil => exact h
  | p x => exact PL.R.move m.hs m.ok x v h
  | own l e x =>
    obtain ⟨ha, h⟩ := h
    refine ⟨ha, ?_⟩
    rcases h with h | ⟨g, c, cur, hv, hb, hh, h1, h2, h3, h4⟩
    · exact .inl h
    · have := hk l g (by simp [Lf.has]) hb
      exact .inr ⟨g, c, cur, hv, this.1, by rw [this.2]; exact hh, h1, h2, h3, h4.move m this.2⟩

theorem RLfs.move (m : Mv F β β' w w') {xs : List Lf} {cs : List Value} (hk : ∀ l g, xs.any (Lf.has l) = true → β l = some g → β' l = some g ∧ w'.heap[g]? = w.heap[g]?)
    (h : All2 (RLf F β w) xs cs) : All2 (RLf F β' w') xs cs := by
  induction xs generalizing cs with
  | nil => cases cs <;> exact h
  | cons x xs ih =>
    cases cs with
    | nil => exact h.elim
    | cons c cs =>
      refine ⟨h.1.move m (fun l g hl => hk l g (by simp [hl])), ih (fun l g hl => hk l g (by simp at hl ⊢; exact .inr hl)) h.2⟩

theorem RVal.move (m : Mv F β β' w w') {a : Bool} {xs : List Lf} {v : Value} (hk : ∀ l g, xs.any (Lf.has l) = true → β l = some g → β' l = some g ∧ w'.heap[g]? = w.heap[g]?)
    (h : RVal F β w a xs v) : RVal F β' w' a xs v := by
  cases a with
  | true =>
    obtain ⟨cs, hv, h⟩ := h
    exact ⟨cs, hv, RLfs.move m hk h⟩
  | false =>
    obtain ⟨x, rfl, h⟩ := h
    exact ⟨x, rfl, h.move m (fun l g hl => hk l g (by simp [hl]))⟩

theorem RFV.move (m : Mv F β β' w w') {f : FV} {v : Value} (hk : ∀ l g, f.has l = true → β l = some g → β' l = some g ∧ w'.heap[g]? = w.heap[g]?)
    (h : RFV F β w f v) : RFV F β' w' f v := by
  cases f with
  | any => exact True.intro
  | v a xs => exact RVal.move m hk h
  | tup vs =>
    obtain ⟨cs, hv, h⟩ := h
    refine ⟨cs, hv, ?_⟩
    clear hv
    induction vs generalizing cs with
    | nil => cases cs <;> exact h
    | cons q vs ih =>
      cases cs with
      | nil => exact h.elim
      | cons c cs =>
        exact ⟨RVal.move m (fun l g hl => hk l g (by simp [FV.has] at hl ⊢; exact .inl hl)) h.1, ih (fun l g hl => hk l g (by simp [FV.has] at hl ⊢; exact .inr hl)) cs h.2⟩
  | box lab cs off =>
    obtain ⟨g, cc, ty, hv, hb, hh, h⟩ := h
    have := hk lab g (by simp [FV.has]) hb
    exact ⟨g, cc, ty, hv, this.1, by rw [this.2]; exact hh, RLfs.move m (fun l g hl => hk l g (by simp [FV.has] at hl ⊢; exact .inr hl)) h⟩
  | elt s i off =>
    obtain ⟨g, o, n, c, x, h, hx, hi, hv⟩ := h
    exact ⟨g, o, n, c, x, h.move m (fun l g hl => hk l g hl), hx, hi, hv⟩
end

/-! ### the simulation's moves -/
section
variable {F : Fr} {β β' : BM} {w w' : World} {T : List FV} {a : Act}

theorem constFV_R {v : Value} : RFV F β w (constFV v) v := by
  unfold constFV; split <;> first | exact True.intro | exact ⟨_, rfl, rfl⟩

theorem opd_R (h : Sim F β T a w) (x : Operand) : RFV F β w (opd T x) (a.eval x) := by
  cases x with
  | tmp t =>
    show RFV F β w (T.getD t .any) (a.tmps.getD t undef)
    by_cases ht : t < T.length
    · obtain ⟨c, hc, hr⟩ := h.rel t T[t] (List.getElem?_eq_getElem ht)
      have h1 : T.getD t .any = T[t] := by simp [List.getD, List.getElem?_eq_getElem ht]
      have h2 : a.tmps.getD t undef = c := by
        rw [Array.getD_eq_getD_getElem?, hc]
        rfl
      rw [h1, h2]
      exact hr
    · have h1 : T.getD t .any = .any := by simp [List.getD, List.getElem?_eq_none (Nat.le_of_not_lt ht)]
      rw [h1]
      exact True.intro
  | const v => exact constFV_R
  | global g => exact True.intro
  | func f => exact ⟨_, rfl, rfl⟩

/-- A temporary gets a value; the world stays. -/
theorem Sim.put (h : Sim F β T a w) (d : Option Tmp) {f : FV} {c : Value} (hr : RFV F β w f c) : Sim F β (Vx.put T d f) (a.put d c) w := by
  cases d with
  | none => exact h
  | some d =>
    refine { h with size := ?_, rel := ?_ }
    · simp [Act.put, Vx.put, h.size]
    · intro i f' hf
      simp only [Vx.put, List.getElem?_set] at hf
      simp only [Act.put, Array.getElem?_setIfInBounds]
      split at hf
      · rename_i hd
        subst hd
        split at hf
        · rename_i hlt
          cases hf
          exact ⟨c, by simp [h.size, hlt], hr⟩
        · cases hf
      · rename_i hd
        obtain ⟨c', hc, hr'⟩ := h.rel i f' hf
        exact ⟨c', by simp [hd, hc], hr'⟩

/-- The world moves, and what is in use stays. -/
theorem Sim.move (h : Sim F β T a w) (m : Mv F β β' w w')
    (hk : ∀ f ∈ T, ∀ l g, f.has l = true → β l = some g → β' l = some g ∧ w'.heap[g]? = w.heap[g]?)
    (inj : ∀ l l' g, β' l = some g → β' l' = some g → l = l')
    (rng : ∀ l g, β' l = some g → g < w'.heap.size ∧ (F.base ≤ g ∨ g ∈ F.M))
    (os : w'.os = w.os) (tape : w'.tape = w.tape) (output : w'.output = w.output)
    (kept : ∀ k, k < F.base → k ∉ F.M → w'.heap[k]? = w.heap[k]?) : Sim F β' T a w' :=
  { defers := h.defers, size := h.size, inj := inj, rng := rng, os := os.trans h.os, tape := tape.trans h.tape, output := output.trans h.output,
    hsize := Nat.le_trans h.hsize m.hs, kept := fun k h1 h2 => (kept k h1 h2).trans (h.kept k h1 h2), mok := h.mok,
    rel := fun i f hf => by
      obtain ⟨c, hc, hr⟩ := h.rel i f hf
      exact ⟨c, hc, hr.move m (hk f (List.mem_of_getElem? hf))⟩ }

/-- New blocks alone. -/
structure Grew (w w' : World) : Prop where
  os : w'.os = w.os
  tape : w'.tape = w.tape
  output : w'.output = w.output
  size : w.heap.size ≤ w'.heap.size
  old : ∀ k, k < w.heap.size → w'.heap[k]? = w.heap[k]?
theorem Grew.of_below (h : Below w.heap.size w w') : Grew w w' := ⟨h.os, h.tape, h.output, h.size, h.block⟩
theorem Grew.refl (w : World) : Grew w w := ⟨rfl, rfl, rfl, Nat.le_refl _, fun _ _ => rfl⟩
theorem Grew.drew (w : World) : Grew w w.drew := ⟨rfl, rfl, rfl, Nat.le_refl _, fun _ _ => rfl⟩
theorem Grew.alloc (w : World) (o : Obj) : Grew w (w.alloc o) := ⟨rfl, rfl, rfl, by simp, fun k hk => Below.heap_alloc w o k hk⟩

theorem Sim.grow (h : Sim F β T a w) (g : Grew w w') : Sim F β T a w' :=
  h.move ⟨g.size, fun k hk hl => ⟨hk, g.old k hl⟩⟩ (fun _ _ l b _ hb => ⟨hb, g.old b (h.rng l b hb).1⟩) h.inj (fun l b hb => ⟨Nat.lt_of_lt_of_le (h.rng l b hb).1 g.size, (h.rng l b hb).2⟩)
    g.os g.tape g.output (fun k hk _ => g.old k (Nat.lt_of_lt_of_le hk h.hsize))

/-- New blocks, and labels that nobody uses laid on some of them (label (d, j): block N j). -/
def relab (β : BM) (d : Nat) (N : Nat → Option Nat) : BM := fun l => if l.1 = d then N l.2 else β l

theorem Sim.label (h : Sim F β T a w) (g : Grew w w') (d : Nat) (N : Nat → Option Nat)
    (hno : ∀ f ∈ T, ∀ j, f.has (d, j) = false)
    (hN : ∀ j b, N j = some b → w.heap.size ≤ b ∧ b < w'.heap.size) (hinj : ∀ j j' b, N j = some b → N j' = some b → j = j') : Sim F (relab β d N) T a w' := by
  have hne : ∀ f ∈ T, ∀ l : Lab, f.has l = true → l.1 ≠ d := fun f hf l hl e => by
    have := hno f hf l.2
    rw [← e, hl] at this
    cases this
  refine h.move ⟨g.size, fun k hk hl => ⟨⟨hk.1, fun l hb => ?_⟩, g.old k hl⟩⟩ (fun f hf l b hl hb => ⟨?_, g.old b (h.rng l b hb).1⟩) ?_ ?_ g.os g.tape g.output (fun k hk _ => g.old k (Nat.lt_of_lt_of_le hk h.hsize))
  · unfold relab at hb
    split at hb
    · have := hN _ _ hb; omega
    · exact hk.2 l hb
  · unfold relab
    rw [if_neg (hne f hf l hl)]
    exact hb
  · intro l l' b h1 h2
    unfold relab at h1 h2
    split at h1 <;> split at h2
    · rename_i e e'
      have := hinj _ _ _ h1 h2
      exact Prod.ext (e.trans e'.symm) this
    · have := hN _ _ h1; have := (h.rng _ _ h2).1; omega
    · have := hN _ _ h2; have := (h.rng _ _ h1).1; omega
    · exact h.inj _ _ _ h1 h2
  · intro l b hb
    unfold relab at hb
    split at hb
    · have h1 := hN _ _ hb; have := h.hsize; exact ⟨h1.2, .inl (by omega)⟩
    · exact ⟨Nat.lt_of_lt_of_le (h.rng l b hb).1 g.size, (h.rng l b hb).2⟩
end

end Go.Vx
