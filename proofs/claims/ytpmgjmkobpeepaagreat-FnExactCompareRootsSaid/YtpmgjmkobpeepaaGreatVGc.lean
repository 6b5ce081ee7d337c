/- Vx7, Vx8, VxA -/
import Derived.Test.YtpmgjmkobpeepaaGreatVGb
import Derived.Laws.CopyRow
set_option linter.unusedVariables false
set_option linter.unusedSectionVars false
set_option linter.unusedSimpArgs false
section
/- Vx, part 8: what an operation's result hangs on: its operands alone; its labels. -/
namespace Go.Vx
open Go.RowKit

section
variable {Γ : Tab} {ei : TypeId} {Den : FuncId → List PV → Bool → Res → Prop} {o : Oper} {ρ ρ' : Operand → FV} {k k' : FV → Prop}

theorem ex_ex {α φ : Sort _} {A : α → Prop} {B : α → φ → Prop} {k : φ → Prop} (f : ∀ a, A a → ∃ x, B a x ∧ k x) (h : ∃ a, A a) : ∃ x, (∃ a, B a x) ∧ k x :=
 let ⟨a, ha⟩ := h
 let ⟨x, hb, hk⟩ := f a ha
 ⟨x, ⟨a, hb⟩, hk⟩
theorem ex_and {φ : Sort _} {A C : Prop} {B : φ → Prop} {k : φ → Prop} (f : A → ∃ x, B x ∧ k x) (h : C ∧ A) : ∃ x, (C ∧ B x) ∧ k x :=
 let ⟨x, hb, hk⟩ := f h.2
 ⟨x, ⟨h.1, hb⟩, hk⟩

theorem binK_ex {isB : Bool} {op : BinOp} {a b : PL} {c : PL → Prop} (h : binK isB op a b c) : ∃ r, binK isB op a b (· = r) ∧ c r := by
 unfold binK at h ⊢
 repeat' (first | exact h.elim | exact ⟨_, rfl, h⟩ | refine ex_ex (fun _ h => ?_) h | refine ex_and (fun h => ?_) h | split at h)
theorem binK_of {isB : Bool} {op : BinOp} {a b : PL} {c c' : PL → Prop} (hk : ∀ r, c r → c' r) (h : binK isB op a b c) : binK isB op a b c' := by
 unfold binK at h ⊢
 repeat' (first | exact h.elim | exact hk _ h | refine Exists.imp (fun _ h => ?_) h | refine And.imp_right (fun h => ?_) h | split at h)

/-- What comes out is one value. -/
theorem Yk_ex (h : Yk Γ ei Den o ρ k) : ∃ f, Yk Γ ei Den o ρ (· = f) ∧ k f := by
 unfold Yk at h ⊢
 repeat' (first | exact h.elim | exact ⟨_, rfl, h⟩ | refine ex_ex (fun _ h => ?_) h | refine ex_and (fun h => ?_) h | (obtain ⟨r, h1, h2⟩ := binK_ex h; exact ⟨_, binK_of (fun r hr => by rw [hr]) h1, h2⟩) | split at h)

theorem Yk_of (hk : ∀ f, k f → k' f) (h : Yk Γ ei Den o ρ k) : Yk Γ ei Den o ρ k' := by
 unfold Yk at h ⊢
 repeat' (first | exact h.elim | exact hk _ h | refine Exists.imp (fun _ h => ?_) h | refine And.imp_right (fun h => ?_) h | exact binK_of (fun r hr => hk _ hr) h | split at h)

/-- Only the operands are looked at. -/
theorem Yk_congr (hρ : ∀ x ∈ o.op.operands, ρ x = ρ' x) (h : Yk Γ ei Den o ρ k) : Yk Γ ei Den o ρ' k := by
 unfold Yk at h ⊢
 cases ho : o.op with
 | move x => simp only [ho] at h hρ ⊢; rw [← hρ x (by simp [Op.operands])]; exact h
 | assign x => simp only [ho] at h hρ ⊢; rw [← hρ x (by simp [Op.operands])]; exact h
 | pick c x y => simp only [ho] at h hρ ⊢; rw [← hρ c (by simp [Op.operands]), ← hρ x (by simp [Op.operands]), ← hρ y (by simp [Op.operands])]; exact h
 | alloc t => simp only [ho] at h ⊢; exact h
 | box t x => simp only [ho] at h hρ ⊢; rw [← hρ x (by simp [Op.operands])]; exact h
 | load t x => simp only [ho] at h hρ ⊢; rw [← hρ x (by simp [Op.operands])]; exact h
 | binOp op t x y u => simp only [ho] at h hρ ⊢; rw [← hρ x (by simp [Op.operands]), ← hρ y (by simp [Op.operands])]; exact h
 | unOp op t x => simp only [ho] at h hρ ⊢; rw [← hρ x (by simp [Op.operands])]; exact h
 | fieldAddr s x f => simp only [ho] at h hρ ⊢; rw [← hρ x (by simp [Op.operands])]; exact h
 | field s x f => simp only [ho] at h hρ ⊢; rw [← hρ x (by simp [Op.operands])]; exact h
 | indexAddr t x ix => simp only [ho] at h hρ ⊢; rw [← hρ x (by simp [Op.operands]), ← hρ ix (by simp [Op.operands])]; exact h
 | index t x ix => simp only [ho] at h hρ ⊢; rw [← hρ x (by simp [Op.operands]), ← hρ ix (by simp [Op.operands])]; exact h
 | extract x j => simp only [ho] at h hρ ⊢; rw [← hρ x (by simp [Op.operands])]; exact h
 | convert s d x => simp only [ho] at h hρ ⊢; rw [← hρ x (by simp [Op.operands])]; exact h
 | build t parts =>
  simp only [ho] at h hρ ⊢
  have hmap : (parts.toList.map fun q => (q.1, ρ' q.2)) = parts.toList.map fun q => (q.1, ρ q.2) := List.map_congr_left fun x hx => by rw [hρ x.2 (by simpa [Op.operands] using ⟨x.1, by simpa using hx⟩)]
  rw [hmap]
  exact h
 | buildSlice t n parts =>
  simp only [ho] at h hρ ⊢
  have hmap : (parts.toList.map fun q => (q.1, ρ' q.2)) = parts.toList.map fun q => (q.1, ρ q.2) := List.map_congr_left fun x hx => by rw [hρ x.2 (by simpa [Op.operands] using ⟨x.1, by simpa using hx⟩)]
  rw [hmap]
  exact h
 | makeSlice t l c => simp only [ho] at h hρ ⊢; rw [← hρ l (by simp [Op.operands]), ← hρ c (by simp [Op.operands])]; exact h
 | slice t x lo hi mx =>
  simp only [ho] at h hρ ⊢
  have h1 : lo.map ρ' = lo.map ρ := by cases lo with | none => rfl | some q => simp only [Option.map_some]; rw [hρ q (by simp [Op.operands])]
  have h2 : hi.map ρ' = hi.map ρ := by cases hi with | none => rfl | some q => simp only [Option.map_some]; rw [hρ q (by simp [Op.operands])]
  rw [h1, h2, ← hρ x (by simp [Op.operands])]
  exact h
 | call c =>
  simp only [ho] at h hρ ⊢
  have hmap : c.args.toList.map ρ' = c.args.toList.map ρ := List.map_congr_left fun x hx => (hρ x (by simp [Op.operands, Call.operands]; exact .inr (by simpa using hx))).symm
  cases hc : c.callee with
  | value f =>
   simp only [hc] at h ⊢
   rw [hmap, ← hρ f (by simp [Op.operands, Call.operands, hc])]
   exact h
  | invoke r m => simp only [hc] at h
  | builtin b =>
   cases b with
   | len =>
    simp only [hc] at h ⊢
    split at h
    ·rename_i x t hargs hts
     rw [hargs] at hmap
     simp only [List.map_cons, List.map_nil, List.cons.injEq, and_true] at hmap
     rw [hmap]
     exact h
    ·exact h.elim
   | max =>
    simp only [hc] at h ⊢
    split at h
    ·rename_i x y hargs
     rw [hargs] at hmap
     simp only [List.map_cons, List.map_nil, List.cons.injEq, and_true] at hmap
     rw [hmap.1, hmap.2]
     exact h
    ·exact h.elim
   | _ => simp only [hc] at h
 | _ => simp only [ho] at h

end

/-! ### labels -/
def Lf.hasD (d : Nat) : Lf → Bool
 | .own l _ _ => decide (l.1 = d)
 | .deep l _ _ _ => decide (l.1 = d)
 | .kid l _ _ _ => decide (l.1 = d)
 | _ => false
def FV.hasD (d : Nat) : FV → Bool
 | .v _ xs => xs.any (Lf.hasD d)
 | .tup vs => vs.any fun q => q.2.any (Lf.hasD d)
 | .box l cs _ => decide (l.1 = d) || cs.any (Lf.hasD d)
 | .lit l _ cs => decide (l.1 = d) || cs.any (Lf.hasD d)
 | .elt s _ _ => s.hasD d
 | .sub s _ _ => s.hasD d
 | .any => false
def noD (T : List FV) (d : Nat) : Bool := T.all fun f => !f.hasD d
theorem Lf.hasD_of {d j : Nat} {x : Lf} (h : x.has (d, j) = true) : x.hasD d = true := by
 cases x with
 | own l e x => simp only [Lf.has, Lf.hasD, decide_eq_true_eq] at h ⊢; rw [h]
 | deep l e k x =>
  simp only [Lf.has, Lf.hasD, Bool.or_eq_true, decide_eq_true_eq] at h ⊢
  rcases h with h | h
  ·rw [h]
  ·obtain ⟨n, hn⟩ := isKid_ex h
   exact (congrArg Prod.fst hn).symm
 | kid l e n x => simp only [Lf.has, Lf.hasD, decide_eq_true_eq] at h ⊢; exact congrArg Prod.fst h
 | _ => cases h
theorem FV.hasD_of {d j : Nat} {f : FV} (h : f.has (d, j) = true) : f.hasD d = true := by
 cases f with
 | any => simp [FV.has] at h
 | v a xs =>
  simp only [FV.has, FV.hasD, List.any_eq_true] at h ⊢
  obtain ⟨x, hx, h⟩ := h
  exact ⟨x, hx, Lf.hasD_of h⟩
 | tup vs =>
  simp only [FV.has, FV.hasD, List.any_eq_true] at h ⊢
  obtain ⟨q, hq, x, hx, h⟩ := h
  exact ⟨q, hq, x, hx, Lf.hasD_of h⟩
 | box l cs off =>
  simp only [FV.has, FV.hasD, Bool.or_eq_true, decide_eq_true_eq, List.any_eq_true] at h ⊢
  rcases h with h | ⟨x, hx, h⟩
  ·exact .inl (by rw [h])
  ·exact .inr ⟨x, hx, Lf.hasD_of h⟩
 | elt s i off => exact Lf.hasD_of h
 | sub s i off => exact Lf.hasD_of h
 | lit l k cs =>
  simp only [FV.has, FV.hasD, Bool.or_eq_true, decide_eq_true_eq, List.any_eq_true] at h ⊢
  rcases h with h | ⟨x, hx, h⟩
  ·exact .inl (by rw [h])
  ·exact .inr ⟨x, hx, Lf.hasD_of h⟩
theorem noD_has {T : List FV} {d : Nat} (h : noD T d = true) : ∀ f ∈ T, ∀ j, f.has (d, j) = false := by
 intro f hf j
 unfold noD at h
 rw [List.all_eq_true] at h
 have := h f hf
 cases hh : f.has (d, j) with
 | false => rfl
 | true => rw [FV.hasD_of hh] at this; cases this

theorem labelP_D {ei : TypeId} {d d' : Nat} : ∀ {xs : List PL} {j : Nat}, (labelP ei d j xs).any (Lf.hasD d') = true → d' = d
  | [], _, h => by simp [labelP] at h
  | x :: xs, j, h => by
    cases x <;> simp [labelP, Lf.hasD] at h
    all_goals first
      | (obtain ⟨y, hy, h⟩ := h; exact labelP_D (List.any_eq_true.2 ⟨y, hy, h⟩))
      | (rcases h with h | ⟨y, hy, h⟩
         · exact h.symm
         · exact labelP_D (List.any_eq_true.2 ⟨y, hy, h⟩))
theorem labelVs_D {ei : TypeId} {d d' : Nat} : ∀ {qs : List PV} {j : Nat}, ((labelVs ei d j qs).any fun q => q.2.any (Lf.hasD d')) = true → d' = d
 | [], _, h => by simp [labelVs] at h
 | (a, xs) :: qs, j, h => by
  unfold labelVs at h
  rw [List.any_cons, Bool.or_eq_true] at h
  rcases h with h | h
  ·exact labelP_D h
  ·exact labelVs_D h
theorem p_D {d : Nat} : ∀ {xs : List PL}, (xs.map Lf.p).any (Lf.hasD d) = false
 | [] => rfl
 | x :: xs => by rw [List.map_cons, List.any_cons, p_D]; rfl
theorem labelR_D {ei : TypeId} {d d' : Nat} {fl : Bool} {r : Res} (h : (labelR ei d fl r).hasD d' = true) : d' = d := by
 cases r with
 | one q =>
  obtain ⟨a, xs⟩ := q
  cases fl with
  | true => exact labelP_D h
  | false =>
   have : (xs.map Lf.p).any (Lf.hasD d') = true := h
   rw [p_D] at this
   cases this
 | tup qs =>
  cases fl with
  | true => exact labelVs_D h
  | false =>
   have h : ((qs.map fun q => (q.1, q.2.map Lf.p)).any fun q => q.2.any (Lf.hasD d')) = true := h
   rw [List.any_eq_true] at h
   obtain ⟨q, hq, h⟩ := h
   rw [List.mem_map] at hq
   obtain ⟨q', _, rfl⟩ := hq
   rw [p_D] at h
   cases h

theorem any_take {d : Nat} {xs : List Lf} {i n : Nat} (h : ((xs.drop i).take n).any (Lf.hasD d) = true) : xs.any (Lf.hasD d) = true := by
 rw [List.any_eq_true] at h ⊢
 obtain ⟨x, hx, h⟩ := h
 exact ⟨x, List.mem_of_mem_drop (List.mem_of_mem_take hx), h⟩
theorem any_get {d : Nat} {xs : List Lf} {i : Nat} {y : Lf} (hy : xs[i]? = some y) (h : y.hasD d = true) : xs.any (Lf.hasD d) = true := by
 rw [List.any_eq_true]
 exact ⟨y, List.mem_of_getElem? hy, h⟩

section
variable {Γ : Tab} {ei : TypeId} {Den : FuncId → List PV → Bool → Res → Prop} {o : Oper} {ρ : Operand → FV}

theorem binK_p {isB : Bool} {op : BinOp} {a b : PL} {f : FV} (h : binK isB op a b (fun r => .v false [.p r] = f)) : ∃ r, f = .v false [.p r] := by
 obtain ⟨r, _, h⟩ := binK_ex h
 exact ⟨r, h.symm⟩
theorem kidLf_D {d n : Nat} {s z : Lf} {y : PL} (h : kidLf s n y = some z) (hz : z.hasD d = true) : s.hasD d = true := by
 cases s with
 | deep l e k x =>
  cases y with
  | ints q => cases h; exact hz
  | int kd q => cases h; cases hz
  | bool q => cases h; cases hz
  | str q => cases h; cases hz
  | fn q => cases h; cases hz
  | clo q q2 => cases h
  | pint q => cases h
  | darr q q2 => cases h
  | arr q q2 => cases h
 | _ => cases h
theorem kidLfs_D {d : Nat} {s : Lf} : ∀ {n : Nat} {ys : List PL} {zs : List Lf}, kidLfs s n ys = some zs → zs.any (Lf.hasD d) = true → s.hasD d = true
 | _, [], _, h, hz => by cases h; cases hz
 | n, y :: ys, zs, h, hz => by
  unfold kidLfs at h
  split at h
  ·rename_i z zs' h1 h2
   cases h
   rw [List.any_cons, Bool.or_eq_true] at hz
   rcases hz with hz | hz
   ·exact kidLf_D h1 hz
   ·exact kidLfs_D h2 hz
  ·cases h
theorem ownIf_D {d : Nat} {lb : Bool} {l : Lab} {e : TypeId} {x : PL} (h : (FV.v false [ownIf lb l e x]).hasD d = true) : l.1 = d := by
 cases lb with
 | true => simpa [ownIf, FV.hasD, Lf.hasD] using h
 | false => cases h
theorem fillA_D {d : Nat} {offs : List (Nat × Option Nat)} : ∀ {ps : List (Nat × FV)} {cs cs' : List Lf}, fillA offs ps cs = some cs' → cs'.any (Lf.hasD d) = true → cs.any (Lf.hasD d) = true ∨ ∃ p ∈ ps, p.2.hasD d = true
 | [], cs, cs', h, hd => by cases h; exact .inl hd
 | (i, f) :: ps, cs, cs', h, hd => by
  unfold fillA at h
  split at h
  ·rename_i b xs q hq
   split at h
   ·rcases fillA_D h hd with h1 | ⟨p, hp, h1⟩
    ·unfold over at h1
     rw [List.any_append, List.any_append, Bool.or_eq_true, Bool.or_eq_true] at h1
     rcases h1 with (h1 | h1) | h1
     ·left
      rw [List.any_eq_true] at h1 ⊢
      obtain ⟨y, hy, h1⟩ := h1
      exact ⟨y, List.mem_of_mem_take hy, h1⟩
     ·exact .inr ⟨_, List.mem_cons_self, h1⟩
     ·left
      rw [List.any_eq_true] at h1 ⊢
      obtain ⟨y, hy, h1⟩ := h1
      exact ⟨y, List.mem_of_mem_drop hy, h1⟩
    ·exact .inr ⟨p, List.mem_cons_of_mem _ hp, h1⟩
   ·cases h
  ·cases h

/-- A value's labels are its operands', or new. -/
theorem Yk_D {d : Nat} (hno : ∀ t r, Γ.get t = some r → r.zero.any (Lf.hasD d) = false) {f : FV} (h : Yk Γ ei Den o ρ (· = f)) (hd : f.hasD d = true) :
  (creates o.op = true ∧ d = o.dst.getD 0) ∨ ∃ x ∈ o.op.operands, (ρ x).hasD d = true := by
 unfold Yk at h
 cases ho : o.op with
 | move x => simp only [ho] at h; subst h; exact .inr ⟨x, by simp [Op.operands], hd⟩
 | assign x => simp only [ho] at h; subst h; exact .inr ⟨x, by simp [Op.operands], hd⟩
 | pick c x y =>
  simp only [ho] at h
  split at h
  ·obtain ⟨t, ht, h⟩ := h
   subst h
   cases t
   ·exact .inr ⟨y, by simp [Op.operands], hd⟩
   ·exact .inr ⟨x, by simp [Op.operands], hd⟩
  ·exact h.elim
 | alloc t =>
  simp only [ho] at h
  split at h
  ·rename_i r hr
   subst h
   simp only [FV.hasD, hno t r hr, Bool.or_false, decide_eq_true_eq] at hd
   exact .inl ⟨rfl, hd.symm⟩
  ·exact h.elim
 | box t x =>
  simp only [ho] at h
  split at h
  ·rename_i r a' xs hr hs
   subst h
   simp only [FV.hasD, Bool.or_eq_true, decide_eq_true_eq] at hd
   rcases hd with hd | hd
   ·exact .inl ⟨rfl, hd.symm⟩
   ·exact .inr ⟨x, by simp [Op.operands], by rw [hs]; exact hd⟩
  ·exact h.elim
 | load t x =>
  simp only [ho] at h
  split at h
  ·exact h.elim
  ·split at h
   ·rename_i lab cs off hs
    refine .inr ⟨x, by simp [Op.operands], ?_⟩
    rw [hs]
    simp only [FV.hasD, Bool.or_eq_true]
    right
    split at h
    ·obtain ⟨_, h⟩ := h
     subst h
     exact any_take hd
    ·obtain ⟨y, hy, h⟩ := h
     subst h
     simp only [FV.hasD, List.any_cons, List.any_nil, Bool.or_false] at hd
     exact any_get hy hd
   ·rename_i s i off hs
    split at h
    ·exfalso
     split at h
     ·exact h.elim
     ·obtain ⟨z, hz, h0, h⟩ := h
      subst h
      cases hd
    ·exfalso
     obtain ⟨q, hq, h⟩ := h
     split at h
     ·obtain ⟨_, h⟩ := h
      subst h
      simp only [FV.hasD] at hd
      rw [p_D] at hd
      cases hd
     ·obtain ⟨y, hy, h⟩ := h
      subst h
      cases hd
    ·obtain ⟨q, hq, h⟩ := h
     split at h
     ·obtain ⟨_, zs, hz, h⟩ := h
      subst h
      refine .inr ⟨x, by simp [Op.operands], ?_⟩
      rw [hs]
      simp only [FV.hasD] at hd ⊢
      exact kidLfs_D hz hd
     ·obtain ⟨y, hy, z, hz, h⟩ := h
      subst h
      refine .inr ⟨x, by simp [Op.operands], ?_⟩
      rw [hs]
      simp only [FV.hasD, List.any_cons, List.any_nil, Bool.or_false] at hd
      exact kidLf_D hz hd
    ·exact h.elim
   ·exfalso
    split at h
    ·subst h
     cases hd
    ·exact h.elim
   ·exact h.elim
 | binOp op t x y u =>
  simp only [ho] at h
  split at h
  ·obtain ⟨r, h⟩ := binK_p h
   subst h
   cases hd
  ·exact h.elim
 | unOp op t x =>
  simp only [ho] at h
  split at h
  ·obtain ⟨z, hz, h⟩ := h
   subst h
   cases hd
  ·obtain ⟨z, hz, h⟩ := h
   subst h
   cases hd
  ·exact h.elim
 | fieldAddr s x fi =>
  simp only [ho] at h
  split at h
  ·split at h
   ·exact h.elim
   ·split at h
    ·rename_i hs
     subst h
     exact .inr ⟨x, by simp [Op.operands], by rw [hs]; exact hd⟩
    ·rename_i hs
     subst h
     exact .inr ⟨x, by simp [Op.operands], by rw [hs]; exact hd⟩
    ·exact h.elim
  ·exact h.elim
 | field s x fi =>
  simp only [ho] at h
  split at h
  ·split at h
   ·exact h.elim
   ·split at h
    ·rename_i xs hs
     refine .inr ⟨x, by simp [Op.operands], ?_⟩
     rw [hs]
     split at h
     ·obtain ⟨_, h⟩ := h
      subst h
      exact any_take hd
     ·obtain ⟨y, hy, h⟩ := h
      subst h
      simp only [FV.hasD, List.any_cons, List.any_nil, Bool.or_false] at hd
      exact any_get hy hd
    ·exact h.elim
  ·exact h.elim
 | indexAddr t x ix =>
  simp only [ho] at h
  split at h
  ·exact h.elim
  ·split at h
   ·rename_i s kd z hs hz
    split at h
    ·obtain ⟨hy, i, hz, hi, h⟩ := h
     subst h
     refine .inr ⟨x, by simp [Op.operands], ?_⟩
     rw [hs]
     simpa [FV.hasD] using hd
    ·exact h.elim
   ·exact h.elim
 | index t x ix =>
  simp only [ho] at h
  split at h
  ·obtain ⟨_, i, _, b, _, h⟩ := h
   subst h
   cases hd
  ·exact h.elim
 | extract x j =>
  simp only [ho] at h
  split at h
  ·rename_i vs hs
   obtain ⟨q, hq, h⟩ := h
   subst h
   refine .inr ⟨x, by simp [Op.operands], ?_⟩
   rw [hs]
   simp only [FV.hasD, List.any_eq_true] at hd ⊢
   exact ⟨q, List.mem_of_getElem? hq, hd⟩
  ·exact h.elim
 | convert s t x =>
  simp only [ho] at h
  split at h
  ·obtain ⟨u, hu, h⟩ := h
   subst h
   cases hd
  ·obtain ⟨_, _, h⟩ := h
   subst h
   cases hd
  ·obtain ⟨_, _, str, _, h⟩ := h
   subst h
   cases hd
  ·exact h.elim
 | slice t x lo hi mx =>
  simp only [ho] at h
  split at h
  ·exact h.elim
  ·split at h
   ·obtain ⟨_, i, j, _, _, _, _, z, _, h⟩ := h
    subst h
    cases hd
   ·obtain ⟨_, i, j, _, _, _, _, h⟩ := h
    subst h
    cases hd
   ·rename_i hr hs
    obtain ⟨_, i, j, _, _, _, _, _, h⟩ := h
    subst h
    refine .inr ⟨x, by simp [Op.operands], ?_⟩
    rw [hs]
    simpa [FV.hasD] using hd
   ·rename_i hr hs
    obtain ⟨_, _, i, j, _, _, _, _, h⟩ := h
    subst h
    refine .inr ⟨x, by simp [Op.operands], ?_⟩
    rw [hs]
    simpa [FV.hasD, Lf.hasD] using hd
   ·exact h.elim
 | build t parts =>
  simp only [ho] at h
  split at h
  ·rename_i id n offs zero hr
   split at h
   ·rename_i cs hcs
    subst h
    rcases fillA_D hcs hd with h1 | ⟨p, hp, h1⟩
    ·rw [hno t _ hr] at h1
     cases h1
    ·rw [List.mem_map] at hp
     obtain ⟨q, hq, rfl⟩ := hp
     exact .inr ⟨q.2, by simpa [Op.operands] using ⟨q.1, by simpa using hq⟩, h1⟩
   ·exact h.elim
  ·exact h.elim
 | buildSlice t n parts =>
  simp only [ho] at h
  split at h
  ·split at h
   ·obtain ⟨_, lb, h⟩ := h
    subst h
    exact .inl ⟨rfl, (ownIf_D hd).symm⟩
   ·exact h.elim
  ·split at h
   ·obtain ⟨_, lb, h⟩ := h
    subst h
    exact .inl ⟨rfl, (ownIf_D hd).symm⟩
   ·split at h
    ·rename_i xs hps
     obtain ⟨_, h⟩ := h
     subst h
     simp only [FV.hasD, Bool.or_eq_true, decide_eq_true_eq] at hd
     rcases hd with hd | hd
     ·exact .inl ⟨rfl, hd.symm⟩
     ·right
      have hm : ((0, FV.v true xs) : Nat × FV) ∈ parts.toList.map fun q => (q.1, ρ q.2) := by rw [hps]; exact List.mem_cons_self
      rw [List.mem_map] at hm
      obtain ⟨q, hq, he⟩ := hm
      refine ⟨q.2, by simpa [Op.operands] using ⟨q.1, by simpa using hq⟩, ?_⟩
      have : ρ q.2 = .v true xs := congrArg Prod.snd he
      rw [this]
      exact hd
    ·exact h.elim
  ·exact h.elim
 | makeSlice t l c =>
  simp only [ho] at h
  split at h
  ·obtain ⟨n, _, _, _, lb, h⟩ := h
   subst h
   exact .inl ⟨rfl, (ownIf_D hd).symm⟩
  ·split at h
   ·split at h
    ·obtain ⟨n, _, _, _, lb, h⟩ := h
     subst h
     exact .inl ⟨rfl, (ownIf_D hd).symm⟩
    ·exact h.elim
   ·exact h.elim
  ·exact h.elim
 | call c =>
  simp only [ho] at h
  split at h
  ·split at h
   ·split at h
    ·obtain ⟨_, h⟩ := h
     subst h
     cases hd
    ·split at h
     ·obtain ⟨_, h⟩ := h
      subst h
      cases hd
     ·exact h.elim
    ·exact h.elim
   ·exact h.elim
  ·split at h
   ·split at h
    ·obtain ⟨z, hz, h⟩ := h
     subst h
     cases hd
    ·exact h.elim
   ·exact h.elim
  ·split at h
   ·obtain ⟨ps, hps, fl, lb, r, hden, hok, h⟩ := h
    subst h
    exact .inl ⟨rfl, labelR_D hd⟩
   ·exact h.elim
  ·exact h.elim
 | _ => simp only [ho] at h
theorem zero_D {d : Nat} : ∀ {xs : List Lf} {cs : List Value}, zeroOkB xs cs = true → xs.any (Lf.hasD d) = false
 | [], _, _ => rfl
 | y :: xs, [], h => by unfold zeroOkB at h; simp at h
 | y :: xs, c :: cs, h => by
  rw [List.any_cons, zero_D (cs := cs) (by unfold zeroOkB at h; split at h <;> simp_all)]
  cases y <;> first | rfl | (simp [zeroOkB] at h)
theorem tab_zero_D {P : Program} {d : Nat} (hT : tabB P ei Γ = true) {t : TypeId} {r : TyRow} (hr : Γ.get t = some r) : r.zero.any (Lf.hasD d) = false := by
 obtain ⟨hid, hrow⟩ := tab_row hT hr
 unfold rowB at hrow
 rw [Bool.and_eq_true, Bool.and_eq_true] at hrow
 have hz := hrow.1.2
 split at hz
 ·rw [Bool.and_eq_true] at hz
  have hz := hz.2
  split at hz
  ·exact zero_D hz
  ·cases hz
 ·cases hz
end

end Go.Vx
end
section
/- Vx, part 9: stores; appends. -/
namespace Go.Vx
open Go.RowKit

/-- An array under this label is in use. -/
def Lf.hasO (l : Lab) : Lf → Bool
 | .own l' _ _ => decide (l' = l)
 | .deep l' _ _ _ => decide (l' = l) || isKid l' l
 | .kid l' _ n _ => decide (kidL l' n = l)
 | _ => false
/-- A slice with inner slices of its own is lost when one of its labels is. -/
def safeL (lab : Lab) (x : Lf) : Lf := match x.hasO lab with
 | true => .undef
 | false => x
def FV.hasO (l : Lab) : FV → Bool
 | .v _ xs => xs.any (Lf.hasO l)
 | .tup vs => vs.any fun q => q.2.any (Lf.hasO l)
 | .box _ cs _ => cs.any (Lf.hasO l)
 | .lit _ _ cs => cs.any (Lf.hasO l)
 | .elt s _ _ => s.hasO l
 | .sub s _ _ => s.hasO l
 | .any => false
def FV.hasB (l : Lab) : FV → Bool
 | .box l' _ _ => decide (l' = l)
 | .lit l' _ _ => decide (l' = l)
 | _ => false
def updI (lab : Lab) (i : Nat) (z : Int) : Lf → Lf
 | .own l e x => match decide (l = lab) with
  | true => match x with
   | .ints q => .own l e (.ints (q.set i z))
   | _ => .undef
  | false => .own l e x
 | .deep l e k x => safeL lab (.deep l e k x)
 | .kid l e n x => safeL lab (.kid l e n x)
 | x => x
def FV.updI (lab : Lab) (i : Nat) (z : Int) : FV → FV
 | .v a xs => .v a (xs.map (Vx.updI lab i z))
 | .tup vs => .tup (vs.map fun q => (q.1, q.2.map (Vx.updI lab i z)))
 | .box l cs off => match decide (l = lab) with
  | true => .any
  | false => .box l (cs.map (Vx.updI lab i z)) off
 | .elt s j off => match (Vx.updI lab i z s).arr? with
  | some _ => .elt (Vx.updI lab i z s) j off
  | none => .any
 | .sub s j off => match (Vx.updI lab i z s).arr? with
  | some _ => .sub (Vx.updI lab i z s) j off
  | none => .any
 | .lit l k cs => match decide (l = lab) with
  | true => .any
  | false => .lit l k (cs.map (Vx.updI lab i z))
 | .any => .any
def updR (lab : Lab) (k i : Nat) (ys : List PL) : Lf → Lf
 | .own l e x => match decide (l = lab) with
  | true => match x with
   | .arr k' q => match Nat.beq k' k with
    | true => .own l e (.arr k' (q.set i ys))
    | false => .undef
   | _ => .undef
  | false => .own l e x
 | .deep l e k x => safeL lab (.deep l e k x)
 | .kid l e n x => safeL lab (.kid l e n x)
 | x => x
def killL (lab : Lab) : Lf → Lf
 | .own l e x => match decide (l = lab) with | true => .undef | false => .own l e x
 | .deep l e k x => safeL lab (.deep l e k x)
 | .kid l e n x => safeL lab (.kid l e n x)
 | x => x
def FV.killO (lab : Lab) : FV → FV
 | .v a xs => .v a (xs.map (killL lab))
 | .tup vs => .tup (vs.map fun q => (q.1, q.2.map (killL lab)))
 | .box l cs off => .box l (cs.map (killL lab)) off
 | .elt s j off => match (killL lab s).arr? with
  | some _ => .elt (killL lab s) j off
  | none => .any
 | .sub s j off => match (killL lab s).arr? with
  | some _ => .sub (killL lab s) j off
  | none => .any
 | .lit l k cs => .lit l k (cs.map (killL lab))
 | .any => .any

/-- Leaves that change; a box under the label goes. -/
def FV.mapLB (lab : Lab) (f : Lf → Lf) : FV → FV
 | .box l cs off => match decide (l = lab) with
  | true => .any
  | false => .box l (cs.map f) off
 | .lit l k cs => match decide (l = lab) with
  | true => .any
  | false => .lit l k (cs.map f)
 | x => x.mapL f
/-- A box is written; an array under the label goes. -/
def FV.stoBox (lab : Lab) (cs' : List Lf) : FV → FV
 | .box l cs off => .box l (match decide (l = lab) with | true => cs'.map (killL lab) | false => cs.map (killL lab)) off
 | .lit l k cs => match decide (l = lab) with
  | true => .any
  | false => .lit l k (cs.map (killL lab))
 | x => x.killO lab
/-- A variable that a closure has captured: nobody's own any more. -/
def FV.dropB (lab : Lab) (f : FV) : FV := match f.hasB lab with
 | true => .any
 | false => f.killO lab
/-- A struct that becomes an element of a slice with inner slices of its own. -/
def toRow (ei : TypeId) : List Lf → Option (List PL)
 | [] => some []
 | .own _ e (.ints z) :: xs => match Nat.beq e ei, toRow ei xs with
  | true, some ys => some (.ints z :: ys)
  | _, _ => none
 | .nil :: xs => match toRow ei xs with
  | some ys => some (.ints [] :: ys)
  | none => none
 | .p x :: xs => match x.isA, toRow ei xs with
  | false, some ys => some (x :: ys)
  | _, _ => none
 | _ :: _ => none
def clash (l l' : Lab) : Bool := decide (l.1 = l'.1) && decide (l.2 % 1000 = l'.2 % 1000)
/-- A leaf under one of these labels, or under a label of an inner slice of lab's. -/
def hitK (lab : Lab) (ls : List Lab) : Lf → Bool
 | .own l _ _ => ls.any (fun a => decide (l = a)) || isKid lab l
 | .deep l _ _ _ => clash l lab || ls.any (fun a => decide (l = a) || isKid l a)
 | .kid l _ n _ => clash l lab || ls.any (fun a => decide (kidL l n = a))
 | _ => false
def killK (lab : Lab) (ls : List Lab) (x : Lf) : Lf := match hitK lab ls x with
 | true => .undef
 | false => x
/-- Which cell an own slice of integers has become. -/
def absIdx (ei : TypeId) (l : Lab) : Nat → List Lf → Option Nat
 | _, [] => none
 | q, .own l' e (.ints _) :: xs => match decide (l' = l) && Nat.beq e ei with
  | true => some q
  | false => absIdx ei l (q + 1) xs
 | q, _ :: xs => absIdx ei l (q + 1) xs
/-- What stood under a label that is taken in is an inner slice now. -/
def absK (lab : Lab) (ls : List Lab) (ei : TypeId) (n0 : Nat) (xs : List Lf) : Lf → Lf
 | .own l e (.ints z) => match absIdx ei l 0 xs, Nat.beq e ei with
  | some q, true => .kid lab ei (n0 + q) z
  | _, _ => killK lab ls (.own l e (.ints z))
 | x => killK lab ls x
def hitB (lab : Lab) (ls : List Lab) (l : Lab) : Bool := ls.any (fun a => decide (l = a)) || isKid lab l
/-- Leaves that change; what stands under such labels goes. -/
def FV.mapK (lab : Lab) (ls : List Lab) (g : Lf → Lf) : FV → FV
 | .box l cs off => match hitB lab ls l with
  | true => .any
  | false => .box l (cs.map g) off
 | .lit l k cs => match hitB lab ls l with
  | true => .any
  | false => .lit l k (cs.map g)
 | x => x.mapL g
/-- Cells of an element are written. -/
def stoD (k i off : Nat) (new : List PL) (x : List (List PL)) : List (List PL) := match Nat.beq new.length k with
 | true => x.set i new
 | false => match x[i]? with
  | some r => x.set i (r.take off ++ new ++ r.drop (off + new.length))
  | none => x
def stoDL (lab : Lab) (e' k' i off : Nat) (new : List PL) (ls : List Lab) : Lf → Lf
 | .deep l e k x => match decide (l = lab) with
  | true => match Nat.beq k k' && Nat.beq e e' with
   | true => .deep l e k (stoD k' i off new x)
   | false => .undef
  | false => killK lab ls (.deep l e k x)
 | x => killK lab ls x
/-- Arguments without memory. -/
def plainL : List Lf → Option (List PL)
 | [] => some []
 | .p x :: xs => match x.isA, plainL xs with
  | false, some ys => some (x :: ys)
  | _, _ => none
 | _ :: _ => none
def plainA : List FV → Option (List PV)
 | [] => some []
 | .v a xs :: fs => match plainL xs, plainA fs with
  | some ys, some qs => some ((a, ys) :: qs)
  | _, _ => none
 | _ :: _ => none
def FV.lvs2 : FV → List Lf
 | .v _ xs => xs
 | .tup vs => vs.flatMap (·.2)
 | .box _ cs _ => cs
 | .elt s _ _ => [s]
 | .sub s _ _ => [s]
 | .lit _ _ cs => cs
 | .any => []
/-- Inner slice n has been written. -/
def kidU (lab : Lab) (n : Nat) (z' : List Int) : Lf → Lf
 | .deep l e k x => match decide (l = lab) with
  | true => match Nat.blt 0 k with
   | true => .deep l e k (stoD k (n / k) (n % k) [.ints z'] x)
   | false => .undef
  | false => killK lab [] (.deep l e k x)
 | x => killK lab [] x
def intsLen : PL → Option Nat
 | .ints z => some z.length
 | _ => none
def cellLen (k n : Nat) (x : List (List PL)) : Option Nat := (x[n / k]?).bind fun r => (r[n % k]?).bind intsLen
/-- Each slice under the label holds an inner slice of this length there. -/
def kidOk (lab : Lab) (n m : Nat) : Lf → Prop → Prop
 | .deep l _ k x, c => match decide (l = lab) with
  | true => cellLen k n x = some m ∧ c
  | false => c
 | _, c => c
def kidOks (lab : Lab) (n m : Nat) : List Lf → Prop → Prop
 | [], c => c
 | x :: xs, c => kidOk lab n m x (kidOks lab n m xs c)
def kidT (lab : Lab) (n m : Nat) : List FV → Prop → Prop
 | [], c => c
 | f :: fs, c => kidOks lab n m f.lvs2 (kidT lab n m fs c)
/-- All of a slice's inner slices have been written. -/
def deepU (lab : Lab) (e' k' : Nat) (l' : List (List PL)) : Lf → Lf
 | .deep l e k x => match decide (l = lab) with
  | true => match Nat.beq e e' && (Nat.beq k k' && Nat.blt 0 k) with
   | true => .deep l e k l'
   | false => .undef
  | false => killK lab [lab] (.deep l e k x)
 | x => killK lab [lab] x
def lenDs (lab : Lab) (m : Nat) : List Lf → Prop → Prop
 | [], c => c
 | .deep l _ _ x :: xs, c => match decide (l = lab) with
  | true => x.length = m ∧ lenDs lab m xs c
  | false => lenDs lab m xs c
 | _ :: xs, c => lenDs lab m xs c
def lenDT (lab : Lab) (m : Nat) : List FV → Prop → Prop
 | [], c => c
 | f :: fs, c => lenDs lab m f.lvs2 (lenDT lab m fs c)
def hdK (l : List FV) : Option (Lab × TypeId × Nat × List Int × List FV) := match l with
 | .v false [.kid lab e n z] :: fs => some (lab, e, n, z, fs)
 | _ => none
def hdD (l : List FV) : Option (Lab × TypeId × Nat × List (List PL) × List FV) := match l with
 | .v false [.deep lab e k x] :: fs => some (lab, e, k, x, fs)
 | _ => none
/-- What may be absorbed: labels that are apart, and low. -/
def okAbs (lab : Lab) (ls : List Lab) : Bool := labNodup (lab :: ls) && (lab :: ls).all fun a => Nat.blt a.2 1000
/-- A slice of type t: its contents. -/
def contA (t : Ty) : Lf → Option PL
 | .nil => match t with
  | .ints => some (.ints [])
  | .slice _ k _ => some (.arr k [])
  | _ => none
 | .p x => match tyArr t x with
  | true => some x
  | false => none
 | .own _ _ x => match tyArr t x with
  | true => some x
  | false => none
 | .undef => none
 | .deep _ _ _ _ => none
 | .kid _ _ _ _ => none
def PL.cat : PL → PL → PL
 | .ints a, .ints b => .ints (a ++ b)
 | .arr k a, .arr _ b => .arr k (a ++ b)
 | x, _ => x

/-- The rows under a label are told anew. -/
def setA (lab : Lab) (k : Nat) (rows : List (List PL)) : Lf → Lf
 | .own l e x => match decide (l = lab) with
  | true => match x with
   | .arr k' _ => match Nat.beq k' k with
    | true => .own l e (.arr k' rows)
    | false => .undef
   | _ => .undef
  | false => .own l e x
 | .deep l e k x => safeL lab (.deep l e k x)
 | .kid l e n x => safeL lab (.kid l e n x)
 | x => x
/-- Slices of structs under the label are as long. -/
def lenOs (lab : Lab) (m : Nat) : List Lf → Prop → Prop
 | [], c => c
 | .own l _ (.arr _ x) :: xs, c => match decide (l = lab) with
  | true => x.length = m ∧ lenOs lab m xs c
  | false => lenOs lab m xs c
 | _ :: xs, c => lenOs lab m xs c
def lenOT (lab : Lab) (m : Nat) : List FV → Prop → Prop
 | [], c => c
 | f :: fs, c => lenOs lab m f.lvs2 (lenOT lab m fs c)
/-- What a call's result reads as that writes all inner slices. -/
def resD (lab : Lab) (e k : Nat) (l' : List (List PL)) : PL → Lf
 | .darr n _ => .deep lab e k (l'.take n)
 | x => .p x
def resDF (lab : Lab) (e k : Nat) (l' : List (List PL)) : PL → FV
 | .arr 0 [] => .tup []
 | x => .v false [resD lab e k l' x]
def okD (l' : List (List PL)) : PL → Prop
 | .darr n _ => n ≤ l'.length
 | .arr 0 [] => True
 | x => x.isA = false
theorem okD_cases {l' : List (List PL)} {x : PL} (h : okD l' x) : (∃ n q, x = .darr n q ∧ n ≤ l'.length) ∨ x = .arr 0 [] ∨ x.isA = false := by
 unfold okD at h
 split at h
 ·exact .inl ⟨_, _, rfl, h⟩
 ·exact .inr (.inl rfl)
 ·exact .inr (.inr h)
theorem resDF_plain {lab : Lab} {e k : Nat} {l' : List (List PL)} {x : PL} (h : x ≠ .arr 0 []) : resDF lab e k l' x = .v false [resD lab e k l' x] := by
 unfold resDF
 split
 ·exact absurd rfl h
 ·rfl
theorem ResD_plain {v : Value} {x : PL} {u : Value} (hx : x.isA = false) (h : ResD v x u) (w : World) (ok : Nat → Prop) : PL.R w ok x u := by
 cases x with
 | darr n q => cases hx
 | arr k l => cases hx
 | _ => exact h w ok
def plainFs (fs : List FV) : Bool := fs.all fun f => f.leaves.all fun x => !x.isOwn

/-- Operations that change what others see. -/
def Sk (Γ : Tab) (ei : TypeId) (o : Oper) (T : List FV) (K : List FV → Prop) : Prop :=
 match o.op with
 | .store t a x => match Γ.get t with
  | none => False
  | some r => match opd T a, opd T x with
   | .box lab cs off, .v _ xs => Nat.beq xs.length (match r.cells with | some n => n | none => 1) = true ∧ Nat.ble (off + xs.length) cs.length = true ∧
     K (put (T.map (FV.stoBox lab (over cs off xs))) o.dst (.tup []))
   | .elt (.own lab _ (.ints l)) i off, .v false [.p (.int .i64 z)] => r.cells = none ∧ off = 0 ∧ i < l.length ∧ K (put (T.map (FV.updI lab i z)) o.dst (.tup []))
   | .elt (.own lab _ (.arr k l)) i off, .v _ xs => match unLs xs with
    | some ys => (Nat.beq xs.length k && Nat.beq xs.length (match r.cells with | some n => n | none => 1)) = true ∧ off = 0 ∧ i < l.length ∧ K (put (T.map (FV.mapLB lab (updR lab k i ys))) o.dst (.tup []))
    | none => False
   | .elt (.deep lab e' k' l) i off, .v _ xs => ∃ row, toRow e' xs = some row ∧ (Nat.beq xs.length (match r.cells with | some n => n | none => 1) && (Nat.ble (off + xs.length) k' && okAbs lab (labsOf xs))) = true ∧ i < l.length ∧
     K (put (T.map (FV.mapK lab (lab :: labsOf xs) (stoDL lab e' k' i off row (lab :: labsOf xs)))) o.dst (.tup []))
   | _, _ => False
 | .call c => match c.callee with
  | .builtin .append => match c.args.toList, c.argTypes.toList with
   | [s, x], [t, t'] => t' = t ∧ match Γ.get t with
    | none => False
    | some r => match opd T s, opd T x with
     | .v false [sv], .v false [xv] => ∃ y z, contA r.ty sv = some y ∧ contA r.ty xv = some z ∧ ∃ q, y.cat z = q ∧ (y.len + z.len) * (r.ty.by + 1) ≤ 140737488355328 ∧ match sv with
      | .nil => noD T (1000000 + o.dst.getD 0) = true ∧ K (put T o.dst (.v false [.own (1000000 + o.dst.getD 0, 0) (r.ty.elem ei) q]))
      | .own lab e _ => (Nat.beq e (r.ty.elem ei) && Nat.blt lab.1 2000000) = true ∧ (T.all fun f => !f.hasB lab) = true ∧ ∃ lf, ApL lab ei (r.ty.elem ei) q lf ∧ K (put (T.map (FV.killO lab)) o.dst (.v false [lf]))
      | _ => False
     | .v false [.deep lab ei' kk l], .lit lab2 kk2 xs => ∃ row, toRow ei' xs = some row ∧ ((Nat.beq kk kk2 && (Nat.beq xs.length kk && (tyIdx r.ty (.darr kk l) && Nat.blt lab.1 2000000))) && okAbs lab (lab2 :: labsOf xs)) = true ∧
       (l.length + 1) * (r.ty.by + 1) ≤ 140737488355328 ∧ K (put (T.map (FV.mapK lab (lab :: lab2 :: labsOf xs) (absK lab (lab :: lab2 :: labsOf xs) ei' (l.length * kk) xs))) o.dst (.v false [.deep lab ei' kk (l ++ [row])]))
     | _, _ => False
   | _, _ => False
  | .value (.func g) => match hdK (c.args.toList.map (opd T)) with
   | some (lab, e, n, z, fs) => (∃ ps, erVs (c.args.toList.map (opd T)) = some ps ∧ ∃ x, Γ.mdd g 0 [] ps [] x ∧ x.isA = false ∧ K (put T o.dst (.v false [.p x]))) ∨ (Nat.beq e ei = true ∧ ∃ ps, plainA fs = some ps ∧ ∃ z' x, Γ.md g ((false, [.ints z]) :: ps) ((false, [.ints z']) :: ps) (.one (false, [.p x])) ∧ (x.isA = false ∧ z ≠ [] ∧ z'.length = z.length) ∧ kidT lab n z.length T True ∧
     K (put (T.map (FV.mapK lab [] (kidU lab n z'))) o.dst (.v false [.p x])))
   | none => match hdD (c.args.toList.map (opd T)) with
    | some (lab, e, k, l, fs) => (Nat.beq e ei && Nat.blt 0 k) = true ∧ ∃ ps, plainA fs = some ps ∧ ∃ l' x, Γ.mdd g k l ps l' x ∧ (okD l' x ∧ l'.length = l.length) ∧ lenDT lab l.length T True ∧
      K (put (T.map (FV.mapK lab [lab] (deepU lab e k l'))) o.dst (resDF lab e k l' x))
    | none => (∃ ps, erVs (c.args.toList.map (opd T)) = some ps ∧ ∃ x, Γ.mdd g 0 [] ps [] x ∧ (x.isA = false ∨ plainFs (c.args.toList.map (opd T)) = true) ∧ K (put T o.dst (.v false [.p x]))) ∨
    (noD T (1000000 + o.dst.getD 0) = true ∧ ∃ ps, erVs (c.args.toList.map (opd T)) = some ps ∧ plainFs (c.args.toList.map (opd T)) = true ∧ ∃ e k rows, Γ.msh g ps e k rows ∧ K (put T o.dst (.v false [.own (1000000 + o.dst.getD 0, 0) e (.arr k rows)]))) ∨
    ∃ avs, mapO argV (c.args.toList.map (opd T)) = some avs ∧ ∃ ps, mapO (resV (frL ei)) avs = some ps ∧ (labNodup (labsOf (avs.flatMap (·.2))) && (labsOf (avs.flatMap (·.2))).all fun l => T.all fun f => !f.hasB l) = true ∧
    ∃ qs r, Γ.md g ps qs r ∧ lenT (avs.flatMap (·.2)) (qs.flatMap (·.2)) T True ∧ K (put (T.map (FV.mutF (avs.flatMap (·.2)) (qs.flatMap (·.2)))) o.dst (resFV (avs.flatMap (·.2)) (qs.flatMap (·.2)) r))
  | .builtin .copy => match c.args.toList, c.argTypes.toList with
   | [d, s], [t, t'] => t' = t ∧ match Γ.get t with
    | none => False
    | some r => match opd T d, opd T s with
     | .v false [.own lab _ (.arr k l)], .v false [.p (.arr k2 q)] => (Nat.beq k k2 && tyArr r.ty (.arr k l)) = true ∧ ∃ m rows, m = min q.length l.length ∧ rows = q.take m ++ l.drop m ∧ lenOT lab l.length T True ∧
       K (put (T.map (FV.mapLB lab (setA lab k rows))) o.dst (.v false [.p (.int .i64 (m : Nat))]))
     | .sub (.own lab _ (.arr k l)) i j, .sub (.own lab2 _ (.arr k2 q)) i2 j2 => (decide (lab2 = lab) && (Nat.beq k k2 && tyArr r.ty (.arr k l))) = true ∧ ∃ m rows, m = min (j2 - i2) (j - i) ∧ rows = l.take i ++ ((q.drop i2).take m ++ l.drop (i + m)) ∧ lenOT lab l.length T True ∧
       K (put (T.map (FV.mapLB lab (setA lab k rows))) o.dst (.v false [.p (.int .i64 (m : Nat))]))
     | _, _ => False
   | _, _ => False
  | _ => False
 | .makeFunc (.func f) first caps => match first.toList, caps.toList with
  | [], [x] => match opd T x with
   | .box lab cs off => ∃ z, cs[off]? = some (.p (.int .i64 z)) ∧ K (put (T.map (FV.dropB lab)) o.dst (.v false [.p (.clo f z)]))
   | _ => False
  | _, _ => False
 | _ => False

theorem Lf.hasO_eq {l : Lab} {x : Lf} : x.hasO l = x.has l := by cases x <;> rfl
theorem safeL_cases {lab : Lab} {x : Lf} : (safeL lab x = x ∧ x.has lab = false) ∨ safeL lab x = .undef := by
 unfold safeL
 cases h : x.hasO lab with
 | true => exact .inr rfl
 | false => exact .inl ⟨rfl, by rw [← Lf.hasO_eq]; exact h⟩
section
variable {F : Fr} {β : BM} {T : List FV} {a : Act} {w : World} {o : Oper} {Γ : Tab} {ei : TypeId} {Q : Exit → Act → World → Prop} {K : Act → World → Prop}

/-- A block of the frame's is written. -/
theorem Mv.own (h : Sim F β T a w) {lab : Lab} {g : Nat} (hb : β lab = some g) (cs : Array Value) : Mv F β β w (w.setRow g cs) :=
 ⟨by simp, fun k hk _ => ⟨hk, setRow_other w g k cs (fun e => hk.2 lab (by rw [hb, e]))⟩⟩

theorem Sim.stored (h : Sim F β T a w) {lab : Lab} {g : Nat} (hb : β lab = some g) (cs : Array Value) {T' : List FV} (hT : T'.length = T.length)
  (hrel : ∀ (i : Nat) (f f' : FV) (c : Value), T[i]? = some f → T'[i]? = some f' → RFV F β w f c → RFV F β (w.setRow g cs) f' c) : Sim F β T' a (w.setRow g cs) :=
 {h with
  size := h.size.trans hT.symm
  rel := fun i f' hf' => by
   have hi : i < T.length := by rw [← hT]; exact (List.getElem?_eq_some_iff.1 hf').1
   obtain ⟨c, hc, hr⟩ := h.rel i T[i] (List.getElem?_eq_getElem hi)
   exact ⟨c, hc, hrel i _ f' c (List.getElem?_eq_getElem hi) hf' hr⟩
  rng := fun l k hk => by simpa using h.rng l k hk
  os := by simpa using h.os
  tape := by simpa using h.tape
  output := by simpa using h.output
  hsize := by simpa using h.hsize
  kept := fun k h1 h2 => by
   have hne : k ≠ g := fun e => by
    rcases (h.rng lab g hb).2 with h3 | h3
    ·omega
    ·exact h2 (e ▸ h3)
   rw [setRow_other w g k cs hne]
   exact h.kept k h1 h2 }

theorem safeL_R {β' : BM} {w' : World} (m : Mv F β β' w w') {lab : Lab} (hk : ∀ l g, l ≠ lab → β l = some g → β' l = some g ∧ w'.heap[g]? = w.heap[g]?) {x : Lf} {v : Value} (h : RLf F β w x v) : RLf F β' w' (safeL lab x) v := by
 rcases safeL_cases (lab := lab) (x := x) with ⟨h1, h2⟩ | h1
 ·rw [h1]
  exact h.move m (fun l g hl hb => hk l g (fun e => by subst e; rw [h2] at hl; cases hl) hb)
 ·rw [h1]
  exact R_one h
theorem safeL_own (h : Sim F β T a w) {lab : Lab} {g : Nat} (hb : β lab = some g) (cs : Array Value) {x : Lf} {v : Value} (hx : RLf F β w x v) : RLf F β (w.setRow g cs) (safeL lab x) v :=
 safeL_R (Mv.own h hb cs) (fun l b hl hb2 => ⟨hb2, setRow_other w g b cs (fun e => hl (by subst e; exact h.inj _ _ _ hb2 hb))⟩) hx
theorem safeL_arr {lab : Lab} {s : Lf} {x : PL} (h : s.arr? = some x) : safeL lab s = s ∨ (safeL lab s).arr? = none := by
 rcases safeL_cases (lab := lab) (x := s) with ⟨h1, _⟩ | h1
 ·exact .inl h1
 ·exact .inr (by rw [h1]; rfl)
/-- What is left, where an array under this label goes. -/
theorem killL_R {β' : BM} {w' : World} (m : Mv F β β' w w') {lab : Lab} (hk : ∀ l g, l ≠ lab → β l = some g → β' l = some g ∧ w'.heap[g]? = w.heap[g]?) {x : Lf} {v : Value} (h : RLf F β w x v) : RLf F β' w' (killL lab x) v := by
 cases x with
 | own l e x =>
  unfold killL
  dsimp only
  by_cases hl : l = lab
  ·subst hl
   rw [decide_eq_true rfl]
   exact R_one h
  ·rw [decide_eq_false hl]
   exact h.move m (fun l2 g h2 hb => hk l2 g (by simp [Lf.has] at h2; rw [← h2]; exact hl) hb)
 | deep l e k x => exact safeL_R m hk h
 | kid l e n x => exact safeL_R m hk h
 | _ => exact RLf.move m (fun l g h2 hb => by cases h2) h
theorem killLs_R {β' : BM} {w' : World} (m : Mv F β β' w w') {lab : Lab} (hk : ∀ l g, l ≠ lab → β l = some g → β' l = some g ∧ w'.heap[g]? = w.heap[g]?) : ∀ {xs : List Lf} {cs : List Value}, All2 (RLf F β w) xs cs → All2 (RLf F β' w') (xs.map (killL lab)) cs
 | [], [], _ => True.intro
 | _ :: _, _ :: _, h => ⟨killL_R m hk h.1, killLs_R m hk h.2⟩
 | [], _ :: _, h => h.elim
 | _ :: _, [], h => h.elim
theorem killV_R {β' : BM} {w' : World} (m : Mv F β β' w w') {lab : Lab} (hk : ∀ l g, l ≠ lab → β l = some g → β' l = some g ∧ w'.heap[g]? = w.heap[g]?) {b : Bool} {xs : List Lf} {v : Value} (h : RVal F β w b xs v) : RVal F β' w' b (xs.map (killL lab)) v := by
 cases b with
 | true => obtain ⟨cs, hv, h⟩ := h; exact ⟨cs, hv, killLs_R m hk h⟩
 | false => obtain ⟨x, rfl, h⟩ := h; exact ⟨_, rfl, killL_R m hk h⟩
theorem killVs_R {β' : BM} {w' : World} (m : Mv F β β' w w') {lab : Lab} (hk : ∀ l g, l ≠ lab → β l = some g → β' l = some g ∧ w'.heap[g]? = w.heap[g]?) : ∀ {vs : List (Bool × List Lf)} {cs : List Value}, All2 (fun (q : Bool × List Lf) c => RVal F β w q.1 q.2 c) vs cs → All2 (fun (q : Bool × List Lf) c => RVal F β' w' q.1 q.2 c) (vs.map fun q => (q.1, q.2.map (killL lab))) cs
 | [], [], _ => True.intro
 | _ :: _, _ :: _, h => ⟨killV_R m hk h.1, killVs_R m hk h.2⟩
 | [], _ :: _, h => h.elim
 | _ :: _, [], h => h.elim
theorem killL_arr {lab : Lab} {s : Lf} {x : PL} (h : s.arr? = some x) : killL lab s = s ∨ (killL lab s).arr? = none := by
 cases s with
 | own l e y =>
  unfold killL
  dsimp only
  split
  ·exact .inr rfl
  ·exact .inl rfl
 | deep l e k y => exact safeL_arr h
 | kid l e n y => exact safeL_arr h
 | _ => exact .inl rfl
theorem killO_R {β' : BM} {w' : World} (m : Mv F β β' w w') {lab : Lab} (hk : ∀ l g, l ≠ lab → β l = some g → β' l = some g ∧ w'.heap[g]? = w.heap[g]?) {f : FV} {v : Value} (hB : f.hasB lab = false) (h : RFV F β w f v) : RFV F β' w' (f.killO lab) v := by
 cases f with
 | any => exact True.intro
 | v b xs => exact killV_R m hk h
 | tup vs => obtain ⟨cs, hv, h⟩ := h; exact ⟨cs, hv, killVs_R m hk h⟩
 | box l cs off =>
  obtain ⟨g, cc, ty, hv, hb, hh, h⟩ := h
  have := hk l g (by simpa [FV.hasB] using hB) hb
  exact ⟨g, cc, ty, hv, this.1, by rw [this.2]; exact hh, killLs_R m hk h⟩
 | elt s i off =>
  obtain ⟨g, o, n, c, x, hs, hx, hi, hv⟩ := h
  unfold FV.killO
  dsimp only
  rcases killL_arr (lab := lab) hx with h1 | h1
  ·rw [h1, hx]
   have := killL_R m hk (lab := lab) hs
   rw [h1] at this
   exact ⟨g, o, n, c, x, this, hx, hi, hv⟩
  ·rw [h1]
   exact True.intro
 | sub s i off =>
  obtain ⟨g, o, n, c, x, hs, hx, hi, hv⟩ := h
  unfold FV.killO
  dsimp only
  rcases killL_arr (lab := lab) hx with h1 | h1
  ·rw [h1, hx]
   have := killL_R m hk (lab := lab) hs
   rw [h1] at this
   exact ⟨g, o, n, c, x, this, hx, hi, hv⟩
  ·rw [h1]
   exact True.intro
 | lit l k cs =>
  obtain ⟨g, cc, ty, n, hv, hb, hh, hs, hn, h⟩ := h
  have := hk l g (by simpa [FV.hasB] using hB) hb
  exact ⟨g, cc, ty, n, hv, this.1, by rw [this.2]; exact hh, hs, hn, killLs_R m hk h⟩

theorem s_store_box (h : Sim F β T a w) (hT : tabB F.P ei Γ = true) {t : TypeId} {ad x : Operand} (ho : o.op = .store t ad x) {r : TyRow} (hr : Γ.get t = some r)
  {lab : Lab} {cs : List Lf} {off : Nat} {a' : Bool} {xs : List Lf} (ha : opd T ad = .box lab cs off) (hx : opd T x = .v a' xs)
  (hn : Nat.beq xs.length (match r.cells with | some n => n | none => 1) = true) (hle : Nat.ble (off + xs.length) cs.length = true)
  (hK : ∀ β' c w', Sim F β' (put (T.map (FV.stoBox lab (over cs off xs))) o.dst (.tup [])) (a.put o.dst c) w' → K (a.put o.dst c) w') : o.wp F.P a w K Q := by
 have h1 := opd_R h ad
 have h2 := opd_R h x
 rw [ha] at h1
 rw [hx] at h2
 obtain ⟨g, cc, ty, hv, hb, hh, hall⟩ := h1
 have hcells := cells_of_val h2
 have hlen := hall.length
 have hlen2 := hcells.length
 have hle : off + xs.length ≤ cs.length := Nat.le_of_ble_eq_true hle
 have hn : xs.length = (match r.cells with | some n => n | none => 1) := Nat.eq_of_beq_eq_true hn
 obtain ⟨hid, hrow⟩ := tab_row hT hr
 obtain ⟨hcs, hone⟩ := row_cells hrow
 rw [hid] at hcs hone
 have hsz : (sizeOf t).run F.P w = .ok xs.length w := by
  cases hc : r.cells with
  | some n =>
   rw [hc] at hn
   rw [hn]
   exact run_size (hcs n hc).2 w
  | none =>
   rw [hc] at hn
   rw [hn]
   exact run_size (hone hc).2 w
 have hrun : (storeCells ⟨g, off, none⟩ (a.eval x).cells.toList).run F.P w = .ok () (w.setRow g (cc.toList.take off ++ (a.eval x).cells.toList ++ cc.toList.drop (off + (a.eval x).cells.toList.length)).toArray) := by
  have := run_storeCells_at F.P g off ty (a.eval x).cells.toList 0 cc w hh (by simp at hlen hlen2 ⊢; omega) (fun v hv' => by
   obtain ⟨i, hi⟩ := List.getElem?_of_mem hv'
   have hlt : i < xs.length := by rw [hlen2]; exact (List.getElem?_eq_some_iff.1 hi).1
   obtain ⟨c, hc, hxc⟩ := hcells.get i xs[i] (List.getElem?_eq_getElem hlt)
   rw [hi] at hc
   cases hc
   exact R_one hxc)
  simpa using this
 have hsz2 : (a.eval x).cells.size = xs.length := by rw [hlen2]; simp
 have hst : (storeVar t ⟨g, off, none⟩ (a.eval x)).run F.P w = .ok () (w.setRow g (cc.toList.take off ++ (a.eval x).cells.toList ++ cc.toList.drop (off + (a.eval x).cells.toList.length)).toArray) := by
  simp only [storeVar, Sem.run_bind, hsz, Result.andThen, hsz2, ne_eq, not_true_eq_false, if_false]
  exact hrun
 generalize hcs' : (cc.toList.take off ++ (a.eval x).cells.toList ++ cc.toList.drop (off + (a.eval x).cells.toList.length)).toArray = cc' at hst
 have m := Mv.own h hb cc'
 have hk : ∀ l b, l ≠ lab → β l = some b → β l = some b ∧ (w.setRow g cc').heap[b]? = w.heap[b]? := fun l b hl hbl => ⟨hbl, setRow_other w g b cc' (fun e => by
  subst e
  exact hl (h.inj _ _ _ hbl hb))⟩
 have hbox : All2 (RLf F β (w.setRow g cc')) ((over cs off xs).map (killL lab)) cc'.toList := by
  have r1 := killLs_R (lab := lab) m hk hall
  have r2 := killLs_R (lab := lab) m hk hcells
  have e3 : cc'.toList = cc.toList.take off ++ (a.eval x).cells.toList ++ cc.toList.drop (off + (a.eval x).cells.toList.length) := by rw [← hcs']
  rw [e3]
  have e4 : (over cs off xs).map (killL lab) = over (cs.map (killL lab)) off (xs.map (killL lab)) := by simp [over]
  rw [e4]
  unfold over
  rw [List.length_map, hlen2]
  exact ((r1.take off).append r2).append (r1.drop _)
 refine wp_skip_ (w' := w.setRow g cc') ?_ ?_
 ·simp [execOp, ho, Instr.storeAt, Instr.sureAddr, hv, hst]
 ·refine hK β undef _ (Sim.put ?_ o.dst ⟨[], rfl, True.intro⟩)
  refine h.stored hb cc' (by simp) (fun i f f' c hf hf' hr => ?_)
  rw [List.getElem?_map, hf] at hf'
  cases hf'
  cases f with
  | box l cs0 off0 =>
   unfold FV.stoBox
   dsimp only
   by_cases hl : l = lab
   ·subst hl
    rw [decide_eq_true rfl]
    obtain ⟨g0, cc0, ty0, hc0, hb0, hh0, hall0⟩ := hr
    rw [hb] at hb0
    cases hb0
    exact ⟨g, cc', ty0, hc0, hb, setRow_heap w g cc0 cc' ty0 (0, 0) hh0, hbox⟩
   ·rw [decide_eq_false hl]
    exact killO_R (f := .box l cs0 off0) m hk (by simp [FV.hasB, hl]) hr
  | any => exact killO_R (f := .any) m hk rfl hr
  | v b ys => exact killO_R (f := .v b ys) m hk rfl hr
  | tup vs => exact killO_R (f := .tup vs) m hk rfl hr
  | elt s i off => exact killO_R (f := .elt s i off) m hk rfl hr
  | sub s i off => exact killO_R (f := .sub s i off) m hk rfl hr
  | lit l k cs0 =>
   unfold FV.stoBox
   dsimp only
   by_cases hl : l = lab
   ·rw [decide_eq_true hl]; exact True.intro
   ·rw [decide_eq_false hl]
    exact killO_R (f := .lit l k cs0) m hk (by simp [FV.hasB, hl]) hr

theorem updI_len {lab : Lab} {i : Nat} {z : Int} {s : Lf} {x : PL} (h : s.arr? = some x) : (updI lab i z s).arr? = none ∨ ∃ x', (updI lab i z s).arr? = some x' ∧ x'.len = x.len ∧ x'.wd = x.wd := by
 cases s with
 | own l e y =>
  unfold updI
  dsimp only
  split
  ·cases y <;> first | exact .inl rfl | skip
   cases h
   exact .inr ⟨_, rfl, by simp [PL.len], rfl⟩
  ·exact .inr ⟨x, h, rfl, rfl⟩
 | deep l e k y =>
  rcases safeL_arr (lab := lab) h with h1 | h1
  ·exact .inr ⟨x, (congrArg Lf.arr? h1).trans h, rfl, rfl⟩
  ·exact .inl h1
 | kid l e n y => cases h
 | _ => exact .inr ⟨x, h, rfl, rfl⟩

theorem s_store_elt (h : Sim F β T a w) (hT : tabB F.P ei Γ = true) {t : TypeId} {ad x : Operand} (ho : o.op = .store t ad x) {r : TyRow} (hr : Γ.get t = some r)
  {lab : Lab} {e : TypeId} {l : List Int} {i off : Nat} {z : Int} (ha : opd T ad = .elt (.own lab e (.ints l)) i off) (hx : opd T x = .v false [.p (.int .i64 z)])
  (hn : r.cells = none) (hoff : off = 0) (hi : i < l.length)
  (hK : ∀ β' c w', Sim F β' (put (T.map (FV.updI lab i z)) o.dst (.tup [])) (a.put o.dst c) w' → K (a.put o.dst c) w') : o.wp F.P a w K Q := by
 subst hoff
 have h1 := opd_R h ad
 have h2 := opd_R h x
 rw [ha] at h1
 rw [hx] at h2
 have h2 := R_int h2
 obtain ⟨g, o', n, c, y, hs, hy, hiy, hv⟩ := h1
 cases hy
 obtain ⟨⟨_, hpin⟩, ⟨hv0, _⟩ | ⟨g', c', cur, hv0, hb, hh, k1, k2, k3, k4⟩⟩ := hs
 ·cases hv0
 cases hv0
 simp only [PL.wd, Nat.mul_one, PL.len] at hv k1 k3
 obtain ⟨hid, hrow⟩ := tab_row hT hr
 obtain ⟨_, hone⟩ := row_cells hrow
 rw [hid] at hone
 have hicur : i < cur.size := by omega
 have hrun : (storeCells ⟨g, i, none⟩ [Value.int .i64 z]).run F.P w = .ok () (w.setRow g (cur.toList.take i ++ [Value.int .i64 z] ++ cur.toList.drop (i + 1)).toArray) := by
  have := run_storeCells_at F.P g i e [Value.int .i64 z] 0 cur w hh (by simp; omega) (fun v hv' => by simp at hv'; subst hv'; rfl)
  simpa using this
 generalize hcs' : (cur.toList.take i ++ [Value.int .i64 z] ++ cur.toList.drop (i + 1)).toArray = cur' at hrun
 have hcur' : cur'.size = cur.size := by rw [← hcs']; simp; omega
 have hget : ∀ j, cur'[j]? = if j = i then some (.int .i64 z) else cur[j]? := by
  intro j
  rw [← hcs']
  simp only [List.getElem?_toArray, List.append_assoc, List.singleton_append, List.getElem?_append, List.length_take, Array.length_toList, List.getElem?_take, List.getElem?_cons, List.getElem?_drop]
  have hm : min i cur.size = i := by omega
  rw [hm]
  by_cases h3 : j < i
  ·rw [if_pos h3, if_pos h3, if_neg (by omega)]
   simp
  ·rw [if_neg h3]
   by_cases h4 : j = i
   ·subst h4; simp
   ·rw [if_neg h4, if_neg (by omega)]
    rw [show i + 1 + (j - i - 1) = j by omega]
    simp
 have m := Mv.own h hb cur'
 have hheap := setRow_heap w g cur cur' e (0, 0) hh
 have lf : ∀ {y : Lf} {v : Value}, RLf F β w y v → RLf F β (w.setRow g cur') (updI lab i z y) v := by
  intro y v hy
  cases y with
  | own l2 e2 q =>
   unfold updI
   dsimp only
   by_cases hl : l2 = lab
   ·subst hl
    rw [decide_eq_true rfl]
    dsimp only
    cases q with
    | ints q =>
     dsimp only
     obtain ⟨⟨_, hpn⟩, hy⟩ := hy
     refine ⟨⟨rfl, hpn⟩, ?_⟩
     rcases hy with ⟨hv, h0⟩ | ⟨g2, c2, cur2, hv, hb2, hh2, j1, j2, j3, j4⟩
     ·exact .inl ⟨hv, by simpa [PL.len] using h0⟩
     ·rw [hb] at hb2
      cases hb2
      rw [hh] at hh2
      cases hh2
      refine .inr ⟨g, c2, cur', by simpa [PL.len] using hv, hb, hheap, by simpa [PL.len] using j1, j2, by rw [hcur']; exact j3, ?_⟩
      intro j zz hz
      rw [cell_of_row _ g (0 + j) cur' e (0, 0) hheap, Nat.zero_add, hget]
      rw [List.getElem?_set] at hz
      split at hz
      ·rename_i hij
       subst hij
       rw [if_pos rfl]
       split at hz
       ·cases hz; rfl
       ·cases hz
      ·rename_i hij
       rw [if_neg (fun e => hij e.symm)]
       have := j4 j zz hz
       rw [cell_of_row _ g (0 + j) cur e (0, 0) hh, Nat.zero_add] at this
       exact this
    | _ => exact R_one hy
   ·rw [decide_eq_false hl]
    exact hy.move m (fun l3 b hl3 hb3 => ⟨hb3, setRow_other w g b cur' (fun e => hl (by
     subst e
     simp [Lf.has] at hl3
     rw [hl3]
     exact h.inj _ _ _ hb3 hb))⟩)
  | deep l2 e2 k2 q => exact safeL_own h hb cur' hy
  | kid l2 e2 n2 q => exact safeL_own h hb cur' hy
  | _ => exact RLf.move m (fun l3 b hl3 hb3 => by cases hl3) hy
 have lfs : ∀ {ys : List Lf} {ds : List Value}, All2 (RLf F β w) ys ds → All2 (RLf F β (w.setRow g cur')) (ys.map (updI lab i z)) ds := by
  intro ys ds hd
  induction ys generalizing ds with
  | nil => cases ds <;> exact hd
  | cons y ys ih =>
   cases ds with
   | nil => exact hd.elim
   | cons d ds => exact ⟨lf hd.1, ih hd.2⟩
 have lv : ∀ {b : Bool} {ys : List Lf} {v : Value}, RVal F β w b ys v → RVal F β (w.setRow g cur') b (ys.map (updI lab i z)) v := by
  intro b ys v hv
  cases b with
  | true => obtain ⟨cs, hc, hv⟩ := hv; exact ⟨cs, hc, lfs hv⟩
  | false => obtain ⟨y, rfl, hv⟩ := hv; exact ⟨_, rfl, lf hv⟩
 have hst : (storeVar t ⟨g, i, none⟩ (Value.int .i64 z)).run F.P w = .ok () (w.setRow g cur') := by
  simp only [storeVar, Sem.run_bind, run_size (hone hn).2 w, Result.andThen, Value.cells]
  exact hrun
 refine wp_skip_ (w' := w.setRow g cur') ?_ ?_
 ·simp [execOp, ho, Instr.storeAt, Instr.sureAddr, hv, h2, hst]
 ·refine hK β undef _ (Sim.put ?_ o.dst ⟨[], rfl, True.intro⟩)
  refine h.stored hb cur' (by simp) (fun k f f' c hf hf' hr => ?_)
  rw [List.getElem?_map, hf] at hf'
  cases hf'
  cases f with
  | any => exact True.intro
  | v b ys => exact lv hr
  | tup vs =>
   obtain ⟨cs, hc, hr⟩ := hr
   refine ⟨cs, hc, ?_⟩
   clear hc
   clear hf
   induction vs generalizing cs with
   | nil => cases cs <;> exact hr
   | cons q vs ih =>
    cases cs with
    | nil => exact hr.elim
    | cons c cs => exact ⟨lv hr.1, ih cs hr.2⟩
  | box l2 cs0 off0 =>
   obtain ⟨g0, cc0, ty0, hc0, hb0, hh0, hall0⟩ := hr
   unfold FV.updI
   dsimp only
   by_cases hne : l2 = lab
   ·rw [decide_eq_true hne]; exact True.intro
   rw [decide_eq_false hne]
   refine ⟨g0, cc0, ty0, hc0, hb0, ?_, lfs hall0⟩
   rw [setRow_other w g g0 cur' (fun e => hne (by subst e; exact h.inj _ _ _ hb0 hb))]
   exact hh0
  | lit l2 k2 cs0 =>
   obtain ⟨g0, cc0, ty0, n0, hc0, hb0, hh0, hs0, hn0, hall0⟩ := hr
   unfold FV.updI
   dsimp only
   by_cases hne : l2 = lab
   ·rw [decide_eq_true hne]; exact True.intro
   rw [decide_eq_false hne]
   refine ⟨g0, cc0, ty0, n0, hc0, hb0, ?_, hs0, hn0, lfs hall0⟩
   rw [setRow_other w g g0 cur' (fun e => hne (by subst e; exact h.inj _ _ _ hb0 hb))]
   exact hh0
  | elt s j off0 =>
   obtain ⟨g0, o0, n0, c0, y0, hs0, hy0, hj0, hv1⟩ := hr
   have h3 := lf hs0
   rcases updI_len (lab := lab) (i := i) (z := z) hy0 with h4 | ⟨y1, h4, h5, h6⟩
   ·unfold FV.updI
    dsimp only
    rw [h4]
    exact True.intro
   ·unfold FV.updI
    dsimp only
    rw [h4]
    exact ⟨g0, o0, n0, c0, y1, h3, h4, by rw [h5]; exact hj0, by rw [h6]; exact hv1⟩
  | sub s j off0 =>
   obtain ⟨g0, o0, n0, c0, y0, hs0, hy0, hj0, hv1⟩ := hr
   have h3 := lf hs0
   rcases updI_len (lab := lab) (i := i) (z := z) hy0 with h4 | ⟨y1, h4, h5, h6⟩
   ·unfold FV.updI
    dsimp only
    rw [h4]
    exact True.intro
   ·unfold FV.updI
    dsimp only
    rw [h4]
    exact ⟨g0, o0, n0, c0, y1, h3, h4, by rw [h5]; exact hj0, by rw [h6]; exact hv1⟩

/-- Leaves that change, all through a frame's value. -/
theorem mapL_R {β β' : BM} {w w' : World} {f : Lf → Lf} {fv : FV} {c : Value} (lf : ∀ {y : Lf} {v : Value}, y ∈ fv.lvs2 → RLf F β w y v → RLf F β' w' (f y) v)
  (hlen : ∀ {s : Lf} {x x' : PL}, s ∈ fv.lvs2 → s.arr? = some x → (f s).arr? = some x' → x'.len = x.len ∧ x'.wd = x.wd)
  (hbox : ∀ l, fv.hasB l = true → ∀ g cc ty, β l = some g → w.heap[g]? = some (.cells cc ty (0, 0)) → β' l = some g ∧ w'.heap[g]? = some (.cells cc ty (0, 0)))
  (h : RFV F β w fv c) : RFV F β' w' (fv.mapL f) c := by
 have lfs : ∀ {ys : List Lf} {ds : List Value}, (∀ y ∈ ys, y ∈ fv.lvs2) → All2 (RLf F β w) ys ds → All2 (RLf F β' w') (ys.map f) ds := by
  intro ys ds hy hd
  induction ys generalizing ds with
  | nil => cases ds <;> exact hd
  | cons y ys ih =>
   cases ds with
   | nil => exact hd.elim
   | cons d ds => exact ⟨lf (hy y List.mem_cons_self) hd.1, ih (fun z hz => hy z (List.mem_cons_of_mem _ hz)) hd.2⟩
 have lv : ∀ {b : Bool} {ys : List Lf} {v : Value}, (∀ y ∈ ys, y ∈ fv.lvs2) → RVal F β w b ys v → RVal F β' w' b (ys.map f) v := by
  intro b ys v hy hv
  cases b with
  | true => obtain ⟨cs, hc, hv⟩ := hv; exact ⟨cs, hc, lfs hy hv⟩
  | false => obtain ⟨y, rfl, hv⟩ := hv; exact ⟨_, rfl, lf (hy y List.mem_cons_self) hv⟩
 cases fv with
 | any => exact True.intro
 | v b ys => exact lv (fun y hy => hy) h
 | tup vs =>
  obtain ⟨cs, hc, h⟩ := h
  refine ⟨cs, hc, ?_⟩
  have go : ∀ (vs' : List (Bool × List Lf)) (cs : List Value), (∀ q ∈ vs', q ∈ vs) → All2 (fun (q : Bool × List Lf) c => RVal F β w q.1 q.2 c) vs' cs → All2 (fun (q : Bool × List Lf) c => RVal F β' w' q.1 q.2 c) (vs'.map fun q => (q.1, q.2.map f)) cs := by
   intro vs'
   induction vs' with
   | nil => intro cs _ h; cases cs <;> exact h
   | cons q vs' ih =>
    intro cs hs h
    cases cs with
    | nil => exact h.elim
    | cons c cs => exact ⟨lv (fun y hy => List.mem_flatMap.2 ⟨q, hs q List.mem_cons_self, hy⟩) h.1, ih cs (fun z hz => hs z (List.mem_cons_of_mem _ hz)) h.2⟩
  exact go vs cs (fun _ h => h) h
 | box l2 cs0 off0 =>
  obtain ⟨g0, cc0, ty0, hc0, hb0, hh0, hall0⟩ := h
  obtain ⟨h1, h2⟩ := hbox l2 (by simp [FV.hasB]) g0 cc0 ty0 hb0 hh0
  exact ⟨g0, cc0, ty0, hc0, h1, h2, lfs (fun y hy => hy) hall0⟩
 | lit l2 k2 cs0 =>
  obtain ⟨g0, cc0, ty0, n0, hc0, hb0, hh0, hs0, hn0, hall0⟩ := h
  obtain ⟨h1, h2⟩ := hbox l2 (by simp [FV.hasB]) g0 cc0 ty0 hb0 hh0
  exact ⟨g0, cc0, ty0, n0, hc0, h1, h2, hs0, hn0, lfs (fun y hy => hy) hall0⟩
 | elt s j off0 =>
  obtain ⟨g0, o0, n0, c0, y0, hs0, hy0, hj0, hv1⟩ := h
  unfold FV.mapL
  dsimp only
  cases h4 : (f s).arr? with
  | none => exact True.intro
  | some y1 =>
   obtain ⟨h5, h6⟩ := hlen List.mem_cons_self hy0 h4
   exact ⟨g0, o0, n0, c0, y1, lf List.mem_cons_self hs0, h4, by rw [h5]; exact hj0, by rw [h6]; exact hv1⟩
 | sub s j off0 =>
  obtain ⟨g0, o0, n0, c0, y0, hs0, hy0, hj0, hv1⟩ := h
  unfold FV.mapL
  dsimp only
  cases h4 : (f s).arr? with
  | none => exact True.intro
  | some y1 =>
   obtain ⟨h5, h6⟩ := hlen List.mem_cons_self hy0 h4
   exact ⟨g0, o0, n0, c0, y1, lf List.mem_cons_self hs0, h4, by rw [h5]; exact hj0, by rw [h6]; exact hv1⟩

theorem uns_R : ∀ {xs : List Lf} {ys : List PL} {cs : List Value}, unLs xs = some ys → All2 (RLf F β w) xs cs → All2 (PL.R w (okU F β)) ys cs
 | [], ys, [], he, _ => by cases he; exact True.intro
 | x :: xs, ys, c :: cs, he, h => by
  unfold unLs at he
  split at he
  ·rename_i y ys' hy hys
   cases he
   refine ⟨?_, uns_R hys h.2⟩
   cases x with
   | undef => cases hy
   | own l e x => cases hy
   | deep l e k x => cases hy
   | kid l e n x => cases hy
   | p x => cases hy; exact h.1
   | nil =>
    cases hy
    have h1 : c = .slice none 0 0 := h.1
    subst h1
    exact ⟨none, 0, rfl, Nat.le_refl _, by simp, .inl rfl⟩
  ·cases he
 | [], _, _ :: _, _, h => h.elim
 | _ :: _, _, [], _, h => h.elim

theorem s_store_row (h : Sim F β T a w) (hT : tabB F.P ei Γ = true) {t : TypeId} {ad x : Operand} (ho : o.op = .store t ad x) {r : TyRow} (hr : Γ.get t = some r)
  {lab : Lab} {e : TypeId} {kk : Nat} {l : List (List PL)} {i off : Nat} {a' : Bool} {xs : List Lf} {ys : List PL} (ha : opd T ad = .elt (.own lab e (.arr kk l)) i off) (hx : opd T x = .v a' xs) (hun : unLs xs = some ys)
  (hn : (Nat.beq xs.length kk && Nat.beq xs.length (match r.cells with | some n => n | none => 1)) = true) (hoff : off = 0) (hi : i < l.length)
  (hK : ∀ β' c w', Sim F β' (put (T.map (FV.mapLB lab (updR lab kk i ys))) o.dst (.tup [])) (a.put o.dst c) w' → K (a.put o.dst c) w') : o.wp F.P a w K Q := by
 subst hoff
 rw [Bool.and_eq_true] at hn
 have hn1 : xs.length = kk := Nat.eq_of_beq_eq_true hn.1
 have hn2 : xs.length = (match r.cells with | some n => n | none => 1) := Nat.eq_of_beq_eq_true hn.2
 have h1 := opd_R h ad
 have h2 := opd_R h x
 rw [ha] at h1
 rw [hx] at h2
 obtain ⟨g, o', n, c, y, hs, hy, hiy, hv⟩ := h1
 cases hy
 obtain ⟨⟨_, hpin⟩, ⟨hv0, _⟩ | ⟨g', c', cur, hv0, hb, hh, k1, k2, k3, k4⟩⟩ := hs
 ·cases hv0
 cases hv0
 simp only [PL.wd, PL.len] at hv k1 k3
 have hcells := uns_R hun (cells_of_val h2)
 have hlen := (cells_of_val h2).length
 obtain ⟨hid, hrow⟩ := tab_row hT hr
 obtain ⟨hcs, hone⟩ := row_cells hrow
 rw [hid] at hcs hone
 have hsz : (sizeOf t).run F.P w = .ok xs.length w := by
  cases hc : r.cells with
  | some n =>
   rw [hc] at hn2
   rw [hn2]
   exact run_size (hcs n hc).2 w
  | none =>
   rw [hc] at hn2
   rw [hn2]
   exact run_size (hone hc).2 w
 generalize hvs : (a.eval x).cells.toList = vs at *
 have hvl : vs.length = kk := by omega
 have hfit : (i + 1) * kk ≤ cur.size := by rw [k3]; exact Nat.mul_le_mul_right kk (by omega)
 rw [Nat.add_mul, Nat.one_mul] at hfit
 have hrun : (storeCells ⟨g, i * kk, none⟩ vs).run F.P w = .ok () (w.setRow g (cur.toList.take (i * kk) ++ vs ++ cur.toList.drop (i * kk + vs.length)).toArray) := by
  have := run_storeCells_at F.P g (i * kk) e vs 0 cur w hh (by simp; omega) (fun v hv' => by
   obtain ⟨j, hj⟩ := List.getElem?_of_mem hv'
   have hlt : j < ys.length := by rw [hcells.length]; exact (List.getElem?_eq_some_iff.1 hj).1
   obtain ⟨c, hc, hxc⟩ := hcells.get j ys[j] (List.getElem?_eq_getElem hlt)
   rw [hj] at hc
   cases hc
   exact PL.R.one hxc)
  simpa using this
 have hsz2 : (a.eval x).cells.size = xs.length := by
  have := congrArg List.length hvs
  simp at this
  omega
 generalize hcs' : (cur.toList.take (i * kk) ++ vs ++ cur.toList.drop (i * kk + vs.length)).toArray = cur' at hrun
 have hcur' : cur'.size = cur.size := by rw [← hcs']; simp; omega
 have hget : ∀ j, cur'[j]? = if j < i * kk then cur[j]? else if j < i * kk + kk then vs[j - i * kk]? else cur[j]? := by
  intro j
  rw [← hcs']
  have hgm := get_mid (cc := cur.toList) (mid := vs) (i := i * kk) (q := j) (by simp; omega)
  simp only [List.getElem?_toArray]
  rw [hgm, hvl]
  simp
 have m := Mv.own h hb cur'
 have hheap := setRow_heap w g cur cur' e (0, 0) hh
 have hcells' : All2 (PL.R (w.setRow g cur') (okU F β)) ys vs := hcells.imp (fun x v hx => PL.R.move m.hs m.ok x v hx)
 have lf : ∀ {y : Lf} {v : Value}, RLf F β w y v → RLf F β (w.setRow g cur') (updR lab kk i ys y) v := by
  intro y v hy
  cases y with
  | own l2 e2 q =>
   unfold updR
   dsimp only
   by_cases hl : l2 = lab
   ·subst hl
    rw [decide_eq_true rfl]
    dsimp only
    cases q with
    | arr k2 q =>
     dsimp only
     cases hkk : Nat.beq k2 kk with
     | false => exact R_one hy
     | true =>
      have hkk : k2 = kk := Nat.eq_of_beq_eq_true hkk
      subst hkk
      dsimp only
      obtain ⟨⟨_, hpn⟩, hy⟩ := hy
      refine ⟨⟨rfl, hpn⟩, ?_⟩
      rcases hy with ⟨hv, h0⟩ | ⟨g2, c2, cur2, hv, hb2, hh2, j1, j2, j3, j4⟩
      ·exact .inl ⟨hv, by simpa [PL.len] using h0⟩
      ·rw [hb] at hb2
       cases hb2
       rw [hh] at hh2
       cases hh2
       refine .inr ⟨g, c2, cur', by simpa [PL.len] using hv, hb, hheap, by simpa [PL.len] using j1, j2, by rw [hcur']; exact j3, ?_⟩
       refine PL.Rows.of_get fun q2 rr hq2 => ?_
       rw [List.getElem?_set] at hq2
       split at hq2
       ·rename_i hiq
        subst hiq
        split at hq2
        ·cases hq2
         refine ⟨by rw [hcells.length]; exact hvl, PL.Cells.of_get fun m2 xx hm2 => ?_⟩
         obtain ⟨u, hu, hxu⟩ := hcells'.get m2 xx hm2
         refine ⟨u, ?_, hxu⟩
         have hm3 : m2 < vs.length := (List.getElem?_eq_some_iff.1 hu).1
         rw [cell_of_row _ g _ cur' e (0, 0) hheap, Nat.zero_add, hget, if_neg (by omega), if_pos (by omega), Nat.add_sub_cancel_left]
         exact hu
        ·cases hq2
       ·rename_i hiq
        obtain ⟨g1, g2⟩ := PL.Rows.get j4 q2 rr hq2
        refine ⟨g1, PL.Cells.of_get fun m2 xx hm2 => ?_⟩
        obtain ⟨u, hu, hxu⟩ := g2.get m2 xx hm2
        refine ⟨u, ?_, PL.R.move m.hs m.ok _ _ hxu⟩
        have hm3 : m2 < k2 := by rw [← g1]; exact (List.getElem?_eq_some_iff.1 hm2).1
        rw [cell_of_row _ g _ cur e (0, 0) hh, Nat.zero_add] at hu
        rw [cell_of_row _ g _ cur' e (0, 0) hheap, Nat.zero_add, hget]
        by_cases h5 : q2 * k2 + m2 < i * k2
        ·rw [if_pos h5]; exact hu
        ·rw [if_neg h5]
         have h6 : ¬ q2 * k2 + m2 < i * k2 + k2 := by
          intro h6
          rcases Nat.lt_trichotomy q2 i with h7 | h7 | h7
          ·have := Nat.mul_le_mul_right k2 (show q2 + 1 ≤ i by omega)
           rw [Nat.add_mul, Nat.one_mul] at this
           omega
          ·exact hiq h7.symm
          ·have := Nat.mul_le_mul_right k2 (show i + 1 ≤ q2 by omega)
           rw [Nat.add_mul, Nat.one_mul] at this
           omega
         rw [if_neg h6]
         exact hu
    | _ => exact R_one hy
   ·rw [decide_eq_false hl]
    exact hy.move m (fun l3 b hl3 hb3 => ⟨hb3, setRow_other w g b cur' (fun e => hl (by
     subst e
     simp [Lf.has] at hl3
     rw [hl3]
     exact h.inj _ _ _ hb3 hb))⟩)
  | deep l2 e2 k2 q => exact safeL_own h hb cur' hy
  | kid l2 e2 n2 q => exact safeL_own h hb cur' hy
  | _ => exact RLf.move m (fun l3 b hl3 hb3 => by cases hl3) hy
 have hst : (storeVar t ⟨g, i * kk, none⟩ (a.eval x)).run F.P w = .ok () (w.setRow g cur') := by
  simp only [storeVar, Sem.run_bind, hsz, Result.andThen, hsz2, ne_eq, not_true_eq_false, if_false, hvs]
  exact hrun
 refine wp_skip_ (w' := w.setRow g cur') ?_ ?_
 ·simp [execOp, ho, Instr.storeAt, Instr.sureAddr, hv, hst]
 ·refine hK β undef _ (Sim.put ?_ o.dst ⟨[], rfl, True.intro⟩)
  refine h.stored hb cur' (by simp) (fun k f f' c hf hf' hr => ?_)
  rw [List.getElem?_map, hf] at hf'
  cases hf'
  have hlen : ∀ {s : Lf} {x x' : PL}, s.arr? = some x → (updR lab kk i ys s).arr? = some x' → x'.len = x.len ∧ x'.wd = x.wd := by
   intro s x x' hs hs'
   cases s with
   | own l2 e2 q =>
    unfold updR at hs'
    dsimp only at hs'
    split at hs'
    ·split at hs'
     ·split at hs'
      ·cases hs; cases hs'; simp [PL.len, PL.wd]
      ·cases hs'
     ·cases hs'
    ·rw [hs] at hs'; cases hs'; exact ⟨rfl, rfl⟩
   | deep l2 e2 k2 q =>
    rcases safeL_arr (lab := lab) hs with h1 | h1
    ·have e : some x = some x' := hs.symm.trans ((congrArg Lf.arr? h1).symm.trans hs'); cases e; exact ⟨rfl, rfl⟩
    ·rw [show (updR lab kk i ys (.deep l2 e2 k2 q)).arr? = none from h1] at hs'; cases hs'
   | kid l2 e2 n2 q => cases hs
   | _ => have e : some x = some x' := hs.symm.trans hs'; cases e; exact ⟨rfl, rfl⟩
  have plain : (∀ l, f.hasB l = true → l ≠ lab) → RFV F β (w.setRow g cur') (f.mapL (updR lab kk i ys)) c := fun hb2 =>
   mapL_R (fun _ => lf) (fun _ hs hs' => hlen hs hs') (fun l2 hfe g0 cc0 ty0 hb0 hh0 => ⟨hb0, by
    rw [setRow_other w g g0 cur' (fun e => hb2 _ hfe (by subst e; exact h.inj _ _ _ hb0 hb))]
    exact hh0⟩) hr
  cases f with
  | box l2 cs2 off2 =>
   unfold FV.mapLB
   dsimp only
   by_cases hne : l2 = lab
   ·rw [decide_eq_true hne]; exact True.intro
   ·rw [decide_eq_false hne]
    exact plain (fun l e => by simp only [FV.hasB, decide_eq_true_eq] at e; rw [← e]; exact hne)
  | lit l2 k2 cs2 =>
   unfold FV.mapLB
   dsimp only
   by_cases hne : l2 = lab
   ·rw [decide_eq_true hne]; exact True.intro
   ·rw [decide_eq_false hne]
    exact plain (fun l e => by simp only [FV.hasB, decide_eq_true_eq] at e; rw [← e]; exact hne)
  | any => exact plain (fun l e => by cases e)
  | v b ys => exact plain (fun l e => by cases e)
  | tup vs => exact plain (fun l e => by cases e)
  | elt s i off => exact plain (fun l e => by cases e)
  | sub s i off => exact plain (fun l e => by cases e)
end
end Go.Vx
end
section
/- Vx, part 9a: append. -/
namespace Go.Vx
open Go.RowKit

/-- An array's elements, each a list of cells. -/
def PL.rows : PL → List (List PL)
 | .ints l => l.map fun z => [.int .i64 z]
 | .arr _ l => l
 | _ => []

section
variable {w : World} {ok : Nat → Prop}
theorem rows_len {y : PL} (h : y.isArr = true) : y.rows.length = y.len := by
 cases y <;> simp [PL.isArr] at h
 ·simp [PL.rows, PL.len]
 ·rfl
theorem At_rows {y : PL} {g o : Nat} (hy : y.isArr = true) : y.At w ok g o ↔ PL.Rows w ok y.wd g o y.rows := by
 cases y <;> simp [PL.isArr] at hy
 ·rename_i l
  constructor
  ·intro h
   refine PL.Rows.of_get fun i r hr => ?_
   simp only [PL.rows, List.getElem?_map] at hr
   obtain ⟨z, hz, rfl⟩ := Option.map_eq_some_iff.1 hr
   refine ⟨rfl, PL.Cells.of_get fun j x hx => ?_⟩
   cases j with
   | zero =>
    simp at hx
    subst hx
    exact ⟨_, by have := h i z hz; simpa [PL.wd] using this, rfl⟩
   | succ j => simp at hx
  ·intro h i z hz
   obtain ⟨_, hc⟩ := PL.Rows.get h i [.int .i64 z] (by simp [PL.rows, hz])
   obtain ⟨u, hu, hx⟩ := hc.get 0 _ rfl
   have hx : u = .int .i64 z := hx
   subst hx
   simpa [PL.wd] using hu
 ·exact Iff.rfl

theorem Cells_list {g : Nat} : ∀ {r : List PL} {o : Nat}, PL.Cells w ok g o r → ∃ us : List Value, All2 (PL.R w ok) r us ∧ ∀ j u, us[j]? = some u → w.cell? ⟨g, o + j, none⟩ = some u
 | [], o, _ => ⟨[], True.intro, fun j u h => by simp at h⟩
 | x :: r, o, h => by
  unfold PL.Cells at h
  obtain ⟨⟨u, hu, hx⟩, h⟩ := h
  obtain ⟨us, h1, h2⟩ := Cells_list h
  refine ⟨u :: us, ⟨hx, h1⟩, fun j v hj => ?_⟩
  cases j with
  | zero => simp at hj; subst hj; exact hu
  | succ j =>
   rw [show o + (j + 1) = o + 1 + j by omega]
   exact h2 j v (by simpa using hj)
theorem Rows_list {k g : Nat} : ∀ {rows : List (List PL)} {o : Nat}, PL.Rows w ok k g o rows → (∀ r ∈ rows, r.length = k) ∧ ∃ us : List Value, All2 (PL.R w ok) rows.flatten us ∧ ∀ j u, us[j]? = some u → w.cell? ⟨g, o + j, none⟩ = some u
 | [], o, _ => ⟨(fun _ h => by cases h), [], True.intro, fun j u h => by simp at h⟩
 | r :: rows, o, h => by
  unfold PL.Rows at h
  obtain ⟨hl, hc, h⟩ := h
  obtain ⟨us, h1, h2⟩ := Cells_list hc
  obtain ⟨h3, vs, h4, h5⟩ := Rows_list h
  refine ⟨fun r' hr => ?_, us ++ vs, ?_, fun j u hj => ?_⟩
  ·rcases List.mem_cons.1 hr with rfl | hr
   ·exact hl
   ·exact h3 r' hr
  ·rw [List.flatten_cons]
   exact h1.append h4
  ·have hlen := h1.length
   rw [List.getElem?_append] at hj
   split at hj
   ·exact h2 j u hj
   ·have := h5 _ u hj
    rw [show o + k + (j - us.length) = o + j by omega] at this
    exact this
theorem Rows_of {k g : Nat} : ∀ {rows : List (List PL)} {o : Nat} {us : List Value}, (∀ r ∈ rows, r.length = k) → All2 (PL.R w ok) rows.flatten us → (∀ j u, us[j]? = some u → w.cell? ⟨g, o + j, none⟩ = some u) → PL.Rows w ok k g o rows
 | [], o, us, _, _, _ => by unfold PL.Rows; exact True.intro
 | r :: rows, o, us, hl, h, hu => by
  rw [List.flatten_cons] at h
  have hr := hl r List.mem_cons_self
  unfold PL.Rows
  refine ⟨hr, PL.Cells.of_get fun j x hx => ?_, Rows_of (us := us.drop k) (fun r' hr' => hl r' (List.mem_cons_of_mem _ hr')) ?_ fun j u hj => ?_⟩
  ·obtain ⟨u, hj, hxu⟩ := h.get j x (by rw [List.getElem?_append_left (List.getElem?_eq_some_iff.1 hx).1]; exact hx)
   exact ⟨u, hu j u hj, hxu⟩
  ·have := h.drop k
   rw [← hr, List.drop_left] at this
   rw [← hr]
   exact this
  ·rw [List.getElem?_drop] at hj
   rw [Nat.add_assoc]
   exact hu _ u hj
end

theorem flat_len {k : Nat} : ∀ {rows : List (List PL)}, (∀ r ∈ rows, r.length = k) → rows.flatten.length = rows.length * k
 | [], _ => by simp
 | r :: rows, h => by
  rw [List.flatten_cons, List.length_append, flat_len (fun r' hr => h r' (List.mem_cons_of_mem _ hr)), h r List.mem_cons_self, List.length_cons, Nat.add_mul]
  omega

theorem cat_spec {t : Ty} {y z : PL} (hy : tyArr t y = true) (hz : tyArr t z = true) : (y.cat z).isArr = true ∧ (y.cat z).wd = y.wd ∧ z.wd = y.wd ∧ (y.cat z).len = y.len + z.len ∧ (y.cat z).rows = y.rows ++ z.rows := by
 cases t <;> cases y <;> simp [tyArr] at hy <;> cases z <;> simp [tyArr] at hz
 ·simp [PL.cat, PL.isArr, PL.wd, PL.len, PL.rows]
 ·subst hy
  subst hz
  simp [PL.cat, PL.isArr, PL.wd, PL.len, PL.rows]

theorem contA_ty {t : Ty} {x : Lf} {y : PL} (h : contA t x = some y) : tyArr t y = true := by
 unfold contA at h
 split at h
 ·split at h
  ·cases h; rfl
  ·cases h; simp [tyArr]
  ·cases h
 ·split at h
  ·cases h; assumption
  ·cases h
 ·split at h
  ·cases h; assumption
  ·cases h
 ·cases h
 ·cases h
 ·cases h

section
variable {F : Fr} {β β' : BM} {T : List FV} {a : Act} {w w' : World} {o : Oper} {Γ : Tab} {ei : TypeId} {Q : Exit → Act → World → Prop} {K : Act → World → Prop}

/-- What is appended: a list of cells, and where they lie. -/
theorem cont_list (h : Sim F β T a w) {t : Ty} {x : Lf} {y : PL} {v : Value} (hy : contA t x = some y) (hx : RLf F β w x v) :
  ∃ A c us, v = .slice A y.len c ∧ (∀ r ∈ y.rows, r.length = y.wd) ∧ All2 (PL.R w (okU F β)) y.rows.flatten us ∧ (y.len = 0 ∨ ∃ g q, A = some ⟨g, q, none⟩ ∧ ∀ j u, us[j]? = some u → w.cell? ⟨g, q + j, none⟩ = some u) := by
 have hty := contA_ty hy
 have harr : y.isArr = true := by cases t <;> cases y <;> first | rfl | (simp [tyArr] at hty)
 cases x with
 | deep l e k x => cases hy
 | kid l e n x => cases hy
 | undef => cases hy
 | nil =>
  unfold RLf at hx
  subst hx
  unfold contA at hy
  dsimp only at hy
  refine ⟨none, 0, [], ?_⟩
  split at hy <;> cases hy <;> exact ⟨rfl, (fun _ h => by cases h), True.intro, .inl rfl⟩
 | p x =>
  have hy : x = y := by unfold contA at hy; dsimp only at hy; split at hy <;> cases hy; rfl
  subst hy
  have main : ∃ A c, v = .slice A x.len c ∧ (x.len = 0 ∨ ∃ g q, A = some ⟨g, q, none⟩ ∧ x.At w (okU F β) g q) := by
   unfold RLf at hx
   cases x <;> simp [PL.isArr] at harr
   ·obtain ⟨A, c, hv, _, _, h⟩ := hx
    refine ⟨A, c, hv, ?_⟩
    rcases h with rfl | ⟨g, q, hA, _, _, h⟩
    ·exact .inl rfl
    ·exact .inr ⟨g, q, hA, h⟩
   ·obtain ⟨A, c, hv, _, _, h⟩ := hx
    refine ⟨A, c, hv, ?_⟩
    rcases h with rfl | ⟨g, q, hA, _, _, h⟩
    ·exact .inl rfl
    ·exact .inr ⟨g, q, hA, h⟩
  obtain ⟨A, c, hv, h1⟩ := main
  rcases h1 with h0 | ⟨g, q, hA, h1⟩
  ·have hrows : x.rows = [] := List.eq_nil_of_length_eq_zero (by rw [rows_len harr]; exact h0)
   exact ⟨A, c, [], hv, (by rw [hrows]; exact fun _ h => by cases h), (by rw [hrows]; exact True.intro), .inl h0⟩
  ·obtain ⟨h2, us, h3, h4⟩ := Rows_list ((At_rows harr).1 h1)
   exact ⟨A, c, us, hv, h2, h3, .inr ⟨g, q, hA, h4⟩⟩
 | own l e x =>
  have hy : x = y := by unfold contA at hy; dsimp only at hy; split at hy <;> cases hy; rfl
  subst hy
  obtain ⟨_, hx⟩ := hx
  rcases hx with ⟨hv, h0⟩ | ⟨g, c, cur, hv, hb, hh, h1, h2, h3, h4⟩
  ·have hrows : x.rows = [] := List.eq_nil_of_length_eq_zero (by rw [rows_len harr]; exact h0)
   exact ⟨none, 0, [], by rw [hv, h0], (by rw [hrows]; exact fun _ h => by cases h), (by rw [hrows]; exact True.intro), .inl h0⟩
  ·obtain ⟨k1, us, k2, k3⟩ := Rows_list ((At_rows harr).1 h4)
   exact ⟨_, c, us, hv, k1, k2, .inr ⟨g, 0, rfl, k3⟩⟩

theorem run_append_empty {P : Program} {t ty e : TypeId} {i : TypeInfo} (ht : P.underlying t = some (.slice e)) (hi : P.info? e = some i) {B A : Option Addr} {n cap c : Nat} (hn : n ≤ cap) (w : World) :
  (Builtin.append_ #[t, t] ty #[.slice B n cap, .slice A 0 c]).run P w = .ok (.slice B n cap) w := by
 cases A <;> cases B <;> simp [Builtin.append_, run_underlying ht, sizeOf, typeInfo, hi, Builtin.lenOf, hn, Builtin.firstCells, loadCells, loadCellsFrom, storeCells]

theorem run_append_op {P : Program} {c : Call} {s x : Operand} {t : TypeId} (ho : o.op = .call c) (hc : c.callee = .builtin .append) (hargs : c.args.toList = [s, x]) (hts : c.argTypes.toList = [t, t]) {v : Value} {w w' : World}
  (h : (Builtin.append_ #[t, t] o.type #[a.eval s, a.eval x]).run P w = .ok v w') : (execOp a.eval o).run P w = .ok (.value v) w' := by
 have hargs' : c.args = #[s, x] := by cases hq : c.args; rw [hq] at hargs; simp at hargs; rw [hargs]
 have hts' : c.argTypes = #[t, t] := by cases hq : c.argTypes; rw [hq] at hts; simp at hts; rw [hts]
 simp [execOp, ho, resolve, hc, hargs', hts', invoke, builtin, h]
end
end Go.Vx
end
