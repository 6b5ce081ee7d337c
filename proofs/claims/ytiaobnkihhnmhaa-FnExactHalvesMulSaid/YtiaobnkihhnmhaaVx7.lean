/- Vx, part 8: what an operation's result hangs on: its operands alone; its labels. -/
import Derived.Test.YtiaobnkihhnmhaaVx6
namespace Go.Vx
open Go.RowKit

section
variable {Γ : Tab} {ei : TypeId} {Den : FuncId → List PV → Bool → Res → Prop} {o : Oper} {ρ ρ' : Operand → FV} {k k' : FV → Prop}

theorem ex_ex {α φ : Sort _} {A : α → Prop} {B : α → φ → Prop} {k : φ → Prop} (f : ∀ a, A a → ∃ x, B a x ∧ k x) (h : ∃ a, A a) : ∃ x, (∃ a, B a x) ∧ k x :=
  let ⟨a, ha⟩ := h
  let ⟨x, hb, hk⟩ := f a ha
  ⟨x, ⟨a, hb⟩, hk⟩
theorem ex_and {φ : Sort _} {A C : Prop} {B : φ → Prop} {k : φ → Prop} (f : A → ∃ x, B x ∧ k x) (h : C ∧ A) : ∃ x, (C ∧ B x) ∧ k x :=
  let ⟨x, hb, hk⟩ := f h.2
  ⟨x, ⟨h.1, hb⟩, hk⟩

theorem binK_ex {isB : Bool} {op : BinOp} {a b : PL} {c : PL → Prop} (h : binK isB op a b c) : ∃ r, binK isB op a b (· = r) ∧ c r := by
  unfold binK at h ⊢
  repeat' (first | exact h.elim | exact ⟨_, rfl, h⟩ | refine ex_ex (fun _ h => ?_) h | refine ex_and (fun h => ?_) h | split at h)
theorem binK_of {isB : Bool} {op : BinOp} {a b : PL} {c c' : PL → Prop} (hk : ∀ r, c r → c' r) (h : binK isB op a b c) : binK isB op a b c' := by
  unfold binK at h ⊢
  repeat' (first | exact h.elim | exact hk _ h | refine Exists.imp (fun _ h => ?_) h | refine And.imp_right (fun h => ?_) h | split at h)

/-- What comes out is one value. -/
theorem Yk_ex (h : Yk Γ ei Den o ρ k) : ∃ f, Yk Γ ei Den o ρ (· = f) ∧ k f := by
  unfold Yk at h ⊢
  repeat' (first | exact h.elim | exact ⟨_, rfl, h⟩ | refine ex_ex (fun _ h => ?_) h | refine ex_and (fun h => ?_) h | (obtain ⟨r, h1, h2⟩ := binK_ex h; exact ⟨_, binK_of (fun r hr => by rw [hr]) h1, h2⟩) | split at h)

theorem Yk_of (hk : ∀ f, k f → k' f) (h : Yk Γ ei Den o ρ k) : Yk Γ ei Den o ρ k' := by
  unfold Yk at h ⊢
  repeat' (first | exact h.elim | exact hk _ h | refine Exists.imp (fun _ h => ?_) h | refine And.imp_right (fun h => ?_) h | exact binK_of (fun r hr => hk _ hr) h | split at h)

/-- Only the operands are looked at. -/
theorem Yk_congr (hρ : ∀ x ∈ o.op.operands, ρ x = ρ' x) (h : Yk Γ ei Den o ρ k) : Yk Γ ei Den o ρ' k := by
  unfold Yk at h ⊢
  cases ho : o.op with
  | move x => simp only [ho] at h hρ ⊢; rw [← hρ x (by simp [Op.operands])]; exact h
  | assign x => simp only [ho] at h hρ ⊢; rw [← hρ x (by simp [Op.operands])]; exact h
  | pick c x y => simp only [ho] at h hρ ⊢; rw [← hρ c (by simp [Op.operands]), ← hρ x (by simp [Op.operands]), ← hρ y (by simp [Op.operands])]; exact h
  | alloc t => simp only [ho] at h ⊢; exact h
  | box t x => simp only [ho] at h hρ ⊢; rw [← hρ x (by simp [Op.operands])]; exact h
  | load t x => simp only [ho] at h hρ ⊢; rw [← hρ x (by simp [Op.operands])]; exact h
  | binOp op t x y u => simp only [ho] at h hρ ⊢; rw [← hρ x (by simp [Op.operands]), ← hρ y (by simp [Op.operands])]; exact h
  | unOp op t x => simp only [ho] at h hρ ⊢; rw [← hρ x (by simp [Op.operands])]; exact h
  | fieldAddr s x f => simp only [ho] at h hρ ⊢; rw [← hρ x (by simp [Op.operands])]; exact h
  | field s x f => simp only [ho] at h hρ ⊢; rw [← hρ x (by simp [Op.operands])]; exact h
  | indexAddr t x ix => simp only [ho] at h hρ ⊢; rw [← hρ x (by simp [Op.operands]), ← hρ ix (by simp [Op.operands])]; exact h
  | extract x j => simp only [ho] at h hρ ⊢; rw [← hρ x (by simp [Op.operands])]; exact h
  | convert s d x => simp only [ho] at h hρ ⊢; rw [← hρ x (by simp [Op.operands])]; exact h
  | build t parts =>
    simp only [ho] at h hρ ⊢
    have hmap : (parts.toList.map fun q => (q.1, ρ' q.2)) = parts.toList.map fun q => (q.1, ρ q.2) := List.map_congr_left fun x hx => by rw [hρ x.2 (by simpa [Op.operands] using ⟨x.1, by simpa using hx⟩)]
    rw [hmap]
    exact h
  | buildSlice t n parts =>
    simp only [ho] at h hρ ⊢
    have hmap : (parts.toList.map fun q => (q.1, ρ' q.2)) = parts.toList.map fun q => (q.1, ρ q.2) := List.map_congr_left fun x hx => by rw [hρ x.2 (by simpa [Op.operands] using ⟨x.1, by simpa using hx⟩)]
    rw [hmap]
    exact h
  | makeSlice t l c => simp only [ho] at h hρ ⊢; rw [← hρ l (by simp [Op.operands]), ← hρ c (by simp [Op.operands])]; exact h
  | slice t x lo hi mx =>
    simp only [ho] at h hρ ⊢
    have h1 : lo.map ρ' = lo.map ρ := by cases lo with | none => rfl | some q => simp only [Option.map_some]; rw [hρ q (by simp [Op.operands])]
    have h2 : hi.map ρ' = hi.map ρ := by cases hi with | none => rfl | some q => simp only [Option.map_some]; rw [hρ q (by simp [Op.operands])]
    rw [h1, h2, ← hρ x (by simp [Op.operands])]
    exact h
  | call c =>
    simp only [ho] at h hρ ⊢
    have hmap : c.args.toList.map ρ' = c.args.toList.map ρ := List.map_congr_left fun x hx => (hρ x (by simp [Op.operands, Call.operands]; exact .inr (by simpa using hx))).symm
    cases hc : c.callee with
    | value f =>
      simp only [hc] at h ⊢
      rw [hmap, ← hρ f (by simp [Op.operands, Call.operands, hc])]
      exact h
    | invoke r m => simp only [hc] at h
    | builtin b =>
      cases b with
      | len =>
        simp only [hc] at h ⊢
        split at h
        · rename_i x t hargs hts
          rw [hargs] at hmap
          simp only [List.map_cons, List.map_nil, List.cons.injEq, and_true] at hmap
          rw [hmap]
          exact h
        · exact h.elim
      | max =>
        simp only [hc] at h ⊢
        split at h
        · rename_i x y hargs
          rw [hargs] at hmap
          simp only [List.map_cons, List.map_nil, List.cons.injEq, and_true] at hmap
          rw [hmap.1, hmap.2]
          exact h
        · exact h.elim
      | _ => simp only [hc] at h
  | _ => simp only [ho] at h

end

/-! ### labels -/
def Lf.hasD (d : Nat) : Lf → Bool
  | .own l _ _ => decide (l.1 = d)
  | _ => false
def FV.hasD (d : Nat) : FV → Bool
  | .v _ xs => xs.any (Lf.hasD d)
  | .tup vs => vs.any fun q => q.2.any (Lf.hasD d)
  | .box l cs _ => decide (l.1 = d) || cs.any (Lf.hasD d)
  | .elt s _ _ => s.hasD d
  | .any => false
def noD (T : List FV) (d : Nat) : Bool := T.all fun f => !f.hasD d
theorem Lf.hasD_of {d j : Nat} {x : Lf} (h : x.has (d, j) = true) : x.hasD d = true := by
  cases x <;> simp [Lf.has, Lf.hasD] at h ⊢
  rw [h]
theorem FV.hasD_of {d j : Nat} {f : FV} (h : f.has (d, j) = true) : f.hasD d = true := by
  cases f with
  | any => simp [FV.has] at h
  | v a xs =>
    simp only [FV.has, FV.hasD, List.any_eq_true] at h ⊢
    obtain ⟨x, hx, h⟩ := h
    exact ⟨x, hx, Lf.hasD_of h⟩
  | tup vs =>
    simp only [FV.has, FV.hasD, List.any_eq_true] at h ⊢
    obtain ⟨q, hq, x, hx, h⟩ := h
    exact ⟨q, hq, x, hx, Lf.hasD_of h⟩
  | box l cs off =>
    simp only [FV.has, FV.hasD, Bool.or_eq_true, decide_eq_true_eq, List.any_eq_true] at h ⊢
    rcases h with h | ⟨x, hx, h⟩
    · exact .inl (by rw [h])
    · exact .inr ⟨x, hx, Lf.hasD_of h⟩
  | elt s i off => exact Lf.hasD_of h
theorem noD_has {T : List FV} {d : Nat} (h : noD T d = true) : ∀ f ∈ T, ∀ j, f.has (d, j) = false := by
  intro f hf j
  unfold noD at h
  rw [List.all_eq_true] at h
  have := h f hf
  cases hh : f.has (d, j) with
  | false => rfl
  | true => rw [FV.hasD_of hh] at this; cases this

theorem labelP_D {ei : TypeId} {d d' : Nat} : ∀ {xs : List PL} {j : Nat}, (labelP ei d j xs).any (Lf.hasD d') = true → d' = d
  | [], _, h => by simp [labelP] at h
  | x :: xs, j, h => by
    cases x <;> simp [labelP, Lf.hasD] at h
    all_goals first
      | (obtain ⟨y, hy, h⟩ := h; exact labelP_D (List.any_eq_true.2 ⟨y, hy, h⟩))
      | (rcases h with h | ⟨y, hy, h⟩
         · exact h.symm
         · exact labelP_D (List.any_eq_true.2 ⟨y, hy, h⟩))
theorem labelVs_D {ei : TypeId} {d d' : Nat} : ∀ {qs : List PV} {j : Nat}, ((labelVs ei d j qs).any fun q => q.2.any (Lf.hasD d')) = true → d' = d
  | [], _, h => by simp [labelVs] at h
  | (a, xs) :: qs, j, h => by
    unfold labelVs at h
    rw [List.any_cons, Bool.or_eq_true] at h
    rcases h with h | h
    · exact labelP_D h
    · exact labelVs_D h
theorem p_D {d : Nat} : ∀ {xs : List PL}, (xs.map Lf.p).any (Lf.hasD d) = false
  | [] => rfl
  | x :: xs => by rw [List.map_cons, List.any_cons, p_D]; rfl
theorem labelR_D {ei : TypeId} {d d' : Nat} {fl : Bool} {r : Res} (h : (labelR ei d fl r).hasD d' = true) : d' = d := by
  cases r with
  | one q =>
    obtain ⟨a, xs⟩ := q
    cases fl with
    | true => exact labelP_D h
    | false =>
      have : (xs.map Lf.p).any (Lf.hasD d') = true := h
      rw [p_D] at this
      cases this
  | tup qs =>
    cases fl with
    | true => exact labelVs_D h
    | false =>
      have h : ((qs.map fun q => (q.1, q.2.map Lf.p)).any fun q => q.2.any (Lf.hasD d')) = true := h
      rw [List.any_eq_true] at h
      obtain ⟨q, hq, h⟩ := h
      rw [List.mem_map] at hq
      obtain ⟨q', _, rfl⟩ := hq
      rw [p_D] at h
      cases h

theorem any_take {d : Nat} {xs : List Lf} {i n : Nat} (h : ((xs.drop i).take n).any (Lf.hasD d) = true) : xs.any (Lf.hasD d) = true := by
  rw [List.any_eq_true] at h ⊢
  obtain ⟨x, hx, h⟩ := h
  exact ⟨x, List.mem_of_mem_drop (List.mem_of_mem_take hx), h⟩
theorem any_get {d : Nat} {xs : List Lf} {i : Nat} {y : Lf} (hy : xs[i]? = some y) (h : y.hasD d = true) : xs.any (Lf.hasD d) = true := by
  rw [List.any_eq_true]
  exact ⟨y, List.mem_of_getElem? hy, h⟩

section
variable {Γ : Tab} {ei : TypeId} {Den : FuncId → List PV → Bool → Res → Prop} {o : Oper} {ρ : Operand → FV}

theorem binK_p {isB : Bool} {op : BinOp} {a b : PL} {f : FV} (h : binK isB op a b (fun r => .v false [.p r] = f)) : ∃ r, f = .v false [.p r] := by
  obtain ⟨r, _, h⟩ := binK_ex h
  exact ⟨r, h.symm⟩
theorem p1_D {d : Nat} {x : PL} : (FV.v false [.p x]).hasD d = false := rfl

theorem ownIf_D {d : Nat} {lb : Bool} {l : Lab} {e : TypeId} {x : PL} (h : (FV.v false [ownIf lb l e x]).hasD d = true) : l.1 = d := by
  cases lb with
  | true => simpa [ownIf, FV.hasD, Lf.hasD] using h
  | false => cases h
theorem fillA_D {d : Nat} {offs : List (Nat × Option Nat)} : ∀ {ps : List (Nat × FV)} {cs cs' : List Lf}, fillA offs ps cs = some cs' → cs'.any (Lf.hasD d) = true → cs.any (Lf.hasD d) = true ∨ ∃ p ∈ ps, p.2.hasD d = true
  | [], cs, cs', h, hd => by cases h; exact .inl hd
  | (i, f) :: ps, cs, cs', h, hd => by
    unfold fillA at h
    split at h
    · rename_i b xs q hq
      split at h
      · rcases fillA_D h hd with h1 | ⟨p, hp, h1⟩
        · unfold over at h1
          rw [List.any_append, List.any_append, Bool.or_eq_true, Bool.or_eq_true] at h1
          rcases h1 with (h1 | h1) | h1
          · left
            rw [List.any_eq_true] at h1 ⊢
            obtain ⟨y, hy, h1⟩ := h1
            exact ⟨y, List.mem_of_mem_take hy, h1⟩
          · exact .inr ⟨_, List.mem_cons_self, h1⟩
          · left
            rw [List.any_eq_true] at h1 ⊢
            obtain ⟨y, hy, h1⟩ := h1
            exact ⟨y, List.mem_of_mem_drop hy, h1⟩
        · exact .inr ⟨p, List.mem_cons_of_mem _ hp, h1⟩
      · cases h
    · cases h

/-- A value's labels are its operands', or new. -/
theorem Yk_D {d : Nat} (hno : ∀ t r, Γ.get t = some r → r.zero.any (Lf.hasD d) = false) {f : FV} (h : Yk Γ ei Den o ρ (· = f)) (hd : f.hasD d = true) :
    (creates o.op = true ∧ d = o.dst.getD 0) ∨ ∃ x ∈ o.op.operands, (ρ x).hasD d = true := by
  unfold Yk at h
  cases ho : o.op with
  | move x => simp only [ho] at h; subst h; exact .inr ⟨x, by simp [Op.operands], hd⟩
  | assign x => simp only [ho] at h; subst h; exact .inr ⟨x, by simp [Op.operands], hd⟩
  | pick c x y =>
    simp only [ho] at h
    split at h
    · obtain ⟨t, ht, h⟩ := h
      subst h
      cases t
      · exact .inr ⟨y, by simp [Op.operands], hd⟩
      · exact .inr ⟨x, by simp [Op.operands], hd⟩
    · exact h.elim
  | alloc t =>
    simp only [ho] at h
    split at h
    · rename_i r hr
      subst h
      simp only [FV.hasD, hno t r hr, Bool.or_false, decide_eq_true_eq] at hd
      exact .inl ⟨rfl, hd.symm⟩
    · exact h.elim
  | box t x =>
    simp only [ho] at h
    split at h
    · rename_i r a' xs hr hs
      subst h
      simp only [FV.hasD, Bool.or_eq_true, decide_eq_true_eq] at hd
      rcases hd with hd | hd
      · exact .inl ⟨rfl, hd.symm⟩
      · exact .inr ⟨x, by simp [Op.operands], by rw [hs]; exact hd⟩
    · exact h.elim
  | load t x =>
    simp only [ho] at h
    split at h
    · exact h.elim
    · split at h
      · rename_i lab cs off hs
        refine .inr ⟨x, by simp [Op.operands], ?_⟩
        rw [hs]
        simp only [FV.hasD, Bool.or_eq_true]
        right
        split at h
        · obtain ⟨_, h⟩ := h
          subst h
          exact any_take hd
        · obtain ⟨y, hy, h⟩ := h
          subst h
          simp only [FV.hasD, List.any_cons, List.any_nil, Bool.or_false] at hd
          exact any_get hy hd
      · rename_i s i off hs
        exfalso
        split at h
        · split at h
          · exact h.elim
          · obtain ⟨z, hz, h0, h⟩ := h
            subst h
            cases hd
        · obtain ⟨q, hq, h⟩ := h
          split at h
          · obtain ⟨_, h⟩ := h
            subst h
            simp only [FV.hasD] at hd
            rw [p_D] at hd
            cases hd
          · obtain ⟨y, hy, h⟩ := h
            subst h
            cases hd
        · exact h.elim
      · exact h.elim
  | binOp op t x y u =>
    simp only [ho] at h
    split at h
    · obtain ⟨r, h⟩ := binK_p h
      subst h
      cases hd
    · exact h.elim
  | unOp op t x =>
    simp only [ho] at h
    split at h
    · obtain ⟨z, hz, h⟩ := h
      subst h
      cases hd
    · obtain ⟨z, hz, h⟩ := h
      subst h
      cases hd
    · exact h.elim
  | fieldAddr s x fi =>
    simp only [ho] at h
    split at h
    · split at h
      · exact h.elim
      · split at h
        · rename_i hs
          subst h
          exact .inr ⟨x, by simp [Op.operands], by rw [hs]; exact hd⟩
        · rename_i hs
          subst h
          exact .inr ⟨x, by simp [Op.operands], by rw [hs]; exact hd⟩
        · exact h.elim
    · exact h.elim
  | field s x fi =>
    simp only [ho] at h
    split at h
    · split at h
      · exact h.elim
      · split at h
        · rename_i xs hs
          refine .inr ⟨x, by simp [Op.operands], ?_⟩
          rw [hs]
          split at h
          · obtain ⟨_, h⟩ := h
            subst h
            exact any_take hd
          · obtain ⟨y, hy, h⟩ := h
            subst h
            simp only [FV.hasD, List.any_cons, List.any_nil, Bool.or_false] at hd
            exact any_get hy hd
        · exact h.elim
    · exact h.elim
  | indexAddr t x ix =>
    simp only [ho] at h
    split at h
    · exact h.elim
    · split at h
      · rename_i s kd z hs hz
        split at h
        · obtain ⟨hy, i, hz, hi, h⟩ := h
          subst h
          refine .inr ⟨x, by simp [Op.operands], ?_⟩
          rw [hs]
          simpa [FV.hasD] using hd
        · exact h.elim
      · exact h.elim
  | extract x j =>
    simp only [ho] at h
    split at h
    · rename_i vs hs
      obtain ⟨q, hq, h⟩ := h
      subst h
      refine .inr ⟨x, by simp [Op.operands], ?_⟩
      rw [hs]
      simp only [FV.hasD, List.any_eq_true] at hd ⊢
      exact ⟨q, List.mem_of_getElem? hq, hd⟩
    · exact h.elim
  | convert s t x =>
    simp only [ho] at h
    split at h
    · obtain ⟨u, hu, h⟩ := h
      subst h
      cases hd
    · exact h.elim
  | slice t x lo hi mx =>
    simp only [ho] at h
    split at h
    · exact h.elim
    · split at h
      · obtain ⟨_, i, j, _, _, _, _, h⟩ := h
        subst h
        cases hd
      · exact h.elim
  | build t parts =>
    simp only [ho] at h
    split at h
    · rename_i id n offs zero hr
      split at h
      · rename_i cs hcs
        subst h
        rcases fillA_D hcs hd with h1 | ⟨p, hp, h1⟩
        · rw [hno t _ hr] at h1
          cases h1
        · rw [List.mem_map] at hp
          obtain ⟨q, hq, rfl⟩ := hp
          exact .inr ⟨q.2, by simpa [Op.operands] using ⟨q.1, by simpa using hq⟩, h1⟩
      · exact h.elim
    · exact h.elim
  | buildSlice t n parts =>
    simp only [ho] at h
    split at h
    · split at h
      · obtain ⟨_, lb, h⟩ := h
        subst h
        exact .inl ⟨rfl, (ownIf_D hd).symm⟩
      · exact h.elim
    · split at h
      · obtain ⟨_, lb, h⟩ := h
        subst h
        exact .inl ⟨rfl, (ownIf_D hd).symm⟩
      · exact h.elim
    · exact h.elim
  | makeSlice t l c =>
    simp only [ho] at h
    split at h
    · obtain ⟨n, _, _, _, lb, h⟩ := h
      subst h
      exact .inl ⟨rfl, (ownIf_D hd).symm⟩
    · split at h
      · split at h
        · obtain ⟨n, _, _, _, lb, h⟩ := h
          subst h
          exact .inl ⟨rfl, (ownIf_D hd).symm⟩
        · exact h.elim
      · exact h.elim
    · exact h.elim
  | call c =>
    simp only [ho] at h
    split at h
    · split at h
      · split at h
        · split at h
          · obtain ⟨_, h⟩ := h
            subst h
            cases hd
          · exact h.elim
        · exact h.elim
      · exact h.elim
    · split at h
      · split at h
        · obtain ⟨z, hz, h⟩ := h
          subst h
          cases hd
        · exact h.elim
      · exact h.elim
    · split at h
      · obtain ⟨ps, hps, fl, lb, r, hden, hok, h⟩ := h
        subst h
        exact .inl ⟨rfl, labelR_D hd⟩
      · exact h.elim
    · exact h.elim
  | _ => simp only [ho] at h
theorem zero_D {d : Nat} : ∀ {xs : List Lf} {cs : List Value}, zeroOkB xs cs = true → xs.any (Lf.hasD d) = false
  | [], _, _ => rfl
  | y :: xs, [], h => by unfold zeroOkB at h; simp at h
  | y :: xs, c :: cs, h => by
    rw [List.any_cons, zero_D (cs := cs) (by unfold zeroOkB at h; split at h <;> simp_all)]
    cases y <;> first | rfl | (simp [zeroOkB] at h)
theorem tab_zero_D {P : Program} {d : Nat} (hT : tabB P ei Γ = true) {t : TypeId} {r : TyRow} (hr : Γ.get t = some r) : r.zero.any (Lf.hasD d) = false := by
  obtain ⟨hid, hrow⟩ := tab_row hT hr
  unfold rowB at hrow
  rw [Bool.and_eq_true, Bool.and_eq_true] at hrow
  have hz := hrow.1.2
  split at hz
  · rw [Bool.and_eq_true] at hz
    have hz := hz.2
    split at hz
    · exact zero_D hz
    · cases hz
  · cases hz
end

end Go.Vx
