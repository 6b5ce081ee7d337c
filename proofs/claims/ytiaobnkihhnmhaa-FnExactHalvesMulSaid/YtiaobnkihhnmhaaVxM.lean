/- Vx, part 9c: calls that write their arguments' arrays. -/
import Derived.Test.YtiaobnkihhnmhaaVxB
namespace Go.Vx
open Go.RowKit

section
variable {F : Fr} {β β' : BM} {T : List FV} {a : Act} {w w' : World} {o : Oper} {Γ : Tab} {ei : TypeId} {Q : Exit → Act → World → Prop} {K : Act → World → Prop}

theorem fr_leaf {N : Nat → Option Nat} {j : Nat} {x : Lf} {y : PL} {v : Value} {ys : List PL} {cs : List Value} (hy : frL ei x = some y) (hN : ∀ l e q, x = .own l e q → v ≠ .slice none 0 0 → N j = β l) (h : RLf F β w x v)
    (hr : FrLs w ei N (j + 1) ys cs) : FrLs w ei N j (y :: ys) (v :: cs) := by
  cases x with
  | undef => cases hy
  | nil =>
    cases hy
    unfold RLf at h
    exact ⟨.inl ⟨h, rfl⟩, hr⟩
  | p x =>
    unfold frL at hy
    dsimp only at hy
    split at hy
    · cases hy
    · rename_i hx
      cases hy
      cases y <;> first | exact ⟨h, hr⟩ | cases hx
  | own l e x =>
    cases x <;> try (cases hy; done)
    rename_i q
    unfold frL at hy
    dsimp only at hy
    split at hy
    · rename_i he
      have he : e = ei := Nat.eq_of_beq_eq_true he
      subst he
      cases hy
      refine ⟨?_, hr⟩
      obtain ⟨_, h⟩ := h
      rcases h with ⟨hv, h0⟩ | ⟨g, c, cur, hv, hb, hh, h1, h2, h3, h4⟩
      · exact .inl ⟨hv, by simpa [PL.len] using h0⟩
      · exact .inr ⟨g, c, cur, hv, (hN l e _ rfl (by rw [hv]; intro h; cases h)).trans hb, hh, h1, h2, by simpa [PL.wd] using h3, h4⟩
    · cases hy
theorem fr_leaves {N : Nat → Option Nat} : ∀ {xs : List Lf} {ys : List PL} {cs : List Value} {j : Nat}, mapO (frL ei) xs = some ys → (∀ i l e q c, xs[i]? = some (.own l e q) → cs[i]? = some c → c ≠ .slice none 0 0 → N (j + i) = β l) → All2 (RLf F β w) xs cs → FrLs w ei N j ys cs
  | [], ys, [], _, he, _, _ => by cases he; exact True.intro
  | x :: xs, ys, c :: cs, j, he, hN, h => by
    unfold mapO at he
    split at he
    · rename_i y ys' hy hys
      cases he
      refine fr_leaf hy (fun l e q hx hc => hN 0 l e q c (by rw [hx]; rfl) rfl hc) h.1 (fr_leaves hys (fun i l e q c' hx hc' hne => ?_) h.2)
      rw [show j + 1 + i = j + (i + 1) by omega]
      exact hN (i + 1) l e q c' (by simpa using hx) (by simpa using hc') hne
    · cases he
  | [], _, _ :: _, _, _, _, h => h.elim
  | _ :: _, _, [], _, _, _, h => h.elim
theorem mapO_len {α γ : Type} {f : α → Option γ} : ∀ {xs : List α} {ys : List γ}, mapO f xs = some ys → ys.length = xs.length
  | [], ys, h => by cases h; rfl
  | x :: xs, ys, h => by
    unfold mapO at h
    split at h
    · rename_i y ys' hy hys
      cases h
      simp [mapO_len hys]
    · cases h
theorem fr_val {N : Nat → Option Nat} {q : Bool × List Lf} {p : PV} {v : Value} {j : Nat} (he : resV (frL ei) q = some p) (hN : ∀ i l e x c, q.2[i]? = some (.own l e x) → v.cells.toList[i]? = some c → c ≠ .slice none 0 0 → N (j + i) = β l) (h : RVal F β w q.1 q.2 v) :
    FrPV w ei N j p v ∧ p.2.length = q.2.length := by
  obtain ⟨b, xs⟩ := q
  unfold resV at he
  dsimp only at he h hN
  split at he
  · rename_i ys hys
    cases he
    refine ⟨?_, mapO_len hys⟩
    cases b with
    | true => obtain ⟨cs, rfl, h⟩ := h; exact ⟨cs, rfl, fr_leaves hys (by simpa [Value.cells] using hN) h⟩
    | false =>
      obtain ⟨x, rfl, h⟩ := h
      rw [cells_one (R_one h)] at hN
      have := fr_leaves (cs := [v]) hys hN ⟨h, True.intro⟩
      unfold mapO at hys
      split at hys
      · rename_i y ys' hy hys'
        cases hys
        cases hys'
        exact ⟨y, rfl, this⟩
      · cases hys
  · cases he
theorem fr_vals {N : Nat → Option Nat} : ∀ {qs : List (Bool × List Lf)} {ps : List PV} {cs : List Value} {j : Nat}, mapO (resV (frL ei)) qs = some ps → (∀ i l e x c, (qs.flatMap (·.2))[i]? = some (.own l e x) → (cellsOf cs)[i]? = some c → c ≠ .slice none 0 0 → N (j + i) = β l) →
    All2 (fun (q : Bool × List Lf) c => RVal F β w q.1 q.2 c) qs cs → FrPVs w ei N j ps cs
  | [], ps, [], _, he, _, _ => by cases he; exact True.intro
  | q :: qs, ps, c :: cs, j, he, hN, h => by
    unfold mapO at he
    split at he
    · rename_i y ys' hy hys
      cases he
      have hl := (cells_of_val h.1).length
      obtain ⟨h1, h2⟩ := fr_val (β := β) hy (fun i l e x c' hx hc' hne => hN i l e x c' (by
        rw [List.flatMap_cons, List.getElem?_append_left (List.getElem?_eq_some_iff.1 hx).1]
        exact hx) (by
        unfold cellsOf
        rw [List.flatMap_cons, List.getElem?_append_left (List.getElem?_eq_some_iff.1 hc').1]
        exact hc') hne) h.1
      refine ⟨h1, fr_vals hys (fun i l e x c' hx hc' hne => ?_) h.2⟩
      rw [h2, Nat.add_assoc]
      refine hN _ l e x c' ?_ ?_ hne
      · rw [List.flatMap_cons, List.getElem?_append_right (by omega)]
        simpa using hx
      · unfold cellsOf
        rw [List.flatMap_cons, List.getElem?_append_right (by omega), hl, Nat.add_sub_cancel_left]
        exact hc'
    · cases he
  | [], _, _ :: _, _, _, _, h => h.elim
  | _ :: _, _, [], _, _, _, h => h.elim
theorem labNodup_get : ∀ {xs : List Lf}, labNodup (labsOf xs) = true → ∀ {i j : Nat} {l l' : Lab} {e e' : TypeId} {x x' : PL}, xs[i]? = some (.own l e x) → xs[j]? = some (.own l' e' x') → l = l' → i = j
  | [], _, i, _, _, _, _, _, _, _, hi, _, _ => by simp at hi
  | y :: ys, h, i, j, l, l', e, e', x, x', hi, hj, hll => by
    have mem : ∀ {ys : List Lf} {i : Nat} {l : Lab} {e : TypeId} {x : PL}, ys[i]? = some (.own l e x) → l ∈ labsOf ys := by
      intro ys
      induction ys with
      | nil => intro i l e x h; simp at h
      | cons y ys ih =>
        intro i l e x h
        cases i with
        | zero => simp at h; subst h; exact List.mem_cons_self
        | succ i =>
          have := ih (i := i) (by simpa using h)
          cases y <;> first | exact this | exact List.mem_cons_of_mem _ this
    have hrest : labNodup (labsOf ys) = true := by
      cases y <;> first | exact h | skip
      unfold labsOf labNodup at h
      rw [Bool.and_eq_true] at h
      exact h.2
    cases i with
    | zero =>
      cases j with
      | zero => rfl
      | succ j =>
        exfalso
        simp at hi
        subst hi
        unfold labsOf labNodup at h
        rw [Bool.and_eq_true, List.all_eq_true] at h
        have := h.1 l' (mem (i := j) (by simpa using hj))
        simp [hll] at this
    | succ i =>
      cases j with
      | zero =>
        exfalso
        simp at hj
        subst hj
        unfold labsOf labNodup at h
        rw [Bool.and_eq_true, List.all_eq_true] at h
        have := h.1 l (mem (i := i) (by simpa using hi))
        simp [hll] at this
      | succ j => exact congrArg (· + 1) (labNodup_get hrest (i := i) (j := j) (by simpa using hi) (by simpa using hj) hll)


/-- What an argument's cell is. -/
def FrC (w : World) (ei : TypeId) (N : Nat → Option Nat) (j : Nat) (x : PL) (v : Value) : Prop := match x with
  | .ints l => FrA w ei N j l v
  | .arr _ _ => False
  | x => PL.R w (fun _ => False) x v
theorem FrLs_get {N : Nat → Option Nat} : ∀ {xs : List PL} {j : Nat} {cs : List Value}, FrLs w ei N j xs cs → ∀ (i : Nat) (x : PL) (c : Value), xs[i]? = some x → cs[i]? = some c → FrC w ei N (j + i) x c
  | [], _, _, _, i, x, c, hx, _ => by simp at hx
  | x :: xs, j, [], h, _, _, _, _, hc => by simp at hc
  | x :: xs, j, c :: cs, h, i, y, d, hx, hc => by
    have h2 : FrC w ei N j x c ∧ FrLs w ei N (j + 1) xs cs := by
      cases x with
      | arr k l => simp [FrLs] at h
      | _ => exact h
    cases i with
    | zero =>
      simp at hx hc
      subst hx; subst hc
      exact h2.1
    | succ i =>
      have := FrLs_get h2.2 i y d (by simpa using hx) (by simpa using hc)
      rwa [show j + (i + 1) = j + 1 + i by omega]
theorem FrPV_get {N : Nat → Option Nat} {q : PV} {j : Nat} {v : Value} (h : FrPV w ei N j q v) (i : Nat) (x : PL) (c : Value) (hx : q.2[i]? = some x) (hc : v.cells.toList[i]? = some c) : FrC w ei N (j + i) x c := by
  obtain ⟨b, xs⟩ := q
  cases b with
  | true => obtain ⟨cs, rfl, h⟩ := h; exact FrLs_get h i x c hx (by simpa [Value.cells] using hc)
  | false =>
    obtain ⟨y, rfl, h⟩ := h
    rw [cells_one (FrL_one h)] at hc
    exact FrLs_get h i x c hx hc
theorem FrPVs_get {N : Nat → Option Nat} : ∀ {qs : List PV} {j : Nat} {cs : List Value}, FrPVs w ei N j qs cs → ∀ (i : Nat) (x : PL) (c : Value), (qs.flatMap (·.2))[i]? = some x → (cellsOf cs)[i]? = some c → FrC w ei N (j + i) x c
  | [], _, _, _, i, x, c, hx, _ => by simp at hx
  | q :: qs, j, [], h, _, _, _, _, hc => by simp [cellsOf] at hc
  | q :: qs, j, v :: cs, h, i, y, d, hx, hc => by
    have hl := FrPV_len h.1
    unfold cellsOf at hc
    rw [List.flatMap_cons] at hx hc
    by_cases hi : i < q.2.length
    · rw [List.getElem?_append_left hi] at hx
      rw [List.getElem?_append_left (by omega)] at hc
      exact FrPV_get h.1 i y d hx hc
    · rw [List.getElem?_append_right (by omega)] at hx hc
      rw [← hl] at hc
      have := FrPVs_get h.2 (i - q.2.length) y d hx hc
      rwa [show j + q.2.length + (i - q.2.length) = j + i by omega] at this
theorem FrPVs_len {N : Nat → Option Nat} : ∀ {qs : List PV} {j : Nat} {cs : List Value}, FrPVs w ei N j qs cs → (qs.flatMap (·.2)).length = (cellsOf cs).length
  | [], _, [], _ => rfl
  | [], _, _ :: _, h => by simp [FrPVs] at h
  | q :: qs, j, [], h => by simp [FrPVs] at h
  | q :: qs, j, v :: cs, h => by
    have h1 := FrPV_len h.1
    have h2 := FrPVs_len h.2
    unfold cellsOf at h2 ⊢
    rw [List.flatMap_cons, List.flatMap_cons, List.length_append, List.length_append, h1, h2]

theorem lookC_some : ∀ {as : List Lf} {ys : List PL} {l : Lab} {y : PL}, lookC as ys l = some y → ∃ (j : Nat) (e : TypeId) (x : PL), as[j]? = some (.own l e x) ∧ ys[j]? = some y
  | [], _, _, _, h => by unfold lookC at h; simp at h
  | x :: xs, [], l, y, h => by cases x <;> (unfold lookC at h; simp at h)
  | x :: xs, z :: ys, l, y, h => by
    have up : lookC xs ys l = some y → ∃ (j : Nat) (e : TypeId) (x' : PL), (x :: xs)[j]? = some (.own l e x') ∧ (z :: ys)[j]? = some y := fun h => by
      obtain ⟨j, e, x', h1, h2⟩ := lookC_some h
      exact ⟨j + 1, e, x', by simpa using h1, by simpa using h2⟩
    cases x with
    | own l2 e2 q =>
      unfold lookC at h
      split at h
      · rename_i hl
        have hl : l2 = l := of_decide_eq_true hl
        subst hl
        cases h
        exact ⟨0, e2, q, rfl, rfl⟩
      · exact up h
    | _ => exact up h
theorem lookC_none : ∀ {as : List Lf} {ys : List PL} {l : Lab}, lookC as ys l = none → ∀ (j : Nat) (e : TypeId) (x : PL), as[j]? = some (.own l e x) → ys[j]? = none
  | [], _, _, _, j, e, x, hj => by simp at hj
  | x :: xs, [], l, h, j, _, _, _ => by simp
  | x :: xs, z :: ys, l, h, j, e, q, hj => by
    cases j with
    | zero =>
      simp at hj
      subst hj
      unfold lookC at h
      rw [decide_eq_true rfl] at h
      cases h
    | succ j =>
      have h2 : lookC xs ys l = none := by
        cases x with
        | own l2 e2 q2 =>
          unfold lookC at h
          split at h
          · cases h
          · exact h
        | _ => exact h
      simpa using lookC_none h2 j e q (by simpa using hj)

theorem lenLs_spec {as : List Lf} {ys : List PL} : ∀ {zs : List Lf} {c : Prop}, lenLs as ys zs c → (∀ l e q y, Lf.own l e (.ints q) ∈ zs → lookC as ys l = some y → q.length = y.len) ∧ c
  | [], c, h => ⟨(fun _ _ _ _ h => by cases h), h⟩
  | z :: zs, c, h => by
    unfold lenLs at h
    have h2 : (∀ l e q y, Lf.own l e (.ints q) = z → lookC as ys l = some y → q.length = y.len) ∧ lenLs as ys zs c := by
      unfold lenL at h
      split at h
      · split at h
        · rename_i y0 hy0
          refine ⟨fun l' e' q' y' he hy' => ?_, h.2⟩
          cases he
          rw [hy0] at hy'
          cases hy'
          exact h.1
        · exact h.elim
        · rename_i hy0
          refine ⟨fun l' e' q' y' he hy' => ?_, h⟩
          cases he
          rw [hy0] at hy'
          cases hy'
      · rename_i hne
        exact ⟨fun l' e' q' y' he hy' => (hne l' e' q' he.symm).elim, h⟩
    obtain ⟨h3, h4⟩ := lenLs_spec h2.2
    refine ⟨fun l e q y hm hy => ?_, h4⟩
    rcases List.mem_cons.1 hm with hm | hm
    · exact h2.1 l e q y hm hy
    · exact h3 l e q y hm hy
theorem lenT_spec {as : List Lf} {ys : List PL} : ∀ {T : List FV} {c : Prop}, lenT as ys T c → (∀ f ∈ T, ∀ l e q y, Lf.own l e (.ints q) ∈ f.lvs → lookC as ys l = some y → q.length = y.len) ∧ c
  | [], c, h => ⟨(fun _ h => by cases h), h⟩
  | f :: fs, c, h => by
    unfold lenT at h
    obtain ⟨h1, h2⟩ := lenLs_spec h
    obtain ⟨h3, h4⟩ := lenT_spec h2
    refine ⟨fun g hg => ?_, h4⟩
    rcases List.mem_cons.1 hg with rfl | hg
    · exact h1
    · exact h3 g hg

theorem lenLs_split {as : List Lf} {ys : List PL} : ∀ {zs : List Lf} {c : Prop}, lenLs as ys zs c → lenLs as ys zs True ∧ c
  | [], c, h => ⟨True.intro, h⟩
  | z :: zs, c, h => by
    unfold lenLs lenL at h ⊢
    split at h
    · split at h
      · obtain ⟨h1, h2⟩ := h
        obtain ⟨h3, h4⟩ := lenLs_split h2
        exact ⟨⟨h1, h3⟩, h4⟩
      · exact h.elim
      · exact lenLs_split h
    · exact lenLs_split h
theorem lenLs_join {as : List Lf} {ys : List PL} : ∀ {zs : List Lf} {c d : Prop}, lenLs as ys zs c → (c → d) → lenLs as ys zs d
  | [], c, d, h, hd => hd h
  | z :: zs, c, d, h, hd => by
    unfold lenLs lenL at h ⊢
    split at h
    · split at h
      · exact ⟨h.1, lenLs_join h.2 hd⟩
      · exact h.elim
      · exact lenLs_join h hd
    · exact lenLs_join h hd
theorem lenT_split {as : List Lf} {ys : List PL} : ∀ {T : List FV} {c : Prop}, lenT as ys T c → lenT as ys T True ∧ c
  | [], c, h => ⟨True.intro, h⟩
  | f :: fs, c, h => by
    unfold lenT at h ⊢
    have h1 := lenLs_split h
    obtain ⟨h3, h4⟩ := lenT_split h1.2
    exact ⟨lenLs_join h fun hc => (lenT_split hc).1, h4⟩

theorem args_R : ∀ {fs : List FV} {vs : List Value} {avs : List (Bool × List Lf)}, mapO argV fs = some avs → All2 (RFV F β w) fs vs → All2 (fun (q : Bool × List Lf) c => RVal F β w q.1 q.2 c) avs vs
  | [], [], avs, h, _ => by cases h; exact True.intro
  | f :: fs, v :: vs, avs, h, hr => by
    unfold mapO at h
    split at h
    · rename_i y ys hy hys
      cases h
      cases f <;> cases hy
      exact ⟨hr.1, args_R hys hr.2⟩
    · cases h
  | [], _ :: _, _, _, h => h.elim
  | _ :: _, [], _, _, h => h.elim

/-- The blocks of the arguments' arrays. -/
def N1of (β : BM) (as : List Lf) (cs : List Value) (j : Nat) : Option Nat := match as[j]?, cs[j]? with
  | some (.own l _ _), some (.slice (some _) _ _) => β l
  | _, _ => none
theorem N1of_some {as : List Lf} {cs : List Value} {j b : Nat} (h : N1of β as cs j = some b) : ∃ l e x, as[j]? = some (.own l e x) ∧ β l = some b := by
  unfold N1of at h
  split at h
  · rename_i l e x _ _ _ h1 h2
    exact ⟨l, e, x, h1, h⟩
  · cases h

theorem mem_labsOf : ∀ {as : List Lf} {j : Nat} {l : Lab} {e : TypeId} {x : PL}, as[j]? = some (.own l e x) → l ∈ labsOf as
  | [], _, _, _, _, h => by simp at h
  | y :: as, j, l, e, x, h => by
    cases j with
    | zero => simp at h; subst h; exact List.mem_cons_self
    | succ j =>
      have := mem_labsOf (as := as) (j := j) (by simpa using h)
      cases y <;> first | exact this | exact List.mem_cons_of_mem _ this
theorem mapO_get {α γ : Type} {f : α → Option γ} : ∀ {xs : List α} {ys : List γ} {j : Nat} {x : α}, mapO f xs = some ys → xs[j]? = some x → ∃ y, ys[j]? = some y ∧ f x = some y
  | [], _, _, _, _, hj => by simp at hj
  | x :: xs, ys, j, z, h, hj => by
    unfold mapO at h
    split at h
    · rename_i y ys' hy hys
      cases h
      cases j with
      | zero => simp at hj; subst hj; exact ⟨y, rfl, hy⟩
      | succ j => simpa using mapO_get hys (j := j) (by simpa using hj)
    · cases h
theorem resV_some {f : Lf → Option PL} {q : Bool × List Lf} {p : PV} (h : resV f q = some p) : mapO f q.2 = some p.2 := by
  unfold resV at h
  split at h
  · rename_i zs hzs
    cases h
    exact hzs
  · cases h
theorem mapV_len {f : Lf → Option PL} : ∀ {avs : List (Bool × List Lf)} {ps : List PV}, mapO (resV f) avs = some ps → (ps.flatMap (·.2)).length = (avs.flatMap (·.2)).length
  | [], _, h => by cases h; rfl
  | q :: avs, ps, h => by
    unfold mapO at h
    split at h
    · rename_i y ys' hy hys
      cases h
      rw [List.flatMap_cons, List.flatMap_cons, List.length_append, List.length_append, mapV_len hys, mapO_len (resV_some hy)]
    · cases h
theorem mapV_get {f : Lf → Option PL} : ∀ {avs : List (Bool × List Lf)} {ps : List PV} {j : Nat} {x : Lf}, mapO (resV f) avs = some ps → (avs.flatMap (·.2))[j]? = some x → ∃ p, (ps.flatMap (·.2))[j]? = some p ∧ f x = some p
  | [], _, _, _, _, hj => by simp at hj
  | q :: avs, ps, j, x, h, hj => by
    unfold mapO at h
    split at h
    · rename_i y ys' hy hys
      cases h
      have hl := mapO_len (resV_some hy)
      rw [List.flatMap_cons] at hj ⊢
      by_cases hjl : j < q.2.length
      · rw [List.getElem?_append_left hjl] at hj
        rw [List.getElem?_append_left (by omega)]
        exact mapO_get (resV_some hy) hj
      · rw [List.getElem?_append_right (by omega)] at hj
        rw [List.getElem?_append_right (by omega), hl]
        exact mapV_get hys hj
    · cases h
theorem cells_all : ∀ {avs : List (Bool × List Lf)} {vs : List Value}, All2 (fun (q : Bool × List Lf) c => RVal F β w q.1 q.2 c) avs vs → All2 (RLf F β w) (avs.flatMap (·.2)) (cellsOf vs)
  | [], [], _ => True.intro
  | q :: avs, v :: vs, h => by
    unfold cellsOf
    rw [List.flatMap_cons, List.flatMap_cons]
    exact (cells_of_val h.1).append (cells_all h.2)
  | [], _ :: _, h => h.elim
  | _ :: _, [], h => h.elim

theorem s_mut (h : Sim F β T a w) {c : Call} {g : FuncId} (ho : o.op = .call c) (hc : c.callee = .value (.func g)) {avs : List (Bool × List Lf)} (hav : mapO argV (c.args.toList.map (opd T)) = some avs)
    {ps : List PV} (hps : mapO (resV (frL ei)) avs = some ps) (hlab : (labNodup (labsOf (avs.flatMap (·.2))) && (labsOf (avs.flatMap (·.2))).all fun l => T.all fun f => !f.hasB l) = true)
    {qs : List PV} {r : MRes} (hden : DenM F.P ei g ps qs r)
    (hlen : ∀ f ∈ T, ∀ l e q y, Lf.own l e (.ints q) ∈ f.lvs → lookC (avs.flatMap (·.2)) (qs.flatMap (·.2)) l = some y → q.length = y.len)
    (hK : ∀ β' c w', Sim F β' (put (T.map (FV.mutF (avs.flatMap (·.2)) (qs.flatMap (·.2)))) o.dst (resFV (avs.flatMap (·.2)) (qs.flatMap (·.2)) r)) (a.put o.dst c) w' → K (a.put o.dst c) w') : o.wp F.P a w K Q := by
  rw [Bool.and_eq_true, List.all_eq_true] at hlab
  obtain ⟨hnd, hbx⟩ := hlab
  obtain ⟨⟨fn, hfn, hname, hb⟩, hcall⟩ := hden
  have hall := args_R hav (ops_R h c.args.toList)
  have hargs : (c.args.toList.map a.eval).toArray = c.args.map a.eval := by
    apply Array.ext'
    simp
  have hrun := run_enter ho hc (g := g) (a := a) rfl hfn hname hb w
  generalize has : avs.flatMap (·.2) = as at *
  generalize hys : qs.flatMap (·.2) = ys at *
  generalize hvs : c.args.toList.map a.eval = vs at *
  have hfr : FrPVs w ei (N1of β as (cellsOf vs)) 0 ps vs := by
    refine fr_vals (β := β) hps (fun i l e x c' hx hc' hne => ?_) hall
    rw [has] at hx
    rw [Nat.zero_add]
    have hsl : ∃ A n cp, c' = .slice (some A) n cp := by
      have hl2 := cells_all hall
      rw [has] at hl2
      obtain ⟨c2, hc2, hr2⟩ := hl2.get i _ hx
      rw [hc'] at hc2
      cases hc2
      obtain ⟨_, ⟨hv, _⟩ | ⟨g2, cp, cur, hv, _⟩⟩ := hr2
      · exact absurd hv hne
      · exact ⟨_, _, _, hv⟩
    obtain ⟨A, n, cp, rfl⟩ := hsl
    unfold N1of
    rw [hx, hc']
  have hNlt : ∀ j b, N1of β as (cellsOf vs) j = some b → b < w.heap.size := fun j b hj => by
    obtain ⟨l, _, _, _, hb⟩ := N1of_some hj
    exact (h.rng l b hb).1
  have hNinj : ∀ j j' b, N1of β as (cellsOf vs) j = some b → N1of β as (cellsOf vs) j' = some b → j = j' := fun j j' b hj hj' => by
    obtain ⟨l, e, x, h1, h2⟩ := N1of_some hj
    obtain ⟨l', e', x', h3, h4⟩ := N1of_some hj'
    exact labNodup_get hnd h1 h3 (h.inj _ _ _ h2 h4)
  unfold Oper.wp
  rw [hrun, Oper.upon_enter, ← hargs]
  refine (hcall _ w vs hNlt hNinj hfr).mono fun e w' hh => ?_
  obtain ⟨v, rfl, ⟨hos, htape, hout, hsize⟩, hkept, hfr', hres⟩ := hh
  have hlas : as.length = (cellsOf vs).length := by rw [← FrPVs_len hfr, ← has, mapV_len hps]
  have hlys : ys.length = (cellsOf vs).length := by rw [← hys]; exact FrPVs_len hfr'
  have hpget : ∀ (j : Nat) (l : Lab) (e : TypeId) (x : PL), as[j]? = some (.own l e x) → ∃ q, x = .ints q ∧ e = ei ∧ ∃ c', (cellsOf vs)[j]? = some c' ∧ FrA w ei (N1of β as (cellsOf vs)) j q c' := by
    intro j l e x hj
    have hlt : j < as.length := (List.getElem?_eq_some_iff.1 hj).1
    have hpj : ∃ p, (ps.flatMap (·.2))[j]? = some p ∧ frL ei (.own l e x) = some p := mapV_get hps (by rw [has]; exact hj)
    obtain ⟨p, hp1, hp2⟩ := hpj
    have hcj : ∃ c', (cellsOf vs)[j]? = some c' := ⟨_, List.getElem?_eq_getElem (by omega)⟩
    obtain ⟨c', hc'⟩ := hcj
    have hfc := FrPVs_get hfr j p c' hp1 hc'
    cases x with
    | ints q =>
      unfold frL at hp2
      dsimp only at hp2
      split at hp2
      · rename_i he
        have he : e = ei := Nat.eq_of_beq_eq_true he
        cases hp2
        rw [Nat.zero_add] at hfc
        exact ⟨q, rfl, he, c', hc', hfc⟩
      · cases hp2
    | _ => cases hp2
  have hsame : ∀ b, b < w.heap.size → (∀ (l : Lab) (e : TypeId) (x : PL) (j : Nat), as[j]? = some (.own l e x) → β l ≠ some b) → w'.heap[b]? = w.heap[b]? := fun b hb hn => hkept b hb (fun j hj => by
    obtain ⟨l, e, x, h1, h2⟩ := N1of_some hj
    exact hn l e x j h1 h2)
  have m : Mv F β β w w' := ⟨hsize, fun b hb hlt => ⟨hb, hsame b hlt (fun l e x j _ hl => hb.2 l hl)⟩⟩
  have lf : ∀ {f : FV} (_ : f ∈ T) {y : Lf} {v : Value}, y ∈ f.lvs → RLf F β w y v → RLf F β w' (updCs as ys y) v := by
    intro f hf y v hyf hy
    cases y with
    | own l2 e2 q =>
      unfold updCs
      dsimp only
      cases hl : lookC as ys l2 with
      | none =>
        dsimp only
        refine hy.move m (fun l3 b hl3 hb3 => ⟨hb3, hsame b (h.rng l3 b hb3).1 (fun l e x j hj hlb => ?_)⟩)
        have e1 : l = l3 := h.inj _ _ _ hlb hb3
        have e2 : l2 = l3 := by simpa [Lf.has] using hl3
        subst e1
        subst e2
        have := lookC_none hl j e x hj
        have hlt : j < as.length := (List.getElem?_eq_some_iff.1 hj).1
        rw [List.getElem?_eq_none_iff] at this
        omega
      | some y2 =>
        dsimp only
        split
        · rename_i q q2
          obtain ⟨j, e3, x3, hj, hyj⟩ := lookC_some hl
          obtain ⟨q3, rfl, rfl, cj, hcj, hfa⟩ := hpget j l2 e3 x3 hj
          have hfa' : FrA w' e3 (N1of β as (cellsOf vs)) j q2 cj := by
            have := FrPVs_get hfr' j (.ints q2) cj (by rw [hys]; exact hyj) hcj
            rw [Nat.zero_add] at this
            exact this
          have hql := hlen f hf l2 e2 q (.ints q2) hyf hl
          simp only [PL.len] at hql
          obtain ⟨⟨_, hpn⟩, hy⟩ := hy
          refine ⟨⟨rfl, hpn⟩, ?_⟩
          rcases hy with ⟨hv, h0⟩ | ⟨g2, c2, cur2, hv, hb2, hh2, j1, j2, j3, j4⟩
          · exact .inl ⟨hv, by simp only [PL.len] at h0 ⊢; omega⟩
          · simp only [PL.len, PL.wd] at hv j1 j3 ⊢
            rcases hfa' with ⟨hcn, hq2⟩ | ⟨g3, c3, cur3, hcv, hn3, hh3, i1, i2, i3, i4⟩
            · refine .inr ⟨g2, c2, cur2, by rw [hv, hql], hb2, ?_, by omega, j2, j3, ?_⟩
              · rw [hkept g2 (h.rng _ _ hb2).1 ?_]
                · exact hh2
                · intro j' hj'
                  obtain ⟨l, e, x, h1, h2⟩ := N1of_some hj'
                  have e1 : l = l2 := h.inj _ _ _ h2 hb2
                  have := labNodup_get hnd h1 hj e1
                  subst this
                  unfold N1of at hj'
                  rw [hj, hcj, hcn] at hj'
                  cases hj'
              · rw [hq2]
                intro i z hz
                simp at hz
            · have hb3 : β l2 = some g3 := by
                obtain ⟨l, e, x, h1, h2⟩ := N1of_some hn3
                rw [hj] at h1
                cases h1
                exact h2
              rw [hb2] at hb3
              cases hb3
              have hcap : c2 = c3 ∧ e2 = e3 := by
                rcases hfa with ⟨hcn, _⟩ | ⟨g4, c4, cur4, hcv4, hn4, hh4, k1, k2, k3, k4⟩
                · rw [hcn] at hcv; cases hcv
                · rw [hcv] at hcv4
                  injection hcv4 with u1 u2 u3
                  injection u1 with u1
                  injection u1 with u1 _ _
                  subst u1
                  rw [hh2] at hh4
                  cases hh4
                  exact ⟨by omega, rfl⟩
              obtain ⟨rfl, rfl⟩ := hcap
              exact .inr ⟨g2, c2, cur3, by rw [hv, hql], hb2, hh3, i1, i2, by omega, i4⟩
        · exact R_one hy
    | _ => exact RLf.move m (fun l3 b hl3 hb3 => by cases hl3) hy
  have hin : ∀ {l : Lab} {e : TypeId} {x : PL} {j : Nat}, as[j]? = some (.own l e x) → ∀ f ∈ T, f.hasB l = false := fun {l e x j} hj f hf => by
    have := hbx l (mem_labsOf hj)
    rw [List.all_eq_true] at this
    simpa using this f hf
  have lk : ∀ {y : Lf} {v : Value}, RLf F β w y v → RLf F β w' (killC as ys y) v := by
    intro y v hy
    cases y with
    | own l2 e2 q =>
      unfold killC
      dsimp only
      cases hl : lookC as ys l2 with
      | none =>
        dsimp only
        refine hy.move m (fun l3 b hl3 hb3 => ⟨hb3, hsame b (h.rng l3 b hb3).1 (fun l e x j hj hlb => ?_)⟩)
        have e1 : l = l3 := h.inj _ _ _ hlb hb3
        have e2 : l2 = l3 := by simpa [Lf.has] using hl3
        subst e1
        subst e2
        have := lookC_none hl j e x hj
        have hlt : j < as.length := (List.getElem?_eq_some_iff.1 hj).1
        rw [List.getElem?_eq_none_iff] at this
        omega
      | some y2 => exact R_one hy
    | _ => exact RLf.move m (fun l3 b hl3 hb3 => by cases hl3) hy
  have klen : ∀ {s : Lf} {x x' : PL}, s.arr? = some x → (killC as ys s).arr? = some x' → x'.len = x.len ∧ x'.wd = x.wd := by
    intro s x x' hs hs'
    cases s with
    | own l2 e2 q =>
      unfold killC at hs'
      dsimp only at hs'
      split at hs'
      · cases hs'
      · rw [hs] at hs'; cases hs'; exact ⟨rfl, rfl⟩
    | _ => have e : some x = some x' := hs.symm.trans hs'; cases e; exact ⟨rfl, rfl⟩
  have ulen : ∀ {f0 : FV} (_ : f0 ∈ T) {s : Lf} {x x' : PL}, s ∈ f0.lvs → s.arr? = some x → (updCs as ys s).arr? = some x' → x'.len = x.len ∧ x'.wd = x.wd := by
    intro f0 hfm s x x' hsm hs hs'
    cases s with
    | own l2 e2 q =>
      unfold updCs at hs'
      dsimp only at hs'
      split at hs'
      · rename_i y2 hy2
        split at hs'
        · cases hs; cases hs'
          have := hlen f0 hfm l2 e2 _ _ hsm hy2
          exact ⟨this.symm, rfl⟩
        · cases hs'
      · rw [hs] at hs'; cases hs'; exact ⟨rfl, rfl⟩
    | _ => have e : some x = some x' := hs.symm.trans hs'; cases e; exact ⟨rfl, rfl⟩
  have hS : Sim F β (T.map (FV.mutF as ys)) a w' :=
    { defers := h.defers, size := h.size.trans (by simp), inj := h.inj, rng := fun l b hl => ⟨Nat.lt_of_lt_of_le (h.rng l b hl).1 hsize, (h.rng l b hl).2⟩, os := hos.trans h.os, tape := htape.trans h.tape, output := hout.trans h.output,
      hsize := Nat.le_trans h.hsize hsize, mok := h.mok
      kept := fun k h1 h2 => (hkept k (Nat.lt_of_lt_of_le h1 h.hsize) (fun j hj => by
        obtain ⟨l, e, x, h3, h4⟩ := N1of_some hj
        rcases (h.rng l k h4).2 with h5 | h5
        · omega
        · exact h2 h5)).trans (h.kept k h1 h2)
      rel := fun i f hf => by
        rw [List.getElem?_map] at hf
        obtain ⟨f0, hf0, rfl⟩ := Option.map_eq_some_iff.1 hf
        obtain ⟨c0, hc0, hr0⟩ := h.rel i f0 hf0
        have hfm := List.mem_of_getElem? hf0
        refine ⟨c0, hc0, ?_⟩
        have kill : (∀ l cs off, f0 ≠ .box l cs off) → RFV F β w' (f0.mapL (killC as ys)) c0 := fun hb0 =>
          mapL_R (fun _ hy => lk hy) (fun _ hs hs' => klen hs hs') (fun l cs off hfe => (hb0 l cs off hfe).elim) hr0
        cases f0 with
        | any => exact True.intro
        | v b xs =>
          cases b with
          | true => exact kill (fun _ _ _ e => by cases e)
          | false => exact mapL_R (f := updCs as ys) (fv := .v false xs) (fun hy hr => lf hfm hy hr) (fun hsm hs hs' => ulen hfm hsm hs hs') (fun l cs off hfe => by cases hfe) hr0
        | tup vs => exact kill (fun _ _ _ e => by cases e)
        | elt s j off => exact kill (fun _ _ _ e => by cases e)
        | box l2 cs2 off2 =>
          refine mapL_R (f := updCs as ys) (fv := .box l2 cs2 off2) (fun hy hr => lf hfm hy hr) (fun hsm hs hs' => ulen hfm hsm hs hs') (fun l cs off hfe g0 cc ty hb0 hh0 => ⟨hb0, ?_⟩) hr0
          cases hfe
          rw [hsame g0 (h.rng l2 g0 hb0).1 (fun l' e x j hj hl => ?_)]
          · exact hh0
          · have e1 : l' = l2 := h.inj _ _ _ hl hb0
            subst e1
            have := hin hj _ hfm
            simp [FV.hasB] at this }
  have hcl := cells_all hall
  rw [has] at hcl
  have hone : ∀ (x : RL) (v : Value), RRL (cellsOf vs) x v → RLf F β w' (resL as ys x) v := by
    intro x v hx
    cases x with
    | p x =>
      unfold resL
      dsimp only
      cases hA : x.isA with
      | true => exact PL.R.one (hx w' (fun _ => True))
      | false => exact hx w' _
    | nil => exact hx
    | arg j =>
      unfold resL
      dsimp only
      have hx : (cellsOf vs)[j]? = some v := hx
      split
      · rename_i l e x q hj hyj
        obtain ⟨q3, rfl, rfl, cj, hcj, hfa⟩ := hpget j l e x hj
        rw [hx] at hcj
        cases hcj
        have hfa' : FrA w' e (N1of β as (cellsOf vs)) j q v := by
          have := FrPVs_get hfr' j (.ints q) v (by rw [hys]; exact hyj) hx
          rw [Nat.zero_add] at this
          exact this
        obtain ⟨v2, hv2, hr2⟩ := hcl.get j _ hj
        rw [hx] at hv2
        cases hv2
        refine ⟨⟨rfl, hr2.1.2⟩, ?_⟩
        rcases hfa' with ⟨hcn, hq2⟩ | ⟨g3, c3, cur3, hcv, hn3, hh3, i1, i2, i3, i4⟩
        · exact .inl ⟨hcn, by rw [hq2]; rfl⟩
        · have hb3 : β l = some g3 := by
            obtain ⟨l', e', x', h1, h2⟩ := N1of_some hn3
            rw [hj] at h1
            cases h1
            exact h2
          exact .inr ⟨g3, c3, cur3, hcv, hb3, hh3, i1, i2, by simpa [PL.wd] using i3, i4⟩
      · have hjl : j < as.length := by rw [hlas]; exact (List.getElem?_eq_some_iff.1 hx).1
        obtain ⟨v2, hv2, hr2⟩ := hcl.get j _ (List.getElem?_eq_getElem hjl)
        rw [hx] at hv2
        cases hv2
        exact R_one hr2
  have hones : ∀ {xs : List RL} {us : List Value}, All2 (RRL (cellsOf vs)) xs us → All2 (RLf F β w') (xs.map (resL as ys)) us := by
    intro xs
    induction xs with
    | nil => intro us h; cases us with
      | nil => exact True.intro
      | cons u us => exact h.elim
    | cons x xs ih => intro us h; cases us with
      | nil => exact h.elim
      | cons u us => exact ⟨hone _ _ h.1, ih h.2⟩
  have hval : ∀ {q : Bool × List RL} {v : Value}, RRV (cellsOf vs) q v → RVal F β w' q.1 (q.2.map (resL as ys)) v := by
    intro q v hq
    obtain ⟨b, xs⟩ := q
    cases b with
    | true => obtain ⟨us, rfl, h⟩ := hq; exact ⟨us, rfl, hones h⟩
    | false => obtain ⟨x, hx, h⟩ := hq; have hx : xs = [x] := hx; subst hx; exact ⟨_, rfl, hone _ _ h⟩
  refine hK β v w' (hS.put o.dst ?_)
  cases r with
  | one q => exact hval hres
  | tup qs' =>
    obtain ⟨us, rfl, h⟩ := hres
    refine ⟨us, rfl, ?_⟩
    have go : ∀ {qs' : List (Bool × List RL)} {us : List Value}, All2 (RRV (cellsOf vs)) qs' us → All2 (fun (q : Bool × List Lf) c => RVal F β w' q.1 q.2 c) (qs'.map fun r => (r.1, r.2.map (resL as ys))) us := by
      intro qs'
      induction qs' with
      | nil => intro us h; cases us with
        | nil => exact True.intro
        | cons u us => exact h.elim
      | cons x xs ih => intro us h; cases us with
        | nil => exact h.elim
        | cons u us => exact ⟨hval h.1, ih h.2⟩
    exact go h
end
end Go.Vx
