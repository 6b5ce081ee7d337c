/- Vx, part 11: regions are sound. -/
import Derived.Test.YtiaobnkihhnmhaaVx9
namespace Go.Vx
open Go.RowKit

section
variable {F : Fr} {β : BM} {T T1 : List FV} {a : Act} {w : World} {o : Oper} {Γ : Tab} {ei : TypeId} {Q : Exit → Act → World → Prop} {K : Act → World → Prop}
  {Den : FuncId → List PV → Bool → Res → Prop} {ops : Array Oper}

theorem getD_get {t : Nat} {f : FV} (h : T.getD t .any = f) (hf : f ≠ .any) : T[t]? = some f := by
  by_cases ht : t < T.length
  · have h1 : T.getD t .any = T[t] := by simp [List.getD, List.getElem?_eq_getElem ht]
    rw [← h, h1, List.getElem?_eq_getElem ht]
  · have h1 : T.getD t .any = .any := by simp [List.getD, List.getElem?_eq_none (Nat.le_of_not_lt ht)]
    rw [h1] at h
    exact absurd h.symm hf

theorem wanted_sound (h : Sim F β T a w) {b : Bool} (hw : wantedA ops.toList o T = some b) : Region.wanted o (yielded ops a.tmps) = b := by
  unfold wantedA at hw
  unfold Region.wanted
  cases hg : o.guard with
  | none => rw [hg] at hw; cases hw; rfl
  | some q =>
    obtain ⟨j, want⟩ := q
    rw [hg] at hw
    dsimp only at hw ⊢
    split at hw
    · rename_i t ht
      have ht' : (ops[j]?).bind (·.dst) = some t := by simpa using ht
      have hy : yielded ops a.tmps j = (match a.tmps[t]? with | some (.bool b) => some b | _ => none) := by
        unfold yielded
        rw [ht']
        rfl
      split at hw
      · rename_i b' hb
        obtain ⟨c, hc, hr⟩ := h.rel t _ (getD_get hb (by simp))
        have hr := R_bool hr
        subst hr
        cases hw
        rw [hy, hc]
        cases b' <;> cases want <;> rfl
      · rename_i hb
        obtain ⟨c, hc, hr⟩ := h.rel t _ (getD_get hb (by simp))
        obtain ⟨cs, rfl, hall⟩ := hr
        cases hw
        cases cs with
        | cons x cs => exact hall.elim
        | nil =>
          rw [hy, hc]
          rfl
      · cases hw
    · cases hw

theorem op_sound (h : Sim F β T a w) (hT : tabB F.P ei Γ = true) (hD : ∀ g ps fl r, Den g ps fl r → DenS F.P ei g ps fl r) (hM : ∀ g ps qs r, Γ.md g ps qs r → DenM F.P ei g ps qs r) (hno : creates o.op = true → o.dst.getD 0 < 1000000 ∧ noD T (o.dst.getD 0) = true)
    (hs : St Γ ei Den ops.toList o T T1) (hK : ∀ β' c w', Sim F β' T1 (a.put o.dst c) w' → K (a.put o.dst c) w') :
    if Region.wanted o (yielded ops a.tmps) then o.wp F.P a w K Q else K (a.put o.dst undef) w := by
  unfold St evOp at hs
  split at hs
  · rename_i hw
    rw [if_pos (wanted_sound h hw)]
    split at hs
    · unfold Sk at hs
      split at hs
      · rename_i t ad x ho
        split at hs
        · exact hs.elim
        · rename_i r hr
          split at hs
          · rename_i lab cs off a' xs h1 h2
            obtain ⟨g1, g2, rfl⟩ := hs
            exact s_store_box h hT ho hr h1 h2 g1 g2 hK
          · rename_i lab e l i off z h1 h2
            obtain ⟨g1, g2, g3, rfl⟩ := hs
            exact s_store_elt h hT ho hr h1 h2 g1 g2 g3 hK
          · rename_i lab e kk l i off a' xs h1 h2
            split at hs
            · rename_i ys hys
              obtain ⟨g1, g2, g3, rfl⟩ := hs
              exact s_store_row h hT ho hr h1 h2 hys g1 g2 g3 hK
            · exact hs.elim
          · exact hs.elim
      · rename_i c ho
        split at hs
        · rename_i hcc
          split at hs
          · rename_i s x t t' hargs hts
            obtain ⟨rfl, hs⟩ := hs
            split at hs
            · exact hs.elim
            · rename_i r hr
              split at hs
              · rename_i sv xv h1 h2
                obtain ⟨y, z, g1, g2, q, g3, g4, hs⟩ := hs
                have hdst := (hno (by rw [ho]; rfl)).1
                split at hs
                · obtain ⟨g5, rfl⟩ := hs
                  exact s_append h hT ho hcc hargs hts hr h1 h2 g1 g2 g3 g4 hdst (fun _ => ⟨g5, hK⟩) (fun _ _ _ e => by cases e) (fun _ e => by cases e) (fun e => by cases e)
                · rename_i lab e y'
                  obtain ⟨g5, g6, rfl⟩ := hs
                  refine s_append h hT ho hcc hargs hts hr h1 h2 g1 g2 g3 g4 hdst (fun e => by cases e) (fun _ _ _ e => ?_) (fun _ e => by cases e) (fun e => by cases e)
                  cases e
                  exact ⟨⟨Nat.eq_of_beq_eq_true (by rw [Bool.and_eq_true] at g5; exact g5.1), by rw [Bool.and_eq_true] at g5; simpa using g5.2⟩, g6, hK⟩
                · exact hs.elim
              · exact hs.elim
          · exact hs.elim
        · rename_i g hcc
          obtain ⟨avs, g1, ps, g2, g3, qs, r, g4, g6, rfl⟩ := hs
          exact s_mut h ho hcc g1 g2 g3 (hM _ _ _ _ g4) (lenT_spec g6).1 hK
        · exact hs.elim
      · exact hs.elim
    · refine y_all h ?_ hT (fun hc => ⟨(hno hc).1, noD_has (hno hc).2⟩) hD hs
      intro f β' c w' hf hsim
      subst hf
      exact hK β' c w' hsim
  · rename_i hw
    rw [if_neg (by rw [wanted_sound h hw]; simp)]
    subst hs
    exact hK β undef w (h.put o.dst ⟨[], rfl, True.intro⟩)
  · exact hs.elim

/-- The operations that lay labels lay different ones, and none that is in use. -/
def labB (ops : List Oper) (T : List FV) : Bool := ops.all fun o => match creates o.op with
  | true => Nat.blt (o.dst.getD 0) 1000000 && noD T (o.dst.getD 0)
  | false => true
def crDst (ops : List Oper) : List Nat := (ops.filter fun o => creates o.op).map fun o => o.dst.getD 0
def nodupB : List Nat → Bool
  | [] => true
  | x :: xs => xs.all (fun y => !Nat.beq x y) && nodupB xs

theorem nodupB_cons {x : Nat} {xs : List Nat} (h : nodupB (x :: xs) = true) : (∀ y ∈ xs, x ≠ y) ∧ nodupB xs = true := by
  unfold nodupB at h
  rw [Bool.and_eq_true, List.all_eq_true] at h
  refine ⟨fun y hy e => ?_, h.2⟩
  subst e
  have := h.1 x hy
  simp at this

theorem lab_step (hz : ∀ d t r, Γ.get t = some r → r.zero.any (Lf.hasD d) = false) {rest : List Oper} {opsL : List Oper} (hl : labB (o :: rest) T = true) (hn : nodupB (crDst (o :: rest)) = true)
    (hs : St Γ ei Den opsL o T T1) : labB rest T1 = true ∧ nodupB (crDst rest) = true := by
  unfold labB at hl ⊢
  rw [List.all_cons, Bool.and_eq_true] at hl
  have hn2 : nodupB (crDst rest) = true ∧ ∀ o2 ∈ rest, creates o.op = true → creates o2.op = true → o.dst.getD 0 ≠ o2.dst.getD 0 := by
    unfold crDst at hn ⊢
    cases hc : creates o.op with
    | false =>
      rw [List.filter_cons_of_neg (by simp [hc])] at hn
      exact ⟨hn, fun _ _ h => by cases h⟩
    | true =>
      rw [List.filter_cons_of_pos (by simp [hc]), List.map_cons] at hn
      obtain ⟨h1, h2⟩ := nodupB_cons hn
      exact ⟨h2, fun o2 ho2 _ hc2 => h1 _ (List.mem_map.2 ⟨o2, List.mem_filter.2 ⟨ho2, hc2⟩, rfl⟩)⟩
  refine ⟨?_, hn2.1⟩
  rw [List.all_eq_true] at hl ⊢
  intro o2 ho2
  have h2 := hl.2 o2 ho2
  split
  · rename_i hc2
    rw [hc2] at h2
    dsimp only at h2
    rw [Bool.and_eq_true] at h2 ⊢
    exact ⟨h2.1, St_D (hz _) hs (by simpa using h2.1) h2.2 (fun hc => hn2.2 o2 ho2 hc hc2)⟩
  · rfl

/-- **A region in the text's order.** -/
theorem list_sound (hT : tabB F.P ei Γ = true) (hD : ∀ g ps fl r, Den g ps fl r → DenS F.P ei g ps fl r) (hM : ∀ g ps qs r, Γ.md g ps qs r → DenM F.P ei g ps qs r) {K' : List FV → Prop} :
    ∀ (rest : List Oper) {β : BM} {T : List FV} {a : Act} {w : World}, Sim F β T a w → labB rest T = true → nodupB (crDst rest) = true → evOps Γ ei Den ops.toList rest T K' →
      (∀ T' β' a' w', K' T' → Sim F β' T' a' w' → Q .normal a' w') → wpList F.P ops Q rest a w
  | [], _, _, _, _, h, _, _, he, hQ => hQ _ _ _ _ he h
  | o :: rest, β, T, a, w, h, hl, hn, he, hQ => by
    obtain ⟨T1, hs, he⟩ := evOp_ex he
    have hl2 := lab_step (fun d t r hr => tab_zero_D hT hr) hl hn hs
    have := op_sound (K := wpList F.P ops Q rest) (Q := Q) h hT hD hM (fun hc => by
      unfold labB at hl
      rw [List.all_cons, Bool.and_eq_true] at hl
      have := hl.1
      rw [hc] at this
      dsimp only at this
      rw [Bool.and_eq_true] at this
      exact ⟨by simpa using this.1, this.2⟩) hs (fun β' c w' hsim => list_sound hT hD hM rest hsim hl2.1 hl2.2 he hQ)
    unfold wpList
    split
    · rename_i hw
      rw [if_pos hw] at this
      exact .inl this
    · rename_i hw
      rw [if_neg hw] at this
      exact this

/-! ### any order -/
/-- The text-order states. -/
def Chain (Γ : Tab) (ei : TypeId) (Den : FuncId → List PV → Bool → Res → Prop) (ops : Array Oper) : List Nat → List FV → List FV → Prop
  | [], T, Tn => T = Tn
  | i :: L, T, Tn => ∃ o T1, ops[i]? = some o ∧ St Γ ei Den ops.toList o T T1 ∧ Chain Γ ei Den ops L T1 Tn

def edgeB (o : Oper) (j : Nat) : Bool := o.after.toList.any fun e => Region.binds .any e && Nat.beq e.on j
/-- Two operations without an edge between them have nothing to do with each other; edges lead back. -/
def pairB (Γ : Tab) (ops : Array Oper) (oi : Oper) (j : Nat) : Bool := edgeB oi j || match ops.toList[j]? with
  | some oj => ((!serial Γ oi.op && !serial Γ oj.op) || (isExt oj.op && isSto oi.op)) && oj.apart ops oi
  | none => true
def regB (Γ : Tab) (ops : Array Oper) : Bool := (List.range ops.toList.length).all fun i => match ops.toList[i]? with
  | some oi => (oi.after.toList.all fun e => !Region.binds .any e || Nat.blt e.on i) && (List.range i).all (pairB Γ ops oi)
  | none => true

theorem regB_spec (h : regB Γ ops = true) {i : Nat} {oi : Oper} (hi : ops[i]? = some oi) :
    (∀ e ∈ oi.after, Region.binds .any e = true → e.on < i) ∧ ∀ j oj, j < i → ops[j]? = some oj → (∀ e ∈ oi.after, Region.binds .any e = true → e.on ≠ j) → ((serial Γ oi.op = false ∧ serial Γ oj.op = false) ∨ (isExt oj.op = true ∧ isSto oi.op = true)) ∧ oj.apart ops oi = true := by
  unfold regB at h
  rw [List.all_eq_true] at h
  have hlt : i < ops.toList.length := by simpa using (Array.getElem?_eq_some_iff.1 hi).1
  have h1 := h i (List.mem_range.2 hlt)
  have hi' : ops.toList[i]? = some oi := by simpa using hi
  rw [hi'] at h1
  dsimp only at h1
  rw [Bool.and_eq_true, List.all_eq_true, List.all_eq_true] at h1
  refine ⟨fun e he hb => ?_, fun j oj hj hoj hno => ?_⟩
  · have := h1.1 e (by simpa using he)
    rw [hb] at this
    simpa using this
  · have := h1.2 j (List.mem_range.2 hj)
    unfold pairB at this
    rw [Bool.or_eq_true] at this
    rcases this with h2 | h2
    · unfold edgeB at h2
      rw [List.any_eq_true] at h2
      obtain ⟨e, he, h2⟩ := h2
      rw [Bool.and_eq_true] at h2
      exact absurd (Nat.eq_of_beq_eq_true h2.2) (hno e (by simpa using he) h2.1)
    · have hj' : ops.toList[j]? = some oj := by simpa using hoj
      rw [hj'] at h2
      rw [Bool.and_eq_true, Bool.or_eq_true, Bool.and_eq_true, Bool.and_eq_true] at h2
      refine ⟨?_, h2.2⟩
      rcases h2.1 with h3 | h3
      · exact .inl ⟨by simpa using h3.1, by simpa using h3.2⟩
      · exact .inr h3

/-- An operation that waits for none of those ahead of it may come first. -/
theorem chain_front {i : Nat} {oi : Oper} (hi : ops[i]? = some oi) : ∀ {L : List Nat} {T Tn : List FV}, i ∈ L → L.Nodup →
    (∀ j ∈ L, ∀ oj, ops[j]? = some oj → (∃ pre post, L = pre ++ i :: post ∧ j ∈ pre) → ((serial Γ oi.op = false ∧ serial Γ oj.op = false) ∨ (isExt oj.op = true ∧ isSto oi.op = true)) ∧ oj.apart ops oi = true) →
    Chain Γ ei Den ops L T Tn → ∃ T1, St Γ ei Den ops.toList oi T T1 ∧ Chain Γ ei Den ops (L.erase i) T1 Tn
  | [], _, _, hm, _, _, _ => by cases hm
  | k :: L, T, Tn, hm, hnd, hap, hc => by
    obtain ⟨ok, T1, hk, hs, hc⟩ := hc
    by_cases e : k = i
    · subst e
      rw [hi] at hk
      cases hk
      exact ⟨T1, hs, by rw [List.erase_cons_head]; exact hc⟩
    · have hm' : i ∈ L := by
        rcases List.mem_cons.1 hm with h | h
        · exact absurd h.symm e
        · exact h
      obtain ⟨T2, hs2, hc2⟩ := chain_front hi hm' (List.nodup_cons.1 hnd).2 (fun j hj oj hoj ⟨pre, post, hL, hpre⟩ => hap j (List.mem_cons_of_mem _ hj) oj hoj ⟨k :: pre, post, by rw [hL]; rfl, List.mem_cons_of_mem _ hpre⟩) hc
      obtain ⟨pre, post, hL⟩ := List.append_of_mem hm'
      obtain ⟨h1, h3⟩ := hap k List.mem_cons_self ok hk ⟨k :: pre, post, by rw [hL]; rfl, List.mem_cons_self⟩
      obtain ⟨T1', g1, g2⟩ : ∃ T1', St Γ ei Den ops.toList oi T T1' ∧ St Γ ei Den ops.toList ok T1' T2 := by
        rcases h1 with ⟨h1, h2⟩ | ⟨h1, h2⟩
        · exact St_swap h2 h1 (by simpa using h3) hs hs2
        · exact St_swap2 h1 h2 (by simpa using h3) hs hs2
      exact ⟨T1', g1, by rw [List.erase_cons_tail (by simpa using e)]; exact ⟨ok, T2, hk, g2, hc2⟩⟩

theorem wpOp_of {i : Nat} {o : Oper} (hi : ops[i]? = some o) (h : if Region.wanted o (yielded ops a.tmps) then o.wp F.P a w K Q else K (a.put o.dst undef) w) : wpOp F.P ops Q i K a w := by
  unfold wpOp
  rw [hi]
  dsimp only
  split
  · rename_i hw
    rw [if_pos hw] at h
    exact .inl h
  · rename_i hw
    rw [if_neg hw] at h
    exact h

/-- What is laid by those that are still to come. -/
def labL (ops : Array Oper) (L : List Nat) (T : List FV) : Prop := ∀ i ∈ L, ∀ o, ops[i]? = some o → creates o.op = true → o.dst.getD 0 < 1000000 ∧ noD T (o.dst.getD 0) = true
theorem crDst_ne : ∀ {xs : List Oper}, nodupB (crDst xs) = true → ∀ (i j : Nat) (o o2 : Oper), i ≠ j → xs[i]? = some o → xs[j]? = some o2 → creates o.op = true → creates o2.op = true → o.dst.getD 0 ≠ o2.dst.getD 0
  | [], _, i, _, _, _, _, h, _, _, _ => by simp at h
  | x :: xs, hn, i, j, o, o2, hij, hi, hj, hc, hc2 => by
    have hn2 : nodupB (crDst xs) = true ∧ ∀ o2 ∈ xs, creates x.op = true → creates o2.op = true → x.dst.getD 0 ≠ o2.dst.getD 0 := by
      unfold crDst at hn ⊢
      cases hcx : creates x.op with
      | false =>
        rw [List.filter_cons_of_neg (by simp [hcx])] at hn
        exact ⟨hn, fun _ _ h => by cases h⟩
      | true =>
        rw [List.filter_cons_of_pos (by simp [hcx]), List.map_cons] at hn
        obtain ⟨h1, h2⟩ := nodupB_cons hn
        exact ⟨h2, fun o2 ho2 _ hc2 => h1 _ (List.mem_map.2 ⟨o2, List.mem_filter.2 ⟨ho2, hc2⟩, rfl⟩)⟩
    cases i with
    | zero =>
      cases j with
      | zero => exact absurd rfl hij
      | succ j =>
        simp at hi hj
        subst hi
        exact hn2.2 o2 (List.mem_of_getElem? hj) hc hc2
    | succ i =>
      cases j with
      | zero =>
        simp at hi hj
        subst hj
        exact (hn2.2 o (List.mem_of_getElem? hi) hc2 hc).symm
      | succ j => exact crDst_ne hn2.1 i j o o2 (by omega) (by simpa using hi) (by simpa using hj) hc hc2

theorem getD_set {l : Array Bool} {i j : Nat} (b : Bool) : (l.setIfInBounds i true).getD j b = if i = j ∧ j < l.size then true else l.getD j b := by
  rw [Array.getD_eq_getD_getElem?, Array.getD_eq_getD_getElem?, Array.getElem?_setIfInBounds]
  by_cases h : i = j
  · subst h
    by_cases h2 : i < l.size
    · simp [h2]
    · simp [h2]
  · simp [h]

/-- **A region in any order.** -/
theorem any_sound (hT : tabB F.P ei Γ = true) (hD : ∀ g ps fl r, Den g ps fl r → DenS F.P ei g ps fl r) (hM : ∀ g ps qs r, Γ.md g ps qs r → DenM F.P ei g ps qs r) (hreg : regB Γ ops = true) (hcr : nodupB (crDst ops.toList) = true) {Tn : List FV}
    (hQ : ∀ β' a' w', Sim F β' Tn a' w' → Q .normal a' w') :
    ∀ (fuel : Nat) {L : List Nat} {listed : Array Bool} {β : BM} {T : List FV} {a : Act} {w : World}, listed.size = ops.size → (∀ i, i ∈ L ↔ i < ops.size ∧ listed.getD i true = false) → L.Pairwise (· < ·) → L.length ≤ fuel →
      Sim F β T a w → labL ops L T → Chain Γ ei Den ops L T Tn → wpAny F.P .any ops Q fuel listed a w := by
  intro fuel
  induction fuel with
  | zero =>
    intro L listed β T a w hsz hL hsort hlen h hlab hc
    have : L = [] := List.eq_nil_of_length_eq_zero (by omega)
    subst this
    cases hc
    refine ⟨?_, hQ _ _ _ h⟩
    apply List.eq_nil_iff_forall_not_mem.2
    intro i hi
    obtain ⟨h0, o, ho, _⟩ := mem_ready.1 hi
    have := (hL i).2 ⟨(Array.getElem?_eq_some_iff.1 ho).1, h0⟩
    cases this
  | succ fuel ih =>
    intro L listed β T a w hsz hL hsort hlen h hlab hc
    refine ⟨fun hr => ?_, fun i hi => ?_⟩
    · cases L with
      | nil => cases hc; exact hQ _ _ _ h
      | cons i L =>
        exfalso
        obtain ⟨hlt, hun⟩ := (hL i).1 List.mem_cons_self
        have : i ∈ Region.ready .any ops listed := by
          refine mem_ready.2 ⟨hun, ops[i], Array.getElem?_eq_getElem hlt, fun e he hb => ?_⟩
          have hback := (regB_spec hreg (Array.getElem?_eq_getElem hlt)).1 e he hb
          cases hl : listed.getD e.on false with
          | true => rfl
          | false =>
            have h3 : listed.getD e.on true = false := by
              have : e.on < listed.size := by omega
              simp [Array.getD, this] at hl ⊢
              exact hl
            have h4 := (hL e.on).2 ⟨by omega, h3⟩
            rcases List.mem_cons.1 h4 with h5 | h5
            · omega
            · have := (List.pairwise_cons.1 hsort).1 _ h5
              omega
        rw [hr] at this
        cases this
    · obtain ⟨h0, o, ho, hall⟩ := mem_ready.1 hi
      have hlt := (Array.getElem?_eq_some_iff.1 ho).1
      have hm : i ∈ L := (hL i).2 ⟨hlt, h0⟩
      have hnd : L.Nodup := hsort.imp (fun h => Nat.ne_of_lt h)
      obtain ⟨T1, hs, hc1⟩ := chain_front ho hm hnd (fun j hj oj hoj ⟨pre, post, hLe, hpre⟩ => by
        have hji : j < i := by
          rw [hLe, List.pairwise_append] at hsort
          exact hsort.2.2 j hpre i List.mem_cons_self
        refine (regB_spec hreg ho).2 j oj hji hoj (fun e he hb heq => ?_)
        have h1 := hall e he hb
        rw [heq] at h1
        obtain ⟨hjl, hju⟩ := (hL j).1 hj
        have : j < listed.size := by omega
        simp [Array.getD, this] at h1 hju
        rw [h1] at hju
        cases hju) hc
      refine wpOp_of ho (op_sound h hT hD hM (fun hcr' => hlab i hm o ho hcr') hs (fun β' c w' hsim => ?_))
      refine ih (L := L.erase i) (by simpa using hsz) (fun j => ?_) (hsort.sublist List.erase_sublist) (by rw [List.length_erase_of_mem hm]; omega) hsim (fun j hj oj hoj hcj => ?_) hc1
      · rw [hnd.mem_erase_iff, getD_set, hL j]
        constructor
        · rintro ⟨hne, hj, hu⟩
          exact ⟨hj, by rw [if_neg (fun e => hne e.1.symm)]; exact hu⟩
        · rintro ⟨hj, hu⟩
          split at hu
          · cases hu
          · rename_i hne
            exact ⟨fun e => hne ⟨e.symm, by omega⟩, hj, hu⟩
      · rw [hnd.mem_erase_iff] at hj
        refine ⟨(hlab j hj.2 oj hoj hcj).1, St_D (fun t r hr => tab_zero_D hT hr) hs (hlab j hj.2 oj hoj hcj).1 (hlab j hj.2 oj hoj hcj).2 (fun hci => ?_)⟩
        exact crDst_ne hcr i j o oj (fun e => hj.1 e.symm) (by simpa using ho) (by simpa using hoj) hci hcj

theorem chain_of {K' : List FV → Prop} : ∀ (rest : List Oper) (k : Nat) {T : List FV}, (∀ j, rest[j]? = ops[k + j]?) → evOps Γ ei Den ops.toList rest T K' → ∃ Tn, Chain Γ ei Den ops (List.range' k rest.length) T Tn ∧ K' Tn
  | [], _, T, _, he => ⟨T, rfl, he⟩
  | o :: rest, k, T, hk, he => by
    obtain ⟨T1, hs, he⟩ := evOp_ex he
    obtain ⟨Tn, hc, hK⟩ := chain_of rest (k + 1) (fun j => by have := hk (j + 1); simpa [Nat.add_assoc, Nat.add_comm 1 j] using this) he
    refine ⟨Tn, ?_, hK⟩
    rw [List.length_cons, List.range'_succ]
    exact ⟨o, T1, by simpa using (hk 0).symm, hs, hc⟩

/-- A region as the model runs it. -/
def evReg (Γ : Tab) (ei : TypeId) (Den : FuncId → List PV → Bool → Res → Prop) (ops : Array Oper) (draw : Bool) (T : List FV) (K : List FV → Prop) : Prop :=
  ((match draw with | true => regB Γ ops | false => true) && (nodupB (crDst ops.toList) && labB ops.toList T)) = true ∧ evOps Γ ei Den ops.toList ops.toList T K

theorem reg_sound (hm : F.P.follows .mixedOrders = true) (hT : tabB F.P ei Γ = true) (hD : ∀ g ps fl r, Den g ps fl r → DenS F.P ei g ps fl r) (hM : ∀ g ps qs r, Γ.md g ps qs r → DenM F.P ei g ps qs r) {id : Nat} {draw : Bool} {K' : List FV → Prop} (h : Sim F β T a w)
    (he : evReg Γ ei Den ops draw T K') (hQ : ∀ T' β' a' w', K' T' → Sim F β' T' a' w' → Q .normal a' w') : (Code.region id ops draw).wp F.P Q a w := by
  obtain ⟨hb, he⟩ := he
  rw [Bool.and_eq_true, Bool.and_eq_true] at hb
  cases draw with
  | false => exact wp_region_list (list_sound hT hD hM _ h hb.2.2 hb.2.1 he hQ)
  | true =>
    obtain ⟨Tn, hc, hK⟩ := chain_of (ops := ops) ops.toList 0 (fun j => by simp) he
    refine wp_region_any hm (any_sound hT hD hM hb.1 hb.2.1 (fun β' a' w' hs => hQ Tn β' a' w' hK hs) ops.size (L := List.range' 0 ops.toList.length) (by simp) (fun i => ?_) (List.pairwise_lt_range') (by simp) (h.grow (Grew.drew w)) (fun i hi o ho hcr => ?_) hc)
    · rw [List.mem_range'_1]
      constructor
      · rintro ⟨_, h2⟩
        have h2 : i < ops.size := by simpa using h2
        exact ⟨h2, by simp [Array.getD, h2]⟩
      · rintro ⟨h1, _⟩
        exact ⟨Nat.zero_le _, by simpa using h1⟩
    · have := hb.2.2
      unfold labB at this
      rw [List.all_eq_true] at this
      have := this o (by simpa using Array.mem_of_getElem? ho)
      rw [hcr] at this
      dsimp only at this
      rw [Bool.and_eq_true] at this
      exact ⟨by simpa using this.1, this.2⟩
end

end Go.Vx
