/- Vx, part 10: regions, in the text's order and in any order. -/
import Derived.Test.YtiaobnkihhnmhaaVxM
namespace Go.Vx
open Go.RowKit

def serial (Γ : Tab) : Op → Bool
  | .store .. => true
  | .call c => match c.callee with
    | .builtin .append => true
    | .value (.func g) => isMut Γ.muts g
    | _ => false
  | _ => false

def wantedA (ops : List Oper) (o : Oper) (T : List FV) : Option Bool :=
  match o.guard with
  | none => some true
  | some (j, want) => match (ops[j]?).bind (·.dst) with
    | some t => match T.getD t .any with
      | .v false [.p (.bool b)] => some (b == want)
      | .tup [] => some false
      | _ => none
    | none => none

def evOp (Γ : Tab) (ei : TypeId) (Den : FuncId → List PV → Bool → Res → Prop) (ops : List Oper) (o : Oper) (T : List FV) (K : List FV → Prop) : Prop :=
  match wantedA ops o T with
  | some true => match serial Γ o.op with
    | true => Sk Γ ei o T K
    | false => Yk Γ ei Den o (opd T) (fun f => K (put T o.dst f))
  | some false => K (put T o.dst (.tup []))
  | none => False

def evOps (Γ : Tab) (ei : TypeId) (Den : FuncId → List PV → Bool → Res → Prop) (ops : List Oper) : List Oper → List FV → (List FV → Prop) → Prop
  | [], T, K => K T
  | o :: rest, T, K => evOp Γ ei Den ops o T (fun T' => evOps Γ ei Den ops rest T' K)

theorem Sk_ex {Γ : Tab} {ei : TypeId} {o : Oper} {T : List FV} {K : List FV → Prop} (h : Sk Γ ei o T K) : ∃ T', Sk Γ ei o T (· = T') ∧ K T' := by
  unfold Sk at h ⊢
  split at h
  · split at h
    · exact h.elim
    · split at h
      · exact ⟨_, ⟨h.1, h.2.1, rfl⟩, h.2.2⟩
      · exact ⟨_, ⟨h.1, h.2.1, h.2.2.1, rfl⟩, h.2.2.2⟩
      · split at h
        · exact ⟨_, ⟨h.1, h.2.1, h.2.2.1, rfl⟩, h.2.2.2⟩
        · exact h.elim
      · exact h.elim
  · repeat' (first | exact h.elim | exact ⟨_, rfl, h⟩ | refine ex_ex (fun _ h => ?_) h | refine ex_and (fun h => ?_) h | split at h)
  · exact h.elim

section
variable {Γ : Tab} {ei : TypeId} {Den : FuncId → List PV → Bool → Res → Prop} {ops : List Oper} {o : Oper} {T T' : List FV}

/-- One operation turns T into T'. -/
def St (Γ : Tab) (ei : TypeId) (Den : FuncId → List PV → Bool → Res → Prop) (ops : List Oper) (o : Oper) (T T' : List FV) : Prop := evOp Γ ei Den ops o T (· = T')
/-- What a quiet operation leaves in its temporary. -/
def Val (Γ : Tab) (ei : TypeId) (Den : FuncId → List PV → Bool → Res → Prop) (ops : List Oper) (o : Oper) (T : List FV) (f : FV) : Prop :=
  (wantedA ops o T = some true ∧ Yk Γ ei Den o (opd T) (· = f)) ∨ (wantedA ops o T = some false ∧ f = .tup [])

theorem evOp_ex {K : List FV → Prop} (h : evOp Γ ei Den ops o T K) : ∃ T', St Γ ei Den ops o T T' ∧ K T' := by
  unfold evOp at h
  unfold St evOp
  split at h
  · rename_i hw
    split at h
    · rename_i hs
      obtain ⟨T', h1, h2⟩ := Sk_ex h
      exact ⟨T', h1, h2⟩
    · rename_i hs
      obtain ⟨f, h1, h2⟩ := Yk_ex h
      exact ⟨_, Yk_of (fun g hg => by rw [hg]) h1, h2⟩
  · exact ⟨_, rfl, h⟩
  · exact h.elim

theorem St_val (hs : serial Γ o.op = false) (h : St Γ ei Den ops o T T') : ∃ f, T' = put T o.dst f ∧ Val Γ ei Den ops o T f := by
  unfold St evOp at h
  split at h
  · rename_i hw
    rw [hs] at h
    obtain ⟨f, h1, h2⟩ := Yk_ex h
    exact ⟨f, h2.symm, .inl ⟨hw, h1⟩⟩
  · rename_i hw
    exact ⟨_, h.symm, .inr ⟨hw, rfl⟩⟩
  · exact h.elim
theorem val_St (hs : serial Γ o.op = false) {f : FV} (h : Val Γ ei Den ops o T f) : St Γ ei Den ops o T (put T o.dst f) := by
  unfold St evOp
  rcases h with ⟨hw, h⟩ | ⟨hw, rfl⟩
  · rw [hw, hs]
    exact Yk_of (fun g hg => by rw [hg]) h
  · rw [hw]

theorem wanted_congr (h : ∀ t ∈ o.looksAt ops.toArray, T.getD t .any = T'.getD t .any) : wantedA ops o T = wantedA ops o T' := by
  unfold wantedA
  cases hg : o.guard with
  | none => rfl
  | some q =>
    obtain ⟨j, want⟩ := q
    dsimp only
    cases ht : (ops[j]?).bind (·.dst) with
    | none => rfl
    | some t =>
      dsimp only
      rw [h t (by simp [Oper.looksAt, hg, ht])]
theorem opd_congr (h : ∀ t ∈ o.looksAt ops.toArray, T.getD t .any = T'.getD t .any) : ∀ x ∈ o.op.operands, opd T x = opd T' x := by
  intro x hx
  cases x with
  | tmp t => exact h t (by simp only [Oper.looksAt, List.mem_append, List.mem_filterMap]; exact .inl ⟨.tmp t, by simpa using hx, rfl⟩)
  | const v => rfl
  | global g => rfl
  | func f => rfl
theorem Val_congr (h : ∀ t ∈ o.looksAt ops.toArray, T.getD t .any = T'.getD t .any) {f : FV} (hv : Val Γ ei Den ops o T f) : Val Γ ei Den ops o T' f := by
  rcases hv with ⟨hw, hv⟩ | ⟨hw, hv⟩
  · exact .inl ⟨(wanted_congr h) ▸ hw, Yk_congr (opd_congr h) hv⟩
  · exact .inr ⟨(wanted_congr h) ▸ hw, hv⟩

theorem put_getD {d : Option Tmp} {f : FV} {t : Tmp} (h : d ≠ some t) : (put T d f).getD t .any = T.getD t .any := by
  cases d with
  | none => rfl
  | some d =>
    have : d ≠ t := fun e => h (by rw [e])
    simp [put, List.getD, this]
theorem put_comm {d d' : Option Tmp} {f f' : FV} (h : ∀ t, d = some t → d' ≠ some t) : put (put T d f) d' f' = put (put T d' f') d f := by
  cases d with
  | none => rfl
  | some d =>
    cases d' with
    | none => rfl
    | some d' =>
      have : d ≠ d' := fun e => h d rfl (by rw [e])
      exact (List.set_comm _ _ this.symm).symm

/-- Two operations that have nothing to do with each other may change places. -/
theorem St_swap {o1 o2 : Oper} {T1 T2 : List FV} (hs1 : serial Γ o1.op = false) (hs2 : serial Γ o2.op = false) (hap : o1.apart ops.toArray o2 = true)
    (h1 : St Γ ei Den ops o1 T T1) (h2 : St Γ ei Den ops o2 T1 T2) : ∃ T1', St Γ ei Den ops o2 T T1' ∧ St Γ ei Den ops o1 T1' T2 := by
  obtain ⟨ha, hb, hc⟩ := Oper.apart_spec hap
  obtain ⟨f1, rfl, hv1⟩ := St_val hs1 h1
  obtain ⟨f2, rfl, hv2⟩ := St_val hs2 h2
  have hv2' : Val Γ ei Den ops o2 T f2 := Val_congr (fun t ht => put_getD (fun e => ha t e ht)) hv2
  have hv1' : Val Γ ei Den ops o1 (put T o2.dst f2) f1 := Val_congr (fun t ht => (put_getD (fun e => hc t e ht)).symm) hv1
  refine ⟨_, val_St hs2 hv2', ?_⟩
  have := val_St hs1 hv1'
  rwa [put_comm (fun t ht => hb t ht)]

def isExt : Op → Bool
  | .extract .. => true
  | _ => false
def isSto : Op → Bool
  | .store .. => true
  | _ => false
/-- What a store does to the frame's values. -/
structure Nice (g : FV → FV) (G : Lf → Lf) : Prop where
  any : g .any = .any
  v : ∀ a xs, g (.v a xs) = .v a (xs.map G)
  tup : ∀ vs, g (.tup vs) = .tup (vs.map fun q => (q.1, q.2.map G))
  p : ∀ x, G (.p x) = .p x
theorem getD_map {g : FV → FV} (hg : g .any = .any) (t : Nat) : (T.map g).getD t .any = g (T.getD t .any) := by
  simp only [List.getD, List.getElem?_map]
  cases T[t]? with
  | none => simp [hg]
  | some f => simp
theorem put_map {g : FV → FV} (d : Option Tmp) (f : FV) : (put T d f).map g = put (T.map g) d (g f) := by
  cases d with
  | none => rfl
  | some d => simp [put, List.map_set]
theorem wanted_nice {g : FV → FV} {G : Lf → Lf} (hn : Nice g G) {b : Bool} (h : wantedA ops o T = some b) : wantedA ops o (T.map g) = some b := by
  unfold wantedA at h ⊢
  split at h
  · exact h
  · rename_i j want hgd
    split at h
    · rename_i t ht
      try simp only [ht]
      rw [getD_map hn.any]
      split at h
      · rename_i c hc
        rw [hc, hn.v]
        simp only [List.map_cons, List.map_nil, hn.p]
        exact h
      · rename_i hc
        rw [hc, hn.tup]
        exact h
      · cases h
    · cases h
/-- A store, as a change of all values. -/
theorem Sk_sto (hs : isSto o.op = true) (h : Sk Γ ei o T (· = T')) : ∃ g G, Nice g G ∧ T' = put (T.map g) o.dst (.tup []) ∧
    ∀ T2 : List FV, (∀ x ∈ o.op.operands, opd T x = opd T2 x) → Sk Γ ei o T2 (· = put (T2.map g) o.dst (.tup [])) := by
  unfold Sk at h
  split at h
  · rename_i t ad x ho
    have hop : ∀ {T2 : List FV}, (∀ y ∈ o.op.operands, opd T y = opd T2 y) → opd T ad = opd T2 ad ∧ opd T x = opd T2 x := fun hc => ⟨hc ad (by rw [ho]; simp [Op.operands]), hc x (by rw [ho]; simp [Op.operands])⟩
    split at h
    · exact h.elim
    · rename_i r hr
      split at h
      · rename_i lab cs off a' xs h1 h2
        obtain ⟨g1, g2, h3⟩ := h
        refine ⟨FV.stoBox lab (over cs off xs), killL lab, ⟨rfl, fun _ _ => rfl, fun _ => rfl, fun _ => rfl⟩, h3.symm, fun T2 hc => ?_⟩
        obtain ⟨e1, e2⟩ := hop hc
        unfold Sk
        simp only [ho, hr, ← e1, ← e2, h1, h2]
        exact ⟨g1, g2, trivial⟩
      · rename_i lab e l i off z h1 h2
        obtain ⟨g1, g2, g3, h3⟩ := h
        refine ⟨FV.updI lab i z, Vx.updI lab i z, ⟨rfl, fun _ _ => rfl, fun _ => rfl, fun _ => rfl⟩, h3.symm, fun T2 hc => ?_⟩
        obtain ⟨e1, e2⟩ := hop hc
        unfold Sk
        simp only [ho, hr, ← e1, ← e2, h1, h2]
        exact ⟨g1, g2, g3, trivial⟩
      · rename_i lab e k l i off a' xs h1 h2
        split at h
        · rename_i ys hys
          obtain ⟨g1, g2, g3, h3⟩ := h
          refine ⟨FV.mapLB lab (updR lab k i ys), updR lab k i ys, ⟨rfl, fun _ _ => rfl, fun _ => rfl, fun _ => rfl⟩, h3.symm, fun T2 hc => ?_⟩
          obtain ⟨e1, e2⟩ := hop hc
          unfold Sk
          simp only [ho, hr, ← e1, ← e2, h1, h2, hys]
          exact ⟨g1, g2, g3, trivial⟩
        · exact h.elim
      · exact h.elim
  · rename_i hc
    rw [hc] at hs
    cases hs
  · exact h.elim
/-- A part of a tuple is taken, and something is stored: in any order. -/
theorem St_swap2 {o1 o2 : Oper} {T1 T2 : List FV} (hs1 : isExt o1.op = true) (hs2 : isSto o2.op = true) (hap : o1.apart ops.toArray o2 = true)
    (h1 : St Γ ei Den ops o1 T T1) (h2 : St Γ ei Den ops o2 T1 T2) : ∃ T1', St Γ ei Den ops o2 T T1' ∧ St Γ ei Den ops o1 T1' T2 := by
  obtain ⟨ha, hb, hc⟩ := Oper.apart_spec hap
  have q1 : serial Γ o1.op = false := by cases ho : o1.op <;> rw [ho] at hs1 <;> first | rfl | cases hs1
  have q2 : serial Γ o2.op = true := by cases ho : o2.op <;> rw [ho] at hs2 <;> first | rfl | cases hs2
  obtain ⟨f1, rfl, hv1⟩ := St_val q1 h1
  have hcg : ∀ t ∈ o2.looksAt ops.toArray, (put T o1.dst f1).getD t .any = T.getD t .any := fun t ht => put_getD (fun e => ha t e ht)
  unfold St evOp at h2
  split at h2
  · rename_i hw
    rw [q2] at h2
    obtain ⟨g, G, hn, hT2, hall⟩ := Sk_sto hs2 h2
    have hsk := hall T (opd_congr hcg)
    refine ⟨put (T.map g) o2.dst (.tup []), ?_, ?_⟩
    · unfold St evOp
      rw [← wanted_congr hcg, hw, q2]
      exact hsk
    · have hv : Val Γ ei Den ops o1 (put (T.map g) o2.dst (.tup [])) (g f1) := by
        have hcg2 : ∀ t ∈ o1.looksAt ops.toArray, (T.map g).getD t .any = (put (T.map g) o2.dst (.tup [])).getD t .any := fun t ht => (put_getD (fun e => hc t e ht)).symm
        refine Val_congr hcg2 ?_
        rcases hv1 with ⟨hw1, hy⟩ | ⟨hw1, rfl⟩
        · refine .inl ⟨wanted_nice hn hw1, ?_⟩
          unfold Yk at hy ⊢
          split at hy <;> rename_i ho <;> first | (rw [ho] at hs1; cases hs1; done) | skip
          · rename_i x j
            simp only [ho]
            split at hy
            · rename_i vs hx
              obtain ⟨q, hq, hf⟩ := hy
              subst hf
              have hx2 : opd (T.map g) x = .tup (vs.map fun q => (q.1, q.2.map G)) := by
                cases x with
                | tmp t =>
                  show (T.map g).getD t .any = _
                  rw [getD_map hn.any]
                  have : T.getD t .any = .tup vs := hx
                  rw [this, hn.tup]
                | const v => exfalso; have hx : constFV v = .tup vs := hx; unfold constFV at hx; split at hx <;> cases hx
                | global g => cases hx
                | func f => cases hx
              rw [hx2]
              exact ⟨(q.1, q.2.map G), by simp [hq], (hn.v _ _).symm⟩
            · exact hy.elim
          · exact hy.elim
        · exact .inr ⟨wanted_nice hn hw1, hn.tup []⟩
      have h3 := val_St q1 hv
      rw [hT2, put_map, put_comm (fun t ht => hb t ht)]
      exact h3
  · rename_i hw
    refine ⟨put T o2.dst (.tup []), ?_, ?_⟩
    · unfold St evOp
      rw [← wanted_congr hcg, hw]
    · have hv : Val Γ ei Den ops o1 (put T o2.dst (.tup [])) f1 := Val_congr (fun t ht => (put_getD (fun e => hc t e ht)).symm) hv1
      have h3 := val_St q1 hv
      rw [← h2, put_comm (fun t ht => hb t ht)]
      exact h3
  · exact h2.elim

/-! ### labels, along a region -/
theorem constFV_hasD {v : Value} {d : Nat} : (constFV v).hasD d = false := by
  unfold constFV; split <;> rfl
theorem opd_D {d : Nat} (h : noD T d = true) (x : Operand) : (opd T x).hasD d = false := by
  cases x with
  | tmp t =>
    show (T.getD t .any).hasD d = false
    by_cases ht : t < T.length
    · have h1 : T.getD t .any = T[t] := by simp [List.getD, List.getElem?_eq_getElem ht]
      rw [h1]
      unfold noD at h
      rw [List.all_eq_true] at h
      simpa using h _ (List.getElem_mem ht)
    · have h1 : T.getD t .any = .any := by simp [List.getD, List.getElem?_eq_none (Nat.le_of_not_lt ht)]
      rw [h1]
      rfl
  | const v => exact constFV_hasD
  | global g => rfl
  | func f => simp [opd, FV.hasD, Lf.hasD]
theorem noD_put {d : Nat} {t : Option Tmp} {f : FV} (h : noD T d = true) (hf : f.hasD d = false) : noD (put T t f) d = true := by
  cases t with
  | none => exact h
  | some t =>
    unfold noD at h ⊢
    rw [List.all_eq_true] at h ⊢
    intro g hg
    rcases List.mem_or_eq_of_mem_set hg with hg | rfl
    · exact h g hg
    · simp [hf]

theorem updI_D {d : Nat} {lab : Lab} {i : Nat} {z : Int} {x : Lf} (h : x.hasD d = false) : (updI lab i z x).hasD d = false := by
  cases x with
  | own l e y =>
    unfold updI
    dsimp only
    split
    · split
      · exact h
      · rfl
    · exact h
  | _ => exact h
theorem any_map_D {d : Nat} {f : Lf → Lf} (hf : ∀ x, x.hasD d = false → (f x).hasD d = false) {xs : List Lf} (h : xs.any (Lf.hasD d) = false) : (xs.map f).any (Lf.hasD d) = false := by
  rw [List.any_eq_false] at h ⊢
  intro y hy
  rw [List.mem_map] at hy
  obtain ⟨x, hx, rfl⟩ := hy
  have := hf x (by simpa using h x hx)
  simp [this]
theorem FV.updI_D {d : Nat} {lab : Lab} {i : Nat} {z : Int} {f : FV} (h : f.hasD d = false) : (f.updI lab i z).hasD d = false := by
  cases f with
  | any => rfl
  | v a xs => exact any_map_D (fun x hx => Vx.updI_D hx) h
  | tup vs =>
    simp only [FV.updI, FV.hasD, List.any_eq_false] at h ⊢
    intro q hq
    rw [List.mem_map] at hq
    obtain ⟨q', hq', rfl⟩ := hq
    have := any_map_D (f := Vx.updI lab i z) (fun x hx => Vx.updI_D hx) (by simpa using h q' hq')
    simpa using this
  | box l cs off =>
    unfold FV.updI
    dsimp only
    split
    · rfl
    · simp only [FV.hasD, Bool.or_eq_false_iff] at h ⊢
      exact ⟨h.1, any_map_D (fun x hx => Vx.updI_D hx) h.2⟩
  | elt s j off =>
    unfold FV.updI
    dsimp only
    split
    · exact Vx.updI_D h
    · rfl
theorem noD_map {d : Nat} {g : FV → FV} (hg : ∀ f, f.hasD d = false → (g f).hasD d = false) (h : noD T d = true) : noD (T.map g) d = true := by
  unfold noD at h ⊢
  rw [List.all_eq_true] at h ⊢
  intro f hf
  rw [List.mem_map] at hf
  obtain ⟨f', hf', rfl⟩ := hf
  have := hg f' (by simpa using h f' hf')
  simp [this]

theorem killL_D {d : Nat} {lab : Lab} {x : Lf} (h : x.hasD d = false) : (killL lab x).hasD d = false := by
  cases x with
  | own l e y =>
    unfold killL
    dsimp only
    split
    · rfl
    · exact h
  | _ => exact h
theorem killO_D {d : Nat} {lab : Lab} {f : FV} (h : f.hasD d = false) : (f.killO lab).hasD d = false := by
  cases f with
  | any => rfl
  | v a xs => exact any_map_D (fun x hx => killL_D hx) h
  | tup vs =>
    simp only [FV.killO, FV.hasD, List.any_eq_false] at h ⊢
    intro q hq
    rw [List.mem_map] at hq
    obtain ⟨q', hq', rfl⟩ := hq
    have := any_map_D (f := killL lab) (fun x hx => killL_D hx) (by simpa using h q' hq')
    simpa using this
  | box l cs off =>
    simp only [FV.killO, FV.hasD, Bool.or_eq_false_iff] at h ⊢
    exact ⟨h.1, any_map_D (fun x hx => killL_D hx) h.2⟩
  | elt s j off =>
    unfold FV.killO
    dsimp only
    split
    · exact killL_D h
    · rfl
theorem mapL_D {d : Nat} {g : Lf → Lf} (hg : ∀ x, x.hasD d = false → (g x).hasD d = false) {f : FV} (h : f.hasD d = false) : (f.mapL g).hasD d = false := by
  cases f with
  | any => rfl
  | v a xs => exact any_map_D hg h
  | tup vs =>
    simp only [FV.mapL, FV.hasD, List.any_eq_false] at h ⊢
    intro q hq
    rw [List.mem_map] at hq
    obtain ⟨q', hq', rfl⟩ := hq
    have := any_map_D hg (by simpa using h q' hq')
    simpa using this
  | box l cs off =>
    simp only [FV.mapL, FV.hasD, Bool.or_eq_false_iff] at h ⊢
    exact ⟨h.1, any_map_D hg h.2⟩
  | elt s j off =>
    unfold FV.mapL
    dsimp only
    split
    · exact hg s h
    · rfl
theorem mapLB_D {d : Nat} {lab : Lab} {g : Lf → Lf} (hg : ∀ x, x.hasD d = false → (g x).hasD d = false) {f : FV} (h : f.hasD d = false) : (f.mapLB lab g).hasD d = false := by
  cases f with
  | box l cs off =>
    unfold FV.mapLB
    dsimp only
    split
    · rfl
    · exact mapL_D (f := .box l cs off) hg h
  | any => exact mapL_D (f := .any) hg h
  | v a xs => exact mapL_D (f := .v a xs) hg h
  | tup vs => exact mapL_D (f := .tup vs) hg h
  | elt s i off => exact mapL_D (f := .elt s i off) hg h
theorem stoBox_D {d : Nat} {lab : Lab} {cs' : List Lf} {f : FV} (h : f.hasD d = false) (hc : cs'.any (Lf.hasD d) = false) : (FV.stoBox lab cs' f).hasD d = false := by
  cases f with
  | box l cs off =>
    unfold FV.stoBox
    dsimp only
    simp only [FV.hasD, Bool.or_eq_false_iff] at h ⊢
    refine ⟨h.1, ?_⟩
    split
    · exact any_map_D (fun x hx => killL_D hx) hc
    · exact any_map_D (fun x hx => killL_D hx) h.2
  | any => rfl
  | v a xs => exact killO_D (f := .v a xs) h
  | tup vs => exact killO_D (f := .tup vs) h
  | elt s i off => exact killO_D (f := .elt s i off) h
theorem updR_D {d : Nat} {lab : Lab} {k i : Nat} {ys : List PL} {x : Lf} (h : x.hasD d = false) : (updR lab k i ys x).hasD d = false := by
  cases x with
  | own l e y =>
    unfold updR
    dsimp only
    split
    · split
      · split
        · exact h
        · rfl
      · rfl
    · exact h
  | _ => exact h
theorem updCs_D {d : Nat} {as : List Lf} {ys : List PL} {x : Lf} (h : x.hasD d = false) : (updCs as ys x).hasD d = false := by
  cases x with
  | own l e y =>
    unfold updCs
    dsimp only
    split
    · split
      · exact h
      · rfl
    · exact h
  | _ => exact h
theorem killC_D {d : Nat} {as : List Lf} {ys : List PL} {x : Lf} (h : x.hasD d = false) : (killC as ys x).hasD d = false := by
  cases x with
  | own l e y =>
    unfold killC
    dsimp only
    split
    · rfl
    · exact h
  | _ => exact h
theorem mutF_D {d : Nat} {as : List Lf} {ys : List PL} {f : FV} (h : f.hasD d = false) : (f.mutF as ys).hasD d = false := by
  cases f with
  | any => rfl
  | v b xs => cases b with
    | true => exact mapL_D (f := .v true xs) (fun x hx => killC_D hx) h
    | false => exact mapL_D (f := .v false xs) (fun x hx => updCs_D hx) h
  | tup vs => exact mapL_D (f := .tup vs) (fun x hx => killC_D hx) h
  | elt s i off => exact mapL_D (f := .elt s i off) (fun x hx => killC_D hx) h
  | box l cs off => exact mapL_D (f := .box l cs off) (fun x hx => updCs_D hx) h
theorem args_D {d : Nat} (hd : noD T d = true) : ∀ {xs : List Operand} {avs : List (Bool × List Lf)}, mapO argV (xs.map (opd T)) = some avs → (avs.flatMap (·.2)).any (Lf.hasD d) = false
  | [], avs, h => by cases h; rfl
  | x :: xs, avs, h => by
    rw [List.map_cons] at h
    unfold mapO at h
    split at h
    · rename_i y ys hy hys
      cases h
      rw [List.flatMap_cons, List.any_append, args_D hd hys, Bool.or_false]
      have := opd_D hd x
      cases ho : opd T x <;> rw [ho] at hy this <;> cases hy
      exact this
    · cases h
theorem resL_D {d : Nat} {as : List Lf} {ys : List PL} (h : as.any (Lf.hasD d) = false) (x : RL) : (resL as ys x).hasD d = false := by
  cases x with
  | p x => unfold resL; dsimp only; split <;> rfl
  | nil => rfl
  | arg j =>
    unfold resL
    dsimp only
    split
    · rename_i l e x q hj hy
      rw [List.any_eq_false] at h
      have := h _ (List.mem_of_getElem? hj)
      simpa [Lf.hasD] using this
    · rfl
theorem resFV_D {d : Nat} {as : List Lf} {ys : List PL} (h : as.any (Lf.hasD d) = false) {r : MRes} : (resFV as ys r).hasD d = false := by
  have one : ∀ xs : List RL, (xs.map (resL as ys)).any (Lf.hasD d) = false := fun xs => by
    rw [List.any_eq_false]
    intro y hy
    rw [List.mem_map] at hy
    obtain ⟨x, _, rfl⟩ := hy
    simp [resL_D h x]
  cases r with
  | one q => exact one q.2
  | tup qs =>
    show ((qs.map fun (q : Bool × List RL) => (q.1, q.2.map (resL as ys))).any fun q => q.2.any (Lf.hasD d)) = false
    rw [List.any_eq_false]
    intro q hq
    rw [List.mem_map] at hq
    obtain ⟨q', _, rfl⟩ := hq
    simp only [one]
    simp
theorem Sk_D {d : Nat} (hs : d < 1000000) (h : Sk Γ ei o T (· = T')) (hd : noD T d = true) : noD T' d = true := by
  unfold Sk at h
  split at h
  · rename_i t ad x ho
    split at h
    · exact h.elim
    · split at h
      · rename_i lab cs off a' xs h1 h2
        obtain ⟨_, _, rfl⟩ := h
        have e1 := opd_D hd ad
        have e2 := opd_D hd x
        rw [h1] at e1
        rw [h2] at e2
        simp only [FV.hasD, Bool.or_eq_false_iff] at e1 e2
        refine noD_put (noD_map (fun f hf => stoBox_D hf ?_) hd) rfl
        unfold over
        rw [List.any_append, List.any_append, Bool.or_eq_false_iff, Bool.or_eq_false_iff]
        refine ⟨⟨?_, e2⟩, ?_⟩
        · rw [List.any_eq_false] at e1 ⊢
          exact fun y hy => e1.2 y (List.mem_of_mem_take hy)
        · rw [List.any_eq_false] at e1 ⊢
          exact fun y hy => e1.2 y (List.mem_of_mem_drop hy)
      · obtain ⟨_, _, _, rfl⟩ := h
        exact noD_put (noD_map (fun f hf => FV.updI_D hf) hd) rfl
      · split at h
        · obtain ⟨_, _, _, rfl⟩ := h
          exact noD_put (noD_map (fun f hf => mapLB_D (fun x hx => updR_D hx) hf) hd) rfl
        · exact h.elim
      · exact h.elim
  · split at h
    · split at h
      · rename_i s x t t' hargs hts
        obtain ⟨_, h⟩ := h
        split at h
        · exact h.elim
        · split at h
          · rename_i sv xv h1 h2
            obtain ⟨y, z, _, _, q, _, _, h⟩ := h
            split at h
            · obtain ⟨_, rfl⟩ := h
              refine noD_put hd ?_
              simp only [FV.hasD, List.any_cons, List.any_nil, Bool.or_false, Lf.hasD, decide_eq_false_iff_not]
              omega
            · obtain ⟨_, _, rfl⟩ := h
              refine noD_put (noD_map (fun f hf => killO_D hf) hd) ?_
              have := opd_D hd s
              rw [h1] at this
              exact this
            · exact h.elim
          · exact h.elim
      · exact h.elim
    · obtain ⟨avs, hav, ps, _, _, qs, r, _, _, rfl⟩ := h
      exact noD_put (noD_map (fun f hf => mutF_D hf) hd) (resFV_D (args_D hd hav))
    · exact h.elim
  · exact h.elim

/-- A label that is laid nowhere in T, and that this operation does not lay, is laid nowhere behind it. -/
theorem St_D {d : Nat} (hz : ∀ t r, Γ.get t = some r → r.zero.any (Lf.hasD d) = false) (h : St Γ ei Den ops o T T') (hsm : d < 1000000) (hd : noD T d = true) (hn : creates o.op = true → o.dst.getD 0 ≠ d) : noD T' d = true := by
  cases hs : serial Γ o.op with
  | true =>
    unfold St evOp at h
    split at h
    · rw [hs] at h
      exact Sk_D hsm h hd
    · rw [← h]
      exact noD_put hd rfl
    · exact h.elim
  | false =>
    obtain ⟨f, rfl, hv⟩ := St_val hs h
    refine noD_put hd ?_
    rcases hv with ⟨_, hv⟩ | ⟨_, rfl⟩
    · cases hf : f.hasD d with
      | false => rfl
      | true =>
        rcases Yk_D hz hv hf with ⟨h1, h2⟩ | ⟨x, _, h2⟩
        · exact absurd h2.symm (hn h1)
        · rw [opd_D hd x] at h2
          cases h2
    · rfl
end

end Go.Vx
