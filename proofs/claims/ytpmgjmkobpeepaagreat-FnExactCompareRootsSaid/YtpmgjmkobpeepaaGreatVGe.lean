/- Vx9, Vx10 -/
import Derived.Test.YtpmgjmkobpeepaaGreatVGd
set_option linter.unusedVariables false
set_option linter.unusedSectionVars false
set_option linter.unusedSimpArgs false
section
/- Vx, part 10: regions, in the text's order and in any order. -/
namespace Go.Vx
open Go.RowKit

def serial (Γ : Tab) : Op → Bool
 | .store .. => true
 | .call c => match c.callee with
  | .builtin .append => true
  | .builtin .copy => true
  | .value (.func g) => isMut Γ.muts g
  | _ => false
 | .makeFunc .. => true
 | _ => false

def wantedA (ops : List Oper) (o : Oper) (T : List FV) : Option Bool :=
 match o.guard with
 | none => some true
 | some (j, want) => match (ops[j]?).bind (·.dst) with
  | some t => match T.getD t .any with
   | .v false [.p (.bool b)] => some (b == want)
   | .tup [] => some false
   | _ => none
  | none => none

def evOp (Γ : Tab) (ei : TypeId) (Den : FuncId → List PV → Bool → Res → Prop) (ops : List Oper) (o : Oper) (T : List FV) (K : List FV → Prop) : Prop :=
 match wantedA ops o T with
 | some true => match serial Γ o.op with
  | true => Sk Γ ei o T K
  | false => Yk Γ ei Den o (opd T) (fun f => K (put T o.dst f))
 | some false => K (put T o.dst (.tup []))
 | none => False

def evOps (Γ : Tab) (ei : TypeId) (Den : FuncId → List PV → Bool → Res → Prop) (ops : List Oper) : List Oper → List FV → (List FV → Prop) → Prop
 | [], T, K => K T
 | o :: rest, T, K => evOp Γ ei Den ops o T (fun T' => evOps Γ ei Den ops rest T' K)

theorem ex_or {α : Type} {K : α → Prop} {p q : Prop} {p' q' : α → Prop} (hp : p → ∃ x, p' x ∧ K x) (hq : q → ∃ x, q' x ∧ K x) (h : p ∨ q) : ∃ x, (p' x ∨ q' x) ∧ K x := by
 rcases h with h | h
 ·obtain ⟨x, h1, h2⟩ := hp h
  exact ⟨x, .inl h1, h2⟩
 ·obtain ⟨x, h1, h2⟩ := hq h
  exact ⟨x, .inr h1, h2⟩
theorem Sk_ex {Γ : Tab} {ei : TypeId} {o : Oper} {T : List FV} {K : List FV → Prop} (h : Sk Γ ei o T K) : ∃ T', Sk Γ ei o T (· = T') ∧ K T' := by
 unfold Sk at h ⊢
 split at h
 ·split at h
  ·exact h.elim
  ·split at h
   ·exact ⟨_, ⟨h.1, h.2.1, rfl⟩, h.2.2⟩
   ·exact ⟨_, ⟨h.1, h.2.1, h.2.2.1, rfl⟩, h.2.2.2⟩
   ·split at h
    ·exact ⟨_, ⟨h.1, h.2.1, h.2.2.1, rfl⟩, h.2.2.2⟩
    ·exact h.elim
   ·obtain ⟨row, h1, h2, h3, h⟩ := h
    exact ⟨_, ⟨row, h1, h2, h3, rfl⟩, h⟩
   ·exact h.elim
 ·repeat' (first | exact h.elim | exact ⟨_, rfl, h⟩ | refine ex_ex (fun _ h => ?_) h | refine ex_and (fun h => ?_) h | refine ex_or (fun h => ?_) (fun h => ?_) h | split at h)
 ·split at h
  ·split at h
   ·obtain ⟨z, hz, h⟩ := h
    exact ⟨_, ⟨z, hz, rfl⟩, h⟩
   ·exact h.elim
  ·exact h.elim
 ·exact h.elim

section
variable {Γ : Tab} {ei : TypeId} {Den : FuncId → List PV → Bool → Res → Prop} {ops : List Oper} {o : Oper} {T T' : List FV}

/-- One operation turns T into T'. -/
def St (Γ : Tab) (ei : TypeId) (Den : FuncId → List PV → Bool → Res → Prop) (ops : List Oper) (o : Oper) (T T' : List FV) : Prop := evOp Γ ei Den ops o T (· = T')
/-- What a quiet operation leaves in its temporary. -/
def Val (Γ : Tab) (ei : TypeId) (Den : FuncId → List PV → Bool → Res → Prop) (ops : List Oper) (o : Oper) (T : List FV) (f : FV) : Prop :=
 (wantedA ops o T = some true ∧ Yk Γ ei Den o (opd T) (· = f)) ∨ (wantedA ops o T = some false ∧ f = .tup [])

theorem evOp_ex {K : List FV → Prop} (h : evOp Γ ei Den ops o T K) : ∃ T', St Γ ei Den ops o T T' ∧ K T' := by
 unfold evOp at h
 unfold St evOp
 split at h
 ·rename_i hw
  split at h
  ·rename_i hs
   obtain ⟨T', h1, h2⟩ := Sk_ex h
   exact ⟨T', h1, h2⟩
  ·rename_i hs
   obtain ⟨f, h1, h2⟩ := Yk_ex h
   exact ⟨_, Yk_of (fun g hg => by rw [hg]) h1, h2⟩
 ·exact ⟨_, rfl, h⟩
 ·exact h.elim

theorem St_val (hs : serial Γ o.op = false) (h : St Γ ei Den ops o T T') : ∃ f, T' = put T o.dst f ∧ Val Γ ei Den ops o T f := by
 unfold St evOp at h
 split at h
 ·rename_i hw
  rw [hs] at h
  obtain ⟨f, h1, h2⟩ := Yk_ex h
  exact ⟨f, h2.symm, .inl ⟨hw, h1⟩⟩
 ·rename_i hw
  exact ⟨_, h.symm, .inr ⟨hw, rfl⟩⟩
 ·exact h.elim
theorem val_St (hs : serial Γ o.op = false) {f : FV} (h : Val Γ ei Den ops o T f) : St Γ ei Den ops o T (put T o.dst f) := by
 unfold St evOp
 rcases h with ⟨hw, h⟩ | ⟨hw, rfl⟩
 ·rw [hw, hs]
  exact Yk_of (fun g hg => by rw [hg]) h
 ·rw [hw]

theorem wanted_congr (h : ∀ t ∈ o.looksAt ops.toArray, T.getD t .any = T'.getD t .any) : wantedA ops o T = wantedA ops o T' := by
 unfold wantedA
 cases hg : o.guard with
 | none => rfl
 | some q =>
  obtain ⟨j, want⟩ := q
  dsimp only
  cases ht : (ops[j]?).bind (·.dst) with
  | none => rfl
  | some t =>
   dsimp only
   rw [h t (by simp [Oper.looksAt, hg, ht])]
theorem opd_congr (h : ∀ t ∈ o.looksAt ops.toArray, T.getD t .any = T'.getD t .any) : ∀ x ∈ o.op.operands, opd T x = opd T' x := by
 intro x hx
 cases x with
 | tmp t => exact h t (by simp only [Oper.looksAt, List.mem_append, List.mem_filterMap]; exact .inl ⟨.tmp t, by simpa using hx, rfl⟩)
 | const v => rfl
 | global g => rfl
 | func f => rfl
theorem Val_congr (h : ∀ t ∈ o.looksAt ops.toArray, T.getD t .any = T'.getD t .any) {f : FV} (hv : Val Γ ei Den ops o T f) : Val Γ ei Den ops o T' f := by
 rcases hv with ⟨hw, hv⟩ | ⟨hw, hv⟩
 ·exact .inl ⟨(wanted_congr h) ▸ hw, Yk_congr (opd_congr h) hv⟩
 ·exact .inr ⟨(wanted_congr h) ▸ hw, hv⟩

theorem put_getD {d : Option Tmp} {f : FV} {t : Tmp} (h : d ≠ some t) : (put T d f).getD t .any = T.getD t .any := by
 cases d with
 | none => rfl
 | some d =>
  have : d ≠ t := fun e => h (by rw [e])
  simp [put, List.getD, this]
theorem put_comm {d d' : Option Tmp} {f f' : FV} (h : ∀ t, d = some t → d' ≠ some t) : put (put T d f) d' f' = put (put T d' f') d f := by
 cases d with
 | none => rfl
 | some d =>
  cases d' with
  | none => rfl
  | some d' =>
   have : d ≠ d' := fun e => h d rfl (by rw [e])
   exact (List.set_comm _ _ this.symm).symm

/-- Two operations that have nothing to do with each other may change places. -/
theorem St_swap {o1 o2 : Oper} {T1 T2 : List FV} (hs1 : serial Γ o1.op = false) (hs2 : serial Γ o2.op = false) (hap : o1.apart ops.toArray o2 = true)
  (h1 : St Γ ei Den ops o1 T T1) (h2 : St Γ ei Den ops o2 T1 T2) : ∃ T1', St Γ ei Den ops o2 T T1' ∧ St Γ ei Den ops o1 T1' T2 := by
 obtain ⟨ha, hb, hc⟩ := Oper.apart_spec hap
 obtain ⟨f1, rfl, hv1⟩ := St_val hs1 h1
 obtain ⟨f2, rfl, hv2⟩ := St_val hs2 h2
 have hv2' : Val Γ ei Den ops o2 T f2 := Val_congr (fun t ht => put_getD (fun e => ha t e ht)) hv2
 have hv1' : Val Γ ei Den ops o1 (put T o2.dst f2) f1 := Val_congr (fun t ht => (put_getD (fun e => hc t e ht)).symm) hv1
 refine ⟨_, val_St hs2 hv2', ?_⟩
 have := val_St hs1 hv1'
 rwa [put_comm (fun t ht => hb t ht)]

def isExt : Op → Bool
 | .extract .. => true
 | _ => false
def isSto : Op → Bool
 | .store .. => true
 | _ => false
/-- What a store does to the frame's values. -/
structure Nice (g : FV → FV) (G : Lf → Lf) : Prop where
 any : g .any = .any
 v : ∀ a xs, g (.v a xs) = .v a (xs.map G)
 tup : ∀ vs, g (.tup vs) = .tup (vs.map fun q => (q.1, q.2.map G))
 p : ∀ x, G (.p x) = .p x
 nil : G .nil = .nil
theorem getD_map {g : FV → FV} (hg : g .any = .any) (t : Nat) : (T.map g).getD t .any = g (T.getD t .any) := by
 simp only [List.getD, List.getElem?_map]
 cases T[t]? with
 | none => simp [hg]
 | some f => simp
theorem put_map {g : FV → FV} (d : Option Tmp) (f : FV) : (put T d f).map g = put (T.map g) d (g f) := by
 cases d with
 | none => rfl
 | some d => simp [put, List.map_set]
theorem wanted_nice {g : FV → FV} {G : Lf → Lf} (hn : Nice g G) {b : Bool} (h : wantedA ops o T = some b) : wantedA ops o (T.map g) = some b := by
 unfold wantedA at h ⊢
 split at h
 ·exact h
 ·rename_i j want hgd
  split at h
  ·rename_i t ht
   try simp only [ht]
   rw [getD_map hn.any]
   split at h
   ·rename_i c hc
    rw [hc, hn.v]
    simp only [List.map_cons, List.map_nil, hn.p]
    exact h
   ·rename_i hc
    rw [hc, hn.tup]
    exact h
   ·cases h
  ·cases h
/-- A store, as a change of all values. -/
theorem Sk_sto (hs : isSto o.op = true) (h : Sk Γ ei o T (· = T')) : ∃ g G, Nice g G ∧ T' = put (T.map g) o.dst (.tup []) ∧
  ∀ T2 : List FV, (∀ x ∈ o.op.operands, opd T x = opd T2 x) → Sk Γ ei o T2 (· = put (T2.map g) o.dst (.tup [])) := by
 unfold Sk at h
 split at h
 ·rename_i t ad x ho
  have hop : ∀ {T2 : List FV}, (∀ y ∈ o.op.operands, opd T y = opd T2 y) → opd T ad = opd T2 ad ∧ opd T x = opd T2 x := fun hc => ⟨hc ad (by rw [ho]; simp [Op.operands]), hc x (by rw [ho]; simp [Op.operands])⟩
  split at h
  ·exact h.elim
  ·rename_i r hr
   split at h
   ·rename_i lab cs off a' xs h1 h2
    obtain ⟨g1, g2, h3⟩ := h
    refine ⟨FV.stoBox lab (over cs off xs), killL lab, ⟨rfl, fun _ _ => rfl, fun _ => rfl, fun _ => rfl, rfl⟩, h3.symm, fun T2 hc => ?_⟩
    obtain ⟨e1, e2⟩ := hop hc
    unfold Sk
    simp only [ho, hr, ← e1, ← e2, h1, h2]
    exact ⟨g1, g2, trivial⟩
   ·rename_i lab e l i off z h1 h2
    obtain ⟨g1, g2, g3, h3⟩ := h
    refine ⟨FV.updI lab i z, Vx.updI lab i z, ⟨rfl, fun _ _ => rfl, fun _ => rfl, fun _ => rfl, rfl⟩, h3.symm, fun T2 hc => ?_⟩
    obtain ⟨e1, e2⟩ := hop hc
    unfold Sk
    simp only [ho, hr, ← e1, ← e2, h1, h2]
    exact ⟨g1, g2, g3, trivial⟩
   ·rename_i lab e k l i off a' xs h1 h2
    split at h
    ·rename_i ys hys
     obtain ⟨g1, g2, g3, h3⟩ := h
     refine ⟨FV.mapLB lab (updR lab k i ys), updR lab k i ys, ⟨rfl, fun _ _ => rfl, fun _ => rfl, fun _ => rfl, rfl⟩, h3.symm, fun T2 hc => ?_⟩
     obtain ⟨e1, e2⟩ := hop hc
     unfold Sk
     simp only [ho, hr, ← e1, ← e2, h1, h2, hys]
     exact ⟨g1, g2, g3, trivial⟩
    ·exact h.elim
   ·rename_i lab e' k' l i off a' xs h1 h2
    obtain ⟨row, g1, g2, g3, h3⟩ := h
    refine ⟨FV.mapK lab (lab :: labsOf xs) (stoDL lab e' k' i off row (lab :: labsOf xs)), stoDL lab e' k' i off row (lab :: labsOf xs), ⟨rfl, fun _ _ => rfl, fun _ => rfl, fun _ => rfl, rfl⟩, h3.symm, fun T2 hc => ?_⟩
    obtain ⟨e1, e2⟩ := hop hc
    unfold Sk
    simp only [ho, hr, ← e1, ← e2, h1, h2]
    exact ⟨row, g1, g2, g3, rfl⟩
   ·exact h.elim
 ·rename_i hc
  rw [hc] at hs
  cases hs
 ·rename_i hc
  rw [hc] at hs
  cases hs
 ·exact h.elim
/-- A part of a tuple is taken, and something is stored: in any order. -/
theorem St_swap2 {o1 o2 : Oper} {T1 T2 : List FV} (hs1 : isExt o1.op = true) (hs2 : isSto o2.op = true) (hap : o1.apart ops.toArray o2 = true)
  (h1 : St Γ ei Den ops o1 T T1) (h2 : St Γ ei Den ops o2 T1 T2) : ∃ T1', St Γ ei Den ops o2 T T1' ∧ St Γ ei Den ops o1 T1' T2 := by
 obtain ⟨ha, hb, hc⟩ := Oper.apart_spec hap
 have q1 : serial Γ o1.op = false := by cases ho : o1.op <;> rw [ho] at hs1 <;> first | rfl | cases hs1
 have q2 : serial Γ o2.op = true := by cases ho : o2.op <;> rw [ho] at hs2 <;> first | rfl | cases hs2
 obtain ⟨f1, rfl, hv1⟩ := St_val q1 h1
 have hcg : ∀ t ∈ o2.looksAt ops.toArray, (put T o1.dst f1).getD t .any = T.getD t .any := fun t ht => put_getD (fun e => ha t e ht)
 unfold St evOp at h2
 split at h2
 ·rename_i hw
  rw [q2] at h2
  obtain ⟨g, G, hn, hT2, hall⟩ := Sk_sto hs2 h2
  have hsk := hall T (opd_congr hcg)
  refine ⟨put (T.map g) o2.dst (.tup []), ?_, ?_⟩
  ·unfold St evOp
   rw [← wanted_congr hcg, hw, q2]
   exact hsk
  ·have hv : Val Γ ei Den ops o1 (put (T.map g) o2.dst (.tup [])) (g f1) := by
    have hcg2 : ∀ t ∈ o1.looksAt ops.toArray, (T.map g).getD t .any = (put (T.map g) o2.dst (.tup [])).getD t .any := fun t ht => (put_getD (fun e => hc t e ht)).symm
    refine Val_congr hcg2 ?_
    rcases hv1 with ⟨hw1, hy⟩ | ⟨hw1, rfl⟩
    ·refine .inl ⟨wanted_nice hn hw1, ?_⟩
     unfold Yk at hy ⊢
     split at hy <;> rename_i ho <;> first | (rw [ho] at hs1; cases hs1; done) | skip
     ·rename_i x j
      simp only [ho]
      split at hy
      ·rename_i vs hx
       obtain ⟨q, hq, hf⟩ := hy
       subst hf
       have hx2 : opd (T.map g) x = .tup (vs.map fun q => (q.1, q.2.map G)) := by
        cases x with
        | tmp t =>
         show (T.map g).getD t .any = _
         rw [getD_map hn.any]
         have : T.getD t .any = .tup vs := hx
         rw [this, hn.tup]
        | const v => exfalso; have hx : constFV v = .tup vs := hx; unfold constFV at hx; split at hx <;> cases hx
        | global g => cases hx
        | func f => cases hx
       rw [hx2]
       exact ⟨(q.1, q.2.map G), by simp [hq], (hn.v _ _).symm⟩
      ·exact hy.elim
     ·exact hy.elim
    ·exact .inr ⟨wanted_nice hn hw1, hn.tup []⟩
   have h3 := val_St q1 hv
   rw [hT2, put_map, put_comm (fun t ht => hb t ht)]
   exact h3
 ·rename_i hw
  refine ⟨put T o2.dst (.tup []), ?_, ?_⟩
  ·unfold St evOp
   rw [← wanted_congr hcg, hw]
  ·have hv : Val Γ ei Den ops o1 (put T o2.dst (.tup [])) f1 := Val_congr (fun t ht => (put_getD (fun e => hc t e ht)).symm) hv1
   have h3 := val_St q1 hv
   rw [← h2, put_comm (fun t ht => hb t ht)]
   exact h3
 ·exact h2.elim

/-! ### labels, along a region -/
theorem constFV_hasD {v : Value} {d : Nat} : (constFV v).hasD d = false := by
 unfold constFV; split <;> rfl
theorem opd_D {d : Nat} (h : noD T d = true) (x : Operand) : (opd T x).hasD d = false := by
 cases x with
 | tmp t =>
  show (T.getD t .any).hasD d = false
  by_cases ht : t < T.length
  ·have h1 : T.getD t .any = T[t] := by simp [List.getD, List.getElem?_eq_getElem ht]
   rw [h1]
   unfold noD at h
   rw [List.all_eq_true] at h
   simpa using h _ (List.getElem_mem ht)
  ·have h1 : T.getD t .any = .any := by simp [List.getD, List.getElem?_eq_none (Nat.le_of_not_lt ht)]
   rw [h1]
   rfl
 | const v => exact constFV_hasD
 | global g => rfl
 | func f => simp [opd, FV.hasD, Lf.hasD]
theorem noD_put {d : Nat} {t : Option Tmp} {f : FV} (h : noD T d = true) (hf : f.hasD d = false) : noD (put T t f) d = true := by
 cases t with
 | none => exact h
 | some t =>
  unfold noD at h ⊢
  rw [List.all_eq_true] at h ⊢
  intro g hg
  rcases List.mem_or_eq_of_mem_set hg with hg | rfl
  ·exact h g hg
  ·simp [hf]

theorem safeL_D {d : Nat} {lab : Lab} {x : Lf} (h : x.hasD d = false) : (safeL lab x).hasD d = false := by
 unfold safeL
 split
 ·rfl
 ·exact h
theorem safeAs_D {d : Nat} {as : List Lf} {x : Lf} (h : x.hasD d = false) : (safeAs as x).hasD d = false := by
 unfold safeAs
 split
 ·rfl
 ·exact h
theorem updI_D {d : Nat} {lab : Lab} {i : Nat} {z : Int} {x : Lf} (h : x.hasD d = false) : (updI lab i z x).hasD d = false := by
 cases x with
 | own l e y =>
  unfold updI
  dsimp only
  split
  ·split
   ·exact h
   ·rfl
  ·exact h
 | deep l e k y => exact safeL_D h
 | kid l e n y => exact safeL_D h
 | _ => exact h
theorem any_map_D {d : Nat} {f : Lf → Lf} (hf : ∀ x, x.hasD d = false → (f x).hasD d = false) {xs : List Lf} (h : xs.any (Lf.hasD d) = false) : (xs.map f).any (Lf.hasD d) = false := by
 rw [List.any_eq_false] at h ⊢
 intro y hy
 rw [List.mem_map] at hy
 obtain ⟨x, hx, rfl⟩ := hy
 have := hf x (by simpa using h x hx)
 simp [this]
theorem FV.updI_D {d : Nat} {lab : Lab} {i : Nat} {z : Int} {f : FV} (h : f.hasD d = false) : (f.updI lab i z).hasD d = false := by
 cases f with
 | any => rfl
 | v a xs => exact any_map_D (fun x hx => Vx.updI_D hx) h
 | tup vs =>
  simp only [FV.updI, FV.hasD, List.any_eq_false] at h ⊢
  intro q hq
  rw [List.mem_map] at hq
  obtain ⟨q', hq', rfl⟩ := hq
  have := any_map_D (f := Vx.updI lab i z) (fun x hx => Vx.updI_D hx) (by simpa using h q' hq')
  simpa using this
 | box l cs off =>
  unfold FV.updI
  dsimp only
  split
  ·rfl
  ·simp only [FV.hasD, Bool.or_eq_false_iff] at h ⊢
   exact ⟨h.1, any_map_D (fun x hx => Vx.updI_D hx) h.2⟩
 | lit l k cs =>
  unfold FV.updI
  dsimp only
  split
  ·rfl
  ·simp only [FV.hasD, Bool.or_eq_false_iff] at h ⊢
   exact ⟨h.1, any_map_D (fun x hx => Vx.updI_D hx) h.2⟩
 | elt s j off =>
  unfold FV.updI
  dsimp only
  split
  ·exact Vx.updI_D h
  ·rfl
 | sub s j off =>
  unfold FV.updI
  dsimp only
  split
  ·exact Vx.updI_D h
  ·rfl
theorem noD_map {d : Nat} {g : FV → FV} (hg : ∀ f, f.hasD d = false → (g f).hasD d = false) (h : noD T d = true) : noD (T.map g) d = true := by
 unfold noD at h ⊢
 rw [List.all_eq_true] at h ⊢
 intro f hf
 rw [List.mem_map] at hf
 obtain ⟨f', hf', rfl⟩ := hf
 have := hg f' (by simpa using h f' hf')
 simp [this]

theorem killL_D {d : Nat} {lab : Lab} {x : Lf} (h : x.hasD d = false) : (killL lab x).hasD d = false := by
 cases x with
 | own l e y =>
  unfold killL
  dsimp only
  split
  ·rfl
  ·exact h
 | deep l e k y => exact safeL_D h
 | kid l e n y => exact safeL_D h
 | _ => exact h
theorem killO_D {d : Nat} {lab : Lab} {f : FV} (h : f.hasD d = false) : (f.killO lab).hasD d = false := by
 cases f with
 | any => rfl
 | v a xs => exact any_map_D (fun x hx => killL_D hx) h
 | tup vs =>
  simp only [FV.killO, FV.hasD, List.any_eq_false] at h ⊢
  intro q hq
  rw [List.mem_map] at hq
  obtain ⟨q', hq', rfl⟩ := hq
  have := any_map_D (f := killL lab) (fun x hx => killL_D hx) (by simpa using h q' hq')
  simpa using this
 | box l cs off =>
  simp only [FV.killO, FV.hasD, Bool.or_eq_false_iff] at h ⊢
  exact ⟨h.1, any_map_D (fun x hx => killL_D hx) h.2⟩
 | lit l k cs =>
  simp only [FV.killO, FV.hasD, Bool.or_eq_false_iff] at h ⊢
  exact ⟨h.1, any_map_D (fun x hx => killL_D hx) h.2⟩
 | elt s j off =>
  unfold FV.killO
  dsimp only
  split
  ·exact killL_D h
  ·rfl
 | sub s j off =>
  unfold FV.killO
  dsimp only
  split
  ·exact killL_D h
  ·rfl
theorem mapL_D {d : Nat} {g : Lf → Lf} (hg : ∀ x, x.hasD d = false → (g x).hasD d = false) {f : FV} (h : f.hasD d = false) : (f.mapL g).hasD d = false := by
 cases f with
 | any => rfl
 | v a xs => exact any_map_D hg h
 | tup vs =>
  simp only [FV.mapL, FV.hasD, List.any_eq_false] at h ⊢
  intro q hq
  rw [List.mem_map] at hq
  obtain ⟨q', hq', rfl⟩ := hq
  have := any_map_D hg (by simpa using h q' hq')
  simpa using this
 | box l cs off =>
  simp only [FV.mapL, FV.hasD, Bool.or_eq_false_iff] at h ⊢
  exact ⟨h.1, any_map_D hg h.2⟩
 | lit l k cs =>
  simp only [FV.mapL, FV.hasD, Bool.or_eq_false_iff] at h ⊢
  exact ⟨h.1, any_map_D hg h.2⟩
 | elt s j off =>
  unfold FV.mapL
  dsimp only
  split
  ·exact hg s h
  ·rfl
 | sub s j off =>
  unfold FV.mapL
  dsimp only
  split
  ·exact hg s h
  ·rfl
theorem dropB_D {d : Nat} {lab : Lab} {f : FV} (h : f.hasD d = false) : (f.dropB lab).hasD d = false := by
 unfold FV.dropB
 split
 ·rfl
 ·exact killO_D h
theorem mapLB_D {d : Nat} {lab : Lab} {g : Lf → Lf} (hg : ∀ x, x.hasD d = false → (g x).hasD d = false) {f : FV} (h : f.hasD d = false) : (f.mapLB lab g).hasD d = false := by
 cases f with
 | box l cs off =>
  unfold FV.mapLB
  dsimp only
  split
  ·rfl
  ·exact mapL_D (f := .box l cs off) hg h
 | lit l k cs =>
  unfold FV.mapLB
  dsimp only
  split
  ·rfl
  ·exact mapL_D (f := .lit l k cs) hg h
 | any => exact mapL_D (f := .any) hg h
 | v a xs => exact mapL_D (f := .v a xs) hg h
 | tup vs => exact mapL_D (f := .tup vs) hg h
 | elt s i off => exact mapL_D (f := .elt s i off) hg h
 | sub s i off => exact mapL_D (f := .sub s i off) hg h
theorem killK_D {d : Nat} {lab : Lab} {ls : List Lab} {x : Lf} (h : x.hasD d = false) : (killK lab ls x).hasD d = false := by
 unfold killK
 split
 ·rfl
 ·exact h
theorem absK_D {d : Nat} {lab : Lab} {ls : List Lab} {ei : TypeId} {n0 : Nat} {xs : List Lf} (hl : lab.1 ≠ d) {x : Lf} (h : x.hasD d = false) : (absK lab ls ei n0 xs x).hasD d = false := by
 unfold absK
 split
 ·split
  ·simp only [Lf.hasD, decide_eq_false_iff_not]
   exact hl
  ·exact killK_D h
 ·exact killK_D h
theorem stoDL_D {d : Nat} {lab : Lab} {e' k' i off : Nat} {new : List PL} {ls : List Lab} {x : Lf} (h : x.hasD d = false) : (stoDL lab e' k' i off new ls x).hasD d = false := by
 cases x with
 | deep l e k y =>
  unfold stoDL
  dsimp only
  split
  ·split
   ·exact h
   ·rfl
  ·exact killK_D h
 | _ => exact killK_D (lab := lab) (ls := ls) h
theorem kidU_D {d : Nat} {lab : Lab} {n : Nat} {z' : List Int} {x : Lf} (h : x.hasD d = false) : (kidU lab n z' x).hasD d = false := by
 cases x with
 | deep l e k y =>
  unfold kidU
  dsimp only
  split
  ·split
   ·exact h
   ·rfl
  ·exact killK_D h
 | _ => exact killK_D (lab := lab) (ls := []) h
theorem deepU_D {d : Nat} {lab : Lab} {e' k' : Nat} {l' : List (List PL)} {x : Lf} (h : x.hasD d = false) : (deepU lab e' k' l' x).hasD d = false := by
 cases x with
 | deep l e k y =>
  unfold deepU
  dsimp only
  split
  ·split
   ·exact h
   ·rfl
  ·exact killK_D h
 | _ => exact killK_D (lab := lab) (ls := [lab]) h
theorem mapK_D {d : Nat} {lab : Lab} {ls : List Lab} {g : Lf → Lf} (hg : ∀ x, x.hasD d = false → (g x).hasD d = false) {f : FV} (h : f.hasD d = false) : (f.mapK lab ls g).hasD d = false := by
 cases f with
 | box l cs off =>
  unfold FV.mapK
  dsimp only
  split
  ·rfl
  ·exact mapL_D (f := .box l cs off) hg h
 | lit l k cs =>
  unfold FV.mapK
  dsimp only
  split
  ·rfl
  ·exact mapL_D (f := .lit l k cs) hg h
 | any => exact mapL_D (f := .any) hg h
 | v a xs => exact mapL_D (f := .v a xs) hg h
 | tup vs => exact mapL_D (f := .tup vs) hg h
 | elt s i off => exact mapL_D (f := .elt s i off) hg h
 | sub s i off => exact mapL_D (f := .sub s i off) hg h
theorem stoBox_D {d : Nat} {lab : Lab} {cs' : List Lf} {f : FV} (h : f.hasD d = false) (hc : cs'.any (Lf.hasD d) = false) : (FV.stoBox lab cs' f).hasD d = false := by
 cases f with
 | box l cs off =>
  unfold FV.stoBox
  dsimp only
  simp only [FV.hasD, Bool.or_eq_false_iff] at h ⊢
  refine ⟨h.1, ?_⟩
  split
  ·exact any_map_D (fun x hx => killL_D hx) hc
  ·exact any_map_D (fun x hx => killL_D hx) h.2
 | lit l k cs =>
  unfold FV.stoBox
  dsimp only
  split
  ·rfl
  ·simp only [FV.hasD, Bool.or_eq_false_iff] at h ⊢
   exact ⟨h.1, any_map_D (fun x hx => killL_D hx) h.2⟩
 | any => rfl
 | v a xs => exact killO_D (f := .v a xs) h
 | tup vs => exact killO_D (f := .tup vs) h
 | elt s i off => exact killO_D (f := .elt s i off) h
 | sub s i off => exact killO_D (f := .sub s i off) h
theorem updR_D {d : Nat} {lab : Lab} {k i : Nat} {ys : List PL} {x : Lf} (h : x.hasD d = false) : (updR lab k i ys x).hasD d = false := by
 cases x with
 | own l e y =>
  unfold updR
  dsimp only
  split
  ·split
   ·split
    ·exact h
    ·rfl
   ·rfl
  ·exact h
 | deep l e k y => exact safeL_D h
 | kid l e n y => exact safeL_D h
 | _ => exact h
theorem updCs_D {d : Nat} {as : List Lf} {ys : List PL} {x : Lf} (h : x.hasD d = false) : (updCs as ys x).hasD d = false := by
 cases x with
 | own l e y =>
  unfold updCs
  dsimp only
  split
  ·split
   ·exact h
   ·rfl
  ·exact h
 | deep l e k y => exact safeAs_D h
 | kid l e n y => exact safeAs_D h
 | _ => exact h
theorem killC_D {d : Nat} {as : List Lf} {ys : List PL} {x : Lf} (h : x.hasD d = false) : (killC as ys x).hasD d = false := by
 cases x with
 | own l e y =>
  unfold killC
  dsimp only
  split
  ·rfl
  ·exact h
 | deep l e k y => exact safeAs_D h
 | kid l e n y => exact safeAs_D h
 | _ => exact h
theorem mutF_D {d : Nat} {as : List Lf} {ys : List PL} {f : FV} (h : f.hasD d = false) : (f.mutF as ys).hasD d = false := by
 cases f with
 | any => rfl
 | v b xs => cases b with
  | true => exact mapL_D (f := .v true xs) (fun x hx => killC_D hx) h
  | false => exact mapL_D (f := .v false xs) (fun x hx => updCs_D hx) h
 | tup vs => exact mapL_D (f := .tup vs) (fun x hx => killC_D hx) h
 | elt s i off => exact mapL_D (f := .elt s i off) (fun x hx => killC_D hx) h
 | sub s i off => exact mapL_D (f := .sub s i off) (fun x hx => killC_D hx) h
 | box l cs off => exact mapL_D (f := .box l cs off) (fun x hx => updCs_D hx) h
 | lit l k cs => exact mapL_D (f := .lit l k cs) (fun x hx => killC_D hx) h
theorem args_D {d : Nat} (hd : noD T d = true) : ∀ {xs : List Operand} {avs : List (Bool × List Lf)}, mapO argV (xs.map (opd T)) = some avs → (avs.flatMap (·.2)).any (Lf.hasD d) = false
 | [], avs, h => by cases h; rfl
 | x :: xs, avs, h => by
  rw [List.map_cons] at h
  unfold mapO at h
  split at h
  ·rename_i y ys hy hys
   cases h
   rw [List.flatMap_cons, List.any_append, args_D hd hys, Bool.or_false]
   have := opd_D hd x
   cases ho : opd T x <;> rw [ho] at hy this <;> cases hy
   exact this
  ·cases h
theorem resL_D {d : Nat} {as : List Lf} {ys : List PL} (h : as.any (Lf.hasD d) = false) (x : RL) : (resL as ys x).hasD d = false := by
 cases x with
 | p x => unfold resL; dsimp only; split <;> rfl
 | nil => rfl
 | arg j =>
  unfold resL
  dsimp only
  split
  ·rename_i l e x q hj hy
   rw [List.any_eq_false] at h
   have := h _ (List.mem_of_getElem? hj)
   simpa [Lf.hasD] using this
  ·rfl
theorem resFV_D {d : Nat} {as : List Lf} {ys : List PL} (h : as.any (Lf.hasD d) = false) {r : MRes} : (resFV as ys r).hasD d = false := by
 have one : ∀ xs : List RL, (xs.map (resL as ys)).any (Lf.hasD d) = false := fun xs => by
  rw [List.any_eq_false]
  intro y hy
  rw [List.mem_map] at hy
  obtain ⟨x, _, rfl⟩ := hy
  simp [resL_D h x]
 cases r with
 | one q => exact one q.2
 | tup qs =>
  show ((qs.map fun (q : Bool × List RL) => (q.1, q.2.map (resL as ys))).any fun q => q.2.any (Lf.hasD d)) = false
  rw [List.any_eq_false]
  intro q hq
  rw [List.mem_map] at hq
  obtain ⟨q', _, rfl⟩ := hq
  simp only [one]
  simp
theorem setA_D {d : Nat} {lab : Lab} {k : Nat} {rows : List (List PL)} {x : Lf} (h : x.hasD d = false) : (setA lab k rows x).hasD d = false := by
 cases x with
 | own l e y =>
  unfold setA
  dsimp only
  split
  ·split
   ·split
    ·exact h
    ·rfl
   ·rfl
  ·exact h
 | deep l e k y => exact safeL_D h
 | kid l e n y => exact safeL_D h
 | _ => exact h
theorem hdD_args_D {d : Nat} (hd : noD T d = true) {xs : List Operand} {lab : Lab} {e : TypeId} {k : Nat} {l : List (List PL)} {fs : List FV} (h : hdD (xs.map (opd T)) = some (lab, e, k, l, fs)) : Lf.hasD d (.deep lab e k l) = false := by
 have h2 : xs.map (opd T) = .v false [.deep lab e k l] :: fs := by
  unfold hdD at h
  split at h
  ·rename_i heq
   cases h
   exact heq
  ·cases h
 cases xs with
 | nil => cases h2
 | cons x xs =>
  rw [List.map_cons] at h2
  have h3 : opd T x = .v false [.deep lab e k l] := by injection h2
  have := opd_D hd x
  rw [h3] at this
  simpa [FV.hasD] using this
theorem Sk_D {d : Nat} (hs : d < 1000000) (h : Sk Γ ei o T (· = T')) (hd : noD T d = true) : noD T' d = true := by
 unfold Sk at h
 split at h
 ·rename_i t ad x ho
  split at h
  ·exact h.elim
  ·split at h
   ·rename_i lab cs off a' xs h1 h2
    obtain ⟨_, _, rfl⟩ := h
    have e1 := opd_D hd ad
    have e2 := opd_D hd x
    rw [h1] at e1
    rw [h2] at e2
    simp only [FV.hasD, Bool.or_eq_false_iff] at e1 e2
    refine noD_put (noD_map (fun f hf => stoBox_D hf ?_) hd) rfl
    unfold over
    rw [List.any_append, List.any_append, Bool.or_eq_false_iff, Bool.or_eq_false_iff]
    refine ⟨⟨?_, e2⟩, ?_⟩
    ·rw [List.any_eq_false] at e1 ⊢
     exact fun y hy => e1.2 y (List.mem_of_mem_take hy)
    ·rw [List.any_eq_false] at e1 ⊢
     exact fun y hy => e1.2 y (List.mem_of_mem_drop hy)
   ·obtain ⟨_, _, _, rfl⟩ := h
    exact noD_put (noD_map (fun f hf => FV.updI_D hf) hd) rfl
   ·split at h
    ·obtain ⟨_, _, _, rfl⟩ := h
     exact noD_put (noD_map (fun f hf => mapLB_D (fun x hx => updR_D hx) hf) hd) rfl
    ·exact h.elim
   ·obtain ⟨row, _, _, _, rfl⟩ := h
    exact noD_put (noD_map (fun f hf => mapK_D (fun x hx => stoDL_D hx) hf) hd) rfl
   ·exact h.elim
 ·split at h
  ·split at h
   ·rename_i s x t t' hargs hts
    obtain ⟨_, h⟩ := h
    split at h
    ·exact h.elim
    ·split at h
     ·rename_i sv xv h1 h2
      obtain ⟨y, z, _, _, q, _, _, h⟩ := h
      split at h
      ·obtain ⟨_, rfl⟩ := h
       refine noD_put hd ?_
       simp only [FV.hasD, List.any_cons, List.any_nil, Bool.or_false, Lf.hasD, decide_eq_false_iff_not]
       omega
      ·obtain ⟨_, _, lf, hlf, rfl⟩ := h
       refine noD_put (noD_map (fun f hf => killO_D hf) hd) ?_
       have := opd_D hd s
       rw [h1] at this
       cases hlf
       ·exact this
       ·rfl
       ·exact this
      ·exact h.elim
     ·rename_i h1 h2
      obtain ⟨row, _, _, _, rfl⟩ := h
      have := opd_D hd s
      rw [h1] at this
      refine noD_put (noD_map (fun f hf => mapK_D (fun x hx => absK_D (by simpa [FV.hasD, Lf.hasD] using this) hx) hf) hd) ?_
      exact this
     ·exact h.elim
   ·exact h.elim
  ·split at h
   ·rcases h with ⟨ps, _, x, _, _, rfl⟩ | ⟨_, ps, _, z', x, _, _, _, rfl⟩
    ·exact noD_put hd rfl
    ·exact noD_put (noD_map (fun f hf => mapK_D (fun x hx => kidU_D hx) hf) hd) rfl
   ·split at h
    ·rename_i lab e k l fs hdd
     obtain ⟨_, ps, _, l', x, _, _, _, rfl⟩ := h
     refine noD_put (noD_map (fun f hf => mapK_D (fun x hx => deepU_D hx) hf) hd) ?_
     have hl : Lf.hasD d (.deep lab e k l) = false := by
      have := hdD_args_D hd hdd
      exact this
     unfold resDF
     split
     ·rfl
     ·cases x with
      | darr n y => simpa [FV.hasD, resD, Lf.hasD] using hl
      | _ => rfl
    ·rcases h with ⟨ps, _, x, _, _, rfl⟩ | ⟨_, ps, _, _, e, k, rows, _, rfl⟩ | ⟨avs, hav, ps, _, _, qs, r, _, _, rfl⟩
     ·exact noD_put hd rfl
     ·refine noD_put hd ?_
      simp only [FV.hasD, List.any_cons, List.any_nil, Bool.or_false, Lf.hasD, decide_eq_false_iff_not]
      omega
     ·exact noD_put (noD_map (fun f hf => mutF_D hf) hd) (resFV_D (args_D hd hav))
  ·split at h
   ·obtain ⟨_, h⟩ := h
    split at h
    ·exact h.elim
    ·split at h
     ·obtain ⟨_, m, rows, _, _, _, rfl⟩ := h
      exact noD_put (noD_map (fun f hf => mapLB_D (fun x hx => setA_D hx) hf) hd) rfl
     ·obtain ⟨_, m, rows, _, _, _, rfl⟩ := h
      exact noD_put (noD_map (fun f hf => mapLB_D (fun x hx => setA_D hx) hf) hd) rfl
     ·exact h.elim
   ·exact h.elim
  ·exact h.elim
 ·split at h
  ·split at h
   ·obtain ⟨z, hz, rfl⟩ := h
    exact noD_put (noD_map (fun f hf => dropB_D hf) hd) rfl
   ·exact h.elim
  ·exact h.elim
 ·exact h.elim

/-- A label that is laid nowhere in T, and that this operation does not lay, is laid nowhere behind it. -/
theorem St_D {d : Nat} (hz : ∀ t r, Γ.get t = some r → r.zero.any (Lf.hasD d) = false) (h : St Γ ei Den ops o T T') (hsm : d < 1000000) (hd : noD T d = true) (hn : creates o.op = true → o.dst.getD 0 ≠ d) : noD T' d = true := by
 cases hs : serial Γ o.op with
 | true =>
  unfold St evOp at h
  split at h
  ·rw [hs] at h
   exact Sk_D hsm h hd
  ·rw [← h]
   exact noD_put hd rfl
  ·exact h.elim
 | false =>
  obtain ⟨f, rfl, hv⟩ := St_val hs h
  refine noD_put hd ?_
  rcases hv with ⟨_, hv⟩ | ⟨_, rfl⟩
  ·cases hf : f.hasD d with
   | false => rfl
   | true =>
    rcases Yk_D hz hv hf with ⟨h1, h2⟩ | ⟨x, _, h2⟩
    ·exact absurd h2.symm (hn h1)
    ·rw [opd_D hd x] at h2
     cases h2
  ·rfl

/-! ### boxes, along a region -/
def bl : FV → Option Lab
 | .box l _ _ => some l
 | _ => none
def prodOp (ops : List Oper) (t : Nat) : List Oper := ops.filter fun o => match o.dst with
 | some d => Nat.beq d t
 | none => false
/-- The box that a temporary leads to, all through a region, as soon as it has its value. -/
def rootL (ops : List Oper) (T0 : List FV) (t : Nat) : Option Lab :=
 match prodOp ops t with
 | [] => bl (T0.getD t .any)
 | [o] => match o.op with
  | .fieldAddr _ (.tmp y) _ => match prodOp ops y, T0.getD t .any with
   | [], .any => bl (T0.getD y .any)
   | _, _ => none
  | _ => none
 | _ => none
def Inv (ops : List Oper) (T0 T : List FV) : Prop := ∀ t l, rootL ops T0 t = some l → bl (T.getD t .any) = some l ∨ T.getD t .any = .any ∨ T.getD t .any = .tup []

theorem Inv.start (ops : List Oper) (T0 : List FV) : Inv ops T0 T0 := by
 intro t l h
 unfold rootL at h
 split at h
 ·exact .inl h
 ·split at h
  ·split at h
   ·rename_i h1
    exact .inr (.inl h1)
   ·cases h
  ·cases h
 ·cases h
theorem bl_some {f : FV} {l : Lab} (h : bl f = some l) : ∃ cs off, f = .box l cs off := by
 cases f <;> simp [bl] at h
 subst h
 exact ⟨_, _, rfl⟩
/-- What an operation does to the others' values. -/
def Keep (g : FV → FV) : Prop := g .any = .any ∧ g (.tup []) = .tup [] ∧ ∀ l cs off, bl (g (.box l cs off)) = some l ∨ g (.box l cs off) = .any
theorem Keep.id : Keep (fun f => f) := ⟨rfl, rfl, fun _ _ _ => .inl rfl⟩
theorem St_keep (h : St Γ ei Den ops o T T') : ∃ g f, Keep g ∧ T' = put (T.map g) o.dst f ∧ (serial Γ o.op = false → Val Γ ei Den ops o T f) := by
 have quiet : serial Γ o.op = false → ∃ g f, Keep g ∧ T' = put (T.map g) o.dst f ∧ (serial Γ o.op = false → Val Γ ei Den ops o T f) := fun hs => by
  obtain ⟨f, h1, h2⟩ := St_val hs h
  exact ⟨fun f => f, f, Keep.id, by rw [List.map_id']; exact h1, fun _ => h2⟩
 cases hs : serial Γ o.op with
 | false => simpa only [hs] using quiet hs
 | true =>
  have no : true = false → Val Γ ei Den ops o T (.tup []) := fun e => by cases e
  unfold St evOp at h
  split at h
  ·replace h : Sk Γ ei o T (· = T') := by rw [hs] at h; exact h
   unfold Sk at h
   split at h
   ·split at h
    ·exact h.elim
    ·split at h
     ·obtain ⟨_, _, h⟩ := h
      exact ⟨_, _, ⟨rfl, rfl, fun _ _ _ => .inl rfl⟩, h.symm, fun e => by cases e⟩
     ·obtain ⟨_, _, _, h⟩ := h
      refine ⟨_, _, ⟨rfl, rfl, fun l cs off => ?_⟩, h.symm, fun e => by cases e⟩
      unfold FV.updI
      dsimp only
      split
      ·exact .inr rfl
      ·exact .inl rfl
     ·split at h
      ·obtain ⟨_, _, _, h⟩ := h
       refine ⟨_, _, ⟨rfl, rfl, fun l cs off => ?_⟩, h.symm, fun e => by cases e⟩
       unfold FV.mapLB
       dsimp only
       split
       ·exact .inr rfl
       ·exact .inl rfl
      ·exact h.elim
     ·obtain ⟨row, _, _, _, h⟩ := h
      refine ⟨_, _, ⟨rfl, rfl, fun l cs off => ?_⟩, h.symm, fun e => by cases e⟩
      unfold FV.mapK
      dsimp only
      split
      ·exact .inr rfl
      ·exact .inl rfl
     ·exact h.elim
   ·split at h
    ·split at h
     ·obtain ⟨_, h⟩ := h
      split at h
      ·exact h.elim
      ·split at h
       ·obtain ⟨y, z, _, _, q, _, _, h⟩ := h
        split at h
        ·obtain ⟨_, h⟩ := h
         exact ⟨fun f => f, _, Keep.id, by rw [List.map_id']; exact h.symm, fun e => by cases e⟩
        ·obtain ⟨_, _, lf, _, h⟩ := h
         exact ⟨_, _, ⟨rfl, rfl, fun _ _ _ => .inl rfl⟩, h.symm, fun e => by cases e⟩
        ·exact h.elim
       ·obtain ⟨row, _, _, _, h⟩ := h
        refine ⟨_, _, ⟨rfl, rfl, fun l cs off => ?_⟩, h.symm, fun e => by cases e⟩
        unfold FV.mapK
        dsimp only
        split
        ·exact .inr rfl
        ·exact .inl rfl
       ·exact h.elim
     ·exact h.elim
    ·split at h
     ·rcases h with ⟨ps, _, x, _, _, h⟩ | ⟨_, ps, _, y, x, _, _, _, h⟩
      ·exact ⟨fun f => f, _, Keep.id, by rw [List.map_id']; exact h.symm, fun e => by cases e⟩
      ·refine ⟨_, _, ⟨rfl, rfl, fun l cs off => ?_⟩, h.symm, fun e => by cases e⟩
       unfold FV.mapK
       dsimp only
       split
       ·exact .inr rfl
       ·exact .inl rfl
     ·split at h
      ·obtain ⟨_, ps, _, y, x, _, _, _, h⟩ := h
       refine ⟨_, _, ⟨rfl, rfl, fun l cs off => ?_⟩, h.symm, fun e => by cases e⟩
       unfold FV.mapK
       dsimp only
       split
       ·exact .inr rfl
       ·exact .inl rfl
      ·rcases h with ⟨ps, _, x, _, _, h⟩ | ⟨_, ps, _, _, e, k, rows, _, h⟩ | ⟨avs, _, ps, _, _, qs, r, _, _, h⟩
       ·exact ⟨fun f => f, _, Keep.id, by rw [List.map_id']; exact h.symm, fun e => by cases e⟩
       ·exact ⟨fun f => f, _, Keep.id, by rw [List.map_id']; exact h.symm, fun e => by cases e⟩
       ·exact ⟨_, _, ⟨rfl, rfl, fun _ _ _ => .inl rfl⟩, h.symm, fun e => by cases e⟩
    ·split at h
     ·obtain ⟨_, h⟩ := h
      split at h
      ·exact h.elim
      ·split at h
       ·obtain ⟨_, m, rows, _, _, _, h⟩ := h
        refine ⟨_, _, ⟨rfl, rfl, fun l cs off => ?_⟩, h.symm, fun e => by cases e⟩
        unfold FV.mapLB
        dsimp only
        split
        ·exact .inr rfl
        ·exact .inl rfl
       ·obtain ⟨_, m, rows, _, _, _, h⟩ := h
        refine ⟨_, _, ⟨rfl, rfl, fun l cs off => ?_⟩, h.symm, fun e => by cases e⟩
        unfold FV.mapLB
        dsimp only
        split
        ·exact .inr rfl
        ·exact .inl rfl
       ·exact h.elim
     ·exact h.elim
    ·exact h.elim
   ·split at h
    ·split at h
     ·obtain ⟨z, hz, h⟩ := h
      refine ⟨_, _, ⟨rfl, rfl, fun l cs off => ?_⟩, h.symm, fun e => by cases e⟩
      unfold FV.dropB
      split
      ·exact .inr rfl
      ·exact .inl rfl
     ·exact h.elim
    ·exact h.elim
   ·exact h.elim
  ·exact ⟨fun f => f, _, Keep.id, by rw [List.map_id']; exact h.symm, fun e => by cases e⟩
  ·exact h.elim
theorem mem_prodOp {o : Oper} {t : Nat} (ho : o ∈ ops) (hd : o.dst = some t) : o ∈ prodOp ops t := by
 unfold prodOp
 rw [List.mem_filter]
 exact ⟨ho, by rw [hd]; simp⟩
theorem put_getD_self {t : Nat} {f : FV} (h : t < T.length) : (put T (some t) f).getD t .any = f := by
 simp [put, List.getD, h]
theorem Inv.step {T0 : List FV} (hin : o ∈ ops) (h : St Γ ei Den ops o T T') (hi : Inv ops T0 T) : Inv ops T0 T' := by
 obtain ⟨g, f, hk, rfl, hv⟩ := St_keep h
 intro t l hr
 by_cases hd : o.dst = some t
 ·-- the operation's own temporary: an address of a field
  have hm := mem_prodOp hin hd
  unfold rootL at hr
  split at hr
  ·rename_i he
   rw [he] at hm
   cases hm
  ·rename_i o' he
   rw [he] at hm
   have : o = o' := by simpa using hm
   subst this
   split at hr
   ·rename_i s y fi ho
    split at hr
    ·rename_i hy hT0
     have hry : rootL ops T0 y = some l := by unfold rootL; rw [hy]; exact hr
     have hval := hv (by rw [ho]; rfl)
     by_cases hlt : t < (T.map g).length
     ·rw [hd, put_getD_self hlt]
      rcases hval with ⟨_, hY⟩ | ⟨_, rfl⟩
      ·unfold Yk at hY
       simp only [ho] at hY
       split at hY
       ·split at hY
        ·exact hY.elim
        ·have hy0 : opd T (.tmp y) = T.getD y .any := rfl
         rw [hy0] at hY
         rcases hi y l hry with h1 | h1 | h1
         ·obtain ⟨cs, off, h1⟩ := bl_some h1
          rw [h1] at hY
          rw [← hY]
          exact .inl rfl
         ·rw [h1] at hY; exact hY.elim
         ·rw [h1] at hY; exact hY.elim
       ·exact hY.elim
      ·exact .inr (.inr rfl)
     ·have : (put (T.map g) o.dst f).getD t .any = .any := by
       rw [hd]
       simp only [put, List.getD, List.getElem?_set]
       rw [if_pos trivial, if_neg hlt]
       rfl
      exact .inr (.inl this)
    ·cases hr
   ·cases hr
  ·cases hr
 ·rw [put_getD hd, getD_map hk.1]
  rcases hi t l hr with h1 | h1 | h1
  ·obtain ⟨cs, off, h1⟩ := bl_some h1
   rw [h1]
   rcases hk.2.2 l cs off with h2 | h2
   ·exact .inl h2
   ·exact .inr (.inl h2)
  ·rw [h1, hk.1]
   exact .inr (.inl rfl)
  ·rw [h1, hk.2.1]
   exact .inr (.inr rfl)

/-- An operation that a store to a box elsewhere does not touch. -/
def commB (ops : List Oper) (T0 : List FV) (oj oi : Oper) : Bool := match oi.op with
 | .store _ (.tmp ta) _ => match rootL ops T0 ta with
  | some lab => match oj.op with
   | .move _ => true
   | .assign _ => true
   | .fieldAddr _ (.tmp y) _ => (rootL ops T0 y).isSome
   | .load _ (.tmp x) => match rootL ops T0 x with
    | some l' => !decide (l' = lab)
    | none => false
   | _ => false
  | none => false
 | _ => false
theorem opd_nice {g : FV → FV} {G : Lf → Lf} (hn : Nice g G) (x : Operand) : opd (T.map g) x = g (opd T x) := by
 cases x with
 | tmp t => exact getD_map hn.any t
 | const v =>
  show constFV v = g (constFV v)
  unfold constFV
  split <;> first | exact hn.any.symm | (rw [hn.v]; simp [hn.p, hn.nil])
 | global q => exact hn.any.symm
 | func f => show FV.v false [.p (.fn f)] = g (.v false [.p (.fn f)]); rw [hn.v]; simp [hn.p]
theorem Yk_nice {T0 : List FV} {lab : Lab} {cs' : List Lf} {o1 : Oper} {f : FV} (hi : Inv ops T0 T) {ta : Nat} {t : TypeId} {x : Operand} {o2 : Oper} (ho2 : o2.op = .store t (.tmp ta) x) (hc : commB ops T0 o1 o2 = true) (hla : rootL ops T0 ta = some lab)
  (hY : Yk Γ ei Den o1 (opd T) (· = f)) : Yk Γ ei Den o1 (opd (T.map (FV.stoBox lab cs'))) (· = FV.stoBox lab cs' f) := by
 have hn : Nice (FV.stoBox lab cs') (killL lab) := ⟨rfl, fun _ _ => rfl, fun _ => rfl, fun _ => rfl, rfl⟩
 unfold commB at hc
 rw [ho2] at hc
 simp only [hla] at hc
 split at hc
 ·rename_i y ho
  unfold Yk at hY ⊢
  simp only [ho] at hY ⊢
  rw [opd_nice hn, hY]
 ·rename_i y ho
  unfold Yk at hY ⊢
  simp only [ho] at hY ⊢
  rw [opd_nice hn, hY]
 ·rename_i s y fi ho
  obtain ⟨l, hl⟩ := Option.isSome_iff_exists.1 hc
  unfold Yk at hY ⊢
  simp only [ho] at hY ⊢
  split at hY
  ·rename_i hr
   try simp only [hr]
   split at hY
   ·exact hY.elim
   ·rename_i q hq
    try simp only [hq]
    rw [opd_nice hn]
    have hy0 : opd T (.tmp y) = T.getD y .any := rfl
    rw [hy0] at hY ⊢
    rcases hi y l hl with h1 | h1 | h1
    ·obtain ⟨cs, off, h1⟩ := bl_some h1
     rw [h1] at hY ⊢
     rw [← hY]
     rfl
    ·rw [h1] at hY; exact hY.elim
    ·rw [h1] at hY; exact hY.elim
  ·exact hY.elim
 ·rename_i u y ho
  split at hc
  ·rename_i l' hl
   have hne : l' ≠ lab := by simpa using hc
   unfold Yk at hY ⊢
   simp only [ho] at hY ⊢
   split at hY
   ·exact hY.elim
   ·rename_i r hr
    try simp only [hr]
    rw [opd_nice hn]
    have hy0 : opd T (.tmp y) = T.getD y .any := rfl
    rw [hy0] at hY ⊢
    rcases hi y l' hl with h1 | h1 | h1
    ·obtain ⟨cs, off, h1⟩ := bl_some h1
     rw [h1] at hY ⊢
     have e : FV.stoBox lab cs' (.box l' cs off) = .box l' (cs.map (killL lab)) off := by unfold FV.stoBox; dsimp only; rw [decide_eq_false hne]
     rw [e]
     dsimp only at hY ⊢
     cases hrc : r.cells with
     | some n =>
      simp only [hrc] at hY ⊢
      obtain ⟨h2, h3⟩ := hY
      refine ⟨by simpa using h2, ?_⟩
      rw [← h3, hn.v]
      simp [List.map_drop, List.map_take]
     | none =>
      simp only [hrc] at hY ⊢
      obtain ⟨z, h2, h3⟩ := hY
      refine ⟨killL lab z, by simp [h2], ?_⟩
      rw [← h3, hn.v]
      rfl
    ·rw [h1] at hY; exact hY.elim
    ·rw [h1] at hY; exact hY.elim
  ·cases hc
 ·cases hc
theorem St_swap3 {T0 : List FV} {o1 o2 : Oper} {T1 T2 : List FV} (hin1 : o1 ∈ ops) (hi : Inv ops T0 T) (hc : commB ops T0 o1 o2 = true) (hap : o1.apart ops.toArray o2 = true)
  (h1 : St Γ ei Den ops o1 T T1) (h2 : St Γ ei Den ops o2 T1 T2) : ∃ T1', St Γ ei Den ops o2 T T1' ∧ St Γ ei Den ops o1 T1' T2 := by
 obtain ⟨ha, hb, hcc⟩ := Oper.apart_spec hap
 have hc0 := hc
 unfold commB at hc
 split at hc
 ·rename_i t ta x ho2
  split at hc
  ·rename_i lab hla
   have q1 : serial Γ o1.op = false := by
    split at hc <;> rename_i ho <;> first | (rw [ho]; rfl) | cases hc
   have q2 : serial Γ o2.op = true := by rw [ho2]; rfl
   have hi1 := hi.step hin1 h1
   obtain ⟨f1, rfl, hv1⟩ := St_val q1 h1
   have hcg : ∀ t ∈ o2.looksAt ops.toArray, (put T o1.dst f1).getD t .any = T.getD t .any := fun t ht => put_getD (fun e => ha t e ht)
   unfold St evOp at h2
   split at h2
   ·rename_i hw
    rw [q2] at h2
    have hops := opd_congr hcg
    -- the store's address is a box
    have hsk : ∃ cs', T2 = put ((put T o1.dst f1).map (FV.stoBox lab cs')) o2.dst (.tup []) ∧ Sk Γ ei o2 T (· = put (T.map (FV.stoBox lab cs')) o2.dst (.tup [])) := by
     have ea : opd (put T o1.dst f1) (.tmp ta) = opd T (.tmp ta) := hops (.tmp ta) (by rw [ho2]; simp [Op.operands])
     have ex : opd (put T o1.dst f1) x = opd T x := hops x (by rw [ho2]; simp [Op.operands])
     unfold Sk at h2 ⊢
     simp only [ho2] at h2 ⊢
     split at h2
     ·exact h2.elim
     ·rename_i r hr
      try simp only [hr]
      have hbox := hi1 ta lab hla
      have e0 : opd (put T o1.dst f1) (.tmp ta) = (put T o1.dst f1).getD ta .any := rfl
      rw [← e0] at hbox
      rcases hbox with hbx | hbx | hbx
      ·obtain ⟨cs, off, hbx⟩ := bl_some hbx
       rw [hbx] at h2
       rw [← ea, hbx]
       rw [← ex]
       split at h2
       ·rename_i l3 cs3 off3 a3 xs3 heq hx
        cases heq
        obtain ⟨h3, h4, h5⟩ := h2
        refine ⟨over cs off xs3, h5.symm, ?_⟩
        simp only [hx]
        exact ⟨h3, h4, trivial⟩
       ·rename_i heq _; cases heq
       ·rename_i heq _; cases heq
       ·rename_i heq _; cases heq
       ·exact h2.elim
      ·rw [hbx] at h2
       split at h2 <;> first | exact h2.elim | (rename_i heq _; cases heq)
      ·rw [hbx] at h2
       split at h2 <;> first | exact h2.elim | (rename_i heq _; cases heq)
    obtain ⟨cs', hT2, hsk⟩ := hsk
    have hn : Nice (FV.stoBox lab cs') (killL lab) := ⟨rfl, fun _ _ => rfl, fun _ => rfl, fun _ => rfl, rfl⟩
    refine ⟨put (T.map (FV.stoBox lab cs')) o2.dst (.tup []), ?_, ?_⟩
    ·unfold St evOp
     rw [← wanted_congr hcg, hw, q2]
     exact hsk
    ·have hv : Val Γ ei Den ops o1 (put (T.map (FV.stoBox lab cs')) o2.dst (.tup [])) (FV.stoBox lab cs' f1) := by
      have hcg2 : ∀ t ∈ o1.looksAt ops.toArray, (T.map (FV.stoBox lab cs')).getD t .any = (put (T.map (FV.stoBox lab cs')) o2.dst (.tup [])).getD t .any := fun t ht => (put_getD (fun e => hcc t e ht)).symm
      refine Val_congr hcg2 ?_
      rcases hv1 with ⟨hw1, hy⟩ | ⟨hw1, rfl⟩
      ·exact .inl ⟨wanted_nice hn hw1, Yk_nice hi ho2 hc0 hla hy⟩
      ·exact .inr ⟨wanted_nice hn hw1, hn.tup []⟩
     have h3 := val_St q1 hv
     rw [hT2, put_map, put_comm (fun t ht => hb t ht)]
     exact h3
   ·rename_i hw
    refine ⟨put T o2.dst (.tup []), ?_, ?_⟩
    ·unfold St evOp
     rw [← wanted_congr hcg, hw]
    ·have hv : Val Γ ei Den ops o1 (put T o2.dst (.tup [])) f1 := Val_congr (fun t ht => (put_getD (fun e => hcc t e ht)).symm) hv1
     have h3 := val_St q1 hv
     rw [← h2, put_comm (fun t ht => hb t ht)]
     exact h3
   ·exact h2.elim
  ·cases hc
 ·cases hc
/-! ### a copy, with a move ahead of it -/
def isCp : Op → Bool
 | .call c => match c.callee with
  | .builtin .copy => true
  | _ => false
 | _ => false
def isMv : Op → Bool
 | .move (.tmp _) => true
 | _ => false
def isAny : FV → Bool
 | .any => true
 | _ => false
/-- Nothing lies in an operation's temporary, and no other operation fills it. -/
def freshB (ops : List Oper) (T0 : List FV) (o : Oper) : Bool := match o.dst with
 | some d => isAny (T0.getD d .any) && Nat.beq (prodOp ops d).length 1
 | none => false
def commC (ops : List Oper) (T0 : List FV) (oj oi : Oper) : Bool := isMv oj.op && (isCp oi.op && freshB ops T0 oj)
theorem lenOs_iff {lab : Lab} {n : Nat} {c : Prop} {xs : List Lf} : lenOs lab n xs c ↔ lenOs lab n xs True ∧ c := by
 induction xs with
 | nil => simp [lenOs]
 | cons x xs ih =>
  cases x with
  | own l e y =>
   cases y with
   | arr k z =>
    unfold lenOs
    cases decide (l = lab) with
    | true => dsimp only; rw [ih, and_assoc]
    | false => exact ih
   | _ => exact ih
  | _ => exact ih
theorem lenOT_iff {lab : Lab} {n : Nat} : ∀ {T : List FV}, lenOT lab n T True ↔ ∀ f ∈ T, lenOs lab n f.lvs2 True
 | [] => by simp [lenOT]
 | f :: T => by
  unfold lenOT
  rw [lenOs_iff, lenOT_iff]
  simp
theorem lenOT_put {lab : Lab} {n d : Nat} {f : FV} (hd : T.getD d .any = .any) (h : lenOT lab n (put T (some d) f) True) : lenOT lab n T True := by
 rw [lenOT_iff] at h ⊢
 intro q hq
 obtain ⟨i, hi⟩ := List.getElem?_of_mem hq
 by_cases e : i = d
 ·subst e
  have : T.getD i .any = q := by simp [List.getD, hi]
  rw [hd] at this
  subst this
  exact True.intro
 ·refine h q (List.mem_of_getElem? (i := i) ?_)
  show (T.set d f)[i]? = some q
  rw [List.getElem?_set_ne (fun h => e h.symm)]
  exact hi
theorem Sk_cp {o : Oper} {T2 : List FV} (hs : isCp o.op = true) (h : Sk Γ ei o T (· = T2)) : ∃ g G f, Nice g G ∧ g f = f ∧ T2 = put (T.map g) o.dst f ∧
  ∀ T', (∀ y ∈ o.op.operands, opd T y = opd T' y) → (∀ lab n, lenOT lab n T True → lenOT lab n T' True) → Sk Γ ei o T' (· = put (T'.map g) o.dst f) := by
 unfold isCp at hs
 split at hs
 ·rename_i c ho
  split at hs
  ·rename_i hc
   unfold Sk at h
   simp only [ho, hc] at h
   split at h
   ·rename_i x y t t' h1 h2
    have hop : ∀ {T' : List FV}, (∀ y ∈ o.op.operands, opd T y = opd T' y) → opd T x = opd T' x ∧ opd T y = opd T' y := fun {T'} hq =>
     ⟨hq x (by rw [ho]; simp [Op.operands, Call.operands]; exact .inr (by rw [← Array.mem_toList_iff, h1]; simp)), hq y (by rw [ho]; simp [Op.operands, Call.operands]; exact .inr (by rw [← Array.mem_toList_iff, h1]; simp))⟩
    obtain ⟨h0, h⟩ := h
    split at h
    ·exact h.elim
    ·rename_i r hr
     split at h
     ·rename_i lab e k l k2 q h3 h4
      obtain ⟨g1, m, rows, hm, hrw, hl, h5⟩ := h
      refine ⟨FV.mapLB lab (setA lab k rows), setA lab k rows, _, ⟨rfl, fun _ _ => rfl, fun _ => rfl, fun _ => rfl, rfl⟩, rfl, h5.symm, fun T' hq hlen => ?_⟩
      obtain ⟨e1, e2⟩ := hop hq
      unfold Sk
      simp only [ho, hc, h1, h2, hr, ← e1, ← e2, h3, h4]
      exact ⟨h0, g1, m, rows, hm, hrw, hlen _ _ hl, rfl⟩
     ·rename_i lab e k l i j lab2 e2 k2 q i2 j2 h3 h4
      obtain ⟨g1, m, rows, hm, hrw, hl, h5⟩ := h
      refine ⟨FV.mapLB lab (setA lab k rows), setA lab k rows, _, ⟨rfl, fun _ _ => rfl, fun _ => rfl, fun _ => rfl, rfl⟩, rfl, h5.symm, fun T' hq hlen => ?_⟩
      obtain ⟨e1, e2⟩ := hop hq
      unfold Sk
      simp only [ho, hc, h1, h2, hr, ← e1, ← e2, h3, h4]
      exact ⟨h0, g1, m, rows, hm, hrw, hlen _ _ hl, rfl⟩
     ·exact h.elim
   ·exact h.elim
  ·cases hs
 ·cases hs
theorem isCp_serial {x : Op} (h : isCp x = true) : serial Γ x = true := by
 unfold isCp at h
 split at h
 ·split at h
  ·rename_i hc
   unfold serial
   simp only [hc]
  ·cases h
 ·cases h
theorem St_swap4 {o1 o2 : Oper} {T1 T2 : List FV} (hm : isMv o1.op = true) (hs2 : isCp o2.op = true) (hfr : ∃ d, o1.dst = some d ∧ T.getD d .any = .any) (hap : o1.apart ops.toArray o2 = true)
  (h1 : St Γ ei Den ops o1 T T1) (h2 : St Γ ei Den ops o2 T1 T2) : ∃ T1', St Γ ei Den ops o2 T T1' ∧ St Γ ei Den ops o1 T1' T2 := by
 obtain ⟨ha, hb, hc⟩ := Oper.apart_spec hap
 obtain ⟨d, hd, hany⟩ := hfr
 have q1 : serial Γ o1.op = false := by cases ho : o1.op <;> rw [ho] at hm <;> first | rfl | cases hm
 have q2 : serial Γ o2.op = true := isCp_serial hs2
 obtain ⟨f1, rfl, hv1⟩ := St_val q1 h1
 have hcg : ∀ t ∈ o2.looksAt ops.toArray, (put T o1.dst f1).getD t .any = T.getD t .any := fun t ht => put_getD (fun e => ha t e ht)
 unfold St evOp at h2
 split at h2
 ·rename_i hw
  rw [q2] at h2
  obtain ⟨g, G, f, hn, hgf, hT2, hall⟩ := Sk_cp hs2 h2
  have hsk := hall T (opd_congr hcg) (fun lab n hl => by rw [hd] at hl; exact lenOT_put hany hl)
  refine ⟨put (T.map g) o2.dst f, ?_, ?_⟩
  ·unfold St evOp
   rw [← wanted_congr hcg, hw, q2]
   exact hsk
  ·have hv : Val Γ ei Den ops o1 (put (T.map g) o2.dst f) (g f1) := by
    have hcg2 : ∀ t ∈ o1.looksAt ops.toArray, (T.map g).getD t .any = (put (T.map g) o2.dst f).getD t .any := fun t ht => (put_getD (fun e => hc t e ht)).symm
    refine Val_congr hcg2 ?_
    rcases hv1 with ⟨hw1, hy⟩ | ⟨hw1, rfl⟩
    ·refine .inl ⟨wanted_nice hn hw1, ?_⟩
     unfold isMv at hm
     split at hm
     ·rename_i t ho
      unfold Yk at hy ⊢
      simp only [ho] at hy ⊢
      show (T.map g).getD t .any = g f1
      rw [getD_map hn.any]
      exact congrArg g hy
     ·cases hm
    ·exact .inr ⟨wanted_nice hn hw1, hn.tup []⟩
   have h3 := val_St q1 hv
   rw [hT2, put_map, put_comm (fun t ht => hb t ht)]
   exact h3
 ·rename_i hw
  refine ⟨put T o2.dst (.tup []), ?_, ?_⟩
  ·unfold St evOp
   rw [← wanted_congr hcg, hw]
  ·have hv : Val Γ ei Den ops o1 (put T o2.dst (.tup [])) f1 := Val_congr (fun t ht => (put_getD (fun e => hc t e ht)).symm) hv1
   have h3 := val_St q1 hv
   rw [← h2, put_comm (fun t ht => hb t ht)]
   exact h3
 ·exact h2.elim
/-- Temporaries of operations that are still to come are empty. -/
def Fresh (ops : Array Oper) (T0 : List FV) (L : List Nat) (T : List FV) : Prop := ∀ j ∈ L, ∀ oj, ops[j]? = some oj → freshB ops.toList T0 oj = true → ∀ d, oj.dst = some d → T.getD d .any = .any
theorem Fresh.start {ops : Array Oper} {T0 : List FV} {L : List Nat} : Fresh ops T0 L T0 := fun j _ oj _ hf d hd => by
 unfold freshB at hf
 rw [hd] at hf
 simp only [Bool.and_eq_true] at hf
 cases hh : T0.getD d .any <;> rw [hh] at hf <;> first | rfl | cases hf.1
theorem filter_two {α : Type} {p : α → Bool} : ∀ {l : List α} {i j : Nat} {x y : α}, i < j → l[i]? = some x → l[j]? = some y → p x = true → p y = true → 2 ≤ (l.filter p).length
 | [], i, j, x, y, _, h, _, _, _ => by simp at h
 | a :: l, 0, j + 1, x, y, _, hi, hj, hx, hy => by
  simp at hi hj
  subst hi
  rw [List.filter_cons_of_pos hx, List.length_cons]
  have : 0 < (l.filter p).length := List.length_pos_of_mem (List.mem_filter.2 ⟨List.mem_of_getElem? hj, hy⟩)
  omega
 | a :: l, i + 1, j + 1, x, y, h, hi, hj, hx, hy => by
  have := filter_two (l := l) (i := i) (j := j) (by omega) (by simpa using hi) (by simpa using hj) hx hy
  rw [List.filter_cons]
  split
  ·rw [List.length_cons]; omega
  ·exact this
theorem prod_ne {ops : List Oper} {T0 : List FV} {k j : Nat} {ok oj : Oper} {d : Nat} (hkj : k ≠ j) (hk : ops[k]? = some ok) (hj : ops[j]? = some oj) (hf : freshB ops T0 oj = true) (hd : oj.dst = some d) : ok.dst ≠ some d := by
 intro e
 unfold freshB at hf
 rw [hd] at hf
 simp only [Bool.and_eq_true] at hf
 have h1 := Nat.eq_of_beq_eq_true hf.2
 unfold prodOp at h1
 have a1 : (fun o : Oper => match o.dst with | some d' => Nat.beq d' d | none => false) ok = true := by simp [e]
 have a2 : (fun o : Oper => match o.dst with | some d' => Nat.beq d' d | none => false) oj = true := by simp [hd]
 rcases Nat.lt_or_gt_of_ne hkj with h | h
 ·have := filter_two (p := fun o : Oper => match o.dst with | some d' => Nat.beq d' d | none => false) h hk hj a1 a2; omega
 ·have := filter_two (p := fun o : Oper => match o.dst with | some d' => Nat.beq d' d | none => false) h hj hk a2 a1; omega
theorem Fresh.step {ops : Array Oper} {T0 : List FV} {L : List Nat} (hnd : L.Nodup) {k : Nat} {ok : Oper} {T' : List FV} (hk : ops[k]? = some ok) (h : St Γ ei Den ops.toList ok T T') (hf : Fresh ops T0 L T) : Fresh ops T0 (L.erase k) T' := by
 obtain ⟨g, f, hg, rfl, _⟩ := St_keep h
 intro j hj oj hoj hfr d hd
 rw [hnd.mem_erase_iff] at hj
 have hne := prod_ne (fun e => hj.1 e.symm) (by simpa using hk) (by simpa using hoj) hfr hd
 rw [put_getD hne, getD_map hg.1, hf j hj.2 oj hoj hfr d hd, hg.1]
end

end Go.Vx
end
section
/- Vx, part 11: regions are sound. -/
namespace Go.Vx
open Go.RowKit

section
variable {F : Fr} {β : BM} {T T1 : List FV} {a : Act} {w : World} {o : Oper} {Γ : Tab} {ei : TypeId} {Q : Exit → Act → World → Prop} {K : Act → World → Prop}
 {Den : FuncId → List PV → Bool → Res → Prop} {ops : Array Oper}

theorem getD_get {t : Nat} {f : FV} (h : T.getD t .any = f) (hf : f ≠ .any) : T[t]? = some f := by
 by_cases ht : t < T.length
 ·have h1 : T.getD t .any = T[t] := by simp [List.getD, List.getElem?_eq_getElem ht]
  rw [← h, h1, List.getElem?_eq_getElem ht]
 ·have h1 : T.getD t .any = .any := by simp [List.getD, List.getElem?_eq_none (Nat.le_of_not_lt ht)]
  rw [h1] at h
  exact absurd h.symm hf

theorem wanted_sound (h : Sim F β T a w) {b : Bool} (hw : wantedA ops.toList o T = some b) : Region.wanted o (yielded ops a.tmps) = b := by
 unfold wantedA at hw
 unfold Region.wanted
 cases hg : o.guard with
 | none => rw [hg] at hw; cases hw; rfl
 | some q =>
  obtain ⟨j, want⟩ := q
  rw [hg] at hw
  dsimp only at hw ⊢
  split at hw
  ·rename_i t ht
   have ht' : (ops[j]?).bind (·.dst) = some t := by simpa using ht
   have hy : yielded ops a.tmps j = (match a.tmps[t]? with | some (.bool b) => some b | _ => none) := by
    unfold yielded
    rw [ht']
    rfl
   split at hw
   ·rename_i b' hb
    obtain ⟨c, hc, hr⟩ := h.rel t _ (getD_get hb (by simp))
    have hr := R_bool hr
    subst hr
    cases hw
    rw [hy, hc]
    cases b' <;> cases want <;> rfl
   ·rename_i hb
    obtain ⟨c, hc, hr⟩ := h.rel t _ (getD_get hb (by simp))
    obtain ⟨cs, rfl, hall⟩ := hr
    cases hw
    cases cs with
    | cons x cs => exact hall.elim
    | nil =>
     rw [hy, hc]
     rfl
   ·cases hw
  ·cases hw

/-- A closure that captures an integer variable: the variable is nobody's own any more. -/
theorem s_clo (h : Sim F β T a w) {f : FuncId} {first caps : Array Operand} (ho : o.op = .makeFunc (.func f) first caps) {x : Operand} (hx : first.toList = []) (hc : caps.toList = [x]) {lab : Lab} {cs : List Lf} {off : Nat} (hb : opd T x = .box lab cs off)
  {z : Int} (hz : cs[off]? = some (.p (.int .i64 z))) (hK : ∀ β' c w', Sim F β' (put (T.map (FV.dropB lab)) o.dst (.v false [.p (.clo f z)])) (a.put o.dst c) w' → K (a.put o.dst c) w') : o.wp F.P a w K Q := by
 have hx' : first = #[] := by cases first; simp at hx; rw [hx]
 have hc' : caps = #[x] := by cases caps; simp at hc; rw [hc]
 have hv := opd_R h x
 rw [hb] at hv
 obtain ⟨g, cc, ty, hv, hbl, hh, hall⟩ := hv
 obtain ⟨u, hu, hr⟩ := hall.get off _ hz
 obtain rfl : u = .int .i64 z := hr
 have hcell : w.cell? ⟨g, off, none⟩ = some (.int .i64 z) := by rw [cell_of_row w g off cc ty (0, 0) hh]; simpa using hu
 let β1 : BM := fun l => if l = lab then none else β l
 have h1 : ∀ l b, β1 l = some b → l ≠ lab ∧ β l = some b := by
  intro l b hl
  by_cases hll : l = lab
  ·simp [β1, hll] at hl
  ·simp [β1, hll] at hl; exact ⟨hll, hl⟩
 have hF : Fgt T (T.map fun f => match f.hasB lab with | true => .any | false => f) := by
  refine ⟨by simp, fun i f hf => ?_⟩
  rw [List.getElem?_map] at hf
  obtain ⟨f0, hf0, rfl⟩ := Option.map_eq_some_iff.1 hf
  split
  ·exact .inl rfl
  ·exact .inr hf0
 have hS := (h.forget hF).killed (β' := β1) (w' := w) (lab := lab) ⟨Nat.le_refl _, fun g hg _ => ⟨⟨hg.1, fun l hl => hg.2 l (h1 l g hl).2⟩, rfl⟩⟩ (by
  rw [List.all_eq_true]
  intro f hf
  rw [List.mem_map] at hf
  obtain ⟨f0, _, rfl⟩ := hf
  cases hB : f0.hasB lab with
  | true => rfl
  | false => simp [hB]) (fun l b hl hb => ⟨by simp [β1, hl, hb], rfl⟩) (fun l l' b hl hl' => h.inj l l' b (h1 l b hl).2 (h1 l' b hl').2) (fun l b hl => h.rng l b (h1 l b hl).2) rfl rfl rfl (fun _ _ _ => rfl)
 have hT : (T.map fun f => match f.hasB lab with | true => FV.any | false => f).map (FV.killO lab) = T.map (FV.dropB lab) := by
  rw [List.map_map]
  refine List.map_congr_left fun f _ => ?_
  show FV.killO lab (match f.hasB lab with | true => FV.any | false => f) = f.dropB lab
  unfold FV.dropB
  cases f.hasB lab <;> rfl
 rw [hT] at hS
 refine wp_value (c := .func (.func f) #[] #[.pointer (some ⟨g, off, none⟩)]) (w' := w) ?_ (hK β1 _ w (hS.put o.dst ⟨_, rfl, g, off, rfl, ⟨?_, fun l hl => ?_⟩, (h.rng lab g hbl).1, hcell⟩))
 ·simp [execOp, ho, hx', hc', Instr.makeFunc, hv]
 ·rcases (h.rng lab g hbl).2 with h5 | h5
  ·exact .inr h5
  ·exact .inl (h.mok g h5)
 ·obtain ⟨h6, h7⟩ := h1 l g hl
  exact h6 (h.inj _ _ _ h7 hbl)

theorem op_sound (h : Sim F β T a w) (hT : tabB F.P ei Γ = true) (hD : ∀ g ps fl r, Den g ps fl r → DenS F.P ei g ps fl r) (hM : ∀ g ps qs r, Γ.md g ps qs r → DenM F.P ei g ps qs r) (hDD : ∀ g k l ps l' x, Γ.mdd g k l ps l' x → DenD F.P ei g k l ps l' x) (hSh : ∀ g ps e k rows, Γ.msh g ps e k rows → DenH F.P g ps e k rows) (hno : creates o.op = true → o.dst.getD 0 < 1000000 ∧ noD T (o.dst.getD 0) = true)
  (hs : St Γ ei Den ops.toList o T T1) (hK : ∀ β' c w', Sim F β' T1 (a.put o.dst c) w' → K (a.put o.dst c) w') :
  if Region.wanted o (yielded ops a.tmps) then o.wp F.P a w K Q else K (a.put o.dst undef) w := by
 unfold St evOp at hs
 split at hs
 ·rename_i hw
  rw [if_pos (wanted_sound h hw)]
  split at hs
  ·unfold Sk at hs
   split at hs
   ·rename_i t ad x ho
    split at hs
    ·exact hs.elim
    ·rename_i r hr
     split at hs
     ·rename_i lab cs off a' xs h1 h2
      obtain ⟨g1, g2, rfl⟩ := hs
      exact s_store_box h hT ho hr h1 h2 g1 g2 hK
     ·rename_i lab e l i off z h1 h2
      obtain ⟨g1, g2, g3, rfl⟩ := hs
      exact s_store_elt h hT ho hr h1 h2 g1 g2 g3 hK
     ·rename_i lab e kk l i off a' xs h1 h2
      split at hs
      ·rename_i ys hys
       obtain ⟨g1, g2, g3, rfl⟩ := hs
       exact s_store_row h hT ho hr h1 h2 hys g1 g2 g3 hK
      ·exact hs.elim
     ·rename_i lab e' k' l i off a' xs h1 h2
      obtain ⟨row, g1, g2, g3, rfl⟩ := hs
      exact s_storeD h hT ho hr h1 h2 g1 g2 g3 hK
     ·exact hs.elim
   ·rename_i c ho
    split at hs
    ·rename_i hcc
     split at hs
     ·rename_i s x t t' hargs hts
      obtain ⟨rfl, hs⟩ := hs
      split at hs
      ·exact hs.elim
      ·rename_i r hr
       split at hs
       ·rename_i sv xv h1 h2
        obtain ⟨y, z, g1, g2, q, g3, g4, hs⟩ := hs
        have hdst := (hno (by rw [ho]; rfl)).1
        split at hs
        ·obtain ⟨g5, rfl⟩ := hs
         exact s_append h hT ho hcc hargs hts hr h1 h2 g1 g2 g3 g4 hdst (fun _ => ⟨g5, hK⟩) (fun _ _ _ e => by cases e) (fun _ e => by cases e) (fun e => by cases e)
        ·rename_i lab e y'
         obtain ⟨g5, g6, lf, hlf, rfl⟩ := hs
         refine s_append h hT ho hcc hargs hts hr h1 h2 g1 g2 g3 g4 hdst (fun e => by cases e) (fun _ _ _ e => ?_) (fun _ e => by cases e) (fun e => by cases e)
         cases e
         refine ⟨⟨Nat.eq_of_beq_eq_true (by rw [Bool.and_eq_true] at g5; exact g5.1), by rw [Bool.and_eq_true] at g5; simpa using g5.2⟩, g6, fun β' c w' hsim => ?_⟩
         cases hlf with
         | own => exact hK β' c w' hsim
         | un => exact (hsim.unPut g6).elim fun β2 h2 => hK β2 c w' h2
         | deep kk rows hq hz => exact hK β' c w' (sim_putLe hsim fun v hv => own_deep (by rw [← hq]; exact hv) hz)
        ·exact hs.elim
       ·rename_i lab ei' kk l lab2 kk2 xs h1 h2
        obtain ⟨row, g1, g2, g3, rfl⟩ := hs
        exact s_appendD h hT ho hcc hargs hts hr h1 h2 g1 g2 g3 hK
       ·exact hs.elim
     ·exact hs.elim
    ·rename_i g hcc
     split at hs
     ·rename_i lab e n z fs hd
      rcases hs with ⟨ps, g1, x, g2, g3, rfl⟩ | ⟨g1, ps, g2, z', x, g3, ⟨_, g4, g5⟩, g6, rfl⟩
      ·exact s_rd h ho hcc g1 (hDD _ _ _ _ _ _ g2) (.inl g3) hK
      ·exact s_kid h ho hcc hd g1 g2 (hM _ _ _ _ g3) g4 g5 g6 hK
     ·split at hs
      ·rename_i lab e k l fs hd
       obtain ⟨g1, ps, g2, l', x, g3, ⟨g4, g5⟩, g6, rfl⟩ := hs
       exact s_deep h ho hcc hd g1 g2 (hDD _ _ _ _ _ _ g3) g4 g5 g6 hK
      ·rcases hs with ⟨ps, g1, x, g2, g3, rfl⟩ | ⟨g0, ps, g1, g2, e, k, rows, g3, rfl⟩ | ⟨avs, g1, ps, g2, g3, qs, r, g4, g6, rfl⟩
       ·exact s_rd h ho hcc g1 (hDD _ _ _ _ _ _ g2) g3 hK
       ·exact s_shal h ho hcc g1 g2 (hSh _ _ _ _ _ g3) g0 (hno (by rw [ho]; rfl)).1 hK
       ·exact s_mut h ho hcc g1 g2 g3 (hM _ _ _ _ g4) (lenT_spec g6).1 hK
    ·rename_i hcc
     split at hs
     ·rename_i d s t t' hargs hts
      obtain ⟨rfl, hs⟩ := hs
      split at hs
      ·exact hs.elim
      ·rename_i r hr
       split at hs
       ·rename_i lab e k l k2 q h1 h2
        obtain ⟨g1, m, rows, g2, g3, g4, rfl⟩ := hs
        exact s_copyA h hT ho hcc hargs hts hr h1 h2 g1 g2 g3 g4 hK
       ·rename_i lab e k l i j lab2 e2 k2 q i2 j2 h1 h2
        obtain ⟨g1, m, rows, g2, g3, g4, rfl⟩ := hs
        exact s_copyB h hT ho hcc hargs hts hr h1 h2 g1 g2 g3 g4 hK
       ·exact hs.elim
     ·exact hs.elim
    ·exact hs.elim
   ·rename_i f first caps ho
    split at hs
    ·rename_i x hx hc
     split at hs
     ·rename_i lab cs off hb
      obtain ⟨z, hz, rfl⟩ := hs
      exact s_clo h ho hx hc hb hz hK
     ·exact hs.elim
    ·exact hs.elim
   ·exact hs.elim
  ·refine y_all h ?_ hT (fun hc => ⟨(hno hc).1, noD_has (hno hc).2⟩) hD hs
   intro f β' c w' hf hsim
   subst hf
   exact hK β' c w' hsim
 ·rename_i hw
  rw [if_neg (by rw [wanted_sound h hw]; simp)]
  subst hs
  exact hK β undef w (h.put o.dst ⟨[], rfl, True.intro⟩)
 ·exact hs.elim

/-- The operations that lay labels lay different ones, and none that is in use. -/
def labB (ops : List Oper) (T : List FV) : Bool := ops.all fun o => match creates o.op with
 | true => Nat.blt (o.dst.getD 0) 1000000 && noD T (o.dst.getD 0)
 | false => true
def crDst (ops : List Oper) : List Nat := (ops.filter fun o => creates o.op).map fun o => o.dst.getD 0
def nodupB : List Nat → Bool
 | [] => true
 | x :: xs => xs.all (fun y => !Nat.beq x y) && nodupB xs

theorem nodupB_cons {x : Nat} {xs : List Nat} (h : nodupB (x :: xs) = true) : (∀ y ∈ xs, x ≠ y) ∧ nodupB xs = true := by
 unfold nodupB at h
 rw [Bool.and_eq_true, List.all_eq_true] at h
 refine ⟨fun y hy e => ?_, h.2⟩
 subst e
 have := h.1 x hy
 simp at this

theorem lab_step (hz : ∀ d t r, Γ.get t = some r → r.zero.any (Lf.hasD d) = false) {rest : List Oper} {opsL : List Oper} (hl : labB (o :: rest) T = true) (hn : nodupB (crDst (o :: rest)) = true)
  (hs : St Γ ei Den opsL o T T1) : labB rest T1 = true ∧ nodupB (crDst rest) = true := by
 unfold labB at hl ⊢
 rw [List.all_cons, Bool.and_eq_true] at hl
 have hn2 : nodupB (crDst rest) = true ∧ ∀ o2 ∈ rest, creates o.op = true → creates o2.op = true → o.dst.getD 0 ≠ o2.dst.getD 0 := by
  unfold crDst at hn ⊢
  cases hc : creates o.op with
  | false =>
   rw [List.filter_cons_of_neg (by simp [hc])] at hn
   exact ⟨hn, fun _ _ h => by cases h⟩
  | true =>
   rw [List.filter_cons_of_pos (by simp [hc]), List.map_cons] at hn
   obtain ⟨h1, h2⟩ := nodupB_cons hn
   exact ⟨h2, fun o2 ho2 _ hc2 => h1 _ (List.mem_map.2 ⟨o2, List.mem_filter.2 ⟨ho2, hc2⟩, rfl⟩)⟩
 refine ⟨?_, hn2.1⟩
 rw [List.all_eq_true] at hl ⊢
 intro o2 ho2
 have h2 := hl.2 o2 ho2
 split
 ·rename_i hc2
  rw [hc2] at h2
  dsimp only at h2
  rw [Bool.and_eq_true] at h2 ⊢
  exact ⟨h2.1, St_D (hz _) hs (by simpa using h2.1) h2.2 (fun hc => hn2.2 o2 ho2 hc hc2)⟩
 ·rfl

/-- **A region in the text's order.** -/
theorem list_sound (hT : tabB F.P ei Γ = true) (hD : ∀ g ps fl r, Den g ps fl r → DenS F.P ei g ps fl r) (hM : ∀ g ps qs r, Γ.md g ps qs r → DenM F.P ei g ps qs r) (hDD : ∀ g k l ps l' x, Γ.mdd g k l ps l' x → DenD F.P ei g k l ps l' x) (hSh : ∀ g ps e k rows, Γ.msh g ps e k rows → DenH F.P g ps e k rows) {K' : List FV → Prop} :
  ∀ (rest : List Oper) {β : BM} {T : List FV} {a : Act} {w : World}, Sim F β T a w → labB rest T = true → nodupB (crDst rest) = true → evOps Γ ei Den ops.toList rest T K' →
   (∀ T' β' a' w', K' T' → Sim F β' T' a' w' → Q .normal a' w') → wpList F.P ops Q rest a w
 | [], _, _, _, _, h, _, _, he, hQ => hQ _ _ _ _ he h
 | o :: rest, β, T, a, w, h, hl, hn, he, hQ => by
  obtain ⟨T1, hs, he⟩ := evOp_ex he
  have hl2 := lab_step (fun d t r hr => tab_zero_D hT hr) hl hn hs
  have := op_sound (K := wpList F.P ops Q rest) (Q := Q) h hT hD hM hDD hSh (fun hc => by
   unfold labB at hl
   rw [List.all_cons, Bool.and_eq_true] at hl
   have := hl.1
   rw [hc] at this
   dsimp only at this
   rw [Bool.and_eq_true] at this
   exact ⟨by simpa using this.1, this.2⟩) hs (fun β' c w' hsim => list_sound hT hD hM hDD hSh rest hsim hl2.1 hl2.2 he hQ)
  unfold wpList
  split
  ·rename_i hw
   rw [if_pos hw] at this
   exact .inl this
  ·rename_i hw
   rw [if_neg hw] at this
   exact this

/-! ### any order -/
/-- The text-order states. -/
def Chain (Γ : Tab) (ei : TypeId) (Den : FuncId → List PV → Bool → Res → Prop) (ops : Array Oper) : List Nat → List FV → List FV → Prop
 | [], T, Tn => T = Tn
 | i :: L, T, Tn => ∃ o T1, ops[i]? = some o ∧ St Γ ei Den ops.toList o T T1 ∧ Chain Γ ei Den ops L T1 Tn

def edgeB (o : Oper) (j : Nat) : Bool := o.after.toList.any fun e => Region.binds .any e && Nat.beq e.on j
/-- Edges lead from the one to the other. -/
def reachB (ops : Array Oper) : Nat → Nat → Nat → Bool
 | 0, _, _ => false
 | n + 1, i, j => match ops.toList[i]? with
  | some o => o.after.toList.any fun e => Region.binds .any e && (Nat.beq e.on j || reachB ops n e.on j)
  | none => false
/-- Two operations without a way of edges between them have nothing to do with each other; edges lead back. -/
def pairB (Γ : Tab) (T0 : List FV) (ops : Array Oper) (oi : Oper) (j : Nat) : Bool := edgeB oi j || ((match ops.toList[j]? with
 | some oj => ((!serial Γ oi.op && !serial Γ oj.op) || ((isExt oj.op && isSto oi.op) || (commB ops.toList T0 oj oi || commC ops.toList T0 oj oi))) && oj.apart ops oi
 | none => true) || oi.after.toList.any fun e => Region.binds .any e && reachB ops 16 e.on j)
def regB (Γ : Tab) (T0 : List FV) (ops : Array Oper) : Bool := (List.range ops.toList.length).all fun i => match ops.toList[i]? with
 | some oi => (oi.after.toList.all fun e => !Region.binds .any e || Nat.blt e.on i) && (List.range i).all (pairB Γ T0 ops oi)
 | none => true

theorem regB_spec {T0 : List FV} (h : regB Γ T0 ops = true) {i : Nat} {oi : Oper} (hi : ops[i]? = some oi) :
  (∀ e ∈ oi.after, Region.binds .any e = true → e.on < i) ∧ ∀ j oj, j < i → ops[j]? = some oj → (∀ e ∈ oi.after, Region.binds .any e = true → e.on ≠ j ∧ reachB ops 16 e.on j = false) → ((serial Γ oi.op = false ∧ serial Γ oj.op = false) ∨ (isExt oj.op = true ∧ isSto oi.op = true) ∨ commB ops.toList T0 oj oi = true ∨ commC ops.toList T0 oj oi = true) ∧ oj.apart ops oi = true := by
 unfold regB at h
 rw [List.all_eq_true] at h
 have hlt : i < ops.toList.length := by simpa using (Array.getElem?_eq_some_iff.1 hi).1
 have h1 := h i (List.mem_range.2 hlt)
 have hi' : ops.toList[i]? = some oi := by simpa using hi
 rw [hi'] at h1
 dsimp only at h1
 rw [Bool.and_eq_true, List.all_eq_true, List.all_eq_true] at h1
 refine ⟨fun e he hb => ?_, fun j oj hj hoj hno => ?_⟩
 ·have := h1.1 e (by simpa using he)
  rw [hb] at this
  simpa using this
 ·have := h1.2 j (List.mem_range.2 hj)
  unfold pairB at this
  rw [Bool.or_eq_true] at this
  rcases this with h2 | h2
  ·unfold edgeB at h2
   rw [List.any_eq_true] at h2
   obtain ⟨e, he, h2⟩ := h2
   rw [Bool.and_eq_true] at h2
   exact absurd (Nat.eq_of_beq_eq_true h2.2) (hno e (by simpa using he) h2.1).1
  ·have h2 : (match ops.toList[j]? with
     | some oj => ((!serial Γ oi.op && !serial Γ oj.op) || ((isExt oj.op && isSto oi.op) || (commB ops.toList T0 oj oi || commC ops.toList T0 oj oi))) && oj.apart ops oi
     | none => true) = true := by
    rcases (show _ = true ∨ _ = true from by simpa only [Bool.or_eq_true] using h2) with h2 | h2
    ·exact h2
    ·rw [List.any_eq_true] at h2
     obtain ⟨e, he, h2⟩ := h2
     rw [Bool.and_eq_true] at h2
     rw [(hno e (by simpa using he) h2.1).2] at h2
     cases h2.2
   have hj' : ops.toList[j]? = some oj := by simpa using hoj
   rw [hj'] at h2
   rw [Bool.and_eq_true, Bool.or_eq_true, Bool.or_eq_true, Bool.or_eq_true, Bool.and_eq_true, Bool.and_eq_true] at h2
   refine ⟨?_, h2.2⟩
   rcases h2.1 with h3 | h3 | h3 | h3
   ·exact .inl ⟨by simpa using h3.1, by simpa using h3.2⟩
   ·exact .inr (.inl h3)
   ·exact .inr (.inr (.inl h3))
   ·exact .inr (.inr (.inr h3))

theorem reachB_done {L : List Nat} (hcl : ∀ k o, ops[k]? = some o → k ∉ L → ∀ e ∈ o.after, Region.binds .any e = true → e.on ∉ L) : ∀ (n : Nat) {i j : Nat}, reachB ops n i j = true → i ∉ L → j ∉ L
 | 0, _, _, h, _ => by cases h
 | n + 1, i, j, h, hi => by
  unfold reachB at h
  split at h
  ·rename_i o ho
   rw [List.any_eq_true] at h
   obtain ⟨e, he, h⟩ := h
   rw [Bool.and_eq_true, Bool.or_eq_true] at h
   have h1 := hcl i o (by simpa using ho) hi e (by simpa using he) h.1
   rcases h.2 with h2 | h2
   ·rw [Nat.eq_of_beq_eq_true h2] at h1
    exact h1
   ·exact reachB_done hcl n h2 h1
  ·cases h

/-- An operation that waits for none of those ahead of it may come first. -/
theorem chain_front {T0 : List FV} {i : Nat} {oi : Oper} (hi : ops[i]? = some oi) : ∀ {L : List Nat} {T Tn : List FV}, i ∈ L → L.Nodup → Inv ops.toList T0 T → Fresh ops T0 L T →
  (∀ j ∈ L, ∀ oj, ops[j]? = some oj → (∃ pre post, L = pre ++ i :: post ∧ j ∈ pre) → ((serial Γ oi.op = false ∧ serial Γ oj.op = false) ∨ (isExt oj.op = true ∧ isSto oi.op = true) ∨ commB ops.toList T0 oj oi = true ∨ commC ops.toList T0 oj oi = true) ∧ oj.apart ops oi = true) →
  Chain Γ ei Den ops L T Tn → ∃ T1, St Γ ei Den ops.toList oi T T1 ∧ Chain Γ ei Den ops (L.erase i) T1 Tn
 | [], _, _, hm, _, _, _, _, _ => by cases hm
 | k :: L, T, Tn, hm, hnd, hinv, hfr, hap, hc => by
  obtain ⟨ok, T1, hk, hs, hc⟩ := hc
  have hkm : ok ∈ ops.toList := by simpa using Array.mem_of_getElem? hk
  by_cases e : k = i
  ·subst e
   rw [hi] at hk
   cases hk
   exact ⟨T1, hs, by rw [List.erase_cons_head]; exact hc⟩
  ·have hm' : i ∈ L := by
    rcases List.mem_cons.1 hm with h | h
    ·exact absurd h.symm e
    ·exact h
   obtain ⟨T2, hs2, hc2⟩ := chain_front hi hm' (List.nodup_cons.1 hnd).2 (hinv.step hkm hs) (by have := hfr.step hnd hk hs; rwa [List.erase_cons_head] at this) (fun j hj oj hoj ⟨pre, post, hL, hpre⟩ => hap j (List.mem_cons_of_mem _ hj) oj hoj ⟨k :: pre, post, by rw [hL]; rfl, List.mem_cons_of_mem _ hpre⟩) hc
   obtain ⟨pre, post, hL⟩ := List.append_of_mem hm'
   obtain ⟨h1, h3⟩ := hap k List.mem_cons_self ok hk ⟨k :: pre, post, by rw [hL]; rfl, List.mem_cons_self⟩
   obtain ⟨T1', g1, g2⟩ : ∃ T1', St Γ ei Den ops.toList oi T T1' ∧ St Γ ei Den ops.toList ok T1' T2 := by
    rcases h1 with ⟨h1, h2⟩ | ⟨h1, h2⟩ | h1 | h1
    ·exact St_swap h2 h1 (by simpa using h3) hs hs2
    ·exact St_swap2 h1 h2 (by simpa using h3) hs hs2
    ·exact St_swap3 hkm hinv h1 (by simpa using h3) hs hs2
    ·unfold commC at h1
     simp only [Bool.and_eq_true] at h1
     obtain ⟨d, hd⟩ : ∃ d, ok.dst = some d := by
      cases hd : ok.dst with
      | some d => exact ⟨d, rfl⟩
      | none => have := h1.2.2; unfold freshB at this; rw [hd] at this; cases this
     exact St_swap4 h1.1 h1.2.1 ⟨d, hd, hfr k List.mem_cons_self ok hk h1.2.2 d hd⟩ (by simpa using h3) hs hs2
   exact ⟨T1', g1, by rw [List.erase_cons_tail (by simpa using e)]; exact ⟨ok, T2, hk, g2, hc2⟩⟩

theorem wpOp_of {i : Nat} {o : Oper} (hi : ops[i]? = some o) (h : if Region.wanted o (yielded ops a.tmps) then o.wp F.P a w K Q else K (a.put o.dst undef) w) : wpOp F.P ops Q i K a w := by
 unfold wpOp
 rw [hi]
 dsimp only
 split
 ·rename_i hw
  rw [if_pos hw] at h
  exact .inl h
 ·rename_i hw
  rw [if_neg hw] at h
  exact h

/-- What is laid by those that are still to come. -/
def labL (ops : Array Oper) (L : List Nat) (T : List FV) : Prop := ∀ i ∈ L, ∀ o, ops[i]? = some o → creates o.op = true → o.dst.getD 0 < 1000000 ∧ noD T (o.dst.getD 0) = true
theorem crDst_ne : ∀ {xs : List Oper}, nodupB (crDst xs) = true → ∀ (i j : Nat) (o o2 : Oper), i ≠ j → xs[i]? = some o → xs[j]? = some o2 → creates o.op = true → creates o2.op = true → o.dst.getD 0 ≠ o2.dst.getD 0
 | [], _, i, _, _, _, _, h, _, _, _ => by simp at h
 | x :: xs, hn, i, j, o, o2, hij, hi, hj, hc, hc2 => by
  have hn2 : nodupB (crDst xs) = true ∧ ∀ o2 ∈ xs, creates x.op = true → creates o2.op = true → x.dst.getD 0 ≠ o2.dst.getD 0 := by
   unfold crDst at hn ⊢
   cases hcx : creates x.op with
   | false =>
    rw [List.filter_cons_of_neg (by simp [hcx])] at hn
    exact ⟨hn, fun _ _ h => by cases h⟩
   | true =>
    rw [List.filter_cons_of_pos (by simp [hcx]), List.map_cons] at hn
    obtain ⟨h1, h2⟩ := nodupB_cons hn
    exact ⟨h2, fun o2 ho2 _ hc2 => h1 _ (List.mem_map.2 ⟨o2, List.mem_filter.2 ⟨ho2, hc2⟩, rfl⟩)⟩
  cases i with
  | zero =>
   cases j with
   | zero => exact absurd rfl hij
   | succ j =>
    simp at hi hj
    subst hi
    exact hn2.2 o2 (List.mem_of_getElem? hj) hc hc2
  | succ i =>
   cases j with
   | zero =>
    simp at hi hj
    subst hj
    exact (hn2.2 o (List.mem_of_getElem? hi) hc2 hc).symm
   | succ j => exact crDst_ne hn2.1 i j o o2 (by omega) (by simpa using hi) (by simpa using hj) hc hc2

theorem getD_set {l : Array Bool} {i j : Nat} (b : Bool) : (l.setIfInBounds i true).getD j b = if i = j ∧ j < l.size then true else l.getD j b := by
 rw [Array.getD_eq_getD_getElem?, Array.getD_eq_getD_getElem?, Array.getElem?_setIfInBounds]
 by_cases h : i = j
 ·subst h
  by_cases h2 : i < l.size
  ·simp [h2]
  ·simp [h2]
 ·simp [h]

/-- **A region in any order.** -/
theorem any_sound {T0 : List FV} (hT : tabB F.P ei Γ = true) (hD : ∀ g ps fl r, Den g ps fl r → DenS F.P ei g ps fl r) (hM : ∀ g ps qs r, Γ.md g ps qs r → DenM F.P ei g ps qs r) (hDD : ∀ g k l ps l' x, Γ.mdd g k l ps l' x → DenD F.P ei g k l ps l' x) (hSh : ∀ g ps e k rows, Γ.msh g ps e k rows → DenH F.P g ps e k rows) (hreg : regB Γ T0 ops = true) (hcr : nodupB (crDst ops.toList) = true) {Tn : List FV}
  (hQ : ∀ β' a' w', Sim F β' Tn a' w' → Q .normal a' w') :
  ∀ (fuel : Nat) {L : List Nat} {listed : Array Bool} {β : BM} {T : List FV} {a : Act} {w : World}, listed.size = ops.size → (∀ i, i ∈ L ↔ i < ops.size ∧ listed.getD i true = false) → L.Pairwise (· < ·) → L.length ≤ fuel →
   Sim F β T a w → labL ops L T → Inv ops.toList T0 T → Fresh ops T0 L T → (∀ k o, ops[k]? = some o → k ∉ L → ∀ e ∈ o.after, Region.binds .any e = true → e.on ∉ L) → Chain Γ ei Den ops L T Tn → wpAny F.P .any ops Q fuel listed a w := by
 intro fuel
 induction fuel with
 | zero =>
  intro L listed β T a w hsz hL hsort hlen h hlab hinv hfr hcl hc
  have : L = [] := List.eq_nil_of_length_eq_zero (by omega)
  subst this
  cases hc
  refine ⟨?_, hQ _ _ _ h⟩
  apply List.eq_nil_iff_forall_not_mem.2
  intro i hi
  obtain ⟨h0, o, ho, _⟩ := mem_ready.1 hi
  have := (hL i).2 ⟨(Array.getElem?_eq_some_iff.1 ho).1, h0⟩
  cases this
 | succ fuel ih =>
  intro L listed β T a w hsz hL hsort hlen h hlab hinv hfr hcl hc
  refine ⟨fun hr => ?_, fun i hi => ?_⟩
  ·cases L with
   | nil => cases hc; exact hQ _ _ _ h
   | cons i L =>
    exfalso
    obtain ⟨hlt, hun⟩ := (hL i).1 List.mem_cons_self
    have : i ∈ Region.ready .any ops listed := by
     refine mem_ready.2 ⟨hun, ops[i], Array.getElem?_eq_getElem hlt, fun e he hb => ?_⟩
     have hback := (regB_spec hreg (Array.getElem?_eq_getElem hlt)).1 e he hb
     cases hl : listed.getD e.on false with
     | true => rfl
     | false =>
      have h3 : listed.getD e.on true = false := by
       have : e.on < listed.size := by omega
       simp [Array.getD, this] at hl ⊢
       exact hl
      have h4 := (hL e.on).2 ⟨by omega, h3⟩
      rcases List.mem_cons.1 h4 with h5 | h5
      ·omega
      ·have := (List.pairwise_cons.1 hsort).1 _ h5
       omega
    rw [hr] at this
    cases this
  ·obtain ⟨h0, o, ho, hall⟩ := mem_ready.1 hi
   have hlt := (Array.getElem?_eq_some_iff.1 ho).1
   have hm : i ∈ L := (hL i).2 ⟨hlt, h0⟩
   have hnd : L.Nodup := hsort.imp (fun h => Nat.ne_of_lt h)
   have hdone : ∀ e ∈ o.after, Region.binds .any e = true → e.on ∉ L := fun e he hb hj => by
    have h1 := hall e he hb
    obtain ⟨hjl, hju⟩ := (hL e.on).1 hj
    have : e.on < listed.size := by omega
    simp [Array.getD, this] at h1 hju
    rw [h1] at hju
    cases hju
   obtain ⟨T1, hs, hc1⟩ := chain_front ho hm hnd hinv hfr (fun j hj oj hoj ⟨pre, post, hLe, hpre⟩ => by
    have hji : j < i := by
     rw [hLe, List.pairwise_append] at hsort
     exact hsort.2.2 j hpre i List.mem_cons_self
    refine (regB_spec hreg ho).2 j oj hji hoj (fun e he hb => ⟨fun heq => hdone e he hb (by rw [heq]; exact hj), ?_⟩)
    cases hr : reachB ops 16 e.on j with
    | false => rfl
    | true => exact absurd hj (reachB_done hcl 16 hr (hdone e he hb))) hc
   refine wpOp_of ho (op_sound h hT hD hM hDD hSh (fun hcr' => hlab i hm o ho hcr') hs (fun β' c w' hsim => ?_))
   refine ih (L := L.erase i) (by simpa using hsz) (fun j => ?_) (hsort.sublist List.erase_sublist) (by rw [List.length_erase_of_mem hm]; omega) hsim (fun j hj oj hoj hcj => ?_) (hinv.step (by simpa using Array.mem_of_getElem? ho) hs) (hfr.step hnd ho hs) (fun k o2 hk hkn e he hb hm2 => ?_) hc1
   ·rw [hnd.mem_erase_iff, getD_set, hL j]
    constructor
    ·rintro ⟨hne, hj, hu⟩
     exact ⟨hj, by rw [if_neg (fun e => hne e.1.symm)]; exact hu⟩
    ·rintro ⟨hj, hu⟩
     split at hu
     ·cases hu
     ·rename_i hne
      exact ⟨fun e => hne ⟨e.symm, by omega⟩, hj, hu⟩
   ·rw [hnd.mem_erase_iff] at hj
    refine ⟨(hlab j hj.2 oj hoj hcj).1, St_D (fun t r hr => tab_zero_D hT hr) hs (hlab j hj.2 oj hoj hcj).1 (hlab j hj.2 oj hoj hcj).2 (fun hci => ?_)⟩
    exact crDst_ne hcr i j o oj (fun e => hj.1 e.symm) (by simpa using ho) (by simpa using hoj) hci hcj
   ·rw [hnd.mem_erase_iff] at hkn hm2
    by_cases hki : k = i
    ·subst hki
     rw [ho] at hk
     cases hk
     exact hdone e he hb hm2.2
    ·exact hcl k o2 hk (fun h => hkn ⟨hki, h⟩) e he hb hm2.2

theorem chain_of {K' : List FV → Prop} : ∀ (rest : List Oper) (k : Nat) {T : List FV}, (∀ j, rest[j]? = ops[k + j]?) → evOps Γ ei Den ops.toList rest T K' → ∃ Tn, Chain Γ ei Den ops (List.range' k rest.length) T Tn ∧ K' Tn
 | [], _, T, _, he => ⟨T, rfl, he⟩
 | o :: rest, k, T, hk, he => by
  obtain ⟨T1, hs, he⟩ := evOp_ex he
  obtain ⟨Tn, hc, hK⟩ := chain_of rest (k + 1) (fun j => by have := hk (j + 1); simpa [Nat.add_assoc, Nat.add_comm 1 j] using this) he
  refine ⟨Tn, ?_, hK⟩
  rw [List.length_cons, List.range'_succ]
  exact ⟨o, T1, by simpa using (hk 0).symm, hs, hc⟩

/-- A region as the model runs it. -/
def evReg (Γ : Tab) (ei : TypeId) (Den : FuncId → List PV → Bool → Res → Prop) (ops : Array Oper) (draw : Bool) (T : List FV) (K : List FV → Prop) : Prop :=
 ((match draw with | true => regB Γ T ops | false => true) && (nodupB (crDst ops.toList) && labB ops.toList T)) = true ∧ evOps Γ ei Den ops.toList ops.toList T K

theorem reg_sound (hm : F.P.follows .mixedOrders = true) (hT : tabB F.P ei Γ = true) (hD : ∀ g ps fl r, Den g ps fl r → DenS F.P ei g ps fl r) (hM : ∀ g ps qs r, Γ.md g ps qs r → DenM F.P ei g ps qs r) (hDD : ∀ g k l ps l' x, Γ.mdd g k l ps l' x → DenD F.P ei g k l ps l' x) (hSh : ∀ g ps e k rows, Γ.msh g ps e k rows → DenH F.P g ps e k rows) {id : Nat} {draw : Bool} {K' : List FV → Prop} (h : Sim F β T a w)
  (he : evReg Γ ei Den ops draw T K') (hQ : ∀ T' β' a' w', K' T' → Sim F β' T' a' w' → Q .normal a' w') : (Code.region id ops draw).wp F.P Q a w := by
 obtain ⟨hb, he⟩ := he
 rw [Bool.and_eq_true, Bool.and_eq_true] at hb
 cases draw with
 | false => exact wp_region_list (list_sound hT hD hM hDD hSh _ h hb.2.2 hb.2.1 he hQ)
 | true =>
  obtain ⟨Tn, hc, hK⟩ := chain_of (ops := ops) ops.toList 0 (fun j => by simp) he
  refine wp_region_any hm (any_sound hT hD hM hDD hSh hb.1 hb.2.1 (fun β' a' w' hs => hQ Tn β' a' w' hK hs) ops.size (L := List.range' 0 ops.toList.length) (by simp) (fun i => ?_) (List.pairwise_lt_range') (by simp) (h.grow (Grew.drew w)) (fun i hi o ho hcr => ?_) (Inv.start _ _) Fresh.start (fun k o hk hkn => absurd (by rw [List.mem_range'_1]; exact ⟨Nat.zero_le _, by have := (Array.getElem?_eq_some_iff.1 hk).1; simpa using this⟩) hkn) hc)
  ·rw [List.mem_range'_1]
   constructor
   ·rintro ⟨_, h2⟩
    have h2 : i < ops.size := by simpa using h2
    exact ⟨h2, by simp [Array.getD, h2]⟩
   ·rintro ⟨h1, _⟩
    exact ⟨Nat.zero_le _, by simpa using h1⟩
  ·have := hb.2.2
   unfold labB at this
   rw [List.all_eq_true] at this
   have := this o (by simpa using Array.mem_of_getElem? ho)
   rw [hcr] at this
   dsimp only at this
   rw [Bool.and_eq_true] at this
   exact ⟨by simpa using this.1, this.2⟩
end

end Go.Vx
end
