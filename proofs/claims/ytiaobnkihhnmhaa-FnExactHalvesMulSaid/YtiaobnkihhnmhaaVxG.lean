/- Vx, part 17: stores, regions and code, with values worked out at once. -/
import Derived.Test.YtiaobnkihhnmhaaVxF
namespace Go.Vx
open Go.RowKit

def byK (t : Ty) (c : Nat → Prop) : Prop := match t with
  | .slice _ _ b => c b
  | _ => c 8
def elemK (ei : TypeId) (t : Ty) (c : TypeId → Prop) : Prop := match t with
  | .slice e _ _ => c e
  | _ => c ei
def catK (y z : PL) (c : PL → Prop) : Prop := match y, z with
  | .ints a, .ints b => c (.ints (a ++ b))
  | .arr k a, .arr _ b => c (.arr k (a ++ b))
  | x, _ => c x
theorem byK_eq {t : Ty} {c : Nat → Prop} : byK t c = c t.by := by cases t <;> rfl
theorem elemK_eq {ei : TypeId} {t : Ty} {c : TypeId → Prop} : elemK ei t c = c (t.elem ei) := by cases t <;> rfl
theorem catK_eq {y z : PL} {c : PL → Prop} : catK y z c = c (y.cat z) := by cases y <;> cases z <;> rfl

def fPs : List PL → (List PL → Prop) → Prop
  | [], k => k []
  | x :: xs, k => fPL x fun x => fPs xs fun xs => k (x :: xs)
theorem fPs_eq : ∀ {xs : List PL} {k : List PL → Prop}, fPs xs k = k xs
  | [], _ => rfl
  | x :: xs, k => by unfold fPs; rw [fPL_eq, fPs_eq]
def SkF (Γ : Tab) (ei : TypeId) (o : Oper) (d : Nat) (T : List FV) (K : List FV → Prop) : Prop :=
  match o.op with
  | .store t a x => match Γ.get t with
    | none => False
    | some r => match opd T a, opd T x with
      | .box lab cs off, .v _ xs => Nat.beq xs.length (match r.cells with | some n => n | none => 1) = true ∧ Nat.ble (off + xs.length) cs.length = true ∧
          fT (T.map (FV.stoBox lab (over cs off xs))) fun T => putK T o.dst (.tup []) K
      | .elt (.own lab _ (.ints l)) i off, .v false [.p (.int .i64 z)] => r.cells = none ∧ off = 0 ∧ i < l.length ∧ fT (T.map (FV.updI lab i z)) fun T => putK T o.dst (.tup []) K
      | .elt (.own lab _ (.arr k l)) i off, .v _ xs => match unLs xs with
        | some ys => (Nat.beq xs.length k && Nat.beq xs.length (match r.cells with | some n => n | none => 1)) = true ∧ off = 0 ∧ i < l.length ∧ fT (T.map (FV.mapLB lab (updR lab k i ys))) fun T => putK T o.dst (.tup []) K
        | none => False
      | _, _ => False
  | .call c => match c.callee with
    | .builtin .append => match c.args.toList, c.argTypes.toList with
      | [s, x], [t, t'] => t' = t ∧ match Γ.get t with
        | none => False
        | some r => match opd T s, opd T x with
          | .v false [sv], .v false [xv] => match contA r.ty sv, contA r.ty xv with
            | some y, some z => lenK y fun n => lenK z fun m => byK r.ty fun b => (n + m) * (b + 1) ≤ 140737488355328 ∧ catK y z fun q => elemK ei r.ty fun e' => match sv with
              | .nil => noD T (1000000 + d) = true ∧ putK T o.dst (.v false [.own (1000000 + d, 0) e' q]) K
              | .own lab e _ => (Nat.beq e e' && Nat.blt lab.1 2000000) = true ∧ (T.all fun f => !f.hasB lab) = true ∧ fT (T.map (FV.killO lab)) fun T => putK T o.dst (.v false [.own lab e' q]) K
              | _ => False
            | _, _ => False
          | _, _ => False
      | _, _ => False
    | .value (.func g) => MutS Γ.md ei g (c.args.toList.map (opd T)) fun as ys r => fLs as fun as => fPs ys fun ys => (labNodup (labsOf as) && (labsOf as).all fun l => T.all fun f => !f.hasB l) = true ∧
        lenT as ys T True ∧ fT (T.map (FV.mutF as ys)) fun T => putK T o.dst (resFV as ys r) K
    | _ => False
  | _ => False

section
variable {Γ : Tab} {ei : TypeId} {Den : FuncId → List PV → Bool → Res → Prop} {P : Program}

theorem SkF_le {o : Oper} {T : List FV} {K : List FV → Prop} (h : SkF Γ ei o (o.dst.getD 0) T K) : Sk Γ ei o T K := by
  unfold SkF at h
  unfold Sk
  cases ho : o.op with
  | store t a x =>
    simp only [ho] at h ⊢
    split at h
    · exact h.elim
    · rename_i r hr
      simp only [hr]
      split at h
      · rename_i lab cs off a' xs h1 h2
        simp only [h1, h2]
        rw [fT_eq, putK_eq] at h
        exact h
      · rename_i lab e l i off z h1 h2
        simp only [h1, h2]
        rw [fT_eq, putK_eq] at h
        exact h
      · rename_i lab e k l i off a' xs h1 h2
        simp only [h1, h2]
        split at h
        · rename_i ys hys
          simp only [hys]
          rw [fT_eq, putK_eq] at h
          exact h
        · exact h.elim
      · exact h.elim
  | call c =>
    simp only [ho] at h ⊢
    split at h
    · rename_i hc
      simp only [hc]
      split at h
      · rename_i s x t t' h1 h2
        simp only [h1, h2]
        obtain ⟨h0, h⟩ := h
        refine ⟨h0, ?_⟩
        split at h
        · exact h.elim
        · rename_i r hr
          simp only [hr]
          split at h
          · rename_i sv xv h3 h4
            simp only [h3, h4]
            split at h
            · rename_i y z h5 h6
              rw [lenK_eq, lenK_eq, byK_eq] at h
              obtain ⟨hb, h⟩ := h
              rw [catK_eq, elemK_eq] at h
              refine ⟨y, z, h5, h6, _, rfl, hb, ?_⟩
              split at h
              · rw [putK_eq] at h; exact h
              · rw [fT_eq, putK_eq] at h; exact h
              · exact h.elim
            · exact h.elim
          · exact h.elim
      · exact h.elim
    · rename_i g hc
      simp only [hc]
      obtain ⟨avs, h1, ps, h2, qs, r, hd, h⟩ := h
      rw [fLs_eq, fPs_eq] at h
      obtain ⟨h3, h6, h7⟩ := h
      rw [fT_eq, putK_eq] at h7
      exact ⟨avs, h1, ps, h2, h3, qs, r, hd, h6, h7⟩
    · exact h.elim
  | _ => simp only [ho] at h

theorem Sk_of {o : Oper} {T : List FV} {K K' : List FV → Prop} (hk : ∀ T, K T → K' T) (h : Sk Γ ei o T K) : Sk Γ ei o T K' := by
  unfold Sk at h ⊢
  repeat' (first | exact h.elim | exact hk _ h | refine Exists.imp (fun _ h => ?_) h | refine And.imp_right (fun h => ?_) h | split at h)

theorem evOp_of {ops : List Oper} {o : Oper} {T : List FV} {K K' : List FV → Prop} (hk : ∀ T, K T → K' T) (h : evOp Γ ei Den ops o T K) : evOp Γ ei Den ops o T K' := by
  unfold evOp at h ⊢
  split at h
  · split at h
    · exact Sk_of hk h
    · exact Yk_of (fun f hf => hk _ hf) h
  · exact hk _ h
  · exact h.elim
theorem evOps_of {ops : List Oper} {K K' : List FV → Prop} (hk : ∀ T, K T → K' T) : ∀ {rest : List Oper} {T : List FV}, evOps Γ ei Den ops rest T K → evOps Γ ei Den ops rest T K'
  | [], _, h => hk _ h
  | o :: rest, T, h => evOp_of (K := fun T' => evOps Γ ei Den ops rest T' K) (fun T' h' => evOps_of hk h') h
theorem ev_of : ∀ (c : Code) {T : List FV} {K K' : Ex → List FV → Prop}, (∀ e T, K e T → K' e T) → ev Γ ei Den P c T K → ev Γ ei Den P c T K'
  | .skip, T, K, K', hk, h => hk _ _ h
  | .ret, T, K, K', hk, h => hk _ _ h
  | .exit id, T, K, K', hk, h => hk _ _ h
  | .seq x y, T, K, K', hk, h => by
    refine ev_of x (fun e T' h' => ?_) (show ev Γ ei Den P x T _ from h)
    cases e with
    | normal => exact ev_of y hk h'
    | ret => exact hk _ _ h'
    | exit id => exact hk _ _ h'
  | .block id x, T, K, K', hk, h => by
    refine ev_of x (fun e T' h' => ?_) (show ev Γ ei Den P x T _ from h)
    cases e with
    | normal => exact hk _ _ h'
    | ret => exact hk _ _ h'
    | exit id' =>
      dsimp only at h' ⊢
      split at h'
      · exact hk _ _ h'
      · exact hk _ _ h'
  | .cond c x y, T, K, K', hk, h => by
    unfold ev at h ⊢
    split at h
    · obtain ⟨t', h1, h2⟩ := h
      refine ⟨t', h1, ?_⟩
      cases t' with
      | true => exact ev_of x hk h2
      | false => exact ev_of y hk h2
    · exact h.elim
  | .region id ops draw, T, K, K', hk, h => ⟨h.1, evOps_of (fun T h => hk _ _ h) h.2⟩
  | .loop x, T, K, K', hk, h => EVs.mono hk h
  | .rangeFunc .., _, _, _, _, h => (h : False).elim
  | .scope _, _, _, _, _, h => (h : False).elim
  | .label _, _, _, _, _, h => (h : False).elim
  | .goto _, _, _, _, _, h => (h : False).elim
  | .refuse _, _, _, _, _, h => (h : False).elim

def evOpF (Γ : Tab) (ei : TypeId) (Den : FuncId → List PV → Bool → Res → Prop) (ops : List Oper) (o : Oper) (d : Nat) (T : List FV) (K : List FV → Prop) : Prop :=
  match wantedA ops o T with
  | some true => match serial Γ o.op with
    | true => SkF Γ ei o d T K
    | false => YkF Γ ei Den o d (opd T) fun f => putK T o.dst f K
  | some false => putK T o.dst (.tup []) K
  | none => False
def evOpsF (Γ : Tab) (ei : TypeId) (Den : FuncId → List PV → Bool → Res → Prop) (ops : List Oper) : List Oper → List FV → (List FV → Prop) → Prop
  | [], T, K => K T
  | o :: rest, T, K => match o.dst with
    | some d => evOpF Γ ei Den ops o d T fun T' => evOpsF Γ ei Den ops rest T' K
    | none => evOpF Γ ei Den ops o 0 T fun T' => evOpsF Γ ei Den ops rest T' K
def evF (Γ : Tab) (ei : TypeId) (Den : FuncId → List PV → Bool → Res → Prop) (P : Program) : Code → List FV → (Ex → List FV → Prop) → Prop
  | .skip, T, K => K .normal T
  | .ret, T, K => K .ret T
  | .exit id, T, K => K (.exit id) T
  | .seq x y, T, K => evF Γ ei Den P x T fun e T' => match e with
    | .normal => evF Γ ei Den P y T' K
    | .ret => K .ret T'
    | .exit id => K (.exit id) T'
  | .block id x, T, K => evF Γ ei Den P x T fun e T' => match e with
    | .normal => K .normal T'
    | .ret => K .ret T'
    | .exit id' => match decide (id' = id) with
      | true => K .normal T'
      | false => K (.exit id') T'
  | .cond c x y, T, K => match opd T c with
    | .v false [.p (.bool t)] => Bo t fun t' => match t' with
      | true => evF Γ ei Den P x T K
      | false => evF Γ ei Den P y T K
    | _ => False
  | .region _ ops draw, T, K => ((match draw with | true => regB Γ ops | false => true) && (nodupB (crDst ops.toList) && labB ops.toList T)) = true ∧ evOpsF Γ ei Den ops.toList ops.toList T (K .normal)
  | .loop x, T, K => EVs P (.loop x) T K
  | _, _, _ => False

theorem evOpF_le {ops : List Oper} {o : Oper} {T : List FV} {K : List FV → Prop} (h : evOpF Γ ei Den ops o (o.dst.getD 0) T K) : evOp Γ ei Den ops o T K := by
  unfold evOpF at h
  unfold evOp
  have e : (fun f => putK T o.dst f K) = fun f => K (put T o.dst f) := funext fun f => putK_eq
  split at h
  · rename_i hw
    simp only [hw]
    split at h
    · rename_i hs
      simp only [hs]
      exact SkF_le h
    · rename_i hs
      simp only [hs]
      rw [e] at h
      exact YkF_le h
  · rename_i hw
    simp only [hw]
    rw [putK_eq] at h
    exact h
  · exact h.elim
theorem evOpsF_le {ops : List Oper} {K : List FV → Prop} : ∀ {rest : List Oper} {T : List FV}, evOpsF Γ ei Den ops rest T K → evOps Γ ei Den ops rest T K
  | [], _, h => h
  | o :: rest, T, h => by
    unfold evOpsF at h
    have h2 : evOpF Γ ei Den ops o (o.dst.getD 0) T fun T' => evOpsF Γ ei Den ops rest T' K := by
      split at h
      · rename_i d hd
        rw [hd]
        exact h
      · rename_i hd
        rw [hd]
        exact h
    exact evOp_of (fun T' h' => evOpsF_le h') (evOpF_le h2)
theorem evF_le : ∀ (c : Code) {T : List FV} {K : Ex → List FV → Prop}, evF Γ ei Den P c T K → ev Γ ei Den P c T K
  | .skip, T, K, h => h
  | .ret, T, K, h => h
  | .exit id, T, K, h => h
  | .seq x y, T, K, h => by
    refine ev_of x (fun e T' h' => ?_) (evF_le x (show evF Γ ei Den P x T _ from h))
    cases e with
    | normal => exact evF_le y h'
    | ret => exact h'
    | exit id => exact h'
  | .block id x, T, K, h => by
    refine ev_of x (fun e T' h' => ?_) (evF_le x (show evF Γ ei Den P x T _ from h))
    cases e with
    | normal => exact h'
    | ret => exact h'
    | exit id' => exact h'
  | .cond c x y, T, K, h => by
    unfold evF at h
    unfold ev
    split at h
    · rename_i t ht
      simp only [ht]
      obtain ⟨t', h1, h2⟩ := h
      refine ⟨t', h1, ?_⟩
      cases t' with
      | true => exact evF_le x h2
      | false => exact evF_le y h2
    · exact h.elim
  | .region id ops draw, T, K, h => ⟨h.1, evOpsF_le h.2⟩
  | .loop x, T, K, h => h
  | .rangeFunc .., _, _, h => (h : False).elim
  | .scope _, _, _, h => (h : False).elim
  | .label _, _, _, h => (h : False).elim
  | .goto _, _, _, h => (h : False).elim
  | .refuse _, _, _, h => (h : False).elim
end

/-- Behind this code an array is no longer the frame's own. -/
theorem EVs.un {P : Program} {c : Code} {T : List FV} {K : Ex → List FV → Prop} (lab : Lab) (h : EVs P c T fun e T' => (T'.all fun f => !f.hasB lab) = true ∧ fT (T'.map (FV.unO lab)) (K e)) : EVs P c T K := by
  refine EVs.post (h.mono fun e T' hk => ?_)
  rw [fT_eq] at hk
  exact ⟨_, Wk.unown lab hk.1, hk.2⟩
theorem wrapU {z : Int} (h1 : 0 ≤ z) (h2 : z ≤ 18446744073709551615) : IntKind.u64.wrap z = z := by
  rw [IntKind.wrap_u64]
  omega
theorem Wr.ofU {u : Int} {c : Int → Prop} (h1 : 0 ≤ u) (h2 : u ≤ 18446744073709551615) (hk : c u) : Wr .u64 u c := .mk u (wrapU h1 h2) hk
theorem lenT_go {as : List Lf} {ys : List PL} {T : List FV} (h : lenT as ys T True) : lenT as ys T True := h
/-- One step: whatever is plain is done. -/
theorem vs {p q : Prop} (hp : p) (h : p → q := by
    refine fun hp => ?_
    conv => whnf
    first
      | exact And.intro rfl hp
      | exact And.intro (by first | omega | (simp only [List.length_nil, List.length_cons, List.length_append, List.length_set, List.length_replicate, List.length_take, List.length_drop]; omega)) hp
      | exact And.intro (lenT_go (by (repeat' (first | exact True.intro | rfl | omega | refine And.intro ?_ ?_)); all_goals exact True.intro)) hp
      | exact Bo.dt (by first | assumption | omega | (simp only [List.length_nil, List.length_cons, List.length_append, List.length_set, List.length_replicate, List.length_take, List.length_drop]; omega)) hp
      | exact Bo.df (by first | assumption | omega | (simp only [List.length_nil, List.length_cons, List.length_append, List.length_set, List.length_replicate, List.length_take, List.length_drop]; omega)) hp
      | exact Wr.of64 (by first | omega | (simp only [List.length_nil, List.length_cons, List.length_append, List.length_set, List.length_replicate, List.length_take, List.length_drop]; omega)) (by first | omega | (simp only [List.length_nil, List.length_cons, List.length_append, List.length_set, List.length_replicate, List.length_take, List.length_drop]; omega)) hp
      | exact Wr.ofU (by omega) (by omega) hp
      | exact Bo.t (by assumption) hp
      | exact Bo.f (by assumption) hp
      | exact Bo.t rfl hp
      | exact Bo.f rfl hp
      | exact Got.mk _ rfl hp
      | exact Idx.mk _ rfl (by first | omega | (simp only [List.length_nil, List.length_cons, List.length_append, List.length_set, List.length_replicate, List.length_take, List.length_drop]; omega)) hp
      | exact LdI.mk _ (by assumption) hp
      | exact Exists.intro _ (And.intro rfl hp)) : q := h hp
end Go.Vx
