/- VxG, VxL, VxR, VxW -/
import Derived.Test.YtpmgjmkobpeepaaGreatVGf
import Derived.ChangeArms
import Derived.ChangeSlices
import Derived.ProofKit
set_option linter.unusedVariables false
set_option linter.unusedSectionVars false
set_option linter.unusedSimpArgs false
section
/- Vx, part 17: stores, regions and code, with values worked out at once. -/
namespace Go.Vx
open Go.RowKit

def byK (t : Ty) (c : Nat → Prop) : Prop := match t with
 | .slice _ _ b => c b
 | _ => c 8
def elemK (ei : TypeId) (t : Ty) (c : TypeId → Prop) : Prop := match t with
 | .slice e _ _ => c e
 | _ => c ei
def catK (y z : PL) (c : PL → Prop) : Prop := match y, z with
 | .ints a, .ints b => c (.ints (a ++ b))
 | .arr k a, .arr _ b => c (.arr k (a ++ b))
 | x, _ => c x
theorem byK_eq {t : Ty} {c : Nat → Prop} : byK t c = c t.by := by cases t <;> rfl
theorem elemK_eq {ei : TypeId} {t : Ty} {c : TypeId → Prop} : elemK ei t c = c (t.elem ei) := by cases t <;> rfl
theorem catK_eq {y z : PL} {c : PL → Prop} : catK y z c = c (y.cat z) := by cases y <;> cases z <;> rfl

/-- An append to an array of ints keeps the label. -/
def appK (q : PL) (c : Bool → Prop) (d : Nat → List (List PL) → Prop) : Prop := match q with
 | .arr kk rows => NewK c (rows.all zeroRow = true ∧ d kk rows)
 | _ => c true
theorem appK_ex {q : PL} {c : Bool → Prop} {d : Nat → List (List PL) → Prop} (h : appK q c d) : (∃ lb, c lb) ∨ ∃ kk rows, q = .arr kk rows ∧ rows.all zeroRow = true ∧ d kk rows := by
 cases q with
 | arr k l =>
  cases (show NewK c _ from h) with
  | mk lb hk => exact .inl ⟨lb, hk⟩
  | dp hk => exact .inr ⟨k, l, rfl, hk⟩
 | _ => exact .inl ⟨true, h⟩
def fPs : List PL → (List PL → Prop) → Prop
 | [], k => k []
 | x :: xs, k => fPL x fun x => fPs xs fun xs => k (x :: xs)
theorem fPs_eq : ∀ {xs : List PL} {k : List PL → Prop}, fPs xs k = k xs
 | [], _ => rfl
 | x :: xs, k => by unfold fPs; rw [fPL_eq, fPs_eq]
/-- The integer that a captured variable holds. -/
def CloK (o : Option Lf) (c : Int → Prop) : Prop := match o with
 | some (.p (.int .i64 z)) => c z
 | _ => False
theorem CloK_ex {o : Option Lf} {c : Int → Prop} (h : CloK o c) : ∃ z, o = some (.p (.int .i64 z)) ∧ c z := by
 unfold CloK at h
 split at h
 ·exact ⟨_, rfl, h⟩
 ·exact h.elim
/-- A call that writes an inner slice, or reads only. -/
inductive KidS (Γ : Tab) (ei e : TypeId) (g : FuncId) (n : Nat) (z : List Int) (T : List FV) (lab : Lab) (all fs : List FV) (c0 : PL → Prop) (c : List Int → PL → Prop) : Prop where
 | rd (ps : List PV) (h1 : erVs all = some ps) (x : PL) (hd : Γ.mdd g 0 [] ps [] x) (hx : x.isA = false) (hk : c0 x) : KidS Γ ei e g n z T lab all fs c0 c
 | mk (he : Nat.beq e ei = true) (ps : List PV) (h1 : plainA fs = some ps) (z' : List Int) (x : PL) (hd : Γ.md g ((false, [.ints z]) :: ps) ((false, [.ints z']) :: ps) (.one (false, [.p x]))) (hx : x.isA = false) (hz : z ≠ []) (hl : z'.length = z.length)
   (hT : kidT lab n z.length T True) (hk : c z' x) : KidS Γ ei e g n z T lab all fs c0 c
/-- A call that writes all of a slice's inner slices. -/
inductive DeepS (Γ : Tab) (ei e : TypeId) (g : FuncId) (k : Nat) (l : List (List PL)) (T : List FV) (lab : Lab) (fs : List FV) (c : List (List PL) → PL → Prop) : Prop where
 | mk (he : (Nat.beq e ei && Nat.blt 0 k) = true) (ps : List PV) (h1 : plainA fs = some ps) (l' : List (List PL)) (x : PL) (hd : Γ.mdd g k l ps l' x) (hx : okD l' x) (hl : l'.length = l.length)
   (hT : lenDT lab l.length T True) (hk : c l' x) : DeepS Γ ei e g k l T lab fs c
/-- A copy: how many, and what is there then. -/
inductive CpS (n : Nat) (f : Nat → List (List PL)) (c : Nat → List (List PL) → Prop) : Prop where
 | mk (m : Nat) (hm : m = n) (rows : List (List PL)) (hr : rows = f m) (hk : c m rows) : CpS n f c
/-- A call of a function that may write its arguments: it reads only; or it hands back a new slice of structs; or it writes. -/
inductive CallM (Γ : Tab) (ei : TypeId) (g : FuncId) (T : List FV) (d : Nat) (fs : List FV) (c0 : Lf → Prop) (c : List Lf → List PL → MRes → Prop) : Prop where
 | rd (ps : List PV) (h1 : erVs fs = some ps) (x : PL) (hd : Γ.mdd g 0 [] ps [] x) (hx : x.isA = false ∨ plainFs fs = true) (hk : c0 (.p x)) : CallM Γ ei g T d fs c0 c
 | sh (hno : noD T (1000000 + d) = true) (ps : List PV) (h1 : erVs fs = some ps) (h2 : plainFs fs = true) (e : TypeId) (k : Nat) (rows : List (List PL)) (hd : Γ.msh g ps e k rows) (hk : c0 (.own (1000000 + d, 0) e (.arr k rows))) : CallM Γ ei g T d fs c0 c
 | wr (hk : MutS Γ.md ei g fs c) : CallM Γ ei g T d fs c0 c
theorem MutS.mk' {Γ : Tab} {ei : TypeId} {g : FuncId} {T : List FV} {d : Nat} {fs : List FV} {c0 : Lf → Prop} {c : List Lf → List PL → MRes → Prop} (avs : List (Bool × List Lf)) (h1 : mapO argV fs = some avs) (ps : List PV) (h2 : mapO (resV (frL ei)) avs = some ps) (qs : List PV) (r : MRes)
  (hd : Γ.md g ps qs r) (hk : c (avs.flatMap (·.2)) (qs.flatMap (·.2)) r) : CallM Γ ei g T d fs c0 c := .wr (.mk avs h1 ps h2 qs r hd hk)
def SkF (Γ : Tab) (ei : TypeId) (o : Oper) (d : Nat) (T : List FV) (K : List FV → Prop) : Prop :=
 match o.op with
 | .store t a x => match Γ.get t with
  | none => False
  | some r => match opd T a, opd T x with
   | .box lab cs off, .v _ xs => Nat.beq xs.length (match r.cells with | some n => n | none => 1) = true ∧ Nat.ble (off + xs.length) cs.length = true ∧
     fT (T.map (FV.stoBox lab (over cs off xs))) fun T => putK T o.dst (.tup []) K
   | .elt (.own lab _ (.ints l)) i off, .v false [.p (.int .i64 z)] => r.cells = none ∧ off = 0 ∧ i < l.length ∧ fT (T.map (FV.updI lab i z)) fun T => putK T o.dst (.tup []) K
   | .elt (.own lab _ (.arr k l)) i off, .v _ xs => match unLs xs with
    | some ys => (Nat.beq xs.length k && Nat.beq xs.length (match r.cells with | some n => n | none => 1)) = true ∧ off = 0 ∧ i < l.length ∧ fT (T.map (FV.mapLB lab (updR lab k i ys))) fun T => putK T o.dst (.tup []) K
    | none => False
   | .elt (.deep lab e' k' l) i off, .v _ xs => match toRow e' xs with
    | some row => (Nat.beq xs.length (match r.cells with | some n => n | none => 1) && (Nat.ble (off + xs.length) k' && okAbs lab (labsOf xs))) = true ∧ i < l.length ∧
      fT (T.map (FV.mapK lab (lab :: labsOf xs) (stoDL lab e' k' i off row (lab :: labsOf xs)))) fun T => putK T o.dst (.tup []) K
    | none => False
   | _, _ => False
 | .call c => match c.callee with
  | .builtin .append => match c.args.toList, c.argTypes.toList with
   | [s, x], [t, t'] => t' = t ∧ match Γ.get t with
    | none => False
    | some r => match opd T s, opd T x with
     | .v false [sv], .v false [xv] => match contA r.ty sv, contA r.ty xv with
      | some y, some z => lenK y fun n => lenK z fun m => byK r.ty fun b => (n + m) * (b + 1) ≤ 140737488355328 ∧ catK y z fun q => elemK ei r.ty fun e' => match sv with
       | .nil => noD T (1000000 + d) = true ∧ putK T o.dst (.v false [.own (1000000 + d, 0) e' q]) K
       | .own lab e _ => (Nat.beq e e' && Nat.blt lab.1 2000000) = true ∧ (T.all fun f => !f.hasB lab) = true ∧ fT (T.map (FV.killO lab)) fun T => appK q (fun lb => putK T o.dst (.v false [ownIf lb lab e' q]) K) fun kk rows => putK T o.dst (.v false [.deep lab ei kk rows]) K
       | _ => False
      | _, _ => False
     | .v false [.deep lab ei' kk l], .lit lab2 kk2 xs => match toRow ei' xs with
      | some row => ((Nat.beq kk kk2 && (Nat.beq xs.length kk && (tyIdx r.ty (.darr kk l) && Nat.blt lab.1 2000000))) && okAbs lab (lab2 :: labsOf xs)) = true ∧
        byK r.ty fun b => (l.length + 1) * (b + 1) ≤ 140737488355328 ∧ fT (T.map (FV.mapK lab (lab :: lab2 :: labsOf xs) (absK lab (lab :: lab2 :: labsOf xs) ei' (l.length * kk) xs))) fun T => putK T o.dst (.v false [.deep lab ei' kk (l ++ [row])]) K
      | none => False
     | _, _ => False
   | _, _ => False
  | .value (.func g) => match hdK (c.args.toList.map (opd T)) with
   | some (lab, e, n, z, fs) => KidS Γ ei e g n z T lab (c.args.toList.map (opd T)) fs (fun x => putK T o.dst (.v false [.p x]) K) fun z' x => fT (T.map (FV.mapK lab [] (kidU lab n z'))) fun T => putK T o.dst (.v false [.p x]) K
   | none => match hdD (c.args.toList.map (opd T)) with
    | some (lab, e, k, l, fs) => DeepS Γ ei e g k l T lab fs fun l' x => fT (T.map (FV.mapK lab [lab] (deepU lab e k l'))) fun T => putK T o.dst (resDF lab e k l' x) K
    | none => CallM Γ ei g T d (c.args.toList.map (opd T)) (fun x => putK T o.dst (.v false [x]) K) (fun as ys r => fLs as fun as => fPs ys fun ys => (labNodup (labsOf as) && (labsOf as).all fun l => T.all fun f => !f.hasB l) = true ∧
    lenT as ys T True ∧ fT (T.map (FV.mutF as ys)) fun T => putK T o.dst (resFV as ys r) K)
  | .builtin .copy => match c.args.toList, c.argTypes.toList with
   | [a, s], [t, t'] => t' = t ∧ match Γ.get t with
    | none => False
    | some r => match opd T a, opd T s with
     | .v false [.own lab _ (.arr k l)], .v false [.p (.arr k2 q)] => (Nat.beq k k2 && tyArr r.ty (.arr k l)) = true ∧ CpS (min q.length l.length) (fun m => q.take m ++ l.drop m) fun m rows => lenOT lab l.length T True ∧
       fT (T.map (FV.mapLB lab (setA lab k rows))) fun T => putK T o.dst (.v false [.p (.int .i64 (m : Nat))]) K
     | .sub (.own lab _ (.arr k l)) i j, .sub (.own lab2 _ (.arr k2 q)) i2 j2 => (decide (lab2 = lab) && (Nat.beq k k2 && tyArr r.ty (.arr k l))) = true ∧ CpS (min (j2 - i2) (j - i)) (fun m => l.take i ++ ((q.drop i2).take m ++ l.drop (i + m))) fun m rows => lenOT lab l.length T True ∧
       fT (T.map (FV.mapLB lab (setA lab k rows))) fun T => putK T o.dst (.v false [.p (.int .i64 (m : Nat))]) K
     | _, _ => False
   | _, _ => False
  | _ => False
 | .makeFunc (.func f) first caps => match first.toList, caps.toList with
  | [], [x] => match opd T x with
   | .box lab cs off => CloK cs[off]? fun z => fT (T.map (FV.dropB lab)) fun T => putK T o.dst (.v false [.p (.clo f z)]) K
   | _ => False
  | _, _ => False
 | _ => False

section
variable {Γ : Tab} {ei : TypeId} {Den : FuncId → List PV → Bool → Res → Prop} {P : Program}

theorem SkF_le {o : Oper} {T : List FV} {K : List FV → Prop} (h : SkF Γ ei o (o.dst.getD 0) T K) : Sk Γ ei o T K := by
 unfold SkF at h
 unfold Sk
 cases ho : o.op with
 | store t a x =>
  simp only [ho] at h ⊢
  split at h
  ·exact h.elim
  ·rename_i r hr
   simp only [hr]
   split at h
   ·rename_i lab cs off a' xs h1 h2
    simp only [h1, h2]
    rw [fT_eq, putK_eq] at h
    exact h
   ·rename_i lab e l i off z h1 h2
    simp only [h1, h2]
    rw [fT_eq, putK_eq] at h
    exact h
   ·rename_i lab e k l i off a' xs h1 h2
    simp only [h1, h2]
    split at h
    ·rename_i ys hys
     simp only [hys]
     rw [fT_eq, putK_eq] at h
     exact h
    ·exact h.elim
   ·rename_i lab e' k' l i off a' xs h1 h2
    simp only [h1, h2]
    split at h
    ·rename_i row hrow
     rw [fT_eq, putK_eq] at h
     exact ⟨row, hrow, h.1, h.2.1, h.2.2⟩
    ·exact h.elim
   ·exact h.elim
 | call c =>
  simp only [ho] at h ⊢
  split at h
  ·rename_i hc
   simp only [hc]
   split at h
   ·rename_i s x t t' h1 h2
    simp only [h1, h2]
    obtain ⟨h0, h⟩ := h
    refine ⟨h0, ?_⟩
    split at h
    ·exact h.elim
    ·rename_i r hr
     simp only [hr]
     split at h
     ·rename_i sv xv h3 h4
      simp only [h3, h4]
      split at h
      ·rename_i y z h5 h6
       rw [lenK_eq, lenK_eq, byK_eq] at h
       obtain ⟨hb, h⟩ := h
       rw [catK_eq, elemK_eq] at h
       refine ⟨y, z, h5, h6, _, rfl, hb, ?_⟩
       split at h
       ·rw [putK_eq] at h; exact h
       ·rw [fT_eq] at h
        obtain ⟨g5, g6, h⟩ := h
        rcases appK_ex h with ⟨lb, h⟩ | ⟨kk, rows, hq, hz, h⟩
        ·rw [putK_eq] at h
         exact ⟨g5, g6, _, ApL.ofIf lb, h⟩
        ·rw [putK_eq] at h
         exact ⟨g5, g6, _, .deep kk rows hq hz, h⟩
       ·exact h.elim
      ·exact h.elim
     ·rename_i lab ei' kk l lab2 kk2 xs h3 h4
      simp only [h3, h4]
      split at h
      ·rename_i row hrow
       obtain ⟨g5, h⟩ := h
       rw [byK_eq, fT_eq, putK_eq] at h
       exact ⟨row, hrow, g5, h.1, h.2⟩
      ·exact h.elim
     ·exact h.elim
   ·exact h.elim
  ·rename_i g hc
   simp only [hc]
   split at h
   ·rename_i lab e n z fs hq
    simp only [hq]
    cases h with
    | rd ps h1 x hd hx hk =>
     rw [putK_eq] at hk
     exact .inl ⟨ps, h1, x, hd, hx, hk⟩
    | mk he ps h1 z' x hd hx hz hl hT hk =>
     rw [fT_eq, putK_eq] at hk
     exact .inr ⟨he, ps, h1, z', x, hd, ⟨hx, hz, hl⟩, hT, hk⟩
   ·rename_i hq
    simp only [hq]
    split at h
    ·rename_i lab e k l fs hq2
     simp only [hq2]
     obtain ⟨he, ps, h1, l', x, hd, hx, hl, hT, hk⟩ := h
     rw [fT_eq, putK_eq] at hk
     exact ⟨he, ps, h1, l', x, hd, ⟨hx, hl⟩, hT, hk⟩
    ·rename_i hq2
     simp only [hq2]
     cases h with
     | rd ps h1 x hd hx hk =>
      rw [putK_eq] at hk
      exact .inl ⟨ps, h1, x, hd, hx, hk⟩
     | sh hno ps h1 h2 e k rows hd hk =>
      rw [putK_eq] at hk
      exact .inr (.inl ⟨hno, ps, h1, h2, e, k, rows, hd, hk⟩)
     | wr h =>
      obtain ⟨avs, h1, ps, h2, qs, r, hd, h⟩ := h
      rw [fLs_eq, fPs_eq] at h
      obtain ⟨h3, h6, h7⟩ := h
      rw [fT_eq, putK_eq] at h7
      exact .inr (.inr ⟨avs, h1, ps, h2, h3, qs, r, hd, h6, h7⟩)
  ·rename_i hc
   simp only [hc]
   split at h
   ·rename_i a0 s0 t t' h1 h2
    simp only [h1, h2]
    obtain ⟨h0, h⟩ := h
    refine ⟨h0, ?_⟩
    split at h
    ·exact h.elim
    ·rename_i r hr
     simp only [hr]
     split at h
     ·rename_i lab e k l k2 q h3 h4
      simp only [h3, h4]
      obtain ⟨g1, m, hm, rows, hrows, hl, h⟩ := h
      rw [fT_eq, putK_eq] at h
      exact ⟨g1, m, rows, hm, hrows, hl, h⟩
     ·rename_i h3 h4
      simp only [h3, h4]
      obtain ⟨g1, m, hm, rows, hrows, hl, h⟩ := h
      rw [fT_eq, putK_eq] at h
      exact ⟨g1, m, rows, hm, hrows, hl, h⟩
     ·exact h.elim
   ·exact h.elim
  ·exact h.elim
 | makeFunc fn first caps =>
  cases fn with
  | func f =>
   simp only [ho] at h ⊢
   split at h
   ·rename_i x hx hc
    simp only [hx, hc]
    split at h
    ·rename_i lab cs off hb
     simp only [hb]
     obtain ⟨z, hz, h⟩ := CloK_ex h
     rw [fT_eq, putK_eq] at h
     exact ⟨z, hz, h⟩
    ·exact h.elim
   ·exact h.elim
  | _ => simp only [ho] at h
 | _ => simp only [ho] at h

theorem Sk_of {o : Oper} {T : List FV} {K K' : List FV → Prop} (hk : ∀ T, K T → K' T) (h : Sk Γ ei o T K) : Sk Γ ei o T K' := by
 unfold Sk at h ⊢
 repeat' (first | exact h.elim | exact hk _ h | refine Exists.imp (fun _ h => ?_) h | refine And.imp_right (fun h => ?_) h | refine Or.imp (fun h => ?_) (fun h => ?_) h | split at h)

theorem evOp_of {ops : List Oper} {o : Oper} {T : List FV} {K K' : List FV → Prop} (hk : ∀ T, K T → K' T) (h : evOp Γ ei Den ops o T K) : evOp Γ ei Den ops o T K' := by
 unfold evOp at h ⊢
 split at h
 ·split at h
  ·exact Sk_of hk h
  ·exact Yk_of (fun f hf => hk _ hf) h
 ·exact hk _ h
 ·exact h.elim
theorem evOps_of {ops : List Oper} {K K' : List FV → Prop} (hk : ∀ T, K T → K' T) : ∀ {rest : List Oper} {T : List FV}, evOps Γ ei Den ops rest T K → evOps Γ ei Den ops rest T K'
 | [], _, h => hk _ h
 | o :: rest, T, h => evOp_of (K := fun T' => evOps Γ ei Den ops rest T' K) (fun T' h' => evOps_of hk h') h
theorem ev_of : ∀ (c : Code) {T : List FV} {K K' : Ex → List FV → Prop}, (∀ e T, K e T → K' e T) → ev Γ ei Den P c T K → ev Γ ei Den P c T K'
 | .skip, T, K, K', hk, h => hk _ _ h
 | .ret, T, K, K', hk, h => hk _ _ h
 | .exit id, T, K, K', hk, h => hk _ _ h
 | .seq x y, T, K, K', hk, h => by
  refine ev_of x (fun e T' h' => ?_) (show ev Γ ei Den P x T _ from h)
  cases e with
  | normal => exact ev_of y hk h'
  | ret => exact hk _ _ h'
  | exit id => exact hk _ _ h'
 | .block id x, T, K, K', hk, h => by
  refine ev_of x (fun e T' h' => ?_) (show ev Γ ei Den P x T _ from h)
  cases e with
  | normal => exact hk _ _ h'
  | ret => exact hk _ _ h'
  | exit id' =>
   dsimp only at h' ⊢
   split at h'
   ·exact hk _ _ h'
   ·exact hk _ _ h'
 | .cond c x y, T, K, K', hk, h => by
  unfold ev at h ⊢
  split at h
  ·obtain ⟨t', h1, h2⟩ := h
   refine ⟨t', h1, ?_⟩
   cases t' with
   | true => exact ev_of x hk h2
   | false => exact ev_of y hk h2
  ·exact h.elim
 | .region id ops draw, T, K, K', hk, h => ⟨h.1, evOps_of (fun T h => hk _ _ h) h.2⟩
 | .loop x, T, K, K', hk, h => EVs.mono hk h
 | .rangeFunc .., _, _, _, _, h => (h : False).elim
 | .scope _, _, _, _, _, h => (h : False).elim
 | .label _, _, _, _, _, h => (h : False).elim
 | .goto _, _, _, _, _, h => (h : False).elim
 | .refuse _, _, _, _, _, h => (h : False).elim

def evOpF (Γ : Tab) (ei : TypeId) (Den : FuncId → List PV → Bool → Res → Prop) (ops : List Oper) (o : Oper) (d : Nat) (T : List FV) (K : List FV → Prop) : Prop :=
 match wantedA ops o T with
 | some true => match serial Γ o.op with
  | true => SkF Γ ei o d T K
  | false => YkF Γ ei Den o d (opd T) fun f => putK T o.dst f K
 | some false => putK T o.dst (.tup []) K
 | none => False
def evOpsF (Γ : Tab) (ei : TypeId) (Den : FuncId → List PV → Bool → Res → Prop) (ops : List Oper) : List Oper → List FV → (List FV → Prop) → Prop
 | [], T, K => K T
 | o :: rest, T, K => match o.dst with
  | some d => evOpF Γ ei Den ops o d T fun T' => evOpsF Γ ei Den ops rest T' K
  | none => evOpF Γ ei Den ops o 0 T fun T' => evOpsF Γ ei Den ops rest T' K
def evF (Γ : Tab) (ei : TypeId) (Den : FuncId → List PV → Bool → Res → Prop) (P : Program) : Code → List FV → (Ex → List FV → Prop) → Prop
 | .skip, T, K => K .normal T
 | .ret, T, K => K .ret T
 | .exit id, T, K => K (.exit id) T
 | .seq x y, T, K => evF Γ ei Den P x T fun e T' => match e with
  | .normal => evF Γ ei Den P y T' K
  | .ret => K .ret T'
  | .exit id => K (.exit id) T'
 | .block id x, T, K => evF Γ ei Den P x T fun e T' => match e with
  | .normal => K .normal T'
  | .ret => K .ret T'
  | .exit id' => match decide (id' = id) with
   | true => K .normal T'
   | false => K (.exit id') T'
 | .cond c x y, T, K => match opd T c with
  | .v false [.p (.bool t)] => Bo t fun t' => match t' with
   | true => evF Γ ei Den P x T K
   | false => evF Γ ei Den P y T K
  | _ => False
 | .region _ ops draw, T, K => ((match draw with | true => regB Γ T ops | false => true) && (nodupB (crDst ops.toList) && labB ops.toList T)) = true ∧ evOpsF Γ ei Den ops.toList ops.toList T (K .normal)
 | .loop x, T, K => EVs P (.loop x) T K
 | _, _, _ => False

theorem evOpF_le {ops : List Oper} {o : Oper} {T : List FV} {K : List FV → Prop} (h : evOpF Γ ei Den ops o (o.dst.getD 0) T K) : evOp Γ ei Den ops o T K := by
 unfold evOpF at h
 unfold evOp
 have e : (fun f => putK T o.dst f K) = fun f => K (put T o.dst f) := funext fun f => putK_eq
 split at h
 ·rename_i hw
  simp only [hw]
  split at h
  ·rename_i hs
   simp only [hs]
   exact SkF_le h
  ·rename_i hs
   simp only [hs]
   rw [e] at h
   exact YkF_le h
 ·rename_i hw
  simp only [hw]
  rw [putK_eq] at h
  exact h
 ·exact h.elim
theorem evOpsF_le {ops : List Oper} {K : List FV → Prop} : ∀ {rest : List Oper} {T : List FV}, evOpsF Γ ei Den ops rest T K → evOps Γ ei Den ops rest T K
 | [], _, h => h
 | o :: rest, T, h => by
  unfold evOpsF at h
  have h2 : evOpF Γ ei Den ops o (o.dst.getD 0) T fun T' => evOpsF Γ ei Den ops rest T' K := by
   split at h
   ·rename_i d hd
    rw [hd]
    exact h
   ·rename_i hd
    rw [hd]
    exact h
  exact evOp_of (fun T' h' => evOpsF_le h') (evOpF_le h2)
theorem evF_le : ∀ (c : Code) {T : List FV} {K : Ex → List FV → Prop}, evF Γ ei Den P c T K → ev Γ ei Den P c T K
 | .skip, T, K, h => h
 | .ret, T, K, h => h
 | .exit id, T, K, h => h
 | .seq x y, T, K, h => by
  refine ev_of x (fun e T' h' => ?_) (evF_le x (show evF Γ ei Den P x T _ from h))
  cases e with
  | normal => exact evF_le y h'
  | ret => exact h'
  | exit id => exact h'
 | .block id x, T, K, h => by
  refine ev_of x (fun e T' h' => ?_) (evF_le x (show evF Γ ei Den P x T _ from h))
  cases e with
  | normal => exact h'
  | ret => exact h'
  | exit id' => exact h'
 | .cond c x y, T, K, h => by
  unfold evF at h
  unfold ev
  split at h
  ·rename_i t ht
   simp only [ht]
   obtain ⟨t', h1, h2⟩ := h
   refine ⟨t', h1, ?_⟩
   cases t' with
   | true => exact evF_le x h2
   | false => exact evF_le y h2
  ·exact h.elim
 | .region id ops draw, T, K, h => ⟨h.1, evOpsF_le h.2⟩
 | .loop x, T, K, h => h
 | .rangeFunc .., _, _, h => (h : False).elim
 | .scope _, _, _, h => (h : False).elim
 | .label _, _, _, h => (h : False).elim
 | .goto _, _, _, h => (h : False).elim
 | .refuse _, _, _, h => (h : False).elim
end

/-- Behind this code an array is no longer the frame's own. -/
theorem EVs.un {P : Program} {c : Code} {T : List FV} {K : Ex → List FV → Prop} (lab : Lab) (h : EVs P c T fun e T' => (T'.all fun f => !f.hasB lab) = true ∧ fT (T'.map (FV.unO lab)) (K e)) : EVs P c T K := by
 refine EVs.post (h.mono fun e T' hk => ?_)
 rw [fT_eq] at hk
 exact ⟨_, Wk.unown lab hk.1, hk.2⟩
theorem wrapU {z : Int} (h1 : 0 ≤ z) (h2 : z ≤ 18446744073709551615) : IntKind.u64.wrap z = z := by
 rw [IntKind.wrap_u64]
 omega
theorem Wr.ofU {u : Int} {c : Int → Prop} (h1 : 0 ≤ u) (h2 : u ≤ 18446744073709551615) (hk : c u) : Wr .u64 u c := .mk u (wrapU h1 h2) hk
theorem lenT_go {as : List Lf} {ys : List PL} {T : List FV} (h : lenT as ys T True) : lenT as ys T True := h
/-- One step: whatever is plain is done. -/
theorem vs {p q : Prop} (hp : p) (h : p → q := by
  refine fun hp => ?_
  conv => whnf
  first
   | exact And.intro rfl hp
   | exact And.intro (by first | omega | (simp only [List.length_nil, List.length_cons, List.length_append, List.length_set, List.length_replicate, List.length_take, List.length_drop]; omega)) hp
   | exact And.intro (lenT_go (by (repeat' (first | exact True.intro | rfl | omega | refine And.intro ?_ ?_)); all_goals exact True.intro)) hp
   | exact Bo.dt (by first | assumption | omega | (simp only [List.length_nil, List.length_cons, List.length_append, List.length_set, List.length_replicate, List.length_take, List.length_drop]; omega)) hp
   | exact Bo.df (by first | assumption | omega | (simp only [List.length_nil, List.length_cons, List.length_append, List.length_set, List.length_replicate, List.length_take, List.length_drop]; omega)) hp
   | exact Wr.of64 (by first | omega | (simp only [List.length_nil, List.length_cons, List.length_append, List.length_set, List.length_replicate, List.length_take, List.length_drop]; omega)) (by first | omega | (simp only [List.length_nil, List.length_cons, List.length_append, List.length_set, List.length_replicate, List.length_take, List.length_drop]; omega)) hp
   | exact Wr.ofU (by omega) (by omega) hp
   | exact Bo.t (by assumption) hp
   | exact Bo.f (by assumption) hp
   | exact Bo.t rfl hp
   | exact Bo.f rfl hp
   | exact Got.mk _ rfl hp
   | exact Idx.mk _ rfl (by first | omega | (simp only [List.length_nil, List.length_cons, List.length_append, List.length_set, List.length_replicate, List.length_take, List.length_drop]; omega)) hp
   | exact LdI.mk _ (by assumption) hp
   | exact Exists.intro _ (And.intro rfl hp)) : q := h hp
end Go.Vx
end
section
/- Vx, part 18: a loop that is left from several places. -/
namespace Go.Vx
theorem EVs.loopX {P : Program} {c : Code} {K : Ex → List FV → Prop} {T : List FV} {α ε : Type} (ID : Nat) (pr : α → Prop) (meas : α → Nat) (upd : α → List (Nat × FV)) (a0 : α) (h0 : pr a0) (hT : Wk T (setAll T (upd a0)))
  (ex : ε → Prop) (updE : ε → List (Nat × FV))
  (round : ∀ a, pr a → EVs P c (setAll T (upd a)) (fun e T' => match e with
   | .normal => ∃ a', meas a' < meas a ∧ pr a' ∧ Wk T' (setAll T (upd a'))
   | .ret => False
   | .exit id => id = ID ∧ ∃ x, ex x ∧ Wk T' (setAll T (updE x))))
  (after : ∀ x, ex x → fT (setAll T (updE x)) (K (.exit ID))) : EVs P (.loop c) T K := by
 refine EVs.post (EVs.loopU pr meas upd a0 h0 hT fun a ha => (round a ha).mono fun e T' h => ?_)
 cases e with
 | normal => exact h
 | ret => exact h.elim
 | exit id =>
  obtain ⟨rfl, x, hx, hw⟩ := h
  have := after x hx
  rw [fT_eq] at this
  exact ⟨_, hw, this⟩
/-- What is the call's own can be read. -/
theorem DenS.un {P : Program} {ei : TypeId} {g : FuncId} {ps : List PV} {r : Res} (h : DenS P ei g ps true r) : DenS P ei g ps false r :=
 ⟨h.1, fun ok w vs hkp hvs => (h.2 ok w vs hkp hvs).mono fun e w' ⟨v, he, hb, N, h1, h2, h3⟩ => ⟨v, he, hb, Fr_RRes (fun j b hj => .inr (h1 j b hj).1) (fun j b hj => (h1 j b hj).2) h3⟩⟩
end Go.Vx
end
section
/- Vx, part 15: what an argument reads as. -/
namespace Go.Vx
open Go.RowKit

section
variable {H : Type} {enc : TypeId × Value → H} {P : Program} {w : World} {base : Nat} {sp : Nat → Bool} {held : Bool} {t : TypeId}

/-- Cells that are trod at type t read as leaves that Q allows. -/
def Reads (enc : TypeId × Value → H) (P : Program) (w : World) (base : Nat) (sp : Nat → Bool) (held : Bool) (t : TypeId) (Q : List PL → Prop) : Prop :=
 ∀ (fuel : Nat) (cs : List Value) (x : DataW H × List MemPlace), DataW.trod enc P w base sp held fuel t cs = some x → ∃ ls, Q ls ∧ All2 (PL.R w (fun _ => True)) ls cs

theorem Reads.bool (ht : P.underlying t = some .bool) : Reads enc P w base sp held t (fun ls => ∃ b, ls = [.bool b]) := by
 intro fuel cs x h
 obtain ⟨b, rfl, _⟩ := DataW.trod_bool ht h
 exact ⟨[.bool b], ⟨b, rfl⟩, rfl, True.intro⟩
theorem Reads.int {k : IntKind} (ht : P.underlying t = some (.int k)) : Reads enc P w base sp held t (fun ls => ∃ n, ls = [.int k n] ∧ (Lit.int k n).wf = true) := by
 intro fuel cs x h
 obtain ⟨n, rfl, _, hw⟩ := DataW.trod_int ht h
 exact ⟨[.int k n], ⟨n, rfl, hw⟩, rfl, True.intro⟩

theorem cell_spot {a : Addr} {u : Value} (h : w.cell? a = some u) : a = ⟨a.block, a.off, none⟩ := by
 unfold World.cell? at h
 split at h
 ·split at h
  ·cases h
  ·rename_i hs
   cases a with
   | mk b o s => cases s <;> simp_all
 ·cases h
theorem cell_block {a : Addr} {u : Value} (h : w.cell? a = some u) : a.block < w.heap.size := by
 unfold World.cell? at h
 split at h
 ·rename_i hg; exact (Array.getElem?_eq_some_iff.1 hg).1
 ·cases h

theorem Reads.struct2 {f0 f1 : Field} (ht : P.underlying t = some (.struct #[f0, f1])) (h0 : f0.offset = 0) (h1 : f1.offset = P.cellsOf f0.type) (hc : P.cellsOf t = P.cellsOf f0.type + P.cellsOf f1.type)
  {Q0 Q1 : List PL → Prop} (r0 : Reads enc P w base sp held f0.type Q0) (r1 : Reads enc P w base sp held f1.type Q1) :
  Reads enc P w base sp held t (fun ls => ∃ a b, ls = a ++ b ∧ Q0 a ∧ Q1 b) := by
 intro fuel cs x h
 obtain ⟨y0, y1, n, _, hl, g0, g1⟩ := Go.ChangeShapes.trod_struct2 ht h
 obtain ⟨a, qa, ra⟩ := r0 n _ y0 g0
 obtain ⟨b, qb, rb⟩ := r1 n _ y1 g1
 refine ⟨a ++ b, ⟨a, b, rfl, qa, qb⟩, ?_⟩
 have := ra.append rb
 rw [h0, h1, List.drop_zero] at this
 have e : List.take (P.cellsOf f0.type) cs ++ List.take (P.cellsOf f1.type) (List.drop (P.cellsOf f0.type) cs) = cs := by
  rw [List.take_of_length_le (l := List.drop (P.cellsOf f0.type) cs) (by simp; omega), List.take_append_drop]
 rwa [e] at this

/-- Choose, index by index. -/
theorem choose_list {α : Type} {p : Nat → α → Prop} : ∀ (n : Nat), (∀ i, i < n → ∃ x, p i x) → ∃ l : List α, l.length = n ∧ ∀ (i : Nat) (x : α), l[i]? = some x → p i x
 | 0, _ => ⟨[], rfl, fun i x h => by simp at h⟩
 | n + 1, h => by
  obtain ⟨l, hl, hp⟩ := choose_list n (fun i hi => h i (by omega))
  obtain ⟨x, hx⟩ := h n (by omega)
  refine ⟨l ++ [x], by simp [hl], fun i y hy => ?_⟩
  rw [List.getElem?_append] at hy
  split at hy
  ·exact hp i y hy
  ·rename_i hi
   have : i = n := by
    have := (List.getElem?_eq_some_iff.1 hy).1
    simp at this
    omega
   subst this
   simp [hl] at hy
   subst hy
   exact hx

theorem Reads.ints {e : TypeId} (ht : P.underlying t = some (.slice e)) (he : P.underlying e = some (.int .i64)) (hc : P.cellsOf e = 1) : Reads enc P w base sp held t (fun ls => ∃ l, ls = [.ints l] ∧ l.length ≤ maxLen) := by
 intro fuel cs x h
 rcases Go.ChangeShapes.open_ints ht he hc h with ⟨rfl, _⟩ | ⟨a, len, cap, zs, rfl, _, hl, hm, hz, _, hcell, _⟩
 ·exact ⟨[.ints []], ⟨[], rfl, by simp⟩, ⟨none, 0, rfl, Nat.le_refl _, by simp, .inl rfl⟩, True.intro⟩
 ·have hlz : len ≤ zs.length := by rw [hz]; split <;> omega
  have hlen : (zs.take len).length = len := by simp; omega
  refine ⟨[.ints (zs.take len)], ⟨_, rfl, by rw [hlen]; omega⟩, ⟨some a, cap, by rw [hlen], by rw [hlen]; exact hl, hm, ?_⟩, True.intro⟩
  by_cases h0 : len = 0
  ·left
   subst h0
   simp
  ·right
   have c0 := hcell 0 (by omega)
   have e0 : a.add 0 = a := by simp [Addr.add]
   rw [e0] at c0
   refine ⟨a.block, a.off, by rw [← cell_spot c0], True.intro, cell_block c0, fun i z hi => ?_⟩
   rw [List.getElem?_take] at hi
   split at hi
   ·have := hcell i (List.getElem?_eq_some_iff.1 hi).1
    rw [cell_spot c0, Addr.add_lit] at this
    rw [this]
    simp [List.getD, hi]
   ·cases hi

theorem Reads.rows {e : TypeId} (ht : P.underlying t = some (.slice e)) {k : Nat} (hc : P.cellsOf e = k) (hk : 0 < k) {Q : List PL → Prop} (r : Reads enc P w base sp held e Q) :
  Reads enc P w base sp held t (fun ls => ∃ rows, ls = [.arr k rows] ∧ rows.length ≤ maxLen ∧ ∀ q ∈ rows, Q q) := by
 intro fuel cs x h
 rcases DataW.trod_slice ht h with ⟨rfl, _⟩ | ⟨a, len, cap, elems, rest, n, _, rfl, _, _, hl, hm, hlen, hel, _⟩
 ·exact ⟨[.arr k []], ⟨[], rfl, by simp, fun _ h => by cases h⟩, ⟨none, 0, rfl, Nat.le_refl _, by simp, .inl rfl⟩, True.intro⟩
 ·have each : ∀ i, i < len → ∃ q : List PL, Q q ∧ q.length = k ∧ ∀ (j : Nat) (x : PL), q[j]? = some x → ∃ u, w.cell? (a.add (i * k + j)) = some u ∧ PL.R w (fun _ => True) x u := by
   intro i hi
   have hi' : i < elems.length := by omega
   have h1 := hel i hi
   rw [List.getElem?_eq_getElem hi', Option.bind_eq_some_iff] at h1
   obtain ⟨cs', h2, h3⟩ := h1
   obtain ⟨q, hq, hR⟩ := r n cs' _ h3
   obtain ⟨hcl, _, hcc⟩ := World.cells?_some h2
   rw [hc] at hcl hcc h2
   refine ⟨q, hq, by rw [hR.length]; first | exact hcl | omega, fun j x hx => ?_⟩
   obtain ⟨u, hu, hxu⟩ := hR.get j x hx
   refine ⟨u, ?_, hxu⟩
   have hjk : j < k := by
    have := (List.getElem?_eq_some_iff.1 hu).1
    omega
   have := hcc j (by omega)
   rw [hu] at this
   have e1 : (a.add (i * k)).add j = a.add (i * k + j) := by
    unfold Addr.add
    split <;> split <;> simp_all <;> omega
   rw [e1] at this
   first | exact this | exact this.symm
  obtain ⟨rows, hrl, hrows⟩ := choose_list (p := fun i (q : List PL) => Q q ∧ q.length = k ∧ ∀ (j : Nat) (x : PL), q[j]? = some x → ∃ u, w.cell? (a.add (i * k + j)) = some u ∧ PL.R w (fun _ => True) x u) len each
  refine ⟨[.arr k rows], ⟨rows, rfl, by omega, fun q hq => ?_⟩, ⟨some a, cap, by rw [hrl], by omega, hm, ?_⟩, True.intro⟩
  ·obtain ⟨i, hi⟩ := List.getElem?_of_mem hq
   exact (hrows i q hi).1
  ·by_cases h0 : len = 0
   ·left
    exact List.eq_nil_of_length_eq_zero (by omega)
   ·right
    obtain ⟨_, hlq, hc0⟩ := hrows 0 rows[0] (List.getElem?_eq_getElem (by omega))
    obtain ⟨u, hu, _⟩ := hc0 0 _ (List.getElem?_eq_getElem (by omega))
    have e0 : a.add (0 * k + 0) = a := by simp [Addr.add]
    rw [e0] at hu
    refine ⟨a.block, a.off, by rw [← cell_spot hu], True.intro, cell_block hu, PL.Rows.of_get fun i q hq => ?_⟩
    obtain ⟨_, hlq, hcq⟩ := hrows i q hq
    refine ⟨hlq, PL.Cells.of_get fun j x hx => ?_⟩
    obtain ⟨u2, hu2, hxu⟩ := hcq j x hx
    rw [cell_spot hu, Addr.add_lit] at hu2
    exact ⟨u2, by rw [Nat.add_assoc]; exact hu2, hxu⟩
end
end Go.Vx
end
section
/- Vx, part 19: a label gets another name. -/
namespace Go.Vx
def Lf.ren (a b : Lab) : Lf → Lf
 | .own l e x => match decide (l = a) with
  | true => .own b e x
  | false => match decide (l = b) with
   | true => .undef
   | false => .own l e x
 | x => match x.has a || x.has b with
  | true => .undef
  | false => x
def FV.ren (a b : Lab) : FV → FV
 | .box l cs off => match decide (l = a) || decide (l = b) with
  | true => .any
  | false => .box l (cs.map (Lf.ren a b)) off
 | .lit l k cs => match decide (l = a) || decide (l = b) with
  | true => .any
  | false => .lit l k (cs.map (Lf.ren a b))
 | x => x.mapL (Lf.ren a b)
theorem Wk.ren {T : List FV} (a b : Lab) (hb : Nat.blt b.1 2000000 = true := by rfl) : Wk T (T.map (FV.ren a b)) := fun F β act w h => by
 obtain ⟨β', hβ⟩ : ∃ β' : BM, β' = fun l => if l = b then β a else if l = a then none else β l := ⟨_, rfl⟩
 have hb' : β' b = β a := by rw [hβ]; simp
 have ho : ∀ l, l ≠ a → l ≠ b → β' l = β l := fun l h1 h2 => by rw [hβ]; simp [h1, h2]
 have hs : ∀ l g, β' l = some g → (l = b ∧ β a = some g) ∨ (l ≠ a ∧ l ≠ b ∧ β l = some g) := fun l g hl => by
  by_cases h2 : l = b
  ·subst h2; rw [hb'] at hl; exact .inl ⟨rfl, hl⟩
  ·by_cases h1 : l = a
   ·rw [hβ] at hl
    simp only at hl
    rw [if_neg h2, if_pos h1] at hl
    cases hl
   ·rw [ho l h1 h2] at hl
    exact .inr ⟨h1, h2, hl⟩
 have m : Mv F β β' w w := ⟨Nat.le_refl _, fun g hg _ => ⟨⟨hg.1, fun l hl => by
  rcases hs l g hl with ⟨_, h1⟩ | ⟨_, _, h1⟩
  ·exact hg.2 _ h1
  ·exact hg.2 _ h1⟩, rfl⟩⟩
 have hk : ∀ l g, l ≠ a → l ≠ b → β l = some g → β' l = some g ∧ w.heap[g]? = w.heap[g]? := fun l g h1 h2 h3 => ⟨by rw [ho l h1 h2]; exact h3, rfl⟩
 have gen : ∀ {x : Lf} {v : Value}, RLf F β w x v → RLf F β' w (match x.has a || x.has b with | true => .undef | false => x) v := by
  intro x v hx
  cases hh : x.has a || x.has b with
  | true => exact R_one hx
  | false =>
   rw [Bool.or_eq_false_iff] at hh
   exact hx.move m (fun l g hl hg => hk l g (fun e => by subst e; rw [hh.1] at hl; cases hl) (fun e => by subst e; rw [hh.2] at hl; cases hl) hg)
 have lf : ∀ {x : Lf} {v : Value}, RLf F β w x v → RLf F β' w (x.ren a b) v := by
  intro x v hx
  cases x with
  | own l e x =>
   unfold Lf.ren
   dsimp only
   by_cases h1 : l = a
   ·subst h1
    rw [decide_eq_true rfl]
    refine ⟨⟨hx.1.1, PinR.low (by simpa using hb)⟩, ?_⟩
    rcases hx.2 with h2 | ⟨g, c, cur, h2, h3, h4, h5, h6, h7, h8⟩
    ·exact .inl h2
    ·exact .inr ⟨g, c, cur, h2, by rw [hb']; exact h3, h4, h5, h6, h7, h8.move m rfl⟩
   ·rw [decide_eq_false h1]
    by_cases h2 : l = b
    ·subst h2
     rw [decide_eq_true rfl]
     exact R_one hx
    ·rw [decide_eq_false h2]
     exact hx.move m (fun l2 g hl hg => by
      have e : l = l2 := by simpa [Lf.has] using hl
      subst e
      exact hk l g h1 h2 hg)
  | _ => exact gen hx
 have hlen : ∀ {s : Lf} {x x' : PL}, s.arr? = some x → (s.ren a b).arr? = some x' → x'.len = x.len ∧ x'.wd = x.wd := by
  intro s x x' h1 h2
  cases s with
  | own l e y =>
   unfold Lf.ren at h2
   dsimp only at h2
   split at h2
   ·have e : (Lf.own b e y).arr? = (Lf.own l e y).arr? := by cases y <;> rfl
    rw [e, h1] at h2
    cases h2
    exact ⟨rfl, rfl⟩
   ·split at h2
    ·cases h2
    ·rw [h1] at h2
     cases h2
     exact ⟨rfl, rfl⟩
  | _ =>
   unfold Lf.ren at h2
   dsimp only at h2
   split at h2
   ·cases h2
   ·rw [h1] at h2; cases h2; exact ⟨rfl, rfl⟩
 have plain : ∀ {f : FV} {v : Value}, (∀ l, f.hasB l = true → l ≠ a ∧ l ≠ b) → RFV F β w f v → RFV F β' w (f.mapL (Lf.ren a b)) v := fun hl hr =>
  mapL_R (fun _ hx => lf hx) (fun _ h1 h2 => hlen h1 h2) (fun l h1 g cc ty hg hh => ⟨(hk l g (hl l h1).1 (hl l h1).2 hg).1, hh⟩) hr
 refine ⟨β', { defers := h.defers, size := h.size.trans (by simp), os := h.os, tape := h.tape, output := h.output, hsize := h.hsize, kept := h.kept, mok := h.mok, inj := ?_, rng := ?_, rel := ?_ }⟩
 ·intro i f hf
  rw [List.getElem?_map] at hf
  obtain ⟨f0, hf0, rfl⟩ := Option.map_eq_some_iff.1 hf
  obtain ⟨c, hc, hr⟩ := h.rel i f0 hf0
  refine ⟨c, hc, ?_⟩
  cases f0 with
  | box l cs off =>
   unfold FV.ren
   dsimp only
   cases hh : decide (l = a) || decide (l = b) with
   | true => exact True.intro
   | false =>
    rw [Bool.or_eq_false_iff, decide_eq_false_iff_not, decide_eq_false_iff_not] at hh
    exact plain (f := .box l cs off) (fun l2 h2 => by
     have e : l = l2 := by simpa [FV.hasB] using h2
     subst e
     exact hh) hr
  | lit l k cs =>
   unfold FV.ren
   dsimp only
   cases hh : decide (l = a) || decide (l = b) with
   | true => exact True.intro
   | false =>
    rw [Bool.or_eq_false_iff, decide_eq_false_iff_not, decide_eq_false_iff_not] at hh
    exact plain (f := .lit l k cs) (fun l2 h2 => by
     have e : l = l2 := by simpa [FV.hasB] using h2
     subst e
     exact hh) hr
  | any => exact plain (f := .any) (fun l h => by cases h) hr
  | v b2 xs => exact plain (f := .v b2 xs) (fun l h => by cases h) hr
  | tup vs => exact plain (f := .tup vs) (fun l h => by cases h) hr
  | elt s j off => exact plain (f := .elt s j off) (fun l h => by cases h) hr
  | sub s j off => exact plain (f := .sub s j off) (fun l h => by cases h) hr
 ·intro l l' g h1 h2
  rcases hs l g h1 with ⟨e1, k1⟩ | ⟨n1, n2, k1⟩ <;> rcases hs l' g h2 with ⟨e2, k2⟩ | ⟨n3, n4, k2⟩
  ·rw [e1, e2]
  ·exact absurd (h.inj _ _ _ k2 k1) n3
  ·exact absurd (h.inj _ _ _ k1 k2) n1
  ·exact h.inj _ _ _ k1 k2
 ·intro l g h1
  rcases hs l g h1 with ⟨_, k1⟩ | ⟨_, _, k1⟩
  ·exact h.rng _ _ k1
  ·exact h.rng _ _ k1
end Go.Vx
end
