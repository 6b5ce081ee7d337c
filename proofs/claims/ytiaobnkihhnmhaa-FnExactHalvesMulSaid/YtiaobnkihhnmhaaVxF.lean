/- Vx, part 16: the interpreter once more, with values worked out at once, and a stop wherever something is to be shown. It implies the first one. -/
import Derived.Test.YtiaobnkihhnmhaaVxN
namespace Go.Vx
open Go.RowKit

/-! ### stops -/
inductive Wr (kd : IntKind) (u : Int) (c : Int → Prop) : Prop where
  | mk (z : Int) (h : kd.wrap u = z) (hk : c z) : Wr kd u c
inductive Bo (b : Bool) (c : Bool → Prop) : Prop where
  | mk (t : Bool) (h : b = t) (hk : c t) : Bo b c
inductive Eqz (u : Int) (c : Int → Prop) : Prop where
  | mk (z : Int) (h : u = z) (hk : c z) : Eqz u c
inductive Got {α : Type} (o : Option α) (c : α → Prop) : Prop where
  | mk (y : α) (h : o = some y) (hk : c y) : Got o c
inductive LdI (l : List Int) (i : Nat) (c : Int → Prop) : Prop where
  | mk (z : Int) (h : l[i]? = some z) (hk : c z) : LdI l i c
inductive LdR (l : List (List PL)) (i : Nat) (c : List PL → Prop) : Prop where
  | mk (q : List PL) (h : l[i]? = some q) (hk : c q) : LdR l i c
inductive Idx (z : Int) (n : Nat) (c : Nat → Prop) : Prop where
  | mk (i : Nat) (h : z = (i : Int)) (hi : i < n) (hk : c i) : Idx z n c
inductive CallS (Den : FuncId → List PV → Bool → Res → Prop) (g : FuncId) (fs : List FV) (c : Bool → Res → Prop) : Prop where
  | mk (ps : List PV) (h : erVs fs = some ps) (fl lb : Bool) (r : Res) (hd : Den g ps fl r) (hok : callOk fl fs r = true) (hk : c (fl && lb) r) : CallS Den g fs c
inductive MutS (md : FuncId → List PV → List PV → MRes → Prop) (ei : TypeId) (g : FuncId) (fs : List FV) (c : List Lf → List PL → MRes → Prop) : Prop where
  | mk (avs : List (Bool × List Lf)) (h1 : mapO argV fs = some avs) (ps : List PV) (h2 : mapO (resV (frL ei)) avs = some ps) (qs : List PV) (r : MRes) (hd : md g ps qs r) (hk : c (avs.flatMap (·.2)) (qs.flatMap (·.2)) r) : MutS md ei g fs c
inductive NewK (c : Bool → Prop) : Prop where
  | mk (lb : Bool) (hk : c lb) : NewK c
inductive MakeK (z z' : Int) (c : Nat → Bool → Prop) : Prop where
  | mk (n : Nat) (h : z = (n : Int)) (h' : z' = (n : Int)) (hn : n ≤ 17592186044416) (lb : Bool) (hk : c n lb) : MakeK z z' c
inductive MakeR (z z' : Int) (b : Nat) (c : Nat → Bool → Prop) : Prop where
  | mk (n : Nat) (h : z = (n : Int)) (h' : z' = (n : Int)) (hn : n * (b + 1) ≤ 140737488355328) (lb : Bool) (hk : c n lb) : MakeR z z' b c
inductive SubK (lo hi : Option FV) (n : Nat) (c : Nat → Nat → Prop) : Prop where
  | mk (i j : Nat) (h1 : bndA 0 i lo) (h2 : bndA n j hi) (hij : i ≤ j) (hj : j ≤ n) (hk : c i j) : SubK lo hi n c

theorem Wr.of64 {u : Int} {c : Int → Prop} (h1 : -9223372036854775808 ≤ u) (h2 : u ≤ 9223372036854775807) (hk : c u) : Wr .i64 u c := .mk u (wrap64 h1 h2) hk
theorem Bo.t {b : Bool} {c : Bool → Prop} (h : b = true) (hk : c true) : Bo b c := .mk true h hk
theorem Bo.f {b : Bool} {c : Bool → Prop} (h : b = false) (hk : c false) : Bo b c := .mk false h hk
theorem Bo.dt {p : Prop} [Decidable p] {c : Bool → Prop} (h : p) (hk : c true) : Bo (decide p) c := .mk true (decide_eq_true h) hk
theorem Bo.df {p : Prop} [Decidable p] {c : Bool → Prop} (h : ¬ p) (hk : c false) : Bo (decide p) c := .mk false (decide_eq_false h) hk

/-! ### values at once -/
def fPL (x : PL) (k : PL → Prop) : Prop := match x with
  | .int kd z => k (.int kd z)
  | .bool b => k (.bool b)
  | .str s => k (.str s)
  | .fn f => k (.fn f)
  | .ints l => k (.ints l)
  | .arr w l => k (.arr w l)
def fLf (x : Lf) (k : Lf → Prop) : Prop := match x with
  | .undef => k .undef
  | .nil => k .nil
  | .p x => fPL x fun x => k (.p x)
  | .own (a, b) e x => fPL x fun x => k (.own (a, b) e x)
def fLs : List Lf → (List Lf → Prop) → Prop
  | [], k => k []
  | x :: xs, k => fLf x fun x => fLs xs fun xs => k (x :: xs)
def fVs : List (Bool × List Lf) → (List (Bool × List Lf) → Prop) → Prop
  | [], k => k []
  | (true, xs) :: vs, k => fLs xs fun xs => fVs vs fun vs => k ((true, xs) :: vs)
  | (false, xs) :: vs, k => fLs xs fun xs => fVs vs fun vs => k ((false, xs) :: vs)
def fFV (f : FV) (k : FV → Prop) : Prop := match f with
  | .any => k .any
  | .v true xs => fLs xs fun xs => k (.v true xs)
  | .v false xs => fLs xs fun xs => k (.v false xs)
  | .tup vs => fVs vs fun vs => k (.tup vs)
  | .box (a, b) cs off => fLs cs fun cs => k (.box (a, b) cs off)
  | .elt s i off => fLf s fun s => k (.elt s i off)
def fT : List FV → (List FV → Prop) → Prop
  | [], K => K []
  | f :: fs, K => fFV f fun f => fT fs fun fs => K (f :: fs)
def putL : List FV → Nat → FV → (List FV → Prop) → Prop
  | [], _, _, K => K []
  | _ :: xs, 0, f, K => K (f :: xs)
  | x :: xs, n + 1, f, K => putL xs n f fun ys => K (x :: ys)
def putK (T : List FV) (d : Option Tmp) (f : FV) (K : List FV → Prop) : Prop := match d with
  | some d => fFV f fun f => putL T d f K
  | none => K T

theorem fPL_eq {x : PL} {k : PL → Prop} : fPL x k = k x := by cases x <;> rfl
theorem fLf_eq {x : Lf} {k : Lf → Prop} : fLf x k = k x := by
  cases x with
  | p x => exact fPL_eq (x := x) (k := fun x => k (.p x))
  | own l e x => obtain ⟨a, b⟩ := l; exact fPL_eq (x := x) (k := fun x => k (.own (a, b) e x))
  | _ => rfl
theorem fLs_eq : ∀ {xs : List Lf} {k : List Lf → Prop}, fLs xs k = k xs
  | [], _ => rfl
  | x :: xs, k => by unfold fLs; rw [fLf_eq, fLs_eq]
theorem fVs_eq : ∀ {xs : List (Bool × List Lf)} {k : List (Bool × List Lf) → Prop}, fVs xs k = k xs
  | [], _ => rfl
  | (true, xs) :: vs, k => by unfold fVs; rw [fLs_eq, fVs_eq]
  | (false, xs) :: vs, k => by unfold fVs; rw [fLs_eq, fVs_eq]
theorem fFV_eq {f : FV} {k : FV → Prop} : fFV f k = k f := by
  cases f with
  | any => rfl
  | v a xs => cases a <;> exact fLs_eq
  | tup vs => exact fVs_eq
  | box l cs off => obtain ⟨a, b⟩ := l; exact fLs_eq
  | elt s i off => exact fLf_eq (x := s) (k := fun s => k (.elt s i off))
theorem fT_eq : ∀ {T : List FV} {K : List FV → Prop}, fT T K = K T
  | [], _ => rfl
  | f :: fs, K => by unfold fT; rw [fFV_eq, fT_eq]
theorem putL_eq : ∀ {T : List FV} {n : Nat} {f : FV} {K : List FV → Prop}, putL T n f K = K (T.set n f)
  | [], n, _, _ => by cases n <;> rfl
  | _ :: _, 0, _, _ => rfl
  | x :: xs, n + 1, f, K => by unfold putL; rw [putL_eq]; rfl
theorem putK_eq {T : List FV} {d : Option Tmp} {f : FV} {K : List FV → Prop} : putK T d f K = K (put T d f) := by
  cases d with
  | none => rfl
  | some d => unfold putK; dsimp only; rw [fFV_eq, putL_eq]; rfl

/-! ### the operations -/
def binKF (isB : Bool) (op : BinOp) (a b : PL) (c : PL → Prop) : Prop :=
  match a, b with
  | .int k x, .int k' y => match op with
    | .shl => 0 ≤ y ∧ Wr k (x * 2 ^ (min y.toNat k.bits)) fun z => c (.int k z)
    | .shr => 0 ≤ y ∧ Eqz (x.fdiv (2 ^ (min y.toNat k.bits))) fun z => c (.int k z)
    | .or => k = k' ∧ Eqz (Go.bits .or k x y) fun z => c (.int k z)
    | .add => k = k' ∧ Wr k (x + y) fun z => c (.int k z)
    | .sub => k = k' ∧ Wr k (x - y) fun z => c (.int k z)
    | .mul => k = k' ∧ Wr k (x * y) fun z => c (.int k z)
    | .lss => k = k' ∧ Bo (decide (x < y)) fun t => c (.bool t)
    | .gtr => k = k' ∧ Bo (decide (x > y)) fun t => c (.bool t)
    | .leq => k = k' ∧ Bo (decide (x ≤ y)) fun t => c (.bool t)
    | .geq => k = k' ∧ Bo (decide (x ≥ y)) fun t => c (.bool t)
    | .eql => k = k' ∧ Bo (decide (x = y)) fun t => c (.bool t)
    | .neq => k = k' ∧ Bo (decide (x ≠ y)) fun t => c (.bool t)
    | .quo => k = k' ∧ y ≠ 0 ∧ Wr k (x.tdiv y) fun z => c (.int k z)
    | .rem => k = k' ∧ y ≠ 0 ∧ Eqz (x.tmod y) fun z => c (.int k z)
    | _ => False
  | .bool x, .bool y => match op with
    | .eql => isB = true ∧ Bo (x == y) fun t => c (.bool t)
    | .neq => isB = true ∧ Bo (x != y) fun t => c (.bool t)
    | _ => False
  | _, _ => False

theorem binKF_le {isB : Bool} {op : BinOp} {a b : PL} {c : PL → Prop} (h : binKF isB op a b c) : binK isB op a b c := by
  unfold binKF at h
  split at h
  · split at h
    · obtain ⟨h1, ⟨z, h2, h3⟩⟩ := h; exact ⟨h1, z, h2, h3⟩
    · obtain ⟨h1, ⟨z, h2, h3⟩⟩ := h; exact ⟨h1, z, h2, h3⟩
    · obtain ⟨h1, ⟨z, h2, h3⟩⟩ := h; exact ⟨h1, z, h2, h3⟩
    · obtain ⟨h1, ⟨z, h2, h3⟩⟩ := h; exact ⟨h1, z, h2, h3⟩
    · obtain ⟨h1, ⟨z, h2, h3⟩⟩ := h; exact ⟨h1, z, h2, h3⟩
    · obtain ⟨h1, ⟨z, h2, h3⟩⟩ := h; exact ⟨h1, z, h2, h3⟩
    · obtain ⟨h1, ⟨z, h2, h3⟩⟩ := h; exact ⟨h1, z, h2, h3⟩
    · obtain ⟨h1, ⟨z, h2, h3⟩⟩ := h; exact ⟨h1, z, h2, h3⟩
    · obtain ⟨h1, ⟨z, h2, h3⟩⟩ := h; exact ⟨h1, z, h2, h3⟩
    · obtain ⟨h1, ⟨z, h2, h3⟩⟩ := h; exact ⟨h1, z, h2, h3⟩
    · obtain ⟨h1, ⟨z, h2, h3⟩⟩ := h; exact ⟨h1, z, h2, h3⟩
    · obtain ⟨h1, ⟨z, h2, h3⟩⟩ := h; exact ⟨h1, z, h2, h3⟩
    · obtain ⟨h1, h0, ⟨z, h2, h3⟩⟩ := h; exact ⟨h1, h0, z, h2, h3⟩
    · obtain ⟨h1, h0, ⟨z, h2, h3⟩⟩ := h; exact ⟨h1, h0, z, h2, h3⟩
    · exact h.elim
  · split at h
    · obtain ⟨h1, ⟨z, h2, h3⟩⟩ := h; exact ⟨h1, z, h2, h3⟩
    · obtain ⟨h1, ⟨z, h2, h3⟩⟩ := h; exact ⟨h1, z, h2, h3⟩
    · exact h.elim
  · exact h.elim

/-- A slice's length, worked out. -/
def lenK (y : PL) (c : Nat → Prop) : Prop := match y with
  | .ints l => c l.length
  | .arr _ l => c l.length
  | _ => c 0
theorem lenK_eq {y : PL} {c : Nat → Prop} : lenK y c = c y.len := by cases y <;> rfl

def YkF (Γ : Tab) (ei : TypeId) (Den : FuncId → List PV → Bool → Res → Prop) (o : Oper) (d : Nat) (ρ : Operand → FV) (k : FV → Prop) : Prop :=
  match o.op with
  | .move x => k (ρ x)
  | .assign x => k (ρ x)
  | .pick c a b => match ρ c with
    | .v false [.p (.bool t)] => Bo t fun t' => match t' with | true => k (ρ a) | false => k (ρ b)
    | _ => False
  | .alloc t => match Γ.get t with
    | some r => k (.box (d, 0) r.zero 0)
    | none => False
  | .box t x => match Γ.get t, ρ x with
    | some _, .v _ xs => k (.box (d, 0) xs 0)
    | _, _ => False
  | .load t x => match Γ.get t with
    | none => False
    | some r => match ρ x with
      | .box _ cs off => match r.cells with
        | some n => Nat.ble (off + n) cs.length = true ∧ k (.v true ((cs.drop off).take n))
        | none => Got cs[off]? fun y => k (.v false [y])
      | .elt s i off => match s.arr? with
        | some (.ints l) => match r.cells with
          | some _ => False
          | none => LdI l i fun z => off = 0 ∧ k (.v false [.p (.int .i64 z)])
        | some (.arr _ l) => LdR l i fun q => match r.cells with
          | some n => Nat.ble (off + n) q.length = true ∧ k (.v true (((q.drop off).take n).map .p))
          | none => Got q[off]? fun y => k (.v false [.p y])
        | _ => False
      | _ => False
  | .binOp op t x y _ => match ρ x, ρ y with
    | .v false [.p a], .v false [.p b] => binKF (match Γ.get t with | some r => r.bool | none => false) op a b fun r => k (.v false [.p r])
    | _, _ => False
  | .unOp op _ x => match op, ρ x with
    | .not, .v false [.p (.bool b)] => Bo (!b) fun t => k (.v false [.p (.bool t)])
    | .neg, .v false [.p (.int kd z)] => Wr kd (-z) fun t => k (.v false [.p (.int kd t)])
    | _, _ => False
  | .fieldAddr s x f => match Γ.get s with
    | some ⟨_, .agg _ offs, _⟩ => match offs[f]? with
      | none => False
      | some q => match ρ x with
        | .box lab cs off => k (.box lab cs (off + q.1))
        | .elt l i off => k (.elt l i (off + q.1))
        | _ => False
    | _ => False
  | .field s x f => match Γ.get s with
    | some ⟨_, .agg _ offs, _⟩ => match offs[f]? with
      | none => False
      | some q => match ρ x with
        | .v true xs => match q.2 with
          | some n => Nat.ble (q.1 + n) xs.length = true ∧ k (.v true ((xs.drop q.1).take n))
          | none => Got xs[q.1]? fun y => k (.v false [y])
        | _ => False
    | _ => False
  | .indexAddr t x ix => match Γ.get t with
    | none => False
    | some r => match ρ x, ρ ix with
      | .v false [s], .v false [.p (.int _ z)] => match s.arr? with
        | some y => tyArr r.ty y = true ∧ lenK y fun n => Idx z n fun i => k (.elt s i 0)
        | none => False
      | _, _ => False
  | .extract x j => match ρ x with
    | .tup vs => Got vs[j]? fun q => k (.v q.1 q.2)
    | _ => False
  | .call c => match c.callee with
    | .builtin .len => match c.args.toList, c.argTypes.toList with
      | [x], [t] => match Γ.get t, ρ x with
        | some r, .v false [s] => match s.arr? with
          | some y => r.sl = true ∧ lenK y fun n => k (.v false [.p (.int .i64 n)])
          | none => False
        | _, _ => False
      | _, _ => False
    | .builtin .max => match c.args.toList with
      | [x, y] => match ρ x, ρ y with
        | .v false [.p (.int kx u)], .v false [.p (.int _ v)] => Eqz (if v > u then v else u) fun z => k (.v false [.p (.int kx z)])
        | _, _ => False
      | _ => False
    | .value f => match ρ f with
      | .v false [.p (.fn g)] => CallS Den g (c.args.toList.map ρ) fun fl r => k (labelR ei d fl r)
      | _ => False
    | _ => False
  | .build t parts => match Γ.get t with
    | some ⟨_, .agg _ offs, zero⟩ => match fillA offs (parts.toList.map fun q => (q.1, ρ q.2)) zero with
      | some cs => k (.v true cs)
      | none => False
    | _ => False
  | .slice t x lo hi mx => match mx with
    | some _ => False
    | none => match Γ.get t, ρ x with
      | some r, .v false [.p y] => tyArr r.ty y = true ∧ lenK y fun n => SubK (lo.map ρ) (hi.map ρ) n fun i j => k (.v false [.p (y.sub i j)])
      | _, _ => False
  | .convert s d x => match Γ.get s, Γ.get d, ρ x with
    | some _, some ⟨_, .int kd, _⟩, .v false [.p (.int _ z)] => Wr kd z fun u => k (.v false [.p (.int kd u)])
    | _, _, _ => False
  | .buildSlice t n parts => match Γ.get t with
    | some ⟨_, .ints, _⟩ => match intsA 0 (parts.toList.map fun q => (q.1, ρ q.2)) with
      | some zs => (Nat.beq n zs.length && Nat.ble n 1000) = true ∧ NewK fun lb => k (.v false [ownIf lb (d, 0) ei (.ints zs)])
      | none => False
    | some ⟨_, .slice e kk _, _⟩ => match rowsA kk 0 (parts.toList.map fun q => (q.1, ρ q.2)) with
      | some rows => (Nat.beq n rows.length && Nat.ble (n * kk) 1000) = true ∧ NewK fun lb => k (.v false [ownIf lb (d, 0) e (.arr kk rows)])
      | none => False
    | _ => False
  | .makeSlice t l c => match Γ.get t, ρ l, ρ c with
    | some ⟨_, .ints, _⟩, .v false [.p (.int _ z)], .v false [.p (.int _ z')] => MakeK z z' fun n lb => k (.v false [ownIf lb (d, 0) ei (.ints (List.replicate n 0))])
    | some ⟨_, .slice e kk b, _⟩, .v false [.p (.int _ z)], .v false [.p (.int _ z')] => match Γ.get e with
      | some r => match unLs r.zero with
        | some zs => MakeR z z' b fun n lb => k (.v false [ownIf lb (d, 0) e (.arr kk (List.replicate n zs))])
        | none => False
      | none => False
    | _, _, _ => False
  | _ => False

theorem YkF_le {Γ : Tab} {ei : TypeId} {Den : FuncId → List PV → Bool → Res → Prop} {o : Oper} {ρ : Operand → FV} {k : FV → Prop} (h : YkF Γ ei Den o (o.dst.getD 0) ρ k) : Yk Γ ei Den o ρ k := by
  unfold YkF at h
  unfold Yk
  cases ho : o.op with
  | move x => simp only [ho] at h ⊢; exact h
  | assign x => simp only [ho] at h ⊢; exact h
  | pick c a b =>
    simp only [ho] at h ⊢
    split at h
    · rename_i t h0
      simp only [h0]
      obtain ⟨t', h1, h2⟩ := h
      exact ⟨t', h1, by cases t' <;> exact h2⟩
    · exact h.elim
  | alloc t => simp only [ho] at h ⊢; exact h
  | box t x => simp only [ho] at h ⊢; exact h
  | load t x =>
    simp only [ho] at h ⊢
    split at h
    · exact h.elim
    · rename_i r hr
      simp only [hr]
      split at h
      · rename_i lab cs off hx
        simp only [hx]
        split at h
        · rename_i n hn
          simp only [hn]
          exact h
        · rename_i hn
          simp only [hn]
          obtain ⟨y, h1, h2⟩ := h
          exact ⟨y, h1, h2⟩
      · rename_i s i off hx
        simp only [hx]
        split at h
        · rename_i l hl
          simp only [hl]
          split at h
          · exact h.elim
          · rename_i hn
            simp only [hn]
            obtain ⟨y, h1, h0, h2⟩ := h
            exact ⟨y, h1, h0, h2⟩
        · rename_i k' l hl
          simp only [hl]
          obtain ⟨q, h1, h2⟩ := h
          refine ⟨q, h1, ?_⟩
          split at h2
          · rename_i n hn
            simp only [hn]
            exact h2
          · rename_i hn
            simp only [hn]
            obtain ⟨y, h3, h4⟩ := h2
            exact ⟨y, h3, h4⟩
        · exact h.elim
      · exact h.elim
  | binOp op t x y u =>
    simp only [ho] at h ⊢
    split at h
    · rename_i p q h1 h2
      simp only [h1, h2]
      exact binKF_le h
    · exact h.elim
  | unOp op t x =>
    simp only [ho] at h ⊢
    split at h
    · rename_i b hx
      simp only [hx]
      obtain ⟨y, h1, h2⟩ := h
      exact ⟨y, h1, h2⟩
    · rename_i kd z hx
      simp only [hx]
      obtain ⟨y, h1, h2⟩ := h
      exact ⟨y, h1, h2⟩
    · exact h.elim
  | fieldAddr s x f => simp only [ho] at h ⊢; exact h
  | field s x f =>
    simp only [ho] at h ⊢
    split at h
    · rename_i id n offs zero hr
      simp only [hr]
      split at h
      · exact h.elim
      · rename_i q hq
        simp only [hq]
        split at h
        · rename_i xs hx
          simp only [hx]
          split at h
          · rename_i n hn
            simp only [hn]
            exact h
          · rename_i hn
            simp only [hn]
            obtain ⟨y, h1, h2⟩ := h
            exact ⟨y, h1, h2⟩
        · exact h.elim
    · exact h.elim
  | indexAddr t x ix =>
    simp only [ho] at h ⊢
    split at h
    · exact h.elim
    · rename_i r hr
      simp only [hr]
      split at h
      · rename_i s kz z hx hz
        simp only [hx, hz]
        split at h
        · rename_i y hy
          simp only [hy]
          obtain ⟨h1, h2⟩ := h
          rw [lenK_eq] at h2
          obtain ⟨i, h3, h4, h5⟩ := h2
          exact ⟨h1, i, h3, h4, h5⟩
        · exact h.elim
      · exact h.elim
  | extract x j =>
    simp only [ho] at h ⊢
    split at h
    · rename_i vs hx
      simp only [hx]
      obtain ⟨y, h1, h2⟩ := h
      exact ⟨y, h1, h2⟩
    · exact h.elim
  | call c =>
    simp only [ho] at h ⊢
    split at h
    · rename_i hc
      simp only [hc]
      split at h
      · rename_i x t hx ht
        simp only [hx, ht]
        split at h
        · rename_i r s hr hs
          simp only [hr, hs]
          split at h
          · rename_i y hy
            simp only [hy]
            obtain ⟨h1, h2⟩ := h
            rw [lenK_eq] at h2
            exact ⟨h1, h2⟩
          · exact h.elim
        · exact h.elim
      · exact h.elim
    · rename_i hc
      simp only [hc]
      split at h
      · rename_i x y hxy
        simp only [hxy]
        split at h
        · rename_i kx u ky v hu hv
          simp only [hu, hv]
          obtain ⟨y, h1, h2⟩ := h
          exact ⟨y, h1, h2⟩
        · exact h.elim
      · exact h.elim
    · rename_i f hc
      simp only [hc]
      split at h
      · rename_i g hg
        simp only [hg]
        obtain ⟨ps, h1, fl, lb, r, h2, h3, h4⟩ := h
        exact ⟨ps, h1, fl, lb, r, h2, h3, h4⟩
      · exact h.elim
    · exact h.elim
  | build t parts => simp only [ho] at h ⊢; exact h
  | slice t x lo hi mx =>
    simp only [ho] at h ⊢
    split at h
    · exact h.elim
    · split at h
      · rename_i r y hr hy
        simp only [hr, hy]
        obtain ⟨h1, h2⟩ := h
        rw [lenK_eq] at h2
        obtain ⟨i, j, g1, g2, g3, g4, g5⟩ := h2
        exact ⟨h1, i, j, g1, g2, g3, g4, g5⟩
      · exact h.elim
  | convert s d x =>
    simp only [ho] at h ⊢
    split at h
    · rename_i r id kd z0 kx z h1 h2 h3
      simp only [h1, h2, h3]
      obtain ⟨y, g1, g2⟩ := h
      exact ⟨y, g1, g2⟩
    · exact h.elim
  | buildSlice t n parts =>
    simp only [ho] at h ⊢
    split at h
    · rename_i id zero hr
      simp only [hr]
      split at h
      · rename_i zs hz
        simp only [hz]
        obtain ⟨h1, ⟨lb, h2⟩⟩ := h
        exact ⟨h1, lb, h2⟩
      · exact h.elim
    · rename_i id e kk b zero hr
      simp only [hr]
      split at h
      · rename_i zs hz
        simp only [hz]
        obtain ⟨h1, ⟨lb, h2⟩⟩ := h
        exact ⟨h1, lb, h2⟩
      · exact h.elim
    · exact h.elim
  | makeSlice t l c =>
    simp only [ho] at h ⊢
    split at h
    · rename_i id zero kl z kc z' hr hl hc
      simp only [hr, hl, hc]
      obtain ⟨n, h1, h2, h3, lb, h4⟩ := h
      exact ⟨n, h1, h2, h3, lb, h4⟩
    · rename_i id e kk b zero kl z kc z' hr hl hc
      simp only [hr, hl, hc]
      split at h
      · rename_i r2 hr2
        simp only [hr2]
        split at h
        · rename_i zs hzs
          simp only [hzs]
          obtain ⟨n, h1, h2, h3, lb, h4⟩ := h
          exact ⟨n, h1, h2, h3, lb, h4⟩
        · exact h.elim
      · exact h.elim
    · exact h.elim
  | _ => simp only [ho] at h
end Go.Vx
