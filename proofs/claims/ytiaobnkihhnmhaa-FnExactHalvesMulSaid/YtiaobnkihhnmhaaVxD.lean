/- Vx, part 2: the frame's values, and what an operation makes of them. -/
import Derived.Test.YtiaobnkihhnmhaaVx1
namespace Go.Vx

abbrev Lab := Nat × Nat

/-- A cell of the frame's: `own`: an array that is the frame's alone (label, element type). -/
inductive Lf where
  | undef
  | nil
  | p (x : PL)
  | own (lab : Lab) (e : TypeId) (x : PL)

/-- What a temporary holds. `box`: the address of a cell of a variable in memory; `elt`: of a cell of an element. -/
inductive FV where
  | any
  | v (agg : Bool) (xs : List Lf)
  | tup (vs : List (Bool × List Lf))
  | box (lab : Lab) (cs : List Lf) (off : Nat)
  | elt (s : Lf) (i off : Nat)

/-- A type: its cells; a struct's fields (offset, and of a struct field its cells); a slice's element. -/
inductive Ty where
  | bool
  | int (k : IntKind)
  | other
  | agg (n : Nat) (offs : List (Nat × Option Nat))
  | ints
  | slice (e : TypeId) (k : Nat) (bytes : Nat)
structure TyRow where
  id : TypeId
  ty : Ty
  zero : List Lf
def getR : List TyRow → TypeId → Option TyRow
  | [], _ => none
  | r :: rs, t => if r.id = t then some r else getR rs t
/-- none: not in the table; some none: one cell; some (some n): a struct of n cells. -/
def TyRow.cells (r : TyRow) : Option Nat := match r.ty with
  | .agg n _ => some n
  | _ => none

def ofVal : Value → Lf
  | .int k z => .p (.int k z)
  | .bool b => .p (.bool b)
  | .string s => .p (.str s)
  | .slice none 0 0 => .nil
  | _ => .undef

def constFV : Value → FV
  | .int k z => .v false [.p (.int k z)]
  | .bool b => .v false [.p (.bool b)]
  | .string s => .v false [.p (.str s)]
  | .slice none 0 0 => .v false [.nil]
  | _ => .any
def opd (T : List FV) : Operand → FV
  | .tmp t => T.getD t .any
  | .const v => constFV v
  | .func f => .v false [.p (.fn f)]
  | .global _ => .any

def put (T : List FV) (d : Option Tmp) (f : FV) : List FV := match d with
  | some d => T.set d f
  | none => T

/-- A slice's contents. -/
def Lf.arr? : Lf → Option PL
  | .p (.ints l) => some (.ints l)
  | .p (.arr k l) => some (.arr k l)
  | .own _ _ (.ints l) => some (.ints l)
  | .own _ _ (.arr k l) => some (.arr k l)
  | .nil => some (.ints [])
  | _ => none
def PL.len : PL → Nat
  | .ints l => l.length
  | .arr _ l => l.length
  | _ => 0
def PL.wd : PL → Nat
  | .arr k _ => k
  | _ => 1

def cmpK (op : BinOp) (x y : Int) : Option Bool := match op with
  | .lss => some (decide (x < y))
  | .gtr => some (decide (x > y))
  | .leq => some (decide (x ≤ y))
  | .geq => some (decide (x ≥ y))
  | .eql => some (decide (x = y))
  | .neq => some (decide (x ≠ y))
  | _ => none
def ariK (op : BinOp) (x y : Int) : Option Int := match op with
  | .add => some (x + y)
  | .sub => some (x - y)
  | .mul => some (x * y)
  | _ => none

def binK (isB : Bool) (op : BinOp) (a b : PL) (c : PL → Prop) : Prop :=
  match a, b with
  | .int k x, .int k' y => match op with
    | .shl => 0 ≤ y ∧ ∃ z, k.wrap (x * 2 ^ (min y.toNat k.bits)) = z ∧ c (.int k z)
    | .shr => 0 ≤ y ∧ ∃ z, x.fdiv (2 ^ (min y.toNat k.bits)) = z ∧ c (.int k z)
    | .or => k = k' ∧ ∃ z, Go.bits .or k x y = z ∧ c (.int k z)
    | op => k = k' ∧ match ariK op x y with
      | some u => ∃ z, k.wrap u = z ∧ c (.int k z)
      | none => match cmpK op x y with
        | some u => ∃ t, u = t ∧ c (.bool t)
        | none => match op with
          | .quo => y ≠ 0 ∧ ∃ z, k.wrap (x.tdiv y) = z ∧ c (.int k z)
          | .rem => y ≠ 0 ∧ ∃ z, x.tmod y = z ∧ c (.int k z)
          | _ => False
  | .bool x, .bool y => match op with
    | .eql => isB = true ∧ ∃ t, (x == y) = t ∧ c (.bool t)
    | .neq => isB = true ∧ ∃ t, (x != y) = t ∧ c (.bool t)
    | _ => False
  | _, _ => False

abbrev PV := Bool × List PL
inductive Res where
  | one (r : PV)
  | tup (rs : List PV)
/-- A cell of what a call hands back that writes its arguments' arrays: a plain one, nil, or the j-th cell of the arguments. -/
inductive RL where
  | p (x : PL)
  | nil
  | arg (j : Nat)
inductive MRes where
  | one (r : Bool × List RL)
  | tup (rs : List (Bool × List RL))
/-- A result without arrays. -/
def RL.ofPV (q : PV) : Bool × List RL := (q.1, q.2.map .p)
/-- The table: types; the functions that write their arguments' arrays, and what is known of them (arguments, what they are then, the result). -/
structure Tab where
  rows : List TyRow
  muts : List FuncId
  md : FuncId → List PV → List PV → MRes → Prop
def Tab.get (Γ : Tab) (t : TypeId) : Option TyRow := getR Γ.rows t
def isMut : List FuncId → FuncId → Bool
  | [], _ => false
  | g :: gs, f => Nat.beq g f || isMut gs f

/-- A leaf handed to a call, or back. -/
def erL : Lf → Option PL
  | .p x => some x
  | .own _ _ x => some x
  | .nil => some (.ints [])
  | .undef => none
def erLs : List Lf → Option (List PL)
  | [] => some []
  | x :: xs => match erL x, erLs xs with
    | some y, some ys => some (y :: ys)
    | _, _ => none
def erV : FV → Option PV
  | .v a xs => match erLs xs with
    | some ys => some (a, ys)
    | none => none
  | _ => none
def erVs : List FV → Option (List PV)
  | [] => some []
  | f :: fs => match erV f, erVs fs with
    | some y, some ys => some (y :: ys)
    | _, _ => none

def FV.leaves : FV → List Lf
  | .v _ xs => xs
  | _ => []
/-- What a call hands back: each array of its own gets a label. (3: the element type, int.) -/
def labelP (ei : TypeId) (d : Nat) : Nat → List PL → List Lf
  | _, [] => []
  | j, .ints l :: xs => .own (d, j) ei (.ints l) :: labelP ei d (j + 1) xs
  | j, x :: xs => .p x :: labelP ei d (j + 1) xs
def labelVs (ei : TypeId) (d : Nat) : Nat → List PV → List (Bool × List Lf)
  | _, [] => []
  | j, (a, xs) :: rs => (a, labelP ei d j xs) :: labelVs ei d (j + xs.length) rs
def labelR (ei : TypeId) (d : Nat) (fl : Bool) : Res → FV
  | .one (a, xs) => .v a (match fl with | true => labelP ei d 0 xs | false => xs.map .p)
  | .tup rs => .tup (match fl with | true => labelVs ei d 0 rs | false => rs.map fun q => (q.1, q.2.map .p))

def PL.isA : PL → Bool
  | .ints _ => true
  | .arr _ _ => true
  | _ => false
def Lf.isOwn : Lf → Bool
  | .own _ _ _ => true
  | _ => false
def Res.noArr : Res → Bool
  | .one (_, xs) => xs.all fun x => !x.isA
  | .tup rs => rs.all fun q => q.2.all fun x => !x.isA
/-- What comes back shares nothing with what is owned. -/
def callOk (fl : Bool) (fs : List FV) (r : Res) : Bool := match fl with
  | true => true
  | false => r.noArr || fs.all fun f => f.leaves.all fun x => !x.isOwn

/-- A result's cell that is the call's own. -/
def frL (ei : TypeId) : Lf → Option PL
  | .own _ e (.ints l) => match Nat.beq e ei with
    | true => some (.ints l)
    | false => none
  | .nil => some (.ints [])
  | .p x => match x.isA with
    | true => none
    | false => some x
  | _ => none
def mapO {α β : Type} (f : α → Option β) : List α → Option (List β)
  | [] => some []
  | x :: xs => match f x, mapO f xs with
    | some y, some ys => some (y :: ys)
    | _, _ => none
def resV (f : Lf → Option PL) (q : Bool × List Lf) : Option PV := match mapO f q.2 with
  | some ys => some (q.1, ys)
  | none => none
def labsOf : List Lf → List Lab
  | [] => []
  | .own l _ _ :: xs => l :: labsOf xs
  | _ :: xs => labsOf xs
def labNodup : List Lab → Bool
  | [] => true
  | l :: ls => ls.all (fun l' => !(decide (l' = l))) && labNodup ls

/-- What an argument's label has become. -/
def lookC : List Lf → List PL → Lab → Option PL
  | .own lab _ _ :: xs, y :: ys, l => match decide (lab = l) with
    | true => some y
    | false => lookC xs ys l
  | _ :: xs, _ :: ys, l => lookC xs ys l
  | _, _, _ => none
def updCs (as : List Lf) (ys : List PL) : Lf → Lf
  | .own l e x => match lookC as ys l with
    | some y => match x, y with
      | .ints _, .ints q => .own l e (.ints q)
      | _, _ => .undef
    | none => .own l e x
  | x => x
def FV.mapL (f : Lf → Lf) : FV → FV
  | .v a xs => .v a (xs.map f)
  | .tup vs => .tup (vs.map fun q => (q.1, q.2.map f))
  | .box l cs off => .box l (cs.map f) off
  | .elt s j off => match (f s).arr? with
    | some _ => .elt (f s) j off
    | none => .any
  | .any => .any
/-- The leaves of a variable. -/
def FV.lvs : FV → List Lf
  | .v false xs => xs
  | .box _ cs _ => cs
  | _ => []
def killC (as : List Lf) (ys : List PL) : Lf → Lf
  | .own l e x => match lookC as ys l with
    | some _ => .undef
    | none => .own l e x
  | x => x
/-- What a call that writes its arguments leaves: variables are as told; what has been loaded from them is gone. -/
def FV.mutF (as : List Lf) (ys : List PL) : FV → FV
  | .v false xs => .v false (xs.map (updCs as ys))
  | .v true xs => .v true (xs.map (killC as ys))
  | .box l cs off => .box l (cs.map (updCs as ys)) off
  | .tup vs => .tup (vs.map fun q => (q.1, q.2.map (killC as ys)))
  | .elt s j off => match (killC as ys s).arr? with
    | some _ => .elt (killC as ys s) j off
    | none => .any
  | .any => .any
/-- Others under these labels are as long. -/
def lenL (as : List Lf) (ys : List PL) (z : Lf) (c : Prop) : Prop := match z with
  | .own l _ (.ints q) => match lookC as ys l with
    | some (.ints l') => q.length = l'.length ∧ c
    | some _ => False
    | none => c
  | _ => c
def lenLs (as : List Lf) (ys : List PL) : List Lf → Prop → Prop
  | [], c => c
  | z :: zs, c => lenL as ys z (lenLs as ys zs c)
def lenT (as : List Lf) (ys : List PL) : List FV → Prop → Prop
  | [], c => c
  | f :: fs, c => lenLs as ys f.lvs (lenT as ys fs c)
/-- What a cell of the result is to the caller. -/
def resL (as : List Lf) (ys : List PL) : RL → Lf
  | .p x => match x.isA with
    | true => .undef
    | false => .p x
  | .nil => .nil
  | .arg j => match as[j]?, ys[j]? with
    | some (.own l e _), some (.ints q) => .own l e (.ints q)
    | _, _ => .undef
def resFV (as : List Lf) (ys : List PL) : MRes → FV
  | .one r => .v r.1 (r.2.map (resL as ys))
  | .tup rs => .tup (rs.map fun r => (r.1, r.2.map (resL as ys)))
def argV : FV → Option (Bool × List Lf)
  | .v a xs => some (a, xs)
  | _ => none

/-- A part of a slice. -/
def PL.sub (i j : Nat) : PL → PL
  | .ints l => .ints ((l.take j).drop i)
  | .arr k l => .arr k ((l.take j).drop i)
  | x => x
def bndA (d i : Nat) : Option FV → Prop
  | none => i = d
  | some (.v false [.p (.int _ z)]) => z = (i : Int)
  | some _ => False
def over (cs : List Lf) (off : Nat) (xs : List Lf) : List Lf := cs.take off ++ xs ++ cs.drop (off + xs.length)
/-- A struct's parts, laid over its zero. -/
def fillA (offs : List (Nat × Option Nat)) : List (Nat × FV) → List Lf → Option (List Lf)
  | [], cs => some cs
  | (i, f) :: rest, cs => match f, offs[i]? with
    | .v _ xs, some q => match Nat.beq xs.length (q.2.getD 1) && Nat.ble (q.1 + xs.length) cs.length with
      | true => fillA offs rest (over cs q.1 xs)
      | false => none
    | _, _ => none
/-- A slice's elements, in order. -/
def intsA : Nat → List (Nat × FV) → Option (List Int)
  | _, [] => some []
  | j, (i, f) :: rest => match Nat.beq i j, f, intsA (j + 1) rest with
    | true, .v false [.p (.int .i64 z)], some zs => some (z :: zs)
    | _, _, _ => none
/-- A leaf that is nobody's own. -/
def unL : Lf → Option PL
  | .p x => some x
  | .nil => some (.ints [])
  | _ => none
def unLs : List Lf → Option (List PL)
  | [] => some []
  | x :: xs => match unL x, unLs xs with
    | some y, some ys => some (y :: ys)
    | _, _ => none
def rowsA (kk : Nat) : Nat → List (Nat × FV) → Option (List (List PL))
  | _, [] => some []
  | j, (i, f) :: rest => match Nat.beq i j, f, rowsA kk (j + 1) rest with
    | true, .v _ xs, some rs => match unLs xs, Nat.beq xs.length kk with
      | some ys, true => some (ys :: rs)
      | _, _ => none
    | _, _, _ => none

def tyArr : Ty → PL → Bool
  | .ints, .ints _ => true
  | .slice _ k _, .arr k' _ => k == k'
  | _, _ => false
def TyRow.sl (r : TyRow) : Bool := match r.ty with
  | .ints => true
  | .slice .. => true
  | _ => false
def TyRow.bool (r : TyRow) : Bool := match r.ty with
  | .bool => true
  | _ => false

/-- A new array, under a label or not. -/
def ownIf (lb : Bool) (l : Lab) (e : TypeId) (x : PL) : Lf := match lb with
  | true => .own l e x
  | false => .p x
def Ty.elem (ei : TypeId) : Ty → TypeId
  | .slice e _ _ => e
  | _ => ei
def Ty.by : Ty → Nat
  | .slice _ _ b => b
  | _ => 8
/-- The operations that touch no more than their own temporary. -/
def Yk (Γ : Tab) (ei : TypeId) (Den : FuncId → List PV → Bool → Res → Prop) (o : Oper) (ρ : Operand → FV) (k : FV → Prop) : Prop :=
  match o.op with
  | .move x => k (ρ x)
  | .assign x => k (ρ x)
  | .pick c a b => match ρ c with
    | .v false [.p (.bool t)] => ∃ t', t = t' ∧ k (match t' with | true => ρ a | false => ρ b)
    | _ => False
  | .alloc t => match Γ.get t with
    | some r => k (.box (o.dst.getD 0, 0) r.zero 0)
    | none => False
  | .box t x => match Γ.get t, ρ x with
    | some _, .v _ xs => k (.box (o.dst.getD 0, 0) xs 0)
    | _, _ => False
  | .load t x => match Γ.get t with
    | none => False
    | some r => match ρ x with
      | .box _ cs off => match r.cells with
        | some n => Nat.ble (off + n) cs.length = true ∧ k (.v true ((cs.drop off).take n))
        | none => ∃ y, cs[off]? = some y ∧ k (.v false [y])
      | .elt s i off => match s.arr? with
        | some (.ints l) => match r.cells with
          | some _ => False
          | none => ∃ z, l[i]? = some z ∧ off = 0 ∧ k (.v false [.p (.int .i64 z)])
        | some (.arr _ l) => ∃ q, l[i]? = some q ∧ match r.cells with
          | some n => Nat.ble (off + n) q.length = true ∧ k (.v true (((q.drop off).take n).map .p))
          | none => ∃ y, q[off]? = some y ∧ k (.v false [.p y])
        | _ => False
      | _ => False
  | .binOp op t x y _ => match ρ x, ρ y with
    | .v false [.p a], .v false [.p b] => binK (match Γ.get t with | some r => r.bool | none => false) op a b (fun r => k (.v false [.p r]))
    | _, _ => False
  | .unOp op _ x => match op, ρ x with
    | .not, .v false [.p (.bool b)] => ∃ t, (!b) = t ∧ k (.v false [.p (.bool t)])
    | .neg, .v false [.p (.int kd z)] => ∃ t, kd.wrap (-z) = t ∧ k (.v false [.p (.int kd t)])
    | _, _ => False
  | .fieldAddr s x f => match Γ.get s with
    | some ⟨_, .agg _ offs, _⟩ => match offs[f]? with
      | none => False
      | some q => match ρ x with
        | .box lab cs off => k (.box lab cs (off + q.1))
        | .elt l i off => k (.elt l i (off + q.1))
        | _ => False
    | _ => False
  | .field s x f => match Γ.get s with
    | some ⟨_, .agg _ offs, _⟩ => match offs[f]? with
      | none => False
      | some q => match ρ x with
        | .v true xs => match q.2 with
          | some n => Nat.ble (q.1 + n) xs.length = true ∧ k (.v true ((xs.drop q.1).take n))
          | none => ∃ y, xs[q.1]? = some y ∧ k (.v false [y])
        | _ => False
    | _ => False
  | .indexAddr t x ix => match Γ.get t with
    | none => False
    | some r => match ρ x, ρ ix with
      | .v false [s], .v false [.p (.int _ z)] => match s.arr? with
        | some y => tyArr r.ty y = true ∧ ∃ i : Nat, z = (i : Int) ∧ i < y.len ∧ k (.elt s i 0)
        | none => False
      | _, _ => False
  | .extract x j => match ρ x with
    | .tup vs => ∃ q, vs[j]? = some q ∧ k (.v q.1 q.2)
    | _ => False
  | .call c => match c.callee with
    | .builtin .len => match c.args.toList, c.argTypes.toList with
      | [x], [t] => match Γ.get t, ρ x with
        | some r, .v false [s] => match s.arr? with
          | some y => r.sl = true ∧ k (.v false [.p (.int .i64 y.len)])
          | none => False
        | _, _ => False
      | _, _ => False
    | .builtin .max => match c.args.toList with
      | [x, y] => match ρ x, ρ y with
        | .v false [.p (.int kx u)], .v false [.p (.int _ v)] => ∃ z, (if v > u then v else u) = z ∧ k (.v false [.p (.int kx z)])
        | _, _ => False
      | _ => False
    | .value f => match ρ f with
      | .v false [.p (.fn g)] => ∃ ps, erVs (c.args.toList.map ρ) = some ps ∧ ∃ fl lb r, Den g ps fl r ∧ callOk fl (c.args.toList.map ρ) r = true ∧ k (labelR ei (o.dst.getD 0) (fl && lb) r)
      | _ => False
    | _ => False
  | .build t parts => match Γ.get t with
    | some ⟨_, .agg _ offs, zero⟩ => match fillA offs (parts.toList.map fun q => (q.1, ρ q.2)) zero with
      | some cs => k (.v true cs)
      | none => False
    | _ => False
  | .slice t x lo hi mx => match mx with
    | some _ => False
    | none => match Γ.get t, ρ x with
      | some r, .v false [.p y] => tyArr r.ty y = true ∧ ∃ i j : Nat, bndA 0 i (lo.map ρ) ∧ bndA y.len j (hi.map ρ) ∧ i ≤ j ∧ j ≤ y.len ∧ k (.v false [.p (y.sub i j)])
      | _, _ => False
  | .convert s d x => match Γ.get s, Γ.get d, ρ x with
    | some _, some ⟨_, .int kd, _⟩, .v false [.p (.int _ z)] => ∃ u, kd.wrap z = u ∧ k (.v false [.p (.int kd u)])
    | _, _, _ => False
  | .buildSlice t n parts => match Γ.get t with
    | some ⟨_, .ints, _⟩ => match intsA 0 (parts.toList.map fun q => (q.1, ρ q.2)) with
      | some zs => (Nat.beq n zs.length && Nat.ble n 1000) = true ∧ ∃ lb, k (.v false [ownIf lb (o.dst.getD 0, 0) ei (.ints zs)])
      | none => False
    | some ⟨_, .slice e kk _, _⟩ => match rowsA kk 0 (parts.toList.map fun q => (q.1, ρ q.2)) with
      | some rows => (Nat.beq n rows.length && Nat.ble (n * kk) 1000) = true ∧ ∃ lb, k (.v false [ownIf lb (o.dst.getD 0, 0) e (.arr kk rows)])
      | none => False
    | _ => False
  | .makeSlice t l c => match Γ.get t, ρ l, ρ c with
    | some ⟨_, .ints, _⟩, .v false [.p (.int _ z)], .v false [.p (.int _ z')] => ∃ n : Nat, z = (n : Int) ∧ z' = (n : Int) ∧ n ≤ 17592186044416 ∧ ∃ lb, k (.v false [ownIf lb (o.dst.getD 0, 0) ei (.ints (List.replicate n 0))])
    | some ⟨_, .slice e kk b, _⟩, .v false [.p (.int _ z)], .v false [.p (.int _ z')] => match Γ.get e with
      | some r => match unLs r.zero with
        | some zs => ∃ n : Nat, z = (n : Int) ∧ z' = (n : Int) ∧ n * (b + 1) ≤ 140737488355328 ∧ ∃ lb, k (.v false [ownIf lb (o.dst.getD 0, 0) e (.arr kk (List.replicate n zs))])
        | none => False
      | none => False
    | _, _, _ => False
  | _ => False

/-- Operations that lay labels on what is new. -/
def creates : Op → Bool
  | .alloc _ => true
  | .box .. => true
  | .call _ => true
  | .buildSlice .. => true
  | .makeSlice .. => true
  | _ => false


end Go.Vx
