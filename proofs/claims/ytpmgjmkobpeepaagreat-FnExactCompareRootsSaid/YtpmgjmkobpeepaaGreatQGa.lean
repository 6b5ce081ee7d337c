/- PM, P10, Q1 -/
import Derived.Test.YtpmgjmkobpeepaaGreatBGa
import Derived.Test.YtpmgjmkobpeepaaGreatPGb
import Derived.Test.YtpmgjmkobpeepaaGreatRSa
set_option linter.unusedVariables false
set_option linter.unusedSectionVars false
set_option linter.unusedSimpArgs false
section
/- Products of 64-bit numbers, as slices.Repeat asks for them. -/
namespace Go.Vx
open Go.Proofs
set_option maxRecDepth 100000

abbrev uP (z : Int) : PV := (false, [.int .u64 z])
theorem and_mask (n : Nat) (hn : n ≤ 4294967295) : Go.bits .and .u64 (n : Int) 4294967295 = (n : Int) := by
 have h1 : (BitVec.ofInt 64 (n : Int)).toNat = n := by simp; omega
 have h2 : (BitVec.ofInt 64 (4294967295 : Int)).toNat = 2 ^ 32 - 1 := by decide
 unfold Go.bits
 dsimp only
 rw [show IntKind.u64.bits = 64 from rfl, BitVec.toNat_and, h1, h2, Nat.and_two_pow_sub_one_eq_mod, IntKind.wrap_u64]
 omega
theorem shr32 {n : Nat} (hn : n ≤ 4294967295) : (n : Int).fdiv (2 ^ (min ((32 : Int)).toNat IntKind.u64.bits)) = 0 := by
 have : min ((32 : Int)).toNat IntKind.u64.bits = 32 := rfl
 rw [this, Int.fdiv_eq_ediv_of_nonneg _ (by omega)]
 omega
theorem mul64_den (n : Nat) (hn : n ≤ 4294967295) : D 171 [uP 1, uP (n : Int)] true (.tup [uP 0, uP (n : Int)]) := by
 refine go Tryz.func171 rfl rfl ?_
 have a1 := and_mask 1 (by omega)
 have a2 := and_mask n hn
 have a3 := and_mask 0 (by omega)
 have s1 : (1 : Int).fdiv (2 ^ (min ((32 : Int)).toNat IntKind.u64.bits)) = 0 := by decide
 have s2 := shr32 hn
 have s0 : (0 : Int).fdiv (2 ^ (min ((32 : Int)).toNat IntKind.u64.bits)) = 0 := by decide
 have w0 : IntKind.u64.wrap 0 = 0 := wrapU (by omega) (by omega)
 have wn : IntKind.u64.wrap (n : Int) = n := wrapU (by omega) (by omega)
 repeat refine vs ?_
 conv => whnf
 refine Eqz.mk 1 a1 ?_
 repeat refine vs ?_
 conv => whnf
 refine Eqz.mk 0 s1 ?_
 repeat refine vs ?_
 conv => whnf
 refine Eqz.mk n a2 ?_
 repeat refine vs ?_
 conv => whnf
 refine Eqz.mk 0 s2 ?_
 repeat refine vs ?_
 conv => whnf
 refine Eqz.mk 0 (by rw [Int.one_mul]; exact s2) ?_
 repeat refine vs ?_
 conv => whnf
 refine Eqz.mk 0 (by rw [show (0 * (n : Int) + 0) = 0 by omega]; exact a3) ?_
 repeat refine vs ?_
 conv => whnf
 refine Eqz.mk 0 (by rw [show (0 * (n : Int) + 0) = 0 by omega]; exact s0) ?_
 repeat refine vs ?_
 conv => whnf
 refine Eqz.mk 0 (by exact s0) ?_
 repeat refine vs ?_
 conv => whnf
 exact ⟨by simp [toRes], rfl⟩
theorem bmul_den (n : Nat) (hn : n ≤ 4294967295) : D 144 [uP 1, uP (n : Int)] true (.tup [uP 0, uP (n : Int)]) := by
 have dM := mul64_den n hn
 refine go Tryz.func144 rfl rfl ?_
 repeat refine vs ?_
 conv => whnf
 refine CallS.mk _ rfl true true _ (dM) rfl ?_
 repeat refine vs ?_
 conv => whnf
 first | rfl | exact ⟨rfl, rfl⟩ | exact ⟨by simp [toRes], rfl⟩
end Go.Vx
end
section
/- MulPoly: products of polynomials. -/
namespace Go.Vx
open Go.Proofs
set_option maxRecDepth 100000

theorem zeros_cat {r z : List PL} {n m c : Nat} (hm : m ≤ n) (hc : c = min m (n - m)) :
  (List.replicate m r ++ List.replicate (n - m) z).take m ++ (((List.replicate m r ++ List.replicate (n - m) z).drop 0).take c ++ (List.replicate m r ++ List.replicate (n - m) z).drop (m + c)) = List.replicate (m + c) r ++ List.replicate (n - (m + c)) z := by
 have h1 : (List.replicate m r ++ List.replicate (n - m) z).take m = List.replicate m r := by rw [List.take_left' (by simp)]
 have h2 : ((List.replicate m r ++ List.replicate (n - m) z).drop 0).take c = List.replicate c r := by
  rw [List.drop_zero, List.take_append_of_le_length (by simp; omega), List.take_replicate, Nat.min_eq_left (by omega)]
 have h3 : (List.replicate m r ++ List.replicate (n - m) z).drop (m + c) = List.replicate (n - (m + c)) z := by
  rw [List.drop_append, List.drop_eq_nil_of_le (by simp), List.nil_append, List.drop_replicate, List.length_replicate]
  congr 1
  omega
 rw [h1, h2, h3, ← List.append_assoc, List.replicate_append_replicate]
theorem repeat_den (r : List PL) (n : Nat) (hn : n ≤ 1000) : Dh 91 [(false, [.arr 4 [r]]), iP (n : Int)] 41 4 (List.replicate n r) := by
 refine goH Tryz.func91 rfl rfl ?_
 have dM := bmul_den n (by omega)
 repeat refine vs ?_
 conv => whnf
 refine Wr.mk 1 (show IntKind.u64.wrap 1 = 1 from wrapU (by omega) (by omega)) ?_
 repeat refine vs ?_
 conv => whnf
 refine CallS.mk _ rfl true true _ (dM) rfl ?_
 repeat refine vs ?_
 conv => whnf
 refine MakeR.mk n rfl rfl (by omega) true ?_
 repeat refine vs ?_
 conv => whnf
 refine CpS.mk (min 1 n) (by simp) (List.replicate (min 1 n) r ++ List.replicate (n - min 1 n) zRow) ?_ ?_
 ·rcases Nat.eq_zero_or_pos n with h | h
  ·subst h; rfl
  ·rw [Nat.min_eq_left h, List.drop_replicate]; rfl
 repeat refine vs ?_
 conv => whnf
 refine ⟨by repeat' (first | exact True.intro | refine ⟨rfl, ?_⟩), ?_⟩
 repeat refine vs ?_
 conv => whnf
 refine EVs.loopU (fun m : Nat => m ≤ n ∧ (n = 0 ∨ 1 ≤ m)) (fun m => n - m) (fun m => [(7, .v false [.own (30, 0) 41 (.arr 4 (List.replicate m r ++ List.replicate (n - m) zRow))]), (8, .v false [.p (.int .i64 (m : Int))]), (30, .any), (31, .any)]) (min 1 n) (by omega) ?_ ?_
 ·exact Wk.fg
 rintro m ⟨hm, hm1⟩
 have hlen : (List.replicate m r ++ List.replicate (n - m) zRow).length = n := by simp; omega
 refine go1 ?_
 repeat refine vs ?_
 conv => whnf
 by_cases h1 : (m : Int) < (List.replicate m r ++ List.replicate (n - m) zRow).length
 ·repeat refine vs ?_
  conv => whnf
  refine SubK.mk (m) (n) (by first | rfl | (show _ = _; omega)) (by first | rfl | (show _ = _; omega)) (by omega) (by omega) ?_
  repeat refine vs ?_
  conv => whnf
  refine SubK.mk (0) (m) (by first | rfl | (show _ = _; omega)) (by first | rfl | (show _ = _; omega)) (by omega) (by omega) ?_
  repeat refine vs ?_
  conv => whnf
  refine CpS.mk (min m (n - m)) (by simp) (List.replicate (m + min m (n - m)) r ++ List.replicate (n - (m + min m (n - m))) zRow) (zeros_cat hm rfl).symm ?_
  repeat refine vs ?_
  conv => whnf
  refine ⟨by repeat' (first | exact True.intro | refine ⟨rfl, ?_⟩), ?_⟩
  repeat refine vs ?_
  conv => whnf
  refine ⟨m + min m (n - m), by omega, by omega, ?_⟩
  rw [Int.natCast_add]
  exact Wk.fg
 ·have : m = n := by omega
  subst this
  repeat refine vs ?_
  conv => whnf
  rw [Nat.sub_self, List.replicate_zero, List.append_nil]
  exact ⟨_, rfl⟩

/-- Members are short: from place j on K, ahead of it L. -/
def okAt (K L j : Nat) (l : List (Int × Int)) : Prop := ∀ (t : Nat) (f : Int × Int), l[t]? = some f → okF (if t < j then L else K) f
theorem okAt.all {K L j : Nat} {l : List (Int × Int)} (h : okAt K L j l) (hKL : K ≤ L) : ∀ f ∈ l, okF L f := by
 intro f hf
 obtain ⟨t, ht⟩ := List.getElem?_of_mem hf
 have := h t f ht
 split at this
 ·exact this
 ·exact this.mono hKL
theorem okAt_of {K L j : Nat} {l : List (Int × Int)} (h : ∀ f ∈ l, okF K f) (hKL : K ≤ L) : okAt K L j l := fun t f hf => by
 have := h f (List.mem_of_getElem? hf)
 split
 ·exact this.mono hKL
 ·exact this
theorem getD_cell {l : List (Int × Int)} {i : Nat} (h : i < l.length) : (l.map cellR)[i]? = some (cellR (l.getD i (0, 1))) := by
 rw [List.getElem?_map, List.getElem?_eq_getElem h]
 simp [List.getD, h]
theorem set_cell {l : List (Int × Int)} {i : Nat} {f : Int × Int} : (l.map cellR).set i (cellR f) = (l.set i f).map cellR := by rw [List.map_set]

end Go.Vx
end
section
/- Exact fractions: what is taken off is back; division of polynomials, in plain numbers. -/
namespace Go.Vx
open Go.Proofs
set_option maxRecDepth 100000

theorem nN_zero {x y : Int} (hy : y ≠ 0) : nN x y = 0 ↔ x = 0 := by
 have h := nN_dN x y
 have hd := dN_pos (x := x) hy
 constructor
 ·intro e
  rw [e, Int.zero_mul] at h
  rcases Int.mul_eq_zero.1 h.symm with h | h
  ·exact h
  ·omega
 ·intro e
  rw [e] at h ⊢
  rw [Int.zero_mul] at h
  rcases Int.mul_eq_zero.1 h with h | h
  ·exact h
  ·exact absurd h hy
theorem nd_low {x y : Int} (hy : y ≠ 0) : low (nN x y, dN x y) := ⟨dN_pos hy, nd_cop hy⟩
theorem mulR_low {a b : Int × Int} (ha : 0 < a.2) (hb : 0 < b.2) : low (mulR a b) := nd_low (Int.mul_ne_zero (by omega) (by omega))
theorem addR_low {a b : Int × Int} (ha : 0 < a.2) (hb : 0 < b.2) : low (addR a b) := nd_low (Int.mul_ne_zero (by omega) (by omega))
theorem subR_low {a b : Int × Int} (ha : 0 < a.2) (hb : 0 < b.2) : low (subR a b) := nd_low (Int.mul_ne_zero (by omega) (by omega))
theorem divR_low {a b : Int × Int} (ha : 0 < a.2) (h0 : b.1 ≠ 0) : low (divR a b) := nd_low (Int.mul_ne_zero (by omega) h0)
theorem divR_mulR {a b : Int × Int} (ha : low a) (hb : 0 < b.2) (h0 : b.1 ≠ 0) : mulR (divR a b) b = a := by
 have h1 := nN_dN (a.1 * b.2) (a.2 * b.1)
 have hd := dN_pos (x := a.1 * b.2) (y := a.2 * b.1) (Int.mul_ne_zero (by have := ha.1; omega) h0)
 unfold mulR divR
 dsimp only
 generalize nN (a.1 * b.2) (a.2 * b.1) = n at *
 generalize dN (a.1 * b.2) (a.2 * b.1) = d at *
 have h2 : (n * b.1) * a.2 = a.1 * (d * b.2) := by
  have : n * (a.2 * b.1) = a.1 * b.2 * d := h1
  grind
 have ha2 := ha.1
 have e := nd_eq (x := n * b.1) (y := d * b.2) (u := a.1) (v := a.2) (Int.mul_ne_zero (by omega) (by omega)) (by omega) h2
 have e2 := nd_self ha.1 ha.2
 exact Prod.ext (by rw [e.1, e2.1]) (by rw [e.2, e2.2])
theorem subR_self {a : Int × Int} (ha : 0 < a.2) : subR a a = (0, 1) := by
 have hy : a.2 * a.2 ≠ 0 := Int.mul_ne_zero (by omega) (by omega)
 have hz : addN a.1 a.2 (-a.1) a.2 = 0 := by unfold addN; grind
 have e1 : nN 0 (a.2 * a.2) = 0 := (nN_zero hy).2 rfl
 have e2 : Int.gcd (nN 0 (a.2 * a.2)) (dN 0 (a.2 * a.2)) = 1 := nd_cop hy
 have hd := dN_pos (x := 0) hy
 unfold subR
 rw [hz]
 rw [e1, Int.gcd_zero_left] at e2
 exact Prod.ext e1 (by show dN 0 (a.2 * a.2) = 1; omega)
theorem divR_self {a : Int × Int} (ha : 0 < a.2) (h0 : a.1 ≠ 0) : divR a a = (1, 1) := by
 have e := nd_eq (x := a.1 * a.2) (y := a.2 * a.1) (u := 1) (v := 1) (Int.mul_ne_zero (by omega) h0) (by decide) (by grind)
 have e2 := nd_self (x := 1) (y := 1) (by decide) (by decide)
 unfold divR
 exact Prod.ext (by rw [e.1, e2.1]) (by rw [e.2, e2.2])
theorem divR_one {a : Int × Int} (ha : low a) : divR a (1, 1) = a := by
 have e2 := nd_self ha.1 ha.2
 unfold divR
 simp only [Int.mul_one]
 exact Prod.ext e2.1 e2.2
theorem divR_ne {a b : Int × Int} (ha : 0 < a.2) (h1 : a.1 ≠ 0) (hb : 0 < b.2) (h0 : b.1 ≠ 0) : (divR a b).1 ≠ 0 := by
 intro h
 have := (nN_zero (x := a.1 * b.2) (y := a.2 * b.1) (Int.mul_ne_zero (by omega) h0)).1 h
 rcases Int.mul_eq_zero.1 this with h | h
 ·exact h1 h
 ·omega

/-- d times each member of q, taken off from place j on. -/
def subRow : List (Int × Int) → Nat → Int × Int → List (Int × Int) → List (Int × Int)
 | out, _, _, [] => out
 | out, j, d, b :: q => subRow (out.set j (subR (out.getD j (0, 1)) (mulR d b))) (j + 1) d q
/-- The steps of a division, from place i - 1 on down. -/
def divL (q : List (Int × Int)) : Nat → List (Int × Int) × List (Int × Int) → List (Int × Int) × List (Int × Int)
 | 0, s => s
 | i + 1, s => divL q i (s.1.set i (divR (s.2.getD (i + q.length - 1) (0, 1)) (q.getD (q.length - 1) (0, 1))),
   subRow s.2 i (divR (s.2.getD (i + q.length - 1) (0, 1)) (q.getD (q.length - 1) (0, 1))) q)
def divF (p q : List (Int × Int)) : List (Int × Int) × List (Int × Int) := divL q (p.length + 1 - q.length) (List.replicate (p.length + 1 - q.length) (0, 1), p)
theorem subRow_len : ∀ {q out : List (Int × Int)} {j : Nat} {d : Int × Int}, (subRow out j d q).length = out.length
 | [], _, _, _ => rfl
 | b :: q, out, j, d => by rw [subRow, subRow_len, List.length_set]
theorem divL_len {q : List (Int × Int)} : ∀ {i : Nat} {s : List (Int × Int) × List (Int × Int)}, (divL q i s).1.length = s.1.length ∧ (divL q i s).2.length = s.2.length
 | 0, _ => ⟨rfl, rfl⟩
 | i + 1, s => by
  have := divL_len (q := q) (i := i) (s := (s.1.set i (divR (s.2.getD (i + q.length - 1) (0, 1)) (q.getD (q.length - 1) (0, 1))), subRow s.2 i (divR (s.2.getD (i + q.length - 1) (0, 1)) (q.getD (q.length - 1) (0, 1))) q))
  unfold divL
  rw [this.1, this.2, List.length_set, subRow_len]
  exact ⟨rfl, rfl⟩
/-- Members ahead of place j, and from place j + the length on, stay. -/
theorem subRow_other : ∀ {q out : List (Int × Int)} {j t : Nat} {d : Int × Int}, (t < j ∨ j + q.length ≤ t) → (subRow out j d q)[t]? = out[t]?
 | [], _, _, _, _, _ => rfl
 | b :: q, out, j, t, d, h => by
  rw [subRow, subRow_other (by simp at h; omega), List.getElem?_set_ne (by simp at h; omega)]
theorem subRow_at : ∀ {q out : List (Int × Int)} {j k : Nat} {d : Int × Int} (hk : k < q.length), j + q.length ≤ out.length → (subRow out j d q)[j + k]? = some (subR (out.getD (j + k) (0, 1)) (mulR d q[k]))
 | b :: q, out, j, 0, d, hk, hl => by
  rw [subRow, subRow_other (.inl (by omega)), Nat.add_zero, List.getElem?_set_self (by simp at hl; omega)]
  rfl
 | b :: q, out, j, k + 1, d, hk, hl => by
  have := subRow_at (q := q) (out := out.set j (subR (out.getD j (0, 1)) (mulR d b))) (j := j + 1) (k := k) (d := d) (by simpa using hk) (by rw [List.length_set]; simp at hl; omega)
  rw [subRow, show j + (k + 1) = j + 1 + k by omega, this]
  simp only [List.getElem_cons_succ, List.getD]
  rw [List.getElem?_set_ne (by omega)]
def lowL (l : List (Int × Int)) : Prop := ∀ f ∈ l, low f
theorem getD_low {l : List (Int × Int)} (h : lowL l) (i : Nat) : low (l.getD i (0, 1)) := by
 rw [List.getD]
 cases hh : l[i]? with
 | none => exact ⟨by decide, by decide⟩
 | some x => exact h x (List.mem_of_getElem? hh)
theorem set_low {l : List (Int × Int)} (h : lowL l) {i : Nat} {x : Int × Int} (hx : low x) : lowL (l.set i x) := by
 intro f hf
 rcases List.mem_or_eq_of_mem_set hf with hf | hf
 ·exact h f hf
 ·rw [hf]; exact hx
theorem subRow_low : ∀ {q out : List (Int × Int)} {j : Nat} {d : Int × Int}, lowL out → lowL q → low d → lowL (subRow out j d q)
 | [], _, _, _, h, _, _ => h
 | b :: q, out, j, d, h, hq, hd => by
  rw [subRow]
  exact subRow_low (set_low h (subR_low (getD_low h j).1 (mulR_low hd.1 (hq b List.mem_cons_self).1).1)) (fun f hf => hq f (List.mem_cons_of_mem _ hf)) hd
theorem divL_low {q : List (Int × Int)} (hq : lowL q) (h0 : (q.getD (q.length - 1) (0, 1)).1 ≠ 0) : ∀ {i : Nat} {s : List (Int × Int) × List (Int × Int)}, lowL s.1 → lowL s.2 → lowL (divL q i s).1 ∧ lowL (divL q i s).2
 | 0, _, h1, h2 => ⟨h1, h2⟩
 | i + 1, s, h1, h2 => by
  have hd := divR_low (b := q.getD (q.length - 1) (0, 1)) (getD_low h2 (i + q.length - 1)).1 h0
  exact divL_low hq h0 (i := i) (set_low h1 hd) (subRow_low h2 hq hd)
/-- From place n on all members are 0. -/
def zeroFrom (n : Nat) (l : List (Int × Int)) : Prop := ∀ (t : Nat) (f : Int × Int), n ≤ t → l[t]? = some f → f.1 = 0
theorem trimF_zero : ∀ {n : Nat} {l : List (Int × Int)}, zeroFrom n l → (trimF l).length ≤ n := by
 intro n l h
 rcases Nat.lt_or_ge n l.length with hn | hn
 ·obtain ⟨m, hm⟩ : ∃ m, l.length = m := ⟨_, rfl⟩
  induction m generalizing l with
  | zero => omega
  | succ m ih =>
   rcases List.eq_nil_or_concat l with rfl | ⟨l', f, rfl⟩
   ·simp at hm
   ·rw [List.concat_eq_append] at *
    have hf : f.1 = 0 := h l'.length f (by simp at hn; omega) (by simp)
    rw [trimF_snoc, if_pos hf]
    have h' : zeroFrom n l' := fun t g ht hg => h t g ht (by rw [List.getElem?_append_left (List.getElem?_eq_some_iff.1 hg).1]; exact hg)
    rcases Nat.lt_or_ge n l'.length with hn' | hn'
    ·exact ih h' hn' (by simpa using hm)
    ·exact Nat.le_trans (trimF_len l') hn'
 ·exact Nat.le_trans (trimF_len l) hn
theorem divL_zero {q : List (Int × Int)} (hq : lowL q) (hq0 : q ≠ []) (h0 : (q.getD (q.length - 1) (0, 1)).1 ≠ 0) : ∀ {i : Nat} {s : List (Int × Int) × List (Int × Int)}, lowL s.2 → i + q.length - 1 ≤ s.2.length → zeroFrom (i + q.length - 1) s.2 → zeroFrom (q.length - 1) (divL q i s).2
 | 0, s, _, _, h => by rw [Nat.zero_add] at h; exact h
 | i + 1, s, hl, hlen, h => by
  have hqp : 0 < q.length := List.length_pos_iff.2 hq0
  have hd := divR_low (b := q.getD (q.length - 1) (0, 1)) (getD_low hl (i + q.length - 1)).1 h0
  unfold divL
  refine divL_zero hq hq0 h0 (i := i) (subRow_low hl hq hd) (by rw [subRow_len]; omega) ?_
  intro t f ht hf
  rcases Nat.lt_or_ge (i + q.length - 1) t with h1 | h1
  ·rw [subRow_other (.inr (by omega))] at hf
   exact h t f (by omega) hf
  ·have ht' : t = i + (q.length - 1) := by omega
   subst ht'
   rw [subRow_at (by omega) (by omega)] at hf
   cases hf
   have e : q[q.length - 1]'(by omega) = q.getD (q.length - 1) (0, 1) := by simp [List.getD, show q.length - 1 < q.length by omega]
   rw [e, show i + (q.length - 1) = i + q.length - 1 by omega, divR_mulR (getD_low hl _) (getD_low hq _).1 h0, subR_self (getD_low hl _).1]
/-- The remainder has fewer members than what divides. -/
theorem divF_rest {p q : List (Int × Int)} (hp : lowL p) (hq : lowL q) (hq0 : q ≠ []) (h0 : (q.getD (q.length - 1) (0, 1)).1 ≠ 0) : (trimF (divF p q).2).length < q.length := by
 have hqp : 0 < q.length := List.length_pos_iff.2 hq0
 by_cases hc : q.length ≤ p.length
 ·have : zeroFrom (q.length - 1) (divF p q).2 := divL_zero hq hq0 h0 hp (by dsimp only; omega) (fun t f ht hf => by
   have := (List.getElem?_eq_some_iff.1 hf).1
   dsimp only at this ht
   omega)
  have := trimF_zero this
  omega
 ·have e : (divF p q).2 = p := by unfold divF; rw [show p.length + 1 - q.length = 0 by omega]; rfl
  rw [e]
  have := trimF_len p
  omega
theorem divF_low {p q : List (Int × Int)} (hp : lowL p) (hq : lowL q) (h0 : (q.getD (q.length - 1) (0, 1)).1 ≠ 0) : lowL (divF p q).1 ∧ lowL (divF p q).2 := by
 refine divL_low hq h0 (fun f hf => ?_) hp
 rw [List.mem_replicate] at hf
 rw [hf.2]
 exact ⟨by decide, by decide⟩
theorem trimF_low {l : List (Int × Int)} (h : lowL l) : lowL (trimF l) := fun f hf => h f (trimF_sub hf)

/-! ### sizes -/
def okL (K : Nat) (l : List (Int × Int)) : Prop := ∀ f ∈ l, okF K f
theorem okL.mono {K M : Nat} {l : List (Int × Int)} (h : okL K l) (hk : K ≤ M) : okL M l := fun f hf => (h f hf).mono hk
theorem getD_ok {K : Nat} {l : List (Int × Int)} (h : okL K l) (i : Nat) (hi : i < l.length) : okF K (l.getD i (0, 1)) := by
 rw [List.getD, List.getElem?_eq_getElem hi]
 exact h _ (List.getElem_mem hi)
theorem set_ok {K : Nat} {l : List (Int × Int)} (h : okL K l) {i : Nat} {x : Int × Int} (hx : okF K x) : okL K (l.set i x) := by
 intro f hf
 rcases List.mem_or_eq_of_mem_set hf with hf | hf
 ·exact h f hf
 ·rw [hf]; exact hx
/-- Members from place j on are of size K, those ahead of size L. -/
theorem subRow_ok {K L M N : Nat} {d : Int × Int} (hd : okF M d) (hL : K + (M + N) + 1 ≤ L) : ∀ {q out : List (Int × Int)} {j : Nat}, (∀ (t : Nat) (f : Int × Int), out[t]? = some f → okF (if t < j then L else K) f) → j + q.length ≤ out.length → okL N q → okL L (subRow out j d q)
 | [], out, j, h, _, _ => fun f hf => by
  obtain ⟨t, ht⟩ := List.getElem?_of_mem hf
  have := h t f ht
  split at this
  ·exact this
  ·exact this.mono (by omega)
 | b :: q, out, j, h, hl, hq => by
  rw [subRow]
  refine subRow_ok hd hL ?_ (by rw [List.length_set]; simp at hl; omega) (fun f hf => hq f (List.mem_cons_of_mem _ hf))
  intro t f hf
  rw [List.getElem?_set] at hf
  split at hf
  ·rename_i e
   subst e
   split at hf
   ·cases hf
    rw [if_pos (by omega)]
    have hj : j < out.length := by assumption
    have h1 := h j out[j] (List.getElem?_eq_getElem hj)
    rw [if_neg (by omega)] at h1
    have e : out.getD j (0, 1) = out[j] := by simp [List.getD, hj]
    rw [e]
    exact (subR_ok h1 (mulR_ok hd (hq b List.mem_cons_self))).mono hL
   ·cases hf
  ·have h1 := h t f hf
   by_cases c : t < j
   ·rw [if_pos c] at h1
    rw [if_pos (by omega)]
    exact h1
   ·rw [if_neg c] at h1
    rw [if_neg (by omega)]
    exact h1
/-- What a division's steps make of sizes. -/
def szD (B : Nat) : Nat → Nat → Nat
 | 0, R => R
 | i + 1, R => szD B i (2 * R + 2 * B + 1)
theorem szD_ge (B : Nat) : ∀ (i R : Nat), R ≤ szD B i R
 | 0, R => Nat.le_refl _
 | i + 1, R => Nat.le_trans (by omega) (szD_ge B i (2 * R + 2 * B + 1))
theorem divL_ok {q : List (Int × Int)} {B : Nat} (hq : okL B q) (hq0 : q ≠ []) (h0 : (q.getD (q.length - 1) (0, 1)).1 ≠ 0) : ∀ {i R S : Nat} {s : List (Int × Int) × List (Int × Int)}, okL S s.1 → okL R s.2 → i + q.length - 1 ≤ s.2.length → szD B i R + B ≤ S → okL S (divL q i s).1 ∧ okL (szD B i R) (divL q i s).2
 | 0, R, S, s, h1, h2, _, _ => ⟨h1, h2⟩
 | i + 1, R, S, s, h1, h2, hl, hS => by
  have hqp : 0 < q.length := List.length_pos_iff.2 hq0
  have hge := szD_ge B i (2 * R + 2 * B + 1)
  have hd := divR_ok (getD_ok h2 (i + q.length - 1) (by omega)) (getD_ok hq (q.length - 1) (by omega)) h0
  unfold szD at hS
  unfold divL szD
  refine divL_ok hq hq0 h0 (i := i) (set_ok h1 (hd.mono (by omega))) (subRow_ok (K := R) (L := 2 * R + 2 * B + 1) hd (by omega) (fun t f hf => ?_) (by omega) hq) (by rw [subRow_len]; omega) hS
  have := h2 f (List.mem_of_getElem? hf)
  split
  ·exact this.mono (by omega)
  ·exact this
theorem divF_ok {p q : List (Int × Int)} {R B : Nat} (hp : okL R p) (hq : okL B q) (hq0 : q ≠ []) (h0 : (q.getD (q.length - 1) (0, 1)).1 ≠ 0) : okL (szD B (p.length + 1 - q.length) R + B + 4) (divF p q).1 ∧ okL (szD B (p.length + 1 - q.length) R) (divF p q).2 := by
 have hqp : 0 < q.length := List.length_pos_iff.2 hq0
 by_cases hc : q.length ≤ p.length
 ·refine divL_ok hq hq0 h0 (fun f hf => ?_) hp (by dsimp only; omega) (by omega)
  rw [List.mem_replicate] at hf
  rw [hf.2]
  exact (whole_R 0 (by omega) (by omega)).mono (by omega)
 ·unfold divF
  rw [show p.length + 1 - q.length = 0 by omega]
  exact ⟨fun f hf => by simp [divL] at hf, hp⟩
/-- The reference's quotient has more room. -/
theorem divL_room {q : List (Int × Int)} : ∀ {i : Nat} {a z r : List (Int × Int)}, i ≤ a.length → divL q i (a ++ z, r) = ((divL q i (a, r)).1 ++ z, (divL q i (a, r)).2)
 | 0, _, _, _, _ => rfl
 | i + 1, a, z, r, h => by
  unfold divL
  dsimp only
  rw [List.set_append_left _ _ (by omega), divL_room (by rw [List.length_set]; omega)]
theorem trimF_room {l : List (Int × Int)} : ∀ {n : Nat}, trimF (l ++ List.replicate n (0, 1)) = trimF l
 | 0 => by simp
 | n + 1 => by
  rw [List.replicate_succ', ← List.append_assoc, trimF_snoc, if_pos rfl, trimF_room]

/-! ### monic polynomials, common divisors -/
def scaleF (by' : Int × Int) (p : List (Int × Int)) : List (Int × Int) := p.map fun f => divR f by'
def monicF (p : List (Int × Int)) : List (Int × Int) := scaleF (p.getD (p.length - 1) (0, 1)) p
theorem scaleF_len {b : Int × Int} {p : List (Int × Int)} : (scaleF b p).length = p.length := List.length_map _
theorem monicF_len {p : List (Int × Int)} : (monicF p).length = p.length := scaleF_len
/-- The last member is not 0. -/
def topF (p : List (Int × Int)) : Prop := p ≠ [] → (p.getD (p.length - 1) (0, 1)).1 ≠ 0
theorem topF_of {p : List (Int × Int)} (h : ∀ f, p.getLast? = some f → f.1 ≠ 0) : topF p := fun hp => by
 have h1 : 0 < p.length := List.length_pos_iff.2 hp
 refine h _ ?_
 rw [List.getLast?_eq_getElem?, List.getD, List.getElem?_eq_getElem (by omega)]
 rfl
theorem topF_trim (p : List (Int × Int)) : topF (trimF p) := topF_of (trimF_last p)
theorem scaleF_low {b : Int × Int} {p : List (Int × Int)} (hp : lowL p) (hb : b.1 ≠ 0) : lowL (scaleF b p) := by
 intro f hf
 obtain ⟨g, hg, rfl⟩ := List.mem_map.1 hf
 exact divR_low (hp g hg).1 hb
theorem monicF_low {p : List (Int × Int)} (hp : lowL p) (ht : topF p) : lowL (monicF p) := by
 by_cases h : p = []
 ·subst h; intro f hf; cases hf
 ·exact scaleF_low hp (ht h)
theorem scaleF_top {b : Int × Int} {p : List (Int × Int)} (hp : lowL p) (ht : topF p) (hb : b.1 ≠ 0) (hb2 : 0 < b.2) : topF (scaleF b p) := by
 intro h
 have hpn : p ≠ [] := fun e => h (by rw [e]; rfl)
 have h1 : 0 < p.length := List.length_pos_iff.2 hpn
 have e : (scaleF b p).getD ((scaleF b p).length - 1) (0, 1) = divR (p.getD (p.length - 1) (0, 1)) b := by
  rw [scaleF_len]
  simp [scaleF, List.getD, show p.length - 1 < p.length by omega]
 rw [e]
 exact divR_ne (getD_low hp _).1 (ht hpn) hb2 hb
theorem monicF_top {p : List (Int × Int)} (hp : lowL p) (ht : topF p) : topF (monicF p) := by
 by_cases h : p = []
 ·subst h; intro h; exact absurd rfl h
 ·exact scaleF_top hp ht (ht h) (getD_low hp _).1
theorem scaleF_ok {b : Int × Int} {p : List (Int × Int)} {K B : Nat} (hp : okL K p) (hb : okF B b) (h0 : b.1 ≠ 0) : okL (K + B) (scaleF b p) := by
 intro f hf
 obtain ⟨g, hg, rfl⟩ := List.mem_map.1 hf
 exact divR_ok (hp g hg) hb h0
theorem monicF_ok {p : List (Int × Int)} {K : Nat} (hp : okL K p) (ht : topF p) : okL (K + K) (monicF p) := by
 by_cases h : p = []
 ·subst h; intro f hf; cases hf
 ·have h1 : 0 < p.length := List.length_pos_iff.2 h
  exact scaleF_ok hp (getD_ok hp _ (by omega)) (ht h)
/-- The common divisor: Euclid's steps, so many at most. -/
def gcdF : Nat → List (Int × Int) → List (Int × Int) → List (Int × Int)
 | 0, p, _ => monicF p
 | n + 1, p, q => if q = [] then monicF p else gcdF n q (monicF (trimF (divF p q).2))
theorem gcdF_nil {n : Nat} {p : List (Int × Int)} : gcdF n p [] = monicF p := by cases n <;> rfl
/-- One more step makes no difference behind the end. -/
theorem gcdF_fuel : ∀ {n m : Nat} {p q : List (Int × Int)}, lowL p → lowL q → topF q → q.length ≤ n → q.length ≤ m → gcdF n p q = gcdF m p q
 | 0, m, p, q, _, _, _, hn, _ => by
  have : q = [] := List.length_eq_zero_iff.1 (by omega)
  subst this
  rw [gcdF_nil, gcdF_nil]
 | n + 1, 0, p, q, _, _, _, _, hm => by
  have : q = [] := List.length_eq_zero_iff.1 (by omega)
  subst this
  rw [gcdF_nil, gcdF_nil]
 | n + 1, m + 1, p, q, hp, hq, ht, hn, hm => by
  unfold gcdF
  split
  ·rfl
  ·rename_i h
   have h1 := divF_rest hp hq h (ht h)
   exact gcdF_fuel hq (monicF_low (trimF_low (divF_low hp hq (ht h)).2) (topF_trim _)) (monicF_top (trimF_low (divF_low hp hq (ht h)).2) (topF_trim _)) (by rw [monicF_len]; omega) (by rw [monicF_len]; omega)
def comF (p q : List (Int × Int)) : List (Int × Int) := gcdF q.length p q
theorem comF_nil {p : List (Int × Int)} : comF p [] = monicF p := rfl
theorem comF_cons {p q : List (Int × Int)} (hp : lowL p) (hq : lowL q) (ht : topF q) (h : q ≠ []) : comF p q = comF q (monicF (trimF (divF p q).2)) := by
 unfold comF
 have h1 := divF_rest hp hq h (ht h)
 obtain ⟨n, hn⟩ : ∃ n, q.length = n + 1 := ⟨q.length - 1, by have := List.length_pos_iff.2 h; omega⟩
 conv => lhs; rw [hn]; unfold gcdF
 rw [if_neg h]
 exact gcdF_fuel hq (monicF_low (trimF_low (divF_low hp hq (ht h)).2) (topF_trim _)) (monicF_top (trimF_low (divF_low hp hq (ht h)).2) (topF_trim _)) (by rw [monicF_len]; omega) (Nat.le_refl _)
end Go.Vx
end
