/- Q6, Q7, Q8 -/
import Derived.Test.YtpmgjmkobpeepaaGreatQGc
set_option linter.unusedVariables false
set_option linter.unusedSectionVars false
set_option linter.unusedSimpArgs false
section
/- ShiftPoly: what the two programs do. -/
namespace Go.Vx
open Go.Proofs
set_option maxRecDepth 100000

/-! ### sharper sizes -/
theorem mulRow_low : ∀ {q out : List (Int × Int)} {j : Nat} {a : Int × Int}, lowL out → lowL q → low a → lowL (mulRow out j a q)
  | [], _, _, _, h, _, _ => h
  | b :: q, out, j, a, h, hq, ha => by
    rw [mulRow]
    exact mulRow_low (set_low h (addR_low (getD_low h j).1 (mulR_low ha.1 (hq b List.mem_cons_self).1).1)) (fun f hf => hq f (List.mem_cons_of_mem _ hf)) ha
theorem mulRows_low : ∀ {p q out : List (Int × Int)} {i : Nat}, lowL out → lowL p → lowL q → lowL (mulRows out i p q)
  | [], _, _, _, h, _, _ => h
  | a :: p, q, out, i, h, hp, hq => by
    rw [mulRows]
    exact mulRows_low (mulRow_low h hq (hp a List.mem_cons_self)) (fun f hf => hp f (List.mem_cons_of_mem _ hf)) hq
theorem zero_low : low (0, 1) := ⟨by decide, by decide⟩
theorem timesF_low {p q : List (Int × Int)} (hp : lowL p) (hq : lowL q) : lowL (timesF p q) := by
  refine mulRows_low (fun f hf => ?_) hp hq
  rw [List.mem_replicate] at hf
  rw [hf.2]
  exact zero_low
theorem plusF_low {p q : List (Int × Int)} (hp : lowL p) (hq : lowL q) : lowL (plusF p q) := by
  intro f hf
  obtain ⟨i, _, rfl⟩ := List.mem_map.1 hf
  unfold plusV
  split
  · rename_i x y h1 h2
    exact addR_low (hp x (List.mem_of_getElem? h1)).1 (hq y (List.mem_of_getElem? h2)).1
  · rename_i x h1 h2
    exact hp x (List.mem_of_getElem? h1)
  · rename_i y h1 h2
    exact hq y (List.mem_of_getElem? h2)
  · exact zero_low
theorem plusF_sz {K L : Nat} {p q : List (Int × Int)} (hp : okL K p) (hq : okL L q) : okL (K + L + 4) (plusF p q) := by
  intro f hf
  obtain ⟨i, _, rfl⟩ := List.mem_map.1 hf
  unfold plusV
  split
  · rename_i x y h1 h2
    exact (addR_ok (hp x (List.mem_of_getElem? h1)) (hq y (List.mem_of_getElem? h2))).mono (by omega)
  · rename_i x h1 h2
    exact (hp x (List.mem_of_getElem? h1)).mono (by omega)
  · rename_i y h1 h2
    exact (hq y (List.mem_of_getElem? h2)).mono (by omega)
  · exact (whole_R 0 (by omega) (by omega)).mono (by omega)
/-- Two rows touch one place, where the second polynomial has two members. -/
def ok2 (S i : Nat) (l : List (Int × Int)) : Prop := ∀ (t : Nat) (f : Int × Int), l[t]? = some f → okF (4 + (if t < i then 2 else if t = i then 1 else 0) * S) f
theorem mulRow2 {S M N i : Nat} {out : List (Int × Int)} {a b c : Int × Int} (h : ok2 S i out) (hl : i + 1 < out.length) (ha : okF M a) (hb : okF N b) (hc : okF N c) (hS : M + N + 1 ≤ S) : ok2 S (i + 1) (mulRow out i a [b, c]) := by
  have e0 : out.getD i (0, 1) = out[i]'(by omega) := by simp [List.getD, show i < out.length by omega]
  have e1 : (out.set i (addR (out.getD i (0, 1)) (mulR a b))).getD (i + 1) (0, 1) = out[i + 1] := by
    rw [List.getD, List.getElem?_set_ne (by omega), List.getElem?_eq_getElem hl]
    rfl
  have h0 := h i (out[i]'(by omega)) (List.getElem?_eq_getElem (by omega))
  rw [if_neg (by omega), if_pos rfl] at h0
  have h1 := h (i + 1) out[i + 1] (List.getElem?_eq_getElem hl)
  rw [if_neg (by omega), if_neg (by omega)] at h1
  intro t f hf
  simp only [mulRow] at hf
  rw [e1] at hf
  rw [List.getElem?_set] at hf
  split at hf
  · rename_i e
    subst e
    rw [List.length_set, if_pos hl] at hf
    cases hf
    rw [if_neg (by omega), if_pos rfl]
    exact (addR_ok h1 (mulR_ok ha hc)).mono (by omega)
  · rename_i ne1
    rw [List.getElem?_set] at hf
    split at hf
    · rename_i e
      subst e
      rw [if_pos (by omega)] at hf
      cases hf
      rw [if_pos (by omega), e0]
      exact (addR_ok h0 (mulR_ok ha hb)).mono (by omega)
    · rename_i ne2
      have h3 := h t f hf
      by_cases c1 : t < i
      · rw [if_pos c1] at h3
        rw [if_pos (by omega)]
        exact h3
      · rw [if_neg c1, if_neg (by omega)] at h3
        rw [if_neg (by omega), if_neg (by omega)]
        exact h3
theorem mulRows2 {S M N : Nat} {b c : Int × Int} (hb : okF N b) (hc : okF N c) (hS : M + N + 1 ≤ S) : ∀ {p out : List (Int × Int)} {i : Nat}, ok2 S i out → i + p.length + 2 ≤ out.length → okL M p → okL (4 + 2 * S) (mulRows out i p [b, c])
  | [], out, i, h, _, _ => fun f hf => by
    obtain ⟨t, ht⟩ := List.getElem?_of_mem hf
    refine (h t f ht).mono ?_
    split
    · exact Nat.le_refl _
    · split <;> omega
  | a :: p, out, i, h, hl, hp => by
    rw [mulRows]
    exact mulRows2 hb hc hS (mulRow2 h (by simp at hl; omega) (hp a List.mem_cons_self) hb hc hS) (by rw [mulRow_len]; simp at hl; omega) (fun f hf => hp f (List.mem_cons_of_mem _ hf))
theorem times2_sz {M N : Nat} {p : List (Int × Int)} {b c : Int × Int} (hp : okL M p) (hb : okF N b) (hc : okF N c) : okL (4 + 2 * (M + N + 1)) (timesF p [b, c]) := by
  refine mulRows2 hb hc (Nat.le_refl _) (fun t f hf => ?_) (by simp) hp
  have := List.mem_of_getElem? hf
  rw [List.mem_replicate] at this
  rw [this.2]
  exact (whole_R 0 (by omega) (by omega)).mono (by omega)

/-- The members, from the last one on. -/
def shiftL (a : Int × Int) : List (Int × Int) → List (Int × Int) → List (Int × Int)
  | out, [] => out
  | out, c :: l => shiftL a (trimF (plusF (trimF (timesF out [a, (1, 1)])) (trimF [c]))) l
def shiftF (p : List (Int × Int)) (a : Int × Int) : List (Int × Int) := shiftL a [] p.reverse
def shStep (a : Int × Int) (out : List (Int × Int)) (c : Int × Int) : List (Int × Int) := trimF (plusF (trimF (timesF out [a, (1, 1)])) (trimF [c]))
theorem shStep_sz {M N : Nat} {a c : Int × Int} {out : List (Int × Int)} (ho : okL M out) (ha : okF N a) (hN : 1 ≤ N) (hc : okF N c) : okL (2 * M + 3 * N + 10) (shStep a out c) := by
  have h1 : okF N ((1, 1) : Int × Int) := (small_R (n := 1) (by omega) (by omega)).mono hN
  have h2 := times2_sz ho ha h1
  have h3 : okL (4 + 2 * (M + N + 1)) (trimF (timesF out [a, (1, 1)])) := fun f hf => h2 f (trimF_sub hf)
  have h4 : okL N (trimF [c]) := fun f hf => by
    have := trimF_sub hf
    rw [List.mem_singleton] at this
    rw [this]
    exact hc
  exact fun f hf => (plusF_sz h3 h4 f (trimF_sub hf)).mono (by omega)
theorem shStep_low {a c : Int × Int} {out : List (Int × Int)} (ho : lowL out) (ha : low a) (hc : low c) : lowL (shStep a out c) := by
  have h1 : lowL [a, (1, 1)] := fun f hf => by
    rcases List.mem_cons.1 hf with rfl | hf
    · exact ha
    · rw [List.mem_singleton] at hf; rw [hf]; exact ⟨by decide, by decide⟩
  exact trimF_low (plusF_low (trimF_low (timesF_low ho h1)) (trimF_low (fun f hf => by rw [List.mem_singleton] at hf; rw [hf]; exact hc)))
theorem shStep_len {a c : Int × Int} {out : List (Int × Int)} : (shStep a out c).length ≤ out.length + 2 := by
  unfold shStep
  have h1 := trimF_len (plusF (trimF (timesF out [a, (1, 1)])) (trimF [c]))
  rw [plusF_len] at h1
  have h2 := trimF_len (timesF out [a, (1, 1)])
  rw [timesF_len] at h2
  have h3 := trimF_len [c]
  simp only [List.length_cons, List.length_nil] at h2 h3
  omega
theorem trim_pair (a : Int × Int) : trimF [a, (1, 1)] = [a, (1, 1)] := trimF_id (fun f hf => by
  have : f = (1, 1) := by simpa using hf.symm
  rw [this]
  decide)
def szS (N : Nat) : Nat → Nat
  | 0 => 0
  | n + 1 => 2 * szS N n + 3 * N + 10
theorem szS_le (N : Nat) : ∀ {n m : Nat}, n ≤ m → szS N n ≤ szS N m
  | 0, m, _ => Nat.zero_le _
  | n + 1, m + 1, h => by
    have := szS_le N (n := n) (m := m) (by omega)
    unfold szS
    omega

/-! ### without calls that write -/
def Γt : Tab := { Γ with muts := [] }
theorem tabΓt : tabB Tryz.prog 3 Γt = true := by kernel_rfl
theorem goT {g : FuncId} {fn : Func} {c : Code} {ps : List PV} {fl : Bool} {r : Res} (hf : Tryz.prog.funcs[g]? = some fn) (hname : (fn.name == "runtime.NumGoroutine") = false)
    (hb : fn.body = some c) (hev : fT (init fn.ntmps ps) fun T => evF Γt 3 D Tryz.prog c T (retK Γt 3 fn.results.toList fl r)) : D g ps fl r :=
  den_intro mixed tabΓt hf hname hb (ev_sound mixed tabΓt (fun _ _ _ _ h => h) (fun _ _ _ _ h => h) (fun _ _ _ _ _ _ h => h) (fun _ _ _ _ _ h => h) c (evF_le c (by rw [fT_eq] at hev; exact hev)))
theorem goT1 {c : Code} {T : List FV} {K : Ex → List FV → Prop} (h : fT T fun T => evF Γt 3 D Tryz.prog c T K) : EVs Tryz.prog c T K := ev_sound mixed tabΓt (fun _ _ _ _ h => h) (fun _ _ _ _ h => h) (fun _ _ _ _ _ _ h => h) (fun _ _ _ _ _ h => h) c (evF_le c (by rw [fT_eq] at h; exact h))

section
variable (p : List (Int × Int)) (a : Int × Int) (N : Nat) (hl : p.length ≤ 10) (hp : okL N p) (lp : lowL p) (ha : okF N a) (la : low a) (hN : 1 ≤ N) (hN2 : N ≤ 10)
include hl hp lp ha la hN hN2
set_option maxHeartbeats 4000000 in
theorem shifted_den : D 56 [(false, [.arr 4 (p.map cellR)]), ratV a.1 a.2] false (.one (false, [.arr 4 ((shiftF p a).map cellR)])) := by
  have hrl : (p.map cellR).length = p.length := by simp
  refine goT Tryz.func56 rfl rfl ?_
  repeat refine vs ?_
  conv => whnf
  refine NewK.mk false ?_
  repeat refine vs ?_
  conv => whnf
  refine EVs.loopU (fun s : Int × List (Int × Int) => -1 ≤ s.1 ∧ s.1 + 1 ≤ p.length ∧ okL (szS N (p.length - (s.1 + 1).toNat)) s.2 ∧ lowL s.2 ∧ s.2.length ≤ 2 * (p.length - (s.1 + 1).toNat) ∧ shiftL a s.2 (p.take (s.1 + 1).toNat).reverse = shiftF p a) (fun s => (s.1 + 1).toNat)
    (fun | (k, o) => [(5, .v false [.p (.arr 4 (o.map cellR))]), (6, .v false [.p (.int .i64 k)])]) ((p.length : Int) - 1, []) ⟨by dsimp only; omega, by dsimp only; omega, (fun f hf => by cases hf), (fun f hf => by cases hf), by simp, by dsimp only; rw [show ((p.length : Int) - 1 + 1).toNat = p.length by omega, List.take_length]; rfl⟩ ?_ ?_
  · rw [hrl]
    refine Wk.le ?_
    repeat' (first | exact LeT.nil | refine LeT.drop1 ?_ | refine LeT.same1 ?_ | refine LeT.own1 ?_ | refine LeT.ownR ?_ | (refine LeT.deepR ?_ rfl))
  rintro ⟨k, o⟩ ⟨hk0, hk1, hoo, hol, hon, hinv⟩
  dsimp only at hk0 hk1 hoo hol hon hinv
  refine goT1 ?_
  repeat refine vs ?_
  conv => whnf
  by_cases hk : k ≥ 0
  · have hlt : k.toNat < p.length := by omega
    have hc := hp p[k.toNat] (List.getElem_mem hlt)
    have hcl := lp p[k.toNat] (List.getElem_mem hlt)
    have hget : (p.map cellR)[k.toNat]? = some (cellR p[k.toNat]) := by rw [List.getElem?_map, List.getElem?_eq_getElem hlt]; rfl
    rw [show (k + 1).toNat = k.toNat + 1 by omega] at hinv hoo hon
    rw [take_rev hlt] at hinv
    generalize p[k.toNat] = c at *
    have hinv2 : shiftL a (shStep a o c) (p.take k.toNat).reverse = shiftF p a := hinv
    have hst := shStep_sz hoo ha hN hc
    have hsl := shStep_low hol la hcl
    have hsn := shStep_len (a := a) (c := c) (out := o)
    have hbig : szS N (p.length - (k.toNat + 1)) ≤ 1000000 := by
      refine Nat.le_trans (szS_le N (m := 10) (by omega)) ?_
      simp only [szS]
      omega
    have h1 : okF N ((1, 1) : Int × Int) := (small_R (n := 1) (by omega) (by omega)).mono hN
    have hpair : okL N [a, (1, 1)] := fun f hf => by
      rcases List.mem_cons.1 hf with rfl | hf
      · exact ha
      · rw [List.mem_singleton] at hf; rw [hf]; exact h1
    have hpl : lowL [a, (1, 1)] := fun f hf => by
      rcases List.mem_cons.1 hf with rfl | hf
      · exact la
      · rw [List.mem_singleton] at hf; rw [hf]; exact ⟨by decide, by decide⟩
    have dW := whole_den 1 (by omega) (by omega)
    have dX := times_den o [a, (1, 1)] (by omega) (by simp) (hoo.mono (by omega)) (hpair.mono (by omega))
    have dT := trim_den [c] (by simp) (fun f hf => by rw [List.mem_singleton] at hf; rw [hf]; exact hc.mono (by omega))
    have ht1 := times2_sz hoo ha h1
    have tl1 := trimF_len (timesF o [a, (1, 1)])
    rw [timesF_len] at tl1
    simp only [List.length_cons, List.length_nil] at tl1
    have tl2 := trimF_len [c]
    simp only [List.length_cons, List.length_nil] at tl2
    have dP := plus_den (trimF (timesF o [a, (1, 1)])) (trimF [c]) (by omega) (by omega) (fun f hf => ⟨(ht1 f (trimF_sub hf)).mono (by omega), (timesF_low hol hpl f (trimF_sub hf)).2⟩) (fun f hf => by
      have := trimF_sub hf
      rw [List.mem_singleton] at this
      rw [this]
      exact ⟨hc.mono (by omega), hcl.2⟩)
    repeat refine vs ?_
    conv => whnf
    refine CallS.mk _ rfl true false _ (dW) rfl ?_
    repeat refine vs ?_
    conv => whnf
    refine NewK.mk false ?_
    repeat refine vs ?_
    conv => whnf
    refine CallS.mk _ rfl false false _ (dX) rfl ?_
    repeat refine vs ?_
    conv => whnf
    first | refine Idx.mk (k.toNat) (by first | rfl | omega) (by omega) ?_ | skip
    repeat refine vs ?_
    conv => whnf
    refine LdR.mk (cellR c) hget ?_
    repeat refine vs ?_
    conv => whnf
    refine NewK.mk false ?_
    repeat refine vs ?_
    conv => whnf
    refine CallS.mk _ rfl false false _ (dT) rfl ?_
    repeat refine vs ?_
    conv => whnf
    refine CallS.mk _ rfl false false _ (dP) rfl ?_
    repeat refine vs ?_
    conv => whnf
    refine ⟨(k - 1, shStep a o c), by dsimp only; omega, ⟨by dsimp only; omega, by dsimp only; omega, ?_, hsl, ?_, ?_⟩, ?_⟩
    · dsimp only
      rw [show (k - 1 + 1).toNat = k.toNat by omega, show p.length - k.toNat = p.length - (k.toNat + 1) + 1 by omega]
      exact hst
    · dsimp only
      rw [show (k - 1 + 1).toNat = k.toNat by omega]
      omega
    · dsimp only
      rw [show (k - 1 + 1).toNat = k.toNat by omega]
      exact hinv2
    · refine Wk.le ?_
      repeat' (first | exact LeT.nil | refine LeT.drop1 ?_ | refine LeT.same1 ?_ | refine LeT.own1 ?_ | refine LeT.ownR ?_ | (refine LeT.deepR ?_ rfl))
  · have : k = -1 := by omega
    subst this
    have hvv : o = shiftF p a := by rw [← hinv]; rfl
    rw [← hvv]
    repeat refine vs ?_
    conv => whnf
    first | rfl | exact ⟨rfl, rfl⟩ | exact ⟨by simp [toRes], rfl⟩
end
theorem shiftL_sz {a : Int × Int} {N : Nat} (ha : okF N a) (hN : 1 ≤ N) (la : low a) : ∀ {l out : List (Int × Int)} {n : Nat}, okL N l → lowL l → okL (szS N n) out → lowL out → out.length ≤ 2 * n → okL (szS N (n + l.length)) (shiftL a out l) ∧ lowL (shiftL a out l) ∧ (shiftL a out l).length ≤ 2 * (n + l.length)
  | [], out, n, _, _, h1, h2, h3 => ⟨h1, h2, h3⟩
  | c :: l, out, n, hl, ll, h1, h2, h3 => by
    have hst := shStep_sz h1 ha hN (hl c List.mem_cons_self)
    have hsn := shStep_len (a := a) (c := c) (out := out)
    have := shiftL_sz ha hN la (l := l) (out := shStep a out c) (n := n + 1) (fun f hf => hl f (List.mem_cons_of_mem _ hf)) (fun f hf => ll f (List.mem_cons_of_mem _ hf)) hst (shStep_low h2 la (ll c List.mem_cons_self)) (by omega)
    rw [List.length_cons, show n + (l.length + 1) = n + 1 + l.length by omega]
    exact this
theorem shiftF_sz {p : List (Int × Int)} {a : Int × Int} {N : Nat} (hp : okL N p) (lp : lowL p) (ha : okF N a) (hN : 1 ≤ N) (la : low a) : okL (szS N p.length) (shiftF p a) ∧ lowL (shiftF p a) ∧ (shiftF p a).length ≤ 2 * p.length := by
  have := shiftL_sz ha hN la (l := p.reverse) (out := []) (n := 0) (fun f hf => hp f (List.mem_reverse.1 hf)) (fun f hf => lp f (List.mem_reverse.1 hf)) (fun f hf => by cases hf) (fun f hf => by cases hf) (by simp)
  rw [List.length_reverse, Nat.zero_add] at this
  exact this
end Go.Vx
end
section
/- ShiftPoly and BudanCount. -/
namespace Go.Vx
open Go.Proofs
set_option maxRecDepth 100000

theorem shiftL_trim {a : Int × Int} : ∀ {l out : List (Int × Int)}, trimF out = out → trimF (shiftL a out l) = shiftL a out l
  | [], _, h => h
  | c :: l, out, _ => shiftL_trim (l := l) (out := shStep a out c) (trimF_trim _)
theorem shiftF_trim (p : List (Int × Int)) (a : Int × Int) : trimF (shiftF p a) = shiftF p a := shiftL_trim rfl
theorem okQ_qF {K : Nat} {x : Int × Int} (h : lowT K x) (hK : K ≤ 40) : okQ K (qF x) = true := by
  unfold okQ qF
  dsimp only
  have h1 : Lm.ln x.1 ≤ 40 := Nat.le_trans h.1.2.1 hK
  have h2 : Lm.ln x.2 ≤ 40 := Nat.le_trans h.1.2.2 hK
  rw [goodR_lim h1 h2, decide_eq_true h.1.1, decide_eq_true h.2, decide_eq_true (show (Lm.lim x.1.natAbs).length ≤ K from h.1.2.1), decide_eq_true (show (Lm.lim x.2.natAbs).length ≤ K from h.1.2.2)]
  rfl

theorem nilP_le : LeF (.v false [.nil]) (.v false [.p (.arr 4 [])]) := fun F β w v h => by
  obtain ⟨x, hx, h⟩ := h
  cases hx
  have h : v = .slice none 0 0 := h
  subst h
  exact ⟨_, rfl, none, 0, rfl, Nat.le_refl _, by simp, .inl rfl⟩
theorem lowT.mono {K M : Nat} {x : Int × Int} (h : lowT K x) (hk : K ≤ M) : lowT M x := ⟨h.1.mono hk, h.2⟩
theorem goodP_of {fs : List (Int × Int)} {m K : Nat} (hl : fs.length ≤ m) (hlow : ∀ f ∈ fs, lowT K f) (hK : K ≤ 40) (ht : ∀ f, fs.getLast? = some f → f.1 ≠ 0) : goodP m K (fs.map qF) = true := by
  unfold goodP
  rw [Bool.and_eq_true, Bool.and_eq_true, decide_eq_true_iff, List.length_map, List.all_eq_true]
  refine ⟨⟨hl, fun r hr => ?_⟩, ?_⟩
  · obtain ⟨f, hf, rfl⟩ := List.mem_map.1 hr
    exact okQ_qF (hlow f hf) hK
  · unfold lastQ
    rw [List.getLast?_map]
    cases h : fs.getLast? with
    | none => rfl
    | some f =>
      show decide ((qF f).l ≠ []) = true
      rw [decide_eq_true_iff]
      show Lm.lim f.1.natAbs ≠ []
      rw [ne_eq, Lm.lim_eq_nil]
      have := ht f h
      omega

section
variable (fs : List (Int × Int)) (x : Int × Int) (hlen : fs.length ≤ 7) (hlow : ∀ f ∈ fs, lowT 6 f) (ht : ∀ f, fs.getLast? = some f → f.1 ≠ 0) (hx : lowT 6 x)
include hlen hlow ht hx
theorem shiftI_den : D 20 [(false, [.arr 4 (fs.map cellR)]), ratV x.1 x.2] true (.tup [(false, [.arr 4 ((resP (shiftF fs x)).map cellR)]), bP (okP (shiftF fs x))]) := by
  have hg := goodP_of hlen hlow (by omega) ht
  have gI := goodPolyI_den (fs.map qF) (shortP.big (goodP_short hg))
  unfold polQ at gI
  rw [map_qF, hg] at gI
  have pI := isArg_den (qF x) (Nat.le_trans hx.1.2.1 (by omega)) (Nat.le_trans hx.1.2.2 (by omega))
  rw [okQ_qF hx (by omega)] at pI
  have dS := shifted_den fs x 6 (by omega) (okL_T hlow) (lowL_T hlow) hx.1 ⟨hx.1.1, hx.2⟩ (by omega) (by omega)
  obtain ⟨s1, s2, s3⟩ := shiftF_sz (okL_T hlow) (lowL_T hlow) hx.1 (by omega) ⟨hx.1.1, hx.2⟩
  have hb : szS 6 fs.length ≤ 1000000 := Nat.le_trans (szS_le 6 hlen) (by decide)
  have dC := checkedPoly_den (shiftF fs x) (by omega) (s1.mono (by omega))
  generalize resP (shiftF fs x) = res at *
  generalize okP (shiftF fs x) = b at *
  refine go Tryz.func20 rfl rfl ?_
  repeat refine vs ?_
  conv => whnf
  refine CallS.mk _ rfl true true _ (gI) rfl ?_
  repeat refine vs ?_
  conv => whnf
  refine CallS.mk _ rfl true true _ (pI) rfl ?_
  repeat refine vs ?_
  conv => whnf
  refine CallS.mk _ rfl false false _ (dS) rfl ?_
  repeat refine vs ?_
  conv => whnf
  refine CallS.mk _ rfl true true _ (dC) rfl ?_
  repeat refine vs ?_
  conv => whnf
  first | rfl | exact ⟨rfl, rfl⟩ | exact ⟨by simp [toRes], rfl⟩
theorem shiftS_den : D 18 [(false, [.arr 4 (fs.map cellR)]), ratV x.1 x.2] false (.tup [(false, [.arr 4 ((resP (shiftF fs x)).map cellR)]), bP (okP (shiftF fs x))]) := by
  have hg := goodP_of hlen hlow (by omega) ht
  have gS := goodPolyS_den (fs.map qF) (shortP.big (goodP_short hg))
  unfold polQ at gS
  rw [map_qF, hg] at gS
  have hq := okQ_qF hx (by omega)
  unfold okQ qF at hq
  simp only [Bool.and_eq_true] at hq
  have pS := l4Small_den (decide (x.1 < 0)) (Lm.lim x.1.natAbs) (decide (x.2 < 0)) (Lm.lim x.2.natAbs) (Nat.le_trans hx.1.2.1 (by omega)) (Nat.le_trans hx.1.2.2 (by omega))
  rw [hq.2.1, hq.2.2] at pS
  have rS := goodRatS_den (decide (x.1 < 0)) (Lm.lim x.1.natAbs) (decide (x.2 < 0)) (Lm.lim x.2.natAbs) (Nat.le_trans hx.1.2.1 (by omega)) (Nat.le_trans hx.1.2.2 (by omega))
  rw [hq.1] at rS
  clear hq
  obtain ⟨s1, s2, s3⟩ := shiftF_sz (okL_T hlow) (lowL_T hlow) hx.1 (by omega) ⟨hx.1.1, hx.2⟩
  have hb : szS 6 fs.length ≤ 1000000 := Nat.le_trans (szS_le 6 hlen) (by decide)
  have dF := l4Fits_den (shiftF fs x) (by omega) (s1.mono (by omega))
  have e1 : okP (shiftF fs x) = goodP 7 6 ((shiftF fs x).map qF) := by unfold okP; rw [shiftF_trim]
  have e2 : resP (shiftF fs x) = if goodP 7 6 ((shiftF fs x).map qF) then shiftF fs x else [] := by unfold resP; rw [e1, shiftF_trim]
  rw [← e2, ← e1] at dF
  clear e1 e2
  generalize resP (shiftF fs x) = res at *
  generalize okP (shiftF fs x) = b at *
  have hrl : (fs.map cellR).length = fs.length := by simp
  have ha := hx.1
  have la : low x := ⟨hx.1.1, hx.2⟩
  have hp := okL_T hlow
  have lp := lowL_T hlow
  refine go Tryz.func18 rfl rfl ?_
  repeat refine vs ?_
  conv => whnf
  refine CallS.mk _ rfl true true _ (gS) rfl ?_
  repeat refine vs ?_
  conv => whnf
  refine CallS.mk _ rfl true true _ (pS) rfl ?_
  repeat refine vs ?_
  conv => whnf
  refine CallS.mk _ rfl true true _ (rS) rfl ?_
  repeat refine vs ?_
  conv => whnf
  refine EVs.loopU (fun s : Int × List (Int × Int) => -1 ≤ s.1 ∧ s.1 + 1 ≤ fs.length ∧ okL (szS 6 (fs.length - (s.1 + 1).toNat)) s.2 ∧ lowL s.2 ∧ s.2.length ≤ 2 * (fs.length - (s.1 + 1).toNat) ∧ shiftL x s.2 (fs.take (s.1 + 1).toNat).reverse = shiftF fs x) (fun s => (s.1 + 1).toNat)
    (fun | (k, o) => [(6, .v false [.p (.arr 4 (o.map cellR))]), (7, .v false [.p (.int .i64 k)])]) ((fs.length : Int) - 1, []) ⟨by dsimp only; omega, by dsimp only; omega, (fun f hf => by cases hf), (fun f hf => by cases hf), by simp, by dsimp only; rw [show ((fs.length : Int) - 1 + 1).toNat = fs.length by omega, List.take_length]; rfl⟩ ?_ ?_
  · rw [hrl]
    refine Wk.le ?_
    repeat' (first | exact LeT.nil | refine LeT.drop1 ?_ | refine LeT.same1 ?_ | (refine ⟨nilP_le, ?_⟩))
  rintro ⟨k, o⟩ ⟨hk0, hk1, hoo, hol, hon, hinv⟩
  dsimp only at hk0 hk1 hoo hol hon hinv
  refine go1 ?_
  repeat refine vs ?_
  conv => whnf
  by_cases hk : k ≥ 0
  · have hlt : k.toNat < fs.length := by omega
    have hc := hp fs[k.toNat] (List.getElem_mem hlt)
    have hcl := lp fs[k.toNat] (List.getElem_mem hlt)
    have hget : (fs.map cellR)[k.toNat]? = some (cellR fs[k.toNat]) := by rw [List.getElem?_map, List.getElem?_eq_getElem hlt]; rfl
    rw [show (k + 1).toNat = k.toNat + 1 by omega] at hinv hoo hon
    rw [take_rev hlt] at hinv
    generalize fs[k.toNat] = c at *
    have hinv2 : shiftL x (shStep x o c) (fs.take k.toNat).reverse = shiftF fs x := hinv
    have hst := shStep_sz hoo ha (by omega) hc
    have hsl := shStep_low hol la hcl
    have hsn := shStep_len (a := x) (c := c) (out := o)
    have hbig : szS 6 (fs.length - (k.toNat + 1)) ≤ 900000 := by
      refine Nat.le_trans (szS_le 6 (m := 7) (by omega)) ?_
      decide
    have h1 : okF 6 ((1, 1) : Int × Int) := (small_R (n := 1) (by omega) (by omega)).mono (by omega)
    have hpair : okL 6 [x, (1, 1)] := fun f hf => by
      rcases List.mem_cons.1 hf with rfl | hf
      · exact ha
      · rw [List.mem_singleton] at hf; rw [hf]; exact h1
    have hpl : lowL [x, (1, 1)] := fun f hf => by
      rcases List.mem_cons.1 hf with rfl | hf
      · exact la
      · rw [List.mem_singleton] at hf; rw [hf]; exact ⟨by decide, by decide⟩
    have dW := l2Int_den 1 (by omega) (by omega)
    have dC1 := l4Cut_den [x, (1, 1)] (by simp) (hpair.mono (by omega))
    rw [trim_pair] at dC1
    have dX := l4Mul_den o [x, (1, 1)] (by omega) (by simp) (hoo.mono (by omega)) (hpair.mono (by omega))
    have dT := l4Cut_den [c] (by simp) (fun f hf => by rw [List.mem_singleton] at hf; rw [hf]; exact hc.mono (by omega))
    have ht1 := times2_sz hoo ha h1
    have tl1 := trimF_len (timesF o [x, (1, 1)])
    rw [timesF_len] at tl1
    simp only [List.length_cons, List.length_nil] at tl1
    have tl2 := trimF_len [c]
    simp only [List.length_cons, List.length_nil] at tl2
    have dP := l4Add_den (trimF (timesF o [x, (1, 1)])) (trimF [c]) (by omega) (by omega) (fun f hf => ⟨(ht1 f (trimF_sub hf)).mono (by omega), (timesF_low hol hpl f (trimF_sub hf)).2⟩) (fun f hf => by
      have := trimF_sub hf
      rw [List.mem_singleton] at this
      rw [this]
      exact ⟨hc.mono (by omega), hcl.2⟩)
    repeat refine vs ?_
    conv => whnf
    refine CallS.mk _ rfl true false _ (dW) rfl ?_
    repeat refine vs ?_
    conv => whnf
    refine NewK.mk false ?_
    repeat refine vs ?_
    conv => whnf
    refine CallS.mk _ rfl false false _ (dC1) rfl ?_
    repeat refine vs ?_
    conv => whnf
    refine CallS.mk _ rfl false false _ (dX) rfl ?_
    repeat refine vs ?_
    conv => whnf
    first | refine Idx.mk (k.toNat) (by first | rfl | omega) (by omega) ?_ | skip
    repeat refine vs ?_
    conv => whnf
    refine LdR.mk (cellR c) hget ?_
    repeat refine vs ?_
    conv => whnf
    refine NewK.mk false ?_
    repeat refine vs ?_
    conv => whnf
    refine CallS.mk _ rfl false false _ (dT) rfl ?_
    repeat refine vs ?_
    conv => whnf
    refine CallS.mk _ rfl false false _ (dP) rfl ?_
    repeat refine vs ?_
    conv => whnf
    refine ⟨(k - 1, shStep x o c), by dsimp only; omega, ⟨by dsimp only; omega, by dsimp only; omega, ?_, hsl, ?_, ?_⟩, ?_⟩
    · dsimp only
      rw [show (k - 1 + 1).toNat = k.toNat by omega, show fs.length - k.toNat = fs.length - (k.toNat + 1) + 1 by omega]
      exact hst
    · dsimp only
      rw [show (k - 1 + 1).toNat = k.toNat by omega]
      omega
    · dsimp only
      rw [show (k - 1 + 1).toNat = k.toNat by omega]
      exact hinv2
    · refine Wk.le ?_
      repeat' (first | exact LeT.nil | refine LeT.drop1 ?_ | refine LeT.same1 ?_ | refine LeT.own1 ?_ | refine LeT.ownR ?_ | (refine LeT.deepR ?_ rfl))
  · have : k = -1 := by omega
    subst this
    have hvv : o = shiftF fs x := by rw [← hinv]; rfl
    rw [hvv]
    repeat refine vs ?_
    conv => whnf
    refine CallS.mk _ rfl false false _ (dF) rfl ?_
    repeat refine vs ?_
    conv => whnf
    first | rfl | exact ⟨rfl, rfl⟩ | exact ⟨by simp [toRes], rfl⟩
end
end Go.Vx
end
section
/- BudanCount. -/
namespace Go.Vx
open Go.Proofs
set_option maxRecDepth 100000

noncomputable def leQ (a b : RawQ) : Bool := decide (Lm.num a.n a.l * Lm.num b.p b.q ≤ Lm.num b.n b.l * Lm.num a.p a.q)
noncomputable def betw (rs : List RawQ) (a b : RawQ) : Bool := rootsQ rs && (okQ 4 a && (okQ 4 b && leQ a b))
theorem leQ_qF (x y : Int × Int) : leQ (qF x) (qF y) = decide (x.1 * y.2 ≤ y.1 * x.2) := by
  unfold leQ qF
  simp only [Lm.num_lim]
abbrev ratQ (r : RawQ) : PV := ratR r.n r.l r.p r.q
theorem l5Between_den (rs : List RawQ) (a b : RawQ) (hrs : shortP 1000000000000 rs) (ha1 : a.l.length ≤ 1000000000000) (ha2 : a.q.length ≤ 1000000000000) (hb1 : b.l.length ≤ 1000000000000) (hb2 : b.q.length ≤ 1000000000000) :
    D 155 [polQ rs, ratQ a, ratQ b] true (.one (bP (betw rs a b))) := by
  have gS := rootsS_den rs hrs
  have pa := l5Place_den a ha1 ha2
  have pb := l5Place_den b hb1 hb2
  unfold betw
  refine go Tryz.func155 rfl rfl ?_
  cases h1 : rootsQ rs with
  | false =>
    rw [h1] at gS
    repeat refine vs ?_
    conv => whnf
    refine CallS.mk _ rfl true true _ (gS) rfl ?_
    repeat refine vs ?_
    conv => whnf
    first | rfl | exact ⟨rfl, rfl⟩ | exact ⟨by simp [toRes], rfl⟩
  | true =>
    rw [h1] at gS
    cases h2 : okQ 4 a with
    | false =>
      rw [h2] at pa
      repeat refine vs ?_
      conv => whnf
      refine CallS.mk _ rfl true true _ (gS) rfl ?_
      repeat refine vs ?_
      conv => whnf
      refine CallS.mk _ rfl true true _ (pa) rfl ?_
      repeat refine vs ?_
      conv => whnf
      first | rfl | exact ⟨rfl, rfl⟩ | exact ⟨by simp [toRes], rfl⟩
    | true =>
      rw [h2] at pa
      cases h3 : okQ 4 b with
      | false =>
        rw [h3] at pb
        repeat refine vs ?_
        conv => whnf
        refine CallS.mk _ rfl true true _ (gS) rfl ?_
        repeat refine vs ?_
        conv => whnf
        refine CallS.mk _ rfl true true _ (pa) rfl ?_
        repeat refine vs ?_
        conv => whnf
        refine CallS.mk _ rfl true true _ (pb) rfl ?_
        repeat refine vs ?_
        conv => whnf
        first | rfl | exact ⟨rfl, rfl⟩ | exact ⟨by simp [toRes], rfl⟩
      | true =>
        rw [h3] at pb
        obtain ⟨x, rfl, hx⟩ := okQ_ex h2
        obtain ⟨y, rfl, hy⟩ := okQ_ex h3
        have dC := l2Cmp_den x.1 x.2 y.1 y.2 (by have := hx.1.1; omega) (by have := hy.1.1; omega) (Nat.le_trans hx.1.2.1 (by omega)) (Nat.le_trans hx.1.2.2 (by omega)) (Nat.le_trans hy.1.2.1 (by omega)) (Nat.le_trans hy.1.2.2 (by omega))
        rw [leQ_qF]
        have hc : (cmpI (x.1 * y.2) (y.1 * x.2) ≤ 0) ↔ x.1 * y.2 ≤ y.1 * x.2 := by unfold cmpI; split <;> (try split) <;> omega
        by_cases h4 : x.1 * y.2 ≤ y.1 * x.2
        · have h5 := hc.2 h4
          rw [decide_eq_true h4]
          repeat refine vs ?_
          conv => whnf
          refine CallS.mk _ rfl true true _ (gS) rfl ?_
          repeat refine vs ?_
          conv => whnf
          refine CallS.mk _ rfl true true _ (pa) rfl ?_
          repeat refine vs ?_
          conv => whnf
          refine CallS.mk _ rfl true true _ (pb) rfl ?_
          repeat refine vs ?_
          conv => whnf
          refine CallS.mk _ rfl true true _ (dC) rfl ?_
          repeat refine vs ?_
          conv => whnf
          first | rfl | exact ⟨rfl, rfl⟩ | exact ⟨by simp [toRes], rfl⟩
        · have h5 : ¬ cmpI (x.1 * y.2) (y.1 * x.2) ≤ 0 := fun h => h4 (hc.1 h)
          rw [decide_eq_false h4]
          repeat refine vs ?_
          conv => whnf
          refine CallS.mk _ rfl true true _ (gS) rfl ?_
          repeat refine vs ?_
          conv => whnf
          refine CallS.mk _ rfl true true _ (pa) rfl ?_
          repeat refine vs ?_
          conv => whnf
          refine CallS.mk _ rfl true true _ (pb) rfl ?_
          repeat refine vs ?_
          conv => whnf
          refine CallS.mk _ rfl true true _ (dC) rfl ?_
          repeat refine vs ?_
          conv => whnf
          first | rfl | exact ⟨rfl, rfl⟩ | exact ⟨by simp [toRes], rfl⟩
theorem betw_ex {rs : List RawQ} {a b : RawQ} (h : betw rs a b = true) : ∃ (fs : List (Int × Int)) (x y : Int × Int), rs = fs.map qF ∧ a = qF x ∧ b = qF y ∧ fs.length ≤ 5 ∧ 2 ≤ fs.length ∧ (∀ f ∈ fs, lowT 1 f) ∧ (∀ f, fs.getLast? = some f → f.1 ≠ 0) ∧ lowT 4 x ∧ lowT 4 y ∧ x.1 * y.2 ≤ y.1 * x.2 := by
  unfold betw at h
  simp only [Bool.and_eq_true] at h
  obtain ⟨h1, h2, h3, h4⟩ := h
  obtain ⟨fs, rfl, g1, g2, g3, g4⟩ := rootsQ_ex h1
  obtain ⟨x, rfl, hx⟩ := okQ_ex h2
  obtain ⟨y, rfl, hy⟩ := okQ_ex h3
  rw [leQ_qF, decide_eq_true_iff] at h4
  exact ⟨fs, x, y, rfl, rfl, rfl, g1, g2, g3, g4, hx, hy, h4⟩
end Go.Vx
end
