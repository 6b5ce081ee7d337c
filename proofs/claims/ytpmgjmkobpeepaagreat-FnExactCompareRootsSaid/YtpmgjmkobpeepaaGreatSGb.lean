/- Se, Sg, Sf, Sh, Si, Sj, Sk, Sl, Sm -/
import Derived.Test.YtpmgjmkobpeepaaGreatSGa
set_option linter.unusedVariables false
set_option linter.unusedSectionVars false
set_option linter.unusedSimpArgs false
section
/- The numbers: chains of polynomials with bounded coefficients. -/
namespace Sp

/-- Bounded coefficients, bounded length. -/
structure Bd (A : Rat) (n : Nat) (l : List Rat) : Prop where
 coef : ∀ c ∈ l, ab c ≤ A
 len : l.length ≤ n
/-- The numbers that all bounds are made of. -/
structure Nums (A a X M : Rat) (n : Nat) : Prop where
 A0 : 0 ≤ A
 a0 : 0 < a
 a1 : a ≤ 1
 X1 : 1 ≤ X
 M1 : 1 ≤ M
 hM : A * (4 * X) ^ n ≤ M
theorem pow_one_le {a : Rat} (h : 1 ≤ a) : ∀ n : Nat, 1 ≤ a ^ n
 | 0 => by rw [Rat.pow_zero]; grind
 | n + 1 => by
  rw [Rat.pow_succ]
  have := mul_le_mul' (pow_one_le h n) h (by grind) (by have := pow_one_le h n; grind)
  grind
theorem pow_mono {a : Rat} (h : 1 ≤ a) {m n : Nat} (hmn : m ≤ n) : a ^ m ≤ a ^ n := by
 obtain ⟨k, rfl⟩ : ∃ k, n = m + k := ⟨n - m, by omega⟩
 rw [pow_add']
 have h1 := pow_one_le h m
 have h2 := pow_one_le h k
 have := Rat.mul_le_mul_of_nonneg_left h2 (show 0 ≤ a ^ m by grind)
 grind
theorem Bd.le {A a X M : Rat} {n : Nat} (N : Nums A a X M n) {l : List Rat} (h : Bd A n l) : A * (4 * X) ^ l.length ≤ M := by
 have h1 := pow_mono (a := 4 * X) (by have := N.X1; grind) h.len
 have := Rat.mul_le_mul_of_nonneg_left h1 N.A0
 have := N.hM
 grind
theorem Bd.fn {A a X M : Rat} {n : Nat} (N : Nums A a X M n) {l : List Rat} (h : Bd A n l) : Fn X M (ev l) := (poly_fn N.A0 N.X1 h.coef).mono (h.le N)
theorem Bd.der {A a X M : Rat} {n : Nat} (N : Nums A a X M n) {l : List Rat} (h : Bd A n l) : ∀ x, ab x ≤ X → ab (ev (der l) x) ≤ M := fun x hx => by
 have := (poly_bnd N.A0 N.X1 l h.coef).2.1 x hx
 have := h.le N
 grind
theorem Bd.der2 {A a X M : Rat} {n : Nat} (N : Nums A a X M n) {l : List Rat} (h : Bd A n l) : ∀ x y, ab x ≤ X → ab y ≤ X → ab (ev l y - ev l x - ev (Sp.der l) x * (y - x)) ≤ M * (ab (y - x) * ab (y - x)) := fun x y hx hy => by
 have h1 := (poly_bnd N.A0 N.X1 l h.coef).2.2.2 x y hx hy
 have h2 := Rat.mul_le_mul_of_nonneg_right (h.le N) (show 0 ≤ ab (y - x) * ab (y - x) from Rat.mul_nonneg (ab_nonneg _) (ab_nonneg _))
 grind
/-- Lower bounds after so many of Euclid's steps. -/
def lowE (a M : Rat) : Nat → Rat
 | 0 => a
 | k + 1 => a * lowE a M k / (2 * M)
theorem lowE_pos {A a X M : Rat} {n : Nat} (N : Nums A a X M n) : ∀ k, 0 < lowE a M k
 | 0 => N.a0
 | k + 1 => by
  have h1 := Rat.mul_pos N.a0 (lowE_pos N k)
  have hM := N.M1
  show 0 < a * lowE a M k / (2 * M)
  have h3 : a * lowE a M k / (2 * M) * (2 * M) = a * lowE a M k := Rat.div_mul_cancel (by grind)
  rcases tri (a * lowE a M k / (2 * M)) 0 with t | t | t
  ·have := mul_np t (show 0 < 2 * M by grind)
   grind
  ·rw [t, Rat.zero_mul] at h3; grind
  ·exact t
theorem lowE_eq {A a X M : Rat} {n : Nat} (N : Nums A a X M n) (k : Nat) : lowE a M (k + 1) * (2 * M) = a * lowE a M k := Rat.div_mul_cancel (by have := N.M1; grind)
theorem lowE_step {A a X M : Rat} {n : Nat} (N : Nums A a X M n) (k : Nat) : lowE a M (k + 1) ≤ lowE a M k ∧ M * lowE a M (k + 1) + lowE a M (k + 1) ≤ a * lowE a M k := by
 have h1 := lowE_eq N k
 have h2 := lowE_pos N k
 have h3 := lowE_pos N (k + 1)
 have hM := N.M1
 have e1 : lowE a M (k + 1) ≤ lowE a M (k + 1) * M := by
  have := Rat.mul_le_mul_of_nonneg_left hM (show 0 ≤ lowE a M (k + 1) by grind)
  grind
 have e2 : a * lowE a M k ≤ lowE a M k := by
  have := Rat.mul_le_mul_of_nonneg_right N.a1 (show 0 ≤ lowE a M k by grind)
  grind
 exact ⟨by grind, by grind⟩
theorem lowE_mono {A a X M : Rat} {n : Nat} (N : Nums A a X M n) {k m : Nat} (h : k ≤ m) : lowE a M m ≤ lowE a M k := by
 induction m with
 | zero => rw [show k = 0 by omega]; grind
 | succ m ih =>
  by_cases e : k = m + 1
  ·rw [e]; grind
  ·have h1 := ih (by omega)
   have h2 := (lowE_step N m).1
   grind
/-- A chain of polynomials. -/
inductive LC (A a : Rat) (n : Nat) : List Rat → List Rat → List (List Rat) → Prop
 | last (c0 c1 : List Rat) (b0 : Bd A n c0) (b1 : Bd A n c1) (k : Rat) (hk : a ≤ ab k) (hc : ∀ x, ev c1 x = k) : LC A a n c0 c1 []
 | step (c0 c1 c2 : List Rat) (rest : List (List Rat)) (b0 : Bd A n c0) (b1 : Bd A n c1) (Q : List Rat) (bQ : Bd A n Q) (al : Rat) (hal : a ≤ al) (rel : ∀ x, ev c0 x = ev Q x * ev c1 x - al * ev c2 x) (hr : LC A a n c1 c2 rest) : LC A a n c0 c1 (c2 :: rest)
theorem LC.cop {A a X M : Rat} {n : Nat} (N : Nums A a X M n) : ∀ {l : List (List Rat)} {c0 c1 : List Rat}, LC A a n c0 c1 l → Cop X (lowE a M l.length) (ev c0) (ev c1)
 | [], c0, c1, h => by
  cases h with
  | last _ _ b0 b1 k hk hc => exact fun x _ => .inr (by rw [hc x]; exact hk)
 | c2 :: l, c0, c1, h => by
  cases h with
  | step _ _ _ _ b0 b1 Q bQ al hal rel hr =>
   have ih := LC.cop N hr
   obtain ⟨s1, s2⟩ := lowE_step N l.length
   exact Cop.euclid (by have := N.M1; grind) s1 s2 N.a0 (ev Q) al hal (fun x hx => (bQ.fn N).bnd x hx) rel ih (lowE_pos N _)
theorem LC.ch {A a X M : Rat} {n : Nat} (N : Nums A a X M n) {e : Rat} : ∀ {l : List (List Rat)} {c0 c1 : List Rat}, LC A a n c0 c1 l → e ≤ lowE a M l.length → Ch X M a e (ev c0) (ev c1) (l.map ev)
 | [], c0, c1, h, he => by
  have hc0 := (h.cop N).mono he
  cases h with
  | last _ _ b0 b1 k hk hc => exact .last _ _ (b0.fn N) (b1.fn N) k (fun h0 => by have := N.a0; rw [h0, ab_zero] at hk; grind) hc hc0
 | c2 :: l, c0, c1, h, he => by
  have hc0 := (h.cop N).mono he
  cases h with
  | step _ _ _ _ b0 b1 Q bQ al hal rel hr =>
   have hs := (lowE_step N l.length).1
   exact .step _ _ _ _ (b0.fn N) (b1.fn N) (ev Q) al (fun x hx => (bQ.fn N).bnd x hx) hal rel hc0 (LC.ch N hr (by have : lowE a M (c2 :: l).length = lowE a M (l.length + 1) := rfl; grind))
theorem LC.bd {A a : Rat} {n : Nat} {l : List (List Rat)} {c0 c1 : List Rat} (h : LC A a n c0 c1 l) : Bd A n c0 ∧ Bd A n c1 := by cases h <;> exact ⟨by assumption, by assumption⟩
theorem LC.top {A a X M : Rat} {n : Nat} (N : Nums A a X M n) {e : Rat} {l : List (List Rat)} {c0 c1 : List Rat} (h : LC A a n c0 c1 l) (he : e ≤ lowE a M l.length) (hd : ∀ x, ev c1 x = ev (der c0) x) : Top X M a e (ev c0) (ev c1) (l.map ev) :=
 ⟨h.ch N he, fun x y hx hy => by rw [hd x]; exact h.bd.1.der2 N x y hx hy⟩
/-- Factors of a square-free polynomial, by numbers. -/
theorem cop_parts {A a X M : Rat} {n : Nat} (N : Nums A a X M n) {e e2 : Rat} {P G H : List Rat} (hP : ∀ x, ev P x = ev G x * ev H x) (bG : Bd A n G) (bH : Bd A n H) (hc : Cop X e (ev P) (ev (der P))) (he : e2 * (2 * M) ≤ e) : Cop X e2 (ev G) (ev H) := by
 intro x hx
 by_cases h1 : e2 ≤ ab (ev G x)
 ·exact .inl h1
 ·by_cases h2 : e2 ≤ ab (ev H x)
  ·exact .inr h2
  ·exfalso
   have hM := N.M1
   have g1 := (bG.fn N).bnd x hx
   have g2 := bG.der N x hx
   have k1 := (bH.fn N).bnd x hx
   have k2 := bH.der N x hx
   have n1 := ab_nonneg (ev G x)
   have n2 := ab_nonneg (ev H x)
   have d : ev (der P) x = ev (der G) x * ev H x + ev G x * ev (der H) x := by
    have := der_eq (p := P) (q := mul G H) (fun y => by rw [hP y, ev_mul]) x
    rw [this, ev_der_mul]
   have lt1 : M * ab (ev H x) < M * e2 := Rat.mul_lt_mul_of_pos_left (by grind) (by grind)
   have lt2 : M * ab (ev G x) < M * e2 := Rat.mul_lt_mul_of_pos_left (by grind) (by grind)
   have pe : 0 ≤ M * e2 := Rat.mul_nonneg (by grind) (by grind)
   rcases hc x hx with h | h
   ·rw [hP x, ab_mul] at h
    have := mul_le_mul' g1 (show ab (ev H x) ≤ ab (ev H x) by grind) n1 n2
    grind
   ·rw [d] at h
    have a1 := ab_add (ev (der G) x * ev H x) (ev G x * ev (der H) x)
    rw [ab_mul, ab_mul] at a1
    have a2 := mul_le_mul' g2 (show ab (ev H x) ≤ ab (ev H x) by grind) (ab_nonneg _) n2
    have a3 := mul_le_mul' (show ab (ev G x) ≤ ab (ev G x) by grind) k2 n1 (by grind)
    grind
/-- Euclid's steps down to a multiple of G. -/
inductive EC (A a : Rat) (n : Nat) (G : List Rat) : List Rat → List Rat → Nat → Prop
 | last (r0 r1 : List Rat) (k : Rat) (hk : a ≤ ab k) (h : ∀ x, ev r1 x = k * ev G x) : EC A a n G r0 r1 0
 | step (r0 r1 r2 : List Rat) (m : Nat) (Q : List Rat) (bQ : Bd A n Q) (al : Rat) (hal : a ≤ al) (rel : ∀ x, ev r0 x = ev Q x * ev r1 x - al * ev r2 x) (hr : EC A a n G r1 r2 m) : EC A a n G r0 r1 (m + 1)
theorem EC.cop {A a X M : Rat} {n : Nat} (N : Nums A a X M n) {G : List Rat} (hG : Nz G) : ∀ {m : Nat} {r0 r1 : List Rat}, EC A a n G r0 r1 m → ∀ s0 s1 : List Rat, (∀ x, ev r0 x = ev G x * ev s0 x) → (∀ x, ev r1 x = ev G x * ev s1 x) → Cop X (lowE a M m) (ev s0) (ev s1)
 | 0, r0, r1, h, s0, s1, h0, h1 => by
  cases h with
  | last _ _ k hk h =>
   have := cancel hG (a := s1) (b := [k]) fun x => by rw [← h1 x, h x, ev_cons, ev_nil]; grind
   exact fun x _ => .inr (by rw [this x, ev_cons, ev_nil, show k + x * 0 = k by grind]; exact hk)
 | m + 1, r0, r1, h, s0, s1, h0, h1 => by
  cases h with
  | step _ _ r2 _ Q bQ al hal rel hr =>
   have hal0 : al ≠ 0 := by have := N.a0; grind
   have e1 : 1 / al * al = 1 := Rat.div_mul_cancel hal0
   have hs2 : ∀ x, ev r2 x = ev G x * ev (smul (1 / al) (sub (mul Q s1) s0)) x := fun x => by
    have r := rel x
    rw [h0 x, h1 x] at r
    rw [ev_smul, ev_sub, ev_mul]
    generalize 1 / al = t at *
    have : ev r2 x = t * al * ev r2 x := by rw [e1]; grind
    grind
   have ih := EC.cop N hG hr s1 _ h1 hs2
   obtain ⟨q1, q2⟩ := lowE_step N m
   refine Cop.euclid (by have := N.M1; grind) q1 q2 N.a0 (ev Q) al hal (fun x hx => (bQ.fn N).bnd x hx) (fun x => ?_) ih (lowE_pos N _)
   rw [ev_smul, ev_sub, ev_mul]
   generalize 1 / al = t at *
   have : al * (t * (ev Q x * ev s1 x - ev s0 x)) = t * al * (ev Q x * ev s1 x - ev s0 x) := by grind
   rw [this, e1]; grind
end Sp
end
section
/- Two polynomials and their common part: what their counts do. -/
namespace Sp

/-- A square-free polynomial with its chain, by numbers. -/
structure Pol (A a : Rat) (n k : Nat) (P P1 : List Rat) (l : List (List Rat)) : Prop where
 lc : LC A a n P P1 l
 der : ∀ x, ev P1 x = ev (Sp.der P) x
 len : l.length ≤ k
/-- Changes of a chain of polynomials. -/
def W (P P1 : List Rat) (l : List (List Rat)) (x : Rat) : Nat := V (ev P :: ev P1 :: l.map ev) x
theorem Pol.top {A a X M : Rat} {n k : Nat} (N : Nums A a X M n) {P P1 : List Rat} {l : List (List Rat)} (h : Pol A a n k P P1 l) {e : Rat} (he : e ≤ lowE a M k) : Top X M a e (ev P) (ev P1) (l.map ev) :=
 h.lc.top N (by have := lowE_mono N h.len; grind) h.der
/-- What the counts of two polynomials and of their common part do. -/
structure Counts (X d : Rat) (p q g : Rat → Nat) (fp fq fg : Rat → Rat) : Prop where
 monoP : ∀ x y, ab x ≤ X → ab y ≤ X → x ≤ y → p y ≤ p x
 monoQ : ∀ x y, ab x ≤ X → ab y ≤ X → x ≤ y → q y ≤ q x
 monoG : ∀ x y, ab x ≤ X → ab y ≤ X → x ≤ y → g y ≤ g x
 rootP : ∀ x y, ab x ≤ X → ab y ≤ X → x < y → fp y = 0 → p y < p x
 rootQ : ∀ x y, ab x ≤ X → ab y ≤ X → x < y → fq y = 0 → q y < q x
 rootG : ∀ x y, ab x ≤ X → ab y ≤ X → x < y → fg y = 0 → g y < g x
 leP : ∀ x y, ab x ≤ X → ab y ≤ X → x ≤ y → g x + p y ≤ p x + g y
 leQ : ∀ x y, ab x ≤ X → ab y ≤ X → x ≤ y → g x + q y ≤ q x + g y
 both : ∀ x y, ab x ≤ X → ab y ≤ X → x < y → y - x ≤ d → p y < p x → q y < q x → g y < g x
theorem counts {A a X M d : Rat} {n k m : Nat} (N : Nums A a X M n) (hs : Small M a (lowE a M (k + 1)) d) (hd : 0 < d) {P P1 Q Q1 G G1 H K : List Rat} {lp lq lg : List (List Rat)} (pP : Pol A a n k P P1 lp) (pQ : Pol A a n k Q Q1 lq) (pG : Pol A a n k G G1 lg)
  (hG : Nz G) (hP : ∀ x, ev P x = ev G x * ev H x) (hQ : ∀ x, ev Q x = ev G x * ev K x) (bH : Bd A n H) (bK : Bd A n K) (ec : EC A a n G P Q m) (hm : m ≤ k) :
  Counts X d (W P P1 lp) (W Q Q1 lq) (W G G1 lg) (ev P) (ev Q) (ev G) := by
 have hk := (lowE_step N k).1
 have tP := pP.top N hk
 have tQ := pQ.top N hk
 have tG := pG.top N hk
 have e2 : lowE a M (k + 1) * (2 * M) ≤ lowE a M k := by
  rw [lowE_eq N k]
  have := Rat.mul_le_mul_of_nonneg_right N.a1 (show 0 ≤ lowE a M k by have := lowE_pos N k; grind)
  grind
 have dcop : ∀ {R R1 : List Rat} {l : List (List Rat)}, Pol A a n k R R1 l → Cop X (lowE a M k) (ev R) (ev (der R)) := by
  intro R R1 l h
  have h1 := (h.lc.cop N).mono (lowE_mono N h.len)
  exact fun x hx => by have := h1 x hx; rw [h.der x] at this; exact this
 have cGH := cop_parts N hP pG.lc.bd.1 bH (dcop pP) e2
 have cGK := cop_parts N hQ pG.lc.bd.1 bK (dcop pQ) e2
 have cHK := (EC.cop N hG ec H K hP hQ).mono (show lowE a M (k + 1) ≤ lowE a M m by have := lowE_mono N hm; grind)
 exact {
  monoP := fun x y hx hy h => tP.mono hs hd hx hy h
  monoQ := fun x y hx hy h => tQ.mono hs hd hx hy h
  monoG := fun x y hx hy h => tG.mono hs hd hx hy h
  rootP := fun x y hx hy h h0 => tP.root hs hd hx hy h h0
  rootQ := fun x y hx hy h h0 => tQ.root hs hd hx hy h h0
  rootG := fun x y hx hy h h0 => tG.root hs hd hx hy h h0
  leP := fun x y hx hy h => count_le hs hd tP tG (bH.fn N) hP cGH hx hy h
  leQ := fun x y hx hy h => count_le hs hd tQ tG (bK.fn N) hQ cGK hx hy h
  both := fun x y hx hy h h1 h2 h3 => both_fall hs tP tQ tG (bH.fn N) (bK.fn N) hP hQ cHK hx hy h h1 h2 h3 }
end Sp
end
section
/- Heights: coefficients over one denominator. -/
namespace Sp

/-- Over the denominator D the numbers are integers of at most s bits. -/
def HtD (D : Int) (s : Nat) (l : List Rat) : Prop := ∀ c ∈ l, ∃ n : Int, n.natAbs ≤ 2 ^ s ∧ c * (D : Rat) = (n : Rat)
def Ht (s : Nat) (l : List Rat) : Prop := ∃ D : Int, D ≠ 0 ∧ D.natAbs ≤ 2 ^ s ∧ HtD D s l
theorem HtD.mono {D : Int} {s t : Nat} {l : List Rat} (h : HtD D s l) (hs : s ≤ t) : HtD D t l := fun c hc => by
 obtain ⟨n, h1, h2⟩ := h c hc
 exact ⟨n, Nat.le_trans h1 (Nat.pow_le_pow_right (by omega) hs), h2⟩
theorem Ht.mono {s t : Nat} {l : List Rat} (h : Ht s l) (hs : s ≤ t) : Ht t l := by
 obtain ⟨D, h1, h2, h3⟩ := h
 exact ⟨D, h1, Nat.le_trans h2 (Nat.pow_le_pow_right (by omega) hs), h3.mono hs⟩
theorem ab_int (n : Int) : ab (n : Rat) = ((n.natAbs : Nat) : Rat) := by
 rcases Int.natAbs_eq n with h | h
 ·rw [show ab (n : Rat) = (n : Rat) from ab_nn (by
   have : ((0 : Int) : Rat) ≤ (n : Rat) := Rat.intCast_le_intCast.2 (by omega)
   exact this)]
  have : (n : Rat) = (((n.natAbs : Nat) : Int) : Rat) := by rw [← h]
  rw [this]; rfl
 ·rw [show ab (n : Rat) = -(n : Rat) from ab_nonpos (by
   have : (n : Rat) ≤ ((0 : Int) : Rat) := Rat.intCast_le_intCast.2 (by omega)
   exact this)]
  have : -(n : Rat) = (((n.natAbs : Nat) : Int) : Rat) := by
   rw [← Rat.intCast_neg]; congr 1; omega
  rw [this]; rfl
theorem nat_le {m n : Nat} (h : m ≤ n) : (m : Rat) ≤ (n : Rat) := Rat.natCast_le_natCast.2 h
theorem one_le_int {D : Int} (h : D ≠ 0) : 1 ≤ ab (D : Rat) := by
 rw [ab_int]
 exact nat_le (m := 1) (by omega)
/-- From above. -/
theorem Ht.abs {s : Nat} {l : List Rat} (h : Ht s l) {c : Rat} (hc : c ∈ l) : ab c ≤ ((2 ^ s : Nat) : Rat) := by
 obtain ⟨D, h1, h2, h3⟩ := h
 obtain ⟨n, h4, h5⟩ := h3 c hc
 have k1 : ab c * ab (D : Rat) = ab (n : Rat) := by rw [← ab_mul, h5]
 have k2 := one_le_int h1
 have k3 : ab (n : Rat) ≤ ((2 ^ s : Nat) : Rat) := by rw [ab_int]; exact nat_le h4
 have k4 := Rat.mul_le_mul_of_nonneg_left k2 (ab_nonneg c)
 grind
/-- From below. -/
theorem Ht.low {s : Nat} {l : List Rat} (h : Ht s l) {c : Rat} (hc : c ∈ l) (h0 : c ≠ 0) : 1 ≤ ab c * ((2 ^ s : Nat) : Rat) := by
 obtain ⟨D, h1, h2, h3⟩ := h
 obtain ⟨n, h4, h5⟩ := h3 c hc
 have hD : (D : Rat) ≠ 0 := fun e => h1 (Rat.intCast_inj.1 e)
 have hn : n ≠ 0 := fun e => by
  rw [e] at h5
  rcases Rat.mul_eq_zero.1 h5 with h | h
  ·exact h0 h
  ·exact hD h
 have k1 : ab c * ab (D : Rat) = ab (n : Rat) := by rw [← ab_mul, h5]
 have k2 := one_le_int hn
 have k3 : ab (D : Rat) ≤ ((2 ^ s : Nat) : Rat) := by rw [ab_int]; exact nat_le h2
 have k4 := Rat.mul_le_mul_of_nonneg_left k3 (ab_nonneg c)
 grind
/-- One member, one step of a division: al is the leading one, be that of the divisor, b the divisor's member. -/
theorem elim_one {D E : Int} {s t : Nat} {c al be b : Rat} (hE : E ≠ 0) {n nal nbe nb : Int} (hc : c * (D : Rat) = n) (hal : al * (D : Rat) = nal) (hbe : be * (E : Rat) = nbe) (hb : b * (E : Rat) = nb) (hn0 : nbe ≠ 0)
  (h1 : n.natAbs ≤ 2 ^ s) (h2 : nal.natAbs ≤ 2 ^ s) (h3 : nbe.natAbs ≤ 2 ^ t) (h4 : nb.natAbs ≤ 2 ^ t) :
  (n * nbe - nal * nb).natAbs ≤ 2 ^ (s + t + 1) ∧ (c - al / be * b) * ((D * nbe : Int) : Rat) = ((n * nbe - nal * nb : Int) : Rat) := by
 constructor
 ·have a1 : (n * nbe).natAbs ≤ 2 ^ s * 2 ^ t := by rw [Int.natAbs_mul]; exact Nat.mul_le_mul h1 h3
  have a2 : (nal * nb).natAbs ≤ 2 ^ s * 2 ^ t := by rw [Int.natAbs_mul]; exact Nat.mul_le_mul h2 h4
  rw [Nat.pow_succ, Nat.pow_add]
  omega
 ·have hE' : (E : Rat) ≠ 0 := fun e => hE (Rat.intCast_inj.1 e)
  have hbe0 : be ≠ 0 := fun e => by
   rw [e, Rat.zero_mul] at hbe
   exact hn0 (Rat.intCast_inj.1 hbe.symm)
  have e3 : al / be * be = al := Rat.div_mul_cancel hbe0
  rw [Rat.intCast_mul, Rat.intCast_sub, Rat.intCast_mul, Rat.intCast_mul]
  generalize al / be = q at *
  rw [← hc, ← hal, ← hbe, ← hb, ← e3]
  grind
end Sp
end
section
/- Heights of a division. -/
namespace Sp

def subQ : List Rat → Nat → Rat → List Rat → List Rat
 | out, _, _, [] => out
 | out, j, d, b :: q => subQ (out.set j (out.getD j 0 - d * b)) (j + 1) d q
def divQ (q : List Rat) : Nat → List Rat × List Rat → List Rat × List Rat
 | 0, s => s
 | i + 1, s => divQ q i (s.1.set i (s.2.getD (i + q.length - 1) 0 / q.getD (q.length - 1) 0), subQ s.2 i (s.2.getD (i + q.length - 1) 0 / q.getD (q.length - 1) 0) q)
theorem getD_drop (l : List Rat) (j : Nat) : l.getD j 0 = 0 ∨ l.getD j 0 ∈ l.drop j := by
 rw [List.getD]
 cases h : l[j]? with
 | none => exact .inl rfl
 | some x =>
  refine .inr ?_
  refine List.mem_of_getElem? (i := 0) ?_
  rw [List.getElem?_drop, Nat.add_zero, h]
  rfl
theorem subQ_mem : ∀ {q out : List Rat} {j : Nat} {d c : Rat}, c ∈ subQ out j d q → c ∈ out ∨ ∃ c0 b, (c0 = 0 ∨ c0 ∈ out.drop j) ∧ b ∈ q ∧ c = c0 - d * b
 | [], out, j, d, c, h => .inl h
 | b :: q, out, j, d, c, h => by
  rw [subQ] at h
  rcases subQ_mem h with h | ⟨c0, b0, h1, h2, h3⟩
  ·rcases List.mem_or_eq_of_mem_set h with h | h
   ·exact .inl h
   ·exact .inr ⟨out.getD j 0, b, getD_drop out j, List.mem_cons_self, h⟩
  ·refine .inr ⟨c0, b0, ?_, List.mem_cons_of_mem _ h2, h3⟩
   rcases h1 with h1 | h1
   ·exact .inl h1
   ·rw [List.drop_set_of_lt (by omega)] at h1
    refine .inr ?_
    have : out.drop (j + 1) = (out.drop j).drop 1 := by rw [List.drop_drop]
    rw [this] at h1
    exact List.mem_of_mem_drop h1
theorem HtD.zero {D : Int} {s : Nat} : ∃ n : Int, n.natAbs ≤ 2 ^ s ∧ (0 : Rat) * (D : Rat) = (n : Rat) := ⟨0, by simp, by rw [Rat.zero_mul]; rfl⟩
theorem HtD.getD {D : Int} {s : Nat} {l : List Rat} (h : HtD D s l) (j : Nat) : ∃ n : Int, n.natAbs ≤ 2 ^ s ∧ l.getD j 0 * (D : Rat) = (n : Rat) := by
 rcases getD_drop l j with e | e
 ·rw [e]; exact HtD.zero
 ·exact h _ (List.mem_of_mem_drop e)
/-- A division: rest and quotient over one denominator. -/
theorem divQ_ht {q : List Rat} {E : Int} {t : Nat} (hE : E ≠ 0) (hE2 : E.natAbs ≤ 2 ^ t) (hq : HtD E t q) (h0 : q.getD (q.length - 1) 0 ≠ 0) :
  ∀ {i s : Nat} {D : Int} {x : List Rat × List Rat}, D ≠ 0 → D.natAbs ≤ 2 ^ s → HtD D s x.1 → HtD D s x.2 →
   ∃ D' : Int, D' ≠ 0 ∧ D'.natAbs ≤ 2 ^ (s + i * (t + 1)) ∧ HtD D' (s + i * (t + 1)) (divQ q i x).1 ∧ HtD D' (s + i * (t + 1)) (divQ q i x).2
 | 0, s, D, x, h1, h2, h3, h4 => ⟨D, h1, by simpa using h2, by simpa [divQ] using h3, by simpa [divQ] using h4⟩
 | i + 1, s, D, x, h1, h2, h3, h4 => by
  obtain ⟨nbe, hb1, hb2⟩ := hq.getD (q.length - 1)
  obtain ⟨nal, ha1, ha2⟩ := h4.getD (i + q.length - 1)
  generalize hbe : q.getD (q.length - 1) 0 = be at *
  generalize hal : x.2.getD (i + q.length - 1) 0 = al at *
  have hE' : (E : Rat) ≠ 0 := fun e => hE (Rat.intCast_inj.1 e)
  have hn0 : nbe ≠ 0 := fun e => by
   rw [e] at hb2
   rcases Rat.mul_eq_zero.1 hb2 with h | h
   ·exact h0 h
   ·exact hE' h
  have hup : ∀ {c : Rat} {n : Int}, n.natAbs ≤ 2 ^ s → c * (D : Rat) = n → ∃ m : Int, m.natAbs ≤ 2 ^ (s + (t + 1)) ∧ c * ((D * nbe : Int) : Rat) = (m : Rat) := by
   intro c n k1 k2
   refine ⟨n * nbe, ?_, ?_⟩
   ·rw [Int.natAbs_mul]
    refine Nat.le_trans (Nat.mul_le_mul k1 hb1) ?_
    rw [← Nat.pow_add]
    exact Nat.pow_le_pow_right (by omega) (by omega)
   ·rw [Rat.intCast_mul, Rat.intCast_mul, ← k2]; grind
  have key := divQ_ht hE hE2 hq (by rw [hbe]; exact h0) (i := i) (s := s + (t + 1)) (D := D * nbe)
   (x := (x.1.set i (al / be), subQ x.2 i (al / be) q)) (Int.mul_ne_zero h1 hn0)
   (by
    rw [Int.natAbs_mul]
    refine Nat.le_trans (Nat.mul_le_mul h2 hb1) ?_
    rw [← Nat.pow_add]
    exact Nat.pow_le_pow_right (by omega) (by omega))
   (by
    intro c hc
    rcases List.mem_or_eq_of_mem_set hc with hc | hc
    ·obtain ⟨n, k1, k2⟩ := h3 c hc
     exact hup k1 k2
    ·refine ⟨nal * E, ?_, ?_⟩
     ·rw [Int.natAbs_mul]
      refine Nat.le_trans (Nat.mul_le_mul ha1 hE2) ?_
      rw [← Nat.pow_add]
      exact Nat.pow_le_pow_right (by omega) (by omega)
     ·rw [hc, Rat.intCast_mul, Rat.intCast_mul, ← ha2, ← hb2]
      have e3 : al / be * be = al := Rat.div_mul_cancel h0
      generalize al / be = r at *
      rw [← e3]; grind)
   (by
    intro c hc
    rcases subQ_mem hc with hc | ⟨c0, b, k1, k2, k3⟩
    ·obtain ⟨n, k1, k2⟩ := h4 c hc
     exact hup k1 k2
    ·obtain ⟨nb, m1, m2⟩ := hq b k2
     have : ∃ n : Int, n.natAbs ≤ 2 ^ s ∧ c0 * (D : Rat) = (n : Rat) := by
      rcases k1 with k1 | k1
      ·rw [k1]; exact HtD.zero
      ·exact h4 c0 (List.mem_of_mem_drop k1)
     obtain ⟨n, m3, m4⟩ := this
     have := elim_one hE m4 ha2 hb2 m2 hn0 m3 ha1 hb1 m1
     rw [k3]
     exact ⟨_, by rw [← Nat.add_assoc]; exact this.1, this.2⟩)
  obtain ⟨D', r1, r2, r3, r4⟩ := key
  have e : s + (t + 1) + i * (t + 1) = s + (i + 1) * (t + 1) := by rw [Nat.succ_mul]; omega
  rw [e] at r2 r3 r4
  refine ⟨D', r1, r2, ?_, ?_⟩
  ·rw [divQ, hbe, hal]; exact r3
  ·rw [divQ, hbe, hal]; exact r4
end Sp
end
section
/- Heights of scaled polynomials and derivatives. -/
namespace Sp

theorem HtD.sub {D : Int} {s : Nat} {l k : List Rat} (h : HtD D s l) (hk : ∀ c ∈ k, c ∈ l) : HtD D s k := fun c hc => h c (hk c hc)
theorem Ht.sub {s : Nat} {l k : List Rat} (h : Ht s l) (hk : ∀ c ∈ k, c ∈ l) : Ht s k := by
 obtain ⟨D, h1, h2, h3⟩ := h
 exact ⟨D, h1, h2, h3.sub hk⟩
/-- Divided by one of its own members. -/
theorem Ht.scale {s : Nat} {l : List Rat} (h : Ht s l) {b : Rat} (hb : b ∈ l) (h0 : b ≠ 0) : Ht s (l.map fun c => c / b) := by
 obtain ⟨D, h1, h2, h3⟩ := h
 obtain ⟨n, k1, k2⟩ := h3 b hb
 have hD : (D : Rat) ≠ 0 := fun e => h1 (Rat.intCast_inj.1 e)
 refine ⟨n, fun e => ?_, k1, fun c hc => ?_⟩
 ·rw [e] at k2
  rcases Rat.mul_eq_zero.1 k2 with h | h
  ·exact h0 h
  ·exact hD h
 ·obtain ⟨d, hd, rfl⟩ := List.mem_map.1 hc
  obtain ⟨m, m1, m2⟩ := h3 d hd
  refine ⟨m, m1, ?_⟩
  rw [← k2, ← m2]
  have e3 : d / b * b = d := Rat.div_mul_cancel h0
  generalize d / b = r at *
  rw [← e3]; grind
/-- The same with the sign turned. -/
theorem Ht.scaleN {s : Nat} {l : List Rat} (h : Ht s l) {b : Rat} (hb : b ∈ l) (h0 : b ≠ 0) : Ht s (l.map fun c => c / (-b)) := by
 obtain ⟨D, h1, h2, h3⟩ := h.scale hb h0
 refine ⟨D, h1, h2, fun c hc => ?_⟩
 obtain ⟨d, hd, rfl⟩ := List.mem_map.1 hc
 obtain ⟨m, m1, m2⟩ := h3 (d / b) (List.mem_map.2 ⟨d, hd, rfl⟩)
 refine ⟨-m, by rw [Int.natAbs_neg]; exact m1, ?_⟩
 have e1 : d / b * b = d := Rat.div_mul_cancel h0
 have e2 : d / (-b) * (-b) = d := Rat.div_mul_cancel (fun e => h0 (by grind))
 have e3 : d / (-b) = -(d / b) := by
  generalize d / (-b) = r at *
  generalize d / b = u at *
  have : (r + u) * b = 0 := by grind
  rcases Rat.mul_eq_zero.1 this with h | h
  ·grind
  ·exact absurd h h0
 rw [Rat.intCast_neg, ← m2, e3]
 grind
/-- Members times whole numbers of at most r bits. -/
theorem Ht.times {s r : Nat} {l k : List Rat} (h : Ht s l) (hk : ∀ c ∈ k, ∃ (d : Rat) (n : Int), d ∈ l ∧ n.natAbs ≤ 2 ^ r ∧ c = d * (n : Rat)) : Ht (s + r) k := by
 obtain ⟨D, h1, h2, h3⟩ := h
 refine ⟨D, h1, Nat.le_trans h2 (Nat.pow_le_pow_right (by omega) (by omega)), fun c hc => ?_⟩
 obtain ⟨d, n, k1, k2, k3⟩ := hk c hc
 obtain ⟨m, m1, m2⟩ := h3 d k1
 refine ⟨m * n, ?_, ?_⟩
 ·rw [Int.natAbs_mul]
  refine Nat.le_trans (Nat.mul_le_mul m1 k2) ?_
  rw [← Nat.pow_add]
  exact Nat.le_refl _
 ·rw [Rat.intCast_mul, ← m2, k3]; grind
/-- Two lists over one denominator. -/
theorem Ht.both {s t : Nat} {l k : List Rat} (h : Ht s l) (h' : Ht t k) : Ht (s + t) (l ++ k) := by
 obtain ⟨D, h1, h2, h3⟩ := h
 obtain ⟨E, k1, k2, k3⟩ := h'
 refine ⟨D * E, Int.mul_ne_zero h1 k1, ?_, fun c hc => ?_⟩
 ·rw [Int.natAbs_mul]
  refine Nat.le_trans (Nat.mul_le_mul h2 k2) ?_
  rw [← Nat.pow_add]
  exact Nat.le_refl _
 ·rcases List.mem_append.1 hc with hc | hc
  ·obtain ⟨n, n1, n2⟩ := h3 c hc
   refine ⟨n * E, ?_, ?_⟩
   ·rw [Int.natAbs_mul]
    refine Nat.le_trans (Nat.mul_le_mul n1 k2) ?_
    rw [← Nat.pow_add]
    exact Nat.le_refl _
   ·rw [Rat.intCast_mul, Rat.intCast_mul, ← n2]; grind
  ·obtain ⟨n, n1, n2⟩ := k3 c hc
   refine ⟨D * n, ?_, ?_⟩
   ·rw [Int.natAbs_mul]
    refine Nat.le_trans (Nat.mul_le_mul h2 n1) ?_
    rw [← Nat.pow_add]
    exact Nat.le_refl _
   ·rw [Rat.intCast_mul, Rat.intCast_mul, ← n2]; grind
theorem ht_replicate (n s : Nat) {D : Int} : HtD D s (List.replicate n 0) := fun c hc => by
 rw [(List.mem_replicate.1 hc).2]; exact HtD.zero
/-- The whole division of p by q. -/
theorem Ht.div {p q : List Rat} {s t : Nat} (hp : Ht s p) (hq : Ht t q) (h0 : q.getD (q.length - 1) 0 ≠ 0) (i n : Nat) :
  Ht (s + i * (t + 1)) ((divQ q i (List.replicate n 0, p)).1 ++ (divQ q i (List.replicate n 0, p)).2) := by
 obtain ⟨D, h1, h2, h3⟩ := hp
 obtain ⟨E, k1, k2, k3⟩ := hq
 obtain ⟨D', r1, r2, r3, r4⟩ := divQ_ht k1 k2 k3 h0 (i := i) (x := (List.replicate n 0, p)) h1 h2 (ht_replicate n s) h3
 exact ⟨D', r1, r2, fun c hc => (List.mem_append.1 hc).elim (r3 c) (r4 c)⟩
end Sp
end
section
/- A division's identity. -/
namespace Sp

theorem ev_set (x v : Rat) : ∀ {l : List Rat} {i : Nat}, i < l.length → ev (l.set i v) x = ev l x + (v - l.getD i 0) * x ^ i
 | c :: l, 0, _ => by
  simp only [List.set_cons_zero, ev_cons, List.getD_cons_zero, Rat.pow_zero]
  grind
 | c :: l, i + 1, h => by
  have := ev_set x v (l := l) (i := i) (by simpa using h)
  simp only [List.set_cons_succ, ev_cons, List.getD_cons_succ, Rat.pow_succ]
  rw [this]
  grind
theorem subQ_len : ∀ {q out : List Rat} {j : Nat} {d : Rat}, (subQ out j d q).length = out.length
 | [], _, _, _ => rfl
 | b :: q, out, j, d => by rw [subQ, subQ_len, List.length_set]
theorem subQ_ev (x : Rat) : ∀ {q out : List Rat} {j : Nat} {d : Rat}, j + q.length ≤ out.length → ev (subQ out j d q) x = ev out x - d * x ^ j * ev q x
 | [], out, j, d, _ => by rw [subQ, ev_nil]; grind
 | b :: q, out, j, d, h => by
  simp only [List.length_cons] at h
  rw [subQ, subQ_ev x (by rw [List.length_set]; omega), ev_set x _ (by omega), ev_cons, Rat.pow_succ]
  grind
theorem divQ_ev {q : List Rat} (hq : q ≠ []) (x : Rat) : ∀ {i : Nat} {s : List Rat × List Rat}, i + q.length ≤ s.2.length + 1 → i ≤ s.1.length → (∀ t, t < i → s.1.getD t 0 = 0) →
  ev (divQ q i s).1 x * ev q x + ev (divQ q i s).2 x = ev s.1 x * ev q x + ev s.2 x
 | 0, s, _, _, _ => rfl
 | i + 1, s, h1, h2, h3 => by
  have hl : 0 < q.length := List.length_pos_iff.2 hq
  rw [divQ]
  generalize s.2.getD (i + q.length - 1) 0 / q.getD (q.length - 1) 0 = d
  rw [divQ_ev hq x (i := i) (by dsimp only; rw [subQ_len]; omega) (by dsimp only; rw [List.length_set]; omega) (by
   intro t ht
   dsimp only
   have := h3 t (by omega)
   rw [List.getD] at this ⊢
   rw [List.getElem?_set_ne (by omega)]
   exact this)]
  dsimp only
  rw [ev_set x d (by omega), subQ_ev x (by omega), h3 i (by omega)]
  grind
theorem ev_zeros (x : Rat) : ∀ n : Nat, ev (List.replicate n 0) x = 0
 | 0 => ev_nil x
 | n + 1 => by rw [List.replicate_succ, ev_cons, ev_zeros x n]; grind
/-- p = q times the quotient, and the rest. -/
theorem divQ_eq {p q : List Rat} (hq : q ≠ []) (h : q.length ≤ p.length) (x : Rat) :
  ev p x = ev (divQ q (p.length + 1 - q.length) (List.replicate (p.length + 1 - q.length) 0, p)).1 x * ev q x + ev (divQ q (p.length + 1 - q.length) (List.replicate (p.length + 1 - q.length) 0, p)).2 x := by
 have hl : 0 < q.length := List.length_pos_iff.2 hq
 rw [divQ_ev hq x (by dsimp only; omega) (by simp) (by
  intro t ht
  dsimp only
  rw [List.getD, List.getElem?_replicate]
  split <;> rfl)]
 dsimp only
 rw [ev_zeros]
 grind
end Sp
end
section
/- A common divisor that is a combination: Euclid's steps keep it. -/
namespace Sp

def Gd (g p q : List Rat) : Prop := Dv g p ∧ Dv g q ∧ ∃ u v, ∀ x, ev g x = ev u x * ev p x + ev v x * ev q x
theorem Gd.nil {g p q : List Rat} {c : Rat} (hc : c ≠ 0) (hq : ∀ x, ev q x = 0) (h : ∀ x, ev p x = c * ev g x) : Gd g p q := by
 refine ⟨⟨[c], fun x => ?_⟩, ⟨[], fun x => ?_⟩, [1 / c], [], fun x => ?_⟩
 ·rw [h, ev_cons, ev_nil]; grind
 ·rw [hq, ev_nil]; grind
 ·rw [ev_cons, ev_nil, h]
  have e : 1 / c * c = 1 := Rat.div_mul_cancel hc
  generalize 1 / c = r at *
  have : ev g x = (r * c) * ev g x := by rw [e]; grind
  grind
theorem Gd.step {g p q k r r' : List Rat} {c : Rat} (h1 : ∀ x, ev p x = ev k x * ev q x + ev r x) (h2 : ∀ x, ev r x = c * ev r' x) (hc : c ≠ 0) (h : Gd g q r') : Gd g p q := by
 obtain ⟨⟨a, ha⟩, ⟨b, hb⟩, u, v, hg⟩ := h
 refine ⟨⟨add (mul k a) (smul c b), fun x => ?_⟩, ⟨a, ha⟩, smul (1 / c) v, sub u (smul (1 / c) (mul v k)), fun x => ?_⟩
 ·rw [h1, h2, ev_add, ev_mul, ev_smul, ha, hb]; grind
 ·rw [ev_smul, ev_sub, ev_smul, ev_mul, h1, h2]
  have e : 1 / c * c = 1 := Rat.div_mul_cancel hc
  have hgx := hg x
  generalize 1 / c = t at *
  have : ev v x * ev r' x = (t * c) * (ev v x * ev r' x) := by rw [e]; grind
  grind
/-- What is left on both sides has no common divisor. -/
theorem Gd.parts {g p q P C : List Rat} (hg : Nz g) (h : Gd g p q) (hp : ∀ x, ev p x = ev g x * ev P x) (hq : ∀ x, ev q x = ev g x * ev C x) : Co P C := by
 obtain ⟨_, _, u, v, h⟩ := h
 refine ⟨u, v, ?_⟩
 have := cancel hg (a := add (mul u P) (mul v C)) (b := [1]) (fun x => by
  have hx := h x
  rw [hp, hq] at hx
  rw [ev_add, ev_mul, ev_mul, ev_cons, ev_nil]
  grind)
 intro x
 have hx := this x
 rw [ev_add, ev_mul, ev_mul, ev_cons, ev_nil] at hx
 grind
end Sp
end
section
/- A shorter list that is a multiple is 0. -/
namespace Sp

theorem mul_lead (m : List Rat) (t t' : Rat) : ∀ (m' : List Rat), ∃ M : List Rat, M.length = m.length + m'.length ∧ ∀ x, ev (m ++ [t]) x * ev (m' ++ [t']) x = ev (M ++ [t * t']) x
 | [] => ⟨smul t' m, by simp [smul], fun x => by
   rw [List.nil_append, ev_snoc, ev_snoc, ev_smul, ev_cons, ev_nil]
   have : (smul t' m).length = m.length := List.length_map _
   rw [this]; grind⟩
 | a :: m' => by
  obtain ⟨M, h1, h2⟩ := mul_lead m t t' m'
  have hs : (smul a (m ++ [t])).length = m.length + 1 := by unfold smul; rw [List.length_map]; simp
  have hl : (add (smul a (m ++ [t])) (0 :: M)).length = M.length + 1 := by rw [add_length, hs, List.length_cons]; omega
  refine ⟨add (smul a (m ++ [t])) (0 :: M), by rw [hl, h1, List.length_cons]; omega, fun x => ?_⟩
  have hx := h2 x
  rw [ev_snoc (t * t')] at hx
  rw [ev_snoc (t * t'), hl, ev_add, ev_smul, List.cons_append, ev_cons, ev_cons, Rat.pow_succ]
  grind
theorem small_dv {m r : List Rat} {t : Rat} (ht : t ≠ 0) (hr : r.length ≤ m.length) (h : Dv (m ++ [t]) r) : ∀ x, ev r x = 0 := by
 obtain ⟨c, hc⟩ := h
 obtain ⟨c', k1, k2, k3⟩ := trim c
 rcases k3 with rfl | ⟨m', t', rfl, ht'⟩
 ·intro x; rw [hc x, ← k1, ev_nil]; grind
 ·exfalso
  obtain ⟨M, h1, h2⟩ := mul_lead m t t' m'
  have hn : (neg r).length = r.length := by unfold neg smul; rw [List.length_map]
  have hl : (add M (neg r)).length = M.length := by rw [add_length, hn]; omega
  have hz : ∀ x, ev (add M (neg r) ++ [t * t']) x = 0 := fun x => by
   have e := h2 x
   rw [ev_snoc (t * t')] at e
   rw [ev_snoc (t * t'), hl, ev_add, ev_neg, hc x, ← k1]
   grind
  rcases Rat.mul_eq_zero.1 (coefs_zero hz (t * t') (by simp)) with e | e
  ·exact ht e
  ·exact ht' e
/-- What is left of a division by a divisor. -/
theorem rest_zero {p k r m : List Rat} {t : Rat} (ht : t ≠ 0) (hr : r.length ≤ m.length) (hp : ∀ x, ev p x = ev k x * ev (m ++ [t]) x + ev r x) (h : Dv (m ++ [t]) p) : ∀ x, ev r x = 0 := by
 obtain ⟨c, hc⟩ := h
 refine small_dv ht hr ⟨sub c k, fun x => ?_⟩
 rw [ev_sub]
 have := hp x
 rw [hc x] at this
 grind
end Sp
end
section
/- Heights of a chain's next member. -/
namespace Sp

theorem Ht.scaleA {s : Nat} {l : List Rat} (h : Ht s l) {b : Rat} (hb : b ∈ l) (h0 : b ≠ 0) : Ht s (l.map fun c => c / -ab b) := by
 by_cases hs : 0 ≤ b
 ·rw [ab_nn hs]; exact h.scaleN hb h0
 ·rw [ab_nonpos (show b ≤ 0 by grind), show - -b = b by grind]; exact h.scale hb h0
/-- The next member and the quotient, from the heights of the two before. -/
theorem Ht.next {p q r : List Rat} {s t : Nat} {b : Rat} (hp : Ht s p) (hq : Ht t q) (h0 : q.getD (q.length - 1) 0 ≠ 0) (i n : Nat)
  (hr : ∀ c ∈ r, c ∈ (divQ q i (List.replicate n 0, p)).2) (hb : b ∈ r) (hb0 : b ≠ 0) :
  Ht (s + i * (t + 1)) (divQ q i (List.replicate n 0, p)).1 ∧ Ht (s + i * (t + 1)) (r.map fun c => c / -ab b) ∧ 1 ≤ ab b * ((2 ^ (s + i * (t + 1)) : Nat) : Rat) := by
 have h := hp.div hq h0 i n
 have h2 : Ht (s + i * (t + 1)) r := h.sub fun c hc => List.mem_append_right _ (hr c hc)
 exact ⟨h.sub fun c hc => List.mem_append_left _ hc, h2.scaleA hb hb0, h2.low hb hb0⟩
end Sp
end
