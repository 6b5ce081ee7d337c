set_option linter.unusedVariables false
set_option linter.unusedSectionVars false
set_option linter.unusedSimpArgs false
/- Sa, Sb, Sc, Sd -/
section
/- Polynomials over the rationals, as lists of coefficients, the lowest first. -/
namespace Sp

/-- The value. -/
def ev : List Rat → Rat → Rat
 | [], _ => 0
 | c :: l, x => c + x * ev l x
def add : List Rat → List Rat → List Rat
 | [], q => q
 | p, [] => p
 | a :: p, b :: q => (a + b) :: add p q
def smul (a : Rat) (l : List Rat) : List Rat := l.map (a * ·)
def mul : List Rat → List Rat → List Rat
 | [], _ => []
 | c :: p, q => add (smul c q) (0 :: mul p q)
/-- The derivative. -/
def der : List Rat → List Rat
 | [] => []
 | _ :: l => add l (0 :: der l)
def neg (l : List Rat) : List Rat := smul (-1) l
def sub (p q : List Rat) : List Rat := add p (neg q)
theorem ev_nil (x : Rat) : ev [] x = 0 := rfl
theorem ev_cons (c : Rat) (l : List Rat) (x : Rat) : ev (c :: l) x = c + x * ev l x := rfl
theorem ev_add : ∀ (p q : List Rat) (x : Rat), ev (add p q) x = ev p x + ev q x
 | [], q, x => by simp only [add, ev]; grind
 | a :: p, [], x => by simp only [add, ev]; grind
 | a :: p, b :: q, x => by simp only [add, ev]; rw [ev_add p q x]; grind
theorem ev_smul (a : Rat) : ∀ (l : List Rat) (x : Rat), ev (smul a l) x = a * ev l x
 | [], x => by simp only [smul, List.map_nil, ev]; grind
 | c :: l, x => by
  have := ev_smul a l x
  unfold smul at this ⊢
  simp only [List.map_cons, ev]
  rw [this]
  grind
theorem ev_mul : ∀ (p q : List Rat) (x : Rat), ev (mul p q) x = ev p x * ev q x
 | [], q, x => by simp only [mul, ev]; grind
 | c :: p, q, x => by simp only [mul, ev_add, ev_smul, ev]; rw [ev_mul p q x]; grind
theorem ev_neg (l : List Rat) (x : Rat) : ev (neg l) x = -ev l x := by unfold neg; rw [ev_smul]; grind
theorem ev_sub (p q : List Rat) (x : Rat) : ev (sub p q) x = ev p x - ev q x := by unfold sub; rw [ev_add, ev_neg]; grind
theorem ev_der_cons (c : Rat) (l : List Rat) (x : Rat) : ev (der (c :: l)) x = ev l x + x * ev (der l) x := by simp only [der, ev_add, ev]; grind
theorem ev_der_add : ∀ (p q : List Rat) (x : Rat), ev (der (add p q)) x = ev (der p) x + ev (der q) x
 | [], q, x => by simp only [add, der, ev]; grind
 | a :: p, [], x => by
  have : der [] = [] := rfl
  simp only [add, this, ev]
  grind
 | a :: p, b :: q, x => by
  simp only [add]
  rw [ev_der_cons, ev_der_cons, ev_der_cons, ev_add, ev_der_add p q x]
  grind
theorem ev_der_smul (a : Rat) : ∀ (l : List Rat) (x : Rat), ev (der (smul a l)) x = a * ev (der l) x
 | [], x => by simp only [smul, List.map_nil, der, ev]; grind
 | c :: l, x => by
  have e : smul a (c :: l) = a * c :: smul a l := rfl
  rw [e, ev_der_cons, ev_der_cons, ev_smul, ev_der_smul a l x]
  grind
/-- The product rule. -/
theorem ev_der_mul : ∀ (p q : List Rat) (x : Rat), ev (der (mul p q)) x = ev (der p) x * ev q x + ev p x * ev (der q) x
 | [], q, x => by simp only [mul, der, ev]; grind
 | c :: p, q, x => by
  simp only [mul]
  rw [ev_der_add, ev_der_smul, ev_der_cons, ev_der_cons, ev_mul, ev_der_mul p q x, ev_cons]
  grind

/-! ### absolute values -/
def ab (x : Rat) : Rat := if x < 0 then -x else x
theorem ab_nonneg (x : Rat) : 0 ≤ ab x := by unfold ab; split <;> grind
theorem ab_le (x : Rat) : x ≤ ab x := by unfold ab; split <;> grind
theorem ab_neg_le (x : Rat) : -x ≤ ab x := by unfold ab; split <;> grind
theorem ab_le_of {x y : Rat} (h1 : x ≤ y) (h2 : -x ≤ y) : ab x ≤ y := by unfold ab; split <;> grind
theorem ab_zero : ab 0 = 0 := by unfold ab; grind
theorem ab_pos {x : Rat} (h : x ≠ 0) : 0 < ab x := by unfold ab; split <;> grind
theorem ab_neg (x : Rat) : ab (-x) = ab x := by unfold ab; split <;> split <;> grind
theorem ab_add (x y : Rat) : ab (x + y) ≤ ab x + ab y := ab_le_of (by have := ab_le x; have := ab_le y; grind) (by have := ab_neg_le x; have := ab_neg_le y; grind)
theorem ab_nonpos {x : Rat} (h : x ≤ 0) : ab x = -x := by unfold ab; split <;> grind
theorem ab_nn {x : Rat} (h : 0 ≤ x) : ab x = x := by unfold ab; rw [if_neg (by grind)]
theorem neg_mul' (x y : Rat) : -x * y = -(x * y) := Rat.neg_mul x y
theorem mul_neg' (x y : Rat) : x * -y = -(x * y) := by rw [Rat.mul_comm, neg_mul', Rat.mul_comm]
theorem ab_mul (x y : Rat) : ab (x * y) = ab x * ab y := by
 by_cases hx : 0 ≤ x
 ·by_cases hy : 0 ≤ y
  ·rw [ab_nn hx, ab_nn hy, ab_nn (Rat.mul_nonneg hx hy)]
  ·have h := Rat.mul_nonneg hx (show 0 ≤ -y by grind)
   rw [mul_neg'] at h
   rw [ab_nn hx, ab_nonpos (show y ≤ 0 by grind), ab_nonpos (show x * y ≤ 0 by grind), mul_neg']
 ·by_cases hy : 0 ≤ y
  ·have h := Rat.mul_nonneg (show 0 ≤ -x by grind) hy
   rw [neg_mul'] at h
   rw [ab_nonpos (show x ≤ 0 by grind), ab_nn hy, ab_nonpos (show x * y ≤ 0 by grind), neg_mul']
  ·have h := Rat.mul_nonneg (show 0 ≤ -x by grind) (show 0 ≤ -y by grind)
   rw [neg_mul', mul_neg'] at h
   rw [ab_nonpos (show x ≤ 0 by grind), ab_nonpos (show y ≤ 0 by grind), ab_nn (show 0 ≤ x * y by grind), neg_mul', mul_neg']
   grind
theorem ab_sub_le (x y : Rat) : ab x - ab y ≤ ab (x - y) := by
 have := ab_add (x - y) y
 have e : x - y + y = x := by grind
 rw [e] at this
 grind
theorem div_nonneg {a b : Rat} (ha : 0 ≤ a) (hb : 0 < b) : 0 ≤ a / b := Classical.byContradiction fun h => by
 have h1 : 0 < -(a / b) := by grind
 have h2 := Rat.mul_pos h1 hb
 have h3 : -(a / b) * b = -a := by grind
 grind
theorem ab_of_nonneg {x : Rat} (h : 0 ≤ x) : ab x = x := by unfold ab; rw [if_neg (by grind)]
theorem mul_le_mul' {a b c d : Rat} (h1 : a ≤ b) (h2 : c ≤ d) (h3 : 0 ≤ a) (h4 : 0 ≤ d) : a * c ≤ b * d := by
 have e1 : a * c ≤ a * d := Rat.mul_le_mul_of_nonneg_left h2 h3
 have e2 : a * d ≤ b * d := Rat.mul_le_mul_of_nonneg_right h1 h4
 grind

/-! ### far away -/
/-- A polynomial with a coefficient that is not 0 is not small far away. -/
theorem far : ∀ (p : List Rat), (∃ c ∈ p, c ≠ 0) → ∃ X e : Rat, 1 ≤ X ∧ 0 < e ∧ ∀ x, X ≤ x → e ≤ ab (ev p x)
 | [], h => by obtain ⟨c, hc, _⟩ := h; cases hc
 | c :: l, h => by
  by_cases hl : ∃ d ∈ l, d ≠ 0
  ·obtain ⟨X, e, hX, he, hf⟩ := far l hl
   -- x e - |c| is at least 1
   have hY : 0 ≤ (1 + ab c) / e := div_nonneg (by have := ab_nonneg c; grind) (by grind)
   refine ⟨X + (1 + ab c) / e, 1, by grind, by grind, fun x hx => ?_⟩
   have h1 := hf x (by grind)
   rw [ev_cons]
   have h2 : ab (x * ev l x) - ab c ≤ ab (c + x * ev l x) := by
    have := ab_sub_le (x * ev l x) (-c)
    rw [ab_neg] at this
    have e1 : x * ev l x - -c = c + x * ev l x := by grind
    rw [e1] at this
    exact this
   rw [ab_mul, ab_of_nonneg (show 0 ≤ x by grind)] at h2
   have h3 : x * e ≤ x * ab (ev l x) := Rat.mul_le_mul_of_nonneg_left h1 (by grind)
   have h4 : (1 + ab c) / e * e ≤ x * e := Rat.mul_le_mul_of_nonneg_right (by grind) (by grind)
   have h5 : (1 + ab c) / e * e = 1 + ab c := by grind
   grind
  ·have hz : ∀ x, ev l x = 0 := by
    have : ∀ d ∈ l, d = 0 := fun d hd => Classical.byContradiction fun hn => hl ⟨d, hd, hn⟩
    clear hl h
    intro x
    induction l with
    | nil => rfl
    | cons d l ih => rw [ev_cons, ih (fun e he => this e (List.mem_cons_of_mem _ he)), this d List.mem_cons_self]; grind
   have hc : c ≠ 0 := by
    obtain ⟨d, hd, hn⟩ := h
    rcases List.mem_cons.1 hd with rfl | hd
    ·exact hn
    ·exact absurd ⟨d, hd, hn⟩ hl
   refine ⟨1, ab c, by grind, ab_pos hc, fun x _ => ?_⟩
   rw [ev_cons, hz]
   have e1 : c + x * 0 = c := by grind
   rw [e1]
   grind
/-- A polynomial that is 0 everywhere has no coefficient but 0. -/
theorem coefs_zero {p : List Rat} (h : ∀ x, ev p x = 0) : ∀ c ∈ p, c = 0 := fun c hc => Classical.byContradiction fun hn => by
 obtain ⟨X, e, _, he, hf⟩ := far p ⟨c, hc, hn⟩
 have := hf X (by grind)
 rw [h, ab_zero] at this
 grind
theorem ev_zero : ∀ {p : List Rat}, (∀ c ∈ p, c = 0) → ∀ x, ev p x = 0
 | [], _, _ => rfl
 | c :: l, h, x => by rw [ev_cons, ev_zero (fun d hd => h d (List.mem_cons_of_mem _ hd)), h c List.mem_cons_self]; grind
theorem add_zeros : ∀ {p q : List Rat}, (∀ c ∈ p, c = 0) → (∀ c ∈ q, c = 0) → ∀ c ∈ add p q, c = 0
 | [], q, _, h => h
 | a :: p, [], h, _ => h
 | a :: p, b :: q, h1, h2 => fun c hc => by
  rcases List.mem_cons.1 hc with rfl | hc
  ·rw [h1 a List.mem_cons_self, h2 b List.mem_cons_self]; grind
  ·exact add_zeros (fun d hd => h1 d (List.mem_cons_of_mem _ hd)) (fun d hd => h2 d (List.mem_cons_of_mem _ hd)) c hc
theorem der_zeros : ∀ {p : List Rat}, (∀ c ∈ p, c = 0) → ∀ c ∈ der p, c = 0
 | [], _ => fun c hc => by cases hc
 | a :: l, h => by
  have hl : ∀ c ∈ l, c = 0 := fun d hd => h d (List.mem_cons_of_mem _ hd)
  refine add_zeros hl (fun c hc => ?_)
  rcases List.mem_cons.1 hc with rfl | hc
  ·rfl
  ·exact der_zeros hl c hc
/-- Equal polynomials have equal derivatives. -/
theorem der_eq {p q : List Rat} (h : ∀ x, ev p x = ev q x) (x : Rat) : ev (der p) x = ev (der q) x := by
 have h1 : ∀ y, ev (add p (smul (-1) q)) y = 0 := fun y => by rw [ev_add, ev_smul, h y]; grind
 have h2 := ev_zero (der_zeros (coefs_zero h1)) x
 rw [ev_der_add, ev_der_smul] at h2
 grind
/-- What is at most so great far away. -/
theorem grow : ∀ (p : List Rat), ∃ C : Rat, 0 ≤ C ∧ ∀ x, 1 ≤ x → ab (ev p x) ≤ C * x ^ p.length
 | [] => ⟨0, by grind, fun x _ => by rw [ev_nil, ab_zero]; grind⟩
 | c :: l => by
  obtain ⟨C, hC, hf⟩ := grow l
  refine ⟨ab c + C, by have := ab_nonneg c; grind, fun x hx => ?_⟩
  have h1 := hf x hx
  have hp : ∀ n : Nat, 1 ≤ x ^ n := fun n => by
   induction n with
   | zero => rw [Rat.pow_zero]; grind
   | succ n ih =>
    rw [Rat.pow_succ]
    have := mul_le_mul' ih hx (by grind) (by grind)
    grind
  rw [ev_cons, List.length_cons, Rat.pow_succ]
  have h2 := ab_add c (x * ev l x)
  rw [ab_mul, ab_of_nonneg (show 0 ≤ x by grind)] at h2
  have h3 : x * ab (ev l x) ≤ x * (C * x ^ l.length) := Rat.mul_le_mul_of_nonneg_left h1 (by grind)
  have h4 : ab c * 1 ≤ ab c * (x ^ l.length * x) := Rat.mul_le_mul_of_nonneg_left (by have := mul_le_mul' (hp l.length) hx (by grind) (by grind); grind) (ab_nonneg c)
  grind
def pw (d : List Rat) : Nat → List Rat
 | 0 => [1]
 | n + 1 => mul d (pw d n)
theorem ev_pw (d : List Rat) (x : Rat) : ∀ n, ev (pw d n) x = ev d x ^ n
 | 0 => by simp only [pw, ev]; rw [Rat.pow_zero]; grind
 | n + 1 => by simp only [pw]; rw [ev_mul, ev_pw d x n, Rat.pow_succ]; grind
theorem ab_pow (y : Rat) : ∀ n : Nat, ab (y ^ n) = ab y ^ n
 | 0 => by rw [Rat.pow_zero, Rat.pow_zero]; unfold ab; grind
 | n + 1 => by rw [Rat.pow_succ, Rat.pow_succ, ab_mul, ab_pow y n]
theorem pow_le {a b : Rat} (h0 : 0 ≤ a) (h : a ≤ b) : ∀ n : Nat, 0 ≤ a ^ n ∧ a ^ n ≤ b ^ n
 | 0 => by rw [Rat.pow_zero, Rat.pow_zero]; grind
 | n + 1 => by
  obtain ⟨h1, h2⟩ := pow_le h0 h n
  rw [Rat.pow_succ, Rat.pow_succ]
  exact ⟨Rat.mul_nonneg h1 h0, mul_le_mul' h2 h h1 (by grind)⟩
theorem mul_pow' (a b : Rat) : ∀ n : Nat, (a * b) ^ n = a ^ n * b ^ n
 | 0 => by rw [Rat.pow_zero, Rat.pow_zero, Rat.pow_zero]; grind
 | n + 1 => by rw [Rat.pow_succ, Rat.pow_succ, Rat.pow_succ, mul_pow' a b n]; grind
/-- No polynomial but 0 has all powers of another one as divisors that is no number. -/
theorem no_descent {g : List Rat} (hg : ∃ c ∈ g, c ≠ 0) {c0 : Rat} {l : List Rat} (hl : ∃ c ∈ l, c ≠ 0) (h : ∀ j : Nat, ∃ e, ∀ x, ev g x = ev (c0 :: l) x ^ j * ev e x) : False := by
 obtain ⟨e, he⟩ := h (g.length + 1)
 -- e is not 0
 have hen : ∃ c ∈ e, c ≠ 0 := Classical.byContradiction fun hn => by
  have hz : ∀ c ∈ e, c = 0 := fun c hc => Classical.byContradiction fun h2 => hn ⟨c, hc, h2⟩
  obtain ⟨c, hc, hcn⟩ := hg
  exact hcn (coefs_zero (fun x => by rw [he x, ev_zero hz]; grind) c hc)
 obtain ⟨X1, e1, hX1, he1, hf1⟩ := far e hen
 obtain ⟨X2, e2, hX2, he2, hf2⟩ := far l hl
 obtain ⟨C, hC, hg2⟩ := grow g
 -- far away the divisor is at least x * e2 / 2
 have hdp : 0 < (e2 / 2) ^ (g.length + 1) := by
  have : ∀ n : Nat, 0 < (e2 / 2) ^ n := fun n => by
   induction n with
   | zero => rw [Rat.pow_zero]; grind
   | succ n ih => rw [Rat.pow_succ]; exact Rat.mul_pos ih (by grind)
  exact this _
 let k := (e2 / 2) ^ (g.length + 1) * e1
 have hk : 0 < k := Rat.mul_pos hdp he1
 have q1 : 0 ≤ 2 * ab c0 / e2 := div_nonneg (by have := ab_nonneg c0; grind) (by grind)
 have q2 : 0 ≤ (C + 1) / k := div_nonneg (by grind) (by grind)
 let x := X1 + X2 + 2 * ab c0 / e2 + (C + 1) / k
 have hx1 : X1 ≤ x := by show X1 ≤ X1 + X2 + 2 * ab c0 / e2 + (C + 1) / k; grind
 have hx2 : X2 ≤ x := by show X2 ≤ X1 + X2 + 2 * ab c0 / e2 + (C + 1) / k; grind
 have hx3 : 2 * ab c0 / e2 ≤ x := by show 2 * ab c0 / e2 ≤ X1 + X2 + 2 * ab c0 / e2 + (C + 1) / k; grind
 have hx4 : (C + 1) / k ≤ x := by show (C + 1) / k ≤ X1 + X2 + 2 * ab c0 / e2 + (C + 1) / k; grind
 have hx : 1 ≤ x := by grind
 generalize hxx : x = y at *
 clear hxx x
 have hd : y * (e2 / 2) ≤ ab (ev (c0 :: l) y) := by
  rw [ev_cons]
  have h2 := ab_sub_le (y * ev l y) (-c0)
  rw [ab_neg, ab_mul, ab_of_nonneg (show 0 ≤ y by grind)] at h2
  have e0 : y * ev l y - -c0 = c0 + y * ev l y := by grind
  rw [e0] at h2
  have h3 : y * e2 ≤ y * ab (ev l y) := Rat.mul_le_mul_of_nonneg_left (hf2 y hx2) (by grind)
  have h4 : 2 * ab c0 / e2 * e2 ≤ y * e2 := Rat.mul_le_mul_of_nonneg_right hx3 (by grind)
  have h5 : 2 * ab c0 / e2 * e2 = 2 * ab c0 := by grind
  grind
 have hy0 : 0 ≤ y * (e2 / 2) := Rat.mul_nonneg (by grind) (by grind)
 have h6 := (pow_le hy0 hd (g.length + 1)).2
 rw [mul_pow'] at h6
 have h7 := he y
 have h8 : ab (ev g y) = ab (ev (c0 :: l) y) ^ (g.length + 1) * ab (ev e y) := by rw [h7, ab_mul, ab_pow]
 have h9 := hg2 y hx
 have hyn : 0 ≤ y ^ (g.length + 1) := (pow_le (show (0 : Rat) ≤ y by grind) (show y ≤ y by grind) (g.length + 1)).1
 have h10 : (y ^ (g.length + 1) * (e2 / 2) ^ (g.length + 1)) * e1 ≤ ab (ev (c0 :: l) y) ^ (g.length + 1) * ab (ev e y) := mul_le_mul' h6 (hf1 y hx1) (Rat.mul_nonneg hyn (by grind)) (by have := hf1 y hx1; grind)
 have hyp : 0 ≤ y ^ g.length := (pow_le (show (0 : Rat) ≤ y by grind) (show y ≤ y by grind) g.length).1
 have hy1 : 1 ≤ y ^ g.length := by
  have := (pow_le (show (0 : Rat) ≤ 1 by grind) hx g.length).2
  have e1' : (1 : Rat) ^ g.length = 1 := by
   have : ∀ n : Nat, (1 : Rat) ^ n = 1 := fun n => by
    induction n with
    | zero => exact Rat.pow_zero _
    | succ n ih => rw [Rat.pow_succ, ih]; grind
   exact this _
  rw [e1'] at this
  exact this
 have h11 : y ^ g.length * (y * k) ≤ C * y ^ g.length := by
  have e3 : (y ^ (g.length + 1) * (e2 / 2) ^ (g.length + 1)) * e1 = y ^ g.length * (y * k) := by
   show _ = y ^ g.length * (y * ((e2 / 2) ^ (g.length + 1) * e1))
   rw [Rat.pow_succ y]
   grind
  rw [e3] at h10
  rw [h8] at h9
  grind
 have h12 : (C + 1) / k * k ≤ y * k := Rat.mul_le_mul_of_nonneg_right hx4 (by grind)
 have h13 : (C + 1) / k * k = C + 1 := by grind
 have h14 : y ^ g.length * (C + 1) ≤ y ^ g.length * (y * k) := Rat.mul_le_mul_of_nonneg_left (by grind) hyp
 grind
end Sp
end
section
/- Sturm's theorem on small steps, over the rationals. -/
namespace Sp

/-- A function that is bounded and does not change fast. -/
structure Fn (X M : Rat) (f : Rat → Rat) : Prop where
 bnd : ∀ x, ab x ≤ X → ab (f x) ≤ M
 lip : ∀ x y, ab x ≤ X → ab y ≤ X → ab (f x - f y) ≤ M * ab (x - y)
def sg (f : Rat → Rat) (x y : Rat) : Prop := 0 < f x * f y
theorem tri (x y : Rat) : x < y ∨ x = y ∨ y < x := by grind
theorem mul_nn {a b : Rat} (ha : a < 0) (hb : b < 0) : 0 < a * b := by
 have := Rat.mul_pos (show 0 < -a by grind) (show 0 < -b by grind)
 rw [neg_mul', mul_neg'] at this
 grind
theorem mul_pn {a b : Rat} (ha : 0 < a) (hb : b < 0) : a * b < 0 := by
 have := Rat.mul_pos ha (show 0 < -b by grind)
 rw [mul_neg'] at this
 grind
theorem mul_np {a b : Rat} (ha : a < 0) (hb : 0 < b) : a * b < 0 := by
 have := Rat.mul_pos (show 0 < -a by grind) hb
 rw [neg_mul'] at this
 grind
theorem mul_sgn {a b : Rat} (h : 0 < a * b) : (0 < a ∧ 0 < b) ∨ (a < 0 ∧ b < 0) := by
 rcases tri a 0 with h1 | h1 | h1
 ·rcases tri b 0 with h2 | h2 | h2
  ·exact .inr ⟨h1, h2⟩
  ·subst h2; rw [Rat.mul_zero] at h; grind
  ·have := mul_np h1 h2; grind
 ·subst h1; rw [Rat.zero_mul] at h; grind
 ·rcases tri b 0 with h2 | h2 | h2
  ·have := mul_pn h1 h2; grind
  ·subst h2; rw [Rat.mul_zero] at h; grind
  ·exact .inl ⟨h1, h2⟩
theorem mul_sgn' {a b : Rat} (h : a * b < 0) : (0 < a ∧ b < 0) ∨ (a < 0 ∧ 0 < b) := by
 have : 0 < a * -b := by rw [mul_neg']; grind
 rcases mul_sgn this with ⟨h1, h2⟩ | ⟨h1, h2⟩
 ·exact .inl ⟨h1, by grind⟩
 ·exact .inr ⟨h1, by grind⟩
/-- Where a function has no strict sign on a step, it is small there. -/
theorem near {X M d : Rat} {f : Rat → Rat} (hf : Fn X M f) (hM : 0 ≤ M) {x y : Rat} (hx : ab x ≤ X) (hy : ab y ≤ X) (hd : ab (x - y) ≤ d) (h : ¬ sg f x y) : ab (f x) ≤ M * d ∧ ab (f y) ≤ M * d := by
 have h1 := hf.lip x y hx hy
 have h2 : M * ab (x - y) ≤ M * d := Rat.mul_le_mul_of_nonneg_left hd hM
 have h3 : f x * f y ≤ 0 := by unfold sg at h; grind
 have h4 : ab (f x) ≤ ab (f x - f y) ∧ ab (f y) ≤ ab (f x - f y) := by
  rcases tri (f x) 0 with a | a | a <;> rcases tri (f y) 0 with b | b | b
  ·have := mul_nn a b; grind
  ·unfold ab; constructor <;> grind
  ·unfold ab; constructor <;> grind
  ·unfold ab; constructor <;> grind
  ·unfold ab; constructor <;> grind
  ·unfold ab; constructor <;> grind
  ·unfold ab; constructor <;> grind
  ·unfold ab; constructor <;> grind
  ·have := Rat.mul_pos a b; grind
 exact ⟨by grind, by grind⟩
/-- Not both are small. -/
def Cop (X e : Rat) (f g : Rat → Rat) : Prop := ∀ x, ab x ≤ X → e ≤ ab (f x) ∨ e ≤ ab (g x)
theorem Cop.mono {X e e' : Rat} {f g : Rat → Rat} (h : Cop X e f g) (he : e' ≤ e) : Cop X e' f g := fun x hx => (h x hx).elim (fun h => .inl (by grind)) (fun h => .inr (by grind))
theorem Cop.symm {X e : Rat} {f g : Rat → Rat} (h : Cop X e f g) : Cop X e g f := fun x hx => (h x hx).symm
/-- A chain of functions: neighbours, with the rest. -/
inductive Ch (X M a e : Rat) : (Rat → Rat) → (Rat → Rat) → List (Rat → Rat) → Prop
 | last (c0 c1 : Rat → Rat) (h0 : Fn X M c0) (h1 : Fn X M c1) (k : Rat) (hk : k ≠ 0) (hc : ∀ x, c1 x = k) (hcop : Cop X e c0 c1) : Ch X M a e c0 c1 []
 | step (c0 c1 c2 : Rat → Rat) (rest : List (Rat → Rat)) (h0 : Fn X M c0) (h1 : Fn X M c1) (Q : Rat → Rat) (al : Rat) (hQ : ∀ x, ab x ≤ X → ab (Q x) ≤ M) (hal : a ≤ al) (rel : ∀ x, c0 x = Q x * c1 x - al * c2 x)
   (hcop : Cop X e c0 c1) (hr : Ch X M a e c1 c2 rest) : Ch X M a e c0 c1 (c2 :: rest)
theorem Ch.cop {X M a e : Rat} {c0 c1 : Rat → Rat} {l : List (Rat → Rat)} (h : Ch X M a e c0 c1 l) : Cop X e c0 c1 := by cases h <;> assumption
theorem Ch.fn {X M a e : Rat} {c0 c1 : Rat → Rat} {l : List (Rat → Rat)} (h : Ch X M a e c0 c1 l) : Fn X M c0 ∧ Fn X M c1 := by cases h <;> exact ⟨by assumption, by assumption⟩
/-- Changes of sign; noughts do not count (s: the last sign that was not nought, or nought). -/
def chg : Rat → List Rat → Nat
 | _, [] => 0
 | s, v :: l => if v = 0 then chg s l else (if s * v < 0 then 1 else 0) + chg v l
theorem chg_cons (s v : Rat) (l : List Rat) : chg s (v :: l) = if v = 0 then chg s l else (if s * v < 0 then 1 else 0) + chg v l := rfl
theorem chg_sign {s t : Rat} (h : 0 < s * t) : ∀ (l : List Rat), chg s l = chg t l
 | [] => rfl
 | v :: l => by
  rw [chg_cons, chg_cons]
  split
  ·exact chg_sign h l
  ·rename_i hv
   have : (s * v < 0) ↔ (t * v < 0) := by
    rcases mul_sgn h with ⟨h1, h2⟩ | ⟨h1, h2⟩ <;> rcases tri v 0 with h3 | h3 | h3
    ·exact ⟨fun _ => mul_pn h2 h3, fun _ => mul_pn h1 h3⟩
    ·exact absurd h3 hv
    ·exact ⟨fun h => by have := Rat.mul_pos h1 h3; grind, fun h => by have := Rat.mul_pos h2 h3; grind⟩
    ·exact ⟨fun h => by have := mul_nn h1 h3; grind, fun h => by have := mul_nn h2 h3; grind⟩
    ·exact absurd h3 hv
    ·exact ⟨fun _ => mul_np h2 h3, fun _ => mul_np h1 h3⟩
   simp only [this]
def vals (l : List (Rat → Rat)) (x : Rat) : List Rat := l.map (· x)
/-- Between opposite signs there is one change, whatever stands between. -/
theorem chg_mid {s m v : Rat} (h : s * v < 0) (l : List Rat) : chg s (m :: v :: l) = 1 + chg v l := by
 have hv : v ≠ 0 := fun e => by subst e; rw [Rat.mul_zero] at h; grind
 rw [chg_cons]
 by_cases hm : m = 0
 ·rw [if_pos hm, chg_cons, if_neg hv, if_pos h]
 ·rw [if_neg hm, chg_cons, if_neg hv]
  rcases mul_sgn' h with ⟨h1, h2⟩ | ⟨h1, h2⟩ <;> rcases tri m 0 with h3 | h3 | h3
  ·have a1 := mul_pn h1 h3
   have a2 := mul_nn h3 h2
   rw [if_pos a1, if_neg (by grind)]; omega
  ·exact absurd h3 hm
  ·have a1 := Rat.mul_pos h1 h3
   have a2 := mul_pn h3 h2
   rw [if_neg (by grind), if_pos a2]; omega
  ·have a1 := mul_nn h1 h3
   have a2 := mul_np h3 h2
   rw [if_neg (by grind), if_pos a2]; omega
  ·exact absurd h3 hm
  ·have a1 := mul_np h1 h3
   have a2 := Rat.mul_pos h3 h2
   rw [if_pos a1, if_neg (by grind)]; omega
/-- The conditions on the numbers: a step is small. -/
structure Small (M a e d : Rat) : Prop where
 M1 : 1 ≤ M
 a0 : 0 < a
 e0 : 0 < e
 d0 : 0 ≤ d
 h1 : M * d < e
 h2 : M * (M * d) < a * e
/-- A chain's changes behind a neighbour with a strict sign stay on a small step. -/
theorem Ch.same {X M a e d : Rat} (hs : Small M a e d) {x y : Rat} (hx : ab x ≤ X) (hy : ab y ≤ X) (hd : ab (x - y) ≤ d) :
  ∀ {n : Nat} {c0 c1 : Rat → Rat} {l : List (Rat → Rat)}, l.length ≤ n → Ch X M a e c0 c1 l → sg c0 x y → chg (c0 x) (vals (c1 :: l) x) = chg (c0 y) (vals (c1 :: l) y) := by
 have hM0 : 0 ≤ M := by have := hs.M1; grind
 intro n
 induction n with
 | zero =>
  intro c0 c1 l hl h h0
  cases h with
  | step => simp at hl
  | last _ _ f0 f1 k hk hc _ =>
   unfold vals
   simp only [List.map_cons, List.map_nil]
   rw [hc x, hc y, chg_sign h0]
 | succ n ih =>
  intro c0 c1 l hl h h0
  cases h with
  | last _ _ f0 f1 k hk hc _ =>
   unfold vals
   simp only [List.map_cons, List.map_nil]
   rw [hc x, hc y, chg_sign h0]
  | step _ _ c2 rest f0 f1 Q al hQ hal rel hcop hr =>
   by_cases h1 : sg c1 x y
   ·have hi := ih (by simp at hl; omega) hr h1
    unfold vals at hi ⊢
    simp only [List.map_cons] at hi ⊢
    have n1 : c1 x ≠ 0 := fun e => by unfold sg at h1; rw [e, Rat.zero_mul] at h1; grind
    have n2 : c1 y ≠ 0 := fun e => by unfold sg at h1; rw [e, Rat.mul_zero] at h1; grind
    rw [chg_cons (c0 x), chg_cons (c0 y), if_neg n1, if_neg n2]
    rw [hi]
    have hiff : (c0 x * c1 x < 0) ↔ (c0 y * c1 y < 0) := by
     unfold sg at h0 h1
     rcases mul_sgn h0 with ⟨p1, p2⟩ | ⟨p1, p2⟩ <;> rcases mul_sgn h1 with ⟨q1, q2⟩ | ⟨q1, q2⟩
     ·exact ⟨fun h => by have := Rat.mul_pos p1 q1; grind, fun h => by have := Rat.mul_pos p2 q2; grind⟩
     ·exact ⟨fun _ => mul_pn p2 q2, fun _ => mul_pn p1 q1⟩
     ·exact ⟨fun _ => mul_np p2 q2, fun _ => mul_np p1 q1⟩
     ·exact ⟨fun h => by have := mul_nn p1 q1; grind, fun h => by have := mul_nn p2 q2; grind⟩
    simp only [hiff]
   ·have nr := near f1 hM0 hx hy hd h1
    have key : ∀ z, ab z ≤ X → ab (c1 z) ≤ M * d → c0 z * c2 z < 0 ∧ e ≤ ab (c2 z) := by
     intro z hz hc1
     have he : e ≤ ab (c2 z) := (hr.cop z hz).elim (fun h => by have := hs.h1; grind) id
     refine ⟨?_, he⟩
     have r := rel z
     have b1 : ab (Q z * c1 z) ≤ M * (M * d) := by
      rw [ab_mul]
      exact mul_le_mul' (hQ z hz) hc1 (ab_nonneg _) (by have := Rat.mul_nonneg hM0 hs.d0; grind)
     have b2 : a * e ≤ al * ab (c2 z) := mul_le_mul' hal he (by have := hs.a0; grind) (by have := hs.e0; grind)
     have hh2 := hs.h2
     have l1 := ab_le (Q z * c1 z)
     have l2 := ab_neg_le (Q z * c1 z)
     rcases tri (c2 z) 0 with t | t | t
     ·rw [ab_nonpos (show c2 z ≤ 0 by grind), mul_neg'] at b2
      exact mul_pn (by grind) t
     ·rw [t, ab_zero] at he; have := hs.e0; grind
     ·rw [ab_nn (show 0 ≤ c2 z by grind)] at b2
      exact mul_np (by grind) t
    obtain ⟨k1, k2⟩ := key x hx nr.1
    obtain ⟨k3, k4⟩ := key y hy nr.2
    have h2 : sg c2 x y := by
     unfold sg at h0 ⊢
     rcases mul_sgn h0 with ⟨p1, p2⟩ | ⟨p1, p2⟩ <;> rcases mul_sgn' k1 with ⟨q1, q2⟩ | ⟨q1, q2⟩ <;> rcases mul_sgn' k3 with ⟨r1, r2⟩ | ⟨r1, r2⟩
     all_goals first | exact Rat.mul_pos q2 r2 | exact mul_nn q2 r2 | (exfalso; grind)
    unfold vals
    simp only [List.map_cons]
    cases hr with
    | last _ _ g1 g2 k hk hc _ =>
     simp only [List.map_nil]
     rw [chg_mid k1, chg_mid k3]
     rfl
    | step _ _ c3 rest2 g1 g2 Q2 al2 hQ2 hal2 rel2 hcop2 hr2 =>
     simp only [List.map_cons]
     rw [chg_mid k1, chg_mid k3]
     have hi := ih (by simp at hl ⊢; omega) hr2 h2
     unfold vals at hi
     simp only [List.map_cons] at hi
     rw [hi]
/-- A chain whose second is the derivative of the first. -/
structure Top (X M a e : Rat) (c0 c1 : Rat → Rat) (l : List (Rat → Rat)) : Prop where
 ch : Ch X M a e c0 c1 l
 der : ∀ x y, ab x ≤ X → ab y ≤ X → ab (c0 y - c0 x - c1 x * (y - x)) ≤ M * (ab (y - x) * ab (y - x))
/-- It crosses nought behind x, at y at the latest. -/
def Cross (f : Rat → Rat) (x y : Rat) : Prop := f x ≠ 0 ∧ ¬ sg f x y
def V (l : List (Rat → Rat)) (x : Rat) : Nat := chg 0 (vals l x)
theorem chg_0 {v : Rat} (hv : v ≠ 0) (l : List Rat) : chg 0 (v :: l) = chg v l := by
 rw [chg_cons, if_neg hv, Rat.zero_mul, if_neg (by grind)]; omega
theorem chg_z (s : Rat) (l : List Rat) : chg s (0 :: l) = chg s l := by rw [chg_cons, if_pos rfl]
theorem Ch.tail_same {X M a e d : Rat} (hs : Small M a e d) {x y : Rat} (hx : ab x ≤ X) (hy : ab y ≤ X) (hd : ab (x - y) ≤ d) {c0 c1 : Rat → Rat} {l : List (Rat → Rat)} (h : Ch X M a e c0 c1 l) (h1 : sg c1 x y) :
  chg (c1 x) (vals l x) = chg (c1 y) (vals l y) := by
 cases h with
 | last => rfl
 | step _ _ c2 rest f0 f1 Q al hQ hal rel hcop hr => exact Ch.same hs hx hy hd (Nat.le_refl _) hr h1
/-- On a small step where the first has no strict sign, the second has one, and the first goes its way. -/
theorem Top.slope {X M a e d : Rat} (hs : Small M a e d) {x y : Rat} (hx : ab x ≤ X) (hy : ab y ≤ X) (hxy : x < y) (hd : y - x ≤ d) {c0 c1 : Rat → Rat} {l : List (Rat → Rat)} (h : Top X M a e c0 c1 l) (h0 : ¬ sg c0 x y) :
  sg c1 x y ∧ ((0 < c1 x ∧ c0 x < c0 y) ∨ (c1 x < 0 ∧ c0 y < c0 x)) := by
 have hM0 : 0 ≤ M := by have := hs.M1; grind
 have hab : ab (x - y) = y - x := by rw [ab_nonpos (by grind)]; grind
 have hab2 : ab (y - x) = y - x := ab_nn (by grind)
 obtain ⟨f0, f1⟩ := h.ch.fn
 have n0 := near f0 hM0 hx hy (by rw [hab]; exact hd) h0
 have hh1 := hs.h1
 have c1x : e ≤ ab (c1 x) := (h.ch.cop x hx).elim (fun h => by grind) id
 have c1y : e ≤ ab (c1 y) := (h.ch.cop y hy).elim (fun h => by grind) id
 have hsg : sg c1 x y := Classical.byContradiction fun hn => by
  have n1 := near f1 hM0 hx hy (by rw [hab]; exact hd) hn
  grind
 refine ⟨hsg, ?_⟩
 have q := h.der x y hx hy
 rw [hab2] at q
 have q1 := ab_le (c0 y - c0 x - c1 x * (y - x))
 have q2 := ab_neg_le (c0 y - c0 x - c1 x * (y - x))
 have hlt : M * (y - x) < e := by
  have := Rat.mul_le_mul_of_nonneg_left hd hM0
  grind
 have hlt2 : M * ((y - x) * (y - x)) < e * (y - x) := by
  have := Rat.mul_lt_mul_of_pos_right hlt (show 0 < y - x by grind)
  rw [← Rat.mul_assoc]
  exact this
 rcases tri (c1 x) 0 with t | t | t
 ·right
  refine ⟨t, ?_⟩
  rw [ab_nonpos (show c1 x ≤ 0 by grind)] at c1x
  have := Rat.mul_le_mul_of_nonneg_right c1x (show 0 ≤ y - x by grind)
  rw [neg_mul'] at this
  grind
 ·rw [t, ab_zero] at c1x; have := hs.e0; grind
 ·left
  refine ⟨t, ?_⟩
  rw [ab_nn (show 0 ≤ c1 x by grind)] at c1x
  have := Rat.mul_le_mul_of_nonneg_right c1x (show 0 ≤ y - x by grind)
  grind
open Classical in
/-- **Sturm's theorem on a small step.** -/
theorem Top.step {X M a e d : Rat} (hs : Small M a e d) {x y : Rat} (hx : ab x ≤ X) (hy : ab y ≤ X) (hxy : x < y) (hd : y - x ≤ d) {c0 c1 : Rat → Rat} {l : List (Rat → Rat)} (h : Top X M a e c0 c1 l) :
  V (c0 :: c1 :: l) x = V (c0 :: c1 :: l) y + (if Cross c0 x y then 1 else 0) := by
 have hab : ab (x - y) ≤ d := by rw [ab_nonpos (by grind)]; grind
 unfold V
 by_cases h0 : sg c0 x y
 ·have hc : ¬ Cross c0 x y := fun h => h.2 h0
  rw [if_neg hc]
  have n1 : c0 x ≠ 0 := fun e => by unfold sg at h0; rw [e, Rat.zero_mul] at h0; grind
  have n2 : c0 y ≠ 0 := fun e => by unfold sg at h0; rw [e, Rat.mul_zero] at h0; grind
  have := Ch.same hs hx hy hab (Nat.le_refl _) h.ch h0
  unfold vals at this ⊢
  simp only [List.map_cons] at this ⊢
  rw [chg_0 n1, chg_0 n2, this]
  rfl
 ·obtain ⟨hsg, hdir⟩ := h.slope hs hx hy hxy hd h0
  have ht := Ch.tail_same hs hx hy hab h.ch hsg
  have m1 : c1 x ≠ 0 := fun e => by unfold sg at hsg; rw [e, Rat.zero_mul] at hsg; grind
  have m2 : c1 y ≠ 0 := fun e => by unfold sg at hsg; rw [e, Rat.mul_zero] at hsg; grind
  unfold vals at ht ⊢
  simp only [List.map_cons]
  have hle : c0 x * c0 y ≤ 0 := by unfold sg at h0; grind
  by_cases hz : c0 x = 0
  ·have hc : ¬ Cross c0 x y := fun h => h.1 hz
   rw [if_neg hc, hz, chg_z, chg_0 m1, ht]
   rcases hdir with ⟨d1, d2⟩ | ⟨d1, d2⟩
   ·have p : 0 < c0 y := by grind
    have c : 0 < c1 y := by unfold sg at hsg; rcases mul_sgn hsg with ⟨_, h⟩ | ⟨h, _⟩ <;> grind
    rw [chg_0 (by grind), chg_cons, if_neg m2, if_neg (by have := Rat.mul_pos p c; grind)]
    omega
   ·have p : c0 y < 0 := by grind
    have c : c1 y < 0 := by unfold sg at hsg; rcases mul_sgn hsg with ⟨h, _⟩ | ⟨_, h⟩ <;> grind
    rw [chg_0 (by grind), chg_cons, if_neg m2, if_neg (by have := mul_nn p c; grind)]
    omega
  ·have hc : Cross c0 x y := ⟨hz, h0⟩
   rw [if_pos hc, chg_0 hz, chg_cons (c0 x), if_neg m1, ht]
   rcases hdir with ⟨d1, d2⟩ | ⟨d1, d2⟩
   ·have c : 0 < c1 y := by unfold sg at hsg; rcases mul_sgn hsg with ⟨_, h⟩ | ⟨h, _⟩ <;> grind
    have p : c0 x < 0 := by
     rcases tri (c0 x) 0 with t | t | t
     ·exact t
     ·exact absurd t hz
     ·have := Rat.mul_pos t (show 0 < c0 y by grind); grind
    rw [if_pos (mul_np p d1)]
    by_cases hz2 : c0 y = 0
    ·rw [hz2, chg_z, chg_0 m2]; omega
    ·have p2 : 0 < c0 y := by
      rcases tri (c0 y) 0 with t | t | t
      ·have := mul_nn p t; grind
      ·exact absurd t hz2
      ·exact t
     rw [chg_0 hz2, chg_cons, if_neg m2, if_neg (by have := Rat.mul_pos p2 c; grind)]; omega
   ·have c : c1 y < 0 := by unfold sg at hsg; rcases mul_sgn hsg with ⟨h, _⟩ | ⟨_, h⟩ <;> grind
    have p : 0 < c0 x := by
     rcases tri (c0 x) 0 with t | t | t
     ·have := mul_nn t (show c0 y < 0 by grind); grind
     ·exact absurd t hz
     ·exact t
    rw [if_pos (mul_pn p d1)]
    by_cases hz2 : c0 y = 0
    ·rw [hz2, chg_z, chg_0 m2]; omega
    ·have p2 : c0 y < 0 := by
      rcases tri (c0 y) 0 with t | t | t
      ·exact t
      ·exact absurd t hz2
      ·have := Rat.mul_pos p t; grind
     rw [chg_0 hz2, chg_cons, if_neg m2, if_neg (by have := mul_nn p2 c; grind)]; omega
theorem arch (r : Rat) : ∃ n : Nat, r ≤ (n : Rat) := by
 refine ⟨r.ceil.toNat, ?_⟩
 have h : r ≤ (r.ceil : Rat) := Rat.le_ceil
 have h2 : r.ceil ≤ (r.ceil.toNat : Int) := Int.self_le_toNat _
 have h3 : (r.ceil : Rat) ≤ ((r.ceil.toNat : Int) : Rat) := Rat.intCast_le_intCast.2 h2
 have h4 : ((r.ceil.toNat : Int) : Rat) = (r.ceil.toNat : Rat) := rfl
 grind
theorem mono_of_small {X d : Rat} (hd : 0 < d) (f : Rat → Int) (h : ∀ x y, ab x ≤ X → ab y ≤ X → x < y → y - x ≤ d → f y ≤ f x) : ∀ x y, ab x ≤ X → ab y ≤ X → x ≤ y → f y ≤ f x := by
 have main : ∀ (n : Nat) (x y : Rat), ab x ≤ X → ab y ≤ X → x ≤ y → y - x ≤ n * d → f y ≤ f x := by
  intro n
  induction n with
  | zero =>
   intro x y hx hy hxy hn
   have : x = y := by
    have : ((0 : Nat) : Rat) = 0 := rfl
    rw [this, Rat.zero_mul] at hn
    grind
   rw [this]
   exact Int.le_refl _
  | succ n ih =>
   intro x y hx hy hxy hn
   by_cases h1 : y - x ≤ d
   ·by_cases h2 : x = y
    ·rw [h2]; exact Int.le_refl _
    ·exact h x y hx hy (by grind) h1
   ·have hz : ab (x + d) ≤ X := by
     have a1 := ab_le y
     have a2 := ab_neg_le x
     refine ab_le_of (by grind) (by grind)
    have e : ((n + 1 : Nat) : Rat) = (n : Rat) + 1 := by
     rw [Rat.natCast_add]; rfl
    rw [e, Rat.add_mul, Rat.one_mul] at hn
    have s1 := h x (x + d) hx hz (by grind) (by grind)
    have s2 := ih (x + d) y hz hy (by grind) (by grind)
    exact Int.le_trans s2 s1
 intro x y hx hy hxy
 obtain ⟨n, hn⟩ := arch ((y - x) / d)
 refine main n x y hx hy hxy ?_
 have := Rat.mul_le_mul_of_nonneg_right hn (show 0 ≤ d by grind)
 rw [Rat.div_mul_cancel (by grind)] at this
 exact this
theorem Top.small {X M a e d : Rat} (hs : Small M a e d) {x y : Rat} (hx : ab x ≤ X) (hy : ab y ≤ X) (hxy : x < y) (hd : y - x ≤ d) {c0 c1 : Rat → Rat} {l : List (Rat → Rat)} (h : Top X M a e c0 c1 l) :
  V (c0 :: c1 :: l) y ≤ V (c0 :: c1 :: l) x ∧ (V (c0 :: c1 :: l) y < V (c0 :: c1 :: l) x ↔ Cross c0 x y) ∧ V (c0 :: c1 :: l) x ≤ V (c0 :: c1 :: l) y + 1 := by
 have := h.step hs hx hy hxy hd
 by_cases hc : Cross c0 x y
 ·rw [if_pos hc] at this
  exact ⟨by omega, ⟨fun _ => hc, fun _ => by omega⟩, by omega⟩
 ·rw [if_neg hc] at this
  exact ⟨by omega, ⟨fun h => by omega, fun h => absurd h hc⟩, by omega⟩
/-- The count falls. -/
theorem Top.mono {X M a e d : Rat} (hs : Small M a e d) (hd : 0 < d) {c0 c1 : Rat → Rat} {l : List (Rat → Rat)} (h : Top X M a e c0 c1 l) {x y : Rat} (hx : ab x ≤ X) (hy : ab y ≤ X) (hxy : x ≤ y) :
  V (c0 :: c1 :: l) y ≤ V (c0 :: c1 :: l) x := by
 have := mono_of_small (X := X) hd (fun z => (V (c0 :: c1 :: l) z : Int)) (fun x y hx hy h1 h2 => by have := (h.small hs hx hy h1 h2).1; omega) x y hx hy hxy
 omega
/-- It falls before a root. -/
theorem Top.root {X M a e d : Rat} (hs : Small M a e d) (hd : 0 < d) {c0 c1 : Rat → Rat} {l : List (Rat → Rat)} (h : Top X M a e c0 c1 l) {x y : Rat} (hx : ab x ≤ X) (hy : ab y ≤ X) (hxy : x < y) (h0 : c0 y = 0) :
  V (c0 :: c1 :: l) y < V (c0 :: c1 :: l) x := by
 have near : ∀ z, ab z ≤ X → z < y → y - z ≤ d → V (c0 :: c1 :: l) y < V (c0 :: c1 :: l) z := by
  intro z hz hzy hd2
  have hn : ¬ sg c0 z y := fun hh => by unfold sg at hh; rw [h0, Rat.mul_zero] at hh; grind
  refine (h.small hs hz hy hzy hd2).2.1.2 ⟨fun hz0 => ?_, hn⟩
  rcases (h.slope hs hz hy hzy hd2 hn).2 with ⟨_, k⟩ | ⟨_, k⟩ <;> grind
 by_cases h1 : y - x ≤ d
 ·exact near x hx hxy h1
 ·have hz : ab (y - d) ≤ X := by
   have a1 := ab_le y
   have a2 := ab_neg_le x
   refine ab_le_of (by grind) (by grind)
  have s1 := near (y - d) hz (by grind) (by grind)
  have s2 := h.mono hs hd hx hz (show x ≤ y - d by grind)
  omega
theorem cross_factor {X M a e d : Rat} (hs : Small M a e d) {x y : Rat} (hx : ab x ≤ X) (hy : ab y ≤ X) (hd : ab (x - y) ≤ d) {f g H : Rat → Rat} (hg : Fn X M g) (hH : Fn X M H) (hf : ∀ z, f z = g z * H z) (hc : Cop X e g H) (h : Cross g x y) : Cross f x y := by
 have hM0 : 0 ≤ M := by have := hs.M1; grind
 have hh := hs.h1
 have he := hs.e0
 have ng := near hg hM0 hx hy hd h.2
 have Hx : e ≤ ab (H x) := (hc x hx).elim (fun h => by grind) id
 have sH : sg H x y := Classical.byContradiction fun hn => by
  have nH := near hH hM0 hx hy hd hn
  grind
 refine ⟨fun h0 => ?_, fun h0 => ?_⟩
 ·rw [hf x] at h0
  rcases Rat.mul_eq_zero.1 h0 with h1 | h1
  ·exact h.1 h1
  ·rw [h1, ab_zero] at Hx; grind
 ·apply h.2
  unfold sg at h0 sH ⊢
  rw [hf x, hf y, show g x * H x * (g y * H y) = (g x * g y) * (H x * H y) by grind] at h0
  rcases mul_sgn h0 with ⟨h1, _⟩ | ⟨_, h1⟩
  ·exact h1
  ·grind
/-- A factor's count falls no more than the whole's. -/
theorem count_le {X M a e d : Rat} (hs : Small M a e d) (hd : 0 < d) {f f1 g g1 H : Rat → Rat} {l m : List (Rat → Rat)} (hF : Top X M a e f f1 l) (hG : Top X M a e g g1 m) (hH : Fn X M H) (hf : ∀ z, f z = g z * H z) (hc : Cop X e g H)
  {x y : Rat} (hx : ab x ≤ X) (hy : ab y ≤ X) (hxy : x ≤ y) : V (g :: g1 :: m) x + V (f :: f1 :: l) y ≤ V (f :: f1 :: l) x + V (g :: g1 :: m) y := by
 have := mono_of_small (X := X) hd (fun z => (V (f :: f1 :: l) z : Int) - V (g :: g1 :: m) z) (fun x y hx hy h1 h2 => by
  have hab : ab (x - y) ≤ d := by rw [ab_nonpos (by grind)]; grind
  obtain ⟨a1, a2, a3⟩ := hF.small hs hx hy h1 h2
  obtain ⟨b1, b2, b3⟩ := hG.small hs hx hy h1 h2
  by_cases hcr : Cross g x y
  ·have := a2.2 (cross_factor hs hx hy hab hG.ch.fn.1 hH hf hc hcr)
   omega
  ·have : ¬ V (g :: g1 :: m) y < V (g :: g1 :: m) x := fun h => hcr (b2.1 h)
   omega) x y hx hy hxy
 omega
/-- On a small step on which both counts fall, that of the common factor falls. -/
theorem both_fall {X M a e d : Rat} (hs : Small M a e d) {f f1 q q1 g g1 H K : Rat → Rat} {l n m : List (Rat → Rat)} (hF : Top X M a e f f1 l) (hQ : Top X M a e q q1 n) (hG : Top X M a e g g1 m) (hH : Fn X M H) (hK : Fn X M K)
  (hf : ∀ z, f z = g z * H z) (hq : ∀ z, q z = g z * K z) (hc : Cop X e H K) {x y : Rat} (hx : ab x ≤ X) (hy : ab y ≤ X) (hxy : x < y) (hd : y - x ≤ d)
  (h1 : V (f :: f1 :: l) y < V (f :: f1 :: l) x) (h2 : V (q :: q1 :: n) y < V (q :: q1 :: n) x) : V (g :: g1 :: m) y < V (g :: g1 :: m) x := by
 have hab : ab (x - y) ≤ d := by rw [ab_nonpos (by grind)]; grind
 have hM0 : 0 ≤ M := by have := hs.M1; grind
 have hh := hs.h1
 have c1 := (hF.small hs hx hy hxy hd).2.1.1 h1
 have c2 := (hQ.small hs hx hy hxy hd).2.1.1 h2
 refine (hG.small hs hx hy hxy hd).2.1.2 (Classical.byContradiction fun hn => ?_)
 have g0 : g x ≠ 0 := fun h0 => c1.1 (by rw [hf x, h0, Rat.zero_mul])
 have gs : sg g x y := Classical.byContradiction fun h => hn ⟨g0, h⟩
 have no : ∀ (F L : Rat → Rat), (∀ z, F z = g z * L z) → ¬ sg F x y → ¬ sg L x y := by
  intro F L hFL h0 hL
  apply h0
  unfold sg at gs hL ⊢
  rw [hFL x, hFL y, show g x * L x * (g y * L y) = (g x * g y) * (L x * L y) by grind]
  exact Rat.mul_pos gs hL
 have n1 := near hH hM0 hx hy hab (no f H hf c1.2)
 have n2 := near hK hM0 hx hy hab (no q K hq c2.2)
 rcases hc x hx with h | h <;> grind
end Sp
end
section
/- Bounds of polynomials on an interval; lower bounds by Euclid's steps. -/
namespace Sp

/-- The three bounds of a polynomial of length n with coefficients up to A. -/
theorem poly_bnd {A X : Rat} (hA : 0 ≤ A) (hX : 1 ≤ X) : ∀ (l : List Rat), (∀ c ∈ l, ab c ≤ A) →
  (∀ x, ab x ≤ X → ab (ev l x) ≤ A * (4 * X) ^ l.length) ∧ (∀ x, ab x ≤ X → ab (ev (der l) x) ≤ A * (4 * X) ^ l.length) ∧
  (∀ x y, ab x ≤ X → ab y ≤ X → ab (ev l x - ev l y) ≤ A * (4 * X) ^ l.length * ab (x - y)) ∧
  (∀ x y, ab x ≤ X → ab y ≤ X → ab (ev l y - ev l x - ev (der l) x * (y - x)) ≤ A * (4 * X) ^ l.length * (ab (y - x) * ab (y - x)))
 | [], _ => by
  have h1 : ([] : List Rat).length = 0 := rfl
  simp only [h1, Rat.pow_zero, Rat.mul_one]
  refine ⟨fun x _ => ?_, fun x _ => ?_, fun x y _ _ => ?_, fun x y _ _ => ?_⟩
  ·rw [ev_nil, ab_zero]; exact hA
  ·show ab (ev [] x) ≤ A
   rw [ev_nil, ab_zero]; exact hA
  ·rw [ev_nil, ev_nil, show (0 : Rat) - 0 = 0 by grind, ab_zero]; exact Rat.mul_nonneg hA (ab_nonneg _)
  ·show ab (ev [] y - ev [] x - ev [] x * (y - x)) ≤ _
   rw [ev_nil, ev_nil, show (0 : Rat) - 0 - 0 * (y - x) = 0 by grind, ab_zero]; exact Rat.mul_nonneg hA (Rat.mul_nonneg (ab_nonneg _) (ab_nonneg _))
 | c :: l, h => by
  obtain ⟨i1, i2, i3, i4⟩ := poly_bnd hA hX l (fun d hd => h d (List.mem_cons_of_mem _ hd))
  have hc := h c List.mem_cons_self
  have hX0 : 0 ≤ X := by grind
  have hp : 0 ≤ A * (4 * X) ^ l.length := Rat.mul_nonneg hA (pow_le (show (0 : Rat) ≤ 4 * X by grind) (show 4 * X ≤ 4 * X by grind) l.length).1
  have hone : A ≤ A * (4 * X) ^ l.length := by
   have : ∀ n : Nat, (1 : Rat) ≤ (4 * X) ^ n := fun n => by
    induction n with
    | zero => rw [Rat.pow_zero]; grind
    | succ n ih =>
     rw [Rat.pow_succ]
     have := mul_le_mul' (show (1 : Rat) ≤ (4 * X) ^ n from ih) (show (1 : Rat) ≤ 4 * X by grind) (by grind) (by grind)
     grind
   have := Rat.mul_le_mul_of_nonneg_left (this l.length) hA
   grind
  have hlen : (c :: l).length = l.length + 1 := rfl
  rw [hlen, Rat.pow_succ, ← Rat.mul_assoc]
  generalize A * (4 * X) ^ l.length = P at *
  have hPX : P ≤ P * X := by have := Rat.mul_le_mul_of_nonneg_left hX hp; grind
  have e4 : P * (4 * X) = 4 * (P * X) := by grind
  rw [e4]
  have hx1 : ∀ x r : Rat, ab x ≤ X → ab r ≤ P → ab (x * r) ≤ P * X := fun x r hx hr => by
   rw [ab_mul, Rat.mul_comm P X]
   exact mul_le_mul' hx hr (ab_nonneg _) hp
  refine ⟨fun x hx => ?_, fun x hx => ?_, fun x y hx hy => ?_, fun x y hx hy => ?_⟩
  ·rw [ev_cons]
   have := ab_add c (x * ev l x)
   have := hx1 x _ hx (i1 x hx)
   grind
  ·rw [ev_der_cons]
   have := ab_add (ev l x) (x * ev (der l) x)
   have := hx1 x _ hx (i2 x hx)
   have := i1 x hx
   grind
  ·rw [ev_cons, ev_cons, show c + x * ev l x - (c + y * ev l y) = x * (ev l x - ev l y) + (x - y) * ev l y by grind]
   have a1 := ab_add (x * (ev l x - ev l y)) ((x - y) * ev l y)
   rw [ab_mul, ab_mul] at a1
   have a2 := mul_le_mul' hx (i3 x y hx hy) (ab_nonneg _) (Rat.mul_nonneg hp (ab_nonneg _))
   have a3 := Rat.mul_le_mul_of_nonneg_left (i1 y hy) (ab_nonneg (x - y))
   have a4 := Rat.mul_le_mul_of_nonneg_right hPX (ab_nonneg (x - y))
   have a5 : 0 ≤ P * X * ab (x - y) := Rat.mul_nonneg (Rat.mul_nonneg hp hX0) (ab_nonneg _)
   grind
  ·rw [ev_cons, ev_cons, ev_der_cons, show c + y * ev l y - (c + x * ev l x) - (ev l x + x * ev (der l) x) * (y - x) = y * (ev l y - ev l x - ev (der l) x * (y - x)) + (y - x) * (y - x) * ev (der l) x by grind]
   have a1 := ab_add (y * (ev l y - ev l x - ev (der l) x * (y - x))) ((y - x) * (y - x) * ev (der l) x)
   rw [ab_mul, ab_mul, ab_mul] at a1
   have hsq : 0 ≤ ab (y - x) * ab (y - x) := Rat.mul_nonneg (ab_nonneg _) (ab_nonneg _)
   have a2 := mul_le_mul' hy (i4 x y hx hy) (ab_nonneg _) (Rat.mul_nonneg hp hsq)
   have a3 := Rat.mul_le_mul_of_nonneg_left (i2 x hx) hsq
   have a4 := Rat.mul_le_mul_of_nonneg_right hPX hsq
   have a5 : 0 ≤ P * X * (ab (y - x) * ab (y - x)) := Rat.mul_nonneg (Rat.mul_nonneg hp hX0) hsq
   grind
theorem poly_fn {A X : Rat} (hA : 0 ≤ A) (hX : 1 ≤ X) {l : List Rat} (h : ∀ c ∈ l, ab c ≤ A) : Fn X (A * (4 * X) ^ l.length) (ev l) :=
 ⟨(poly_bnd hA hX l h).1, (poly_bnd hA hX l h).2.2.1⟩
theorem Fn.mono {X M M' : Rat} {f : Rat → Rat} (h : Fn X M f) (hm : M ≤ M') : Fn X M' f :=
 ⟨fun x hx => by have := h.bnd x hx; grind, fun x y hx hy => by have := h.lip x y hx hy; have := Rat.mul_le_mul_of_nonneg_right hm (ab_nonneg (x - y)); grind⟩
/-- One step of Euclid's: the lower bound goes up. -/
theorem Cop.euclid {X M a e e' : Rat} {f g h : Rat → Rat} (hM : 0 ≤ M) (he : e' ≤ e) (he2 : M * e' + e' ≤ a * e) (ha : 0 < a) (Q : Rat → Rat) (al : Rat) (hal : a ≤ al) (hQ : ∀ x, ab x ≤ X → ab (Q x) ≤ M) (rel : ∀ x, f x = Q x * g x - al * h x) (hc : Cop X e g h) (e0 : 0 < e) : Cop X e' f g := by
 intro x hx
 by_cases h1 : e' ≤ ab (f x)
 ·exact .inl h1
 ·by_cases h2 : e' ≤ ab (g x)
  ·exact .inr h2
  ·exfalso
   have hh : e ≤ ab (h x) := (hc x hx).elim (fun h => by grind) id
   have r := rel x
   have b1 : ab (Q x * g x) ≤ M * e' := by
    rw [ab_mul]
    have e1 : 0 ≤ e' := by have := ab_nonneg (g x); grind
    exact mul_le_mul' (hQ x hx) (by grind) (ab_nonneg _) (by grind)
   have b2 : a * e ≤ al * ab (h x) := mul_le_mul' hal hh (by grind) (ab_nonneg _)
   have b3 : al * ab (h x) = ab (al * h x) := by rw [ab_mul, ab_nn (show 0 ≤ al by grind)]
   have b4 : al * h x = Q x * g x - f x := by grind
   rw [b3, b4] at b2
   have b5 := ab_add (Q x * g x) (-f x)
   rw [ab_neg] at b5
   have b6 : Q x * g x - f x = Q x * g x + -f x := by grind
   rw [b6] at b2
   grind
end Sp
end
section
/- Divisors of polynomials, by values. -/
namespace Sp

/-- a divides b. -/
def Dv (a b : List Rat) : Prop := ∃ c, ∀ x, ev b x = ev a x * ev c x
/-- a and b have no divisor in common. -/
def Co (a b : List Rat) : Prop := ∃ u v, ∀ x, ev u x * ev a x + ev v x * ev b x = 1
theorem Dv.refl (a : List Rat) : Dv a a := ⟨[1], fun x => by rw [ev_cons, ev_nil]; grind⟩
theorem Dv.trans {a b c : List Rat} (h1 : Dv a b) (h2 : Dv b c) : Dv a c := by
 obtain ⟨u, hu⟩ := h1
 obtain ⟨v, hv⟩ := h2
 exact ⟨mul u v, fun x => by rw [ev_mul, hv, hu]; grind⟩
theorem Dv.mul_right {a b : List Rat} (h : Dv a b) (c : List Rat) : Dv a (mul b c) := by
 obtain ⟨u, hu⟩ := h
 exact ⟨mul u c, fun x => by rw [ev_mul, ev_mul, hu]; grind⟩
theorem Dv.add {a b c : List Rat} (h1 : Dv a b) (h2 : Dv a c) : Dv a (add b c) := by
 obtain ⟨u, hu⟩ := h1
 obtain ⟨v, hv⟩ := h2
 exact ⟨Sp.add u v, fun x => by rw [ev_add, ev_add, hu, hv]; grind⟩
theorem Dv.of {a b b' : List Rat} (h : Dv a b) (e : ∀ x, ev b x = ev b' x) : Dv a b' := by
 obtain ⟨u, hu⟩ := h
 exact ⟨u, fun x => by rw [← e, hu]⟩
theorem Co.symm {a b : List Rat} (h : Co a b) : Co b a := by
 obtain ⟨u, v, h⟩ := h
 exact ⟨v, u, fun x => by have := h x; grind⟩
/-- What is coprime to one factor divides the other. -/
theorem Co.dv {a b c : List Rat} (h : Co a b) (hd : Dv a (mul b c)) : Dv a c := by
 obtain ⟨u, v, h⟩ := h
 obtain ⟨w, hw⟩ := hd
 refine ⟨Sp.add (mul u c) (mul v w), fun x => ?_⟩
 have h1 := h x
 have h2 := hw x
 rw [ev_mul] at h2
 rw [ev_add, ev_mul, ev_mul]
 have : ev c x = (ev u x * ev a x + ev v x * ev b x) * ev c x := by rw [h1]; grind
 grind
theorem Co.of_dv {a b d : List Rat} (h : Co a b) (hd : Dv d a) : Co d b := by
 obtain ⟨u, v, h⟩ := h
 obtain ⟨w, hw⟩ := hd
 exact ⟨mul u w, v, fun x => by rw [ev_mul]; have := h x; have := hw x; grind⟩
theorem Co.mul {a b c : List Rat} (h1 : Co a b) (h2 : Co a c) : Co a (mul b c) := by
 obtain ⟨u, v, h1⟩ := h1
 obtain ⟨s, t, h2⟩ := h2
 refine ⟨Sp.add (Sp.add (Sp.mul (Sp.mul u s) a) (Sp.mul (Sp.mul u t) c)) (Sp.mul (Sp.mul v s) b), Sp.mul v t, fun x => ?_⟩
 simp only [ev_add, ev_mul]
 have a1 := h1 x
 have a2 := h2 x
 have : (ev u x * ev a x + ev v x * ev b x) * (ev s x * ev a x + ev t x * ev c x) = 1 := by rw [a1, a2]; grind
 grind
/-- Cancelling: values that agree but where a factor is nought agree everywhere. -/
theorem cancel {g a b : List Rat} (hg : ∃ c ∈ g, c ≠ 0) (h : ∀ x, ev g x * ev a x = ev g x * ev b x) : ∀ x, ev a x = ev b x := by
 have hz : ∀ c ∈ sub a b, c = 0 := Classical.byContradiction fun hn => by
  have hn : ∃ c ∈ sub a b, c ≠ 0 := by
   obtain ⟨c, hc⟩ := Classical.not_forall.1 hn
   obtain ⟨hc1, hc2⟩ := Classical.not_imp.1 hc
   exact ⟨c, hc1, hc2⟩
  obtain ⟨X, e, hX, he, h1⟩ := far _ hn
  obtain ⟨Y, e2, hY, he2, h2⟩ := far _ hg
  have k1 := h1 (X + Y) (by grind)
  have k2 := h2 (X + Y) (by grind)
  have k3 := h (X + Y)
  rw [ev_sub] at k1
  have n1 : ev g (X + Y) ≠ 0 := fun hh => by rw [hh, ab_zero] at k2; grind
  have n2 : ev a (X + Y) - ev b (X + Y) = 0 := by
   have : ev g (X + Y) * (ev a (X + Y) - ev b (X + Y)) = 0 := by grind
   rcases Rat.mul_eq_zero.1 this with h | h
   ·exact absurd h n1
   ·exact h
  rw [n2, ab_zero] at k1
  grind
 intro x
 have := ev_zero hz x
 rw [ev_sub] at this
 grind
theorem ev_der_pw (d : List Rat) (x : Rat) : ∀ n : Nat, ev d x * ev (der (pw d n)) x = (n : Rat) * (ev d x ^ n * ev (der d) x)
 | 0 => by
  show ev d x * ev (der [1]) x = _
  have h0 : ev (der [1]) x = 0 := by rw [ev_der_cons, ev_nil]; show 0 + x * ev [] x = 0; rw [ev_nil]; grind
  rw [h0]
  have : ((0 : Nat) : Rat) = 0 := rfl
  rw [this]
  grind
 | n + 1 => by
  have ih := ev_der_pw d x n
  show ev d x * ev (der (mul d (pw d n))) x = _
  rw [ev_der_mul, ev_pw]
  have e : ((n + 1 : Nat) : Rat) = (n : Rat) + 1 := by rw [Rat.natCast_add]; rfl
  rw [e, Rat.pow_succ]
  grind
theorem pow_ne {a : Rat} (h : a ≠ 0) : ∀ n : Nat, a ^ n ≠ 0
 | 0 => by rw [Rat.pow_zero]; grind
 | n + 1 => fun hh => by
  rw [Rat.pow_succ] at hh
  rcases Rat.mul_eq_zero.1 hh with h1 | h1
  ·exact pow_ne h n h1
  ·exact h h1
theorem pw_nz {d : List Rat} (hd : ∃ c ∈ d, c ≠ 0) (n : Nat) : ∃ c ∈ pw d n, c ≠ 0 := Classical.byContradiction fun hn => by
 have hz : ∀ c ∈ pw d n, c = 0 := fun c hc => Classical.byContradiction fun h => hn ⟨c, hc, h⟩
 obtain ⟨X, e, hX, he, h1⟩ := far _ hd
 have := ev_zero hz X
 rw [ev_pw] at this
 have h2 := h1 X (by grind)
 have n1 : ev d X ≠ 0 := fun hh => by rw [hh, ab_zero] at h2; grind
 exact pow_ne n1 n this
/-- **The square-free part has no divisor in common with its derivative.** -/
theorem free_sep {p g P C d A B : List Rat} {c0 : Rat} {l : List Rat} (hd : d = c0 :: l) (hl : ∃ c ∈ l, c ≠ 0) (hg : ∃ c ∈ g, c ≠ 0) (hp : ∀ x, ev p x = ev g x * ev P x) (hp' : ∀ x, ev (der p) x = ev g x * ev C x) (hco : Co P C)
  (hP : ∀ x, ev P x = ev d x * ev A x) (hP' : ∀ x, ev (der P) x = ev d x * ev B x) : False := by
 have hdn : ∃ c ∈ d, c ≠ 0 := by obtain ⟨c, hc, hn⟩ := hl; exact ⟨c, by rw [hd]; exact List.mem_cons_of_mem _ hc, hn⟩
 have hdC : Co d C := hco.of_dv ⟨A, hP⟩
 have e1 : ∀ x, ev g x * ev C x = ev (der g) x * ev P x + ev g x * ev (der P) x := fun x => by
  rw [← hp' x, ← ev_der_mul]
  exact der_eq (fun y => by rw [hp y, ev_mul]) x
 have e2 : ∀ x, ev (der d) x * ev A x = ev d x * (ev B x - ev (der A) x) := fun x => by
  have : ev (der P) x = ev (der (mul d A)) x := der_eq (fun y => by rw [hP y, ev_mul]) x
  rw [hP' x, ev_der_mul] at this
  grind
 refine no_descent hg (c0 := c0) hl fun j => ?_
 rw [← hd]
 induction j with
 | zero => exact ⟨g, fun x => by rw [Rat.pow_zero]; grind⟩
 | succ j ih =>
  obtain ⟨g1, h1⟩ := ih
  have e3 : ∀ x, ev (der g) x = ev (der (pw d j)) x * ev g1 x + ev d x ^ j * ev (der g1) x := fun x => by
   have : ev (der g) x = ev (der (mul (pw d j) g1)) x := der_eq (fun y => by rw [h1 y, ev_mul, ev_pw]) x
   rw [this, ev_der_mul, ev_pw]
  have key : ∀ x, ev (pw d j) x * ev (mul g1 C) x = ev (pw d j) x * ev (mul d (add (add (smul (j : Rat) (mul g1 (sub B (der A)))) (mul (der g1) A)) (mul g1 B))) x := fun x => by
   have k1 := e1 x
   have k2 := e2 x
   have k3 := e3 x
   have k4 := ev_der_pw d x j
   have k5 := hP x
   have k6 := hP' x
   have k7 := h1 x
   simp only [ev_mul, ev_add, ev_smul, ev_sub, ev_pw]
   have m1 : ev d x * ev (der g) x = ev d x ^ j * ((j : Rat) * ev (der d) x * ev g1 x + ev d x * ev (der g1) x) := by rw [k3]; grind
   have m2 : ev d x ^ j * (ev g1 x * ev C x) = (ev d x * ev (der g) x) * ev A x + ev d x ^ j * ev g1 x * (ev d x * ev B x) := by
    have : ev d x ^ j * (ev g1 x * ev C x) = ev g x * ev C x := by rw [k7]; grind
    rw [this, k1, k5, k6, k7]; grind
   rw [m2, m1]
   have m3 : (j : Rat) * ev (der d) x * ev g1 x * ev A x = (j : Rat) * ev g1 x * (ev d x * (ev B x - ev (der A) x)) := by rw [← k2]; grind
   grind
  have hc := cancel (pw_nz hdn j) key
  have hdv : Dv d (mul g1 C) := ⟨add (add (smul (j : Rat) (mul g1 (sub B (der A)))) (mul (der g1) A)) (mul g1 B), fun x => by rw [hc x, ev_mul]⟩
  have hdv2 : Dv d (mul C g1) := hdv.of fun x => by rw [ev_mul, ev_mul]; grind
  obtain ⟨g2, h2⟩ := hdC.dv hdv2
  exact ⟨g2, fun x => by rw [h1 x, h2 x, Rat.pow_succ]; grind⟩
theorem pow_add' (x : Rat) (m : Nat) : ∀ n : Nat, x ^ (m + n) = x ^ m * x ^ n
 | 0 => by rw [Nat.add_zero, Rat.pow_zero]; grind
 | n + 1 => by rw [← Nat.add_assoc, Rat.pow_succ, Rat.pow_succ, pow_add' x m n]; grind
def Nz (l : List Rat) : Prop := ∃ c ∈ l, c ≠ 0
theorem nz_of_ev {l : List Rat} {x : Rat} (h : ev l x ≠ 0) : Nz l := Classical.byContradiction fun hn => h (ev_zero (fun c hc => Classical.byContradiction fun h => hn ⟨c, hc, h⟩) x)
theorem nz_ex {l : List Rat} (h : Nz l) : ∃ x, ev l x ≠ 0 := by
 obtain ⟨X, e, hX, he, h1⟩ := far _ h
 exact ⟨X, fun hh => by have := h1 X (by grind); rw [hh, ab_zero] at this; grind⟩
theorem ev_snoc (a : Rat) (x : Rat) : ∀ (l : List Rat), ev (l ++ [a]) x = ev l x + x ^ l.length * a
 | [] => by
  show ev [a] x = ev [] x + x ^ 0 * a
  rw [ev_cons, ev_nil, Rat.pow_zero]; grind
 | c :: l => by
  rw [List.cons_append, ev_cons, ev_snoc a x l, ev_cons, List.length_cons, Rat.pow_succ]; grind
theorem ev_shift (l : List Rat) (x : Rat) : ∀ (k : Nat), ev (List.replicate k 0 ++ l) x = x ^ k * ev l x
 | 0 => by rw [List.replicate_zero, List.nil_append, Rat.pow_zero]; grind
 | k + 1 => by rw [List.replicate_succ, List.cons_append, ev_cons, ev_shift l x k, Rat.pow_succ]; grind
theorem add_length : ∀ (p q : List Rat), (add p q).length = max p.length q.length
 | [], q => by simp [add]
 | p :: ps, [] => by simp [add]
 | p :: ps, q :: qs => by simp [add, add_length ps qs]
/-- A list without noughts at its end. -/
theorem trim (l : List Rat) : ∃ l' : List Rat, (∀ x, ev l' x = ev l x) ∧ l'.length ≤ l.length ∧ (l' = [] ∨ ∃ m b, l' = m ++ [b] ∧ b ≠ 0) := by
 induction l with
 | nil => exact ⟨[], fun _ => rfl, Nat.le_refl _, .inl rfl⟩
 | cons c l ih =>
  obtain ⟨l', h1, h2, h3⟩ := ih
  rcases h3 with rfl | ⟨m, b, rfl, hb⟩
  ·by_cases hc : c = 0
   ·refine ⟨[], fun x => ?_, by simp, .inl rfl⟩
    rw [ev_cons, ← h1, ev_nil, hc]; grind
   ·refine ⟨[c], fun x => ?_, by simp, .inr ⟨[], c, rfl, hc⟩⟩
    rw [ev_cons, ev_cons, h1]
  ·refine ⟨c :: (m ++ [b]), fun x => ?_, by simp at h2 ⊢; omega, .inr ⟨c :: m, b, rfl, hb⟩⟩
   rw [ev_cons, ev_cons, h1]
/-- Division with a remainder. -/
theorem divide (m : List Rat) (b : Rat) (hb : b ≠ 0) : ∀ (n : Nat) (a : List Rat), a.length ≤ n → ∃ q r : List Rat, (∀ x, ev a x = ev (m ++ [b]) x * ev q x + ev r x) ∧ r.length ≤ m.length
 | 0, a, h => ⟨[], a, fun x => by rw [ev_nil]; grind, by omega⟩
 | n + 1, a, h => by
  by_cases hl : a.length ≤ m.length
  ·exact ⟨[], a, fun x => by rw [ev_nil]; grind, hl⟩
  ·have hne : a ≠ [] := fun e => by rw [e] at hl; simp at hl
   obtain ⟨as, al, rfl⟩ : ∃ as al, a = as ++ [al] := ⟨a.dropLast, a.getLast hne, (List.dropLast_concat_getLast hne).symm⟩
   simp only [List.length_append, List.length_cons, List.length_nil] at h hl
   have hlen : (sub as (smul (al / b) (List.replicate (as.length - m.length) 0 ++ m))).length ≤ n := by
    unfold sub neg
    rw [add_length]
    simp [smul]
    omega
   obtain ⟨q, r, h1, h2⟩ := divide m b hb n _ hlen
   refine ⟨add q (smul (al / b) (List.replicate (as.length - m.length) 0 ++ [1])), r, fun x => ?_, h2⟩
   have k := h1 x
   rw [ev_sub, ev_smul, ev_shift] at k
   rw [ev_snoc, ev_add, ev_smul, ev_shift, ev_snoc]
   rw [ev_snoc] at k
   have e1 : ev [1] x = 1 := by rw [ev_cons, ev_nil]; grind
   rw [e1]
   have e2 : x ^ as.length = x ^ (as.length - m.length) * x ^ m.length := by
    rw [← pow_add']; congr 1; omega
   have e3 : al / b * b = al := Rat.div_mul_cancel hb
   rw [e2]
   generalize al / b = t at *
   subst e3
   grind
/-- The greatest common divisor. -/
theorem gcd_ex : ∀ (n : Nat) (a b : List Rat), b.length ≤ n → ∃ g u v : List Rat, (∀ x, ev g x = ev u x * ev a x + ev v x * ev b x) ∧ Dv g a ∧ Dv g b := by
 intro n
 induction n with
 | zero =>
  intro a b hb
  have : b = [] := List.eq_nil_of_length_eq_zero (by omega)
  subst this
  exact ⟨a, [1], [], fun x => by rw [ev_cons, ev_nil]; grind, Dv.refl a, [], fun x => by rw [ev_nil]; grind⟩
 | succ n ih =>
  intro a b hb
  obtain ⟨b', h1, h2, h3⟩ := trim b
  rcases h3 with rfl | ⟨m, t, rfl, ht⟩
  ·exact ⟨a, [1], [], fun x => by rw [ev_cons, ev_nil]; grind, Dv.refl a, [], fun x => by rw [← h1, ev_nil]; grind⟩
  ·obtain ⟨q, r, h4, h5⟩ := divide m t ht a.length a (Nat.le_refl _)
   obtain ⟨g, u, v, h6, h7, h8⟩ := ih (m ++ [t]) r (by simp at h2; omega)
   refine ⟨g, v, sub u (mul v q), fun x => ?_, ?_, h7.of h1⟩
   ·rw [h6 x, ev_sub, ev_mul, h4 x, ← h1]; grind
   ·exact ((h7.mul_right q).add h8).of fun x => by rw [ev_add, ev_mul, h4 x]
/-- Coprime, or a divisor in common that is no constant. -/
theorem co_or {a : List Rat} (ha : Nz a) (b : List Rat) : Co a b ∨ ∃ c0 l, Nz l ∧ Dv (c0 :: l) a ∧ Dv (c0 :: l) b := by
 obtain ⟨g, u, v, h1, h2, h3⟩ := gcd_ex b.length a b (Nat.le_refl _)
 obtain ⟨g', k1, k2, k3⟩ := trim g
 rcases k3 with rfl | ⟨m, t, rfl, ht⟩
 ·exfalso
  obtain ⟨x, hx⟩ := nz_ex ha
  obtain ⟨c, hc⟩ := h2
  apply hx
  rw [hc x, ← k1, ev_nil]; grind
 ·have hd : ∀ {z : List Rat}, Dv g z → Dv (m ++ [t]) z := fun ⟨c, hc⟩ => ⟨c, fun x => by rw [hc x, k1]⟩
  cases m with
  | nil =>
   left
   refine ⟨smul (1 / t) u, smul (1 / t) v, fun x => ?_⟩
   have e := h1 x
   rw [← k1, List.nil_append, ev_cons, ev_nil] at e
   rw [ev_smul, ev_smul]
   have e3 : 1 / t * t = 1 := Rat.div_mul_cancel ht
   have : 1 / t * (ev u x * ev a x + ev v x * ev b x) = 1 := by rw [← e]; grind
   grind
  | cons c m => exact .inr ⟨c, m ++ [t], ⟨t, by simp, ht⟩, hd h2, hd h3⟩
theorem no_unit {c0 : Rat} {l : List Rat} (hl : Nz l) {w : List Rat} (h : ∀ x, ev (c0 :: l) x * ev w x = 1) : False := by
 refine no_descent (g := [1]) ⟨1, by simp, by grind⟩ (c0 := c0) hl fun j => ⟨pw w j, fun x => ?_⟩
 rw [ev_pw, ← mul_pow', h x, ev_cons, ev_nil]
 have : ∀ n : Nat, (1 : Rat) ^ n = 1 := fun n => by
  induction n with
  | zero => rw [Rat.pow_zero]
  | succ n ih => rw [Rat.pow_succ, ih]; grind
 rw [this]; grind
/-- A divisor of what is square-free is square-free. -/
theorem co_sq_dv {P d : List Rat} (h : Co P (der P)) (hd : Dv d P) : Co d (der d) := by
 obtain ⟨A, hA⟩ := hd
 obtain ⟨u, v, h⟩ := h
 refine ⟨add (mul u A) (mul v (der A)), mul v A, fun x => ?_⟩
 have e : ev (der P) x = ev (der (mul d A)) x := der_eq (fun y => by rw [hA y, ev_mul]) x
 rw [ev_der_mul] at e
 have k := h x
 rw [e, hA x] at k
 simp only [ev_add, ev_mul]
 grind
/-- Factors of what is square-free are coprime. -/
theorem co_parts {P G H : List Rat} (h : Co P (der P)) (hP : ∀ x, ev P x = ev G x * ev H x) : Co G H := by
 obtain ⟨u, v, h⟩ := h
 refine ⟨add (mul u H) (mul v (der H)), mul v (der G), fun x => ?_⟩
 have e : ev (der P) x = ev (der (mul G H)) x := der_eq (fun y => by rw [hP y, ev_mul]) x
 rw [ev_der_mul] at e
 have k := h x
 rw [e, hP x] at k
 simp only [ev_add, ev_mul]
 grind
/-- **A square-free divisor divides the square-free part.** -/
theorem sq_part {p g P C d : List Rat} (hg : Nz g) (hPn : Nz P) (hdn : Nz d) (hp : ∀ x, ev p x = ev g x * ev P x) (hp' : ∀ x, ev (der p) x = ev g x * ev C x) (hco : Co P C) (hd : Co d (der d)) (hdv : Dv d p) : Dv d P := by
 obtain ⟨e, u, v, h1, ⟨f, hf⟩, ⟨A, hA⟩⟩ := gcd_ex P.length d P (Nat.le_refl _)
 have hen : Nz e := by
  obtain ⟨x, hx⟩ := nz_ex hdn
  exact nz_of_ev (x := x) fun h => hx (by rw [hf x, h]; grind)
 have hfn : Nz f := by
  obtain ⟨x, hx⟩ := nz_ex hdn
  exact nz_of_ev (x := x) fun h => hx (by rw [hf x, h]; grind)
 have cfA : Co f A := by
  refine ⟨u, v, ?_⟩
  have := cancel hen (a := add (mul u f) (mul v A)) (b := [1]) fun x => by
   have k := h1 x
   rw [ev_add, ev_mul, ev_mul, ev_cons, ev_nil]
   rw [hf x, hA x] at k
   grind
  intro x
  have k := this x
  rw [ev_add, ev_mul, ev_mul, ev_cons, ev_nil] at k
  grind
 have hfe : Co f e := (co_parts hd (G := f) (H := e) fun x => by rw [hf x]; grind)
 have hff : Co f (der f) := co_sq_dv hd ⟨e, fun x => by rw [hf x]; grind⟩
 have cfP0 := hfe.mul cfA
 have cfP : Co f P := by
  obtain ⟨s, t, k⟩ := cfP0
  exact ⟨s, t, fun x => by have := k x; rw [ev_mul] at this; rw [hA x]; exact this⟩
 have hfg : Dv f g := by
  have h3 : Dv f p := Dv.trans ⟨e, fun x => by rw [hf x]; grind⟩ hdv
  exact cfP.dv (h3.of fun x => by rw [hp x, ev_mul]; grind)
 -- f is a constant
 obtain ⟨f', k1, k2, k3⟩ := trim f
 rcases k3 with rfl | ⟨m, t, rfl, ht⟩
 ·exfalso
  obtain ⟨x, hx⟩ := nz_ex hfn
  exact hx (by rw [← k1, ev_nil])
 cases m with
 | nil =>
  refine ⟨smul (1 / t) A, fun x => ?_⟩
  have e1 := k1 x
  rw [List.nil_append, ev_cons, ev_nil] at e1
  have e3 : t * (1 / t) = 1 := by rw [Rat.mul_comm]; exact Rat.div_mul_cancel ht
  rw [ev_smul, hf x, hA x, ← e1]
  generalize 1 / t = s at *
  have : ev e x * ev A x = ev e x * ev A x * (t * s) := by rw [e3]; grind
  grind
 | cons c m =>
  exfalso
  have hl : Nz (m ++ [t]) := ⟨t, by simp, ht⟩
  have e1 : ∀ x, ev g x * ev C x = ev (der g) x * ev P x + ev g x * ev (der P) x := fun x => by
   rw [← hp' x, ← ev_der_mul]
   exact der_eq (fun y => by rw [hp y, ev_mul]) x
  refine no_descent hg (c0 := c) hl fun j => ?_
  have hkf : ∀ x, ev (c :: (m ++ [t])) x = ev f x := k1
  suffices hs : ∃ w, ∀ x, ev g x = ev f x ^ j * ev w x by
   obtain ⟨w, hw⟩ := hs
   exact ⟨w, fun x => by rw [hkf x]; exact hw x⟩
  induction j with
  | zero => exact ⟨g, fun x => by rw [Rat.pow_zero]; grind⟩
  | succ j ih =>
   cases j with
   | zero =>
    obtain ⟨w, hw⟩ := hfg
    exact ⟨w, fun x => by rw [hw x, show (0 + 1 : Nat) = 1 from rfl, show ev f x ^ 1 = ev f x by rw [show (1 : Nat) = 0 + 1 from rfl, Rat.pow_succ, Rat.pow_zero]; grind]⟩
   | succ i =>
    obtain ⟨g1, hg1⟩ := ih
    have e3 : ∀ x, ev (der g) x = ev (der (pw f (i + 1))) x * ev g1 x + ev f x ^ (i + 1) * ev (der g1) x := fun x => by
     have : ev (der g) x = ev (der (mul (pw f (i + 1)) g1)) x := der_eq (fun y => by rw [hg1 y, ev_mul, ev_pw]) x
     rw [this, ev_der_mul, ev_pw]
    have key : ∀ x, ev (pw f (i + 1)) x * ev (mul (mul (der f) P) (smul ((i + 1 : Nat) : Rat) g1)) x = ev (pw f (i + 1)) x * ev (mul f (sub (mul g1 (sub C (der P))) (mul (der g1) P))) x := fun x => by
     have k1 := e1 x
     have k3 := e3 x
     have k4 := ev_der_pw f x (i + 1)
     have k7 := hg1 x
     simp only [ev_mul, ev_smul, ev_sub, ev_pw]
     have m1 : ev f x * ev (der g) x = ev f x ^ (i + 1) * (((i + 1 : Nat) : Rat) * ev (der f) x * ev g1 x + ev f x * ev (der g1) x) := by rw [k3]; grind
     have m2 : (ev f x * ev (der g) x) * ev P x = ev f x * (ev f x ^ (i + 1) * ev g1 x * (ev C x - ev (der P) x)) := by
      rw [← k7]; grind
     rw [m1] at m2
     grind
    have hc := cancel (pw_nz hfn (i + 1)) key
    have hdv2 : Dv f (mul (mul (der f) P) (smul ((i + 1 : Nat) : Rat) g1)) := ⟨sub (mul g1 (sub C (der P))) (mul (der g1) P), fun x => by rw [hc x, ev_mul]⟩
    obtain ⟨w, hw⟩ := (hff.mul cfP).dv hdv2
    have hn0 : ((i + 1 : Nat) : Rat) ≠ 0 := by
     intro h0
     have : ((i + 1 : Nat) : Rat) = ((0 : Nat) : Rat) := h0
     have := Rat.natCast_inj.1 this
     omega
    refine ⟨smul (1 / ((i + 1 : Nat) : Rat)) w, fun x => ?_⟩
    have kw := hw x
    rw [ev_smul] at kw
    have e4 : 1 / ((i + 1 : Nat) : Rat) * ((i + 1 : Nat) : Rat) = 1 := Rat.div_mul_cancel hn0
    rw [ev_smul, hg1 x, Rat.pow_succ (ev f x) (i + 1)]
    generalize 1 / ((i + 1 : Nat) : Rat) = s at *
    generalize ((i + 1 : Nat) : Rat) = n at *
    have : ev g1 x = s * n * ev g1 x := by rw [e4]; grind
    have h5 : s * n * ev g1 x = s * (ev f x * ev w x) := by rw [← kw]; grind
    grind
/-- **The parts of two polynomials and of their common divisor.** -/
theorem common_parts {p g P C q r Q E k h G D : List Rat} (hg : Nz g) (hPn : Nz P) (hp : ∀ x, ev p x = ev g x * ev P x) (hp' : ∀ x, ev (der p) x = ev g x * ev C x) (hPC : Co P C)
  (hr : Nz r) (hQn : Nz Q) (hq : ∀ x, ev q x = ev r x * ev Q x) (hq' : ∀ x, ev (der q) x = ev r x * ev E x) (hQE : Co Q E)
  (hh : Nz h) (hGn : Nz G) (hk : ∀ x, ev k x = ev h x * ev G x) (hk' : ∀ x, ev (der k) x = ev h x * ev D x) (hGD : Co G D)
  (hkp : Dv k p) (hkq : Dv k q) (hbez : ∃ u v, ∀ x, ev k x = ev u x * ev p x + ev v x * ev q x) :
  Co P (der P) ∧ Co Q (der Q) ∧ Co G (der G) ∧ ∃ H K : List Rat, (∀ x, ev P x = ev G x * ev H x) ∧ (∀ x, ev Q x = ev G x * ev K x) ∧ Co G H ∧ Co H K := by
 have sq : ∀ {p g P C : List Rat}, Nz g → Nz P → (∀ x, ev p x = ev g x * ev P x) → (∀ x, ev (der p) x = ev g x * ev C x) → Co P C → Co P (der P) := by
  intro p g P C hg hP h1 h2 h3
  rcases co_or hP (der P) with h | ⟨c0, l, hl, ⟨A, hA⟩, ⟨B, hB⟩⟩
  ·exact h
  ·exact (free_sep (d := c0 :: l) rfl hl hg h1 h2 h3 hA hB).elim
 have sP := sq hg hPn hp hp' hPC
 have sQ := sq hr hQn hq hq' hQE
 have sG := sq hh hGn hk hk' hGD
 have hGk : Dv G k := ⟨h, fun x => by rw [hk x]; grind⟩
 obtain ⟨H, hH⟩ := sq_part hg hPn hGn hp hp' hPC sG (hGk.trans hkp)
 obtain ⟨K, hK⟩ := sq_part hr hQn hGn hq hq' hQE sG (hGk.trans hkq)
 have cGH := co_parts sP hH
 refine ⟨sP, sQ, sG, H, K, hH, hK, cGH, ?_⟩
 have hHn : Nz H := by
  obtain ⟨x, hx⟩ := nz_ex hPn
  exact nz_of_ev (x := x) fun h => hx (by rw [hH x, h]; grind)
 rcases co_or hHn K with hc | ⟨c0, l, hl, ⟨A, hA⟩, ⟨B, hB⟩⟩
 ·exact hc
 ·exfalso
  generalize hd : c0 :: l = d at *
  have hdn : Nz d := by obtain ⟨c, hc, hn⟩ := hl; exact ⟨c, by rw [← hd]; exact List.mem_cons_of_mem _ hc, hn⟩
  have dP : Dv d P := ⟨mul G A, fun x => by rw [ev_mul, hH x, hA x]; grind⟩
  have dQ : Dv d Q := ⟨mul G B, fun x => by rw [ev_mul, hK x, hB x]; grind⟩
  have dp : Dv d p := dP.trans ⟨g, fun x => by rw [hp x]; grind⟩
  have dq : Dv d q := dQ.trans ⟨r, fun x => by rw [hq x]; grind⟩
  have dk : Dv d k := by
   obtain ⟨u, v, hb⟩ := hbez
   obtain ⟨s, hs⟩ := dp
   obtain ⟨t, ht⟩ := dq
   exact ⟨add (mul u s) (mul v t), fun x => by rw [hb x, hs x, ht x, ev_add, ev_mul, ev_mul]; grind⟩
  obtain ⟨X, hX⟩ := sq_part hh hGn hdn hk hk' hGD (co_sq_dv sP dP) dk
  obtain ⟨u, v, hb⟩ := cGH
  refine no_unit (c0 := c0) hl (w := add (mul u X) (mul v A)) fun x => ?_
  have k := hb x
  rw [hX x, hA x] at k
  rw [hd, ev_add, ev_mul, ev_mul]
  grind
end Sp
end
