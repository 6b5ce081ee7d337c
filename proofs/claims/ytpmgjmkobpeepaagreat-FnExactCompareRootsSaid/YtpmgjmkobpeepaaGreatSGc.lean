/- So, Sp, Sq, Su, Sv, Sw -/
import Derived.Test.YtpmgjmkobpeepaaGreatSGb
set_option linter.unusedVariables false
set_option linter.unusedSectionVars false
set_option linter.unusedSimpArgs false
section
/- Counts of two polynomials and of their common part; also where the common part is constant. -/
namespace Sp

/-- A count that falls, on small steps, just where a function crosses. -/
structure Stu (X d : Rat) (f : Rat → Rat) (v : Rat → Nat) : Prop where
 step : ∀ x y, ab x ≤ X → ab y ≤ X → x < y → y - x ≤ d → v y ≤ v x ∧ (v y < v x ↔ Cross f x y) ∧ v x ≤ v y + 1
 root : ∀ x y, ab x ≤ X → ab y ≤ X → x < y → f y = 0 → v y < v x
theorem Top.stu {X M a e d : Rat} (hs : Small M a e d) (hd : 0 < d) {c0 c1 : Rat → Rat} {l : List (Rat → Rat)} (h : Top X M a e c0 c1 l) : Stu X d c0 (V (c0 :: c1 :: l)) :=
 ⟨fun _ _ hx hy h1 h2 => h.small hs hx hy h1 h2, fun _ _ hx hy h1 h2 => h.root hs hd hx hy h1 h2⟩
theorem stu_one {X d : Rat} : Stu X d (fun _ => 1) (fun _ => 0) :=
 ⟨fun x y _ _ _ _ => ⟨Nat.le_refl _, ⟨fun h => absurd h (by omega), fun h => absurd (show sg (fun _ => 1) x y by unfold sg; grind) h.2⟩, by omega⟩, fun x y _ _ _ h => by grind⟩
theorem Stu.mono {X d : Rat} (hd : 0 < d) {f : Rat → Rat} {v : Rat → Nat} (h : Stu X d f v) {x y : Rat} (hx : ab x ≤ X) (hy : ab y ≤ X) (hxy : x ≤ y) : v y ≤ v x := by
 have := mono_of_small (X := X) hd (fun z => (v z : Int)) (fun x y hx hy h1 h2 => by have := (h.step x y hx hy h1 h2).1; omega) x y hx hy hxy
 omega
/-- What the counts of two polynomials and of their common part do. -/
structure Cts (X d : Rat) (p q g : Rat → Nat) (fp fq fg : Rat → Rat) : Prop where
 monoP : ∀ x y, ab x ≤ X → ab y ≤ X → x ≤ y → p y ≤ p x
 monoQ : ∀ x y, ab x ≤ X → ab y ≤ X → x ≤ y → q y ≤ q x
 monoG : ∀ x y, ab x ≤ X → ab y ≤ X → x ≤ y → g y ≤ g x
 rootP : ∀ x y, ab x ≤ X → ab y ≤ X → x < y → fp y = 0 → p y < p x
 rootQ : ∀ x y, ab x ≤ X → ab y ≤ X → x < y → fq y = 0 → q y < q x
 rootG : ∀ x y, ab x ≤ X → ab y ≤ X → x < y → fg y = 0 → g y < g x
 leP : ∀ x y, ab x ≤ X → ab y ≤ X → x ≤ y → g x + p y ≤ p x + g y
 leQ : ∀ x y, ab x ≤ X → ab y ≤ X → x ≤ y → g x + q y ≤ q x + g y
 both : ∀ x y, ab x ≤ X → ab y ≤ X → x < y → y - x ≤ d → p y < p x → q y < q x → g y < g x
 oneP : ∀ x y, ab x ≤ X → ab y ≤ X → x < y → y - x ≤ d → p x ≤ p y + 1
 oneQ : ∀ x y, ab x ≤ X → ab y ≤ X → x < y → y - x ≤ d → q x ≤ q y + 1
 ptP : ∀ x b y, ab x ≤ X → ab b ≤ X → ab y ≤ X → x ≤ b → b ≤ y → x < y → y - x ≤ d → p y < p x → fq b = 0 → fg b = 0
 ptQ : ∀ x b y, ab x ≤ X → ab b ≤ X → ab y ≤ X → x ≤ b → b ≤ y → x < y → y - x ≤ d → q y < q x → fp b = 0 → fg b = 0
 zP : ∀ x, fg x = 0 → fp x = 0
 zQ : ∀ x, fg x = 0 → fq x = 0
 zero : ∀ x, ab x ≤ X → fp x = 0 → fq x = 0 → fg x = 0
 left : ∀ x b, ab x ≤ X → ab b ≤ X → x < b → fp b ≠ 0 → ∃ c, x ≤ c ∧ c < b ∧ ab c ≤ X ∧ p c = p b
/-- What is not small at a place keeps its sign near it. -/
theorem keeps {X M e d : Rat} {h : Rat → Rat} (hf : Fn X M h) (hM : 0 ≤ M) (hh : M * d < e) {x b y : Rat} (hx : ab x ≤ X) (hb : ab b ≤ X) (hy : ab y ≤ X) (h1 : x ≤ b) (h2 : b ≤ y) (hd : y - x ≤ d) (he : e ≤ ab (h b)) : sg h x y := by
 have d1 : ab (x - b) ≤ d := ab_le_of (by grind) (by grind)
 have d2 : ab (y - b) ≤ d := ab_le_of (by grind) (by grind)
 have s1 : sg h x b := Classical.byContradiction fun hn => by have := near hf hM hx hb d1 hn; grind
 have s2 : sg h y b := Classical.byContradiction fun hn => by have := near hf hM hy hb d2 hn; grind
 unfold sg at s1 s2 ⊢
 rcases mul_sgn s1 with ⟨a1, a2⟩ | ⟨a1, a2⟩ <;> rcases mul_sgn s2 with ⟨b1, b2⟩ | ⟨b1, b2⟩
 ·exact Rat.mul_pos a1 b1
 ·grind
 ·grind
 ·exact mul_nn a1 b1
theorem pt_zero {X M e d : Rat} {f q g H K : Rat → Rat} (hM : 0 ≤ M) (hh : M * d < e) (he : 0 < e) (hg : Fn X M g) (hH : Fn X M H) (hf : ∀ z, f z = g z * H z) (hq : ∀ z, q z = g z * K z) (cGK : Cop X e g K) (cHK : Cop X e H K)
  {x b y : Rat} (hx : ab x ≤ X) (hb : ab b ≤ X) (hy : ab y ≤ X) (h1 : x ≤ b) (h2 : b ≤ y) (hd : y - x ≤ d) (hc : Cross f x y) (h0 : q b = 0) : g b = 0 := Classical.byContradiction fun hn => by
 rw [hq b] at h0
 rcases Rat.mul_eq_zero.1 h0 with h0 | h0
 ·exact hn h0
 ·have eH : e ≤ ab (H b) := (cHK b hb).elim id fun h => by rw [h0, ab_zero] at h; grind
  have eG : e ≤ ab (g b) := (cGK b hb).elim id fun h => by rw [h0, ab_zero] at h; grind
  have s1 := keeps hH hM hh hx hb hy h1 h2 hd eH
  have s2 := keeps hg hM hh hx hb hy h1 h2 hd eG
  apply hc.2
  unfold sg at s1 s2 ⊢
  rw [hf x, hf y, show g x * H x * (g y * H y) = (g x * g y) * (H x * H y) by grind]
  exact Rat.mul_pos s2 s1
theorem both_cross {X M e d : Rat} {f q g H K : Rat → Rat} (hM : 0 ≤ M) (hh : M * d < e) (hH : Fn X M H) (hK : Fn X M K) (hf : ∀ z, f z = g z * H z) (hq : ∀ z, q z = g z * K z) (hc : Cop X e H K)
  {x y : Rat} (hx : ab x ≤ X) (hy : ab y ≤ X) (hd : ab (x - y) ≤ d) (c1 : Cross f x y) (c2 : Cross q x y) : Cross g x y := by
 have g0 : g x ≠ 0 := fun h0 => c1.1 (by rw [hf x, h0, Rat.zero_mul])
 refine ⟨g0, fun gs => ?_⟩
 have no : ∀ (F L : Rat → Rat), (∀ z, F z = g z * L z) → ¬ sg F x y → ¬ sg L x y := by
  intro F L hFL h0 hL
  apply h0
  unfold sg at gs hL ⊢
  rw [hFL x, hFL y, show g x * L x * (g y * L y) = (g x * g y) * (L x * L y) by grind]
  exact Rat.mul_pos gs hL
 have n1 := near hH hM hx hy hd (no f H hf c1.2)
 have n2 := near hK hM hx hy hd (no q K hq c2.2)
 rcases hc x hx with h | h <;> grind
/-- A factor's count falls no more than the whole's. -/
theorem Stu.count_le {X M a e d : Rat} (hs : Small M a e d) (hd : 0 < d) {f g H : Rat → Rat} {vf vg : Rat → Nat} (hF : Stu X d f vf) (hG : Stu X d g vg) (hg : Fn X M g) (hH : Fn X M H) (hf : ∀ z, f z = g z * H z) (hc : Cop X e g H)
  {x y : Rat} (hx : ab x ≤ X) (hy : ab y ≤ X) (hxy : x ≤ y) : vg x + vf y ≤ vf x + vg y := by
 have := mono_of_small (X := X) hd (fun z => (vf z : Int) - vg z) (fun x y hx hy h1 h2 => by
  have hab : ab (x - y) ≤ d := by rw [ab_nonpos (by grind)]; grind
  obtain ⟨a1, a2, a3⟩ := hF.step x y hx hy h1 h2
  obtain ⟨b1, b2, b3⟩ := hG.step x y hx hy h1 h2
  by_cases hcr : Cross g x y
  ·have := a2.2 (cross_factor hs hx hy hab hg hH hf hc hcr)
   omega
  ·have : ¬ vg y < vg x := fun h => hcr (b2.1 h)
   omega) x y hx hy hxy
 omega
/-- Ahead of a place that is no root the count is the same. -/
theorem left_of {X M d : Rat} {f g H : Rat → Rat} {v : Rat → Nat} (hd : 0 < d) (hM : 1 ≤ M) (hS : Stu X d f v) (hg : Fn X M g) (hH : Fn X M H) (hf : ∀ z, f z = g z * H z) {x b : Rat} (hx : ab x ≤ X) (hb : ab b ≤ X) (hxb : x < b) (h0 : f b ≠ 0) :
  ∃ c, x ≤ c ∧ c < b ∧ ab c ≤ X ∧ v c = v b := by
 have g0 : g b ≠ 0 := fun h => h0 (by rw [hf, h, Rat.zero_mul])
 have H0 : H b ≠ 0 := fun h => h0 (by rw [hf, h, Rat.mul_zero])
 obtain ⟨e, e0, e1, e2⟩ : ∃ e, 0 < e ∧ e ≤ ab (g b) ∧ e ≤ ab (H b) := by
  rcases Classical.em (ab (g b) ≤ ab (H b)) with k | k
  ·exact ⟨_, ab_pos g0, by grind, k⟩
  ·exact ⟨_, ab_pos H0, by grind, by grind⟩
 have m0 : e / (2 * M) * (2 * M) = e := Rat.div_mul_cancel (by grind)
 have m1 : 0 < e / (2 * M) := by
  rcases tri (e / (2 * M)) 0 with t | t | t
  ·have := mul_np t (show 0 < 2 * M by grind); grind
  ·rw [t, Rat.zero_mul] at m0; grind
  ·exact t
 generalize e / (2 * M) = r at *
 obtain ⟨δ, d0, d1, d2⟩ : ∃ δ, 0 < δ ∧ δ ≤ d ∧ δ ≤ r := by
  rcases Classical.em (d ≤ r) with k | k
  ·exact ⟨d, hd, by grind, k⟩
  ·exact ⟨r, m1, by grind, by grind⟩
 have hh : M * δ < e := by
  have := Rat.mul_le_mul_of_nonneg_left d2 (show 0 ≤ M by grind)
  grind
 obtain ⟨c, c1, c2, c3⟩ : ∃ c, x ≤ c ∧ c < b ∧ b - c ≤ δ := by
  rcases Classical.em (b - x ≤ δ) with k | k
  ·exact ⟨x, by grind, hxb, k⟩
  ·exact ⟨b - δ, by grind, by grind, by grind⟩
 have hc : ab c ≤ X := by
  have a1 := ab_le b
  have a2 := ab_neg_le x
  exact ab_le_of (by grind) (by grind)
 have s1 := keeps hg (by grind) hh hc hb hb (by grind) (by grind) c3 e1
 have s2 := keeps hH (by grind) hh hc hb hb (by grind) (by grind) c3 e2
 have st := hS.step c b hc hb c2 (by grind)
 refine ⟨c, c1, c2, hc, ?_⟩
 have : ¬ v b < v c := fun h => (st.2.1.1 h).2 (by
  unfold sg at s1 s2 ⊢
  rw [hf c, hf b, show g c * H c * (g b * H b) = (g c * g b) * (H c * H b) by grind]
  exact Rat.mul_pos s1 s2)
 omega
theorem cts {X M a e d : Rat} (hs : Small M a e d) (hd : 0 < d) {f q g H K : Rat → Rat} {vf vq vg : Rat → Nat} (hF : Stu X d f vf) (hQ : Stu X d q vq) (hG : Stu X d g vg) (fg : Fn X M g) (hH : Fn X M H) (hK : Fn X M K)
  (hf : ∀ z, f z = g z * H z) (hq : ∀ z, q z = g z * K z) (cGH : Cop X e g H) (cGK : Cop X e g K) (cHK : Cop X e H K) : Cts X d vf vq vg f q g := by
 have hM0 : 0 ≤ M := by have := hs.M1; grind
 have sb : ∀ {x y : Rat}, x < y → y - x ≤ d → ab (x - y) ≤ d := fun h1 h2 => by rw [ab_nonpos (by grind)]; grind
 exact {
  monoP := fun x y hx hy h => hF.mono hd hx hy h
  monoQ := fun x y hx hy h => hQ.mono hd hx hy h
  monoG := fun x y hx hy h => hG.mono hd hx hy h
  rootP := hF.root
  rootQ := hQ.root
  rootG := hG.root
  leP := fun x y hx hy h => Stu.count_le hs hd hF hG fg hH hf cGH hx hy h
  leQ := fun x y hx hy h => Stu.count_le hs hd hQ hG fg hK hq cGK hx hy h
  both := fun x y hx hy h h1 h2 h3 => (hG.step x y hx hy h h1).2.1.2 (both_cross hM0 hs.h1 hH hK hf hq cHK hx hy (sb h h1) ((hF.step x y hx hy h h1).2.1.1 h2) ((hQ.step x y hx hy h h1).2.1.1 h3))
  oneP := fun x y hx hy h h1 => (hF.step x y hx hy h h1).2.2
  oneQ := fun x y hx hy h h1 => (hQ.step x y hx hy h h1).2.2
  ptP := fun x b y hx hb hy h1 h2 h3 h4 h5 h6 => pt_zero hM0 hs.h1 hs.e0 fg hH hf hq cGK cHK hx hb hy h1 h2 h4 ((hF.step x y hx hy h3 h4).2.1.1 h5) h6
  ptQ := fun x b y hx hb hy h1 h2 h3 h4 h5 h6 => pt_zero hM0 hs.h1 hs.e0 fg hK hq hf cGH cHK.symm hx hb hy h1 h2 h4 ((hQ.step x y hx hy h3 h4).2.1.1 h5) h6
  zP := fun x h => by rw [hf x, h]; grind
  zQ := fun x h => by rw [hq x, h]; grind
  zero := fun x hx h1 h2 => Classical.byContradiction fun hn => by
   rw [hf x] at h1
   rw [hq x] at h2
   have e0 := hs.e0
   rcases Rat.mul_eq_zero.1 h1 with h | h
   ·exact hn h
   ·rcases Rat.mul_eq_zero.1 h2 with h' | h'
    ·exact hn h'
    ·rcases cHK x hx with k | k
     ·rw [h, ab_zero] at k; grind
     ·rw [h', ab_zero] at k; grind
  left := fun x b hx hb h h0 => left_of hd hs.M1 hF fg hH hf hx hb h h0 }
theorem fn_one {X M : Rat} (hM : 1 ≤ M) : Fn X M (fun _ => 1) := ⟨fun x _ => by rw [ab_nn (by grind)]; exact hM, fun x y _ _ => by
 show ab (1 - 1) ≤ _
 rw [show (1 : Rat) - 1 = 0 by grind, ab_zero]
 exact Rat.mul_nonneg (by grind) (ab_nonneg _)⟩
theorem cop_one {X e : Rat} (he : e ≤ 1) (f : Rat → Rat) : Cop X e (fun _ => 1) f := fun x _ => .inl (by rw [ab_nn (by grind)]; exact he)
end Sp
end
section
/- The numbers, as powers of two. -/
namespace Sp

def p2 (n : Nat) : Rat := ((2 ^ n : Nat) : Rat)
theorem p2_add (m n : Nat) : p2 (m + n) = p2 m * p2 n := by unfold p2; rw [Nat.pow_add, Rat.natCast_mul]
theorem p2_pos (n : Nat) : 0 < p2 n := by
 have : ((0 : Nat) : Rat) < ((2 ^ n : Nat) : Rat) := Rat.natCast_lt_natCast.2 (Nat.pow_pos (by omega))
 exact this
theorem p2_le {m n : Nat} (h : m ≤ n) : p2 m ≤ p2 n := nat_le (Nat.pow_le_pow_right (by omega) h)
theorem p2_lt {m n : Nat} (h : m < n) : p2 m < p2 n := Rat.natCast_lt_natCast.2 (Nat.pow_lt_pow_right (by omega) h)
theorem p2_zero : p2 0 = 1 := rfl
theorem p2_one : p2 1 = 2 := rfl
theorem p2_ge1 (n : Nat) : 1 ≤ p2 n := by have := p2_le (Nat.zero_le n); rwa [p2_zero] at this
theorem p2_pow (m : Nat) : ∀ k : Nat, p2 m ^ k = p2 (m * k)
 | 0 => by rw [Rat.pow_zero, Nat.mul_zero, p2_zero]
 | k + 1 => by rw [Rat.pow_succ, p2_pow m k, Nat.mul_succ, p2_add]
theorem inv_mul (n : Nat) : 1 / p2 n * p2 n = 1 := Rat.div_mul_cancel (by have := p2_pos n; grind)
theorem inv_pos' (n : Nat) : 0 < 1 / p2 n := by
 have h := inv_mul n
 have hp := p2_pos n
 rcases tri (1 / p2 n) 0 with t | t | t
 ·have := mul_np t hp; grind
 ·rw [t, Rat.zero_mul] at h; grind
 ·exact t
theorem inv_le1 (n : Nat) : 1 / p2 n ≤ 1 := by
 have h := inv_mul n
 have h1 := p2_ge1 n
 have := Rat.mul_le_mul_of_nonneg_left h1 (show 0 ≤ 1 / p2 n by have := inv_pos' n; grind)
 grind
theorem nums (B : Nat) : Nums (p2 B) (1 / p2 B) (p2 64) (p2 (B + 330)) 5 where
 A0 := by have := p2_pos B; grind
 a0 := inv_pos' B
 a1 := inv_le1 B
 X1 := p2_ge1 64
 M1 := p2_ge1 _
 hM := by
  have e4 : (4 : Rat) * p2 64 = p2 66 := by
   rw [show (66 : Nat) = 2 + 64 from rfl, p2_add]; rfl
  rw [e4, p2_pow, ← p2_add]
  exact p2_le (by omega)
theorem lowE_p2 (B : Nat) : ∀ k : Nat, lowE (1 / p2 B) (p2 (B + 330)) k * p2 (k * (B + 331) + (k + 1) * B) = 1
 | 0 => by
  rw [show 0 * (B + 331) + (0 + 1) * B = B by omega]
  exact inv_mul B
 | k + 1 => by
  have h := lowE_p2 B k
  have e := lowE_eq (nums B) k
  have hb := inv_mul B
  rw [show (k + 1) * (B + 331) + (k + 1 + 1) * B = (k * (B + 331) + (k + 1) * B) + ((B + 330) + 1 + B) by grind]
  rw [p2_add (k * (B + 331) + (k + 1) * B), p2_add (B + 330 + 1), p2_add (B + 330) 1, p2_one]
  generalize lowE (1 / p2 B) (p2 (B + 330)) (k + 1) = u at *
  generalize lowE (1 / p2 B) (p2 (B + 330)) k = v at *
  generalize 1 / p2 B = w at *
  have : u * (p2 (k * (B + 331) + (k + 1) * B) * (p2 (B + 330) * 2 * p2 B)) = (u * (2 * p2 (B + 330))) * (p2 (k * (B + 331) + (k + 1) * B) * p2 B) := by grind
  rw [this, e]
  have : w * v * (p2 (k * (B + 331) + (k + 1) * B) * p2 B) = (w * p2 B) * (v * p2 (k * (B + 331) + (k + 1) * B)) := by grind
  rw [this, hb, h]; grind
/-- So many bits a small step has. -/
def dbits (B : Nat) : Nat := 14 * B + 2316
def dB (B : Nat) : Rat := 1 / p2 (dbits B)
def eB (B : Nat) : Rat := lowE (1 / p2 B) (p2 (B + 330)) 5
theorem lt_of_mul {a b c : Rat} (hc : 0 < c) (h : a * c < b * c) : a < b := Classical.byContradiction fun hn => by
 have := Rat.mul_le_mul_of_nonneg_right (show b ≤ a by grind) (show 0 ≤ c by grind)
 grind
theorem small (B : Nat) : Small (p2 (B + 330)) (1 / p2 B) (eB B) (dB B) where
 M1 := p2_ge1 _
 a0 := inv_pos' B
 e0 := lowE_pos (nums B) 5
 d0 := by have := inv_pos' (dbits B); unfold dB; grind
 h1 := by
  refine lt_of_mul (p2_pos (dbits B)) ?_
  have h := lowE_p2 B 5
  have e1 : eB B * p2 (dbits B) = p2 (3 * B + 661) := by
   rw [show dbits B = (5 * (B + 331) + (5 + 1) * B) + (3 * B + 661) by unfold dbits; omega, p2_add, ← Rat.mul_assoc]
   unfold eB
   rw [h, Rat.one_mul]
  have e2 : p2 (B + 330) * dB B * p2 (dbits B) = p2 (B + 330) := by
   have := inv_mul (dbits B)
   unfold dB
   rw [Rat.mul_assoc, this, Rat.mul_one]
  rw [e1, e2]
  exact p2_lt (by omega)
 h2 := by
  refine lt_of_mul (p2_pos (dbits B)) ?_
  have h := lowE_p2 B 5
  have hb := inv_mul B
  have e1 : 1 / p2 B * eB B * p2 (dbits B) = p2 (2 * B + 661) := by
   rw [show dbits B = (5 * (B + 331) + (5 + 1) * B) + (B + (2 * B + 661)) by unfold dbits; omega, p2_add, p2_add B]
   unfold eB
   generalize lowE (1 / p2 B) (p2 (B + 330)) 5 = u at *
   generalize 1 / p2 B = w at *
   have : w * u * (p2 (5 * (B + 331) + (5 + 1) * B) * (p2 B * p2 (2 * B + 661))) = (w * p2 B) * (u * p2 (5 * (B + 331) + (5 + 1) * B)) * p2 (2 * B + 661) := by grind
   rw [this, hb, h, Rat.one_mul, Rat.one_mul]
  have e2 : p2 (B + 330) * (p2 (B + 330) * dB B) * p2 (dbits B) = p2 (2 * B + 660) := by
   have := inv_mul (dbits B)
   unfold dB
   rw [Rat.mul_assoc, Rat.mul_assoc, this, Rat.mul_one, show 2 * B + 660 = (B + 330) + (B + 330) by omega, p2_add (B + 330) (B + 330)]
  rw [e1, e2]
  exact p2_lt (by omega)
theorem dB_pos (B : Nat) : 0 < dB B := inv_pos' _
/-- A square-free polynomial with its chain. -/
def PolB (B : Nat) (P P1 : List Rat) (l : List (List Rat)) : Prop := Pol (p2 B) (1 / p2 B) 5 4 P P1 l
theorem eB_le {B k : Nat} (h : k ≤ 5) : eB B ≤ lowE (1 / p2 B) (p2 (B + 330)) k := lowE_mono (nums B) h
theorem eB_le1 (B : Nat) : eB B ≤ 1 := by
 have h1 := eB_le (B := B) (Nat.zero_le 5)
 have h2 := inv_le1 B
 have : lowE (1 / p2 B) (p2 (B + 330)) 0 = 1 / p2 B := rfl
 grind
theorem PolB.stu {B : Nat} {P P1 : List Rat} {l : List (List Rat)} (h : PolB B P P1 l) : Stu (p2 64) (dB B) (ev P) (W P P1 l) := (Pol.top (nums B) h (eB_le (by omega))).stu (small B) (dB_pos B)
theorem PolB.dcop {B : Nat} {P P1 : List Rat} {l : List (List Rat)} (h : PolB B P P1 l) : Cop (p2 64) (lowE (1 / p2 B) (p2 (B + 330)) 4) (ev P) (ev (der P)) := by
 have h1 := (h.lc.cop (nums B)).mono (lowE_mono (nums B) h.len)
 exact fun x hx => by have := h1 x hx; rw [h.der x] at this; exact this
theorem e2_le (B : Nat) : eB B * (2 * p2 (B + 330)) ≤ lowE (1 / p2 B) (p2 (B + 330)) 4 := by
 unfold eB
 rw [lowE_eq (nums B) 4]
 have := Rat.mul_le_mul_of_nonneg_right (inv_le1 B) (show 0 ≤ lowE (1 / p2 B) (p2 (B + 330)) 4 by have := lowE_pos (nums B) 4; grind)
 grind
/-- Two polynomials and their common part. -/
theorem cts_two {B : Nat} {P P1 Q Q1 G G1 H K : List Rat} {lp lq lg lh : List (List Rat)} (pP : PolB B P P1 lp) (pQ : PolB B Q Q1 lq) (pG : PolB B G G1 lg) (hP : ∀ x, ev P x = ev G x * ev H x) (hQ : ∀ x, ev Q x = ev G x * ev K x)
  (hk : LC (p2 B) (1 / p2 B) 5 H K lh) (hl : lh.length ≤ 5) : Cts (p2 64) (dB B) (W P P1 lp) (W Q Q1 lq) (W G G1 lg) (ev P) (ev Q) (ev G) := by
 have bH := hk.bd.1
 have bK := hk.bd.2
 have bG := pG.lc.bd.1
 exact cts (small B) (dB_pos B) pP.stu pQ.stu pG.stu (bG.fn (nums B)) (bH.fn (nums B)) (bK.fn (nums B)) hP hQ (cop_parts (nums B) hP bG bH pP.dcop (e2_le B)) (cop_parts (nums B) hQ bG bK pQ.dcop (e2_le B)) ((hk.cop (nums B)).mono (eB_le hl))
/-- Two polynomials without a common part. -/
theorem cts_one {B : Nat} {P P1 Q Q1 : List Rat} {lp lq lh : List (List Rat)} (pP : PolB B P P1 lp) (pQ : PolB B Q Q1 lq) (hk : LC (p2 B) (1 / p2 B) 5 P Q lh) (hl : lh.length ≤ 5) :
  Cts (p2 64) (dB B) (W P P1 lp) (W Q Q1 lq) (fun _ => 0) (ev P) (ev Q) (fun _ => 1) := by
 have bH := hk.bd.1
 have bK := hk.bd.2
 exact cts (small B) (dB_pos B) pP.stu pQ.stu stu_one (fn_one (p2_ge1 _)) (bH.fn (nums B)) (bK.fn (nums B)) (fun z => by grind) (fun z => by grind) (cop_one (eB_le1 B) _) (cop_one (eB_le1 B) _) ((hk.cop (nums B)).mono (eB_le hl))
end Sp
end
section
/- Halving isolating intervals: what the roots do. -/
namespace Sp

def mid (s : Rat × Rat) : Rat := (s.1 + s.2) / 2
theorem mid2 (s : Rat × Rat) : mid s * 2 = s.1 + s.2 := Rat.div_mul_cancel (by grind)
open Classical in
/-- The half that is kept. -/
noncomputable def hv (p : Rat → Nat) (s : Rat × Rat) : Rat × Rat := if s.1 = s.2 then s else if p s.1 = p (mid s) + 1 then (s.1, mid s) else (mid s, s.2)
noncomputable def hvN (p : Rat → Nat) : Nat → Rat × Rat → Rat × Rat
 | 0, s => s
 | n + 1, s => hvN p n (hv p s)
theorem hvN_succ (p : Rat → Nat) : ∀ (n : Nat) (s : Rat × Rat), hvN p (n + 1) s = hv p (hvN p n s)
 | 0, _ => rfl
 | n + 1, s => by
  show hvN p (n + 1) (hv p s) = hv p (hvN p n (hv p s))
  exact hvN_succ p n (hv p s)
/-- An isolating interval: the root alone, or one root in it. -/
structure Iv (X : Rat) (p : Rat → Nat) (fp : Rat → Rat) (s : Rat × Rat) : Prop where
 x : ab s.1 ≤ X
 y : ab s.2 ≤ X
 iso : (s.1 = s.2 ∧ fp s.1 = 0) ∨ (s.1 < s.2 ∧ p s.1 = p s.2 + 1)
/-- The root is at most c. -/
def leA (p : Rat → Nat) (s : Rat × Rat) (c : Rat) : Prop := (s.1 = s.2 ∧ s.1 ≤ c) ∨ (s.1 ≠ s.2 ∧ p c < p s.1)
def Mono (X : Rat) (p : Rat → Nat) : Prop := ∀ x y, ab x ≤ X → ab y ≤ X → x ≤ y → p y ≤ p x
theorem Iv.le {X : Rat} {p : Rat → Nat} {fp : Rat → Rat} {s : Rat × Rat} (h : Iv X p fp s) : s.1 ≤ s.2 := by rcases h.iso with h | h <;> grind
theorem ab_between {X x y z : Rat} (hx : ab x ≤ X) (hy : ab y ≤ X) (h1 : x ≤ z) (h2 : z ≤ y) : ab z ≤ X := by
 have a1 := ab_le y
 have a2 := ab_neg_le x
 exact ab_le_of (by grind) (by grind)
theorem Iv.mid {X : Rat} {p : Rat → Nat} {fp : Rat → Rat} {s : Rat × Rat} (h : Iv X p fp s) : s.1 ≤ mid s ∧ mid s ≤ s.2 ∧ ab (mid s) ≤ X := by
 have e := mid2 s
 have := h.le
 exact ⟨by grind, by grind, ab_between h.x h.y (by grind) (by grind)⟩
theorem Iv.half {X : Rat} {p : Rat → Nat} {fp : Rat → Rat} {s : Rat × Rat} (hm : Mono X p) (h : Iv X p fp s) :
  Iv X p fp (hv p s) ∧ s.1 ≤ (hv p s).1 ∧ (hv p s).2 ≤ s.2 ∧ ((hv p s).2 - (hv p s).1) * 2 = s.2 - s.1 ∧ ∀ c, leA p (hv p s) c ↔ leA p s c := by
 have e := mid2 s
 obtain ⟨m1, m2, m3⟩ := h.mid
 unfold hv
 split
 ·rename_i h1
  exact ⟨h, by grind, by grind, by grind, fun c => Iff.rfl⟩
 ·rename_i h1
  rcases h.iso with h2 | ⟨h2, h3⟩
  ·exact absurd h2.1 h1
  ·have p1 := hm s.1 (Sp.mid s) h.x m3 m1
   have p2 := hm (Sp.mid s) s.2 m3 h.y m2
   split
   ·rename_i h4
    refine ⟨⟨h.x, m3, .inr ⟨by dsimp only; grind, h4⟩⟩, by dsimp only; grind, m2, by dsimp only; grind, fun c => ?_⟩
    unfold leA
    dsimp only
    constructor
    ·rintro (⟨k1, k2⟩ | ⟨k1, k2⟩)
     ·exfalso; grind
     ·exact .inr ⟨h1, k2⟩
    ·rintro (⟨k1, k2⟩ | ⟨k1, k2⟩)
     ·exact absurd k1 h1
     ·exact .inr ⟨by grind, k2⟩
   ·rename_i h4
    have h5 : p (Sp.mid s) = p s.1 := by omega
    refine ⟨⟨m3, h.y, .inr ⟨by dsimp only; grind, by dsimp only; omega⟩⟩, m1, by dsimp only; grind, by dsimp only; grind, fun c => ?_⟩
    unfold leA
    dsimp only
    rw [h5]
    constructor
    ·rintro (⟨k1, k2⟩ | ⟨k1, k2⟩)
     ·exfalso; grind
     ·exact .inr ⟨h1, k2⟩
    ·rintro (⟨k1, k2⟩ | ⟨k1, k2⟩)
     ·exact absurd k1 h1
     ·exact .inr ⟨by grind, k2⟩
theorem Iv.halves {X : Rat} {p : Rat → Nat} {fp : Rat → Rat} (hm : Mono X p) : ∀ (n : Nat) {s : Rat × Rat}, Iv X p fp s →
  Iv X p fp (hvN p n s) ∧ s.1 ≤ (hvN p n s).1 ∧ (hvN p n s).2 ≤ s.2 ∧ ((hvN p n s).2 - (hvN p n s).1) * p2 n = s.2 - s.1 ∧ ∀ c, leA p (hvN p n s) c ↔ leA p s c
 | 0, s, h => by
  refine ⟨h, ?_, ?_, ?_, fun _ => Iff.rfl⟩
  ·show s.1 ≤ s.1; grind
  ·show s.2 ≤ s.2; grind
  ·rw [p2_zero]; show (s.2 - s.1) * 1 = _; grind
 | n + 1, s, h => by
  obtain ⟨i1, i2, i3, i4, i5⟩ := Iv.halves hm n h
  obtain ⟨j1, j2, j3, j4, j5⟩ := i1.half hm
  rw [hvN_succ]
  refine ⟨j1, by grind, by grind, ?_, fun c => (j5 c).trans (i5 c)⟩
  rw [p2_add, p2_one]
  grind
/-- The root is a point. -/
def isRt (fp : Rat → Rat) (s : Rat × Rat) (x : Rat) : Prop := (s.1 = s.2 ∧ x = s.1) ∨ (s.1 < x ∧ x ≤ s.2 ∧ fp x = 0)
theorem isRt.le {X : Rat} {p : Rat → Nat} {fp : Rat → Rat} {s : Rat × Rat} (hm : Mono X p) (hr : ∀ x y, ab x ≤ X → ab y ≤ X → x < y → fp y = 0 → p y < p x) (h : Iv X p fp s) {x : Rat} (hx : isRt fp s x) {z : Rat} (hz : ab z ≤ X) : leA p s z ↔ x ≤ z := by
 unfold leA
 rcases hx with ⟨h1, h2⟩ | ⟨h1, h2, h3⟩
 ·subst h2
  constructor
  ·rintro (⟨k1, k2⟩ | ⟨k1, k2⟩)
   ·exact k2
   ·exact absurd h1 k1
  ·intro k; exact .inl ⟨h1, k⟩
 ·rcases h.iso with ⟨h4, h5⟩ | ⟨h4, h5⟩
  ·exfalso; grind
  ·have hxX := ab_between h.x h.y (by grind) h2
   have r1 := hr s.1 x h.x hxX h1 h3
   constructor
   ·rintro (⟨k1, k2⟩ | ⟨k1, k2⟩)
    ·exfalso; grind
    ·refine Classical.byContradiction fun hn => ?_
     have r2 := hr z x hz hxX (by grind) h3
     have r3 := hm x s.2 hxX h.y h2
     omega
   ·intro k
    have := hm x z hxX hz k
    exact .inr ⟨by grind, by omega⟩
/-- Whether the common part has a root in an interval. -/
def hold (g : Rat → Nat) (fg : Rat → Rat) (s : Rat × Rat) : Prop := (s.1 = s.2 ∧ fg s.1 = 0) ∨ (s.1 ≠ s.2 ∧ g s.2 < g s.1)
def guard (q : Rat → Nat) (s : Rat × Rat) : Prop := s.1 ≠ s.2 ∧ q s.1 ≠ q s.2
section
variable {X d : Rat} {p q g : Rat → Nat} {fp fq fg : Rat → Rat} (C : Cts X d p q g fp fq fg)
include C
/-- **The loop of SignAtRoot ends.** -/
theorem sign_end (hd : 0 < d) {s : Rat × Rat} (h : Iv X p fp s) (hh : ¬ hold g fg s) {n : Nat} (hn : s.2 - s.1 ≤ d * p2 n) : ¬ guard q (hvN p n s) := by
 rintro ⟨g1, g2⟩
 obtain ⟨i1, i2, i3, i4, i5⟩ := Iv.halves C.monoP n h
 generalize hvN p n s = u at *
 have hw : u.2 - u.1 ≤ d := by
  refine Classical.byContradiction fun hc => ?_
  have := Rat.mul_lt_mul_of_pos_right (show d < u.2 - u.1 by grind) (p2_pos n)
  grind
 rcases i1.iso with ⟨k1, k2⟩ | ⟨k1, k2⟩
 ·exact g1 k1
 ·have q1 := C.monoQ u.1 u.2 i1.x i1.y (by grind)
  have := C.both u.1 u.2 i1.x i1.y k1 hw (by omega) (by omega)
  have m1 := C.monoG s.1 u.1 h.x i1.x i2
  have m2 := C.monoG u.2 s.2 i1.y h.y i3
  exact hh (.inr ⟨by grind, by omega⟩)
/-- The two programs ask alike whether the root is common. -/
theorem hold_iff {s : Rat × Rat} (h : Iv X p fp s) (h1 : s.1 < s.2) : (g s.2 < g s.1) ↔ (g s.1 : Int) - g s.2 = 1 := by
 have := C.leP s.1 s.2 h.x h.y h.le
 rcases h.iso with ⟨k1, k2⟩ | ⟨k1, k2⟩
 ·exfalso; grind
 ·omega
/-- At the end the other polynomial is not 0 at the upper bound. -/
theorem sign_ne {s u : Rat × Rat} (h : Iv X p fp s) (hh : ¬ hold g fg s) (hu : Iv X p fp u) (hs : u.1 = u.2 → s.1 = s.2 ∧ u = s) (hg : ¬ guard q u) : fq u.2 ≠ 0 := by
 intro h0
 rcases hu.iso with ⟨k1, k2⟩ | ⟨k1, k2⟩
 ·obtain ⟨e1, e2⟩ := hs k1
  subst e2
  rw [← k1] at h0
  exact hh (.inl ⟨k1, C.zero _ hu.x k2 h0⟩)
 ·have := C.rootQ u.1 u.2 hu.x hu.y k1 h0
  exact hg ⟨by grind, by omega⟩
end
theorem hvN_point {p : Rat → Nat} {X : Rat} {fp : Rat → Rat} (hm : Mono X p) {n : Nat} {s : Rat × Rat} (h : Iv X p fp s) (h1 : (hvN p n s).1 = (hvN p n s).2) : s.1 = s.2 ∧ hvN p n s = s := by
 obtain ⟨i1, i2, i3, i4, i5⟩ := Iv.halves hm n h
 have e : s.1 = s.2 := by
  have : (hvN p n s).2 - (hvN p n s).1 = 0 := by grind
  rw [this, Rat.zero_mul] at i4
  grind
 refine ⟨e, ?_⟩
 have : ∀ n : Nat, hvN p n s = s := fun n => by
  induction n with
  | zero => rfl
  | succ n ih =>
   show hvN p n (hv p s) = s
   have : hv p s = s := by unfold hv; rw [if_pos e]
   rw [this, ih]
 exact this n
end Sp
end
section
/- Comparing the roots of two isolating intervals. -/
namespace Sp

def case1 (s t : Rat × Rat) : Prop := ¬ t.1 < s.2 ∧ ¬ (t.1 = t.2 ∧ t.1 = s.2)
open Classical in
noncomputable def meet (s t : Rat × Rat) : Rat × Rat := (if s.1 < t.1 then t.1 else s.1, if t.2 < s.2 then t.2 else s.2)
/-- The first root is less than the second: a place that parts them. -/
def Less (X : Rat) (A B : Rat → Prop) : Prop := ∃ c, ab c ≤ X ∧ A c ∧ ¬ B c
def Same (X : Rat) (A B : Rat → Prop) : Prop := ∀ c, ab c ≤ X → (A c ↔ B c)
open Classical in
/-- The answer. -/
noncomputable def verd (X : Rat) (A B : Rat → Prop) : Int := if Less X A B then -1 else if Less X B A then 1 else 0
theorem verd_less {X : Rat} {A B : Rat → Prop} (h : Less X A B) : verd X A B = -1 := if_pos h
theorem verd_same {X : Rat} {A B : Rat → Prop} (h : Same X A B) : verd X A B = 0 := by
 unfold verd
 rw [if_neg (fun ⟨c, h1, h2, h3⟩ => h3 ((h c h1).1 h2)), if_neg (fun ⟨c, h1, h2, h3⟩ => h3 ((h c h1).2 h2))]
theorem leA_up {X : Rat} {p : Rat → Nat} {fp : Rat → Rat} {s : Rat × Rat} (hm : Mono X p) (h : Iv X p fp s) {c c' : Rat} (hc : ab c ≤ X) (hc' : ab c' ≤ X) (hle : c ≤ c') (ha : leA p s c) : leA p s c' := by
 rcases ha with ⟨h1, h2⟩ | ⟨h1, h2⟩
 ·exact .inl ⟨h1, by grind⟩
 ·exact .inr ⟨h1, by have := hm c c' hc hc' hle; omega⟩
theorem verd_more {X : Rat} {p q : Rat → Nat} {fp fq : Rat → Rat} {s t : Rat × Rat} (hp : Mono X p) (hq : Mono X q) (hs : Iv X p fp s) (ht : Iv X q fq t) (h : Less X (leA q t) (leA p s)) : verd X (leA p s) (leA q t) = 1 := by
 unfold verd
 rw [if_pos h, if_neg]
 rintro ⟨c, h1, h2, h3⟩
 obtain ⟨c', k1, k2, k3⟩ := h
 rcases Classical.em (c ≤ c') with hle | hle
 ·exact k3 (leA_up hp hs h1 k1 hle h2)
 ·exact h3 (leA_up hq ht k1 h1 (by grind) k2)
theorem leA_top {X : Rat} {p : Rat → Nat} {fp : Rat → Rat} {s : Rat × Rat} (hm : Mono X p) (h : Iv X p fp s) {c : Rat} (hc : ab c ≤ X) (h1 : s.2 ≤ c) : leA p s c := by
 rcases h.iso with ⟨k1, k2⟩ | ⟨k1, k2⟩
 ·exact .inl ⟨k1, by grind⟩
 ·exact .inr ⟨by grind, by have := hm s.2 c h.y hc h1; omega⟩
theorem leA_bot {X : Rat} {p : Rat → Nat} {fp : Rat → Rat} {s : Rat × Rat} (hm : Mono X p) (h : Iv X p fp s) {c : Rat} (hc : ab c ≤ X) (h1 : c ≤ s.1) (h2 : ¬ (s.1 = s.2 ∧ c = s.1)) : ¬ leA p s c := by
 rintro (⟨k1, k2⟩ | ⟨k1, k2⟩)
 ·exact h2 ⟨k1, by grind⟩
 ·have := hm c s.1 hc h.x h1; omega
theorem case1_less {X : Rat} {p q : Rat → Nat} {fp fq : Rat → Rat} {s t : Rat × Rat} (hp : Mono X p) (hq : Mono X q) (hs : Iv X p fp s) (ht : Iv X q fq t) (h : case1 s t) : Less X (leA p s) (leA q t) := by
 obtain ⟨h1, h2⟩ := h
 rcases Classical.em (t.1 = t.2) with e | e
 ·exact ⟨s.2, hs.y, leA_top hp hs hs.y (by grind), leA_bot hq ht hs.y (by grind) (by grind)⟩
 ·exact ⟨t.1, ht.x, leA_top hp hs ht.x (by grind), leA_bot hq ht ht.x (by grind) (by grind)⟩
theorem Iv.pt {X : Rat} {p : Rat → Nat} {fp : Rat → Rat} {s : Rat × Rat} (h : Iv X p fp s) (h1 : s.1 = s.2) : fp s.1 = 0 := by
 rcases h.iso with k | k
 ·exact k.2
 ·exfalso; grind
theorem Iv.one {X : Rat} {p : Rat → Nat} {fp : Rat → Rat} {s : Rat × Rat} (h : Iv X p fp s) (h1 : s.1 < s.2) : p s.1 = p s.2 + 1 := by
 rcases h.iso with k | k
 ·exfalso; grind
 ·exact k.2
section
variable {X d : Rat} {p q g : Rat → Nat} {fp fq fg : Rat → Rat} (C : Cts X d p q g fp fq fg) {s t : Rat × Rat} (hs : Iv X p fp s) (ht : Iv X q fq t)
include C hs ht
/-- A common root in both intervals: the roots are the same. -/
theorem hold_same (h1 : ¬ case1 s t) (h2 : ¬ case1 t s) (h : hold g fg (meet s t)) : Same X (leA p s) (leA q t) := by
 intro z hz
 unfold case1 at h1 h2
 have ls := hs.le
 have lt := ht.le
 have hme : meet s t = (if s.1 < t.1 then t.1 else s.1, if t.2 < s.2 then t.2 else s.2) := by unfold meet; congr
 rw [hme] at h
 have e1 : (if s.1 < t.1 then t.1 else s.1) = s.1 ∨ (if s.1 < t.1 then t.1 else s.1) = t.1 := by split <;> simp
 have e2 : (if t.2 < s.2 then t.2 else s.2) = t.2 ∨ (if t.2 < s.2 then t.2 else s.2) = s.2 := by split <;> simp
 have e3 : s.1 ≤ (if s.1 < t.1 then t.1 else s.1) ∧ t.1 ≤ (if s.1 < t.1 then t.1 else s.1) := by split <;> grind
 have e4 : (if t.2 < s.2 then t.2 else s.2) ≤ t.2 ∧ (if t.2 < s.2 then t.2 else s.2) ≤ s.2 := by split <;> grind
 generalize (if s.1 < t.1 then t.1 else s.1) = c at *
 generalize (if t.2 < s.2 then t.2 else s.2) = e at *
 have hc : ab c ≤ X := by
  rcases e1 with k | k <;> rw [k]
  ·exact hs.x
  ·exact ht.x
 have he : ab e ≤ X := by
  rcases e2 with k | k <;> rw [k]
  ·exact ht.y
  ·exact hs.y
 rcases h with ⟨k1, k2⟩ | ⟨k1, k2⟩
 ·dsimp only at k1 k2
  have z1 := C.zP c k2
  have z2 := C.zQ c k2
  have r1 : isRt fp s c := by
   rcases Classical.em (s.1 = s.2) with k | k
   ·exact .inl ⟨k, by grind⟩
   ·refine .inr ⟨?_, by grind, z1⟩
    rcases Classical.em (t.1 = t.2) with k' | k'
    ·grind
    ·grind
  have r2 : isRt fq t c := by
   rcases Classical.em (t.1 = t.2) with k | k
   ·exact .inl ⟨k, by grind⟩
   ·refine .inr ⟨?_, by grind, z2⟩
    rcases Classical.em (s.1 = s.2) with k' | k'
    ·grind
    ·grind
  exact (r1.le C.monoP C.rootP hs hz).trans (r2.le C.monoQ C.rootQ ht hz).symm
 ·dsimp only at k1 k2
  have hce : c < e := Classical.byContradiction fun hn => by
   have := C.monoG e c he hc (by grind)
   omega
  have sp : s.1 < s.2 := by grind
  have tp : t.1 < t.2 := by grind
  have p0 : p s.1 = p s.2 + 1 := hs.one (by grind)
  have q0 : q t.1 = q t.2 + 1 := ht.one (by grind)
  have a1 := C.monoP s.1 c hs.x hc e3.1
  have a2 := C.monoP e s.2 he hs.y e4.2
  have a3 := C.leP c e hc he (by grind)
  have b1 := C.monoQ t.1 c ht.x hc e3.2
  have b2 := C.monoQ e t.2 he ht.y e4.1
  have b3 := C.leQ c e hc he (by grind)
  have key : leA p s z ↔ p z < p c := by
   unfold leA
   constructor
   ·rintro (⟨m1, m2⟩ | ⟨m1, m2⟩)
    ·exfalso; grind
    ·omega
   ·intro m; exact .inr ⟨by grind, by omega⟩
  have key2 : leA q t z ↔ q z < q c := by
   unfold leA
   constructor
   ·rintro (⟨m1, m2⟩ | ⟨m1, m2⟩)
    ·exfalso; grind
    ·omega
   ·intro m; exact .inr ⟨by grind, by omega⟩
  rw [key, key2]
  rcases Classical.em (z ≤ c) with hzc | hzc
  ·have := C.monoP z c hz hc hzc
   have := C.monoQ z c hz hc hzc
   omega
  ·rcases Classical.em (z ≤ e) with hze | hze
   ·have c1 := C.leP c z hc hz (by grind)
    have c2 := C.leQ c z hc hz (by grind)
    have c3 := C.leP z e hz he hze
    have c4 := C.leQ z e hz he hze
    have c5 := C.monoG c z hc hz (by grind)
    have c6 := C.monoG z e hz he hze
    omega
   ·have := C.monoP e z he hz (by grind)
    have := C.monoQ e z he hz (by grind)
    omega
/-- Small intervals that are not apart have a common root. -/
theorem hold_end (h1 : ¬ case1 s t) (h2 : ¬ case1 t s) (hw : s.2 - s.1 + (t.2 - t.1) ≤ d) : hold g fg (meet s t) := by
 unfold case1 at h1 h2
 have ls := hs.le
 have lt := ht.le
 have hme : meet s t = (if s.1 < t.1 then t.1 else s.1, if t.2 < s.2 then t.2 else s.2) := by unfold meet; congr
 rw [hme]
 have e1 : (s.1 < t.1 ∧ (if s.1 < t.1 then t.1 else s.1) = t.1) ∨ (t.1 ≤ s.1 ∧ (if s.1 < t.1 then t.1 else s.1) = s.1) := by split <;> grind
 have e2 : (t.2 < s.2 ∧ (if t.2 < s.2 then t.2 else s.2) = t.2) ∨ (s.2 ≤ t.2 ∧ (if t.2 < s.2 then t.2 else s.2) = s.2) := by split <;> grind
 generalize (if s.1 < t.1 then t.1 else s.1) = c at *
 generalize (if t.2 < s.2 then t.2 else s.2) = e at *
 rcases Classical.em (s.1 = s.2) with hsp | hsp <;> rcases Classical.em (t.1 = t.2) with htp | htp
 ·have es : s.1 = t.1 := by grind
  have ec : c = s.1 := by grind
  have ee : e = s.1 := by grind
  subst ec
  subst ee
  refine .inl ⟨rfl, C.zero _ hs.x ?_ ?_⟩
  ·exact hs.pt hsp
  ·show fq s.1 = 0
   rw [es]
   exact ht.pt htp
 ·have ec : c = s.1 := by grind
  have ee : e = s.1 := by grind
  subst ec
  subst ee
  have q0 : q t.1 = q t.2 + 1 := ht.one (by grind)
  refine .inl ⟨rfl, C.ptQ t.1 s.1 t.2 ht.x hs.x ht.y (by grind) (by grind) (by grind) (by grind) (by omega) ?_⟩
  exact hs.pt hsp
 ·have ec : c = t.1 := by grind
  have ee : e = t.1 := by grind
  subst ec
  subst ee
  have p0 : p s.1 = p s.2 + 1 := hs.one (by grind)
  refine .inl ⟨rfl, C.ptP s.1 t.1 s.2 hs.x ht.x hs.y (by grind) (by grind) (by grind) (by grind) (by omega) ?_⟩
  exact ht.pt htp
 ·have sp : s.1 < s.2 := by grind
  have tp : t.1 < t.2 := by grind
  have p0 : p s.1 = p s.2 + 1 := hs.one (by grind)
  have q0 : q t.1 = q t.2 + 1 := ht.one (by grind)
  have o1 : t.1 < s.2 := by grind
  have o2 : s.1 < t.2 := by grind
  -- the whole from a to b
  obtain ⟨a, ha, ha2, ha3⟩ : ∃ a, ab a ≤ X ∧ a ≤ s.1 ∧ a ≤ t.1 ∧ (a = s.1 ∨ a = t.1) := by
   rcases Classical.em (s.1 ≤ t.1) with k | k
   ·exact ⟨s.1, hs.x, by grind, k, .inl rfl⟩
   ·exact ⟨t.1, ht.x, by grind, by grind, .inr rfl⟩
  obtain ⟨b, hb, hb2, hb3⟩ : ∃ b, ab b ≤ X ∧ s.2 ≤ b ∧ t.2 ≤ b ∧ (b = s.2 ∨ b = t.2) := by
   rcases Classical.em (t.2 ≤ s.2) with k | k
   ·exact ⟨s.2, hs.y, by grind, k, .inl rfl⟩
   ·exact ⟨t.2, ht.y, by grind, by grind, .inr rfl⟩
  have hab : a < b := by grind
  have hwd : b - a ≤ d := by grind
  have hc : ab c ≤ X := by
   rcases e1 with k | k <;> rw [k.2]
   ·exact ht.x
   ·exact hs.x
  have he : ab e ≤ X := by
   rcases e2 with k | k <;> rw [k.2]
   ·exact ht.y
   ·exact hs.y
  have hac : a ≤ c := by grind
  have heb : e ≤ b := by grind
  have p1 := C.monoP a s.1 ha hs.x ha2
  have p2 := C.monoP s.2 b hs.y hb hb2
  have q1 := C.monoQ a t.1 ha ht.x ha3.1
  have q2 := C.monoQ t.2 b ht.y hb hb3.1
  have p3 := C.oneP a b ha hb hab hwd
  have q3 := C.oneQ a b ha hb hab hwd
  have g3 := C.both a b ha hb hab hwd (by omega) (by omega)
  have hce : c < e := by grind
  have l1 : g a = g c := by
   have m := C.monoG a c ha hc hac
   have l1 := C.leP a c ha hc hac
   have l2 := C.leQ a c ha hc hac
   rcases e1 with k | k
   ·have ec := k.2
    subst ec
    omega
   ·have ec := k.2
    subst ec
    omega
  have l2 : g e = g b := by
   have m := C.monoG e b he hb heb
   have l1 := C.leP e b he hb heb
   have l2 := C.leQ e b he hb heb
   rcases e2 with k | k
   ·have ec := k.2
    subst ec
    omega
   ·have ec := k.2
    subst ec
    omega
  exact .inr ⟨by dsimp only; grind, by dsimp only; omega⟩
end
end Sp
end
section
/- Where a root lies beside a fraction; what the bounds are made of. -/
namespace Sp

theorem Iv.width {X d : Rat} {p : Rat → Nat} {fp : Rat → Rat} (hm : Mono X p) {n : Nat} {s : Rat × Rat} (h : Iv X p fp s) (hn : s.2 - s.1 ≤ d * p2 n) : (hvN p n s).2 - (hvN p n s).1 ≤ d := by
 obtain ⟨i1, i2, i3, i4, i5⟩ := Iv.halves hm n h
 refine Classical.byContradiction fun hc => ?_
 have := Rat.mul_lt_mul_of_pos_right (show d < (hvN p n s).2 - (hvN p n s).1 by grind) (p2_pos n)
 grind
/-- **Halving parts the root from a fraction that is no root.** -/
theorem lin_end {X M d δ : Rat} {p : Rat → Nat} {fp : Rat → Rat} (hS : Stu X d fp p) (hd : 0 < d) (hf : Fn X M fp) (hM : 0 ≤ M) {s : Rat × Rat} (h : Iv X p fp s) {x : Rat} (hδ : δ ≤ d) (h2 : 2 * (M * δ) < ab (fp x)) {n : Nat} (hn : s.2 - s.1 ≤ δ * p2 n) :
  ¬ ((hvN p n s).1 < x ∧ x ≤ (hvN p n s).2) := by
 have hm : Mono X p := fun x y hx hy hxy => hS.mono hd hx hy hxy
 rintro ⟨h3, h4⟩
 obtain ⟨i1, i2, i3, i4, i5⟩ := Iv.halves hm n h
 have hw := Iv.width hm h hn
 generalize hvN p n s = u at *
 have hxX := ab_between i1.x i1.y (show u.1 ≤ x by grind) h4
 have hab : ab (u.1 - u.2) ≤ δ := by rw [ab_nonpos (by grind)]; grind
 have c := (hS.step u.1 u.2 i1.x i1.y (by grind) (by grind)).2.1.1 (by have := i1.one (by grind); omega)
 have n1 := (near hf hM i1.x i1.y hab c.2).1
 have n2 := hf.lip x u.1 hxX i1.x
 have n3 : M * ab (x - u.1) ≤ M * δ := Rat.mul_le_mul_of_nonneg_left (by rw [ab_nn (by grind)]; grind) hM
 have n4 := ab_add (fp x - fp u.1) (fp u.1)
 rw [show fp x - fp u.1 + fp u.1 = fp x by grind] at n4
 grind
/-- A value's denominator. -/
theorem ev_den {D E : Int} {s : Nat} {x : Rat} {k : Int} (hk : x * (E : Rat) = k) : ∀ {l : List Rat}, HtD D s l → ∃ m : Int, ev l x * ((D * E ^ l.length : Int) : Rat) = m
 | [], _ => ⟨0, by rw [ev_nil, Rat.zero_mul]; rfl⟩
 | c :: l, h => by
  obtain ⟨m, hm⟩ := ev_den hk (l := l) fun c hc => h c (List.mem_cons_of_mem _ hc)
  obtain ⟨n, _, hn⟩ := h c List.mem_cons_self
  refine ⟨n * E ^ (l.length + 1) + k * m, ?_⟩
  rw [ev_cons, List.length_cons, Rat.intCast_mul, Rat.intCast_add, Rat.intCast_mul, Rat.intCast_mul, ← hm, ← hn, ← hk, Rat.intCast_mul, Int.pow_succ, Rat.intCast_mul]
  grind
theorem int_pow_abs (E : Int) : ∀ n : Nat, (E ^ n).natAbs = E.natAbs ^ n
 | 0 => by simp
 | n + 1 => by rw [Int.pow_succ, Int.natAbs_mul, int_pow_abs E n, Nat.pow_succ]
theorem int_pow_zero {E : Int} {n : Nat} (h : E ^ n = 0) : E = 0 := by
 have h1 := int_pow_abs E n
 rw [h] at h1
 have h2 : E.natAbs ^ n = 0 := h1.symm
 have := (Nat.pow_eq_zero.1 h2).1
 omega
/-- A value that is not 0 is not small. -/
theorem val_low {P : List Rat} {s e : Nat} (hP : Ht s P) {x : Rat} {E k : Int} (hE : E ≠ 0) (hEe : E.natAbs ≤ 2 ^ e) (hk : x * (E : Rat) = k) (h0 : ev P x ≠ 0) : 1 ≤ ab (ev P x) * p2 (s + e * P.length) := by
 obtain ⟨D, d1, d2, d3⟩ := hP
 obtain ⟨m, hm⟩ := ev_den hk d3
 have hp : E ^ P.length ≠ 0 := fun h => hE (int_pow_zero h)
 have hD : D * E ^ P.length ≠ 0 := Int.mul_ne_zero d1 hp
 have hm0 : m ≠ 0 := fun e => by
  rw [e] at hm
  rcases Rat.mul_eq_zero.1 hm with h | h
  ·exact h0 h
  ·exact hD (Rat.intCast_inj.1 h)
 have k1 : ab (ev P x) * ab ((D * E ^ P.length : Int) : Rat) = ab (m : Rat) := by rw [← ab_mul, hm]
 have k2 := one_le_int hm0
 have k3 : ab ((D * E ^ P.length : Int) : Rat) ≤ p2 (s + e * P.length) := by
  rw [ab_int]
  refine nat_le ?_
  rw [Int.natAbs_mul, int_pow_abs, Nat.pow_add, Nat.pow_mul]
  exact Nat.mul_le_mul d2 (Nat.pow_le_pow_left hEe _)
 have k4 := Rat.mul_le_mul_of_nonneg_left k3 (ab_nonneg (ev P x))
 grind
/-- Over E and so many halvings. -/
def Dy (E : Int) (n : Nat) (x : Rat) : Prop := ∃ k : Int, x * ((E * 2 ^ n : Int) : Rat) = k
theorem Dy.up {E : Int} {n : Nat} {x : Rat} (h : Dy E n x) : Dy E (n + 1) x := by
 obtain ⟨k, hk⟩ := h
 refine ⟨k * 2, ?_⟩
 rw [Int.pow_succ, ← Int.mul_assoc, Rat.intCast_mul, Rat.intCast_mul k, ← hk]
 grind
theorem Dy.mid {E : Int} {n : Nat} {s : Rat × Rat} (h1 : Dy E n s.1) (h2 : Dy E n s.2) : Dy E (n + 1) (mid s) := by
 obtain ⟨k, hk⟩ := h1
 obtain ⟨m, hm⟩ := h2
 refine ⟨k + m, ?_⟩
 have e := mid2 s
 rw [Int.pow_succ, ← Int.mul_assoc, Rat.intCast_mul, Rat.intCast_add, ← hk, ← hm]
 have : ((2 : Int) : Rat) = 2 := rfl
 rw [this]
 grind
theorem Dy.hv {E : Int} {n : Nat} {p : Rat → Nat} {s : Rat × Rat} (h1 : Dy E n s.1) (h2 : Dy E n s.2) : Dy E (n + 1) (hv p s).1 ∧ Dy E (n + 1) (hv p s).2 := by
 have := Dy.mid h1 h2
 unfold Sp.hv
 split
 ·exact ⟨h1.up, h2.up⟩
 ·split
  ·exact ⟨h1.up, this⟩
  ·exact ⟨this, h2.up⟩
end Sp
end
section
/- The reference's way to compare two roots. -/
namespace Sp

open Classical in
/-- The sign of the root less a fraction. -/
noncomputable def cmpA (p : Rat → Nat) (fp : Rat → Rat) (s : Rat × Rat) (c : Rat) : Int := if isRt fp s c then 0 else if leA p s c then -1 else 1
theorem cmpA_root {p : Rat → Nat} {fp : Rat → Rat} {s : Rat × Rat} {c : Rat} (h : isRt fp s c) : cmpA p fp s c = 0 := if_pos h
theorem cmpA_le {p : Rat → Nat} {fp : Rat → Rat} {s : Rat × Rat} {c : Rat} (h : ¬ isRt fp s c) (h2 : leA p s c) : cmpA p fp s c = -1 := by unfold cmpA; rw [if_neg h, if_pos h2]
theorem cmpA_gt {p : Rat → Nat} {fp : Rat → Rat} {s : Rat × Rat} {c : Rat} (h : ¬ isRt fp s c) (h2 : ¬ leA p s c) : cmpA p fp s c = 1 := by unfold cmpA; rw [if_neg h, if_neg h2]
theorem cmpA_cases {p : Rat → Nat} {fp : Rat → Rat} (s : Rat × Rat) (c : Rat) : (cmpA p fp s c = 0 ∧ isRt fp s c) ∨ (cmpA p fp s c = -1 ∧ ¬ isRt fp s c ∧ leA p s c) ∨ (cmpA p fp s c = 1 ∧ ¬ isRt fp s c ∧ ¬ leA p s c) := by
 rcases Classical.em (isRt fp s c) with h | h
 ·exact .inl ⟨cmpA_root h, h⟩
 ·rcases Classical.em (leA p s c) with k | k
  ·exact .inr (.inl ⟨cmpA_le h k, h, k⟩)
  ·exact .inr (.inr ⟨cmpA_gt h k, h, k⟩)
open Classical in
/-- Where the root lies beside another interval. -/
noncomputable def side (p : Rat → Nat) (fp : Rat → Rat) (s u : Rat × Rat) : Int := if u.1 = u.2 then cmpA p fp s u.1 else if cmpA p fp s u.1 ≤ 0 then -1 else if 0 < cmpA p fp s u.2 then 1 else 0
section
variable {X d : Rat} {p q g : Rat → Nat} {fp fq fg : Rat → Rat} (C : Cts X d p q g fp fq fg) {s u : Rat × Rat} (hs : Iv X p fp s) (hu : Iv X q fq u)
include C hs hu
theorem isRt_le {c : Rat} (hc : ab c ≤ X) (h : cmpA p fp s c ≤ 0) : leA p s c := by
 rcases cmpA_cases (p := p) (fp := fp) s c with ⟨h1, h2⟩ | ⟨h1, h2, h3⟩ | ⟨h1, h2, h3⟩
 ·exact (h2.le C.monoP C.rootP hs hc).2 (by grind)
 ·exact h3
 ·omega
theorem side_cases : (side p fp s u = -1 ∧ Less X (leA p s) (leA q u)) ∨ (side p fp s u = 1 ∧ Less X (leA q u) (leA p s)) ∨
  (side p fp s u = 0 ∧ ((u.1 = u.2 ∧ isRt fp s u.1) ∨ (u.1 < u.2 ∧ ¬ leA p s u.1 ∧ leA p s u.2))) := by
 unfold side
 rcases hu.iso with ⟨h1, h2⟩ | ⟨h1, h2⟩
 ·rw [if_pos h1]
  rcases cmpA_cases (p := p) (fp := fp) s u.1 with ⟨k1, k2⟩ | ⟨k1, k2, k3⟩ | ⟨k1, k2, k3⟩
  ·exact .inr (.inr ⟨k1, .inl ⟨h1, k2⟩⟩)
  ·refine .inl ⟨k1, ?_⟩
   -- a place between
   have key : ∃ c, ab c ≤ X ∧ c < u.1 ∧ leA p s c := by
    rcases hs.iso with ⟨e1, e2⟩ | ⟨e1, e2⟩
    ·refine ⟨s.1, hs.x, ?_, .inl ⟨e1, by grind⟩⟩
     rcases k3 with ⟨_, k⟩ | ⟨k, _⟩
     ·have : u.1 ≠ s.1 := fun e => k2 (.inl ⟨e1, e⟩)
      grind
     ·exact absurd e1 k
    ·rcases Classical.em (s.2 < u.1) with k | k
     ·exact ⟨s.2, hs.y, k, leA_top C.monoP hs hs.y (by grind)⟩
     ·have lt : s.1 < u.1 := Classical.byContradiction fun hn => leA_bot C.monoP hs hu.x (by grind) (by grind) k3
      have n0 : fp u.1 ≠ 0 := fun h0 => k2 (.inr ⟨lt, by grind, h0⟩)
      obtain ⟨c, c1, c2, c3, c4⟩ := C.left s.1 u.1 hs.x hu.x lt n0
      refine ⟨c, c3, c2, .inr ⟨by grind, ?_⟩⟩
      rcases k3 with ⟨k, _⟩ | ⟨_, k⟩
      ·exfalso; grind
      ·omega
   obtain ⟨c, c1, c2, c3⟩ := key
   exact ⟨c, c1, c3, leA_bot C.monoQ hu c1 (by grind) (by grind)⟩
  ·exact .inr (.inl ⟨k1, u.1, hu.x, .inl ⟨h1, by grind⟩, k3⟩)
 ·rw [if_neg (by grind)]
  split
  ·rename_i k
   exact .inl ⟨rfl, u.1, hu.x, isRt_le C hs hu hu.x k, leA_bot C.monoQ hu hu.x (by grind) (by grind)⟩
  ·rename_i k
   have n1 : ¬ leA p s u.1 := by
    rcases cmpA_cases (p := p) (fp := fp) s u.1 with ⟨k1, k2⟩ | ⟨k1, k2, k3⟩ | ⟨k1, k2, k3⟩
    ·omega
    ·omega
    ·exact k3
   split
   ·rename_i k'
    have n2 : ¬ leA p s u.2 := by
     rcases cmpA_cases (p := p) (fp := fp) s u.2 with ⟨k1, k2⟩ | ⟨k1, k2, k3⟩ | ⟨k1, k2, k3⟩
     ·omega
     ·omega
     ·exact k3
    exact .inr (.inl ⟨rfl, u.2, hu.y, leA_top C.monoQ hu hu.y (by grind), n2⟩)
   ·rename_i k'
    exact .inr (.inr ⟨rfl, .inr ⟨h1, n1, isRt_le C hs hu hu.y (by omega)⟩⟩)
/-- The root lies in the other interval, and is a root of the common part: the roots are the same. -/
theorem side_same (h0 : side p fp s u = 0) (hh : hold g fg s) : Same X (leA p s) (leA q u) := by
 rcases side_cases C hs hu with h | h | ⟨_, ⟨h1, h2⟩ | ⟨h1, h2, h3⟩⟩
 ·omega
 ·omega
 ·intro z hz
  exact (h2.le C.monoP C.rootP hs hz).trans (isRt.le C.monoQ C.rootQ hu (x := u.1) (.inl ⟨h1, rfl⟩) hz).symm
 ·rcases hh with ⟨k1, k2⟩ | ⟨k1, k2⟩
  ·have r1 : isRt fp s s.1 := .inl ⟨k1, rfl⟩
   have a1 : ¬ s.1 ≤ u.1 := fun h => h2 (.inl ⟨k1, h⟩)
   have a2 : s.1 ≤ u.2 := by
    rcases h3 with ⟨_, k⟩ | ⟨k, _⟩
    ·exact k
    ·exact absurd k1 k
   have r2 : isRt fq u s.1 := .inr ⟨by grind, a2, C.zQ _ k2⟩
   intro z hz
   exact (r1.le C.monoP C.rootP hs hz).trans (r2.le C.monoQ C.rootQ hu hz).symm
  ·have n1 : ¬ case1 s u := fun h => h2 (leA_top C.monoP hs hu.x (by have := h.1; grind))
   have n2 : ¬ case1 u s := fun h => leA_bot C.monoP hs hu.y (by have := h.1; grind) (by grind) h3
   refine hold_same C hs hu n1 n2 ?_
   have hme : meet s u = (if s.1 < u.1 then u.1 else s.1, if u.2 < s.2 then u.2 else s.2) := by unfold meet; congr
   rw [hme]
   have ls := hs.le
   have b1 : p u.2 < p s.1 := by
    rcases h3 with ⟨k, _⟩ | ⟨_, k⟩
    ·exact absurd k k1
    ·exact k
   have b2 : ¬ p u.1 < p s.1 := fun h => h2 (.inr ⟨k1, h⟩)
   have b3 := hs.one (by grind)
   have e1 : g (if s.1 < u.1 then u.1 else s.1) = g s.1 := by
    split
    ·rename_i k
     have := C.leP s.1 u.1 hs.x hu.x (by grind)
     have := C.monoG s.1 u.1 hs.x hu.x (by grind)
     omega
    ·rfl
   have e2 : g (if u.2 < s.2 then u.2 else s.2) = g s.2 := by
    split
    ·rename_i k
     have := C.leP u.2 s.2 hu.y hs.y (by grind)
     have := C.monoG u.2 s.2 hu.y hs.y (by grind)
     omega
    ·rfl
   refine .inr ⟨fun e => ?_, by dsimp only; omega⟩
   dsimp only at e
   rw [e] at e1
   omega
/-- A small interval has the root beside it, or the root is common. -/
theorem side_end (hw : u.2 - u.1 ≤ d) (h0 : side p fp s u = 0) : hold g fg s := by
 rcases side_cases C hs hu with h | h | ⟨_, ⟨h1, h2⟩ | ⟨h1, h2, h3⟩⟩
 ·omega
 ·omega
 ·have q0 := hu.pt h1
  rcases h2 with ⟨k1, k2⟩ | ⟨k1, k2, k3⟩
  ·have p0 := hs.pt k1
   rw [k2] at q0
   exact .inl ⟨k1, C.zero _ hs.x p0 q0⟩
  ·have g0 := C.zero _ hu.x k3 q0
   have r1 := C.rootG s.1 u.1 hs.x hu.x k1 g0
   have r2 := C.monoG u.1 s.2 hu.x hs.y k2
   exact .inr ⟨by grind, by omega⟩
 ·have q1 := hu.one h1
  rcases hs.iso with ⟨k1, k2⟩ | ⟨k1, k2⟩
  ·have a1 : ¬ s.1 ≤ u.1 := fun h => h2 (.inl ⟨k1, h⟩)
   have a2 : s.1 ≤ u.2 := by
    rcases h3 with ⟨_, k⟩ | ⟨k, _⟩
    ·exact k
    ·exact absurd k1 k
   exact .inl ⟨k1, C.ptQ u.1 s.1 u.2 hu.x hs.x hu.y (by grind) a2 h1 hw (by omega) k2⟩
  ·have b1 : p u.2 < p s.1 := by
    rcases h3 with ⟨k, _⟩ | ⟨_, k⟩
    ·exfalso; grind
    ·exact k
   have b2 : ¬ p u.1 < p s.1 := fun h => h2 (.inr ⟨by grind, h⟩)
   have b3 := C.oneP u.1 u.2 hu.x hu.y h1 hw
   have b4 := C.both u.1 u.2 hu.x hu.y h1 hw (by omega) (by omega)
   have e1 : g u.1 ≤ g s.1 := by
    rcases Classical.em (u.1 ≤ s.1) with k | k
    ·have := C.leP u.1 s.1 hu.x hs.x k
     omega
    ·exact C.monoG s.1 u.1 hs.x hu.x (by grind)
   have e2 : g s.2 ≤ g u.2 := by
    rcases Classical.em (s.2 ≤ u.2) with k | k
    ·have := C.leP s.2 u.2 hs.y hu.y k
     omega
    ·exact C.monoG u.2 s.2 hu.y hs.y (by grind)
   exact .inr ⟨by grind, by omega⟩
end
end Sp
end
