/- So, Sp, Sq, Su, Sv, Sw -/
import Derived.Test.YtpmgjmkobpeepaaGreatSGb
set_option linter.unusedVariables false
set_option linter.unusedSectionVars false
set_option linter.unusedSimpArgs false
section
/- Counts of two polynomials and of their common part; also where the common part is constant. -/
namespace Sp

/-- A count that falls, on small steps, just where a function crosses. -/
structure Stu (X d : Rat) (f : Rat → Rat) (v : Rat → Nat) : Prop where
 step : ∀ x y, ab x ≤ X → ab y ≤ X → x < y → y - x ≤ d → v y ≤ v x ∧ (v y < v x ↔ Cross f x y) ∧ v x ≤ v y + 1
 root : ∀ x y, ab x ≤ X → ab y ≤ X → x < y → f y = 0 → v y < v x
theorem Top.stu {X M a e d : Rat} (hs : Small M a e d) (hd : 0 < d) {c0 c1 : Rat → Rat} {l : List (Rat → Rat)} (h : Top X M a e c0 c1 l) : Stu X d c0 (V (c0 :: c1 :: l)) :=
 ⟨fun _ _ hx hy h1 h2 => h.small hs hx hy h1 h2, fun _ _ hx hy h1 h2 => h.root hs hd hx hy h1 h2⟩
theorem stu_one {X d : Rat} : Stu X d (fun _ => 1) (fun _ => 0) :=
 ⟨fun x y _ _ _ _ => ⟨Nat.le_refl _, ⟨fun h => absurd h (by omega), fun h => absurd (show sg (fun _ => 1) x y by unfold sg; grind) h.2⟩, by omega⟩, fun x y _ _ _ h => by grind⟩
theorem Stu.mono {X d : Rat} (hd : 0 < d) {f : Rat → Rat} {v : Rat → Nat} (h : Stu X d f v) {x y : Rat} (hx : ab x ≤ X) (hy : ab y ≤ X) (hxy : x ≤ y) : v y ≤ v x := by
 have := mono_of_small (X := X) hd (fun z => (v z : Int)) (fun x y hx hy h1 h2 => by have := (h.step x y hx hy h1 h2).1; omega) x y hx hy hxy
 omega
/-- What the counts of two polynomials and of their common part do. -/
structure Cts (X d : Rat) (p q g : Rat → Nat) (fp fq fg : Rat → Rat) : Prop where
 monoP : ∀ x y, ab x ≤ X → ab y ≤ X → x ≤ y → p y ≤ p x
 monoQ : ∀ x y, ab x ≤ X → ab y ≤ X → x ≤ y → q y ≤ q x
 monoG : ∀ x y, ab x ≤ X → ab y ≤ X → x ≤ y → g y ≤ g x
 rootP : ∀ x y, ab x ≤ X → ab y ≤ X → x < y → fp y = 0 → p y < p x
 rootQ : ∀ x y, ab x ≤ X → ab y ≤ X → x < y → fq y = 0 → q y < q x
 rootG : ∀ x y, ab x ≤ X → ab y ≤ X → x < y → fg y = 0 → g y < g x
 leP : ∀ x y, ab x ≤ X → ab y ≤ X → x ≤ y → g x + p y ≤ p x + g y
 leQ : ∀ x y, ab x ≤ X → ab y ≤ X → x ≤ y → g x + q y ≤ q x + g y
 both : ∀ x y, ab x ≤ X → ab y ≤ X → x < y → y - x ≤ d → p y < p x → q y < q x → g y < g x
 oneP : ∀ x y, ab x ≤ X → ab y ≤ X → x < y → y - x ≤ d → p x ≤ p y + 1
 oneQ : ∀ x y, ab x ≤ X → ab y ≤ X → x < y → y - x ≤ d → q x ≤ q y + 1
 ptP : ∀ x b y, ab x ≤ X → ab b ≤ X → ab y ≤ X → x ≤ b → b ≤ y → x < y → y - x ≤ d → p y < p x → fq b = 0 → fg b = 0
 ptQ : ∀ x b y, ab x ≤ X → ab b ≤ X → ab y ≤ X → x ≤ b → b ≤ y → x < y → y - x ≤ d → q y < q x → fp b = 0 → fg b = 0
 zP : ∀ x, fg x = 0 → fp x = 0
 zQ : ∀ x, fg x = 0 → fq x = 0
 zero : ∀ x, ab x ≤ X → fp x = 0 → fq x = 0 → fg x = 0
 left : ∀ x b, ab x ≤ X → ab b ≤ X → x < b → fp b ≠ 0 → ∃ c, x ≤ c ∧ c < b ∧ ab c ≤ X ∧ p c = p b
/-- What is not small at a place keeps its sign near it. -/
theorem keeps {X M e d : Rat} {h : Rat → Rat} (hf : Fn X M h) (hM : 0 ≤ M) (hh : M * d < e) {x b y : Rat} (hx : ab x ≤ X) (hb : ab b ≤ X) (hy : ab y ≤ X) (h1 : x ≤ b) (h2 : b ≤ y) (hd : y - x ≤ d) (he : e ≤ ab (h b)) : sg h x y := by
 have d1 : ab (x - b) ≤ d := ab_le_of (by grind) (by grind)
 have d2 : ab (y - b) ≤ d := ab_le_of (by grind) (by grind)
 have s1 : sg h x b := Classical.byContradiction fun hn => by have := near hf hM hx hb d1 hn; grind
 have s2 : sg h y b := Classical.byContradiction fun hn => by have := near hf hM hy hb d2 hn; grind
 unfold sg at s1 s2 ⊢
 rcases mul_sgn s1 with ⟨a1, a2⟩ | ⟨a1, a2⟩ <;> rcases mul_sgn s2 with ⟨b1, b2⟩ | ⟨b1, b2⟩
 ·exact Rat.mul_pos a1 b1
 ·grind
 ·grind
 ·exact mul_nn a1 b1
theorem pt_zero {X M e d : Rat} {f q g H K : Rat → Rat} (hM : 0 ≤ M) (hh : M * d < e) (he : 0 < e) (hg : Fn X M g) (hH : Fn X M H) (hf : ∀ z, f z = g z * H z) (hq : ∀ z, q z = g z * K z) (cGK : Cop X e g K) (cHK : Cop X e H K)
  {x b y : Rat} (hx : ab x ≤ X) (hb : ab b ≤ X) (hy : ab y ≤ X) (h1 : x ≤ b) (h2 : b ≤ y) (hd : y - x ≤ d) (hc : Cross f x y) (h0 : q b = 0) : g b = 0 := Classical.byContradiction fun hn => by
 rw [hq b] at h0
 rcases Rat.mul_eq_zero.1 h0 with h0 | h0
 ·exact hn h0
 ·have eH : e ≤ ab (H b) := (cHK b hb).elim id fun h => by rw [h0, ab_zero] at h; grind
  have eG : e ≤ ab (g b) := (cGK b hb).elim id fun h => by rw [h0, ab_zero] at h; grind
  have s1 := keeps hH hM hh hx hb hy h1 h2 hd eH
  have s2 := keeps hg hM hh hx hb hy h1 h2 hd eG
  apply hc.2
  unfold sg at s1 s2 ⊢
  rw [hf x, hf y, show g x * H x * (g y * H y) = (g x * g y) * (H x * H y) by grind]
  exact Rat.mul_pos s2 s1
theorem both_cross {X M e d : Rat} {f q g H K : Rat → Rat} (hM : 0 ≤ M) (hh : M * d < e) (hH : Fn X M H) (hK : Fn X M K) (hf : ∀ z, f z = g z * H z) (hq : ∀ z, q z = g z * K z) (hc : Cop X e H K)
  {x y : Rat} (hx : ab x ≤ X) (hy : ab y ≤ X) (hd : ab (x - y) ≤ d) (c1 : Cross f x y) (c2 : Cross q x y) : Cross g x y := by
 have g0 : g x ≠ 0 := fun h0 => c1.1 (by rw [hf x, h0, Rat.zero_mul])
 refine ⟨g0, fun gs => ?_⟩
 have no : ∀ (F L : Rat → Rat), (∀ z, F z = g z * L z) → ¬ sg F x y → ¬ sg L x y := by
  intro F L hFL h0 hL
  apply h0
  unfold sg at gs hL ⊢
  rw [hFL x, hFL y, show g x * L x * (g y * L y) = (g x * g y) * (L x * L y) by grind]
  exact Rat.mul_pos gs hL
 have n1 := near hH hM hx hy hd (no f H hf c1.2)
 have n2 := near hK hM hx hy hd (no q K hq c2.2)
 rcases hc x hx with h | h <;> grind
/-- A factor's count falls no more than the whole's. -/
theorem Stu.count_le {X M a e d : Rat} (hs : Small M a e d) (hd : 0 < d) {f g H : Rat → Rat} {vf vg : Rat → Nat} (hF : Stu X d f vf) (hG : Stu X d g vg) (hg : Fn X M g) (hH : Fn X M H) (hf : ∀ z, f z = g z * H z) (hc : Cop X e g H)
  {x y : Rat} (hx : ab x ≤ X) (hy : ab y ≤ X) (hxy : x ≤ y) : vg x + vf y ≤ vf x + vg y := by
 have := mono_of_small (X := X) hd (fun z => (vf z : Int) - vg z) (fun x y hx hy h1 h2 => by
  have hab : ab (x - y) ≤ d := by rw [ab_nonpos (by grind)]; grind
  obtain ⟨a1, a2, a3⟩ := hF.step x y hx hy h1 h2
  obtain ⟨b1, b2, b3⟩ := hG.step x y hx hy h1 h2
  by_cases hcr : Cross g x y
  ·have := a2.2 (cross_factor hs hx hy hab hg hH hf hc hcr)
   omega
  ·have : ¬ vg y < vg x := fun h => hcr (b2.1 h)
   omega) x y hx hy hxy
 omega
/-- Ahead of a place that is no root the count is the same. -/
theorem left_of {X M d : Rat} {f g H : Rat → Rat} {v : Rat → Nat} (hd : 0 < d) (hM : 1 ≤ M) (hS : Stu X d f v) (hg : Fn X M g) (hH : Fn X M H) (hf : ∀ z, f z = g z * H z) {x b : Rat} (hx : ab x ≤ X) (hb : ab b ≤ X) (hxb : x < b) (h0 : f b ≠ 0) :
  ∃ c, x ≤ c ∧ c < b ∧ ab c ≤ X ∧ v c = v b := by
 have g0 : g b ≠ 0 := fun h => h0 (by rw [hf, h, Rat.zero_mul])
 have H0 : H b ≠ 0 := fun h => h0 (by rw [hf, h, Rat.mul_zero])
 obtain ⟨e, e0, e1, e2⟩ : ∃ e, 0 < e ∧ e ≤ ab (g b) ∧ e ≤ ab (H b) := by
  rcases Classical.em (ab (g b) ≤ ab (H b)) with k | k
  ·exact ⟨_, ab_pos g0, by grind, k⟩
  ·exact ⟨_, ab_pos H0, by grind, by grind⟩
 have m0 : e / (2 * M) * (2 * M) = e := Rat.div_mul_cancel (by grind)
 have m1 : 0 < e / (2 * M) := by
  rcases tri (e / (2 * M)) 0 with t | t | t
  ·have := mul_np t (show 0 < 2 * M by grind); grind
  ·rw [t, Rat.zero_mul] at m0; grind
  ·exact t
 generalize e / (2 * M) = r at *
 obtain ⟨δ, d0, d1, d2⟩ : ∃ δ, 0 < δ ∧ δ ≤ d ∧ δ ≤ r := by
  rcases Classical.em (d ≤ r) with k | k
  ·exact ⟨d, hd, by grind, k⟩
  ·exact ⟨r, m1, by grind, by grind⟩
 have hh : M * δ < e := by
  have := Rat.mul_le_mul_of_nonneg_left d2 (show 0 ≤ M by grind)
  grind
 obtain ⟨c, c1, c2, c3⟩ : ∃ c, x ≤ c ∧ c < b ∧ b - c ≤ δ := by
  rcases Classical.em (b - x ≤ δ) with k | k
  ·exact ⟨x, by grind, hxb, k⟩
  ·exact ⟨b - δ, by grind, by grind, by grind⟩
 have hc : ab c ≤ X := by
  have a1 := ab_le b
  have a2 := ab_neg_le x
  exact ab_le_of (by grind) (by grind)
 have s1 := keeps hg (by grind) hh hc hb hb (by grind) (by grind) c3 e1
 have s2 := keeps hH (by grind) hh hc hb hb (by grind) (by grind) c3 e2
 have st := hS.step c b hc hb c2 (by grind)
 refine ⟨c, c1, c2, hc, ?_⟩
 have : ¬ v b < v c := fun h => (st.2.1.1 h).2 (by
  unfold sg at s1 s2 ⊢
  rw [hf c, hf b, show g c * H c * (g b * H b) = (g c * g b) * (H c * H b) by grind]
  exact Rat.mul_pos s1 s2)
 omega
theorem cts {X M a e d : Rat} (hs : Small M a e d) (hd : 0 < d) {f q g H K : Rat → Rat} {vf vq vg : Rat → Nat} (hF : Stu X d f vf) (hQ : Stu X d q vq) (hG : Stu X d g vg) (fg : Fn X M g) (hH : Fn X M H) (hK : Fn X M K)
  (hf : ∀ z, f z = g z * H z) (hq : ∀ z, q z = g z * K z) (cGH : Cop X e g H) (cGK : Cop X e g K) (cHK : Cop X e H K) : Cts X d vf vq vg f q g := by
 have hM0 : 0 ≤ M := by have := hs.M1; grind
 have sb : ∀ {x y : Rat}, x < y → y - x ≤ d → ab (x - y) ≤ d := fun h1 h2 => by rw [ab_nonpos (by grind)]; grind
 exact {
  monoP := fun x y hx hy h => hF.mono hd hx hy h
  monoQ := fun x y hx hy h => hQ.mono hd hx hy h
  monoG := fun x y hx hy h => hG.mono hd hx hy h
  rootP := hF.root
  rootQ := hQ.root
  rootG := hG.root
  leP := fun x y hx hy h => Stu.count_le hs hd hF hG fg hH hf cGH hx hy h
  leQ := fun x y hx hy h => Stu.count_le hs hd hQ hG fg hK hq cGK hx hy h
  both := fun x y hx hy h h1 h2 h3 => (hG.step x y hx hy h h1).2.1.2 (both_cross hM0 hs.h1 hH hK hf hq cHK hx hy (sb h h1) ((hF.step x y hx hy h h1).2.1.1 h2) ((hQ.step x y hx hy h h1).2.1.1 h3))
  oneP := fun x y hx hy h h1 => (hF.step x y hx hy h h1).2.2
  oneQ := fun x y hx hy h h1 => (hQ.step x y hx hy h h1).2.2
  ptP := fun x b y hx hb hy h1 h2 h3 h4 h5 h6 => pt_zero hM0 hs.h1 hs.e0 fg hH hf hq cGK cHK hx hb hy h1 h2 h4 ((hF.step x y hx hy h3 h4).2.1.1 h5) h6
  ptQ := fun x b y hx hb hy h1 h2 h3 h4 h5 h6 => pt_zero hM0 hs.h1 hs.e0 fg hK hq hf cGH cHK.symm hx hb hy h1 h2 h4 ((hQ.step x y hx hy h3 h4).2.1.1 h5) h6
  zP := fun x h => by rw [hf x, h]; grind
  zQ := fun x h => by rw [hq x, h]; grind
  zero := fun x hx h1 h2 => Classical.byContradiction fun hn => by
   rw [hf x] at h1
   rw [hq x] at h2
   have e0 := hs.e0
   rcases Rat.mul_eq_zero.1 h1 with h | h
   ·exact hn h
   ·rcases Rat.mul_eq_zero.1 h2 with h' | h'
    ·exact hn h'
    ·rcases cHK x hx with k | k
     ·rw [h, ab_zero] at k; grind
     ·rw [h', ab_zero] at k; grind
  left := fun x b hx hb h h0 => left_of hd hs.M1 hF fg hH hf hx hb h h0 }
theorem fn_one {X M : Rat} (hM : 1 ≤ M) : Fn X M (fun _ => 1) := ⟨fun x _ => by rw [ab_nn (by grind)]; exact hM, fun x y _ _ => by
 show ab (1 - 1) ≤ _
 rw [show (1 : Rat) - 1 = 0 by grind, ab_zero]
 exact Rat.mul_nonneg (by grind) (ab_nonneg _)⟩
theorem cop_one {X e : Rat} (he : e ≤ 1) (f : Rat → Rat) : Cop X e (fun _ => 1) f := fun x _ => .inl (by rw [ab_nn (by grind)]; exact he)
end Sp
end
section
/- The numbers, as powers of two. -/
namespace Sp

def p2 (n : Nat) : Rat := ((2 ^ n : Nat) : Rat)
theorem p2_add (m n : Nat) : p2 (m + n) = p2 m * p2 n := by unfold p2; rw [Nat.pow_add, Rat.natCast_mul]
theorem p2_pos (n : Nat) : 0 < p2 n := by
 have : ((0 : Nat) : Rat) < ((2 ^ n : Nat) : Rat) := Rat.natCast_lt_natCast.2 (Nat.pow_pos (by omega))
 exact this
theorem p2_le {m n : Nat} (h : m ≤ n) : p2 m ≤ p2 n := nat_le (Nat.pow_le_pow_right (by omega) h)
theorem p2_lt {m n : Nat} (h : m < n) : p2 m < p2 n := Rat.natCast_lt_natCast.2 (Nat.pow_lt_pow_right (by omega) h)
theorem p2_zero : p2 0 = 1 := rfl
theorem p2_one : p2 1 = 2 := rfl
theorem p2_ge1 (n : Nat) : 1 ≤ p2 n := by have := p2_le (Nat.zero_le n); rwa [p2_zero] at this
theorem p2_pow (m : Nat) : ∀ k : Nat, p2 m ^ k = p2 (m * k)
 | 0 => by rw [Rat.pow_zero, Nat.mul_zero, p2_zero]
 | k + 1 => by rw [Rat.pow_succ, p2_pow m k, Nat.mul_succ, p2_add]
theorem inv_mul (n : Nat) : 1 / p2 n * p2 n = 1 := Rat.div_mul_cancel (by have := p2_pos n; grind)
theorem inv_pos' (n : Nat) : 0 < 1 / p2 n := by
 have h := inv_mul n
 have hp := p2_pos n
 rcases tri (1 / p2 n) 0 with t | t | t
 ·have := mul_np t hp; grind
 ·rw [t, Rat.zero_mul] at h; grind
 ·exact t
theorem inv_le1 (n : Nat) : 1 / p2 n ≤ 1 := by
 have h := inv_mul n
 have h1 := p2_ge1 n
 have := Rat.mul_le_mul_of_nonneg_left h1 (show 0 ≤ 1 / p2 n by have := inv_pos' n; grind)
 grind
theorem nums (B : Nat) : Nums (p2 B) (1 / p2 B) (p2 64) (p2 (B + 330)) 5 where
 A0 := by have := p2_pos B; grind
 a0 := inv_pos' B
 a1 := inv_le1 B
 X1 := p2_ge1 64
 M1 := p2_ge1 _
 hM := by
  have e4 : (4 : Rat) * p2 64 = p2 66 := by
   rw [show (66 : Nat) = 2 + 64 from rfl, p2_add]; rfl
  rw [e4, p2_pow, ← p2_add]
  exact p2_le (by omega)
theorem lowE_p2 (B : Nat) : ∀ k : Nat, lowE (1 / p2 B) (p2 (B + 330)) k * p2 (k * (B + 331) + (k + 1) * B) = 1
 | 0 => by
  rw [show 0 * (B + 331) + (0 + 1) * B = B by omega]
  exact inv_mul B
 | k + 1 => by
  have h := lowE_p2 B k
  have e := lowE_eq (nums B) k
  have hb := inv_mul B
  rw [show (k + 1) * (B + 331) + (k + 1 + 1) * B = (k * (B + 331) + (k + 1) * B) + ((B + 330) + 1 + B) by grind]
  rw [p2_add (k * (B + 331) + (k + 1) * B), p2_add (B + 330 + 1), p2_add (B + 330) 1, p2_one]
  generalize lowE (1 / p2 B) (p2 (B + 330)) (k + 1) = u at *
  generalize lowE (1 / p2 B) (p2 (B + 330)) k = v at *
  generalize 1 / p2 B = w at *
  have : u * (p2 (k * (B + 331) + (k + 1) * B) * (p2 (B + 330) * 2 * p2 B)) = (u * (2 * p2 (B + 330))) * (p2 (k * (B + 331) + (k + 1) * B) * p2 B) := by grind
  rw [this, e]
  have : w * v * (p2 (k * (B + 331) + (k + 1) * B) * p2 B) = (w * p2 B) * (v * p2 (k * (B + 331) + (k + 1) * B)) := by grind
  rw [this, hb, h]; grind
/-- So many bits a small step has. -/
def dbits (B : Nat) : Nat := 14 * B + 2316
def dB (B : Nat) : Rat := 1 / p2 (dbits B)
def eB (B : Nat) : Rat := lowE (1 / p2 B) (p2 (B + 330)) 5
theorem lt_of_mul {a b c : Rat} (hc : 0 < c) (h : a * c < b * c) : a < b := Classical.byContradiction fun hn => by
 have := Rat.mul_le_mul_of_nonneg_right (show b ≤ a by grind) (show 0 ≤ c by grind)
 grind
theorem small (B : Nat) : Small (p2 (B + 330)) (1 / p2 B) (eB B) (dB B) where
 M1 := p2_ge1 _
 a0 := inv_pos' B
 e0 := lowE_pos (nums B) 5
 d0 := by have := inv_pos' (dbits B); unfold dB; grind
 h1 := by
  refine lt_of_mul (p2_pos (dbits B)) ?_
  have h := lowE_p2 B 5
  have e1 : eB B * p2 (dbits B) = p2 (3 * B + 661) := by
   rw [show dbits B = (5 * (B + 331) + (5 + 1) * B) + (3 * B + 661) by unfold dbits; omega, p2_add, ← Rat.mul_assoc]
   unfold eB
   rw [h, Rat.one_mul]
  have e2 : p2 (B + 330) * dB B * p2 (dbits B) = p2 (B + 330) := by
   have := inv_mul (dbits B)
   unfold dB
   rw [Rat.mul_assoc, this, Rat.mul_one]
  rw [e1, e2]
  exact p2_lt (by omega)
 h2 := by
  refine lt_of_mul (p2_pos (dbits B)) ?_
  have h := lowE_p2 B 5
  have hb := inv_mul B
  have e1 : 1 / p2 B * eB B * p2 (dbits B) = p2 (2 * B + 661) := by
   rw [show dbits B = (5 * (B + 331) + (5 + 1) * B) + (B + (2 * B + 661)) by unfold dbits; omega, p2_add, p2_add B]
   unfold eB
   generalize lowE (1 / p2 B) (p2 (B + 330)) 5 = u at *
   generalize 1 / p2 B = w at *
   have : w * u * (p2 (5 * (B + 331) + (5 + 1) * B) * (p2 B * p2 (2 * B + 661))) = (w * p2 B) * (u * p2 (5 * (B + 331) + (5 + 1) * B)) * p2 (2 * B + 661) := by grind
   rw [this, hb, h, Rat.one_mul, Rat.one_mul]
  have e2 : p2 (B + 330) * (p2 (B + 330) * dB B) * p2 (dbits B) = p2 (2 * B + 660) := by
   have := inv_mul (dbits B)
   unfold dB
   rw [Rat.mul_assoc, Rat.mul_assoc, this, Rat.mul_one, show 2 * B + 660 = (B + 330) + (B + 330) by omega, p2_add (B + 330) (B + 330)]
  rw [e1, e2]
  exact p2_lt (by omega)
theorem dB_pos (B : Nat) : 0 < dB B := inv_pos' _
/-- A square-free polynomial with its chain. -/
def PolB (B : Nat) (P P1 : List Rat) (l : List (List Rat)) : Prop := Pol (p2 B) (1 / p2 B) 5 4 P P1 l
theorem eB_le {B k : Nat} (h : k ≤ 5) : eB B ≤ lowE (1 / p2 B) (p2 (B + 330)) k := lowE_mono (nums B) h
theorem eB_le1 (B : Nat) : eB B ≤ 1 := by
 have h1 := eB_le (B := B) (Nat.zero_le 5)
 have h2 := inv_le1 B
 have : lowE (1 / p2 B) (p2 (B + 330)) 0 = 1 / p2 B := rfl
 grind
theorem PolB.stu {B : Nat} {P P1 : List Rat} {l : List (List Rat)} (h : PolB B P P1 l) : Stu (p2 64) (dB B) (ev P) (W P P1 l) := (Pol.top (nums B) h (eB_le (by omega))).stu (small B) (dB_pos B)
theorem PolB.dcop {B : Nat} {P P1 : List Rat} {l : List (List Rat)} (h : PolB B P P1 l) : Cop (p2 64) (lowE (1 / p2 B) (p2 (B + 330)) 4) (ev P) (ev (der P)) := by
 have h1 := (h.lc.cop (nums B)).mono (lowE_mono (nums B) h.len)
 exact fun x hx => by have := h1 x hx; rw [h.der x] at this; exact this
theorem e2_le (B : Nat) : eB B * (2 * p2 (B + 330)) ≤ lowE (1 / p2 B) (p2 (B + 330)) 4 := by
 unfold eB
 rw [lowE_eq (nums B) 4]
 have := Rat.mul_le_mul_of_nonneg_right (inv_le1 B) (show 0 ≤ lowE (1 / p2 B) (p2 (B + 330)) 4 by have := lowE_pos (nums B) 4; grind)
 grind
/-- Two polynomials and their common part. -/
theorem cts_two {B : Nat} {P P1 Q Q1 G G1 H K : List Rat} {lp lq lg lh : List (List Rat)} (pP : PolB B P P1 lp) (pQ : PolB B Q Q1 lq) (pG : PolB B G G1 lg) (hP : ∀ x, ev P x = ev G x * ev H x) (hQ : ∀ x, ev Q x = ev G x * ev K x)
  (hk : LC (p2 B) (1 / p2 B) 5 H K lh) (hl : lh.length ≤ 5) : Cts (p2 64) (dB B) (W P P1 lp) (W Q Q1 lq) (W G G1 lg) (ev P) (ev Q) (ev G) := by
 have bH := hk.bd.1
 have bK := hk.bd.2
 have bG := pG.lc.bd.1
 exact cts (small B) (dB_pos B) pP.stu pQ.stu pG.stu (bG.fn (nums B)) (bH.fn (nums B)) (bK.fn (nums B)) hP hQ (cop_parts (nums B) hP bG bH pP.dcop (e2_le B)) (cop_parts (nums B) hQ bG bK pQ.dcop (e2_le B)) ((hk.cop (nums B)).mono (eB_le hl))
/-- Two polynomials without a common part. -/
theorem cts_one {B : Nat} {P P1 Q Q1 : List Rat} {lp lq lh : List (List Rat)} (pP : PolB B P P1 lp) (pQ : PolB B Q Q1 lq) (hk : LC (p2 B) (1 / p2 B) 5 P Q lh) (hl : lh.length ≤ 5) :
  Cts (p2 64) (dB B) (W P P1 lp) (W Q Q1 lq) (fun _ => 0) (ev P) (ev Q) (fun _ => 1) := by
 have bH := hk.bd.1
 have bK := hk.bd.2
 exact cts (small B) (dB_pos B) pP.stu pQ.stu stu_one (fn_one (p2_ge1 _)) (bH.fn (nums B)) (bK.fn (nums B)) (fun z => by grind) (fun z => by grind) (cop_one (eB_le1 B) _) (cop_one (eB_le1 B) _) ((hk.cop (nums B)).mono (eB_le hl))
end Sp
end
section
/- Halving isolating intervals: what the roots do. -/
namespace Sp

def mid (s : Rat × Rat) : Rat := (s.1 + s.2) / 2
theorem mid2 (s : Rat × Rat) : mid s * 2 = s.1 + s.2 := Rat.div_mul_cancel (by grind)
open Classical in
/-- The half that is kept. -/
noncomputable def hv (p : Rat → Nat) (s : Rat × Rat) : Rat × Rat := if s.1 = s.2 then s else if p s.1 = p (mid s) + 1 then (s.1, mid s) else (mid s, s.2)
noncomputable def hvN (p : Rat → Nat) : Nat → Rat × Rat → Rat × Rat
 | 0, s => s
 | n + 1, s => hvN p n (hv p s)
theorem hvN_succ (p : Rat → Nat) : ∀ (n : Nat) (s : Rat × Rat), hvN p (n + 1) s = hv p (hvN p n s)
 | 0, _ => rfl
 | n + 1, s => by
  show hvN p (n + 1) (hv p s) = hv p (hvN p n (hv p s))
  exact hvN_succ p n (hv p s)
/-- An isolating interval: the root alone, or one root in it. -/
structure Iv (X : Rat) (p : Rat → Nat) (fp : Rat → Rat) (s : Rat × Rat) : Prop where
 x : ab s.1 ≤ X
 y : ab s.2 ≤ X
 iso : (s.1 = s.2 ∧ fp s.1 = 0) ∨ (s.1 < s.2 ∧ p s.1 = p s.2 + 1)
/-- The root is at most c. -/
def leA (p : Rat → Nat) (s : Rat × Rat) (c : Rat) : Prop := (s.1 = s.2 ∧ s.1 ≤ c) ∨ (s.1 ≠ s.2 ∧ p c < p s.1)
def Mono (X : Rat) (p : Rat → Nat) : Prop := ∀ x y, ab x ≤ X → ab y ≤ X → x ≤ y → p y ≤ p x
theorem Iv.le {X : Rat} {p : Rat → Nat} {fp : Rat → Rat} {s : Rat × Rat} (h : Iv X p fp s) : s.1 ≤ s.2 := by rcases h.iso with h | h <;> grind
theorem ab_between {X x y z : Rat} (hx : ab x ≤ X) (hy : ab y ≤ X) (h1 : x ≤ z) (h2 : z ≤ y) : ab z ≤ X := by
 have a1 := ab_le y
 have a2 := ab_neg_le x
 exact ab_le_of (by grind) (by grind)
theorem Iv.mid {X : Rat} {p : Rat → Nat} {fp : Rat → Rat} {s : Rat × Rat} (h : Iv X p fp s) : s.1 ≤ mid s ∧ mid s ≤ s.2 ∧ ab (mid s) ≤ X := by
 have e := mid2 s
 have := h.le
 exact ⟨by grind, by grind, ab_between h.x h.y (by grind) (by grind)⟩
theorem Iv.half {X : Rat} {p : Rat → Nat} {fp : Rat → Rat} {s : Rat × Rat} (hm : Mono X p) (h : Iv X p fp s) :
  Iv X p fp (hv p s) ∧ s.1 ≤ (hv p s).1 ∧ (hv p s).2 ≤ s.2 ∧ ((hv p s).2 - (hv p s).1) * 2 = s.2 - s.1 ∧ ∀ c, leA p (hv p s) c ↔ leA p s c := by
 have e := mid2 s
 obtain ⟨m1, m2, m3⟩ := h.mid
 unfold hv
 split
 ·rename_i h1
  exact ⟨h, by grind, by grind, by grind, fun c => Iff.rfl⟩
 ·rename_i h1
  rcases h.iso with h2 | ⟨h2, h3⟩
  ·exact absurd h2.1 h1
  ·have p1 := hm s.1 (Sp.mid s) h.x m3 m1
   have p2 := hm (Sp.mid s) s.2 m3 h.y m2
   split
   ·rename_i h4
    refine ⟨⟨h.x, m3, .inr ⟨by dsimp only; grind, h4⟩⟩, by dsimp only; grind, m2, by dsimp only; grind, fun c => ?_⟩
    unfold leA
    dsimp only
    constructor
    ·rintro (⟨k1, k2⟩ | ⟨k1, k2⟩)
     ·exfalso; grind
     ·exact .inr ⟨h1, k2⟩
    ·rintro (⟨k1, k2⟩ | ⟨k1, k2⟩)
     ·exact absurd k1 h1
     ·exact .inr ⟨by grind, k2⟩
   ·rename_i h4
    have h5 : p (Sp.mid s) = p s.1 := by omega
    refine ⟨⟨m3, h.y, .inr ⟨by dsimp only; grind, by dsimp only; omega⟩⟩, m1, by dsimp only; grind, by dsimp only; grind, fun c => ?_⟩
    unfold leA
    dsimp only
    rw [h5]
    constructor
    ·rintro (⟨k1, k2⟩ | ⟨k1, k2⟩)
     ·exfalso; grind
     ·exact .inr ⟨h1, k2⟩
    ·rintro (⟨k1, k2⟩ | ⟨k1, k2⟩)
     ·exact absurd k1 h1
     ·exact .inr ⟨by grind, k2⟩
theorem Iv.halves {X : Rat} {p : Rat → Nat} {fp : Rat → Rat} (hm : Mono X p) : ∀ (n : Nat) {s : Rat × Rat}, Iv X p fp s →
  Iv X p fp (hvN p n s) ∧ s.1 ≤ (hvN p n s).1 ∧ (hvN p n s).2 ≤ s.2 ∧ ((hvN p n s).2 - (hvN p n s).1) * p2 n = s.2 - s.1 ∧ ∀ c, leA p (hvN p n s) c ↔ leA p s c
 | 0, s, h => by
  refine ⟨h, ?_, ?_, ?_, fun _ => Iff.rfl⟩
  ·show s.1 ≤ s.1; grind
  ·show s.2 ≤ s.2; grind
  ·rw [p2_zero]; show (s.2 - s.1) * 1 = _; grind
 | n + 1, s, h => by
  obtain ⟨i1, i2, i3, i4, i5⟩ := Iv.halves hm n h
  obtain ⟨j1, j2, j3, j4, j5⟩ := i1.half hm
  rw [hvN_succ]
  refine ⟨j1, by grind, by grind, ?_, fun c => (j5 c).trans (i5 c)⟩
  rw [p2_add, p2_one]
  grind
/-- The root is a point. -/
def isRt (fp : Rat → Rat) (s : Rat × Rat) (x : Rat) : Prop := (s.1 = s.2 ∧ x = s.1) ∨ (s.1 < x ∧ x ≤ s.2 ∧ fp x = 0)
theorem isRt.le {X : Rat} {p : Rat → Nat} {fp : Rat → Rat} {s : Rat × Rat} (hm : Mono X p) (hr : ∀ x y, ab x ≤ X → ab y ≤ X → x < y → fp y = 0 → p y < p x) (h : Iv X p fp s) {x : Rat} (hx : isRt fp s x) {z : Rat} (hz : ab z ≤ X) : leA p s z ↔ x ≤ z := by
 unfold leA
 rcases hx with ⟨h1, h2⟩ | ⟨h1, h2, h3⟩
 ·subst h2
  constructor
  ·rintro (⟨k1, k2⟩ | ⟨k1, k2⟩)
   ·exact k2
   ·exact absurd h1 k1
  ·intro k; exact .inl ⟨h1, k⟩
 ·rcases h.iso with ⟨h4, h5⟩ | ⟨h4, h5⟩
  ·exfalso; grind
  ·have hxX := ab_between h.x h.y (by grind) h2
   have r1 := hr s.1 x h.x hxX h1 h3
   constructor
   ·rintro (⟨k1, k2⟩ | ⟨k1, k2⟩)
    ·exfalso; grind
    ·refine Classical.byContradiction fun hn => ?_
     have r2 := hr z x hz hxX (by grind) h3
     have r3 := hm x s.2 hxX h.y h2
     omega
   ·intro k
    have := hm x z hxX hz k
    exact .inr ⟨by grind, by omega⟩
/-- Whether the common part has a root in an interval. -/
def hold (g : Rat → Nat) (fg : Rat → Rat) (s : Rat × Rat) : Prop := (s.1 = s.2 ∧ fg s.1 = 0) ∨ (s.1 ≠ s.2 ∧ g s.2 < g s.1)
def guard (q : Rat → Nat) (s : Rat × Rat) : Prop := s.1 ≠ s.2 ∧ q s.1 ≠ q s.2
section
variable {X d : Rat} {p q g : Rat → Nat} {fp fq fg : Rat → Rat} (C : Cts X d p q g fp fq fg)
include C
/-- **The loop of SignAtRoot ends.** -/
theorem sign_end (hd : 0 < d) {s : Rat × Rat} (h : Iv X p fp s) (hh : ¬ hold g fg s) {n : Nat} (hn : s.2 - s.1 ≤ d * p2 n) : ¬ guard q (hvN p n s) := by
 rintro ⟨g1, g2⟩
 obtain ⟨i1, i2, i3, i4, i5⟩ := Iv.halves C.monoP n h
 generalize hvN p n s = u at *
 have hw : u.2 - u.1 ≤ d := by
  refine Classical.byContradiction fun hc => ?_
  have := Rat.mul_lt_mul_of_pos_right (show d < u.2 - u.1 by grind) (p2_pos n)
  grind
 rcases i1.iso with ⟨k1, k2⟩ | ⟨k1, k2⟩
 ·exact g1 k1
 ·have q1 := C.monoQ u.1 u.2 i1.x i1.y (by grind)
  have := C.both u.1 u.2 i1.x i1.y k1 hw (by omega) (by omega)
  have m1 := C.monoG s.1 u.1 h.x i1.x i2
  have m2 := C.monoG u.2 s.2 i1.y h.y i3
  exact hh (.inr ⟨by grind, by omega⟩)
/-- The two programs ask alike whether the root is common. -/
theorem hold_iff {s : Rat × Rat} (h : Iv X p fp s) (h1 : s.1 < s.2) : (g s.2 < g s.1) ↔ (g s.1 : Int) - g s.2 = 1 := by
 have := C.leP s.1 s.2 h.x h.y h.le
 rcases h.iso with ⟨k1, k2⟩ | ⟨k1, k2⟩
 ·exfalso; grind
 ·omega
/-- At the end the other polynomial is not 0 at the upper bound. -/
theorem sign_ne {s u : Rat × Rat} (h : Iv X p fp s) (hh : ¬ hold g fg s) (hu : Iv X p fp u) (hs : u.1 = u.2 → s.1 = s.2 ∧ u = s) (hg : ¬ guard q u) : fq u.2 ≠ 0 := by
 intro h0
 rcases hu.iso with ⟨k1, k2⟩ | ⟨k1, k2⟩
 ·obtain ⟨e1, e2⟩ := hs k1
  subst e2
  rw [← k1] at h0
  exact hh (.inl ⟨k1, C.zero _ hu.x k2 h0⟩)
 ·have := C.rootQ u.1 u.2 hu.x hu.y k1 h0
  exact hg ⟨by grind, by omega⟩
end
theorem hvN_point {p : Rat → Nat} {X : Rat} {fp : Rat → Rat} (hm : Mono X p) {n : Nat} {s : Rat × Rat} (h : Iv X p fp s) (h1 : (hvN p n s).1 = (hvN p n s).2) : s.1 = s.2 ∧ hvN p n s = s := by
 obtain ⟨i1, i2, i3, i4, i5⟩ := Iv.halves hm n h
 have e : s.1 = s.2 := by
  have : (hvN p n s).2 - (hvN p n s).1 = 0 := by grind
  rw [this, Rat.zero_mul] at i4
  grind
 refine ⟨e, ?_⟩
 have : ∀ n : Nat, hvN p n s = s := fun n => by
  induction n with
  | zero => rfl
  | succ n ih =>
   show hvN p n (hv p s) = s
   have : hv p s = s := by unfold hv; rw [if_pos e]
   rw [this, ih]
 exact this n
end Sp
end
section
/- Comparing the roots of two isolating intervals. -/
namespace Sp

theorem Iv.one {X : Rat} {p : Rat → Nat} {fp : Rat → Rat} {s : Rat × Rat} (h : Iv X p fp s) (h1 : s.1 < s.2) : p s.1 = p s.2 + 1 := by
 rcases h.iso with k | k
 ·exfalso; grind
 ·exact k.2
end Sp
end
section
/- Where a root lies beside a fraction; what the bounds are made of. -/
namespace Sp

theorem int_pow_abs (E : Int) : ∀ n : Nat, (E ^ n).natAbs = E.natAbs ^ n
 | 0 => by simp
 | n + 1 => by rw [Int.pow_succ, Int.natAbs_mul, int_pow_abs E n, Nat.pow_succ]
theorem int_pow_zero {E : Int} {n : Nat} (h : E ^ n = 0) : E = 0 := by
 have h1 := int_pow_abs E n
 rw [h] at h1
 have h2 : E.natAbs ^ n = 0 := h1.symm
 have := (Nat.pow_eq_zero.1 h2).1
 omega
/-- Over E and so many halvings. -/
def Dy (E : Int) (n : Nat) (x : Rat) : Prop := ∃ k : Int, x * ((E * 2 ^ n : Int) : Rat) = k
theorem Dy.up {E : Int} {n : Nat} {x : Rat} (h : Dy E n x) : Dy E (n + 1) x := by
 obtain ⟨k, hk⟩ := h
 refine ⟨k * 2, ?_⟩
 rw [Int.pow_succ, ← Int.mul_assoc, Rat.intCast_mul, Rat.intCast_mul k, ← hk]
 grind
theorem Dy.mid {E : Int} {n : Nat} {s : Rat × Rat} (h1 : Dy E n s.1) (h2 : Dy E n s.2) : Dy E (n + 1) (mid s) := by
 obtain ⟨k, hk⟩ := h1
 obtain ⟨m, hm⟩ := h2
 refine ⟨k + m, ?_⟩
 have e := mid2 s
 rw [Int.pow_succ, ← Int.mul_assoc, Rat.intCast_mul, Rat.intCast_add, ← hk, ← hm]
 have : ((2 : Int) : Rat) = 2 := rfl
 rw [this]
 grind
theorem Dy.hv {E : Int} {n : Nat} {p : Rat → Nat} {s : Rat × Rat} (h1 : Dy E n s.1) (h2 : Dy E n s.2) : Dy E (n + 1) (hv p s).1 ∧ Dy E (n + 1) (hv p s).2 := by
 have := Dy.mid h1 h2
 unfold Sp.hv
 split
 ·exact ⟨h1.up, h2.up⟩
 ·split
  ·exact ⟨h1.up, this⟩
  ·exact ⟨this, h2.up⟩
end Sp
end