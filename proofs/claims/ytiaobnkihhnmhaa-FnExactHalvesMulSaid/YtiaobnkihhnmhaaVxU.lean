/- Vx, part 13: small helps for use. -/
import Derived.Test.YtiaobnkihhnmhaaVx11
namespace Go.Vx

theorem Fgt.nil : Fgt [] [] := ⟨rfl, fun _ _ h => .inr h⟩
theorem Fgt.cons {f f' : FV} {T T' : List FV} (hf : f' = .any ∨ f = f') (h : Fgt T T') : Fgt (f :: T) (f' :: T') :=
  ⟨by simp [h.1], fun i g hg => by
    cases i with
    | zero =>
      simp at hg
      subst hg
      rcases hf with hf | hf
      · exact .inl hf
      · exact .inr (by simp [hf])
    | succ i => simpa using h.2 i g (by simpa using hg)⟩
theorem Fgt.drop1 {f : FV} {T T' : List FV} (h : Fgt T T') : Fgt (f :: T) (.any :: T') := .cons (.inl rfl) h
theorem Fgt.same1 {f : FV} {T T' : List FV} (h : Fgt T T') : Fgt (f :: T) (f :: T') := .cons (.inr rfl) h

/-- What a value says less. -/
def LeF (f f' : FV) : Prop := ∀ (F : Fr) (β : BM) (w : World) (v : Value), RFV F β w f v → RFV F β w f' v
theorem Wk.le {T T' : List FV} (h : All2 LeF T T') : Wk T T' := fun F β a w hs =>
  ⟨β, { hs with
    size := hs.size.trans h.length
    rel := fun i f' hi => by
      have hlt : i < T.length := by rw [h.length]; exact (List.getElem?_eq_some_iff.1 hi).1
      obtain ⟨y, hy, hle⟩ := h.get i T[i] (List.getElem?_eq_getElem hlt)
      rw [hi] at hy
      cases hy
      obtain ⟨c, hc, hr⟩ := hs.rel i T[i] (List.getElem?_eq_getElem hlt)
      exact ⟨c, hc, hle F β w c hr⟩ }⟩
theorem LeT.nil : All2 LeF [] [] := True.intro
theorem LeT.drop1 {f : FV} {T T' : List FV} (h : All2 LeF T T') : All2 LeF (f :: T) (.any :: T') := ⟨fun _ _ _ _ _ => True.intro, h⟩
theorem LeT.same1 {f : FV} {T T' : List FV} (h : All2 LeF T T') : All2 LeF (f :: T) (f :: T') := ⟨fun _ _ _ _ h => h, h⟩
/-- nil is an empty array of the frame's, under any label. -/
theorem LeT.own1 {l : Lab} {e : TypeId} {T T' : List FV} (h : All2 LeF T T') (hl : Nat.blt l.1 2000000 = true := by rfl) : All2 LeF (.v false [.nil] :: T) (.v false [.own l e (.ints [])] :: T') :=
  ⟨fun F β w v hv => by
    obtain ⟨x, hx, hv⟩ := hv
    cases hx
    exact ⟨_, rfl, ⟨rfl, PinR.low (by simpa using hl)⟩, .inl ⟨hv, rfl⟩⟩, h⟩
theorem LeT.ownR {l : Lab} {e : TypeId} {k : Nat} {T T' : List FV} (h : All2 LeF T T') (hl : Nat.blt l.1 2000000 = true := by rfl) : All2 LeF (.v false [.nil] :: T) (.v false [.own l e (.arr k [])] :: T') :=
  ⟨fun F β w v hv => by
    obtain ⟨x, hx, hv⟩ := hv
    cases hx
    exact ⟨_, rfl, ⟨rfl, PinR.low (by simpa using hl)⟩, .inl ⟨hv, rfl⟩⟩, h⟩

/-- The frame, with some temporaries set. -/
def setAll (T : List FV) : List (Nat × FV) → List FV
  | [] => T
  | (i, f) :: r => setAll (T.set i f) r
/-- A loop, with what changes named. -/
theorem EVs.loopU {P : Program} {c : Code} {K : Ex → List FV → Prop} {T : List FV} {α : Type} (pr : α → Prop) (meas : α → Nat) (upd : α → List (Nat × FV)) (a0 : α) (h0 : pr a0) (hT : Wk T (setAll T (upd a0)))
    (round : ∀ a, pr a → EVs P c (setAll T (upd a)) (fun e T' => match e with
      | .normal => ∃ a', meas a' < meas a ∧ pr a' ∧ Wk T' (setAll T (upd a'))
      | .ret => K .ret T'
      | .exit id => K (.exit id) T')) : EVs P (.loop c) T K := by
  refine EVs.weaken hT ?_
  refine EVs.loop (fun n T' => ∃ a, pr a ∧ n = meas a ∧ T' = setAll T (upd a)) ?_ ⟨a0, h0, rfl, rfl⟩
  rintro n T' ⟨a, ha, rfl, rfl⟩
  refine (round a ha).mono fun e T' h => ?_
  cases e with
  | normal =>
    obtain ⟨a', h1, h2, h3⟩ := h
    exact ⟨_, _, h1, h3, a', h2, rfl, rfl⟩
  | ret => exact h
  | exit id => exact h

theorem wrap64 {z : Int} (h1 : -9223372036854775808 ≤ z) (h2 : z ≤ 9223372036854775807) : IntKind.i64.wrap z = z := by
  rw [IntKind.wrap_i64]
  omega

end Go.Vx
