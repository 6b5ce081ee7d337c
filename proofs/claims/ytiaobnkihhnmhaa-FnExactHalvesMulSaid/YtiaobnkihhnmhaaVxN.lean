/- Vx, part 14: a slice against nil. -/
import Derived.Test.YtiaobnkihhnmhaaVxU
namespace Go.Vx
open Go.RowKit

theorem EVs.seq {P : Program} {x y : Code} {T : List FV} {K : Ex → List FV → Prop} (h : EVs P x T (fun e T' => match e with
    | .normal => EVs P y T' K
    | .ret => K .ret T'
    | .exit id => K (.exit id) T')) : EVs P (.seq x y) T K := by
  intro F hF β a w Q hs hQ
  refine wp_seq (h F hF β a w _ hs ?_)
  intro e T' β' a' w' hk hs'
  cases e with
  | normal => exact hk F hF β' a' w' Q hs' hQ
  | ret => exact hQ .ret T' β' a' w' hk hs'
  | exit id => exact hQ (.exit id) T' β' a' w' hk hs'

theorem eqIn_nil {P : Program} {t e : TypeId} (hu : P.underlying t = some (.slice e)) (d : Nat) (A : Option Addr) (n c : Nat) (w : World) : (Op.equalIn (d + 1) t (.slice A n c) (.slice none 0 0)).run P w = .ok A.isNone w := by
  cases A <;> simp [Op.equalIn, run_underlying hu]
theorem eq_nil {P : Program} {t e : TypeId} (hu : P.underlying t = some (.slice e)) (A : Option Addr) (n c : Nat) (w : World) : (Op.equal t (.slice A n c) (.slice none 0 0)).run P w = .ok A.isNone w :=
  eqIn_nil hu 9999 A n c w
theorem bin_nil {P : Program} {t e : TypeId} (hu : P.underlying t = some (.slice e)) (A : Option Addr) (n c : Nat) (w : World) : (binOp .eql t (.slice A n c) (.slice none 0 0)).run P w = .ok (.bool A.isNone) w := by
  show (do pure (Value.bool (← Op.equal t (.slice A n c) (.slice none 0 0))) : Sem Value).run P w = _
  rw [Sem.run_bind, eq_nil hu]
  rfl
theorem EVs.nilTest {P : Program} {Γ : Tab} {ei : TypeId} (hT : tabB P ei Γ = true) {id : Nat} {o1 o2 : Oper} {d1 d2 s : Nat} {t t' : TypeId} {T : List FV} {K : Ex → List FV → Prop} {r : TyRow} {x : PL}
    (h1 : o1.op = .move (.tmp s)) (hd1 : o1.dst = some d1) (hg1 : o1.guard = none) (h2 : o2.op = .binOp .eql t (.tmp d1) (.const (.slice none 0 0)) t') (hd2 : o2.dst = some d2) (hg2 : o2.guard = none)
    (hr : Γ.get t = some r) (hty : tyArr r.ty x = true) (hs : T.getD s .any = .v false [.p x]) (hd : d1 < T.length)
    (hk : ∀ b : Bool, (b = true → x.len = 0) → K .normal (put (put T (some d1) (.v false [.p x])) (some d2) (.v false [.p (.bool b)]))) : EVs P (.region id #[o1, o2] false) T K := by
  intro F hF β a w Q hs' hQ
  subst hF
  obtain ⟨hid, hrow⟩ := tab_row hT hr
  have hei : eiB F.P ei = true := by unfold tabB at hT; rw [Bool.and_eq_true] at hT; exact hT.1
  obtain ⟨e, hu, _⟩ := row_arr hei hrow hty hid
  refine wp_region_list ?_
  have hx := opd_R hs' (.tmp s)
  have e0 : opd T (.tmp s) = .v false [.p x] := hs
  rw [e0] at hx
  refine wpList_plain hg1 fun K1 hK1 => y_value hs' (k := fun f => f = .v false [.p x]) ?_ rfl (by simp [execOp, h1]) hx
  rintro f β1 c w1 rfl hs1
  refine hK1 _ _ ?_
  have hx1 := opd_R hs1 (.tmp d1)
  rw [hd1] at hs1 hx1 ⊢
  have e1 : opd (put T (some d1) (.v false [.p x])) (.tmp d1) = .v false [.p x] := by
    show (List.set T d1 _).getD d1 .any = _
    simp [List.getD, hd]
  rw [e1] at hx1
  have hx1 : PL.R w1 (okU F β1) x ((a.put (some d1) c).eval (.tmp d1)) := R_v1 hx1
  have hA : x.isArr = true := tyArr_isArr hty
  have hsl : ∃ A cp, (a.put (some d1) c).eval (.tmp d1) = .slice A x.len cp ∧ (x.len = 0 ∨ A ≠ none) := by
    cases x <;> simp [PL.isArr] at hA
    · obtain ⟨A, cp, hv, _, _, h⟩ := hx1
      refine ⟨A, cp, hv, ?_⟩
      rcases h with rfl | ⟨g, o, rfl, _⟩
      · exact .inl rfl
      · exact .inr (by simp)
    · obtain ⟨A, cp, hv, _, _, h⟩ := hx1
      refine ⟨A, cp, hv, ?_⟩
      rcases h with rfl | ⟨g, o, rfl, _⟩
      · exact .inl rfl
      · exact .inr (by simp)
  obtain ⟨A, cp, hv, hnn⟩ := hsl
  have hrun : (execOp (a.put (some d1) c).eval o2).run F.P w1 = .ok (.value (.bool A.isNone)) w1 := by
    simp only [execOp, h2, hv]
    have hc : (a.put (some d1) c).eval (.const (.slice none 0 0)) = .slice none 0 0 := rfl
    rw [hc]
    rw [Sem.run_bind, run_bin (by simp [eqGuard]) (bin_nil hu A _ _ _)]
    rfl
  refine wpList_plain hg2 fun K2 hK2 => y_value hs1 (k := fun f => f = .v false [.p (.bool A.isNone)]) ?_ rfl hrun ⟨_, rfl, rfl⟩
  rintro f β2 c2 w2 rfl hs2
  refine hK2 _ _ ?_
  rw [hd2] at hs2 ⊢
  refine hQ .normal _ β2 _ w2 (hk A.isNone fun hb => ?_) hs2
  rcases hnn with h | h
  · exact h
  · cases A
    · exact absurd rfl h
    · cases hb
end Go.Vx
