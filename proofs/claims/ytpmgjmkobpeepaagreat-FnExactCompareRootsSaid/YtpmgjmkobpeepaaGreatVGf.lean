/- Vx11, VxU, VxN, VxF -/
import Derived.Test.YtpmgjmkobpeepaaGreatVGe
set_option linter.unusedVariables false
set_option linter.unusedSectionVars false
set_option linter.unusedSimpArgs false
section
/- Vx, part 12: code, loops, and what a function does. -/
namespace Go.Vx
open Go.RowKit

inductive Ex where
 | normal
 | ret
 | exit (id : Nat)
def Ex.to : Ex → Exit
 | .normal => .normal
 | .ret => .ret
 | .exit id => .exit id

/-- The code, run by the model from whatever world the frame's values say. -/
def EVs (P : Program) (c : Code) (T : List FV) (K : Ex → List FV → Prop) : Prop :=
 ∀ (F : Fr), F.P = P → ∀ (β : BM) (a : Act) (w : World) (Q : Exit → Act → World → Prop), Sim F β T a w →
  (∀ e T' β' a' w', K e T' → Sim F β' T' a' w' → Q e.to a' w') → c.wp P Q a w

/-- The code, as the frame's values run it. -/
def ev (Γ : Tab) (ei : TypeId) (Den : FuncId → List PV → Bool → Res → Prop) (P : Program) : Code → List FV → (Ex → List FV → Prop) → Prop
 | .skip, T, K => K .normal T
 | .ret, T, K => K .ret T
 | .exit id, T, K => K (.exit id) T
 | .seq x y, T, K => ev Γ ei Den P x T (fun e T' => match e with
  | .normal => ev Γ ei Den P y T' K
  | .ret => K .ret T'
  | .exit id => K (.exit id) T')
 | .block id x, T, K => ev Γ ei Den P x T (fun e T' => match e with
  | .normal => K .normal T'
  | .ret => K .ret T'
  | .exit id' => match decide (id' = id) with
   | true => K .normal T'
   | false => K (.exit id') T')
 | .cond c x y, T, K => match opd T c with
  | .v false [.p (.bool t)] => ∃ t', t = t' ∧ match t' with
   | true => ev Γ ei Den P x T K
   | false => ev Γ ei Den P y T K
  | _ => False
 | .region _ ops draw, T, K => evReg Γ ei Den ops draw T (K .normal)
 | .loop x, T, K => EVs P (.loop x) T K
 | _, _, _ => False

section
variable {Γ : Tab} {ei : TypeId} {Den : FuncId → List PV → Bool → Res → Prop} {P : Program}

theorem ev_sound (hm : P.follows .mixedOrders = true) (hT : tabB P ei Γ = true) (hD : ∀ g ps fl r, Den g ps fl r → DenS P ei g ps fl r) (hM : ∀ g ps qs r, Γ.md g ps qs r → DenM P ei g ps qs r) (hDD : ∀ g k l ps l' x, Γ.mdd g k l ps l' x → DenD P ei g k l ps l' x) (hSh : ∀ g ps e k rows, Γ.msh g ps e k rows → DenH P g ps e k rows) :
  ∀ (c : Code) {T : List FV} {K : Ex → List FV → Prop}, ev Γ ei Den P c T K → EVs P c T K
 | .skip, T, K, he => fun F hF β a w Q hs hQ => wp_skip (hQ .normal T β a w he hs)
 | .ret, T, K, he => fun F hF β a w Q hs hQ => wp_ret (hQ .ret T β a w he hs)
 | .exit id, T, K, he => fun F hF β a w Q hs hQ => wp_exit (hQ (.exit id) T β a w he hs)
 | .seq x y, T, K, he => fun F hF β a w Q hs hQ => by
  refine wp_seq (ev_sound hm hT hD hM hDD hSh x (show ev Γ ei Den P x T _ from he) F hF β a w _ hs ?_)
  intro e T' β' a' w' hk hs'
  cases e with
  | normal => exact ev_sound hm hT hD hM hDD hSh y hk F hF β' a' w' Q hs' hQ
  | ret => exact hQ .ret T' β' a' w' hk hs'
  | exit id => exact hQ (.exit id) T' β' a' w' hk hs'
 | .block id x, T, K, he => fun F hF β a w Q hs hQ => by
  refine wp_block (ev_sound hm hT hD hM hDD hSh x (show ev Γ ei Den P x T _ from he) F hF β a w _ hs ?_)
  intro e T' β' a' w' hk hs'
  cases e with
  | normal => exact hQ .normal T' β' a' w' hk hs'
  | ret => exact hQ .ret T' β' a' w' hk hs'
  | exit id' =>
   dsimp only at hk
   show Exit.inBlock id Q (.exit id') a' w'
   unfold Exit.inBlock
   dsimp only
   by_cases h : id' = id
   ·rw [decide_eq_true h] at hk
    rw [if_pos h]
    exact hQ .normal T' β' a' w' hk hs'
   ·rw [decide_eq_false h] at hk
    rw [if_neg h]
    exact hQ (.exit id') T' β' a' w' hk hs'
 | .cond c x y, T, K, he => fun F hF β a w Q hs hQ => by
  unfold ev at he
  have hc := opd_R hs c
  split at he
  ·rename_i t ht
   rw [ht] at hc
   have hc := R_bool hc
   obtain ⟨t', rfl, he⟩ := he
   refine wp_cond hc ?_
   cases t with
   | true => exact ev_sound hm hT hD hM hDD hSh x he F hF β a w Q hs hQ
   | false => exact ev_sound hm hT hD hM hDD hSh y he F hF β a w Q hs hQ
  ·exact he.elim
 | .region id ops draw, T, K, he => fun F hF β a w Q hs hQ => by
  subst hF
  exact reg_sound hm hT hD hM hDD hSh hs (show evReg Γ ei Den ops draw T _ from he) (fun T' β' a' w' hk hs' => hQ .normal T' β' a' w' hk hs')
 | .loop x, T, K, he => he
 | .rangeFunc .., _, _, he => (he : False).elim
 | .scope _, _, _, he => (he : False).elim
 | .label _, _, _, he => (he : False).elim
 | .goto _, _, _, he => (he : False).elim
 | .refuse _, _, _, he => (he : False).elim

theorem EVs.forget {c : Code} {T T' : List FV} {K : Ex → List FV → Prop} (hf : Fgt T T') (h : EVs P c T' K) : EVs P c T K :=
 fun F hF β a w Q hs hQ => h F hF β a w Q (hs.forget hf) hQ

/-- What holds of T holds of T'. -/
def Wk (T T' : List FV) : Prop := ∀ (F : Fr) (β : BM) (a : Act) (w : World), Sim F β T a w → ∃ β', Sim F β' T' a w
theorem Wk.refl (T : List FV) : Wk T T := fun _ β _ _ h => ⟨β, h⟩
theorem Wk.trans {T1 T2 T3 : List FV} (h : Wk T1 T2) (k : Wk T2 T3) : Wk T1 T3 := fun F β a w hs =>
 let ⟨β1, h1⟩ := h F β a w hs
 k F β1 a w h1
theorem Wk.forget {T T' : List FV} (h : Fgt T T') : Wk T T' := fun _ β _ _ hs => ⟨β, hs.forget h⟩
theorem EVs.weaken {c : Code} {T T' : List FV} {K : Ex → List FV → Prop} (hf : Wk T T') (h : EVs P c T' K) : EVs P c T K :=
 fun F hF β a w Q hs hQ =>
  let ⟨β', h'⟩ := hf F β a w hs
  h F hF β' a w Q h' hQ
theorem EVs.post {c : Code} {T : List FV} {K : Ex → List FV → Prop} (h : EVs P c T (fun e T' => ∃ T'', Wk T' T'' ∧ K e T'')) : EVs P c T K :=
 fun F hF β a w Q hs hQ => h F hF β a w Q hs fun e T' β' a' w' ⟨T'', hw, hk⟩ hs' =>
  let ⟨β2, h2⟩ := hw F β' a' w' hs'
  hQ e T'' β2 a' w' hk h2
theorem EVs.mono {c : Code} {T : List FV} {K K' : Ex → List FV → Prop} (hk : ∀ e T', K e T' → K' e T') (h : EVs P c T K) : EVs P c T K' :=
 fun F hF β a w Q hs hQ => h F hF β a w Q hs fun e T' β' a' w' he hs' => hQ e T' β' a' w' (hk e T' he) hs'

theorem Wk.unown {T : List FV} (lab : Lab) (hB : (T.all fun f => !f.hasB lab) = true) : Wk T (T.map (FV.unO lab)) := fun F β a w h =>
  ⟨fun l => if l = lab then none else β l,
   { defers := h.defers, size := h.size.trans (by simp), os := h.os, tape := h.tape, output := h.output, hsize := h.hsize, kept := h.kept, mok := h.mok,
     inj := fun l l' g h1 h2 => h.inj l l' g (by split at h1 <;> first | cases h1 | exact h1) (by split at h2 <;> first | cases h2 | exact h2)
     rng := fun l g h1 => h.rng l g (by split at h1 <;> first | cases h1 | exact h1)
     rel := fun i f hf => by
       rw [List.getElem?_map] at hf
       obtain ⟨f0, hf0, rfl⟩ := Option.map_eq_some_iff.1 hf
       obtain ⟨c, hc, hr⟩ := h.rel i f0 hf0
       rw [List.all_eq_true] at hB
       exact ⟨c, hc, unO_R h (fun _ => rfl) (by simpa using hB f0 (List.mem_of_getElem? hf0)) hr⟩ }⟩

theorem rounds_mono {c : Code} {Q : Exit → Act → World → Prop} : ∀ {n m : Nat} {a : Act} {w : World}, n ≤ m → Code.rounds P c Q n a w → Code.rounds P c Q m a w
 | 0, _, _, _, _, h => h.elim
 | n + 1, 0, _, _, h, _ => by omega
 | n + 1, m + 1, a, w, hle, h => by
  rw [rounds_succ] at h ⊢
  refine wp_mono h fun e a' w' hq => ?_
  cases e with
  | normal => exact rounds_mono (by omega) hq
  | _ => exact hq

/-- **A loop**: I n: what holds at a round's head, with n rounds at most to come. -/
theorem EVs.loop {c : Code} {K : Ex → List FV → Prop} (I : Nat → List FV → Prop)
  (round : ∀ n T, I n T → EVs P c T (fun e T' => match e with
   | .normal => ∃ m T'', m < n ∧ Wk T' T'' ∧ I m T''
   | .ret => K .ret T'
   | .exit id => K (.exit id) T')) {n : Nat} {T : List FV} (h : I n T) : EVs P (.loop c) T K := by
 intro F hF β a w Q hs hQ
 refine wp_loop_rounds (n + 1) ?_
 induction n using Nat.strongRecOn generalizing T β a w with
 | _ n ih =>
  rw [rounds_succ]
  refine round n T h F hF β a w _ hs ?_
  intro e T' β' a' w' hk hs'
  cases e with
  | normal =>
   obtain ⟨m, T'', hlt, hf, hI⟩ := hk
   obtain ⟨β2, h2⟩ := hf F β' a' w' hs'
   exact rounds_mono (by omega) (ih m hlt hI β2 a' w' h2)
  | ret => exact hQ .ret T' β' a' w' hk hs'
  | exit id => exact hQ (.exit id) T' β' a' w' hk hs'

/-! ### functions -/
def init (n : Nat) (ps : List PV) : List FV := ps.map (fun q => FV.v q.1 (q.2.map .p)) ++ List.replicate (n - ps.length) .any

def resA (Γ : Tab) (T : List FV) : ResultVar → Option (Bool × List Lf)
 | .tmp t => match T.getD t .any with
  | .v a xs => some (a, xs)
  | _ => none
 | .cell d ty => match Γ.get ty with
  | none => none
  | some r => match T.getD d .any with
   | .box _ cs off => match Nat.beq off 0 with
    | false => none
    | true => match r.cells with
     | some n => match Nat.beq n cs.length with
      | true => some (true, cs)
      | false => none
     | none => match Nat.beq 1 cs.length with
      | true => some (false, cs)
      | false => none
   | _ => none
def resAs (Γ : Tab) (T : List FV) : List ResultVar → Option (List (Bool × List Lf))
 | [] => some []
 | r :: rs => match resA Γ T r, resAs Γ T rs with
  | some q, some qs => some (q :: qs)
  | _, _ => none
def toRes : List PV → Res
 | [q] => .one q
 | qs => .tup qs
/-- The labels of results. -/
def labsR : List Lf → List Lab
 | [] => []
 | .own l _ _ :: xs => l :: labsR xs
 | .deep l _ _ _ :: xs => l :: labsR xs
 | _ :: xs => labsR xs
/-- What a function hands back. -/
def retP (Γ : Tab) (ei : TypeId) (rs : List ResultVar) (fl : Bool) (r : Res) (T : List FV) : Prop :=
 ∃ qs, resAs Γ T rs = some qs ∧ match fl with
  | false => ∃ ps, mapO (resV erL) qs = some ps ∧ toRes ps = r
  | true => ∃ ps, mapO (resV (frR ei)) qs = some ps ∧ toRes ps = r ∧ (labNodup (labsR (qs.flatMap (·.2))) && ((labsR (qs.flatMap (·.2))).all (fun l => Nat.blt l.2 1000) && Nat.ble (qs.flatMap (·.2)).length 1000)) = true

def retK (Γ : Tab) (ei : TypeId) (rs : List ResultVar) (fl : Bool) (r : Res) : Ex → List FV → Prop
 | .ret, T => retP Γ ei rs fl r T
 | .normal, T => retP Γ ei rs fl r T
 | .exit _, _ => False
end

section
variable {Γ : Tab} {ei : TypeId} {Den : FuncId → List PV → Bool → Res → Prop} {P : Program} {F : Fr} {β : BM} {T : List FV} {a : Act} {w : World}

/-- One result, or several. -/
def joinV : List Value → Value
 | [c] => c
 | cs => .tuple cs.toArray

theorem res_one (h : Sim F β T a w) (hT : tabB F.P ei Γ = true) {r : ResultVar} {q : Bool × List Lf} (hq : resA Γ T r = some q) (f : ResultVar → Sem Value)
  (hf : ∀ u, f (.tmp u) = pure (a.tmps.getD u undef)) (hc : ∀ x t, f (.cell x t) = (do loadVar t (← asAddr (a.tmps.getD x undef)))) : ∃ c, (f r).run F.P w = .ok c w ∧ RVal F β w q.1 q.2 c := by
 cases r with
 | tmp t =>
  have h1 := opd_R h (.tmp t)
  simp only [resA] at hq
  split at hq
  ·rename_i b xs hx
   cases hq
   have : opd T (.tmp t) = .v b xs := hx
   rw [this] at h1
   exact ⟨_, by rw [hf]; rfl, h1⟩
  ·cases hq
 | cell d ty =>
  have h1 := opd_R h (.tmp d)
  simp only [resA] at hq
  split at hq
  ·cases hq
  ·rename_i r hr
   obtain ⟨hid, hrow⟩ := tab_row hT hr
   obtain ⟨hcs, hone⟩ := row_cells hrow
   rw [hid] at hcs hone
   split at hq
   ·rename_i lab cs off hx
    have : opd T (.tmp d) = .box lab cs off := hx
    rw [this] at h1
    obtain ⟨g, cc, ty', hv, hb, hh, hall⟩ := h1
    have hv : a.tmps.getD d undef = .pointer (some ⟨g, off, none⟩) := hv
    have hlen := hall.length
    split at hq
    ·cases hq
    ·rename_i hoff
     have hoff : off = 0 := Nat.eq_of_beq_eq_true hoff
     subst hoff
     split at hq
     ·rename_i n hn
      split at hq
      ·rename_i hnl
       have hnl : n = cs.length := Nat.eq_of_beq_eq_true hnl
       cases hq
       obtain ⟨h1, h2⟩ := hcs n hn
       have hrun := run_load_agg h1 h2 (w := w) (g := g) (o := 0) (cs := cc.toList) (by rw [hnl, hlen]) (fun j v hj => by
        rw [cell_of_row w g (0 + j) cc ty' (0, 0) hh, Nat.zero_add]
        simpa using hj)
       exact ⟨.agg cc, by rw [hc, hv]; simpa [asAddr] using hrun, cc.toList, by simp, hall⟩
      ·cases hq
     ·rename_i hn
      split at hq
      ·rename_i hnl
       have hnl : 1 = cs.length := Nat.eq_of_beq_eq_true hnl
       cases hq
       cases cs with
       | nil => cases hnl
       | cons y ys =>
        cases ys with
        | cons z zs => simp at hnl
        | nil =>
         obtain ⟨c, hcc, hyc⟩ := hall.get 0 y rfl
         have hcell : w.cell? ⟨g, 0, none⟩ = some c := by rw [cell_of_row w g 0 cc ty' (0, 0) hh]; simpa using hcc
         have hrun := run_load_one (hone hn).1 hcell
         exact ⟨c, by rw [hc, hv]; simpa [asAddr] using hrun, y, rfl, hyc⟩
      ·cases hq
   ·cases hq

theorem res_all (h : Sim F β T a w) (hT : tabB F.P ei Γ = true) (f : ResultVar → Sem Value)
  (hf : ∀ u, f (.tmp u) = pure (a.tmps.getD u undef)) (hc : ∀ x t, f (.cell x t) = (do loadVar t (← asAddr (a.tmps.getD x undef)))) :
  ∀ {rs : List ResultVar} {qs : List (Bool × List Lf)}, resAs Γ T rs = some qs → ∃ cs : List Value, (rs.mapM f).run F.P w = .ok cs w ∧ All2 (fun (q : Bool × List Lf) c => RVal F β w q.1 q.2 c) qs cs
 | [], qs, hq => by cases hq; exact ⟨[], by simp, True.intro⟩
 | r :: rs, qs, hq => by
  unfold resAs at hq
  split at hq
  ·rename_i q qs' h1 h2
   cases hq
   obtain ⟨c, hc1, hc2⟩ := res_one h hT h1 f hf hc
   obtain ⟨cs, hc3, hc4⟩ := res_all h hT f hf hc h2
   exact ⟨c :: cs, by simp [List.mapM_cons, hc1, hc3], hc2, hc4⟩
  ·cases hq

/-- What the model hands back. -/
theorem res_run (h : Sim F β T a w) (hT : tabB F.P ei Γ = true) {fn : Func} {qs : List (Bool × List Lf)} (hq : resAs Γ T fn.results.toList = some qs) :
  ∃ cs : List Value, All2 (fun (q : Bool × List Lf) c => RVal F β w q.1 q.2 c) qs cs ∧ (results fn a.tmps).run F.P w = .ok (joinV cs) w := by
 obtain ⟨cs, h1, h2⟩ := res_all h hT (fun | .tmp t => pure (a.tmps.getD t undef) | .cell x t => do loadVar t (← asAddr (a.tmps.getD x undef))) (fun _ => rfl) (fun _ _ => rfl) hq
 refine ⟨cs, h2, ?_⟩
 unfold results
 have e : fn.results = fn.results.toList.toArray := by simp
 rw [e, List.mapM_toArray]
 simp only [Sem.run_bind, Sem.run_map]
 erw [h1]
 cases cs with
 | nil => simp [joinV]
 | cons c cs =>
  cases cs with
  | nil => simp [joinV]
  | cons d cs => simp [joinV]

theorem mapO_er {ok : Nat → Prop} (hf : ∀ x y v, erL x = some y → RLf F β w x v → PL.R w ok y v) : ∀ {xs : List Lf} {ys : List PL} {cs : List Value}, mapO erL xs = some ys → All2 (RLf F β w) xs cs → All2 (PL.R w ok) ys cs
 | [], ys, [], he, _ => by cases he; exact True.intro
 | x :: xs, ys, c :: cs, he, h => by
  unfold mapO at he
  split at he
  ·rename_i y ys' hy hys
   cases he
   exact ⟨hf x y c hy h.1, mapO_er hf hys h.2⟩
  ·cases he
 | [], _, _ :: _, _, h => h.elim
 | _ :: _, _, [], _, h => h.elim
theorem resV_er {ok : Nat → Prop} (hf : ∀ x y v, erL x = some y → RLf F β w x v → PL.R w ok y v) {q : Bool × List Lf} {p : PV} {v : Value} (he : resV erL q = some p) (h : RVal F β w q.1 q.2 v) : RPV w ok p v := by
 obtain ⟨b, xs⟩ := q
 unfold resV at he
 dsimp only at he h
 split at he
 ·rename_i ys hys
  cases he
  cases b with
  | true => obtain ⟨cs, rfl, h⟩ := h; exact ⟨cs, rfl, mapO_er hf hys h⟩
  | false =>
   obtain ⟨x, rfl, h⟩ := h
   unfold mapO at hys
   split at hys
   ·rename_i y ys' hy hys'
    cases hys
    cases hys'
    exact ⟨y, rfl, hf x y v hy h⟩
   ·cases hys
 ·cases he
theorem resVs_er {ok : Nat → Prop} (hf : ∀ x y v, erL x = some y → RLf F β w x v → PL.R w ok y v) : ∀ {qs : List (Bool × List Lf)} {ps : List PV} {cs : List Value}, mapO (resV erL) qs = some ps → All2 (fun (q : Bool × List Lf) c => RVal F β w q.1 q.2 c) qs cs → All2 (RPV w ok) ps cs
 | [], ps, [], he, _ => by cases he; exact True.intro
 | q :: qs, ps, c :: cs, he, h => by
  unfold mapO at he
  split at he
  ·rename_i y ys' hy hys
   cases he
   exact ⟨resV_er hf hy h.1, resVs_er hf hys h.2⟩
  ·cases he
 | [], _, _ :: _, _, h => h.elim
 | _ :: _, _, [], _, h => h.elim

theorem toRes_R {ok : Nat → Prop} {ps : List PV} {cs : List Value} (h : All2 (RPV w ok) ps cs) : RRes w ok (toRes ps) (joinV cs) := by
 cases ps with
 | nil =>
  cases cs with
  | nil => exact ⟨[], rfl, True.intro⟩
  | cons c cs => exact h.elim
 | cons p ps =>
  cases cs with
  | nil => exact h.elim
  | cons c cs =>
   cases ps with
   | nil =>
    cases cs with
    | nil => exact h.1
    | cons d cs => exact h.2.elim
   | cons p2 ps =>
    cases cs with
    | nil => exact h.2.elim
    | cons d cs => exact ⟨_, rfl, h⟩

/-- The block under the j-th cell's label. -/
def NOf (β : BM) (xs : List Lf) (j : Nat) : Option Nat := match Nat.blt j 1000 with
 | true => match xs[j]? with
  | some (.own l _ _) => β l
  | some (.deep l _ _ _) => β l
  | _ => none
 | false => match xs[j % 1000]? with
  | some (.deep l _ _ _) => β (kidL l (j / 1000 - 1))
  | _ => none
/-- What a result's blocks are. -/
def NOk (β : BM) (N : Nat → Option Nat) (j : Nat) : Lf → Prop
 | .own l _ _ => N j = β l
 | .deep l _ _ _ => N j = β l ∧ ∀ n, N (j + 1000 * (n + 1)) = β (kidL l n)
 | _ => True
section
variable {ei : TypeId} {F : Fr} {β : BM} {w : World}
theorem fr_leafR {N : Nat → Option Nat} {j : Nat} {x : Lf} {y : PL} {v : Value} {ys : List PL} {cs : List Value} (hy : frR ei x = some y) (hN : NOk β N j x) (h : RLf F β w x v)
  (hr : FrLs w ei N (j + 1) ys cs) : FrLs w ei N j (y :: ys) (v :: cs) := by
 cases x with
 | deep l e k q =>
  unfold frR at hy
  dsimp only at hy
  split at hy
  ·rename_i he
   have he : e = ei := Nat.eq_of_beq_eq_true he
   subst he
   cases hy
   exact ⟨h.2.move (fun g hg => ⟨hN.1.trans hg, rfl⟩) (fun n g hg => ⟨(hN.2 n).trans hg, rfl⟩), hr⟩
  ·cases hy
 | own l e q => exact fr_leaf (β := β) hy (fun l2 e2 q2 hx _ => by cases hx; exact hN) h hr
 | undef => cases hy
 | nil => exact fr_leaf (ei := ei) (x := .nil) (β := β) hy (fun l2 e2 q2 hx _ => by cases hx) h hr
 | p x => exact fr_leaf (ei := ei) (x := .p x) (β := β) hy (fun l2 e2 q2 hx _ => by cases hx) h hr
 | kid l e n q => cases hy
theorem fr_leavesR {N : Nat → Option Nat} : ∀ {xs : List Lf} {ys : List PL} {cs : List Value} {j : Nat}, mapO (frR ei) xs = some ys → (∀ i x, xs[i]? = some x → NOk β N (j + i) x) → All2 (RLf F β w) xs cs → FrLs w ei N j ys cs
 | [], ys, [], _, he, _, _ => by cases he; exact True.intro
 | x :: xs, ys, c :: cs, j, he, hN, h => by
  unfold mapO at he
  split at he
  ·rename_i y ys' hy hys
   cases he
   exact fr_leafR hy (hN 0 x rfl) h.1 (fr_leavesR hys (fun i x hx => by rw [show j + 1 + i = j + (i + 1) by omega]; exact hN (i + 1) x (by simpa using hx)) h.2)
  ·cases he
 | [], _, _ :: _, _, _, _, h => h.elim
 | _ :: _, _, [], _, _, _, h => h.elim
theorem fr_valR {N : Nat → Option Nat} {q : Bool × List Lf} {p : PV} {v : Value} {j : Nat} (he : resV (frR ei) q = some p) (hN : ∀ i x, q.2[i]? = some x → NOk β N (j + i) x) (h : RVal F β w q.1 q.2 v) :
  FrPV w ei N j p v ∧ p.2.length = q.2.length := by
 obtain ⟨b, xs⟩ := q
 unfold resV at he
 dsimp only at he h hN
 split at he
 ·rename_i ys hys
  cases he
  refine ⟨?_, mapO_len hys⟩
  cases b with
  | true => obtain ⟨cs, rfl, h⟩ := h; exact ⟨cs, rfl, fr_leavesR hys hN h⟩
  | false =>
   obtain ⟨x, rfl, h⟩ := h
   have := fr_leavesR (cs := [v]) hys hN ⟨h, True.intro⟩
   unfold mapO at hys
   split at hys
   ·rename_i y ys' hy hys'
    cases hys
    cases hys'
    exact ⟨y, rfl, this⟩
   ·cases hys
 ·cases he
theorem fr_valsR {N : Nat → Option Nat} : ∀ {qs : List (Bool × List Lf)} {ps : List PV} {cs : List Value} {j : Nat}, mapO (resV (frR ei)) qs = some ps → (∀ i x, (qs.flatMap (·.2))[i]? = some x → NOk β N (j + i) x) →
  All2 (fun (q : Bool × List Lf) c => RVal F β w q.1 q.2 c) qs cs → FrPVs w ei N j ps cs
 | [], ps, [], _, he, _, _ => by cases he; exact True.intro
 | q :: qs, ps, c :: cs, j, he, hN, h => by
  unfold mapO at he
  split at he
  ·rename_i y ys' hy hys
   cases he
   obtain ⟨h1, h2⟩ := fr_valR (β := β) hy (fun i x hx => hN i x (by
    rw [List.flatMap_cons, List.getElem?_append_left (List.getElem?_eq_some_iff.1 hx).1]
    exact hx)) h.1
   refine ⟨h1, fr_valsR hys (fun i x hx => ?_) h.2⟩
   rw [h2, Nat.add_assoc]
   refine hN _ x ?_
   rw [List.flatMap_cons, List.getElem?_append_right (by omega)]
   simpa using hx
  ·cases he
 | [], _, _ :: _, _, _, _, h => h.elim
 | _ :: _, _, [], _, _, _, h => h.elim
/-- The label of a result's cell. -/
def labAt : Lf → Option Lab
 | .own l _ _ => some l
 | .deep l _ _ _ => some l
 | _ => none
theorem mem_labsR : ∀ {xs : List Lf} {i : Nat} {x : Lf} {l : Lab}, xs[i]? = some x → labAt x = some l → l ∈ labsR xs
 | [], i, x, l, h, _ => by simp at h
 | y :: ys, 0, x, l, h, hl => by
  simp at h
  subst h
  cases y <;> cases hl <;> exact List.mem_cons_self
 | y :: ys, i + 1, x, l, h, hl => by
  have := mem_labsR (xs := ys) (i := i) (by simpa using h) hl
  cases y <;> first | exact this | exact List.mem_cons_of_mem _ this
theorem labsR_get : ∀ {xs : List Lf}, labNodup (labsR xs) = true → ∀ {i j : Nat} {x y : Lf} {l : Lab}, xs[i]? = some x → xs[j]? = some y → labAt x = some l → labAt y = some l → i = j
 | [], _, i, _, _, _, _, hi, _, _, _ => by simp at hi
 | z :: zs, h, i, j, x, y, l, hi, hj, hx, hy => by
  have hz : labNodup (labsR zs) = true ∧ ∀ l, labAt z = some l → l ∉ labsR zs := by
   cases hzl : labAt z with
   | none =>
    refine ⟨?_, fun l hl => by cases hl⟩
    cases z <;> first | exact h | cases hzl
   | some lz =>
    have h2 : labNodup (lz :: labsR zs) = true := by cases z <;> cases hzl <;> exact h
    unfold labNodup at h2
    rw [Bool.and_eq_true, List.all_eq_true] at h2
    refine ⟨h2.2, fun l hl hm => ?_⟩
    cases hl
    have := h2.1 _ hm
    simp at this
  cases i with
  | zero =>
   simp at hi
   subst hi
   cases j with
   | zero => rfl
   | succ j => exact absurd (mem_labsR (xs := zs) (i := j) (by simpa using hj) hy) (hz.2 l hx)
  | succ i =>
   cases j with
   | zero =>
    simp at hj
    subst hj
    exact absurd (mem_labsR (xs := zs) (i := i) (by simpa using hi) hx) (hz.2 l hy)
   | succ j =>
    have := labsR_get hz.1 (i := i) (j := j) (by simpa using hi) (by simpa using hj) hx hy
    omega
/-- Each block of a result's is told by its label. -/
theorem NOf_lab {xs : List Lf} {j b : Nat} (h : NOf β xs j = some b) : ∃ l, β l = some b ∧ ∃ x l0, xs[j % 1000]? = some x ∧ labAt x = some l0 ∧ ((j < 1000 ∧ l = l0) ∨ (1000 ≤ j ∧ l = kidL l0 (j / 1000 - 1))) := by
 unfold NOf at h
 split at h
 ·rename_i hj
  have hj : j < 1000 := by simpa using hj
  rw [Nat.mod_eq_of_lt hj]
  split at h
  ·rename_i l e q hx; exact ⟨l, h, _, l, hx, rfl, .inl ⟨hj, rfl⟩⟩
  ·rename_i l e k q hx; exact ⟨l, h, _, l, hx, rfl, .inl ⟨hj, rfl⟩⟩
  ·cases h
 ·rename_i hj
  have hj : 1000 ≤ j := by
   by_cases h1 : j < 1000
   ·have : Nat.blt j 1000 = true := by simpa using h1
    rw [this] at hj
    cases hj
   ·omega
  split at h
  ·rename_i l e k q hx; exact ⟨_, h, _, l, hx, rfl, .inr ⟨hj, rfl⟩⟩
  ·cases h
theorem NOf_inj {xs : List Lf} (hβ : ∀ l l' g, β l = some g → β l' = some g → l = l') (hnd : labNodup (labsR xs) = true) (hlow : (labsR xs).all (fun l => Nat.blt l.2 1000) = true) {j j' b : Nat} (h : NOf β xs j = some b) (h' : NOf β xs j' = some b) : j = j' := by
 obtain ⟨l, hl, x, l0, hx, hx0, hj⟩ := NOf_lab h
 obtain ⟨l', hl', x', l0', hx', hx0', hj'⟩ := NOf_lab h'
 have e := hβ _ _ _ hl hl'
 subst e
 rw [List.all_eq_true] at hlow
 have b1 : l0.2 < 1000 := by simpa using hlow l0 (mem_labsR hx hx0)
 have b2 : l0'.2 < 1000 := by simpa using hlow l0' (mem_labsR hx' hx0')
 have same : l0 = l0' → j % 1000 = j' % 1000 := fun e => by subst e; exact labsR_get hnd hx hx' hx0 hx0'
 rcases hj with ⟨c1, e1⟩ | ⟨c1, e1⟩ <;> rcases hj' with ⟨c2, e2⟩ | ⟨c2, e2⟩
 ·have := same (e1.symm.trans e2)
  omega
 ·have h3 := congrArg Prod.snd (e1.symm.trans e2)
  simp only [kidL] at h3
  omega
 ·have h3 := congrArg Prod.snd (e2.symm.trans e1)
  simp only [kidL] at h3
  omega
 ·have h3 := e1.symm.trans e2
  have h4 := congrArg Prod.snd h3
  have h5 := congrArg Prod.fst h3
  simp only [kidL] at h4 h5
  have := same (Prod.ext h5 (by omega))
  omega
theorem NOf_ok {xs : List Lf} (hlen : xs.length ≤ 1000) {i : Nat} {x : Lf} (hx : xs[i]? = some x) : NOk β (NOf β xs) i x := by
 have hi : i < 1000 := by have := (List.getElem?_eq_some_iff.1 hx).1; omega
 have hb : Nat.blt i 1000 = true := by simpa using hi
 cases x with
 | own l e q => show NOf β xs i = β l; unfold NOf; rw [hb, hx]
 | deep l e k q =>
  refine ⟨by unfold NOf; rw [hb, hx], fun n => ?_⟩
  unfold NOf
  have hb2 : Nat.blt (i + 1000 * (n + 1)) 1000 = false := by
   cases h : Nat.blt (i + 1000 * (n + 1)) 1000 with
   | false => rfl
   | true => simp at h; omega
  rw [hb2]
  dsimp only
  rw [show (i + 1000 * (n + 1)) % 1000 = i by omega, hx, show (i + 1000 * (n + 1)) / 1000 - 1 = n by omega]
 | _ => exact True.intro
end

theorem toRes_Fr {ei : TypeId} {N : Nat → Option Nat} {ps : List PV} {cs : List Value} (h : FrPVs w ei N 0 ps cs) : FrRes w ei N (toRes ps) (joinV cs) := by
 cases ps with
 | nil =>
  cases cs with
  | nil => exact ⟨[], rfl, True.intro⟩
  | cons c cs => simp [FrPVs] at h
 | cons p ps =>
  cases cs with
  | nil => simp [FrPVs] at h
  | cons c cs =>
   cases ps with
   | nil =>
    cases cs with
    | nil => exact h.1
    | cons d cs => have := h.2; simp [FrPVs] at this
   | cons p2 ps =>
    cases cs with
    | nil => have := h.2; simp [FrPVs] at this
    | cons d cs => exact ⟨_, rfl, h⟩

/-- **What a function does, by its code.** -/
theorem den_intro (hm : P.follows .mixedOrders = true) (hT : tabB P ei Γ = true) {g : FuncId} {fn : Func} {c : Code} {ps : List PV} {fl : Bool} {r : Res} (hf : P.funcs[g]? = some fn) (hname : (fn.name == "runtime.NumGoroutine") = false)
  (hb : fn.body = some c) (hev : EVs P c (init fn.ntmps ps) (retK Γ ei fn.results.toList fl r)) : DenS P ei g ps fl r := by
 refine ⟨⟨fn, hf, hname, by simp [hb]⟩, fun ok w vs hkp hvs => ?_⟩
 refine calls_of_wp hf hb ?_
 have hlen := hvs.length
 refine hev ⟨P, w.heap.size, [], ok, w, fun _ => none, fun _ _ h => (by cases h), fun w' hw' => hkp w' fun k hk _ => hw' k hk (by simp)⟩ rfl (fun _ => none) _ w _ ?_ ?_
 ·refine ⟨rfl, ?_, ?_, (fun _ _ _ h => by cases h), (fun _ _ h => by cases h), rfl, rfl, rfl, Nat.le_refl _, fun _ _ _ => rfl, fun _ h => by cases h⟩
  ·simp [init, hlen]
  ·intro i f hi
   unfold init at hi
   by_cases h1 : i < ps.length
   ·rw [List.getElem?_append_left (by simpa using h1), List.getElem?_map] at hi
    obtain ⟨q, hq, rfl⟩ := Option.map_eq_some_iff.1 hi
    obtain ⟨v, hv, hr⟩ := hvs.get i q hq
    refine ⟨v, by rw [Array.getElem?_append_left (by simp; omega)]; simpa using hv, ?_⟩
    exact RPV_val (F := ⟨P, w.heap.size, [], ok, w, fun _ => none, fun _ _ h => (by cases h), fun w' hw' => hkp w' fun k hk _ => hw' k hk (by simp)⟩) (β := fun _ => none) (fun b hb => ⟨.inl hb, fun _ h => by cases h⟩) hr
   ·rw [List.getElem?_append_right (by simpa using h1), List.length_map] at hi
    obtain ⟨hlt, hf⟩ := List.getElem?_eq_some_iff.1 hi
    simp at hf
    subst hf
    simp at hlt
    refine ⟨undef, ?_, True.intro⟩
    show (vs.toArray ++ Array.replicate (fn.ntmps - vs.toArray.size) undef)[i]? = some undef
    rw [Array.getElem?_append_right (by simp; omega), Array.getElem?_replicate, if_pos]
    simp only [List.size_toArray]
    omega
 ·intro e T' β' a' w' hk hs
  have hret : retP Γ ei fn.results.toList fl r T' := by
   cases e with
   | normal => exact hk
   | ret => exact hk
   | exit id => exact hk.elim
  have main : a'.defers = [] ∧ ∃ v, (results fn a'.tmps).run P w' = .ok v w' ∧ ∃ v', Ending.returned v = .returned v' ∧ Below w.heap.size w w' ∧ DPost ei ok w.heap.size w' r v' fl := by
   obtain ⟨qs, hqs, hr⟩ := hret
   obtain ⟨cs, hall, hrun⟩ := res_run hs hT hqs
   refine ⟨hs.defers, _, hrun, _, rfl, ⟨hs.os, hs.tape, hs.output, hs.hsize, fun k hk => hs.kept k hk (by simp)⟩, ?_⟩
   cases fl with
   | false =>
    obtain ⟨ps', hps, rfl⟩ := hr
    refine toRes_R (resVs_er (fun x y v hxy hx => ?_) hps hall)
    refine PL.R.move (Nat.le_refl _) (fun b hb _ => ⟨?_, rfl⟩) _ _ (er_R hs hxy hx)
    rcases hb with hb | ⟨l, hb⟩
    ·exact hb.1
    ·rcases (hs.rng l b hb).2 with h | h
     ·exact .inr h
     ·cases h
   | true =>
    obtain ⟨ps', hps, rfl, hnd⟩ := hr
    rw [Bool.and_eq_true, Bool.and_eq_true] at hnd
    obtain ⟨hnd, hlow, hlen⟩ := hnd
    have hlen : (qs.flatMap (·.2)).length ≤ 1000 := Nat.le_of_ble_eq_true hlen
    refine ⟨NOf β' (qs.flatMap (·.2)), fun j b hj => ?_, fun j j' b hj hj' => NOf_inj hs.inj hnd hlow hj hj', toRes_Fr (fr_valsR hps (fun i x hx => by rw [Nat.zero_add]; exact NOf_ok hlen hx) hall)⟩
    obtain ⟨l, hl, _⟩ := NOf_lab hj
    obtain ⟨h1, h2⟩ := hs.rng l b hl
    refine ⟨?_, h1⟩
    rcases h2 with h | h
    ·exact h
    ·cases h
  cases e with
  | normal => exact main
  | ret => exact main
  | exit id => exact hk.elim

/-! functions that write their arguments' arrays -/
def findL (ei : TypeId) (lab : Lab) : List Lf → Option (List Int)
 | [] => none
 | .own l e (.ints q) :: xs => match decide (l = lab) && Nat.beq e ei with
  | true => some q
  | false => findL ei lab xs
 | _ :: xs => findL ei lab xs
def findT (ei : TypeId) (lab : Lab) : List FV → Option (List Int)
 | [] => none
 | .v _ xs :: fs => match findL ei lab xs with
  | some q => some q
  | none => findT ei lab fs
 | .box _ xs _ :: fs => match findL ei lab xs with
  | some q => some q
  | none => findT ei lab fs
 | _ :: fs => findT ei lab fs
def finLs (ei : TypeId) (T : List FV) : Nat → List PL → List PL → Prop → Prop
 | _, [], [], c => c
 | j, .ints l :: ps, .ints l' :: qs, c => findT ei (2000000, j) T = some l' ∧ l'.length = l.length ∧ finLs ei T (j + 1) ps qs c
 | j, p :: ps, q :: qs, c => (p.isA = false ∧ p = q) ∧ finLs ei T (j + 1) ps qs c
 | _, _, _, _ => False
/-- The arguments' arrays, at the end. -/
def finV (ei : TypeId) (T : List FV) : Nat → List PV → List PV → Prop
 | _, [], [] => True
 | j, (a, xs) :: ps, (b, ys) :: qs => a = b ∧ finLs ei T j xs ys (finV ei T (j + xs.length) ps qs)
 | _, _, _ => False
/-- A cell of the result: the call's argument's, or plain. -/
def mL (ei : TypeId) : Lf → Option RL
 | .own l e (.ints _) => match decide (l.1 = 2000000) && Nat.beq e ei with
  | true => some (.arg l.2)
  | false => none
 | .p x => match x.isA with
  | true => none
  | false => some (.p x)
 | .nil => some .nil
 | _ => none
def lenM (ps : List PL) : List Lf → Prop → Prop
 | [], c => c
 | .own l _ (.ints q) :: xs, c => match ps[l.2]? with
  | some (.ints l0) => q.length = l0.length ∧ lenM ps xs c
  | _ => False
 | _ :: xs, c => lenM ps xs c
def resM (ei : TypeId) (q : Bool × List Lf) : Option (Bool × List RL) := match mapO (mL ei) q.2 with
 | some ys => some (q.1, ys)
 | none => none
def toM : List (Bool × List RL) → MRes
 | [q] => .one q
 | qs => .tup qs
def retM (Γ : Tab) (ei : TypeId) (rs : List ResultVar) (ps qs : List PV) (r : MRes) (T : List FV) : Prop :=
 ∃ vs, resAs Γ T rs = some vs ∧ ∃ us, mapO (resM ei) vs = some us ∧ toM us = r ∧ lenM (ps.flatMap (·.2)) (vs.flatMap (·.2)) (finV ei T 0 ps qs)
def retKM (Γ : Tab) (ei : TypeId) (rs : List ResultVar) (ps qs : List PV) (r : MRes) : Ex → List FV → Prop
 | .ret, T => retM Γ ei rs ps qs r T
 | .normal, T => retM Γ ei rs ps qs r T
 | .exit _, _ => False
def initM (ei : TypeId) (n : Nat) (ps : List PV) : List FV := (labelVs ei 2000000 0 ps).map (fun q => FV.v q.1 q.2) ++ List.replicate (n - ps.length) .any

theorem findL_spec {lab : Lab} : ∀ {xs : List Lf} {q : List Int}, findL ei lab xs = some q → Lf.own lab ei (.ints q) ∈ xs
 | [], _, h => by cases h
 | x :: xs, q, h => by
  unfold findL at h
  split at h
  ·cases h
  ·rename_i l e q' xs' heq
   cases heq
   split at h
   ·rename_i hb
    rw [Bool.and_eq_true] at hb
    have h1 : l = lab := of_decide_eq_true hb.1
    have h2 : e = ei := Nat.eq_of_beq_eq_true hb.2
    subst h1; subst h2
    cases h
    exact List.mem_cons_self
   ·exact List.mem_cons_of_mem _ (findL_spec h)
  ·rename_i heq
   cases heq
   exact List.mem_cons_of_mem _ (findL_spec h)
theorem findT_spec {lab : Lab} : ∀ {T : List FV} {q : List Int}, findT ei lab T = some q → ∃ f ∈ T, ∃ xs, ((∃ b, f = FV.v b xs) ∨ ∃ l o, f = FV.box l xs o) ∧ Lf.own lab ei (.ints q) ∈ xs
 | [], _, h => by cases h
 | f :: fs, q, h => by
  have up : findT ei lab fs = some q → ∃ g ∈ f :: fs, ∃ xs, ((∃ b, g = FV.v b xs) ∨ ∃ l o, g = FV.box l xs o) ∧ Lf.own lab ei (.ints q) ∈ xs := fun h => by
   obtain ⟨g, h1, h2⟩ := findT_spec h
   exact ⟨g, List.mem_cons_of_mem _ h1, h2⟩
  cases f with
  | v b xs =>
   unfold findT at h
   split at h
   ·rename_i q' hq
    cases h
    exact ⟨_, List.mem_cons_self, xs, .inl ⟨b, rfl⟩, findL_spec hq⟩
   ·exact up h
  | box l xs o =>
   unfold findT at h
   split at h
   ·rename_i q' hq
    cases h
    exact ⟨_, List.mem_cons_self, xs, .inr ⟨l, o, rfl⟩, findL_spec hq⟩
   ·exact up h
  | _ => exact up h
theorem vals_leaf {w : World} {b : Bool} {xs : List Lf} {v : Value} {x : Lf} (h : RVal F β w b xs v) (hx : x ∈ xs) : ∃ c, RLf F β w x c := by
 obtain ⟨i, hi⟩ := List.getElem?_of_mem hx
 obtain ⟨c, _, hr⟩ := (cells_of_val h).get i x hi
 exact ⟨c, hr⟩

/-- Where the arguments' arrays lie. -/
def pinOf (cs : List Value) (l : Lab) : Option (Option Addr × Nat) := match decide (l.1 = 2000000), cs[l.2]? with
 | true, some (.slice a _ c) => some (a, c)
 | _, _ => none
theorem pinOf_some {cs : List Value} {l : Lab} {q : Option Addr × Nat} (h : pinOf cs l = some q) : l.1 = 2000000 ∧ ∃ a n c, cs[l.2]? = some (.slice a n c) ∧ q = (a, c) := by
 unfold pinOf at h
 split at h
 ·rename_i a n c h1 h2
  cases h
  exact ⟨of_decide_eq_true h1, a, n, c, h2, rfl⟩
 ·cases h

theorem lenM_split {ps : List PL} : ∀ {xs : List Lf} {c : Prop}, lenM ps xs c → lenM ps xs True ∧ c
 | [], _, h => ⟨True.intro, h⟩
 | x :: xs, c, h => by
  unfold lenM at h ⊢
  split at h
  ·rename_i heq; cases heq
  ·rename_i heq
   cases heq
   split at h
   ·rename_i l0 hl0
    obtain ⟨h1, h2⟩ := lenM_split h.2
    dsimp only
    first
     | exact ⟨⟨h.1, h1⟩, h2⟩
     | (rw [hl0]; exact ⟨⟨h.1, h1⟩, h2⟩)
   ·exact h.elim
  ·rename_i hne heq
   cases heq
   obtain ⟨h1, h2⟩ := lenM_split h
   refine ⟨?_, h2⟩
   split
   ·rename_i heq; cases heq
   ·rename_i l e q xs' heq
    cases heq
    exact (hne l e q rfl).elim
   ·rename_i heq; cases heq; exact h1
theorem mL_R {cs : List Value} {ps : List PV} {N : Nat → Option Nat} {w0 : World} (hpin : ∀ i A n cp, cs[i]? = some (.slice A n cp) → F.pin (2000000, i) = some (A, cp)) (hget : ∀ (i : Nat) (x : PL), (ps.flatMap (·.2))[i]? = some x → ∃ c, cs[i]? = some c ∧ FrC w0 ei N i x c)
  {x : Lf} {y : RL} {v : Value} {xs : List Lf} (hl : lenM (ps.flatMap (·.2)) (x :: xs) True) (hy : mL ei x = some y) (hx : RLf F β w x v) : RRL cs y v ∧ lenM (ps.flatMap (·.2)) xs True := by
 cases x with
 | undef => cases hy
 | nil => cases hy; exact ⟨hx, hl⟩
 | p x =>
  unfold mL at hy
  dsimp only at hy
  split at hy
  ·cases hy
  ·rename_i hA
   cases hy
   refine ⟨fun w' ok => ?_, hl⟩
   unfold RLf at hx
   cases x <;> first | exact hx | cases hA
 | own l e x =>
  cases x with
  | ints q =>
   unfold mL at hy
   dsimp only at hy
   split at hy
   ·rename_i hb
    rw [Bool.and_eq_true] at hb
    have h1 : l.1 = 2000000 := of_decide_eq_true hb.1
    cases hy
    unfold lenM at hl
    split at hl
    ·rename_i l0 hl0
     refine ⟨?_, hl.2⟩
     obtain ⟨c, hc, hfc⟩ := hget _ _ hl0
     have hsl : ∃ A cp, c = .slice A l0.length cp := by
      rcases hfc with ⟨rfl, h0⟩ | ⟨g, cp, cur, hv, _⟩
      ·exact ⟨none, 0, by rw [h0]; rfl⟩
      ·exact ⟨_, cp, hv⟩
     obtain ⟨A, cp, rfl⟩ := hsl
     obtain ⟨⟨_, hp⟩, hx⟩ := hx
     have hlab : l = (2000000, l.2) := Prod.ext h1 rfl
     obtain ⟨n, hn⟩ := hp A cp (by rw [hlab]; exact hpin _ _ _ _ hc)
     have hnl : n = q.length := by
      rcases hx with ⟨hv, h0⟩ | ⟨g, c2, cur, hv, _⟩
      ·rw [hn] at hv
       cases hv
       exact h0.symm
      ·rw [hn] at hv
       injection hv
     show cs[l.2]? = some v
     rw [hc, hn, hnl, hl.1]
    ·exact hl.elim
   ·cases hy
  | _ => cases hy
 | deep l e k x => cases hy
 | kid l e n x => cases hy
theorem mLs_R {cs : List Value} {ps : List PV} {N : Nat → Option Nat} {w0 : World} (hpin : ∀ i A n cp, cs[i]? = some (.slice A n cp) → F.pin (2000000, i) = some (A, cp)) (hget : ∀ (i : Nat) (x : PL), (ps.flatMap (·.2))[i]? = some x → ∃ c, cs[i]? = some c ∧ FrC w0 ei N i x c) :
  ∀ {xs : List Lf} {ys : List RL} {vs : List Value} {zs : List Lf}, lenM (ps.flatMap (·.2)) (xs ++ zs) True → mapO (mL ei) xs = some ys → All2 (RLf F β w) xs vs → All2 (RRL cs) ys vs ∧ lenM (ps.flatMap (·.2)) zs True
 | [], ys, [], zs, hl, he, _ => by cases he; exact ⟨True.intro, hl⟩
 | x :: xs, ys, v :: vs, zs, hl, he, h => by
  unfold mapO at he
  split at he
  ·rename_i y ys' hy hys
   cases he
   obtain ⟨h1, h2⟩ := mL_R hpin hget hl hy h.1
   obtain ⟨h3, h4⟩ := mLs_R hpin hget h2 hys h.2
   exact ⟨⟨h1, h3⟩, h4⟩
  ·cases he
 | [], _, _ :: _, _, _, _, h => h.elim
 | _ :: _, _, [], _, _, _, h => h.elim
theorem mVs_R0 {cs : List Value} {ps : List PV} {N : Nat → Option Nat} {w0 : World} (hpin : ∀ i A n cp, cs[i]? = some (.slice A n cp) → F.pin (2000000, i) = some (A, cp)) (hget : ∀ (i : Nat) (x : PL), (ps.flatMap (·.2))[i]? = some x → ∃ c, cs[i]? = some c ∧ FrC w0 ei N i x c) :
  ∀ {qs : List (Bool × List Lf)} {us : List (Bool × List RL)} {vs : List Value}, lenM (ps.flatMap (·.2)) (qs.flatMap (·.2)) True → mapO (resM ei) qs = some us → All2 (fun (q : Bool × List Lf) c => RVal F β w q.1 q.2 c) qs vs → All2 (RRV cs) us vs
 | [], us, [], _, he, _ => by cases he; exact True.intro
 | q :: qs, us, v :: vs, hl, he, h => by
  unfold mapO at he
  split at he
  ·rename_i y ys' hy hys
   cases he
   obtain ⟨b, xs⟩ := q
   rw [List.flatMap_cons] at hl
   unfold resM at hy
   dsimp only at hy hl
   split at hy
   ·rename_i zs hzs
    cases hy
    obtain ⟨h1, h2⟩ := h
    cases b with
    | true =>
     obtain ⟨ds, rfl, h1⟩ := h1
     obtain ⟨h3, h4⟩ := mLs_R hpin hget hl hzs h1
     exact ⟨⟨ds, rfl, h3⟩, mVs_R0 hpin hget h4 hys h2⟩
    | false =>
     obtain ⟨x, hx, h1⟩ := h1
     have hx : xs = [x] := hx
     subst hx
     obtain ⟨h3, h4⟩ := mLs_R (vs := [v]) hpin hget hl hzs ⟨h1, True.intro⟩
     refine ⟨?_, mVs_R0 hpin hget h4 hys h2⟩
     cases zs with
     | nil => exact h3.elim
     | cons z zs =>
      cases zs with
      | nil => exact ⟨z, rfl, h3.1⟩
      | cons z2 zs => exact h3.2.elim
   ·cases hy
  ·cases he
 | [], _, _ :: _, _, _, h => h.elim
 | _ :: _, _, [], _, _, h => h.elim
theorem mVs_R {vs0 : List Value} {ps : List PV} {N : Nat → Option Nat} {w0 : World} (hpin : ∀ i A n cp, (cellsOf vs0)[i]? = some (.slice A n cp) → F.pin (2000000, i) = some (A, cp)) (hfr : FrPVs w0 ei N 0 ps vs0)
  {qs : List (Bool × List Lf)} {us : List (Bool × List RL)} {vs : List Value} (hl : lenM (ps.flatMap (·.2)) (qs.flatMap (·.2)) True) (he : mapO (resM ei) qs = some us) (h : All2 (fun (q : Bool × List Lf) c => RVal F β w q.1 q.2 c) qs vs) : All2 (RRV (cellsOf vs0)) us vs :=
 mVs_R0 hpin (fun i x hx => by
  have hlt : i < (cellsOf vs0).length := by rw [← FrPVs_len hfr]; exact (List.getElem?_eq_some_iff.1 hx).1
  have := FrPVs_get hfr i x _ hx (List.getElem?_eq_getElem hlt)
  rw [Nat.zero_add] at this
  exact ⟨_, List.getElem?_eq_getElem hlt, this⟩) hl he h
theorem toM_R {cs : List Value} {us : List (Bool × List RL)} {vs : List Value} (h : All2 (RRV cs) us vs) : RMRes cs (toM us) (joinV vs) := by
 cases us with
 | nil =>
  cases vs with
  | nil => exact ⟨[], rfl, True.intro⟩
  | cons c vs => exact h.elim
 | cons p us =>
  cases vs with
  | nil => exact h.elim
  | cons c vs =>
   cases us with
   | nil =>
    cases vs with
    | nil => exact h.1
    | cons d vs => exact h.2.elim
   | cons p2 us =>
    cases vs with
    | nil => exact h.2.elim
    | cons d vs => exact ⟨_, rfl, h⟩

theorem fin_leaf (h : Sim F β T a w) {N : Nat → Option Nat} {w0 : World} {j : Nat} {c : Value} {l l' : List Int} (hpin : ∀ A n cp, c = .slice A n cp → F.pin (2000000, j) = some (A, cp)) (hfa : FrA w0 ei N j l c)
  (hf : findT ei (2000000, j) T = some l') (hl : l'.length = l.length) : FrA w ei N j l' c := by
 rcases hfa with ⟨hv, h0⟩ | ⟨g, cp, cur, hv, hn, hh, h1, h2, h3, h4⟩
 ·exact .inl ⟨hv, List.eq_nil_of_length_eq_zero (by rw [hl, h0]; rfl)⟩
 ·obtain ⟨f, hm, xs, hf2, hx⟩ := findT_spec hf
  obtain ⟨i, hi⟩ := List.getElem?_of_mem hm
  obtain ⟨c1, _, hr⟩ := h.rel i _ hi
  have hr3 : ∃ c2, RLf F β w (.own (2000000, j) ei (.ints l')) c2 := by
   rcases hf2 with ⟨b, rfl⟩ | ⟨lb, o, rfl⟩
   ·exact vals_leaf hr hx
   ·obtain ⟨_, cc, _, _, _, _, hall⟩ := hr
    obtain ⟨k, hk⟩ := List.getElem?_of_mem hx
    obtain ⟨c, _, hc⟩ := hall.get k _ hk
    exact ⟨c, hc⟩
  obtain ⟨c2, hr2⟩ := hr3
  obtain ⟨⟨_, hp⟩, hr2⟩ := hr2
  obtain ⟨n2, hc2⟩ := hp _ cp (hpin _ _ _ hv)
  rcases hr2 with ⟨hv2, _⟩ | ⟨g2, cp2, cur2, hv2, hb2, hh2, j1, j2, j3, j4⟩
  ·rw [hc2] at hv2; cases hv2
  ·rw [hc2] at hv2
   injection hv2 with u1 u2 u3
   injection u1 with u1
   injection u1 with u1 _ _
   subst u1
   subst u3
   exact .inr ⟨g, cp, cur2, by rw [hv, hl], hn, hh2, j1, j2, by simpa [PL.wd] using j3, j4⟩
theorem finLs_R (h : Sim F β T a w) {N : Nat → Option Nat} {w0 : World} : ∀ {ps qs : List PL} {j : Nat} {cs : List Value} {k : Prop}, (∀ i A n cp, cs[i]? = some (.slice A n cp) → F.pin (2000000, j + i) = some (A, cp)) → FrLs w0 ei N j ps cs → finLs ei T j ps qs k →
  FrLs w ei N j qs cs ∧ k ∧ qs.length = ps.length
 | [], qs, j, cs, k, _, hfr, hf => by
  cases cs with
  | nil => cases qs with
   | nil => exact ⟨True.intro, hf, rfl⟩
   | cons q qs => simp [finLs] at hf
  | cons c cs => simp [FrLs] at hfr
 | p :: ps, qs, j, cs, k, hpin, hfr, hf => by
  cases cs with
  | nil => cases p <;> simp [FrLs] at hfr
  | cons c cs =>
   have hp2 : ∀ i A n cp, cs[i]? = some (.slice A n cp) → F.pin (2000000, j + 1 + i) = some (A, cp) := fun i A n cp hc => by
    have := hpin (i + 1) A n cp (by simpa using hc)
    rwa [show j + (i + 1) = j + 1 + i by omega] at this
   cases qs with
   | nil => cases p <;> simp [finLs] at hf
   | cons q qs =>
    have plain : p.isA = false → p = q ∧ finLs ei T (j + 1) ps qs k → FrLs w ei N j (q :: qs) (c :: cs) ∧ k ∧ (q :: qs).length = (p :: ps).length := by
     intro hp hf2
     obtain ⟨rfl, hf2⟩ := hf2
     have h0 : PL.R w0 (fun _ => False) p c ∧ FrLs w0 ei N (j + 1) ps cs := by cases p <;> first | exact hfr | (cases hp)
     obtain ⟨h1, h2, h3⟩ := finLs_R h hp2 h0.2 hf2
     have h4 : PL.R w (fun _ => False) p c := by cases p <;> first | exact h0.1 | (cases hp)
     refine ⟨?_, h2, by simp [h3]⟩
     cases p <;> first | exact ⟨h4, h1⟩ | (cases hp)
    unfold finLs at hf
    split at hf
    ·rename_i heq _; cases heq
    ·rename_i l _ l' _ heq1 heq2
     cases heq1; cases heq2
     obtain ⟨hf1, hf2, hf3⟩ := hf
     obtain ⟨h1, h2, h3⟩ := finLs_R h hp2 hfr.2 hf3
     exact ⟨⟨fin_leaf h (fun A n cp hc => hpin 0 A n cp (by rw [hc]; rfl)) hfr.1 hf1 hf2, h1⟩, h2, by simp [h3]⟩
    ·rename_i heq1 heq2
     cases heq1; cases heq2
     exact plain hf.1.1 ⟨hf.1.2, hf.2⟩
    ·exact hf.elim
theorem finV_R (h : Sim F β T a w) {N : Nat → Option Nat} {w0 : World} : ∀ {ps qs : List PV} {j : Nat} {cs : List Value}, (∀ i A n cp, (cellsOf cs)[i]? = some (.slice A n cp) → F.pin (2000000, j + i) = some (A, cp)) → FrPVs w0 ei N j ps cs → finV ei T j ps qs →
  FrPVs w ei N j qs cs
 | [], qs, j, cs, _, hfr, hf => by
  cases qs with
  | nil => cases cs with
   | nil => exact True.intro
   | cons c cs => simp [FrPVs] at hfr
  | cons q qs => simp [finV] at hf
 | p :: ps, qs, j, cs, hpin, hfr, hf => by
  cases qs with
  | nil => obtain ⟨_, _⟩ := p; simp [finV] at hf
  | cons q qs =>
   cases cs with
   | nil => simp [FrPVs] at hfr
   | cons c cs =>
    obtain ⟨b, xs⟩ := p
    obtain ⟨b', ys⟩ := q
    obtain ⟨rfl, hf⟩ := hf
    have hl := FrPV_len hfr.1
    dsimp only at hl
    have hp1 : ∀ i A n cp, c.cells.toList[i]? = some (.slice A n cp) → F.pin (2000000, j + i) = some (A, cp) := fun i A n cp hc => hpin i A n cp (by
     unfold cellsOf
     rw [List.flatMap_cons, List.getElem?_append_left (List.getElem?_eq_some_iff.1 hc).1]
     exact hc)
    have hp2 : ∀ i A n cp, (cellsOf cs)[i]? = some (.slice A n cp) → F.pin (2000000, j + xs.length + i) = some (A, cp) := fun i A n cp hc => by
     have := hpin (xs.length + i) A n cp (by
      unfold cellsOf
      rw [List.flatMap_cons, List.getElem?_append_right (by omega), ← hl, Nat.add_sub_cancel_left]
      exact hc)
     rwa [← Nat.add_assoc] at this
    have h1 : FrPV w ei N j (b, ys) c ∧ finV ei T (j + xs.length) ps qs ∧ ys.length = xs.length := by
     cases b with
     | true =>
      obtain ⟨ds, rfl, h2⟩ := hfr.1
      obtain ⟨h3, h4, h5⟩ := finLs_R h (by simpa [Value.cells] using hp1) h2 hf
      exact ⟨⟨ds, rfl, h3⟩, h4, h5⟩
     | false =>
      obtain ⟨x, hx, h2⟩ := hfr.1
      have hx : xs = [x] := hx
      subst hx
      rw [cells_one (FrL_one h2)] at hp1
      obtain ⟨h3, h4, h5⟩ := finLs_R h hp1 h2 hf
      refine ⟨?_, h4, h5⟩
      cases ys with
      | nil => cases h5
      | cons y ys => cases ys with
       | nil => exact ⟨y, rfl, h3⟩
       | cons z zs => simp at h5
    refine ⟨h1.1, ?_⟩
    rw [show (b, ys).2.length = xs.length from h1.2.2]
    exact finV_R h hp2 hfr.2 h1.2.1

/-- **What a function does that writes its arguments' arrays, by its code.** -/
theorem den_introM (hT : tabB P ei Γ = true) {g : FuncId} {fn : Func} {c : Code} {ps qs : List PV} {r : MRes} (hf : P.funcs[g]? = some fn) (hname : (fn.name == "runtime.NumGoroutine") = false)
  (hb : fn.body = some c) (hev : EVs P c (initM ei fn.ntmps ps) (retKM Γ ei fn.results.toList ps qs r)) : DenM P ei g ps qs r := by
 refine ⟨⟨fn, hf, hname, by simp [hb]⟩, fun N w vs hkp hNlt hNinj hvs => ?_⟩
 refine calls_of_wp hf hb ?_
 let M : List Nat := (List.range w.heap.size).filter fun b => @decide (∃ j, N j = some b) (Classical.propDecidable _)
 let F : Fr := ⟨P, w.heap.size, M, (· ∈ M), w, pinOf (cellsOf vs), fun l q hq => (by have := (pinOf_some hq).1; omega), fun w' hw' => hkp w' fun k hk hX => hw' k hk fun hm => hX (@of_decide_eq_true _ (Classical.propDecidable _) (List.mem_filter.1 hm).2)⟩
 let β : BM := fun l => if l.1 = 2000000 then N l.2 else none
 have hM : ∀ b, b ∈ M ↔ ∃ j, N j = some b := fun b => by
  simp only [M, List.mem_filter, List.mem_range, decide_eq_true_eq]
  exact ⟨fun h => h.2, fun ⟨j, hj⟩ => ⟨hNlt j b hj, j, hj⟩⟩
 have hβ : ∀ l b, β l = some b → l.1 = 2000000 ∧ N l.2 = some b := fun l b hl => by
  simp only [β] at hl
  split at hl
  ·exact ⟨by assumption, hl⟩
  ·cases hl
 have hvl : ∀ {ps : List PV} {j : Nat} {vs : List Value}, FrPVs w ei N j ps vs → ps.length = vs.length := by
  intro ps
  induction ps with
  | nil => intro j vs h; cases vs with
   | nil => rfl
   | cons v vs => simp [FrPVs] at h
  | cons p ps ih => intro j vs h; cases vs with
   | nil => simp [FrPVs] at h
   | cons v vs => simp [ih h.2]
 have hlen := hvl hvs
 have hall : All2 (fun (q : Bool × List Lf) c => RVal F β w q.1 q.2 c) (labelVs ei 2000000 0 ps) vs := by
  refine Fr_Vs (fun j => by simp [β]) (fun i u hu g cp hp => ?_) hvs
  obtain ⟨_, A, n, c', hc, hq⟩ := pinOf_some hp
  rw [Nat.zero_add] at hc
  rw [hu] at hc
  cases hc
  cases hq
  exact ⟨n, rfl⟩
 refine hev F rfl β _ w _ ?_ ?_
 ·refine ⟨rfl, ?_, ?_, ?_, ?_, rfl, rfl, rfl, Nat.le_refl _, fun _ _ _ => rfl, fun _ h => h⟩
  ·have := hall.length
   simp only [initM, List.length_append, List.length_map, List.length_replicate, Array.size_append, List.size_toArray, Array.size_replicate, this, hlen]
  ·intro i f hi
   have hl2 := hall.length
   unfold initM at hi
   by_cases h1 : i < (labelVs ei 2000000 0 ps).length
   ·rw [List.getElem?_append_left (by simpa using h1), List.getElem?_map] at hi
    obtain ⟨q, hq, rfl⟩ := Option.map_eq_some_iff.1 hi
    obtain ⟨v, hv, hr⟩ := hall.get i q hq
    exact ⟨v, by rw [Array.getElem?_append_left (by simp; omega)]; simpa using hv, hr⟩
   ·rw [List.getElem?_append_right (by simpa using h1), List.length_map] at hi
    obtain ⟨hlt, hf⟩ := List.getElem?_eq_some_iff.1 hi
    simp at hf
    subst hf
    simp at hlt
    refine ⟨undef, ?_, True.intro⟩
    show (vs.toArray ++ Array.replicate (fn.ntmps - vs.toArray.size) undef)[i]? = some undef
    rw [Array.getElem?_append_right (by simp; omega), Array.getElem?_replicate, if_pos]
    simp only [List.size_toArray]
    omega
  ·intro l l' b h1 h2
   obtain ⟨e1, n1⟩ := hβ l b h1
   obtain ⟨e2, n2⟩ := hβ l' b h2
   exact Prod.ext (e1.trans e2.symm) (hNinj _ _ _ n1 n2)
  ·intro l b h1
   obtain ⟨e1, n1⟩ := hβ l b h1
   exact ⟨hNlt _ _ n1, .inr ((hM b).2 ⟨_, n1⟩)⟩
 ·intro e T' β' a' w' hk hs
  have hret : retM Γ ei fn.results.toList ps qs r T' := by
   cases e with
   | normal => exact hk
   | ret => exact hk
   | exit id => exact hk.elim
  have main : a'.defers = [] ∧ ∃ v, (results fn a'.tmps).run P w' = .ok v w' ∧ ∃ v', Ending.returned v = .returned v' ∧ (w'.os = w.os ∧ w'.tape = w.tape ∧ w'.output = w.output ∧ w.heap.size ≤ w'.heap.size) ∧
    (∀ k, k < w.heap.size → (∀ j, N j ≠ some k) → w'.heap[k]? = w.heap[k]?) ∧ FrPVs w' ei N 0 qs vs ∧ RMRes (cellsOf vs) r v' := by
   obtain ⟨us, hus, us', hus', rfl, hlm⟩ := hret
   have hpinF : ∀ i A n cp, (cellsOf vs)[i]? = some (.slice A n cp) → F.pin (2000000, i) = some (A, cp) := fun i A n cp hc => by
    show pinOf (cellsOf vs) (2000000, i) = _
    unfold pinOf
    dsimp only
    rw [hc]
    rfl
   obtain ⟨hlm1, hfin⟩ := lenM_split hlm
   obtain ⟨cs, hcs, hrun⟩ := res_run hs hT hus
   refine ⟨hs.defers, _, hrun, _, rfl, ⟨hs.os, hs.tape, hs.output, hs.hsize⟩, fun k hk hkn => hs.kept k hk (fun hm => ?_), ?_, ?_⟩
   ·obtain ⟨j, hj⟩ := (hM k).1 hm
    exact hkn j hj
   ·exact finV_R hs (fun i A n cp hc => by rw [Nat.zero_add]; exact hpinF i A n cp hc) hvs hfin
   ·exact toM_R (mVs_R hpinF hvs hlm1 hus' hcs)
  cases e with
  | normal => exact main
  | ret => exact main
  | exit id => exact hk.elim
/-! ### functions that write the inner slices of their first argument -/
/-! ### functions that hand back a new slice of structs -/
def retH (Γ : Tab) (rs : List ResultVar) (e : TypeId) (k : Nat) (rows : List (List PL)) (T : List FV) : Prop := ∃ lab, resAs Γ T rs = some [(false, [.own lab e (.arr k rows)])]
def retKH (Γ : Tab) (rs : List ResultVar) (e : TypeId) (k : Nat) (rows : List (List PL)) : Ex → List FV → Prop
 | .ret, T => retH Γ rs e k rows T
 | .normal, T => retH Γ rs e k rows T
 | .exit _, _ => False
/-- **What a function does that hands back a new slice of structs, by its code.** -/
theorem den_introH (hT : tabB P ei Γ = true) {g : FuncId} {fn : Func} {c : Code} {ps : List PV} {e0 : TypeId} {k0 : Nat} {rows : List (List PL)} (hf : P.funcs[g]? = some fn) (hname : (fn.name == "runtime.NumGoroutine") = false)
  (hb : fn.body = some c) (hev : EVs P c (init fn.ntmps ps) (retKH Γ fn.results.toList e0 k0 rows)) : DenH P g ps e0 k0 rows := by
 refine ⟨⟨fn, hf, hname, by simp [hb]⟩, fun ok w vs hkp hvs => ?_⟩
 refine calls_of_wp hf hb ?_
 have hlen := hvs.length
 refine hev ⟨P, w.heap.size, [], ok, w, fun _ => none, fun _ _ h => (by cases h), fun w' hw' => hkp w' fun k hk _ => hw' k hk (by simp)⟩ rfl (fun _ => none) _ w _ ?_ ?_
 ·refine ⟨rfl, ?_, ?_, (fun _ _ _ h => by cases h), (fun _ _ h => by cases h), rfl, rfl, rfl, Nat.le_refl _, fun _ _ _ => rfl, fun _ h => by cases h⟩
  ·simp [init, hlen]
  ·intro i f hi
   unfold init at hi
   by_cases h1 : i < ps.length
   ·rw [List.getElem?_append_left (by simpa using h1), List.getElem?_map] at hi
    obtain ⟨q, hq, rfl⟩ := Option.map_eq_some_iff.1 hi
    obtain ⟨v, hv, hr⟩ := hvs.get i q hq
    refine ⟨v, by rw [Array.getElem?_append_left (by simp; omega)]; simpa using hv, ?_⟩
    exact RPV_val (F := ⟨P, w.heap.size, [], ok, w, fun _ => none, fun _ _ h => (by cases h), fun w' hw' => hkp w' fun k hk _ => hw' k hk (by simp)⟩) (β := fun _ => none) (fun b hb => ⟨.inl hb, fun _ h => by cases h⟩) hr
   ·rw [List.getElem?_append_right (by simpa using h1), List.length_map] at hi
    obtain ⟨hlt, hf⟩ := List.getElem?_eq_some_iff.1 hi
    simp at hf
    subst hf
    simp at hlt
    refine ⟨undef, ?_, True.intro⟩
    show (vs.toArray ++ Array.replicate (fn.ntmps - vs.toArray.size) undef)[i]? = some undef
    rw [Array.getElem?_append_right (by simp; omega), Array.getElem?_replicate, if_pos]
    simp only [List.size_toArray]
    omega
 ·intro e T' β' a' w' hk hs
  have hret : retH Γ fn.results.toList e0 k0 rows T' := by
   cases e with
   | normal => exact hk
   | ret => exact hk
   | exit id => exact hk.elim
  have main : a'.defers = [] ∧ ∃ v, (results fn a'.tmps).run P w' = .ok v w' ∧ ∃ v', Ending.returned v = .returned v' ∧ Below w.heap.size w w' ∧
    ((v' = .slice none 0 0 ∧ rows = []) ∨ ∃ b c cur, w.heap.size ≤ b ∧ v' = .slice (some ⟨b, 0, none⟩) rows.length c ∧ w'.heap[b]? = some (.cells cur e0 (0, 0)) ∧ rows.length ≤ c ∧ c ≤ maxLen ∧ cur.size = c * k0 ∧
     PL.Rows w' (fun x => (ok x ∨ w.heap.size ≤ x) ∧ x ≠ b) k0 b 0 rows) := by
   obtain ⟨lab, hqs⟩ := hret
   obtain ⟨cs, hall, hrun⟩ := res_run hs hT hqs
   refine ⟨hs.defers, _, hrun, _, rfl, ⟨hs.os, hs.tape, hs.output, hs.hsize, fun k hk => hs.kept k hk (by simp)⟩, ?_⟩
   cases cs with
   | nil => exact hall.elim
   | cons c0 cs =>
    cases cs with
    | cons _ _ => exact hall.2.elim
    | nil =>
     obtain ⟨x0, hx0, hr⟩ := hall.1
     cases hx0
     rcases hr.2 with ⟨h1, h2⟩ | ⟨b, c, cur, h1, h2, h3, h4, h5, h6, h7⟩
     ·exact .inl ⟨h1, List.eq_nil_of_length_eq_zero h2⟩
     ·obtain ⟨_, h8⟩ := hs.rng lab b h2
      refine .inr ⟨b, c, cur, ?_, h1, h3, h4, h5, h6, ?_⟩
      ·rcases h8 with h | h
       ·exact h
       ·cases h
      ·refine PL.Rows.move (Nat.le_refl _) (fun x hx _ => ⟨⟨hx.1, fun e => hx.2 lab (by rw [h2, e])⟩, rfl⟩) rfl _ _ (show PL.Rows w' _ k0 b 0 rows from h7)
  cases e with
  | normal => exact main
  | ret => exact main
  | exit id => exact hk.elim
end
end Go.Vx
end
section
/- Vx, part 13: small helps for use. -/
namespace Go.Vx

theorem Fgt.nil : Fgt [] [] := ⟨rfl, fun _ _ h => .inr h⟩
theorem Fgt.cons {f f' : FV} {T T' : List FV} (hf : f' = .any ∨ f = f') (h : Fgt T T') : Fgt (f :: T) (f' :: T') :=
 ⟨by simp [h.1], fun i g hg => by
  cases i with
  | zero =>
   simp at hg
   subst hg
   rcases hf with hf | hf
   ·exact .inl hf
   ·exact .inr (by simp [hf])
  | succ i => simpa using h.2 i g (by simpa using hg)⟩
theorem Fgt.drop1 {f : FV} {T T' : List FV} (h : Fgt T T') : Fgt (f :: T) (.any :: T') := .cons (.inl rfl) h
theorem Fgt.same1 {f : FV} {T T' : List FV} (h : Fgt T T') : Fgt (f :: T) (f :: T') := .cons (.inr rfl) h

/-- What a value says less. -/
def LeF (f f' : FV) : Prop := ∀ (F : Fr) (β : BM) (w : World) (v : Value), RFV F β w f v → RFV F β w f' v
theorem Wk.le {T T' : List FV} (h : All2 LeF T T') : Wk T T' := fun F β a w hs =>
 ⟨β, { hs with
  size := hs.size.trans h.length
  rel := fun i f' hi => by
   have hlt : i < T.length := by rw [h.length]; exact (List.getElem?_eq_some_iff.1 hi).1
   obtain ⟨y, hy, hle⟩ := h.get i T[i] (List.getElem?_eq_getElem hlt)
   rw [hi] at hy
   cases hy
   obtain ⟨c, hc, hr⟩ := hs.rel i T[i] (List.getElem?_eq_getElem hlt)
   exact ⟨c, hc, hle F β w c hr⟩ }⟩
theorem LeT.nil : All2 LeF [] [] := True.intro
theorem LeT.drop1 {f : FV} {T T' : List FV} (h : All2 LeF T T') : All2 LeF (f :: T) (.any :: T') := ⟨fun _ _ _ _ _ => True.intro, h⟩
theorem LeT.same1 {f : FV} {T T' : List FV} (h : All2 LeF T T') : All2 LeF (f :: T) (f :: T') := ⟨fun _ _ _ _ h => h, h⟩
/-- nil is an empty array of the frame's, under any label. -/
theorem LeT.own1 {l : Lab} {e : TypeId} {T T' : List FV} (h : All2 LeF T T') (hl : Nat.blt l.1 2000000 = true := by rfl) : All2 LeF (.v false [.nil] :: T) (.v false [.own l e (.ints [])] :: T') :=
 ⟨fun F β w v hv => by
  obtain ⟨x, hx, hv⟩ := hv
  cases hx
  exact ⟨_, rfl, ⟨rfl, PinR.low (by simpa using hl)⟩, .inl ⟨hv, rfl⟩⟩, h⟩
theorem LeT.ownR {l : Lab} {e : TypeId} {k : Nat} {T T' : List FV} (h : All2 LeF T T') (hl : Nat.blt l.1 2000000 = true := by rfl) : All2 LeF (.v false [.nil] :: T) (.v false [.own l e (.arr k [])] :: T') :=
 ⟨fun F β w v hv => by
  obtain ⟨x, hx, hv⟩ := hv
  cases hx
  exact ⟨_, rfl, ⟨rfl, PinR.low (by simpa using hl)⟩, .inl ⟨hv, rfl⟩⟩, h⟩

/-- An own slice of structs without inner contents owns its inner slices. -/
theorem LeT.deepR {l : Lab} {e ei : TypeId} {k : Nat} {rows : List (List PL)} {T T' : List FV} (h : All2 LeF T T') (hz : rows.all zeroRow = true) : All2 LeF (.v false [.own l e (.arr k rows)] :: T) (.v false [.deep l ei k rows] :: T') :=
 ⟨fun F β w v hv => own_deep hv hz, h⟩

/-- The frame, with some temporaries set. -/
def setAll (T : List FV) : List (Nat × FV) → List FV
 | [] => T
 | (i, f) :: r => setAll (T.set i f) r
/-- A loop, with what changes named. -/
theorem EVs.loopU {P : Program} {c : Code} {K : Ex → List FV → Prop} {T : List FV} {α : Type} (pr : α → Prop) (meas : α → Nat) (upd : α → List (Nat × FV)) (a0 : α) (h0 : pr a0) (hT : Wk T (setAll T (upd a0)))
  (round : ∀ a, pr a → EVs P c (setAll T (upd a)) (fun e T' => match e with
   | .normal => ∃ a', meas a' < meas a ∧ pr a' ∧ Wk T' (setAll T (upd a'))
   | .ret => K .ret T'
   | .exit id => K (.exit id) T')) : EVs P (.loop c) T K := by
 refine EVs.weaken hT ?_
 refine EVs.loop (fun n T' => ∃ a, pr a ∧ n = meas a ∧ T' = setAll T (upd a)) ?_ ⟨a0, h0, rfl, rfl⟩
 rintro n T' ⟨a, ha, rfl, rfl⟩
 refine (round a ha).mono fun e T' h => ?_
 cases e with
 | normal =>
  obtain ⟨a', h1, h2, h3⟩ := h
  exact ⟨_, _, h1, h3, a', h2, rfl, rfl⟩
 | ret => exact h
 | exit id => exact h

theorem wrap64 {z : Int} (h1 : -9223372036854775808 ≤ z) (h2 : z ≤ 9223372036854775807) : IntKind.i64.wrap z = z := by
 rw [IntKind.wrap_i64]
 omega

/-- What is no longer wanted is dropped. -/
theorem Wk.fg {T T' : List FV} (h : All2 LeF T T' := by repeat' (first | exact LeT.nil | refine LeT.drop1 ?_ | refine LeT.same1 ?_ | refine LeT.own1 ?_ | refine LeT.ownR ?_ | (refine LeT.deepR ?_ rfl))) : Wk T T' := Wk.le h
end Go.Vx
end
section
/- Vx, part 14: a slice against nil. -/
namespace Go.Vx
open Go.RowKit

theorem EVs.seq {P : Program} {x y : Code} {T : List FV} {K : Ex → List FV → Prop} (h : EVs P x T (fun e T' => match e with
  | .normal => EVs P y T' K
  | .ret => K .ret T'
  | .exit id => K (.exit id) T')) : EVs P (.seq x y) T K := by
 intro F hF β a w Q hs hQ
 refine wp_seq (h F hF β a w _ hs ?_)
 intro e T' β' a' w' hk hs'
 cases e with
 | normal => exact hk F hF β' a' w' Q hs' hQ
 | ret => exact hQ .ret T' β' a' w' hk hs'
 | exit id => exact hQ (.exit id) T' β' a' w' hk hs'

theorem eqIn_nil {P : Program} {t e : TypeId} (hu : P.underlying t = some (.slice e)) (d : Nat) (A : Option Addr) (n c : Nat) (w : World) : (Op.equalIn (d + 1) t (.slice A n c) (.slice none 0 0)).run P w = .ok A.isNone w := by
 cases A <;> simp [Op.equalIn, run_underlying hu]
theorem eq_nil {P : Program} {t e : TypeId} (hu : P.underlying t = some (.slice e)) (A : Option Addr) (n c : Nat) (w : World) : (Op.equal t (.slice A n c) (.slice none 0 0)).run P w = .ok A.isNone w :=
 eqIn_nil hu 9999 A n c w
theorem bin_nil {P : Program} {t e : TypeId} (hu : P.underlying t = some (.slice e)) (A : Option Addr) (n c : Nat) (w : World) : (binOp .eql t (.slice A n c) (.slice none 0 0)).run P w = .ok (.bool A.isNone) w := by
 show (do pure (Value.bool (← Op.equal t (.slice A n c) (.slice none 0 0))) : Sem Value).run P w = _
 rw [Sem.run_bind, eq_nil hu]
 rfl
theorem EVs.nilTest {P : Program} {Γ : Tab} {ei : TypeId} (hT : tabB P ei Γ = true) {id : Nat} {o1 o2 : Oper} {d1 d2 s : Nat} {t t' : TypeId} {T : List FV} {K : Ex → List FV → Prop} {r : TyRow} {x : PL}
  (h1 : o1.op = .move (.tmp s)) (hd1 : o1.dst = some d1) (hg1 : o1.guard = none) (h2 : o2.op = .binOp .eql t (.tmp d1) (.const (.slice none 0 0)) t') (hd2 : o2.dst = some d2) (hg2 : o2.guard = none)
  (hr : Γ.get t = some r) (hty : tyArr r.ty x = true) (hs : T.getD s .any = .v false [.p x]) (hd : d1 < T.length)
  (hk : ∀ b : Bool, (b = true → x.len = 0) → K .normal (put (put T (some d1) (.v false [.p x])) (some d2) (.v false [.p (.bool b)]))) : EVs P (.region id #[o1, o2] false) T K := by
 intro F hF β a w Q hs' hQ
 subst hF
 obtain ⟨hid, hrow⟩ := tab_row hT hr
 have hei : eiB F.P ei = true := by unfold tabB at hT; rw [Bool.and_eq_true] at hT; exact hT.1
 obtain ⟨e, hu, _⟩ := row_arr hei hrow hty hid
 refine wp_region_list ?_
 have hx := opd_R hs' (.tmp s)
 have e0 : opd T (.tmp s) = .v false [.p x] := hs
 rw [e0] at hx
 refine wpList_plain hg1 fun K1 hK1 => y_value hs' (k := fun f => f = .v false [.p x]) ?_ rfl (by simp [execOp, h1]) hx
 rintro f β1 c w1 rfl hs1
 refine hK1 _ _ ?_
 have hx1 := opd_R hs1 (.tmp d1)
 rw [hd1] at hs1 hx1 ⊢
 have e1 : opd (put T (some d1) (.v false [.p x])) (.tmp d1) = .v false [.p x] := by
  show (List.set T d1 _).getD d1 .any = _
  simp [List.getD, hd]
 rw [e1] at hx1
 have hx1 : PL.R w1 (okU F β1) x ((a.put (some d1) c).eval (.tmp d1)) := R_v1 hx1
 have hA : x.isArr = true := tyArr_isArr hty
 have hsl : ∃ A cp, (a.put (some d1) c).eval (.tmp d1) = .slice A x.len cp ∧ (x.len = 0 ∨ A ≠ none) := by
  cases x <;> simp [PL.isArr] at hA
  ·obtain ⟨A, cp, hv, _, _, h⟩ := hx1
   refine ⟨A, cp, hv, ?_⟩
   rcases h with rfl | ⟨g, o, rfl, _⟩
   ·exact .inl rfl
   ·exact .inr (by simp)
  ·obtain ⟨A, cp, hv, _, _, h⟩ := hx1
   refine ⟨A, cp, hv, ?_⟩
   rcases h with rfl | ⟨g, o, rfl, _⟩
   ·exact .inl rfl
   ·exact .inr (by simp)
 obtain ⟨A, cp, hv, hnn⟩ := hsl
 have hrun : (execOp (a.put (some d1) c).eval o2).run F.P w1 = .ok (.value (.bool A.isNone)) w1 := by
  simp only [execOp, h2, hv]
  have hc : (a.put (some d1) c).eval (.const (.slice none 0 0)) = .slice none 0 0 := rfl
  rw [hc]
  rw [Sem.run_bind, run_bin (by simp [eqGuard]) (bin_nil hu A _ _ _)]
  rfl
 refine wpList_plain hg2 fun K2 hK2 => y_value hs1 (k := fun f => f = .v false [.p (.bool A.isNone)]) ?_ rfl hrun ⟨_, rfl, rfl⟩
 rintro f β2 c2 w2 rfl hs2
 refine hK2 _ _ ?_
 rw [hd2] at hs2 ⊢
 refine hQ .normal _ β2 _ w2 (hk A.isNone fun hb => ?_) hs2
 rcases hnn with h | h
 ·exact h
 ·cases A
  ·exact absurd rfl h
  ·cases hb
end Go.Vx
end
section
/- Vx, part 16: the interpreter once more, with values worked out at once, and a stop wherever something is to be shown. It implies the first one. -/
namespace Go.Vx
open Go.RowKit

/-! ### stops -/
inductive Wr (kd : IntKind) (u : Int) (c : Int → Prop) : Prop where
 | mk (z : Int) (h : kd.wrap u = z) (hk : c z) : Wr kd u c
inductive Bo (b : Bool) (c : Bool → Prop) : Prop where
 | mk (t : Bool) (h : b = t) (hk : c t) : Bo b c
inductive Eqz (u : Int) (c : Int → Prop) : Prop where
 | mk (z : Int) (h : u = z) (hk : c z) : Eqz u c
inductive Eqs (u : ByteArray) (c : ByteArray → Prop) : Prop where
 | mk (z : ByteArray) (h : u = z) (hk : c z) : Eqs u c
inductive CatS (x y : ByteArray) (c : ByteArray → Prop) : Prop where
 | mk (z : ByteArray) (hs : x.size + y.size ≤ 9223372036854775807) (h : x ++ y = z) (hk : c z) : CatS x y c
inductive IdxS (s : ByteArray) (z : Int) (c : UInt8 → Prop) : Prop where
 | mk (i : Nat) (h : z = (i : Int)) (b : UInt8) (hb : s[i]? = some b) (hk : c b) : IdxS s z c
inductive UnB (rows : List (List PL)) (c : ByteArray → Prop) : Prop where
 | mk (s : ByteArray) (h : byteRows s = rows) (hk : c s) : UnB rows c
inductive Got {α : Type} (o : Option α) (c : α → Prop) : Prop where
 | mk (y : α) (h : o = some y) (hk : c y) : Got o c
inductive LdI (l : List Int) (i : Nat) (c : Int → Prop) : Prop where
 | mk (z : Int) (h : l[i]? = some z) (hk : c z) : LdI l i c
inductive LdR (l : List (List PL)) (i : Nat) (c : List PL → Prop) : Prop where
 | mk (q : List PL) (h : l[i]? = some q) (hk : c q) : LdR l i c
inductive Idx (z : Int) (n : Nat) (c : Nat → Prop) : Prop where
 | mk (i : Nat) (h : z = (i : Int)) (hi : i < n) (hk : c i) : Idx z n c
inductive CallS (Den : FuncId → List PV → Bool → Res → Prop) (g : FuncId) (fs : List FV) (c : Bool → Res → Prop) : Prop where
 | mk (ps : List PV) (h : erVs fs = some ps) (fl lb : Bool) (r : Res) (hd : Den g ps fl r) (hok : callOk fl fs r = true) (hk : c (fl && lb) r) : CallS Den g fs c
inductive MutS (md : FuncId → List PV → List PV → MRes → Prop) (ei : TypeId) (g : FuncId) (fs : List FV) (c : List Lf → List PL → MRes → Prop) : Prop where
 | mk (avs : List (Bool × List Lf)) (h1 : mapO argV fs = some avs) (ps : List PV) (h2 : mapO (resV (frL ei)) avs = some ps) (qs : List PV) (r : MRes) (hd : md g ps qs r) (hk : c (avs.flatMap (·.2)) (qs.flatMap (·.2)) r) : MutS md ei g fs c
inductive NewK (c : Bool → Prop) (d : Prop := False) : Prop where
 | mk (lb : Bool) (hk : c lb) : NewK c d
 | dp (hk : d) : NewK c d
theorem NewK.ex {c : Bool → Prop} (h : NewK c) : ∃ lb, c lb := by
 cases h with
 | mk lb hk => exact ⟨lb, hk⟩
 | dp hk => exact hk.elim
inductive MakeK (z z' : Int) (c : Nat → Bool → Prop) : Prop where
 | mk (n : Nat) (h : z = (n : Int)) (h' : z' = (n : Int)) (hn : n ≤ 17592186044416) (lb : Bool) (hk : c n lb) : MakeK z z' c
inductive MakeR (z z' : Int) (b : Nat) (c : Nat → Bool → Prop) : Prop where
 | mk (n : Nat) (h : z = (n : Int)) (h' : z' = (n : Int)) (hn : n * (b + 1) ≤ 140737488355328) (lb : Bool) (hk : c n lb) : MakeR z z' b c
inductive SubK (lo hi : Option FV) (n : Nat) (c : Nat → Nat → Prop) : Prop where
 | mk (i j : Nat) (h1 : bndA 0 i lo) (h2 : bndA n j hi) (hij : i ≤ j) (hj : j ≤ n) (hk : c i j) : SubK lo hi n c

theorem Wr.of64 {u : Int} {c : Int → Prop} (h1 : -9223372036854775808 ≤ u) (h2 : u ≤ 9223372036854775807) (hk : c u) : Wr .i64 u c := .mk u (wrap64 h1 h2) hk
theorem Bo.t {b : Bool} {c : Bool → Prop} (h : b = true) (hk : c true) : Bo b c := .mk true h hk
theorem Bo.f {b : Bool} {c : Bool → Prop} (h : b = false) (hk : c false) : Bo b c := .mk false h hk
theorem Bo.dt {p : Prop} [Decidable p] {c : Bool → Prop} (h : p) (hk : c true) : Bo (decide p) c := .mk true (decide_eq_true h) hk
theorem Bo.df {p : Prop} [Decidable p] {c : Bool → Prop} (h : ¬ p) (hk : c false) : Bo (decide p) c := .mk false (decide_eq_false h) hk

/-! ### values at once -/
def fPL (x : PL) (k : PL → Prop) : Prop := match x with
 | .int kd z => k (.int kd z)
 | .bool b => k (.bool b)
 | .str s => k (.str s)
 | .fn f => k (.fn f)
 | .clo f z => k (.clo f z)
 | .pint z => k (.pint z)
 | .darr w l => k (.darr w l)
 | .ints l => k (.ints l)
 | .arr w l => k (.arr w l)
def fLf (x : Lf) (k : Lf → Prop) : Prop := match x with
 | .undef => k .undef
 | .nil => k .nil
 | .p x => fPL x fun x => k (.p x)
 | .own (a, b) e x => fPL x fun x => k (.own (a, b) e x)
 | .deep (a, b) e w l => k (.deep (a, b) e w l)
 | .kid (a, b) e n l => k (.kid (a, b) e n l)
def fLs : List Lf → (List Lf → Prop) → Prop
 | [], k => k []
 | x :: xs, k => fLf x fun x => fLs xs fun xs => k (x :: xs)
def fVs : List (Bool × List Lf) → (List (Bool × List Lf) → Prop) → Prop
 | [], k => k []
 | (true, xs) :: vs, k => fLs xs fun xs => fVs vs fun vs => k ((true, xs) :: vs)
 | (false, xs) :: vs, k => fLs xs fun xs => fVs vs fun vs => k ((false, xs) :: vs)
def fFV (f : FV) (k : FV → Prop) : Prop := match f with
 | .any => k .any
 | .v true xs => fLs xs fun xs => k (.v true xs)
 | .v false xs => fLs xs fun xs => k (.v false xs)
 | .tup vs => fVs vs fun vs => k (.tup vs)
 | .box (a, b) cs off => fLs cs fun cs => k (.box (a, b) cs off)
 | .elt s i off => fLf s fun s => k (.elt s i off)
 | .sub s i off => fLf s fun s => k (.sub s i off)
 | .lit (a, b) w cs => fLs cs fun cs => k (.lit (a, b) w cs)
def fT : List FV → (List FV → Prop) → Prop
 | [], K => K []
 | f :: fs, K => fFV f fun f => fT fs fun fs => K (f :: fs)
def putL : List FV → Nat → FV → (List FV → Prop) → Prop
 | [], _, _, K => K []
 | _ :: xs, 0, f, K => K (f :: xs)
 | x :: xs, n + 1, f, K => putL xs n f fun ys => K (x :: ys)
def putK (T : List FV) (d : Option Tmp) (f : FV) (K : List FV → Prop) : Prop := match d with
 | some d => fFV f fun f => putL T d f K
 | none => K T

theorem fPL_eq {x : PL} {k : PL → Prop} : fPL x k = k x := by cases x <;> rfl
theorem fLf_eq {x : Lf} {k : Lf → Prop} : fLf x k = k x := by
 cases x with
 | p x => exact fPL_eq (x := x) (k := fun x => k (.p x))
 | own l e x => obtain ⟨a, b⟩ := l; exact fPL_eq (x := x) (k := fun x => k (.own (a, b) e x))
 | deep l e w x => obtain ⟨a, b⟩ := l; rfl
 | kid l e n x => obtain ⟨a, b⟩ := l; rfl
 | _ => rfl
theorem fLs_eq : ∀ {xs : List Lf} {k : List Lf → Prop}, fLs xs k = k xs
 | [], _ => rfl
 | x :: xs, k => by unfold fLs; rw [fLf_eq, fLs_eq]
theorem fVs_eq : ∀ {xs : List (Bool × List Lf)} {k : List (Bool × List Lf) → Prop}, fVs xs k = k xs
 | [], _ => rfl
 | (true, xs) :: vs, k => by unfold fVs; rw [fLs_eq, fVs_eq]
 | (false, xs) :: vs, k => by unfold fVs; rw [fLs_eq, fVs_eq]
theorem fFV_eq {f : FV} {k : FV → Prop} : fFV f k = k f := by
 cases f with
 | any => rfl
 | v a xs => cases a <;> exact fLs_eq
 | tup vs => exact fVs_eq
 | box l cs off => obtain ⟨a, b⟩ := l; exact fLs_eq
 | elt s i off => exact fLf_eq (x := s) (k := fun s => k (.elt s i off))
 | sub s i off => exact fLf_eq (x := s) (k := fun s => k (.sub s i off))
 | lit l w cs => obtain ⟨a, b⟩ := l; exact fLs_eq
theorem fT_eq : ∀ {T : List FV} {K : List FV → Prop}, fT T K = K T
 | [], _ => rfl
 | f :: fs, K => by unfold fT; rw [fFV_eq, fT_eq]
theorem putL_eq : ∀ {T : List FV} {n : Nat} {f : FV} {K : List FV → Prop}, putL T n f K = K (T.set n f)
 | [], n, _, _ => by cases n <;> rfl
 | _ :: _, 0, _, _ => rfl
 | x :: xs, n + 1, f, K => by unfold putL; rw [putL_eq]; rfl
theorem putK_eq {T : List FV} {d : Option Tmp} {f : FV} {K : List FV → Prop} : putK T d f K = K (put T d f) := by
 cases d with
 | none => rfl
 | some d => unfold putK; dsimp only; rw [fFV_eq, putL_eq]; rfl

/-! ### the operations -/
def binKF (isB : Bool) (op : BinOp) (a b : PL) (c : PL → Prop) : Prop :=
 match a, b with
 | .int k x, .int k' y => match op with
  | .shl => 0 ≤ y ∧ Wr k (x * 2 ^ (min y.toNat k.bits)) fun z => c (.int k z)
  | .shr => 0 ≤ y ∧ Eqz (x.fdiv (2 ^ (min y.toNat k.bits))) fun z => c (.int k z)
  | .or => k = k' ∧ Eqz (Go.bits .or k x y) fun z => c (.int k z)
  | .and => k = k' ∧ Eqz (Go.bits .and k x y) fun z => c (.int k z)
  | .add => k = k' ∧ Wr k (x + y) fun z => c (.int k z)
  | .sub => k = k' ∧ Wr k (x - y) fun z => c (.int k z)
  | .mul => k = k' ∧ Wr k (x * y) fun z => c (.int k z)
  | .lss => k = k' ∧ Bo (decide (x < y)) fun t => c (.bool t)
  | .gtr => k = k' ∧ Bo (decide (x > y)) fun t => c (.bool t)
  | .leq => k = k' ∧ Bo (decide (x ≤ y)) fun t => c (.bool t)
  | .geq => k = k' ∧ Bo (decide (x ≥ y)) fun t => c (.bool t)
  | .eql => k = k' ∧ Bo (decide (x = y)) fun t => c (.bool t)
  | .neq => k = k' ∧ Bo (decide (x ≠ y)) fun t => c (.bool t)
  | .quo => k = k' ∧ y ≠ 0 ∧ Wr k (x.tdiv y) fun z => c (.int k z)
  | .rem => k = k' ∧ y ≠ 0 ∧ Eqz (x.tmod y) fun z => c (.int k z)
  | _ => False
 | .bool x, .bool y => match op with
  | .eql => isB = true ∧ Bo (x == y) fun t => c (.bool t)
  | .neq => isB = true ∧ Bo (x != y) fun t => c (.bool t)
  | _ => False
 | .str x, .str y => match op with
  | .add => CatS x y fun z => c (.str z)
  | .eql => Bo (x.toList == y.toList) fun t => c (.bool t)
  | .neq => Bo (!(x.toList == y.toList)) fun t => c (.bool t)
  | _ => False
 | _, _ => False

theorem binKF_le {isB : Bool} {op : BinOp} {a b : PL} {c : PL → Prop} (h : binKF isB op a b c) : binK isB op a b c := by
 unfold binKF at h
 split at h
 ·split at h
  ·obtain ⟨h1, ⟨z, h2, h3⟩⟩ := h; exact ⟨h1, z, h2, h3⟩
  ·obtain ⟨h1, ⟨z, h2, h3⟩⟩ := h; exact ⟨h1, z, h2, h3⟩
  ·obtain ⟨h1, ⟨z, h2, h3⟩⟩ := h; exact ⟨h1, z, h2, h3⟩
  ·obtain ⟨h1, ⟨z, h2, h3⟩⟩ := h; exact ⟨h1, z, h2, h3⟩
  ·obtain ⟨h1, ⟨z, h2, h3⟩⟩ := h; exact ⟨h1, z, h2, h3⟩
  ·obtain ⟨h1, ⟨z, h2, h3⟩⟩ := h; exact ⟨h1, z, h2, h3⟩
  ·obtain ⟨h1, ⟨z, h2, h3⟩⟩ := h; exact ⟨h1, z, h2, h3⟩
  ·obtain ⟨h1, ⟨z, h2, h3⟩⟩ := h; exact ⟨h1, z, h2, h3⟩
  ·obtain ⟨h1, ⟨z, h2, h3⟩⟩ := h; exact ⟨h1, z, h2, h3⟩
  ·obtain ⟨h1, ⟨z, h2, h3⟩⟩ := h; exact ⟨h1, z, h2, h3⟩
  ·obtain ⟨h1, ⟨z, h2, h3⟩⟩ := h; exact ⟨h1, z, h2, h3⟩
  ·obtain ⟨h1, ⟨z, h2, h3⟩⟩ := h; exact ⟨h1, z, h2, h3⟩
  ·obtain ⟨h1, ⟨z, h2, h3⟩⟩ := h; exact ⟨h1, z, h2, h3⟩
  ·obtain ⟨h1, h0, ⟨z, h2, h3⟩⟩ := h; exact ⟨h1, h0, z, h2, h3⟩
  ·obtain ⟨h1, h0, ⟨z, h2, h3⟩⟩ := h; exact ⟨h1, h0, z, h2, h3⟩
  ·exact h.elim
 ·split at h
  ·obtain ⟨h1, ⟨z, h2, h3⟩⟩ := h; exact ⟨h1, z, h2, h3⟩
  ·obtain ⟨h1, ⟨z, h2, h3⟩⟩ := h; exact ⟨h1, z, h2, h3⟩
  ·exact h.elim
 ·split at h
  ·obtain ⟨z, h1, h2, h3⟩ := h; exact ⟨h1, z, h2, h3⟩
  ·obtain ⟨z, h2, h3⟩ := h; exact ⟨z, h2, h3⟩
  ·obtain ⟨z, h2, h3⟩ := h; exact ⟨z, h2, h3⟩
  ·exact h.elim
 ·exact h.elim

/-- A slice's length, worked out. -/
def lenK (y : PL) (c : Nat → Prop) : Prop := match y with
 | .ints l => c l.length
 | .arr _ l => c l.length
 | .darr _ l => c l.length
 | _ => c 0
theorem lenK_eq {y : PL} {c : Nat → Prop} : lenK y c = c y.len := by cases y <;> rfl

def kidK (s : Lf) (n : Nat) (y : PL) (c : Lf → Prop) : Prop := match kidLf s n y with
 | some z => c z
 | none => False
theorem kidK_ex {s : Lf} {n : Nat} {y : PL} {c : Lf → Prop} (h : kidK s n y c) : ∃ z, kidLf s n y = some z ∧ c z := by
 unfold kidK at h
 split at h
 ·rename_i z hz; exact ⟨z, hz, h⟩
 ·exact h.elim
def kidKs (s : Lf) (n : Nat) (ys : List PL) (c : List Lf → Prop) : Prop := match kidLfs s n ys with
 | some z => c z
 | none => False
theorem kidKs_ex {s : Lf} {n : Nat} {ys : List PL} {c : List Lf → Prop} (h : kidKs s n ys c) : ∃ z, kidLfs s n ys = some z ∧ c z := by
 unfold kidKs at h
 split at h
 ·rename_i z hz; exact ⟨z, hz, h⟩
 ·exact h.elim
def YkF (Γ : Tab) (ei : TypeId) (Den : FuncId → List PV → Bool → Res → Prop) (o : Oper) (d : Nat) (ρ : Operand → FV) (k : FV → Prop) : Prop :=
 match o.op with
 | .move x => k (ρ x)
 | .assign x => k (ρ x)
 | .pick c a b => match ρ c with
  | .v false [.p (.bool t)] => Bo t fun t' => match t' with | true => k (ρ a) | false => k (ρ b)
  | _ => False
 | .alloc t => match Γ.get t with
  | some r => k (.box (d, 0) r.zero 0)
  | none => False
 | .box t x => match Γ.get t, ρ x with
  | some _, .v _ xs => k (.box (d, 0) xs 0)
  | _, _ => False
 | .load t x => match Γ.get t with
  | none => False
  | some r => match ρ x with
   | .box _ cs off => match r.cells with
    | some n => Nat.ble (off + n) cs.length = true ∧ k (.v true ((cs.drop off).take n))
    | none => Got cs[off]? fun y => k (.v false [y])
   | .elt s i off => match s.arr? with
    | some (.ints l) => match r.cells with
     | some _ => False
     | none => LdI l i fun z => off = 0 ∧ k (.v false [.p (.int .i64 z)])
    | some (.arr _ l) => LdR l i fun q => match r.cells with
     | some n => Nat.ble (off + n) q.length = true ∧ k (.v true (((q.drop off).take n).map .p))
     | none => Got q[off]? fun y => k (.v false [.p y])
    | some (.darr w l) => LdR l i fun q => match r.cells with
     | some n => Nat.ble (off + n) q.length = true ∧ kidKs s (i * w + off) ((q.drop off).take n) fun zs => k (.v true zs)
     | none => Got q[off]? fun y => kidK s (i * w + off) y fun z => k (.v false [z])
    | _ => False
   | .v false [.p (.pint z)] => match r.cells with
    | none => k (.v false [.p (.int .i64 z)])
    | some _ => False
   | _ => False
 | .binOp op t x y _ => match ρ x, ρ y with
  | .v false [.p a], .v false [.p b] => binKF (match Γ.get t with | some r => r.bool | none => false) op a b fun r => k (.v false [.p r])
  | _, _ => False
 | .unOp op _ x => match op, ρ x with
  | .not, .v false [.p (.bool b)] => Bo (!b) fun t => k (.v false [.p (.bool t)])
  | .neg, .v false [.p (.int kd z)] => Wr kd (-z) fun t => k (.v false [.p (.int kd t)])
  | _, _ => False
 | .fieldAddr s x f => match Γ.get s with
  | some ⟨_, .agg _ offs, _⟩ => match offs[f]? with
   | none => False
   | some q => match ρ x with
    | .box lab cs off => k (.box lab cs (off + q.1))
    | .elt l i off => k (.elt l i (off + q.1))
    | _ => False
  | _ => False
 | .field s x f => match Γ.get s with
  | some ⟨_, .agg _ offs, _⟩ => match offs[f]? with
   | none => False
   | some q => match ρ x with
    | .v true xs => match q.2 with
     | some n => Nat.ble (q.1 + n) xs.length = true ∧ k (.v true ((xs.drop q.1).take n))
     | none => Got xs[q.1]? fun y => k (.v false [y])
    | _ => False
  | _ => False
 | .indexAddr t x ix => match Γ.get t with
  | none => False
  | some r => match ρ x, ρ ix with
   | .v false [s], .v false [.p (.int _ z)] => match s.arr? with
    | some y => tyIdx r.ty y = true ∧ lenK y fun n => Idx z n fun i => k (.elt s i 0)
    | none => False
   | _, _ => False
 | .index t x ix => match Γ.get t, ρ x, ρ ix with
  | some r, .v false [.p (.str s)], .v false [.p (.int _ z)] => r.str = true ∧ IdxS s z fun b => k (.v false [.p (.int .u8 (b.toNat : Int))])
  | _, _, _ => False
 | .extract x j => match ρ x with
  | .tup vs => Got vs[j]? fun q => k (.v q.1 q.2)
  | _ => False
 | .call c => match c.callee with
  | .builtin .len => match c.args.toList, c.argTypes.toList with
   | [x], [t] => match Γ.get t, ρ x with
    | some r, .v false [.p (.str s)] => r.str = true ∧ k (.v false [.p (.int .i64 s.size)])
    | some r, .v false [s] => match s.arr? with
     | some y => r.sl = true ∧ lenK y fun n => k (.v false [.p (.int .i64 n)])
     | none => False
    | _, _ => False
   | _, _ => False
  | .builtin .max => match c.args.toList with
   | [x, y] => match ρ x, ρ y with
    | .v false [.p (.int kx u)], .v false [.p (.int _ v)] => Eqz (if v > u then v else u) fun z => k (.v false [.p (.int kx z)])
    | _, _ => False
   | _ => False
  | .value f => match (ρ f).fnc with
   | some (g, cs) => CallS Den g (c.args.toList.map ρ ++ cs) fun fl r => k (labelR ei d fl r)
   | none => False
  | _ => False
 | .build t parts => match Γ.get t with
  | some ⟨_, .agg _ offs, zero⟩ => match fillA offs (parts.toList.map fun q => (q.1, ρ q.2)) zero with
   | some cs => k (.v true cs)
   | none => False
  | _ => False
 | .slice t x lo hi mx => match mx with
  | some _ => False
  | none => match Γ.get t, ρ x with
   | some r, .v false [.p (.str s)] => r.str = true ∧ SubK (lo.map ρ) (hi.map ρ) s.size fun i j => Eqs (s.extract i j) fun z => k (.v false [.p (.str z)])
   | some r, .v false [.p y] => tyArr r.ty y = true ∧ lenK y fun n => SubK (lo.map ρ) (hi.map ρ) n fun i j => k (.v false [.p (y.sub i j)])
   | some r, .v false [.own lab e (.arr kk l)] => tyArr r.ty (.arr kk l) = true ∧ SubK (lo.map ρ) (hi.map ρ) l.length fun i j => i < l.length ∧ k (.sub (.own lab e (.arr kk l)) i j)
   | some r, .v false [.deep lab e kk l] => tyArr r.ty (.arr kk l) = true ∧ lo.isNone = true ∧ SubK none (hi.map ρ) l.length fun _ j => k (.v false [.deep lab e kk (l.take j)])
   | _, _ => False
 | .convert s d x => match Γ.get s, Γ.get d, ρ x with
  | some _, some ⟨_, .int kd, _⟩, .v false [.p (.int _ z)] => Wr kd z fun u => k (.v false [.p (.int kd u)])
  | some _, some ⟨_, .slice e _ _, _⟩, .v false [.p (.str s)] => (match Γ.get e with | some ⟨_, .int .u8, _⟩ => true | _ => false) = true ∧ s.size ≤ 1000000000000 ∧ k (.v false [.p (.arr 1 (byteRows s))])
  | some ⟨_, .slice e _ _, _⟩, some r, .v false [.p (.arr kk rows)] => (Nat.beq kk 1 && (r.str && (match Γ.get e with | some ⟨_, .int .u8, _⟩ => true | _ => false))) = true ∧ 0 < rows.length ∧ UnB rows fun str => k (.v false [.p (.str str)])
  | _, _, _ => False
 | .buildSlice t n parts => match Γ.get t with
  | some ⟨_, .ints, _⟩ => match intsA 0 (parts.toList.map fun q => (q.1, ρ q.2)) with
   | some zs => (Nat.beq n zs.length && Nat.ble n 1000) = true ∧ NewK fun lb => k (.v false [ownIf lb (d, 0) ei (.ints zs)])
   | none => False
  | some ⟨_, .slice e kk _, _⟩ => match rowsA kk 0 (parts.toList.map fun q => (q.1, ρ q.2)) with
   | some rows => (Nat.beq n rows.length && Nat.ble (n * kk) 1000) = true ∧ NewK fun lb => k (.v false [ownIf lb (d, 0) e (.arr kk rows)])
   | none => match parts.toList.map fun q => (q.1, ρ q.2) with
    | [(0, .v true xs)] => (Nat.beq n 1 && (Nat.beq xs.length kk && Nat.ble kk 1000)) = true ∧ k (.lit (d, 0) kk xs)
    | _ => False
  | _ => False
 | .makeSlice t l c => match Γ.get t, ρ l, ρ c with
  | some ⟨_, .ints, _⟩, .v false [.p (.int _ z)], .v false [.p (.int _ z')] => MakeK z z' fun n lb => k (.v false [ownIf lb (d, 0) ei (.ints (List.replicate n 0))])
  | some ⟨_, .slice e kk b, _⟩, .v false [.p (.int _ z)], .v false [.p (.int _ z')] => match Γ.get e with
   | some r => match unLs r.zero with
    | some zs => MakeR z z' b fun n lb => k (.v false [ownIf lb (d, 0) e (.arr kk (List.replicate n zs))])
    | none => False
   | none => False
  | _, _, _ => False
 | _ => False

theorem YkF_le {Γ : Tab} {ei : TypeId} {Den : FuncId → List PV → Bool → Res → Prop} {o : Oper} {ρ : Operand → FV} {k : FV → Prop} (h : YkF Γ ei Den o (o.dst.getD 0) ρ k) : Yk Γ ei Den o ρ k := by
 unfold YkF at h
 unfold Yk
 cases ho : o.op with
 | move x => simp only [ho] at h ⊢; exact h
 | assign x => simp only [ho] at h ⊢; exact h
 | pick c a b =>
  simp only [ho] at h ⊢
  split at h
  ·rename_i t h0
   simp only [h0]
   obtain ⟨t', h1, h2⟩ := h
   exact ⟨t', h1, by cases t' <;> exact h2⟩
  ·exact h.elim
 | alloc t => simp only [ho] at h ⊢; exact h
 | box t x => simp only [ho] at h ⊢; exact h
 | load t x =>
  simp only [ho] at h ⊢
  split at h
  ·exact h.elim
  ·rename_i r hr
   simp only [hr]
   split at h
   ·rename_i lab cs off hx
    simp only [hx]
    split at h
    ·rename_i n hn
     simp only [hn]
     exact h
    ·rename_i hn
     simp only [hn]
     obtain ⟨y, h1, h2⟩ := h
     exact ⟨y, h1, h2⟩
   ·rename_i s i off hx
    simp only [hx]
    split at h
    ·rename_i l hl
     simp only [hl]
     split at h
     ·exact h.elim
     ·rename_i hn
      simp only [hn]
      obtain ⟨y, h1, h0, h2⟩ := h
      exact ⟨y, h1, h0, h2⟩
    ·rename_i k' l hl
     simp only [hl]
     obtain ⟨q, h1, h2⟩ := h
     refine ⟨q, h1, ?_⟩
     split at h2
     ·rename_i n hn
      simp only [hn]
      exact h2
     ·rename_i hn
      simp only [hn]
      obtain ⟨y, h3, h4⟩ := h2
      exact ⟨y, h3, h4⟩
    ·rename_i k' l hl
     simp only [hl]
     obtain ⟨q, h1, h2⟩ := h
     refine ⟨q, h1, ?_⟩
     split at h2
     ·rename_i n hn
      simp only [hn]
      obtain ⟨z, h5, h6⟩ := kidKs_ex h2.2
      exact ⟨h2.1, z, h5, h6⟩
     ·rename_i hn
      simp only [hn]
      obtain ⟨y, h3, h4⟩ := h2
      obtain ⟨z, h5, h6⟩ := kidK_ex h4
      exact ⟨y, h3, z, h5, h6⟩
    ·exact h.elim
   ·rename_i z hx
    simp only [hx]
    split at h
    ·rename_i hn
     simp only [hn]
     exact h
    ·exact h.elim
   ·exact h.elim
 | binOp op t x y u =>
  simp only [ho] at h ⊢
  split at h
  ·rename_i p q h1 h2
   simp only [h1, h2]
   exact binKF_le h
  ·exact h.elim
 | unOp op t x =>
  simp only [ho] at h ⊢
  split at h
  ·rename_i b hx
   simp only [hx]
   obtain ⟨y, h1, h2⟩ := h
   exact ⟨y, h1, h2⟩
  ·rename_i kd z hx
   simp only [hx]
   obtain ⟨y, h1, h2⟩ := h
   exact ⟨y, h1, h2⟩
  ·exact h.elim
 | fieldAddr s x f => simp only [ho] at h ⊢; exact h
 | field s x f =>
  simp only [ho] at h ⊢
  split at h
  ·rename_i id n offs zero hr
   simp only [hr]
   split at h
   ·exact h.elim
   ·rename_i q hq
    simp only [hq]
    split at h
    ·rename_i xs hx
     simp only [hx]
     split at h
     ·rename_i n hn
      simp only [hn]
      exact h
     ·rename_i hn
      simp only [hn]
      obtain ⟨y, h1, h2⟩ := h
      exact ⟨y, h1, h2⟩
    ·exact h.elim
  ·exact h.elim
 | indexAddr t x ix =>
  simp only [ho] at h ⊢
  split at h
  ·exact h.elim
  ·rename_i r hr
   simp only [hr]
   split at h
   ·rename_i s kz z hx hz
    simp only [hx, hz]
    split at h
    ·rename_i y hy
     simp only [hy]
     obtain ⟨h1, h2⟩ := h
     rw [lenK_eq] at h2
     obtain ⟨i, h3, h4, h5⟩ := h2
     exact ⟨h1, i, h3, h4, h5⟩
    ·exact h.elim
   ·exact h.elim
 | index t x ix =>
  simp only [ho] at h ⊢
  split at h
  ·rename_i r s kz z hr hx hz
   simp only [hr, hx, hz]
   obtain ⟨h1, i, h2, b, h3, h4⟩ := h
   exact ⟨h1, i, h2, b, h3, h4⟩
  ·exact h.elim
 | extract x j =>
  simp only [ho] at h ⊢
  split at h
  ·rename_i vs hx
   simp only [hx]
   obtain ⟨y, h1, h2⟩ := h
   exact ⟨y, h1, h2⟩
  ·exact h.elim
 | call c =>
  simp only [ho] at h ⊢
  split at h
  ·rename_i hc
   simp only [hc]
   split at h
   ·rename_i x t hx ht
    simp only [hx, ht]
    split at h
    ·rename_i r s hr hs
     simp only [hr, hs]
     exact h
    ·rename_i r s _ hr hs
     simp only [hr, hs]
     split at h
     ·rename_i y hy
      simp only [hy]
      obtain ⟨h1, h2⟩ := h
      rw [lenK_eq] at h2
      exact ⟨h1, h2⟩
     ·exact h.elim
    ·exact h.elim
   ·exact h.elim
  ·rename_i hc
   simp only [hc]
   split at h
   ·rename_i x y hxy
    simp only [hxy]
    split at h
    ·rename_i kx u ky v hu hv
     simp only [hu, hv]
     obtain ⟨y, h1, h2⟩ := h
     exact ⟨y, h1, h2⟩
    ·exact h.elim
   ·exact h.elim
  ·rename_i f hc
   simp only [hc]
   split at h
   ·rename_i g cs hg
    simp only [hg]
    obtain ⟨ps, h1, fl, lb, r, h2, h3, h4⟩ := h
    exact ⟨ps, h1, fl, lb, r, h2, h3, h4⟩
   ·exact h.elim
  ·exact h.elim
 | build t parts => simp only [ho] at h ⊢; exact h
 | slice t x lo hi mx =>
  simp only [ho] at h ⊢
  split at h
  ·exact h.elim
  ·split at h
   ·rename_i r s hr hy
    simp only [hr, hy]
    obtain ⟨h1, i, j, g1, g2, g3, g4, z, g5, g6⟩ := h
    exact ⟨h1, i, j, g1, g2, g3, g4, z, g5, g6⟩
   ·rename_i r y _ hr hy
    simp only [hr, hy]
    obtain ⟨h1, h2⟩ := h
    rw [lenK_eq] at h2
    obtain ⟨i, j, g1, g2, g3, g4, g5⟩ := h2
    exact ⟨h1, i, j, g1, g2, g3, g4, g5⟩
   ·rename_i hr hy
    simp only [hr, hy]
    obtain ⟨h1, i, j, g1, g2, g3, g4, g5, g6⟩ := h
    exact ⟨h1, i, j, g1, g2, g3, g4, g5, g6⟩
   ·rename_i hr hy
    simp only [hr, hy]
    obtain ⟨h1, h0, i, j, g1, g2, g3, g4, g5⟩ := h
    exact ⟨h1, h0, i, j, g1, g2, g3, g4, g5⟩
   ·exact h.elim
 | convert s d x =>
  simp only [ho] at h ⊢
  split at h
  ·rename_i r id kd z0 kx z h1 h2 h3
   simp only [h1, h2, h3]
   obtain ⟨y, g1, g2⟩ := h
   exact ⟨y, g1, g2⟩
  ·rename_i r id e kk b z0 s h1 h2 h3
   simp only [h1, h2, h3]
   exact h
  ·rename_i id e kk0 b z0 r kk rows h1 h2 h3
   simp only [h1, h2, h3]
   obtain ⟨g1, g2, str, g3, g4⟩ := h
   exact ⟨g1, g2, str, g3, g4⟩
  ·exact h.elim
 | buildSlice t n parts =>
  simp only [ho] at h ⊢
  split at h
  ·rename_i id zero hr
   simp only [hr]
   split at h
   ·rename_i zs hz
    simp only [hz]
    obtain ⟨h1, h2⟩ := h
    obtain ⟨lb, h2⟩ := h2.ex
    exact ⟨h1, lb, h2⟩
   ·exact h.elim
  ·rename_i id e kk b zero hr
   simp only [hr]
   split at h
   ·rename_i zs hz
    simp only [hz]
    obtain ⟨h1, h2⟩ := h
    obtain ⟨lb, h2⟩ := h2.ex
    exact ⟨h1, lb, h2⟩
   ·rename_i hz
    simp only [hz]
    exact h
  ·exact h.elim
 | makeSlice t l c =>
  simp only [ho] at h ⊢
  split at h
  ·rename_i id zero kl z kc z' hr hl hc
   simp only [hr, hl, hc]
   obtain ⟨n, h1, h2, h3, lb, h4⟩ := h
   exact ⟨n, h1, h2, h3, lb, h4⟩
  ·rename_i id e kk b zero kl z kc z' hr hl hc
   simp only [hr, hl, hc]
   split at h
   ·rename_i r2 hr2
    simp only [hr2]
    split at h
    ·rename_i zs hzs
     simp only [hzs]
     obtain ⟨n, h1, h2, h3, lb, h4⟩ := h
     exact ⟨n, h1, h2, h3, lb, h4⟩
    ·exact h.elim
   ·exact h.elim
  ·exact h.elim
 | _ => simp only [ho] at h
end Go.Vx
end
