/- Q2, Q3 -/
import Derived.Test.YtpmgjmkobpeepaaGreatQGa
set_option linter.unusedVariables false
set_option linter.unusedSectionVars false
set_option linter.unusedSimpArgs false
section
/- Division of polynomials: what the two programs do. -/
namespace Go.Vx
open Go.Proofs
set_option maxRecDepth 100000

theorem goHN (n : Nat) {g : FuncId} {fn : Func} {c : Code} {ps : List PV} {k : Nat} {rows : List (List PL)} (hf : Tryz.prog.funcs[g]? = some fn) (hname : (fn.name == "runtime.NumGoroutine") = false)
  (hb : fn.body = some c) (hev : EVs Tryz.prog c (init fn.ntmps ps) fun e T' => fT (modT n (FV.nilTo (.own (60, 0) 41 (.arr 4 []))) T') (retKH Γ fn.results.toList 41 k rows e)) : Dh g ps 41 k rows :=
 den_introH tabΓ hf hname hb (EVs.post (hev.mono fun e T' hk => by
  rw [fT_eq] at hk
  exact ⟨_, Wk.le (modT_le (nilTo_le (d := .own (60, 0) 41 (.arr 4 [])) fun F β w => ⟨⟨rfl, PinR.low (by decide)⟩, .inl ⟨rfl, rfl⟩⟩)), hk⟩))
theorem cloneR_den (l : List (List PL)) (hl : l.length ≤ 1000) : Dh 90 [(false, [.arr 4 l])] 41 4 l := by
 refine goHN 2 Tryz.func90 rfl rfl ?_
 refine EVs.seq (go1 ?_)
 repeat refine vs ?_
 conv => whnf
 refine EVs.seq (EVs.seq ?_)
 refine EVs.nilTest (s := 0) (x := .arr 4 l) tabΓ rfl rfl rfl rfl rfl rfl rfl rfl rfl (by show 3 < 8; omega) ?_
 intro b hb
 refine go1 ?_
 cases b with
 | true =>
  have hb := hb rfl
  have : l = [] := List.eq_nil_of_length_eq_zero hb
  subst this
  repeat refine vs ?_
  conv => whnf
  exact ⟨(60, 0), rfl⟩
 | false =>
  repeat refine vs ?_
  conv => whnf
  refine go1 ?_
  repeat refine vs ?_
  conv => whnf
  refine NewK.mk true ?_
  repeat refine vs ?_
  conv => whnf
  refine NewK.mk true ?_
  repeat refine vs ?_
  conv => whnf
  exact ⟨_, rfl⟩

theorem scaledBy_den (p : List (Int × Int)) (b : Int × Int) (hl : p.length ≤ 100) (hp : okL 10000000000 p) (hb : okF 10000000000 b) (h0 : b.1 ≠ 0) : D 122 [(false, [.arr 4 (p.map cellR)]), ratV b.1 b.2] false (.one (false, [.arr 4 ((scaleF b p).map cellR)])) := by
 have hrl : (p.map cellR).length = p.length := by simp
 have hsl : (scaleF b p).length = p.length := scaleF_len
 refine go Tryz.func122 rfl rfl ?_
 repeat refine vs ?_
 conv => whnf
 refine NewK.mk true ?_
 repeat refine vs ?_
 conv => whnf
 refine EVs.loopU (fun i : Nat => i ≤ p.length) (fun i => p.length - i) (fun i => [(5, .v false [.own (50, 0) 41 (.arr 4 (((scaleF b p).take i).map cellR))]), (8, .any), (11, .v false [.p (.int .i64 (i : Int))])]) 0 (by omega) ?_ ?_
 ·refine Wk.trans (Wk.ren (8, 0) (50, 0)) ?_
  exact Wk.fg
 intro i hi
 refine go1 ?_
 repeat refine vs ?_
 conv => whnf
 by_cases h1 : (i : Int) < (p.map cellR).length
 ·have hlt : i < p.length := by omega
  have hc := hp p[i] (List.getElem_mem hlt)
  have hget : (p.map cellR)[i]? = some (cellR p[i]) := by rw [List.getElem?_map, List.getElem?_eq_getElem hlt]; rfl
  have htk := take_cellR (fs := scaleF b p) (i := i) (by omega)
  have he : (scaleF b p)[i]'(by omega) = divR p[i] b := by simp [scaleF]
  rw [he] at htk
  generalize p[i] = c at *
  have dD := divR_I (a := c) (b := b) (hc.mono (by omega)) (hb.mono (by omega)) h0
  generalize divR c b = m at *
  have hrow : ((scaleF b p).take i).map cellR ++ [[.bool (decide (m.1 < 0)), .ints (Lm.lim m.1.natAbs), .bool (decide (m.2 < 0)), .ints (Lm.lim m.2.natAbs)]] = ((scaleF b p).take (i + 1)).map cellR := htk.symm
  repeat refine vs ?_
  conv => whnf
  first | refine Idx.mk (i) (by first | rfl | omega) (by omega) ?_ | skip
  repeat refine vs ?_
  conv => whnf
  refine LdR.mk (cellR c) hget ?_
  repeat refine vs ?_
  conv => whnf
  refine CallS.mk _ rfl true false _ (dD) rfl ?_
  repeat refine vs ?_
  conv => whnf
  refine NewK.mk false ?_
  repeat refine vs ?_
  conv => whnf
  refine ⟨by simp only [PL.len, List.length_map, List.length_take, List.length_singleton]; omega, ?_⟩
  repeat refine vs ?_
  conv => whnf
  refine NewK.mk true ?_
  repeat refine vs ?_
  conv => whnf
  rw [hrow]
  refine ⟨i + 1, by omega, by omega, ?_⟩
  exact Wk.fg
 ·repeat refine vs ?_
  conv => whnf
  have ht : (scaleF b p).take i = scaleF b p := List.take_of_length_le (by omega)
  rw [ht]
  first | rfl | exact ⟨rfl, rfl⟩ | exact ⟨by simp [toRes], rfl⟩
theorem monic_den (p : List (Int × Int)) (hl : p.length ≤ 100) (hp : okL 10000000000 p) (ht : topF p) : D 113 [(false, [.arr 4 (p.map cellR)])] false (.one (false, [.arr 4 ((monicF p).map cellR)])) := by
 have hrl : (p.map cellR).length = p.length := by simp
 refine go Tryz.func113 rfl rfl ?_
 repeat refine vs ?_
 conv => whnf
 by_cases h1 : ((p.map cellR).length : Int) = 0
 ·have : p = [] := List.length_eq_zero_iff.1 (by omega)
  subst this
  repeat refine vs ?_
  conv => whnf
  first | rfl | exact ⟨rfl, rfl⟩ | exact ⟨by simp [toRes], rfl⟩
 ·have hpn : p ≠ [] := fun e => by rw [e] at h1; exact h1 rfl
  have dS := scaledBy_den p (p.getD (p.length - 1) (0, 1)) hl hp (getD_ok hp _ (by omega)) (ht hpn)
  have hg := getD_cell (l := p) (i := p.length - 1) (by omega)
  unfold monicF
  generalize p.getD (p.length - 1) (0, 1) = b at *
  repeat refine vs ?_
  conv => whnf
  first | refine Idx.mk ((p.length - 1)) (by first | rfl | omega) (by omega) ?_ | skip
  repeat refine vs ?_
  conv => whnf
  refine LdR.mk (cellR b) hg ?_
  repeat refine vs ?_
  conv => whnf
  refine CallS.mk _ rfl false false _ (dS) rfl ?_
  repeat refine vs ?_
  conv => whnf
  first | rfl | exact ⟨rfl, rfl⟩ | exact ⟨by simp [toRes], rfl⟩
theorem l4Monic_den (p : List (Int × Int)) (hl : p.length ≤ 100) (hp : okL 10000000000 p) (ht : topF p) : D 112 [(false, [.arr 4 (p.map cellR)])] false (.one (false, [.arr 4 ((monicF p).map cellR)])) := by
 have hrl : (p.map cellR).length = p.length := by simp
 have hsl : (monicF p).length = p.length := monicF_len
 refine goP 3 Tryz.func112 rfl rfl ?_
 repeat refine vs ?_
 conv => whnf
 refine EVs.loopU (fun i : Nat => i ≤ p.length) (fun i => p.length - i) (fun i => [(3, .v false [.own (50, 0) 41 (.arr 4 (((monicF p).take i).map cellR))]), (8, .v false [.p (.int .i64 (i : Int))])]) 0 (by omega) ?_ ?_
 ·exact Wk.fg
 intro i hi
 refine go1 ?_
 repeat refine vs ?_
 conv => whnf
 by_cases h1 : (i : Int) < (p.map cellR).length
 ·have hlt : i < p.length := by omega
  have hpn : p ≠ [] := fun e => by rw [e] at hlt; simp at hlt
  have hc := hp p[i] (List.getElem_mem hlt)
  have hget : (p.map cellR)[i]? = some (cellR p[i]) := by rw [List.getElem?_map, List.getElem?_eq_getElem hlt]; rfl
  have htk := take_cellR (fs := monicF p) (i := i) (by omega)
  have he : (monicF p)[i]'(by omega) = divR p[i] (p.getD (p.length - 1) (0, 1)) := by simp [monicF, scaleF]
  rw [he] at htk
  have hb := getD_ok hp (p.length - 1) (by omega)
  have h0 := ht hpn
  have hg := getD_cell (l := p) (i := p.length - 1) (by omega)
  generalize p[i] = c at *
  generalize p.getD (p.length - 1) (0, 1) = b at *
  have dD := divR_S (a := c) (b := b) (hc.mono (by omega)) (hb.mono (by omega)) h0
  generalize divR c b = m at *
  have hrow : ((monicF p).take i).map cellR ++ [[.bool (decide (m.1 < 0)), .ints (Lm.lim m.1.natAbs), .bool (decide (m.2 < 0)), .ints (Lm.lim m.2.natAbs)]] = ((monicF p).take (i + 1)).map cellR := htk.symm
  repeat refine vs ?_
  conv => whnf
  first | refine Idx.mk (i) (by first | rfl | omega) (by omega) ?_ | skip
  repeat refine vs ?_
  conv => whnf
  refine LdR.mk (cellR c) hget ?_
  repeat refine vs ?_
  conv => whnf
  first | refine Idx.mk ((p.length - 1)) (by first | rfl | omega) (by omega) ?_ | skip
  repeat refine vs ?_
  conv => whnf
  refine LdR.mk (cellR b) hg ?_
  repeat refine vs ?_
  conv => whnf
  refine CallS.mk _ rfl true false _ (dD) rfl ?_
  repeat refine vs ?_
  conv => whnf
  refine NewK.mk false ?_
  repeat refine vs ?_
  conv => whnf
  refine ⟨by simp only [PL.len, List.length_map, List.length_take, List.length_singleton]; omega, ?_⟩
  repeat refine vs ?_
  conv => whnf
  refine NewK.mk true ?_
  repeat refine vs ?_
  conv => whnf
  rw [hrow]
  refine ⟨i + 1, by omega, by omega, ?_⟩
  exact Wk.fg
 ·have ht : (monicF p).take i = monicF p := List.take_of_length_le (by omega)
  rw [ht]
  repeat refine vs ?_
  conv => whnf
  first | rfl | exact ⟨rfl, rfl⟩ | exact ⟨by simp [toRes], rfl⟩
end Go.Vx
end
section
/- Division of polynomials: the program's, the reference's. -/
namespace Go.Vx
open Go.Proofs
set_option maxRecDepth 100000

theorem okAt_sub {K L M N j : Nat} {out : List (Int × Int)} {d b : Int × Int} (h : okAt K L j out) (hj : j < out.length) (hd : okF M d) (hb : okF N b) (hL : K + (M + N) + 1 ≤ L) : okAt K L (j + 1) (out.set j (subR (out.getD j (0, 1)) (mulR d b))) := by
 intro t f hf
 rw [List.getElem?_set] at hf
 split at hf
 ·rename_i e
  subst e
  cases hf
  rw [if_pos (by omega)]
  have h1 := h j out[j] (List.getElem?_eq_getElem hj)
  rw [if_neg (by omega)] at h1
  have e : out.getD j (0, 1) = out[j] := by simp [List.getD, hj]
  rw [e]
  exact (subR_ok h1 (mulR_ok hd hb)).mono hL
 ·rename_i e
  have h1 := h t f hf
  by_cases c : t < j
  ·rw [if_pos c] at h1
   rw [if_pos (by omega)]
   exact h1
  ·rw [if_neg c] at h1
   rw [if_neg (by omega)]
   exact h1

section
variable (p q : List (Int × Int)) (R B : Nat) (hpl : p.length ≤ 100) (hql : q.length ≤ 100) (hp : okL R p) (hq : okL B q) (hq0 : q ≠ []) (h0 : (q.getD (q.length - 1) (0, 1)).1 ≠ 0) (hS : szD B (p.length + 1 - q.length) R + B + 4 ≤ 1000000000)
include hpl hql hp hq hq0 h0 hS
set_option maxHeartbeats 8000000 in
theorem divided_den : D 42 [(false, [.arr 4 (p.map cellR)]), (false, [.arr 4 (q.map cellR)])] false (.tup [(false, [.arr 4 ((trimF (divF p q).1).map cellR)]), (false, [.arr 4 ((trimF (divF p q).2).map cellR)])]) := by
 have hqp : 0 < q.length := List.length_pos_iff.2 hq0
 have hrl : (p.map cellR).length = p.length := by simp
 have hrl2 : (q.map cellR).length = q.length := by simp
 have hdo := divF_ok hp hq hq0 h0
 have hdl : (divF p q).1.length = p.length + 1 - q.length ∧ (divF p q).2.length = p.length := by unfold divF; rw [divL_len.1, divL_len.2]; simp
 have dT1 := trim_den (divF p q).1 (by omega) (fun f hf => (hdo.1 f hf).mono (by omega))
 have dT2 := trim_den (divF p q).2 (by omega) (fun f hf => (hdo.2 f hf).mono (by omega))
 have d0 := whole_R 0 (by omega) (by omega)
 have hge := szD_ge B (p.length + 1 - q.length) R
 refine go Tryz.func42 rfl rfl ?_
 repeat refine vs ?_
 conv => whnf
 refine CallM.sh rfl _ rfl rfl _ _ _ (cloneR_den (p.map cellR) (by omega)) ?_
 repeat refine vs ?_
 conv => whnf
 refine CallS.mk _ rfl true false _ (whole_den 0 (by omega) (by omega)) rfl ?_
 repeat refine vs ?_
 conv => whnf
 refine NewK.mk false ?_
 repeat refine vs ?_
 conv => whnf
 refine Eqz.mk ((p.length + 1 - q.length : Nat) : Int) (by rw [hrl, hrl2]; split <;> omega) ?_
 repeat refine vs ?_
 conv => whnf
 refine CallM.sh rfl _ rfl rfl _ _ _ (repeat_den (cellR (0, 1)) (p.length + 1 - q.length) (by omega)) ?_
 repeat refine vs ?_
 conv => whnf
 refine EVs.un (1000013, 0) ?_
 refine EVs.un (1000024, 0) ?_
 refine EVs.loopU (fun s : Int × Nat × List (Int × Int) × List (Int × Int) => -1 ≤ s.1 ∧ s.1 + 1 ≤ (p.length + 1 - q.length : Nat) ∧ szD B (s.1 + 1).toNat s.2.1 ≤ szD B (p.length + 1 - q.length) R ∧ s.2.2.1.length = p.length + 1 - q.length ∧ s.2.2.2.length = p.length ∧ okL s.2.1 s.2.2.2 ∧ divL q (s.1 + 1).toNat s.2.2 = divF p q) (fun s => (s.1 + 1).toNat)
  (fun | (k, _, o, r) => [(6, .v false [.own (1000013, 0) 41 (.arr 4 (r.map cellR))]), (13, .any), (8, .v false [.own (1000024, 0) 41 (.arr 4 (o.map cellR))]), (24, .any), (25, .any), (9, .v false [.p (.int .i64 k)])]) (((p.length + 1 - q.length : Nat) : Int) - 1, R, List.replicate (p.length + 1 - q.length) (0, 1), p) ⟨by dsimp only; omega, by dsimp only; omega, by dsimp only; rw [show (((p.length + 1 - q.length : Nat) : Int) - 1 + 1).toNat = p.length + 1 - q.length by omega]; exact Nat.le_refl _, by simp, rfl, hp, by dsimp only; rw [show (((p.length + 1 - q.length : Nat) : Int) - 1 + 1).toNat = p.length + 1 - q.length by omega]; rfl⟩ ?_ ?_
 ·have e : (List.replicate (p.length + 1 - q.length) ((0, 1) : Int × Int)).map cellR = List.replicate (p.length + 1 - q.length) (cellR (0, 1)) := List.map_replicate
  rw [List.length_replicate, ← e]
  exact Wk.fg
 rintro ⟨k, W, o, r⟩ ⟨hk0, hk1, hW, hol, hrl3, hro, hinv⟩
 dsimp only at hk0 hk1 hW hol hrl3 hro hinv
 refine go1 ?_
 repeat refine vs ?_
 conv => whnf
 by_cases hk : k ≥ 0
 ·obtain ⟨i, rfl⟩ : ∃ i : Nat, k = (i : Int) := ⟨k.toNat, by omega⟩
  rw [show ((i : Int) + 1).toNat = i + 1 by omega] at hinv hW
  have hge2 := szD_ge B i (2 * W + 2 * B + 1)
  have hW' : szD B i (2 * W + 2 * B + 1) ≤ szD B (p.length + 1 - q.length) R := hW
  have gr := getD_cell (l := r) (i := i + q.length - 1) (by omega)
  have gq := getD_cell (l := q) (i := q.length - 1) (by omega)
  have ho1 := getD_ok hro (i + q.length - 1) (by omega)
  have ho2 := getD_ok hq (q.length - 1) (by omega)
  have hinv2 : divL q i (o.set i (divR (r.getD (i + q.length - 1) (0, 1)) (q.getD (q.length - 1) (0, 1))), subRow r i (divR (r.getD (i + q.length - 1) (0, 1)) (q.getD (q.length - 1) (0, 1))) q) = divF p q := hinv
  have dD := divR_I (a := r.getD (i + q.length - 1) (0, 1)) (b := q.getD (q.length - 1) (0, 1)) (ho1.mono (by omega)) (ho2.mono (by omega)) h0
  have hd := divR_ok ho1 ho2 h0
  generalize r.getD (i + q.length - 1) (0, 1) = x at *
  generalize q.getD (q.length - 1) (0, 1) = y at *
  have hset := set_cell (l := o) (i := i) (f := divR x y)
  have hol2 : (o.set i (divR x y)).length = p.length + 1 - q.length := by rw [List.length_set]; exact hol
  have god : ((o.set i (divR x y)).map cellR)[i]? = some (cellR (divR x y)) := by rw [List.getElem?_map, List.getElem?_set_self (by omega)]; rfl
  generalize divR x y = d at *
  have hrc : (r.map cellR).length = p.length := by rw [List.length_map]; exact hrl3
  have hoc : (o.map cellR).length = p.length + 1 - q.length := by rw [List.length_map]; exact hol
  repeat refine vs ?_
  conv => whnf
  first | refine Idx.mk ((i + q.length - 1)) (by first | rfl | omega) (by omega) ?_ | skip
  repeat refine vs ?_
  conv => whnf
  refine LdR.mk (cellR x) gr ?_
  repeat refine vs ?_
  conv => whnf
  first | refine Idx.mk ((q.length - 1)) (by first | rfl | omega) (by omega) ?_ | skip
  repeat refine vs ?_
  conv => whnf
  refine LdR.mk (cellR y) gq ?_
  repeat refine vs ?_
  conv => whnf
  refine CallS.mk _ rfl true false _ (dD) rfl ?_
  repeat refine vs ?_
  conv => whnf
  have hs2 : (o.map cellR).set i [.bool (decide (d.1 < 0)), .ints (Lm.lim d.1.natAbs), .bool (decide (d.2 < 0)), .ints (Lm.lim d.2.natAbs)] = (o.set i d).map cellR := hset
  rw [hs2]
  refine EVs.loopU (fun s : Nat × List (Int × Int) => s.1 ≤ q.length ∧ s.2.length = p.length ∧ okAt W (2 * W + 2 * B + 1) (i + s.1) s.2 ∧ subRow s.2 (i + s.1) d (q.drop s.1) = subRow r i d q) (fun s => q.length - s.1)
   (fun | (j, m) => [(6, .v false [.own (1000013, 0) 41 (.arr 4 (m.map cellR))]), (50, .v false [.p (.int .i64 (j : Int))]), (34, .any), (32, .any), (39, .any)]) (0, r) ⟨by dsimp only; omega, hrl3, okAt_of hro (by omega), by rw [List.drop_zero]; rfl⟩ Wk.fg ?_
  rintro ⟨j, m⟩ ⟨hj, hml, hmo, hjnv⟩
  dsimp only at hj hml hmo hjnv
  refine go1 ?_
  repeat refine vs ?_
  conv => whnf
  by_cases h2 : (j : Int) < (q.map cellR).length
  ·have hjt : j < q.length := by omega
   have hb := hq q[j] (List.getElem_mem hjt)
   have gb : (q.map cellR)[j]? = some (cellR q[j]) := by rw [List.getElem?_map, List.getElem?_eq_getElem hjt]; rfl
   have hd2 : q.drop j = q[j] :: q.drop (j + 1) := List.drop_eq_getElem_cons hjt
   rw [hd2] at hjnv
   generalize q[j] = b at *
   have hst := okAt_sub hmo (by omega) hd hb (by omega)
   have gm := getD_cell (l := m) (i := i + j) (by omega)
   have hmo1 := hmo (i + j) (m.getD (i + j) (0, 1)) (by simp [List.getD, show i + j < m.length by omega])
   rw [if_neg (by omega)] at hmo1
   have hjnv2 : subRow (m.set (i + j) (subR (m.getD (i + j) (0, 1)) (mulR d b))) (i + j + 1) d (q.drop (j + 1)) = subRow r i d q := hjnv
   have hset3 := set_cell (l := m) (i := i + j) (f := subR (m.getD (i + j) (0, 1)) (mulR d b))
   have hlen2 : (m.set (i + j) (subR (m.getD (i + j) (0, 1)) (mulR d b))).length = p.length := by rw [List.length_set]; exact hml
   generalize m.getD (i + j) (0, 1) = c at *
   have dM := mulR_I (a := d) (b := b) (hd.mono (by omega)) (hb.mono (by omega))
   have hm2 := mulR_ok hd hb
   have dA := subR_I (a := c) (b := mulR d b) (hmo1.mono (by omega)) (hm2.mono (by omega))
   generalize mulR d b = u at *
   generalize subR c u = e at *
   have hmc : (m.map cellR).length = p.length := by rw [List.length_map]; exact hml
   have hs4 : (m.map cellR).set (i + j) [.bool (decide (e.1 < 0)), .ints (Lm.lim e.1.natAbs), .bool (decide (e.2 < 0)), .ints (Lm.lim e.2.natAbs)] = (m.set (i + j) e).map cellR := hset3
   have hodc : ((o.set i d).map cellR).length = p.length + 1 - q.length := by rw [List.length_map]; exact hol2
   repeat refine vs ?_
   conv => whnf
   first | refine Idx.mk (j) (by first | rfl | omega) (by omega) ?_ | skip
   repeat refine vs ?_
   conv => whnf
   refine LdR.mk (cellR b) gb ?_
   repeat refine vs ?_
   conv => whnf
   first | refine Idx.mk ((i + j)) (by first | rfl | omega) (by omega) ?_ | skip
   repeat refine vs ?_
   conv => whnf
   refine LdR.mk (cellR c) gm ?_
   repeat refine vs ?_
   conv => whnf
   first | refine Idx.mk (i) (by first | rfl | omega) (by omega) ?_ | skip
   repeat refine vs ?_
   conv => whnf
   refine LdR.mk (cellR d) god ?_
   repeat refine vs ?_
   conv => whnf
   refine CallS.mk _ rfl true false _ (dM) rfl ?_
   repeat refine vs ?_
   conv => whnf
   refine CallS.mk _ rfl true false _ (dA) rfl ?_
   repeat refine vs ?_
   conv => whnf
   rw [hs4]
   refine ⟨(j + 1, m.set (i + j) e), by dsimp only; omega, ⟨by dsimp only; omega, hlen2, hst, hjnv2⟩, ?_⟩
   exact Wk.fg
  ·have hjq : j = q.length := by omega
   subst hjq
   rw [List.drop_length] at hjnv
   have hjnv2 : m = subRow r i d q := hjnv
   rw [← hjnv2] at hinv2
   repeat refine vs ?_
   conv => whnf
   refine ⟨((i : Int) - 1, 2 * W + 2 * B + 1, o.set i d, m), by dsimp only; omega, ⟨by dsimp only; omega, by dsimp only; omega, by dsimp only; rw [show ((i : Int) - 1 + 1).toNat = i by omega]; exact hW', hol2, hml, hmo.all (by omega), by dsimp only; rw [show ((i : Int) - 1 + 1).toNat = i by omega]; exact hinv2⟩, ?_⟩
   exact Wk.fg
 ·have : k = -1 := by omega
  subst this
  have hinv2 : (o, r) = divF p q := hinv
  have e1 : o = (divF p q).1 := by rw [← hinv2]
  have e2 : r = (divF p q).2 := by rw [← hinv2]
  rw [e1, e2]
  repeat refine vs ?_
  conv => whnf
  refine CallM.rd _ rfl _ (goE (dT1)) (.inr rfl) ?_
  repeat refine vs ?_
  conv => whnf
  refine CallM.rd _ rfl _ (goE (dT2)) (.inr rfl) ?_
  repeat refine vs ?_
  conv => whnf
  first | rfl | exact ⟨rfl, rfl⟩ | exact ⟨by simp [toRes], rfl⟩
set_option maxHeartbeats 8000000 in
theorem l4Div_den : D 39 [(false, [.arr 4 (p.map cellR)]), (false, [.arr 4 (q.map cellR)])] false (.tup [(false, [.arr 4 ((trimF (divF p q).1).map cellR)]), (false, [.arr 4 ((trimF (divF p q).2).map cellR)])]) := by
 have hqp : 0 < q.length := List.length_pos_iff.2 hq0
 have hrl : (p.map cellR).length = p.length := by simp
 have hrl2 : (q.map cellR).length = q.length := by simp
 have hdo := divF_ok hp hq hq0 h0
 have hdl : (divF p q).1.length = p.length + 1 - q.length ∧ (divF p q).2.length = p.length := by unfold divF; rw [divL_len.1, divL_len.2]; simp
 -- the quotient has more room
 have d0 := whole_R 0 (by omega) (by omega)
 have hrest : p.length = (p.length + 1 - q.length) + (p.length - (p.length + 1 - q.length)) := by omega
 have hroom : divL q (p.length + 1 - q.length) (List.replicate p.length (0, 1), p) = ((divF p q).1 ++ List.replicate (p.length - (p.length + 1 - q.length)) (0, 1), (divF p q).2) := by
  conv => lhs; rw [show List.replicate p.length ((0, 1) : Int × Int) = List.replicate (p.length + 1 - q.length) (0, 1) ++ List.replicate (p.length - (p.length + 1 - q.length)) (0, 1) by rw [List.replicate_append_replicate]; congr 1]
  rw [divL_room (by simp)]
  rfl
 have dT1 := l4Cut_den ((divF p q).1 ++ List.replicate (p.length - (p.length + 1 - q.length)) (0, 1)) (by rw [List.length_append, List.length_replicate]; omega) (fun f hf => by
  rcases List.mem_append.1 hf with hf | hf
  ·exact (hdo.1 f hf).mono (by omega)
  ·rw [List.mem_replicate] at hf
   rw [hf.2]
   exact d0.mono (by omega))
 rw [trimF_room] at dT1
 have dT2 := l4Cut_den (divF p q).2 (by omega) (fun f hf => (hdo.2 f hf).mono (by omega))
 have hge := szD_ge B (p.length + 1 - q.length) R
 refine go Tryz.func39 rfl rfl ?_
 repeat refine vs ?_
 conv => whnf
 refine NewK.mk true ?_
 repeat refine vs ?_
 conv => whnf
 refine NewK.mk true ?_
 repeat refine vs ?_
 conv => whnf
 refine EVs.loopU (fun i : Nat => i ≤ p.length) (fun i => p.length - i) (fun i => [(7, .v false [.own (95, 0) 41 (.arr 4 ((List.replicate i ((0, 1) : Int × Int)).map cellR))]), (8, .v false [.p (.int .i64 (i : Int))])]) 0 (by omega) ?_ ?_
 ·exact Wk.fg
 intro i hi
 have hln : ((List.replicate i ((0, 1) : Int × Int)).map cellR).length = i := by simp
 have hrow : (List.replicate i ((0, 1) : Int × Int)).map cellR ++ [[.bool (decide ((0 : Int) < 0)), .ints (Lm.lim (0 : Int).natAbs), .bool (decide ((1 : Int) < 0)), .ints (Lm.lim (1 : Int).natAbs)]] = (List.replicate (i + 1) ((0, 1) : Int × Int)).map cellR := by
  rw [List.replicate_succ', List.map_append]; rfl
 refine go1 ?_
 repeat refine vs ?_
 conv => whnf
 by_cases h1 : (i : Int) < (p.map cellR).length
 ·repeat refine vs ?_
  conv => whnf
  refine CallS.mk _ rfl true false _ (l2Int_den 0 (by omega) (by omega)) rfl ?_
  repeat refine vs ?_
  conv => whnf
  refine NewK.mk false ?_
  repeat refine vs ?_
  conv => whnf
  refine NewK.mk true ?_
  repeat refine vs ?_
  conv => whnf
  rw [hrow]
  refine ⟨i + 1, by omega, by omega, ?_⟩
  exact Wk.fg
 ·have : i = p.length := by omega
  subst this
  repeat refine vs ?_
  conv => whnf
  refine EVs.un (13, 0) ?_
  refine EVs.un (95, 0) ?_
  refine EVs.loopU (fun s : Int × Nat × List (Int × Int) × List (Int × Int) => (s.1 + 1 ≤ (p.length + 1 - q.length : Nat) ∨ s.1 < 0) ∧ szD B (s.1 + 1).toNat s.2.1 ≤ szD B (p.length + 1 - q.length) R ∧ s.2.2.1.length = p.length ∧ s.2.2.2.length = p.length ∧ okL s.2.1 s.2.2.2 ∧ divL q (s.1 + 1).toNat s.2.2 = ((divF p q).1 ++ List.replicate (p.length - (p.length + 1 - q.length)) (0, 1), (divF p q).2)) (fun s => (s.1 + 1).toNat)
   (fun | (k, _, o, r) => [(6, .v false [.own (13, 0) 41 (.arr 4 (r.map cellR))]), (13, .any), (15, .any), (7, .v false [.own (95, 0) 41 (.arr 4 (o.map cellR))]), (9, .v false [.p (.int .i64 k)])]) ((p.length : Int) - (q.length : Int), R, List.replicate p.length (0, 1), p) ⟨by dsimp only; omega, by dsimp only; rw [show ((p.length : Int) - (q.length : Int) + 1).toNat = p.length + 1 - q.length by omega]; exact Nat.le_refl _, by simp, rfl, hp, by dsimp only; rw [show ((p.length : Int) - (q.length : Int) + 1).toNat = p.length + 1 - q.length by omega]; exact hroom⟩ ?_ ?_
  ·rw [hrl, hrl2]
   exact Wk.fg
  rintro ⟨k, W, o, r⟩ ⟨hk1, hW, hol, hrl3, hro, hinv⟩
  dsimp only at hk1 hW hol hrl3 hro hinv
  refine go1 ?_
  repeat refine vs ?_
  conv => whnf
  by_cases hk : k ≥ 0
  ·obtain ⟨i, rfl⟩ : ∃ i : Nat, k = (i : Int) := ⟨k.toNat, by omega⟩
   rw [show ((i : Int) + 1).toNat = i + 1 by omega] at hinv hW
   have hge2 := szD_ge B i (2 * W + 2 * B + 1)
   have hW' : szD B i (2 * W + 2 * B + 1) ≤ szD B (p.length + 1 - q.length) R := hW
   have gr := getD_cell (l := r) (i := i + q.length - 1) (by omega)
   have gq := getD_cell (l := q) (i := q.length - 1) (by omega)
   have ho1 := getD_ok hro (i + q.length - 1) (by omega)
   have ho2 := getD_ok hq (q.length - 1) (by omega)
   have hinv2 : divL q i (o.set i (divR (r.getD (i + q.length - 1) (0, 1)) (q.getD (q.length - 1) (0, 1))), subRow r i (divR (r.getD (i + q.length - 1) (0, 1)) (q.getD (q.length - 1) (0, 1))) q) = ((divF p q).1 ++ List.replicate (p.length - (p.length + 1 - q.length)) (0, 1), (divF p q).2) := hinv
   have dD := divR_S (a := r.getD (i + q.length - 1) (0, 1)) (b := q.getD (q.length - 1) (0, 1)) (ho1.mono (by omega)) (ho2.mono (by omega)) h0
   have hd := divR_ok ho1 ho2 h0
   generalize r.getD (i + q.length - 1) (0, 1) = x at *
   generalize q.getD (q.length - 1) (0, 1) = y at *
   have hset := set_cell (l := o) (i := i) (f := divR x y)
   have hol2 : (o.set i (divR x y)).length = p.length := by rw [List.length_set]; exact hol
   generalize divR x y = d at *
   have hrc : (r.map cellR).length = p.length := by rw [List.length_map]; exact hrl3
   have hoc : (o.map cellR).length = p.length := by rw [List.length_map]; exact hol
   have hs2 : (o.map cellR).set i [.bool (decide (d.1 < 0)), .ints (Lm.lim d.1.natAbs), .bool (decide (d.2 < 0)), .ints (Lm.lim d.2.natAbs)] = (o.set i d).map cellR := hset
   repeat refine vs ?_
   conv => whnf
   first | refine Idx.mk ((i + q.length - 1)) (by first | rfl | omega) (by omega) ?_ | skip
   repeat refine vs ?_
   conv => whnf
   refine LdR.mk (cellR x) gr ?_
   repeat refine vs ?_
   conv => whnf
   first | refine Idx.mk ((q.length - 1)) (by first | rfl | omega) (by omega) ?_ | skip
   repeat refine vs ?_
   conv => whnf
   refine LdR.mk (cellR y) gq ?_
   repeat refine vs ?_
   conv => whnf
   refine CallS.mk _ rfl true false _ (dD) rfl ?_
   repeat refine vs ?_
   conv => whnf
   rw [hs2]
   refine EVs.loopU (fun s : Nat × List (Int × Int) => s.1 ≤ q.length ∧ s.2.length = p.length ∧ okAt W (2 * W + 2 * B + 1) (i + s.1) s.2 ∧ subRow s.2 (i + s.1) d (q.drop s.1) = subRow r i d q) (fun s => q.length - s.1)
    (fun | (j, m) => [(6, .v false [.own (13, 0) 41 (.arr 4 (m.map cellR))]), (56, .v false [.p (.int .i64 (j : Int))]), (35, .any), (41, .any)]) (0, r) ⟨by dsimp only; omega, hrl3, okAt_of hro (by omega), by rw [List.drop_zero]; rfl⟩ Wk.fg ?_
   rintro ⟨j, m⟩ ⟨hj, hml, hmo, hjnv⟩
   dsimp only at hj hml hmo hjnv
   refine go1 ?_
   repeat refine vs ?_
   conv => whnf
   by_cases h2 : (j : Int) < (q.map cellR).length
   ·have hjt : j < q.length := by omega
    have hb := hq q[j] (List.getElem_mem hjt)
    have gb : (q.map cellR)[j]? = some (cellR q[j]) := by rw [List.getElem?_map, List.getElem?_eq_getElem hjt]; rfl
    have hd2 : q.drop j = q[j] :: q.drop (j + 1) := List.drop_eq_getElem_cons hjt
    rw [hd2] at hjnv
    generalize q[j] = b at *
    have hst := okAt_sub hmo (by omega) hd hb (by omega)
    have gm := getD_cell (l := m) (i := i + j) (by omega)
    have hmo1 := hmo (i + j) (m.getD (i + j) (0, 1)) (by simp [List.getD, show i + j < m.length by omega])
    rw [if_neg (by omega)] at hmo1
    have hjnv2 : subRow (m.set (i + j) (subR (m.getD (i + j) (0, 1)) (mulR d b))) (i + j + 1) d (q.drop (j + 1)) = subRow r i d q := hjnv
    have hset3 := set_cell (l := m) (i := i + j) (f := subR (m.getD (i + j) (0, 1)) (mulR d b))
    have hlen2 : (m.set (i + j) (subR (m.getD (i + j) (0, 1)) (mulR d b))).length = p.length := by rw [List.length_set]; exact hml
    generalize m.getD (i + j) (0, 1) = c at *
    have dM := mulR_S (a := d) (b := b) (hd.mono (by omega)) (hb.mono (by omega))
    have hm2 := mulR_ok hd hb
    have dA := subR_S (a := c) (b := mulR d b) (hmo1.mono (by omega)) (hm2.mono (by omega))
    generalize mulR d b = u at *
    generalize subR c u = e at *
    have hmc : (m.map cellR).length = p.length := by rw [List.length_map]; exact hml
    have hs4 : (m.map cellR).set (i + j) [.bool (decide (e.1 < 0)), .ints (Lm.lim e.1.natAbs), .bool (decide (e.2 < 0)), .ints (Lm.lim e.2.natAbs)] = (m.set (i + j) e).map cellR := hset3
    repeat refine vs ?_
    conv => whnf
    first | refine Idx.mk (j) (by first | rfl | omega) (by omega) ?_ | skip
    repeat refine vs ?_
    conv => whnf
    refine LdR.mk (cellR b) gb ?_
    repeat refine vs ?_
    conv => whnf
    first | refine Idx.mk ((i + j)) (by first | rfl | omega) (by omega) ?_ | skip
    repeat refine vs ?_
    conv => whnf
    refine LdR.mk (cellR c) gm ?_
    repeat refine vs ?_
    conv => whnf
    refine CallS.mk _ rfl true false _ (dM) rfl ?_
    repeat refine vs ?_
    conv => whnf
    refine CallS.mk _ rfl true false _ (dA) rfl ?_
    repeat refine vs ?_
    conv => whnf
    rw [hs4]
    refine ⟨(j + 1, m.set (i + j) e), by dsimp only; omega, ⟨by dsimp only; omega, hlen2, hst, hjnv2⟩, ?_⟩
    exact Wk.fg
   ·have hjq : j = q.length := by omega
    subst hjq
    rw [List.drop_length] at hjnv
    have hjnv2 : m = subRow r i d q := hjnv
    rw [← hjnv2] at hinv2
    repeat refine vs ?_
    conv => whnf
    refine ⟨((i : Int) - 1, 2 * W + 2 * B + 1, o.set i d, m), by dsimp only; omega, ⟨by dsimp only; omega, by dsimp only; rw [show ((i : Int) - 1 + 1).toNat = i by omega]; exact hW', hol2, hml, hmo.all (by omega), by dsimp only; rw [show ((i : Int) - 1 + 1).toNat = i by omega]; exact hinv2⟩, ?_⟩
    exact Wk.fg
  ·rw [show (k + 1).toNat = 0 by omega] at hinv
   have e1 : o = (divF p q).1 ++ List.replicate (p.length - (p.length + 1 - q.length)) (0, 1) := congrArg Prod.fst hinv
   have e2 : r = (divF p q).2 := congrArg Prod.snd hinv
   rw [e1, e2]
   repeat refine vs ?_
   conv => whnf
   refine CallS.mk _ rfl false false _ (dT1) rfl ?_
   repeat refine vs ?_
   conv => whnf
   refine CallS.mk _ rfl false false _ (dT2) rfl ?_
   repeat refine vs ?_
   conv => whnf
   first | rfl | exact ⟨rfl, rfl⟩ | exact ⟨by simp [toRes], rfl⟩
end
end Go.Vx
end
