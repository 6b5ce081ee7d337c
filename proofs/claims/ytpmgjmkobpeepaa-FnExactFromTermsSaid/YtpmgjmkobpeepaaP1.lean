/- Chapter 4: lists of fractions that are polynomials. -/
import Derived.Test.YtpmgjmkobpeepaaS4
set_option linter.unusedVariables false
set_option linter.unusedSectionVars false
set_option linter.unusedSimpArgs false
namespace Go.Vx
open Go.Proofs
set_option maxRecDepth 100000

structure RawQ where
  n : Bool
  l : List Int
  p : Bool
  q : List Int
def cellQ (r : RawQ) : List PL := [.bool r.n, .ints r.l, .bool r.p, .ints r.q]
abbrev polQ (rs : List RawQ) : PV := (false, [.arr 4 (rs.map cellQ)])
def shortP (K : Nat) (rs : List RawQ) : Prop := rs.length ≤ K ∧ ∀ r ∈ rs, r.l.length ≤ K ∧ r.q.length ≤ K
noncomputable def okQ (K : Nat) (r : RawQ) : Bool := goodR r.n r.l r.p r.q && (decide (r.l.length ≤ K) && decide (r.q.length ≤ K))
def lastQ (rs : List RawQ) : Bool := match rs.getLast? with
  | none => true
  | some r => decide (r.l ≠ [])
noncomputable def goodP (m K : Nat) (rs : List RawQ) : Bool := (decide (rs.length ≤ m) && rs.all (okQ K)) && lastQ rs
def qF (f : Int × Int) : RawQ := ⟨decide (f.1 < 0), Lm.lim f.1.natAbs, decide (f.2 < 0), Lm.lim f.2.natAbs⟩
theorem cell_qF (f : Int × Int) : cellQ (qF f) = cellR f := rfl
theorem map_qF (fs : List (Int × Int)) : (fs.map qF).map cellQ = fs.map cellR := by rw [List.map_map]; rfl
/-- A fraction in lowest terms with so many limbs. -/
def lowT (K : Nat) (f : Int × Int) : Prop := okF K f ∧ Int.gcd f.1 f.2 = 1
theorem okQ_ex {K : Nat} {r : RawQ} (h : okQ K r = true) : ∃ f, r = qF f ∧ lowT K f := by
  unfold okQ at h
  rw [Bool.and_eq_true, Bool.and_eq_true, decide_eq_true_iff, decide_eq_true_iff] at h
  obtain ⟨h1, h2, h3⟩ := h
  obtain ⟨x, y, e1, e2, e3, e4, _, _, k3, k4⟩ := goodR_ex h1
  refine ⟨(x, y), ?_, ⟨⟨k3, ?_, ?_⟩, k4⟩⟩
  · cases r; unfold qF; simp only at e1 e2 e3 e4; rw [e1, e2, e3, e4]
  · rw [e2] at h2; exact h2
  · rw [e4] at h3; exact h3
theorem all_ex {K : Nat} : ∀ {rs : List RawQ}, rs.all (okQ K) = true → ∃ fs : List (Int × Int), rs = fs.map qF ∧ ∀ f ∈ fs, lowT K f
  | [], _ => ⟨[], rfl, fun f h => by cases h⟩
  | r :: rs, h => by
    rw [List.all_cons, Bool.and_eq_true] at h
    obtain ⟨f, rfl, hf⟩ := okQ_ex h.1
    obtain ⟨fs, rfl, hfs⟩ := all_ex h.2
    refine ⟨f :: fs, rfl, fun g hg => ?_⟩
    rcases List.mem_cons.1 hg with rfl | hg
    · exact hf
    · exact hfs g hg
theorem goodP_ex {m K : Nat} {rs : List RawQ} (h : goodP m K rs = true) : ∃ fs : List (Int × Int), rs = fs.map qF ∧ fs.length ≤ m ∧ (∀ f ∈ fs, lowT K f) ∧ ∀ f, fs.getLast? = some f → f.1 ≠ 0 := by
  unfold goodP at h
  rw [Bool.and_eq_true, Bool.and_eq_true, decide_eq_true_iff] at h
  obtain ⟨⟨h1, h2⟩, h3⟩ := h
  obtain ⟨fs, rfl, hfs⟩ := all_ex h2
  refine ⟨fs, rfl, by simpa using h1, hfs, fun f hf => ?_⟩
  unfold lastQ at h3
  rw [List.getLast?_map, hf] at h3
  simp only [Option.map_some, decide_eq_true_iff] at h3
  intro h0
  apply h3
  show Lm.lim f.1.natAbs = []
  rw [h0]
  exact Lm.lim_zero

theorem isShortQ_den (n : Bool) (l : List Int) (p : Bool) (q : List Int) (k : Nat) (hl : l.length ≤ 1000000000000) (hq : q.length ≤ 1000000000000) : D 75 [ratR n l p q, iP (k : Int)] true (.one (bP (decide (l.length ≤ k) && decide (q.length ≤ k)))) := by
  refine go Try.func75 rfl rfl ?_
  by_cases h1 : l.length ≤ k
  · rw [decide_eq_true h1]
    by_cases h2 : q.length ≤ k
    · rw [decide_eq_true h2]
      repeat refine vs ?_
      conv => whnf
      first | rfl | exact ⟨rfl, rfl⟩ | exact ⟨by simp [toRes], rfl⟩
    · rw [decide_eq_false h2]
      repeat refine vs ?_
      conv => whnf
      first | rfl | exact ⟨rfl, rfl⟩ | exact ⟨by simp [toRes], rfl⟩
  · rw [decide_eq_false h1]
    repeat refine vs ?_
    conv => whnf
    first | rfl | exact ⟨rfl, rfl⟩ | exact ⟨by simp [toRes], rfl⟩
theorem lastQ_eq {rs : List RawQ} (h : 0 < rs.length) : lastQ rs = decide (rs[rs.length - 1].l ≠ []) := by
  unfold lastQ
  rw [List.getLast?_eq_getElem?, List.getElem?_eq_getElem (by omega)]
end Go.Vx
