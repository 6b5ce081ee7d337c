/- The library's functions for strings, as facts. -/
import Derived.Test.YthholhhohlnlnaaDoorBGa
import Derived.Test.YthholhhohlnlnaaDoorSh
import Derived.Test.YthholhhohlnlnaaDoorTd
set_option linter.unusedVariables false
set_option linter.unusedSectionVars false
set_option linter.unusedSimpArgs false
namespace Go.Vx
open Go.Proofs Go.RowKit Go.Sort
set_option maxRecDepth 100000

def strL (l : List UInt8) : ByteArray := ⟨l.toArray⟩
abbrev sP (l : List UInt8) : PV := (false, [.str (strL l)])
theorem strL_data (l : List UInt8) : (strL l).data.toList = l := rfl
theorem strL_size (l : List UInt8) : (strL l).size = l.length := by simp [strL, ByteArray.size]
theorem strL_app (a b : List UInt8) : strL a ++ strL b = strL (a ++ b) := by
  apply ByteArray.ext
  show (strL a ++ strL b).data = _
  rw [ByteArray.data_append]
  simp [strL]
theorem one_R {w : World} {ok : Nat → Prop} {x : PL} {v : Value} (h : RPV w ok (false, [x]) v) : PL.R w ok x v := by
  obtain ⟨y, hy, h⟩ := h
  cases hy
  exact h
theorem keeps_tab {w : World} (h : Keeps Tryd.prog (fun _ => False) w) : Lib.TabIs Tryd.prog w "internal/strconv.uint64pow10" .u64 Lib.pow10Tab := h w (fun _ _ _ => rfl) (by kernel_rfl)
theorem keeps_of_tab {W : World} (h : Lib.TabIs Tryd.prog W "internal/strconv.uint64pow10" .u64 Lib.pow10Tab) : Keeps Tryd.prog (fun _ => False) W := fun w' hw' _ => by
  unfold Lib.TabIs World.var? at h ⊢
  cases hg : Tryd.prog.globalNamed "internal/strconv.uint64pow10" with
  | none => rw [hg] at h; cases h
  | some g =>
    rw [hg] at h
    simp only [Option.bind_some] at h ⊢
    have hlt : g < W.heap.size := by
      rcases Nat.lt_or_ge g W.heap.size with h' | h'
      · exact h'
      · rw [Array.getElem?_eq_none h'] at h
        cases h
    rw [hw' g hlt (fun h => h)]
    exact h
theorem cutPrefix_den (s p : List UInt8) : D 32 [sP s, sP p] false (.tup [sP (Lib.trimPrefix s p), bP (Lib.hasPrefix s p)]) := by
  refine ⟨⟨_, Tryd.func32, rfl, rfl⟩, fun ok w vs hk h => ?_⟩
  match vs, h with
  | [a, b], ⟨h1, h2, _⟩ =>
    have h1 : a = .string (strL s) := one_R h1
    have h2 : b = .string (strL p) := one_R h2
    subst h1
    subst h2
    exact (Tryd.strings_CutPrefix (strL s) (strL p) w).mono fun e w' ⟨he, hw⟩ => ⟨_, he, hw ▸ Below.refl _ _, ⟨_, rfl, ⟨_, rfl, rfl⟩, ⟨_, rfl, rfl⟩, True.intro⟩⟩
theorem itoa_den (n : Int) (h0 : -9223372036854775808 ≤ n) (h1 : n ≤ 9223372036854775807) : D 51 [iP n] false (.one (sP (Lib.itoa n))) := by
  refine ⟨⟨_, Tryd.func51, rfl, rfl⟩, fun ok w vs hk h => ?_⟩
  match vs, h with
  | [a], ⟨h2, _⟩ =>
    have h2 : a = .int .i64 n := one_R h2
    subst h2
    refine (Tryd.strconv_Itoa n h0 h1 w (keeps_tab hk)).mono fun e w' ⟨he, k, os, hw⟩ => ⟨_, he, ?_, ⟨_, rfl, rfl⟩⟩
    subst hw
    exact ⟨rfl, rfl, rfl, by show w.heap.size ≤ (w.heap ++ os).size; simp, fun k hk => by show (w.heap ++ os)[k]? = _; exact Array.getElem?_append_left hk⟩
theorem repeat_den (s : List UInt8) (c : Nat) (hc : c ≤ 1000) (hs : s.length ≤ 1000) : D 52 [sP s, iP (c : Int)] false (.one (sP (Lib.repeatL s c))) := by
  refine ⟨⟨_, Tryd.func52, rfl, rfl⟩, fun ok w vs hk h => ?_⟩
  match vs, h with
  | [a, b], ⟨h1, h2, _⟩ =>
    have h1 : a = .string (strL s) := one_R h1
    have h2 : b = .int .i64 (c : Int) := one_R h2
    subst h1
    subst h2
    refine (Tryd.strings_Repeat (strL s) c w (by omega) ?_).mono fun e w' ⟨he, hw⟩ => ⟨_, he, hw, ⟨_, rfl, rfl⟩⟩
    rw [strL_size]
    exact Nat.le_trans (Nat.mul_le_mul hs hc) (by decide)
def rowsS (xs : List (List UInt8)) : List (List PL) := xs.map fun l => [.str (strL l)]
theorem rowsS_len (xs : List (List UInt8)) : (rowsS xs).length = xs.length := by simp [rowsS]
theorem join_den (xs : List (List UInt8)) (hx : xs.length ≤ 1000000) (hl : xs.flatten.length ≤ 1000000) : D 54 [(false, [.arr 1 (rowsS xs)]), sP []] false (.one (sP xs.flatten)) := by
  refine ⟨⟨_, Tryd.func54, rfl, rfl⟩, fun ok w vs hk h => ?_⟩
  match vs, h with
  | [a, b], ⟨h1, h2, _⟩ =>
    have h1 : PL.R w ok (.arr 1 (rowsS xs)) a := one_R h1
    have h2 : b = .string (strL []) := one_R h2
    subst h2
    obtain ⟨A, c, rfl, hc1, hc2, h3⟩ := h1
    rw [rowsS_len] at *
    rcases h3 with h3 | ⟨g, o, rfl, hok, hlt, h3⟩
    · have : xs = [] := by cases xs with
        | nil => rfl
        | cons _ _ => cases h3
      subst this
      exact (Tryd.strings_Join_none A c (strL []) w).mono fun e w' ⟨he, hw⟩ => ⟨_, he, hw ▸ Below.refl _ _, ⟨_, rfl, rfl⟩⟩
    · have hj := Tryd.strings_Join g o c (xs.map strL) (strL []) w (fun j x hx => by
        rw [List.getElem?_map, Option.map_eq_some_iff] at hx
        obtain ⟨l, hl, rfl⟩ := hx
        obtain ⟨_, hcs⟩ := h3.get j [.str (strL l)] (by unfold rowsS; rw [List.getElem?_map, hl]; rfl)
        obtain ⟨u, hu, hr⟩ := hcs.get 0 _ rfl
        rw [show o + j * 1 + 0 = o + j by omega] at hu
        rw [hu]
        exact congrArg some hr) hlt (by simp; omega) (by simpa using hc1) (by
        rw [List.map_map, show ((fun x : ByteArray => x.data.toList) ∘ strL) = id from rfl, List.map_id, strL_data, join_flat]
        omega)
      rw [List.length_map] at hj
      refine hj.mono fun e w' ⟨he, hw⟩ => ⟨_, he, hw, ⟨_, rfl, ?_⟩⟩
      rw [List.map_map, show ((fun x : ByteArray => x.data.toList) ∘ strL) = id from rfl, List.map_id, strL_data, join_flat]
      rfl
theorem reverse_den (xs : List (List UInt8)) (hx : xs.length ≤ 1000000) : Dd 53 1 (rowsS xs) [] (rowsS xs.reverse) (.arr 0 []) := by
  refine ⟨⟨_, Tryd.func53, rfl, rfl⟩, fun w v vs o B hk ho hB hBi hdat hvs => ?_⟩
  have hvs : vs = [] := by cases vs with
    | nil => rfl
    | cons _ _ => exact hvs.elim
  subst hvs
  rcases hdat with ⟨rfl, h0⟩ | ⟨g, c, cur, e, rfl, hog, hh, h1, h2, h3, h4⟩
  · have : xs = [] := by cases xs with
      | nil => rfl
      | cons _ _ => cases h0
    subst this
    exact (Tryd.slices_Reverse_string_empty none 0 w).mono fun e w' ⟨he, hw⟩ => by
      subst hw
      exact ⟨_, he, ⟨rfl, rfl, rfl, Nat.le_refl _⟩, fun _ _ _ _ => rfl, rfl, B, fun n b hb => ⟨(hB n b hb).1, (hB n b hb).2, .inl ⟨n, hb⟩⟩, hBi, .inl ⟨rfl, rfl⟩⟩
  · rw [rowsS_len] at *
    have hglt := heap_lt hh
    have hcell : ∀ j (h : j < xs.length), cur[j]? = some (.string (strL xs[j])) := fun j hj => by
      obtain ⟨_, hcs⟩ := h4 j [.str (strL xs[j])] (by unfold rowsS; rw [List.getElem?_map, List.getElem?_eq_getElem hj]; rfl)
      obtain ⟨u, hu, hr⟩ := hcs 0 _ rfl
      rw [show j * 1 + 0 = j by omega] at hu
      rw [hu]
      exact congrArg some hr.2
    have hH : Holds encStr w g 0 xs.toArray := fun j hj => by
      have hj : j < xs.length := by simpa using hj
      refine ⟨?_, ?_⟩
      · rw [Nat.zero_add, cell_of_row w g _ cur e (0, 0) hh, hcell j hj, getElem!_pos _ j (by simpa using hj)]
        simp [encStr, strL]
      · simp [World.frozen?, hh]
    have hr := Tryd.slices_Reverse_string g 0 c xs w hH (by omega)
    refine hr.mono fun ed w' ⟨he, n, hw⟩ => ?_
    have hheap : w'.heap = w.heap.modify g (onCells (putCells encStr 0 xs.reverse.toArray)) := by rw [hw]; rfl
    have hg' : w'.heap[g]? = some (.cells (putCells encStr 0 xs.reverse.toArray cur) e (0, 0)) := by
      rw [hheap, Array.getElem?_modify, if_pos rfl, hh]
      rfl
    have hsz : w'.heap.size = w.heap.size := by rw [hheap, Array.size_modify]
    refine ⟨_, he, ⟨by rw [hw]; rfl, by rw [hw]; rfl, by rw [hw]; rfl, by omega⟩, fun b hb hne _ => ?_, rfl, B, fun n b hb => ⟨by rw [hsz]; exact (hB n b hb).1, (hB n b hb).2, .inl ⟨n, hb⟩⟩, hBi, .inr ⟨g, c, _, e, by rw [rowsS_len, List.length_reverse], hog, hg', by rw [rowsS_len, List.length_reverse]; exact h1, h2, by rw [← h3]; simp [putCells], fun i r hi => ?_⟩⟩
    · rw [hheap, Array.getElem?_modify, if_neg (fun h => hne (by rw [hog, h]))]
    · unfold rowsS at hi
      rw [List.getElem?_map, Option.map_eq_some_iff] at hi
      obtain ⟨l, hl, rfl⟩ := hi
      refine ⟨rfl, fun q x hq => ?_⟩
      cases q with
      | succ q => cases hq
      | zero =>
        cases hq
        have hlt : i < xs.reverse.length := (List.getElem?_eq_some_iff.1 hl).1
        have h5 : cur.size = c := by simpa using h3
        have hlt2 : i < cur.size := by rw [h5]; simp at hlt; omega
        refine ⟨.string (strL l), ?_, rfl, rfl⟩
        rw [show i * (0 + 1) + 0 = i by omega]
        unfold putCells
        rw [Array.getElem?_mapIdx, Array.getElem?_eq_getElem hlt2, Option.map_some, if_pos ⟨Nat.zero_le _, by simpa using hlt⟩, Nat.sub_zero, getElem!_pos _ i (by simpa using hlt)]
        have : xs.reverse.toArray[i]'(by simpa using hlt) = l := by
          have := (List.getElem?_eq_some_iff.1 hl).2
          simpa using this
        rw [this]
        simp [encStr, strL]
end Go.Vx
