/- Slices of slices of numbers, and slices of pairs, that are read only. Conditions: none. -/
import Derived.Test.YtahbieegkgnbkaaEvMark
namespace Go.Proofs.Ytahbieegkgnbkaa.Ev
set_option linter.unusedVariables false
set_option linter.unusedSimpArgs false
set_option linter.unusedSectionVars false

/-- the element itself -/
def rowOf (v : AV) (n : Nat) : AV := (esOf v).getD n .un
def xssOf (v : AV) : List (List Int) := (esOf v).map xsOf
def nthL (xss : List (List Int)) (n : Nat) : List Int := xss.getD n []
structure IsLL (v : AV) : Prop where
  l : IsL 1 v
  row : ∀ n, n < (xssOf v).length → IsI (rowOf v n)
theorem IsLL.len {v : AV} (hv : IsLL v) : (xssOf v).length ≤ top63 := by have := hv.l.len; simpa [xssOf] using this
theorem xssOf_row {v : AV} {n : Nat} (h : n < (xssOf v).length) : xsOf (rowOf v n) = nthL (xssOf v) n := by
  simp only [xssOf, List.length_map] at h
  simp [rowOf, nthL, xssOf, h]
theorem isLL_low {v : AV} (hv : IsLL v) (h : Heap) : low h v = v := isL_low hv.l h
theorem isLL_cells {v : AV} (hv : IsLL v) : v.cells = [v] := (isL_cells hv.l).1
theorem isLL_one {v : AV} (hv : IsLL v) : v.one = true := (isL_cells hv.l).2
theorem isLL_len {E : Env} {t : Nat} {v : AV} (hv : IsLL v) (ht : slT E t = true) : lenV E t v = some (.int .i64 (xssOf v).length) := by
  rw [isL_len hv.l ht]; simp [xssOf]
theorem isLL_index {E : Env} {h : Heap} {t : Nat} {v : AV} {kd : IntKind} {n : Int} (hv : IsLL v) (ht : slT E t = true) (hs : E.size (elT E t) = 1) (h0 : 0 ≤ n) (h1 : n < (xssOf v).length) :
    indexA E h t v (.int kd n) = some (elP v n.toNat) := isL_index hv.l ht hs (by decide) h0 (by simpa [xssOf] using h1)
theorem isLL_load {E : Env} {h : Heap} {t : Nat} {v : AV} {n : Nat} (hv : IsLL v) (ht : slT E t = true) (hn : n < (xssOf v).length) : loadV E h t (elP v n) = some (rowOf v n) := by
  rw [elP_load hv.l]
  have hr := isI_cells (hv.row n hn)
  have : (esOf v).getD n .un = rowOf v n := rfl
  rw [this, hr]
  simp only [partOf, slT_ty ht, TD.agg?]
  rfl
/-- rows of numbers, as they stand in a row -/
def slI (xs : List Int) : AV := .sl 1 .no (ints xs)
def rowsV (xss : List (List Int)) : List AV := xss.map slI
theorem isLL_no {xss : List (List Int)} (hl : xss.length ≤ top63) (h : ∀ n, n < xss.length → (nthL xss n).length ≤ top63) : IsLL (.sl 1 .no (rowsV xss)) where
  l := { len := by simpa [rowsV] using hl, ok := ⟨1, .no, _, rfl, .inr rfl, rfl⟩, cells := fun e he => by
          simp only [esOf_sl, rowsV, List.mem_map] at he
          obtain ⟨xs, _, rfl⟩ := he
          exact ⟨rfl, rfl⟩ }
  row := fun n hn => by
    have hn2 : n < xss.length := by simpa [xssOf, rowsV] using hn
    have := h n hn2
    simp only [nthL, List.getD_eq_getElem?_getD, List.getElem?_eq_getElem hn2, Option.getD_some] at this
    simp only [rowOf, esOf_sl, rowsV, List.getD_eq_getElem?_getD, List.getElem?_map, List.getElem?_eq_getElem hn2, Option.map_some, Option.getD_some]
    exact isI_no this
@[simp] theorem xssOf_rowsV {k : Nat} {o : Own} {xss : List (List Int)} : xssOf (.sl k o (rowsV xss)) = xss := by
  simp only [xssOf, rowsV, esOf_sl, List.map_map]
  have : (xsOf ∘ slI) = _root_.id := by funext xs; simp [slI]
  rw [this, List.map_id]
@[simp] theorem rowsV_length (xss : List (List Int)) : (rowsV xss).length = xss.length := by simp [rowsV]
@[simp] theorem stabs_rowsV (xss : List (List Int)) : stabs (rowsV xss) = true := by
  induction xss with
  | nil => rfl
  | cons x xs ih =>
    have e : rowsV (x :: xs) = slI x :: rowsV xs := rfl
    rw [e, stabs_cons, ih]; rfl
@[simp] theorem low0s_rowsV (xss : List (List Int)) : low0s (rowsV xss) = rowsV xss := by
  induction xss with
  | nil => rfl
  | cons x xs ih =>
    have e : rowsV (x :: xs) = slI x :: rowsV xs := rfl
    rw [e, low0s_cons, ih]; simp [slI]

/-- a list that is filled from its start -/
def mix {α : Type} (f : Nat → α) (z : α) (n i : Nat) : List α := (List.range n).map fun j => if j < i then f j else z
@[simp] theorem mix_length {α : Type} (f : Nat → α) (z : α) (n i : Nat) : (mix f z n i).length = n := by simp [mix]
theorem mix_zero {α : Type} (f : Nat → α) (z : α) (n : Nat) : mix f z n 0 = List.replicate n z := by
  apply List.ext_getElem?
  intro j
  by_cases hj : j < n
  · simp [mix, List.getElem?_replicate, hj]
  · simp [mix, List.getElem?_replicate, hj]
theorem mix_get {α : Type} (f : Nat → α) (z : α) {n i j : Nat} (hj : j < n) : (mix f z n i)[j]? = some (if j < i then f j else z) := by
  simp [mix, hj]
@[simp] theorem mix_getElem {α : Type} (f : Nat → α) (z : α) {n i j : Nat} (h : j < (mix f z n i).length) : (mix f z n i)[j] = if j < i then f j else z := by
  simp [mix]
theorem mix_set {α : Type} (f : Nat → α) (z : α) {n i : Nat} (hi : i < n) : (mix f z n i).set i (f i) = mix f z n (i + 1) := by
  apply List.ext_getElem?
  intro j
  by_cases e : i = j
  · subst e
    rw [List.getElem?_set_self (by simpa using hi), mix_get _ _ hi, if_pos (by omega)]
  · rw [List.getElem?_set_ne e]
    by_cases hj : j < n
    · rw [mix_get _ _ hj, mix_get _ _ hj]
      by_cases h : j < i
      · rw [if_pos h, if_pos (by omega)]
      · rw [if_neg h, if_neg (by omega)]
    · simp [mix, hj]
theorem mix_full {α : Type} (f : Nat → α) (z : α) (n : Nat) : mix f z n n = (List.range n).map f := by
  apply List.map_congr_left
  intro j hj
  rw [if_pos (List.mem_range.1 hj)]
theorem mix_stabs (f : Nat → AV) (z : AV) (n i : Nat) (hf : ∀ j, stab (f j) = true) (hz : stab z = true) : stabs (mix f z n i) = true := by
  rw [stabs_iff]
  intro v hv
  simp only [mix, List.mem_map] at hv
  obtain ⟨j, _, rfl⟩ := hv
  split
  · exact hf j
  · exact hz
/-- the rows, from one to the next -/
theorem rows_range (xss : List (List Int)) : (List.range xss.length).map (fun j => slI (nthL xss j)) = rowsV xss := by
  apply List.ext_getElem?
  intro j
  by_cases hj : j < xss.length
  · simp [rowsV, nthL, hj]
  · simp [rowsV, hj]

/-- how much the rows hold -/
def sumTo (xss : List (List Int)) : Nat → Nat
  | 0 => 0
  | i + 1 => sumTo xss i + (nthL xss i).length
theorem sumTo_mono (xss : List (List Int)) {i j : Nat} (h : i ≤ j) : sumTo xss i ≤ sumTo xss j := by
  induction j with
  | zero => obtain rfl : i = 0 := by omega
            exact Nat.le_refl _
  | succ j ih =>
    by_cases e : i = j + 1
    · rw [e]; exact Nat.le_refl _
    · exact Nat.le_trans (ih (by omega)) (Nat.le_add_right _ _)
theorem sumTo_le (xss : List (List Int)) {i : Nat} (h : i < xss.length) : (nthL xss i).length ≤ sumTo xss xss.length :=
  Nat.le_trans (Nat.le_add_left _ _) (sumTo_mono xss (i := i + 1) (by omega))
theorem nthL_ext {a b : List (List Int)} (hl : b.length = a.length) (h : ∀ i, i < a.length → nthL a i = nthL b i) : a = b := by
  apply List.ext_getElem?
  intro i
  by_cases hi : i < a.length
  · have := h i hi
    have hb : i < b.length := by omega
    simp only [nthL, List.getD_eq_getElem?_getD, List.getElem?_eq_getElem hi, List.getElem?_eq_getElem hb, Option.getD_some] at this
    rw [List.getElem?_eq_getElem hi, List.getElem?_eq_getElem hb, this]
  · rw [List.getElem?_eq_none (by omega), List.getElem?_eq_none (by omega)]
end Go.Proofs.Ytahbieegkgnbkaa.Ev
