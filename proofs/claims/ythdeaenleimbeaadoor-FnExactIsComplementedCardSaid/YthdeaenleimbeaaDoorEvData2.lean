/- Slices of slices of numbers, and slices of pairs, that are read only. Conditions: none. -/
import Derived.Test.YthdeaenleimbeaaDoorEvMark
namespace Go.Proofs.YthdeaenleimbeaaDoor.Ev
set_option linter.unusedVariables false
set_option linter.unusedSimpArgs false
set_option linter.unusedSectionVars false

/-- the element itself -/
def rowOf (v : AV) (n : Nat) : AV := (esOf v).getD n .un
def xssOf (v : AV) : List (List Int) := (esOf v).map xsOf
def nthL (xss : List (List Int)) (n : Nat) : List Int := xss.getD n []
structure IsLL (v : AV) : Prop where
  l : IsL 1 v
  row : ∀ n, n < (xssOf v).length → IsI (rowOf v n)
theorem IsLL.len {v : AV} (hv : IsLL v) : (xssOf v).length ≤ top63 := by have := hv.l.len; simpa [xssOf] using this
theorem xssOf_row {v : AV} {n : Nat} (h : n < (xssOf v).length) : xsOf (rowOf v n) = nthL (xssOf v) n := by
  simp only [xssOf, List.length_map] at h
  simp [rowOf, nthL, xssOf, h]
theorem isLL_low {v : AV} (hv : IsLL v) (h : Heap) : low h v = v := isL_low hv.l h
theorem isLL_cells {v : AV} (hv : IsLL v) : v.cells = [v] := (isL_cells hv.l).1
theorem isLL_one {v : AV} (hv : IsLL v) : v.one = true := (isL_cells hv.l).2
theorem isLL_len {E : Env} {t : Nat} {v : AV} (hv : IsLL v) (ht : slT E t = true) : lenV E t v = some (.int .i64 (xssOf v).length) := by
  rw [isL_len hv.l ht]; simp [xssOf]
theorem isLL_index {E : Env} {h : Heap} {t : Nat} {v : AV} {kd : IntKind} {n : Int} (hv : IsLL v) (ht : slT E t = true) (hs : E.size (elT E t) = 1) (h0 : 0 ≤ n) (h1 : n < (xssOf v).length) :
    indexA E h t v (.int kd n) = some (elP v n.toNat) := isL_index hv.l ht hs (by decide) h0 (by simpa [xssOf] using h1)
theorem isLL_load {E : Env} {h : Heap} {t : Nat} {v : AV} {n : Nat} (hv : IsLL v) (ht : slT E t = true) (hn : n < (xssOf v).length) : loadV E h t (elP v n) = some (rowOf v n) := by
  rw [elP_load hv.l]
  have hr := isI_cells (hv.row n hn)
  have : (esOf v).getD n .un = rowOf v n := rfl
  rw [this, hr]
  simp only [partOf, slT_ty ht, TD.agg?]
  rfl
/-- rows of numbers, as they stand in a row -/
def slI (xs : List Int) : AV := .sl 1 .no (ints xs)
def rowsV (xss : List (List Int)) : List AV := xss.map slI
theorem isLL_no {xss : List (List Int)} (hl : xss.length ≤ top63) (h : ∀ n, n < xss.length → (nthL xss n).length ≤ top63) : IsLL (.sl 1 .no (rowsV xss)) where
  l := { len := by simpa [rowsV] using hl, ok := ⟨1, .no, _, rfl, .inr rfl, rfl⟩, cells := fun e he => by
          simp only [esOf_sl, rowsV, List.mem_map] at he
          obtain ⟨xs, _, rfl⟩ := he
          exact ⟨rfl, rfl⟩ }
  row := fun n hn => by
    have hn2 : n < xss.length := by simpa [xssOf, rowsV] using hn
    have := h n hn2
    simp only [nthL, List.getD_eq_getElem?_getD, List.getElem?_eq_getElem hn2, Option.getD_some] at this
    simp only [rowOf, esOf_sl, rowsV, List.getD_eq_getElem?_getD, List.getElem?_map, List.getElem?_eq_getElem hn2, Option.map_some, Option.getD_some]
    exact isI_no this
@[simp] theorem xssOf_rowsV {k : Nat} {o : Own} {xss : List (List Int)} : xssOf (.sl k o (rowsV xss)) = xss := by
  simp only [xssOf, rowsV, esOf_sl, List.map_map]
  have : (xsOf ∘ slI) = _root_.id := by funext xs; simp [slI]
  rw [this, List.map_id]
@[simp] theorem rowsV_length (xss : List (List Int)) : (rowsV xss).length = xss.length := by simp [rowsV]
@[simp] theorem stabs_rowsV (xss : List (List Int)) : stabs (rowsV xss) = true := by
  induction xss with
  | nil => rfl
  | cons x xs ih =>
    have e : rowsV (x :: xs) = slI x :: rowsV xs := rfl
    rw [e, stabs_cons, ih]; rfl
@[simp] theorem low0s_rowsV (xss : List (List Int)) : low0s (rowsV xss) = rowsV xss := by
  induction xss with
  | nil => rfl
  | cons x xs ih =>
    have e : rowsV (x :: xs) = slI x :: rowsV xs := rfl
    rw [e, low0s_cons, ih]; simp [slI]

/-- a list that is filled from its start -/
def mix {α : Type} (f : Nat → α) (z : α) (n i : Nat) : List α := (List.range n).map fun j => if j < i then f j else z
@[simp] theorem mix_length {α : Type} (f : Nat → α) (z : α) (n i : Nat) : (mix f z n i).length = n := by simp [mix]
theorem mix_zero {α : Type} (f : Nat → α) (z : α) (n : Nat) : mix f z n 0 = List.replicate n z := by
  apply List.ext_getElem?
  intro j
  by_cases hj : j < n
  · simp [mix, List.getElem?_replicate, hj]
  · simp [mix, List.getElem?_replicate, hj]
theorem mix_get {α : Type} (f : Nat → α) (z : α) {n i j : Nat} (hj : j < n) : (mix f z n i)[j]? = some (if j < i then f j else z) := by
  simp [mix, hj]
@[simp] theorem mix_getElem {α : Type} (f : Nat → α) (z : α) {n i j : Nat} (h : j < (mix f z n i).length) : (mix f z n i)[j] = if j < i then f j else z := by
  simp [mix]
theorem mix_set {α : Type} (f : Nat → α) (z : α) {n i : Nat} (hi : i < n) : (mix f z n i).set i (f i) = mix f z n (i + 1) := by
  apply List.ext_getElem?
  intro j
  by_cases e : i = j
  · subst e
    rw [List.getElem?_set_self (by simpa using hi), mix_get _ _ hi, if_pos (by omega)]
  · rw [List.getElem?_set_ne e]
    by_cases hj : j < n
    · rw [mix_get _ _ hj, mix_get _ _ hj]
      by_cases h : j < i
      · rw [if_pos h, if_pos (by omega)]
      · rw [if_neg h, if_neg (by omega)]
    · simp [mix, hj]
theorem mix_full {α : Type} (f : Nat → α) (z : α) (n : Nat) : mix f z n n = (List.range n).map f := by
  apply List.map_congr_left
  intro j hj
  rw [if_pos (List.mem_range.1 hj)]
theorem mix_stabs (f : Nat → AV) (z : AV) (n i : Nat) (hf : ∀ j, stab (f j) = true) (hz : stab z = true) : stabs (mix f z n i) = true := by
  rw [stabs_iff]
  intro v hv
  simp only [mix, List.mem_map] at hv
  obtain ⟨j, _, rfl⟩ := hv
  split
  · exact hf j
  · exact hz
/-- the rows, from one to the next -/
theorem rows_range (xss : List (List Int)) : (List.range xss.length).map (fun j => slI (nthL xss j)) = rowsV xss := by
  apply List.ext_getElem?
  intro j
  by_cases hj : j < xss.length
  · simp [rowsV, nthL, hj]
  · simp [rowsV, hj]

/-- how much the rows hold -/
def sumTo (xss : List (List Int)) : Nat → Nat
  | 0 => 0
  | i + 1 => sumTo xss i + (nthL xss i).length
theorem sumTo_mono (xss : List (List Int)) {i j : Nat} (h : i ≤ j) : sumTo xss i ≤ sumTo xss j := by
  induction j with
  | zero => obtain rfl : i = 0 := by omega
            exact Nat.le_refl _
  | succ j ih =>
    by_cases e : i = j + 1
    · rw [e]; exact Nat.le_refl _
    · exact Nat.le_trans (ih (by omega)) (Nat.le_add_right _ _)
theorem sumTo_le (xss : List (List Int)) {i : Nat} (h : i < xss.length) : (nthL xss i).length ≤ sumTo xss xss.length :=
  Nat.le_trans (Nat.le_add_left _ _) (sumTo_mono xss (i := i + 1) (by omega))
theorem nthL_ext {a b : List (List Int)} (hl : b.length = a.length) (h : ∀ i, i < a.length → nthL a i = nthL b i) : a = b := by
  apply List.ext_getElem?
  intro i
  by_cases hi : i < a.length
  · have := h i hi
    have hb : i < b.length := by omega
    simp only [nthL, List.getD_eq_getElem?_getD, List.getElem?_eq_getElem hi, List.getElem?_eq_getElem hb, Option.getD_some] at this
    rw [List.getElem?_eq_getElem hi, List.getElem?_eq_getElem hb, this]
  · rw [List.getElem?_eq_none (by omega), List.getElem?_eq_none (by omega)]
/-! records of two numbers -/
def pr (a b : Int) : AV := .agg [.int .i64 a, .int .i64 b]
def fstI (e : AV) : Int := match e with | .agg [.int _ a, _] => a | _ => 0
def sndI (e : AV) : Int := match e with | .agg [_, .int _ b] => b | _ => 0
def fsts (v : AV) : List Int := (esOf v).map fstI
def snds (v : AV) : List Int := (esOf v).map sndI
@[simp] theorem fstI_pr (a b : Int) : fstI (pr a b) = a := _root_.id rfl
@[simp] theorem sndI_pr (a b : Int) : sndI (pr a b) = b := _root_.id rfl
/-- the records of two lists -/
def prs (xs ys : List Int) : List AV := (List.range xs.length).map fun i => pr (nth xs i) (nth ys i)
@[simp] theorem prs_length (xs ys : List Int) : (prs xs ys).length = xs.length := by simp [prs]
structure IsP (v : AV) : Prop where
  l : IsL 2 v
  el : ∀ e ∈ esOf v, ∃ a b, e = pr a b
def brwOf : AV → Bool
  | .sl _ o _ => o == .brw
  | _ => false
theorem IsP.lens {v : AV} (hv : IsP v) : (snds v).length = (fsts v).length := by simp [fsts, snds]
theorem IsP.len {v : AV} (hv : IsP v) : (fsts v).length ≤ top63 := by have := hv.l.len; simpa [fsts] using this
theorem isP_low {v : AV} (hv : IsP v) (h : Heap) : low h v = v := isL_low hv.l h
theorem isP_low0 {v : AV} (hv : IsP v) : low0 v = v := isL_low0 hv.l
theorem isP_cells {v : AV} (hv : IsP v) : v.cells = [v] := (isL_cells hv.l).1
theorem isP_one {v : AV} (hv : IsP v) : v.one = true := (isL_cells hv.l).2
theorem isP_noKey {v : AV} (hv : IsP v) (κ : Nat) : hasKey κ v = false := by
  obtain ⟨k, o, es, rfl, _, _⟩ := hv.l.ok
  simp
theorem isP_len {E : Env} {t : Nat} {v : AV} (hv : IsP v) (ht : slT E t = true) : lenV E t v = some (.int .i64 (fsts v).length) := by
  rw [isL_len hv.l ht]; simp [fsts]
theorem isP_get {v : AV} (hv : IsP v) {n : Nat} (h : n < (fsts v).length) : (esOf v).getD n .un = pr (nth (fsts v) n) (nth (snds v) n) := by
  have h2 : n < (esOf v).length := by simpa [fsts] using h
  obtain ⟨a, b, e⟩ := hv.el _ (List.getElem_mem h2)
  simp only [List.getD_eq_getElem?_getD, List.getElem?_eq_getElem h2, Option.getD_some, nth, fsts, snds, List.getElem?_map, Option.map_some, e, fstI_pr, sndI_pr]
theorem isP_index {E : Env} {h : Heap} {t : Nat} {v : AV} {kd : IntKind} {n : Int} (hv : IsP v) (ht : slT E t = true) (hs : E.size (elT E t) = 2) (h0 : 0 ≤ n) (h1 : n < (fsts v).length) :
    indexA E h t v (.int kd n) = some (.cp (brwOf v) [.int .i64 (nth (fsts v) n.toNat), .int .i64 (nth (snds v) n.toNat)] 0) := by
  rw [isL_index hv.l ht hs (by decide) h0 (by simpa [fsts] using h1)]
  have hg := isP_get hv (n := n.toNat) (by omega)
  obtain ⟨k, o, es, rfl, _, _⟩ := hv.l.ok
  simp only [esOf_sl] at hg
  simp only [elP, brwOf, hg, pr, cells_agg]
theorem isP_mk {k : Nat} {o : Own} {xs ys : List Int} (hk : xs = [] ∨ k = 2) (ho : o.safe = true) (hl : xs.length ≤ top63) : IsP (.sl k o (prs xs ys)) where
  l := { len := by simpa using hl, ok := ⟨k, o, _, rfl, by rcases hk with h | h; exact .inl (by simp [prs, h]); exact .inr h, ho⟩, cells := fun e he => by
          simp only [esOf_sl, prs, List.mem_map] at he
          obtain ⟨i, _, rfl⟩ := he
          exact ⟨rfl, rfl⟩ }
  el := fun e he => by
    simp only [esOf_sl, prs, List.mem_map] at he
    obtain ⟨i, _, rfl⟩ := he
    exact ⟨_, _, rfl⟩
@[simp] theorem fsts_prs (k : Nat) (o : Own) (xs ys : List Int) : fsts (.sl k o (prs xs ys)) = xs := by
  simp only [fsts, esOf_sl, prs, List.map_map]
  apply List.ext_getElem?
  intro i
  by_cases hi : i < xs.length
  · simp [hi, nth_eq hi]
  · simp [hi]
theorem snds_prs (k : Nat) (o : Own) {xs ys : List Int} (h : ys.length = xs.length) : snds (.sl k o (prs xs ys)) = ys := by
  simp only [snds, esOf_sl, prs, List.map_map]
  apply List.ext_getElem?
  intro i
  by_cases hi : i < xs.length
  · have hi2 : i < ys.length := by omega
    simp [hi, hi2, nth_eq hi2]
  · simp [hi, show ¬ i < ys.length by omega]
@[simp] theorem prs_flat (xs ys : List Int) : (prs xs ys).all flat = true := by
  rw [List.all_eq_true]; intro e he
  simp only [prs, List.mem_map] at he
  obtain ⟨i, _, rfl⟩ := he
  rfl
@[simp] theorem prs_stabs (xs ys : List Int) : stabs (prs xs ys) = true := by
  rw [stabs_iff]; intro e he
  simp only [prs, List.mem_map] at he
  obtain ⟨i, _, rfl⟩ := he
  simp [pr]
@[simp] theorem prs_low0s (xs ys : List Int) : low0s (prs xs ys) = prs xs ys := by
  unfold prs
  induction (List.range xs.length) with
  | nil => simp
  | cons a l ih =>
    rw [List.map_cons, low0s_cons, ih]
    congr 1
@[simp] theorem prs_getElem (xs ys : List Int) (i : Nat) (h : i < (prs xs ys).length) : (prs xs ys)[i] = .agg [.int .i64 (nth xs i), .int .i64 (nth ys i)] := by simp [prs, pr]
theorem nth_set (xs : List Int) (i j : Nat) (a : Int) (h : i < xs.length) : nth (xs.set i a) j = if j = i then a else nth xs j := by
  simp only [nth, List.getD_eq_getElem?_getD, List.getElem?_set]
  by_cases e : i = j
  · subst e; simp [h]
  · simp [e, Ne.symm e]
theorem prs_set {xs ys : List Int} {i : Nat} {a b : Int} (hl : ys.length = xs.length) (hi : i < xs.length) : (prs xs ys).set i (.agg [.int .i64 a, .int .i64 b]) = prs (xs.set i a) (ys.set i b) := by
  apply List.ext_getElem?
  intro j
  by_cases hj : j < xs.length
  · have e1 : (prs (xs.set i a) (ys.set i b))[j]? = some (pr (nth (xs.set i a) j) (nth (ys.set i b) j)) := by simp [prs, hj]
    rw [e1, nth_set _ _ _ _ hi, nth_set _ _ _ _ (by omega), List.getElem?_set]
    by_cases e : i = j
    · subst e; simp [hi, pr]
    · simp [e, Ne.symm e, prs, hj]
  · simp [prs, hj]
theorem isP_rowB {k0 : Nat} {xs ys : List Int} (hl : xs.length ≤ top63) : IsP (rowB 2 k0 (prs xs ys)) := by
  unfold rowB; split
  · exact isP_mk (xs := []) (ys := []) (.inl rfl) rfl (Nat.zero_le _)
  · exact isP_mk (.inr rfl) rfl hl
theorem fsts_rowB {k k0 : Nat} {xs ys : List Int} : fsts (rowB k k0 (prs xs ys)) = xs := by
  unfold rowB; split
  · rename_i h
    have : xs.length = 0 := by have := congrArg List.length h; simpa using this
    rw [List.eq_nil_of_length_eq_zero this]; rfl
  · simp
theorem snds_rowB {k k0 : Nat} {xs ys : List Int} (h : ys.length = xs.length) : snds (rowB k k0 (prs xs ys)) = ys := by
  unfold rowB; split
  · rename_i h2
    have h3 : xs.length = 0 := by have := congrArg List.length h2; simpa using this
    rw [List.eq_nil_of_length_eq_zero (h.trans h3)]; rfl
  · exact snds_prs _ _ h
theorem Row.lowP {h : Heap} {key T k k0 : Nat} {v : AV} {xs ys : List Int} (hR : Row h key T k k0 v (prs xs ys)) : Ev.low h v = rowB k k0 (prs xs ys) := hR.low (by simp) (by simp)
theorem pr_ext {u v : AV} (hu : IsP u) (hv : IsP v) : True := trivial

end Go.Proofs.YthdeaenleimbeaaDoor.Ev
