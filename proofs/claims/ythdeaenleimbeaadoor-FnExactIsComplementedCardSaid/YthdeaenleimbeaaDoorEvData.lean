/- Slices that are read only, and lists of numbers. Conditions: none. -/
import Derived.Test.YthdeaenleimbeaaDoorEvFrame
namespace Go.Proofs.YthdeaenleimbeaaDoor.Ev
set_option linter.unusedVariables false
set_option linter.unusedSimpArgs false
set_option linter.unusedSectionVars false

def top63 : Nat := 9223372036854775807
theorem wrap_i64 {x : Int} (h1 : -9223372036854775808 ≤ x) (h2 : x ≤ 9223372036854775807) : IntKind.wrap .i64 x = x := by
  simp only [IntKind.wrap]
  first
  | (simp [IntKind.bits, IntKind.signed]; omega)
  | (unfold IntKind.wrap; simp [IntKind.bits, IntKind.signed]; omega)
theorem wrap_u64 {x : Int} (h1 : 0 ≤ x) (h2 : x ≤ 18446744073709551615) : IntKind.wrap .u64 x = x := by
  simp only [IntKind.wrap]
  first
  | (simp [IntKind.bits, IntKind.signed]; omega)
  | (unfold IntKind.wrap; simp [IntKind.bits, IntKind.signed]; omega)
/-- the next index -/
@[simp] theorem wrap_succ {i n : Nat} (h : i < n) (hn : n ≤ top63) : IntKind.wrap .i64 ((i : Int) + 1) = ((i + 1 : Nat) : Int) := by
  unfold top63 at hn
  rw [wrap_i64 (by omega) (by omega)]; rfl

theorem two_pow_le {a b : Nat} (h : a ≤ b) : (2 : Int) ^ a ≤ 2 ^ b := by
  have := Nat.pow_le_pow_right (n := 2) (by decide) h
  exact_mod_cast this
/-- one, shifted -/
@[simp] theorem shl_one {k : IntKind} {n : Int} (h0 : 0 ≤ n) (h : n ≤ 62) : binV .shl (.int .i64 1) (.int k n) = some (.int .i64 (2 ^ n.toNat)) := by
  rw [bin_shl _ _ _ _ h0]
  have e : min n.toNat (IntKind.bits .i64) = n.toNat := by simp [IntKind.bits]; omega
  have hl : (2 : Int) ^ n.toNat ≤ 2 ^ 62 := two_pow_le (by omega)
  have hp : (0 : Int) < 2 ^ n.toNat := Int.pow_pos (by decide)
  rw [e, Int.one_mul, wrap_i64 (by omega) (by omega)]
/-- a number, shifted down -/
@[simp] theorem shr_i64 {k : IntKind} {a n : Int} (h0 : 0 ≤ n) (h : n ≤ 62) : binV .shr (.int .i64 a) (.int k n) = some (.int .i64 (a / 2 ^ n.toNat)) := by
  rw [bin_shr _ _ _ _ h0]
  have e : min n.toNat (IntKind.bits .i64) = n.toNat := by simp [IntKind.bits]; omega
  have hp : (0 : Int) < 2 ^ n.toNat := Int.pow_pos (by decide)
  rw [e, Int.fdiv_eq_ediv_of_nonneg _ (Int.le_of_lt hp)]
theorem pow8 {n : Int} (h : n ≤ 8) : (2 : Int) ^ n.toNat ≤ 256 := by
  have : (2 : Int) ^ n.toNat ≤ 2 ^ 8 := two_pow_le (by omega)
  omega
theorem pow_pos2 (n : Nat) : (0 : Int) < 2 ^ n := Int.pow_pos (by decide)
@[simp] theorem wrap_pow1 {n : Int} (h : n ≤ 8) : IntKind.wrap .i64 (2 ^ n.toNat - 1) = 2 ^ n.toNat - 1 := by
  have := pow8 h
  have := pow_pos2 n.toNat
  rw [wrap_i64 (by omega) (by omega)]

def Own.safe : Own → Bool
  | .no | .lit | .brw => true
  | _ => false
def esOf : AV → List AV
  | .sl _ _ es => es
  | _ => []
@[simp] theorem esOf_sl (k : Nat) (o : Own) (es : List AV) : esOf (.sl k o es) = es := _root_.id rfl
/-- A slice to read, of elements of sz cells. -/
structure IsL (sz : Nat) (v : AV) : Prop where
  len : (esOf v).length ≤ top63
  ok : ∃ k o es, v = .sl k o es ∧ (es = [] ∨ k = sz) ∧ o.safe = true
  cells : ∀ e ∈ esOf v, e.cells.length = sz ∧ e.cells.all AV.one = true

/-- the element's place -/
def elP (v : AV) (n : Nat) : AV := match v with
  | .sl _ o es => .cp (o == .brw) ((es.getD n .un).cells) 0
  | _ => .un

theorem isL_low {sz : Nat} {v : AV} (hv : IsL sz v) (h : Heap) : low h v = v := by
  obtain ⟨k, o, es, rfl, _, ho⟩ := hv.ok
  cases o <;> simp [Own.safe] at ho <;> simp
theorem isL_low0 {sz : Nat} {v : AV} (hv : IsL sz v) : low0 v = v := by
  obtain ⟨k, o, es, rfl, _, ho⟩ := hv.ok
  cases o <;> simp [Own.safe] at ho <;> simp [low0]
theorem isL_noEx {sz : Nat} {v : AV} (hv : IsL sz v) : noEx v = v := by
  obtain ⟨k, o, es, rfl, _, ho⟩ := hv.ok
  cases o <;> simp [Own.safe] at ho <;> simp [noEx]
theorem isL_cells {sz : Nat} {v : AV} (hv : IsL sz v) : v.cells = [v] ∧ v.one = true := by
  obtain ⟨k, o, es, rfl, _, ho⟩ := hv.ok
  exact ⟨rfl, rfl⟩
theorem isL_len {E : Env} {sz t : Nat} {v : AV} (hv : IsL sz v) (ht : slT E t = true) : lenV E t v = some (.int .i64 (esOf v).length) := by
  obtain ⟨k, o, es, rfl, _, ho⟩ := hv.ok
  simp only [lenV, slT_ty ht, esOf]
theorem isL_index {E : Env} {h : Heap} {sz t : Nat} {v : AV} {kd : IntKind} {n : Int} (hv : IsL sz v) (ht : slT E t = true) (hs : E.size (elT E t) = sz) (hz : sz ≠ 0) (h0 : 0 ≤ n) (h1 : n < (esOf v).length) :
    indexA E h t v (.int kd n) = some (elP v n.toNat) := by
  obtain ⟨k, o, es, rfl, hk, ho⟩ := hv.ok
  simp only [esOf] at h1
  have hn : n.toNat < es.length := by omega
  have hne : es ≠ [] := fun e => by rw [e] at hn; simp at hn
  have hk : k = sz := hk.resolve_left hne
  have hc := (hv.cells (es[n.toNat]'hn) (List.getElem_mem hn)).1
  simp only [indexA, h0, if_true, slT_ty ht, hs, hz, if_false, elP]
  rw [List.getElem?_eq_getElem hn]
  simp only [hc, and_self, if_true, hk, List.getD_eq_getElem?_getD, List.getElem?_eq_getElem hn, Option.getD_some]
theorem elP_load {E : Env} {h : Heap} {sz t : Nat} {v : AV} {n : Nat} (hv : IsL sz v) : loadV E h t (elP v n) = partOf E t ((esOf v).getD n .un).cells 0 := by
  obtain ⟨k, o, es, rfl, _, ho⟩ := hv.ok
  rfl

/-! numbers -/
def ints (xs : List Int) : List AV := xs.map (AV.int .i64)
def toI : AV → Int
  | .int _ n => n
  | _ => 0
def xsOf (v : AV) : List Int := (esOf v).map toI
@[simp] theorem toI_int (k : IntKind) (n : Int) : toI (.int k n) = n := _root_.id rfl
@[simp] theorem ints_nil : ints [] = [] := _root_.id rfl
@[simp] theorem ints_cons (x : Int) (xs : List Int) : ints (x :: xs) = .int .i64 x :: ints xs := _root_.id rfl
@[simp] theorem ints_append (xs ys : List Int) : ints (xs ++ ys) = ints xs ++ ints ys := by simp [ints]
@[simp] theorem ints_length (xs : List Int) : (ints xs).length = xs.length := by simp [ints]
@[simp] theorem map_toI_ints (xs : List Int) : (ints xs).map toI = xs := by
  induction xs with
  | nil => rfl
  | cons x xs ih => simp [ih]
@[simp] theorem ints_eq_nil (xs : List Int) : ints xs = [] ↔ xs = [] := by cases xs <;> simp
@[simp] theorem xsOf_ints (k : Nat) (o : Own) (xs : List Int) : xsOf (.sl k o (ints xs)) = xs := by simp [xsOf]
@[simp] theorem xsOf_nil (k : Nat) (o : Own) : xsOf (.sl k o []) = [] := _root_.id rfl
@[simp] theorem stabs_ints (xs : List Int) : stabs (ints xs) = true := by
  induction xs with
  | nil => rfl
  | cons x xs ih => simp [stabs, stab, ih]
@[simp] theorem low0s_ints (xs : List Int) : low0s (ints xs) = ints xs := by
  induction xs with
  | nil => rfl
  | cons x xs ih => simp [low0s, low0, ih]

/-- the number at a place -/
def nth (xs : List Int) (n : Nat) : Int := xs.getD n 0
theorem nth_eq {xs : List Int} {n : Nat} (h : n < xs.length) : nth xs n = xs[n] := by simp [nth, h]
theorem nth_get? {xs : List Int} {n : Nat} (h : n < xs.length) : xs[n]? = some (nth xs n) := by rw [nth_eq h]; simp [h]
@[simp] theorem ints_nth (xs : List Int) (i : Nat) (h : i < xs.length) : (ints xs)[i]? = some (.int .i64 (nth xs i)) := by simp [ints, nth_eq h, h]
theorem ints_get? (xs : List Int) (i : Nat) : (ints xs)[i]? = (xs[i]?).map (AV.int .i64) := by simp [ints]
@[simp] theorem ints_set (xs : List Int) (i : Nat) (x : Int) : (ints xs).set i (.int .i64 x) = ints (xs.set i x) := by simp [ints, List.map_set]
@[simp] theorem ints_replicate (n : Nat) (x : Int) : List.replicate n (AV.int .i64 x) = ints (List.replicate n x) := by simp [ints]
@[simp] theorem ints_drop (xs : List Int) (n : Nat) : (ints xs).drop n = ints (xs.drop n) := by simp [ints]
@[simp] theorem ints_take (xs : List Int) (n : Nat) : (ints xs).take n = ints (xs.take n) := by simp [ints]
@[simp] theorem ints_inj (xs ys : List Int) : ints xs = ints ys ↔ xs = ys := by
  constructor
  · intro h; have := congrArg (List.map toI) h; simpa using this
  · rintro rfl; rfl
@[simp] theorem ints_flat (xs : List Int) : (ints xs).all flat = true := by
  induction xs with
  | nil => rfl
  | cons x xs ih => simp only [ints_cons, List.all_cons, ih, Bool.and_true]; rfl
@[simp] theorem ints_getElem (xs : List Int) (i : Nat) (h : i < (ints xs).length) : (ints xs)[i] = .int .i64 (nth xs i) := by rw [nth_eq (by simpa using h)]; simp [ints]
/-- a row, handed back -/
def rowR (k T key : Nat) (es : List AV) : AV := if es = [] then .sl k .no [] else .sl k (.ex T key) es
@[simp] theorem rowR_noEx (k T key : Nat) (es : List AV) : noEx (rowR k T key es) = .sl k .no es := by
  unfold rowR; split
  · rename_i h; rw [h]; simp [noEx]
  · simp [noEx]
theorem expo_row {h : Heap} {key g T k n : Nat} {es : List AV} (hk : h key = some (.row g T k es)) (hs : stabs es = true) (hl : low0s es = es) (hn : es.length = n) : expo h (.ms key g 0 n) = rowR k T key es := by
  subst hn
  simp only [expo, hk, hs, Nat.zero_add, Nat.le_refl, and_self, if_true, true_and, ne_eq, hl, rowR, List.drop_zero, List.take_length]
  by_cases he : es = [] <;> simp [he]
@[simp] theorem expo_ints {h : Heap} {key g T k n : Nat} {xs : List Int} (hn : xs.length = n) : expo (hset h key (.row g T k (ints xs))) (.ms key g 0 n) = rowR k T key (ints xs) :=
  expo_row (by simp [hset]) (by simp) (by simp) (by simpa using hn)
structure IsI (v : AV) : Prop where
  l : IsL 1 v
  ints : esOf v = ints (xsOf v)
theorem IsI.len {v : AV} (hv : IsI v) : (xsOf v).length ≤ top63 := by have := hv.l.len; rw [hv.ints] at this; simpa using this
theorem isI_sl {k : Nat} {o : Own} {xs : List Int} (hk : xs = [] ∨ k = 1) (ho : o.safe = true) (hl : xs.length ≤ top63) : IsI (.sl k o (ints xs)) where
  l := { len := by simpa using hl, ok := ⟨k, o, _, rfl, by simpa using hk, ho⟩, cells := fun e he => by
          simp only [esOf_sl, Ev.ints, List.mem_map] at he
          obtain ⟨n, _, rfl⟩ := he
          exact ⟨rfl, rfl⟩ }
  ints := by simp
@[simp] theorem isI_no {xs : List Int} (hl : xs.length ≤ top63) : IsI (.sl 1 .no (ints xs)) := isI_sl (.inr rfl) rfl hl
@[simp] theorem isI_lit1 {xs : List Int} (hl : xs.length ≤ top63) : IsI (.sl 1 .lit (ints xs)) := isI_sl (.inr rfl) rfl hl
@[simp] theorem isI_lit : IsI (.sl 0 .lit []) := isI_sl (xs := []) (.inl rfl) rfl (Nat.zero_le _)
theorem isI_low {v : AV} (hv : IsI v) (h : Heap) : low h v = v := isL_low hv.l h
theorem isI_low0 {v : AV} (hv : IsI v) : low0 v = v := isL_low0 hv.l
theorem isI_noEx {v : AV} (hv : IsI v) : noEx v = v := isL_noEx hv.l
theorem isI_cells {v : AV} (hv : IsI v) : v.cells = [v] := (isL_cells hv.l).1
theorem isI_one {v : AV} (hv : IsI v) : v.one = true := (isL_cells hv.l).2
theorem isI_len {E : Env} {t : Nat} {v : AV} (hv : IsI v) (ht : slT E t = true) : lenV E t v = some (.int .i64 (xsOf v).length) := by
  rw [isL_len hv.l ht, hv.ints]; simp
theorem isI_index {E : Env} {h : Heap} {t : Nat} {v : AV} {kd : IntKind} {n : Int} (hv : IsI v) (ht : slT E t = true) (hs : E.size (elT E t) = 1) (h0 : 0 ≤ n) (h1 : n < (xsOf v).length) :
    indexA E h t v (.int kd n) = some (elP v n.toNat) := isL_index hv.l ht hs (by decide) h0 (by rw [hv.ints]; simpa using h1)
theorem isI_load {E : Env} {h : Heap} {t : Nat} {v : AV} {n : Nat} (hv : IsI v) (ht : E.ty t = .int .i64) (hn : n < (xsOf v).length) : loadV E h t (elP v n) = some (.int .i64 (nth (xsOf v) n)) := by
  rw [elP_load hv.l, hv.ints]
  simp [ints, hn, ht, partOf, AV.cells, nth]

/-! rows that are appended to -/
/-- A row of numbers that began empty and that grows at one place. -/
def Buf (h : Heap) (T key k0 : Nat) (v : AV) (xs : List Int) : Prop :=
  (xs = [] ∧ v = .sl k0 .lit []) ∨ (xs ≠ [] ∧ ∃ g, v = .sl 1 (.tok key g) (ints xs) ∧ h key = some (.tok g T 1 xs.length))
/-- such a row, handed back -/
def bufR (T key k0 : Nat) (xs : List Int) : AV := if xs = [] then .sl k0 .lit [] else .sl 1 (.ex T key) (ints xs)
@[simp] theorem bufR_nil (T key k0 : Nat) : bufR T key k0 [] = .sl k0 .lit [] := by simp [bufR]
/-- such a row, in the caller -/
def bufC (k0 : Nat) (xs : List Int) : AV := if xs = [] then .sl k0 .lit [] else .sl 1 .no (ints xs)
theorem buf_nil (h : Heap) (T key k0 : Nat) : Buf h T key k0 (.sl k0 .lit []) [] := .inl ⟨rfl, rfl⟩
theorem Buf.expo {h : Heap} {T key k0 : Nat} {v : AV} {xs : List Int} (hB : Buf h T key k0 v xs) : Ev.expo h v = bufR T key k0 xs := by
  rcases hB with ⟨rfl, rfl⟩ | ⟨hx, g, rfl, hk⟩
  · simp [bufR]
  · simp [bufR, hx, Ev.expo, hk]
@[simp] theorem bufR_noEx (T key k0 : Nat) (xs : List Int) : noEx (bufR T key k0 xs) = bufC k0 xs := by
  unfold bufR bufC; split <;> simp
@[simp] theorem xsOf_bufC (k0 : Nat) (xs : List Int) : xsOf (bufC k0 xs) = xs := by
  unfold bufC; split
  · rename_i h; rw [h]; rfl
  · simp
@[simp] theorem isI_bufC {k0 : Nat} {xs : List Int} (hl : xs.length ≤ top63) : IsI (bufC k0 xs) := by
  unfold bufC; split
  · exact isI_sl (xs := []) (.inl rfl) rfl (Nat.zero_le _)
  · exact isI_no hl
theorem Buf.len {E : Env} {h : Heap} {T key k0 t : Nat} {v : AV} {xs : List Int} (hB : Buf h T key k0 v xs) (ht : slT E t = true) : lenV E t v = some (.int .i64 xs.length) := by
  rcases hB with ⟨rfl, rfl⟩ | ⟨hx, g, rfl, hk⟩
  · rw [len_sl _ _ ht]; rfl
  · rw [len_sl _ _ ht]; simp
theorem Buf.keep {h h' : Heap} {T key k0 : Nat} {v : AV} {xs : List Int} (hB : Buf h T key k0 v xs) (hk : h' key = h key) : Buf h' T key k0 v xs := by
  rcases hB with ⟨rfl, rfl⟩ | ⟨hx, g, rfl, hg⟩
  · exact .inl ⟨rfl, rfl⟩
  · exact .inr ⟨hx, g, rfl, hk.trans hg⟩
theorem wa_ints' {E : Env} {h : Heap} {ko key k0 t k' : Nat} {v : AV} {o : Own} {es : List AV} {xs ys : List Int} {K : AV → Heap → Prop} (hB : Buf h (elT E t) key k0 v xs) (ht : slT E t = true) (hs : E.size (elT E t) = 1)
    (he : es = ints ys) (hy : ys ≠ []) (hko : xs = [] → ko = key) (hk : k' = 1) (hl : xs.length + ys.length ≤ 1073741824)
    (hK : ∀ v' h', Buf h' (elT E t) key k0 v' (xs ++ ys) → (∀ k, k ≠ key → h' k = h k) → K v' h') : WA E h ko t v (.sl k' o es) K ⟨⟩ := by
  subst he hk
  have hne : ints ys ≠ [] := by simpa using hy
  have hall : ((ints ys).all fun y => y.cells.length == 1 && y.cells.all AV.one) = true := by
    rw [List.all_eq_true]; intro y hyy
    simp only [ints, List.mem_map] at hyy
    obtain ⟨n, _, rfl⟩ := hyy
    rfl
  unfold WA
  rcases hB with ⟨rfl, rfl⟩ | ⟨hx, g, rfl, hg⟩
  · obtain rfl := hko rfl
    refine ⟨.sl 1 (.tok ko (nextG h ko)) (ints ys), hset h ko (.tok (nextG h ko) (elT E t) 1 ys.length), ?_, hK _ _ (.inr ⟨by simpa using hy, _, rfl, by simp [hset]⟩) (fun k hk => by simp [hset, hk])⟩
    simp only [appendV, slT_ty ht, elemsOf, hs]
    rw [if_neg (by decide), if_neg (by simpa using hne), if_pos ⟨.inl (by trivial), by trivial, by simpa [maxRow] using hl, hall⟩]
    simp
  · refine ⟨.sl 1 (.tok key g) (ints (xs ++ ys)), hset h key (.tok g (elT E t) 1 (xs ++ ys).length), ?_, hK _ _ (.inr ⟨by simp [hx], _, rfl, by simp [hset]⟩) (fun k hk => by simp [hset, hk])⟩
    simp only [appendV, slT_ty ht, elemsOf, hs]
    rw [if_neg (by decide), if_neg (by simpa using hne), if_pos ⟨.inr (by trivial), by trivial, by simpa [maxRow] using hl, hall⟩]
    simp [hg]
theorem wa_ints {E : Env} {h : Heap} {key k0 t k' : Nat} {v : AV} {o : Own} {es : List AV} {xs ys : List Int} {K : AV → Heap → Prop} (hB : Buf h (elT E t) key k0 v xs) (ht : slT E t = true) (hs : E.size (elT E t) = 1)
    (he : es = ints ys) (hy : ys ≠ []) (hk : k' = 1) (hl : xs.length + ys.length ≤ 1073741824)
    (hK : ∀ v' h', Buf h' (elT E t) key k0 v' (xs ++ ys) → (∀ k, k ≠ key → h' k = h k) → K v' h') : WA E h key t v (.sl k' o es) K ⟨⟩ :=
  wa_ints' hB ht hs he hy (fun _ => rfl) hk hl hK
theorem wa_push {E : Env} {h : Heap} {key k0 t : Nat} {v : AV} {o : Own} {x : Int} {xs : List Int} {K : AV → Heap → Prop} (hB : Buf h (elT E t) key k0 v xs) (ht : slT E t = true) (hs : E.size (elT E t) = 1) (hl : xs.length < 1073741824)
    (hK : ∀ v' h', Buf h' (elT E t) key k0 v' (xs ++ [x]) → (∀ k, k ≠ key → h' k = h k) → K v' h') : WA E h key t v (.sl 1 o [.int .i64 x]) K ⟨⟩ :=
  wa_ints hB ht hs (ys := [x]) rfl (by simp) rfl (by simp only [List.length_cons, List.length_nil]; omega) hK

theorem wa_push' {E : Env} {h : Heap} {ko key k0 t : Nat} {v : AV} {o : Own} {x : Int} {xs : List Int} {K : AV → Heap → Prop} (hB : Buf h (elT E t) key k0 v xs) (ht : slT E t = true) (hs : E.size (elT E t) = 1) (hko : xs = [] → ko = key) (hl : xs.length < 1073741824)
    (hK : ∀ v' h', Buf h' (elT E t) key k0 v' (xs ++ [x]) → (∀ k, k ≠ key → h' k = h k) → K v' h') : WA E h ko t v (.sl 1 o [.int .i64 x]) K ⟨⟩ :=
  wa_ints' hB ht hs (ys := [x]) rfl (by simp) hko rfl (by simp only [List.length_cons, List.length_nil]; omega) hK

/-- a list by its places -/
def tab (g : Nat → Int) (n : Nat) : List Int := (List.range n).map g
@[simp] theorem tab_length (g : Nat → Int) (n : Nat) : (tab g n).length = n := by simp [tab]
@[simp] theorem tab_zero (g : Nat → Int) : tab g 0 = [] := _root_.id rfl
theorem tab_succ (g : Nat → Int) (n : Nat) : tab g (n + 1) = tab g n ++ [g n] := by simp [tab, List.range_succ]
theorem tab_get (g : Nat → Int) {n j : Nat} (h : j < n) : (tab g n)[j]? = some (g j) := by simp [tab, h]
theorem tab_nth (g : Nat → Int) {n j : Nat} (h : j < n) : nth (tab g n) j = g j := by rw [nth_eq (by simpa using h)]; simp [tab]
theorem tab_eq {g : Nat → Int} {xs : List Int} {n : Nat} (hl : xs.length = n) (h : ∀ j, j < n → nth xs j = g j) : xs = tab g n := by
  apply List.ext_getElem?
  intro j
  by_cases hj : j < n
  · rw [tab_get g hj, nth_get? (by omega), h j hj]
  · rw [List.getElem?_eq_none (by omega), List.getElem?_eq_none (by simp; omega)]
theorem tab_congr {g g' : Nat → Int} {n : Nat} (h : ∀ j, j < n → g j = g' j) : tab g n = tab g' n := tab_eq (by simp) fun j hj => by rw [tab_nth g hj, h j hj]
theorem tab_nil {g : Nat → Int} {n : Nat} : tab g n = [] ↔ n = 0 := by simp [tab]
/-- a small number, shifted up -/
@[simp] theorem shl_small {k : IntKind} {a n : Int} (h0 : 0 ≤ n) (h : n ≤ 20) (ha : 0 ≤ a) (ha2 : a ≤ 1048576) : binV .shl (.int .i64 a) (.int k n) = some (.int .i64 (a * 2 ^ n.toNat)) := by
  rw [bin_shl _ _ _ _ h0]
  have e : min n.toNat (IntKind.bits .i64) = n.toNat := by simp [IntKind.bits]; omega
  have hl : (2 : Int) ^ n.toNat ≤ 2 ^ 20 := two_pow_le (by omega)
  have hp : (0 : Int) < 2 ^ n.toNat := Int.pow_pos (by decide)
  have h1 : a * 2 ^ n.toNat ≤ 1048576 * 2 ^ 20 := Int.mul_le_mul ha2 hl (Int.le_of_lt hp) (by decide)
  have h2 : 0 ≤ a * 2 ^ n.toNat := Int.mul_nonneg ha (Int.le_of_lt hp)
  rw [e, wrap_i64 (by omega) (by omega)]

end Go.Proofs.YthdeaenleimbeaaDoor.Ev
