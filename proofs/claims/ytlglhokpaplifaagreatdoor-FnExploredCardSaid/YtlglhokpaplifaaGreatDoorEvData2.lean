/- XEvData XEvMark XEvData2, joined. Conditions: none. -/
import Derived.Test.YtlglhokpaplifaaGreatDoorEvFrame
/- Slices that are read only, and lists of numbers. Conditions: none. -/
namespace Go.Proofs.YtlglhokpaplifaaGreatDoor.Ev
set_option linter.unusedVariables false
set_option linter.unusedSimpArgs false
set_option linter.unusedSectionVars false

def top63 : Nat := 9223372036854775807
theorem wrap_i64 {x : Int} (h1 : -9223372036854775808 ≤ x) (h2 : x ≤ 9223372036854775807) : IntKind.wrap .i64 x = x := by
  simp only [IntKind.wrap]
  first
  | (simp [IntKind.bits, IntKind.signed]; omega)
  | (unfold IntKind.wrap; simp [IntKind.bits, IntKind.signed]; omega)
theorem wrap_u64 {x : Int} (h1 : 0 ≤ x) (h2 : x ≤ 18446744073709551615) : IntKind.wrap .u64 x = x := by
  simp only [IntKind.wrap]
  first
  | (simp [IntKind.bits, IntKind.signed]; omega)
  | (unfold IntKind.wrap; simp [IntKind.bits, IntKind.signed]; omega)
/-- the next index -/
@[simp] theorem wrap_succ {i n : Nat} (h : i < n) (hn : n ≤ top63) : IntKind.wrap .i64 ((i : Int) + 1) = ((i + 1 : Nat) : Int) := by
  unfold top63 at hn
  rw [wrap_i64 (by omega) (by omega)]; rfl

theorem two_pow_le {a b : Nat} (h : a ≤ b) : (2 : Int) ^ a ≤ 2 ^ b := by
  have := Nat.pow_le_pow_right (n := 2) (by decide) h
  exact_mod_cast this
/-- one, shifted -/
@[simp] theorem shl_one {k : IntKind} {n : Int} (h0 : 0 ≤ n) (h : n ≤ 62) : binV .shl (.int .i64 1) (.int k n) = some (.int .i64 (2 ^ n.toNat)) := by
  rw [bin_shl _ _ _ _ h0]
  have e : min n.toNat (IntKind.bits .i64) = n.toNat := by simp [IntKind.bits]; omega
  have hl : (2 : Int) ^ n.toNat ≤ 2 ^ 62 := two_pow_le (by omega)
  have hp : (0 : Int) < 2 ^ n.toNat := Int.pow_pos (by decide)
  rw [e, Int.one_mul, wrap_i64 (by omega) (by omega)]
/-- a number, shifted down -/
@[simp] theorem shr_i64 {k : IntKind} {a n : Int} (h0 : 0 ≤ n) (h : n ≤ 62) : binV .shr (.int .i64 a) (.int k n) = some (.int .i64 (a / 2 ^ n.toNat)) := by
  rw [bin_shr _ _ _ _ h0]
  have e : min n.toNat (IntKind.bits .i64) = n.toNat := by simp [IntKind.bits]; omega
  have hp : (0 : Int) < 2 ^ n.toNat := Int.pow_pos (by decide)
  rw [e, Int.fdiv_eq_ediv_of_nonneg _ (Int.le_of_lt hp)]
theorem pow8 {n : Int} (h : n ≤ 8) : (2 : Int) ^ n.toNat ≤ 256 := by
  have : (2 : Int) ^ n.toNat ≤ 2 ^ 8 := two_pow_le (by omega)
  omega
theorem pow_pos2 (n : Nat) : (0 : Int) < 2 ^ n := Int.pow_pos (by decide)
@[simp] theorem wrap_pow1 {n : Int} (h : n ≤ 8) : IntKind.wrap .i64 (2 ^ n.toNat - 1) = 2 ^ n.toNat - 1 := by
  have := pow8 h
  have := pow_pos2 n.toNat
  rw [wrap_i64 (by omega) (by omega)]

def Own.safe : Own → Bool
  | .no | .lit | .brw => true
  | _ => false
def esOf : AV → List AV
  | .sl _ _ es => es
  | _ => []
@[simp] theorem esOf_sl (k : Nat) (o : Own) (es : List AV) : esOf (.sl k o es) = es := _root_.id rfl
/-- A slice to read, of elements of sz cells. -/
structure IsL (sz : Nat) (v : AV) : Prop where
  len : (esOf v).length ≤ top63
  ok : ∃ k o es, v = .sl k o es ∧ (es = [] ∨ k = sz) ∧ o.safe = true
  cells : ∀ e ∈ esOf v, e.cells.length = sz ∧ e.cells.all AV.one = true

/-- the element's place -/
def elP (v : AV) (n : Nat) : AV := match v with
  | .sl _ o es => .cp (o == .brw) ((es.getD n .un).cells) 0
  | _ => .un

theorem isL_low {sz : Nat} {v : AV} (hv : IsL sz v) (h : Heap) : low h v = v := by
  obtain ⟨k, o, es, rfl, _, ho⟩ := hv.ok
  cases o <;> simp [Own.safe] at ho <;> simp
theorem isL_low0 {sz : Nat} {v : AV} (hv : IsL sz v) : low0 v = v := by
  obtain ⟨k, o, es, rfl, _, ho⟩ := hv.ok
  cases o <;> simp [Own.safe] at ho <;> simp [low0]
theorem isL_noEx {sz : Nat} {v : AV} (hv : IsL sz v) : noEx v = v := by
  obtain ⟨k, o, es, rfl, _, ho⟩ := hv.ok
  cases o <;> simp [Own.safe] at ho <;> simp [noEx]
theorem isL_cells {sz : Nat} {v : AV} (hv : IsL sz v) : v.cells = [v] ∧ v.one = true := by
  obtain ⟨k, o, es, rfl, _, ho⟩ := hv.ok
  exact ⟨rfl, rfl⟩
theorem isL_len {E : Env} {sz t : Nat} {v : AV} (hv : IsL sz v) (ht : slT E t = true) : lenV E t v = some (.int .i64 (esOf v).length) := by
  obtain ⟨k, o, es, rfl, _, ho⟩ := hv.ok
  simp only [lenV, slT_ty ht, esOf]
theorem isL_index {E : Env} {h : Heap} {sz t : Nat} {v : AV} {kd : IntKind} {n : Int} (hv : IsL sz v) (ht : slT E t = true) (hs : E.size (elT E t) = sz) (hz : sz ≠ 0) (h0 : 0 ≤ n) (h1 : n < (esOf v).length) :
    indexA E h t v (.int kd n) = some (elP v n.toNat) := by
  obtain ⟨k, o, es, rfl, hk, ho⟩ := hv.ok
  simp only [esOf] at h1
  have hn : n.toNat < es.length := by omega
  have hne : es ≠ [] := fun e => by rw [e] at hn; simp at hn
  have hk : k = sz := hk.resolve_left hne
  have hc := (hv.cells (es[n.toNat]'hn) (List.getElem_mem hn)).1
  simp only [indexA, h0, if_true, slT_ty ht, hs, hz, if_false, elP]
  rw [List.getElem?_eq_getElem hn]
  simp only [hc, and_self, if_true, hk, List.getD_eq_getElem?_getD, List.getElem?_eq_getElem hn, Option.getD_some]
theorem elP_load {E : Env} {h : Heap} {sz t : Nat} {v : AV} {n : Nat} (hv : IsL sz v) : loadV E h t (elP v n) = partOf E t ((esOf v).getD n .un).cells 0 := by
  obtain ⟨k, o, es, rfl, _, ho⟩ := hv.ok
  rfl

/- numbers -/
def ints (xs : List Int) : List AV := xs.map (AV.int .i64)
def toI : AV → Int
  | .int _ n => n
  | _ => 0
def xsOf (v : AV) : List Int := (esOf v).map toI
@[simp] theorem toI_int (k : IntKind) (n : Int) : toI (.int k n) = n := _root_.id rfl
@[simp] theorem ints_nil : ints [] = [] := _root_.id rfl
@[simp] theorem ints_cons (x : Int) (xs : List Int) : ints (x :: xs) = .int .i64 x :: ints xs := _root_.id rfl
@[simp] theorem ints_append (xs ys : List Int) : ints (xs ++ ys) = ints xs ++ ints ys := by simp [ints]
@[simp] theorem ints_length (xs : List Int) : (ints xs).length = xs.length := by simp [ints]
@[simp] theorem map_toI_ints (xs : List Int) : (ints xs).map toI = xs := by
  induction xs with
  | nil => rfl
  | cons x xs ih => simp [ih]
@[simp] theorem ints_eq_nil (xs : List Int) : ints xs = [] ↔ xs = [] := by cases xs <;> simp
@[simp] theorem xsOf_ints (k : Nat) (o : Own) (xs : List Int) : xsOf (.sl k o (ints xs)) = xs := by simp [xsOf]
@[simp] theorem xsOf_nil (k : Nat) (o : Own) : xsOf (.sl k o []) = [] := _root_.id rfl
@[simp] theorem stabs_ints (xs : List Int) : stabs (ints xs) = true := by
  induction xs with
  | nil => rfl
  | cons x xs ih => simp [stabs, stab, ih]
@[simp] theorem low0s_ints (xs : List Int) : low0s (ints xs) = ints xs := by
  induction xs with
  | nil => rfl
  | cons x xs ih => simp [low0s, low0, ih]

/-- the number at a place -/
def nth (xs : List Int) (n : Nat) : Int := xs.getD n 0
theorem nth_eq {xs : List Int} {n : Nat} (h : n < xs.length) : nth xs n = xs[n] := by simp [nth, h]
theorem nth_get? {xs : List Int} {n : Nat} (h : n < xs.length) : xs[n]? = some (nth xs n) := by rw [nth_eq h]; simp [h]
@[simp] theorem ints_nth (xs : List Int) (i : Nat) (h : i < xs.length) : (ints xs)[i]? = some (.int .i64 (nth xs i)) := by simp [ints, nth_eq h, h]
theorem ints_get? (xs : List Int) (i : Nat) : (ints xs)[i]? = (xs[i]?).map (AV.int .i64) := by simp [ints]
@[simp] theorem ints_set (xs : List Int) (i : Nat) (x : Int) : (ints xs).set i (.int .i64 x) = ints (xs.set i x) := by simp [ints, List.map_set]
@[simp] theorem ints_replicate (n : Nat) (x : Int) : List.replicate n (AV.int .i64 x) = ints (List.replicate n x) := by simp [ints]
@[simp] theorem ints_drop (xs : List Int) (n : Nat) : (ints xs).drop n = ints (xs.drop n) := by simp [ints]
@[simp] theorem ints_take (xs : List Int) (n : Nat) : (ints xs).take n = ints (xs.take n) := by simp [ints]
@[simp] theorem ints_inj (xs ys : List Int) : ints xs = ints ys ↔ xs = ys := by
  constructor
  · intro h; have := congrArg (List.map toI) h; simpa using this
  · rintro rfl; rfl
@[simp] theorem ints_flat (xs : List Int) : (ints xs).all flat = true := by
  induction xs with
  | nil => rfl
  | cons x xs ih => simp only [ints_cons, List.all_cons, ih, Bool.and_true]; rfl
@[simp] theorem ints_getElem (xs : List Int) (i : Nat) (h : i < (ints xs).length) : (ints xs)[i] = .int .i64 (nth xs i) := by rw [nth_eq (by simpa using h)]; simp [ints]
/-- a row, handed back -/
def rowR (k T key : Nat) (es : List AV) : AV := if es = [] then .sl k .no [] else .sl k (.ex T key) es
@[simp] theorem rowR_noEx (k T key : Nat) (es : List AV) : noEx (rowR k T key es) = .sl k .no es := by
  unfold rowR; split
  · rename_i h; rw [h]; simp [noEx]
  · simp [noEx]
theorem expo_row {h : Heap} {key g T k n : Nat} {es : List AV} (hk : h key = some (.row g T k es)) (hs : stabs es = true) (hl : low0s es = es) (hn : es.length = n) : expo h (.ms key g 0 n) = rowR k T key es := by
  subst hn
  simp only [expo, hk, hs, Nat.zero_add, Nat.le_refl, and_self, if_true, true_and, ne_eq, hl, rowR, List.drop_zero, List.take_length]
  by_cases he : es = [] <;> simp [he]
@[simp] theorem expo_ints {h : Heap} {key g T k n : Nat} {xs : List Int} (hn : xs.length = n) : expo (hset h key (.row g T k (ints xs))) (.ms key g 0 n) = rowR k T key (ints xs) :=
  expo_row (by simp [hset]) (by simp) (by simp) (by simpa using hn)
structure IsI (v : AV) : Prop where
  l : IsL 1 v
  ints : esOf v = ints (xsOf v)
theorem IsI.len {v : AV} (hv : IsI v) : (xsOf v).length ≤ top63 := by have := hv.l.len; rw [hv.ints] at this; simpa using this
theorem isI_sl {k : Nat} {o : Own} {xs : List Int} (hk : xs = [] ∨ k = 1) (ho : o.safe = true) (hl : xs.length ≤ top63) : IsI (.sl k o (ints xs)) where
  l := { len := by simpa using hl, ok := ⟨k, o, _, rfl, by simpa using hk, ho⟩, cells := fun e he => by
          simp only [esOf_sl, Ev.ints, List.mem_map] at he
          obtain ⟨n, _, rfl⟩ := he
          exact ⟨rfl, rfl⟩ }
  ints := by simp
@[simp] theorem isI_no {xs : List Int} (hl : xs.length ≤ top63) : IsI (.sl 1 .no (ints xs)) := isI_sl (.inr rfl) rfl hl
@[simp] theorem isI_lit1 {xs : List Int} (hl : xs.length ≤ top63) : IsI (.sl 1 .lit (ints xs)) := isI_sl (.inr rfl) rfl hl
@[simp] theorem isI_lit : IsI (.sl 0 .lit []) := isI_sl (xs := []) (.inl rfl) rfl (Nat.zero_le _)
theorem isI_low {v : AV} (hv : IsI v) (h : Heap) : low h v = v := isL_low hv.l h
theorem isI_low0 {v : AV} (hv : IsI v) : low0 v = v := isL_low0 hv.l
theorem isI_noEx {v : AV} (hv : IsI v) : noEx v = v := isL_noEx hv.l
theorem isI_cells {v : AV} (hv : IsI v) : v.cells = [v] := (isL_cells hv.l).1
theorem isI_one {v : AV} (hv : IsI v) : v.one = true := (isL_cells hv.l).2
theorem isI_len {E : Env} {t : Nat} {v : AV} (hv : IsI v) (ht : slT E t = true) : lenV E t v = some (.int .i64 (xsOf v).length) := by
  rw [isL_len hv.l ht, hv.ints]; simp
theorem isI_index {E : Env} {h : Heap} {t : Nat} {v : AV} {kd : IntKind} {n : Int} (hv : IsI v) (ht : slT E t = true) (hs : E.size (elT E t) = 1) (h0 : 0 ≤ n) (h1 : n < (xsOf v).length) :
    indexA E h t v (.int kd n) = some (elP v n.toNat) := isL_index hv.l ht hs (by decide) h0 (by rw [hv.ints]; simpa using h1)
theorem isI_load {E : Env} {h : Heap} {t : Nat} {v : AV} {n : Nat} (hv : IsI v) (ht : E.ty t = .int .i64) (hn : n < (xsOf v).length) : loadV E h t (elP v n) = some (.int .i64 (nth (xsOf v) n)) := by
  rw [elP_load hv.l, hv.ints]
  simp [ints, hn, ht, partOf, AV.cells, nth]

/- rows that are appended to -/
/-- A row of numbers that began empty and that grows at one place. -/
def Buf (h : Heap) (T key k0 : Nat) (v : AV) (xs : List Int) : Prop :=
  (xs = [] ∧ v = .sl k0 .lit []) ∨ (xs ≠ [] ∧ ∃ g, v = .sl 1 (.tok key g) (ints xs) ∧ h key = some (.tok g T 1 xs.length))
/-- such a row, handed back -/
def bufR (T key k0 : Nat) (xs : List Int) : AV := if xs = [] then .sl k0 .lit [] else .sl 1 (.ex T key) (ints xs)
@[simp] theorem bufR_nil (T key k0 : Nat) : bufR T key k0 [] = .sl k0 .lit [] := by simp [bufR]
/-- such a row, in the caller -/
def bufC (k0 : Nat) (xs : List Int) : AV := if xs = [] then .sl k0 .lit [] else .sl 1 .no (ints xs)
theorem buf_nil (h : Heap) (T key k0 : Nat) : Buf h T key k0 (.sl k0 .lit []) [] := .inl ⟨rfl, rfl⟩
theorem Buf.expo {h : Heap} {T key k0 : Nat} {v : AV} {xs : List Int} (hB : Buf h T key k0 v xs) : Ev.expo h v = bufR T key k0 xs := by
  rcases hB with ⟨rfl, rfl⟩ | ⟨hx, g, rfl, hk⟩
  · simp [bufR]
  · simp [bufR, hx, Ev.expo, hk]
@[simp] theorem bufR_noEx (T key k0 : Nat) (xs : List Int) : noEx (bufR T key k0 xs) = bufC k0 xs := by
  unfold bufR bufC; split <;> simp
@[simp] theorem xsOf_bufC (k0 : Nat) (xs : List Int) : xsOf (bufC k0 xs) = xs := by
  unfold bufC; split
  · rename_i h; rw [h]; rfl
  · simp
@[simp] theorem isI_bufC {k0 : Nat} {xs : List Int} (hl : xs.length ≤ top63) : IsI (bufC k0 xs) := by
  unfold bufC; split
  · exact isI_sl (xs := []) (.inl rfl) rfl (Nat.zero_le _)
  · exact isI_no hl
theorem Buf.len {E : Env} {h : Heap} {T key k0 t : Nat} {v : AV} {xs : List Int} (hB : Buf h T key k0 v xs) (ht : slT E t = true) : lenV E t v = some (.int .i64 xs.length) := by
  rcases hB with ⟨rfl, rfl⟩ | ⟨hx, g, rfl, hk⟩
  · rw [len_sl _ _ ht]; rfl
  · rw [len_sl _ _ ht]; simp
theorem Buf.keep {h h' : Heap} {T key k0 : Nat} {v : AV} {xs : List Int} (hB : Buf h T key k0 v xs) (hk : h' key = h key) : Buf h' T key k0 v xs := by
  rcases hB with ⟨rfl, rfl⟩ | ⟨hx, g, rfl, hg⟩
  · exact .inl ⟨rfl, rfl⟩
  · exact .inr ⟨hx, g, rfl, hk.trans hg⟩
theorem elemsOf_st {h : Heap} {k : Nat} {o : Own} {ys : List AV} (hs : stabs ys = true) : elemsOf h (.sl k o ys) = some (k, ys) := by cases o <;> simp [elemsOf, hs]
theorem wa_ints' {E : Env} {h : Heap} {ko key k0 t k' : Nat} {v : AV} {o : Own} {es : List AV} {xs ys : List Int} {K : AV → Heap → Prop} (hB : Buf h (elT E t) key k0 v xs) (ht : slT E t = true) (hs : E.size (elT E t) = 1)
    (he : es = ints ys) (hy : ys ≠ []) (hko : xs = [] → ko = key) (hk : k' = 1) (hl : xs.length + ys.length ≤ 1073741824)
    (hK : ∀ v' h', Buf h' (elT E t) key k0 v' (xs ++ ys) → (∀ k, k ≠ key → h' k = h k) → K v' h') : WA E h ko t v (.sl k' o es) K ⟨⟩ := by
  subst he hk
  have hne : ints ys ≠ [] := by simpa using hy
  have hall : ((ints ys).all fun y => y.cells.length == 1 && y.cells.all AV.one) = true := by
    rw [List.all_eq_true]; intro y hyy
    simp only [ints, List.mem_map] at hyy
    obtain ⟨n, _, rfl⟩ := hyy
    rfl
  unfold WA
  rcases hB with ⟨rfl, rfl⟩ | ⟨hx, g, rfl, hg⟩
  · obtain rfl := hko rfl
    refine ⟨.sl 1 (.tok ko (nextG h ko)) (ints ys), hset h ko (.tok (nextG h ko) (elT E t) 1 ys.length), ?_, hK _ _ (.inr ⟨by simpa using hy, _, rfl, by simp [hset]⟩) (fun k hk => by simp [hset, hk])⟩
    simp only [appendV, slT_ty ht, elemsOf_st (stabs_ints _), hs]
    rw [if_neg (by decide), if_neg (by simpa using hne), if_pos ⟨.inl (by trivial), by trivial, by simpa [maxRow] using hl, hall⟩]
    simp
  · refine ⟨.sl 1 (.tok key g) (ints (xs ++ ys)), hset h key (.tok g (elT E t) 1 (xs ++ ys).length), ?_, hK _ _ (.inr ⟨by simp [hx], _, rfl, by simp [hset]⟩) (fun k hk => by simp [hset, hk])⟩
    simp only [appendV, slT_ty ht, elemsOf_st (stabs_ints _), hs]
    rw [if_neg (by decide), if_neg (by simpa using hne), if_pos ⟨.inr (by trivial), by trivial, by simpa [maxRow] using hl, hall⟩]
    simp [hg]
theorem wa_ints {E : Env} {h : Heap} {key k0 t k' : Nat} {v : AV} {o : Own} {es : List AV} {xs ys : List Int} {K : AV → Heap → Prop} (hB : Buf h (elT E t) key k0 v xs) (ht : slT E t = true) (hs : E.size (elT E t) = 1)
    (he : es = ints ys) (hy : ys ≠ []) (hk : k' = 1) (hl : xs.length + ys.length ≤ 1073741824)
    (hK : ∀ v' h', Buf h' (elT E t) key k0 v' (xs ++ ys) → (∀ k, k ≠ key → h' k = h k) → K v' h') : WA E h key t v (.sl k' o es) K ⟨⟩ :=
  wa_ints' hB ht hs he hy (fun _ => rfl) hk hl hK
theorem wa_push {E : Env} {h : Heap} {key k0 t : Nat} {v : AV} {o : Own} {x : Int} {xs : List Int} {K : AV → Heap → Prop} (hB : Buf h (elT E t) key k0 v xs) (ht : slT E t = true) (hs : E.size (elT E t) = 1) (hl : xs.length < 1073741824)
    (hK : ∀ v' h', Buf h' (elT E t) key k0 v' (xs ++ [x]) → (∀ k, k ≠ key → h' k = h k) → K v' h') : WA E h key t v (.sl 1 o [.int .i64 x]) K ⟨⟩ :=
  wa_ints hB ht hs (ys := [x]) rfl (by simp) rfl (by simp only [List.length_cons, List.length_nil]; omega) hK

theorem wa_push' {E : Env} {h : Heap} {ko key k0 t : Nat} {v : AV} {o : Own} {x : Int} {xs : List Int} {K : AV → Heap → Prop} (hB : Buf h (elT E t) key k0 v xs) (ht : slT E t = true) (hs : E.size (elT E t) = 1) (hko : xs = [] → ko = key) (hl : xs.length < 1073741824)
    (hK : ∀ v' h', Buf h' (elT E t) key k0 v' (xs ++ [x]) → (∀ k, k ≠ key → h' k = h k) → K v' h') : WA E h ko t v (.sl 1 o [.int .i64 x]) K ⟨⟩ :=
  wa_ints' hB ht hs (ys := [x]) rfl (by simp) hko rfl (by simp only [List.length_cons, List.length_nil]; omega) hK

/-- a list by its places -/
def tab (g : Nat → Int) (n : Nat) : List Int := (List.range n).map g
@[simp] theorem tab_length (g : Nat → Int) (n : Nat) : (tab g n).length = n := by simp [tab]
@[simp] theorem tab_zero (g : Nat → Int) : tab g 0 = [] := _root_.id rfl
theorem tab_succ (g : Nat → Int) (n : Nat) : tab g (n + 1) = tab g n ++ [g n] := by simp [tab, List.range_succ]
theorem tab_get (g : Nat → Int) {n j : Nat} (h : j < n) : (tab g n)[j]? = some (g j) := by simp [tab, h]
theorem tab_nth (g : Nat → Int) {n j : Nat} (h : j < n) : nth (tab g n) j = g j := by rw [nth_eq (by simpa using h)]; simp [tab]
theorem tab_eq {g : Nat → Int} {xs : List Int} {n : Nat} (hl : xs.length = n) (h : ∀ j, j < n → nth xs j = g j) : xs = tab g n := by
  apply List.ext_getElem?
  intro j
  by_cases hj : j < n
  · rw [tab_get g hj, nth_get? (by omega), h j hj]
  · rw [List.getElem?_eq_none (by omega), List.getElem?_eq_none (by simp; omega)]
theorem tab_congr {g g' : Nat → Int} {n : Nat} (h : ∀ j, j < n → g j = g' j) : tab g n = tab g' n := tab_eq (by simp) fun j hj => by rw [tab_nth g hj, h j hj]
theorem tab_nil {g : Nat → Int} {n : Nat} : tab g n = [] ↔ n = 0 := by simp [tab]
/-- a small number, shifted up -/
@[simp] theorem shl_small {k : IntKind} {a n : Int} (h0 : 0 ≤ n) (h : n ≤ 20) (ha : 0 ≤ a) (ha2 : a ≤ 1048576) : binV .shl (.int .i64 a) (.int k n) = some (.int .i64 (a * 2 ^ n.toNat)) := by
  rw [bin_shl _ _ _ _ h0]
  have e : min n.toNat (IntKind.bits .i64) = n.toNat := by simp [IntKind.bits]; omega
  have hl : (2 : Int) ^ n.toNat ≤ 2 ^ 20 := two_pow_le (by omega)
  have hp : (0 : Int) < 2 ^ n.toNat := Int.pow_pos (by decide)
  have h1 : a * 2 ^ n.toNat ≤ 1048576 * 2 ^ 20 := Int.mul_le_mul ha2 hl (Int.le_of_lt hp) (by decide)
  have h2 : 0 ≤ a * 2 ^ n.toNat := Int.mul_nonneg ha (Int.le_of_lt hp)
  rw [e, wrap_i64 (by omega) (by omega)]

end Go.Proofs.YtlglhokpaplifaaGreatDoor.Ev
/- Rows of one's own that come from a call, and calls that write the caller's rows. Conditions: none. -/
namespace Go.Proofs.YtlglhokpaplifaaGreatDoor.Ev
set_option linter.unusedVariables false
set_option linter.unusedSimpArgs false
set_option linter.unusedSectionVars false

@[simp] theorem eff_wrn : (Eff.write != Eff.read) = true := _root_.id rfl
@[simp] theorem eff_prn : (Eff.pure != Eff.read) = true := _root_.id rfl
@[simp] theorem eff_rrn : (Eff.read != Eff.read) = false := _root_.id rfl
/-- a row of one's own, of elements es -/
def Row (h : Heap) (key T k k0 : Nat) (v : AV) (es : List AV) : Prop :=
  (es = [] ∧ v = .sl k0 .no []) ∨ (es ≠ [] ∧ ∃ g, v = .ms key g 0 es.length ∧ h key = some (.row g T k es))
theorem Row.keep {h h' : Heap} {key T k k0 : Nat} {v : AV} {es : List AV} (hR : Row h key T k k0 v es) (hk : h' key = h key) : Row h' key T k k0 v es := by
  rcases hR with ⟨rfl, rfl⟩ | ⟨hx, g, rfl, hg⟩
  · exact .inl ⟨rfl, rfl⟩
  · exact .inr ⟨hx, g, rfl, hk.trans hg⟩
theorem Row.len {E : Env} {h : Heap} {key T k k0 t : Nat} {v : AV} {es : List AV} (hR : Row h key T k k0 v es) (ht : slT E t = true) : lenV E t v = some (.int .i64 es.length) := by
  rcases hR with ⟨rfl, rfl⟩ | ⟨hx, g, rfl, hg⟩
  · rw [len_sl _ _ ht]
  · rw [len_ms _ _ ht]
theorem Row.one {h : Heap} {key T k k0 : Nat} {v : AV} {es : List AV} (hR : Row h key T k k0 v es) : v.one = true := by
  rcases hR with ⟨rfl, rfl⟩ | ⟨hx, g, rfl, hg⟩ <;> rfl
theorem Row.cells {h : Heap} {key T k k0 : Nat} {v : AV} {es : List AV} (hR : Row h key T k k0 v es) : v.cells = [v] := by
  rcases hR with ⟨rfl, rfl⟩ | ⟨hx, g, rfl, hg⟩ <;> rfl
/-- such a row, handed on -/
def rowB (k k0 : Nat) (es : List AV) : AV := if es = [] then .sl k0 .no [] else .sl k .brw es
theorem Row.low {h : Heap} {key T k k0 : Nat} {v : AV} {es : List AV} (hR : Row h key T k k0 v es) (hs : stabs es = true) (hl : low0s es = es) : Ev.low h v = rowB k k0 es := by
  rcases hR with ⟨rfl, rfl⟩ | ⟨hx, g, rfl, hg⟩
  · simp [rowB]
  · simp only [Ev.low, hg, Nat.zero_add, Nat.le_refl, true_and, hs, and_self, if_true, List.drop_zero, List.take_length, hl, rowB, hx, if_false]
theorem Row.lowI {h : Heap} {key T k k0 : Nat} {v : AV} {xs : List Int} (hR : Row h key T k k0 v (ints xs)) : Ev.low h v = rowB k k0 (ints xs) := hR.low (by simp) (by simp)
@[simp] theorem isI_rowB {k0 : Nat} {xs : List Int} (hl : xs.length ≤ top63) : IsI (rowB 1 k0 (ints xs)) := by
  unfold rowB; split
  · exact isI_sl (xs := []) (.inl rfl) rfl (Nat.zero_le _)
  · exact isI_sl (.inr rfl) rfl hl
@[simp] theorem xsOf_rowB {k k0 : Nat} {xs : List Int} : xsOf (rowB k k0 (ints xs)) = xs := by
  unfold rowB; split
  · rename_i h; rw [show xs = [] by simpa using h]; rfl
  · simp
/-- such a row, handed back -/
def rowX (k k0 T key : Nat) (es : List AV) : AV := if es = [] then .sl k0 .no [] else .sl k (.ex T key) es
@[simp] theorem rowX_row (k T key : Nat) (es : List AV) : rowX k k T key es = rowR k T key es := by
  unfold rowX rowR; split <;> rfl
/-- such a row, by value -/
def rowN (k k0 : Nat) (es : List AV) : AV := if es = [] then .sl k0 .no [] else .sl k .no es
@[simp] theorem rowX_noEx (k k0 T key : Nat) (es : List AV) : noEx (rowX k k0 T key es) = rowN k k0 es := by
  unfold rowX rowN; split <;> simp [noEx]
@[simp] theorem isI_rowN {k0 : Nat} {xs : List Int} (hl : xs.length ≤ top63) : IsI (rowN 1 k0 (ints xs)) := by
  unfold rowN; split
  · exact isI_sl (xs := []) (.inl rfl) rfl (Nat.zero_le _)
  · exact isI_sl (.inr rfl) rfl hl
@[simp] theorem xsOf_rowN {k k0 : Nat} {xs : List Int} : xsOf (rowN k k0 (ints xs)) = xs := by
  unfold rowN; split
  · rename_i h; rw [show xs = [] by simpa using h]; rfl
  · simp
@[simp] theorem one_rowN (k k0 : Nat) (es : List AV) : (rowN k k0 es).one = true := by unfold rowN; split <;> rfl
@[simp] theorem cells_rowN (k k0 : Nat) (es : List AV) : (rowN k k0 es).cells = [rowN k k0 es] := by unfold rowN; split <;> rfl
@[simp] theorem low_rowN (h : Heap) (k k0 : Nat) (es : List AV) : Ev.low h (rowN k k0 es) = rowN k k0 es := by unfold rowN; split <;> simp
@[simp] theorem noEx_rowN (k k0 : Nat) (es : List AV) : noEx (rowN k k0 es) = rowN k k0 es := by unfold rowN; split <;> simp
@[simp] theorem expo_rowN (h : Heap) (k k0 : Nat) (es : List AV) : Ev.expo h (rowN k k0 es) = rowN k k0 es := by unfold rowN; split <;> simp
@[simp] theorem hasKey_rowN (κ k k0 : Nat) (es : List AV) : hasKey κ (rowN k k0 es) = false := by unfold rowN; split <;> simp
theorem Row.expo {h : Heap} {key T k k0 : Nat} {v : AV} {es : List AV} (hR : Row h key T k k0 v es) (hs : stabs es = true) (hl : low0s es = es) : Ev.expo h v = rowX k k0 T key es := by
  rcases hR with ⟨rfl, rfl⟩ | ⟨hx, g, rfl, hg⟩
  · simp [rowX]
  · simp only [Ev.expo, hg, Nat.zero_add, Nat.le_refl, and_self, if_true, true_and, hs, ne_eq, hx, not_false_eq_true, hl, rowX, if_false]
theorem Row.expoI {h : Heap} {key T k k0 : Nat} {v : AV} {xs : List Int} (hR : Row h key T k k0 v (ints xs)) : Ev.expo h v = rowX k k0 T key (ints xs) := hR.expo (by simp) (by simp)

/- taking rows over -/
/-- a row that a call hands back: made there, or grown there -/
def OwnR (R : AV) (k k0 T key : Nat) (es : List AV) : Prop := (es = [] ∧ (R = .sl k0 .no [] ∨ R = .sl k0 .lit [])) ∨ (es ≠ [] ∧ R = .sl k (.ex T key) es)
theorem ownR_row (k T key : Nat) (es : List AV) : OwnR (rowR k T key es) k k T key es := by
  unfold rowR OwnR; split
  · rename_i h; exact .inl ⟨h, .inl rfl⟩
  · rename_i h; exact .inr ⟨h, rfl⟩
theorem ownR_rowX (k k0 T key : Nat) (es : List AV) : OwnR (rowX k k0 T key es) k k0 T key es := by
  unfold rowX OwnR; split
  · rename_i h; exact .inl ⟨h, .inl rfl⟩
  · rename_i h; exact .inr ⟨h, rfl⟩
theorem ownR_buf (T key k0 : Nat) (xs : List Int) : OwnR (bufR T key k0 xs) 1 k0 T key (ints xs) := by
  unfold bufR OwnR; split
  · rename_i h; exact .inl ⟨by simp [h], .inr rfl⟩
  · rename_i h; exact .inr ⟨by simpa using h, rfl⟩
theorem ownR_nil (k k0 T key : Nat) : OwnR (.sl k0 .lit []) k k0 T key [] := .inl ⟨rfl, .inr rfl⟩
theorem ownR_nil2 (k k0 T key : Nat) : OwnR (.sl k0 .no []) k k0 T key [] := .inl ⟨rfl, .inl rfl⟩

/-- what a part comes to: a value, blocks -/
def RowL (base n key T k k0 : Nat) (g : Nat) (v : AV) (L : List (Nat × Nat × Blk)) (es : List AV) : Prop :=
  (es = [] ∧ v = .sl k0 .no [] ∧ L = []) ∨ (es ≠ [] ∧ v = .ms (base + 1000 * n) g 0 es.length ∧ L = [(base + 1000 * n, key, .row g T k es)])
theorem matG_row {base n : Nat} {h : Heap} {R : AV} {k k0 T key : Nat} {es : List AV} (hR : OwnR R k k0 T key es) (hf : es.all flat = true) :
    ∃ v L, matG base h R n = some (v, L, n + 1) ∧ RowL base n key T k k0 (nextG h (base + 1000 * n)) v L es := by
  rcases hR with ⟨rfl, rfl | rfl⟩ | ⟨hx, rfl⟩
  · exact ⟨.sl k0 .no [], [], by simp only [matG, List.isEmpty_nil, if_true], .inl ⟨rfl, rfl, rfl⟩⟩
  · exact ⟨.sl k0 .no [], [], by simp only [matG, List.isEmpty_nil, if_true], .inl ⟨rfl, rfl, rfl⟩⟩
  · exact ⟨_, _, by simp only [matG, hf, if_true], .inr ⟨hx, rfl, rfl⟩⟩
theorem RowL.row {base n key T k k0 g : Nat} {v : AV} {L : List (Nat × Nat × Blk)} {es : List AV} (hL : RowL base n key T k k0 g v L es) {h : Heap} (hh : ∀ p ∈ L, h p.1 = some p.2.2) :
    Row h (base + 1000 * n) T k k0 v es := by
  rcases hL with ⟨rfl, rfl, rfl⟩ | ⟨hx, rfl, rfl⟩
  · exact .inl ⟨rfl, rfl⟩
  · exact .inr ⟨hx, _, rfl, hh _ (List.mem_singleton.2 rfl)⟩

theorem hsets_at : ∀ {L : List (Nat × Nat × Blk)} {h : Heap}, (L.map fun p => p.1).Nodup → ∀ p ∈ L, hsets h L p.1 = some p.2.2
  | [], _, _, p, hp => by cases hp
  | q :: L, h, hn, p, hp => by
    simp only [List.map_cons, List.nodup_cons] at hn
    rcases List.mem_cons.1 hp with rfl | hp
    · simp [hsets, hset]
    · have hne : p.1 ≠ q.1 := fun e => hn.1 (List.mem_map.2 ⟨p, hp, e⟩)
      simpa [hsets, hset, hne] using hsets_at hn.2 p hp
theorem hsets_off : ∀ {L : List (Nat × Nat × Blk)} {h : Heap} {x : Nat}, (∀ p ∈ L, p.1 ≠ x) → hsets h L x = h x
  | [], _, _, _ => rfl
  | q :: L, h, x, hx => by
    have hne : x ≠ q.1 := fun e => hx q (List.mem_cons_self ..) e.symm
    simpa [hsets, hset, hne] using hsets_off (L := L) (h := h) (x := x) fun p hp => hx p (List.mem_cons_of_mem _ hp)

/-- one row, two rows -/
theorem mat3_one {base : Nat} {h : Heap} {r : AV} {v : AV} {C : AV → AV} {R : AV} {k k0 T key n' : Nat} {es : List AV} (hR : OwnR R k k0 T key es) (hf : es.all flat = true)
    (hC : ∀ v L, matG base h R 0 = some (v, L, 1) → matG base h r 0 = some (C v, L, 1)) :
    ∃ v' h', mat3 base h r = some (C v', h') ∧ Row h' base T k k0 v' es ∧ ∀ x, x ≠ base → h' x = h x := by
  obtain ⟨v, L, h1, h2⟩ := matG_row (base := base) (h := h) (n := 0) hR hf
  refine ⟨v, hsets h L, ?_, ?_, ?_⟩
  · unfold mat3
    rw [hC v L h1]
    rcases h2 with ⟨_, _, rfl⟩ | ⟨_, _, rfl⟩ <;> simp
  · refine (h2.row (h := hsets h L) (hsets_at ?_))
    rcases h2 with ⟨_, _, rfl⟩ | ⟨_, _, rfl⟩ <;> simp
  · intro x hx
    refine hsets_off fun p hp => ?_
    rcases h2 with ⟨_, _, rfl⟩ | ⟨_, _, rfl⟩
    · cases hp
    · obtain rfl := List.mem_singleton.1 hp
      exact fun e => hx e.symm
theorem mat3_two {base : Nat} {h : Heap} {r : AV} {C : AV → AV → AV} {R R2 : AV} {k k0 T key k2 k02 T2 key2 : Nat} {es es2 : List AV} (hR : OwnR R k k0 T key es) (hf : es.all flat = true) (hR2 : OwnR R2 k2 k02 T2 key2 es2) (hf2 : es2.all flat = true) (hne : key ≠ key2)
    (hC : ∀ v L v2 L2, matG base h R 0 = some (v, L, 1) → matG base h R2 1 = some (v2, L2, 2) → matG base h r 0 = some (C v v2, L ++ L2, 2)) :
    ∃ v' v2' h', mat3 base h r = some (C v' v2', h') ∧ Row h' base T k k0 v' es ∧ Row h' (base + 1000) T2 k2 k02 v2' es2 ∧ ∀ x, x ≠ base → x ≠ base + 1000 → h' x = h x := by
  obtain ⟨v, L, h1, h2⟩ := matG_row (base := base) (h := h) (n := 0) hR hf
  obtain ⟨v2, L2, g1, g2⟩ := matG_row (base := base) (h := h) (n := 1) hR2 hf2
  have hnd : ((L ++ L2).map fun p => p.1).Nodup := by
    rcases h2 with ⟨_, _, rfl⟩ | ⟨_, _, rfl⟩ <;> rcases g2 with ⟨_, _, rfl⟩ | ⟨_, _, rfl⟩ <;> simp
  refine ⟨v, v2, hsets h (L ++ L2), ?_, ?_, ?_, ?_⟩
  · unfold mat3
    rw [hC v L v2 L2 h1 g1]
    rcases h2 with ⟨_, _, rfl⟩ | ⟨_, _, rfl⟩ <;> rcases g2 with ⟨_, _, rfl⟩ | ⟨_, _, rfl⟩ <;> simp [hne]
  · exact h2.row (h := hsets h (L ++ L2)) fun p hp => hsets_at hnd p (List.mem_append_left _ hp)
  · exact g2.row (h := hsets h (L ++ L2)) fun p hp => hsets_at hnd p (List.mem_append_right _ hp)
  · intro x hx hx2
    refine hsets_off fun p hp => ?_
    rcases List.mem_append.1 hp with hp | hp
    · rcases h2 with ⟨_, _, rfl⟩ | ⟨_, _, rfl⟩
      · cases hp
      · obtain rfl := List.mem_singleton.1 hp
        exact fun e => hx e.symm
    · rcases g2 with ⟨_, _, rfl⟩ | ⟨_, _, rfl⟩
      · cases hp
      · obtain rfl := List.mem_singleton.1 hp
        exact fun e => hx2 e.symm

/- the calls -/
def mat3B (E : Env) (fid d g : Nat) : Bool := (E.ext g).isNone && !E.open_ g && E.mat fid d == 3 && !E.deep g
theorem cf_mat3 {E : Env} {fid d g : Nat} {args : List AV} {s : Nat → AV} {h : Heap} {off nt : Nat} {K : AV → Heap → Prop} {tg : Tg ((⟨s, h, off, nt⟩ : St), K)} {r : AV} (he : mat3B E fid d g = true) (hc : EvC E g (lows h args) r)
    (hK : Is (mat3 (off + d) h r) K) : CF E fid (some d) g args ⟨s, h, off, nt⟩ K tg := by
  simp only [mat3B, Bool.and_eq_true, Bool.not_eq_true', beq_iff_eq, Option.isNone_iff_eq_none] at he
  unfold CF
  rw [WF_mat (ext_none he.1.1.1 _) he.1.1.2 he.2]
  refine ⟨r, hc, ?_⟩
  simpa only [mat, he.1.2] using hK
theorem cf_open {E : Env} {fid g : Nat} {dst : Option Nat} {args : List AV} {s : Nat → AV} {h : Heap} {off nt : Nat} {K : AV → Heap → Prop} {tg : Tg ((⟨s, h, off, nt⟩ : St), K)} (he : E.ext g = none) (ho : E.open_ g = true)
    (hK : OpenTo E g args h (off + farOff) K) (hdp : E.deep g = false := by rfl) (hf : E.far g = 0 := by rfl) : CF E fid dst g args ⟨s, h, off, nt⟩ K tg := by
  unfold CF
  rw [WF_open he ho hdp, hf, Nat.zero_mul, Nat.add_zero]
  exact hK
theorem cf_openF {E : Env} {fid g : Nat} {d : Nat} {args : List AV} {s : Nat → AV} {h : Heap} {off nt : Nat} {K : AV → Heap → Prop} {tg : Tg ((⟨s, h, off, nt⟩ : St), K)} (he : E.ext g = none) (ho : E.open_ g = true)
    (hK : OpenTo E g args h (off + farOff + E.far g * d) K) (hdp : E.deep g = false := by rfl) : CF E fid (some d) g args ⟨s, h, off, nt⟩ K tg := by
  unfold CF
  rw [WF_open he ho hdp]
  exact hK

/-- a row that was made there -/
theorem cf_row {E : Env} {fid d g : Nat} {args : List AV} {s : Nat → AV} {h : Heap} {off nt : Nat} {K : AV → Heap → Prop} {tg : Tg ((⟨s, h, off, nt⟩ : St), K)} {R : AV} {k k0 T key : Nat} {es : List AV}
    (hc : EvC E g (lows h args) R) (hR : OwnR R k k0 T key es) (hf : es.all flat = true) (he : mat3B E fid d g = true)
    (hK : ∀ v' h', Row h' (off + d) T k k0 v' es → (∀ x, x ≠ off + d → h' x = h x) → K v' h') : CF E fid (some d) g args ⟨s, h, off, nt⟩ K tg := by
  refine cf_mat3 he hc ?_
  obtain ⟨v', h', h1, h2, h3⟩ := mat3_one (base := off + d) (h := h) (r := R) (v := .un) (C := fun v => v) (n' := 0) hR hf fun v L hm => hm
  exact ⟨_, _, h1, hK _ _ h2 h3⟩
def mat1B (E : Env) (fid d g : Nat) : Bool := (E.ext g).isNone && !E.open_ g && E.mat fid d == 1 && !E.deep g
/-- a row that was made there, beside other operations -/
theorem cf_row1 {E : Env} {fid d g : Nat} {args : List AV} {s : Nat → AV} {h : Heap} {off nt : Nat} {K : AV → Heap → Prop} {tg : Tg ((⟨s, h, off, nt⟩ : St), K)} {R : AV} {k k0 T key : Nat} {es : List AV}
    (hc : EvC E g (lows h args) R) (hR : OwnR R k k0 T key es) (hf : es.all flat = true) (he : mat1B E fid d g = true)
    (hK : ∀ v' h', Row h' (off + d) T k k0 v' es → (∀ x, x ≠ off + d → h' x = h x) → K v' h') : CF E fid (some d) g args ⟨s, h, off, nt⟩ K tg := by
  simp only [mat1B, Bool.and_eq_true, Bool.not_eq_true', beq_iff_eq, Option.isNone_iff_eq_none] at he
  unfold CF
  rw [WF_mat (ext_none he.1.1.1 _) he.1.1.2 he.2]
  refine ⟨R, hc, ?_⟩
  rcases hR with ⟨rfl, rfl | rfl⟩ | ⟨hx, rfl⟩
  · exact ⟨.sl k0 .no [], h, by simp only [mat, he.1.2], hK _ _ (.inl ⟨rfl, rfl⟩) fun _ _ => rfl⟩
  · exact ⟨.sl k0 .no [], h, by simp only [mat, he.1.2], hK _ _ (.inl ⟨rfl, rfl⟩) fun _ _ => rfl⟩
  · refine ⟨.ms (off + d) (nextG h (off + d)) 0 es.length, hset h (off + d) (.row (nextG h (off + d)) T k es), ?_, hK _ _ (.inr ⟨hx, _, rfl, by simp [hset]⟩) (fun x hxx => by simp [hset, hxx])⟩
    simp only [mat, he.1.2]
    rw [if_pos ⟨hf, hx⟩]
/-- a copy: of nothing, by what is told of it; else by its body -/
def cloneF : List AV → Option AV
  | [.sl _ _ []] => some (.sl 1 .no [])
  | _ => none
theorem nilC_I {E : Env} {t : Nat} {v : AV} (hv : IsI v) (ht : slT E t = true) (hne : xsOf v ≠ []) (op : BinOp) : nilC E op t v = nilV op := by
  obtain ⟨k, o, es, rfl, hk, ho⟩ := hv.l.ok
  have hes : es ≠ [] := by
    intro e; subst e; exact hne (by simp [xsOf])
  have hx : isEx o = false := by cases o <;> first | rfl | cases ho
  simp only [nilC, slT_ty ht]
  simp [hes, hx]
@[simp] theorem nilV_eql : nilV .eql = some (.bool false) := _root_.id rfl
theorem cf_clone {E : Env} {fid d g : Nat} {a u : AV} {s : Nat → AV} {h : Heap} {off nt : Nat} {K : AV → Heap → Prop} {tg : Tg ((⟨s, h, off, nt⟩ : St), K)} {R : AV} {T key : Nat} (he : E.ext g = some cloneF) (ho : E.open_ g = false) (hm : E.mat fid d = 1)
    (hl : low h a = u) (hu : IsI u) (hc : xsOf u ≠ [] → EvC E g [u] R) (hR : xsOf u ≠ [] → OwnR R 1 1 T key (ints (xsOf u)))
    (hK : ∀ v' h', Row h' (off + d) T 1 1 v' (ints (xsOf u)) → (∀ x, x ≠ off + d → h' x = h x) → K v' h') (hw : E.own g = false := by rfl) (hdp : E.deep g = false := by rfl) : CF E fid (some d) g [a] ⟨s, h, off, nt⟩ K tg := by
  have hls : lows h [a] = [u] := by simp [lows, hl]
  unfold CF
  by_cases hne : xsOf u = []
  · obtain ⟨k, o, es, rfl, hk, hos⟩ := hu.l.ok
    have hes : es = ints (xsOf (.sl k o es)) := by have := hu.ints; simpa using this
    rw [hne] at hes
    obtain rfl : es = [] := hes
    rw [WF_ext (r := .sl 1 .no []) (by simp only [extV, he, Option.bind_some, hls, cloneF]) hw hdp]
    refine hK _ _ (.inl ⟨by rw [hne]; rfl, rfl⟩) fun _ _ => rfl
  · have hno : cloneF [u] = none := by
      obtain ⟨k, o, es, rfl, hk, hos⟩ := hu.l.ok
      cases es with
      | nil => exact (hne (by simp [xsOf])).elim
      | cons x xs => rfl
    rw [WF_mat (by simp only [extV, he, Option.bind_some, hls, hno]) ho hdp]
    refine ⟨R, by rw [hls]; exact hc hne, ?_⟩
    rcases hR hne with ⟨e, _⟩ | ⟨hx, rfl⟩
    · exact (hne (by simpa using e)).elim
    · refine ⟨.ms (off + d) (nextG h (off + d)) 0 (ints (xsOf u)).length, hset h (off + d) (.row (nextG h (off + d)) T 1 (ints (xsOf u))), ?_, hK _ _ (.inr ⟨hx, _, rfl, by simp [hset]⟩) (fun x hxx => by simp [hset, hxx])⟩
      have hfl : (ints (xsOf u)).all flat = true := by
        rw [List.all_eq_true]; intro y hyy
        simp only [ints, List.mem_map] at hyy
        obtain ⟨n, _, rfl⟩ := hyy
        rfl
      simp only [mat, hm]
      rw [if_pos ⟨hfl, hx⟩]
/-- append to nothing -/
theorem wr_ints {E : Env} {h : Heap} {key t k0 : Nat} {v : AV} {K : AV → Heap → Prop} (hv : IsI v) (ht : slT E t = true) (hs : E.size (elT E t) = 1) (hl : (xsOf v).length ≤ 1073741824)
    (hK : ∀ v' h', Row h' key (elT E t) 1 k0 v' (ints (xsOf v)) → (∀ k, k ≠ key → h' k = h k) → K v' h') : WR E h key t (.sl k0 .lit []) v K ⟨⟩ := by
  obtain ⟨k, o, es, rfl, hk, ho⟩ := hv.l.ok
  have hes : es = ints (xsOf (.sl k o es)) := by have := hv.ints; simpa using this
  generalize xsOf (.sl k o es) = ys at *
  subst hes
  unfold WR
  by_cases hy : ys = []
  · subst hy
    refine ⟨.sl k0 .no [], h, ?_, hK _ _ (.inl ⟨rfl, rfl⟩) fun _ _ => rfl⟩
    simp only [appendR, slT_ty ht, elemsOf_st (stabs_ints _), hs]
    rw [if_neg (by decide), if_pos (by simp)]
  · have hne : ints ys ≠ [] := by simpa using hy
    have hk1 : k = 1 := by rcases hk with hk | hk; exact absurd hk hne; exact hk
    have hall : ((ints ys).all fun y => y.cells.length == 1 && y.cells.all AV.one) = true := by
      rw [List.all_eq_true]; intro y hyy
      simp only [ints, List.mem_map] at hyy
      obtain ⟨n, _, rfl⟩ := hyy
      rfl
    have hfl : (ints ys).all flat = true := by
      rw [List.all_eq_true]; intro y hyy
      simp only [ints, List.mem_map] at hyy
      obtain ⟨n, _, rfl⟩ := hyy
      rfl
    refine ⟨.ms key (nextG h key) 0 (ints ys).length, hset h key (.row (nextG h key) (elT E t) 1 (ints ys)), ?_, hK _ _ (.inr ⟨hne, _, rfl, by simp [hset]⟩) (fun x hxx => by simp [hset, hxx])⟩
    simp only [appendR, slT_ty ht, elemsOf_st (stabs_ints _), hs]
    rw [if_neg (by decide), if_neg (by simpa using hne), if_pos ⟨hk1, by simpa [maxRow] using hl, hfl, hall⟩]
/-- a struct of a number and a row; with a flag -/
theorem cf_ctx {E : Env} {fid d g : Nat} {args : List AV} {s : Nat → AV} {h : Heap} {off nt : Nat} {K : AV → Heap → Prop} {tg : Tg ((⟨s, h, off, nt⟩ : St), K)} {kd : IntKind} {a : Int} {R : AV} {k k0 T key : Nat} {es : List AV}
    (hc : EvC E g (lows h args) (.agg [.int kd a, R])) (hR : OwnR R k k0 T key es) (hf : es.all flat = true) (he : mat3B E fid d g = true)
    (hK : ∀ v' h', Row h' (off + d) T k k0 v' es → (∀ x, x ≠ off + d → h' x = h x) → K (.agg [.int kd a, v']) h') : CF E fid (some d) g args ⟨s, h, off, nt⟩ K tg := by
  refine cf_mat3 he hc ?_
  obtain ⟨v', h', h1, h2, h3⟩ := mat3_one (base := off + d) (h := h) (r := .agg [.int kd a, R]) (v := .un) (C := fun v => .agg [.int kd a, v]) (n' := 0) hR hf fun v L hm => by
    simp [matG, matGs, flat1, hm]
  exact ⟨_, _, h1, hK _ _ h2 h3⟩
theorem cf_ctxb {E : Env} {fid d g : Nat} {args : List AV} {s : Nat → AV} {h : Heap} {off nt : Nat} {K : AV → Heap → Prop} {tg : Tg ((⟨s, h, off, nt⟩ : St), K)} {kd : IntKind} {a : Int} {b : Bool} {R : AV} {k k0 T key : Nat} {es : List AV}
    (hc : EvC E g (lows h args) (.tup [.agg [.int kd a, R], .bool b])) (hR : OwnR R k k0 T key es) (hf : es.all flat = true) (he : mat3B E fid d g = true)
    (hK : ∀ v' h', Row h' (off + d) T k k0 v' es → (∀ x, x ≠ off + d → h' x = h x) → K (.tup [.agg [.int kd a, v'], .bool b]) h') : CF E fid (some d) g args ⟨s, h, off, nt⟩ K tg := by
  refine cf_mat3 he hc ?_
  obtain ⟨v', h', h1, h2, h3⟩ := mat3_one (base := off + d) (h := h) (r := .tup [.agg [.int kd a, R], .bool b]) (v := .un) (C := fun v => .tup [.agg [.int kd a, v], .bool b]) (n' := 0) hR hf fun v L hm => by
    simp [matG, matGs, flat1, hm]
  exact ⟨_, _, h1, hK _ _ h2 h3⟩
theorem cf_part {E : Env} {fid d g : Nat} {args : List AV} {s : Nat → AV} {h : Heap} {off nt : Nat} {K : AV → Heap → Prop} {tg : Tg ((⟨s, h, off, nt⟩ : St), K)} {kd : IntKind} {a : Int} {R R2 : AV} {k k0 T key k2 k02 T2 key2 : Nat} {es es2 : List AV}
    (hc : EvC E g (lows h args) (.agg [.int kd a, R, R2])) (hR : OwnR R k k0 T key es) (hf : es.all flat = true) (hR2 : OwnR R2 k2 k02 T2 key2 es2) (hf2 : es2.all flat = true) (hne : key ≠ key2) (he : mat3B E fid d g = true)
    (hK : ∀ v' v2' h', Row h' (off + d) T k k0 v' es → Row h' (off + d + 1000) T2 k2 k02 v2' es2 → (∀ x, x ≠ off + d → x ≠ off + d + 1000 → h' x = h x) → K (.agg [.int kd a, v', v2']) h') : CF E fid (some d) g args ⟨s, h, off, nt⟩ K tg := by
  refine cf_mat3 he hc ?_
  obtain ⟨v', v2', h', h1, h2, h3, h4⟩ := mat3_two (base := off + d) (h := h) (r := .agg [.int kd a, R, R2]) (C := fun v v2 => .agg [.int kd a, v, v2]) hR hf hR2 hf2 hne fun v L v2 L2 hm hm2 => by
    simp [matG, matGs, flat1, hm, hm2]
  exact ⟨_, _, h1, hK _ _ _ h2 h3 h4⟩
theorem cf_partb {E : Env} {fid d g : Nat} {args : List AV} {s : Nat → AV} {h : Heap} {off nt : Nat} {K : AV → Heap → Prop} {tg : Tg ((⟨s, h, off, nt⟩ : St), K)} {kd : IntKind} {a : Int} {b : Bool} {R R2 : AV} {k k0 T key k2 k02 T2 key2 : Nat} {es es2 : List AV}
    (hc : EvC E g (lows h args) (.tup [.agg [.int kd a, R, R2], .bool b])) (hR : OwnR R k k0 T key es) (hf : es.all flat = true) (hR2 : OwnR R2 k2 k02 T2 key2 es2) (hf2 : es2.all flat = true) (hne : key ≠ key2) (he : mat3B E fid d g = true)
    (hK : ∀ v' v2' h', Row h' (off + d) T k k0 v' es → Row h' (off + d + 1000) T2 k2 k02 v2' es2 → (∀ x, x ≠ off + d → x ≠ off + d + 1000 → h' x = h x) → K (.tup [.agg [.int kd a, v', v2'], .bool b]) h') : CF E fid (some d) g args ⟨s, h, off, nt⟩ K tg := by
  refine cf_mat3 he hc ?_
  obtain ⟨v', v2', h', h1, h2, h3, h4⟩ := mat3_two (base := off + d) (h := h) (r := .tup [.agg [.int kd a, R, R2], .bool b]) (C := fun v v2 => .tup [.agg [.int kd a, v, v2], .bool b]) hR hf hR2 hf2 hne fun v L v2 L2 hm hm2 => by
    simp [matG, matGs, flat1, hm, hm2]
  exact ⟨_, _, h1, hK _ _ _ h2 h3 h4⟩

/- rows of any elements that grow -/
def BufL (h : Heap) (T key k0 sz : Nat) (v : AV) (es : List AV) : Prop :=
  (es = [] ∧ v = .sl k0 .lit []) ∨ (es ≠ [] ∧ ∃ g, v = .sl sz (.tok key g) es ∧ h key = some (.tok g T sz es.length))
def bufLR (T key k0 sz : Nat) (es : List AV) : AV := if es = [] then .sl k0 .lit [] else .sl sz (.ex T key) es
def bufLC (k0 sz : Nat) (es : List AV) : AV := if es = [] then .sl k0 .lit [] else .sl sz .no es
theorem bufL_nil (h : Heap) (T key k0 sz : Nat) : BufL h T key k0 sz (.sl k0 .lit []) [] := .inl ⟨rfl, rfl⟩
theorem BufL.expo {h : Heap} {T key k0 sz : Nat} {v : AV} {es : List AV} (hB : BufL h T key k0 sz v es) : Ev.expo h v = bufLR T key k0 sz es := by
  rcases hB with ⟨rfl, rfl⟩ | ⟨hx, g, rfl, hk⟩
  · simp [bufLR]
  · simp [bufLR, hx, Ev.expo, hk]
@[simp] theorem bufLR_noEx (T key k0 sz : Nat) (es : List AV) : noEx (bufLR T key k0 sz es) = bufLC k0 sz es := by
  unfold bufLR bufLC; split <;> simp
theorem BufL.len {E : Env} {h : Heap} {T key k0 sz t : Nat} {v : AV} {es : List AV} (hB : BufL h T key k0 sz v es) (ht : slT E t = true) : lenV E t v = some (.int .i64 es.length) := by
  rcases hB with ⟨rfl, rfl⟩ | ⟨hx, g, rfl, hk⟩
  · rw [len_sl _ _ ht]
  · rw [len_sl _ _ ht]
theorem bufLC_len {E : Env} {k0 sz t : Nat} {es : List AV} (ht : slT E t = true) : lenV E t (bufLC k0 sz es) = some (.int .i64 es.length) := by
  unfold bufLC; split
  · rename_i h; rw [len_sl _ _ ht, h]
  · rw [len_sl _ _ ht]
theorem BufL.keep {h h' : Heap} {T key k0 sz : Nat} {v : AV} {es : List AV} (hB : BufL h T key k0 sz v es) (hk : h' key = h key) : BufL h' T key k0 sz v es := by
  rcases hB with ⟨rfl, rfl⟩ | ⟨hx, g, rfl, hg⟩
  · exact .inl ⟨rfl, rfl⟩
  · exact .inr ⟨hx, g, rfl, hk.trans hg⟩
theorem BufL.one {h : Heap} {T key k0 sz : Nat} {v : AV} {es : List AV} (hB : BufL h T key k0 sz v es) : v.one = true := by
  rcases hB with ⟨rfl, rfl⟩ | ⟨hx, g, rfl, hk⟩ <;> rfl
theorem BufL.cells {h : Heap} {T key k0 sz : Nat} {v : AV} {es : List AV} (hB : BufL h T key k0 sz v es) : v.cells = [v] := by
  rcases hB with ⟨rfl, rfl⟩ | ⟨hx, g, rfl, hk⟩ <;> rfl
theorem BufL.low {h : Heap} {T key k0 sz : Nat} {v : AV} {es : List AV} (hB : BufL h T key k0 sz v es) : ∀ h', Ev.low h' v = bufLC k0 sz es := by
  intro h'
  rcases hB with ⟨rfl, rfl⟩ | ⟨hx, g, rfl, hk⟩
  · simp [bufLC]
  · simp [bufLC, hx]
theorem ownR_bufL (T key k0 sz : Nat) (es : List AV) : OwnR (bufLR T key k0 sz es) sz k0 T key es := by
  unfold bufLR OwnR; split
  · rename_i h; exact .inl ⟨h, .inr rfl⟩
  · rename_i h; exact .inr ⟨h, rfl⟩
theorem wa_pushL {E : Env} {h : Heap} {ko key k0 t sz : Nat} {v : AV} {e : AV} {es : List AV} {K : AV → Heap → Prop} (hB : BufL h (elT E t) key k0 sz v es) (ht : slT E t = true) (hs : E.size (elT E t) = sz) (hz : sz ≠ 0)
    (he : e.cells.length = sz ∧ e.cells.all AV.one = true) (hko : es = [] → ko = key) (hl : es.length < 1073741824)
    (hK : ∀ v' h', BufL h' (elT E t) key k0 sz v' (es ++ [e]) → (∀ k, k ≠ key → h' k = h k) → K v' h') : WA E h ko t v (.sl sz .lit [e]) K ⟨⟩ := by
  have hall : (([e] : List AV).all fun y => y.cells.length == sz && y.cells.all AV.one) = true := by simp [he.1, he.2]
  unfold WA
  rcases hB with ⟨rfl, rfl⟩ | ⟨hx, g, rfl, hg⟩
  · obtain rfl := hko rfl
    refine ⟨.sl sz (.tok ko (nextG h ko)) [e], hset h ko (.tok (nextG h ko) (elT E t) sz 1), ?_, hK _ _ (.inr ⟨by simp, _, rfl, by simp [hset]⟩) (fun k hk => by simp [hset, hk])⟩
    simp only [appendV, slT_ty ht, elemsOf, hs]
    rw [if_neg hz, if_neg (by simp), if_pos ⟨.inl (by trivial), by trivial, by simp [maxRow], hall⟩]
    simp
  · refine ⟨.sl sz (.tok key g) (es ++ [e]), hset h key (.tok g (elT E t) sz (es ++ [e]).length), ?_, hK _ _ (.inr ⟨by simp, _, rfl, by simp [hset]⟩) (fun k hk => by simp [hset, hk])⟩
    simp only [appendV, slT_ty ht, elemsOf, hs]
    rw [if_neg hz, if_neg (by simp), if_pos ⟨.inr (by trivial), by trivial, by simp [maxRow]; omega, hall⟩]
    simp [hg]
/-- a row that grows, handed on -/
theorem Buf.low {h : Heap} {T key k0 : Nat} {v : AV} {xs : List Int} (hB : Buf h T key k0 v xs) : ∀ h', Ev.low h' v = bufC k0 xs := by
  intro h'
  rcases hB with ⟨rfl, rfl⟩ | ⟨hx, g, rfl, hk⟩
  · simp [bufC]
  · simp [bufC, hx]
theorem Buf.one {h : Heap} {T key k0 : Nat} {v : AV} {xs : List Int} (hB : Buf h T key k0 v xs) : v.one = true := by
  rcases hB with ⟨rfl, rfl⟩ | ⟨hx, g, rfl, hk⟩ <;> rfl
theorem Buf.cells {h : Heap} {T key k0 : Nat} {v : AV} {xs : List Int} (hB : Buf h T key k0 v xs) : v.cells = [v] := by
  rcases hB with ⟨rfl, rfl⟩ | ⟨hx, g, rfl, hk⟩ <;> rfl
@[simp] theorem noEx_bufC (k0 : Nat) (xs : List Int) : noEx (bufC k0 xs) = bufC k0 xs := by unfold bufC; split <;> simp
@[simp] theorem expo_bufC (h : Heap) (k0 : Nat) (xs : List Int) : Ev.expo h (bufC k0 xs) = bufC k0 xs := by unfold bufC; split <;> simp
@[simp] theorem low_bufC (h : Heap) (k0 : Nat) (xs : List Int) : Ev.low h (bufC k0 xs) = bufC k0 xs := by unfold bufC; split <;> simp
@[simp] theorem one_bufC (k0 : Nat) (xs : List Int) : (bufC k0 xs).one = true := by unfold bufC; split <;> rfl
@[simp] theorem cells_bufC (k0 : Nat) (xs : List Int) : (bufC k0 xs).cells = [bufC k0 xs] := by unfold bufC; split <;> rfl
@[simp] theorem hasKey_bufC (κ k0 : Nat) (xs : List Int) : hasKey κ (bufC k0 xs) = false := by unfold bufC; split <;> simp
theorem isI_noKey {v : AV} (hv : IsI v) (κ : Nat) : hasKey κ v = false := by
  obtain ⟨k, o, es, rfl, _, _⟩ := hv.l.ok
  simp
/-- the row's place, where it may be empty yet -/
theorem Buf.rekey {h : Heap} {T key k0 : Nat} {v : AV} {xs : List Int} (hB : Buf h T key k0 v xs) (key' : Nat) : Buf h T (if xs.length = 0 then key' else key) k0 v xs := by
  rcases hB with ⟨rfl, rfl⟩ | ⟨hx, g, rfl, hk⟩
  · exact .inl ⟨rfl, rfl⟩
  · have : xs.length ≠ 0 := fun e => hx (List.eq_nil_of_length_eq_zero e)
    rw [if_neg this]; exact .inr ⟨hx, g, rfl, hk⟩
/-- the marks -/
def upTo (k : Int) (n : Nat) : List Int := (List.range n).map fun (j : Nat) => k + (j : Int)
@[simp] theorem upTo_length (k : Int) (n : Nat) : (upTo k n).length = n := by simp [upTo]
theorem upTo_get (k : Int) {n j : Nat} (h : j < n) : (upTo k n)[j]? = some (k + j) := by simp [upTo, h]
theorem upTo_nth (k : Int) {n j : Nat} (h : j < n) : nth (upTo k n) j = k + j := by rw [nth_eq (by simpa using h)]; simp [upTo]
theorem upTo_ext {k : Int} {ys : List Int} {n : Nat} (hl : ys.length = n) (h : ∀ j, j < n → ys[j]? = some (k + j)) : ys = upTo k n := by
  apply List.ext_getElem?
  intro j
  by_cases hj : j < n
  · rw [h j hj, upTo_get k hj]
  · rw [List.getElem?_eq_none (by omega), List.getElem?_eq_none (by simp; omega)]
end Go.Proofs.YtlglhokpaplifaaGreatDoor.Ev
/- Slices of slices of numbers, and slices of pairs, that are read only. Conditions: none. -/
namespace Go.Proofs.YtlglhokpaplifaaGreatDoor.Ev
set_option linter.unusedVariables false
set_option linter.unusedSimpArgs false
set_option linter.unusedSectionVars false

/-- the element itself -/
def rowOf (v : AV) (n : Nat) : AV := (esOf v).getD n .un
def xssOf (v : AV) : List (List Int) := (esOf v).map xsOf
def nthL (xss : List (List Int)) (n : Nat) : List Int := xss.getD n []
structure IsLL (v : AV) : Prop where
  l : IsL 1 v
  row : ∀ n, n < (xssOf v).length → IsI (rowOf v n)
theorem IsLL.len {v : AV} (hv : IsLL v) : (xssOf v).length ≤ top63 := by have := hv.l.len; simpa [xssOf] using this
theorem xssOf_row {v : AV} {n : Nat} (h : n < (xssOf v).length) : xsOf (rowOf v n) = nthL (xssOf v) n := by
  simp only [xssOf, List.length_map] at h
  simp [rowOf, nthL, xssOf, h]
theorem isLL_low {v : AV} (hv : IsLL v) (h : Heap) : low h v = v := isL_low hv.l h
theorem isLL_cells {v : AV} (hv : IsLL v) : v.cells = [v] := (isL_cells hv.l).1
theorem isLL_one {v : AV} (hv : IsLL v) : v.one = true := (isL_cells hv.l).2
theorem isLL_len {E : Env} {t : Nat} {v : AV} (hv : IsLL v) (ht : slT E t = true) : lenV E t v = some (.int .i64 (xssOf v).length) := by
  rw [isL_len hv.l ht]; simp [xssOf]
theorem isLL_index {E : Env} {h : Heap} {t : Nat} {v : AV} {kd : IntKind} {n : Int} (hv : IsLL v) (ht : slT E t = true) (hs : E.size (elT E t) = 1) (h0 : 0 ≤ n) (h1 : n < (xssOf v).length) :
    indexA E h t v (.int kd n) = some (elP v n.toNat) := isL_index hv.l ht hs (by decide) h0 (by simpa [xssOf] using h1)
theorem isLL_load {E : Env} {h : Heap} {t : Nat} {v : AV} {n : Nat} (hv : IsLL v) (ht : slT E t = true) (hn : n < (xssOf v).length) : loadV E h t (elP v n) = some (rowOf v n) := by
  rw [elP_load hv.l]
  have hr := isI_cells (hv.row n hn)
  have : (esOf v).getD n .un = rowOf v n := rfl
  rw [this, hr]
  simp only [partOf, slT_ty ht, TD.agg?]
  rfl
/-- rows of numbers, as they stand in a row -/
def slI (xs : List Int) : AV := .sl 1 .no (ints xs)
def rowsV (xss : List (List Int)) : List AV := xss.map slI
theorem isLL_no {xss : List (List Int)} (hl : xss.length ≤ top63) (h : ∀ n, n < xss.length → (nthL xss n).length ≤ top63) : IsLL (.sl 1 .no (rowsV xss)) where
  l := { len := by simpa [rowsV] using hl, ok := ⟨1, .no, _, rfl, .inr rfl, rfl⟩, cells := fun e he => by
          simp only [esOf_sl, rowsV, List.mem_map] at he
          obtain ⟨xs, _, rfl⟩ := he
          exact ⟨rfl, rfl⟩ }
  row := fun n hn => by
    have hn2 : n < xss.length := by simpa [xssOf, rowsV] using hn
    have := h n hn2
    simp only [nthL, List.getD_eq_getElem?_getD, List.getElem?_eq_getElem hn2, Option.getD_some] at this
    simp only [rowOf, esOf_sl, rowsV, List.getD_eq_getElem?_getD, List.getElem?_map, List.getElem?_eq_getElem hn2, Option.map_some, Option.getD_some]
    exact isI_no this
@[simp] theorem xssOf_rowsV {k : Nat} {o : Own} {xss : List (List Int)} : xssOf (.sl k o (rowsV xss)) = xss := by
  simp only [xssOf, rowsV, esOf_sl, List.map_map]
  have : (xsOf ∘ slI) = _root_.id := by funext xs; simp [slI]
  rw [this, List.map_id]
@[simp] theorem rowsV_length (xss : List (List Int)) : (rowsV xss).length = xss.length := by simp [rowsV]
@[simp] theorem stabs_rowsV (xss : List (List Int)) : stabs (rowsV xss) = true := by
  induction xss with
  | nil => rfl
  | cons x xs ih =>
    have e : rowsV (x :: xs) = slI x :: rowsV xs := rfl
    rw [e, stabs_cons, ih]; rfl
@[simp] theorem low0s_rowsV (xss : List (List Int)) : low0s (rowsV xss) = rowsV xss := by
  induction xss with
  | nil => rfl
  | cons x xs ih =>
    have e : rowsV (x :: xs) = slI x :: rowsV xs := rfl
    rw [e, low0s_cons, ih]; simp [slI]

/-- a list that is filled from its start -/
def mix {α : Type} (f : Nat → α) (z : α) (n i : Nat) : List α := (List.range n).map fun j => if j < i then f j else z
@[simp] theorem mix_length {α : Type} (f : Nat → α) (z : α) (n i : Nat) : (mix f z n i).length = n := by simp [mix]
theorem mix_zero {α : Type} (f : Nat → α) (z : α) (n : Nat) : mix f z n 0 = List.replicate n z := by
  apply List.ext_getElem?
  intro j
  by_cases hj : j < n
  · simp [mix, List.getElem?_replicate, hj]
  · simp [mix, List.getElem?_replicate, hj]
theorem mix_get {α : Type} (f : Nat → α) (z : α) {n i j : Nat} (hj : j < n) : (mix f z n i)[j]? = some (if j < i then f j else z) := by
  simp [mix, hj]
@[simp] theorem mix_getElem {α : Type} (f : Nat → α) (z : α) {n i j : Nat} (h : j < (mix f z n i).length) : (mix f z n i)[j] = if j < i then f j else z := by
  simp [mix]
theorem mix_set {α : Type} (f : Nat → α) (z : α) {n i : Nat} (hi : i < n) : (mix f z n i).set i (f i) = mix f z n (i + 1) := by
  apply List.ext_getElem?
  intro j
  by_cases e : i = j
  · subst e
    rw [List.getElem?_set_self (by simpa using hi), mix_get _ _ hi, if_pos (by omega)]
  · rw [List.getElem?_set_ne e]
    by_cases hj : j < n
    · rw [mix_get _ _ hj, mix_get _ _ hj]
      by_cases h : j < i
      · rw [if_pos h, if_pos (by omega)]
      · rw [if_neg h, if_neg (by omega)]
    · simp [mix, hj]
theorem mix_full {α : Type} (f : Nat → α) (z : α) (n : Nat) : mix f z n n = (List.range n).map f := by
  apply List.map_congr_left
  intro j hj
  rw [if_pos (List.mem_range.1 hj)]
theorem mix_stabs (f : Nat → AV) (z : AV) (n i : Nat) (hf : ∀ j, stab (f j) = true) (hz : stab z = true) : stabs (mix f z n i) = true := by
  rw [stabs_iff]
  intro v hv
  simp only [mix, List.mem_map] at hv
  obtain ⟨j, _, rfl⟩ := hv
  split
  · exact hf j
  · exact hz
/-- the rows, from one to the next -/
theorem rows_range (xss : List (List Int)) : (List.range xss.length).map (fun j => slI (nthL xss j)) = rowsV xss := by
  apply List.ext_getElem?
  intro j
  by_cases hj : j < xss.length
  · simp [rowsV, nthL, hj]
  · simp [rowsV, hj]

/-- how much the rows hold -/
def sumTo (xss : List (List Int)) : Nat → Nat
  | 0 => 0
  | i + 1 => sumTo xss i + (nthL xss i).length
theorem sumTo_mono (xss : List (List Int)) {i j : Nat} (h : i ≤ j) : sumTo xss i ≤ sumTo xss j := by
  induction j with
  | zero => obtain rfl : i = 0 := by omega
            exact Nat.le_refl _
  | succ j ih =>
    by_cases e : i = j + 1
    · rw [e]; exact Nat.le_refl _
    · exact Nat.le_trans (ih (by omega)) (Nat.le_add_right _ _)
theorem sumTo_le (xss : List (List Int)) {i : Nat} (h : i < xss.length) : (nthL xss i).length ≤ sumTo xss xss.length :=
  Nat.le_trans (Nat.le_add_left _ _) (sumTo_mono xss (i := i + 1) (by omega))
theorem nthL_ext {a b : List (List Int)} (hl : b.length = a.length) (h : ∀ i, i < a.length → nthL a i = nthL b i) : a = b := by
  apply List.ext_getElem?
  intro i
  by_cases hi : i < a.length
  · have := h i hi
    have hb : i < b.length := by omega
    simp only [nthL, List.getD_eq_getElem?_getD, List.getElem?_eq_getElem hi, List.getElem?_eq_getElem hb, Option.getD_some] at this
    rw [List.getElem?_eq_getElem hi, List.getElem?_eq_getElem hb, this]
  · rw [List.getElem?_eq_none (by omega), List.getElem?_eq_none (by omega)]
/- records of two numbers -/
def pr (a b : Int) : AV := .agg [.int .i64 a, .int .i64 b]
def fstI (e : AV) : Int := match e with | .agg [.int _ a, _] => a | _ => 0
def sndI (e : AV) : Int := match e with | .agg [_, .int _ b] => b | _ => 0
def fsts (v : AV) : List Int := (esOf v).map fstI
def snds (v : AV) : List Int := (esOf v).map sndI
@[simp] theorem fstI_pr (a b : Int) : fstI (pr a b) = a := _root_.id rfl
@[simp] theorem sndI_pr (a b : Int) : sndI (pr a b) = b := _root_.id rfl
/-- the records of two lists -/
def prs (xs ys : List Int) : List AV := (List.range xs.length).map fun i => pr (nth xs i) (nth ys i)
@[simp] theorem prs_length (xs ys : List Int) : (prs xs ys).length = xs.length := by simp [prs]
structure IsP (v : AV) : Prop where
  l : IsL 2 v
  el : ∀ e ∈ esOf v, ∃ a b, e = pr a b
def brwOf : AV → Bool
  | .sl _ o _ => o == .brw
  | _ => false
theorem IsP.lens {v : AV} (hv : IsP v) : (snds v).length = (fsts v).length := by simp [fsts, snds]
theorem IsP.len {v : AV} (hv : IsP v) : (fsts v).length ≤ top63 := by have := hv.l.len; simpa [fsts] using this
theorem isP_low {v : AV} (hv : IsP v) (h : Heap) : low h v = v := isL_low hv.l h
theorem isP_low0 {v : AV} (hv : IsP v) : low0 v = v := isL_low0 hv.l
theorem isP_cells {v : AV} (hv : IsP v) : v.cells = [v] := (isL_cells hv.l).1
theorem isP_one {v : AV} (hv : IsP v) : v.one = true := (isL_cells hv.l).2
theorem isP_noKey {v : AV} (hv : IsP v) (κ : Nat) : hasKey κ v = false := by
  obtain ⟨k, o, es, rfl, _, _⟩ := hv.l.ok
  simp
theorem isP_len {E : Env} {t : Nat} {v : AV} (hv : IsP v) (ht : slT E t = true) : lenV E t v = some (.int .i64 (fsts v).length) := by
  rw [isL_len hv.l ht]; simp [fsts]
theorem isP_get {v : AV} (hv : IsP v) {n : Nat} (h : n < (fsts v).length) : (esOf v).getD n .un = pr (nth (fsts v) n) (nth (snds v) n) := by
  have h2 : n < (esOf v).length := by simpa [fsts] using h
  obtain ⟨a, b, e⟩ := hv.el _ (List.getElem_mem h2)
  simp only [List.getD_eq_getElem?_getD, List.getElem?_eq_getElem h2, Option.getD_some, nth, fsts, snds, List.getElem?_map, Option.map_some, e, fstI_pr, sndI_pr]
theorem isP_index {E : Env} {h : Heap} {t : Nat} {v : AV} {kd : IntKind} {n : Int} (hv : IsP v) (ht : slT E t = true) (hs : E.size (elT E t) = 2) (h0 : 0 ≤ n) (h1 : n < (fsts v).length) :
    indexA E h t v (.int kd n) = some (.cp (brwOf v) [.int .i64 (nth (fsts v) n.toNat), .int .i64 (nth (snds v) n.toNat)] 0) := by
  rw [isL_index hv.l ht hs (by decide) h0 (by simpa [fsts] using h1)]
  have hg := isP_get hv (n := n.toNat) (by omega)
  obtain ⟨k, o, es, rfl, _, _⟩ := hv.l.ok
  simp only [esOf_sl] at hg
  simp only [elP, brwOf, hg, pr, cells_agg]
theorem isP_mk {k : Nat} {o : Own} {xs ys : List Int} (hk : xs = [] ∨ k = 2) (ho : o.safe = true) (hl : xs.length ≤ top63) : IsP (.sl k o (prs xs ys)) where
  l := { len := by simpa using hl, ok := ⟨k, o, _, rfl, by rcases hk with h | h; exact .inl (by simp [prs, h]); exact .inr h, ho⟩, cells := fun e he => by
          simp only [esOf_sl, prs, List.mem_map] at he
          obtain ⟨i, _, rfl⟩ := he
          exact ⟨rfl, rfl⟩ }
  el := fun e he => by
    simp only [esOf_sl, prs, List.mem_map] at he
    obtain ⟨i, _, rfl⟩ := he
    exact ⟨_, _, rfl⟩
@[simp] theorem fsts_prs (k : Nat) (o : Own) (xs ys : List Int) : fsts (.sl k o (prs xs ys)) = xs := by
  simp only [fsts, esOf_sl, prs, List.map_map]
  apply List.ext_getElem?
  intro i
  by_cases hi : i < xs.length
  · simp [hi, nth_eq hi]
  · simp [hi]
theorem snds_prs (k : Nat) (o : Own) {xs ys : List Int} (h : ys.length = xs.length) : snds (.sl k o (prs xs ys)) = ys := by
  simp only [snds, esOf_sl, prs, List.map_map]
  apply List.ext_getElem?
  intro i
  by_cases hi : i < xs.length
  · have hi2 : i < ys.length := by omega
    simp [hi, hi2, nth_eq hi2]
  · simp [hi, show ¬ i < ys.length by omega]
@[simp] theorem prs_flat (xs ys : List Int) : (prs xs ys).all flat = true := by
  rw [List.all_eq_true]; intro e he
  simp only [prs, List.mem_map] at he
  obtain ⟨i, _, rfl⟩ := he
  rfl
@[simp] theorem prs_stabs (xs ys : List Int) : stabs (prs xs ys) = true := by
  rw [stabs_iff]; intro e he
  simp only [prs, List.mem_map] at he
  obtain ⟨i, _, rfl⟩ := he
  simp [pr]
@[simp] theorem prs_low0s (xs ys : List Int) : low0s (prs xs ys) = prs xs ys := by
  unfold prs
  induction (List.range xs.length) with
  | nil => simp
  | cons a l ih =>
    rw [List.map_cons, low0s_cons, ih]
    congr 1
@[simp] theorem prs_getElem (xs ys : List Int) (i : Nat) (h : i < (prs xs ys).length) : (prs xs ys)[i] = .agg [.int .i64 (nth xs i), .int .i64 (nth ys i)] := by simp [prs, pr]
theorem nth_set (xs : List Int) (i j : Nat) (a : Int) (h : i < xs.length) : nth (xs.set i a) j = if j = i then a else nth xs j := by
  simp only [nth, List.getD_eq_getElem?_getD, List.getElem?_set]
  by_cases e : i = j
  · subst e; simp [h]
  · simp [e, Ne.symm e]
theorem prs_set {xs ys : List Int} {i : Nat} {a b : Int} (hl : ys.length = xs.length) (hi : i < xs.length) : (prs xs ys).set i (.agg [.int .i64 a, .int .i64 b]) = prs (xs.set i a) (ys.set i b) := by
  apply List.ext_getElem?
  intro j
  by_cases hj : j < xs.length
  · have e1 : (prs (xs.set i a) (ys.set i b))[j]? = some (pr (nth (xs.set i a) j) (nth (ys.set i b) j)) := by simp [prs, hj]
    rw [e1, nth_set _ _ _ _ hi, nth_set _ _ _ _ (by omega), List.getElem?_set]
    by_cases e : i = j
    · subst e; simp [hi, pr]
    · simp [e, Ne.symm e, prs, hj]
  · simp [prs, hj]
theorem isP_rowB {k0 : Nat} {xs ys : List Int} (hl : xs.length ≤ top63) : IsP (rowB 2 k0 (prs xs ys)) := by
  unfold rowB; split
  · exact isP_mk (xs := []) (ys := []) (.inl rfl) rfl (Nat.zero_le _)
  · exact isP_mk (.inr rfl) rfl hl
theorem fsts_rowB {k k0 : Nat} {xs ys : List Int} : fsts (rowB k k0 (prs xs ys)) = xs := by
  unfold rowB; split
  · rename_i h
    have : xs.length = 0 := by have := congrArg List.length h; simpa using this
    rw [List.eq_nil_of_length_eq_zero this]; rfl
  · simp
theorem snds_rowB {k k0 : Nat} {xs ys : List Int} (h : ys.length = xs.length) : snds (rowB k k0 (prs xs ys)) = ys := by
  unfold rowB; split
  · rename_i h2
    have h3 : xs.length = 0 := by have := congrArg List.length h2; simpa using this
    rw [List.eq_nil_of_length_eq_zero (h.trans h3)]; rfl
  · exact snds_prs _ _ h
theorem Row.lowP {h : Heap} {key T k k0 : Nat} {v : AV} {xs ys : List Int} (hR : Row h key T k k0 v (prs xs ys)) : Ev.low h v = rowB k k0 (prs xs ys) := hR.low (by simp) (by simp)
theorem pr_ext {u v : AV} (hu : IsP u) (hv : IsP v) : True := trivial

end Go.Proofs.YtlglhokpaplifaaGreatDoor.Ev
