/- Scaled tables: the program's side. Conditions: none. -/
import Derived.Test.YtppfgokonlloaaaScale
import Derived.Test.YtppfgokonlloaaaCalls
namespace Go.Proofs.Ytppfgokonlloaaa
open Ev
set_option linter.unusedVariables false
set_option linter.unusedSimpArgs false
set_option maxHeartbeats 4000000

/-- an append of a whole row to a row that grows -/
theorem wa_catL {E : Env} {h : Heap} {ko key k0 k1 t sz : Nat} {v : AV} {es fs : List AV} {K : AV → Heap → Prop} (hB : BufL h (elT E t) key k0 sz v es) (ht : slT E t = true) (hs : E.size (elT E t) = sz) (hz : sz ≠ 0)
    (he : ∀ e ∈ fs, e.cells.length = sz ∧ e.cells.all AV.one = true) (hko : es = [] → ko = key) (hl : es.length + fs.length ≤ 1073741824)
    (hK : ∀ v' h', BufL h' (elT E t) key k0 sz v' (es ++ fs) → (∀ k, k ≠ key → h' k = h k) → K v' h') : WA E h ko t v (bufLC k1 sz fs) K ⟨⟩ := by
  unfold WA bufLC
  by_cases hx : fs = []
  · subst hx
    refine ⟨v, h, ?_, hK _ _ (by rw [List.append_nil]; exact hB) fun _ _ => rfl⟩
    rcases hB with ⟨rfl, rfl⟩ | ⟨h9, g, rfl, hk⟩
    · simp only [appendV, slT_ty ht, elemsOf, hs, if_true]
      rw [if_neg hz]; simp
    · simp only [appendV, slT_ty ht, elemsOf, hs, if_true]
      rw [if_neg hz]; simp
  · rw [if_neg hx]
    have hall : ((fs : List AV).all fun y => y.cells.length == sz && y.cells.all AV.one) = true := by
      rw [List.all_eq_true]; intro e h9
      have := he e h9
      rw [this.2]; simp [this.1]
    have hne : fs.isEmpty = false := by cases fs with | nil => exact absurd rfl hx | cons _ _ => rfl
    rcases hB with ⟨rfl, rfl⟩ | ⟨h9, g, rfl, hk⟩
    · obtain rfl := hko rfl
      refine ⟨.sl sz (.tok ko (nextG h ko)) fs, hset h ko (.tok (nextG h ko) (elT E t) sz fs.length), ?_, hK _ _ (.inr ⟨by simpa using hx, _, rfl, by simp [hset]⟩) (fun k hk => by simp [hset, hk])⟩
      simp only [appendV, slT_ty ht, elemsOf, hs]
      rw [if_neg hz, if_neg (by simp [hne]), if_pos ⟨.inl (by trivial), by trivial, by simp [maxRow] at hl ⊢; omega, hall⟩]
      simp
    · refine ⟨.sl sz (.tok key g) (es ++ fs), hset h key (.tok g (elT E t) sz (es ++ fs).length), ?_, hK _ _ (.inr ⟨by simp [h9], _, rfl, by simp [hset]⟩) (fun k hk => by simp [hset, hk])⟩
      simp only [appendV, slT_ty ht, elemsOf, hs]
      rw [if_neg hz, if_neg (by simp [hne]), if_pos ⟨.inr (by trivial), by trivial, by simp [maxRow]; omega, hall⟩]
      simp [hk]
theorem bufL_rekey' {h : Heap} {T key k0 sz : Nat} {v : AV} {es : List AV} (hB : BufL h T key k0 sz v es) (key' : Nat) : BufL h T (if es.length = 0 then key' else key) k0 sz v es := by
  rcases hB with ⟨rfl, rfl⟩ | ⟨hx, g, rfl, hk⟩
  · exact .inl ⟨rfl, rfl⟩
  · have : es.length ≠ 0 := fun e => hx (List.eq_nil_of_length_eq_zero e)
    rw [if_neg this]; exact .inr ⟨hx, g, rfl, hk⟩
theorem kbl_expo (h : Heap) (k0 sz : Nat) (es : List AV) : expo h (bufLC k0 sz es) = bufLC k0 sz es := by unfold bufLC; split <;> simp
theorem kbl_noEx (k0 sz : Nat) (es : List AV) : noEx (bufLC k0 sz es) = bufLC k0 sz es := by unfold bufLC; split <;> simp
theorem kbl_one (k0 sz : Nat) (es : List AV) : (bufLC k0 sz es).one = true := by unfold bufLC; split <;> rfl
theorem kbl_cells (k0 sz : Nat) (es : List AV) : (bufLC k0 sz es).cells = [bufLC k0 sz es] := by unfold bufLC; split <;> rfl
/-- a call, the row of which is taken over to be grown -/
theorem cf_own2 {E : Env} {fid d g : Nat} {args : List AV} {s : Nat → AV} {h : Heap} {off nt : Nat} {K : AV → Heap → Prop} {tg : Tg ((⟨s, h, off, nt⟩ : St), K)} {T key k0 sz : Nat} {es : List AV}
    (hc : EvC E g (lows h args) (bufLR T key k0 sz es)) (he : ((E.ext g).isNone && !E.open_ g && E.mat fid d == 2 && !E.deep g) = true)
    (hK : ∀ v h', BufL h' T (off + d) k0 sz v es → (∀ k, k ≠ off + d → h' k = h k) → K v h') : CF E fid (some d) g args ⟨s, h, off, nt⟩ K tg := by
  simp only [Bool.and_eq_true, Bool.not_eq_true', beq_iff_eq, Option.isNone_iff_eq_none] at he
  unfold CF
  rw [WF_mat (ext_none he.1.1.1 _) he.1.1.2 he.2]
  refine ⟨_, hc, ?_⟩
  by_cases hx : es = []
  · subst hx
    refine ⟨.sl k0 .lit [], h, ?_, hK _ _ (.inl ⟨rfl, rfl⟩) fun _ _ => rfl⟩
    simp only [mat, he.1.2, bufLR, if_true]
    exact if_neg (by decide)
  · refine ⟨.sl sz (.tok (off + d) (nextG h (off + d))) es, hset h (off + d) (.tok (nextG h (off + d)) T sz es.length), ?_, hK _ _ (.inr ⟨hx, _, rfl, by simp [hset]⟩) fun k hk => by simp [hset, hk]⟩
    simp only [mat, he.1.2, bufLR, if_neg hx]
    exact if_neg (by decide)
/-- a column: of an attribute, a test (0: equal, 1: at least, 2: at most), against a value -/
structure Kol where
  a : Nat
  q : Nat
  v : Int
def tst (q : Nat) (x v : Int) : Bool := if q = 0 then decide (x = v) else if q = 1 then decide (x ≥ v) else decide (x ≤ v)
def hasC (row : List Int) (c : Kol) : Bool := tst c.q (nth row c.a) c.v
def fnQ (q : Nat) : Nat := if q = 0 then 65 else if q = 1 then 66 else 67
def colV (c : Kol) : AV := colF (fnQ c.q) c.a c.v
def colsQ (q a : Nat) (lo : Int) (n : Nat) : List Kol := (List.range n).map fun j => ⟨a, q, lo + (j : Nat)⟩
@[simp] theorem colsQ_len (q a : Nat) (lo : Int) (n : Nat) : (colsQ q a lo n).length = n := by simp [colsQ]
theorem colsQ_succ (q a : Nat) (lo : Int) (n : Nat) : colsQ q a lo (n + 1) = colsQ q a lo n ++ [⟨a, q, lo + (n : Nat)⟩] := by simp [colsQ, List.range_succ]
theorem colsF_eq (q a : Nat) (lo : Int) (n : Nat) : colsF (fnQ q) a lo n = (colsQ q a lo n).map colV := by simp [colsF, colsQ, colV]
/-- the columns of an attribute, by the kind of scale (0: nominal, 1: ordinal, 2: interordinal) -/
def colsA (s a : Nat) (y : Int) : List Kol := if s = 0 then colsQ 0 a 0 y.toNat else if s = 1 then colsQ 1 a 1 (y - 1).toNat else colsQ 1 a 1 (y - 1).toNat ++ colsQ 2 a 0 (y - 1).toNat
def allC (s : Nat) (lv : List Int) : Nat → List Kol
  | 0 => []
  | k + 1 => allC s lv k ++ colsA s k (nth lv k)
theorem colV_cells (c : Kol) : (colV c).cells.length = 2 ∧ (colV c).cells.all AV.one = true := ⟨rfl, rfl⟩
theorem colsV_cells {L : List Kol} : ∀ e ∈ L.map colV, e.cells.length = 2 ∧ e.cells.all AV.one = true := by
  intro e he
  obtain ⟨c, _, rfl⟩ := List.mem_map.mp he
  exact colV_cells c
theorem colsA_len (s a : Nat) {y : Int} (h : y ≤ 5) : (colsA s a y).length ≤ 8 := by
  unfold colsA
  split
  · simp; omega
  · split
    · simp; omega
    · simp; omega
theorem allC_len (s : Nat) {lv : List Int} : ∀ k, (∀ i, i < k → nth lv i ≤ 5) → (allC s lv k).length ≤ 8 * k
  | 0, _ => by simp [allC]
  | k + 1, h => by
    have h1 := allC_len s k fun i hi => h i (by omega)
    have h2 := colsA_len s k (h k (by omega))
    simp only [allC, List.length_append]; omega
theorem allC_at (s : Nat) {lv : List Int} : ∀ {k}, ∀ c ∈ allC s lv k, c.a < k
  | 0, c, h => by simp [allC] at h
  | k + 1, c, h => by
    simp only [allC, List.mem_append] at h
    rcases h with h | h
    · have := allC_at s c h; omega
    · have : c.a = k := by
        unfold colsA at h
        split at h
        · simp only [colsQ, List.mem_map] at h; obtain ⟨_, _, rfl⟩ := h; rfl
        · split at h
          · simp only [colsQ, List.mem_map] at h; obtain ⟨_, _, rfl⟩ := h; rfl
          · simp only [colsQ, List.mem_append, List.mem_map] at h; rcases h with ⟨_, _, rfl⟩ | ⟨_, _, rfl⟩ <;> rfl
      omega
/-- what a maker of an attribute's columns comes to -/
def Maker (g s : Nat) : Prop := ∀ (a : Nat) (y : Int), 1 ≤ y → y ≤ 5 → CallsTo env g [.int .i64 a, .int .i64 y] fun r => noEx r = bufLC 2 2 ((colsA s a y).map colV)
theorem iNom1_t {a : Nat} {y : Int} (h1 : 1 ≤ y) (h2 : y ≤ 5) : CallsTo env 47 [.int .i64 a, .int .i64 y] (fun r => noEx r = bufLC 2 2 ((colsA 0 a y).map colV)) := by
  refine callsTo_mk (F := Try.f47) rfl rfl (Nat.le_of_ble_eq_true rfl) ?_
  have k1 : ∀ (K : AV → Prop) (tg : Tg K), CW env 48 [.int .i64 a, .int .i64 0, .int .i64 (y - 1)] K tg ↔ K (bufLR 70 21 2 2 (colsF 65 a 0 y.toNat)) := fun K tg => callsTo_iff (iEqual_c (n := y.toNat) (by omega) (by omega) (by omega) (by omega))
  have hc := colsF_eq 0 a 0 y.toNat
  repeat' (first | (apply brI <;> intro hb hb2 <;> (try simp [-Int.not_le, -Int.not_lt, -Nat.not_le, -Nat.not_lt, -Nat.add_left_cancel_iff] at hb2)) | (refine draw_listA (by rfl) (by kernel_rfl) ?_) | (refine draw_listB (by simp [allocsOf, isAlloc]; rfl) (by kernel_rfl) ?_) | simp (maxSteps := 2000000) (disch := first | omega | assumption | simp [*]) [*, -Int.not_le, -Int.not_lt, -Nat.not_le, -Nat.not_lt, -Nat.add_left_cancel_iff, wrap_i64, wrap_u64, Try.f47, k1])
  rw [kbl_expo, kbl_noEx]
  exact congrArg (bufLC 2 2) hc
theorem iOrd1_t {a : Nat} {y : Int} (h1 : 1 ≤ y) (h2 : y ≤ 5) : CallsTo env 49 [.int .i64 a, .int .i64 y] (fun r => noEx r = bufLC 2 2 ((colsA 1 a y).map colV)) := by
  refine callsTo_mk (F := Try.f49) rfl rfl (Nat.le_of_ble_eq_true rfl) ?_
  have k1 : ∀ (K : AV → Prop) (tg : Tg K), CW env 50 [.int .i64 a, .int .i64 1, .int .i64 (y - 1)] K tg ↔ K (bufLR 70 21 2 2 (colsF 66 a 1 (y - 1).toNat)) := fun K tg => callsTo_iff (iLeast_c (n := (y - 1).toNat) (by omega) (by omega) (by omega) (by omega))
  have hc := colsF_eq 1 a 1 (y - 1).toNat
  have e1 : (y - 1).toNat = y.toNat - 1 := by omega
  rw [e1] at hc
  repeat' (first | (apply brI <;> intro hb hb2 <;> (try simp [-Int.not_le, -Int.not_lt, -Nat.not_le, -Nat.not_lt, -Nat.add_left_cancel_iff] at hb2)) | (refine draw_listA (by rfl) (by kernel_rfl) ?_) | (refine draw_listB (by simp [allocsOf, isAlloc]; rfl) (by kernel_rfl) ?_) | simp (maxSteps := 2000000) (disch := first | omega | assumption | simp [*]) [*, -Int.not_le, -Int.not_lt, -Nat.not_le, -Nat.not_lt, -Nat.add_left_cancel_iff, wrap_i64, wrap_u64, Try.f49, k1])
  rw [kbl_expo, kbl_noEx]
  have e2 : colsA 1 a y = colsQ 1 a 1 (y.toNat - 1) := by rw [← e1]; rfl
  rw [e2]
  exact congrArg (bufLC 2 2) hc
theorem iInt1_t {a : Nat} {y : Int} (h1 : 1 ≤ y) (h2 : y ≤ 5) : CallsTo env 51 [.int .i64 a, .int .i64 y] (fun r => noEx r = bufLC 2 2 ((colsA 2 a y).map colV)) := by
  refine callsTo_mk (F := Try.f51) rfl rfl (Nat.le_of_ble_eq_true rfl) ?_
  have k1 : ∀ (K : AV → Prop) (tg : Tg K), CW env 50 [.int .i64 a, .int .i64 1, .int .i64 (y - 1)] K tg ↔ K (bufLR 70 21 2 2 (colsF 66 a 1 (y - 1).toNat)) := fun K tg => callsTo_iff (iLeast_c (n := (y - 1).toNat) (by omega) (by omega) (by omega) (by omega))
  have k2 : ∀ (K : AV → Prop) (tg : Tg K), CW env 52 [.int .i64 a, .int .i64 0, .int .i64 (y - 2)] K tg ↔ K (bufLR 70 21 2 2 (colsF 67 a 0 (y - 1).toNat)) := fun K tg => callsTo_iff (iMost_c (n := (y - 1).toNat) (by omega) (by omega) (by omega) (by omega))
  have hn1 : ∀ {e : AV}, e ∈ colsF 67 a 0 (y - 1).toNat → e.cells.length = 2 ∧ e.cells.all AV.one = true := fun {e} he => by
    simp only [colsF, List.mem_map] at he; obtain ⟨_, _, rfl⟩ := he; exact ⟨rfl, rfl⟩
  have hl1 := colsF_len 66 a 1 (y - 1).toNat
  have hl2 := colsF_len 67 a 0 (y - 1).toNat
  have hres : colsF 66 a 1 (y - 1).toNat ++ colsF 67 a 0 (y - 1).toNat = (colsA 2 a y).map colV := by
    unfold colsA
    rw [if_neg (by decide), if_neg (by decide), List.map_append, ← colsF_eq, ← colsF_eq]; rfl
  have hcl := iLeast_c (a := a) (lo := 1) (hi := y - 1) (n := (y - 1).toNat) (by omega) (by omega) (by omega) (by omega)
  obtain ⟨L1, hL1⟩ : ∃ L, colsF 66 a 1 (y - 1).toNat = L := ⟨_, rfl⟩
  obtain ⟨L2, hL2⟩ : ∃ L, colsF 67 a 0 (y - 1).toNat = L := ⟨_, rfl⟩
  rw [hL1] at hl1 hres hcl
  rw [hL2] at hl2 hres hn1 k2
  clear hL1 hL2 k1
  repeat' (first | (apply brI <;> intro hb hb2 <;> (try simp [-Int.not_le, -Int.not_lt, -Nat.not_le, -Nat.not_lt, -Nat.add_left_cancel_iff] at hb2)) | (refine draw_listA (by rfl) (by kernel_rfl) ?_) | (refine draw_listB (by simp [allocsOf, isAlloc]; rfl) (by kernel_rfl) ?_) | simp (maxSteps := 2000000) (disch := first | omega | assumption | simp [*]) [*, -Int.not_le, -Int.not_lt, -Nat.not_le, -Nat.not_lt, -Nat.add_left_cancel_iff, wrap_i64, wrap_u64, Try.f51, k2])
  refine cf_own2 (by simpa using hcl) (by rfl) fun v h hB hk => ?_
  repeat' (first | (apply brI <;> intro hb hb2 <;> (try simp [-Int.not_le, -Int.not_lt, -Nat.not_le, -Nat.not_lt, -Nat.add_left_cancel_iff] at hb2)) | (refine draw_listA (by rfl) (by kernel_rfl) ?_) | (refine draw_listB (by simp [allocsOf, isAlloc]; rfl) (by kernel_rfl) ?_) | simp (maxSteps := 2000000) (disch := first | omega | assumption | simp [*]) [*, -Int.not_le, -Int.not_lt, -Nat.not_le, -Nat.not_lt, -Nat.add_left_cancel_iff, wrap_i64, wrap_u64, k2])
  refine wa_catL (bufL_rekey' hB 13) rfl rfl (by decide) (fun e he => hn1 he) (fun e => by simp [e]) (by omega) fun v2 h2 hB2 hk2 => ?_
  repeat' (first | (apply brI <;> intro hb hb2 <;> (try simp [-Int.not_le, -Int.not_lt, -Nat.not_le, -Nat.not_lt, -Nat.add_left_cancel_iff] at hb2)) | (refine draw_listA (by rfl) (by kernel_rfl) ?_) | (refine draw_listB (by simp [allocsOf, isAlloc]; rfl) (by kernel_rfl) ?_) | simp (maxSteps := 2000000) (disch := first | omega | assumption | simp [*]) [*, -Int.not_le, -Int.not_lt, -Nat.not_le, -Nat.not_lt, -Nat.add_left_cancel_iff, wrap_i64, wrap_u64])
  rw [hB2.expo, bufLR_noEx, hres]
theorem marks_index {L : List Kol} {i : Nat} {c : Kol} (hc : L[i]? = some c) (h : Heap) : indexA env h 58 (bufLC 2 2 (L.map colV)) (.int .i64 i) = some (.cp false [.int .i64 c.a, .fn (fnQ c.q) [.cp false [.int .i64 c.v] 0]] 0) := by
  have hne : L.map colV ≠ [] := fun e => by
    have : L = [] := List.map_eq_nil_iff.mp e
    rw [this] at hc; simp at hc
  unfold bufLC
  rw [if_neg hne]
  simp [indexA, env, hc, colV, colF, AV.cells]
  rfl
theorem iScaled1_c {L : List Kol} {u : AV} {i : Nat} {c : Kol} (hu : IsI u) (hc : L[i]? = some c) (ha : c.a < (xsOf u).length) : EvC env 64 [.int .i64 i, .cp true [bufLC 2 2 (L.map colV)] 0, .cp true [u] 0] (.bool (hasC (xsOf u) c)) := by
  refine evC_of (F := Try.f64) rfl rfl (Nat.le_of_ble_eq_true rfl) ?_
  have hix := fun h => marks_index hc h
  obtain ⟨W, hW⟩ : ∃ W, bufLC 2 2 (L.map colV) = W := ⟨_, rfl⟩
  have oW : W.one = true := by rw [← hW]; exact kbl_one ..
  have cW : W.cells = [W] := by rw [← hW]; exact kbl_cells ..
  rw [hW] at hix ⊢
  clear hW hc
  unfold hasC tst
  by_cases h0 : c.q = 0
  · have hf : fnQ c.q = 65 := by simp [fnQ, h0]
    rw [hf] at hix
    clear hf
    repeat' (first | (apply brI <;> intro hb hb2 <;> (try simp [-Int.not_le, -Int.not_lt, -Nat.not_le, -Nat.not_lt, -Nat.add_left_cancel_iff] at hb2)) | (refine draw_listA (by rfl) (by kernel_rfl) ?_) | (refine draw_listB (by simp [allocsOf, isAlloc]; rfl) (by kernel_rfl) ?_) | simp (maxSteps := 2000000) (disch := first | omega | assumption | simp [*]) [*, -Int.not_le, -Int.not_lt, -Nat.not_le, -Nat.not_lt, -Nat.add_left_cancel_iff, wrap_i64, wrap_u64, Try.f64, hix, isI_index hu, isI_load hu, isI_low hu])
  · by_cases h1 : c.q = 1
    · have hf : fnQ c.q = 66 := by simp [fnQ, h1]
      rw [hf] at hix
      clear hf
      repeat' (first | (apply brI <;> intro hb hb2 <;> (try simp [-Int.not_le, -Int.not_lt, -Nat.not_le, -Nat.not_lt, -Nat.add_left_cancel_iff] at hb2)) | (refine draw_listA (by rfl) (by kernel_rfl) ?_) | (refine draw_listB (by simp [allocsOf, isAlloc]; rfl) (by kernel_rfl) ?_) | simp (maxSteps := 2000000) (disch := first | omega | assumption | simp [*]) [*, -Int.not_le, -Int.not_lt, -Nat.not_le, -Nat.not_lt, -Nat.add_left_cancel_iff, wrap_i64, wrap_u64, Try.f64, hix, isI_index hu, isI_load hu, isI_low hu])
    · have hf : fnQ c.q = 67 := by simp [fnQ, h0, h1]
      rw [hf] at hix
      clear hf
      repeat' (first | (apply brI <;> intro hb hb2 <;> (try simp [-Int.not_le, -Int.not_lt, -Nat.not_le, -Nat.not_lt, -Nat.add_left_cancel_iff] at hb2)) | (refine draw_listA (by rfl) (by kernel_rfl) ?_) | (refine draw_listB (by simp [allocsOf, isAlloc]; rfl) (by kernel_rfl) ?_) | simp (maxSteps := 2000000) (disch := first | omega | assumption | simp [*]) [*, -Int.not_le, -Int.not_lt, -Nat.not_le, -Nat.not_lt, -Nat.add_left_cancel_iff, wrap_i64, wrap_u64, Try.f64, hix, isI_index hu, isI_load hu, isI_low hu])
theorem iScaled1_s {L : List Kol} {u : AV} {i : Nat} {c : Kol} (hu : IsI u) (hc : L[i]? = some c) (ha : c.a < (xsOf u).length) {K : AV → Prop} {tg : Tg K} : CW env 64 [.int .i64 i, .cp true [bufLC 2 2 (L.map colV)] 0, .cp true [u] 0] K tg ↔ K (.bool (hasC (xsOf u) c)) := callsTo_iff (iScaled1_c hu hc ha)
attribute [simp] iScaled1_s
theorem put_one {w x : AV} (hw : w.one = true) (hx : x.one = true) : putCells w 0 x = some x := by
  have hc : x.cells.all AV.one = true := by rw [one_cells hx]; simp [hx]
  unfold putCells
  rw [if_pos hc]
  cases w <;> first | (simp [AV.one] at hw; done) | (simp only [hw, hx]; rfl)
theorem bufL_low0 {h : Heap} {T key k0 sz : Nat} {v : AV} {es : List AV} (hB : BufL h T key k0 sz v es) : low0 v = bufLC k0 sz es := by
  rcases hB with ⟨rfl, rfl⟩ | ⟨hx, g, rfl, hk⟩
  · rfl
  · unfold bufLC; rw [if_neg hx]; rfl
def hasAt (C : List Kol) (row : List Int) (j : Nat) : Bool := match C[j]? with | some c => hasC row c | none => false
def scR (s : Nat) (lv : List Int) (xss : List (List Int)) : List Int := tab (fun i => setOf (hasAt (allC s lv lv.length) (nthL xss i)) (allC s lv lv.length).length) xss.length
def ScC (s : Nat) (lv : List Int) (xss : List (List Int)) : Prop := PTab lv xss ∧ (allC s lv lv.length).length ≤ 6
noncomputable instance (s : Nat) (lv : List Int) (xss : List (List Int)) : Decidable (ScC s lv xss) := Classical.propDecidable _
/-- a growing row of marks in a variable -/
def MkV (h : Heap) (L : List AV) : Prop := ∃ w, h 6 = some (.var 0 58 w) ∧ BufL h 70 30 2 2 w L
theorem iScaled_c {u v : AV} {g s : Nat} (hu : IsI u) (hv : IsLL v) (hx : env.ext g = none) (ho : env.open_ g = false) (hdp : env.deep g = false) (hg : Maker g s) : EvC env 46 [.agg [u, v], .fn g []] (.tup [.agg [.int .i64 (if ScC s (xsOf u) (xssOf v) then ((allC s (xsOf u) (xsOf u).length).length : Nat) else (0 : Nat)), bufR 3 53 0 (if ScC s (xsOf u) (xssOf v) then scR s (xsOf u) (xssOf v) else [])], .bool (decide (ScC s (xsOf u) (xssOf v)))]) := by
  refine evC_of (F := Try.f46) rfl rfl (Nat.le_of_ble_eq_true rfl) ?_
  by_cases hp : PTab (xsOf u) (xssOf v)
  · have hlv : (xsOf u).length ≤ 6 := hp.1
    have hrs : (xssOf v).length ≤ 8 := hp.2.1
    have hal := fun k (hk : k ≤ (xsOf u).length) => allC_len s (lv := xsOf u) k fun i hi => (hp.2.2.1 i (by omega)).2
    repeat' (first | (apply brI <;> intro hb hb2 <;> (try simp [-Int.not_le, -Int.not_lt, -Nat.not_le, -Nat.not_lt, -Nat.add_left_cancel_iff] at hb2)) | simp (maxSteps := 2000000) (disch := first | omega | assumption | simp [*]) [*, -Int.not_le, -Int.not_lt, -Nat.not_le, -Nat.not_lt, -Nat.add_left_cancel_iff, wrap_i64, wrap_u64, Try.f46, hp, isI_cells hu, isI_one hu, isI_low hu, isI_len hu, isLL_cells hv, isLL_one hv, isLL_low hv, isLL_len hv])
    refine W_loopG (xsOf u).length (fun i st h => st 20 = .int .i64 i ∧ st 19 = .int .i64 (xsOf u).length ∧ st 18 = u ∧ st 1 = .fn g [] ∧ st 2 = .vp 2 0 0 ∧ st 4 = .vp 4 0 0 ∧ st 6 = .vp 6 0 0 ∧ h 2 = some (.var 0 38 (.agg [u, v])) ∧ h 4 = some (.var 0 26 (.agg [.int .i64 0, .sl 0 .lit []])) ∧ h 9 = none ∧ MkV h ((allC s (xsOf u) i).map colV)) ?_ ?_
    · refine ⟨rfl, rfl, rfl, rfl, rfl, rfl, rfl, by simp [hset], by simp [hset], by simp [hset, hnil], ?_⟩
      exact ⟨.sl 2 .lit [], by simp [hset], bufL_nil ..⟩
    rintro i st h hi ⟨k20, k19, k18, k1, k2, k4, k6, e2, e4, e9, w, e6, hB⟩
    have ow := hB.one
    have cw := hB.cells
    have hali := hal i hi
    by_cases hi2 : i < (xsOf u).length
    · obtain ⟨hy1, hy5⟩ := hp.2.2.1 i hi2
      obtain ⟨r, hr, hnr⟩ := hg i (nth (xsOf u) i) hy1 hy5
      have hk : ∀ (K : AV → Prop) (tg : Tg K), CW env g [.int .i64 i, .int .i64 (nth (xsOf u) i)] K tg ↔ K r := fun K tg => callsTo_iff hr
      have hcl := colsA_len s i hy5
      clear hr hal hg
      repeat' (first | (apply brI <;> intro hb hb2 <;> (try simp [-Int.not_le, -Int.not_lt, -Nat.not_le, -Nat.not_lt, -Nat.add_left_cancel_iff] at hb2)) | simp (maxSteps := 2000000) (disch := first | omega | assumption | simp [*]) [*, -Int.not_le, -Int.not_lt, -Nat.not_le, -Nat.not_lt, -Nat.add_left_cancel_iff, wrap_i64, wrap_u64, k20, k19, k18, k1, k2, k4, k6, e2, e4, e6, isI_len hu, isI_index hu, isI_load hu])
      refine draw_listK [6] [1, 0, 0, 0, 2, 0, 0] (by kernel_rfl) (by kernel_rfl) (by kernel_rfl) (by kernel_rfl) ?_
      repeat' (first | (apply brI <;> intro hb hb2 <;> (try simp [-Int.not_le, -Int.not_lt, -Nat.not_le, -Nat.not_lt, -Nat.add_left_cancel_iff] at hb2)) | simp (maxSteps := 2000000) (disch := first | omega | assumption | simp [*]) [*, -Int.not_le, -Int.not_lt, -Nat.not_le, -Nat.not_lt, -Nat.add_left_cancel_iff, wrap_i64, wrap_u64, k1, k2, k4, k6, e2, e4, e6, hk, hnr])
      refine ⟨fun _ _ => rfl, ?_⟩
      repeat' (first | (apply brI <;> intro hb hb2 <;> (try simp [-Int.not_le, -Int.not_lt, -Nat.not_le, -Nat.not_lt, -Nat.add_left_cancel_iff] at hb2)) | simp (maxSteps := 2000000) (disch := first | omega | assumption | simp [*]) [*, -Int.not_le, -Int.not_lt, -Nat.not_le, -Nat.not_lt, -Nat.add_left_cancel_iff, wrap_i64, wrap_u64, k1, k2, k4, k6, e2, e4, e6, hk, hnr])
      refine wa_catL (t := 58) hB rfl rfl (by decide) colsV_cells (fun _ => rfl) (by simp; omega) fun v2 h2 hB2 hk2 => ?_
      have f2 := (hk2 2 (by omega)).trans e2
      have f4 := (hk2 4 (by omega)).trans e4
      have f6 := (hk2 6 (by omega)).trans e6
      have f9 := (hk2 9 (by omega)).trans e9
      have o2 := hB2.one
      have c2 := hB2.cells
      have hpu := put_one ow o2
      repeat' (first | (apply brI <;> intro hb hb2 <;> (try simp [-Int.not_le, -Int.not_lt, -Nat.not_le, -Nat.not_lt, -Nat.add_left_cancel_iff] at hb2)) | simp (maxSteps := 2000000) (disch := first | omega | assumption | simp [*]) [*, -Int.not_le, -Int.not_lt, -Nat.not_le, -Nat.not_lt, -Nat.add_left_cancel_iff, wrap_i64, wrap_u64, k20, k19, k18, k1, k2, k4, k6, f2, f4, f6, f9, hpu])
      exact ⟨v2, by simp [hset], BufL.keep (by rw [show allC s (xsOf u) (i + 1) = allC s (xsOf u) i ++ colsA s i (nth (xsOf u) i) from rfl, List.map_append]; exact hB2) (by simp [hset])⟩
    · obtain rfl : i = (xsOf u).length := by omega
      have hlen := hB.len (E := env) (t := 58) rfl
      by_cases hc6 : (allC s (xsOf u) (xsOf u).length).length ≤ 6
      · have hS : ScC s (xsOf u) (xssOf v) := ⟨hp, hc6⟩
        have hc7 : ¬ (6 : Int) < (((allC s (xsOf u) (xsOf u).length).length : Nat) : Int) := by omega
        repeat' (first | (apply brI <;> intro hb hb2 <;> (try simp [-Int.not_le, -Int.not_lt, -Nat.not_le, -Nat.not_lt, -Nat.add_left_cancel_iff] at hb2)) | (refine draw_listA (by rfl) (by kernel_rfl) ?_) | (refine draw_listB (by simp [allocsOf, isAlloc]; rfl) (by kernel_rfl) ?_) | simp (maxSteps := 2000000) (disch := first | omega | assumption | simp [*]) [*, -Int.not_le, -Int.not_lt, -Nat.not_le, -Nat.not_lt, -Nat.add_left_cancel_iff, wrap_i64, wrap_u64, k20, k19, k18, k1, k2, k4, k6, e2, e4, e6, e9, isI_len hu, hlen, isLL_len hv])
        obtain ⟨C, hC⟩ : ∃ C, allC s (xsOf u) (xsOf u).length = C := ⟨_, rfl⟩
        have hat : ∀ c ∈ C, c.a < (xsOf u).length := by rw [← hC]; exact fun c hc => allC_at s c hc
        have hscR : scR s (xsOf u) (xssOf v) = tab (fun i => setOf (hasAt C (nthL (xssOf v) i)) C.length) (xssOf v).length := by unfold scR; rw [hC]
        have hl0 : low0 w = bufLC 2 2 (C.map colV) := by rw [← hC]; exact bufL_low0 hB
        have hll := hB.low
        rw [hC] at hB hll hlen hc6 hc7 ⊢
        clear hC hal hali hg
        refine W_loopG (xssOf v).length (fun i st h => st 42 = .int .i64 i ∧ st 41 = .int .i64 (xssOf v).length ∧ st 40 = v ∧ st 4 = .vp 4 0 0 ∧ st 6 = .vp 6 0 0 ∧ st 9 = .vp 9 0 0 ∧ h 4 = some (.var 0 26 (.agg [.int .i64 0, .sl 0 .lit []])) ∧ h 6 = some (.var 0 58 w) ∧
          ∃ w2, h 9 = some (.var 0 26 (.agg [.int .i64 C.length, w2])) ∧ Buf h 3 53 0 w2 (tab (fun i => setOf (hasAt C (nthL (xssOf v) i)) C.length) i)) ?_ ?_
        · refine ⟨rfl, rfl, rfl, by simp [k4], by simp [k6], rfl, by simp [hset, e4], by simp [hset, e6], .sl 0 .lit [], by simp [hset], buf_nil ..⟩
        rintro j st2 h2 hj ⟨q42, q41, q40, q4, q6, q9, d4, d6, w2, d9, hB2⟩
        have ow2 := hB2.one
        have cw2 := hB2.cells
        by_cases hj2 : j < (xssOf v).length
        · have hrj := hv.row j hj2
          have hxj := xssOf_row hj2
          have hrl : (xsOf (rowOf v j)).length = (xsOf u).length := by rw [hxj]; exact (hp.2.2.2 j hj2).1
          have hcs : ∀ (K : AV → Prop) (tg : Tg K), CW env 63 [.int .i64 C.length, .fn 64 [.cp true [bufLC 2 2 (C.map colV)] 0, .cp true [rowOf v j] 0]] K tg ↔ K (.int .i64 (setOf (hasAt C (nthL (xssOf v) j)) C.length)) :=
            fun K tg => callsTo_iff (accepted_c (by omega) rfl rfl rfl (fun h => by simp [low, lows]) fun i hi => by
              have hci : C[i]? = some C[i] := List.getElem?_eq_getElem hi
              have := iScaled1_c (L := C) (i := i) hrj hci (by rw [hrl]; exact hat _ (List.getElem_mem hi))
              rw [hxj] at this
              simpa [hasAt, hci] using this)
          have hpu := put_one (w := .sl 0 .lit []) rfl (isI_one hrj)
          repeat' (first | (apply brI <;> intro hb hb2 <;> (try simp [-Int.not_le, -Int.not_lt, -Nat.not_le, -Nat.not_lt, -Nat.add_left_cancel_iff] at hb2)) | (refine draw_listA (by rfl) (by kernel_rfl) ?_) | (refine draw_listB (by simp [allocsOf, isAlloc]; rfl) (by kernel_rfl) ?_) | simp (maxSteps := 2000000) (disch := first | omega | assumption | simp [*]) [*, -Int.not_le, -Int.not_lt, -Nat.not_le, -Nat.not_lt, -Nat.add_left_cancel_iff, wrap_i64, wrap_u64, q42, q41, q40, q4, q6, q9, d4, d6, d9, isLL_len hv, isLL_index hv, isLL_load hv, isI_low hrj, isI_low0 hrj, isI_cells hrj, isI_one hrj, hl0, hll, hlen, hpu, hcs])
          refine wa_push' (hB2.keep (by simp [hset])) (by simp) (by simp) (fun _ => rfl) (by simp; omega) ?_
          intro v3 h3 hB3 hk3
          have o3 := hB3.one
          have c3 := hB3.cells
          have g9 : h3 9 = some (.var 0 26 (.agg [.int .i64 C.length, w2])) := by rw [hk3 9 (by omega)]; simp [hset, d9]
          have g4 : h3 4 = some (.var 0 26 (.agg [.int .i64 0, .sl 0 .lit []])) := by rw [hk3 4 (by omega)]; simp [hset, d4]
          have g6 : h3 6 = some (.var 0 58 w) := by rw [hk3 6 (by omega)]; simp [hset, d6]
          repeat' (first | (apply brI <;> intro hb hb2 <;> (try simp [-Int.not_le, -Int.not_lt, -Nat.not_le, -Nat.not_lt, -Nat.add_left_cancel_iff] at hb2)) | (refine draw_listA (by rfl) (by kernel_rfl) ?_) | (refine draw_listB (by simp [allocsOf, isAlloc]; rfl) (by kernel_rfl) ?_) | simp (maxSteps := 2000000) (disch := first | omega | assumption | simp [*]) [*, -Int.not_le, -Int.not_lt, -Nat.not_le, -Nat.not_lt, -Nat.add_left_cancel_iff, wrap_i64, wrap_u64, q42, q41, q40, q4, q6, q9, g4, g6, g9])
          rw [tab_succ]
          exact hB3.keep (by simp [hset])
        · obtain rfl : j = (xssOf v).length := by omega
          repeat' (first | (apply brI <;> intro hb hb2 <;> (try simp [-Int.not_le, -Int.not_lt, -Nat.not_le, -Nat.not_lt, -Nat.add_left_cancel_iff] at hb2)) | (refine draw_listA (by rfl) (by kernel_rfl) ?_) | (refine draw_listB (by simp [allocsOf, isAlloc]; rfl) (by kernel_rfl) ?_) | simp (maxSteps := 2000000) (disch := first | omega | assumption | simp [*]) [*, -Int.not_le, -Int.not_lt, -Nat.not_le, -Nat.not_lt, -Nat.add_left_cancel_iff, wrap_i64, wrap_u64, q42, q41, q40, q4, q6, q9, d4, d6, d9, isLL_len hv])
          exact (hB2.keep (by simp [hset])).expo
      · have hS : ¬ ScC s (xsOf u) (xssOf v) := fun h => hc6 h.2
        have hc7 : (6 : Int) < (((allC s (xsOf u) (xsOf u).length).length : Nat) : Int) := by omega
        repeat' (first | (apply brI <;> intro hb hb2 <;> (try simp [-Int.not_le, -Int.not_lt, -Nat.not_le, -Nat.not_lt, -Nat.add_left_cancel_iff] at hb2)) | (refine draw_listA (by rfl) (by kernel_rfl) ?_) | (refine draw_listB (by simp [allocsOf, isAlloc]; rfl) (by kernel_rfl) ?_) | simp (maxSteps := 2000000) (disch := first | omega | assumption | simp [*]) [*, -Int.not_le, -Int.not_lt, -Nat.not_le, -Nat.not_lt, -Nat.add_left_cancel_iff, wrap_i64, wrap_u64, k20, k19, k18, k1, k2, k4, k6, e2, e4, e6, e9, isI_len hu, hlen, hS])
  · have hS : ¬ ScC s (xsOf u) (xssOf v) := fun h => hp h.1
    repeat' (first | (apply brI <;> intro hb hb2 <;> (try simp [-Int.not_le, -Int.not_lt, -Nat.not_le, -Nat.not_lt, -Nat.add_left_cancel_iff] at hb2)) | (refine draw_listA (by rfl) (by kernel_rfl) ?_) | (refine draw_listB (by simp [allocsOf, isAlloc]; rfl) (by kernel_rfl) ?_) | simp (maxSteps := 2000000) (disch := first | omega | assumption | simp [*]) [*, -Int.not_le, -Int.not_lt, -Nat.not_le, -Nat.not_lt, -Nat.add_left_cancel_iff, wrap_i64, wrap_u64, Try.f46, hp, hS, isI_cells hu, isI_one hu, isI_low hu, isI_len hu, isLL_cells hv, isLL_one hv, isLL_low hv, isLL_len hv])
theorem iScaled_s {u v : AV} {g s : Nat} (hu : IsI u) (hv : IsLL v) (hx : env.ext g = none) (ho : env.open_ g = false) (hdp : env.deep g = false) (hg : Maker g s) {K : AV → Prop} {tg : Tg K} : CW env 46 [.agg [u, v], .fn g []] K tg ↔ K (.tup [.agg [.int .i64 (if ScC s (xsOf u) (xssOf v) then ((allC s (xsOf u) (xsOf u).length).length : Nat) else (0 : Nat)), bufR 3 53 0 (if ScC s (xsOf u) (xssOf v) then scR s (xsOf u) (xssOf v) else [])], .bool (decide (ScC s (xsOf u) (xssOf v)))]) := callsTo_iff (iScaled_c hu hv hx ho hdp hg)
attribute [simp] iScaled_s
end Go.Proofs.Ytppfgokonlloaaa
