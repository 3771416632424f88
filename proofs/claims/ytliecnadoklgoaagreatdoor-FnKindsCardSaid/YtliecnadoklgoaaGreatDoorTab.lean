/- Tables of meets and joins; distributive, modular and Boolean lattices: both sides. Conditions: none. -/
import Derived.Test.YtliecnadoklgoaaGreatDoorTabP
import Derived.Test.YtliecnadoklgoaaGreatDoorCmpl
namespace Go.Proofs.YtliecnadoklgoaaGreatDoor
open Ev
set_option linter.unusedVariables false
set_option linter.unusedSimpArgs false
set_option maxHeartbeats 4000000

/-- a table -/
def tabR (M : Nat → Nat → Nat) (len a : Nat) : List Int := tab (fun b => (M a b : Int)) len
def tabT (M : Nat → Nat → Nat) (len k : Nat) : List (List Int) := (List.range k).map fun a => tabR M len a
theorem tabT_len (M : Nat → Nat → Nat) (len k : Nat) : (tabT M len k).length = k := by simp [tabT]
theorem tabT_at (M : Nat → Nat → Nat) {len k a : Nat} (h : a < k) : nthL (tabT M len k) a = tabR M len a := by simp [tabT, nthL, h]
theorem tabR_len (M : Nat → Nat → Nat) (len a : Nat) : (tabR M len a).length = len := by simp [tabR]
theorem tabR_at (M : Nat → Nat → Nat) {len a b : Nat} (h : b < len) : nth (tabR M len a) b = (M a b : Int) := by unfold tabR; rw [tab_nth _ h]
theorem tabT_succ (M : Nat → Nat → Nat) (len k : Nat) : tabT M len (k + 1) = tabT M len k ++ [tabR M len k] := by simp [tabT, List.range_succ]
theorem rowsV_snoc (xss : List (List Int)) (xs : List Int) : rowsV (xss ++ [xs]) = rowsV xss ++ [slI xs] := by simp [rowsV]
theorem tab_snoc (f : Nat → Int) (n : Nat) : tab f (n + 1) = tab f n ++ [f n] := by simp [tab, List.range_succ]
/-- what is known of a table that is read -/
structure IsT (v : AV) (M : Nat → Nat → Nat) (len : Nat) : Prop where
  ll : IsLL v
  ln : (xssOf v).length = len
  row : ∀ a, a < len → IsI (rowOf v a) ∧ (xsOf (rowOf v a)).length = len ∧ ∀ b, b < len → nth (xsOf (rowOf v a)) b = (M a b : Int)
theorem isT_mk {v : AV} {M : Nat → Nat → Nat} {len : Nat} (hl : len ≤ 64) (h1 : IsLL v) (h2 : xssOf v = tabT M len len) : IsT v M len := by
  have hlen : (xssOf v).length = len := by rw [h2, tabT_len]
  refine ⟨h1, hlen, fun a ha => ?_⟩
  have e : xsOf (rowOf v a) = tabR M len a := by rw [xssOf_row (by omega), h2, tabT_at M ha]
  exact ⟨h1.row a (by omega), by rw [e, tabR_len], fun b hb => by rw [e, tabR_at M hb]⟩
theorem isLL_nil (k : Nat) : IsLL (.sl k .lit []) := ⟨{ len := by simp, ok := ⟨k, .lit, [], rfl, .inl rfl, rfl⟩, cells := fun e he => by simp at he }, fun n hn => by simp [xssOf] at hn⟩
theorem isT_no {M : Nat → Nat → Nat} {len : Nat} (hl : len ≤ 64) : IsT (.sl 1 .no (rowsV (tabT M len len))) M len :=
  isT_mk hl (isLL_no (by rw [tabT_len]; unfold top63; omega) fun n hn => by rw [tabT_len] at hn; rw [tabT_at M hn, tabR_len]; unfold top63; omega) (by simp)
theorem isT_buf {M : Nat → Nat → Nat} {len : Nat} (hl : len ≤ 64) : IsT (bufLC 1 1 (rowsV (tabT M len len))) M len := by
  unfold bufLC
  split
  · rename_i h
    have h0 : len = 0 := by have := congrArg List.length h; simpa [tabT_len] using this
    subst h0
    exact isT_mk (by decide) (isLL_nil 1) (by simp [xssOf, tabT])
  · exact isT_no hl
theorem isT_no1 (v : AV) (M : Nat → Nat → Nat) (h : xssOf v = []) (h1 : IsLL v) : IsT v M 0 := isT_mk (by decide) h1 (by simp [h, tabT])
theorem buf_slot {h : Heap} {T key k0 : Nat} {v : AV} {xs : List Int} (hB : Buf h T key k0 v xs) (hx : xs ≠ []) : stab v = true ∧ low0 v = slI xs ∧ v.cells = [v] ∧ v.one = true := by
  rcases hB with ⟨rfl, _⟩ | ⟨_, g, rfl, _⟩
  · exact absurd rfl hx
  · exact ⟨rfl, by simp [low0, slI], rfl, rfl⟩
theorem l6At_c {v : AV} {e : Int} (hP : IsP v) (hl : (fsts v).length ≤ 64) : EvC env 234 [v, .int .i64 e] (.int .i64 (idxP (inP e) (fsts v) (snds v))) := by
  refine evC_of (F := Tryz.f234) rfl rfl (Nat.le_of_ble_eq_true rfl) ?_
  repeat' (first | (apply brI <;> intro hb hb2 <;> (try simp [-Int.not_le, -Int.not_lt, -Nat.not_le, -Nat.not_lt, -Nat.add_left_cancel_iff] at hb2)) | (refine draw_listA (by rfl) (by kernel_rfl) ?_) | (refine draw_listB (by simp [allocsOf, isAlloc]; rfl) (by kernel_rfl) ?_) | simp (maxSteps := 2000000) (disch := first | omega | assumption | simp [*]) [*, -Int.not_le, -Int.not_lt, -Nat.not_le, -Nat.not_lt, -Nat.add_left_cancel_iff, wrap_i64, wrap_u64, Tryz.f234, isP_len hP])
  refine W_loopP (fsts v).length (fun i s => s 5 = .int .i64 i ∧ s 0 = v ∧ s 1 = .int .i64 e ∧ ∀ j, j < i → inP e (nth (fsts v) j) (nth (snds v) j) = false) rfl ?_ ?_
  · simp
  rintro i s hi ⟨h5, h0, h1, hj⟩
  by_cases hi2 : i < (fsts v).length
  · by_cases he : nth (snds v) i = e
    · have hx := idxP_some (p := inP e) (ys := snds v) hi2 (by simp [inP, he]) hj
      clear hj
      repeat' (first | (apply brI <;> intro hb hb2 <;> (try simp [-Int.not_le, -Int.not_lt, -Nat.not_le, -Nat.not_lt, -Nat.add_left_cancel_iff] at hb2)) | (refine draw_listA (by rfl) (by kernel_rfl) ?_) | (refine draw_listB (by simp [allocsOf, isAlloc]; rfl) (by kernel_rfl) ?_) | simp (maxSteps := 2000000) (disch := first | omega | assumption | simp [*]) [*, -Int.not_le, -Int.not_lt, -Nat.not_le, -Nat.not_lt, -Nat.add_left_cancel_iff, wrap_i64, wrap_u64, h5, h0, h1, isP_len hP, isP_index hP])
    · have hj2 : ∀ j, j < i + 1 → inP e (nth (fsts v) j) (nth (snds v) j) = false := fun j h9 => by
        by_cases ej : j = i
        · subst ej; simp [inP, he]
        · exact hj j (by omega)
      clear hj
      repeat' (first | (apply brI <;> intro hb hb2 <;> (try simp [-Int.not_le, -Int.not_lt, -Nat.not_le, -Nat.not_lt, -Nat.add_left_cancel_iff] at hb2)) | (refine draw_listA (by rfl) (by kernel_rfl) ?_) | (refine draw_listB (by simp [allocsOf, isAlloc]; rfl) (by kernel_rfl) ?_) | simp (maxSteps := 2000000) (disch := first | omega | assumption | simp [*]) [*, -Int.not_le, -Int.not_lt, -Nat.not_le, -Nat.not_lt, -Nat.add_left_cancel_iff, wrap_i64, wrap_u64, h5, h0, h1, isP_len hP, isP_index hP])
      exact hj2
  · obtain rfl : i = (fsts v).length := by omega
    have hx := idxP_none (p := inP e) (ys := snds v) hj
    clear hj
    repeat' (first | (apply brI <;> intro hb hb2 <;> (try simp [-Int.not_le, -Int.not_lt, -Nat.not_le, -Nat.not_lt, -Nat.add_left_cancel_iff] at hb2)) | (refine draw_listA (by rfl) (by kernel_rfl) ?_) | (refine draw_listB (by simp [allocsOf, isAlloc]; rfl) (by kernel_rfl) ?_) | simp (maxSteps := 2000000) (disch := first | omega | assumption | simp [*]) [*, -Int.not_le, -Int.not_lt, -Nat.not_le, -Nat.not_lt, -Nat.add_left_cancel_iff, wrap_i64, wrap_u64, h5, h0, h1, isP_len hP, isP_index hP])
theorem l6At_s {v : AV} {e : Int} (hP : IsP v) (hl : (fsts v).length ≤ 64) {K : AV → Prop} {tg : Tg K} : CW env 234 [v, .int .i64 e] K tg ↔ K (.int .i64 (idxP (inP e) (fsts v) (snds v))) := callsTo_iff (l6At_c hP hl)
attribute [simp] l6At_s
noncomputable def tabM (meet : Bool) (n : Int) (xs : List Int) : Nat → Nat → Nat := if meet then meetK n xs else joinK n xs
theorem l21Table_c {N : Nat} {v w : AV} {meet : Bool} (hv : IsI v) (hc : PCtx N (xsOf v)) (hP : IsP w) (hF : fsts w = fsts (conW N (xsOf v))) (hS : snds w = snds (conW N (xsOf v))) : EvC env 195 [.agg [.int .i64 N, v], w, .bool meet] (bufLR 24 60 1 1 (rowsV (tabT (tabM meet N (xsOf v)) (conL N (xsOf v)).length (conL N (xsOf v)).length))) := by
  refine evC_of (F := Tryz.f195) rfl rfl (Nat.le_of_ble_eq_true rfl) ?_
  have hfl := conW_len N (xsOf v)
  have hL := conL_len N (xsOf v)
  rw [← hF] at hfl
  have hsl := hP.lens
  have hFs := sets_F N (xsOf v)
  have hSs := sets_S N (xsOf v)
  have hat : ∀ a b, a < (conL N (xsOf v)).length → b < (conL N (xsOf v)).length → (meet = true → PSet (xsOf v).length (andI (nth (fsts w) a) (nth (fsts w) b)) = true ∧ idxP (inP (IntS (xsOf v) N (andI (nth (fsts w) a) (nth (fsts w) b)))) (fsts w) (snds w) = (tabM meet N (xsOf v) a b : Nat)) ∧ (meet = false → idxP (inP (andI (nth (snds w) a) (nth (snds w) b))) (fsts w) (snds w) = (tabM meet N (xsOf v) a b : Nat)) := fun a b ha hb => by
    rw [hF, hS]
    refine ⟨fun hm => ⟨?_, ?_⟩, fun hm => ?_⟩
    · refine andI_pset ?_ ?_
      · rw [nthF ha]; exact ext_pset _ _ hc.2.2.1
      · rw [nthF hb]; exact ext_pset _ _ hc.2.2.1
    · rw [meetK_in hc ha hb, hm]; rfl
    · rw [joinK_in hc ha hb, hm]; rfl
  have h6 : ∀ (e : Int) (K : AV → Prop) (tg : Tg K), CW env 234 [w, .int .i64 e] K tg ↔ K (.int .i64 (idxP (inP e) (fsts w) (snds w))) := fun e K tg => callsTo_iff (l6At_c hP (by omega))
  rw [← hF] at hFs
  rw [← hS] at hSs
  clear hF hS
  generalize tabM meet N (xsOf v) = M at *
  generalize (conL N (xsOf v)).length = len at *
  repeat' (first | (apply brI <;> intro hb hb2 <;> (try simp [-Int.not_le, -Int.not_lt, -Nat.not_le, -Nat.not_lt, -Nat.add_left_cancel_iff] at hb2)) | (refine draw_listA (by rfl) (by kernel_rfl) ?_) | (refine draw_listB (by simp [allocsOf, isAlloc]; rfl) (by kernel_rfl) ?_) | simp (maxSteps := 2000000) (disch := first | omega | assumption | simp [*]) [*, -Int.not_le, -Int.not_lt, -Nat.not_le, -Nat.not_lt, -Nat.add_left_cancel_iff, wrap_i64, wrap_u64, Tryz.f195, isI_cells hv, isI_one hv, isI_low hv, isP_len hP])
  refine W_loopG len (fun a s h => s 8 = .int .i64 a ∧ s 1 = w ∧ s 2 = .bool meet ∧ s 3 = .vp 3 0 0 ∧ h 3 = some (.var 0 26 (.agg [.int .i64 N, v])) ∧ BufL h 24 60 1 1 (s 7) (rowsV (tabT M len a))) ?_ ?_
  · simp [tabT, rowsV]
    exact bufL_nil ..
  rintro a s h ha ⟨h8, h1, h2, h3, e3, hB⟩
  by_cases ha2 : a < len
  · have ra := hFs a (by omega)
    have sa := hSs a (by omega)
    repeat' (first | (apply brI <;> intro hb hb2 <;> (try simp [-Int.not_le, -Int.not_lt, -Nat.not_le, -Nat.not_lt, -Nat.add_left_cancel_iff] at hb2)) | (refine draw_listA (by rfl) (by kernel_rfl) ?_) | (refine draw_listB (by simp [allocsOf, isAlloc]; rfl) (by kernel_rfl) ?_) | simp (maxSteps := 2000000) (disch := first | omega | assumption | simp [*]) [*, -Int.not_le, -Int.not_lt, -Nat.not_le, -Nat.not_lt, -Nat.add_left_cancel_iff, wrap_i64, wrap_u64, h8, h1, h2, h3, e3, isP_len hP])
    refine W_loopG len (fun b s h => s 8 = .int .i64 a ∧ s 10 = .int .i64 b ∧ s 1 = w ∧ s 2 = .bool meet ∧ s 3 = .vp 3 0 0 ∧ h 3 = some (.var 0 26 (.agg [.int .i64 N, v])) ∧ BufL h 24 60 1 1 (s 7) (rowsV (tabT M len a)) ∧ Buf h 3 56 1 (s 9) (tab (fun b => (M a b : Int)) b)) ?_ ?_
    · simp [*]
      first | exact ⟨hB, buf_nil ..⟩ | exact buf_nil ..
    clear hB h8 h1 h2 h3 e3
    rintro b s h hb ⟨h8, h10, h1, h2, h3, e3, hB, hR⟩
    have hRl : (tab (fun b => (M a b : Int)) b).length = b := by simp
    by_cases hb2 : b < len
    · have rb := hFs b (by omega)
      have sb := hSs b (by omega)
      obtain ⟨hm, hj⟩ := hat a b ha2 hb2
      have hsn := tab_snoc (fun b => (M a b : Int)) b
      have hE : (((nth (fsts w) a).toNat &&& (nth (fsts w) b).toNat : Nat) : Int) = andI (nth (fsts w) a) (nth (fsts w) b) := rfl
      have hG : (((nth (snds w) a).toNat &&& (nth (snds w) b).toNat : Nat) : Int) = andI (nth (snds w) a) (nth (snds w) b) := rfl
      generalize andI (nth (fsts w) a) (nth (fsts w) b) = E at *
      generalize andI (nth (snds w) a) (nth (snds w) b) = G at *
      clear hat hFs hSs
      cases meet with
      | true =>
        obtain ⟨pE, hx⟩ := hm rfl
        clear hm hj
        repeat' (first | (apply brI <;> intro hb hb2 <;> (try simp [-Int.not_le, -Int.not_lt, -Nat.not_le, -Nat.not_lt, -Nat.add_left_cancel_iff] at hb2)) | (refine draw_listA (by rfl) (by kernel_rfl) ?_) | (refine draw_listB (by simp [allocsOf, isAlloc]; rfl) (by kernel_rfl) ?_) | simp (maxSteps := 2000000) (disch := first | omega | assumption | simp [*]) [*, -Int.not_le, -Int.not_lt, -Nat.not_le, -Nat.not_lt, -Nat.add_left_cancel_iff, wrap_i64, wrap_u64, h8, h10, h1, h2, h3, e3, isI_cells hv, isI_one hv, isI_low hv, isP_len hP, isP_index hP, isP_low hP, isP_noKey hP, bits_and])
        refine wa_push (hR.keep (by first | rfl | simp [hset])) (by simp) (by simp) (by omega) ?_
        intro v2 h2' hR2 hk2
        have e32 := (hk2 3 (by omega)).trans e3
        have hB2 := hB.keep (hk2 60 (by omega))
        rw [← hsn] at hR2
        clear hk2 hR hB hsn
        repeat' (first | (apply brI <;> intro hb hb2 <;> (try simp [-Int.not_le, -Int.not_lt, -Nat.not_le, -Nat.not_lt, -Nat.add_left_cancel_iff] at hb2)) | (refine draw_listA (by rfl) (by kernel_rfl) ?_) | (refine draw_listB (by simp [allocsOf, isAlloc]; rfl) (by kernel_rfl) ?_) | simp (maxSteps := 2000000) (disch := first | omega | assumption | simp [*]) [*, -Int.not_le, -Int.not_lt, -Nat.not_le, -Nat.not_lt, -Nat.add_left_cancel_iff, wrap_i64, wrap_u64, h8, h10, h1, h2, h3, e32])
        first | exact ⟨hB2, hR2⟩ | exact hR2
      | false =>
        have hx := hj rfl
        clear hm hj
        repeat' (first | (apply brI <;> intro hb hb2 <;> (try simp [-Int.not_le, -Int.not_lt, -Nat.not_le, -Nat.not_lt, -Nat.add_left_cancel_iff] at hb2)) | (refine draw_listA (by rfl) (by kernel_rfl) ?_) | (refine draw_listB (by simp [allocsOf, isAlloc]; rfl) (by kernel_rfl) ?_) | simp (maxSteps := 2000000) (disch := first | omega | assumption | simp [*]) [*, -Int.not_le, -Int.not_lt, -Nat.not_le, -Nat.not_lt, -Nat.add_left_cancel_iff, wrap_i64, wrap_u64, h8, h10, h1, h2, h3, e3, isI_cells hv, isI_one hv, isI_low hv, isP_len hP, isP_index hP, isP_low hP, isP_noKey hP, bits_and])
        refine wa_push (hR.keep (by first | rfl | simp [hset])) (by simp) (by simp) (by omega) ?_
        intro v2 h2' hR2 hk2
        have e32 := (hk2 3 (by omega)).trans e3
        have hB2 := hB.keep (hk2 60 (by omega))
        rw [← hsn] at hR2
        clear hk2 hR hB hsn
        repeat' (first | (apply brI <;> intro hb hb2 <;> (try simp [-Int.not_le, -Int.not_lt, -Nat.not_le, -Nat.not_lt, -Nat.add_left_cancel_iff] at hb2)) | (refine draw_listA (by rfl) (by kernel_rfl) ?_) | (refine draw_listB (by simp [allocsOf, isAlloc]; rfl) (by kernel_rfl) ?_) | simp (maxSteps := 2000000) (disch := first | omega | assumption | simp [*]) [*, -Int.not_le, -Int.not_lt, -Nat.not_le, -Nat.not_lt, -Nat.add_left_cancel_iff, wrap_i64, wrap_u64, h8, h10, h1, h2, h3, e32])
        first | exact ⟨hB2, hR2⟩ | exact hR2
    · obtain rfl : b = len := by omega
      obtain ⟨t1, t2, t3, t4⟩ := buf_slot hR (fun e => by have := congrArg List.length e; simp at this; omega)
      have t2' : low0 (s 9) = slI (tabR M b a) := t2
      have hsn := tabT_succ M b a
      have hbl : (rowsV (tabT M b a)).length < 1073741824 := by rw [rowsV_length, tabT_len]; omega
      have hrv := rowsV_snoc (tabT M b a) (tabR M b a)
      rw [← hsn] at hrv
      clear hat hFs hSs hR t2 hsn
      repeat' (first | (apply brI <;> intro hb hb2 <;> (try simp [-Int.not_le, -Int.not_lt, -Nat.not_le, -Nat.not_lt, -Nat.add_left_cancel_iff] at hb2)) | (refine draw_listA (by rfl) (by kernel_rfl) ?_) | (refine draw_listB (by simp [allocsOf, isAlloc]; rfl) (by kernel_rfl) ?_) | simp (maxSteps := 2000000) (disch := first | omega | assumption | simp [*]) [*, -Int.not_le, -Int.not_lt, -Nat.not_le, -Nat.not_lt, -Nat.add_left_cancel_iff, wrap_i64, wrap_u64, h8, h10, h1, h2, h3, e3, isP_len hP])
      refine wa_pushL hB (by simp) (by simp) (by simp) ⟨rfl, rfl⟩ (fun _ => rfl) hbl ?_
      intro v2 h2' hB2 hk2
      have e32 := (hk2 3 (by omega)).trans e3
      rw [← hrv] at hB2
      clear hk2 hB hrv
      repeat' (first | (apply brI <;> intro hb hb2 <;> (try simp [-Int.not_le, -Int.not_lt, -Nat.not_le, -Nat.not_lt, -Nat.add_left_cancel_iff] at hb2)) | (refine draw_listA (by rfl) (by kernel_rfl) ?_) | (refine draw_listB (by simp [allocsOf, isAlloc]; rfl) (by kernel_rfl) ?_) | simp (maxSteps := 2000000) (disch := first | omega | assumption | simp [*]) [*, -Int.not_le, -Int.not_lt, -Nat.not_le, -Nat.not_lt, -Nat.add_left_cancel_iff, wrap_i64, wrap_u64, h8, h10, h1, h2, h3, e32])
      exact hB2
  · obtain rfl : a = len := by omega
    repeat' (first | (apply brI <;> intro hb hb2 <;> (try simp [-Int.not_le, -Int.not_lt, -Nat.not_le, -Nat.not_lt, -Nat.add_left_cancel_iff] at hb2)) | (refine draw_listA (by rfl) (by kernel_rfl) ?_) | (refine draw_listB (by simp [allocsOf, isAlloc]; rfl) (by kernel_rfl) ?_) | simp (maxSteps := 2000000) (disch := first | omega | assumption | simp [*]) [*, -Int.not_le, -Int.not_lt, -Nat.not_le, -Nat.not_lt, -Nat.add_left_cancel_iff, wrap_i64, wrap_u64, h8, h1, h2, h3, e3, isP_len hP])
    exact hB.expo
theorem l21Table_s {N : Nat} {v w : AV} {meet : Bool} (hv : IsI v) (hc : PCtx N (xsOf v)) (hP : IsP w) (hF : fsts w = fsts (conW N (xsOf v))) (hS : snds w = snds (conW N (xsOf v))) {K : AV → Prop} {tg : Tg K} : CW env 195 [.agg [.int .i64 N, v], w, .bool meet] K tg ↔ K (bufLR 24 60 1 1 (rowsV (tabT (tabM meet N (xsOf v)) (conL N (xsOf v)).length (conL N (xsOf v)).length))) := callsTo_iff (l21Table_c hv hc hP hF hS)
attribute [simp] l21Table_s
theorem l21Tab0_c {n : Int} {v w : AV} {meet : Bool} (hv : IsI v) (hP : IsP w) (h0 : (fsts w).length = 0) : EvC env 195 [.agg [.int .i64 n, v], w, .bool meet] (.sl 1 .lit []) := by
  refine evC_of (F := Tryz.f195) rfl rfl (Nat.le_of_ble_eq_true rfl) ?_
  repeat' (first | (apply brI <;> intro hb hb2 <;> (try simp [-Int.not_le, -Int.not_lt, -Nat.not_le, -Nat.not_lt, -Nat.add_left_cancel_iff] at hb2)) | (refine draw_listA (by rfl) (by kernel_rfl) ?_) | (refine draw_listB (by simp [allocsOf, isAlloc]; rfl) (by kernel_rfl) ?_) | simp (maxSteps := 2000000) (disch := first | omega | assumption | simp [*]) [*, -Int.not_le, -Int.not_lt, -Nat.not_le, -Nat.not_lt, -Nat.add_left_cancel_iff, wrap_i64, wrap_u64, Tryz.f195, isI_cells hv, isI_one hv, isI_low hv, isP_len hP])
  refine W_loopG 0 (fun a s h => s 8 = .int .i64 0 ∧ s 1 = w ∧ s 7 = .sl 1 .lit []) ?_ ?_
  · simp [*]
  rintro a s h ha ⟨h8, h1, h7⟩
  repeat' (first | (apply brI <;> intro hb hb2 <;> (try simp [-Int.not_le, -Int.not_lt, -Nat.not_le, -Nat.not_lt, -Nat.add_left_cancel_iff] at hb2)) | (refine draw_listA (by rfl) (by kernel_rfl) ?_) | (refine draw_listB (by simp [allocsOf, isAlloc]; rfl) (by kernel_rfl) ?_) | simp (maxSteps := 2000000) (disch := first | omega | assumption | simp [*]) [*, -Int.not_le, -Int.not_lt, -Nat.not_le, -Nat.not_lt, -Nat.add_left_cancel_iff, wrap_i64, wrap_u64, h8, h1, h7, isP_len hP])
theorem l21Tab0_s {n : Int} {v w : AV} {meet : Bool} (hv : IsI v) (hP : IsP w) (h0 : (fsts w).length = 0) {K : AV → Prop} {tg : Tg K} : CW env 195 [.agg [.int .i64 n, v], w, .bool meet] K tg ↔ K (.sl 1 .lit []) := callsTo_iff (l21Tab0_c hv hP h0)
attribute [simp] l21Tab0_s
/- the program's tables: rows that grow in their places -/
theorem low0s_map : ∀ es : List AV, low0s es = es.map low0
  | [] => by simp [low0s]
  | e :: es => by simp [low0s, low0s_map es]
def RowT (M : Nat → Nat → Nat) (len key a : Nat) (es : List AV) : Prop := es.length = len ∧ ∀ j, j < a → ∃ g, es[j]? = some (.sl 1 (.tok key g) (ints (tabR M len j)))
def RowS (M : Nat → Nat → Nat) (len T key a b : Nat) (h : Heap) (es : List AV) (v : AV) : Prop := RowT M len key a es ∧ es[a]? = some v ∧ Buf h T key 0 v (tab (fun b => (M a b : Int)) b) ∧ ∀ j, a < j → j < len → es[j]? = some (.sl 0 .lit [])
def RowO (M : Nat → Nat → Nat) (len key a : Nat) (es : List AV) : Prop := RowT M len key a es ∧ ∀ j, a ≤ j → j < len → es[j]? = some (.sl 0 .lit [])
theorem rowO_zero (M : Nat → Nat → Nat) (len key : Nat) : RowO M len key 0 (List.replicate len (.sl 0 .lit [])) := ⟨⟨by simp, fun j hj => by omega⟩, fun j _ hj => by simp [hj]⟩
theorem rowO_in {M : Nat → Nat → Nat} {len T key a : Nat} {h : Heap} {es : List AV} (ho : RowO M len key a es) (ha : a < len) : RowS M len T key a 0 h es (.sl 0 .lit []) :=
  ⟨ho.1, ho.2 a (Nat.le_refl _) ha, buf_nil .., fun j h1 h2 => ho.2 j (by omega) h2⟩
theorem rowS_set {M : Nat → Nat → Nat} {len T key a b : Nat} {h h' : Heap} {es : List AV} {v v' : AV} (hs : RowS M len T key a b h es v) (hB : Buf h' T key 0 v' (tab (fun b => (M a b : Int)) (b + 1))) : RowS M len T key a (b + 1) h' (es.set a v') v' := by
  obtain ⟨⟨h1, h2⟩, h3, _, h5⟩ := hs
  have ha : a < es.length := (List.getElem?_eq_some_iff.1 h3).1
  refine ⟨⟨by simpa using h1, fun j hj => ?_⟩, by simp [ha], hB, fun j h6 h7 => ?_⟩
  · rw [List.getElem?_set_ne (by omega)]; exact h2 j hj
  · rw [List.getElem?_set_ne (by omega)]; exact h5 j h6 h7
theorem rowS_keep {M : Nat → Nat → Nat} {len T key a b : Nat} {h h' : Heap} {es : List AV} {v : AV} (hs : RowS M len T key a b h es v) (e : h' key = h key) : RowS M len T key a b h' es v := ⟨hs.1, hs.2.1, hs.2.2.1.keep e, hs.2.2.2⟩
theorem rowS_end {M : Nat → Nat → Nat} {len T key a : Nat} {h : Heap} {es : List AV} {v : AV} (ha : a < len) (hs : RowS M len T key a len h es v) : RowO M len key (a + 1) es := by
  obtain ⟨⟨h1, h2⟩, h3, h4, h5⟩ := hs
  refine ⟨⟨h1, fun j hj => ?_⟩, fun j h6 h7 => h5 j (by omega) h7⟩
  by_cases e : j = a
  · subst e
    rcases h4 with ⟨h9, _⟩ | ⟨_, g, rfl, _⟩
    · have := congrArg List.length h9; simp at this; omega
    · exact ⟨g, h3⟩
  · exact h2 j (by omega)
theorem rowO_expo {M : Nat → Nat → Nat} {len T key o : Nat} {h : Heap} {es : List AV} (ho : RowO M len key len es) (hk : h o = some (.row 0 T 1 es)) : expo h (.ms o 0 0 len) = rowR 1 T o (rowsV (tabT M len len)) := by
  obtain ⟨⟨h1, h2⟩, _⟩ := ho
  have hst : stabs es = true := by
    rw [stabs_iff]
    intro v hv
    obtain ⟨j, hj, rfl⟩ := List.getElem_of_mem hv
    obtain ⟨g, hg⟩ := h2 j (by omega)
    rw [List.getElem?_eq_getElem hj] at hg
    rw [Option.some.inj hg]; rfl
  have hlow : low0s es = rowsV (tabT M len len) := by
    rw [low0s_map]
    apply List.ext_getElem?
    intro j
    by_cases hj : j < len
    · obtain ⟨g, hg⟩ := h2 j hj
      rw [List.getElem?_map, hg]
      simp [rowsV, tabT, hj, slI, low0]
    · rw [List.getElem?_eq_none (by simp; omega), List.getElem?_eq_none (by rw [rowsV_length, tabT_len]; omega)]
  unfold Ev.expo rowR
  rw [hk]
  simp only [hst, Nat.zero_add, h1, Nat.le_refl, and_self, if_true, true_and, hlow, List.drop_zero]
  by_cases he : es = []
  · have h0 : len = 0 := by rw [← h1, he]; rfl
    subst h0
    simp [he, tabT, rowsV, low0s]
  · have hne : rowsV (tabT M len len) ≠ [] := fun e => he (by have := congrArg List.length e; rw [rowsV_length, tabT_len] at this; exact List.eq_nil_of_length_eq_zero (by simpa [h1] using this))
    rw [if_pos (by exact he), if_neg hne]
theorem tables_c {w : AV} {M J : Nat → Nat → Nat} {len : Nat} (hP : IsP w) (hl : (fsts w).length = len) (hL : len ≤ 64) (hF : SetsP (fsts w)) (hS : SetsP (snds w)) (hM : ∀ a b, a < len → b < len → idxP (exP (andI (nth (fsts w) a) (nth (fsts w) b))) (fsts w) (snds w) = ↑(M a b)) (hJ : ∀ a b, a < len → b < len → idxP (inP (andI (nth (snds w) a) (nth (snds w) b))) (fsts w) (snds w) = ↑(J a b)) : EvC env 182 [w] (.tup [rowR 1 24 10 (rowsV (tabT M len len)), rowR 1 24 13 (rowsV (tabT J len len))]) := by
  refine evC_of (F := Tryz.f182) rfl rfl (Nat.le_of_ble_eq_true rfl) ?_
  have hmt : ∀ (a b : Nat) (K : AV → Prop) (tg : Tg K), a < len → b < len → (CW env 188 [w, .int .i64 a, .int .i64 b] K tg ↔ K (.int .i64 (M a b : Nat))) := fun a b K tg ha hb => callsTo_iff (by rw [← hM a b ha hb]; exact meet_c hP (by omega) (by omega) hF)
  have hjt : ∀ (a b : Nat) (K : AV → Prop) (tg : Tg K), a < len → b < len → (CW env 189 [w, .int .i64 a, .int .i64 b] K tg ↔ K (.int .i64 (J a b : Nat))) := fun a b K tg ha hb => callsTo_iff (by rw [← hJ a b ha hb]; exact join_c hP (by omega) (by omega) hS)
  clear hF hS hM hJ
  have hz1 := rowO_zero M len 35
  have hz2 := rowO_zero J len 48
  repeat' (first | (apply brI <;> intro hb hb2 <;> (try simp [-Int.not_le, -Int.not_lt, -Nat.not_le, -Nat.not_lt, -Nat.add_left_cancel_iff] at hb2)) | simp (maxSteps := 2000000) (disch := first | omega | assumption | simp [*]) [*, -Int.not_le, -Int.not_lt, -Nat.not_le, -Nat.not_lt, -Nat.add_left_cancel_iff, wrap_i64, wrap_u64, Tryz.f182, isP_len hP])
  refine draw_listC [10, 13] (by kernel_rfl) (by kernel_rfl) (by kernel_rfl) ?_
  repeat' (first | (apply brI <;> intro hb hb2 <;> (try simp [-Int.not_le, -Int.not_lt, -Nat.not_le, -Nat.not_lt, -Nat.add_left_cancel_iff] at hb2)) | simp (maxSteps := 2000000) (disch := first | omega | assumption | simp [*]) [*, -Int.not_le, -Int.not_lt, -Nat.not_le, -Nat.not_lt, -Nat.add_left_cancel_iff, wrap_i64, wrap_u64, isP_len hP, isP_noKey hP])
  refine W_loopG len (fun a s h => s 16 = .int .i64 a ∧ s 15 = .int .i64 len ∧ s 0 = w ∧ s 4 = .ms 10 0 0 len ∧ s 5 = .ms 13 0 0 len ∧ ∃ es fs, h 10 = some (.row 0 24 1 es) ∧ h 13 = some (.row 0 24 1 fs) ∧ RowO M len 35 a es ∧ RowO J len 48 a fs) ?_ ?_
  · simp [*]
  clear hz1 hz2
  rintro a s h ha ⟨h16, h15, h0, h4, h5, es, fs, e10, e13, hes, hfs⟩
  by_cases ha2 : a < len
  · have hs1 := rowO_in (T := 3) (h := h) hes ha2
    have hs2 := rowO_in (T := 3) (h := h) hfs ha2
    clear hes hfs
    repeat' (first | (apply brI <;> intro hb hb2 <;> (try simp [-Int.not_le, -Int.not_lt, -Nat.not_le, -Nat.not_lt, -Nat.add_left_cancel_iff] at hb2)) | (refine draw_listA (by rfl) (by kernel_rfl) ?_) | (refine draw_listB (by simp [allocsOf, isAlloc]; rfl) (by kernel_rfl) ?_) | simp (maxSteps := 2000000) (disch := first | omega | assumption | simp [*]) [*, -Int.not_le, -Int.not_lt, -Nat.not_le, -Nat.not_lt, -Nat.add_left_cancel_iff, wrap_i64, wrap_u64, h16, h15, h0, h4, h5, isP_len hP, isP_low hP, isP_noKey hP])
    refine W_loopG len (fun b s h => s 21 = .int .i64 b ∧ s 20 = .int .i64 len ∧ s 16 = .int .i64 a ∧ s 15 = .int .i64 len ∧ s 6 = .int .i64 a ∧ s 0 = w ∧ s 4 = .ms 10 0 0 len ∧ s 5 = .ms 13 0 0 len ∧ ∃ es fs v u, h 10 = some (.row 0 24 1 es) ∧ h 13 = some (.row 0 24 1 fs) ∧ RowS M len 3 35 a b h es v ∧ RowS J len 3 48 a b h fs u) ?_ ?_
    · simp [*]
      exact ⟨⟨_, hs1⟩, _, hs2⟩
    clear hs1 hs2 h16 h15 h0 h4 h5 e10 e13
    rintro b s h hb ⟨h21, h20, h16, h15, h6, h0, h4, h5, es, fs, v, u, e10, e13, hs1, hs2⟩
    by_cases hb2 : b < len
    · have hsn1 := tab_snoc (fun b => (M a b : Int)) b
      have hsn2 := tab_snoc (fun b => (J a b : Int)) b
      have g1 := hs1.2.1
      have g2 := hs2.2.1
      have hB1 := hs1.2.2.1
      have o1 := hB1.one
      have c1 := hB1.cells
      have hl1 : es.length = len := hs1.1.1
      have hl2 : fs.length = len := hs2.1.1
      have hae : a < es.length := by omega
      have haf : a < fs.length := by omega
      have g1' : es[a]'hae = v := by rw [List.getElem?_eq_getElem hae] at g1; exact Option.some.inj g1
      have g2' : fs[a]'haf = u := by rw [List.getElem?_eq_getElem haf] at g2; exact Option.some.inj g2
      repeat' (first | (apply brI <;> intro hb hb2 <;> (try simp [-Int.not_le, -Int.not_lt, -Nat.not_le, -Nat.not_lt, -Nat.add_left_cancel_iff] at hb2)) | (refine draw_listA (by rfl) (by kernel_rfl) ?_) | (refine draw_listB (by simp [allocsOf, isAlloc]; rfl) (by kernel_rfl) ?_) | simp (maxSteps := 2000000) (disch := first | omega | assumption | simp [*]) [*, -Int.not_le, -Int.not_lt, -Nat.not_le, -Nat.not_lt, -Nat.add_left_cancel_iff, wrap_i64, wrap_u64, h21, h20, h16, h15, h6, h0, h4, h5, isP_len hP, isP_low hP, isP_noKey hP])
      refine wa_push hB1 (by simp) (by simp) (by simp; omega) ?_
      intro v' h1 hB1' hk1
      have e101 := (hk1 10 (by omega)).trans e10
      have e131 := (hk1 13 (by omega)).trans e13
      have o1' := hB1'.one
      have c1' := hB1'.cells
      rw [← hsn1] at hB1'
      have hn1 := rowS_set (h' := h1) hs1 hB1'
      have hs2' := rowS_keep hs2 (hk1 48 (by omega))
      have hput1 : putCells v 0 v' = some v' := put_one o1 o1'
      have hB2 := hs2'.2.2.1
      have o2 := hB2.one
      have c2 := hB2.cells
      clear hsn1 hk1 hs1 hs2 hB1 hB1'
      repeat' (first | (apply brI <;> intro hb hb2 <;> (try simp [-Int.not_le, -Int.not_lt, -Nat.not_le, -Nat.not_lt, -Nat.add_left_cancel_iff] at hb2)) | (refine draw_listA (by rfl) (by kernel_rfl) ?_) | (refine draw_listB (by simp [allocsOf, isAlloc]; rfl) (by kernel_rfl) ?_) | simp (maxSteps := 2000000) (disch := first | omega | assumption | simp [*]) [*, -Int.not_le, -Int.not_lt, -Nat.not_le, -Nat.not_lt, -Nat.add_left_cancel_iff, wrap_i64, wrap_u64, h21, h20, h16, h15, h6, h0, h4, h5, isP_len hP, isP_low hP, isP_noKey hP])
      refine wa_push (hB2.keep (by simp [hset])) (by simp) (by simp) (by simp; omega) ?_
      intro u' h2 hB2' hk2
      have e102 : h2 10 = some (.row 0 24 1 (es.set a v')) := (hk2 10 (by omega)).trans (by simp [hset])
      have e132 : h2 13 = some (.row 0 24 1 fs) := (hk2 13 (by omega)).trans (by simp [hset, e131])
      have o2' := hB2'.one
      have c2' := hB2'.cells
      rw [← hsn2] at hB2'
      have hn2 := rowS_set (h' := h2) hs2' hB2'
      have hn1' := rowS_keep (h' := h2) hn1 ((hk2 35 (by omega)).trans (by simp [hset]))
      have hput2 : putCells u 0 u' = some u' := put_one o2 o2'
      clear hsn2 hk2 hs2' hB2 hB2' hn1
      repeat' (first | (apply brI <;> intro hb hb2 <;> (try simp [-Int.not_le, -Int.not_lt, -Nat.not_le, -Nat.not_lt, -Nat.add_left_cancel_iff] at hb2)) | (refine draw_listA (by rfl) (by kernel_rfl) ?_) | (refine draw_listB (by simp [allocsOf, isAlloc]; rfl) (by kernel_rfl) ?_) | simp (maxSteps := 2000000) (disch := first | omega | assumption | simp [*]) [*, -Int.not_le, -Int.not_lt, -Nat.not_le, -Nat.not_lt, -Nat.add_left_cancel_iff, wrap_i64, wrap_u64, h21, h20, h16, h15, h6, h0, h4, h5, isP_len hP, isP_low hP, isP_noKey hP])
      exact ⟨⟨_, rowS_keep hn1' (by simp [hset])⟩, _, rowS_keep hn2 (by simp [hset])⟩
    · obtain rfl : b = len := by omega
      have hn1 := rowS_end ha2 hs1
      have hn2 := rowS_end ha2 hs2
      repeat' (first | (apply brI <;> intro hb hb2 <;> (try simp [-Int.not_le, -Int.not_lt, -Nat.not_le, -Nat.not_lt, -Nat.add_left_cancel_iff] at hb2)) | (refine draw_listA (by rfl) (by kernel_rfl) ?_) | (refine draw_listB (by simp [allocsOf, isAlloc]; rfl) (by kernel_rfl) ?_) | simp (maxSteps := 2000000) (disch := first | omega | assumption | simp [*]) [*, -Int.not_le, -Int.not_lt, -Nat.not_le, -Nat.not_lt, -Nat.add_left_cancel_iff, wrap_i64, wrap_u64, h21, h20, h16, h15, h6, h0, h4, h5, isP_len hP, isP_low hP, isP_noKey hP])
  · obtain rfl : a = len := by omega
    have x1 := rowO_expo hes e10
    have x2 := rowO_expo hfs e13
    repeat' (first | (apply brI <;> intro hb hb2 <;> (try simp [-Int.not_le, -Int.not_lt, -Nat.not_le, -Nat.not_lt, -Nat.add_left_cancel_iff] at hb2)) | (refine draw_listA (by rfl) (by kernel_rfl) ?_) | (refine draw_listB (by simp [allocsOf, isAlloc]; rfl) (by kernel_rfl) ?_) | simp (maxSteps := 2000000) (disch := first | omega | assumption | simp [*]) [*, -Int.not_le, -Int.not_lt, -Nat.not_le, -Nat.not_lt, -Nat.add_left_cancel_iff, wrap_i64, wrap_u64, h16, h15, h0, h4, h5, isP_len hP, isP_low hP, isP_noKey hP])
theorem tables_s {w : AV} {M J : Nat → Nat → Nat} {len : Nat} (hP : IsP w) (hl : (fsts w).length = len) (hL : len ≤ 64) (hF : SetsP (fsts w)) (hS : SetsP (snds w)) (hM : ∀ a b, a < len → b < len → idxP (exP (andI (nth (fsts w) a) (nth (fsts w) b))) (fsts w) (snds w) = ↑(M a b)) (hJ : ∀ a b, a < len → b < len → idxP (inP (andI (nth (snds w) a) (nth (snds w) b))) (fsts w) (snds w) = ↑(J a b)) {K : AV → Prop} {tg : Tg K} : CW env 182 [w] K tg ↔ K (.tup [rowR 1 24 10 (rowsV (tabT M len len)), rowR 1 24 13 (rowsV (tabT J len len))]) := callsTo_iff (tables_c hP hl hL hF hS hM hJ)
attribute [simp] tables_s
/- the laws of distribution -/
theorem rowR_noEx1 (T key : Nat) (es : List AV) : noEx (rowR 1 T key es) = .sl 1 .no es := by simp
theorem distL_congr (all : Bool) (n : Int) (xs : List Int) : (DistL all (fsts (conW n xs)) (conL n xs).length (meetK n xs) (joinK n xs)) ↔ ∀ x, x < (conL n xs).length → ∀ y, y < (conL n xs).length → ∀ z, z < (conL n xs).length → (all = true ∨ PSub (nth (fsts (conW n xs)) z) (nth (fsts (conW n xs)) x) = true) → meetK n xs x (joinK n xs y z) = joinK n xs (meetK n xs x y) (meetK n xs x z) :=
  ⟨fun h x hx y hy z hz => h x y z hx hy hz, fun h x y z hx hy hz => h x hx y hy z hz⟩
/-- the law at a place -/
def dAt (all : Bool) (F : List Int) (M J : Nat → Nat → Nat) (x y z : Nat) : Prop := (all = true ∨ PSub (nth F z) (nth F x) = true) → M x (J y z) = J (M x y) (M x z)
theorem distributes_c {n : Int} {v : AV} {below : Bool} (hv : IsI v) : EvC env 87 [.agg [.int .i64 n, v], .bool below] (.bool (decide (DistC (!below) n (xsOf v)))) := by
  refine evC_of (F := Tryz.f87) rfl rfl (Nat.le_of_ble_eq_true rfl) ?_
  have hP := conW2_P n (xsOf v)
  have hw := iCon_noEx n (xsOf v) 101
  have hfl := conW_len n (xsOf v)
  have hL := conL_len n (xsOf v)
  have hFs := sets_F n (xsOf v)
  have hSs := sets_S n (xsOf v)
  rw [← conW2_fsts] at hfl hFs
  rw [← conW2_snds] at hSs
  by_cases hc : PCtx n (xsOf v)
  · obtain ⟨N, rfl⟩ : ∃ N : Nat, n = N := ⟨n.toNat, by have := hc.1; omega⟩
    have hM := fun (a b : Nat) (ha : a < (conL N (xsOf v)).length) (hb : b < (conL N (xsOf v)).length) => meetK_ex hc ha hb
    have hJ := fun (a b : Nat) (ha : a < (conL N (xsOf v)).length) (hb : b < (conL N (xsOf v)).length) => joinK_in hc ha hb
    have hMl := fun (a b : Nat) (ha : a < (conL N (xsOf v)).length) (hb : b < (conL N (xsOf v)).length) => meetK_lt hc ha hb
    have hJl := fun (a b : Nat) (ha : a < (conL N (xsOf v)).length) (hb : b < (conL N (xsOf v)).length) => joinK_lt hc ha hb
    have hD : DistC (!below) N (xsOf v) ↔ ∀ x, x < (conL N (xsOf v)).length → ∀ y, y < (conL N (xsOf v)).length → ∀ z, z < (conL N (xsOf v)).length → dAt (!below) (fsts (conW N (xsOf v))) (meetK N (xsOf v)) (joinK N (xsOf v)) x y z := by
      unfold DistC
      rw [distL_congr]
      exact ⟨fun h => h.2, fun h => ⟨hc, h⟩⟩
    rw [← conW2_fsts] at hM hJ hD
    rw [← conW2_snds] at hM hJ
    generalize meetK (N : Int) (xsOf v) = M at *
    generalize joinK (N : Int) (xsOf v) = J at *
    generalize conW2 (N : Int) (xsOf v) = w at *
    have htb : ∀ (K : AV → Prop) (tg : Tg K), CW env 182 [w] K tg ↔ K (.tup [rowR 1 24 10 (rowsV (tabT M (conL N (xsOf v)).length (conL N (xsOf v)).length)), rowR 1 24 13 (rowsV (tabT J (conL N (xsOf v)).length (conL N (xsOf v)).length))]) := fun K tg => callsTo_iff (tables_c hP hfl hL hFs hSs hM hJ)
    clear hM hJ hSs
    generalize (conL (N : Int) (xsOf v)).length = len at *
    have hbl : ∀ (a b : Nat) (K : AV → Prop) (tg : Tg K), a < len → b < len → (CW env 92 [w, .int .i64 a, .int .i64 b] K tg ↔ K (.bool (PSub (nth (fsts w) a) (nth (fsts w) b)))) := fun a b K tg ha hb => callsTo_iff (below_c hP (by omega) (by omega) hFs)
    have hT1 : IsT (.sl 1 .no (rowsV (tabT M len len))) M len := isT_no hL
    have hT2 : IsT (.sl 1 .no (rowsV (tabT J len len))) J len := isT_no hL
    obtain ⟨tm, htm⟩ : ∃ tm, AV.sl 1 .no (rowsV (tabT M len len)) = tm := ⟨_, rfl⟩
    obtain ⟨tj, htj⟩ : ∃ tj, AV.sl 1 .no (rowsV (tabT J len len)) = tj := ⟨_, rfl⟩
    rw [htm] at hT1
    rw [htj] at hT2
    have hll1 := hT1.ll
    have hll2 := hT2.ll
    have hn1 := hT1.ln
    have hn2 := hT2.ln
    clear hFs
    repeat' (first | (apply brI <;> intro hb hb2 <;> (try simp [-Int.not_le, -Int.not_lt, -Nat.not_le, -Nat.not_lt, -Nat.add_left_cancel_iff] at hb2)) | (refine draw_listA (by rfl) (by kernel_rfl) ?_) | (refine draw_listB (by simp [allocsOf, isAlloc]; rfl) (by kernel_rfl) ?_) | simp (maxSteps := 2000000) (disch := first | omega | assumption | simp [*]) [*, -Int.not_le, -Int.not_lt, -Nat.not_le, -Nat.not_lt, -Nat.add_left_cancel_iff, wrap_i64, wrap_u64, Tryz.f87, isI_cells hv, isI_one hv, isI_low hv, isP_len hP, isP_low hP, isP_noKey hP])
    refine W_loopP len (fun x s => s 20 = .int .i64 x ∧ s 19 = .int .i64 len ∧ s 5 = w ∧ s 6 = tm ∧ s 7 = tj ∧ s 1 = .bool below ∧ s 2 = .vp 2 0 0 ∧ ∀ x', x' < x → ∀ y, y < len → ∀ z, z < len → dAt (!below) (fsts w) M J x' y z) rfl ?_ ?_
    · simp [*]
    clear htb htm htj
    rintro x s hx ⟨h20, h19, h5, h6, h7, h1, h2, hX⟩
    by_cases hx2 : x < len
    · repeat' (first | (apply brI <;> intro hb hb2 <;> (try simp [-Int.not_le, -Int.not_lt, -Nat.not_le, -Nat.not_lt, -Nat.add_left_cancel_iff] at hb2)) | (refine draw_listA (by rfl) (by kernel_rfl) ?_) | (refine draw_listB (by simp [allocsOf, isAlloc]; rfl) (by kernel_rfl) ?_) | simp (maxSteps := 2000000) (disch := first | omega | assumption | simp [*]) [*, -Int.not_le, -Int.not_lt, -Nat.not_le, -Nat.not_lt, -Nat.add_left_cancel_iff, wrap_i64, wrap_u64, h20, h19, h5, h6, h7, h1, h2, isP_len hP])
      refine W_loopP len (fun y s => s 25 = .int .i64 y ∧ s 24 = .int .i64 len ∧ s 8 = .int .i64 x ∧ s 20 = .int .i64 x ∧ s 19 = .int .i64 len ∧ s 5 = w ∧ s 6 = tm ∧ s 7 = tj ∧ s 1 = .bool below ∧ s 2 = .vp 2 0 0 ∧ ∀ y', y' < y → ∀ z, z < len → dAt (!below) (fsts w) M J x y' z) rfl ?_ ?_
      · simp [*]
      clear h20 h19 h5 h6 h7 h1 h2
      rintro y s hy ⟨h25, h24, h8, h20, h19, h5, h6, h7, h1, h2, hY⟩
      by_cases hy2 : y < len
      · repeat' (first | (apply brI <;> intro hb hb2 <;> (try simp [-Int.not_le, -Int.not_lt, -Nat.not_le, -Nat.not_lt, -Nat.add_left_cancel_iff] at hb2)) | (refine draw_listA (by rfl) (by kernel_rfl) ?_) | (refine draw_listB (by simp [allocsOf, isAlloc]; rfl) (by kernel_rfl) ?_) | simp (maxSteps := 2000000) (disch := first | omega | assumption | simp [*]) [*, -Int.not_le, -Int.not_lt, -Nat.not_le, -Nat.not_lt, -Nat.add_left_cancel_iff, wrap_i64, wrap_u64, h25, h24, h8, h20, h19, h5, h6, h7, h1, h2, isP_len hP])
        refine W_loopP len (fun z s => s 30 = .int .i64 z ∧ s 29 = .int .i64 len ∧ s 9 = .int .i64 y ∧ s 25 = .int .i64 y ∧ s 24 = .int .i64 len ∧ s 8 = .int .i64 x ∧ s 20 = .int .i64 x ∧ s 19 = .int .i64 len ∧ s 5 = w ∧ s 6 = tm ∧ s 7 = tj ∧ s 1 = .bool below ∧ s 2 = .vp 2 0 0 ∧ ∀ z', z' < z → dAt (!below) (fsts w) M J x y z') rfl ?_ ?_
        · simp [*]
        clear h25 h24 h8 h20 h19 h5 h6 h7 h1 h2
        rintro z s hz ⟨h30, h29, h9, h25, h24, h8, h20, h19, h5, h6, h7, h1, h2, hZ⟩
        by_cases hz2 : z < len
        · obtain ⟨rx1, rx2, rx3⟩ := hT1.row x hx2
          obtain ⟨ry1, ry2, ry3⟩ := hT2.row y hy2
          have l1 := hJl y z hy2 hz2
          have l2 := hMl x y hx2 hy2
          have l3 := hMl x z hx2 hz2
          obtain ⟨rm1, rm2, rm3⟩ := hT2.row (M x y) l2
          have v1 := ry3 z hz2
          have v2 := rx3 (J y z) l1
          have v3 := rx3 y hy2
          have v4 := rx3 z hz2
          have v5 := rm3 (M x z) l3
          have hd : dAt (!below) (fsts w) M J x y z ↔ (below = false ∨ PSub (nth (fsts w) z) (nth (fsts w) x) = true → M x (J y z) = J (M x y) (M x z)) := by unfold dAt; cases below <;> simp
          clear hT1 hT2 rx3 ry3 rm3 hJl hMl
          generalize M x (J y z) = lhs at *
          generalize J (M x y) (M x z) = rhs at *
          generalize M x y = mxy at *
          generalize M x z = mxz at *
          generalize J y z = jyz at *
          have hcast : ((lhs : Int) = rhs) ↔ lhs = rhs := by omega
          have hZn : dAt (!below) (fsts w) M J x y z → ∀ z', z' < z + 1 → dAt (!below) (fsts w) M J x y z' := fun h9 z' hz' => by
            by_cases e : z' = z
            · subst e; exact h9
            · exact hZ z' (by omega)
          have hno : ¬ dAt (!below) (fsts w) M J x y z → ¬ DistC (!below) N (xsOf v) := fun h9 h10 => h9 (hD.1 h10 x hx2 y hy2 z hz2)
          cases hb : below with
          | false =>
            subst hb
            by_cases he : lhs = rhs
            · have hZ2 := hZn (hd.2 fun _ => he)
              clear hZn hno hd hZ hY hX hD
              subst he
              repeat' (first | (apply brI <;> intro hb hb2 <;> (try simp [-Int.not_le, -Int.not_lt, -Nat.not_le, -Nat.not_lt, -Nat.add_left_cancel_iff] at hb2)) | (refine draw_listA (by rfl) (by kernel_rfl) ?_) | (refine draw_listB (by simp [allocsOf, isAlloc]; rfl) (by kernel_rfl) ?_) | simp (maxSteps := 2000000) (disch := first | omega | assumption | simp [*]) [*, -Int.not_le, -Int.not_lt, -Nat.not_le, -Nat.not_lt, -Nat.add_left_cancel_iff, wrap_i64, wrap_u64, h30, h29, h9, h25, h24, h8, h20, h19, h5, h6, h7, h1, h2, isP_len hP, isP_low hP, isLL_len hll1, isLL_index hll1, isLL_load hll1, isLL_len hll2, isLL_index hll2, isLL_load hll2, isI_len rx1, isI_index rx1, isI_load rx1, isI_len ry1, isI_index ry1, isI_load ry1, isI_len rm1, isI_index rm1, isI_load rm1])
              exact hZ2
            · have hN := hno fun h9 => he (hd.1 h9 (.inl rfl))
              have he2 : ¬ (lhs : Int) = rhs := by omega
              clear hZn hno hd hZ hY hX hD
              repeat' (first | (apply brI <;> intro hb hb2 <;> (try simp [-Int.not_le, -Int.not_lt, -Nat.not_le, -Nat.not_lt, -Nat.add_left_cancel_iff] at hb2)) | (refine draw_listA (by rfl) (by kernel_rfl) ?_) | (refine draw_listB (by simp [allocsOf, isAlloc]; rfl) (by kernel_rfl) ?_) | simp (maxSteps := 2000000) (disch := first | omega | assumption | simp [*]) [*, -Int.not_le, -Int.not_lt, -Nat.not_le, -Nat.not_lt, -Nat.add_left_cancel_iff, wrap_i64, wrap_u64, h30, h29, h9, h25, h24, h8, h20, h19, h5, h6, h7, h1, h2, isP_len hP, isP_low hP, isLL_len hll1, isLL_index hll1, isLL_load hll1, isLL_len hll2, isLL_index hll2, isLL_load hll2, isI_len rx1, isI_index rx1, isI_load rx1, isI_len ry1, isI_index ry1, isI_load ry1, isI_len rm1, isI_index rm1, isI_load rm1])
              exact hN
          | true =>
            subst hb
            cases hp : PSub (nth (fsts w) z) (nth (fsts w) x) with
            | false =>
              have hZ2 := hZn (hd.2 fun h9 => by rcases h9 with h9 | h9; cases h9; rw [hp] at h9; cases h9)
              clear hZn hno hd hZ hY hX hD
              repeat' (first | (apply brI <;> intro hb hb2 <;> (try simp [-Int.not_le, -Int.not_lt, -Nat.not_le, -Nat.not_lt, -Nat.add_left_cancel_iff] at hb2)) | (refine draw_listA (by rfl) (by kernel_rfl) ?_) | (refine draw_listB (by simp [allocsOf, isAlloc]; rfl) (by kernel_rfl) ?_) | simp (maxSteps := 2000000) (disch := first | omega | assumption | simp [*]) [*, -Int.not_le, -Int.not_lt, -Nat.not_le, -Nat.not_lt, -Nat.add_left_cancel_iff, wrap_i64, wrap_u64, h30, h29, h9, h25, h24, h8, h20, h19, h5, h6, h7, h1, h2, isP_len hP, isP_low hP])
              exact hZ2
            | true =>
              by_cases he : lhs = rhs
              · have hZ2 := hZn (hd.2 fun _ => he)
                clear hZn hno hd hZ hY hX hD
                subst he
                repeat' (first | (apply brI <;> intro hb hb2 <;> (try simp [-Int.not_le, -Int.not_lt, -Nat.not_le, -Nat.not_lt, -Nat.add_left_cancel_iff] at hb2)) | (refine draw_listA (by rfl) (by kernel_rfl) ?_) | (refine draw_listB (by simp [allocsOf, isAlloc]; rfl) (by kernel_rfl) ?_) | simp (maxSteps := 2000000) (disch := first | omega | assumption | simp [*]) [*, -Int.not_le, -Int.not_lt, -Nat.not_le, -Nat.not_lt, -Nat.add_left_cancel_iff, wrap_i64, wrap_u64, h30, h29, h9, h25, h24, h8, h20, h19, h5, h6, h7, h1, h2, isP_len hP, isP_low hP, isLL_len hll1, isLL_index hll1, isLL_load hll1, isLL_len hll2, isLL_index hll2, isLL_load hll2, isI_len rx1, isI_index rx1, isI_load rx1, isI_len ry1, isI_index ry1, isI_load ry1, isI_len rm1, isI_index rm1, isI_load rm1])
                exact hZ2
              · have hN := hno fun h9 => he (hd.1 h9 (.inr hp))
                have he2 : ¬ (lhs : Int) = rhs := by omega
                clear hZn hno hd hZ hY hX hD
                repeat' (first | (apply brI <;> intro hb hb2 <;> (try simp [-Int.not_le, -Int.not_lt, -Nat.not_le, -Nat.not_lt, -Nat.add_left_cancel_iff] at hb2)) | (refine draw_listA (by rfl) (by kernel_rfl) ?_) | (refine draw_listB (by simp [allocsOf, isAlloc]; rfl) (by kernel_rfl) ?_) | simp (maxSteps := 2000000) (disch := first | omega | assumption | simp [*]) [*, -Int.not_le, -Int.not_lt, -Nat.not_le, -Nat.not_lt, -Nat.add_left_cancel_iff, wrap_i64, wrap_u64, h30, h29, h9, h25, h24, h8, h20, h19, h5, h6, h7, h1, h2, isP_len hP, isP_low hP, isLL_len hll1, isLL_index hll1, isLL_load hll1, isLL_len hll2, isLL_index hll2, isLL_load hll2, isI_len rx1, isI_index rx1, isI_load rx1, isI_len ry1, isI_index ry1, isI_load ry1, isI_len rm1, isI_index rm1, isI_load rm1])
                exact hN
        · obtain rfl : z = len := by omega
          have hYn : ∀ y', y' < y + 1 → ∀ z', z' < z → dAt (!below) (fsts w) M J x y' z' := fun y' hy' => by
            by_cases e : y' = y
            · subst e; exact hZ
            · exact hY y' (by omega)
          clear hZ hY hX hD hJl hMl
          repeat' (first | (apply brI <;> intro hb hb2 <;> (try simp [-Int.not_le, -Int.not_lt, -Nat.not_le, -Nat.not_lt, -Nat.add_left_cancel_iff] at hb2)) | (refine draw_listA (by rfl) (by kernel_rfl) ?_) | (refine draw_listB (by simp [allocsOf, isAlloc]; rfl) (by kernel_rfl) ?_) | simp (maxSteps := 2000000) (disch := first | omega | assumption | simp [*]) [*, -Int.not_le, -Int.not_lt, -Nat.not_le, -Nat.not_lt, -Nat.add_left_cancel_iff, wrap_i64, wrap_u64, h30, h29, h9, h25, h24, h8, h20, h19, h5, h6, h7, h1, h2, isP_len hP])
          exact hYn
      · obtain rfl : y = len := by omega
        have hXn : ∀ x', x' < x + 1 → ∀ y', y' < y → ∀ z, z < y → dAt (!below) (fsts w) M J x' y' z := fun x' hx' => by
          by_cases e : x' = x
          · subst e; exact hY
          · exact hX x' (by omega)
        clear hY hX hD hJl hMl
        repeat' (first | (apply brI <;> intro hb hb2 <;> (try simp [-Int.not_le, -Int.not_lt, -Nat.not_le, -Nat.not_lt, -Nat.add_left_cancel_iff] at hb2)) | (refine draw_listA (by rfl) (by kernel_rfl) ?_) | (refine draw_listB (by simp [allocsOf, isAlloc]; rfl) (by kernel_rfl) ?_) | simp (maxSteps := 2000000) (disch := first | omega | assumption | simp [*]) [*, -Int.not_le, -Int.not_lt, -Nat.not_le, -Nat.not_lt, -Nat.add_left_cancel_iff, wrap_i64, wrap_u64, h25, h24, h8, h20, h19, h5, h6, h7, h1, h2, isP_len hP])
        exact hXn
    · obtain rfl : x = len := by omega
      have hyes := hD.2 hX
      clear hX hD hJl hMl
      repeat' (first | (apply brI <;> intro hb hb2 <;> (try simp [-Int.not_le, -Int.not_lt, -Nat.not_le, -Nat.not_lt, -Nat.add_left_cancel_iff] at hb2)) | (refine draw_listA (by rfl) (by kernel_rfl) ?_) | (refine draw_listB (by simp [allocsOf, isAlloc]; rfl) (by kernel_rfl) ?_) | simp (maxSteps := 2000000) (disch := first | omega | assumption | simp [*]) [*, -Int.not_le, -Int.not_lt, -Nat.not_le, -Nat.not_lt, -Nat.add_left_cancel_iff, wrap_i64, wrap_u64, h20, h19, h5, h6, h7, h1, h2, isI_cells hv, isI_one hv, isI_low hv, isP_len hP])
  · have hno : ¬ DistC (!below) n (xsOf v) := fun h => hc h.1
    have hl0 : (conL n (xsOf v)).length = 0 := by simp [conL, hc]
    rw [hl0] at hfl
    generalize conW2 n (xsOf v) = w at *
    have htb : ∀ (K : AV → Prop) (tg : Tg K), CW env 182 [w] K tg ↔ K (.tup [rowR 1 24 10 (rowsV (tabT (fun _ _ => 0) 0 0)), rowR 1 24 13 (rowsV (tabT (fun _ _ => 0) 0 0))]) := fun K tg => callsTo_iff (tables_c hP hfl (by decide) hFs hSs (fun a b ha _ => by omega) (fun a b ha _ => by omega))
    clear hFs hSs hL hl0
    repeat' (first | (apply brI <;> intro hb hb2 <;> (try simp [-Int.not_le, -Int.not_lt, -Nat.not_le, -Nat.not_lt, -Nat.add_left_cancel_iff] at hb2)) | (refine draw_listA (by rfl) (by kernel_rfl) ?_) | (refine draw_listB (by simp [allocsOf, isAlloc]; rfl) (by kernel_rfl) ?_) | simp (maxSteps := 2000000) (disch := first | omega | assumption | simp [*]) [*, -Int.not_le, -Int.not_lt, -Nat.not_le, -Nat.not_lt, -Nat.add_left_cancel_iff, wrap_i64, wrap_u64, Tryz.f87, isI_cells hv, isI_one hv, isI_low hv, isP_len hP, isP_low hP, isP_noKey hP])
    refine W_loopP 0 (fun x s => s 20 = .int .i64 0 ∧ s 19 = .int .i64 0 ∧ s 2 = .vp 2 0 0) rfl ?_ ?_
    · simp [*]
    rintro x s hx ⟨h20, h19, h2⟩
    repeat' (first | (apply brI <;> intro hb hb2 <;> (try simp [-Int.not_le, -Int.not_lt, -Nat.not_le, -Nat.not_lt, -Nat.add_left_cancel_iff] at hb2)) | (refine draw_listA (by rfl) (by kernel_rfl) ?_) | (refine draw_listB (by simp [allocsOf, isAlloc]; rfl) (by kernel_rfl) ?_) | simp (maxSteps := 2000000) (disch := first | omega | assumption | simp [*]) [*, -Int.not_le, -Int.not_lt, -Nat.not_le, -Nat.not_lt, -Nat.add_left_cancel_iff, wrap_i64, wrap_u64, h20, h19, h2, isI_cells hv, isI_one hv, isI_low hv])
theorem distributes_s {n : Int} {v : AV} {below : Bool} (hv : IsI v) {K : AV → Prop} {tg : Tg K} : CW env 87 [.agg [.int .i64 n, v], .bool below] K tg ↔ K (.bool (decide (DistC (!below) n (xsOf v)))) := callsTo_iff (distributes_c hv)
attribute [simp] distributes_s
theorem l21Law_c {n : Int} {v : AV} {all : Bool} (hv : IsI v) : EvC env 99 [.agg [.int .i64 n, v], .bool all] (.bool (decide (DistC all n (xsOf v)))) := by
  refine evC_of (F := Tryz.f99) rfl rfl (Nat.le_of_ble_eq_true rfl) ?_
  have hP := conW_P n (xsOf v)
  have hw := sCon_noEx n (xsOf v) 101
  have hfl := conW_len n (xsOf v)
  have hL := conL_len n (xsOf v)
  have hFs := sets_F n (xsOf v)
  by_cases hc : PCtx n (xsOf v)
  · obtain ⟨N, rfl⟩ : ∃ N : Nat, n = N := ⟨n.toNat, by have := hc.1; omega⟩
    have hMl := fun (a b : Nat) (ha : a < (conL N (xsOf v)).length) (hb : b < (conL N (xsOf v)).length) => meetK_lt hc ha hb
    have hJl := fun (a b : Nat) (ha : a < (conL N (xsOf v)).length) (hb : b < (conL N (xsOf v)).length) => joinK_lt hc ha hb
    have hD : DistC all N (xsOf v) ↔ ∀ x, x < (conL N (xsOf v)).length → ∀ y, y < (conL N (xsOf v)).length → ∀ z, z < (conL N (xsOf v)).length → dAt all (fsts (conW N (xsOf v))) (meetK N (xsOf v)) (joinK N (xsOf v)) x y z := by
      unfold DistC
      rw [distL_congr]
      exact ⟨fun h => h.2, fun h => ⟨hc, h⟩⟩
    have ht1 : ∀ (K : AV → Prop) (tg : Tg K), CW env 195 [.agg [.int .i64 N, v], conW N (xsOf v), .bool true] K tg ↔ K (bufLR 24 60 1 1 (rowsV (tabT (meetK N (xsOf v)) (conL N (xsOf v)).length (conL N (xsOf v)).length))) := fun K tg => callsTo_iff (by have := l21Table_c (meet := true) hv hc hP rfl rfl; simpa [tabM] using this)
    have ht2 : ∀ (K : AV → Prop) (tg : Tg K), CW env 195 [.agg [.int .i64 N, v], conW N (xsOf v), .bool false] K tg ↔ K (bufLR 24 60 1 1 (rowsV (tabT (joinK N (xsOf v)) (conL N (xsOf v)).length (conL N (xsOf v)).length))) := fun K tg => callsTo_iff (by have := l21Table_c (meet := false) hv hc hP rfl rfl; simpa [tabM] using this)
    generalize meetK (N : Int) (xsOf v) = M at *
    generalize joinK (N : Int) (xsOf v) = J at *
    generalize conW (N : Int) (xsOf v) = w at *
    generalize (conL (N : Int) (xsOf v)).length = len at *
    have hT1 : IsT (bufLC 1 1 (rowsV (tabT M len len))) M len := isT_buf hL
    have hT2 : IsT (bufLC 1 1 (rowsV (tabT J len len))) J len := isT_buf hL
    obtain ⟨tm, htm⟩ : ∃ tm, bufLC 1 1 (rowsV (tabT M len len)) = tm := ⟨_, rfl⟩
    obtain ⟨tj, htj⟩ : ∃ tj, bufLC 1 1 (rowsV (tabT J len len)) = tj := ⟨_, rfl⟩
    rw [htm] at hT1
    rw [htj] at hT2
    have hll1 := hT1.ll
    have hll2 := hT2.ll
    have hn1 := hT1.ln
    have hn2 := hT2.ln
    repeat' (first | (apply brI <;> intro hb hb2 <;> (try simp [-Int.not_le, -Int.not_lt, -Nat.not_le, -Nat.not_lt, -Nat.add_left_cancel_iff] at hb2)) | (refine draw_listA (by rfl) (by kernel_rfl) ?_) | (refine draw_listB (by simp [allocsOf, isAlloc]; rfl) (by kernel_rfl) ?_) | simp (maxSteps := 2000000) (disch := first | omega | assumption | simp [*]) [*, -Int.not_le, -Int.not_lt, -Nat.not_le, -Nat.not_lt, -Nat.add_left_cancel_iff, wrap_i64, wrap_u64, Tryz.f99, isI_cells hv, isI_one hv, isI_low hv, isP_len hP, isP_low hP, isP_noKey hP])
    refine W_loopP len (fun x s => s 8 = .int .i64 x ∧ s 5 = w ∧ s 6 = tm ∧ s 7 = tj ∧ s 1 = .bool all ∧ s 2 = .vp 2 0 0 ∧ ∀ x', x' < x → ∀ y, y < len → ∀ z, z < len → dAt all (fsts w) M J x' y z) rfl ?_ ?_
    · simp [*]
    clear ht1 ht2 htm htj
    rintro x s hx ⟨h8, h5, h6, h7, h1, h2, hX⟩
    by_cases hx2 : x < len
    · repeat' (first | (apply brI <;> intro hb hb2 <;> (try simp [-Int.not_le, -Int.not_lt, -Nat.not_le, -Nat.not_lt, -Nat.add_left_cancel_iff] at hb2)) | (refine draw_listA (by rfl) (by kernel_rfl) ?_) | (refine draw_listB (by simp [allocsOf, isAlloc]; rfl) (by kernel_rfl) ?_) | simp (maxSteps := 2000000) (disch := first | omega | assumption | simp [*]) [*, -Int.not_le, -Int.not_lt, -Nat.not_le, -Nat.not_lt, -Nat.add_left_cancel_iff, wrap_i64, wrap_u64, h8, h5, h6, h7, h1, h2, isP_len hP])
      refine W_loopP len (fun y s => s 9 = .int .i64 y ∧ s 8 = .int .i64 x ∧ s 5 = w ∧ s 6 = tm ∧ s 7 = tj ∧ s 1 = .bool all ∧ s 2 = .vp 2 0 0 ∧ ∀ y', y' < y → ∀ z, z < len → dAt all (fsts w) M J x y' z) rfl ?_ ?_
      · simp [*]
      clear h8 h5 h6 h7 h1 h2
      rintro y s hy ⟨h9, h8, h5, h6, h7, h1, h2, hY⟩
      by_cases hy2 : y < len
      · repeat' (first | (apply brI <;> intro hb hb2 <;> (try simp [-Int.not_le, -Int.not_lt, -Nat.not_le, -Nat.not_lt, -Nat.add_left_cancel_iff] at hb2)) | (refine draw_listA (by rfl) (by kernel_rfl) ?_) | (refine draw_listB (by simp [allocsOf, isAlloc]; rfl) (by kernel_rfl) ?_) | simp (maxSteps := 2000000) (disch := first | omega | assumption | simp [*]) [*, -Int.not_le, -Int.not_lt, -Nat.not_le, -Nat.not_lt, -Nat.add_left_cancel_iff, wrap_i64, wrap_u64, h9, h8, h5, h6, h7, h1, h2, isP_len hP])
        refine W_loopP len (fun z s => s 10 = .int .i64 z ∧ s 9 = .int .i64 y ∧ s 8 = .int .i64 x ∧ s 5 = w ∧ s 6 = tm ∧ s 7 = tj ∧ s 1 = .bool all ∧ s 2 = .vp 2 0 0 ∧ ∀ z', z' < z → dAt all (fsts w) M J x y z') rfl ?_ ?_
        · simp [*]
        clear h9 h8 h5 h6 h7 h1 h2
        rintro z s hz ⟨h10, h9, h8, h5, h6, h7, h1, h2, hZ⟩
        by_cases hz2 : z < len
        · obtain ⟨rx1, rx2, rx3⟩ := hT1.row x hx2
          obtain ⟨ry1, ry2, ry3⟩ := hT2.row y hy2
          have l1 := hJl y z hy2 hz2
          have l2 := hMl x y hx2 hy2
          have l3 := hMl x z hx2 hz2
          obtain ⟨rm1, rm2, rm3⟩ := hT2.row (M x y) l2
          have v1 := ry3 z hz2
          have v2 := rx3 (J y z) l1
          have v3 := rx3 y hy2
          have v4 := rx3 z hz2
          have v5 := rm3 (M x z) l3
          have fx := hFs x (by omega)
          have fz := hFs z (by omega)
          have hd : dAt all (fsts w) M J x y z ↔ (all = true ∨ PSub (nth (fsts w) z) (nth (fsts w) x) = true → M x (J y z) = J (M x y) (M x z)) := Iff.rfl
          clear hT1 hT2 rx3 ry3 rm3 hJl hMl
          generalize M x (J y z) = lhs at *
          generalize J (M x y) (M x z) = rhs at *
          generalize M x y = mxy at *
          generalize M x z = mxz at *
          generalize J y z = jyz at *
          have hZn : dAt all (fsts w) M J x y z → ∀ z', z' < z + 1 → dAt all (fsts w) M J x y z' := fun h9 z' hz' => by
            by_cases e : z' = z
            · subst e; exact h9
            · exact hZ z' (by omega)
          have hno : ¬ dAt all (fsts w) M J x y z → ¬ DistC all N (xsOf v) := fun h9 h10 => h9 (hD.1 h10 x hx2 y hy2 z hz2)
          cases hb : all with
          | true =>
            subst hb
            by_cases he : lhs = rhs
            · have hZ2 := hZn (hd.2 fun _ => he)
              clear hZn hno hd hZ hY hX hD hFs
              subst he
              repeat' (first | (apply brI <;> intro hb hb2 <;> (try simp [-Int.not_le, -Int.not_lt, -Nat.not_le, -Nat.not_lt, -Nat.add_left_cancel_iff] at hb2)) | (refine draw_listA (by rfl) (by kernel_rfl) ?_) | (refine draw_listB (by simp [allocsOf, isAlloc]; rfl) (by kernel_rfl) ?_) | simp (maxSteps := 2000000) (disch := first | omega | assumption | simp [*]) [*, -Int.not_le, -Int.not_lt, -Nat.not_le, -Nat.not_lt, -Nat.add_left_cancel_iff, wrap_i64, wrap_u64, h10, h9, h8, h5, h6, h7, h1, h2, isP_len hP, isP_low hP, isP_index hP, isLL_len hll1, isLL_index hll1, isLL_load hll1, isLL_len hll2, isLL_index hll2, isLL_load hll2, isI_len rx1, isI_index rx1, isI_load rx1, isI_len ry1, isI_index ry1, isI_load ry1, isI_len rm1, isI_index rm1, isI_load rm1])
              exact hZ2
            · have hN := hno fun h9 => he (hd.1 h9 (.inl rfl))
              have he2 : ¬ (lhs : Int) = rhs := by omega
              clear hZn hno hd hZ hY hX hD hFs
              repeat' (first | (apply brI <;> intro hb hb2 <;> (try simp [-Int.not_le, -Int.not_lt, -Nat.not_le, -Nat.not_lt, -Nat.add_left_cancel_iff] at hb2)) | (refine draw_listA (by rfl) (by kernel_rfl) ?_) | (refine draw_listB (by simp [allocsOf, isAlloc]; rfl) (by kernel_rfl) ?_) | simp (maxSteps := 2000000) (disch := first | omega | assumption | simp [*]) [*, -Int.not_le, -Int.not_lt, -Nat.not_le, -Nat.not_lt, -Nat.add_left_cancel_iff, wrap_i64, wrap_u64, h10, h9, h8, h5, h6, h7, h1, h2, isP_len hP, isP_low hP, isP_index hP, isLL_len hll1, isLL_index hll1, isLL_load hll1, isLL_len hll2, isLL_index hll2, isLL_load hll2, isI_len rx1, isI_index rx1, isI_load rx1, isI_len ry1, isI_index ry1, isI_load ry1, isI_len rm1, isI_index rm1, isI_load rm1])
          | false =>
            subst hb
            cases hp : PSub (nth (fsts w) z) (nth (fsts w) x) with
            | false =>
              have hZ2 := hZn (hd.2 fun h9 => by rcases h9 with h9 | h9; cases h9; rw [hp] at h9; cases h9)
              clear hZn hno hd hZ hY hX hD hFs
              repeat' (first | (apply brI <;> intro hb hb2 <;> (try simp [-Int.not_le, -Int.not_lt, -Nat.not_le, -Nat.not_lt, -Nat.add_left_cancel_iff] at hb2)) | (refine draw_listA (by rfl) (by kernel_rfl) ?_) | (refine draw_listB (by simp [allocsOf, isAlloc]; rfl) (by kernel_rfl) ?_) | simp (maxSteps := 2000000) (disch := first | omega | assumption | simp [*]) [*, -Int.not_le, -Int.not_lt, -Nat.not_le, -Nat.not_lt, -Nat.add_left_cancel_iff, wrap_i64, wrap_u64, h10, h9, h8, h5, h6, h7, h1, h2, isP_len hP, isP_low hP, isP_index hP])
              exact hZ2
            | true =>
              by_cases he : lhs = rhs
              · have hZ2 := hZn (hd.2 fun _ => he)
                clear hZn hno hd hZ hY hX hD hFs
                subst he
                repeat' (first | (apply brI <;> intro hb hb2 <;> (try simp [-Int.not_le, -Int.not_lt, -Nat.not_le, -Nat.not_lt, -Nat.add_left_cancel_iff] at hb2)) | (refine draw_listA (by rfl) (by kernel_rfl) ?_) | (refine draw_listB (by simp [allocsOf, isAlloc]; rfl) (by kernel_rfl) ?_) | simp (maxSteps := 2000000) (disch := first | omega | assumption | simp [*]) [*, -Int.not_le, -Int.not_lt, -Nat.not_le, -Nat.not_lt, -Nat.add_left_cancel_iff, wrap_i64, wrap_u64, h10, h9, h8, h5, h6, h7, h1, h2, isP_len hP, isP_low hP, isP_index hP, isLL_len hll1, isLL_index hll1, isLL_load hll1, isLL_len hll2, isLL_index hll2, isLL_load hll2, isI_len rx1, isI_index rx1, isI_load rx1, isI_len ry1, isI_index ry1, isI_load ry1, isI_len rm1, isI_index rm1, isI_load rm1])
                exact hZ2
              · have hN := hno fun h9 => he (hd.1 h9 (.inr hp))
                have he2 : ¬ (lhs : Int) = rhs := by omega
                clear hZn hno hd hZ hY hX hD hFs
                repeat' (first | (apply brI <;> intro hb hb2 <;> (try simp [-Int.not_le, -Int.not_lt, -Nat.not_le, -Nat.not_lt, -Nat.add_left_cancel_iff] at hb2)) | (refine draw_listA (by rfl) (by kernel_rfl) ?_) | (refine draw_listB (by simp [allocsOf, isAlloc]; rfl) (by kernel_rfl) ?_) | simp (maxSteps := 2000000) (disch := first | omega | assumption | simp [*]) [*, -Int.not_le, -Int.not_lt, -Nat.not_le, -Nat.not_lt, -Nat.add_left_cancel_iff, wrap_i64, wrap_u64, h10, h9, h8, h5, h6, h7, h1, h2, isP_len hP, isP_low hP, isP_index hP, isLL_len hll1, isLL_index hll1, isLL_load hll1, isLL_len hll2, isLL_index hll2, isLL_load hll2, isI_len rx1, isI_index rx1, isI_load rx1, isI_len ry1, isI_index ry1, isI_load ry1, isI_len rm1, isI_index rm1, isI_load rm1])
        · obtain rfl : z = len := by omega
          have hYn : ∀ y', y' < y + 1 → ∀ z', z' < z → dAt all (fsts w) M J x y' z' := fun y' hy' => by
            by_cases e : y' = y
            · subst e; exact hZ
            · exact hY y' (by omega)
          clear hZ hY hX hD hJl hMl
          repeat' (first | (apply brI <;> intro hb hb2 <;> (try simp [-Int.not_le, -Int.not_lt, -Nat.not_le, -Nat.not_lt, -Nat.add_left_cancel_iff] at hb2)) | (refine draw_listA (by rfl) (by kernel_rfl) ?_) | (refine draw_listB (by simp [allocsOf, isAlloc]; rfl) (by kernel_rfl) ?_) | simp (maxSteps := 2000000) (disch := first | omega | assumption | simp [*]) [*, -Int.not_le, -Int.not_lt, -Nat.not_le, -Nat.not_lt, -Nat.add_left_cancel_iff, wrap_i64, wrap_u64, h10, h9, h8, h5, h6, h7, h1, h2, isP_len hP])
          exact hYn
      · obtain rfl : y = len := by omega
        have hXn : ∀ x', x' < x + 1 → ∀ y', y' < y → ∀ z, z < y → dAt all (fsts w) M J x' y' z := fun x' hx' => by
          by_cases e : x' = x
          · subst e; exact hY
          · exact hX x' (by omega)
        clear hY hX hD hJl hMl
        repeat' (first | (apply brI <;> intro hb hb2 <;> (try simp [-Int.not_le, -Int.not_lt, -Nat.not_le, -Nat.not_lt, -Nat.add_left_cancel_iff] at hb2)) | (refine draw_listA (by rfl) (by kernel_rfl) ?_) | (refine draw_listB (by simp [allocsOf, isAlloc]; rfl) (by kernel_rfl) ?_) | simp (maxSteps := 2000000) (disch := first | omega | assumption | simp [*]) [*, -Int.not_le, -Int.not_lt, -Nat.not_le, -Nat.not_lt, -Nat.add_left_cancel_iff, wrap_i64, wrap_u64, h9, h8, h5, h6, h7, h1, h2, isP_len hP])
        exact hXn
    · obtain rfl : x = len := by omega
      have hyes := hD.2 hX
      clear hX hD hJl hMl
      repeat' (first | (apply brI <;> intro hb hb2 <;> (try simp [-Int.not_le, -Int.not_lt, -Nat.not_le, -Nat.not_lt, -Nat.add_left_cancel_iff] at hb2)) | (refine draw_listA (by rfl) (by kernel_rfl) ?_) | (refine draw_listB (by simp [allocsOf, isAlloc]; rfl) (by kernel_rfl) ?_) | simp (maxSteps := 2000000) (disch := first | omega | assumption | simp [*]) [*, -Int.not_le, -Int.not_lt, -Nat.not_le, -Nat.not_lt, -Nat.add_left_cancel_iff, wrap_i64, wrap_u64, h8, h5, h6, h7, h1, h2, isI_cells hv, isI_one hv, isI_low hv, isP_len hP])
  · have hno : ¬ DistC all n (xsOf v) := fun h => hc h.1
    have hl0 : (conL n (xsOf v)).length = 0 := by simp [conL, hc]
    rw [hl0] at hfl
    generalize conW n (xsOf v) = w at *
    have ht : ∀ (meet : Bool) (K : AV → Prop) (tg : Tg K), CW env 195 [.agg [.int .i64 n, v], w, .bool meet] K tg ↔ K (.sl 1 .lit []) := fun meet K tg => callsTo_iff (l21Tab0_c hv hP hfl)
    clear hFs hL hl0
    repeat' (first | (apply brI <;> intro hb hb2 <;> (try simp [-Int.not_le, -Int.not_lt, -Nat.not_le, -Nat.not_lt, -Nat.add_left_cancel_iff] at hb2)) | (refine draw_listA (by rfl) (by kernel_rfl) ?_) | (refine draw_listB (by simp [allocsOf, isAlloc]; rfl) (by kernel_rfl) ?_) | simp (maxSteps := 2000000) (disch := first | omega | assumption | simp [*]) [*, -Int.not_le, -Int.not_lt, -Nat.not_le, -Nat.not_lt, -Nat.add_left_cancel_iff, wrap_i64, wrap_u64, Tryz.f99, isI_cells hv, isI_one hv, isI_low hv, isP_len hP, isP_low hP, isP_noKey hP])
    refine W_loopP 0 (fun x s => s 8 = .int .i64 0 ∧ s 5 = w ∧ s 2 = .vp 2 0 0) rfl ?_ ?_
    · simp [*]
    rintro x s hx ⟨h8, h5, h2⟩
    repeat' (first | (apply brI <;> intro hb hb2 <;> (try simp [-Int.not_le, -Int.not_lt, -Nat.not_le, -Nat.not_lt, -Nat.add_left_cancel_iff] at hb2)) | (refine draw_listA (by rfl) (by kernel_rfl) ?_) | (refine draw_listB (by simp [allocsOf, isAlloc]; rfl) (by kernel_rfl) ?_) | simp (maxSteps := 2000000) (disch := first | omega | assumption | simp [*]) [*, -Int.not_le, -Int.not_lt, -Nat.not_le, -Nat.not_lt, -Nat.add_left_cancel_iff, wrap_i64, wrap_u64, h8, h5, h2, isI_cells hv, isI_one hv, isI_low hv, isP_len hP])
theorem l21Law_s {n : Int} {v : AV} {all : Bool} (hv : IsI v) {K : AV → Prop} {tg : Tg K} : CW env 99 [.agg [.int .i64 n, v], .bool all] K tg ↔ K (.bool (decide (DistC all n (xsOf v)))) := callsTo_iff (l21Law_c hv)
attribute [simp] l21Law_s
theorem sIsDistributive_c {n : Int} {v : AV} (hv : IsI v) : EvC env 18 [.agg [.int .i64 n, v]] (.bool (decide (DistC true n (xsOf v)))) := by
  refine evC_of (F := Tryz.f18) rfl rfl (Nat.le_of_ble_eq_true rfl) ?_
  repeat' (first | (apply brI <;> intro hb hb2 <;> (try simp [-Int.not_le, -Int.not_lt, -Nat.not_le, -Nat.not_lt, -Nat.add_left_cancel_iff] at hb2)) | (refine draw_listA (by rfl) (by kernel_rfl) ?_) | (refine draw_listB (by simp [allocsOf, isAlloc]; rfl) (by kernel_rfl) ?_) | simp (maxSteps := 2000000) (disch := first | omega | assumption | simp [*]) [*, -Int.not_le, -Int.not_lt, -Nat.not_le, -Nat.not_lt, -Nat.add_left_cancel_iff, wrap_i64, wrap_u64, Tryz.f18, isI_cells hv, isI_one hv, isI_low hv, isI_len hv])
theorem sIsDistributive_s {n : Int} {v : AV} (hv : IsI v) {K : AV → Prop} {tg : Tg K} : CW env 18 [.agg [.int .i64 n, v]] K tg ↔ K (.bool (decide (DistC true n (xsOf v)))) := callsTo_iff (sIsDistributive_c hv)
attribute [simp] sIsDistributive_s
theorem sIsModular_c {n : Int} {v : AV} (hv : IsI v) : EvC env 19 [.agg [.int .i64 n, v]] (.bool (decide (DistC false n (xsOf v)))) := by
  refine evC_of (F := Tryz.f19) rfl rfl (Nat.le_of_ble_eq_true rfl) ?_
  repeat' (first | (apply brI <;> intro hb hb2 <;> (try simp [-Int.not_le, -Int.not_lt, -Nat.not_le, -Nat.not_lt, -Nat.add_left_cancel_iff] at hb2)) | (refine draw_listA (by rfl) (by kernel_rfl) ?_) | (refine draw_listB (by simp [allocsOf, isAlloc]; rfl) (by kernel_rfl) ?_) | simp (maxSteps := 2000000) (disch := first | omega | assumption | simp [*]) [*, -Int.not_le, -Int.not_lt, -Nat.not_le, -Nat.not_lt, -Nat.add_left_cancel_iff, wrap_i64, wrap_u64, Tryz.f19, isI_cells hv, isI_one hv, isI_low hv, isI_len hv])
theorem sIsModular_s {n : Int} {v : AV} (hv : IsI v) {K : AV → Prop} {tg : Tg K} : CW env 19 [.agg [.int .i64 n, v]] K tg ↔ K (.bool (decide (DistC false n (xsOf v)))) := callsTo_iff (sIsModular_c hv)
attribute [simp] sIsModular_s
theorem iIsDistributive_c {n : Int} {v : AV} (hv : IsI v) : EvC env 10 [.agg [.int .i64 n, v]] (.bool (decide (DistC true n (xsOf v)))) := by
  refine evC_of (F := Tryz.f10) rfl rfl (Nat.le_of_ble_eq_true rfl) ?_
  repeat' (first | (apply brI <;> intro hb hb2 <;> (try simp [-Int.not_le, -Int.not_lt, -Nat.not_le, -Nat.not_lt, -Nat.add_left_cancel_iff] at hb2)) | (refine draw_listA (by rfl) (by kernel_rfl) ?_) | (refine draw_listB (by simp [allocsOf, isAlloc]; rfl) (by kernel_rfl) ?_) | simp (maxSteps := 2000000) (disch := first | omega | assumption | simp [*]) [*, -Int.not_le, -Int.not_lt, -Nat.not_le, -Nat.not_lt, -Nat.add_left_cancel_iff, wrap_i64, wrap_u64, Tryz.f10, isI_cells hv, isI_one hv, isI_low hv, isI_len hv])
theorem iIsDistributive_s {n : Int} {v : AV} (hv : IsI v) {K : AV → Prop} {tg : Tg K} : CW env 10 [.agg [.int .i64 n, v]] K tg ↔ K (.bool (decide (DistC true n (xsOf v)))) := callsTo_iff (iIsDistributive_c hv)
attribute [simp] iIsDistributive_s
theorem iIsModular_c {n : Int} {v : AV} (hv : IsI v) : EvC env 11 [.agg [.int .i64 n, v]] (.bool (decide (DistC false n (xsOf v)))) := by
  refine evC_of (F := Tryz.f11) rfl rfl (Nat.le_of_ble_eq_true rfl) ?_
  repeat' (first | (apply brI <;> intro hb hb2 <;> (try simp [-Int.not_le, -Int.not_lt, -Nat.not_le, -Nat.not_lt, -Nat.add_left_cancel_iff] at hb2)) | (refine draw_listA (by rfl) (by kernel_rfl) ?_) | (refine draw_listB (by simp [allocsOf, isAlloc]; rfl) (by kernel_rfl) ?_) | simp (maxSteps := 2000000) (disch := first | omega | assumption | simp [*]) [*, -Int.not_le, -Int.not_lt, -Nat.not_le, -Nat.not_lt, -Nat.add_left_cancel_iff, wrap_i64, wrap_u64, Tryz.f11, isI_cells hv, isI_one hv, isI_low hv, isI_len hv])
theorem iIsModular_s {n : Int} {v : AV} (hv : IsI v) {K : AV → Prop} {tg : Tg K} : CW env 11 [.agg [.int .i64 n, v]] K tg ↔ K (.bool (decide (DistC false n (xsOf v)))) := callsTo_iff (iIsModular_c hv)
attribute [simp] iIsModular_s
theorem iIsBoolean_c {n : Int} {v : AV} (hv : IsI v) : EvC env 13 [.agg [.int .i64 n, v]] (.bool (decide (DistC true n (xsOf v)) && decide (CmpC n (xsOf v)))) := by
  refine evC_of (F := Tryz.f13) rfl rfl (Nat.le_of_ble_eq_true rfl) ?_
  repeat' (first | (apply brI <;> intro hb hb2 <;> (try simp [-Int.not_le, -Int.not_lt, -Nat.not_le, -Nat.not_lt, -Nat.add_left_cancel_iff] at hb2)) | (refine draw_listA (by rfl) (by kernel_rfl) ?_) | (refine draw_listB (by simp [allocsOf, isAlloc]; rfl) (by kernel_rfl) ?_) | simp (maxSteps := 2000000) (disch := first | omega | assumption | simp [*]) [*, -Int.not_le, -Int.not_lt, -Nat.not_le, -Nat.not_lt, -Nat.add_left_cancel_iff, wrap_i64, wrap_u64, Tryz.f13, isI_cells hv, isI_one hv, isI_low hv, isI_len hv])
theorem iIsBoolean_s {n : Int} {v : AV} (hv : IsI v) {K : AV → Prop} {tg : Tg K} : CW env 13 [.agg [.int .i64 n, v]] K tg ↔ K (.bool (decide (DistC true n (xsOf v)) && decide (CmpC n (xsOf v)))) := callsTo_iff (iIsBoolean_c hv)
attribute [simp] iIsBoolean_s
end Go.Proofs.YtliecnadoklgoaaGreatDoor
