/- The law of GreedyFactors. Conditions: none. -/
import Derived.Test.YthdeaenleimbeaaDoorGrd
namespace Go.Proofs.YthdeaenleimbeaaDoor
open Ev
set_option linter.unusedVariables false
set_option linter.unusedSimpArgs false
set_option maxHeartbeats 4000000

theorem eqConcept_c {a b c d : Int} : EvC env 106 [.agg [.int .i64 a, .int .i64 b], .agg [.int .i64 c, .int .i64 d]] (.bool (decide (a = c ∧ b = d))) := by
  refine evC_of (F := Tryd.f106) rfl rfl (Nat.le_of_ble_eq_true rfl) ?_
  repeat' (first | (apply br_intro <;> intro hb <;> (have hb2 := hb) <;> (try simp [-Int.not_le, -Int.not_lt, -Nat.not_le, -Nat.not_lt, -Nat.add_left_cancel_iff] at hb2)) | (refine draw_listA (by rfl) (by kernel_rfl) ?_) | (refine draw_listB (by simp [allocsOf, isAlloc]; rfl) (by kernel_rfl) ?_) | simp (maxSteps := 2000000) (disch := first | omega | assumption | simp [*]) [*, -Int.not_le, -Int.not_lt, -Nat.not_le, -Nat.not_lt, -Nat.add_left_cancel_iff, wrap_i64, wrap_u64, Tryd.f106])
theorem eqConcept_s {a b c d : Int} {K : AV → Prop} {tg : Tg K} : CW env 106 [.agg [.int .i64 a, .int .i64 b], .agg [.int .i64 c, .int .i64 d]] K tg ↔ K (.bool (decide (a = c ∧ b = d))) := callsTo_iff (eqConcept_c )
attribute [simp] eqConcept_s
theorem eqConceptS_c {u v : AV} (hu : IsP u) (hv : IsP v) : EvC env 55 [u, v] (.bool (decide (fsts u = fsts v ∧ snds u = snds v))) := by
  refine evC_of (F := Tryd.f55) rfl rfl (Nat.le_of_ble_eq_true rfl) ?_
  have := hu.len
  have := hv.len
  have hul := hu.lens
  have hvl := hv.lens
  repeat' (first | (apply br_intro <;> intro hb <;> (have hb2 := hb) <;> (try simp [-Int.not_le, -Int.not_lt, -Nat.not_le, -Nat.not_lt, -Nat.add_left_cancel_iff] at hb2)) | (refine draw_listA (by rfl) (by kernel_rfl) ?_) | (refine draw_listB (by simp [allocsOf, isAlloc]; rfl) (by kernel_rfl) ?_) | simp (maxSteps := 2000000) (disch := first | omega | assumption | simp [*]) [*, -Int.not_le, -Int.not_lt, -Nat.not_le, -Nat.not_lt, -Nat.add_left_cancel_iff, wrap_i64, wrap_u64, Tryd.f55, isP_len hu, isP_low hu, isP_len hv, isP_low hv])
  · intro e; exact absurd (by rw [e]) hb2
  refine W_loopP (fsts u).length (fun i s => s 5 = .int .i64 i ∧ s 0 = u ∧ s 1 = v ∧ ∀ j, j < i → nth (fsts u) j = nth (fsts v) j ∧ nth (snds u) j = nth (snds v) j) rfl ?_ ?_
  · simp
  rintro i s hi ⟨h5, h0, h1, hj⟩
  by_cases hi2 : i < (fsts u).length
  · have hi3 : i < (fsts v).length := by omega
    repeat' (first | (apply br_intro <;> intro hb <;> (have hb2 := hb) <;> (try simp [-Int.not_le, -Int.not_lt, -Nat.not_le, -Nat.not_lt, -Nat.add_left_cancel_iff] at hb2)) | (refine draw_listA (by rfl) (by kernel_rfl) ?_) | (refine draw_listB (by simp [allocsOf, isAlloc]; rfl) (by kernel_rfl) ?_) | simp (maxSteps := 2000000) (disch := first | omega | assumption | simp [*]) [*, -Int.not_le, -Int.not_lt, -Nat.not_le, -Nat.not_lt, -Nat.add_left_cancel_iff, wrap_i64, wrap_u64, h5, h0, h1, isP_len hu, isP_low hu, isP_index hu, isP_len hv, isP_low hv, isP_index hv])
    · intro e e2; rw [e, e2] at hb2; simp at hb2
    · intro j hj2
      by_cases e : j = i
      · subst e; exact hb2
      · exact hj j (by omega)
  · obtain rfl : i = (fsts u).length := by omega
    repeat' (first | (apply br_intro <;> intro hb <;> (have hb2 := hb) <;> (try simp [-Int.not_le, -Int.not_lt, -Nat.not_le, -Nat.not_lt, -Nat.add_left_cancel_iff] at hb2)) | (refine draw_listA (by rfl) (by kernel_rfl) ?_) | (refine draw_listB (by simp [allocsOf, isAlloc]; rfl) (by kernel_rfl) ?_) | simp (maxSteps := 2000000) (disch := first | omega | assumption | simp [*]) [*, -Int.not_le, -Int.not_lt, -Nat.not_le, -Nat.not_lt, -Nat.add_left_cancel_iff, wrap_i64, wrap_u64, h5, h0, h1, isP_len hu])
    constructor
    · apply List.ext_getElem?
      intro j
      by_cases hj2 : j < (fsts u).length
      · rw [nth_get? hj2, nth_get? (by omega), (hj j hj2).1]
      · rw [List.getElem?_eq_none (by omega), List.getElem?_eq_none (by omega)]
    · apply List.ext_getElem?
      intro j
      by_cases hj2 : j < (fsts u).length
      · rw [nth_get? (by omega), nth_get? (by omega), (hj j hj2).2]
      · rw [List.getElem?_eq_none (by omega), List.getElem?_eq_none (by omega)]
theorem eqConceptS_s {u v : AV} (hu : IsP u) (hv : IsP v) {K : AV → Prop} {tg : Tg K} : CW env 55 [u, v] K tg ↔ K (.bool (decide (fsts u = fsts v ∧ snds u = snds v))) := callsTo_iff (eqConceptS_c hu hv)
attribute [simp] eqConceptS_s
theorem markConceptS_o {v : AV} {key T k0 : Nat} {xs ys : List Int} {k : Int} {h : Heap} {off : Nat} {K : AV → Heap → Prop} (hR : Row h key T 2 k0 v (prs xs ys)) (hyl : ys.length = xs.length) (h0 : 0 ≤ k) (h1 : k + 2 * xs.length ≤ 4611686018427387904) (hK : ∀ h', Row h' key T 2 k0 v (prs (mk2a k xs.length) (mk2b k xs.length)) → (∀ x, x ≠ key → h' x = h x) → K (.int .i64 (k + 2 * xs.length)) h') : OpenTo env 56 [v, .int .i64 k] h off K := by
  refine openTo_of (F := Tryd.f56) rfl rfl (Nat.le_of_ble_eq_true rfl) ?_
  repeat' (first | (apply br_intro <;> intro hb <;> (have hb2 := hb) <;> (try simp [-Int.not_le, -Int.not_lt, -Nat.not_le, -Nat.not_lt, -Nat.add_left_cancel_iff] at hb2)) | (refine draw_listA (by rfl) (by kernel_rfl) ?_) | (refine draw_listB (by simp [allocsOf, isAlloc]; rfl) (by kernel_rfl) ?_) | simp (maxSteps := 2000000) (disch := first | omega | assumption | simp [*]) [*, -Int.not_le, -Int.not_lt, -Nat.not_le, -Nat.not_lt, -Nat.add_left_cancel_iff, wrap_i64, wrap_u64, Tryd.f56])
  refine W_loopG xs.length (fun i s h' => s 5 = .int .i64 i ∧ s 0 = v ∧ s 1 = .int .i64 (k + 2 * i) ∧ (∀ x, x ≠ key → h' x = h x) ∧ ∃ us vs, Row h' key T 2 k0 v (prs us vs) ∧ us.length = xs.length ∧ vs.length = us.length ∧ ∀ j, j < i → nth us j = k + 2 * j ∧ nth vs j = k + 2 * j + 1) ?_ ?_
  · simp; exact ⟨xs, ys, hR, rfl, hyl⟩
  rintro i s h2 hi ⟨h5, h0, h1, hh, us, vs, hR2, hy, hz, hj⟩
  have hlen := fun E t ht => hR2.len (E := E) (t := t) ht
  by_cases hi2 : i < xs.length
  · rcases hR2 with ⟨e, _⟩ | ⟨hx, g, rfl, hg⟩
    · have := congrArg List.length e; simp only [prs_length, List.length_nil] at this; omega
    have hi3 : i < us.length := by omega
    repeat' (first | (apply br_intro <;> intro hb <;> (have hb2 := hb) <;> (try simp [-Int.not_le, -Int.not_lt, -Nat.not_le, -Nat.not_lt, -Nat.add_left_cancel_iff] at hb2)) | (refine draw_listA (by rfl) (by kernel_rfl) ?_) | (refine draw_listB (by simp [allocsOf, isAlloc]; rfl) (by kernel_rfl) ?_) | simp (maxSteps := 2000000) (disch := first | omega | assumption | simp [*]) [*, -Int.not_le, -Int.not_lt, -Nat.not_le, -Nat.not_lt, -Nat.add_left_cancel_iff, wrap_i64, wrap_u64, h5, h0, h1, prs_set])
    refine ⟨by omega, fun x a b => absurd b a, us.set i (nth (us.set i (k + 2 * i)) i), vs.set i (k + 2 * i + 1), .inr ⟨fun e => ?_, g, by simp [hy], by simp [hset]⟩, by simp [hy], by simp [hz], fun j hj2 => ?_⟩
    · have := congrArg List.length e
      simp at this
      rw [this] at hi3; simp at hi3
    · rw [nth_set _ _ _ _ (by omega), nth_set _ _ _ _ (by omega), nth_set _ _ _ _ (by omega)]
      by_cases e : j = i
      · subst e; simp
      · simp only [e, if_false]; exact hj j (by omega)
  · obtain rfl : i = xs.length := by omega
    repeat' (first | (apply br_intro <;> intro hb <;> (have hb2 := hb) <;> (try simp [-Int.not_le, -Int.not_lt, -Nat.not_le, -Nat.not_lt, -Nat.add_left_cancel_iff] at hb2)) | (refine draw_listA (by rfl) (by kernel_rfl) ?_) | (refine draw_listB (by simp [allocsOf, isAlloc]; rfl) (by kernel_rfl) ?_) | simp (maxSteps := 2000000) (disch := first | omega | assumption | simp [*]) [*, -Int.not_le, -Int.not_lt, -Nat.not_le, -Nat.not_lt, -Nat.add_left_cancel_iff, wrap_i64, wrap_u64, h5, h0, h1])
    have e1 : us = mk2a k xs.length := by unfold mk2a; exact tab_eq hy fun j hj2 => (hj j hj2).1
    have e2 : vs = mk2b k xs.length := by unfold mk2b; exact tab_eq (by omega) fun j hj2 => (hj j hj2).2
    rw [e1, e2] at hR2
    exact hK _ hR2 hh
theorem heldConceptS_c {v : AV} {k : Int} (hv : IsP v) (h0 : 0 ≤ k) (h1 : k + 2 * (fsts v).length ≤ 4611686018427387904) : EvC env 57 [v, .int .i64 k] (.int .i64 (if fsts v = mk2a k (fsts v).length ∧ snds v = mk2b k (fsts v).length then k + 2 * (fsts v).length else -1)) := by
  refine evC_of (F := Tryd.f57) rfl rfl (Nat.le_of_ble_eq_true rfl) ?_
  have := hv.len
  have hlens := hv.lens
  repeat' (first | (apply br_intro <;> intro hb <;> (have hb2 := hb) <;> (try simp [-Int.not_le, -Int.not_lt, -Nat.not_le, -Nat.not_lt, -Nat.add_left_cancel_iff] at hb2)) | (refine draw_listA (by rfl) (by kernel_rfl) ?_) | (refine draw_listB (by simp [allocsOf, isAlloc]; rfl) (by kernel_rfl) ?_) | simp (maxSteps := 2000000) (disch := first | omega | assumption | simp [*]) [*, -Int.not_le, -Int.not_lt, -Nat.not_le, -Nat.not_lt, -Nat.add_left_cancel_iff, wrap_i64, wrap_u64, Tryd.f57, isP_len hv, isP_low hv])
  refine W_loopP (fsts v).length (fun i s => s 5 = .int .i64 i ∧ s 0 = v ∧ s 1 = .int .i64 (k + 2 * i) ∧ ∀ j, j < i → nth (fsts v) j = k + 2 * j ∧ nth (snds v) j = k + 2 * j + 1) rfl ?_ ?_
  · simp
  rintro i s hi ⟨h5, h0, h1, hj⟩
  by_cases hi2 : i < (fsts v).length
  · by_cases ea : nth (fsts v) i = k + 2 * i
    · by_cases eb : nth (snds v) i = k + 2 * i + 1
      · have hj2 : ∀ j, j < i + 1 → nth (fsts v) j = k + 2 * j ∧ nth (snds v) j = k + 2 * j + 1 := fun j hj3 => by
          by_cases e : j = i
          · subst e; exact ⟨ea, eb⟩
          · exact hj j (by omega)
        clear hj
        repeat' (first | (apply br_intro <;> intro hb <;> (have hb2 := hb) <;> (try simp [-Int.not_le, -Int.not_lt, -Nat.not_le, -Nat.not_lt, -Nat.add_left_cancel_iff] at hb2)) | (refine draw_listA (by rfl) (by kernel_rfl) ?_) | (refine draw_listB (by simp [allocsOf, isAlloc]; rfl) (by kernel_rfl) ?_) | simp (maxSteps := 2000000) (disch := first | omega | assumption | simp [*]) [*, -Int.not_le, -Int.not_lt, -Nat.not_le, -Nat.not_lt, -Nat.add_left_cancel_iff, wrap_i64, wrap_u64, h5, h0, h1, isP_len hv, isP_low hv, isP_index hv])
        all_goals first | exact ⟨by omega, hj2⟩ | omega
      · have hno : ¬ (fsts v = mk2a k (fsts v).length ∧ snds v = mk2b k (fsts v).length) := fun h => eb ((congrArg (nth · i) h.2).trans (mk2b_nth _ hi2))
        clear hj
        repeat' (first | (apply br_intro <;> intro hb <;> (have hb2 := hb) <;> (try simp [-Int.not_le, -Int.not_lt, -Nat.not_le, -Nat.not_lt, -Nat.add_left_cancel_iff] at hb2)) | (refine draw_listA (by rfl) (by kernel_rfl) ?_) | (refine draw_listB (by simp [allocsOf, isAlloc]; rfl) (by kernel_rfl) ?_) | simp (maxSteps := 2000000) (disch := first | omega | assumption | simp [*]) [*, -Int.not_le, -Int.not_lt, -Nat.not_le, -Nat.not_lt, -Nat.add_left_cancel_iff, wrap_i64, wrap_u64, h5, h0, h1, isP_len hv, isP_low hv, isP_index hv])
    · have hno : ¬ (fsts v = mk2a k (fsts v).length ∧ snds v = mk2b k (fsts v).length) := fun h => ea ((congrArg (nth · i) h.1).trans (mk2a_nth _ hi2))
      clear hj
      repeat' (first | (apply br_intro <;> intro hb <;> (have hb2 := hb) <;> (try simp [-Int.not_le, -Int.not_lt, -Nat.not_le, -Nat.not_lt, -Nat.add_left_cancel_iff] at hb2)) | (refine draw_listA (by rfl) (by kernel_rfl) ?_) | (refine draw_listB (by simp [allocsOf, isAlloc]; rfl) (by kernel_rfl) ?_) | simp (maxSteps := 2000000) (disch := first | omega | assumption | simp [*]) [*, -Int.not_le, -Int.not_lt, -Nat.not_le, -Nat.not_lt, -Nat.add_left_cancel_iff, wrap_i64, wrap_u64, h5, h0, h1, isP_len hv, isP_low hv, isP_index hv])
  · obtain rfl : i = (fsts v).length := by omega
    have hyes : (if fsts v = mk2a k (fsts v).length ∧ snds v = mk2b k (fsts v).length then k + 2 * ((fsts v).length : Int) else -1) = k + 2 * (fsts v).length := if_pos ⟨tab_eq rfl fun j hj2 => (hj j hj2).1, tab_eq hlens fun j hj2 => (hj j hj2).2⟩
    rw [hyes]
    clear hyes hj
    repeat' (first | (apply br_intro <;> intro hb <;> (have hb2 := hb) <;> (try simp [-Int.not_le, -Int.not_lt, -Nat.not_le, -Nat.not_lt, -Nat.add_left_cancel_iff] at hb2)) | (refine draw_listA (by rfl) (by kernel_rfl) ?_) | (refine draw_listB (by simp [allocsOf, isAlloc]; rfl) (by kernel_rfl) ?_) | simp (maxSteps := 2000000) (disch := first | omega | assumption | simp [*]) [*, -Int.not_le, -Int.not_lt, -Nat.not_le, -Nat.not_lt, -Nat.add_left_cancel_iff, wrap_i64, wrap_u64, h5, h0, h1, isP_len hv])
theorem heldConceptS_s {v : AV} {k : Int} (hv : IsP v) (h0 : 0 ≤ k) (h1 : k + 2 * (fsts v).length ≤ 4611686018427387904) {K : AV → Prop} {tg : Tg K} : CW env 57 [v, .int .i64 k] K tg ↔ K (.int .i64 (if fsts v = mk2a k (fsts v).length ∧ snds v = mk2b k (fsts v).length then k + 2 * (fsts v).length else -1)) := callsTo_iff (heldConceptS_c hv h0 h1)
attribute [simp] heldConceptS_s
theorem isP_bufLP {k0 : Nat} {xs ys : List Int} (hl : xs.length ≤ top63) : IsP (bufLC k0 2 (prs xs ys)) := by
  unfold bufLC; split
  · exact isP_mk (xs := []) (ys := []) (.inl rfl) rfl (Nat.zero_le _)
  · exact isP_mk (.inr rfl) rfl hl
theorem fsts_bufLP {k0 : Nat} {xs ys : List Int} : fsts (bufLC k0 2 (prs xs ys)) = xs := by
  unfold bufLC; split
  · rename_i h
    have : xs.length = 0 := by have := congrArg List.length h; simpa using this
    rw [List.eq_nil_of_length_eq_zero this]; rfl
  · simp
theorem snds_bufLP {k0 : Nat} {xs ys : List Int} (h : ys.length = xs.length) : snds (bufLC k0 2 (prs xs ys)) = ys := by
  unfold bufLC; split
  · rename_i h2
    have h3 : xs.length = 0 := by have := congrArg List.length h2; simpa using this
    rw [List.eq_nil_of_length_eq_zero (h.trans h3)]; rfl
  · exact snds_prs _ _ h
theorem lawGreedyFactors_c {n : Int} {v : AV} (hv : IsI v) : EvC env 14 [.agg [.int .i64 n, v]] (.bool true) := by
  refine evC_of (F := Tryd.f14) rfl rfl (Nat.le_of_ble_eq_true rfl) ?_
  have hvl := hv.len
  by_cases hlv : (xsOf v).length ≤ 1048576
  · obtain ⟨xs, ys, hR, hyl, hRl⟩ : ∃ xs ys, grdL n (xsOf v) = prs xs ys ∧ ys.length = xs.length ∧ xs.length ≤ 4096 :=
      ⟨_, _, prs_of (grdL_pr n (xsOf v)), by simp, by simpa using (Nat.le_trans (grdL_len n (xsOf v)) (by decide) : _ ≤ 4096)⟩
    have hRt : xs.length ≤ top63 := by unfold top63; omega
    obtain ⟨k0, hk0⟩ : ∃ k0, k0 = grdK n (xsOf v) := ⟨_, rfl⟩
    obtain ⟨iv, hiv⟩ : ∃ iv, iv = bufLR 64 60 k0 2 (prs xs ys) := ⟨_, rfl⟩
    obtain ⟨sv, hsv⟩ : ∃ sv, sv = bufLR 64 53 2 2 (prs xs ys) := ⟨_, rfl⟩
    have hOwn : OwnR iv 2 k0 64 60 (prs xs ys) := by rw [hiv]; exact ownR_bufL ..
    obtain ⟨w, hwn⟩ : ∃ w, noEx sv = w := ⟨_, rfl⟩
    obtain ⟨u, hun⟩ : ∃ u, noEx iv = u := ⟨_, rfl⟩
    have hw : IsP w ∧ fsts w = xs ∧ snds w = ys := by
      rw [← hwn, hsv, bufLR_noEx]; exact ⟨isP_bufLP hRt, fsts_bufLP, snds_bufLP hyl⟩
    have hu : IsP u ∧ fsts u = xs ∧ snds u = ys := by
      rw [← hun, hiv, bufLR_noEx]; exact ⟨isP_bufLP hRt, fsts_bufLP, snds_bufLP hyl⟩
    obtain ⟨hw, hwf, hws⟩ := hw
    obtain ⟨hu, huf, hus⟩ := hu
    have ow := isP_one hw
    have cw := isP_cells hw
    have ou := isP_one hu
    have cu := isP_cells hu
    have hS : ∀ {v' : AV}, IsI v' → xsOf v' = xsOf v → EvC env 53 [.agg [.int .i64 n, v']] sv := fun h1 h2 => by
      have := sGreedyFactors_c (n := n) h1 (by rw [h2]; exact hlv)
      rw [h2, hR, ← hsv] at this; exact this
    have hI : ∀ {v' : AV}, IsI v' → xsOf v' = xsOf v → EvC env 54 [.agg [.int .i64 n, v']] iv := fun h1 h2 => by
      have := iGreedyFactors_c (n := n) h1 (by rw [h2]; exact hlv)
      rw [h2, hR, ← hk0, ← hiv] at this; exact this
    clear hR hk0 hiv hsv
    have hS1 : ∀ (K : AV → Prop) (tg : Tg K), CW env 53 [.agg [.int .i64 n, .sl 1 .no (ints (xsOf v))]] K tg ↔ K sv := fun K tg => callsTo_iff (hS (isI_no hvl) (by simp))
    have hI1 : ∀ (K : AV → Prop) (tg : Tg K), CW env 54 [.agg [.int .i64 n, .sl 1 .no (ints (xsOf v))]] K tg ↔ K iv := fun K tg => callsTo_iff (hI (isI_no hvl) (by simp))
    repeat' (first | (apply br_intro <;> intro hb <;> (have hb2 := hb) <;> (try simp [-Int.not_le, -Int.not_lt, -Nat.not_le, -Nat.not_lt, -Nat.add_left_cancel_iff] at hb2)) | (refine draw_listA (by rfl) (by kernel_rfl) ?_) | (refine draw_listB (by simp [allocsOf, isAlloc]; rfl) (by kernel_rfl) ?_) | simp (maxSteps := 2000000) (disch := first | omega | assumption | simp [*]) [*, -Int.not_le, -Int.not_lt, -Nat.not_le, -Nat.not_lt, -Nat.add_left_cancel_iff, wrap_i64, wrap_u64, Tryd.f14, isI_cells hv, isI_one hv, isI_low hv, isI_noKey hv, farOff, isP_cells hw, isP_one hw, isP_low hw, isP_noKey hw, isP_low hu])
    refine cf_ctx (by simpa [isI_low hv] using toContext_c (m := n) hv hlv) (ownR_row ..) (by simp) rfl ?_
    intro x0 m0 hx0 hm0
    have o0 := hx0.one
    have c0 := hx0.cells
    have l0 : ∀ h', h' 20 = m0 20 → low h' x0 = rowB 1 1 (ints (xsOf v)) := fun h' e => (hx0.keep e).lowI
    repeat' (first | (apply br_intro <;> intro hb <;> (have hb2 := hb) <;> (try simp [-Int.not_le, -Int.not_lt, -Nat.not_le, -Nat.not_lt, -Nat.add_left_cancel_iff] at hb2)) | (refine draw_listA (by rfl) (by kernel_rfl) ?_) | (refine draw_listB (by simp [allocsOf, isAlloc]; rfl) (by kernel_rfl) ?_) | simp (maxSteps := 2000000) (disch := first | omega | assumption | simp [*]) [*, -Int.not_le, -Int.not_lt, -Nat.not_le, -Nat.not_lt, -Nat.add_left_cancel_iff, wrap_i64, wrap_u64, isI_cells hv, isI_one hv, isI_low hv, isI_noKey hv, farOff, isP_cells hw, isP_one hw, isP_low hw, isP_noKey hw, isP_low hu])
    refine cf_row (R := iv) (by simpa [l0, hset] using hI (v' := rowB 1 1 (ints (xsOf v))) (isI_rowB hvl) (by simp)) hOwn (by simp) rfl ?_
    intro g0 m2 hg0 hm2
    have og := hg0.one
    have cg := hg0.cells
    have hP0 : IsP (rowB 2 k0 (prs xs ys)) := isP_rowB hRt
    have hf0 : fsts (rowB 2 k0 (prs xs ys)) = xs := fsts_rowB
    have hs0 : snds (rowB 2 k0 (prs xs ys)) = ys := snds_rowB hyl
    have lg : ∀ h', h' 22 = m2 22 → low h' g0 = rowB 2 k0 (prs xs ys) := fun h' e => (hg0.keep e).lowP
    repeat' (first | (apply br_intro <;> intro hb <;> (have hb2 := hb) <;> (try simp [-Int.not_le, -Int.not_lt, -Nat.not_le, -Nat.not_lt, -Nat.add_left_cancel_iff] at hb2)) | (refine draw_listA (by rfl) (by kernel_rfl) ?_) | (refine draw_listB (by simp [allocsOf, isAlloc]; rfl) (by kernel_rfl) ?_) | simp (maxSteps := 2000000) (disch := first | omega | assumption | simp [*]) [*, -Int.not_le, -Int.not_lt, -Nat.not_le, -Nat.not_lt, -Nat.add_left_cancel_iff, wrap_i64, wrap_u64, isI_cells hv, isI_one hv, isI_low hv, isI_noKey hv, farOff, isP_cells hw, isP_one hw, isP_low hw, isP_noKey hw, isP_low hu])
    refine cf_open rfl rfl (markContext_o (xs := xsOf v) (key := 20) (hx0.keep (by simp [hset, hm2])) (by simp [farOff]) (by decide) (by omega) fun m3 hx0' hm3' => ?_)
    have hm3 := fun x (a : x < 100000) b => hm3' x b (by simp [farOff]; omega)
    clear hm3'
    have hk0 : ¬ (1 + ((xsOf v).length : Int) < 0) := by omega
    repeat' (first | (apply br_intro <;> intro hb <;> (have hb2 := hb) <;> (try simp [-Int.not_le, -Int.not_lt, -Nat.not_le, -Nat.not_lt, -Nat.add_left_cancel_iff] at hb2)) | (refine draw_listA (by rfl) (by kernel_rfl) ?_) | (refine draw_listB (by simp [allocsOf, isAlloc]; rfl) (by kernel_rfl) ?_) | simp (maxSteps := 2000000) (disch := first | omega | assumption | simp [*]) [*, -Int.not_le, -Int.not_lt, -Nat.not_le, -Nat.not_lt, -Nat.add_left_cancel_iff, wrap_i64, wrap_u64, isI_cells hv, isI_one hv, isI_low hv, isI_noKey hv, farOff, isP_cells hw, isP_one hw, isP_low hw, isP_noKey hw, isP_low hu])
    refine cf_open rfl rfl (markConceptS_o (xs := xs) (ys := ys) (key := 22) (hg0.keep (by simp [hset, hm3])) hyl (by omega) (by omega) fun m5 hg0' hm5 => ?_)
    clear lg
    have hP1 : IsP (rowB 2 k0 (prs (mk2a 1 xs.length) (mk2b 1 xs.length))) := isP_rowB (by rw [mk2a_len]; exact hRt)
    have hf1 : fsts (rowB 2 k0 (prs (mk2a 1 xs.length) (mk2b 1 xs.length))) = mk2a 1 xs.length := fsts_rowB
    have hs1 : snds (rowB 2 k0 (prs (mk2a 1 xs.length) (mk2b 1 xs.length))) = mk2b 1 xs.length := snds_rowB (by rw [mk2a_len, mk2b_len])
    have hl1 : (mk2a 1 xs.length).length = xs.length := mk2a_len ..
    have hIl : 1 + 2 * (xs.length : Int) ≤ 4611686018427387904 := by omega
    have hIp : ¬ (1 + 2 * (xs.length : Int) < 0) := by omega
    have lg2 : ∀ h', h' 22 = m5 22 → low h' g0 = rowB 2 k0 (prs (mk2a 1 xs.length) (mk2b 1 xs.length)) := fun h' e => (hg0'.keep e).lowP
    repeat' (first | (apply br_intro <;> intro hb <;> (have hb2 := hb) <;> (try simp [-Int.not_le, -Int.not_lt, -Nat.not_le, -Nat.not_lt, -Nat.add_left_cancel_iff] at hb2)) | (refine draw_listA (by rfl) (by kernel_rfl) ?_) | (refine draw_listB (by simp [allocsOf, isAlloc]; rfl) (by kernel_rfl) ?_) | simp (maxSteps := 2000000) (disch := first | omega | assumption | simp [*]) [*, -Int.not_le, -Int.not_lt, -Nat.not_le, -Nat.not_lt, -Nat.add_left_cancel_iff, wrap_i64, wrap_u64, isI_cells hv, isI_one hv, isI_low hv, isI_noKey hv, farOff, isP_cells hw, isP_one hw, isP_low hw, isP_noKey hw, isP_low hu])
  · have hl9 : (1048576 : Int) < (xsOf v).length := by omega
    repeat' (first | (apply br_intro <;> intro hb <;> (have hb2 := hb) <;> (try simp [-Int.not_le, -Int.not_lt, -Nat.not_le, -Nat.not_lt, -Nat.add_left_cancel_iff] at hb2)) | (refine draw_listA (by rfl) (by kernel_rfl) ?_) | (refine draw_listB (by simp [allocsOf, isAlloc]; rfl) (by kernel_rfl) ?_) | simp (maxSteps := 2000000) (disch := first | omega | assumption | simp [*]) [*, -Int.not_le, -Int.not_lt, -Nat.not_le, -Nat.not_lt, -Nat.add_left_cancel_iff, wrap_i64, wrap_u64, Tryd.f14, isI_cells hv, isI_one hv, isI_low hv, isI_noKey hv])
theorem lawGreedyFactors_s {n : Int} {v : AV} (hv : IsI v) {K : AV → Prop} {tg : Tg K} : CW env 14 [.agg [.int .i64 n, v]] K tg ↔ K (.bool true) := callsTo_iff (lawGreedyFactors_c hv)
attribute [simp] lawGreedyFactors_s
end Go.Proofs.YthdeaenleimbeaaDoor
