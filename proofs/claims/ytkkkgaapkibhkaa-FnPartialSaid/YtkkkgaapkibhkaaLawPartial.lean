/- The great law of partial contexts. Conditions: none. -/
import Derived.Test.YtkkkgaapkibhkaaDraw2
import Derived.Test.YtkkkgaapkibhkaaPartL
import Derived.Test.YtkkkgaapkibhkaaCover
namespace Go.Proofs.Ytkkkgaapkibhkaa
open Ev
set_option linter.unusedVariables false
set_option linter.unusedSimpArgs false
set_option maxHeartbeats 4000000
set_option maxRecDepth 100000

theorem cw_to {E : Env} {f : Nat} {args : List AV} {P K : AV → Prop} {tg : Tg K} (h : CallsTo E f args P) (hK : ∀ r, P r → K r) : CW E f args K tg := by
  obtain ⟨r, h1, h2⟩ := h
  exact ⟨r, h1, hK r h2⟩
theorem big_c {b : AV} (hB : IsB b) : EvC env 29 [b] (.bool (decide (1048576 < bLen b))) := by
  refine evC_of (F := Try.f29) rfl rfl (Nat.le_of_ble_eq_true rfl) ?_
  repeat' (first | (apply br_intro <;> intro hb <;> (have hb2 := hb) <;> (try simp [-Int.not_le, -Int.not_lt, -Nat.not_le, -Nat.not_lt, -Nat.add_left_cancel_iff] at hb2)) | (refine draw_listA (by rfl) (by kernel_rfl) ?_) | (refine draw_listB (by simp [allocsOf, isAlloc]; rfl) (by kernel_rfl) ?_) | simp (maxSteps := 2000000) (disch := first | omega | assumption | simp [*]) [*, -Int.not_le, -Int.not_lt, -Nat.not_le, -Nat.not_lt, -Nat.add_left_cancel_iff, wrap_i64, wrap_u64, Try.f29, isB_len hB])
  all_goals first | omega | skip
theorem big_s {b : AV} (hB : IsB b) {K : AV → Prop} {tg : Tg K} : CW env 29 [b] K tg ↔ K (.bool (decide (1048576 < bLen b))) := callsTo_iff (big_c hB)
attribute [simp] big_s
theorem sameInts_c {u v : AV} (hu : IsI u) (hv : IsI v) : EvC env 106 [u, v] (.bool (decide (xsOf u = xsOf v))) := by
  refine evC_of (F := Try.f106) rfl rfl (Nat.le_of_ble_eq_true rfl) ?_
  have := hu.len
  have := hv.len
  by_cases hl : (xsOf u).length = (xsOf v).length
  · have hli : ((xsOf u).length : Int) = (xsOf v).length := by omega
    repeat' (first | (apply br_intro <;> intro hb <;> (have hb2 := hb) <;> (try simp [-Int.not_le, -Int.not_lt, -Nat.not_le, -Nat.not_lt, -Nat.add_left_cancel_iff] at hb2)) | (refine draw_listA (by rfl) (by kernel_rfl) ?_) | (refine draw_listB (by simp [allocsOf, isAlloc]; rfl) (by kernel_rfl) ?_) | simp (maxSteps := 2000000) (disch := first | omega | assumption | simp [*]) [*, -Int.not_le, -Int.not_lt, -Nat.not_le, -Nat.not_lt, -Nat.add_left_cancel_iff, wrap_i64, wrap_u64, Try.f106, isI_len hu, isI_len hv])
    refine W_loopP (xsOf u).length (fun i s => s 5 = .int .i64 i ∧ s 0 = u ∧ s 1 = v ∧ ∀ j, j < i → nth (xsOf u) j = nth (xsOf v) j) rfl ?_ ?_
    · simp
    rintro i s hi ⟨h3, h0, h1, hj⟩
    by_cases hi2 : i < (xsOf u).length
    · have hi3 : i < (xsOf v).length := by omega
      by_cases he : nth (xsOf u) i = nth (xsOf v) i
      · have hj2 : ∀ j, j < i + 1 → nth (xsOf u) j = nth (xsOf v) j := fun j hj9 => by
          by_cases e : j = i
          · subst e; exact he
          · exact hj j (by omega)
        clear hj
        repeat' (first | (apply br_intro <;> intro hb <;> (have hb2 := hb) <;> (try simp [-Int.not_le, -Int.not_lt, -Nat.not_le, -Nat.not_lt, -Nat.add_left_cancel_iff] at hb2)) | (refine draw_listA (by rfl) (by kernel_rfl) ?_) | (refine draw_listB (by simp [allocsOf, isAlloc]; rfl) (by kernel_rfl) ?_) | simp (maxSteps := 2000000) (disch := first | omega | assumption | simp [*]) [*, -Int.not_le, -Int.not_lt, -Nat.not_le, -Nat.not_lt, -Nat.add_left_cancel_iff, wrap_i64, wrap_u64, h3, h0, h1, isI_len hu, isI_len hv, isI_index hu, isI_index hv, isI_load hu, isI_load hv])
        exact hj2
      · have hne : ¬ xsOf u = xsOf v := fun e => he (by rw [e])
        clear hj
        repeat' (first | (apply br_intro <;> intro hb <;> (have hb2 := hb) <;> (try simp [-Int.not_le, -Int.not_lt, -Nat.not_le, -Nat.not_lt, -Nat.add_left_cancel_iff] at hb2)) | (refine draw_listA (by rfl) (by kernel_rfl) ?_) | (refine draw_listB (by simp [allocsOf, isAlloc]; rfl) (by kernel_rfl) ?_) | simp (maxSteps := 2000000) (disch := first | omega | assumption | simp [*]) [*, -Int.not_le, -Int.not_lt, -Nat.not_le, -Nat.not_lt, -Nat.add_left_cancel_iff, wrap_i64, wrap_u64, h3, h0, h1, isI_len hu, isI_len hv, isI_index hu, isI_index hv, isI_load hu, isI_load hv])
    · obtain rfl : i = (xsOf u).length := by omega
      have hyes : xsOf u = xsOf v := list_ext hl hj
      clear hj
      repeat' (first | (apply br_intro <;> intro hb <;> (have hb2 := hb) <;> (try simp [-Int.not_le, -Int.not_lt, -Nat.not_le, -Nat.not_lt, -Nat.add_left_cancel_iff] at hb2)) | (refine draw_listA (by rfl) (by kernel_rfl) ?_) | (refine draw_listB (by simp [allocsOf, isAlloc]; rfl) (by kernel_rfl) ?_) | simp (maxSteps := 2000000) (disch := first | omega | assumption | simp [*]) [*, -Int.not_le, -Int.not_lt, -Nat.not_le, -Nat.not_lt, -Nat.add_left_cancel_iff, wrap_i64, wrap_u64, h3, h0, h1, isI_len hu, isI_len hv])
  · have hne : ¬ xsOf u = xsOf v := fun e => hl (by rw [e])
    have hli : ¬ ((xsOf u).length : Int) = (xsOf v).length := by omega
    repeat' (first | (apply br_intro <;> intro hb <;> (have hb2 := hb) <;> (try simp [-Int.not_le, -Int.not_lt, -Nat.not_le, -Nat.not_lt, -Nat.add_left_cancel_iff] at hb2)) | (refine draw_listA (by rfl) (by kernel_rfl) ?_) | (refine draw_listB (by simp [allocsOf, isAlloc]; rfl) (by kernel_rfl) ?_) | simp (maxSteps := 2000000) (disch := first | omega | assumption | simp [*]) [*, -Int.not_le, -Int.not_lt, -Nat.not_le, -Nat.not_lt, -Nat.add_left_cancel_iff, wrap_i64, wrap_u64, Try.f106, isI_len hu, isI_len hv])
theorem sameInts_s {u v : AV} (hu : IsI u) (hv : IsI v) {K : AV → Prop} {tg : Tg K} : CW env 106 [u, v] K tg ↔ K (.bool (decide (xsOf u = xsOf v))) := callsTo_iff (sameInts_c hu hv)
attribute [simp] sameInts_s
theorem samePartial_c {m m2 : Int} {u v u2 v2 : AV} (hu : IsI u) (hv : IsI v) (hu2 : IsI u2) (hv2 : IsI v2) : EvC env 53 [.agg [.int .i64 m, u, v], .agg [.int .i64 m2, u2, v2]] (.bool (decide (m = m2) && decide (xsOf u = xsOf u2) && decide (xsOf v = xsOf v2))) := by
  refine evC_of (F := Try.f53) rfl rfl (Nat.le_of_ble_eq_true rfl) ?_
  repeat' (first | (apply br_intro <;> intro hb <;> (have hb2 := hb) <;> (try simp [-Int.not_le, -Int.not_lt, -Nat.not_le, -Nat.not_lt, -Nat.add_left_cancel_iff] at hb2)) | (refine draw_listA (by rfl) (by kernel_rfl) ?_) | (refine draw_listB (by simp [allocsOf, isAlloc]; rfl) (by kernel_rfl) ?_) | simp (maxSteps := 2000000) (disch := first | omega | assumption | simp [*]) [*, -Int.not_le, -Int.not_lt, -Nat.not_le, -Nat.not_lt, -Nat.add_left_cancel_iff, wrap_i64, wrap_u64, Try.f53, isI_cells hu, isI_one hu, isI_low hu, isI_cells hv, isI_one hv, isI_low hv, isI_cells hu2, isI_one hu2, isI_low hu2, isI_cells hv2, isI_one hv2, isI_low hv2])
theorem samePartial_s {m m2 : Int} {u v u2 v2 : AV} (hu : IsI u) (hv : IsI v) (hu2 : IsI u2) (hv2 : IsI v2) {K : AV → Prop} {tg : Tg K} : CW env 53 [.agg [.int .i64 m, u, v], .agg [.int .i64 m2, u2, v2]] K tg ↔ K (.bool (decide (m = m2) && decide (xsOf u = xsOf u2) && decide (xsOf v = xsOf v2))) := callsTo_iff (samePartial_c hu hv hu2 hv2)
attribute [simp] samePartial_s
/- the parts of results, in the caller -/
theorem compV_w (T : Nat) (n : Int) (ss ms : List Int) (k : Int) : ∃ w, noEx (compV T n ss ms k) = w ∧ IsI w ∧ xsOf w = compR n ss ms k := by
  have hl := compR_len n ss ms k
  refine ⟨_, compV_noEx, ?_⟩
  unfold compR at hl ⊢
  split
  · rename_i h
    rw [if_pos h] at hl
    exact ⟨isI_no (by unfold top63; omega), by simp⟩
  · exact ⟨by simp, by simp [xsOf]⟩
noncomputable def decA (n : Int) (ss ms : List Int) (g m : Int) (has : Bool) : List Int := if DecC n ss ms g m then decS ss g.toNat m.toNat has else []
noncomputable def decB (n : Int) (ss ms : List Int) (g m : Int) : List Int := if DecC n ss ms g m then decM ms g.toNat m.toNat else []
theorem decS_len8 {n : Int} {ss ms : List Int} {g m : Int} {has : Bool} (h : DecC n ss ms g m) : (decS ss g.toNat m.toNat has).length ≤ 8 := by
  have := h.1.1.2.2.1
  unfold decS
  split <;> simpa
theorem decM_len8 {n : Int} {ss ms : List Int} {g m : Int} (h : DecC n ss ms g m) : (decM ms g.toNat m.toNat).length ≤ 8 := by
  have := h.1.2.1.2.2.1
  unfold decM
  simpa
theorem decVS_w (T k0 key : Nat) (n : Int) (ss ms : List Int) (g m : Int) (has : Bool) : ∃ w, noEx (decVS T k0 key n ss ms g m has) = w ∧ IsI w ∧ xsOf w = decA n ss ms g m has := by
  refine ⟨_, rfl, ?_⟩
  unfold decVS decA
  split
  · rename_i h
    have := decS_len8 (has := has) h
    rw [rowX_noEx]
    exact ⟨isI_rowN (by unfold top63; omega), by simp⟩
  · exact ⟨by simp, by simp [xsOf]⟩
theorem decVM_w (T k0 key : Nat) (n : Int) (ss ms : List Int) (g m : Int) : ∃ w, noEx (decVM T k0 key n ss ms g m) = w ∧ IsI w ∧ xsOf w = decB n ss ms g m := by
  refine ⟨_, rfl, ?_⟩
  unfold decVM decB
  split
  · rename_i h
    have := decM_len8 h
    rw [rowX_noEx]
    exact ⟨isI_rowN (by unfold top63; omega), by simp⟩
  · exact ⟨by simp, by simp [xsOf]⟩
/-- a decided cell, as the law asks -/
theorem cell_law {n : Int} {ss ms : List Int} {a b : Int} {i m : Nat} (h : DecC n ss ms i m) :
    (CertC n ss ms a b ↔ CertC (decN n ss ms i m) (decA n ss ms i m true) (decB n ss ms i m) a b ∧ CertC (decN n ss ms i m) (decA n ss ms i m false) (decB n ss ms i m) a b) ∧
    (PossC n ss ms a b ↔ PossC (decN n ss ms i m) (decA n ss ms i m true) (decB n ss ms i m) a b ∨ PossC (decN n ss ms i m) (decA n ss ms i m false) (decB n ss ms i m) a b) := by
  have hp := h.1
  obtain ⟨N, rfl⟩ := part_nat hp
  have h1 := h.2.1
  have h2 := h.2.2.2
  rw [Int.toNat_natCast] at h2
  have e1 : decN N ss ms i m = N := if_pos h
  have e2 : ∀ has, decA N ss ms i m has = decS ss i m has := fun has => by unfold decA; rw [if_pos h]; simp
  have e3 : decB N ss ms i m = decM ms i m := by unfold decB; rw [if_pos h]; simp
  rw [e1, e2, e2, e3]
  exact ⟨dec_cert hp (by omega) h2, dec_poss hp (by omega) h2⟩
theorem lawPartial_c {b : AV} (hB : IsB b) (hbr : brwOf b = false) : EvC env 9 [b] (.bool true) := by
  refine evC_of (F := Try.f9) rfl rfl (Nat.le_of_ble_eq_true rfl) ?_
  have hcb := isB_cells hB
  have hob := isB_one hB
  by_cases hbig : 1048576 < bLen b
  · repeat' (first | (apply br_intro <;> intro hb <;> (have hb2 := hb) <;> (try simp [-Int.not_le, -Int.not_lt, -Nat.not_le, -Nat.not_lt, -Nat.add_left_cancel_iff] at hb2)) | (refine draw_listA (by rfl) (by kernel_rfl) ?_) | (refine draw_listB (by simp [allocsOf, isAlloc]; rfl) (by kernel_rfl) ?_) | simp (maxSteps := 2000000) (disch := first | omega | assumption | simp [*]) [*, -Int.not_le, -Int.not_lt, -Nat.not_le, -Nat.not_lt, -Nat.add_left_cancel_iff, wrap_i64, wrap_u64, Try.f9, isB_low hB])
  · have hl : bLen b ≤ 1073741824 := by omega
    repeat' (first | (apply br_intro <;> intro hb <;> (have hb2 := hb) <;> (try simp [-Int.not_le, -Int.not_lt, -Nat.not_le, -Nat.not_lt, -Nat.add_left_cancel_iff] at hb2)) | (refine draw_listA (by rfl) (by kernel_rfl) ?_) | (refine draw_listB (by simp [allocsOf, isAlloc]; rfl) (by kernel_rfl) ?_) | simp (maxSteps := 2000000) (disch := first | omega | assumption | simp [*]) [*, -Int.not_le, -Int.not_lt, -Nat.not_le, -Nat.not_lt, -Nat.add_left_cancel_iff, wrap_i64, wrap_u64, Try.f9, isB_low hB])
    refine cw_to (drawIsCertain_t hB hbr hl) ?_
    rintro r ⟨n, u, v, xs, hr, hu, hv, hul, hvl, ra, rc, rfl⟩
    have ou := isI_one hu
    have cu := isI_cells hu
    have ov := isI_one hv
    have cv := isI_cells hv
    obtain ⟨A, hA⟩ : ∃ A, decide (CertC n (xsOf u) (xsOf v) ra rc) = A := ⟨_, rfl⟩
    obtain ⟨B, hBB⟩ : ∃ B, decide (PossC n (xsOf u) (xsOf v) ra rc) = B := ⟨_, rfl⟩
    have hAB : A = true → B = true := fun h => by rw [← hA] at h; rw [← hBB]; exact decide_eq_true (cert_poss (of_decide_eq_true h))
    have hone : (if PPart n (xsOf u) (xsOf v) then 2 ^ opens (xsOf v) else 0 : Int) = 1 → A = B := fun h1 => by
      by_cases hp : PPart n (xsOf u) (xsOf v)
      · rw [if_pos hp] at h1
        have h2 : opens (xsOf v) = 0 := by
          apply Classical.byContradiction
          intro h3
          have h4 : (2 : Int) ^ 1 ≤ 2 ^ opens (xsOf v) := two_pow_le (by omega)
          omega
        have h5 := cert_one (a := ra) (b := rc) hp h2
        rw [← hA, ← hBB, Bool.eq_iff_iff, decide_eq_true_eq, decide_eq_true_eq]; exact h5
      · rw [if_neg hp] at h1; omega
    have hcell : ∀ i m : Nat, DecC n (xsOf u) (xsOf v) i m → (A = (decide (CertC (decN n (xsOf u) (xsOf v) i m) (decA n (xsOf u) (xsOf v) i m true) (decB n (xsOf u) (xsOf v) i m) ra rc) && decide (CertC (decN n (xsOf u) (xsOf v) i m) (decA n (xsOf u) (xsOf v) i m false) (decB n (xsOf u) (xsOf v) i m) ra rc))) ∧
        (B = (decide (PossC (decN n (xsOf u) (xsOf v) i m) (decA n (xsOf u) (xsOf v) i m true) (decB n (xsOf u) (xsOf v) i m) ra rc) || decide (PossC (decN n (xsOf u) (xsOf v) i m) (decA n (xsOf u) (xsOf v) i m false) (decB n (xsOf u) (xsOf v) i m) ra rc))) := fun i m h => by
      obtain ⟨h1, h2⟩ := cell_law (a := ra) (b := rc) h
      refine ⟨?_, ?_⟩
      · rw [← hA, Bool.eq_iff_iff, Bool.and_eq_true, decide_eq_true_eq, decide_eq_true_eq, decide_eq_true_eq]; exact h1
      · rw [← hBB, Bool.eq_iff_iff, Bool.or_eq_true, decide_eq_true_eq, decide_eq_true_eq, decide_eq_true_eq]; exact h2
    have hi1 : ∀ (K : AV → Prop) (tg : Tg K), CW env 40 [.agg [.int .i64 n, u, v], .agg [.int .i64 ra, .int .i64 rc]] K tg ↔ K (.bool A) := fun K tg => callsTo_iff (by rw [← hA]; exact iIsCertain_c hu hv)
    have hi2 : ∀ (K : AV → Prop) (tg : Tg K), CW env 41 [.agg [.int .i64 n, u, v], .agg [.int .i64 ra, .int .i64 rc]] K tg ↔ K (.bool B) := fun K tg => callsTo_iff (by rw [← hBB]; exact iIsPossible_c hu hv)
    have hs1 : ∀ (K : AV → Prop) (tg : Tg K), CW env 49 [.agg [.int .i64 n, u, v], .agg [.int .i64 ra, .int .i64 rc]] K tg ↔ K (.bool A) := fun K tg => callsTo_iff (by rw [← hA]; exact sIsCertain_c hu hv)
    have hs2 : ∀ (K : AV → Prop) (tg : Tg K), CW env 50 [.agg [.int .i64 n, u, v], .agg [.int .i64 ra, .int .i64 rc]] K tg ↔ K (.bool B) := fun K tg => callsTo_iff (by rw [← hBB]; exact sIsPossible_c hu hv)
    clear hA hBB
    cases hAv : A <;> cases hBv : B
    case true.false => exact absurd (hAB hAv) (by rw [hBv]; decide)
    all_goals
      clear hAB
      repeat' (first | (apply br_intro <;> intro hb <;> (have hb2 := hb) <;> (try simp [-Int.not_le, -Int.not_lt, -Nat.not_le, -Nat.not_lt, -Nat.add_left_cancel_iff] at hb2)) | (refine draw_listA (by rfl) (by kernel_rfl) ?_) | (refine draw_listB (by simp [allocsOf, isAlloc]; rfl) (by kernel_rfl) ?_) | simp (maxSteps := 2000000) (disch := first | omega | assumption | simp [*]) [*, -Int.not_le, -Int.not_lt, -Nat.not_le, -Nat.not_lt, -Nat.add_left_cancel_iff, wrap_i64, wrap_u64, isB_low hB, isI_cells hu, isI_one hu, isI_low hu, isI_cells hv, isI_one hv, isI_low hv])
      refine cw_to (drawCompletionAt_t hB hbr hl) ?_
      rintro r2 ⟨n2, u2, v2, xs, hr2, hu2, hv2, hul2, hvl2, k, rfl, hk1, hk2⟩
      obtain ⟨w1, hw1, iw1, xw1⟩ := compV_w 3 n2 (xsOf u2) (xsOf v2) k
      obtain ⟨w2, hw2⟩ : ∃ w2, bufC 0 (compR n2 (xsOf u2) (xsOf v2) k) = w2 := ⟨_, rfl⟩
      have iw2 : IsI w2 := by rw [← hw2]; exact isI_bufC (by have := compR_len n2 (xsOf u2) (xsOf v2) k; unfold top63; omega)
      have xw2 : xsOf w2 = compR n2 (xsOf u2) (xsOf v2) k := by rw [← hw2]; simp
      have ou2 := isI_one hu2
      have cu2 := isI_cells hu2
      have ov2 := isI_one hv2
      have cv2 := isI_cells hv2
      have ow1 := isI_one iw1
      have cw1 := isI_cells iw1
      have ow2 := isI_one iw2
      have cw2 := isI_cells iw2
      clear hr
      repeat' (first | (apply br_intro <;> intro hb <;> (have hb2 := hb) <;> (try simp [-Int.not_le, -Int.not_lt, -Nat.not_le, -Nat.not_lt, -Nat.add_left_cancel_iff] at hb2)) | (refine draw_listA (by rfl) (by kernel_rfl) ?_) | (refine draw_listB (by simp [allocsOf, isAlloc]; rfl) (by kernel_rfl) ?_) | simp (maxSteps := 2000000) (disch := first | omega | assumption | simp [*]) [*, -Int.not_le, -Int.not_lt, -Nat.not_le, -Nat.not_lt, -Nat.add_left_cancel_iff, wrap_i64, wrap_u64, isB_low hB, isI_cells hu2, isI_one hu2, isI_low hu2, isI_cells hv2, isI_one hv2, isI_low hv2, isI_cells iw1, isI_one iw1, isI_low iw1, isI_cells iw2, isI_one iw2, isI_low iw2])
      refine cw_to (drawCertainClosure_t hB hbr hl) ?_
      rintro r3 ⟨n3, u3, v3, xs, hr3, hu3, hv3, hul3, hvl3, sc, rfl⟩
      have ou3 := isI_one hu3
      have cu3 := isI_cells hu3
      have ov3 := isI_one hv3
      have cv3 := isI_cells hv3
      clear hr2
      repeat' (first | (apply br_intro <;> intro hb <;> (have hb2 := hb) <;> (try simp [-Int.not_le, -Int.not_lt, -Nat.not_le, -Nat.not_lt, -Nat.add_left_cancel_iff] at hb2)) | (refine draw_listA (by rfl) (by kernel_rfl) ?_) | (refine draw_listB (by simp [allocsOf, isAlloc]; rfl) (by kernel_rfl) ?_) | simp (maxSteps := 2000000) (disch := first | omega | assumption | simp [*]) [*, -Int.not_le, -Int.not_lt, -Nat.not_le, -Nat.not_lt, -Nat.add_left_cancel_iff, wrap_i64, wrap_u64, isB_low hB, isI_cells hu3, isI_one hu3, isI_low hu3, isI_cells hv3, isI_one hv3, isI_low hv3])
      refine cw_to (drawDecideCell_t hB hbr hl) ?_
      rintro r4 ⟨n4, u4, v4, xs, hr4, hu4, hv4, hul4, hvl4, dg, dm, dh, rfl⟩
      have ou4 := isI_one hu4
      have cu4 := isI_cells hu4
      have ov4 := isI_one hv4
      have cv4 := isI_cells hv4
      obtain ⟨p1, hp1, ip1, xp1⟩ := decVS_w 3 1 38 n4 (xsOf u4) (xsOf v4) dg dm dh
      obtain ⟨p2, hp2, ip2, xp2⟩ := decVM_w 3 1 41 n4 (xsOf u4) (xsOf v4) dg dm
      obtain ⟨q1, hq1, iq1, xq1⟩ := decVS_w 3 1 39 n4 (xsOf u4) (xsOf v4) dg dm dh
      obtain ⟨q2, hq2, iq2, xq2⟩ := decVM_w 3 1 43 n4 (xsOf u4) (xsOf v4) dg dm
      have op1 := isI_one ip1
      have cp1 := isI_cells ip1
      have op2 := isI_one ip2
      have cp2 := isI_cells ip2
      have oq1 := isI_one iq1
      have cq1 := isI_cells iq1
      have oq2 := isI_one iq2
      have cq2 := isI_cells iq2
      clear hr3
      repeat' (first | (apply br_intro <;> intro hb <;> (have hb2 := hb) <;> (try simp [-Int.not_le, -Int.not_lt, -Nat.not_le, -Nat.not_lt, -Nat.add_left_cancel_iff] at hb2)) | (refine draw_listA (by rfl) (by kernel_rfl) ?_) | (refine draw_listB (by simp [allocsOf, isAlloc]; rfl) (by kernel_rfl) ?_) | simp (maxSteps := 2000000) (disch := first | omega | assumption | simp [*]) [*, -Int.not_le, -Int.not_lt, -Nat.not_le, -Nat.not_lt, -Nat.add_left_cancel_iff, wrap_i64, wrap_u64, isB_low hB, isI_low hu, isI_low hv, isI_low hu2, isI_low hv2, isI_low hu3, isI_low hv3, isI_low hu4, isI_low hv4, isI_low iw1, isI_low iw2, isI_low ip1, isI_low ip2, isI_low iq1, isI_low iq2])
      clear hi1 hi2 hs1 hs2 hw1 hw2 hp1 hp2 hq1 hq2 xw1 xw2 xp1 xp2 xq1 xq2 iw1 iw2 ip1 ip2 iq1 iq2 ow1 ow2 op1 op2 oq1 oq2 cw1 cw2 cp1 cp2 cq1 cq2 hu2 hv2 hu3 hv3 hu4 hv4 ou2 ov2 ou3 ov3 ou4 ov4 cu2 cv2 cu3 cv3 cu4 cv4 hul2 hvl2 hul3 hvl3 hul4 hvl4 hr4
      by_cases hp : PPart n (xsOf u) (xsOf v)
      · obtain ⟨N, rfl⟩ := part_nat hp
        have hN6 : N ≤ 6 := by have := hp.1.2.1; omega
        have hvle : (xsOf v).length ≤ 8 := hp.2.1.2.2.1
        refine W_loopG (xsOf v).length (fun i s h => s 23 = .int .i64 i ∧ s 3 = .vp 3 0 0 ∧ s 4 = .vp 4 0 0 ∧ s 5 = .bool A ∧ s 6 = .bool B ∧ h 3 = some (.var 0 55 (.agg [.int .i64 N, u, v])) ∧ h 4 = some (.var 0 53 (.agg [.int .i64 ra, .int .i64 rc]))) ?_ ?_
        · simp [*, hset]
        rintro i s h hi ⟨h23, h3, h4, h5, h6, e3, e4⟩
        by_cases hi2 : i < (xsOf v).length
        · have hii : (i : Int) < (xsOf v).length := by omega
          repeat' (first | (apply br_intro <;> intro hb <;> (have hb2 := hb) <;> (try simp [-Int.not_le, -Int.not_lt, -Nat.not_le, -Nat.not_lt, -Nat.add_left_cancel_iff] at hb2)) | (refine draw_listA (by rfl) (by kernel_rfl) ?_) | (refine draw_listB (by simp [allocsOf, isAlloc]; rfl) (by kernel_rfl) ?_) | simp (maxSteps := 2000000) (disch := first | omega | assumption | simp [*]) [*, -Int.not_le, -Int.not_lt, -Nat.not_le, -Nat.not_lt, -Nat.add_left_cancel_iff, wrap_i64, wrap_u64, h23, h3, h4, h5, h6, e3, e4, isI_low hu, isI_low hv, isI_len hv])
          refine W_loopG N (fun m s h => s 24 = .int .i64 m ∧ s 23 = .int .i64 i ∧ s 3 = .vp 3 0 0 ∧ s 4 = .vp 4 0 0 ∧ s 5 = .bool A ∧ s 6 = .bool B ∧ h 3 = some (.var 0 55 (.agg [.int .i64 N, u, v])) ∧ h 4 = some (.var 0 53 (.agg [.int .i64 ra, .int .i64 rc]))) ?_ ?_
          · simp [*, hset]
          clear h23 h3 h4 h5 h6 e3 e4
          rintro m s h hm ⟨h24, h23, h3, h4, h5, h6, e3, e4⟩
          by_cases hm2 : m < N
          · obtain ⟨p1, hp1, ip1, xp1⟩ := decVS_w 3 1 38 N (xsOf u) (xsOf v) i m true
            obtain ⟨p2, hp2, ip2, xp2⟩ := decVM_w 3 1 41 N (xsOf u) (xsOf v) i m
            obtain ⟨q1, hq1, iq1, xq1⟩ := decVS_w 3 1 38 N (xsOf u) (xsOf v) i m false
            have op1 := isI_one ip1
            have cp1 := isI_cells ip1
            have op2 := isI_one ip2
            have cp2 := isI_cells ip2
            have oq1 := isI_one iq1
            have cq1 := isI_cells iq1
            have hcl := hcell i m
            obtain ⟨c1, hc1⟩ : ∃ c1, decide (CertC (decN N (xsOf u) (xsOf v) i m) (decA N (xsOf u) (xsOf v) i m true) (decB N (xsOf u) (xsOf v) i m) ra rc) = c1 := ⟨_, rfl⟩
            obtain ⟨c2, hc2⟩ : ∃ c2, decide (CertC (decN N (xsOf u) (xsOf v) i m) (decA N (xsOf u) (xsOf v) i m false) (decB N (xsOf u) (xsOf v) i m) ra rc) = c2 := ⟨_, rfl⟩
            obtain ⟨d1, hd1⟩ : ∃ d1, decide (PossC (decN N (xsOf u) (xsOf v) i m) (decA N (xsOf u) (xsOf v) i m true) (decB N (xsOf u) (xsOf v) i m) ra rc) = d1 := ⟨_, rfl⟩
            obtain ⟨d2, hd2⟩ : ∃ d2, decide (PossC (decN N (xsOf u) (xsOf v) i m) (decA N (xsOf u) (xsOf v) i m false) (decB N (xsOf u) (xsOf v) i m) ra rc) = d2 := ⟨_, rfl⟩
            rw [hc1, hc2, hd1, hd2] at hcl
            have k1 : ∀ (K : AV → Prop) (tg : Tg K), CW env 40 [.agg [.int .i64 (decN N (xsOf u) (xsOf v) i m), p1, p2], .agg [.int .i64 ra, .int .i64 rc]] K tg ↔ K (.bool c1) := fun K tg => callsTo_iff (by rw [← hc1, ← xp1, ← xp2]; exact iIsCertain_c ip1 ip2)
            have k2 : ∀ (K : AV → Prop) (tg : Tg K), CW env 40 [.agg [.int .i64 (decN N (xsOf u) (xsOf v) i m), q1, p2], .agg [.int .i64 ra, .int .i64 rc]] K tg ↔ K (.bool c2) := fun K tg => callsTo_iff (by rw [← hc2, ← xq1, ← xp2]; exact iIsCertain_c iq1 ip2)
            have k3 : ∀ (K : AV → Prop) (tg : Tg K), CW env 41 [.agg [.int .i64 (decN N (xsOf u) (xsOf v) i m), p1, p2], .agg [.int .i64 ra, .int .i64 rc]] K tg ↔ K (.bool d1) := fun K tg => callsTo_iff (by rw [← hd1, ← xp1, ← xp2]; exact iIsPossible_c ip1 ip2)
            have k4 : ∀ (K : AV → Prop) (tg : Tg K), CW env 41 [.agg [.int .i64 (decN N (xsOf u) (xsOf v) i m), q1, p2], .agg [.int .i64 ra, .int .i64 rc]] K tg ↔ K (.bool d2) := fun K tg => callsTo_iff (by rw [← hd2, ← xq1, ← xp2]; exact iIsPossible_c iq1 ip2)
            clear hc1 hc2 hd1 hd2 hcell hone xp1 xp2 xq1
            by_cases hD : DecC N (xsOf u) (xsOf v) i m
            · obtain ⟨g1, g2⟩ := hcl hD
              clear hcl
              cases c1 <;> cases c2 <;> cases d1 <;> cases d2 <;> first
                | (exfalso; rw [hAv] at g1; cases g1; done)
                | (exfalso; rw [hBv] at g2; cases g2; done)
                | skip
              all_goals
                clear g1 g2
                repeat' (first | (apply br_intro <;> intro hb <;> (have hb2 := hb) <;> (try simp [-Int.not_le, -Int.not_lt, -Nat.not_le, -Nat.not_lt, -Nat.add_left_cancel_iff] at hb2)) | (refine draw_listA (by rfl) (by kernel_rfl) ?_) | (refine draw_listB (by simp [allocsOf, isAlloc]; rfl) (by kernel_rfl) ?_) | simp (maxSteps := 2000000) (disch := first | omega | assumption | simp [*]) [*, -Int.not_le, -Int.not_lt, -Nat.not_le, -Nat.not_lt, -Nat.add_left_cancel_iff, wrap_i64, wrap_u64, h24, h23, h3, h4, h5, h6, e3, e4, isI_low hu, isI_low hv, isI_low ip1, isI_low ip2, isI_low iq1])
                first | exact ⟨by simp [hset, e3], by simp [hset, e4]⟩ | simp [hset, e3, e4] | skip
            · clear hcl
              repeat' (first | (apply br_intro <;> intro hb <;> (have hb2 := hb) <;> (try simp [-Int.not_le, -Int.not_lt, -Nat.not_le, -Nat.not_lt, -Nat.add_left_cancel_iff] at hb2)) | (refine draw_listA (by rfl) (by kernel_rfl) ?_) | (refine draw_listB (by simp [allocsOf, isAlloc]; rfl) (by kernel_rfl) ?_) | simp (maxSteps := 2000000) (disch := first | omega | assumption | simp [*]) [*, -Int.not_le, -Int.not_lt, -Nat.not_le, -Nat.not_lt, -Nat.add_left_cancel_iff, wrap_i64, wrap_u64, h24, h23, h3, h4, h5, h6, e3, e4, isI_low hu, isI_low hv, isI_low ip1, isI_low ip2, isI_low iq1])
              first | exact ⟨by simp [hset, e3], by simp [hset, e4]⟩ | simp [hset, e3, e4] | skip
          · obtain rfl : m = N := by omega
            repeat' (first | (apply br_intro <;> intro hb <;> (have hb2 := hb) <;> (try simp [-Int.not_le, -Int.not_lt, -Nat.not_le, -Nat.not_lt, -Nat.add_left_cancel_iff] at hb2)) | (refine draw_listA (by rfl) (by kernel_rfl) ?_) | (refine draw_listB (by simp [allocsOf, isAlloc]; rfl) (by kernel_rfl) ?_) | simp (maxSteps := 2000000) (disch := first | omega | assumption | simp [*]) [*, -Int.not_le, -Int.not_lt, -Nat.not_le, -Nat.not_lt, -Nat.add_left_cancel_iff, wrap_i64, wrap_u64, h24, h23, h3, h4, h5, h6, e3, e4, isI_low hu, isI_low hv, isI_len hv])
        · obtain rfl : i = (xsOf v).length := by omega
          clear hcell
          repeat' (first | (apply br_intro <;> intro hb <;> (have hb2 := hb) <;> (try simp [-Int.not_le, -Int.not_lt, -Nat.not_le, -Nat.not_lt, -Nat.add_left_cancel_iff] at hb2)) | (refine draw_listA (by rfl) (by kernel_rfl) ?_) | (refine draw_listB (by simp [allocsOf, isAlloc]; rfl) (by kernel_rfl) ?_) | simp (maxSteps := 2000000) (disch := first | omega | assumption | simp [*]) [*, -Int.not_le, -Int.not_lt, -Nat.not_le, -Nat.not_lt, -Nat.add_left_cancel_iff, wrap_i64, wrap_u64, h23, h3, h4, h5, h6, e3, e4, isI_low hu, isI_low hv, isI_len hv])
          all_goals
            have h9 := hone (by rw [if_pos hp]; assumption)
            rw [hAv, hBv] at h9
            cases h9
      · refine W_loopG 0 (fun i s h => s 23 = .int .i64 0 ∧ s 3 = .vp 3 0 0 ∧ h 3 = some (.var 0 55 (.agg [.int .i64 n, u, v]))) ?_ ?_
        · simp [*, hset]
        rintro i s h hi ⟨h23, h3, e3⟩
        clear hcell
        by_cases hv0 : 0 < (xsOf v).length
        · repeat' (first | (apply br_intro <;> intro hb <;> (have hb2 := hb) <;> (try simp [-Int.not_le, -Int.not_lt, -Nat.not_le, -Nat.not_lt, -Nat.add_left_cancel_iff] at hb2)) | (refine draw_listA (by rfl) (by kernel_rfl) ?_) | (refine draw_listB (by simp [allocsOf, isAlloc]; rfl) (by kernel_rfl) ?_) | simp (maxSteps := 2000000) (disch := first | omega | assumption | simp [*]) [*, -Int.not_le, -Int.not_lt, -Nat.not_le, -Nat.not_lt, -Nat.add_left_cancel_iff, wrap_i64, wrap_u64, h23, h3, e3, isI_low hu, isI_low hv, isI_len hv])
        · repeat' (first | (apply br_intro <;> intro hb <;> (have hb2 := hb) <;> (try simp [-Int.not_le, -Int.not_lt, -Nat.not_le, -Nat.not_lt, -Nat.add_left_cancel_iff] at hb2)) | (refine draw_listA (by rfl) (by kernel_rfl) ?_) | (refine draw_listB (by simp [allocsOf, isAlloc]; rfl) (by kernel_rfl) ?_) | simp (maxSteps := 2000000) (disch := first | omega | assumption | simp [*]) [*, -Int.not_le, -Int.not_lt, -Nat.not_le, -Nat.not_lt, -Nat.add_left_cancel_iff, wrap_i64, wrap_u64, h23, h3, e3, isI_low hu, isI_low hv, isI_len hv])
theorem lawPartial_s {b : AV} (hB : IsB b) (hbr : brwOf b = false) {K : AV → Prop} {tg : Tg K} : CW env 9 [b] K tg ↔ K (.bool true) := callsTo_iff (lawPartial_c hB hbr)
attribute [simp] lawPartial_s
end Go.Proofs.Ytkkkgaapkibhkaa
