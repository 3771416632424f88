/- Frequent intents: both sides. Conditions: none. -/
import Derived.Test.YtkkkgaapkibhkaaGreatDoorChain
namespace Go.Proofs.YtkkkgaapkibhkaaGreatDoor
open Ev
set_option linter.unusedVariables false
set_option linter.unusedSimpArgs false
set_option maxHeartbeats 4000000

def freqTo (F S : List Int) (least : Int) : Nat → List Int
  | 0 => []
  | k + 1 => freqTo F S least k ++ if least ≤ (elemsTo (nth F k) 8).length then [nth S k] else []
theorem freqTo_len (F S : List Int) (least : Int) (k : Nat) : (freqTo F S least k).length ≤ k := by
  induction k with
  | zero => simp [freqTo]
  | succ k ih => simp only [freqTo, List.length_append]; split <;> simp <;> omega
noncomputable def freqL (n : Int) (xs : List Int) (least : Int) : List Int := freqTo (fsts (conW n xs)) (snds (conW n xs)) least (conL n xs).length
theorem freqL_len (n : Int) (xs : List Int) (least : Int) : (freqL n xs least).length ≤ 64 := Nat.le_trans (freqTo_len _ _ _ _) (conL_len _ _)
theorem sFrequentIntents_c {n least : Int} {v : AV} (hv : IsI v) : EvC env 100 [.agg [.int .i64 n, v], .int .i64 least] (bufR 3 32 1 (freqL n (xsOf v) least)) := by
  refine evC_of (F := Tryz.f100) rfl rfl (Nat.le_of_ble_eq_true rfl) ?_
  have hP := conW_P n (xsOf v)
  have hw := sCon_noEx n (xsOf v) 102
  have hfl := conW_len n (xsOf v)
  have hL := conL_len n (xsOf v)
  unfold freqL
  rw [← hfl] at hL ⊢
  obtain ⟨w, hww⟩ : ∃ w, conW n (xsOf v) = w := ⟨_, rfl⟩
  rw [hww] at hP hw hL
  rw [hww]
  clear hww hfl
  have hpl : (fsts w).length ≤ 64 := hL
  repeat' (first | (apply br_intro <;> intro hb <;> (have hb2 := hb) <;> (try simp [-Int.not_le, -Int.not_lt, -Nat.not_le, -Nat.not_lt, -Nat.add_left_cancel_iff] at hb2)) | (refine draw_listA (by rfl) (by kernel_rfl) ?_) | (refine draw_listB (by simp [allocsOf, isAlloc]; rfl) (by kernel_rfl) ?_) | simp (maxSteps := 2000000) (disch := first | omega | assumption | simp [*]) [*, -Int.not_le, -Int.not_lt, -Nat.not_le, -Nat.not_lt, -Nat.add_left_cancel_iff, wrap_i64, wrap_u64, Tryz.f100, isI_cells hv, isI_one hv, isI_low hv, isI_len hv, isP_len hP])
  refine W_loopG (fsts w).length (fun k s h => s 7 = .int .i64 k ∧ s 6 = w ∧ s 1 = .int .i64 least ∧ Buf h 3 32 1 (s 5) (freqTo (fsts w) (snds w) least k)) ?_ ?_
  · simp [*, freqTo]
    exact buf_nil ..
  rintro k s h hk ⟨h7, h6, h1, hB⟩
  have hsl := freqTo_len (fsts w) (snds w) least k
  by_cases hk2 : k < (fsts w).length
  · have hsu : freqTo (fsts w) (snds w) least (k + 1) = freqTo (fsts w) (snds w) least k ++ if least ≤ (elemsTo (nth (fsts w) k) 8).length then [nth (snds w) k] else [] := rfl
    by_cases hc : least ≤ ((elemsTo (nth (fsts w) k) 8).length : Int)
    · rw [if_pos hc] at hsu
      repeat' (first | (apply br_intro <;> intro hb <;> (have hb2 := hb) <;> (try simp [-Int.not_le, -Int.not_lt, -Nat.not_le, -Nat.not_lt, -Nat.add_left_cancel_iff] at hb2)) | (refine draw_listA (by rfl) (by kernel_rfl) ?_) | (refine draw_listB (by simp [allocsOf, isAlloc]; rfl) (by kernel_rfl) ?_) | simp (maxSteps := 2000000) (disch := first | omega | assumption | simp [*]) [*, -Int.not_le, -Int.not_lt, -Nat.not_le, -Nat.not_lt, -Nat.add_left_cancel_iff, wrap_i64, wrap_u64, h7, h6, h1, isP_len hP, isP_index hP, isP_low hP, isP_noKey hP])
      refine wa_push hB (by simp) (by simp) (by omega) ?_
      intro v2 h2' hB2 hk2'
      rw [← hsu] at hB2
      clear hsu hk2'
      repeat' (first | (apply br_intro <;> intro hb <;> (have hb2 := hb) <;> (try simp [-Int.not_le, -Int.not_lt, -Nat.not_le, -Nat.not_lt, -Nat.add_left_cancel_iff] at hb2)) | (refine draw_listA (by rfl) (by kernel_rfl) ?_) | (refine draw_listB (by simp [allocsOf, isAlloc]; rfl) (by kernel_rfl) ?_) | simp (maxSteps := 2000000) (disch := first | omega | assumption | simp [*]) [*, -Int.not_le, -Int.not_lt, -Nat.not_le, -Nat.not_lt, -Nat.add_left_cancel_iff, wrap_i64, wrap_u64, h7, h6, h1, isP_len hP])
      exact hB2
    · rw [if_neg hc, List.append_nil] at hsu
      rw [← hsu] at hB
      clear hsu
      repeat' (first | (apply br_intro <;> intro hb <;> (have hb2 := hb) <;> (try simp [-Int.not_le, -Int.not_lt, -Nat.not_le, -Nat.not_lt, -Nat.add_left_cancel_iff] at hb2)) | (refine draw_listA (by rfl) (by kernel_rfl) ?_) | (refine draw_listB (by simp [allocsOf, isAlloc]; rfl) (by kernel_rfl) ?_) | simp (maxSteps := 2000000) (disch := first | omega | assumption | simp [*]) [*, -Int.not_le, -Int.not_lt, -Nat.not_le, -Nat.not_lt, -Nat.add_left_cancel_iff, wrap_i64, wrap_u64, h7, h6, h1, isP_len hP, isP_index hP, isP_low hP, isP_noKey hP])
  · obtain rfl : k = (fsts w).length := by omega
    repeat' (first | (apply br_intro <;> intro hb <;> (have hb2 := hb) <;> (try simp [-Int.not_le, -Int.not_lt, -Nat.not_le, -Nat.not_lt, -Nat.add_left_cancel_iff] at hb2)) | (refine draw_listA (by rfl) (by kernel_rfl) ?_) | (refine draw_listB (by simp [allocsOf, isAlloc]; rfl) (by kernel_rfl) ?_) | simp (maxSteps := 2000000) (disch := first | omega | assumption | simp [*]) [*, -Int.not_le, -Int.not_lt, -Nat.not_le, -Nat.not_lt, -Nat.add_left_cancel_iff, wrap_i64, wrap_u64, h7, h6, h1, isP_len hP, isP_low hP])
    exact hB.expo
theorem sFrequentIntents_s {n least : Int} {v : AV} (hv : IsI v) {K : AV → Prop} {tg : Tg K} : CW env 100 [.agg [.int .i64 n, v], .int .i64 least] K tg ↔ K (bufR 3 32 1 (freqL n (xsOf v) least)) := callsTo_iff (sFrequentIntents_c hv)
attribute [simp] sFrequentIntents_s
theorem iFrequentIntents_c {n least : Int} {v : AV} (hv : IsI v) : EvC env 99 [.agg [.int .i64 n, v], .int .i64 least] (bufR 3 25 1 (freqL n (xsOf v) least)) := by
  refine evC_of (F := Tryz.f99) rfl rfl (Nat.le_of_ble_eq_true rfl) ?_
  have hP := conW2_P n (xsOf v)
  have hw := iCon_noEx n (xsOf v) 102
  have hfl := conW_len n (xsOf v)
  have hL := conL_len n (xsOf v)
  unfold freqL
  rw [← conW2_fsts] at hfl ⊢
  rw [← conW2_snds]
  rw [← hfl] at hL ⊢
  obtain ⟨w, hww⟩ : ∃ w, conW2 n (xsOf v) = w := ⟨_, rfl⟩
  rw [hww] at hP hw hL
  rw [hww]
  clear hww hfl
  have hpl : (fsts w).length ≤ 64 := hL
  repeat' (first | (apply br_intro <;> intro hb <;> (have hb2 := hb) <;> (try simp [-Int.not_le, -Int.not_lt, -Nat.not_le, -Nat.not_lt, -Nat.add_left_cancel_iff] at hb2)) | (refine draw_listA (by rfl) (by kernel_rfl) ?_) | (refine draw_listB (by simp [allocsOf, isAlloc]; rfl) (by kernel_rfl) ?_) | simp (maxSteps := 2000000) (disch := first | omega | assumption | simp [*]) [*, -Int.not_le, -Int.not_lt, -Nat.not_le, -Nat.not_lt, -Nat.add_left_cancel_iff, wrap_i64, wrap_u64, Tryz.f99, isI_cells hv, isI_one hv, isI_low hv, isI_len hv, isP_len hP])
  refine W_loopG (fsts w).length (fun k s h => s 12 = .int .i64 k ∧ s 11 = .int .i64 (fsts w).length ∧ s 10 = w ∧ s 1 = .int .i64 least ∧ Buf h 3 25 1 (s 5) (freqTo (fsts w) (snds w) least k)) ?_ ?_
  · simp [*, freqTo]
    exact buf_nil ..
  rintro k s h hk ⟨h12, h11, h10, h1, hB⟩
  have hsl := freqTo_len (fsts w) (snds w) least k
  by_cases hk2 : k < (fsts w).length
  · have hsu : freqTo (fsts w) (snds w) least (k + 1) = freqTo (fsts w) (snds w) least k ++ if least ≤ (elemsTo (nth (fsts w) k) 8).length then [nth (snds w) k] else [] := rfl
    by_cases hc : least ≤ ((elemsTo (nth (fsts w) k) 8).length : Int)
    · rw [if_pos hc] at hsu
      repeat' (first | (apply br_intro <;> intro hb <;> (have hb2 := hb) <;> (try simp [-Int.not_le, -Int.not_lt, -Nat.not_le, -Nat.not_lt, -Nat.add_left_cancel_iff] at hb2)) | (refine draw_listA (by rfl) (by kernel_rfl) ?_) | (refine draw_listB (by simp [allocsOf, isAlloc]; rfl) (by kernel_rfl) ?_) | simp (maxSteps := 2000000) (disch := first | omega | assumption | simp [*]) [*, -Int.not_le, -Int.not_lt, -Nat.not_le, -Nat.not_lt, -Nat.add_left_cancel_iff, wrap_i64, wrap_u64, h12, h11, h10, h1, isP_len hP, isP_index hP, isP_low hP, isP_noKey hP])
      refine wa_push hB (by simp) (by simp) (by omega) ?_
      intro v2 h2' hB2 hk2'
      rw [← hsu] at hB2
      clear hsu hk2'
      repeat' (first | (apply br_intro <;> intro hb <;> (have hb2 := hb) <;> (try simp [-Int.not_le, -Int.not_lt, -Nat.not_le, -Nat.not_lt, -Nat.add_left_cancel_iff] at hb2)) | (refine draw_listA (by rfl) (by kernel_rfl) ?_) | (refine draw_listB (by simp [allocsOf, isAlloc]; rfl) (by kernel_rfl) ?_) | simp (maxSteps := 2000000) (disch := first | omega | assumption | simp [*]) [*, -Int.not_le, -Int.not_lt, -Nat.not_le, -Nat.not_lt, -Nat.add_left_cancel_iff, wrap_i64, wrap_u64, h12, h11, h10, h1, isP_len hP])
      exact hB2
    · rw [if_neg hc, List.append_nil] at hsu
      rw [← hsu] at hB
      clear hsu
      repeat' (first | (apply br_intro <;> intro hb <;> (have hb2 := hb) <;> (try simp [-Int.not_le, -Int.not_lt, -Nat.not_le, -Nat.not_lt, -Nat.add_left_cancel_iff] at hb2)) | (refine draw_listA (by rfl) (by kernel_rfl) ?_) | (refine draw_listB (by simp [allocsOf, isAlloc]; rfl) (by kernel_rfl) ?_) | simp (maxSteps := 2000000) (disch := first | omega | assumption | simp [*]) [*, -Int.not_le, -Int.not_lt, -Nat.not_le, -Nat.not_lt, -Nat.add_left_cancel_iff, wrap_i64, wrap_u64, h12, h11, h10, h1, isP_len hP, isP_index hP, isP_low hP, isP_noKey hP])
      exact hB.keep (by simp [hset])
  · obtain rfl : k = (fsts w).length := by omega
    repeat' (first | (apply br_intro <;> intro hb <;> (have hb2 := hb) <;> (try simp [-Int.not_le, -Int.not_lt, -Nat.not_le, -Nat.not_lt, -Nat.add_left_cancel_iff] at hb2)) | (refine draw_listA (by rfl) (by kernel_rfl) ?_) | (refine draw_listB (by simp [allocsOf, isAlloc]; rfl) (by kernel_rfl) ?_) | simp (maxSteps := 2000000) (disch := first | omega | assumption | simp [*]) [*, -Int.not_le, -Int.not_lt, -Nat.not_le, -Nat.not_lt, -Nat.add_left_cancel_iff, wrap_i64, wrap_u64, h12, h11, h10, h1, isP_len hP, isP_low hP])
    exact hB.expo
theorem iFrequentIntents_s {n least : Int} {v : AV} (hv : IsI v) {K : AV → Prop} {tg : Tg K} : CW env 99 [.agg [.int .i64 n, v], .int .i64 least] K tg ↔ K (bufR 3 25 1 (freqL n (xsOf v) least)) := callsTo_iff (iFrequentIntents_c hv)
attribute [simp] iFrequentIntents_s
end Go.Proofs.YtkkkgaapkibhkaaGreatDoor
