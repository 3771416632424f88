/- Rules that are possible or certain in partial contexts. Conditions: none. -/
import Derived.Test.YtkkkgaapkibhkaaCompl
namespace Go.Proofs.Ytkkkgaapkibhkaa
open Ev
set_option linter.unusedVariables false
set_option linter.unusedSimpArgs false
set_option maxHeartbeats 4000000

/-- how many completions there are -/
noncomputable def cntN (n : Int) (ss ms : List Int) : Nat := if PPart n ss ms then 2 ^ opens ms else 0
theorem cntN_int (n : Int) (ss ms : List Int) : (if PPart n ss ms then 2 ^ opens ms else 0 : Int) = cntN n ss ms := by
  unfold cntN; split <;> simp
theorem cntN_small (n : Int) (ss ms : List Int) : cntN n ss ms ≤ 64 := by
  unfold cntN; split
  · rename_i h
    have : 2 ^ opens ms ≤ 2 ^ 6 := Nat.pow_le_pow_right (by decide) h.2.2.2.1
    omega
  · omega
/-- a rule holds in a completion -/
noncomputable def holdK (n : Int) (ss ms : List Int) (a b : Int) (k : Nat) : Bool := decide (HoldC (compN n ss ms k) (compR n ss ms k) a b)
noncomputable def holdTo (n : Int) (ss ms : List Int) (a b : Int) : Nat → Nat
  | 0 => 0
  | k + 1 => holdTo n ss ms a b k + if holdK n ss ms a b k then 1 else 0
theorem holdTo_le (n : Int) (ss ms : List Int) (a b : Int) (k : Nat) : holdTo n ss ms a b k ≤ k := by
  induction k with
  | zero => simp [holdTo]
  | succ k ih => simp only [holdTo]; split <;> omega
theorem holdTo_pos (n : Int) (ss ms : List Int) (a b : Int) (k : Nat) : 0 < holdTo n ss ms a b k ↔ ∃ j, j < k ∧ holdK n ss ms a b j = true := by
  induction k with
  | zero => simp [holdTo]
  | succ k ih =>
    simp only [holdTo]
    constructor
    · intro h
      by_cases e : holdK n ss ms a b k = true
      · exact ⟨k, by omega, e⟩
      · rw [if_neg e] at h
        obtain ⟨j, h1, h2⟩ := ih.1 h
        exact ⟨j, by omega, h2⟩
    · rintro ⟨j, h1, h2⟩
      by_cases e : j = k
      · subst e; rw [if_pos h2]; omega
      · have := ih.2 ⟨j, by omega, h2⟩; omega
theorem holdTo_all (n : Int) (ss ms : List Int) (a b : Int) (k : Nat) : holdTo n ss ms a b k = k ↔ ∀ j, j < k → holdK n ss ms a b j = true := by
  induction k with
  | zero => simp [holdTo]
  | succ k ih =>
    have hle := holdTo_le n ss ms a b k
    simp only [holdTo]
    constructor
    · intro h j hj
      by_cases e : holdK n ss ms a b k = true
      · rw [if_pos e] at h
        by_cases e2 : j = k
        · subst e2; exact e
        · exact ih.1 (by omega) j (by omega)
      · rw [if_neg e] at h; omega
    · intro h
      rw [if_pos (h k (by omega)), ih.2 fun j hj => h j (by omega)]
def PossC (n : Int) (ss ms : List Int) (a b : Int) : Prop := ∃ j, j < cntN n ss ms ∧ holdK n ss ms a b j = true
def CertC (n : Int) (ss ms : List Int) (a b : Int) : Prop := PPart n ss ms ∧ ∀ j, j < cntN n ss ms → holdK n ss ms a b j = true
noncomputable instance (n : Int) (ss ms : List Int) (a b : Int) : Decidable (PossC n ss ms a b) := Classical.propDecidable _
noncomputable instance (n : Int) (ss ms : List Int) (a b : Int) : Decidable (CertC n ss ms a b) := Classical.propDecidable _
theorem cntN_pos {n : Int} {ss ms : List Int} : 0 < cntN n ss ms ↔ PPart n ss ms := by
  unfold cntN; split
  · rename_i h; simp [h]; exact Nat.two_pow_pos _
  · rename_i h; simp [h]
theorem isI_bufN {xs : List Int} (hl : xs.length ≤ 8) : IsI (bufC 0 xs) := isI_bufC (by unfold top63; omega)
theorem sIsPossible_c {n a b : Int} {u v : AV} (hu : IsI u) (hv : IsI v) : EvC env 50 [.agg [.int .i64 n, u, v], .agg [.int .i64 a, .int .i64 b]] (.bool (decide (PossC n (xsOf u) (xsOf v) a b))) := by
  refine evC_of (F := Try.f50) rfl rfl (Nat.le_of_ble_eq_true rfl) ?_
  have hcs := cntN_small n (xsOf u) (xsOf v)
  repeat' (first | (apply br_intro <;> intro hb <;> (have hb2 := hb) <;> (try simp [-Int.not_le, -Int.not_lt, -Nat.not_le, -Nat.not_lt, -Nat.add_left_cancel_iff] at hb2)) | (refine draw_listA (by rfl) (by kernel_rfl) ?_) | (refine draw_listB (by simp [allocsOf, isAlloc]; rfl) (by kernel_rfl) ?_) | simp (maxSteps := 2000000) (disch := first | omega | assumption | simp [*]) [*, -Int.not_le, -Int.not_lt, -Nat.not_le, -Nat.not_lt, -Nat.add_left_cancel_iff, wrap_i64, wrap_u64, Try.f50, cntN_int, isI_cells hu, isI_one hu, isI_low hu, isI_len hu, isI_cells hv, isI_one hv, isI_low hv, isI_len hv])
  refine W_loopG (cntN n (xsOf u) (xsOf v)) (fun i s h => s 6 = .int .i64 i ∧ s 5 = .int .i64 (cntN n (xsOf u) (xsOf v)) ∧ s 2 = .vp 2 0 0 ∧ s 3 = .vp 3 0 0 ∧ h 2 = some (.var 0 55 (.agg [.int .i64 n, u, v])) ∧ h 3 = some (.var 0 53 (.agg [.int .i64 a, .int .i64 b])) ∧ ∀ j, j < i → holdK n (xsOf u) (xsOf v) a b j = false) ?_ ?_
  · simp [*]
  rintro i s h hi ⟨h6, h5, h2, h3, e2, e3, hj⟩
  by_cases hi2 : i < cntN n (xsOf u) (xsOf v)
  · obtain ⟨R, hR⟩ : ∃ R, compR n (xsOf u) (xsOf v) i = R := ⟨_, rfl⟩
    have hRl : R.length ≤ 8 := by rw [← hR]; exact compR_len ..
    obtain ⟨w, hw⟩ : ∃ w, w = bufC 0 R := ⟨_, rfl⟩
    have hI : IsI w := by rw [hw]; exact isI_bufN hRl
    have hx : xsOf w = R := by rw [hw]; simp
    have hne : noEx (bufR 3 62 0 R) = w := by rw [hw]; simp
    have hk : holdK n (xsOf u) (xsOf v) a b i = decide (HoldC (compN n (xsOf u) (xsOf v) i) R a b) := by unfold holdK; rw [hR]
    clear hw
    have o9 := isI_one hI
    have c9 := isI_cells hI
    by_cases hc : HoldC (compN n (xsOf u) (xsOf v) i) R a b
    · have hp : PossC n (xsOf u) (xsOf v) a b := ⟨i, hi2, by rw [hk]; simpa using hc⟩
      clear hj hk
      repeat' (first | (apply br_intro <;> intro hb <;> (have hb2 := hb) <;> (try simp [-Int.not_le, -Int.not_lt, -Nat.not_le, -Nat.not_lt, -Nat.add_left_cancel_iff] at hb2)) | (refine draw_listA (by rfl) (by kernel_rfl) ?_) | (refine draw_listB (by simp [allocsOf, isAlloc]; rfl) (by kernel_rfl) ?_) | simp (maxSteps := 2000000) (disch := first | omega | assumption | simp [*]) [*, -Int.not_le, -Int.not_lt, -Nat.not_le, -Nat.not_lt, -Nat.add_left_cancel_iff, wrap_i64, wrap_u64, h6, h5, h2, h3, e2, e3, isI_cells hu, isI_one hu, isI_low hu, isI_cells hv, isI_one hv, isI_low hv, isI_cells hI, isI_one hI, isI_low hI])
    · have hj2 : ∀ j, j < i + 1 → holdK n (xsOf u) (xsOf v) a b j = false := fun j hj3 => by
        by_cases e : j = i
        · subst e; rw [hk]; simpa using hc
        · exact hj j (by omega)
      clear hj hk
      repeat' (first | (apply br_intro <;> intro hb <;> (have hb2 := hb) <;> (try simp [-Int.not_le, -Int.not_lt, -Nat.not_le, -Nat.not_lt, -Nat.add_left_cancel_iff] at hb2)) | (refine draw_listA (by rfl) (by kernel_rfl) ?_) | (refine draw_listB (by simp [allocsOf, isAlloc]; rfl) (by kernel_rfl) ?_) | simp (maxSteps := 2000000) (disch := first | omega | assumption | simp [*]) [*, -Int.not_le, -Int.not_lt, -Nat.not_le, -Nat.not_lt, -Nat.add_left_cancel_iff, wrap_i64, wrap_u64, h6, h5, h2, h3, e2, e3, isI_cells hu, isI_one hu, isI_low hu, isI_cells hv, isI_one hv, isI_low hv, isI_cells hI, isI_one hI, isI_low hI])
      exact hj2
  · obtain rfl : i = cntN n (xsOf u) (xsOf v) := by omega
    have hp : ¬ PossC n (xsOf u) (xsOf v) a b := fun ⟨j, h1, h2⟩ => by rw [hj j h1] at h2; cases h2
    clear hj
    repeat' (first | (apply br_intro <;> intro hb <;> (have hb2 := hb) <;> (try simp [-Int.not_le, -Int.not_lt, -Nat.not_le, -Nat.not_lt, -Nat.add_left_cancel_iff] at hb2)) | (refine draw_listA (by rfl) (by kernel_rfl) ?_) | (refine draw_listB (by simp [allocsOf, isAlloc]; rfl) (by kernel_rfl) ?_) | simp (maxSteps := 2000000) (disch := first | omega | assumption | simp [*]) [*, -Int.not_le, -Int.not_lt, -Nat.not_le, -Nat.not_lt, -Nat.add_left_cancel_iff, wrap_i64, wrap_u64, h6, h5, h2, h3, e2, e3])
theorem sIsPossible_s {n a b : Int} {u v : AV} (hu : IsI u) (hv : IsI v) {K : AV → Prop} {tg : Tg K} : CW env 50 [.agg [.int .i64 n, u, v], .agg [.int .i64 a, .int .i64 b]] K tg ↔ K (.bool (decide (PossC n (xsOf u) (xsOf v) a b))) := callsTo_iff (sIsPossible_c hu hv)
attribute [simp] sIsPossible_s
theorem countHolding_c {n a b : Int} {u v : AV} (hu : IsI u) (hv : IsI v) : EvC env 98 [.agg [.int .i64 n, u, v], .agg [.int .i64 a, .int .i64 b]] (.int .i64 (holdTo n (xsOf u) (xsOf v) a b (cntN n (xsOf u) (xsOf v)))) := by
  refine evC_of (F := Try.f98) rfl rfl (Nat.le_of_ble_eq_true rfl) ?_
  have hcs := cntN_small n (xsOf u) (xsOf v)
  repeat' (first | (apply br_intro <;> intro hb <;> (have hb2 := hb) <;> (try simp [-Int.not_le, -Int.not_lt, -Nat.not_le, -Nat.not_lt, -Nat.add_left_cancel_iff] at hb2)) | (refine draw_listA (by rfl) (by kernel_rfl) ?_) | (refine draw_listB (by simp [allocsOf, isAlloc]; rfl) (by kernel_rfl) ?_) | simp (maxSteps := 2000000) (disch := first | omega | assumption | simp [*]) [*, -Int.not_le, -Int.not_lt, -Nat.not_le, -Nat.not_lt, -Nat.add_left_cancel_iff, wrap_i64, wrap_u64, Try.f98, cntN_int, isI_cells hu, isI_one hu, isI_low hu, isI_len hu, isI_cells hv, isI_one hv, isI_low hv, isI_len hv])
  refine W_loopG (cntN n (xsOf u) (xsOf v)) (fun i s h => s 11 = .int .i64 i ∧ s 10 = .int .i64 (cntN n (xsOf u) (xsOf v)) ∧ s 2 = .vp 2 0 0 ∧ s 3 = .vp 3 0 0 ∧ h 2 = some (.var 0 55 (.agg [.int .i64 n, u, v])) ∧ h 3 = some (.var 0 53 (.agg [.int .i64 a, .int .i64 b])) ∧ s 5 = .int .i64 (holdTo n (xsOf u) (xsOf v) a b i)) ?_ ?_
  · simp [*, holdTo]
  rintro i s h hi ⟨h6, h5, h2, h3, e2, e3, h9⟩
  by_cases hi2 : i < cntN n (xsOf u) (xsOf v)
  · obtain ⟨R, hR⟩ : ∃ R, compR n (xsOf u) (xsOf v) i = R := ⟨_, rfl⟩
    have hRl : R.length ≤ 8 := by rw [← hR]; exact compR_len ..
    have hle := holdTo_le n (xsOf u) (xsOf v) a b i
    have hk : holdK n (xsOf u) (xsOf v) a b i = decide (HoldC (compN n (xsOf u) (xsOf v) i) R a b) := by unfold holdK; rw [hR]
    obtain ⟨w, hw⟩ : ∃ w, w = noEx (compV 3 n (xsOf u) (xsOf v) i) := ⟨_, rfl⟩
    have hI : IsI w ∧ xsOf w = R := by
      rw [hw, compV_noEx, ← hR]
      unfold compR
      split
      · rename_i h9; exact ⟨isI_no (by rw [← hR, compR, if_pos h9] at hRl; unfold top63; omega), by simp⟩
      · exact ⟨isI_lit, rfl⟩
    obtain ⟨hI, hx⟩ := hI
    have hne : noEx (compV 3 n (xsOf u) (xsOf v) i) = w := hw.symm
    clear hw
    have o9 := isI_one hI
    have c9 := isI_cells hI
    have hsu : holdTo n (xsOf u) (xsOf v) a b (i + 1) = holdTo n (xsOf u) (xsOf v) a b i + if holdK n (xsOf u) (xsOf v) a b i then 1 else 0 := rfl
    by_cases hc : HoldC (compN n (xsOf u) (xsOf v) i) R a b
    · rw [hk, decide_eq_true hc] at hsu
      simp only [if_true] at hsu
      clear hk
      repeat' (first | (apply br_intro <;> intro hb <;> (have hb2 := hb) <;> (try simp [-Int.not_le, -Int.not_lt, -Nat.not_le, -Nat.not_lt, -Nat.add_left_cancel_iff] at hb2)) | (refine draw_listA (by rfl) (by kernel_rfl) ?_) | (refine draw_listB (by simp [allocsOf, isAlloc]; rfl) (by kernel_rfl) ?_) | simp (maxSteps := 2000000) (disch := first | omega | assumption | simp [*]) [*, -Int.not_le, -Int.not_lt, -Nat.not_le, -Nat.not_lt, -Nat.add_left_cancel_iff, wrap_i64, wrap_u64, h6, h5, h2, h3, h9, e2, e3, isI_cells hu, isI_one hu, isI_low hu, isI_cells hv, isI_one hv, isI_low hv, isI_cells hI, isI_one hI, isI_low hI])
    · rw [hk, decide_eq_false hc] at hsu
      simp only [Bool.false_eq_true, if_false, Nat.add_zero] at hsu
      clear hk
      repeat' (first | (apply br_intro <;> intro hb <;> (have hb2 := hb) <;> (try simp [-Int.not_le, -Int.not_lt, -Nat.not_le, -Nat.not_lt, -Nat.add_left_cancel_iff] at hb2)) | (refine draw_listA (by rfl) (by kernel_rfl) ?_) | (refine draw_listB (by simp [allocsOf, isAlloc]; rfl) (by kernel_rfl) ?_) | simp (maxSteps := 2000000) (disch := first | omega | assumption | simp [*]) [*, -Int.not_le, -Int.not_lt, -Nat.not_le, -Nat.not_lt, -Nat.add_left_cancel_iff, wrap_i64, wrap_u64, h6, h5, h2, h3, h9, e2, e3, isI_cells hu, isI_one hu, isI_low hu, isI_cells hv, isI_one hv, isI_low hv, isI_cells hI, isI_one hI, isI_low hI])
  · obtain rfl : i = cntN n (xsOf u) (xsOf v) := by omega
    repeat' (first | (apply br_intro <;> intro hb <;> (have hb2 := hb) <;> (try simp [-Int.not_le, -Int.not_lt, -Nat.not_le, -Nat.not_lt, -Nat.add_left_cancel_iff] at hb2)) | (refine draw_listA (by rfl) (by kernel_rfl) ?_) | (refine draw_listB (by simp [allocsOf, isAlloc]; rfl) (by kernel_rfl) ?_) | simp (maxSteps := 2000000) (disch := first | omega | assumption | simp [*]) [*, -Int.not_le, -Int.not_lt, -Nat.not_le, -Nat.not_lt, -Nat.add_left_cancel_iff, wrap_i64, wrap_u64, h6, h5, h2, h3, h9, e2, e3])
theorem countHolding_s {n a b : Int} {u v : AV} (hu : IsI u) (hv : IsI v) {K : AV → Prop} {tg : Tg K} : CW env 98 [.agg [.int .i64 n, u, v], .agg [.int .i64 a, .int .i64 b]] K tg ↔ K (.int .i64 (holdTo n (xsOf u) (xsOf v) a b (cntN n (xsOf u) (xsOf v)))) := callsTo_iff (countHolding_c hu hv)
attribute [simp] countHolding_s
theorem iIsPossible_c {n a b : Int} {u v : AV} (hu : IsI u) (hv : IsI v) : EvC env 41 [.agg [.int .i64 n, u, v], .agg [.int .i64 a, .int .i64 b]] (.bool (decide (PossC n (xsOf u) (xsOf v) a b))) := by
  refine evC_of (F := Try.f41) rfl rfl (Nat.le_of_ble_eq_true rfl) ?_
  have hp : PossC n (xsOf u) (xsOf v) a b ↔ 0 < holdTo n (xsOf u) (xsOf v) a b (cntN n (xsOf u) (xsOf v)) := (holdTo_pos ..).symm
  repeat' (first | (apply br_intro <;> intro hb <;> (have hb2 := hb) <;> (try simp [-Int.not_le, -Int.not_lt, -Nat.not_le, -Nat.not_lt, -Nat.add_left_cancel_iff] at hb2)) | (refine draw_listA (by rfl) (by kernel_rfl) ?_) | (refine draw_listB (by simp [allocsOf, isAlloc]; rfl) (by kernel_rfl) ?_) | simp (maxSteps := 2000000) (disch := first | omega | assumption | simp [*]) [*, -Int.not_le, -Int.not_lt, -Nat.not_le, -Nat.not_lt, -Nat.add_left_cancel_iff, wrap_i64, wrap_u64, Try.f41, isI_cells hu, isI_one hu, isI_low hu, isI_len hu, isI_cells hv, isI_one hv, isI_low hv, isI_len hv])
theorem iIsPossible_s {n a b : Int} {u v : AV} (hu : IsI u) (hv : IsI v) {K : AV → Prop} {tg : Tg K} : CW env 41 [.agg [.int .i64 n, u, v], .agg [.int .i64 a, .int .i64 b]] K tg ↔ K (.bool (decide (PossC n (xsOf u) (xsOf v) a b))) := callsTo_iff (iIsPossible_c hu hv)
attribute [simp] iIsPossible_s
end Go.Proofs.Ytkkkgaapkibhkaa
