/- Certain rules, certain closures; the laws of three functions. Conditions: none. -/
import Derived.Test.YtkkkgaapkibhkaaPoss
namespace Go.Proofs.Ytkkkgaapkibhkaa
open Ev
set_option linter.unusedVariables false
set_option linter.unusedSimpArgs false
set_option maxHeartbeats 4000000

theorem sIsCertain_c {n a b : Int} {u v : AV} (hu : IsI u) (hv : IsI v) : EvC env 49 [.agg [.int .i64 n, u, v], .agg [.int .i64 a, .int .i64 b]] (.bool (decide (CertC n (xsOf u) (xsOf v) a b))) := by
  refine evC_of (F := Try.f49) rfl rfl (Nat.le_of_ble_eq_true rfl) ?_
  have hcs := cntN_small n (xsOf u) (xsOf v)
  repeat' (first | (apply br_intro <;> intro hb <;> (have hb2 := hb) <;> (try simp [-Int.not_le, -Int.not_lt, -Nat.not_le, -Nat.not_lt, -Nat.add_left_cancel_iff] at hb2)) | (refine draw_listA (by rfl) (by kernel_rfl) ?_) | (refine draw_listB (by simp [allocsOf, isAlloc]; rfl) (by kernel_rfl) ?_) | simp (maxSteps := 2000000) (disch := first | omega | assumption | simp [*]) [*, -Int.not_le, -Int.not_lt, -Nat.not_le, -Nat.not_lt, -Nat.add_left_cancel_iff, wrap_i64, wrap_u64, Try.f49, cntN_int, isI_cells hu, isI_one hu, isI_low hu, isI_len hu, isI_cells hv, isI_one hv, isI_low hv, isI_len hv])
  refine W_loopG (cntN n (xsOf u) (xsOf v)) (fun i s h => s 6 = .int .i64 i ∧ s 5 = .int .i64 (cntN n (xsOf u) (xsOf v)) ∧ s 2 = .vp 2 0 0 ∧ s 3 = .vp 3 0 0 ∧ h 2 = some (.var 0 55 (.agg [.int .i64 n, u, v])) ∧ h 3 = some (.var 0 53 (.agg [.int .i64 a, .int .i64 b])) ∧ ∀ j, j < i → holdK n (xsOf u) (xsOf v) a b j = true) ?_ ?_
  · simp [*]
  rintro i s h hi ⟨h6, h5, h2, h3, e2, e3, hj⟩
  by_cases hi2 : i < cntN n (xsOf u) (xsOf v)
  · obtain ⟨R, hR⟩ : ∃ R, compR n (xsOf u) (xsOf v) i = R := ⟨_, rfl⟩
    have hRl : R.length ≤ 8 := by rw [← hR]; exact compR_len ..
    obtain ⟨w, hw⟩ : ∃ w, w = bufC 0 R := ⟨_, rfl⟩
    have hI : IsI w := by rw [hw]; exact isI_bufN hRl
    have hx : xsOf w = R := by rw [hw]; simp
    have hne : noEx (bufR 3 62 0 R) = w := by rw [hw]; simp
    have hk : holdK n (xsOf u) (xsOf v) a b i = decide (HoldC (compN n (xsOf u) (xsOf v) i) R a b) := by unfold holdK; rw [hR]
    clear hw
    have o9 := isI_one hI
    have c9 := isI_cells hI
    by_cases hc : HoldC (compN n (xsOf u) (xsOf v) i) R a b
    · have hj2 : ∀ j, j < i + 1 → holdK n (xsOf u) (xsOf v) a b j = true := fun j hj3 => by
        by_cases e : j = i
        · subst e; rw [hk]; simpa using hc
        · exact hj j (by omega)
      clear hj hk
      repeat' (first | (apply br_intro <;> intro hb <;> (have hb2 := hb) <;> (try simp [-Int.not_le, -Int.not_lt, -Nat.not_le, -Nat.not_lt, -Nat.add_left_cancel_iff] at hb2)) | (refine draw_listA (by rfl) (by kernel_rfl) ?_) | (refine draw_listB (by simp [allocsOf, isAlloc]; rfl) (by kernel_rfl) ?_) | simp (maxSteps := 2000000) (disch := first | omega | assumption | simp [*]) [*, -Int.not_le, -Int.not_lt, -Nat.not_le, -Nat.not_lt, -Nat.add_left_cancel_iff, wrap_i64, wrap_u64, h6, h5, h2, h3, e2, e3, isI_cells hu, isI_one hu, isI_low hu, isI_cells hv, isI_one hv, isI_low hv, isI_cells hI, isI_one hI, isI_low hI])
      exact hj2
    · have hp : ¬ CertC n (xsOf u) (xsOf v) a b := fun h9 => by have := h9.2 i hi2; rw [hk, decide_eq_false hc] at this; cases this
      clear hj hk
      repeat' (first | (apply br_intro <;> intro hb <;> (have hb2 := hb) <;> (try simp [-Int.not_le, -Int.not_lt, -Nat.not_le, -Nat.not_lt, -Nat.add_left_cancel_iff] at hb2)) | (refine draw_listA (by rfl) (by kernel_rfl) ?_) | (refine draw_listB (by simp [allocsOf, isAlloc]; rfl) (by kernel_rfl) ?_) | simp (maxSteps := 2000000) (disch := first | omega | assumption | simp [*]) [*, -Int.not_le, -Int.not_lt, -Nat.not_le, -Nat.not_lt, -Nat.add_left_cancel_iff, wrap_i64, wrap_u64, h6, h5, h2, h3, e2, e3, isI_cells hu, isI_one hu, isI_low hu, isI_cells hv, isI_one hv, isI_low hv, isI_cells hI, isI_one hI, isI_low hI])
  · obtain rfl : i = cntN n (xsOf u) (xsOf v) := by omega
    have hp : CertC n (xsOf u) (xsOf v) a b ↔ 0 < cntN n (xsOf u) (xsOf v) := ⟨fun h9 => cntN_pos.2 h9.1, fun h9 => ⟨cntN_pos.1 h9, hj⟩⟩
    clear hj
    repeat' (first | (apply br_intro <;> intro hb <;> (have hb2 := hb) <;> (try simp [-Int.not_le, -Int.not_lt, -Nat.not_le, -Nat.not_lt, -Nat.add_left_cancel_iff] at hb2)) | (refine draw_listA (by rfl) (by kernel_rfl) ?_) | (refine draw_listB (by simp [allocsOf, isAlloc]; rfl) (by kernel_rfl) ?_) | simp (maxSteps := 2000000) (disch := first | omega | assumption | simp [*]) [*, -Int.not_le, -Int.not_lt, -Nat.not_le, -Nat.not_lt, -Nat.add_left_cancel_iff, wrap_i64, wrap_u64, h6, h5, h2, h3, e2, e3])
theorem sIsCertain_s {n a b : Int} {u v : AV} (hu : IsI u) (hv : IsI v) {K : AV → Prop} {tg : Tg K} : CW env 49 [.agg [.int .i64 n, u, v], .agg [.int .i64 a, .int .i64 b]] K tg ↔ K (.bool (decide (CertC n (xsOf u) (xsOf v) a b))) := callsTo_iff (sIsCertain_c hu hv)
attribute [simp] sIsCertain_s
theorem iIsCertain_c {n a b : Int} {u v : AV} (hu : IsI u) (hv : IsI v) : EvC env 40 [.agg [.int .i64 n, u, v], .agg [.int .i64 a, .int .i64 b]] (.bool (decide (CertC n (xsOf u) (xsOf v) a b))) := by
  refine evC_of (F := Try.f40) rfl rfl (Nat.le_of_ble_eq_true rfl) ?_
  have hp : CertC n (xsOf u) (xsOf v) a b ↔ PPart n (xsOf u) (xsOf v) ∧ (holdTo n (xsOf u) (xsOf v) a b (cntN n (xsOf u) (xsOf v)) : Int) = cntN n (xsOf u) (xsOf v) := by
    unfold CertC; rw [← holdTo_all]; simp; exact fun _ => by omega
  have hpc : PPart n (xsOf u) (xsOf v) → (cntN n (xsOf u) (xsOf v) : Int) = 2 ^ opens (xsOf v) := fun h => by unfold cntN; simp [h]
  repeat' (first | (apply br_intro <;> intro hb <;> (have hb2 := hb) <;> (try simp [-Int.not_le, -Int.not_lt, -Nat.not_le, -Nat.not_lt, -Nat.add_left_cancel_iff] at hb2)) | (refine draw_listA (by rfl) (by kernel_rfl) ?_) | (refine draw_listB (by simp [allocsOf, isAlloc]; rfl) (by kernel_rfl) ?_) | simp (maxSteps := 2000000) (disch := first | omega | assumption | simp [*]) [*, -Int.not_le, -Int.not_lt, -Nat.not_le, -Nat.not_lt, -Nat.add_left_cancel_iff, wrap_i64, wrap_u64, Try.f40, cntN_int, isI_cells hu, isI_one hu, isI_low hu, isI_len hu, isI_cells hv, isI_one hv, isI_low hv, isI_len hv])
theorem iIsCertain_s {n a b : Int} {u v : AV} (hu : IsI u) (hv : IsI v) {K : AV → Prop} {tg : Tg K} : CW env 40 [.agg [.int .i64 n, u, v], .agg [.int .i64 a, .int .i64 b]] K tg ↔ K (.bool (decide (CertC n (xsOf u) (xsOf v) a b))) := callsTo_iff (iIsCertain_c hu hv)
attribute [simp] iIsCertain_s
noncomputable def certP (n : Int) (ss ms : List Int) (s : Int) (m : Nat) : Bool := decide (CertC n ss ms s (2 ^ m))
noncomputable def certV (n : Int) (ss ms : List Int) (s : Int) : Int := if PPart n ss ms ∧ PSet n s = true then setOf (certP n ss ms s) n.toNat else 0
theorem sCertainClosure_c {n s : Int} {u v : AV} (hu : IsI u) (hv : IsI v) : EvC env 52 [.agg [.int .i64 n, u, v], .int .i64 s] (.int .i64 (certV n (xsOf u) (xsOf v) s)) := by
  refine evC_of (F := Try.f52) rfl rfl (Nat.le_of_ble_eq_true rfl) ?_
  by_cases hp : PPart n (xsOf u) (xsOf v)
  · by_cases hs : PSet n s = true
    · obtain ⟨N, rfl⟩ : ∃ N : Nat, n = N := ⟨n.toNat, by have := hp.1.1; omega⟩
      have hn := hp.1.2.1
      have hv1 : certV N (xsOf u) (xsOf v) s = setOf (certP N (xsOf u) (xsOf v) s) N := by unfold certV; rw [if_pos ⟨hp, hs⟩]; rfl
      rw [hv1]
      repeat' (first | (apply br_intro <;> intro hb <;> (have hb2 := hb) <;> (try simp [-Int.not_le, -Int.not_lt, -Nat.not_le, -Nat.not_lt, -Nat.add_left_cancel_iff] at hb2)) | (refine draw_listA (by rfl) (by kernel_rfl) ?_) | (refine draw_listB (by simp [allocsOf, isAlloc]; rfl) (by kernel_rfl) ?_) | simp (maxSteps := 2000000) (disch := first | omega | assumption | simp [*]) [*, -Int.not_le, -Int.not_lt, -Nat.not_le, -Nat.not_lt, -Nat.add_left_cancel_iff, wrap_i64, wrap_u64, Try.f52, isI_cells hu, isI_one hu, isI_low hu, isI_cells hv, isI_one hv, isI_low hv])
      refine W_loopG N (fun i st h => st 6 = .int .i64 i ∧ st 5 = .int .i64 (setOf (certP N (xsOf u) (xsOf v) s) i) ∧ st 1 = .int .i64 s ∧ st 2 = .vp 2 0 0 ∧ h 2 = some (.var 0 55 (.agg [.int .i64 N, u, v]))) ?_ ?_
      · simp [setOf]
      rintro i st h hi ⟨h6, h5, h1, h2, e2⟩
      by_cases hi2 : i < N
      · have r2 := setOf_range (certP N (xsOf u) (xsOf v) s) i
        have r3 := setOf_small (certP N (xsOf u) (xsOf v) s) (n := i) (by omega)
        have hpw := pow_small (i := i) (by omega)
        cases hcp : certP N (xsOf u) (xsOf v) s i with
        | true =>
          have hc : CertC N (xsOf u) (xsOf v) s (2 ^ i) := by simpa [certP] using hcp
          have hso := setOf_or _ _ hcp
          clear hcp
          repeat' (first | (apply br_intro <;> intro hb <;> (have hb2 := hb) <;> (try simp [-Int.not_le, -Int.not_lt, -Nat.not_le, -Nat.not_lt, -Nat.add_left_cancel_iff] at hb2)) | (refine draw_listA (by rfl) (by kernel_rfl) ?_) | (refine draw_listB (by simp [allocsOf, isAlloc]; rfl) (by kernel_rfl) ?_) | simp (maxSteps := 2000000) (disch := first | omega | assumption | simp [*]) [*, -Int.not_le, -Int.not_lt, -Nat.not_le, -Nat.not_lt, -Nat.add_left_cancel_iff, wrap_i64, wrap_u64, h6, h5, h1, h2, e2, bits_or, pow_toNat, isI_cells hu, isI_one hu, isI_low hu, isI_cells hv, isI_one hv, isI_low hv])
        | false =>
          have hc : ¬ CertC N (xsOf u) (xsOf v) s (2 ^ i) := by simpa [certP] using hcp
          have hso := setOf_skip _ _ hcp
          clear hcp
          repeat' (first | (apply br_intro <;> intro hb <;> (have hb2 := hb) <;> (try simp [-Int.not_le, -Int.not_lt, -Nat.not_le, -Nat.not_lt, -Nat.add_left_cancel_iff] at hb2)) | (refine draw_listA (by rfl) (by kernel_rfl) ?_) | (refine draw_listB (by simp [allocsOf, isAlloc]; rfl) (by kernel_rfl) ?_) | simp (maxSteps := 2000000) (disch := first | omega | assumption | simp [*]) [*, -Int.not_le, -Int.not_lt, -Nat.not_le, -Nat.not_lt, -Nat.add_left_cancel_iff, wrap_i64, wrap_u64, h6, h5, h1, h2, e2, bits_or, pow_toNat, isI_cells hu, isI_one hu, isI_low hu, isI_cells hv, isI_one hv, isI_low hv])
      · obtain rfl : i = N := by omega
        repeat' (first | (apply br_intro <;> intro hb <;> (have hb2 := hb) <;> (try simp [-Int.not_le, -Int.not_lt, -Nat.not_le, -Nat.not_lt, -Nat.add_left_cancel_iff] at hb2)) | (refine draw_listA (by rfl) (by kernel_rfl) ?_) | (refine draw_listB (by simp [allocsOf, isAlloc]; rfl) (by kernel_rfl) ?_) | simp (maxSteps := 2000000) (disch := first | omega | assumption | simp [*]) [*, -Int.not_le, -Int.not_lt, -Nat.not_le, -Nat.not_lt, -Nat.add_left_cancel_iff, wrap_i64, wrap_u64, h6, h5, h1, h2, e2, isI_cells hu, isI_one hu, isI_low hu, isI_cells hv, isI_one hv, isI_low hv])
    · have hv1 : certV n (xsOf u) (xsOf v) s = 0 := by unfold certV; rw [if_neg fun h => hs h.2]
      rw [hv1]
      repeat' (first | (apply br_intro <;> intro hb <;> (have hb2 := hb) <;> (try simp [-Int.not_le, -Int.not_lt, -Nat.not_le, -Nat.not_lt, -Nat.add_left_cancel_iff] at hb2)) | (refine draw_listA (by rfl) (by kernel_rfl) ?_) | (refine draw_listB (by simp [allocsOf, isAlloc]; rfl) (by kernel_rfl) ?_) | simp (maxSteps := 2000000) (disch := first | omega | assumption | simp [*]) [*, -Int.not_le, -Int.not_lt, -Nat.not_le, -Nat.not_lt, -Nat.add_left_cancel_iff, wrap_i64, wrap_u64, Try.f52, isI_cells hu, isI_one hu, isI_low hu, isI_cells hv, isI_one hv, isI_low hv])
      refine W_loopG 0 (fun i st h => st 6 = .int .i64 0 ∧ st 5 = .int .i64 0 ∧ st 1 = .int .i64 s ∧ st 2 = .vp 2 0 0 ∧ h 2 = some (.var 0 55 (.agg [.int .i64 n, u, v]))) ?_ ?_
      · simp
      rintro i st h hi ⟨h6, h5, h1, h2, e2⟩
      repeat' (first | (apply br_intro <;> intro hb <;> (have hb2 := hb) <;> (try simp [-Int.not_le, -Int.not_lt, -Nat.not_le, -Nat.not_lt, -Nat.add_left_cancel_iff] at hb2)) | (refine draw_listA (by rfl) (by kernel_rfl) ?_) | (refine draw_listB (by simp [allocsOf, isAlloc]; rfl) (by kernel_rfl) ?_) | simp (maxSteps := 2000000) (disch := first | omega | assumption | simp [*]) [*, -Int.not_le, -Int.not_lt, -Nat.not_le, -Nat.not_lt, -Nat.add_left_cancel_iff, wrap_i64, wrap_u64, h6, h5, h1, h2, e2, isI_cells hu, isI_one hu, isI_low hu, isI_cells hv, isI_one hv, isI_low hv])
  · have hv1 : certV n (xsOf u) (xsOf v) s = 0 := by unfold certV; rw [if_neg fun h => hp h.1]
    rw [hv1]
    repeat' (first | (apply br_intro <;> intro hb <;> (have hb2 := hb) <;> (try simp [-Int.not_le, -Int.not_lt, -Nat.not_le, -Nat.not_lt, -Nat.add_left_cancel_iff] at hb2)) | (refine draw_listA (by rfl) (by kernel_rfl) ?_) | (refine draw_listB (by simp [allocsOf, isAlloc]; rfl) (by kernel_rfl) ?_) | simp (maxSteps := 2000000) (disch := first | omega | assumption | simp [*]) [*, -Int.not_le, -Int.not_lt, -Nat.not_le, -Nat.not_lt, -Nat.add_left_cancel_iff, wrap_i64, wrap_u64, Try.f52, isI_cells hu, isI_one hu, isI_low hu, isI_cells hv, isI_one hv, isI_low hv])
    refine W_loopG 0 (fun i st h => st 6 = .int .i64 0 ∧ st 5 = .int .i64 0 ∧ st 1 = .int .i64 s ∧ st 2 = .vp 2 0 0 ∧ h 2 = some (.var 0 55 (.agg [.int .i64 n, u, v]))) ?_ ?_
    · simp
    rintro i st h hi ⟨h6, h5, h1, h2, e2⟩
    repeat' (first | (apply br_intro <;> intro hb <;> (have hb2 := hb) <;> (try simp [-Int.not_le, -Int.not_lt, -Nat.not_le, -Nat.not_lt, -Nat.add_left_cancel_iff] at hb2)) | (refine draw_listA (by rfl) (by kernel_rfl) ?_) | (refine draw_listB (by simp [allocsOf, isAlloc]; rfl) (by kernel_rfl) ?_) | simp (maxSteps := 2000000) (disch := first | omega | assumption | simp [*]) [*, -Int.not_le, -Int.not_lt, -Nat.not_le, -Nat.not_lt, -Nat.add_left_cancel_iff, wrap_i64, wrap_u64, h6, h5, h1, h2, e2, isI_cells hu, isI_one hu, isI_low hu, isI_cells hv, isI_one hv, isI_low hv])
theorem sCertainClosure_s {n s : Int} {u v : AV} (hu : IsI u) (hv : IsI v) {K : AV → Prop} {tg : Tg K} : CW env 52 [.agg [.int .i64 n, u, v], .int .i64 s] K tg ↔ K (.int .i64 (certV n (xsOf u) (xsOf v) s)) := callsTo_iff (sCertainClosure_c hu hv)
attribute [simp] sCertainClosure_s
theorem certain1_c {n s : Int} {m : Nat} {u v : AV} (hu : IsI u) (hv : IsI v) (hm : m < 8) : EvC env 105 [.int .i64 m, .cp true [.int .i64 n, u, v] 0, .cp true [.int .i64 s] 0] (.bool (certP n (xsOf u) (xsOf v) s m)) := by
  refine evC_of (F := Try.f105) rfl rfl (Nat.le_of_ble_eq_true rfl) ?_
  have hpw := pow_small (i := m) (by omega)
  repeat' (first | (apply br_intro <;> intro hb <;> (have hb2 := hb) <;> (try simp [-Int.not_le, -Int.not_lt, -Nat.not_le, -Nat.not_lt, -Nat.add_left_cancel_iff] at hb2)) | (refine draw_listA (by rfl) (by kernel_rfl) ?_) | (refine draw_listB (by simp [allocsOf, isAlloc]; rfl) (by kernel_rfl) ?_) | simp (maxSteps := 2000000) (disch := first | omega | assumption | simp [*]) [*, -Int.not_le, -Int.not_lt, -Nat.not_le, -Nat.not_lt, -Nat.add_left_cancel_iff, wrap_i64, wrap_u64, Try.f105, isI_cells hu, isI_one hu, isI_low hu, isI_low0 hu, isI_cells hv, isI_one hv, isI_low hv, isI_low0 hv])
  rfl
theorem certain1_s {n s : Int} {m : Nat} {u v : AV} (hu : IsI u) (hv : IsI v) (hm : m < 8) {K : AV → Prop} {tg : Tg K} : CW env 105 [.int .i64 m, .cp true [.int .i64 n, u, v] 0, .cp true [.int .i64 s] 0] K tg ↔ K (.bool (certP n (xsOf u) (xsOf v) s m)) := callsTo_iff (certain1_c hu hv hm)
attribute [simp] certain1_s
theorem iCertainClosure_c {n s : Int} {u v : AV} (hu : IsI u) (hv : IsI v) : EvC env 51 [.agg [.int .i64 n, u, v], .int .i64 s] (.int .i64 (certV n (xsOf u) (xsOf v) s)) := by
  refine evC_of (F := Try.f51) rfl rfl (Nat.le_of_ble_eq_true rfl) ?_
  by_cases hp : PPart n (xsOf u) (xsOf v)
  · by_cases hs : PSet n s = true
    · obtain ⟨N, rfl⟩ : ∃ N : Nat, n = N := ⟨n.toNat, by have := hp.1.1; omega⟩
      have hn := hp.1.2.1
      have hN8 : N ≤ 8 := by omega
      have hv1 : certV N (xsOf u) (xsOf v) s = setOf (certP N (xsOf u) (xsOf v) s) N := by unfold certV; rw [if_pos ⟨hp, hs⟩]; rfl
      rw [hv1]
      have hcs : ∀ (K : AV → Prop) (tg : Tg K), CW env 104 [.int .i64 N, .fn 105 [.cp true [.int .i64 N, u, v] 0, .cp true [.int .i64 s] 0]] K tg ↔ K (.int .i64 (setOf (certP N (xsOf u) (xsOf v) s) N)) :=
        fun K tg => callsTo_iff (accepted_c hN8 rfl rfl (fun h => by simp [isI_low hu, isI_low0 hu, isI_low hv, isI_low0 hv]) fun i hi => certain1_c hu hv (by omega))
      repeat' (first | (apply br_intro <;> intro hb <;> (have hb2 := hb) <;> (try simp [-Int.not_le, -Int.not_lt, -Nat.not_le, -Nat.not_lt, -Nat.add_left_cancel_iff] at hb2)) | (refine draw_listA (by rfl) (by kernel_rfl) ?_) | (refine draw_listB (by simp [allocsOf, isAlloc]; rfl) (by kernel_rfl) ?_) | simp (maxSteps := 2000000) (disch := first | omega | assumption | simp [*]) [*, -Int.not_le, -Int.not_lt, -Nat.not_le, -Nat.not_lt, -Nat.add_left_cancel_iff, wrap_i64, wrap_u64, Try.f51, isI_cells hu, isI_one hu, isI_low hu, isI_low0 hu, isI_cells hv, isI_one hv, isI_low hv, isI_low0 hv])
    · have hv1 : certV n (xsOf u) (xsOf v) s = 0 := by unfold certV; rw [if_neg fun h => hs h.2]
      rw [hv1]
      repeat' (first | (apply br_intro <;> intro hb <;> (have hb2 := hb) <;> (try simp [-Int.not_le, -Int.not_lt, -Nat.not_le, -Nat.not_lt, -Nat.add_left_cancel_iff] at hb2)) | (refine draw_listA (by rfl) (by kernel_rfl) ?_) | (refine draw_listB (by simp [allocsOf, isAlloc]; rfl) (by kernel_rfl) ?_) | simp (maxSteps := 2000000) (disch := first | omega | assumption | simp [*]) [*, -Int.not_le, -Int.not_lt, -Nat.not_le, -Nat.not_lt, -Nat.add_left_cancel_iff, wrap_i64, wrap_u64, Try.f51, isI_cells hu, isI_one hu, isI_low hu, isI_low0 hu, isI_cells hv, isI_one hv, isI_low hv, isI_low0 hv])
  · have hv1 : certV n (xsOf u) (xsOf v) s = 0 := by unfold certV; rw [if_neg fun h => hp h.1]
    rw [hv1]
    repeat' (first | (apply br_intro <;> intro hb <;> (have hb2 := hb) <;> (try simp [-Int.not_le, -Int.not_lt, -Nat.not_le, -Nat.not_lt, -Nat.add_left_cancel_iff] at hb2)) | (refine draw_listA (by rfl) (by kernel_rfl) ?_) | (refine draw_listB (by simp [allocsOf, isAlloc]; rfl) (by kernel_rfl) ?_) | simp (maxSteps := 2000000) (disch := first | omega | assumption | simp [*]) [*, -Int.not_le, -Int.not_lt, -Nat.not_le, -Nat.not_lt, -Nat.add_left_cancel_iff, wrap_i64, wrap_u64, Try.f51, isI_cells hu, isI_one hu, isI_low hu, isI_low0 hu, isI_cells hv, isI_one hv, isI_low hv, isI_low0 hv])
theorem iCertainClosure_s {n s : Int} {u v : AV} (hu : IsI u) (hv : IsI v) {K : AV → Prop} {tg : Tg K} : CW env 51 [.agg [.int .i64 n, u, v], .int .i64 s] K tg ↔ K (.int .i64 (certV n (xsOf u) (xsOf v) s)) := callsTo_iff (iCertainClosure_c hu hv)
attribute [simp] iCertainClosure_s
end Go.Proofs.Ytkkkgaapkibhkaa
