/- Partial contexts: the program's answers, and the laws. Conditions: none. -/
import Derived.Test.YtkkkgaapkibhkaaPart
namespace Go.Proofs.Ytkkkgaapkibhkaa
open Ev
set_option linter.unusedVariables false
set_option linter.unusedSimpArgs false
set_option maxHeartbeats 4000000

theorem iIsPartial_c {n : Int} {u v : AV} (hu : IsI u) (hv : IsI v) : EvC env 56 [.agg [.int .i64 n, u, v]] (.bool (decide (PPart n (xsOf u) (xsOf v)))) := by
  refine evC_of (F := Try.f56) rfl rfl (Nat.le_of_ble_eq_true rfl) ?_
  have := hu.len
  have := hv.len
  by_cases hp : PCtx n (xsOf u)
  · by_cases hq : PCtx n (xsOf v)
    · have p3 := hp.2.2.1
      have q3 := hq.2.2.1
      have ho := pairsTo_len (xsOf v) (xsOf v).length
      have hbl : ∀ (E : Env) (t : Nat), slT E t = true → lenV E t (bufLC 2 2 (pairsTo (xsOf v) (xsOf v).length)) = some (.int .i64 (pairsTo (xsOf v) (xsOf v).length).length) := fun E t ht => bufLC_len ht
      repeat' (first | (apply br_intro <;> intro hb <;> (have hb2 := hb) <;> (try simp [-Int.not_le, -Int.not_lt, -Nat.not_le, -Nat.not_lt, -Nat.add_left_cancel_iff] at hb2)) | (refine draw_listA (by rfl) (by kernel_rfl) ?_) | (refine draw_listB (by simp [allocsOf, isAlloc]; rfl) (by kernel_rfl) ?_) | simp (maxSteps := 2000000) (disch := first | omega | assumption | simp [*]) [*, -Int.not_le, -Int.not_lt, -Nat.not_le, -Nat.not_lt, -Nat.add_left_cancel_iff, wrap_i64, wrap_u64, Try.f56, isI_cells hu, isI_one hu, isI_low hu, isI_len hu, isI_index hu, isI_load hu, isI_cells hv, isI_one hv, isI_low hv, isI_len hv, isI_index hv, isI_load hv])
      · intro h; have := h.2.2.2.1; unfold opens at this; omega
      · have hlen : (xsOf u).length = (xsOf v).length := by omega
        refine W_loopP (xsOf u).length (fun i s => s 39 = .int .i64 i ∧ s 38 = .int .i64 (xsOf u).length ∧ s 37 = u ∧ s 1 = .vp 1 0 0 ∧ ∀ j, j < i → (nth (xsOf u) j).toNat &&& (nth (xsOf v) j).toNat = 0) rfl ?_ ?_
        · simp; omega
        rintro i s hi ⟨h39, h38, h37, h1, hj⟩
        by_cases hi2 : i < (xsOf u).length
        · have hi3 : i < (xsOf v).length := by omega
          have b1 := pctx_row hp hi2
          have b2 := pctx_row hq hi3
          repeat' (first | (apply br_intro <;> intro hb <;> (have hb2 := hb) <;> (try simp [-Int.not_le, -Int.not_lt, -Nat.not_le, -Nat.not_lt, -Nat.add_left_cancel_iff] at hb2)) | (refine draw_listA (by rfl) (by kernel_rfl) ?_) | (refine draw_listB (by simp [allocsOf, isAlloc]; rfl) (by kernel_rfl) ?_) | simp (maxSteps := 2000000) (disch := first | omega | assumption | simp [*]) [*, -Int.not_le, -Int.not_lt, -Nat.not_le, -Nat.not_lt, -Nat.add_left_cancel_iff, wrap_i64, wrap_u64, h39, h38, h37, h1, bits_and, isI_cells hu, isI_one hu, isI_low hu, isI_len hu, isI_index hu, isI_load hu, isI_cells hv, isI_one hv, isI_low hv, isI_len hv, isI_index hv, isI_load hv])
          · intro h; exact hb2 (h.2.2.2.2 i hi2)
          · intro j hj2
            by_cases e : j = i
            · subst e; exact hb2
            · exact hj j (by omega)
        · obtain rfl : i = (xsOf u).length := by omega
          repeat' (first | (apply br_intro <;> intro hb <;> (have hb2 := hb) <;> (try simp [-Int.not_le, -Int.not_lt, -Nat.not_le, -Nat.not_lt, -Nat.add_left_cancel_iff] at hb2)) | (refine draw_listA (by rfl) (by kernel_rfl) ?_) | (refine draw_listB (by simp [allocsOf, isAlloc]; rfl) (by kernel_rfl) ?_) | simp (maxSteps := 2000000) (disch := first | omega | assumption | simp [*]) [*, -Int.not_le, -Int.not_lt, -Nat.not_le, -Nat.not_lt, -Nat.add_left_cancel_iff, wrap_i64, wrap_u64, h39, h38, h37, h1, isI_cells hu, isI_one hu, isI_low hu, isI_len hu, isI_index hu, isI_load hu, isI_cells hv, isI_one hv, isI_low hv, isI_len hv, isI_index hv, isI_load hv])
          exact ⟨hp, hq, hlen, by unfold opens; omega, hj⟩
      · intro h; exact absurd h.2.2.1 (by omega)
    · have hc : ¬ PPart n (xsOf u) (xsOf v) := fun h => hq h.2.1
      repeat' (first | (apply br_intro <;> intro hb <;> (have hb2 := hb) <;> (try simp [-Int.not_le, -Int.not_lt, -Nat.not_le, -Nat.not_lt, -Nat.add_left_cancel_iff] at hb2)) | (refine draw_listA (by rfl) (by kernel_rfl) ?_) | (refine draw_listB (by simp [allocsOf, isAlloc]; rfl) (by kernel_rfl) ?_) | simp (maxSteps := 2000000) (disch := first | omega | assumption | simp [*]) [*, -Int.not_le, -Int.not_lt, -Nat.not_le, -Nat.not_lt, -Nat.add_left_cancel_iff, wrap_i64, wrap_u64, Try.f56, isI_cells hu, isI_one hu, isI_low hu, isI_len hu, isI_index hu, isI_load hu, isI_cells hv, isI_one hv, isI_low hv, isI_len hv, isI_index hv, isI_load hv])
  · have hc : ¬ PPart n (xsOf u) (xsOf v) := fun h => hp h.1
    repeat' (first | (apply br_intro <;> intro hb <;> (have hb2 := hb) <;> (try simp [-Int.not_le, -Int.not_lt, -Nat.not_le, -Nat.not_lt, -Nat.add_left_cancel_iff] at hb2)) | (refine draw_listA (by rfl) (by kernel_rfl) ?_) | (refine draw_listB (by simp [allocsOf, isAlloc]; rfl) (by kernel_rfl) ?_) | simp (maxSteps := 2000000) (disch := first | omega | assumption | simp [*]) [*, -Int.not_le, -Int.not_lt, -Nat.not_le, -Nat.not_lt, -Nat.add_left_cancel_iff, wrap_i64, wrap_u64, Try.f56, isI_cells hu, isI_one hu, isI_low hu, isI_len hu, isI_index hu, isI_load hu, isI_cells hv, isI_one hv, isI_low hv, isI_len hv, isI_index hv, isI_load hv])
theorem iIsPartial_s {n : Int} {u v : AV} (hu : IsI u) (hv : IsI v) {K : AV → Prop} {tg : Tg K} : CW env 56 [.agg [.int .i64 n, u, v]] K tg ↔ K (.bool (decide (PPart n (xsOf u) (xsOf v)))) := callsTo_iff (iIsPartial_c hu hv)
attribute [simp] iIsPartial_s
theorem sCountCompletions_c {n : Int} {u v : AV} (hu : IsI u) (hv : IsI v) : EvC env 55 [.agg [.int .i64 n, u, v]] (.int .i64 (if PPart n (xsOf u) (xsOf v) then 2 ^ opens (xsOf v) else 0)) := by
  refine evC_of (F := Try.f55) rfl rfl (Nat.le_of_ble_eq_true rfl) ?_
  by_cases hc : PPart n (xsOf u) (xsOf v)
  · have h1 := hc.2.2.2.1
    have h2 := hc.2.1.2.2.1
    repeat' (first | (apply br_intro <;> intro hb <;> (have hb2 := hb) <;> (try simp [-Int.not_le, -Int.not_lt, -Nat.not_le, -Nat.not_lt, -Nat.add_left_cancel_iff] at hb2)) | (refine draw_listA (by rfl) (by kernel_rfl) ?_) | (refine draw_listB (by simp [allocsOf, isAlloc]; rfl) (by kernel_rfl) ?_) | simp (maxSteps := 2000000) (disch := first | omega | assumption | simp [*]) [*, -Int.not_le, -Int.not_lt, -Nat.not_le, -Nat.not_lt, -Nat.add_left_cancel_iff, wrap_i64, wrap_u64, Try.f55, isI_cells hu, isI_one hu, isI_low hu, isI_len hu, isI_index hu, isI_load hu, isI_cells hv, isI_one hv, isI_low hv, isI_len hv, isI_index hv, isI_load hv])
  · repeat' (first | (apply br_intro <;> intro hb <;> (have hb2 := hb) <;> (try simp [-Int.not_le, -Int.not_lt, -Nat.not_le, -Nat.not_lt, -Nat.add_left_cancel_iff] at hb2)) | (refine draw_listA (by rfl) (by kernel_rfl) ?_) | (refine draw_listB (by simp [allocsOf, isAlloc]; rfl) (by kernel_rfl) ?_) | simp (maxSteps := 2000000) (disch := first | omega | assumption | simp [*]) [*, -Int.not_le, -Int.not_lt, -Nat.not_le, -Nat.not_lt, -Nat.add_left_cancel_iff, wrap_i64, wrap_u64, Try.f55, isI_cells hu, isI_one hu, isI_low hu, isI_len hu, isI_index hu, isI_load hu, isI_cells hv, isI_one hv, isI_low hv, isI_len hv, isI_index hv, isI_load hv])
theorem sCountCompletions_s {n : Int} {u v : AV} (hu : IsI u) (hv : IsI v) {K : AV → Prop} {tg : Tg K} : CW env 55 [.agg [.int .i64 n, u, v]] K tg ↔ K (.int .i64 (if PPart n (xsOf u) (xsOf v) then 2 ^ opens (xsOf v) else 0)) := callsTo_iff (sCountCompletions_c hu hv)
attribute [simp] sCountCompletions_s
theorem iCountCompletions_c {n : Int} {u v : AV} (hu : IsI u) (hv : IsI v) : EvC env 54 [.agg [.int .i64 n, u, v]] (.int .i64 (if PPart n (xsOf u) (xsOf v) then 2 ^ opens (xsOf v) else 0)) := by
  refine evC_of (F := Try.f54) rfl rfl (Nat.le_of_ble_eq_true rfl) ?_
  by_cases hc : PPart n (xsOf u) (xsOf v)
  · have h1 := hc.2.2.2.1
    have h2 := hc.2.1.2.2.1
    have ho := pairsTo_len (xsOf v) (xsOf v).length
    have ho2 : opensTo (xsOf v) (xsOf v).length = opens (xsOf v) := rfl
    have hbl : ∀ (E : Env) (t : Nat), slT E t = true → lenV E t (bufLC 2 2 (pairsTo (xsOf v) (xsOf v).length)) = some (.int .i64 (pairsTo (xsOf v) (xsOf v).length).length) := fun E t ht => bufLC_len ht
    repeat' (first | (apply br_intro <;> intro hb <;> (have hb2 := hb) <;> (try simp [-Int.not_le, -Int.not_lt, -Nat.not_le, -Nat.not_lt, -Nat.add_left_cancel_iff] at hb2)) | (refine draw_listA (by rfl) (by kernel_rfl) ?_) | (refine draw_listB (by simp [allocsOf, isAlloc]; rfl) (by kernel_rfl) ?_) | simp (maxSteps := 2000000) (disch := first | omega | assumption | simp [*]) [*, -Int.not_le, -Int.not_lt, -Nat.not_le, -Nat.not_lt, -Nat.add_left_cancel_iff, wrap_i64, wrap_u64, Try.f54, isI_cells hu, isI_one hu, isI_low hu, isI_len hu, isI_index hu, isI_load hu, isI_cells hv, isI_one hv, isI_low hv, isI_len hv, isI_index hv, isI_load hv])
  · repeat' (first | (apply br_intro <;> intro hb <;> (have hb2 := hb) <;> (try simp [-Int.not_le, -Int.not_lt, -Nat.not_le, -Nat.not_lt, -Nat.add_left_cancel_iff] at hb2)) | (refine draw_listA (by rfl) (by kernel_rfl) ?_) | (refine draw_listB (by simp [allocsOf, isAlloc]; rfl) (by kernel_rfl) ?_) | simp (maxSteps := 2000000) (disch := first | omega | assumption | simp [*]) [*, -Int.not_le, -Int.not_lt, -Nat.not_le, -Nat.not_lt, -Nat.add_left_cancel_iff, wrap_i64, wrap_u64, Try.f54, isI_cells hu, isI_one hu, isI_low hu, isI_len hu, isI_index hu, isI_load hu, isI_cells hv, isI_one hv, isI_low hv, isI_len hv, isI_index hv, isI_load hv])
theorem iCountCompletions_s {n : Int} {u v : AV} (hu : IsI u) (hv : IsI v) {K : AV → Prop} {tg : Tg K} : CW env 54 [.agg [.int .i64 n, u, v]] K tg ↔ K (.int .i64 (if PPart n (xsOf u) (xsOf v) then 2 ^ opens (xsOf v) else 0)) := callsTo_iff (iCountCompletions_c hu hv)
attribute [simp] iCountCompletions_s
end Go.Proofs.Ytkkkgaapkibhkaa
