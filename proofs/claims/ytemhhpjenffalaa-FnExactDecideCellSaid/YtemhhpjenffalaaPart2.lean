/- Partial contexts: the program's answers, and the laws. Conditions: none. -/
import Derived.Test.YtemhhpjenffalaaPart
namespace Go.Proofs.Ytemhhpjenffalaa
open Ev
set_option linter.unusedVariables false
set_option linter.unusedSimpArgs false
set_option maxHeartbeats 4000000

theorem iIsPartial_c {n : Int} {u v : AV} (hu : IsI u) (hv : IsI v) : EvC env 60 [.agg [.int .i64 n, u, v]] (.bool (decide (PPart n (xsOf u) (xsOf v)))) := by
  refine evC_of (F := Try.f60) rfl rfl (Nat.le_of_ble_eq_true rfl) ?_
  have := hu.len
  have := hv.len
  by_cases hp : PCtx n (xsOf u)
  · by_cases hq : PCtx n (xsOf v)
    · have p3 := hp.2.2.1
      have q3 := hq.2.2.1
      have ho := pairsTo_len (xsOf v) (xsOf v).length
      have hbl : ∀ (E : Env) (t : Nat), slT E t = true → lenV E t (bufLC 2 2 (pairsTo (xsOf v) (xsOf v).length)) = some (.int .i64 (pairsTo (xsOf v) (xsOf v).length).length) := fun E t ht => bufLC_len ht
      repeat' (first | (apply br_intro <;> intro hb <;> (have hb2 := hb) <;> (try simp [-Int.not_le, -Int.not_lt, -Nat.not_le, -Nat.not_lt, -Nat.add_left_cancel_iff] at hb2)) | (refine draw_listA (by rfl) (by kernel_rfl) ?_) | (refine draw_listB (by simp [allocsOf, isAlloc]; rfl) (by kernel_rfl) ?_) | simp (maxSteps := 2000000) (disch := first | omega | assumption | simp [*]) [*, -Int.not_le, -Int.not_lt, -Nat.not_le, -Nat.not_lt, -Nat.add_left_cancel_iff, wrap_i64, wrap_u64, Try.f60, isI_cells hu, isI_one hu, isI_low hu, isI_len hu, isI_index hu, isI_load hu, isI_cells hv, isI_one hv, isI_low hv, isI_len hv, isI_index hv, isI_load hv])
      · intro h; have := h.2.2.2.1; unfold opens at this; omega
      · have hlen : (xsOf u).length = (xsOf v).length := by omega
        refine W_loopP (xsOf u).length (fun i s => s 39 = .int .i64 i ∧ s 38 = .int .i64 (xsOf u).length ∧ s 37 = u ∧ s 1 = .vp 1 0 0 ∧ ∀ j, j < i → (nth (xsOf u) j).toNat &&& (nth (xsOf v) j).toNat = 0) rfl ?_ ?_
        · simp; omega
        rintro i s hi ⟨h39, h38, h37, h1, hj⟩
        by_cases hi2 : i < (xsOf u).length
        · have hi3 : i < (xsOf v).length := by omega
          have b1 := pctx_row hp hi2
          have b2 := pctx_row hq hi3
          repeat' (first | (apply br_intro <;> intro hb <;> (have hb2 := hb) <;> (try simp [-Int.not_le, -Int.not_lt, -Nat.not_le, -Nat.not_lt, -Nat.add_left_cancel_iff] at hb2)) | (refine draw_listA (by rfl) (by kernel_rfl) ?_) | (refine draw_listB (by simp [allocsOf, isAlloc]; rfl) (by kernel_rfl) ?_) | simp (maxSteps := 2000000) (disch := first | omega | assumption | simp [*]) [*, -Int.not_le, -Int.not_lt, -Nat.not_le, -Nat.not_lt, -Nat.add_left_cancel_iff, wrap_i64, wrap_u64, h39, h38, h37, h1, bits_and, isI_cells hu, isI_one hu, isI_low hu, isI_len hu, isI_index hu, isI_load hu, isI_cells hv, isI_one hv, isI_low hv, isI_len hv, isI_index hv, isI_load hv])
          · intro h; exact hb2 (h.2.2.2.2 i hi2)
          · intro j hj2
            by_cases e : j = i
            · subst e; exact hb2
            · exact hj j (by omega)
        · obtain rfl : i = (xsOf u).length := by omega
          repeat' (first | (apply br_intro <;> intro hb <;> (have hb2 := hb) <;> (try simp [-Int.not_le, -Int.not_lt, -Nat.not_le, -Nat.not_lt, -Nat.add_left_cancel_iff] at hb2)) | (refine draw_listA (by rfl) (by kernel_rfl) ?_) | (refine draw_listB (by simp [allocsOf, isAlloc]; rfl) (by kernel_rfl) ?_) | simp (maxSteps := 2000000) (disch := first | omega | assumption | simp [*]) [*, -Int.not_le, -Int.not_lt, -Nat.not_le, -Nat.not_lt, -Nat.add_left_cancel_iff, wrap_i64, wrap_u64, h39, h38, h37, h1, isI_cells hu, isI_one hu, isI_low hu, isI_len hu, isI_index hu, isI_load hu, isI_cells hv, isI_one hv, isI_low hv, isI_len hv, isI_index hv, isI_load hv])
          exact ⟨hp, hq, hlen, by unfold opens; omega, hj⟩
      · intro h; exact absurd h.2.2.1 (by omega)
    · have hc : ¬ PPart n (xsOf u) (xsOf v) := fun h => hq h.2.1
      repeat' (first | (apply br_intro <;> intro hb <;> (have hb2 := hb) <;> (try simp [-Int.not_le, -Int.not_lt, -Nat.not_le, -Nat.not_lt, -Nat.add_left_cancel_iff] at hb2)) | (refine draw_listA (by rfl) (by kernel_rfl) ?_) | (refine draw_listB (by simp [allocsOf, isAlloc]; rfl) (by kernel_rfl) ?_) | simp (maxSteps := 2000000) (disch := first | omega | assumption | simp [*]) [*, -Int.not_le, -Int.not_lt, -Nat.not_le, -Nat.not_lt, -Nat.add_left_cancel_iff, wrap_i64, wrap_u64, Try.f60, isI_cells hu, isI_one hu, isI_low hu, isI_len hu, isI_index hu, isI_load hu, isI_cells hv, isI_one hv, isI_low hv, isI_len hv, isI_index hv, isI_load hv])
  · have hc : ¬ PPart n (xsOf u) (xsOf v) := fun h => hp h.1
    repeat' (first | (apply br_intro <;> intro hb <;> (have hb2 := hb) <;> (try simp [-Int.not_le, -Int.not_lt, -Nat.not_le, -Nat.not_lt, -Nat.add_left_cancel_iff] at hb2)) | (refine draw_listA (by rfl) (by kernel_rfl) ?_) | (refine draw_listB (by simp [allocsOf, isAlloc]; rfl) (by kernel_rfl) ?_) | simp (maxSteps := 2000000) (disch := first | omega | assumption | simp [*]) [*, -Int.not_le, -Int.not_lt, -Nat.not_le, -Nat.not_lt, -Nat.add_left_cancel_iff, wrap_i64, wrap_u64, Try.f60, isI_cells hu, isI_one hu, isI_low hu, isI_len hu, isI_index hu, isI_load hu, isI_cells hv, isI_one hv, isI_low hv, isI_len hv, isI_index hv, isI_load hv])
theorem iIsPartial_s {n : Int} {u v : AV} (hu : IsI u) (hv : IsI v) {K : AV → Prop} {tg : Tg K} : CW env 60 [.agg [.int .i64 n, u, v]] K tg ↔ K (.bool (decide (PPart n (xsOf u) (xsOf v)))) := callsTo_iff (iIsPartial_c hu hv)
attribute [simp] iIsPartial_s
theorem sCountCompletions_c {n : Int} {u v : AV} (hu : IsI u) (hv : IsI v) : EvC env 52 [.agg [.int .i64 n, u, v]] (.int .i64 (if PPart n (xsOf u) (xsOf v) then 2 ^ opens (xsOf v) else 0)) := by
  refine evC_of (F := Try.f52) rfl rfl (Nat.le_of_ble_eq_true rfl) ?_
  by_cases hc : PPart n (xsOf u) (xsOf v)
  · have h1 := hc.2.2.2.1
    have h2 := hc.2.1.2.2.1
    repeat' (first | (apply br_intro <;> intro hb <;> (have hb2 := hb) <;> (try simp [-Int.not_le, -Int.not_lt, -Nat.not_le, -Nat.not_lt, -Nat.add_left_cancel_iff] at hb2)) | (refine draw_listA (by rfl) (by kernel_rfl) ?_) | (refine draw_listB (by simp [allocsOf, isAlloc]; rfl) (by kernel_rfl) ?_) | simp (maxSteps := 2000000) (disch := first | omega | assumption | simp [*]) [*, -Int.not_le, -Int.not_lt, -Nat.not_le, -Nat.not_lt, -Nat.add_left_cancel_iff, wrap_i64, wrap_u64, Try.f52, isI_cells hu, isI_one hu, isI_low hu, isI_len hu, isI_index hu, isI_load hu, isI_cells hv, isI_one hv, isI_low hv, isI_len hv, isI_index hv, isI_load hv])
  · repeat' (first | (apply br_intro <;> intro hb <;> (have hb2 := hb) <;> (try simp [-Int.not_le, -Int.not_lt, -Nat.not_le, -Nat.not_lt, -Nat.add_left_cancel_iff] at hb2)) | (refine draw_listA (by rfl) (by kernel_rfl) ?_) | (refine draw_listB (by simp [allocsOf, isAlloc]; rfl) (by kernel_rfl) ?_) | simp (maxSteps := 2000000) (disch := first | omega | assumption | simp [*]) [*, -Int.not_le, -Int.not_lt, -Nat.not_le, -Nat.not_lt, -Nat.add_left_cancel_iff, wrap_i64, wrap_u64, Try.f52, isI_cells hu, isI_one hu, isI_low hu, isI_len hu, isI_index hu, isI_load hu, isI_cells hv, isI_one hv, isI_low hv, isI_len hv, isI_index hv, isI_load hv])
theorem sCountCompletions_s {n : Int} {u v : AV} (hu : IsI u) (hv : IsI v) {K : AV → Prop} {tg : Tg K} : CW env 52 [.agg [.int .i64 n, u, v]] K tg ↔ K (.int .i64 (if PPart n (xsOf u) (xsOf v) then 2 ^ opens (xsOf v) else 0)) := callsTo_iff (sCountCompletions_c hu hv)
attribute [simp] sCountCompletions_s
theorem iCountCompletions_c {n : Int} {u v : AV} (hu : IsI u) (hv : IsI v) : EvC env 54 [.agg [.int .i64 n, u, v]] (.int .i64 (if PPart n (xsOf u) (xsOf v) then 2 ^ opens (xsOf v) else 0)) := by
  refine evC_of (F := Try.f54) rfl rfl (Nat.le_of_ble_eq_true rfl) ?_
  by_cases hc : PPart n (xsOf u) (xsOf v)
  · have h1 := hc.2.2.2.1
    have h2 := hc.2.1.2.2.1
    have ho := pairsTo_len (xsOf v) (xsOf v).length
    have ho2 : opensTo (xsOf v) (xsOf v).length = opens (xsOf v) := rfl
    have hbl : ∀ (E : Env) (t : Nat), slT E t = true → lenV E t (bufLC 2 2 (pairsTo (xsOf v) (xsOf v).length)) = some (.int .i64 (pairsTo (xsOf v) (xsOf v).length).length) := fun E t ht => bufLC_len ht
    repeat' (first | (apply br_intro <;> intro hb <;> (have hb2 := hb) <;> (try simp [-Int.not_le, -Int.not_lt, -Nat.not_le, -Nat.not_lt, -Nat.add_left_cancel_iff] at hb2)) | (refine draw_listA (by rfl) (by kernel_rfl) ?_) | (refine draw_listB (by simp [allocsOf, isAlloc]; rfl) (by kernel_rfl) ?_) | simp (maxSteps := 2000000) (disch := first | omega | assumption | simp [*]) [*, -Int.not_le, -Int.not_lt, -Nat.not_le, -Nat.not_lt, -Nat.add_left_cancel_iff, wrap_i64, wrap_u64, Try.f54, isI_cells hu, isI_one hu, isI_low hu, isI_len hu, isI_index hu, isI_load hu, isI_cells hv, isI_one hv, isI_low hv, isI_len hv, isI_index hv, isI_load hv])
  · repeat' (first | (apply br_intro <;> intro hb <;> (have hb2 := hb) <;> (try simp [-Int.not_le, -Int.not_lt, -Nat.not_le, -Nat.not_lt, -Nat.add_left_cancel_iff] at hb2)) | (refine draw_listA (by rfl) (by kernel_rfl) ?_) | (refine draw_listB (by simp [allocsOf, isAlloc]; rfl) (by kernel_rfl) ?_) | simp (maxSteps := 2000000) (disch := first | omega | assumption | simp [*]) [*, -Int.not_le, -Int.not_lt, -Nat.not_le, -Nat.not_lt, -Nat.add_left_cancel_iff, wrap_i64, wrap_u64, Try.f54, isI_cells hu, isI_one hu, isI_low hu, isI_len hu, isI_index hu, isI_load hu, isI_cells hv, isI_one hv, isI_low hv, isI_len hv, isI_index hv, isI_load hv])
theorem iCountCompletions_s {n : Int} {u v : AV} (hu : IsI u) (hv : IsI v) {K : AV → Prop} {tg : Tg K} : CW env 54 [.agg [.int .i64 n, u, v]] K tg ↔ K (.int .i64 (if PPart n (xsOf u) (xsOf v) then 2 ^ opens (xsOf v) else 0)) := callsTo_iff (iCountCompletions_c hu hv)
attribute [simp] iCountCompletions_s
theorem szPartial_c {m n : Int} {u v : AV} (hu : IsI u) (hv : IsI v) (h0 : 0 ≤ n) (h1 : n ≤ 1048576) : EvC env 17 [.agg [.int .i64 m, u, v], .int .i64 n] (.int .i64 (if n < (xsOf u).length + (xsOf v).length then -1 else n - ((xsOf u).length + (xsOf v).length))) := by
  refine evC_of (F := Try.f17) rfl rfl (Nat.le_of_ble_eq_true rfl) ?_
  have := hu.len
  have := hv.len
  repeat' (first | (apply br_intro <;> intro hb <;> (have hb2 := hb) <;> (try simp [-Int.not_le, -Int.not_lt, -Nat.not_le, -Nat.not_lt, -Nat.add_left_cancel_iff] at hb2)) | (refine draw_listA (by rfl) (by kernel_rfl) ?_) | (refine draw_listB (by simp [allocsOf, isAlloc]; rfl) (by kernel_rfl) ?_) | simp (maxSteps := 2000000) (disch := first | omega | assumption | simp [*]) [*, -Int.not_le, -Int.not_lt, -Nat.not_le, -Nat.not_lt, -Nat.add_left_cancel_iff, wrap_i64, wrap_u64, Try.f17, isI_cells hu, isI_one hu, isI_low hu, isI_len hu, isI_index hu, isI_load hu, isI_cells hv, isI_one hv, isI_low hv, isI_len hv, isI_index hv, isI_load hv])
  all_goals grind
theorem szPartial_s {m n : Int} {u v : AV} (hu : IsI u) (hv : IsI v) (h0 : 0 ≤ n) (h1 : n ≤ 1048576) {K : AV → Prop} {tg : Tg K} : CW env 17 [.agg [.int .i64 m, u, v], .int .i64 n] K tg ↔ K (.int .i64 (if n < (xsOf u).length + (xsOf v).length then -1 else n - ((xsOf u).length + (xsOf v).length))) := callsTo_iff (szPartial_c hu hv h0 h1)
attribute [simp] szPartial_s
theorem toPartial_c {m : Int} {u v : AV} (hu : IsI u) (hv : IsI v) (hl : (xsOf u).length ≤ 1048576) (hl2 : (xsOf v).length ≤ 1048576) : EvC env 19 [.agg [.int .i64 m, u, v]] (.agg [.int .i64 m, rowR 1 3 9 (ints (xsOf u)), rowR 1 3 13 (ints (xsOf v))]) := by
  refine evC_of (F := Try.f19) rfl rfl (Nat.le_of_ble_eq_true rfl) ?_
  have := hu.len
  have := hv.len
  repeat' (first | (apply br_intro <;> intro hb <;> (have hb2 := hb) <;> (try simp [-Int.not_le, -Int.not_lt, -Nat.not_le, -Nat.not_lt, -Nat.add_left_cancel_iff] at hb2)) | (refine draw_listA (by rfl) (by kernel_rfl) ?_) | (refine draw_listB (by simp [allocsOf, isAlloc]; rfl) (by kernel_rfl) ?_) | simp (maxSteps := 2000000) (disch := first | omega | assumption | simp [*]) [*, -Int.not_le, -Int.not_lt, -Nat.not_le, -Nat.not_lt, -Nat.add_left_cancel_iff, wrap_i64, wrap_u64, Try.f19, isI_cells hu, isI_one hu, isI_low hu, isI_len hu, isI_index hu, isI_load hu, isI_cells hv, isI_one hv, isI_low hv, isI_len hv, isI_index hv, isI_load hv])
  refine cf_row (by simpa [isI_low hu] using toIntS_c hu hl) (ownR_row ..) (by simp) rfl ?_
  intro v2 h2 hR hh
  have o2 := hR.one
  have c2 := hR.cells
  repeat' (first | (apply br_intro <;> intro hb <;> (have hb2 := hb) <;> (try simp [-Int.not_le, -Int.not_lt, -Nat.not_le, -Nat.not_lt, -Nat.add_left_cancel_iff] at hb2)) | (refine draw_listA (by rfl) (by kernel_rfl) ?_) | (refine draw_listB (by simp [allocsOf, isAlloc]; rfl) (by kernel_rfl) ?_) | simp (maxSteps := 2000000) (disch := first | omega | assumption | simp [*]) [*, -Int.not_le, -Int.not_lt, -Nat.not_le, -Nat.not_lt, -Nat.add_left_cancel_iff, wrap_i64, wrap_u64, isI_cells hu, isI_one hu, isI_low hu, isI_len hu, isI_index hu, isI_load hu, isI_cells hv, isI_one hv, isI_low hv, isI_len hv, isI_index hv, isI_load hv])
  refine cf_row (by simpa [isI_low hv] using toIntS_c hv hl2) (ownR_row ..) (by simp) rfl ?_
  intro v3 h3 hR3 hh3
  have o3 := hR3.one
  have c3 := hR3.cells
  repeat' (first | (apply br_intro <;> intro hb <;> (have hb2 := hb) <;> (try simp [-Int.not_le, -Int.not_lt, -Nat.not_le, -Nat.not_lt, -Nat.add_left_cancel_iff] at hb2)) | (refine draw_listA (by rfl) (by kernel_rfl) ?_) | (refine draw_listB (by simp [allocsOf, isAlloc]; rfl) (by kernel_rfl) ?_) | simp (maxSteps := 2000000) (disch := first | omega | assumption | simp [*]) [*, -Int.not_le, -Int.not_lt, -Nat.not_le, -Nat.not_lt, -Nat.add_left_cancel_iff, wrap_i64, wrap_u64])
  exact ⟨by rw [(hR.keep (by simp [hset, hh3])).expoI, rowX_row], by rw [(hR3.keep (by simp [hset])).expoI, rowX_row]⟩
theorem toPartial_s {m : Int} {u v : AV} (hu : IsI u) (hv : IsI v) (hl : (xsOf u).length ≤ 1048576) (hl2 : (xsOf v).length ≤ 1048576) {K : AV → Prop} {tg : Tg K} : CW env 19 [.agg [.int .i64 m, u, v]] K tg ↔ K (.agg [.int .i64 m, rowR 1 3 9 (ints (xsOf u)), rowR 1 3 13 (ints (xsOf v))]) := callsTo_iff (toPartial_c hu hv hl hl2)
attribute [simp] toPartial_s
theorem eqPartial_c {m m2 : Int} {u v u2 v2 : AV} (hu : IsI u) (hv : IsI v) (hu2 : IsI u2) (hv2 : IsI v2) : EvC env 21 [.agg [.int .i64 m, u, v], .agg [.int .i64 m2, u2, v2]] (.bool (decide (m = m2 ∧ xsOf u = xsOf u2 ∧ xsOf v = xsOf v2))) := by
  refine evC_of (F := Try.f21) rfl rfl (Nat.le_of_ble_eq_true rfl) ?_
  repeat' (first | (apply br_intro <;> intro hb <;> (have hb2 := hb) <;> (try simp [-Int.not_le, -Int.not_lt, -Nat.not_le, -Nat.not_lt, -Nat.add_left_cancel_iff] at hb2)) | (refine draw_listA (by rfl) (by kernel_rfl) ?_) | (refine draw_listB (by simp [allocsOf, isAlloc]; rfl) (by kernel_rfl) ?_) | simp (maxSteps := 2000000) (disch := first | omega | assumption | simp [*]) [*, -Int.not_le, -Int.not_lt, -Nat.not_le, -Nat.not_lt, -Nat.add_left_cancel_iff, wrap_i64, wrap_u64, Try.f21, isI_cells hu, isI_one hu, isI_low hu, isI_len hu, isI_index hu, isI_load hu, isI_cells hv, isI_one hv, isI_low hv, isI_len hv, isI_index hv, isI_load hv, isI_cells hu2, isI_one hu2, isI_low hu2, isI_cells hv2, isI_one hv2, isI_low hv2])
theorem eqPartial_s {m m2 : Int} {u v u2 v2 : AV} (hu : IsI u) (hv : IsI v) (hu2 : IsI u2) (hv2 : IsI v2) {K : AV → Prop} {tg : Tg K} : CW env 21 [.agg [.int .i64 m, u, v], .agg [.int .i64 m2, u2, v2]] K tg ↔ K (.bool (decide (m = m2 ∧ xsOf u = xsOf u2 ∧ xsOf v = xsOf v2))) := callsTo_iff (eqPartial_c hu hv hu2 hv2)
attribute [simp] eqPartial_s
end Go.Proofs.Ytemhhpjenffalaa
