/- What the great laws compare with. Conditions: none. -/
import Derived.Test.YtliecnadoklgoaaGreatDoorDraw
namespace Go.Proofs.YtliecnadoklgoaaGreatDoor
open Ev
set_option linter.unusedVariables false
set_option linter.unusedSimpArgs false
set_option maxHeartbeats 4000000
set_option maxRecDepth 100000

theorem big_c {b : AV} (hB : IsB b) : EvC env 8 [b] (.bool (decide (1048576 < bLen b))) := by
  refine evC_of (F := Tryz.f8) rfl rfl (Nat.le_of_ble_eq_true rfl) ?_
  repeat' (first | (apply brI <;> intro hb hb2 <;> (try simp [-Int.not_le, -Int.not_lt, -Nat.not_le, -Nat.not_lt, -Nat.add_left_cancel_iff] at hb2)) | (refine draw_listA (by rfl) (by kernel_rfl) ?_) | (refine draw_listB (by simp [allocsOf, isAlloc]; rfl) (by kernel_rfl) ?_) | simp (maxSteps := 2000000) (disch := first | omega | assumption | simp [*]) [*, -Int.not_le, -Int.not_lt, -Nat.not_le, -Nat.not_lt, -Nat.add_left_cancel_iff, wrap_i64, wrap_u64, Tryz.f8, isB_len hB])
  all_goals first | omega | skip
theorem big_s {b : AV} (hB : IsB b) {K : AV → Prop} {tg : Tg K} : CW env 8 [b] K tg ↔ K (.bool (decide (1048576 < bLen b))) := callsTo_iff (big_c hB)
attribute [simp] big_s
theorem sameInts_c {u v : AV} (hu : IsI u) (hv : IsI v) : EvC env 22 [u, v] (.bool (decide (xsOf u = xsOf v))) := by
  refine evC_of (F := Tryz.f22) rfl rfl (Nat.le_of_ble_eq_true rfl) ?_
  have := hu.len
  have := hv.len
  by_cases hl : (xsOf u).length = (xsOf v).length
  · have hli : ((xsOf u).length : Int) = (xsOf v).length := by omega
    repeat' (first | (apply brI <;> intro hb hb2 <;> (try simp [-Int.not_le, -Int.not_lt, -Nat.not_le, -Nat.not_lt, -Nat.add_left_cancel_iff] at hb2)) | (refine draw_listA (by rfl) (by kernel_rfl) ?_) | (refine draw_listB (by simp [allocsOf, isAlloc]; rfl) (by kernel_rfl) ?_) | simp (maxSteps := 2000000) (disch := first | omega | assumption | simp [*]) [*, -Int.not_le, -Int.not_lt, -Nat.not_le, -Nat.not_lt, -Nat.add_left_cancel_iff, wrap_i64, wrap_u64, Tryz.f22, isI_len hu, isI_len hv])
    refine W_loopP (xsOf u).length (fun i s => s 5 = .int .i64 i ∧ s 0 = u ∧ s 1 = v ∧ ∀ j, j < i → nth (xsOf u) j = nth (xsOf v) j) rfl ?_ ?_
    · simp
    rintro i s hi ⟨h3, h0, h1, hj⟩
    by_cases hi2 : i < (xsOf u).length
    · have hi3 : i < (xsOf v).length := by omega
      by_cases he : nth (xsOf u) i = nth (xsOf v) i
      · have hj2 : ∀ j, j < i + 1 → nth (xsOf u) j = nth (xsOf v) j := fun j hj9 => by
          by_cases e : j = i
          · subst e; exact he
          · exact hj j (by omega)
        clear hj
        repeat' (first | (apply brI <;> intro hb hb2 <;> (try simp [-Int.not_le, -Int.not_lt, -Nat.not_le, -Nat.not_lt, -Nat.add_left_cancel_iff] at hb2)) | (refine draw_listA (by rfl) (by kernel_rfl) ?_) | (refine draw_listB (by simp [allocsOf, isAlloc]; rfl) (by kernel_rfl) ?_) | simp (maxSteps := 2000000) (disch := first | omega | assumption | simp [*]) [*, -Int.not_le, -Int.not_lt, -Nat.not_le, -Nat.not_lt, -Nat.add_left_cancel_iff, wrap_i64, wrap_u64, h3, h0, h1, isI_len hu, isI_len hv, isI_index hu, isI_index hv, isI_load hu, isI_load hv])
        exact hj2
      · have hne : ¬ xsOf u = xsOf v := fun e => he (by rw [e])
        clear hj
        repeat' (first | (apply brI <;> intro hb hb2 <;> (try simp [-Int.not_le, -Int.not_lt, -Nat.not_le, -Nat.not_lt, -Nat.add_left_cancel_iff] at hb2)) | (refine draw_listA (by rfl) (by kernel_rfl) ?_) | (refine draw_listB (by simp [allocsOf, isAlloc]; rfl) (by kernel_rfl) ?_) | simp (maxSteps := 2000000) (disch := first | omega | assumption | simp [*]) [*, -Int.not_le, -Int.not_lt, -Nat.not_le, -Nat.not_lt, -Nat.add_left_cancel_iff, wrap_i64, wrap_u64, h3, h0, h1, isI_len hu, isI_len hv, isI_index hu, isI_index hv, isI_load hu, isI_load hv])
    · obtain rfl : i = (xsOf u).length := by omega
      have hyes : xsOf u = xsOf v := list_ext hl hj
      clear hj
      repeat' (first | (apply brI <;> intro hb hb2 <;> (try simp [-Int.not_le, -Int.not_lt, -Nat.not_le, -Nat.not_lt, -Nat.add_left_cancel_iff] at hb2)) | (refine draw_listA (by rfl) (by kernel_rfl) ?_) | (refine draw_listB (by simp [allocsOf, isAlloc]; rfl) (by kernel_rfl) ?_) | simp (maxSteps := 2000000) (disch := first | omega | assumption | simp [*]) [*, -Int.not_le, -Int.not_lt, -Nat.not_le, -Nat.not_lt, -Nat.add_left_cancel_iff, wrap_i64, wrap_u64, h3, h0, h1, isI_len hu, isI_len hv])
  · have hne : ¬ xsOf u = xsOf v := fun e => hl (by rw [e])
    have hli : ¬ ((xsOf u).length : Int) = (xsOf v).length := by omega
    repeat' (first | (apply brI <;> intro hb hb2 <;> (try simp [-Int.not_le, -Int.not_lt, -Nat.not_le, -Nat.not_lt, -Nat.add_left_cancel_iff] at hb2)) | (refine draw_listA (by rfl) (by kernel_rfl) ?_) | (refine draw_listB (by simp [allocsOf, isAlloc]; rfl) (by kernel_rfl) ?_) | simp (maxSteps := 2000000) (disch := first | omega | assumption | simp [*]) [*, -Int.not_le, -Int.not_lt, -Nat.not_le, -Nat.not_lt, -Nat.add_left_cancel_iff, wrap_i64, wrap_u64, Tryz.f22, isI_len hu, isI_len hv])
theorem sameInts_s {u v : AV} (hu : IsI u) (hv : IsI v) {K : AV → Prop} {tg : Tg K} : CW env 22 [u, v] K tg ↔ K (.bool (decide (xsOf u = xsOf v))) := callsTo_iff (sameInts_c hu hv)
attribute [simp] sameInts_s
end Go.Proofs.YtliecnadoklgoaaGreatDoor
