/- What the great laws compare with. Conditions: none. -/
import Derived.Test.YtliecnadoklgoaaDraw
namespace Go.Proofs.Ytliecnadoklgoaa
open Ev
set_option linter.unusedVariables false
set_option linter.unusedSimpArgs false
set_option maxHeartbeats 4000000
set_option maxRecDepth 100000

theorem big_c {b : AV} (hB : IsB b) : EvC env 28 [b] (.bool (decide (1048576 < bLen b))) := by
  refine evC_of (F := Try.f28) rfl rfl (Nat.le_of_ble_eq_true rfl) ?_
  repeat' (first | (apply brI <;> intro hb hb2 <;> (try simp [-Int.not_le, -Int.not_lt, -Nat.not_le, -Nat.not_lt, -Nat.add_left_cancel_iff] at hb2)) | (refine draw_listA (by rfl) (by kernel_rfl) ?_) | (refine draw_listB (by simp [allocsOf, isAlloc]; rfl) (by kernel_rfl) ?_) | simp (maxSteps := 2000000) (disch := first | omega | assumption | simp [*]) [*, -Int.not_le, -Int.not_lt, -Nat.not_le, -Nat.not_lt, -Nat.add_left_cancel_iff, wrap_i64, wrap_u64, Try.f28, isB_len hB])
  all_goals first | omega | skip
theorem big_s {b : AV} (hB : IsB b) {K : AV → Prop} {tg : Tg K} : CW env 28 [b] K tg ↔ K (.bool (decide (1048576 < bLen b))) := callsTo_iff (big_c hB)
attribute [simp] big_s
end Go.Proofs.Ytliecnadoklgoaa
