/- Lists of concepts compared. Conditions: none. -/
import Derived.Test.YtliecnadoklgoaaGreatDoorLawSame
import Derived.Test.YtliecnadoklgoaaGreatDoorCover
namespace Go.Proofs.YtliecnadoklgoaaGreatDoor
open Ev
set_option linter.unusedVariables false
set_option linter.unusedSimpArgs false
set_option maxHeartbeats 4000000

theorem neq_con (a b c e : Int) : binT env .neq 101 (.agg [.int .i64 a, .int .i64 b]) (.agg [.int .i64 c, .int .i64 e]) = some (.bool (!(decide (a = c) && decide (b = e)))) := by
  by_cases h1 : a = c
  · subst h1
    by_cases h2 : b = e
    · subst h2; simp [binT, eqT, eqFs, eqR, partOf, TD.agg?]
    · have f := beq_false_of_ne h2
      simp [binT, eqT, eqFs, eqR, partOf, TD.agg?, f, h2]
  · have f := beq_false_of_ne h1
    simp [binT, eqT, eqFs, eqR, partOf, TD.agg?, f, h1]
theorem sameConcepts_c {u v : AV} (hu : IsP u) (hv : IsP v) (h1 : fsts u = fsts v) (h2 : snds u = snds v) : EvC env 80 [u, v] (.bool true) := by
  refine evC_of (F := Tryz.f80) rfl rfl (Nat.le_of_ble_eq_true rfl) ?_
  have := hu.len
  have := hv.len
  have hul := hu.lens
  have hvl := hv.lens
  have hl : (fsts u).length = (fsts v).length := by rw [h1]
  have hli : ((fsts u).length : Int) = (fsts v).length := by omega
  have hj : ∀ j, nth (fsts u) j = nth (fsts v) j ∧ nth (snds u) j = nth (snds v) j := fun j => ⟨by rw [h1], by rw [h2]⟩
  clear h1 h2
  repeat' (first | (apply brI <;> intro hb hb2 <;> (try simp [-Int.not_le, -Int.not_lt, -Nat.not_le, -Nat.not_lt, -Nat.add_left_cancel_iff] at hb2)) | (refine draw_listA (by rfl) (by kernel_rfl) ?_) | (refine draw_listB (by simp [allocsOf, isAlloc]; rfl) (by kernel_rfl) ?_) | simp (maxSteps := 2000000) (disch := first | omega | assumption | simp [*]) [*, -Int.not_le, -Int.not_lt, -Nat.not_le, -Nat.not_lt, -Nat.add_left_cancel_iff, wrap_i64, wrap_u64, Tryz.f80, isP_len hu, isP_low hu, isP_len hv, isP_low hv])
  refine W_loopP (fsts v).length (fun i s => s 5 = .int .i64 i ∧ s 0 = u ∧ s 1 = v) rfl ?_ ?_
  · simp
  rintro i s hi ⟨h5, h0, h1⟩
  by_cases hi2 : i < (fsts v).length
  · have hi3 : i < (fsts u).length := by omega
    obtain ⟨e1, e2⟩ := hj i
    clear hj
    repeat' (first | (apply brI <;> intro hb hb2 <;> (try simp [-Int.not_le, -Int.not_lt, -Nat.not_le, -Nat.not_lt, -Nat.add_left_cancel_iff] at hb2)) | (refine draw_listA (by rfl) (by kernel_rfl) ?_) | (refine draw_listB (by simp [allocsOf, isAlloc]; rfl) (by kernel_rfl) ?_) | simp (maxSteps := 2000000) (disch := first | omega | assumption | simp [*]) [*, -Int.not_le, -Int.not_lt, -Nat.not_le, -Nat.not_lt, -Nat.add_left_cancel_iff, wrap_i64, wrap_u64, h5, h0, h1, isP_len hu, isP_low hu, isP_index hu, isP_len hv, isP_low hv, isP_index hv, neq_con])
  · obtain rfl : i = (fsts v).length := by omega
    clear hj
    repeat' (first | (apply brI <;> intro hb hb2 <;> (try simp [-Int.not_le, -Int.not_lt, -Nat.not_le, -Nat.not_lt, -Nat.add_left_cancel_iff] at hb2)) | (refine draw_listA (by rfl) (by kernel_rfl) ?_) | (refine draw_listB (by simp [allocsOf, isAlloc]; rfl) (by kernel_rfl) ?_) | simp (maxSteps := 2000000) (disch := first | omega | assumption | simp [*]) [*, -Int.not_le, -Int.not_lt, -Nat.not_le, -Nat.not_lt, -Nat.add_left_cancel_iff, wrap_i64, wrap_u64, h5, h0, h1, isP_len hu])
theorem sameConcepts_s {u v : AV} (hu : IsP u) (hv : IsP v) (h1 : fsts u = fsts v) (h2 : snds u = snds v) {K : AV → Prop} {tg : Tg K} : CW env 80 [u, v] K tg ↔ K (.bool true) := callsTo_iff (sameConcepts_c hu hv h1 h2)
attribute [simp] sameConcepts_s
end Go.Proofs.YtliecnadoklgoaaGreatDoor
