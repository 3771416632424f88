/- How often a rule holds. Conditions: none. -/
import Derived.Test.YtemmdkeehkehcaaExt
namespace Go.Proofs.Ytemmdkeehkehcaa
open Ev
set_option linter.unusedVariables false
set_option linter.unusedSimpArgs false
set_option maxHeartbeats 4000000

theorem l9Rule_c {n a b : Int} : EvC env 67 [.int .i64 n, .agg [.int .i64 a, .int .i64 b]] (.bool (PSet n a && PSet n b)) := by
  refine evC_of (F := Try.f67) rfl rfl (Nat.le_of_ble_eq_true rfl) ?_
  repeat' (first | (apply br_intro <;> intro hb <;> (have hb2 := hb) <;> (try simp [-Int.not_le, -Int.not_lt, -Nat.not_le, -Nat.not_lt, -Nat.add_left_cancel_iff] at hb2)) | (refine draw_listA (by rfl) (by kernel_rfl) ?_) | (refine draw_listB (by simp [allocsOf, isAlloc]; rfl) (by kernel_rfl) ?_) | simp (maxSteps := 2000000) (disch := first | omega | assumption | simp [*]) [*, -Int.not_le, -Int.not_lt, -Nat.not_le, -Nat.not_lt, -Nat.add_left_cancel_iff, wrap_i64, wrap_u64, Try.f67])
theorem l9Rule_s {n a b : Int} {K : AV → Prop} {tg : Tg K} : CW env 67 [.int .i64 n, .agg [.int .i64 a, .int .i64 b]] K tg ↔ K (.bool (PSet n a && PSet n b)) := callsTo_iff (l9Rule_c )
attribute [simp] l9Rule_s
theorem toRule_c {a b : Int} : EvC env 24 [.agg [.int .i64 a, .int .i64 b]] (.agg [.int .i64 a, .int .i64 b]) := by
  refine evC_of (F := Try.f24) rfl rfl (Nat.le_of_ble_eq_true rfl) ?_
  repeat' (first | (apply br_intro <;> intro hb <;> (have hb2 := hb) <;> (try simp [-Int.not_le, -Int.not_lt, -Nat.not_le, -Nat.not_lt, -Nat.add_left_cancel_iff] at hb2)) | (refine draw_listA (by rfl) (by kernel_rfl) ?_) | (refine draw_listB (by simp [allocsOf, isAlloc]; rfl) (by kernel_rfl) ?_) | simp (maxSteps := 2000000) (disch := first | omega | assumption | simp [*]) [*, -Int.not_le, -Int.not_lt, -Nat.not_le, -Nat.not_lt, -Nat.add_left_cancel_iff, wrap_i64, wrap_u64, Try.f24])
theorem toRule_s {a b : Int} {K : AV → Prop} {tg : Tg K} : CW env 24 [.agg [.int .i64 a, .int .i64 b]] K tg ↔ K (.agg [.int .i64 a, .int .i64 b]) := callsTo_iff (toRule_c )
attribute [simp] toRule_s
noncomputable def supV (n : Int) (xs : List Int) (s : Int) : Int := if PCtx n xs ∧ PSet n s = true then (elemsTo (Ext xs s) 8).length else -1
def ConfC (n : Int) (xs : List Int) (a b : Int) : Prop := PCtx n xs ∧ PSet n a = true ∧ PSet n b = true
noncomputable instance (n : Int) (xs : List Int) (a b : Int) : Decidable (ConfC n xs a b) := Classical.propDecidable _
noncomputable def confA (n : Int) (xs : List Int) (a b : Int) : Int := if ConfC n xs a b then supV n xs ((a.toNat ||| b.toNat : Nat) : Int) else 0
noncomputable def confB (n : Int) (xs : List Int) (a b : Int) : Int := if ConfC n xs a b then supV n xs a else 0
theorem sConfidenceOf_c {n a b : Int} {v : AV} (hv : IsI v) : EvC env 22 [.agg [.int .i64 n, v], .agg [.int .i64 a, .int .i64 b]] (.tup [.int .i64 (confA n (xsOf v) a b), .int .i64 (confB n (xsOf v) a b)]) := by
  refine evC_of (F := Try.f22) rfl rfl (Nat.le_of_ble_eq_true rfl) ?_
  by_cases hp : PCtx n (xsOf v)
  · by_cases ha : PSet n a = true
    · by_cases hb : PSet n b = true
      · have hc : ConfC n (xsOf v) a b := ⟨hp, ha, hb⟩
        have a1 := pset_lt ha
        have b1 := pset_lt hb
        repeat' (first | (apply br_intro <;> intro hb <;> (have hb2 := hb) <;> (try simp [-Int.not_le, -Int.not_lt, -Nat.not_le, -Nat.not_lt, -Nat.add_left_cancel_iff] at hb2)) | (refine draw_listA (by rfl) (by kernel_rfl) ?_) | (refine draw_listB (by simp [allocsOf, isAlloc]; rfl) (by kernel_rfl) ?_) | simp (maxSteps := 2000000) (disch := first | omega | assumption | simp [*]) [*, -Int.not_le, -Int.not_lt, -Nat.not_le, -Nat.not_lt, -Nat.add_left_cancel_iff, wrap_i64, wrap_u64, Try.f22, isI_cells hv, isI_one hv, isI_low hv, bits_or])
        all_goals simp [confA, confB, hc, supV, hp, ha]
      · have hc : ¬ ConfC n (xsOf v) a b := fun h => hb h.2.2
        repeat' (first | (apply br_intro <;> intro hb <;> (have hb2 := hb) <;> (try simp [-Int.not_le, -Int.not_lt, -Nat.not_le, -Nat.not_lt, -Nat.add_left_cancel_iff] at hb2)) | (refine draw_listA (by rfl) (by kernel_rfl) ?_) | (refine draw_listB (by simp [allocsOf, isAlloc]; rfl) (by kernel_rfl) ?_) | simp (maxSteps := 2000000) (disch := first | omega | assumption | simp [*]) [*, -Int.not_le, -Int.not_lt, -Nat.not_le, -Nat.not_lt, -Nat.add_left_cancel_iff, wrap_i64, wrap_u64, Try.f22, isI_cells hv, isI_one hv, isI_low hv])
        all_goals simp [confA, confB, hc]
    · have hc : ¬ ConfC n (xsOf v) a b := fun h => ha h.2.1
      repeat' (first | (apply br_intro <;> intro hb <;> (have hb2 := hb) <;> (try simp [-Int.not_le, -Int.not_lt, -Nat.not_le, -Nat.not_lt, -Nat.add_left_cancel_iff] at hb2)) | (refine draw_listA (by rfl) (by kernel_rfl) ?_) | (refine draw_listB (by simp [allocsOf, isAlloc]; rfl) (by kernel_rfl) ?_) | simp (maxSteps := 2000000) (disch := first | omega | assumption | simp [*]) [*, -Int.not_le, -Int.not_lt, -Nat.not_le, -Nat.not_lt, -Nat.add_left_cancel_iff, wrap_i64, wrap_u64, Try.f22, isI_cells hv, isI_one hv, isI_low hv])
      all_goals simp [confA, confB, hc]
  · have hc : ¬ ConfC n (xsOf v) a b := fun h => hp h.1
    repeat' (first | (apply br_intro <;> intro hb <;> (have hb2 := hb) <;> (try simp [-Int.not_le, -Int.not_lt, -Nat.not_le, -Nat.not_lt, -Nat.add_left_cancel_iff] at hb2)) | (refine draw_listA (by rfl) (by kernel_rfl) ?_) | (refine draw_listB (by simp [allocsOf, isAlloc]; rfl) (by kernel_rfl) ?_) | simp (maxSteps := 2000000) (disch := first | omega | assumption | simp [*]) [*, -Int.not_le, -Int.not_lt, -Nat.not_le, -Nat.not_lt, -Nat.add_left_cancel_iff, wrap_i64, wrap_u64, Try.f22, isI_cells hv, isI_one hv, isI_low hv])
    all_goals simp [confA, confB, hc]
theorem sConfidenceOf_s {n a b : Int} {v : AV} (hv : IsI v) {K : AV → Prop} {tg : Tg K} : CW env 22 [.agg [.int .i64 n, v], .agg [.int .i64 a, .int .i64 b]] K tg ↔ K (.tup [.int .i64 (confA n (xsOf v) a b), .int .i64 (confB n (xsOf v) a b)]) := callsTo_iff (sConfidenceOf_c hv)
attribute [simp] sConfidenceOf_s
theorem iConfidenceOf_c {n a b : Int} {v : AV} (hv : IsI v) : EvC env 25 [.agg [.int .i64 n, v], .agg [.int .i64 a, .int .i64 b]] (.tup [.int .i64 (confA n (xsOf v) a b), .int .i64 (confB n (xsOf v) a b)]) := by
  refine evC_of (F := Try.f25) rfl rfl (Nat.le_of_ble_eq_true rfl) ?_
  by_cases hp : PCtx n (xsOf v)
  · by_cases ha : PSet n a = true
    · by_cases hb : PSet n b = true
      · have hc : ConfC n (xsOf v) a b := ⟨hp, ha, hb⟩
        have a1 := pset_lt ha
        have b1 := pset_lt hb
        repeat' (first | (apply br_intro <;> intro hb <;> (have hb2 := hb) <;> (try simp [-Int.not_le, -Int.not_lt, -Nat.not_le, -Nat.not_lt, -Nat.add_left_cancel_iff] at hb2)) | (refine draw_listA (by rfl) (by kernel_rfl) ?_) | (refine draw_listB (by simp [allocsOf, isAlloc]; rfl) (by kernel_rfl) ?_) | simp (maxSteps := 2000000) (disch := first | omega | assumption | simp [*]) [*, -Int.not_le, -Int.not_lt, -Nat.not_le, -Nat.not_lt, -Nat.add_left_cancel_iff, wrap_i64, wrap_u64, Try.f25, isI_cells hv, isI_one hv, isI_low hv, bits_or])
        all_goals simp [confA, confB, hc, supV, hp, ha]
      · have hc : ¬ ConfC n (xsOf v) a b := fun h => hb h.2.2
        repeat' (first | (apply br_intro <;> intro hb <;> (have hb2 := hb) <;> (try simp [-Int.not_le, -Int.not_lt, -Nat.not_le, -Nat.not_lt, -Nat.add_left_cancel_iff] at hb2)) | (refine draw_listA (by rfl) (by kernel_rfl) ?_) | (refine draw_listB (by simp [allocsOf, isAlloc]; rfl) (by kernel_rfl) ?_) | simp (maxSteps := 2000000) (disch := first | omega | assumption | simp [*]) [*, -Int.not_le, -Int.not_lt, -Nat.not_le, -Nat.not_lt, -Nat.add_left_cancel_iff, wrap_i64, wrap_u64, Try.f25, isI_cells hv, isI_one hv, isI_low hv])
        all_goals simp [confA, confB, hc]
    · have hc : ¬ ConfC n (xsOf v) a b := fun h => ha h.2.1
      repeat' (first | (apply br_intro <;> intro hb <;> (have hb2 := hb) <;> (try simp [-Int.not_le, -Int.not_lt, -Nat.not_le, -Nat.not_lt, -Nat.add_left_cancel_iff] at hb2)) | (refine draw_listA (by rfl) (by kernel_rfl) ?_) | (refine draw_listB (by simp [allocsOf, isAlloc]; rfl) (by kernel_rfl) ?_) | simp (maxSteps := 2000000) (disch := first | omega | assumption | simp [*]) [*, -Int.not_le, -Int.not_lt, -Nat.not_le, -Nat.not_lt, -Nat.add_left_cancel_iff, wrap_i64, wrap_u64, Try.f25, isI_cells hv, isI_one hv, isI_low hv])
      all_goals simp [confA, confB, hc]
  · have hc : ¬ ConfC n (xsOf v) a b := fun h => hp h.1
    repeat' (first | (apply br_intro <;> intro hb <;> (have hb2 := hb) <;> (try simp [-Int.not_le, -Int.not_lt, -Nat.not_le, -Nat.not_lt, -Nat.add_left_cancel_iff] at hb2)) | (refine draw_listA (by rfl) (by kernel_rfl) ?_) | (refine draw_listB (by simp [allocsOf, isAlloc]; rfl) (by kernel_rfl) ?_) | simp (maxSteps := 2000000) (disch := first | omega | assumption | simp [*]) [*, -Int.not_le, -Int.not_lt, -Nat.not_le, -Nat.not_lt, -Nat.add_left_cancel_iff, wrap_i64, wrap_u64, Try.f25, isI_cells hv, isI_one hv, isI_low hv])
    all_goals simp [confA, confB, hc]
theorem iConfidenceOf_s {n a b : Int} {v : AV} (hv : IsI v) {K : AV → Prop} {tg : Tg K} : CW env 25 [.agg [.int .i64 n, v], .agg [.int .i64 a, .int .i64 b]] K tg ↔ K (.tup [.int .i64 (confA n (xsOf v) a b), .int .i64 (confB n (xsOf v) a b)]) := callsTo_iff (iConfidenceOf_c hv)
attribute [simp] iConfidenceOf_s
theorem lawConfidenceOf_c {n a b : Int} {v : AV} (hv : IsI v) : EvC env 4 [.agg [.int .i64 n, v], .agg [.int .i64 a, .int .i64 b]] (.bool true) := by
  refine evC_of (F := Try.f4) rfl rfl (Nat.le_of_ble_eq_true rfl) ?_
  have := hv.len
  repeat' (first | (apply br_intro <;> intro hb <;> (have hb2 := hb) <;> (try simp [-Int.not_le, -Int.not_lt, -Nat.not_le, -Nat.not_lt, -Nat.add_left_cancel_iff] at hb2)) | (refine draw_listA (by rfl) (by kernel_rfl) ?_) | (refine draw_listB (by simp [allocsOf, isAlloc]; rfl) (by kernel_rfl) ?_) | simp (maxSteps := 2000000) (disch := first | omega | assumption | simp [*]) [*, -Int.not_le, -Int.not_lt, -Nat.not_le, -Nat.not_lt, -Nat.add_left_cancel_iff, wrap_i64, wrap_u64, Try.f4, isI_cells hv, isI_one hv, isI_low hv])
theorem lawConfidenceOf_s {n a b : Int} {v : AV} (hv : IsI v) {K : AV → Prop} {tg : Tg K} : CW env 4 [.agg [.int .i64 n, v], .agg [.int .i64 a, .int .i64 b]] K tg ↔ K (.bool true) := callsTo_iff (lawConfidenceOf_c hv)
attribute [simp] lawConfidenceOf_s
end Go.Proofs.Ytemmdkeehkehcaa
