/- How often a rule holds. Conditions: none. -/
import Derived.Test.YtkkkgaapkibhkaaExt
namespace Go.Proofs.Ytkkkgaapkibhkaa
open Ev
set_option linter.unusedVariables false
set_option linter.unusedSimpArgs false
set_option maxHeartbeats 4000000

theorem l9Rule_c {n a b : Int} : EvC env 91 [.int .i64 n, .agg [.int .i64 a, .int .i64 b]] (.bool (PSet n a && PSet n b)) := by
  refine evC_of (F := Try.f91) rfl rfl (Nat.le_of_ble_eq_true rfl) ?_
  repeat' (first | (apply br_intro <;> intro hb <;> (have hb2 := hb) <;> (try simp [-Int.not_le, -Int.not_lt, -Nat.not_le, -Nat.not_lt, -Nat.add_left_cancel_iff] at hb2)) | (refine draw_listA (by rfl) (by kernel_rfl) ?_) | (refine draw_listB (by simp [allocsOf, isAlloc]; rfl) (by kernel_rfl) ?_) | simp (maxSteps := 2000000) (disch := first | omega | assumption | simp [*]) [*, -Int.not_le, -Int.not_lt, -Nat.not_le, -Nat.not_lt, -Nat.add_left_cancel_iff, wrap_i64, wrap_u64, Try.f91])
theorem l9Rule_s {n a b : Int} {K : AV → Prop} {tg : Tg K} : CW env 91 [.int .i64 n, .agg [.int .i64 a, .int .i64 b]] K tg ↔ K (.bool (PSet n a && PSet n b)) := callsTo_iff (l9Rule_c )
attribute [simp] l9Rule_s
noncomputable def supV (n : Int) (xs : List Int) (s : Int) : Int := if PCtx n xs ∧ PSet n s = true then (elemsTo (Ext xs s) 8).length else -1
def ConfC (n : Int) (xs : List Int) (a b : Int) : Prop := PCtx n xs ∧ PSet n a = true ∧ PSet n b = true
noncomputable instance (n : Int) (xs : List Int) (a b : Int) : Decidable (ConfC n xs a b) := Classical.propDecidable _
noncomputable def confA (n : Int) (xs : List Int) (a b : Int) : Int := if ConfC n xs a b then supV n xs ((a.toNat ||| b.toNat : Nat) : Int) else 0
noncomputable def confB (n : Int) (xs : List Int) (a b : Int) : Int := if ConfC n xs a b then supV n xs a else 0
end Go.Proofs.Ytkkkgaapkibhkaa
