/- Chains: the law of IsChain. Conditions: none. -/
import Derived.Test.YtkkkgaapkibhkaaDoorCon2
namespace Go.Proofs.YtkkkgaapkibhkaaDoor
open Ev
set_option linter.unusedVariables false
set_option linter.unusedSimpArgs false
set_option maxHeartbeats 4000000

theorem con_range {n : Int} {xs : List Int} {k : Nat} (h : k < (fsts (conW n xs)).length) : 0 ≤ nth (fsts (conW n xs)) k ∧ nth (fsts (conW n xs)) k < 256 := by
  rw [conW_fsts, List.length_map] at h
  rw [conW_fsts]
  have hc : PCtx n xs := by
    unfold conL at h
    split at h
    · assumption
    · simp at h
  have e : nth ((conL n xs).map fun (s : Nat) => Ext xs (s : Int)) k = Ext xs ((conL n xs)[k] : Nat) := by simp [nth, h]
  rw [e]
  exact ext_range _ _ hc.2.2.1
theorem l6Under_c {a b a2 b2 : Int} (ha : 0 ≤ a ∧ a < 256) (hb : 0 ≤ b ∧ b < 256) : EvC env 70 [.agg [.int .i64 a, .int .i64 a2], .agg [.int .i64 b, .int .i64 b2]] (.bool (PSub a b)) := by
  refine evC_of (F := Tryd.f70) rfl rfl (Nat.le_of_ble_eq_true rfl) ?_
  have hs := psub_and (t := b) ha.1
  repeat' (first | (apply br_intro <;> intro hb <;> (have hb2 := hb) <;> (try simp [-Int.not_le, -Int.not_lt, -Nat.not_le, -Nat.not_lt, -Nat.add_left_cancel_iff] at hb2)) | (refine draw_listA (by rfl) (by kernel_rfl) ?_) | (refine draw_listB (by simp [allocsOf, isAlloc]; rfl) (by kernel_rfl) ?_) | simp (maxSteps := 2000000) (disch := first | omega | assumption | simp [*]) [*, -Int.not_le, -Int.not_lt, -Nat.not_le, -Nat.not_lt, -Nat.add_left_cancel_iff, wrap_i64, wrap_u64, Tryd.f70, bits_and])
theorem l6Under_s {a b a2 b2 : Int} (ha : 0 ≤ a ∧ a < 256) (hb : 0 ≤ b ∧ b < 256) {K : AV → Prop} {tg : Tg K} : CW env 70 [.agg [.int .i64 a, .int .i64 a2], .agg [.int .i64 b, .int .i64 b2]] K tg ↔ K (.bool (PSub a b)) := callsTo_iff (l6Under_c ha hb)
attribute [simp] l6Under_s
theorem below_c {v : AV} {a b : Nat} (hP : IsP v) (ha : a < (fsts v).length) (hb : b < (fsts v).length) (h : ∀ k, k < (fsts v).length → 0 ≤ nth (fsts v) k ∧ nth (fsts v) k < 256) : EvC env 72 [v, .int .i64 a, .int .i64 b] (.bool (PSub (nth (fsts v) a) (nth (fsts v) b))) := by
  refine evC_of (F := Tryd.f72) rfl rfl (Nat.le_of_ble_eq_true rfl) ?_
  have r1 := h a ha
  have r2 := h b hb
  clear h
  repeat' (first | (apply br_intro <;> intro hb <;> (have hb2 := hb) <;> (try simp [-Int.not_le, -Int.not_lt, -Nat.not_le, -Nat.not_lt, -Nat.add_left_cancel_iff] at hb2)) | (refine draw_listA (by rfl) (by kernel_rfl) ?_) | (refine draw_listB (by simp [allocsOf, isAlloc]; rfl) (by kernel_rfl) ?_) | simp (maxSteps := 2000000) (disch := first | omega | assumption | simp [*]) [*, -Int.not_le, -Int.not_lt, -Nat.not_le, -Nat.not_lt, -Nat.add_left_cancel_iff, wrap_i64, wrap_u64, Tryd.f72, isP_index hP, isP_low hP, isP_noKey hP, psub_diff])
theorem below_s {v : AV} {a b : Nat} (hP : IsP v) (ha : a < (fsts v).length) (hb : b < (fsts v).length) (h : ∀ k, k < (fsts v).length → 0 ≤ nth (fsts v) k ∧ nth (fsts v) k < 256) {K : AV → Prop} {tg : Tg K} : CW env 72 [v, .int .i64 a, .int .i64 b] K tg ↔ K (.bool (PSub (nth (fsts v) a) (nth (fsts v) b))) := callsTo_iff (below_c hP ha hb h)
attribute [simp] below_s
def cmpP (F : List Int) (a b : Nat) : Prop := PSub (nth F a) (nth F b) = true ∨ PSub (nth F b) (nth F a) = true
def ChnC (n : Int) (xs F : List Int) : Prop := PCtx n xs ∧ ∀ a, a < F.length → ∀ b, b < a → cmpP F a b
noncomputable instance (n : Int) (xs F : List Int) : Decidable (ChnC n xs F) := Classical.propDecidable _
end Go.Proofs.YtkkkgaapkibhkaaDoor
