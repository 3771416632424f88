/- What the laws do with slices of numbers. Conditions: none. -/
import Derived.Test.YtkkkgaapkibhkaaDoorSet
namespace Go.Proofs.YtkkkgaapkibhkaaDoor
open Ev
set_option linter.unusedVariables false
set_option linter.unusedSimpArgs false

theorem szIntS_c {v : AV} {n : Int} (hv : IsI v) (h0 : 0 ≤ n) (h1 : n ≤ 1048576) : EvC env 40 [v, .int .i64 n] (.int .i64 (if n < (xsOf v).length then -1 else n - (xsOf v).length)) := by
  refine evC_of (F := Tryd.f40) rfl rfl (Nat.le_of_ble_eq_true rfl) ?_
  have := hv.len
  unfold top63 at this
  repeat' (first | (apply br_intro <;> intro hb <;> (have hb2 := hb) <;> (try simp [-Int.not_le, -Int.not_lt, -Nat.not_le, -Nat.not_lt, -Nat.add_left_cancel_iff] at hb2)) | (refine draw_listA (by rfl) (by kernel_rfl) ?_) | (refine draw_listB (by simp [allocsOf, isAlloc]; rfl) (by kernel_rfl) ?_) | simp (maxSteps := 2000000) (disch := first | omega | assumption | simp [*]) [*, -Int.not_le, -Int.not_lt, -Nat.not_le, -Nat.not_lt, -Nat.add_left_cancel_iff, wrap_i64, wrap_u64, Tryd.f40, isI_len hv, isI_low hv])
  · omega
  · omega
theorem szIntS_s {v : AV} {n : Int} (hv : IsI v) (h0 : 0 ≤ n) (h1 : n ≤ 1048576) {K : AV → Prop} {tg : Tg K} : CW env 40 [v, .int .i64 n] K tg ↔ K (.int .i64 (if n < (xsOf v).length then -1 else n - (xsOf v).length)) := callsTo_iff (szIntS_c hv h0 h1)
attribute [simp] szIntS_s
theorem take_all {xs ys : List Int} (hl : ys.length = xs.length) (h : ∀ j, j < xs.length → ys[j]? = xs[j]?) : ys = xs :=
  List.ext_getElem? fun j => if hj : j < xs.length then h j hj else by simp [List.getElem?_eq_none (Nat.le_of_not_lt hj), List.getElem?_eq_none (hl ▸ Nat.le_of_not_lt hj)]
theorem toIntS_c {v : AV} (hv : IsI v) (hl : (xsOf v).length ≤ 1048576) : EvC env 42 [v] (rowR 1 3 7 (ints (xsOf v))) := by
  refine evC_of (F := Tryd.f42) rfl rfl (Nat.le_of_ble_eq_true rfl) ?_
  have := hv.len
  repeat' (first | (apply br_intro <;> intro hb <;> (have hb2 := hb) <;> (try simp [-Int.not_le, -Int.not_lt, -Nat.not_le, -Nat.not_lt, -Nat.add_left_cancel_iff] at hb2)) | (refine draw_listA (by rfl) (by kernel_rfl) ?_) | (refine draw_listB (by simp [allocsOf, isAlloc]; rfl) (by kernel_rfl) ?_) | simp (maxSteps := 2000000) (disch := first | omega | assumption | simp [*]) [*, -Int.not_le, -Int.not_lt, -Nat.not_le, -Nat.not_lt, -Nat.add_left_cancel_iff, wrap_i64, wrap_u64, Tryd.f42, isI_len hv, isI_low hv])
  refine W_loopG (xsOf v).length (fun i s h => s 4 = .int .i64 i ∧ s 0 = v ∧ s 3 = .ms 7 0 0 (xsOf v).length ∧
    ∃ ys, h = hset hnil 7 (.row 0 3 1 (ints ys)) ∧ ys.length = (xsOf v).length ∧ ∀ j, j < i → ys[j]? = (xsOf v)[j]?) ?_ ?_
  · simp
    exact ⟨_, rfl, by simp⟩
  rintro i s h hi ⟨h4, h0, h3, ys, rfl, hy, hj⟩
  repeat' (first | (apply br_intro <;> intro hb <;> (have hb2 := hb) <;> (try simp [-Int.not_le, -Int.not_lt, -Nat.not_le, -Nat.not_lt, -Nat.add_left_cancel_iff] at hb2)) | (refine draw_listA (by rfl) (by kernel_rfl) ?_) | (refine draw_listB (by simp [allocsOf, isAlloc]; rfl) (by kernel_rfl) ?_) | simp (maxSteps := 2000000) (disch := first | omega | assumption | simp [*]) [*, -Int.not_le, -Int.not_lt, -Nat.not_le, -Nat.not_lt, -Nat.add_left_cancel_iff, wrap_i64, wrap_u64, h4, h0, h3, isI_len hv, isI_index hv, isI_load hv])
  · exact ⟨_, rfl, by simp [hy], fun j hj2 => by
      by_cases e : j = i
      · subst e; rw [List.getElem?_set_self (by omega), nth_get? hb2]
      · rw [List.getElem?_set_ne (by omega)]; exact hj j (by omega)⟩
  · rw [take_all hy (fun j hj2 => hj j (by omega))]
theorem toIntS_s {v : AV} (hv : IsI v) (hl : (xsOf v).length ≤ 1048576) {K : AV → Prop} {tg : Tg K} : CW env 42 [v] K tg ↔ K (rowR 1 3 7 (ints (xsOf v))) := callsTo_iff (toIntS_c hv hl)
attribute [simp] toIntS_s

theorem eqIntS_c {u v : AV} (hu : IsI u) (hv : IsI v) : EvC env 44 [u, v] (.bool (decide (xsOf u = xsOf v))) := by
  refine evC_of (F := Tryd.f44) rfl rfl (Nat.le_of_ble_eq_true rfl) ?_
  have := hu.len
  have := hv.len
  repeat' (first | (apply br_intro <;> intro hb <;> (have hb2 := hb) <;> (try simp [-Int.not_le, -Int.not_lt, -Nat.not_le, -Nat.not_lt, -Nat.add_left_cancel_iff] at hb2)) | (refine draw_listA (by rfl) (by kernel_rfl) ?_) | (refine draw_listB (by simp [allocsOf, isAlloc]; rfl) (by kernel_rfl) ?_) | simp (maxSteps := 2000000) (disch := first | omega | assumption | simp [*]) [*, -Int.not_le, -Int.not_lt, -Nat.not_le, -Nat.not_lt, -Nat.add_left_cancel_iff, wrap_i64, wrap_u64, Tryd.f44, isI_len hu, isI_low hu, isI_len hv, isI_low hv])
  · intro e; exact hb2 (by rw [e])
  refine W_loopP (xsOf u).length (fun i s => s 5 = .int .i64 i ∧ s 0 = u ∧ s 1 = v ∧ ∀ j, j < i → (xsOf u)[j]? = (xsOf v)[j]?) rfl ?_ ?_
  · simp
  rintro i s hi ⟨h4, h0, h1, hj⟩
  repeat' (first | (apply br_intro <;> intro hb <;> (have hb2 := hb) <;> (try simp [-Int.not_le, -Int.not_lt, -Nat.not_le, -Nat.not_lt, -Nat.add_left_cancel_iff] at hb2)) | (refine draw_listA (by rfl) (by kernel_rfl) ?_) | (refine draw_listB (by simp [allocsOf, isAlloc]; rfl) (by kernel_rfl) ?_) | simp (maxSteps := 2000000) (disch := first | omega | assumption | simp [*]) [*, -Int.not_le, -Int.not_lt, -Nat.not_le, -Nat.not_lt, -Nat.add_left_cancel_iff, wrap_i64, wrap_u64, h4, h0, h1, isI_len hu, isI_index hu, isI_load hu, isI_index hv, isI_load hv])
  · intro e; apply hb2; rw [e]
  · refine ⟨by omega, fun j hj2 => ?_⟩
    by_cases e : j = i
    · subst e; rw [nth_get? (by omega), nth_get? (by omega), hb2]
    · exact hj j (by omega)
  · exact (take_all (by omega) (fun j hj2 => (hj j (by omega)).symm)).symm
theorem eqIntS_s {u v : AV} (hu : IsI u) (hv : IsI v) {K : AV → Prop} {tg : Tg K} : CW env 44 [u, v] K tg ↔ K (.bool (decide (xsOf u = xsOf v))) := callsTo_iff (eqIntS_c hu hv)
attribute [simp] eqIntS_s

end Go.Proofs.YtkkkgaapkibhkaaDoor
