/- Lists of concepts that cover a context. Conditions: none. -/
import Derived.Test.YtkkkgaapkibhkaaProd
import Derived.Test.YtkkkgaapkibhkaaInt
import Derived.Test.YtkkkgaapkibhkaaIdxP
namespace Go.Proofs.Ytkkkgaapkibhkaa
open Ev
set_option linter.unusedVariables false
set_option linter.unusedSimpArgs false
set_option maxHeartbeats 4000000

theorem list_ext {xs ys : List Int} (hl : xs.length = ys.length) (h : ∀ j, j < xs.length → nth xs j = nth ys j) : xs = ys := by
  apply List.ext_getElem?
  intro j
  by_cases hj : j < xs.length
  · rw [nth_get? hj, nth_get? (by omega), h j hj]
  · rw [List.getElem?_eq_none (by omega), List.getElem?_eq_none (by omega)]
theorem l2Same_c {u v : AV} (hu : IsI u) (hv : IsI v) : EvC env 87 [u, v] (.bool (decide (xsOf u = xsOf v))) := by
  refine evC_of (F := Try.f87) rfl rfl (Nat.le_of_ble_eq_true rfl) ?_
  have := hu.len
  have := hv.len
  repeat' (first | (apply br_intro <;> intro hb <;> (have hb2 := hb) <;> (try simp [-Int.not_le, -Int.not_lt, -Nat.not_le, -Nat.not_lt, -Nat.add_left_cancel_iff] at hb2)) | (refine draw_listA (by rfl) (by kernel_rfl) ?_) | (refine draw_listB (by simp [allocsOf, isAlloc]; rfl) (by kernel_rfl) ?_) | simp (maxSteps := 2000000) (disch := first | omega | assumption | simp [*]) [*, -Int.not_le, -Int.not_lt, -Nat.not_le, -Nat.not_lt, -Nat.add_left_cancel_iff, wrap_i64, wrap_u64, Try.f87, isI_len hu, isI_len hv])
  · intro e; exact hb2 (by rw [e])
  refine W_loopP (xsOf u).length (fun i s => s 5 = .int .i64 i ∧ s 0 = u ∧ s 1 = v ∧ ∀ j, j < i → nth (xsOf u) j = nth (xsOf v) j) rfl ?_ ?_
  · simp [*]
  rintro i s hi ⟨h5, h0, h1, hj⟩
  by_cases hi2 : i < (xsOf u).length
  · have hi3 : i < (xsOf v).length := by omega
    repeat' (first | (apply br_intro <;> intro hb <;> (have hb2 := hb) <;> (try simp [-Int.not_le, -Int.not_lt, -Nat.not_le, -Nat.not_lt, -Nat.add_left_cancel_iff] at hb2)) | (refine draw_listA (by rfl) (by kernel_rfl) ?_) | (refine draw_listB (by simp [allocsOf, isAlloc]; rfl) (by kernel_rfl) ?_) | simp (maxSteps := 2000000) (disch := first | omega | assumption | simp [*]) [*, -Int.not_le, -Int.not_lt, -Nat.not_le, -Nat.not_lt, -Nat.add_left_cancel_iff, wrap_i64, wrap_u64, h5, h0, h1, isI_len hu, isI_index hu, isI_load hu, isI_index hv, isI_load hv])
    · intro e; apply hb2; rw [e]
    · intro j hj2
      by_cases e : j = i
      · subst e; exact hb2
      · exact hj j (by omega)
  · obtain rfl : i = (xsOf u).length := by omega
    repeat' (first | (apply br_intro <;> intro hb <;> (have hb2 := hb) <;> (try simp [-Int.not_le, -Int.not_lt, -Nat.not_le, -Nat.not_lt, -Nat.add_left_cancel_iff] at hb2)) | (refine draw_listA (by rfl) (by kernel_rfl) ?_) | (refine draw_listB (by simp [allocsOf, isAlloc]; rfl) (by kernel_rfl) ?_) | simp (maxSteps := 2000000) (disch := first | omega | assumption | simp [*]) [*, -Int.not_le, -Int.not_lt, -Nat.not_le, -Nat.not_lt, -Nat.add_left_cancel_iff, wrap_i64, wrap_u64, h5, h0, h1, isI_len hu])
    exact list_ext (by omega) hj
theorem l2Same_s {u v : AV} (hu : IsI u) (hv : IsI v) {K : AV → Prop} {tg : Tg K} : CW env 87 [u, v] K tg ↔ K (.bool (decide (xsOf u = xsOf v))) := callsTo_iff (l2Same_c hu hv)
attribute [simp] l2Same_s
theorem sEqualContext_c {n m : Int} {u v : AV} (hu : IsI u) (hv : IsI v) : EvC env 33 [.agg [.int .i64 n, u], .agg [.int .i64 m, v]] (.bool (decide (n = m ∧ xsOf u = xsOf v))) := by
  refine evC_of (F := Try.f33) rfl rfl (Nat.le_of_ble_eq_true rfl) ?_
  repeat' (first | (apply br_intro <;> intro hb <;> (have hb2 := hb) <;> (try simp [-Int.not_le, -Int.not_lt, -Nat.not_le, -Nat.not_lt, -Nat.add_left_cancel_iff] at hb2)) | (refine draw_listA (by rfl) (by kernel_rfl) ?_) | (refine draw_listB (by simp [allocsOf, isAlloc]; rfl) (by kernel_rfl) ?_) | simp (maxSteps := 2000000) (disch := first | omega | assumption | simp [*]) [*, -Int.not_le, -Int.not_lt, -Nat.not_le, -Nat.not_lt, -Nat.add_left_cancel_iff, wrap_i64, wrap_u64, Try.f33, isI_cells hu, isI_one hu, isI_low hu, isI_cells hv, isI_one hv, isI_low hv])
theorem sEqualContext_s {n m : Int} {u v : AV} (hu : IsI u) (hv : IsI v) {K : AV → Prop} {tg : Tg K} : CW env 33 [.agg [.int .i64 n, u], .agg [.int .i64 m, v]] K tg ↔ K (.bool (decide (n = m ∧ xsOf u = xsOf v))) := callsTo_iff (sEqualContext_c hu hv)
attribute [simp] sEqualContext_s
def CovC (n : Int) (xs F S : List Int) : Prop := PCtx n xs ∧ (∀ k, k < F.length → IsCon n xs (nth F k) (nth S k)) ∧ tab (prodRow F S n.toNat F.length) xs.length = xs
noncomputable instance (n : Int) (xs F S : List Int) : Decidable (CovC n xs F S) := Classical.propDecidable _
theorem cov_prod {n : Int} {xs F S : List Int} (hp : PCtx n xs) (h : ∀ k, k < F.length → IsCon n xs (nth F k) (nth S k)) : ProdC xs.length n F S := by
  have h1 := hp.1
  have h2 := hp.2.1
  have h3 := hp.2.2.1
  exact ⟨⟨by omega, by omega⟩, ⟨h1, h2⟩, fun k hk => ⟨(h k hk).2.1, (h k hk).2.2.1⟩⟩
end Go.Proofs.Ytkkkgaapkibhkaa
