/- The scales and the agreements: both sides of each. Conditions: none. -/
import Derived.Test.YtppfgokonlloaaaScaleC
namespace Go.Proofs.Ytppfgokonlloaaa
open Ev
set_option linter.unusedVariables false
set_option linter.unusedSimpArgs false
set_option maxHeartbeats 4000000

/-- what a scaled table is: its attributes, its rows -/
noncomputable def scM (s : Nat) (lv : List Int) (xss : List (List Int)) : Nat := if ScC s lv xss then (allC s lv lv.length).length else 0
noncomputable def scX (s : Nat) (lv : List Int) (xss : List (List Int)) : List Int := if ScC s lv xss then scR s lv xss else []
noncomputable def scV (s : Nat) (lv : List Int) (xss : List (List Int)) : AV := if ScC s lv xss then .sl 1 .no (ints (scR s lv xss)) else .sl 0 .lit []
theorem scX_len (s : Nat) (lv : List Int) (xss : List (List Int)) : (scX s lv xss).length ≤ 8 := by
  unfold scX; split
  · rename_i h; have := h.1.2.1; unfold scR; simpa using this
  · simp
theorem scV_I (s : Nat) (lv : List Int) (xss : List (List Int)) : IsI (scV s lv xss) ∧ xsOf (scV s lv xss) = scX s lv xss := by
  have hl := scX_len s lv xss
  unfold scV scX at *
  split
  · rename_i h
    rw [if_pos h] at hl
    exact ⟨isI_no (by unfold top63; omega), by simp⟩
  · exact ⟨isI_sl (xs := []) (.inl rfl) rfl (Nat.zero_le _), rfl⟩
theorem sNominal_c {u v : AV} (hu : IsI u) (hv : IsLL v) : EvC env 21 [.agg [u, v]] (.tup [.agg [.int .i64 (scM 0 (xsOf u) (xssOf v)), scV 0 (xsOf u) (xssOf v)], .bool (decide (ScC 0 (xsOf u) (xssOf v)))]) := by
  refine evC_of (F := Try.f21) rfl rfl (Nat.le_of_ble_eq_true rfl) ?_
  have hM : (if ScC 0 (xsOf u) (xssOf v) then (((allC 0 (xsOf u) (xsOf u).length).length : Nat) : Int) else ((0 : Nat) : Int)) = (scM 0 (xsOf u) (xssOf v) : Int) := by unfold scM; split <;> rfl
  have h1 := l16Scale_c (s := 0) hu hv (by omega)
  obtain ⟨r, hr⟩ : ∃ r, (if ScC 0 (xsOf u) (xssOf v) then rowR 1 3 22 (ints (scR 0 (xsOf u) (xssOf v))) else .sl 0 .lit []) = r := ⟨_, rfl⟩
  have hn : noEx r = scV 0 (xsOf u) (xssOf v) := by
    rw [← hr]; unfold scV; split <;> simp [noEx]
  rw [hM, hr] at h1
  have k1 : ∀ (K : AV → Prop) (tg : Tg K), CW env 45 [.agg [u, v], .bool true, .bool false] K tg ↔ K (.tup [.agg [.int .i64 (scM 0 (xsOf u) (xssOf v)), r], .bool (decide (ScC 0 (xsOf u) (xssOf v)))]) := fun K tg => callsTo_iff (by simpa using h1)
  obtain ⟨iX, xX⟩ := scV_I 0 (xsOf u) (xssOf v)
  have nX : ∀ h, expo h (scV 0 (xsOf u) (xssOf v)) = scV 0 (xsOf u) (xssOf v) := fun h => by unfold scV; split <;> simp
  obtain ⟨M, hM2⟩ : ∃ M, scM 0 (xsOf u) (xssOf v) = M := ⟨_, rfl⟩
  obtain ⟨X, hX2⟩ : ∃ X, scV 0 (xsOf u) (xssOf v) = X := ⟨_, rfl⟩
  obtain ⟨B, hB2⟩ : ∃ B, decide (ScC 0 (xsOf u) (xssOf v)) = B := ⟨_, rfl⟩
  rw [hM2, hB2] at k1 ⊢
  rw [hX2] at hn iX nX ⊢
  have oX := isI_one iX
  have cX := isI_cells iX
  clear h1 hM hM2 hX2 hB2 hr xX
  repeat' (first | (apply brI <;> intro hb hb2 <;> (try simp [-Int.not_le, -Int.not_lt, -Nat.not_le, -Nat.not_lt, -Nat.add_left_cancel_iff] at hb2)) | (refine draw_listA (by rfl) (by kernel_rfl) ?_) | (refine draw_listB (by simp [allocsOf, isAlloc]; rfl) (by kernel_rfl) ?_) | simp (maxSteps := 2000000) (disch := first | omega | assumption | simp [*]) [*, -Int.not_le, -Int.not_lt, -Nat.not_le, -Nat.not_lt, -Nat.add_left_cancel_iff, wrap_i64, wrap_u64, Try.f21, k1, hn, nX, isI_low iX, isI_cells hu, isI_one hu, isI_low hu, isI_len hu, isLL_cells hv, isLL_one hv, isLL_low hv, isLL_len hv])
theorem sNominal_s {u v : AV} (hu : IsI u) (hv : IsLL v) {K : AV → Prop} {tg : Tg K} : CW env 21 [.agg [u, v]] K tg ↔ K (.tup [.agg [.int .i64 (scM 0 (xsOf u) (xssOf v)), scV 0 (xsOf u) (xssOf v)], .bool (decide (ScC 0 (xsOf u) (xssOf v)))]) := callsTo_iff (sNominal_c hu hv)
attribute [simp] sNominal_s
theorem sOrdinal_c {u v : AV} (hu : IsI u) (hv : IsLL v) : EvC env 23 [.agg [u, v]] (.tup [.agg [.int .i64 (scM 1 (xsOf u) (xssOf v)), scV 1 (xsOf u) (xssOf v)], .bool (decide (ScC 1 (xsOf u) (xssOf v)))]) := by
  refine evC_of (F := Try.f23) rfl rfl (Nat.le_of_ble_eq_true rfl) ?_
  have hM : (if ScC 1 (xsOf u) (xssOf v) then (((allC 1 (xsOf u) (xsOf u).length).length : Nat) : Int) else ((0 : Nat) : Int)) = (scM 1 (xsOf u) (xssOf v) : Int) := by unfold scM; split <;> rfl
  have h1 := l16Scale_c (s := 1) hu hv (by omega)
  obtain ⟨r, hr⟩ : ∃ r, (if ScC 1 (xsOf u) (xssOf v) then rowR 1 3 22 (ints (scR 1 (xsOf u) (xssOf v))) else .sl 0 .lit []) = r := ⟨_, rfl⟩
  have hn : noEx r = scV 1 (xsOf u) (xssOf v) := by
    rw [← hr]; unfold scV; split <;> simp [noEx]
  rw [hM, hr] at h1
  have k1 : ∀ (K : AV → Prop) (tg : Tg K), CW env 45 [.agg [u, v], .bool false, .bool false] K tg ↔ K (.tup [.agg [.int .i64 (scM 1 (xsOf u) (xssOf v)), r], .bool (decide (ScC 1 (xsOf u) (xssOf v)))]) := fun K tg => callsTo_iff (by simpa using h1)
  obtain ⟨iX, xX⟩ := scV_I 1 (xsOf u) (xssOf v)
  have nX : ∀ h, expo h (scV 1 (xsOf u) (xssOf v)) = scV 1 (xsOf u) (xssOf v) := fun h => by unfold scV; split <;> simp
  obtain ⟨M, hM2⟩ : ∃ M, scM 1 (xsOf u) (xssOf v) = M := ⟨_, rfl⟩
  obtain ⟨X, hX2⟩ : ∃ X, scV 1 (xsOf u) (xssOf v) = X := ⟨_, rfl⟩
  obtain ⟨B, hB2⟩ : ∃ B, decide (ScC 1 (xsOf u) (xssOf v)) = B := ⟨_, rfl⟩
  rw [hM2, hB2] at k1 ⊢
  rw [hX2] at hn iX nX ⊢
  have oX := isI_one iX
  have cX := isI_cells iX
  clear h1 hM hM2 hX2 hB2 hr xX
  repeat' (first | (apply brI <;> intro hb hb2 <;> (try simp [-Int.not_le, -Int.not_lt, -Nat.not_le, -Nat.not_lt, -Nat.add_left_cancel_iff] at hb2)) | (refine draw_listA (by rfl) (by kernel_rfl) ?_) | (refine draw_listB (by simp [allocsOf, isAlloc]; rfl) (by kernel_rfl) ?_) | simp (maxSteps := 2000000) (disch := first | omega | assumption | simp [*]) [*, -Int.not_le, -Int.not_lt, -Nat.not_le, -Nat.not_lt, -Nat.add_left_cancel_iff, wrap_i64, wrap_u64, Try.f23, k1, hn, nX, isI_low iX, isI_cells hu, isI_one hu, isI_low hu, isI_len hu, isLL_cells hv, isLL_one hv, isLL_low hv, isLL_len hv])
theorem sOrdinal_s {u v : AV} (hu : IsI u) (hv : IsLL v) {K : AV → Prop} {tg : Tg K} : CW env 23 [.agg [u, v]] K tg ↔ K (.tup [.agg [.int .i64 (scM 1 (xsOf u) (xssOf v)), scV 1 (xsOf u) (xssOf v)], .bool (decide (ScC 1 (xsOf u) (xssOf v)))]) := callsTo_iff (sOrdinal_c hu hv)
attribute [simp] sOrdinal_s
theorem sInterordinal_c {u v : AV} (hu : IsI u) (hv : IsLL v) : EvC env 25 [.agg [u, v]] (.tup [.agg [.int .i64 (scM 2 (xsOf u) (xssOf v)), scV 2 (xsOf u) (xssOf v)], .bool (decide (ScC 2 (xsOf u) (xssOf v)))]) := by
  refine evC_of (F := Try.f25) rfl rfl (Nat.le_of_ble_eq_true rfl) ?_
  have hM : (if ScC 2 (xsOf u) (xssOf v) then (((allC 2 (xsOf u) (xsOf u).length).length : Nat) : Int) else ((0 : Nat) : Int)) = (scM 2 (xsOf u) (xssOf v) : Int) := by unfold scM; split <;> rfl
  have h1 := l16Scale_c (s := 2) hu hv (by omega)
  obtain ⟨r, hr⟩ : ∃ r, (if ScC 2 (xsOf u) (xssOf v) then rowR 1 3 22 (ints (scR 2 (xsOf u) (xssOf v))) else .sl 0 .lit []) = r := ⟨_, rfl⟩
  have hn : noEx r = scV 2 (xsOf u) (xssOf v) := by
    rw [← hr]; unfold scV; split <;> simp [noEx]
  rw [hM, hr] at h1
  have k1 : ∀ (K : AV → Prop) (tg : Tg K), CW env 45 [.agg [u, v], .bool false, .bool true] K tg ↔ K (.tup [.agg [.int .i64 (scM 2 (xsOf u) (xssOf v)), r], .bool (decide (ScC 2 (xsOf u) (xssOf v)))]) := fun K tg => callsTo_iff (by simpa using h1)
  obtain ⟨iX, xX⟩ := scV_I 2 (xsOf u) (xssOf v)
  have nX : ∀ h, expo h (scV 2 (xsOf u) (xssOf v)) = scV 2 (xsOf u) (xssOf v) := fun h => by unfold scV; split <;> simp
  obtain ⟨M, hM2⟩ : ∃ M, scM 2 (xsOf u) (xssOf v) = M := ⟨_, rfl⟩
  obtain ⟨X, hX2⟩ : ∃ X, scV 2 (xsOf u) (xssOf v) = X := ⟨_, rfl⟩
  obtain ⟨B, hB2⟩ : ∃ B, decide (ScC 2 (xsOf u) (xssOf v)) = B := ⟨_, rfl⟩
  rw [hM2, hB2] at k1 ⊢
  rw [hX2] at hn iX nX ⊢
  have oX := isI_one iX
  have cX := isI_cells iX
  clear h1 hM hM2 hX2 hB2 hr xX
  repeat' (first | (apply brI <;> intro hb hb2 <;> (try simp [-Int.not_le, -Int.not_lt, -Nat.not_le, -Nat.not_lt, -Nat.add_left_cancel_iff] at hb2)) | (refine draw_listA (by rfl) (by kernel_rfl) ?_) | (refine draw_listB (by simp [allocsOf, isAlloc]; rfl) (by kernel_rfl) ?_) | simp (maxSteps := 2000000) (disch := first | omega | assumption | simp [*]) [*, -Int.not_le, -Int.not_lt, -Nat.not_le, -Nat.not_lt, -Nat.add_left_cancel_iff, wrap_i64, wrap_u64, Try.f25, k1, hn, nX, isI_low iX, isI_cells hu, isI_one hu, isI_low hu, isI_len hu, isLL_cells hv, isLL_one hv, isLL_low hv, isLL_len hv])
theorem sInterordinal_s {u v : AV} (hu : IsI u) (hv : IsLL v) {K : AV → Prop} {tg : Tg K} : CW env 25 [.agg [u, v]] K tg ↔ K (.tup [.agg [.int .i64 (scM 2 (xsOf u) (xssOf v)), scV 2 (xsOf u) (xssOf v)], .bool (decide (ScC 2 (xsOf u) (xssOf v)))]) := callsTo_iff (sInterordinal_c hu hv)
attribute [simp] sInterordinal_s
end Go.Proofs.Ytppfgokonlloaaa
