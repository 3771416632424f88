/- The law of scales. Conditions: none. -/
import Derived.Test.YtliecnadoklgoaaScaleL
import Derived.Test.YtliecnadoklgoaaDrawT
import Derived.Test.YtliecnadoklgoaaLawSame
namespace Go.Proofs.Ytliecnadoklgoaa
open Ev
set_option linter.unusedVariables false
set_option linter.unusedSimpArgs false
set_option maxHeartbeats 16000000
set_option maxRecDepth 100000

theorem agV_all (lv : List Int) (xss : List (List Int)) : IsI (agV lv xss) ∧ xsOf (agV lv xss) = agX lv xss ∧ noEx (agV lv xss) = agV lv xss ∧ (agX lv xss).length ≤ 8 := by
  unfold agV agX
  split
  · rename_i h
    have hl : (agTo xss xss.length).length ≤ 8 := h.2
    exact ⟨isI_bufC (by unfold top63; omega), by simp, by simp, hl⟩
  · exact ⟨isI_sl (xs := []) (.inl rfl) rfl (Nat.zero_le _), rfl, rfl, by simp⟩
theorem lawScales_c {b : AV} (hB : IsB b) (hbr : brwOf b = false) : EvC env 8 [b] (.bool true) := by
  refine evC_of (F := Try.f8) rfl rfl (Nat.le_of_ble_eq_true rfl) ?_
  have hcb := isB_cells hB
  have hob := isB_one hB
  by_cases hbig : 1048576 < bLen b
  · have hbi : (1048576 : Int) < (bLen b : Int) := by omega
    repeat' (first | (apply brI <;> intro hb hb2 <;> (try simp [-Int.not_le, -Int.not_lt, -Nat.not_le, -Nat.not_lt, -Nat.add_left_cancel_iff] at hb2)) | (refine draw_listA (by rfl) (by kernel_rfl) ?_) | (refine draw_listB (by simp [allocsOf, isAlloc]; rfl) (by kernel_rfl) ?_) | simp (maxSteps := 2000000) (disch := first | omega | assumption | simp [*]) [*, -Int.not_le, -Int.not_lt, -Nat.not_le, -Nat.not_lt, -Nat.add_left_cancel_iff, wrap_i64, wrap_u64, Try.f8, isB_low hB])
  · have hbi : ¬ ((1048576 : Int) < (bLen b : Int)) := by omega
    have hl : bLen b ≤ 1073741824 := by omega
    repeat' (first | (apply brI <;> intro hb hb2 <;> (try simp [-Int.not_le, -Int.not_lt, -Nat.not_le, -Nat.not_lt, -Nat.add_left_cancel_iff] at hb2)) | (refine draw_listA (by rfl) (by kernel_rfl) ?_) | (refine draw_listB (by simp [allocsOf, isAlloc]; rfl) (by kernel_rfl) ?_) | simp (maxSteps := 2000000) (disch := first | omega | assumption | simp [*]) [*, -Int.not_le, -Int.not_lt, -Nat.not_le, -Nat.not_lt, -Nat.add_left_cancel_iff, wrap_i64, wrap_u64, Try.f8, isB_low hB])
    refine cw_to (drawNominal_t hB hbr hl) ?_
    rintro r1 ⟨u, v, hr1, hu, hv, lu, lv⟩
    have ou := isI_one hu
    have cu := isI_cells hu
    have ov := isLL_one hv
    have cv := isLL_cells hv
    have kI0 : ∀ (K : AV → Prop) (tg : Tg K), CW env 23 [.agg [u, v]] K tg ↔ K (.tup [.agg [.int .i64 (scM 0 (xsOf u) (xssOf v)), bufC 0 (scX 0 (xsOf u) (xssOf v))], .bool (decide (ScC 0 (xsOf u) (xssOf v)))]) := fun K tg => callsTo_iff (iNominal_c hu hv)
    have kS0 : ∀ (K : AV → Prop) (tg : Tg K), CW env 22 [.agg [u, v]] K tg ↔ K (.tup [.agg [.int .i64 (scM 0 (xsOf u) (xssOf v)), scV 0 (xsOf u) (xssOf v)], .bool (decide (ScC 0 (xsOf u) (xssOf v)))]) := fun K tg => callsTo_iff (sNominal_c hu hv)
    obtain ⟨iV0, xV0⟩ := scV_I 0 (xsOf u) (xssOf v)
    have nV0 : noEx (scV 0 (xsOf u) (xssOf v)) = scV 0 (xsOf u) (xssOf v) := by unfold scV; split <;> simp [noEx]
    have iX0 : IsI (bufC 0 (scX 0 (xsOf u) (xssOf v))) := isI_bufC (by have := scX_len 0 (xsOf u) (xssOf v); unfold top63; omega)
    have xX0 : xsOf (bufC 0 (scX 0 (xsOf u) (xssOf v))) = scX 0 (xsOf u) (xssOf v) := by simp
    have nX0 : noEx (bufC 0 (scX 0 (xsOf u) (xssOf v))) = bufC 0 (scX 0 (xsOf u) (xssOf v)) := by simp
    have kI1 : ∀ (K : AV → Prop) (tg : Tg K), CW env 25 [.agg [u, v]] K tg ↔ K (.tup [.agg [.int .i64 (scM 1 (xsOf u) (xssOf v)), bufC 0 (scX 1 (xsOf u) (xssOf v))], .bool (decide (ScC 1 (xsOf u) (xssOf v)))]) := fun K tg => callsTo_iff (iOrdinal_c hu hv)
    have kS1 : ∀ (K : AV → Prop) (tg : Tg K), CW env 24 [.agg [u, v]] K tg ↔ K (.tup [.agg [.int .i64 (scM 1 (xsOf u) (xssOf v)), scV 1 (xsOf u) (xssOf v)], .bool (decide (ScC 1 (xsOf u) (xssOf v)))]) := fun K tg => callsTo_iff (sOrdinal_c hu hv)
    obtain ⟨iV1, xV1⟩ := scV_I 1 (xsOf u) (xssOf v)
    have nV1 : noEx (scV 1 (xsOf u) (xssOf v)) = scV 1 (xsOf u) (xssOf v) := by unfold scV; split <;> simp [noEx]
    have iX1 : IsI (bufC 0 (scX 1 (xsOf u) (xssOf v))) := isI_bufC (by have := scX_len 1 (xsOf u) (xssOf v); unfold top63; omega)
    have xX1 : xsOf (bufC 0 (scX 1 (xsOf u) (xssOf v))) = scX 1 (xsOf u) (xssOf v) := by simp
    have nX1 : noEx (bufC 0 (scX 1 (xsOf u) (xssOf v))) = bufC 0 (scX 1 (xsOf u) (xssOf v)) := by simp
    have kI2 : ∀ (K : AV → Prop) (tg : Tg K), CW env 27 [.agg [u, v]] K tg ↔ K (.tup [.agg [.int .i64 (scM 2 (xsOf u) (xssOf v)), bufC 0 (scX 2 (xsOf u) (xssOf v))], .bool (decide (ScC 2 (xsOf u) (xssOf v)))]) := fun K tg => callsTo_iff (iInterordinal_c hu hv)
    have kS2 : ∀ (K : AV → Prop) (tg : Tg K), CW env 26 [.agg [u, v]] K tg ↔ K (.tup [.agg [.int .i64 (scM 2 (xsOf u) (xssOf v)), scV 2 (xsOf u) (xssOf v)], .bool (decide (ScC 2 (xsOf u) (xssOf v)))]) := fun K tg => callsTo_iff (sInterordinal_c hu hv)
    obtain ⟨iV2, xV2⟩ := scV_I 2 (xsOf u) (xssOf v)
    have nV2 : noEx (scV 2 (xsOf u) (xssOf v)) = scV 2 (xsOf u) (xssOf v) := by unfold scV; split <;> simp [noEx]
    have iX2 : IsI (bufC 0 (scX 2 (xsOf u) (xssOf v))) := isI_bufC (by have := scX_len 2 (xsOf u) (xssOf v); unfold top63; omega)
    have xX2 : xsOf (bufC 0 (scX 2 (xsOf u) (xssOf v))) = scX 2 (xsOf u) (xssOf v) := by simp
    have nX2 : noEx (bufC 0 (scX 2 (xsOf u) (xssOf v))) = bufC 0 (scX 2 (xsOf u) (xssOf v)) := by simp
    have hnc : ScC 0 (xsOf u) (xssOf v) → ∀ i, i < (scX 0 (xsOf u) (xssOf v)).length → (elemsTo (nth (scX 0 (xsOf u) (xssOf v)) i) 8).length = (xsOf u).length := nom_count
    obtain ⟨M0, hM0⟩ : ∃ M, scM 0 (xsOf u) (xssOf v) = M := ⟨_, rfl⟩
    obtain ⟨B0, hB0⟩ : ∃ B, decide (ScC 0 (xsOf u) (xssOf v)) = B := ⟨_, rfl⟩
    obtain ⟨V0, hV0⟩ : ∃ V, scV 0 (xsOf u) (xssOf v) = V := ⟨_, rfl⟩
    obtain ⟨X0, hX0⟩ : ∃ X, bufC 0 (scX 0 (xsOf u) (xssOf v)) = X := ⟨_, rfl⟩
    rw [hM0, hB0, hX0] at kI0
    rw [hM0, hB0, hV0] at kS0
    rw [hV0] at iV0 xV0 nV0
    rw [hX0] at iX0 xX0 nX0
    have e0 : xsOf V0 = xsOf X0 := by rw [xV0, xX0]
    have oV0 := isI_one iV0
    have cV0 := isI_cells iV0
    have oX0 := isI_one iX0
    have cX0 := isI_cells iX0
    obtain ⟨M1, hM1⟩ : ∃ M, scM 1 (xsOf u) (xssOf v) = M := ⟨_, rfl⟩
    obtain ⟨B1, hB1⟩ : ∃ B, decide (ScC 1 (xsOf u) (xssOf v)) = B := ⟨_, rfl⟩
    obtain ⟨V1, hV1⟩ : ∃ V, scV 1 (xsOf u) (xssOf v) = V := ⟨_, rfl⟩
    obtain ⟨X1, hX1⟩ : ∃ X, bufC 0 (scX 1 (xsOf u) (xssOf v)) = X := ⟨_, rfl⟩
    rw [hM1, hB1, hX1] at kI1
    rw [hM1, hB1, hV1] at kS1
    rw [hV1] at iV1 xV1 nV1
    rw [hX1] at iX1 xX1 nX1
    have e1 : xsOf V1 = xsOf X1 := by rw [xV1, xX1]
    have oV1 := isI_one iV1
    have cV1 := isI_cells iV1
    have oX1 := isI_one iX1
    have cX1 := isI_cells iX1
    obtain ⟨M2, hM2⟩ : ∃ M, scM 2 (xsOf u) (xssOf v) = M := ⟨_, rfl⟩
    obtain ⟨B2, hB2⟩ : ∃ B, decide (ScC 2 (xsOf u) (xssOf v)) = B := ⟨_, rfl⟩
    obtain ⟨V2, hV2⟩ : ∃ V, scV 2 (xsOf u) (xssOf v) = V := ⟨_, rfl⟩
    obtain ⟨X2, hX2⟩ : ∃ X, bufC 0 (scX 2 (xsOf u) (xssOf v)) = X := ⟨_, rfl⟩
    rw [hM2, hB2, hX2] at kI2
    rw [hM2, hB2, hV2] at kS2
    rw [hV2] at iV2 xV2 nV2
    rw [hX2] at iX2 xX2 nX2
    have e2 : xsOf V2 = xsOf X2 := by rw [xV2, xX2]
    have oV2 := isI_one iV2
    have cV2 := isI_cells iV2
    have oX2 := isI_one iX2
    have cX2 := isI_cells iX2
    rw [← xX0] at hnc
    have hnc2 : B0 = true → ∀ i, i < (xsOf X0).length → (elemsTo (nth (xsOf X0) i) 8).length = (xsOf u).length := fun h => hnc (by rw [← hB0, decide_eq_true_eq] at h; exact h)
    have lX0 : (xsOf X0).length ≤ 8 := by rw [xX0]; exact scX_len ..
    clear hnc xV0 xV1 xV2 xX0 xX1 xX2 hM0 hM1 hM2 hB0 hB1 hB2 hV0 hV1 hV2 hX0 hX1 hX2
    repeat' (first | (apply brI <;> intro hb hb2 <;> (try simp [-Int.not_le, -Int.not_lt, -Nat.not_le, -Nat.not_lt, -Nat.add_left_cancel_iff] at hb2)) | (refine draw_listA (by rfl) (by kernel_rfl) ?_) | (refine draw_listB (by simp [allocsOf, isAlloc]; rfl) (by kernel_rfl) ?_) | simp (maxSteps := 2000000) (disch := first | omega | assumption | simp [*]) [*, -Int.not_le, -Int.not_lt, -Nat.not_le, -Nat.not_lt, -Nat.add_left_cancel_iff, wrap_i64, wrap_u64, hr1, kI0, kS0, kI1, kS1, kI2, kS2, nV0, nV1, nV2, nX0, nX1, nX2, isB_low hB, isI_low hu, isLL_low hv, isI_low iV0, isI_low iV1, isI_low iV2, isI_low iX0, isI_low iX1, isI_low iX2])
    refine cw_to (drawFunctional_t hB hbr hl) ?_
    rintro r2 ⟨p, q, f, t, hr2, hp, hq, lp, lq⟩
    have op := isI_one hp
    have cp := isI_cells hp
    have oq := isLL_one hq
    have cq := isLL_cells hq
    obtain ⟨iA, xA, nA, lA⟩ := agV_all (xsOf p) (xssOf q)
    have iG : IsI (bufC 0 (agX (xsOf p) (xssOf q))) := isI_bufC (by unfold top63; omega)
    have xG : xsOf (bufC 0 (agX (xsOf p) (xssOf q))) = agX (xsOf p) (xssOf q) := by simp
    have kA : ∀ (K : AV → Prop) (tg : Tg K), CW env 19 [.agg [p, q]] K tg ↔ K (.tup [.agg [.int .i64 (agM (xsOf p) (xssOf q)), agV (xsOf p) (xssOf q)], .bool (decide (AgC (xsOf p) (xssOf q)))]) := fun K tg => callsTo_iff (iAgr_c hp hq)
    have kG : ∀ (K : AV → Prop) (tg : Tg K), CW env 17 [.agg [p, q]] K tg ↔ K (.tup [.agg [.int .i64 (agM (xsOf p) (xssOf q)), bufR 3 51 0 (agX (xsOf p) (xssOf q))], .bool (decide (AgC (xsOf p) (xssOf q)))]) := fun K tg => callsTo_iff (sAgr_c hp hq (by omega))
    have kF : ∀ (K : AV → Prop) (tg : Tg K), CW env 31 [.agg [p, q], .int .i64 f, .int .i64 t] K tg ↔ K (.bool (decide (PFun (xsOf p) (xssOf q) f t))) := fun K tg => callsTo_iff (iFunctionalRule_c hp hq)
    have kH : ∀ (K : AV → Prop) (tg : Tg K), CW env 33 [.agg [p, q], .int .i64 f, .int .i64 t] K tg ↔ K (.bool (decide (PFun (xsOf p) (xssOf q) f t))) := fun K tg => callsTo_iff (sFunctionalRule_c hp hq)
    have kO : ∀ (K : AV → Prop) (tg : Tg K), CW env 37 [.agg [.int .i64 (agM (xsOf p) (xssOf q)), agV (xsOf p) (xssOf q)], .agg [.int .i64 f, .int .i64 t]] K tg ↔ K (.bool (decide (HoldC (agM (xsOf p) (xssOf q)) (xsOf (agV (xsOf p) (xssOf q))) f t))) := fun K tg => callsTo_iff (sHoldsIn_c iA)
    have hfh : decide (AgC (xsOf p) (xssOf q)) = true → decide (PFun (xsOf p) (xssOf q) f t) = decide (HoldC (agM (xsOf p) (xssOf q)) (xsOf (agV (xsOf p) (xssOf q))) f t) := fun h => by
      rw [decide_eq_true_eq] at h
      have h1 : agM (xsOf p) (xssOf q) = (xsOf p).length := if_pos h
      have h2 : agX (xsOf p) (xssOf q) = agTo (xssOf q) (xssOf q).length := if_pos h
      rw [xA, h1, h2]
      exact decide_eq_decide.mpr (agr_holds h f t)
    obtain ⟨AM, hAM⟩ : ∃ M, agM (xsOf p) (xssOf q) = M := ⟨_, rfl⟩
    obtain ⟨AB, hAB⟩ : ∃ M, decide (AgC (xsOf p) (xssOf q)) = M := ⟨_, rfl⟩
    obtain ⟨AV', hAV⟩ : ∃ M, agV (xsOf p) (xssOf q) = M := ⟨_, rfl⟩
    obtain ⟨AG, hAG⟩ : ∃ M, bufC 0 (agX (xsOf p) (xssOf q)) = M := ⟨_, rfl⟩
    obtain ⟨AR, hAR⟩ : ∃ M, bufR 3 51 0 (agX (xsOf p) (xssOf q)) = M := ⟨_, rfl⟩
    obtain ⟨FB, hFB⟩ : ∃ M, decide (PFun (xsOf p) (xssOf q) f t) = M := ⟨_, rfl⟩
    have nR : noEx AR = AG := by rw [← hAR, ← hAG]; simp
    rw [hAM, hAV] at hfh kO
    rw [hAM, hAB, hAV] at kA
    rw [hAM, hAB, hAR] at kG
    rw [hFB] at kF kH hfh
    rw [hAB] at hfh
    rw [hAV] at iA xA nA
    rw [hAG] at iG xG
    obtain ⟨HB, hHB⟩ : ∃ M, decide (HoldC AM (xsOf AV') f t) = M := ⟨_, rfl⟩
    rw [hHB] at kO hfh
    have eA : xsOf AG = xsOf AV' := by rw [xA, xG]
    clear xA xG lA hAM hAB hAV hAG hAR hFB hHB
    have oA := isI_one iA
    have cA := isI_cells iA
    have oG := isI_one iG
    have cG := isI_cells iG
    repeat' (first | (apply brI <;> intro hb hb2 <;> (try simp [-Int.not_le, -Int.not_lt, -Nat.not_le, -Nat.not_lt, -Nat.add_left_cancel_iff] at hb2)) | (refine draw_listA (by rfl) (by kernel_rfl) ?_) | (refine draw_listB (by simp [allocsOf, isAlloc]; rfl) (by kernel_rfl) ?_) | simp (maxSteps := 2000000) (disch := first | omega | assumption | simp [*]) [*, -Int.not_le, -Int.not_lt, -Nat.not_le, -Nat.not_lt, -Nat.add_left_cancel_iff, wrap_i64, wrap_u64, hr2, kA, kG, kF, kH, kO, nA, nR, e0, e1, e2, eA, isB_low hB, isI_low hu, isLL_low hv, isI_low iV0, isI_low iV1, isI_low iV2, isI_low iX0, isI_low iX1, isI_low iX2, isI_low hp, isLL_low hq, isI_low iA, isI_low iG])
    refine W_loopG (xsOf X0).length (fun i st h => st 24 = .int .i64 i ∧ st 3 = .vp 3 0 0 ∧ st 4 = .vp 4 0 0 ∧ st 20 = .vp 20 0 0 ∧ st 17 = .int .i64 f ∧ st 18 = .int .i64 t ∧ st 19 = .bool FB ∧ st 21 = .bool AB ∧ h 3 = some (.var 0 38 (.agg [u, v])) ∧ h 4 = some (.var 0 26 (.agg [.int .i64 M0, X0])) ∧ h 20 = some (.var 0 26 (.agg [.int .i64 AM, AV']))) ?_ ?_
    · simp [hset]
    rintro i st h hi ⟨k24, k3, k4, k20, k17, k18, k19, k21, e3, e4, e20⟩
    by_cases hi2 : i < (xsOf X0).length
    · have hel := hnc2 hb i hi2
      have heli : ((elemsTo (nth (xsOf X0) i) 8).length : Int) = ((xsOf u).length : Int) := by omega
      clear hnc2
      repeat' (first | (apply brI <;> intro hb hb2 <;> (try simp [-Int.not_le, -Int.not_lt, -Nat.not_le, -Nat.not_lt, -Nat.add_left_cancel_iff] at hb2)) | (refine draw_listA (by rfl) (by kernel_rfl) ?_) | (refine draw_listB (by simp [allocsOf, isAlloc]; rfl) (by kernel_rfl) ?_) | simp (maxSteps := 2000000) (disch := first | omega | assumption | simp [*]) [*, -Int.not_le, -Int.not_lt, -Nat.not_le, -Nat.not_lt, -Nat.add_left_cancel_iff, wrap_i64, wrap_u64, k24, k3, k4, k20, k17, k18, k19, k21, e3, e4, e20, isI_len iX0, isI_index iX0, isI_load iX0, isI_len hu])
    · obtain rfl : i = (xsOf X0).length := by omega
      clear hnc2
      repeat' (first | (apply brI <;> intro hb hb2 <;> (try simp [-Int.not_le, -Int.not_lt, -Nat.not_le, -Nat.not_lt, -Nat.add_left_cancel_iff] at hb2)) | (refine draw_listA (by rfl) (by kernel_rfl) ?_) | (refine draw_listB (by simp [allocsOf, isAlloc]; rfl) (by kernel_rfl) ?_) | simp (maxSteps := 2000000) (disch := first | omega | assumption | simp [*]) [*, -Int.not_le, -Int.not_lt, -Nat.not_le, -Nat.not_lt, -Nat.add_left_cancel_iff, wrap_i64, wrap_u64, k24, k3, k4, k20, k17, k18, k19, k21, e3, e4, e20, kO, isI_len iX0, isI_low iA])
theorem lawScales_s {b : AV} (hB : IsB b) (hbr : brwOf b = false) {K : AV → Prop} {tg : Tg K} : CW env 8 [b] K tg ↔ K (.bool true) := callsTo_iff (lawScales_c hB hbr)
attribute [simp] lawScales_s
end Go.Proofs.Ytliecnadoklgoaa
