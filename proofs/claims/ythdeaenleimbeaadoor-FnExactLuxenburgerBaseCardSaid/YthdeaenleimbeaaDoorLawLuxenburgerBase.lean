/- The law of LuxenburgerBase. Conditions: none. -/
import Derived.Test.YthdeaenleimbeaaDoorLux
namespace Go.Proofs.YthdeaenleimbeaaDoor
open Ev
set_option linter.unusedVariables false
set_option linter.unusedSimpArgs false
set_option maxHeartbeats 4000000

theorem lawLuxenburgerBase_c {n least : Int} {v : AV} (hv : IsI v) : EvC env 9 [.agg [.int .i64 n, v], .int .i64 least] (.bool true) := by
  refine evC_of (F := Tryd.f9) rfl rfl (Nat.le_of_ble_eq_true rfl) ?_
  have hvl := hv.len
  obtain ⟨es, hR, hq, hRl⟩ : ∃ es, luxL n (xsOf v) least = es ∧ IsQ es ∧ es.length ≤ 4096 := ⟨_, rfl, luxA_q _ _ _ _, luxL_len _ _ _⟩
  have hRt : es.length ≤ top63 := by unfold top63; omega
  obtain ⟨iv, hiv⟩ : ∃ iv, iv = bufLR 81 59 4 4 es := ⟨_, rfl⟩
  obtain ⟨sv, hsv⟩ : ∃ sv, sv = bufLR 81 67 4 4 es := ⟨_, rfl⟩
  have hOwn : OwnR iv 4 4 81 59 es := by rw [hiv]; exact ownR_bufL ..
  obtain ⟨w, hwn⟩ : ∃ w, noEx sv = w := ⟨_, rfl⟩
  have hun : noEx iv = w := by rw [hiv, ← hwn, hsv, bufLR_noEx, bufLR_noEx]
  have hw : IsM w ∧ esOf w = es := by
    rw [← hwn, hsv, bufLR_noEx]; exact ⟨isM_bufLC hq hRt, esOf_bufLC⟩
  obtain ⟨hw, hwe⟩ := hw
  have ow := isM_one hw
  have cw := isM_cells hw
  have hS : ∀ {v' : AV}, IsI v' → xsOf v' = xsOf v → EvC env 38 [.agg [.int .i64 n, v'], .int .i64 least] sv := fun h1 h2 => by
    have := sLuxenburgerBase_c (n := n) (least := least) h1
    rw [h2, hR, ← hsv] at this; exact this
  have hI : ∀ {v' : AV}, IsI v' → xsOf v' = xsOf v → EvC env 39 [.agg [.int .i64 n, v'], .int .i64 least] iv := fun h1 h2 => by
    have := iLuxenburgerBase_c (n := n) (least := least) h1
    rw [h2, hR, ← hiv] at this; exact this
  have hfl := isQ_flat hq
  clear hR hiv hsv
  have hS1 : ∀ (K : AV → Prop) (tg : Tg K), CW env 38 [.agg [.int .i64 n, .sl 1 .no (ints (xsOf v))], .int .i64 least] K tg ↔ K sv := fun K tg => callsTo_iff (hS (isI_no hvl) (by simp))
  have hI1 : ∀ (K : AV → Prop) (tg : Tg K), CW env 39 [.agg [.int .i64 n, .sl 1 .no (ints (xsOf v))], .int .i64 least] K tg ↔ K iv := fun K tg => callsTo_iff (hI (isI_no hvl) (by simp))
  repeat' (first | (apply br_intro <;> intro hb <;> (have hb2 := hb) <;> (try simp [-Int.not_le, -Int.not_lt, -Nat.not_le, -Nat.not_lt, -Nat.add_left_cancel_iff] at hb2)) | (refine draw_listA (by rfl) (by kernel_rfl) ?_) | (refine draw_listB (by simp [allocsOf, isAlloc]; rfl) (by kernel_rfl) ?_) | simp (maxSteps := 2000000) (disch := first | omega | assumption | simp [*]) [*, -Int.not_le, -Int.not_lt, -Nat.not_le, -Nat.not_lt, -Nat.add_left_cancel_iff, wrap_i64, wrap_u64, Tryd.f9, isI_cells hv, isI_one hv, isI_low hv, isI_noKey hv, farOff, isM_cells hw, isM_one hw, isM_low hw, isM_noKey hw])
  have hlv : (xsOf v).length ≤ 1048576 := by grind
  refine cf_ctx (by simpa [isI_low hv] using toContext_c (m := n) hv hlv) (ownR_row ..) (by simp) rfl ?_
  intro x0 m0 hx0 hm0
  have o0 := hx0.one
  have c0 := hx0.cells
  have l0 : ∀ h', h' 23 = m0 23 → low h' x0 = rowB 1 1 (ints (xsOf v)) := fun h' e => (hx0.keep e).lowI
  repeat' (first | (apply br_intro <;> intro hb <;> (have hb2 := hb) <;> (try simp [-Int.not_le, -Int.not_lt, -Nat.not_le, -Nat.not_lt, -Nat.add_left_cancel_iff] at hb2)) | (refine draw_listA (by rfl) (by kernel_rfl) ?_) | (refine draw_listB (by simp [allocsOf, isAlloc]; rfl) (by kernel_rfl) ?_) | simp (maxSteps := 2000000) (disch := first | omega | assumption | simp [*]) [*, -Int.not_le, -Int.not_lt, -Nat.not_le, -Nat.not_lt, -Nat.add_left_cancel_iff, wrap_i64, wrap_u64, isI_cells hv, isI_one hv, isI_low hv, isI_noKey hv, farOff, isM_cells hw, isM_one hw, isM_low hw, isM_noKey hw])
  refine cf_row (R := iv) (by simpa [l0, hset] using hI (v' := rowB 1 1 (ints (xsOf v))) (isI_rowB hvl) (by simp)) hOwn hfl rfl ?_
  intro g0 m2 hg0 hm2
  have og := hg0.one
  have cg := hg0.cells
  have hP0 : IsM (rowB 4 4 es) := isM_rowB hq hRt
  have hf0 : esOf (rowB 4 4 es) = es := esOf_rowB
  have lg : ∀ h', h' 26 = m2 26 → low h' g0 = rowB 4 4 es := fun h' e => lowQ (hg0.keep e) hq
  repeat' (first | (apply br_intro <;> intro hb <;> (have hb2 := hb) <;> (try simp [-Int.not_le, -Int.not_lt, -Nat.not_le, -Nat.not_lt, -Nat.add_left_cancel_iff] at hb2)) | (refine draw_listA (by rfl) (by kernel_rfl) ?_) | (refine draw_listB (by simp [allocsOf, isAlloc]; rfl) (by kernel_rfl) ?_) | simp (maxSteps := 2000000) (disch := first | omega | assumption | simp [*]) [*, -Int.not_le, -Int.not_lt, -Nat.not_le, -Nat.not_lt, -Nat.add_left_cancel_iff, wrap_i64, wrap_u64, isI_cells hv, isI_one hv, isI_low hv, isI_noKey hv, farOff, isM_cells hw, isM_one hw, isM_low hw, isM_noKey hw])
  refine cf_open rfl rfl (markContext_o (xs := xsOf v) (key := 23) (hx0.keep (by simp [hset, hm2])) (by simp [farOff]) (by decide) (by omega) fun m3 hx0' hm3' => ?_)
  have hm3 := fun x (a : x < 100000) b => hm3' x b (by simp [farOff]; omega)
  clear hm3'
  have hk0 : ¬ (1 + ((xsOf v).length : Int) < 0) := by omega
  repeat' (first | (apply br_intro <;> intro hb <;> (have hb2 := hb) <;> (try simp [-Int.not_le, -Int.not_lt, -Nat.not_le, -Nat.not_lt, -Nat.add_left_cancel_iff] at hb2)) | (refine draw_listA (by rfl) (by kernel_rfl) ?_) | (refine draw_listB (by simp [allocsOf, isAlloc]; rfl) (by kernel_rfl) ?_) | simp (maxSteps := 2000000) (disch := first | omega | assumption | simp [*]) [*, -Int.not_le, -Int.not_lt, -Nat.not_le, -Nat.not_lt, -Nat.add_left_cancel_iff, wrap_i64, wrap_u64, isI_cells hv, isI_one hv, isI_low hv, isI_noKey hv, farOff, isM_cells hw, isM_one hw, isM_low hw, isM_noKey hw])
  refine cf_open rfl rfl (markMeasuredS_o (es := es) (key := 26) (hg0.keep (by simp [hset, hm3])) hq (by omega) (by omega) fun m5 hg0' hm5 => ?_)
  clear lg
  have hP1 : IsM (rowB 4 4 (mkQ 1 es.length)) := isM_rowB (mkQ_isQ _ _) (by rw [mkQ_length]; exact hRt)
  have hf1 : esOf (rowB 4 4 (mkQ 1 es.length)) = mkQ 1 es.length := esOf_rowB
  have hIl : 1 + 4 * (es.length : Int) ≤ 4611686018427387904 := by omega
  have hIp : ¬ (1 + 4 * (es.length : Int) < 0) := by omega
  have lg2 : ∀ h', h' 26 = m5 26 → low h' g0 = rowB 4 4 (mkQ 1 es.length) := fun h' e => lowQ (hg0'.keep e) (mkQ_isQ _ _)
  repeat' (first | (apply br_intro <;> intro hb <;> (have hb2 := hb) <;> (try simp [-Int.not_le, -Int.not_lt, -Nat.not_le, -Nat.not_lt, -Nat.add_left_cancel_iff] at hb2)) | (refine draw_listA (by rfl) (by kernel_rfl) ?_) | (refine draw_listB (by simp [allocsOf, isAlloc]; rfl) (by kernel_rfl) ?_) | simp (maxSteps := 2000000) (disch := first | omega | assumption | simp [*]) [*, -Int.not_le, -Int.not_lt, -Nat.not_le, -Nat.not_lt, -Nat.add_left_cancel_iff, wrap_i64, wrap_u64, isI_cells hv, isI_one hv, isI_low hv, isI_noKey hv, farOff, isM_cells hw, isM_one hw, isM_low hw, isM_noKey hw])
theorem lawLuxenburgerBase_s {n least : Int} {v : AV} (hv : IsI v) {K : AV → Prop} {tg : Tg K} : CW env 9 [.agg [.int .i64 n, v], .int .i64 least] K tg ↔ K (.bool true) := callsTo_iff (lawLuxenburgerBase_c hv)
attribute [simp] lawLuxenburgerBase_s
end Go.Proofs.YthdeaenleimbeaaDoor
