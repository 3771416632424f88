/- The law of Subposition. Conditions: none. -/
import Derived.Test.YtppfgokonlloaaaSubpos
namespace Go.Proofs.Ytppfgokonlloaaa
open Ev
set_option linter.unusedVariables false
set_option linter.unusedSimpArgs false
set_option maxHeartbeats 4000000

theorem lawSubposition_c {n m : Int} {u v : AV} (hu : IsI u) (hv : IsI v) : EvC env 3 [.agg [.int .i64 n, u], .agg [.int .i64 m, v]] (.bool true) := by
  refine evC_of (F := Try.f3) rfl rfl (Nat.le_of_ble_eq_true rfl) ?_
  have hul := hu.len
  have hvl := hv.len
  obtain ⟨N, hN⟩ : ∃ N, N = spoN n (xsOf u) m (xsOf v) := ⟨_, rfl⟩
  obtain ⟨R, hR⟩ : ∃ R, R = spoR n (xsOf u) m (xsOf v) := ⟨_, rfl⟩
  obtain ⟨c, hc⟩ : ∃ c, c = decide (SpoC n (xsOf u) m (xsOf v)) := ⟨_, rfl⟩
  have hRl : R.length ≤ 8 := by
    rw [hR]; unfold spoR; split
    · rename_i h; rw [List.length_append]; exact h.2.2.2
    · simp
  obtain ⟨hw, hwx⟩ := spoV_w 3 n (xsOf u) m (xsOf v)
  obtain ⟨sv, hsv⟩ : ∃ sv, sv = spoV 3 n (xsOf u) m (xsOf v) := ⟨_, rfl⟩
  obtain ⟨w, hwn⟩ : ∃ w, noEx sv = w := ⟨_, rfl⟩
  rw [← hsv, hwn] at hw hwx
  rw [← hR] at hwx
  have hS : ∀ {u' v' : AV}, IsI u' → IsI v' → xsOf u' = xsOf u → xsOf v' = xsOf v → EvC env 9 [.agg [.int .i64 n, u'], .agg [.int .i64 m, v']] (.tup [.agg [.int .i64 N, sv], .bool c]) := fun h1 h2 h3 h4 => by
    have := sSubposition_c (n := n) (m := m) h1 h2
    rw [h3, h4, ← hN, ← hsv, ← hc] at this; exact this
  have hI : ∀ {u' v' : AV}, IsI u' → IsI v' → xsOf u' = xsOf u → xsOf v' = xsOf v → EvC env 11 [.agg [.int .i64 n, u'], .agg [.int .i64 m, v']] (.tup [.agg [.int .i64 N, bufR 3 29 0 R], .bool c]) := fun h1 h2 h3 h4 => by
    have := iSubposition_c (n := n) (m := m) h1 h2
    rw [h3, h4, ← hN, ← hR, ← hc] at this; exact this
  clear hN hR hc hsv
  have owW := isI_one hw
  have cwW := isI_cells hw
  have hS1 : ∀ (K : AV → Prop) (tg : Tg K), CW env 9 [.agg [.int .i64 n, .sl 1 .no (ints (xsOf u))], .agg [.int .i64 m, .sl 1 .no (ints (xsOf v))]] K tg ↔ K (.tup [.agg [.int .i64 N, sv], .bool c]) :=
    fun K tg => callsTo_iff (hS (isI_no hul) (isI_no hvl) (by simp) (by simp))
  repeat' (first | (apply brI <;> intro hb hb2 <;> (try simp [-Int.not_le, -Int.not_lt, -Nat.not_le, -Nat.not_lt, -Nat.add_left_cancel_iff] at hb2)) | (refine draw_listA (by rfl) (by kernel_rfl) ?_) | (refine draw_listB (by simp [allocsOf, isAlloc]; rfl) (by kernel_rfl) ?_) | simp (maxSteps := 2000000) (disch := first | omega | assumption | simp [*]) [*, -Int.not_le, -Int.not_lt, -Nat.not_le, -Nat.not_lt, -Nat.add_left_cancel_iff, wrap_i64, wrap_u64, Try.f3, isI_low hw, isI_noKey hw, isI_cells hu, isI_one hu, isI_low hu, isI_cells hv, isI_one hv, isI_low hv, isI_noKey hu, isI_noKey hv])
  have hlu : (xsOf u).length ≤ 1048576 := by grind
  have hlv : (xsOf v).length ≤ 1048576 := by grind
  have hRt : R.length ≤ top63 := by unfold top63; omega
  have hI1 : ∀ (K : AV → Prop) (tg : Tg K), CW env 11 [.agg [.int .i64 n, .sl 1 .no (ints (xsOf u))], .agg [.int .i64 m, .sl 1 .no (ints (xsOf v))]] K tg ↔ K (.tup [.agg [.int .i64 N, bufR 3 29 0 R], .bool c]) :=
    fun K tg => callsTo_iff (hI (isI_no hul) (isI_no hvl) (by simp) (by simp))
  refine cf_ctx (by simpa [isI_low hu] using toContext_c (m := n) hu hlu) (ownR_row ..) (by simp) rfl ?_
  intro x0 m0 hx0 hm0
  have o0 := hx0.one
  have c0 := hx0.cells
  have l0 : ∀ h', h' 36 = m0 36 → low h' x0 = rowB 1 1 (ints (xsOf u)) := fun h' e => (hx0.keep e).lowI
  repeat' (first | (apply brI <;> intro hb hb2 <;> (try simp [-Int.not_le, -Int.not_lt, -Nat.not_le, -Nat.not_lt, -Nat.add_left_cancel_iff] at hb2)) | (refine draw_listA (by rfl) (by kernel_rfl) ?_) | (refine draw_listB (by simp [allocsOf, isAlloc]; rfl) (by kernel_rfl) ?_) | simp (maxSteps := 2000000) (disch := first | omega | assumption | simp [*]) [*, -Int.not_le, -Int.not_lt, -Nat.not_le, -Nat.not_lt, -Nat.add_left_cancel_iff, wrap_i64, wrap_u64, isI_low hw, isI_noKey hw, isI_cells hu, isI_one hu, isI_low hu, isI_cells hv, isI_one hv, isI_low hv, isI_noKey hu, isI_noKey hv, farOff])
  refine cf_ctx (by simpa [isI_low hv] using toContext_c (m := m) hv hlv) (ownR_row ..) (by simp) rfl ?_
  intro x1 m1 hx1 hm1
  have o1 := hx1.one
  have c1 := hx1.cells
  have l1 : ∀ h', h' 38 = m1 38 → low h' x1 = rowB 1 1 (ints (xsOf v)) := fun h' e => (hx1.keep e).lowI
  repeat' (first | (apply brI <;> intro hb hb2 <;> (try simp [-Int.not_le, -Int.not_lt, -Nat.not_le, -Nat.not_lt, -Nat.add_left_cancel_iff] at hb2)) | (refine draw_listA (by rfl) (by kernel_rfl) ?_) | (refine draw_listB (by simp [allocsOf, isAlloc]; rfl) (by kernel_rfl) ?_) | simp (maxSteps := 2000000) (disch := first | omega | assumption | simp [*]) [*, -Int.not_le, -Int.not_lt, -Nat.not_le, -Nat.not_lt, -Nat.add_left_cancel_iff, wrap_i64, wrap_u64, isI_low hw, isI_noKey hw, isI_cells hu, isI_one hu, isI_low hu, isI_cells hv, isI_one hv, isI_low hv, isI_noKey hu, isI_noKey hv, farOff])
  refine cf_ctxb (R := bufR 3 29 0 R) (by simpa [l0, l1, hset, hm1] using hI (u' := rowB 1 1 (ints (xsOf u))) (v' := rowB 1 1 (ints (xsOf v))) (isI_rowB hul) (isI_rowB hvl) (by simp) (by simp)) (ownR_buf ..) (by simp) rfl ?_
  intro g0 m2 hg0 hm2
  have og := hg0.one
  have cg := hg0.cells
  have lg : ∀ h', h' 42 = m2 42 → low h' g0 = rowB 1 0 (ints R) := fun h' e => (hg0.keep e).lowI
  repeat' (first | (apply brI <;> intro hb hb2 <;> (try simp [-Int.not_le, -Int.not_lt, -Nat.not_le, -Nat.not_lt, -Nat.add_left_cancel_iff] at hb2)) | (refine draw_listA (by rfl) (by kernel_rfl) ?_) | (refine draw_listB (by simp [allocsOf, isAlloc]; rfl) (by kernel_rfl) ?_) | simp (maxSteps := 2000000) (disch := first | omega | assumption | simp [*]) [*, -Int.not_le, -Int.not_lt, -Nat.not_le, -Nat.not_lt, -Nat.add_left_cancel_iff, wrap_i64, wrap_u64, isI_low hw, isI_noKey hw, isI_cells hu, isI_one hu, isI_low hu, isI_cells hv, isI_one hv, isI_low hv, isI_noKey hu, isI_noKey hv, farOff])
  refine cf_open rfl rfl (markContext_o (xs := xsOf u) (key := 36) (hx0.keep (by simp [hset, hm1, hm2])) (by simp [farOff]) (by decide) (by omega) fun m3 hx0' hm3' => ?_)
  have hm3 := fun x (a : x < 100000) b => hm3' x b (by simp [farOff]; omega)
  clear hm3'
  repeat' (first | (apply brI <;> intro hb hb2 <;> (try simp [-Int.not_le, -Int.not_lt, -Nat.not_le, -Nat.not_lt, -Nat.add_left_cancel_iff] at hb2)) | (refine draw_listA (by rfl) (by kernel_rfl) ?_) | (refine draw_listB (by simp [allocsOf, isAlloc]; rfl) (by kernel_rfl) ?_) | simp (maxSteps := 2000000) (disch := first | omega | assumption | simp [*]) [*, -Int.not_le, -Int.not_lt, -Nat.not_le, -Nat.not_lt, -Nat.add_left_cancel_iff, wrap_i64, wrap_u64, isI_low hw, isI_noKey hw, isI_cells hu, isI_one hu, isI_low hu, isI_cells hv, isI_one hv, isI_low hv, isI_noKey hu, isI_noKey hv, farOff])
  refine cf_open rfl rfl (markContext_o (xs := xsOf v) (key := 38) (hx1.keep (by simp [hset, hm2, hm3])) (by simp [farOff]) (by omega) (by omega) fun m4 hx1' hm4' => ?_)
  have hm4 := fun x (a : x < 100000) b => hm4' x b (by simp [farOff]; omega)
  clear hm4'
  have hk0 : ¬ (1 + ((xsOf u).length : Int) + ((xsOf v).length : Int) < 0) := by omega
  repeat' (first | (apply brI <;> intro hb hb2 <;> (try simp [-Int.not_le, -Int.not_lt, -Nat.not_le, -Nat.not_lt, -Nat.add_left_cancel_iff] at hb2)) | (refine draw_listA (by rfl) (by kernel_rfl) ?_) | (refine draw_listB (by simp [allocsOf, isAlloc]; rfl) (by kernel_rfl) ?_) | simp (maxSteps := 2000000) (disch := first | omega | assumption | simp [*]) [*, -Int.not_le, -Int.not_lt, -Nat.not_le, -Nat.not_lt, -Nat.add_left_cancel_iff, wrap_i64, wrap_u64, isI_low hw, isI_noKey hw, isI_cells hu, isI_one hu, isI_low hu, isI_cells hv, isI_one hv, isI_low hv, isI_noKey hu, isI_noKey hv, farOff])
  refine cf_open rfl rfl (markContext_o (xs := R) (key := 42) (hg0.keep (by simp [hset, hm3, hm4])) (by simp [farOff]) (by omega) (by omega) fun m5 hg0' hm5' => ?_)
  have hm5 := fun x (a : x < 100000) b => hm5' x b (by simp [farOff]; omega)
  clear hm5' lg
  have hIu : IsI (rowB 1 0 (ints (upTo 1 R.length))) := isI_rowB (by simpa using hRt)
  have hIl : 1 + (R.length : Int) ≤ 4611686018427387904 := by omega
  have hIp : ¬ (1 + (R.length : Int) < 0) := by omega
  have lg2 : ∀ h', h' 42 = m5 42 → low h' g0 = rowB 1 0 (ints (upTo 1 R.length)) := fun h' e => (hg0'.keep e).lowI
  repeat' (first | (apply brI <;> intro hb hb2 <;> (try simp [-Int.not_le, -Int.not_lt, -Nat.not_le, -Nat.not_lt, -Nat.add_left_cancel_iff] at hb2)) | (refine draw_listA (by rfl) (by kernel_rfl) ?_) | (refine draw_listB (by simp [allocsOf, isAlloc]; rfl) (by kernel_rfl) ?_) | simp (maxSteps := 2000000) (disch := first | omega | assumption | simp [*]) [*, -Int.not_le, -Int.not_lt, -Nat.not_le, -Nat.not_lt, -Nat.add_left_cancel_iff, wrap_i64, wrap_u64, isI_low hw, isI_noKey hw, isI_cells hu, isI_one hu, isI_low hu, isI_cells hv, isI_one hv, isI_low hv, isI_noKey hu, isI_noKey hv, farOff])
theorem lawSubposition_s {n m : Int} {u v : AV} (hu : IsI u) (hv : IsI v) {K : AV → Prop} {tg : Tg K} : CW env 3 [.agg [.int .i64 n, u], .agg [.int .i64 m, v]] K tg ↔ K (.bool true) := callsTo_iff (lawSubposition_c hu hv)
attribute [simp] lawSubposition_s
end Go.Proofs.Ytppfgokonlloaaa
