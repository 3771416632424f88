/- The law of CompletionAt. Conditions: none. -/
import Derived.Test.YtemhhpjenffalaaCompl
namespace Go.Proofs.Ytemhhpjenffalaa
open Ev
set_option linter.unusedVariables false
set_option linter.unusedSimpArgs false
set_option maxHeartbeats 4000000

theorem markPartial_o {m : Int} {v v2 : AV} {key key2 T T2 k0 k02 : Nat} {xs ys : List Int} {k : Int} {h : Heap} {off : Nat} {K : AV → Heap → Prop} (hR : Row h key T 1 k0 v (ints xs)) (hR2 : Row h key2 T2 1 k02 v2 (ints ys)) (hkk : key ≠ key2) (hne : key ≠ off + 2) (hne2 : key2 ≠ off + 2) (h0 : 0 ≤ k) (h1 : k + xs.length + ys.length ≤ 4611686018427387904) (hK : ∀ h', Row h' key T 1 k0 v (ints (upTo k xs.length)) → Row h' key2 T2 1 k02 v2 (ints (upTo (k + xs.length) ys.length)) → (∀ x, x ≠ key → x ≠ key2 → x ≠ off + 2 → h' x = h x) → K (.int .i64 (k + xs.length + ys.length)) h') : OpenTo env 22 [.agg [.int .i64 m, v, v2], .int .i64 k] h off K := by
  refine openTo_of (F := Try.f22) rfl rfl (Nat.le_of_ble_eq_true rfl) ?_
  have o1 := hR.one
  have c1 := hR.cells
  have o2 := hR2.one
  have c2 := hR2.cells
  repeat' (first | (apply br_intro <;> intro hb <;> (have hb2 := hb) <;> (try simp [-Int.not_le, -Int.not_lt, -Nat.not_le, -Nat.not_lt, -Nat.add_left_cancel_iff] at hb2)) | (refine draw_listA (by rfl) (by kernel_rfl) ?_) | (refine draw_listB (by simp [allocsOf, isAlloc]; rfl) (by kernel_rfl) ?_) | simp (maxSteps := 2000000) (disch := first | omega | assumption | simp [*]) [*, -Int.not_le, -Int.not_lt, -Nat.not_le, -Nat.not_lt, -Nat.add_left_cancel_iff, wrap_i64, wrap_u64, Try.f22])
  refine cf_open rfl rfl (markIntS_o (hR.keep (by simp [hset, hne])) h0 (by omega) fun h2 hR3 hh2 => ?_)
  have e2 : h2 (off + 2) = some (.var (nextG h (off + 2)) 37 (.agg [.int .i64 m, v, v2])) := (hh2 _ (Ne.symm hne)).trans (if_pos rfl)
  have hR5 : Row h2 key2 T2 1 k02 v2 (ints ys) := hR2.keep (by rw [hh2 _ (Ne.symm hkk)]; simp [hset, hne2])
  repeat' (first | (apply br_intro <;> intro hb <;> (have hb2 := hb) <;> (try simp [-Int.not_le, -Int.not_lt, -Nat.not_le, -Nat.not_lt, -Nat.add_left_cancel_iff] at hb2)) | (refine draw_listA (by rfl) (by kernel_rfl) ?_) | (refine draw_listB (by simp [allocsOf, isAlloc]; rfl) (by kernel_rfl) ?_) | simp (maxSteps := 2000000) (disch := first | omega | assumption | simp [*]) [*, -Int.not_le, -Int.not_lt, -Nat.not_le, -Nat.not_lt, -Nat.add_left_cancel_iff, wrap_i64, wrap_u64, e2, nextG])
  refine cf_open rfl rfl (markIntS_o hR5 (by omega) (by omega) fun h3 hR4 hh3 => ?_)
  repeat' (first | (apply br_intro <;> intro hb <;> (have hb2 := hb) <;> (try simp [-Int.not_le, -Int.not_lt, -Nat.not_le, -Nat.not_lt, -Nat.add_left_cancel_iff] at hb2)) | (refine draw_listA (by rfl) (by kernel_rfl) ?_) | (refine draw_listB (by simp [allocsOf, isAlloc]; rfl) (by kernel_rfl) ?_) | simp (maxSteps := 2000000) (disch := first | omega | assumption | simp [*]) [*, -Int.not_le, -Int.not_lt, -Nat.not_le, -Nat.not_lt, -Nat.add_left_cancel_iff, wrap_i64, wrap_u64])
  exact hK _ (hR3.keep (by rw [hh3 _ hkk])) hR4 fun x g1 g2 g3 => by rw [hh3 x g2, hh2 x g1]; simp [hset, g3]
theorem lawCompletionAt_c {n k : Int} {u v : AV} (hu : IsI u) (hv : IsI v) : EvC env 4 [.agg [.int .i64 n, u, v], .int .i64 k] (.bool true) := by
  refine evC_of (F := Try.f4) rfl rfl (Nat.le_of_ble_eq_true rfl) ?_
  have hul := hu.len
  have hvl := hv.len
  obtain ⟨N, hN⟩ : ∃ N, N = compN n (xsOf u) (xsOf v) k := ⟨_, rfl⟩
  obtain ⟨R, hR⟩ : ∃ R, R = compR n (xsOf u) (xsOf v) k := ⟨_, rfl⟩
  obtain ⟨c, hc⟩ : ∃ c, c = decide (CompC n (xsOf u) (xsOf v) k) := ⟨_, rfl⟩
  obtain ⟨k0, hk0⟩ : ∃ k0, k0 = (if CompC n (xsOf u) (xsOf v) k then 1 else 0) := ⟨_, rfl⟩
  obtain ⟨iv, hiv⟩ : ∃ iv, iv = compV 3 n (xsOf u) (xsOf v) k := ⟨_, rfl⟩
  have hRl : R.length ≤ 8 := by rw [hR]; exact compR_len ..
  have hRt : R.length ≤ top63 := by unfold top63; omega
  obtain ⟨w, hwe⟩ : ∃ w, w = noEx iv := ⟨_, rfl⟩
  have hw : IsI w ∧ xsOf w = R := by
    rw [hwe, hiv, compV_noEx, hR]
    unfold compR
    split
    · rename_i h; exact ⟨isI_no (by rw [hR, compR, if_pos h] at hRt; exact hRt), by simp⟩
    · exact ⟨isI_lit, rfl⟩
  obtain ⟨hw, hwx⟩ := hw
  have hOwn : OwnR iv 1 k0 3 20 (ints R) := by
    rw [hiv, hR, hk0]
    unfold compV compR
    split
    · exact ownR_rowX ..
    · exact ownR_nil ..
  have hwn : noEx iv = w := hwe.symm
  have hS : ∀ {u' v' : AV}, IsI u' → IsI v' → xsOf u' = xsOf u → xsOf v' = xsOf v → EvC env 18 [.agg [.int .i64 n, u', v'], .int .i64 k] (.tup [.agg [.int .i64 N, bufR 3 62 0 R], .bool c]) := fun h1 h2 h3 h4 => by
    have := sCompletionAt_c (n := n) (k := k) h1 h2
    rw [h3, h4, ← hN, ← hR, ← hc] at this; exact this
  have hI : ∀ {u' v' : AV}, IsI u' → IsI v' → xsOf u' = xsOf u → xsOf v' = xsOf v → EvC env 20 [.agg [.int .i64 n, u', v'], .int .i64 k] (.tup [.agg [.int .i64 N, iv], .bool c]) := fun h1 h2 h3 h4 => by
    have := iCompletionAt_c (n := n) (k := k) h1 h2
    rw [h3, h4, ← hN, ← hiv, ← hc] at this; exact this
  clear hN hR hc hk0 hiv hwe
  have hS1 : ∀ (K : AV → Prop) (tg : Tg K), CW env 18 [.agg [.int .i64 n, .sl 1 .no (ints (xsOf u)), .sl 1 .no (ints (xsOf v))], .int .i64 k] K tg ↔ K (.tup [.agg [.int .i64 N, bufR 3 62 0 R], .bool c]) := fun K tg => callsTo_iff (hS (isI_no hul) (isI_no hvl) (by simp) (by simp))
  have hI1 : ∀ (K : AV → Prop) (tg : Tg K), CW env 20 [.agg [.int .i64 n, .sl 1 .no (ints (xsOf u)), .sl 1 .no (ints (xsOf v))], .int .i64 k] K tg ↔ K (.tup [.agg [.int .i64 N, iv], .bool c]) := fun K tg => callsTo_iff (hI (isI_no hul) (isI_no hvl) (by simp) (by simp))
  have ow := isI_one hw
  have cw := isI_cells hw
  repeat' (first | (apply br_intro <;> intro hb <;> (have hb2 := hb) <;> (try simp [-Int.not_le, -Int.not_lt, -Nat.not_le, -Nat.not_lt, -Nat.add_left_cancel_iff] at hb2)) | (refine draw_listA (by rfl) (by kernel_rfl) ?_) | (refine draw_listB (by simp [allocsOf, isAlloc]; rfl) (by kernel_rfl) ?_) | simp (maxSteps := 2000000) (disch := first | omega | assumption | simp [*]) [*, -Int.not_le, -Int.not_lt, -Nat.not_le, -Nat.not_lt, -Nat.add_left_cancel_iff, wrap_i64, wrap_u64, Try.f4, isI_cells hu, isI_one hu, isI_low hu, isI_noKey hu, isI_cells hv, isI_one hv, isI_low hv, isI_noKey hv, isI_cells hw, isI_one hw, isI_low hw, isI_noKey hw, farOff])
  have hlu : (xsOf u).length ≤ 1048576 := by grind
  have hlv : (xsOf v).length ≤ 1048576 := by grind
  refine cf_part (by simpa [isI_low hu, isI_low hv] using toPartial_c (m := n) hu hv hlu hlv) (ownR_row ..) (by simp) (ownR_row ..) (by simp) (by decide) rfl ?_
  intro x0 y0 m0 hx0 hy0 hm0
  have o0 := hx0.one
  have c0 := hx0.cells
  have o9 := hy0.one
  have c9 := hy0.cells
  have l0 : ∀ h', h' 29 = m0 29 → low h' x0 = rowB 1 1 (ints (xsOf u)) := fun h' e => (hx0.keep e).lowI
  have l9 : ∀ h', h' 1029 = m0 1029 → low h' y0 = rowB 1 1 (ints (xsOf v)) := fun h' e => (hy0.keep e).lowI
  repeat' (first | (apply br_intro <;> intro hb <;> (have hb2 := hb) <;> (try simp [-Int.not_le, -Int.not_lt, -Nat.not_le, -Nat.not_lt, -Nat.add_left_cancel_iff] at hb2)) | (refine draw_listA (by rfl) (by kernel_rfl) ?_) | (refine draw_listB (by simp [allocsOf, isAlloc]; rfl) (by kernel_rfl) ?_) | simp (maxSteps := 2000000) (disch := first | omega | assumption | simp [*]) [*, -Int.not_le, -Int.not_lt, -Nat.not_le, -Nat.not_lt, -Nat.add_left_cancel_iff, wrap_i64, wrap_u64, isI_cells hu, isI_one hu, isI_low hu, isI_noKey hu, isI_cells hv, isI_one hv, isI_low hv, isI_noKey hv, isI_cells hw, isI_one hw, isI_low hw, isI_noKey hw, farOff])
  refine cf_ctxb (R := iv) (by simpa [l0, l9, hset] using hI (u' := rowB 1 1 (ints (xsOf u))) (v' := rowB 1 1 (ints (xsOf v))) (isI_rowB hul) (isI_rowB hvl) (by simp) (by simp)) hOwn (by simp) rfl ?_
  intro g0 m2 hg0 hm2
  have og := hg0.one
  have cg := hg0.cells
  have lg : ∀ h', h' 33 = m2 33 → low h' g0 = rowB 1 k0 (ints R) := fun h' e => (hg0.keep e).lowI
  repeat' (first | (apply br_intro <;> intro hb <;> (have hb2 := hb) <;> (try simp [-Int.not_le, -Int.not_lt, -Nat.not_le, -Nat.not_lt, -Nat.add_left_cancel_iff] at hb2)) | (refine draw_listA (by rfl) (by kernel_rfl) ?_) | (refine draw_listB (by simp [allocsOf, isAlloc]; rfl) (by kernel_rfl) ?_) | simp (maxSteps := 2000000) (disch := first | omega | assumption | simp [*]) [*, -Int.not_le, -Int.not_lt, -Nat.not_le, -Nat.not_lt, -Nat.add_left_cancel_iff, wrap_i64, wrap_u64, isI_cells hu, isI_one hu, isI_low hu, isI_noKey hu, isI_cells hv, isI_one hv, isI_low hv, isI_noKey hv, isI_cells hw, isI_one hw, isI_low hw, isI_noKey hw, farOff])
  refine cf_open rfl rfl (markPartial_o (xs := xsOf u) (ys := xsOf v) (key := 29) (key2 := 1029) (hx0.keep (by simp [hset, hm2])) (hy0.keep (by simp [hset, hm2])) (by decide) (by simp [farOff]) (by simp [farOff]) (by decide) (by omega) fun m3 hx0' hy0' hm3' => ?_)
  have hm3 := fun x (a : x < 100000) b c => hm3' x b c (by simp [farOff]; omega)
  clear hm3'
  have hk0 : ¬ (1 + ((xsOf u).length : Int) + ((xsOf v).length : Int) < 0) := by omega
  repeat' (first | (apply br_intro <;> intro hb <;> (have hb2 := hb) <;> (try simp [-Int.not_le, -Int.not_lt, -Nat.not_le, -Nat.not_lt, -Nat.add_left_cancel_iff] at hb2)) | (refine draw_listA (by rfl) (by kernel_rfl) ?_) | (refine draw_listB (by simp [allocsOf, isAlloc]; rfl) (by kernel_rfl) ?_) | simp (maxSteps := 2000000) (disch := first | omega | assumption | simp [*]) [*, -Int.not_le, -Int.not_lt, -Nat.not_le, -Nat.not_lt, -Nat.add_left_cancel_iff, wrap_i64, wrap_u64, isI_cells hu, isI_one hu, isI_low hu, isI_noKey hu, isI_cells hv, isI_one hv, isI_low hv, isI_noKey hv, isI_cells hw, isI_one hw, isI_low hw, isI_noKey hw, farOff])
  refine cf_open rfl rfl (markContext_o (xs := R) (key := 33) (hg0.keep (by simp [hset, hm3])) (by simp [farOff]) (by omega) (by omega) fun m5 hg0' hm5' => ?_)
  have hm5 := fun x (a : x < 100000) b => hm5' x b (by simp [farOff]; omega)
  clear hm5' lg
  have hIu : IsI (rowB 1 k0 (ints (upTo 1 R.length))) := isI_rowB (by simpa using hRt)
  have hIl : 1 + (R.length : Int) ≤ 4611686018427387904 := by omega
  have hIp : ¬ (1 + (R.length : Int) < 0) := by omega
  have lg2 : ∀ h', h' 33 = m5 33 → low h' g0 = rowB 1 k0 (ints (upTo 1 R.length)) := fun h' e => (hg0'.keep e).lowI
  repeat' (first | (apply br_intro <;> intro hb <;> (have hb2 := hb) <;> (try simp [-Int.not_le, -Int.not_lt, -Nat.not_le, -Nat.not_lt, -Nat.add_left_cancel_iff] at hb2)) | (refine draw_listA (by rfl) (by kernel_rfl) ?_) | (refine draw_listB (by simp [allocsOf, isAlloc]; rfl) (by kernel_rfl) ?_) | simp (maxSteps := 2000000) (disch := first | omega | assumption | simp [*]) [*, -Int.not_le, -Int.not_lt, -Nat.not_le, -Nat.not_lt, -Nat.add_left_cancel_iff, wrap_i64, wrap_u64, isI_cells hu, isI_one hu, isI_low hu, isI_noKey hu, isI_cells hv, isI_one hv, isI_low hv, isI_noKey hv, isI_cells hw, isI_one hw, isI_low hw, isI_noKey hw, farOff])
theorem lawCompletionAt_s {n k : Int} {u v : AV} (hu : IsI u) (hv : IsI v) {K : AV → Prop} {tg : Tg K} : CW env 4 [.agg [.int .i64 n, u, v], .int .i64 k] K tg ↔ K (.bool true) := callsTo_iff (lawCompletionAt_c hu hv)
attribute [simp] lawCompletionAt_s
end Go.Proofs.Ytemhhpjenffalaa
