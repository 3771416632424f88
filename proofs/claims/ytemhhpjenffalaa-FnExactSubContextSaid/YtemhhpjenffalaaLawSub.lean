/- The law of SubContext. Conditions: none. -/
import Derived.Test.YtemhhpjenffalaaSub
namespace Go.Proofs.Ytemhhpjenffalaa
open Ev
set_option linter.unusedVariables false
set_option linter.unusedSimpArgs false
set_option maxHeartbeats 4000000

theorem subV_noEx {T : Nat} {n : Int} {xs : List Int} {o a : Int} : noEx (subV T n xs o a) = if SubC n xs o a then rowN 1 0 (ints (subTo xs o a xs.length)) else .sl 0 .lit [] := by
  unfold subV; split <;> simp
theorem lawSubContext_c {n o a : Int} {v : AV} (hv : IsI v) : EvC env 3 [.agg [.int .i64 n, v], .int .i64 o, .int .i64 a] (.bool true) := by
  refine evC_of (F := Try.f3) rfl rfl (Nat.le_of_ble_eq_true rfl) ?_
  have hvl := hv.len
  obtain ⟨N, hN⟩ : ∃ N, N = subN n (xsOf v) o a := ⟨_, rfl⟩
  obtain ⟨R, hR⟩ : ∃ R, R = subR n (xsOf v) o a := ⟨_, rfl⟩
  obtain ⟨c, hc⟩ : ∃ c, c = decide (SubC n (xsOf v) o a) := ⟨_, rfl⟩
  obtain ⟨k, hk⟩ : ∃ k, k = (if SubC n (xsOf v) o a then 1 else 0) := ⟨_, rfl⟩
  obtain ⟨iv, hiv⟩ : ∃ iv, iv = subV 3 n (xsOf v) o a := ⟨_, rfl⟩
  have hRl : R.length ≤ 8 := by rw [hR]; exact subR_len ..
  have hRt : R.length ≤ top63 := by unfold top63; omega
  obtain ⟨w, hwe⟩ : ∃ w, w = noEx iv := ⟨_, rfl⟩
  have hw : IsI w ∧ xsOf w = R := by
    rw [hwe, hiv, subV_noEx, hR]
    unfold subR
    split
    · rename_i h; exact ⟨isI_rowN (by rw [hR, subR, if_pos h] at hRt; exact hRt), by simp⟩
    · exact ⟨isI_lit, rfl⟩
  obtain ⟨hw, hwx⟩ := hw
  have hOwn : OwnR iv 1 0 3 31 (ints R) := by
    rw [hiv, hR]
    unfold subV subR
    split
    · exact ownR_rowX ..
    · exact ownR_nil ..
  have hwn : noEx iv = w := hwe.symm
  have hS : ∀ {v' : AV}, IsI v' → xsOf v' = xsOf v → EvC env 11 [.agg [.int .i64 n, v'], .int .i64 o, .int .i64 a] (.tup [.agg [.int .i64 N, bufR 3 39 0 R], .bool c]) := fun h1 h2 => by
    have := sSubContext_c (n := n) (o := o) (a := a) h1
    rw [h2, ← hN, ← hR, ← hc] at this; exact this
  have hI : ∀ {v' : AV}, IsI v' → xsOf v' = xsOf v → EvC env 13 [.agg [.int .i64 n, v'], .int .i64 o, .int .i64 a] (.tup [.agg [.int .i64 N, iv], .bool c]) := fun h1 h2 => by
    have := iSubContext_c (n := n) (o := o) (a := a) h1
    rw [h2, ← hN, ← hiv, ← hc] at this; exact this
  clear hN hR hc hk hiv hwe
  have hS1 : ∀ (K : AV → Prop) (tg : Tg K), CW env 11 [.agg [.int .i64 n, .sl 1 .no (ints (xsOf v))], .int .i64 o, .int .i64 a] K tg ↔ K (.tup [.agg [.int .i64 N, bufR 3 39 0 R], .bool c]) := fun K tg => callsTo_iff (hS (isI_no hvl) (by simp))
  have hI1 : ∀ (K : AV → Prop) (tg : Tg K), CW env 13 [.agg [.int .i64 n, .sl 1 .no (ints (xsOf v))], .int .i64 o, .int .i64 a] K tg ↔ K (.tup [.agg [.int .i64 N, iv], .bool c]) := fun K tg => callsTo_iff (hI (isI_no hvl) (by simp))
  have ow := isI_one hw
  have cw := isI_cells hw
  repeat' (first | (apply br_intro <;> intro hb <;> (have hb2 := hb) <;> (try simp [-Int.not_le, -Int.not_lt, -Nat.not_le, -Nat.not_lt, -Nat.add_left_cancel_iff] at hb2)) | (refine draw_listA (by rfl) (by kernel_rfl) ?_) | (refine draw_listB (by simp [allocsOf, isAlloc]; rfl) (by kernel_rfl) ?_) | simp (maxSteps := 2000000) (disch := first | omega | assumption | simp [*]) [*, -Int.not_le, -Int.not_lt, -Nat.not_le, -Nat.not_lt, -Nat.add_left_cancel_iff, wrap_i64, wrap_u64, Try.f3, isI_cells hv, isI_one hv, isI_low hv, isI_noKey hv, isI_cells hw, isI_one hw, isI_low hw, isI_noKey hw, farOff])
  have hlv : (xsOf v).length ≤ 1048576 := by grind
  refine cf_ctx (by simpa [isI_low hv] using toContext_c (m := n) hv hlv) (ownR_row ..) (by simp) rfl ?_
  intro x0 m0 hx0 hm0
  have o0 := hx0.one
  have c0 := hx0.cells
  have l0 : ∀ h', h' 32 = m0 32 → low h' x0 = rowB 1 1 (ints (xsOf v)) := fun h' e => (hx0.keep e).lowI
  repeat' (first | (apply br_intro <;> intro hb <;> (have hb2 := hb) <;> (try simp [-Int.not_le, -Int.not_lt, -Nat.not_le, -Nat.not_lt, -Nat.add_left_cancel_iff] at hb2)) | (refine draw_listA (by rfl) (by kernel_rfl) ?_) | (refine draw_listB (by simp [allocsOf, isAlloc]; rfl) (by kernel_rfl) ?_) | simp (maxSteps := 2000000) (disch := first | omega | assumption | simp [*]) [*, -Int.not_le, -Int.not_lt, -Nat.not_le, -Nat.not_lt, -Nat.add_left_cancel_iff, wrap_i64, wrap_u64, isI_cells hv, isI_one hv, isI_low hv, isI_noKey hv, isI_cells hw, isI_one hw, isI_low hw, isI_noKey hw, farOff])
  refine cf_ctxb (R := iv) (by simpa [l0, hset] using hI (v' := rowB 1 1 (ints (xsOf v))) (isI_rowB hvl) (by simp)) hOwn (by simp) rfl ?_
  intro g0 m2 hg0 hm2
  have og := hg0.one
  have cg := hg0.cells
  have lg : ∀ h', h' 37 = m2 37 → low h' g0 = rowB 1 0 (ints R) := fun h' e => (hg0.keep e).lowI
  repeat' (first | (apply br_intro <;> intro hb <;> (have hb2 := hb) <;> (try simp [-Int.not_le, -Int.not_lt, -Nat.not_le, -Nat.not_lt, -Nat.add_left_cancel_iff] at hb2)) | (refine draw_listA (by rfl) (by kernel_rfl) ?_) | (refine draw_listB (by simp [allocsOf, isAlloc]; rfl) (by kernel_rfl) ?_) | simp (maxSteps := 2000000) (disch := first | omega | assumption | simp [*]) [*, -Int.not_le, -Int.not_lt, -Nat.not_le, -Nat.not_lt, -Nat.add_left_cancel_iff, wrap_i64, wrap_u64, isI_cells hv, isI_one hv, isI_low hv, isI_noKey hv, isI_cells hw, isI_one hw, isI_low hw, isI_noKey hw, farOff])
  refine cf_open rfl rfl (markContext_o (xs := xsOf v) (key := 32) (hx0.keep (by simp [hset, hm2])) (by simp [farOff]) (by decide) (by omega) fun m3 hx0' hm3' => ?_)
  have hm3 := fun x (a : x < 100000) b => hm3' x b (by simp [farOff]; omega)
  clear hm3'
  have hk0 : ¬ (1 + ((xsOf v).length : Int) < 0) := by omega
  repeat' (first | (apply br_intro <;> intro hb <;> (have hb2 := hb) <;> (try simp [-Int.not_le, -Int.not_lt, -Nat.not_le, -Nat.not_lt, -Nat.add_left_cancel_iff] at hb2)) | (refine draw_listA (by rfl) (by kernel_rfl) ?_) | (refine draw_listB (by simp [allocsOf, isAlloc]; rfl) (by kernel_rfl) ?_) | simp (maxSteps := 2000000) (disch := first | omega | assumption | simp [*]) [*, -Int.not_le, -Int.not_lt, -Nat.not_le, -Nat.not_lt, -Nat.add_left_cancel_iff, wrap_i64, wrap_u64, isI_cells hv, isI_one hv, isI_low hv, isI_noKey hv, isI_cells hw, isI_one hw, isI_low hw, isI_noKey hw, farOff])
  refine cf_open rfl rfl (markContext_o (xs := R) (key := 37) (hg0.keep (by simp [hset, hm3])) (by simp [farOff]) (by omega) (by omega) fun m5 hg0' hm5' => ?_)
  have hm5 := fun x (a : x < 100000) b => hm5' x b (by simp [farOff]; omega)
  clear hm5' lg
  have hIu : IsI (rowB 1 0 (ints (upTo 1 R.length))) := isI_rowB (by simpa using hRt)
  have hIl : 1 + (R.length : Int) ≤ 4611686018427387904 := by omega
  have hIp : ¬ (1 + (R.length : Int) < 0) := by omega
  have lg2 : ∀ h', h' 37 = m5 37 → low h' g0 = rowB 1 0 (ints (upTo 1 R.length)) := fun h' e => (hg0'.keep e).lowI
  repeat' (first | (apply br_intro <;> intro hb <;> (have hb2 := hb) <;> (try simp [-Int.not_le, -Int.not_lt, -Nat.not_le, -Nat.not_lt, -Nat.add_left_cancel_iff] at hb2)) | (refine draw_listA (by rfl) (by kernel_rfl) ?_) | (refine draw_listB (by simp [allocsOf, isAlloc]; rfl) (by kernel_rfl) ?_) | simp (maxSteps := 2000000) (disch := first | omega | assumption | simp [*]) [*, -Int.not_le, -Int.not_lt, -Nat.not_le, -Nat.not_lt, -Nat.add_left_cancel_iff, wrap_i64, wrap_u64, isI_cells hv, isI_one hv, isI_low hv, isI_noKey hv, isI_cells hw, isI_one hw, isI_low hw, isI_noKey hw, farOff])
theorem lawSubContext_s {n o a : Int} {v : AV} (hv : IsI v) {K : AV → Prop} {tg : Tg K} : CW env 3 [.agg [.int .i64 n, v], .int .i64 o, .int .i64 a] K tg ↔ K (.bool true) := callsTo_iff (lawSubContext_c hv)
attribute [simp] lawSubContext_s
end Go.Proofs.Ytemhhpjenffalaa
