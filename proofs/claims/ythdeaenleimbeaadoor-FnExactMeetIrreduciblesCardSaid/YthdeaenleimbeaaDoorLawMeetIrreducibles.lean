/- The law of MeetIrreducibles. Conditions: none. -/
import Derived.Test.YthdeaenleimbeaaDoorIrr
namespace Go.Proofs.YthdeaenleimbeaaDoor
open Ev
set_option linter.unusedVariables false
set_option linter.unusedSimpArgs false
set_option maxHeartbeats 4000000

theorem lawMeetIrreducibles_c {n : Int}  {v : AV} (hv : IsI v) : EvC env 5 [.agg [.int .i64 n, v]] (.bool true) := by
  refine evC_of (F := Tryd.f5) rfl rfl (Nat.le_of_ble_eq_true rfl) ?_
  have hvl := hv.len
  obtain ⟨R, hR⟩ : ∃ R, R = irrL n (xsOf v) true := ⟨_, rfl⟩
  have hRl : R.length ≤ 4096 := by rw [hR]; exact Nat.le_trans (irrL_len ..) (by decide)
  have hRt : R.length ≤ top63 := by unfold top63; omega
  obtain ⟨iv, hiv⟩ : ∃ iv, iv = rowR 1 3 8 (ints (irrL n (xsOf v) true)) := ⟨_, rfl⟩
  obtain ⟨k0, hk0⟩ : ∃ k0, k0 = 1 := ⟨_, rfl⟩
  obtain ⟨w, hwe⟩ : ∃ w, w = noEx iv := ⟨_, rfl⟩
  have hw : IsI w ∧ xsOf w = R := by
    rw [hwe, hiv, hR]; exact irr_w ..
  obtain ⟨hw, hwx⟩ := hw
  have hOwn : OwnR iv 1 k0 3 8 (ints R) := by
    rw [hiv, hk0, hR]; exact ownR_row ..
  have hwn : noEx iv = w := hwe.symm
  have ow := isI_one hw
  have cw := isI_cells hw
  have hS : ∀ {v' : AV}, IsI v' → xsOf v' = xsOf v → EvC env 26 [.agg [.int .i64 n, v']] (bufC 1 R) := fun h1 h2 => by
    have := sMeetIrreducibles_c (n := n) h1
    rw [h2, ← hR] at this; exact this
  have hI : ∀ {v' : AV}, IsI v' → xsOf v' = xsOf v → EvC env 27 [.agg [.int .i64 n, v']] iv := fun h1 h2 => by
    have := iMeetIrreducibles_c (n := n) h1
    rw [h2, ← hiv] at this; exact this
  clear hR hiv hk0 hwe
  have hS1 : ∀ (K : AV → Prop) (tg : Tg K), CW env 26 [.agg [.int .i64 n, .sl 1 .no (ints (xsOf v))]] K tg ↔ K (bufC 1 R) := fun K tg => callsTo_iff (hS (isI_no hvl) (by simp))
  have hI1 : ∀ (K : AV → Prop) (tg : Tg K), CW env 27 [.agg [.int .i64 n, .sl 1 .no (ints (xsOf v))]] K tg ↔ K iv := fun K tg => callsTo_iff (hI (isI_no hvl) (by simp))
  have hI9 : IsI (bufC 1 R) := isI_bufC hRt
  repeat' (first | (apply br_intro <;> intro hb <;> (have hb2 := hb) <;> (try simp [-Int.not_le, -Int.not_lt, -Nat.not_le, -Nat.not_lt, -Nat.add_left_cancel_iff] at hb2)) | (refine draw_listA (by rfl) (by kernel_rfl) ?_) | (refine draw_listB (by simp [allocsOf, isAlloc]; rfl) (by kernel_rfl) ?_) | simp (maxSteps := 2000000) (disch := first | omega | assumption | simp [*]) [*, -Int.not_le, -Int.not_lt, -Nat.not_le, -Nat.not_lt, -Nat.add_left_cancel_iff, wrap_i64, wrap_u64, Tryd.f5, isI_cells hv, isI_one hv, isI_low hv, isI_noKey hv, farOff, isI_cells hw, isI_one hw, isI_low hw, isI_noKey hw])
  have hlv : (xsOf v).length ≤ 1048576 := by grind
  refine cf_ctx (by simpa [isI_low hv] using toContext_c (m := n) hv hlv) (ownR_row ..) (by simp) rfl ?_
  intro x0 m0 hx0 hm0
  have o0 := hx0.one
  have c0 := hx0.cells
  have l0 : ∀ h', h' 20 = m0 20 → low h' x0 = rowB 1 1 (ints (xsOf v)) := fun h' e => (hx0.keep e).lowI
  repeat' (first | (apply br_intro <;> intro hb <;> (have hb2 := hb) <;> (try simp [-Int.not_le, -Int.not_lt, -Nat.not_le, -Nat.not_lt, -Nat.add_left_cancel_iff] at hb2)) | (refine draw_listA (by rfl) (by kernel_rfl) ?_) | (refine draw_listB (by simp [allocsOf, isAlloc]; rfl) (by kernel_rfl) ?_) | simp (maxSteps := 2000000) (disch := first | omega | assumption | simp [*]) [*, -Int.not_le, -Int.not_lt, -Nat.not_le, -Nat.not_lt, -Nat.add_left_cancel_iff, wrap_i64, wrap_u64, isI_cells hv, isI_one hv, isI_low hv, isI_noKey hv, farOff, isI_cells hw, isI_one hw, isI_low hw, isI_noKey hw])
  refine cf_row (R := iv) (by simpa [l0, hset] using hI (v' := rowB 1 1 (ints (xsOf v))) (isI_rowB hvl) (by simp)) hOwn (by simp) rfl ?_
  intro g0 m2 hg0 hm2
  have og := hg0.one
  have cg := hg0.cells
  have lg : ∀ h', h' 22 = m2 22 → low h' g0 = rowB 1 k0 (ints R) := fun h' e => (hg0.keep e).lowI
  repeat' (first | (apply br_intro <;> intro hb <;> (have hb2 := hb) <;> (try simp [-Int.not_le, -Int.not_lt, -Nat.not_le, -Nat.not_lt, -Nat.add_left_cancel_iff] at hb2)) | (refine draw_listA (by rfl) (by kernel_rfl) ?_) | (refine draw_listB (by simp [allocsOf, isAlloc]; rfl) (by kernel_rfl) ?_) | simp (maxSteps := 2000000) (disch := first | omega | assumption | simp [*]) [*, -Int.not_le, -Int.not_lt, -Nat.not_le, -Nat.not_lt, -Nat.add_left_cancel_iff, wrap_i64, wrap_u64, isI_cells hv, isI_one hv, isI_low hv, isI_noKey hv, farOff, isI_cells hw, isI_one hw, isI_low hw, isI_noKey hw])
  refine cf_open rfl rfl (markContext_o (xs := xsOf v) (key := 20) (hx0.keep (by simp [hset, hm2])) (by simp [farOff]) (by decide) (by omega) fun m3 hx0' hm3' => ?_)
  have hm3 := fun x (a : x < 100000) b => hm3' x b (by simp [farOff]; omega)
  clear hm3'
  have hk0 : ¬ (1 + ((xsOf v).length : Int) < 0) := by omega
  repeat' (first | (apply br_intro <;> intro hb <;> (have hb2 := hb) <;> (try simp [-Int.not_le, -Int.not_lt, -Nat.not_le, -Nat.not_lt, -Nat.add_left_cancel_iff] at hb2)) | (refine draw_listA (by rfl) (by kernel_rfl) ?_) | (refine draw_listB (by simp [allocsOf, isAlloc]; rfl) (by kernel_rfl) ?_) | simp (maxSteps := 2000000) (disch := first | omega | assumption | simp [*]) [*, -Int.not_le, -Int.not_lt, -Nat.not_le, -Nat.not_lt, -Nat.add_left_cancel_iff, wrap_i64, wrap_u64, isI_cells hv, isI_one hv, isI_low hv, isI_noKey hv, farOff, isI_cells hw, isI_one hw, isI_low hw, isI_noKey hw])
  refine cf_open rfl rfl (markIntS_o (xs := R) (key := 22) (hg0.keep (by simp [hset, hm3])) (by omega) (by omega) fun m5 hg0' hm5 => ?_)
  clear lg
  have hIu : IsI (rowB 1 k0 (ints (upTo 1 R.length))) := isI_rowB (by simpa using hRt)
  have hIl : 1 + (R.length : Int) ≤ 4611686018427387904 := by omega
  have hIp : ¬ (1 + (R.length : Int) < 0) := by omega
  have lg2 : ∀ h', h' 22 = m5 22 → low h' g0 = rowB 1 k0 (ints (upTo 1 R.length)) := fun h' e => (hg0'.keep e).lowI
  repeat' (first | (apply br_intro <;> intro hb <;> (have hb2 := hb) <;> (try simp [-Int.not_le, -Int.not_lt, -Nat.not_le, -Nat.not_lt, -Nat.add_left_cancel_iff] at hb2)) | (refine draw_listA (by rfl) (by kernel_rfl) ?_) | (refine draw_listB (by simp [allocsOf, isAlloc]; rfl) (by kernel_rfl) ?_) | simp (maxSteps := 2000000) (disch := first | omega | assumption | simp [*]) [*, -Int.not_le, -Int.not_lt, -Nat.not_le, -Nat.not_lt, -Nat.add_left_cancel_iff, wrap_i64, wrap_u64, isI_cells hv, isI_one hv, isI_low hv, isI_noKey hv, farOff, isI_cells hw, isI_one hw, isI_low hw, isI_noKey hw])
theorem lawMeetIrreducibles_s {n : Int}  {v : AV} (hv : IsI v) {K : AV → Prop} {tg : Tg K} : CW env 5 [.agg [.int .i64 n, v]] K tg ↔ K (.bool true) := callsTo_iff (lawMeetIrreducibles_c hv)
attribute [simp] lawMeetIrreducibles_s
end Go.Proofs.YthdeaenleimbeaaDoor
