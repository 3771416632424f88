/- The law of NextModel. Conditions: none. -/
import Derived.Test.YthdeaenleimbeaaDoorNext
import Derived.Test.YthdeaenleimbeaaDoorConf
namespace Go.Proofs.YthdeaenleimbeaaDoor
open Ev
set_option linter.unusedVariables false
set_option linter.unusedSimpArgs false
set_option maxHeartbeats 4000000

theorem szRuleS_c {v : AV} {n : Int} (hv : IsP v) (h0 : 0 ≤ n) (h1 : n ≤ 1048576) : EvC env 49 [v, .int .i64 n] (.int .i64 (if n < (fsts v).length then -1 else n - (fsts v).length)) := by
  refine evC_of (F := Tryd.f49) rfl rfl (Nat.le_of_ble_eq_true rfl) ?_
  have := hv.len
  unfold top63 at this
  repeat' (first | (apply br_intro <;> intro hb <;> (have hb2 := hb) <;> (try simp [-Int.not_le, -Int.not_lt, -Nat.not_le, -Nat.not_lt, -Nat.add_left_cancel_iff] at hb2)) | (refine draw_listA (by rfl) (by kernel_rfl) ?_) | (refine draw_listB (by simp [allocsOf, isAlloc]; rfl) (by kernel_rfl) ?_) | simp (maxSteps := 2000000) (disch := first | omega | assumption | simp [*]) [*, -Int.not_le, -Int.not_lt, -Nat.not_le, -Nat.not_lt, -Nat.add_left_cancel_iff, wrap_i64, wrap_u64, Tryd.f49, isP_len hv, isP_low hv])
  all_goals grind
theorem szRuleS_s {v : AV} {n : Int} (hv : IsP v) (h0 : 0 ≤ n) (h1 : n ≤ 1048576) {K : AV → Prop} {tg : Tg K} : CW env 49 [v, .int .i64 n] K tg ↔ K (.int .i64 (if n < (fsts v).length then -1 else n - (fsts v).length)) := callsTo_iff (szRuleS_c hv h0 h1)
attribute [simp] szRuleS_s
theorem toRuleS_c {v : AV} (hv : IsP v) (hl : (fsts v).length ≤ 1048576) : EvC env 51 [v] (rowR 2 77 7 (prs (fsts v) (snds v))) := by
  refine evC_of (F := Tryd.f51) rfl rfl (Nat.le_of_ble_eq_true rfl) ?_
  have := hv.len
  repeat' (first | (apply br_intro <;> intro hb <;> (have hb2 := hb) <;> (try simp [-Int.not_le, -Int.not_lt, -Nat.not_le, -Nat.not_lt, -Nat.add_left_cancel_iff] at hb2)) | (refine draw_listA (by rfl) (by kernel_rfl) ?_) | (refine draw_listB (by simp [allocsOf, isAlloc]; rfl) (by kernel_rfl) ?_) | simp (maxSteps := 2000000) (disch := first | omega | assumption | simp [*]) [*, -Int.not_le, -Int.not_lt, -Nat.not_le, -Nat.not_lt, -Nat.add_left_cancel_iff, wrap_i64, wrap_u64, Tryd.f51, isP_len hv, isP_low hv])
  refine W_loopG (fsts v).length (fun i s h => s 4 = .int .i64 i ∧ s 0 = v ∧ s 3 = .ms 7 0 0 (fsts v).length ∧
    h = hset hnil 7 (.row 0 77 2 (mix (fun j => pr (nth (fsts v) j) (nth (snds v) j)) (pr 0 0) (fsts v).length i))) ?_ ?_
  · simp [mix_zero, pr]
  rintro i s h hi ⟨h4, h0, h3, rfl⟩
  by_cases hi2 : i < (fsts v).length
  · have hs := mix_set (fun j => pr (nth (fsts v) j) (nth (snds v) j)) (pr 0 0) hi2
    simp only [pr] at hs
    repeat' (first | (apply br_intro <;> intro hb <;> (have hb2 := hb) <;> (try simp [-Int.not_le, -Int.not_lt, -Nat.not_le, -Nat.not_lt, -Nat.add_left_cancel_iff] at hb2)) | (refine draw_listA (by rfl) (by kernel_rfl) ?_) | (refine draw_listB (by simp [allocsOf, isAlloc]; rfl) (by kernel_rfl) ?_) | simp (maxSteps := 2000000) (disch := first | omega | assumption | simp [*]) [*, -Int.not_le, -Int.not_lt, -Nat.not_le, -Nat.not_lt, -Nat.add_left_cancel_iff, wrap_i64, wrap_u64, h4, h0, h3, isP_len hv, isP_low hv, isP_index hv, pr])
  · obtain rfl : i = (fsts v).length := by omega
    repeat' (first | (apply br_intro <;> intro hb <;> (have hb2 := hb) <;> (try simp [-Int.not_le, -Int.not_lt, -Nat.not_le, -Nat.not_lt, -Nat.add_left_cancel_iff] at hb2)) | (refine draw_listA (by rfl) (by kernel_rfl) ?_) | (refine draw_listB (by simp [allocsOf, isAlloc]; rfl) (by kernel_rfl) ?_) | simp (maxSteps := 2000000) (disch := first | omega | assumption | simp [*]) [*, -Int.not_le, -Int.not_lt, -Nat.not_le, -Nat.not_lt, -Nat.add_left_cancel_iff, wrap_i64, wrap_u64, h4, h0, h3, isP_len hv, isP_low hv])
    rw [mix_full]
    exact expo_row (es := prs (fsts v) (snds v)) (by simp [hset, prs]) (by simp) (by simp) (by simp)
theorem toRuleS_s {v : AV} (hv : IsP v) (hl : (fsts v).length ≤ 1048576) {K : AV → Prop} {tg : Tg K} : CW env 51 [v] K tg ↔ K (rowR 2 77 7 (prs (fsts v) (snds v))) := callsTo_iff (toRuleS_c hv hl)
attribute [simp] toRuleS_s
theorem rulC_congr {n : Int} {v v' : AV} (h1 : fsts v' = fsts v) (h2 : snds v' = snds v) : RulC n v' ↔ RulC n v := by unfold RulC; rw [h1, h2]
theorem nextM_congr {n x : Int} {v v' : AV} (h1 : fsts v' = fsts v) (h2 : snds v' = snds v) : nextM n v' x = nextM n v x := by
  have hc : ∀ a b, candB v' a b = candB v a b := fun a b => by unfold candB rA rB; rw [h1, h2]
  have hcc : candB v' x.toNat = candB v x.toNat := funext fun b => hc _ b
  have hN : NxtC n v' x ↔ NxtC n v x := by unfold NxtC; rw [rulC_congr h1 h2]
  unfold nextM
  rw [hcc]
  by_cases h : NxtC n v x
  · rw [if_pos h, if_pos (hN.2 h)]
  · rw [if_neg h, if_neg fun h9 => h (hN.1 h9)]
theorem lawNextModel_c {n x : Int} {v : AV} (hv : IsP v) : EvC env 13 [.int .i64 n, v, .int .i64 x] (.bool true) := by
  refine evC_of (F := Tryd.f13) rfl rfl (Nat.le_of_ble_eq_true rfl) ?_
  have hvl := hv.len
  have hlens := hv.lens
  have hf : ∃ a b, nextM n v x = .tup [.int .i64 a, .bool b] := by
    unfold nextM; split
    · unfold nxV; split <;> exact ⟨_, _, rfl⟩
    · exact ⟨_, _, rfl⟩
  obtain ⟨a, b, hf⟩ := hf
  have hP : IsP (.sl 2 .no (prs (fsts v) (snds v))) := isP_mk (.inr rfl) rfl hvl
  have hPf : fsts (.sl 2 .no (prs (fsts v) (snds v))) = fsts v := fsts_prs ..
  have hPs : snds (.sl 2 .no (prs (fsts v) (snds v))) = snds v := snds_prs _ _ hlens
  have hS1 : ∀ (K : AV → Prop) (tg : Tg K), CW env 50 [.int .i64 n, .sl 2 .no (prs (fsts v) (snds v)), .int .i64 x] K tg ↔ K (.tup [.int .i64 a, .bool b]) := fun K tg => callsTo_iff (by
    have := sNextModel_c (n := n) (x := x) hP
    rw [nextM_congr hPf hPs, hf] at this; exact this)
  have hI1 : ∀ (K : AV → Prop) (tg : Tg K), CW env 52 [.int .i64 n, .sl 2 .no (prs (fsts v) (snds v)), .int .i64 x] K tg ↔ K (.tup [.int .i64 a, .bool b]) := fun K tg => callsTo_iff (by
    have := iNextModel_c (n := n) (x := x) hP
    rw [nextM_congr hPf hPs, hf] at this; exact this)
  clear hf
  repeat' (first | (apply br_intro <;> intro hb <;> (have hb2 := hb) <;> (try simp [-Int.not_le, -Int.not_lt, -Nat.not_le, -Nat.not_lt, -Nat.add_left_cancel_iff] at hb2)) | (refine draw_listA (by rfl) (by kernel_rfl) ?_) | (refine draw_listB (by simp [allocsOf, isAlloc]; rfl) (by kernel_rfl) ?_) | simp (maxSteps := 2000000) (disch := first | omega | assumption | simp [*]) [*, -Int.not_le, -Int.not_lt, -Nat.not_le, -Nat.not_lt, -Nat.add_left_cancel_iff, wrap_i64, wrap_u64, Tryd.f13, isP_cells hv, isP_one hv, isP_low hv, isP_noKey hv, isP_len hv, isP_low hP])
  all_goals grind
theorem lawNextModel_s {n x : Int} {v : AV} (hv : IsP v) {K : AV → Prop} {tg : Tg K} : CW env 13 [.int .i64 n, v, .int .i64 x] K tg ↔ K (.bool true) := callsTo_iff (lawNextModel_c hv)
attribute [simp] lawNextModel_s
end Go.Proofs.YthdeaenleimbeaaDoor
