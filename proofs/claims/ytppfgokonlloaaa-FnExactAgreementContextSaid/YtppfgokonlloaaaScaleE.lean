/- The context of agreements: both sides. Conditions: none. -/
import Derived.Test.YtppfgokonlloaaaScaleD
namespace Go.Proofs.Ytppfgokonlloaaa
open Ev
set_option linter.unusedVariables false
set_option linter.unusedSimpArgs false
set_option maxHeartbeats 4000000

theorem agTo_two (xss : List (List Int)) : ∀ k, (agTo xss k).length * 2 = k * (k - 1)
  | 0 => by simp [agTo]
  | k + 1 => by
    have h := agTo_two xss k
    simp only [agTo, List.length_append, tab_length, Nat.add_sub_cancel]
    rw [Nat.add_mul, h]
    cases k with
    | zero => rfl
    | succ j => simp only [Nat.add_sub_cancel]; rw [← Nat.mul_add, Nat.mul_comm (j + 1 + 1)]
theorem agTo_w (xss : List (List Int)) {n : Nat} (hn : n ≤ 8) : IntKind.i64.wrap ((IntKind.i64.wrap ((n : Int) * ((n : Int) - 1))).tdiv 2) = ((agTo xss n).length : Int) := by
  have hx : (n : Int) * ((n : Int) - 1) = 2 * ((agTo xss n).length : Int) := by
    have h := agTo_two xss n
    have h9 : n = 0 ∨ n = 1 ∨ n = 2 ∨ n = 3 ∨ n = 4 ∨ n = 5 ∨ n = 6 ∨ n = 7 ∨ n = 8 := by omega
    rcases h9 with rfl | rfl | rfl | rfl | rfl | rfl | rfl | rfl | rfl <;> simp at h ⊢ <;> omega
  have hl := agTo_len xss n
  have hk : n * n ≤ 8 * 8 := Nat.mul_le_mul hn hn
  rw [hx, wrap_i64 (x := 2 * ((agTo xss n).length : Int)) (by omega) (by omega), Int.mul_tdiv_cancel_left _ (by decide), wrap_i64 (by omega) (by omega)]
def AgC (lv : List Int) (xss : List (List Int)) : Prop := PTab lv xss ∧ (agTo xss xss.length).length ≤ 8
noncomputable instance (lv : List Int) (xss : List (List Int)) : Decidable (AgC lv xss) := Classical.propDecidable _
noncomputable def agM (lv : List Int) (xss : List (List Int)) : Nat := if AgC lv xss then lv.length else 0
noncomputable def agX (lv : List Int) (xss : List (List Int)) : List Int := if AgC lv xss then agTo xss xss.length else []
noncomputable def agV (lv : List Int) (xss : List (List Int)) : AV := if AgC lv xss then bufC 1 (agTo xss xss.length) else .sl 0 .lit []
theorem sAgr_c {u v : AV} (hu : IsI u) (hv : IsLL v) (hL : (xssOf v).length ≤ 1048576) : EvC env 16 [.agg [u, v]] (.tup [.agg [.int .i64 (agM (xsOf u) (xssOf v)), bufR 3 51 0 (agX (xsOf u) (xssOf v))], .bool (decide (AgC (xsOf u) (xssOf v)))]) := by
  refine evC_of (F := Try.f16) rfl rfl (Nat.le_of_ble_eq_true rfl) ?_
  by_cases hp : PTab (xsOf u) (xssOf v)
  · have hal := agTo_len (xssOf v) (xssOf v).length
    have hn8 : (xssOf v).length ≤ 8 := hp.2.1
    have hq := agTo_w (xssOf v) hn8
    have hkk : (xssOf v).length * (xssOf v).length ≤ 8 * 8 := Nat.mul_le_mul hn8 hn8
    by_cases h8 : (agTo (xssOf v) (xssOf v).length).length ≤ 8
    · have hA : AgC (xsOf u) (xssOf v) := ⟨hp, h8⟩
      have h8i : ¬ (8 : Int) < ((agTo (xssOf v) (xssOf v).length).length : Int) := by omega
      have eM : agM (xsOf u) (xssOf v) = (xsOf u).length := if_pos hA
      have eV : agX (xsOf u) (xssOf v) = agTo (xssOf v) (xssOf v).length := if_pos hA
      rw [eM, eV]
      clear eM eV
      repeat' (first | (apply brI <;> intro hb hb2 <;> (try simp [-Int.not_le, -Int.not_lt, -Nat.not_le, -Nat.not_lt, -Nat.add_left_cancel_iff] at hb2)) | (refine draw_listA (by rfl) (by kernel_rfl) ?_) | (refine draw_listB (by simp [allocsOf, isAlloc]; rfl) (by kernel_rfl) ?_) | simp (maxSteps := 2000000) (disch := first | omega | assumption | simp [*]) [*, -Int.not_le, -Int.not_lt, -Nat.not_le, -Nat.not_lt, -Nat.add_left_cancel_iff, wrap_i64, wrap_u64, Try.f16, hp, hA, hq, isI_cells hu, isI_one hu, isI_low hu, isI_len hu, isLL_cells hv, isLL_one hv, isLL_low hv, isLL_len hv])
      refine W_loopG (xssOf v).length (fun k st h => st 6 = .int .i64 k ∧ st 4 = .int .i64 (xssOf v).length ∧ st 1 = .vp 1 0 0 ∧ st 2 = .vp 2 0 0 ∧ st 5 = .vp 5 0 0 ∧ h 1 = some (.var 0 38 (.agg [u, v])) ∧ h 2 = some (.var 0 26 (.agg [.int .i64 0, .sl 0 .lit []])) ∧
        ∃ w, h 5 = some (.var 0 26 (.agg [.int .i64 (xsOf u).length, w])) ∧ Buf h 3 51 0 w (agTo (xssOf v) k)) ?_ ?_
      · refine ⟨by simp, by simp, by simp, by simp, by simp, by simp [hset], by simp [hset], .sl 0 .lit [], by simp [hset], buf_nil ..⟩
      rintro k st h hk ⟨k6, k4, k1, k2, k5, e1, e2, w, e5, hB⟩
      have ow := hB.one
      have cw := hB.cells
      by_cases hk2 : k < (xssOf v).length
      · have halk := agTo_len (xssOf v) k
        have hkk2 : k * k ≤ 8 * 8 := Nat.mul_le_mul (by omega) (by omega)
        have hrk := hv.row k hk2
        have hxk := xssOf_row hk2
        repeat' (first | (apply brI <;> intro hb hb2 <;> (try simp [-Int.not_le, -Int.not_lt, -Nat.not_le, -Nat.not_lt, -Nat.add_left_cancel_iff] at hb2)) | (refine draw_listA (by rfl) (by kernel_rfl) ?_) | (refine draw_listB (by simp [allocsOf, isAlloc]; rfl) (by kernel_rfl) ?_) | simp (maxSteps := 2000000) (disch := first | omega | assumption | simp [*]) [*, -Int.not_le, -Int.not_lt, -Nat.not_le, -Nat.not_lt, -Nat.add_left_cancel_iff, wrap_i64, wrap_u64, k6, k4, k1, k2, k5, e1, e2, e5])
        refine W_loopG k (fun i st h => st 7 = .int .i64 i ∧ st 6 = .int .i64 k ∧ st 4 = .int .i64 (xssOf v).length ∧ st 1 = .vp 1 0 0 ∧ st 2 = .vp 2 0 0 ∧ st 5 = .vp 5 0 0 ∧ h 1 = some (.var 0 38 (.agg [u, v])) ∧ h 2 = some (.var 0 26 (.agg [.int .i64 0, .sl 0 .lit []])) ∧
          ∃ w, h 5 = some (.var 0 26 (.agg [.int .i64 (xsOf u).length, w])) ∧ Buf h 3 51 0 w (agTo (xssOf v) k ++ tab (fun i => Agree (nthL (xssOf v) i) (nthL (xssOf v) k)) i)) ?_ ?_
        · refine ⟨by simp, by simp [k6], by simp [k4], by simp [k1], by simp [k2], by simp [k5], e1, e2, w, e5, by simpa using hB⟩
        rintro i st3 h3 hi ⟨q7, q6, q4, q1, q2, q5, d1, d2, w3, d5, hB3⟩
        have ow3 := hB3.one
        have cw3 := hB3.cells
        by_cases hi2 : i < k
        · have hri := hv.row i (by omega)
          have hxi := xssOf_row (v := v) (n := i) (by omega)
          have hli : (xsOf (rowOf v i)).length = (xsOf u).length := by rw [hxi]; exact (hp.2.2.2 i (by omega)).1
          have hlk : (xsOf (rowOf v k)).length = (xsOf u).length := by rw [hxk]; exact (hp.2.2.2 k hk2).1
          have hG := hp.1
          have hi3 : i < (xssOf v).length := by omega
          repeat' (first | (apply brI <;> intro hb hb2 <;> (try simp [-Int.not_le, -Int.not_lt, -Nat.not_le, -Nat.not_lt, -Nat.add_left_cancel_iff] at hb2)) | (refine draw_listA (by rfl) (by kernel_rfl) ?_) | (refine draw_listB (by simp [allocsOf, isAlloc]; rfl) (by kernel_rfl) ?_) | simp (maxSteps := 2000000) (disch := first | omega | assumption | simp [*]) [*, -Int.not_le, -Int.not_lt, -Nat.not_le, -Nat.not_lt, -Nat.add_left_cancel_iff, wrap_i64, wrap_u64, q7, q6, q4, q1, q2, q5, d1, d2, d5, isLL_len hv, isLL_index hv, isLL_load hv, isI_low hri, isI_low hrk])
          refine wa_push' hB3 (by simp) (by simp) (fun _ => rfl) (by simp; omega) ?_
          intro v4 h4 hB4 hk4
          have ow4 := hB4.one
          have cw4 := hB4.cells
          have g1 := (hk4 1 (by omega)).trans d1
          have g2 := (hk4 2 (by omega)).trans d2
          have g5 := (hk4 5 (by omega)).trans d5
          repeat' (first | (apply brI <;> intro hb hb2 <;> (try simp [-Int.not_le, -Int.not_lt, -Nat.not_le, -Nat.not_lt, -Nat.add_left_cancel_iff] at hb2)) | (refine draw_listA (by rfl) (by kernel_rfl) ?_) | (refine draw_listB (by simp [allocsOf, isAlloc]; rfl) (by kernel_rfl) ?_) | simp (maxSteps := 2000000) (disch := first | omega | assumption | simp [*]) [*, -Int.not_le, -Int.not_lt, -Nat.not_le, -Nat.not_lt, -Nat.add_left_cancel_iff, wrap_i64, wrap_u64, q7, q6, q4, q1, q2, q5, g1, g2, g5])
          have hB5 := hB4
          rw [List.append_assoc, ← tab_succ] at hB5
          exact hB5.keep (by simp [hset])
        · obtain rfl : i = k := by omega
          repeat' (first | (apply brI <;> intro hb hb2 <;> (try simp [-Int.not_le, -Int.not_lt, -Nat.not_le, -Nat.not_lt, -Nat.add_left_cancel_iff] at hb2)) | (refine draw_listA (by rfl) (by kernel_rfl) ?_) | (refine draw_listB (by simp [allocsOf, isAlloc]; rfl) (by kernel_rfl) ?_) | simp (maxSteps := 2000000) (disch := first | omega | assumption | simp [*]) [*, -Int.not_le, -Int.not_lt, -Nat.not_le, -Nat.not_lt, -Nat.add_left_cancel_iff, wrap_i64, wrap_u64, q7, q6, q4, q1, q2, q5, d1, d2, d5])
          exact hB3
      · obtain rfl : k = (xssOf v).length := by omega
        repeat' (first | (apply brI <;> intro hb hb2 <;> (try simp [-Int.not_le, -Int.not_lt, -Nat.not_le, -Nat.not_lt, -Nat.add_left_cancel_iff] at hb2)) | (refine draw_listA (by rfl) (by kernel_rfl) ?_) | (refine draw_listB (by simp [allocsOf, isAlloc]; rfl) (by kernel_rfl) ?_) | simp (maxSteps := 2000000) (disch := first | omega | assumption | simp [*]) [*, -Int.not_le, -Int.not_lt, -Nat.not_le, -Nat.not_lt, -Nat.add_left_cancel_iff, wrap_i64, wrap_u64, k6, k4, k1, k2, k5, e1, e2, e5])
        exact (hB.keep (by simp [hset])).expo
    · have hA : ¬ AgC (xsOf u) (xssOf v) := fun h => h8 h.2
      have h8i : (8 : Int) < ((agTo (xssOf v) (xssOf v).length).length : Int) := by omega
      have eM : agM (xsOf u) (xssOf v) = 0 := if_neg hA
      have eV : agX (xsOf u) (xssOf v) = [] := if_neg hA
      rw [eM, eV]
      clear eM eV
      repeat' (first | (apply brI <;> intro hb hb2 <;> (try simp [-Int.not_le, -Int.not_lt, -Nat.not_le, -Nat.not_lt, -Nat.add_left_cancel_iff] at hb2)) | (refine draw_listA (by rfl) (by kernel_rfl) ?_) | (refine draw_listB (by simp [allocsOf, isAlloc]; rfl) (by kernel_rfl) ?_) | simp (maxSteps := 2000000) (disch := first | omega | assumption | simp [*]) [*, -Int.not_le, -Int.not_lt, -Nat.not_le, -Nat.not_lt, -Nat.add_left_cancel_iff, wrap_i64, wrap_u64, Try.f16, hp, hA, hq, isI_cells hu, isI_one hu, isI_low hu, isI_len hu, isLL_cells hv, isLL_one hv, isLL_low hv, isLL_len hv])
  · have hA : ¬ AgC (xsOf u) (xssOf v) := fun h => hp h.1
    have eM : agM (xsOf u) (xssOf v) = 0 := if_neg hA
    have eV : agX (xsOf u) (xssOf v) = [] := if_neg hA
    rw [eM, eV]
    clear eM eV
    repeat' (first | (apply brI <;> intro hb hb2 <;> (try simp [-Int.not_le, -Int.not_lt, -Nat.not_le, -Nat.not_lt, -Nat.add_left_cancel_iff] at hb2)) | (refine draw_listA (by rfl) (by kernel_rfl) ?_) | (refine draw_listB (by simp [allocsOf, isAlloc]; rfl) (by kernel_rfl) ?_) | simp (maxSteps := 2000000) (disch := first | omega | assumption | simp [*]) [*, -Int.not_le, -Int.not_lt, -Nat.not_le, -Nat.not_lt, -Nat.add_left_cancel_iff, wrap_i64, wrap_u64, Try.f16, hp, hA, isI_cells hu, isI_one hu, isI_low hu, isI_len hu, isLL_cells hv, isLL_one hv, isLL_low hv, isLL_len hv])
theorem sAgr_s {u v : AV} (hu : IsI u) (hv : IsLL v) (hL : (xssOf v).length ≤ 1048576) {K : AV → Prop} {tg : Tg K} : CW env 16 [.agg [u, v]] K tg ↔ K (.tup [.agg [.int .i64 (agM (xsOf u) (xssOf v)), bufR 3 51 0 (agX (xsOf u) (xssOf v))], .bool (decide (AgC (xsOf u) (xssOf v)))]) := callsTo_iff (sAgr_c hu hv hL)
attribute [simp] sAgr_s
end Go.Proofs.Ytppfgokonlloaaa
