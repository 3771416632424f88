/- Strong rules: lists of rules in laws, both sides. Conditions: none. -/
import Derived.Test.YtkkkgaapkibhkaaGreatDoorStrP
namespace Go.Proofs.YtkkkgaapkibhkaaGreatDoor
open Ev
set_option linter.unusedVariables false
set_option linter.unusedSimpArgs false
set_option maxHeartbeats 4000000

theorem eqRule_c {a b c d : Int} : EvC env 242 [.agg [.int .i64 a, .int .i64 b], .agg [.int .i64 c, .int .i64 d]] (.bool (decide (a = c ∧ b = d))) := by
  refine evC_of (F := Tryz.f242) rfl rfl (Nat.le_of_ble_eq_true rfl) ?_
  repeat' (first | (apply br_intro <;> intro hb <;> (have hb2 := hb) <;> (try simp [-Int.not_le, -Int.not_lt, -Nat.not_le, -Nat.not_lt, -Nat.add_left_cancel_iff] at hb2)) | (refine draw_listA (by rfl) (by kernel_rfl) ?_) | (refine draw_listB (by simp [allocsOf, isAlloc]; rfl) (by kernel_rfl) ?_) | simp (maxSteps := 2000000) (disch := first | omega | assumption | simp [*]) [*, -Int.not_le, -Int.not_lt, -Nat.not_le, -Nat.not_lt, -Nat.add_left_cancel_iff, wrap_i64, wrap_u64, Tryz.f242])
theorem eqRule_s {a b c d : Int} {K : AV → Prop} {tg : Tg K} : CW env 242 [.agg [.int .i64 a, .int .i64 b], .agg [.int .i64 c, .int .i64 d]] K tg ↔ K (.bool (decide (a = c ∧ b = d))) := callsTo_iff (eqRule_c )
attribute [simp] eqRule_s
theorem eqRuleS_c {u v : AV} (hu : IsP u) (hv : IsP v) : EvC env 181 [u, v] (.bool (decide (fsts u = fsts v ∧ snds u = snds v))) := by
  refine evC_of (F := Tryz.f181) rfl rfl (Nat.le_of_ble_eq_true rfl) ?_
  have := hu.len
  have := hv.len
  have hul := hu.lens
  have hvl := hv.lens
  repeat' (first | (apply br_intro <;> intro hb <;> (have hb2 := hb) <;> (try simp [-Int.not_le, -Int.not_lt, -Nat.not_le, -Nat.not_lt, -Nat.add_left_cancel_iff] at hb2)) | (refine draw_listA (by rfl) (by kernel_rfl) ?_) | (refine draw_listB (by simp [allocsOf, isAlloc]; rfl) (by kernel_rfl) ?_) | simp (maxSteps := 2000000) (disch := first | omega | assumption | simp [*]) [*, -Int.not_le, -Int.not_lt, -Nat.not_le, -Nat.not_lt, -Nat.add_left_cancel_iff, wrap_i64, wrap_u64, Tryz.f181, isP_len hu, isP_low hu, isP_len hv, isP_low hv])
  · intro e; exact absurd (by rw [e]) hb2
  refine W_loopP (fsts u).length (fun i s => s 5 = .int .i64 i ∧ s 0 = u ∧ s 1 = v ∧ ∀ j, j < i → nth (fsts u) j = nth (fsts v) j ∧ nth (snds u) j = nth (snds v) j) rfl ?_ ?_
  · simp
  rintro i s hi ⟨h5, h0, h1, hj⟩
  by_cases hi2 : i < (fsts u).length
  · have hi3 : i < (fsts v).length := by omega
    repeat' (first | (apply br_intro <;> intro hb <;> (have hb2 := hb) <;> (try simp [-Int.not_le, -Int.not_lt, -Nat.not_le, -Nat.not_lt, -Nat.add_left_cancel_iff] at hb2)) | (refine draw_listA (by rfl) (by kernel_rfl) ?_) | (refine draw_listB (by simp [allocsOf, isAlloc]; rfl) (by kernel_rfl) ?_) | simp (maxSteps := 2000000) (disch := first | omega | assumption | simp [*]) [*, -Int.not_le, -Int.not_lt, -Nat.not_le, -Nat.not_lt, -Nat.add_left_cancel_iff, wrap_i64, wrap_u64, h5, h0, h1, isP_len hu, isP_low hu, isP_index hu, isP_len hv, isP_low hv, isP_index hv])
    · intro e e2; rw [e, e2] at hb2; simp at hb2
    · intro j hj2
      by_cases e : j = i
      · subst e; exact hb2
      · exact hj j (by omega)
  · obtain rfl : i = (fsts u).length := by omega
    repeat' (first | (apply br_intro <;> intro hb <;> (have hb2 := hb) <;> (try simp [-Int.not_le, -Int.not_lt, -Nat.not_le, -Nat.not_lt, -Nat.add_left_cancel_iff] at hb2)) | (refine draw_listA (by rfl) (by kernel_rfl) ?_) | (refine draw_listB (by simp [allocsOf, isAlloc]; rfl) (by kernel_rfl) ?_) | simp (maxSteps := 2000000) (disch := first | omega | assumption | simp [*]) [*, -Int.not_le, -Int.not_lt, -Nat.not_le, -Nat.not_lt, -Nat.add_left_cancel_iff, wrap_i64, wrap_u64, h5, h0, h1, isP_len hu])
    constructor
    · apply List.ext_getElem?
      intro j
      by_cases hj2 : j < (fsts u).length
      · rw [nth_get? hj2, nth_get? (by omega), (hj j hj2).1]
      · rw [List.getElem?_eq_none (by omega), List.getElem?_eq_none (by omega)]
    · apply List.ext_getElem?
      intro j
      by_cases hj2 : j < (fsts u).length
      · rw [nth_get? (by omega), nth_get? (by omega), (hj j hj2).2]
      · rw [List.getElem?_eq_none (by omega), List.getElem?_eq_none (by omega)]
theorem eqRuleS_s {u v : AV} (hu : IsP u) (hv : IsP v) {K : AV → Prop} {tg : Tg K} : CW env 181 [u, v] K tg ↔ K (.bool (decide (fsts u = fsts v ∧ snds u = snds v))) := callsTo_iff (eqRuleS_c hu hv)
attribute [simp] eqRuleS_s
/-- marks: two numbers for each record -/
def mk2a (k : Int) (n : Nat) : List Int := tab (fun j => k + 2 * j) n
def mk2b (k : Int) (n : Nat) : List Int := tab (fun j => k + 2 * j + 1) n
theorem mk2a_len (k : Int) (n : Nat) : (mk2a k n).length = n := by simp [mk2a]
theorem mk2b_len (k : Int) (n : Nat) : (mk2b k n).length = n := by simp [mk2b]
theorem mk2a_nth (k : Int) {n j : Nat} (h : j < n) : nth (mk2a k n) j = k + 2 * j := by unfold mk2a; rw [tab_nth _ h]
theorem mk2b_nth (k : Int) {n j : Nat} (h : j < n) : nth (mk2b k n) j = k + 2 * j + 1 := by unfold mk2b; rw [tab_nth _ h]
theorem markRuleS_o {v : AV} {key T k0 : Nat} {xs ys : List Int} {k : Int} {h : Heap} {off : Nat} {K : AV → Heap → Prop} (hR : Row h key T 2 k0 v (prs xs ys)) (hyl : ys.length = xs.length) (h0 : 0 ≤ k) (h1 : k + 2 * xs.length ≤ 4611686018427387904) (hK : ∀ h', Row h' key T 2 k0 v (prs (mk2a k xs.length) (mk2b k xs.length)) → (∀ x, x ≠ key → h' x = h x) → K (.int .i64 (k + 2 * xs.length)) h') : OpenTo env 183 [v, .int .i64 k] h off K := by
  refine openTo_of (F := Tryz.f183) rfl rfl (Nat.le_of_ble_eq_true rfl) ?_
  repeat' (first | (apply br_intro <;> intro hb <;> (have hb2 := hb) <;> (try simp [-Int.not_le, -Int.not_lt, -Nat.not_le, -Nat.not_lt, -Nat.add_left_cancel_iff] at hb2)) | (refine draw_listA (by rfl) (by kernel_rfl) ?_) | (refine draw_listB (by simp [allocsOf, isAlloc]; rfl) (by kernel_rfl) ?_) | simp (maxSteps := 2000000) (disch := first | omega | assumption | simp [*]) [*, -Int.not_le, -Int.not_lt, -Nat.not_le, -Nat.not_lt, -Nat.add_left_cancel_iff, wrap_i64, wrap_u64, Tryz.f183])
  refine W_loopG xs.length (fun i s h' => s 5 = .int .i64 i ∧ s 0 = v ∧ s 1 = .int .i64 (k + 2 * i) ∧ (∀ x, x ≠ key → h' x = h x) ∧ ∃ us vs, Row h' key T 2 k0 v (prs us vs) ∧ us.length = xs.length ∧ vs.length = us.length ∧ ∀ j, j < i → nth us j = k + 2 * j ∧ nth vs j = k + 2 * j + 1) ?_ ?_
  · simp; exact ⟨xs, ys, hR, rfl, hyl⟩
  rintro i s h2 hi ⟨h5, h0, h1, hh, us, vs, hR2, hy, hz, hj⟩
  have hlen := fun E t ht => hR2.len (E := E) (t := t) ht
  by_cases hi2 : i < xs.length
  · rcases hR2 with ⟨e, _⟩ | ⟨hx, g, rfl, hg⟩
    · have := congrArg List.length e; simp only [prs_length, List.length_nil] at this; omega
    have hi3 : i < us.length := by omega
    repeat' (first | (apply br_intro <;> intro hb <;> (have hb2 := hb) <;> (try simp [-Int.not_le, -Int.not_lt, -Nat.not_le, -Nat.not_lt, -Nat.add_left_cancel_iff] at hb2)) | (refine draw_listA (by rfl) (by kernel_rfl) ?_) | (refine draw_listB (by simp [allocsOf, isAlloc]; rfl) (by kernel_rfl) ?_) | simp (maxSteps := 2000000) (disch := first | omega | assumption | simp [*]) [*, -Int.not_le, -Int.not_lt, -Nat.not_le, -Nat.not_lt, -Nat.add_left_cancel_iff, wrap_i64, wrap_u64, h5, h0, h1, prs_set])
    refine ⟨by omega, fun x a b => absurd b a, us.set i (nth (us.set i (k + 2 * i)) i), vs.set i (k + 2 * i + 1), .inr ⟨fun e => ?_, g, by simp [hy], by simp [hset]⟩, by simp [hy], by simp [hz], fun j hj2 => ?_⟩
    · have := congrArg List.length e
      simp at this
      rw [this] at hi3; simp at hi3
    · rw [nth_set _ _ _ _ (by omega), nth_set _ _ _ _ (by omega), nth_set _ _ _ _ (by omega)]
      by_cases e : j = i
      · subst e; simp
      · simp only [e, if_false]; exact hj j (by omega)
  · obtain rfl : i = xs.length := by omega
    repeat' (first | (apply br_intro <;> intro hb <;> (have hb2 := hb) <;> (try simp [-Int.not_le, -Int.not_lt, -Nat.not_le, -Nat.not_lt, -Nat.add_left_cancel_iff] at hb2)) | (refine draw_listA (by rfl) (by kernel_rfl) ?_) | (refine draw_listB (by simp [allocsOf, isAlloc]; rfl) (by kernel_rfl) ?_) | simp (maxSteps := 2000000) (disch := first | omega | assumption | simp [*]) [*, -Int.not_le, -Int.not_lt, -Nat.not_le, -Nat.not_lt, -Nat.add_left_cancel_iff, wrap_i64, wrap_u64, h5, h0, h1])
    have e1 : us = mk2a k xs.length := by unfold mk2a; exact tab_eq hy fun j hj2 => (hj j hj2).1
    have e2 : vs = mk2b k xs.length := by unfold mk2b; exact tab_eq (by omega) fun j hj2 => (hj j hj2).2
    rw [e1, e2] at hR2
    exact hK _ hR2 hh
theorem heldRuleS_c {v : AV} {k : Int} (hv : IsP v) (h0 : 0 ≤ k) (h1 : k + 2 * (fsts v).length ≤ 4611686018427387904) : EvC env 185 [v, .int .i64 k] (.int .i64 (if fsts v = mk2a k (fsts v).length ∧ snds v = mk2b k (fsts v).length then k + 2 * (fsts v).length else -1)) := by
  refine evC_of (F := Tryz.f185) rfl rfl (Nat.le_of_ble_eq_true rfl) ?_
  have := hv.len
  have hlens := hv.lens
  repeat' (first | (apply br_intro <;> intro hb <;> (have hb2 := hb) <;> (try simp [-Int.not_le, -Int.not_lt, -Nat.not_le, -Nat.not_lt, -Nat.add_left_cancel_iff] at hb2)) | (refine draw_listA (by rfl) (by kernel_rfl) ?_) | (refine draw_listB (by simp [allocsOf, isAlloc]; rfl) (by kernel_rfl) ?_) | simp (maxSteps := 2000000) (disch := first | omega | assumption | simp [*]) [*, -Int.not_le, -Int.not_lt, -Nat.not_le, -Nat.not_lt, -Nat.add_left_cancel_iff, wrap_i64, wrap_u64, Tryz.f185, isP_len hv, isP_low hv])
  refine W_loopP (fsts v).length (fun i s => s 5 = .int .i64 i ∧ s 0 = v ∧ s 1 = .int .i64 (k + 2 * i) ∧ ∀ j, j < i → nth (fsts v) j = k + 2 * j ∧ nth (snds v) j = k + 2 * j + 1) rfl ?_ ?_
  · simp
  rintro i s hi ⟨h5, h0, h1, hj⟩
  by_cases hi2 : i < (fsts v).length
  · by_cases ea : nth (fsts v) i = k + 2 * i
    · by_cases eb : nth (snds v) i = k + 2 * i + 1
      · have hj2 : ∀ j, j < i + 1 → nth (fsts v) j = k + 2 * j ∧ nth (snds v) j = k + 2 * j + 1 := fun j hj3 => by
          by_cases e : j = i
          · subst e; exact ⟨ea, eb⟩
          · exact hj j (by omega)
        clear hj
        repeat' (first | (apply br_intro <;> intro hb <;> (have hb2 := hb) <;> (try simp [-Int.not_le, -Int.not_lt, -Nat.not_le, -Nat.not_lt, -Nat.add_left_cancel_iff] at hb2)) | (refine draw_listA (by rfl) (by kernel_rfl) ?_) | (refine draw_listB (by simp [allocsOf, isAlloc]; rfl) (by kernel_rfl) ?_) | simp (maxSteps := 2000000) (disch := first | omega | assumption | simp [*]) [*, -Int.not_le, -Int.not_lt, -Nat.not_le, -Nat.not_lt, -Nat.add_left_cancel_iff, wrap_i64, wrap_u64, h5, h0, h1, isP_len hv, isP_low hv, isP_index hv])
        all_goals first | exact ⟨by omega, hj2⟩ | omega
      · have hno : ¬ (fsts v = mk2a k (fsts v).length ∧ snds v = mk2b k (fsts v).length) := fun h => eb ((congrArg (nth · i) h.2).trans (mk2b_nth _ hi2))
        clear hj
        repeat' (first | (apply br_intro <;> intro hb <;> (have hb2 := hb) <;> (try simp [-Int.not_le, -Int.not_lt, -Nat.not_le, -Nat.not_lt, -Nat.add_left_cancel_iff] at hb2)) | (refine draw_listA (by rfl) (by kernel_rfl) ?_) | (refine draw_listB (by simp [allocsOf, isAlloc]; rfl) (by kernel_rfl) ?_) | simp (maxSteps := 2000000) (disch := first | omega | assumption | simp [*]) [*, -Int.not_le, -Int.not_lt, -Nat.not_le, -Nat.not_lt, -Nat.add_left_cancel_iff, wrap_i64, wrap_u64, h5, h0, h1, isP_len hv, isP_low hv, isP_index hv])
    · have hno : ¬ (fsts v = mk2a k (fsts v).length ∧ snds v = mk2b k (fsts v).length) := fun h => ea ((congrArg (nth · i) h.1).trans (mk2a_nth _ hi2))
      clear hj
      repeat' (first | (apply br_intro <;> intro hb <;> (have hb2 := hb) <;> (try simp [-Int.not_le, -Int.not_lt, -Nat.not_le, -Nat.not_lt, -Nat.add_left_cancel_iff] at hb2)) | (refine draw_listA (by rfl) (by kernel_rfl) ?_) | (refine draw_listB (by simp [allocsOf, isAlloc]; rfl) (by kernel_rfl) ?_) | simp (maxSteps := 2000000) (disch := first | omega | assumption | simp [*]) [*, -Int.not_le, -Int.not_lt, -Nat.not_le, -Nat.not_lt, -Nat.add_left_cancel_iff, wrap_i64, wrap_u64, h5, h0, h1, isP_len hv, isP_low hv, isP_index hv])
  · obtain rfl : i = (fsts v).length := by omega
    have hyes : (if fsts v = mk2a k (fsts v).length ∧ snds v = mk2b k (fsts v).length then k + 2 * ((fsts v).length : Int) else -1) = k + 2 * (fsts v).length := if_pos ⟨tab_eq rfl fun j hj2 => (hj j hj2).1, tab_eq hlens fun j hj2 => (hj j hj2).2⟩
    rw [hyes]
    clear hyes hj
    repeat' (first | (apply br_intro <;> intro hb <;> (have hb2 := hb) <;> (try simp [-Int.not_le, -Int.not_lt, -Nat.not_le, -Nat.not_lt, -Nat.add_left_cancel_iff] at hb2)) | (refine draw_listA (by rfl) (by kernel_rfl) ?_) | (refine draw_listB (by simp [allocsOf, isAlloc]; rfl) (by kernel_rfl) ?_) | simp (maxSteps := 2000000) (disch := first | omega | assumption | simp [*]) [*, -Int.not_le, -Int.not_lt, -Nat.not_le, -Nat.not_lt, -Nat.add_left_cancel_iff, wrap_i64, wrap_u64, h5, h0, h1, isP_len hv])
theorem heldRuleS_s {v : AV} {k : Int} (hv : IsP v) (h0 : 0 ≤ k) (h1 : k + 2 * (fsts v).length ≤ 4611686018427387904) {K : AV → Prop} {tg : Tg K} : CW env 185 [v, .int .i64 k] K tg ↔ K (.int .i64 (if fsts v = mk2a k (fsts v).length ∧ snds v = mk2b k (fsts v).length then k + 2 * (fsts v).length else -1)) := callsTo_iff (heldRuleS_c hv h0 h1)
attribute [simp] heldRuleS_s
theorem sStrongRules_c {n num den : Int} {v : AV} (hv : IsI v) : EvC env 103 [.agg [.int .i64 n, v], .int .i64 num, .int .i64 den] (bufLR 59 86 2 2 (strL n (xsOf v) num den)) := by
  refine evC_of (F := Tryz.f103) rfl rfl (Nat.le_of_ble_eq_true rfl) ?_
  by_cases hc : StrC num den
  · have hV : strL n (xsOf v) num den = strAll (strB (fsts (conW n (xsOf v))) num den) (snds (conW n (xsOf v))) (conL n (xsOf v)).length (conL n (xsOf v)).length := by unfold strL; rw [if_pos hc]
    rw [hV]
    obtain ⟨⟨hd1, hd2⟩, hn1, hn2⟩ := hc
    have hP := conW_P n (xsOf v)
    have hw := sCon_noEx n (xsOf v) 102
    have hfl := conW_len n (xsOf v)
    have hL := conL_len n (xsOf v)
    have hF := sets_F n (xsOf v)
    clear hV
    generalize conW n (xsOf v) = w at *
    generalize (conL n (xsOf v)).length = len at *
    obtain ⟨q, hq⟩ : ∃ q, q = strB (fsts w) num den := ⟨_, rfl⟩
    rw [← hq]
    have hqv : ∀ a b, q a b = strB (fsts w) num den a b := fun a b => by rw [hq]
    clear hq
    have hg1 : (decide (1 ≤ den) && decide (den ≤ 100)) = true := by simp; omega
    have hg2 : (decide (0 ≤ num) && decide (num ≤ den)) = true := by simp; omega
    repeat' (first | (apply br_intro <;> intro hb <;> (have hb2 := hb) <;> (try simp [-Int.not_le, -Int.not_lt, -Nat.not_le, -Nat.not_lt, -Nat.add_left_cancel_iff] at hb2)) | (refine draw_listA (by rfl) (by kernel_rfl) ?_) | (refine draw_listB (by simp [allocsOf, isAlloc]; rfl) (by kernel_rfl) ?_) | simp (maxSteps := 2000000) (disch := first | omega | assumption | simp [*]) [*, -Int.not_le, -Int.not_lt, -Nat.not_le, -Nat.not_lt, -Nat.add_left_cancel_iff, wrap_i64, wrap_u64, Tryz.f103, isI_cells hv, isI_one hv, isI_low hv, isI_len hv, isP_len hP])
    refine W_loopG len (fun a s h => s 9 = .int .i64 a ∧ s 8 = w ∧ s 1 = .int .i64 num ∧ s 2 = .int .i64 den ∧ BufL h 59 86 2 2 (s 7) (strAll q (snds w) len a)) ?_ ?_
    · simp [*, strAll]
      exact bufL_nil ..
    rintro a s h ha ⟨h9, h8, h1, h2, hB⟩
    by_cases ha2 : a < len
    · have hsl := strAll_len q (snds w) len a
      have hll : len * a ≤ 64 * 64 := Nat.mul_le_mul hL (by omega)
      have hsu : strAll q (snds w) len (a + 1) = strAll q (snds w) len a ++ strRow q (snds w) a len := rfl
      have ra := hF a (by omega)
      repeat' (first | (apply br_intro <;> intro hb <;> (have hb2 := hb) <;> (try simp [-Int.not_le, -Int.not_lt, -Nat.not_le, -Nat.not_lt, -Nat.add_left_cancel_iff] at hb2)) | (refine draw_listA (by rfl) (by kernel_rfl) ?_) | (refine draw_listB (by simp [allocsOf, isAlloc]; rfl) (by kernel_rfl) ?_) | simp (maxSteps := 2000000) (disch := first | omega | assumption | simp [*]) [*, -Int.not_le, -Int.not_lt, -Nat.not_le, -Nat.not_lt, -Nat.add_left_cancel_iff, wrap_i64, wrap_u64, h9, h8, h1, h2, isP_len hP, isP_low hP])
      refine W_loopG len (fun b s h => s 10 = .int .i64 b ∧ s 9 = .int .i64 a ∧ s 8 = w ∧ s 1 = .int .i64 num ∧ s 2 = .int .i64 den ∧ BufL h 59 86 2 2 (s 7) (strAll q (snds w) len a ++ strRow q (snds w) a b)) ?_ ?_
      · simp [*, strRow]
      rintro b s3 h3 hb ⟨k10, k9, k8, k1, k2, hB2⟩
      by_cases hb2 : b < len
      · have rb := hF b (by omega)
        have hsr := strRow_len q (snds w) a b
        have hpu : strRow q (snds w) a (b + 1) = strRow q (snds w) a b ++ if q a b then [pr (nth (snds w) a) (nth (snds w) b)] else [] := rfl
        obtain ⟨ca, hca⟩ : ∃ ca, (elemsTo (nth (fsts w) a) 8).length = ca := ⟨_, rfl⟩
        obtain ⟨cb, hcb⟩ : ∃ cb, (elemsTo (nth (fsts w) b) 8).length = cb := ⟨_, rfl⟩
        have hca8 : ca ≤ 8 := by rw [← hca]; exact elemsTo_len _ 8
        have hcb8 : cb ≤ 8 := by rw [← hcb]; exact elemsTo_len _ 8
        have hqv2 : q a b = (decide (a ≠ b) && PSub (nth (fsts w) b) (nth (fsts w) a) && decide (num * (ca : Int) ≤ (cb : Int) * den)) := by rw [hqv a b, ← hca, ← hcb]; rfl
        have hm1 : 0 ≤ num * (ca : Int) := Int.mul_nonneg hn1 (by omega)
        have hm2 : num * (ca : Int) ≤ 100 * 8 := Int.mul_le_mul (by omega) (by omega) (by omega) (by omega)
        have hm3 : 0 ≤ (cb : Int) * den := Int.mul_nonneg (by omega) (by omega)
        have hm4 : (cb : Int) * den ≤ 8 * 100 := Int.mul_le_mul (by omega) (by omega) (by omega) (by omega)
        clear hqv hF hg1 hg2 hsu hB
        by_cases e : a = b
        · subst e
          have hqf : q a a = false := by rw [hqv2]; simp
          rw [hqf] at hpu
          simp only [Bool.false_eq_true, if_false, List.append_nil] at hpu
          rw [← hpu] at hB2
          clear hpu hqf hqv2
          repeat' (first | (apply br_intro <;> intro hb <;> (have hb2 := hb) <;> (try simp [-Int.not_le, -Int.not_lt, -Nat.not_le, -Nat.not_lt, -Nat.add_left_cancel_iff] at hb2)) | (refine draw_listA (by rfl) (by kernel_rfl) ?_) | (refine draw_listB (by simp [allocsOf, isAlloc]; rfl) (by kernel_rfl) ?_) | simp (maxSteps := 2000000) (disch := first | omega | assumption | simp [*]) [*, -Int.not_le, -Int.not_lt, -Nat.not_le, -Nat.not_lt, -Nat.add_left_cancel_iff, wrap_i64, wrap_u64, k10, k9, k8, k1, k2, isP_len hP, isP_index hP, isP_low hP, isP_noKey hP])
        · have ei : ¬ (a : Int) = b := by omega
          cases hs : PSub (nth (fsts w) b) (nth (fsts w) a) with
          | false =>
            have hqf : q a b = false := by rw [hqv2, hs]; simp
            rw [hqf] at hpu
            simp only [Bool.false_eq_true, if_false, List.append_nil] at hpu
            rw [← hpu] at hB2
            clear hpu hqf hqv2 e
            repeat' (first | (apply br_intro <;> intro hb <;> (have hb2 := hb) <;> (try simp [-Int.not_le, -Int.not_lt, -Nat.not_le, -Nat.not_lt, -Nat.add_left_cancel_iff] at hb2)) | (refine draw_listA (by rfl) (by kernel_rfl) ?_) | (refine draw_listB (by simp [allocsOf, isAlloc]; rfl) (by kernel_rfl) ?_) | simp (maxSteps := 2000000) (disch := first | omega | assumption | simp [*]) [*, -Int.not_le, -Int.not_lt, -Nat.not_le, -Nat.not_lt, -Nat.add_left_cancel_iff, wrap_i64, wrap_u64, k10, k9, k8, k1, k2, isP_len hP, isP_index hP, isP_low hP, isP_noKey hP])
          | true =>
            by_cases hm : num * (ca : Int) ≤ (cb : Int) * den
            · have hqt : q a b = true := by rw [hqv2, hs]; simp [e, hm]
              rw [hqt] at hpu
              simp only [if_true] at hpu
              have hpu2 : strAll q (snds w) len a ++ strRow q (snds w) a (b + 1) = (strAll q (snds w) len a ++ strRow q (snds w) a b) ++ [.agg [.int .i64 (nth (snds w) a), .int .i64 (nth (snds w) b)]] := by rw [hpu, List.append_assoc]; rfl
              have hlen2 : (strAll q (snds w) len a ++ strRow q (snds w) a b).length < 1073741824 := by rw [List.length_append]; omega
              clear hpu hqt hqv2 e hsl hll hsr
              repeat' (first | (apply br_intro <;> intro hb <;> (have hb2 := hb) <;> (try simp [-Int.not_le, -Int.not_lt, -Nat.not_le, -Nat.not_lt, -Nat.add_left_cancel_iff] at hb2)) | (refine draw_listA (by rfl) (by kernel_rfl) ?_) | (refine draw_listB (by simp [allocsOf, isAlloc]; rfl) (by kernel_rfl) ?_) | simp (maxSteps := 2000000) (disch := first | omega | assumption | simp [*]) [*, -Int.not_le, -Int.not_lt, -Nat.not_le, -Nat.not_lt, -Nat.add_left_cancel_iff, wrap_i64, wrap_u64, k10, k9, k8, k1, k2, isP_len hP, isP_index hP, isP_low hP, isP_noKey hP])
              refine wa_pushL hB2 (by simp) (by simp) (by simp) ⟨rfl, rfl⟩ (fun _ => rfl) hlen2 ?_
              intro v2 h4 hB3 hk2
              rw [← hpu2] at hB3
              clear hpu2 hk2 hlen2
              repeat' (first | (apply br_intro <;> intro hb <;> (have hb2 := hb) <;> (try simp [-Int.not_le, -Int.not_lt, -Nat.not_le, -Nat.not_lt, -Nat.add_left_cancel_iff] at hb2)) | (refine draw_listA (by rfl) (by kernel_rfl) ?_) | (refine draw_listB (by simp [allocsOf, isAlloc]; rfl) (by kernel_rfl) ?_) | simp (maxSteps := 2000000) (disch := first | omega | assumption | simp [*]) [*, -Int.not_le, -Int.not_lt, -Nat.not_le, -Nat.not_lt, -Nat.add_left_cancel_iff, wrap_i64, wrap_u64, k10, k9, k8, k1, k2])
              exact hB3
            · have hqf : q a b = false := by rw [hqv2, hs]; simp [hm]
              rw [hqf] at hpu
              simp only [Bool.false_eq_true, if_false, List.append_nil] at hpu
              rw [← hpu] at hB2
              clear hpu hqf hqv2 e
              repeat' (first | (apply br_intro <;> intro hb <;> (have hb2 := hb) <;> (try simp [-Int.not_le, -Int.not_lt, -Nat.not_le, -Nat.not_lt, -Nat.add_left_cancel_iff] at hb2)) | (refine draw_listA (by rfl) (by kernel_rfl) ?_) | (refine draw_listB (by simp [allocsOf, isAlloc]; rfl) (by kernel_rfl) ?_) | simp (maxSteps := 2000000) (disch := first | omega | assumption | simp [*]) [*, -Int.not_le, -Int.not_lt, -Nat.not_le, -Nat.not_lt, -Nat.add_left_cancel_iff, wrap_i64, wrap_u64, k10, k9, k8, k1, k2, isP_len hP, isP_index hP, isP_low hP, isP_noKey hP])
      · obtain rfl : b = len := by omega
        rw [← hsu] at hB2
        clear hsu hF hqv
        repeat' (first | (apply br_intro <;> intro hb <;> (have hb2 := hb) <;> (try simp [-Int.not_le, -Int.not_lt, -Nat.not_le, -Nat.not_lt, -Nat.add_left_cancel_iff] at hb2)) | (refine draw_listA (by rfl) (by kernel_rfl) ?_) | (refine draw_listB (by simp [allocsOf, isAlloc]; rfl) (by kernel_rfl) ?_) | simp (maxSteps := 2000000) (disch := first | omega | assumption | simp [*]) [*, -Int.not_le, -Int.not_lt, -Nat.not_le, -Nat.not_lt, -Nat.add_left_cancel_iff, wrap_i64, wrap_u64, k10, k9, k8, k1, k2, isP_len hP])
    · obtain rfl : a = len := by omega
      clear hF hqv
      repeat' (first | (apply br_intro <;> intro hb <;> (have hb2 := hb) <;> (try simp [-Int.not_le, -Int.not_lt, -Nat.not_le, -Nat.not_lt, -Nat.add_left_cancel_iff] at hb2)) | (refine draw_listA (by rfl) (by kernel_rfl) ?_) | (refine draw_listB (by simp [allocsOf, isAlloc]; rfl) (by kernel_rfl) ?_) | simp (maxSteps := 2000000) (disch := first | omega | assumption | simp [*]) [*, -Int.not_le, -Int.not_lt, -Nat.not_le, -Nat.not_lt, -Nat.add_left_cancel_iff, wrap_i64, wrap_u64, h9, h8, h1, h2, isP_len hP])
      exact hB.expo
  · have hV : strL n (xsOf v) num den = [] := by unfold strL; rw [if_neg hc]
    rw [hV]
    by_cases hd : 1 ≤ den ∧ den ≤ 100
    · have hg1 : (decide (1 ≤ den) && decide (den ≤ 100)) = true := by simp; omega
      have hg2 : (decide (0 ≤ num) && decide (num ≤ den)) = false := by
        rw [Bool.eq_false_iff]; intro h; simp only [Bool.and_eq_true, decide_eq_true_eq] at h; exact hc ⟨hd, h⟩
      clear hc hV hd
      repeat' (first | (apply br_intro <;> intro hb <;> (have hb2 := hb) <;> (try simp [-Int.not_le, -Int.not_lt, -Nat.not_le, -Nat.not_lt, -Nat.add_left_cancel_iff] at hb2)) | (refine draw_listA (by rfl) (by kernel_rfl) ?_) | (refine draw_listB (by simp [allocsOf, isAlloc]; rfl) (by kernel_rfl) ?_) | simp (maxSteps := 2000000) (disch := first | omega | assumption | simp [*]) [*, -Int.not_le, -Int.not_lt, -Nat.not_le, -Nat.not_lt, -Nat.add_left_cancel_iff, wrap_i64, wrap_u64, Tryz.f103, isI_cells hv, isI_one hv, isI_low hv, isI_len hv])
      simp [bufLR]
    · have hg1 : (decide (1 ≤ den) && decide (den ≤ 100)) = false := by
        rw [Bool.eq_false_iff]; intro h; simp only [Bool.and_eq_true, decide_eq_true_eq] at h; exact hd h
      clear hc hV hd
      repeat' (first | (apply br_intro <;> intro hb <;> (have hb2 := hb) <;> (try simp [-Int.not_le, -Int.not_lt, -Nat.not_le, -Nat.not_lt, -Nat.add_left_cancel_iff] at hb2)) | (refine draw_listA (by rfl) (by kernel_rfl) ?_) | (refine draw_listB (by simp [allocsOf, isAlloc]; rfl) (by kernel_rfl) ?_) | simp (maxSteps := 2000000) (disch := first | omega | assumption | simp [*]) [*, -Int.not_le, -Int.not_lt, -Nat.not_le, -Nat.not_lt, -Nat.add_left_cancel_iff, wrap_i64, wrap_u64, Tryz.f103, isI_cells hv, isI_one hv, isI_low hv, isI_len hv])
      simp [bufLR]
theorem sStrongRules_s {n num den : Int} {v : AV} (hv : IsI v) {K : AV → Prop} {tg : Tg K} : CW env 103 [.agg [.int .i64 n, v], .int .i64 num, .int .i64 den] K tg ↔ K (bufLR 59 86 2 2 (strL n (xsOf v) num den)) := callsTo_iff (sStrongRules_c hv)
attribute [simp] sStrongRules_s
def strK (num den : Int) : Nat := if StrC num den then 2 else 0
theorem iStrongRules_c {n num den : Int} {v : AV} (hv : IsI v) : EvC env 96 [.agg [.int .i64 n, v], .int .i64 num, .int .i64 den] (bufLR 59 77 (strK num den) 2 (strL n (xsOf v) num den)) := by
  refine evC_of (F := Tryz.f96) rfl rfl (Nat.le_of_ble_eq_true rfl) ?_
  by_cases hc : StrC num den
  · have hV : strL n (xsOf v) num den = strAll (strQ (fsts (conW n (xsOf v))) (snds (conW n (xsOf v))) num den) (snds (conW n (xsOf v))) (conL n (xsOf v)).length (conL n (xsOf v)).length := by
      unfold strL; rw [if_pos hc]
      exact (strAll_congr fun a ha b hb => str_eq ha hb).symm
    have hK : strK num den = 2 := by unfold strK; rw [if_pos hc]
    rw [hV, hK]
    obtain ⟨⟨hd1, hd2⟩, hn1, hn2⟩ := hc
    have hP := conW2_P n (xsOf v)
    have hw := iCon_noEx n (xsOf v) 102
    have hfl := conW_len n (xsOf v)
    have hL := conL_len n (xsOf v)
    have hF := sets_F n (xsOf v)
    have hS := sets_S n (xsOf v)
    clear hV hK
    rw [← conW2_fsts] at hfl hF ⊢
    rw [← conW2_snds] at hS ⊢
    have hlens := hP.lens
    generalize conW2 n (xsOf v) = w at *
    generalize (conL n (xsOf v)).length = len at *
    have hS2 : ∀ k, k < len → 0 ≤ nth (snds w) k ∧ nth (snds w) k < 256 := fun k hk => hS k (by omega)
    clear hlens hF hS
    obtain ⟨q, hq⟩ : ∃ q, q = strQ (fsts w) (snds w) num den := ⟨_, rfl⟩
    rw [← hq]
    have hqv : ∀ a b, q a b = strQ (fsts w) (snds w) num den a b := fun a b => by rw [hq]
    clear hq
    have hg1 : (decide (1 ≤ den) && decide (den ≤ 100)) = true := by simp; omega
    have hg2 : (decide (0 ≤ num) && decide (num ≤ den)) = true := by simp; omega
    repeat' (first | (apply br_intro <;> intro hb <;> (have hb2 := hb) <;> (try simp [-Int.not_le, -Int.not_lt, -Nat.not_le, -Nat.not_lt, -Nat.add_left_cancel_iff] at hb2)) | (refine draw_listA (by rfl) (by kernel_rfl) ?_) | (refine draw_listB (by simp [allocsOf, isAlloc]; rfl) (by kernel_rfl) ?_) | simp (maxSteps := 2000000) (disch := first | omega | assumption | simp [*]) [*, -Int.not_le, -Int.not_lt, -Nat.not_le, -Nat.not_lt, -Nat.add_left_cancel_iff, wrap_i64, wrap_u64, Tryz.f96, isI_cells hv, isI_one hv, isI_low hv, isI_len hv, isP_len hP, isP_low hP])
    refine W_loopG len (fun a s h => s 27 = .int .i64 a ∧ s 26 = .int .i64 len ∧ s 25 = w ∧ s 1 = .int .i64 num ∧ s 2 = .int .i64 den ∧ s 3 = .vp 3 0 0 ∧ h 3 = some (.var 0 26 (.agg [.int .i64 n, v])) ∧ BufL h 59 77 2 2 (s 7) (strAll q (snds w) len a)) ?_ ?_
    · simp [*, strAll]
      exact bufL_nil ..
    rintro a s h ha ⟨h27, h26, h25, h1, h2, h3, e3, hB⟩
    by_cases ha2 : a < len
    · have hsl := strAll_len q (snds w) len a
      have hll : len * a ≤ 64 * 64 := Nat.mul_le_mul hL (by omega)
      have hsu : strAll q (snds w) len (a + 1) = strAll q (snds w) len a ++ strRow q (snds w) a len := rfl
      have ra := hS2 a (by omega)
      have hB1 := fun h' (e : h' 77 = h 77) => hB.keep (h' := h') e
      repeat' (first | (apply br_intro <;> intro hb <;> (have hb2 := hb) <;> (try simp [-Int.not_le, -Int.not_lt, -Nat.not_le, -Nat.not_lt, -Nat.add_left_cancel_iff] at hb2)) | (refine draw_listA (by rfl) (by kernel_rfl) ?_) | (refine draw_listB (by simp [allocsOf, isAlloc]; rfl) (by kernel_rfl) ?_) | simp (maxSteps := 2000000) (disch := first | omega | assumption | simp [*]) [*, -Int.not_le, -Int.not_lt, -Nat.not_le, -Nat.not_lt, -Nat.add_left_cancel_iff, wrap_i64, wrap_u64, h27, h26, h25, h1, h2, h3, e3, isI_cells hv, isI_one hv, isI_low hv, isI_len hv, isP_len hP, isP_index hP, isP_low hP, isP_noKey hP])
      refine W_loopG len (fun b s h => s 34 = .int .i64 b ∧ s 33 = .int .i64 len ∧ s 32 = w ∧ s 27 = .int .i64 a ∧ s 26 = .int .i64 len ∧ s 25 = w ∧ s 1 = .int .i64 num ∧ s 2 = .int .i64 den ∧ s 3 = .vp 3 0 0 ∧ h 3 = some (.var 0 26 (.agg [.int .i64 n, v])) ∧
        BufL h 59 77 2 2 (s 7) (strAll q (snds w) len a ++ strRow q (snds w) a b) ∧ ∃ g, s 9 = .vp 9 g 0 ∧ h 9 = some (.var g 102 (.agg [.int .i64 (nth (fsts w) a), .int .i64 (nth (snds w) a)]))) ?_ ?_
      · simp [*, strRow]
      rintro b s3 h3' hb ⟨k34, k33, k32, k27, k26, k25, k1, k2, k3, f3, hB2, g, k9, f9⟩
      clear hB1 hB e3
      by_cases hb2 : b < len
      · have rb := hS2 b (by omega)
        have hsr := strRow_len q (snds w) a b
        have hpu : strRow q (snds w) a (b + 1) = strRow q (snds w) a b ++ if q a b then [pr (nth (snds w) a) (nth (snds w) b)] else [] := rfl
        obtain ⟨ca, hca⟩ : ∃ ca, (elemsTo (nth (fsts w) a) 8).length = ca := ⟨_, rfl⟩
        obtain ⟨cb, hcb⟩ : ∃ cb, (elemsTo (nth (fsts w) b) 8).length = cb := ⟨_, rfl⟩
        have hca8 : ca ≤ 8 := by rw [← hca]; exact elemsTo_len _ 8
        have hcb8 : cb ≤ 8 := by rw [← hcb]; exact elemsTo_len _ 8
        have hqv2 : q a b = (decide (nth (snds w) a ≠ nth (snds w) b) && PSub (nth (snds w) a) (nth (snds w) b) && decide ((cb : Int) < (ca : Int)) && decide (num * (ca : Int) ≤ (cb : Int) * den)) := by rw [hqv a b, ← hca, ← hcb]; rfl
        have hm1 : 0 ≤ num * (ca : Int) := Int.mul_nonneg hn1 (by omega)
        have hm2 : num * (ca : Int) ≤ 100 * 8 := Int.mul_le_mul (by omega) (by omega) (by omega) (by omega)
        have hm3 : 0 ≤ (cb : Int) * den := Int.mul_nonneg (by omega) (by omega)
        have hm4 : (cb : Int) * den ≤ 8 * 100 := Int.mul_le_mul (by omega) (by omega) (by omega) (by omega)
        have hdf : (decide (diff (nth (snds w) a).toNat (nth (snds w) b).toNat = 0)) = PSub (nth (snds w) a) (nth (snds w) b) := by rw [Bool.eq_iff_iff, decide_eq_true_eq]; exact psub_diff
        have hki := fun h' (e : h' 77 = h3' 77) => hB2.keep (h' := h') e
        clear hS2 hqv hg1 hg2 hsu
        cases hqt : q a b with
        | true =>
          rw [hqt] at hpu hqv2
          simp only [if_true] at hpu
          have hq3 := hqv2.symm
          simp only [Bool.and_eq_true, decide_eq_true_eq, ne_eq] at hq3
          obtain ⟨⟨⟨c1, c2⟩, c3⟩, c4⟩ := hq3
          have hpu2 : strAll q (snds w) len a ++ strRow q (snds w) a (b + 1) = (strAll q (snds w) len a ++ strRow q (snds w) a b) ++ [.agg [.int .i64 (nth (snds w) a), .int .i64 (nth (snds w) b)]] := by rw [hpu, List.append_assoc]; rfl
          have hlen2 : (strAll q (snds w) len a ++ strRow q (snds w) a b).length < 1073741824 := by rw [List.length_append]; omega
          rw [c2] at hdf
          have hdf2 := of_decide_eq_true hdf
          clear hpu hqt hqv2 hsl hll hsr hdf hB2
          repeat' (first | (apply br_intro <;> intro hb <;> (have hb2 := hb) <;> (try simp [-Int.not_le, -Int.not_lt, -Nat.not_le, -Nat.not_lt, -Nat.add_left_cancel_iff] at hb2)) | (refine draw_listA (by rfl) (by kernel_rfl) ?_) | (refine draw_listB (by simp [allocsOf, isAlloc]; rfl) (by kernel_rfl) ?_) | simp (maxSteps := 2000000) (disch := first | omega | assumption | simp [*]) [*, -Int.not_le, -Int.not_lt, -Nat.not_le, -Nat.not_lt, -Nat.add_left_cancel_iff, wrap_i64, wrap_u64, k34, k33, k32, k27, k26, k25, k1, k2, k3, f3, k9, f9, isP_len hP, isP_index hP, isP_low hP, isP_noKey hP])
          refine wa_pushL (hki _ (by simp [hset])) (by simp) (by simp) (by simp) ⟨rfl, rfl⟩ (fun _ => rfl) hlen2 ?_
          intro v2 h4 hB3 hk2
          rw [← hpu2] at hB3
          have f32 := hk2 3 (by omega)
          have f92 := hk2 9 (by omega)
          simp [hset, f3, f9] at f32 f92
          clear hpu2 hk2 hlen2 hki
          repeat' (first | (apply br_intro <;> intro hb <;> (have hb2 := hb) <;> (try simp [-Int.not_le, -Int.not_lt, -Nat.not_le, -Nat.not_lt, -Nat.add_left_cancel_iff] at hb2)) | (refine draw_listA (by rfl) (by kernel_rfl) ?_) | (refine draw_listB (by simp [allocsOf, isAlloc]; rfl) (by kernel_rfl) ?_) | simp (maxSteps := 2000000) (disch := first | omega | assumption | simp [*]) [*, -Int.not_le, -Int.not_lt, -Nat.not_le, -Nat.not_lt, -Nat.add_left_cancel_iff, wrap_i64, wrap_u64, k34, k33, k32, k27, k26, k25, k1, k2, k3, k9, f32, f92])
          exact hB3
        | false =>
          rw [hqt] at hpu hqv2
          simp only [Bool.false_eq_true, if_false, List.append_nil] at hpu
          rw [← hpu] at hki
          by_cases c1 : nth (snds w) a = nth (snds w) b
          · clear hpu hqt hqv2 hsl hll hsr hdf hB2
            repeat' (first | (apply br_intro <;> intro hb <;> (have hb2 := hb) <;> (try simp [-Int.not_le, -Int.not_lt, -Nat.not_le, -Nat.not_lt, -Nat.add_left_cancel_iff] at hb2)) | (refine draw_listA (by rfl) (by kernel_rfl) ?_) | (refine draw_listB (by simp [allocsOf, isAlloc]; rfl) (by kernel_rfl) ?_) | simp (maxSteps := 2000000) (disch := first | omega | assumption | simp [*]) [*, -Int.not_le, -Int.not_lt, -Nat.not_le, -Nat.not_lt, -Nat.add_left_cancel_iff, wrap_i64, wrap_u64, k34, k33, k32, k27, k26, k25, k1, k2, k3, f3, k9, f9, isP_len hP, isP_index hP, isP_low hP, isP_noKey hP])
            all_goals exact hki _ (by simp [hset])
          · cases c2 : PSub (nth (snds w) a) (nth (snds w) b) with
            | false =>
              rw [c2] at hdf
              have hdf2 := of_decide_eq_false hdf
              clear hpu hqt hqv2 hsl hll hsr hdf hB2
              repeat' (first | (apply br_intro <;> intro hb <;> (have hb2 := hb) <;> (try simp [-Int.not_le, -Int.not_lt, -Nat.not_le, -Nat.not_lt, -Nat.add_left_cancel_iff] at hb2)) | (refine draw_listA (by rfl) (by kernel_rfl) ?_) | (refine draw_listB (by simp [allocsOf, isAlloc]; rfl) (by kernel_rfl) ?_) | simp (maxSteps := 2000000) (disch := first | omega | assumption | simp [*]) [*, -Int.not_le, -Int.not_lt, -Nat.not_le, -Nat.not_lt, -Nat.add_left_cancel_iff, wrap_i64, wrap_u64, k34, k33, k32, k27, k26, k25, k1, k2, k3, f3, k9, f9, isP_len hP, isP_index hP, isP_low hP, isP_noKey hP])
              all_goals exact hki _ (by simp [hset])
            | true =>
              rw [c2] at hdf
              have hdf2 := of_decide_eq_true hdf
              by_cases c3 : cb < ca
              · have c4 : ¬ num * (ca : Int) ≤ (cb : Int) * den := fun h9 => by
                  have h8 : (cb : Int) < (ca : Int) := by omega
                  simp [c1, c2, h8, h9] at hqv2
                clear hpu hqt hqv2 hsl hll hsr hdf hB2
                repeat' (first | (apply br_intro <;> intro hb <;> (have hb2 := hb) <;> (try simp [-Int.not_le, -Int.not_lt, -Nat.not_le, -Nat.not_lt, -Nat.add_left_cancel_iff] at hb2)) | (refine draw_listA (by rfl) (by kernel_rfl) ?_) | (refine draw_listB (by simp [allocsOf, isAlloc]; rfl) (by kernel_rfl) ?_) | simp (maxSteps := 2000000) (disch := first | omega | assumption | simp [*]) [*, -Int.not_le, -Int.not_lt, -Nat.not_le, -Nat.not_lt, -Nat.add_left_cancel_iff, wrap_i64, wrap_u64, k34, k33, k32, k27, k26, k25, k1, k2, k3, f3, k9, f9, isP_len hP, isP_index hP, isP_low hP, isP_noKey hP])
                all_goals exact hki _ (by simp [hset])
              · clear hpu hqt hqv2 hsl hll hsr hdf hB2
                repeat' (first | (apply br_intro <;> intro hb <;> (have hb2 := hb) <;> (try simp [-Int.not_le, -Int.not_lt, -Nat.not_le, -Nat.not_lt, -Nat.add_left_cancel_iff] at hb2)) | (refine draw_listA (by rfl) (by kernel_rfl) ?_) | (refine draw_listB (by simp [allocsOf, isAlloc]; rfl) (by kernel_rfl) ?_) | simp (maxSteps := 2000000) (disch := first | omega | assumption | simp [*]) [*, -Int.not_le, -Int.not_lt, -Nat.not_le, -Nat.not_lt, -Nat.add_left_cancel_iff, wrap_i64, wrap_u64, k34, k33, k32, k27, k26, k25, k1, k2, k3, f3, k9, f9, isP_len hP, isP_index hP, isP_low hP, isP_noKey hP])
                all_goals exact hki _ (by simp [hset])
      · obtain rfl : b = len := by omega
        rw [← hsu] at hB2
        clear hsu hqv hS2
        repeat' (first | (apply br_intro <;> intro hb <;> (have hb2 := hb) <;> (try simp [-Int.not_le, -Int.not_lt, -Nat.not_le, -Nat.not_lt, -Nat.add_left_cancel_iff] at hb2)) | (refine draw_listA (by rfl) (by kernel_rfl) ?_) | (refine draw_listB (by simp [allocsOf, isAlloc]; rfl) (by kernel_rfl) ?_) | simp (maxSteps := 2000000) (disch := first | omega | assumption | simp [*]) [*, -Int.not_le, -Int.not_lt, -Nat.not_le, -Nat.not_lt, -Nat.add_left_cancel_iff, wrap_i64, wrap_u64, k34, k33, k32, k27, k26, k25, k1, k2, k3, f3, k9, f9, isP_len hP, isP_low hP])
    · obtain rfl : a = len := by omega
      clear hqv hS2
      repeat' (first | (apply br_intro <;> intro hb <;> (have hb2 := hb) <;> (try simp [-Int.not_le, -Int.not_lt, -Nat.not_le, -Nat.not_lt, -Nat.add_left_cancel_iff] at hb2)) | (refine draw_listA (by rfl) (by kernel_rfl) ?_) | (refine draw_listB (by simp [allocsOf, isAlloc]; rfl) (by kernel_rfl) ?_) | simp (maxSteps := 2000000) (disch := first | omega | assumption | simp [*]) [*, -Int.not_le, -Int.not_lt, -Nat.not_le, -Nat.not_lt, -Nat.add_left_cancel_iff, wrap_i64, wrap_u64, h27, h26, h25, h1, h2, h3, e3, isP_len hP, isP_low hP])
      exact hB.expo
  · have hV : strL n (xsOf v) num den = [] := by unfold strL; rw [if_neg hc]
    have hK : strK num den = 0 := by unfold strK; rw [if_neg hc]
    rw [hV, hK]
    by_cases hd : 1 ≤ den ∧ den ≤ 100
    · have hg1 : (decide (1 ≤ den) && decide (den ≤ 100)) = true := by simp; omega
      have hg2 : (decide (0 ≤ num) && decide (num ≤ den)) = false := by
        rw [Bool.eq_false_iff]; intro h; simp only [Bool.and_eq_true, decide_eq_true_eq] at h; exact hc ⟨hd, h⟩
      clear hc hV hd hK
      repeat' (first | (apply br_intro <;> intro hb <;> (have hb2 := hb) <;> (try simp [-Int.not_le, -Int.not_lt, -Nat.not_le, -Nat.not_lt, -Nat.add_left_cancel_iff] at hb2)) | (refine draw_listA (by rfl) (by kernel_rfl) ?_) | (refine draw_listB (by simp [allocsOf, isAlloc]; rfl) (by kernel_rfl) ?_) | simp (maxSteps := 2000000) (disch := first | omega | assumption | simp [*]) [*, -Int.not_le, -Int.not_lt, -Nat.not_le, -Nat.not_lt, -Nat.add_left_cancel_iff, wrap_i64, wrap_u64, Tryz.f96, isI_cells hv, isI_one hv, isI_low hv, isI_len hv])
      simp [bufLR]
    · have hg1 : (decide (1 ≤ den) && decide (den ≤ 100)) = false := by
        rw [Bool.eq_false_iff]; intro h; simp only [Bool.and_eq_true, decide_eq_true_eq] at h; exact hd h
      clear hc hV hd hK
      repeat' (first | (apply br_intro <;> intro hb <;> (have hb2 := hb) <;> (try simp [-Int.not_le, -Int.not_lt, -Nat.not_le, -Nat.not_lt, -Nat.add_left_cancel_iff] at hb2)) | (refine draw_listA (by rfl) (by kernel_rfl) ?_) | (refine draw_listB (by simp [allocsOf, isAlloc]; rfl) (by kernel_rfl) ?_) | simp (maxSteps := 2000000) (disch := first | omega | assumption | simp [*]) [*, -Int.not_le, -Int.not_lt, -Nat.not_le, -Nat.not_lt, -Nat.add_left_cancel_iff, wrap_i64, wrap_u64, Tryz.f96, isI_cells hv, isI_one hv, isI_low hv, isI_len hv])
      simp [bufLR]
theorem iStrongRules_s {n num den : Int} {v : AV} (hv : IsI v) {K : AV → Prop} {tg : Tg K} : CW env 96 [.agg [.int .i64 n, v], .int .i64 num, .int .i64 den] K tg ↔ K (bufLR 59 77 (strK num den) 2 (strL n (xsOf v) num den)) := callsTo_iff (iStrongRules_c hv)
attribute [simp] iStrongRules_s
end Go.Proofs.YtkkkgaapkibhkaaGreatDoor
