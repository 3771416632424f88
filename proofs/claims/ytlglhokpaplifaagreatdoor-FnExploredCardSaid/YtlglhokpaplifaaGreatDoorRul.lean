/- Lists of rules: the laws' functions. Conditions: none. -/
import Derived.Test.YtlglhokpaplifaaGreatDoorBaseA
import Derived.Test.YtlglhokpaplifaaGreatDoorBitA
namespace Go.Proofs.YtlglhokpaplifaaGreatDoor
open Ev
set_option linter.unusedVariables false
set_option linter.unusedSimpArgs false
set_option maxHeartbeats 4000000

/-- some record -/
def anyP (p : Int → Int → Bool) (xs ys : List Int) : Bool := (List.range xs.length).any fun k => p (nth xs k) (nth ys k)
/-- the first place, or -1 -/
def idxP (p : Int → Int → Bool) (xs ys : List Int) : Int := match (List.range xs.length).find? fun k => p (nth xs k) (nth ys k) with | some k => (k : Int) | none => -1
theorem idxP_none {p : Int → Int → Bool} {xs ys : List Int} (h : ∀ j, j < xs.length → p (nth xs j) (nth ys j) = false) : idxP p xs ys = -1 := by
  unfold idxP
  rw [List.find?_eq_none.2]
  intro k hk
  rw [h k (List.mem_range.1 hk)]; simp
theorem idxP_some {p : Int → Int → Bool} {xs ys : List Int} {i : Nat} (hi : i < xs.length) (hp : p (nth xs i) (nth ys i) = true) (h : ∀ j, j < i → p (nth xs j) (nth ys j) = false) : idxP p xs ys = i := by
  unfold idxP
  rw [List.find?_range_eq_some.2]
  exact ⟨hp, List.mem_range.2 hi, fun j hj => by simp [h j hj]⟩
theorem idxP_any {p : Int → Int → Bool} {xs ys : List Int} : (0 ≤ idxP p xs ys) ↔ anyP p xs ys = true := by
  unfold idxP anyP
  cases h : (List.range xs.length).find? fun k => p (nth xs k) (nth ys k) with
  | none =>
    rw [List.find?_eq_none] at h
    simp only [List.any_eq_true]
    exact ⟨fun h9 => absurd h9 (by decide), fun ⟨k, hk, hp⟩ => absurd hp (h k hk)⟩
  | some k =>
    have h1 := List.find?_some h
    have h2 := List.mem_of_find?_eq_some h
    simp only [List.any_eq_true]
    exact ⟨fun _ => ⟨k, h2, h1⟩, fun _ => Int.natCast_nonneg k⟩
theorem idxP_iff {p : Int → Int → Bool} {xs ys : List Int} {i : Nat} (hi : i < xs.length) (h : p (nth xs i) (nth ys i) = true → ∀ j, j < i → p (nth xs j) (nth ys j) = false) : idxP p xs ys = i ↔ p (nth xs i) (nth ys i) = true := by
  constructor
  · intro e
    unfold idxP at e
    cases hf : (List.range xs.length).find? fun k => p (nth xs k) (nth ys k) with
    | none => rw [hf] at e; simp only at e; omega
    | some k =>
      rw [hf] at e
      simp only at e
      have h1 := List.find?_some hf
      have : k = i := by omega
      rw [this] at h1; exact h1
  · intro hp; exact idxP_some hi hp (h hp)
theorem idxP_range {p : Int → Int → Bool} {xs ys : List Int} (hl : xs.length ≤ 64) : -1 ≤ idxP p xs ys ∧ idxP p xs ys < 64 := by
  unfold idxP
  cases hf : (List.range xs.length).find? fun k => p (nth xs k) (nth ys k) with
  | none => simp
  | some k =>
    have h2 := List.mem_range.1 (List.mem_of_find?_eq_some hf)
    simp only
    omega
theorem eqRule_c {a b c d : Int} : EvC env 104 [.agg [.int .i64 a, .int .i64 b], .agg [.int .i64 c, .int .i64 d]] (.bool (decide (a = c ∧ b = d))) := by
  refine evC_of (F := Tryz.f104) rfl rfl (Nat.le_of_ble_eq_true rfl) ?_
  repeat' (first | (apply brI <;> intro hb hb2 <;> (try simp [-Int.not_le, -Int.not_lt, -Nat.not_le, -Nat.not_lt, -Nat.add_left_cancel_iff] at hb2)) | (refine draw_listA (by rfl) (by kernel_rfl) ?_) | (refine draw_listB (by simp [allocsOf, isAlloc]; rfl) (by kernel_rfl) ?_) | simp (maxSteps := 2000000) (disch := first | omega | assumption | simp [*]) [*, -Int.not_le, -Int.not_lt, -Nat.not_le, -Nat.not_lt, -Nat.add_left_cancel_iff, wrap_i64, wrap_u64, Tryz.f104])
theorem eqRule_s {a b c d : Int} {K : AV → Prop} {tg : Tg K} : CW env 104 [.agg [.int .i64 a, .int .i64 b], .agg [.int .i64 c, .int .i64 d]] K tg ↔ K (.bool (decide (a = c ∧ b = d))) := callsTo_iff (eqRule_c )
attribute [simp] eqRule_s
theorem eqRuleS_c {u v : AV} (hu : IsP u) (hv : IsP v) : EvC env 71 [u, v] (.bool (decide (fsts u = fsts v ∧ snds u = snds v))) := by
  refine evC_of (F := Tryz.f71) rfl rfl (Nat.le_of_ble_eq_true rfl) ?_
  have := hu.len
  have := hv.len
  have hul := hu.lens
  have hvl := hv.lens
  repeat' (first | (apply brI <;> intro hb hb2 <;> (try simp [-Int.not_le, -Int.not_lt, -Nat.not_le, -Nat.not_lt, -Nat.add_left_cancel_iff] at hb2)) | (refine draw_listA (by rfl) (by kernel_rfl) ?_) | (refine draw_listB (by simp [allocsOf, isAlloc]; rfl) (by kernel_rfl) ?_) | simp (maxSteps := 2000000) (disch := first | omega | assumption | simp [*]) [*, -Int.not_le, -Int.not_lt, -Nat.not_le, -Nat.not_lt, -Nat.add_left_cancel_iff, wrap_i64, wrap_u64, Tryz.f71, isP_len hu, isP_low hu, isP_len hv, isP_low hv])
  · intro e; exact absurd (by rw [e]) hb2
  refine W_loopP (fsts u).length (fun i s => s 5 = .int .i64 i ∧ s 0 = u ∧ s 1 = v ∧ ∀ j, j < i → nth (fsts u) j = nth (fsts v) j ∧ nth (snds u) j = nth (snds v) j) rfl ?_ ?_
  · simp
  rintro i s hi ⟨h5, h0, h1, hj⟩
  by_cases hi2 : i < (fsts u).length
  · have hi3 : i < (fsts v).length := by omega
    repeat' (first | (apply brI <;> intro hb hb2 <;> (try simp [-Int.not_le, -Int.not_lt, -Nat.not_le, -Nat.not_lt, -Nat.add_left_cancel_iff] at hb2)) | (refine draw_listA (by rfl) (by kernel_rfl) ?_) | (refine draw_listB (by simp [allocsOf, isAlloc]; rfl) (by kernel_rfl) ?_) | simp (maxSteps := 2000000) (disch := first | omega | assumption | simp [*]) [*, -Int.not_le, -Int.not_lt, -Nat.not_le, -Nat.not_lt, -Nat.add_left_cancel_iff, wrap_i64, wrap_u64, h5, h0, h1, isP_len hu, isP_low hu, isP_index hu, isP_len hv, isP_low hv, isP_index hv])
    · intro e e2; rw [e, e2] at hb2; simp at hb2
    · intro j hj2
      by_cases e : j = i
      · subst e; exact hb2
      · exact hj j (by omega)
  · obtain rfl : i = (fsts u).length := by omega
    repeat' (first | (apply brI <;> intro hb hb2 <;> (try simp [-Int.not_le, -Int.not_lt, -Nat.not_le, -Nat.not_lt, -Nat.add_left_cancel_iff] at hb2)) | (refine draw_listA (by rfl) (by kernel_rfl) ?_) | (refine draw_listB (by simp [allocsOf, isAlloc]; rfl) (by kernel_rfl) ?_) | simp (maxSteps := 2000000) (disch := first | omega | assumption | simp [*]) [*, -Int.not_le, -Int.not_lt, -Nat.not_le, -Nat.not_lt, -Nat.add_left_cancel_iff, wrap_i64, wrap_u64, h5, h0, h1, isP_len hu])
    constructor
    · apply List.ext_getElem?
      intro j
      by_cases hj2 : j < (fsts u).length
      · rw [nth_get? hj2, nth_get? (by omega), (hj j hj2).1]
      · rw [List.getElem?_eq_none (by omega), List.getElem?_eq_none (by omega)]
    · apply List.ext_getElem?
      intro j
      by_cases hj2 : j < (fsts u).length
      · rw [nth_get? (by omega), nth_get? (by omega), (hj j hj2).2]
      · rw [List.getElem?_eq_none (by omega), List.getElem?_eq_none (by omega)]
theorem eqRuleS_s {u v : AV} (hu : IsP u) (hv : IsP v) {K : AV → Prop} {tg : Tg K} : CW env 71 [u, v] K tg ↔ K (.bool (decide (fsts u = fsts v ∧ snds u = snds v))) := callsTo_iff (eqRuleS_c hu hv)
attribute [simp] eqRuleS_s
/-- marks: two numbers for each record -/
def mk2a (k : Int) (n : Nat) : List Int := tab (fun j => k + 2 * j) n
def mk2b (k : Int) (n : Nat) : List Int := tab (fun j => k + 2 * j + 1) n
theorem mk2a_len (k : Int) (n : Nat) : (mk2a k n).length = n := by simp [mk2a]
theorem mk2b_len (k : Int) (n : Nat) : (mk2b k n).length = n := by simp [mk2b]
theorem mk2a_nth (k : Int) {n j : Nat} (h : j < n) : nth (mk2a k n) j = k + 2 * j := by unfold mk2a; rw [tab_nth _ h]
theorem mk2b_nth (k : Int) {n j : Nat} (h : j < n) : nth (mk2b k n) j = k + 2 * j + 1 := by unfold mk2b; rw [tab_nth _ h]
theorem markRuleS_o {v : AV} {key T k0 : Nat} {xs ys : List Int} {k : Int} {h : Heap} {off : Nat} {K : AV → Heap → Prop} (hR : Row h key T 2 k0 v (prs xs ys)) (hyl : ys.length = xs.length) (h0 : 0 ≤ k) (h1 : k + 2 * xs.length ≤ 4611686018427387904) (hK : ∀ h', Row h' key T 2 k0 v (prs (mk2a k xs.length) (mk2b k xs.length)) → (∀ x, x ≠ key → h' x = h x) → K (.int .i64 (k + 2 * xs.length)) h') : OpenTo env 73 [v, .int .i64 k] h off K := by
  refine openTo_of (F := Tryz.f73) rfl rfl (Nat.le_of_ble_eq_true rfl) ?_
  repeat' (first | (apply brI <;> intro hb hb2 <;> (try simp [-Int.not_le, -Int.not_lt, -Nat.not_le, -Nat.not_lt, -Nat.add_left_cancel_iff] at hb2)) | (refine draw_listA (by rfl) (by kernel_rfl) ?_) | (refine draw_listB (by simp [allocsOf, isAlloc]; rfl) (by kernel_rfl) ?_) | simp (maxSteps := 2000000) (disch := first | omega | assumption | simp [*]) [*, -Int.not_le, -Int.not_lt, -Nat.not_le, -Nat.not_lt, -Nat.add_left_cancel_iff, wrap_i64, wrap_u64, Tryz.f73])
  refine W_loopG xs.length (fun i s h' => s 5 = .int .i64 i ∧ s 0 = v ∧ s 1 = .int .i64 (k + 2 * i) ∧ (∀ x, x ≠ key → h' x = h x) ∧ ∃ us vs, Row h' key T 2 k0 v (prs us vs) ∧ us.length = xs.length ∧ vs.length = us.length ∧ ∀ j, j < i → nth us j = k + 2 * j ∧ nth vs j = k + 2 * j + 1) ?_ ?_
  · simp; exact ⟨xs, ys, hR, rfl, hyl⟩
  rintro i s h2 hi ⟨h5, h0, h1, hh, us, vs, hR2, hy, hz, hj⟩
  have hlen := fun E t ht => hR2.len (E := E) (t := t) ht
  by_cases hi2 : i < xs.length
  · rcases hR2 with ⟨e, _⟩ | ⟨hx, g, rfl, hg⟩
    · have := congrArg List.length e; simp only [prs_length, List.length_nil] at this; omega
    have hi3 : i < us.length := by omega
    repeat' (first | (apply brI <;> intro hb hb2 <;> (try simp [-Int.not_le, -Int.not_lt, -Nat.not_le, -Nat.not_lt, -Nat.add_left_cancel_iff] at hb2)) | (refine draw_listA (by rfl) (by kernel_rfl) ?_) | (refine draw_listB (by simp [allocsOf, isAlloc]; rfl) (by kernel_rfl) ?_) | simp (maxSteps := 2000000) (disch := first | omega | assumption | simp [*]) [*, -Int.not_le, -Int.not_lt, -Nat.not_le, -Nat.not_lt, -Nat.add_left_cancel_iff, wrap_i64, wrap_u64, h5, h0, h1, prs_set])
    refine ⟨by omega, fun x a b => absurd b a, us.set i (nth (us.set i (k + 2 * i)) i), vs.set i (k + 2 * i + 1), .inr ⟨fun e => ?_, g, by simp [hy], by simp [hset]⟩, by simp [hy], by simp [hz], fun j hj2 => ?_⟩
    · have := congrArg List.length e
      simp at this
      rw [this] at hi3; simp at hi3
    · rw [nth_set _ _ _ _ (by omega), nth_set _ _ _ _ (by omega), nth_set _ _ _ _ (by omega)]
      by_cases e : j = i
      · subst e; simp
      · simp only [e, if_false]; exact hj j (by omega)
  · obtain rfl : i = xs.length := by omega
    repeat' (first | (apply brI <;> intro hb hb2 <;> (try simp [-Int.not_le, -Int.not_lt, -Nat.not_le, -Nat.not_lt, -Nat.add_left_cancel_iff] at hb2)) | (refine draw_listA (by rfl) (by kernel_rfl) ?_) | (refine draw_listB (by simp [allocsOf, isAlloc]; rfl) (by kernel_rfl) ?_) | simp (maxSteps := 2000000) (disch := first | omega | assumption | simp [*]) [*, -Int.not_le, -Int.not_lt, -Nat.not_le, -Nat.not_lt, -Nat.add_left_cancel_iff, wrap_i64, wrap_u64, h5, h0, h1])
    have e1 : us = mk2a k xs.length := by unfold mk2a; exact tab_eq hy fun j hj2 => (hj j hj2).1
    have e2 : vs = mk2b k xs.length := by unfold mk2b; exact tab_eq (by omega) fun j hj2 => (hj j hj2).2
    rw [e1, e2] at hR2
    exact hK _ hR2 hh
theorem heldRuleS_c {v : AV} {k : Int} (hv : IsP v) (h0 : 0 ≤ k) (h1 : k + 2 * (fsts v).length ≤ 4611686018427387904) : EvC env 75 [v, .int .i64 k] (.int .i64 (if fsts v = mk2a k (fsts v).length ∧ snds v = mk2b k (fsts v).length then k + 2 * (fsts v).length else -1)) := by
  refine evC_of (F := Tryz.f75) rfl rfl (Nat.le_of_ble_eq_true rfl) ?_
  have := hv.len
  have hlens := hv.lens
  repeat' (first | (apply brI <;> intro hb hb2 <;> (try simp [-Int.not_le, -Int.not_lt, -Nat.not_le, -Nat.not_lt, -Nat.add_left_cancel_iff] at hb2)) | (refine draw_listA (by rfl) (by kernel_rfl) ?_) | (refine draw_listB (by simp [allocsOf, isAlloc]; rfl) (by kernel_rfl) ?_) | simp (maxSteps := 2000000) (disch := first | omega | assumption | simp [*]) [*, -Int.not_le, -Int.not_lt, -Nat.not_le, -Nat.not_lt, -Nat.add_left_cancel_iff, wrap_i64, wrap_u64, Tryz.f75, isP_len hv, isP_low hv])
  refine W_loopP (fsts v).length (fun i s => s 5 = .int .i64 i ∧ s 0 = v ∧ s 1 = .int .i64 (k + 2 * i) ∧ ∀ j, j < i → nth (fsts v) j = k + 2 * j ∧ nth (snds v) j = k + 2 * j + 1) rfl ?_ ?_
  · simp
  rintro i s hi ⟨h5, h0, h1, hj⟩
  by_cases hi2 : i < (fsts v).length
  · by_cases ea : nth (fsts v) i = k + 2 * i
    · by_cases eb : nth (snds v) i = k + 2 * i + 1
      · have hj2 : ∀ j, j < i + 1 → nth (fsts v) j = k + 2 * j ∧ nth (snds v) j = k + 2 * j + 1 := fun j hj3 => by
          by_cases e : j = i
          · subst e; exact ⟨ea, eb⟩
          · exact hj j (by omega)
        clear hj
        repeat' (first | (apply brI <;> intro hb hb2 <;> (try simp [-Int.not_le, -Int.not_lt, -Nat.not_le, -Nat.not_lt, -Nat.add_left_cancel_iff] at hb2)) | (refine draw_listA (by rfl) (by kernel_rfl) ?_) | (refine draw_listB (by simp [allocsOf, isAlloc]; rfl) (by kernel_rfl) ?_) | simp (maxSteps := 2000000) (disch := first | omega | assumption | simp [*]) [*, -Int.not_le, -Int.not_lt, -Nat.not_le, -Nat.not_lt, -Nat.add_left_cancel_iff, wrap_i64, wrap_u64, h5, h0, h1, isP_len hv, isP_low hv, isP_index hv])
        all_goals first | exact ⟨by omega, hj2⟩ | omega
      · have hno : ¬ (fsts v = mk2a k (fsts v).length ∧ snds v = mk2b k (fsts v).length) := fun h => eb ((congrArg (nth · i) h.2).trans (mk2b_nth _ hi2))
        clear hj
        repeat' (first | (apply brI <;> intro hb hb2 <;> (try simp [-Int.not_le, -Int.not_lt, -Nat.not_le, -Nat.not_lt, -Nat.add_left_cancel_iff] at hb2)) | (refine draw_listA (by rfl) (by kernel_rfl) ?_) | (refine draw_listB (by simp [allocsOf, isAlloc]; rfl) (by kernel_rfl) ?_) | simp (maxSteps := 2000000) (disch := first | omega | assumption | simp [*]) [*, -Int.not_le, -Int.not_lt, -Nat.not_le, -Nat.not_lt, -Nat.add_left_cancel_iff, wrap_i64, wrap_u64, h5, h0, h1, isP_len hv, isP_low hv, isP_index hv])
    · have hno : ¬ (fsts v = mk2a k (fsts v).length ∧ snds v = mk2b k (fsts v).length) := fun h => ea ((congrArg (nth · i) h.1).trans (mk2a_nth _ hi2))
      clear hj
      repeat' (first | (apply brI <;> intro hb hb2 <;> (try simp [-Int.not_le, -Int.not_lt, -Nat.not_le, -Nat.not_lt, -Nat.add_left_cancel_iff] at hb2)) | (refine draw_listA (by rfl) (by kernel_rfl) ?_) | (refine draw_listB (by simp [allocsOf, isAlloc]; rfl) (by kernel_rfl) ?_) | simp (maxSteps := 2000000) (disch := first | omega | assumption | simp [*]) [*, -Int.not_le, -Int.not_lt, -Nat.not_le, -Nat.not_lt, -Nat.add_left_cancel_iff, wrap_i64, wrap_u64, h5, h0, h1, isP_len hv, isP_low hv, isP_index hv])
  · obtain rfl : i = (fsts v).length := by omega
    have hyes : (if fsts v = mk2a k (fsts v).length ∧ snds v = mk2b k (fsts v).length then k + 2 * ((fsts v).length : Int) else -1) = k + 2 * (fsts v).length := if_pos ⟨tab_eq rfl fun j hj2 => (hj j hj2).1, tab_eq hlens fun j hj2 => (hj j hj2).2⟩
    rw [hyes]
    clear hyes hj
    repeat' (first | (apply brI <;> intro hb hb2 <;> (try simp [-Int.not_le, -Int.not_lt, -Nat.not_le, -Nat.not_lt, -Nat.add_left_cancel_iff] at hb2)) | (refine draw_listA (by rfl) (by kernel_rfl) ?_) | (refine draw_listB (by simp [allocsOf, isAlloc]; rfl) (by kernel_rfl) ?_) | simp (maxSteps := 2000000) (disch := first | omega | assumption | simp [*]) [*, -Int.not_le, -Int.not_lt, -Nat.not_le, -Nat.not_lt, -Nat.add_left_cancel_iff, wrap_i64, wrap_u64, h5, h0, h1, isP_len hv])
theorem heldRuleS_s {v : AV} {k : Int} (hv : IsP v) (h0 : 0 ≤ k) (h1 : k + 2 * (fsts v).length ≤ 4611686018427387904) {K : AV → Prop} {tg : Tg K} : CW env 75 [v, .int .i64 k] K tg ↔ K (.int .i64 (if fsts v = mk2a k (fsts v).length ∧ snds v = mk2b k (fsts v).length then k + 2 * (fsts v).length else -1)) := callsTo_iff (heldRuleS_c hv h0 h1)
attribute [simp] heldRuleS_s
end Go.Proofs.YtlglhokpaplifaaGreatDoor
