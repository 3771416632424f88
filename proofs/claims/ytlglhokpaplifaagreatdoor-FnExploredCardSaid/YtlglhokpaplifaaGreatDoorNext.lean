/- The next model: both sides, law. Conditions: none. -/
import Derived.Test.YtlglhokpaplifaaGreatDoorNextP
import Derived.Test.YtlglhokpaplifaaGreatDoorRul
namespace Go.Proofs.YtlglhokpaplifaaGreatDoor
open Ev
set_option linter.unusedVariables false
set_option linter.unusedSimpArgs false
set_option maxHeartbeats 4000000

def RulC (n : Int) (v : AV) : Prop := (0 ≤ n ∧ n ≤ 6) ∧ (fsts v).length ≤ 40 ∧ ∀ i, i < (fsts v).length → PSet n (nth (fsts v) i) = true ∧ PSet n (nth (snds v) i) = true
noncomputable instance (n : Int) (v : AV) : Decidable (RulC n v) := Classical.propDecidable _
theorem sAreRules_c {n : Int} {v : AV} (hv : IsP v) : EvC env 53 [.int .i64 n, v] (.bool (decide (RulC n v))) := by
  refine evC_of (F := Tryz.f53) rfl rfl (Nat.le_of_ble_eq_true rfl) ?_
  have hvl := hv.len
  unfold top63 at hvl
  repeat' (first | (apply brI <;> intro hb hb2 <;> (try simp [-Int.not_le, -Int.not_lt, -Nat.not_le, -Nat.not_lt, -Nat.add_left_cancel_iff] at hb2)) | (refine draw_listA (by rfl) (by kernel_rfl) ?_) | (refine draw_listB (by simp [allocsOf, isAlloc]; rfl) (by kernel_rfl) ?_) | simp (maxSteps := 2000000) (disch := first | omega | assumption | simp [*]) [*, -Int.not_le, -Int.not_lt, -Nat.not_le, -Nat.not_lt, -Nat.add_left_cancel_iff, wrap_i64, wrap_u64, Tryz.f53, isP_len hv, isP_low hv])
  refine W_loopP (fsts v).length (fun i s => s 5 = .int .i64 i ∧ s 0 = .int .i64 n ∧ s 1 = v ∧ ∀ j, j < i → PSet n (nth (fsts v) j) = true ∧ PSet n (nth (snds v) j) = true) rfl ?_ ?_
  · simp
  rintro i s hi ⟨h5, h0, h1, hA⟩
  by_cases hi2 : i < (fsts v).length
  · by_cases hp : PSet n (nth (fsts v) i) = true ∧ PSet n (nth (snds v) i) = true
    · have hA2 : ∀ j, j < i + 1 → PSet n (nth (fsts v) j) = true ∧ PSet n (nth (snds v) j) = true := fun j hj => by
        by_cases e : j = i
        · subst e; exact hp
        · exact hA j (by omega)
      obtain ⟨p1, p2⟩ := hp
      clear hA
      repeat' (first | (apply brI <;> intro hb hb2 <;> (try simp [-Int.not_le, -Int.not_lt, -Nat.not_le, -Nat.not_lt, -Nat.add_left_cancel_iff] at hb2)) | (refine draw_listA (by rfl) (by kernel_rfl) ?_) | (refine draw_listB (by simp [allocsOf, isAlloc]; rfl) (by kernel_rfl) ?_) | simp (maxSteps := 2000000) (disch := first | omega | assumption | simp [*]) [*, -Int.not_le, -Int.not_lt, -Nat.not_le, -Nat.not_lt, -Nat.add_left_cancel_iff, wrap_i64, wrap_u64, h5, h0, h1, isP_len hv, isP_low hv, isP_index hv])
      exact hA2
    · have hno : ¬ RulC n v := fun h => hp (h.2.2 i hi2)
      have hp2 : (PSet n (nth (fsts v) i) && PSet n (nth (snds v) i)) = false := by
        rw [Bool.eq_false_iff]; intro h; rw [Bool.and_eq_true] at h; exact hp h
      clear hA hp
      repeat' (first | (apply brI <;> intro hb hb2 <;> (try simp [-Int.not_le, -Int.not_lt, -Nat.not_le, -Nat.not_lt, -Nat.add_left_cancel_iff] at hb2)) | (refine draw_listA (by rfl) (by kernel_rfl) ?_) | (refine draw_listB (by simp [allocsOf, isAlloc]; rfl) (by kernel_rfl) ?_) | simp (maxSteps := 2000000) (disch := first | omega | assumption | simp [*]) [*, -Int.not_le, -Int.not_lt, -Nat.not_le, -Nat.not_lt, -Nat.add_left_cancel_iff, wrap_i64, wrap_u64, h5, h0, h1, isP_len hv, isP_low hv, isP_index hv])
  · obtain rfl : i = (fsts v).length := by omega
    by_cases hn : 0 ≤ n ∧ n ≤ 6
    · have hg : (decide (0 ≤ n) && decide (n ≤ 6)) = true := by simp; omega
      by_cases hl : (fsts v).length ≤ 40
      · have hyes : decide (RulC n v) = true := decide_eq_true ⟨hn, hl, hA⟩
        have hl2 : ((fsts v).length : Int) ≤ 40 := by omega
        rw [hyes]
        clear hA hyes hn
        repeat' (first | (apply brI <;> intro hb hb2 <;> (try simp [-Int.not_le, -Int.not_lt, -Nat.not_le, -Nat.not_lt, -Nat.add_left_cancel_iff] at hb2)) | (refine draw_listA (by rfl) (by kernel_rfl) ?_) | (refine draw_listB (by simp [allocsOf, isAlloc]; rfl) (by kernel_rfl) ?_) | simp (maxSteps := 2000000) (disch := first | omega | assumption | simp [*]) [*, -Int.not_le, -Int.not_lt, -Nat.not_le, -Nat.not_lt, -Nat.add_left_cancel_iff, wrap_i64, wrap_u64, h5, h0, h1, isP_len hv, isP_low hv])
      · have hno : decide (RulC n v) = false := decide_eq_false fun h => hl h.2.1
        have hl2 : ¬ ((fsts v).length : Int) ≤ 40 := by omega
        rw [hno]
        clear hA hno hn
        repeat' (first | (apply brI <;> intro hb hb2 <;> (try simp [-Int.not_le, -Int.not_lt, -Nat.not_le, -Nat.not_lt, -Nat.add_left_cancel_iff] at hb2)) | (refine draw_listA (by rfl) (by kernel_rfl) ?_) | (refine draw_listB (by simp [allocsOf, isAlloc]; rfl) (by kernel_rfl) ?_) | simp (maxSteps := 2000000) (disch := first | omega | assumption | simp [*]) [*, -Int.not_le, -Int.not_lt, -Nat.not_le, -Nat.not_lt, -Nat.add_left_cancel_iff, wrap_i64, wrap_u64, h5, h0, h1, isP_len hv, isP_low hv])
    · have hno : decide (RulC n v) = false := decide_eq_false fun h => hn h.1
      have hg : (decide (0 ≤ n) && decide (n ≤ 6)) = false := by
        rw [Bool.eq_false_iff]; intro h; simp only [Bool.and_eq_true, decide_eq_true_eq] at h; exact hn h
      rw [hno]
      clear hA hno hn
      repeat' (first | (apply brI <;> intro hb hb2 <;> (try simp [-Int.not_le, -Int.not_lt, -Nat.not_le, -Nat.not_lt, -Nat.add_left_cancel_iff] at hb2)) | (refine draw_listA (by rfl) (by kernel_rfl) ?_) | (refine draw_listB (by simp [allocsOf, isAlloc]; rfl) (by kernel_rfl) ?_) | simp (maxSteps := 2000000) (disch := first | omega | assumption | simp [*]) [*, -Int.not_le, -Int.not_lt, -Nat.not_le, -Nat.not_lt, -Nat.add_left_cancel_iff, wrap_i64, wrap_u64, h5, h0, h1, isP_len hv, isP_low hv])
theorem sAreRules_s {n : Int} {v : AV} (hv : IsP v) {K : AV → Prop} {tg : Tg K} : CW env 53 [.int .i64 n, v] K tg ↔ K (.bool (decide (RulC n v))) := callsTo_iff (sAreRules_c hv)
attribute [simp] sAreRules_s
theorem indexFuncR_c {v : AV} {g : Nat} {caps : List AV} {p : Int → Int → Bool} (hv : IsP v) (hx : env.ext g = none) (ho : env.open_ g = false) (hdp : env.deep g = false) (hl : ∀ h, lows h caps = caps) (hp : ∀ x y, EvC env g (.agg [.int .i64 x, .int .i64 y] :: caps) (.bool (p x y))) : EvC env 117 [v, .fn g caps] (.int .i64 (idxP p (fsts v) (snds v))) := by
  refine evC_of (F := Tryz.f117) rfl rfl (Nat.le_of_ble_eq_true rfl) ?_
  have := hv.len
  have hll := hv.lens
  unfold top63 at this
  have hp2 : ∀ (x y : Int) (K : AV → Prop) (tg : Tg K), CW env g (.agg [.int .i64 x, .int .i64 y] :: caps) K tg ↔ K (.bool (p x y)) := fun x y K tg => callsTo_iff (hp x y)
  repeat' (first | (apply brI <;> intro hb hb2 <;> (try simp [-Int.not_le, -Int.not_lt, -Nat.not_le, -Nat.not_lt, -Nat.add_left_cancel_iff] at hb2)) | (refine draw_listA (by rfl) (by kernel_rfl) ?_) | (refine draw_listB (by simp [allocsOf, isAlloc]; rfl) (by kernel_rfl) ?_) | simp (maxSteps := 2000000) (disch := first | omega | assumption | simp [*]) [*, -Int.not_le, -Int.not_lt, -Nat.not_le, -Nat.not_lt, -Nat.add_left_cancel_iff, wrap_i64, wrap_u64, Tryz.f117, isP_len hv])
  refine W_loopG (fsts v).length (fun i s h => h = hnil ∧ s 8 = .int .i64 i ∧ s 7 = .int .i64 (fsts v).length ∧ s 0 = v ∧ s 1 = .fn g caps ∧ ∀ j, j < i → p (nth (fsts v) j) (nth (snds v) j) = false) ?_ ?_
  · simp
  rintro i s h hi ⟨rfl, h8, h7, h0, h1, hj⟩
  by_cases hi2 : i < (fsts v).length
  · repeat' (first | (apply brI <;> intro hb hb2 <;> (try simp [-Int.not_le, -Int.not_lt, -Nat.not_le, -Nat.not_lt, -Nat.add_left_cancel_iff] at hb2)) | (refine draw_listA (by rfl) (by kernel_rfl) ?_) | (refine draw_listB (by simp [allocsOf, isAlloc]; rfl) (by kernel_rfl) ?_) | simp (maxSteps := 2000000) (disch := first | omega | assumption | simp [*]) [*, -Int.not_le, -Int.not_lt, -Nat.not_le, -Nat.not_lt, -Nat.add_left_cancel_iff, wrap_i64, wrap_u64, h8, h7, h0, h1, isP_len hv, isP_index hv])
    · rw [idxP_some hi2 (by assumption) hj]
    · intro j hj2
      by_cases e : j = i
      · subst e; simpa using hb2
      · exact hj j (by omega)
  · obtain rfl : i = (fsts v).length := by omega
    repeat' (first | (apply brI <;> intro hb hb2 <;> (try simp [-Int.not_le, -Int.not_lt, -Nat.not_le, -Nat.not_lt, -Nat.add_left_cancel_iff] at hb2)) | (refine draw_listA (by rfl) (by kernel_rfl) ?_) | (refine draw_listB (by simp [allocsOf, isAlloc]; rfl) (by kernel_rfl) ?_) | simp (maxSteps := 2000000) (disch := first | omega | assumption | simp [*]) [*, -Int.not_le, -Int.not_lt, -Nat.not_le, -Nat.not_lt, -Nat.add_left_cancel_iff, wrap_i64, wrap_u64, h8, h7, h0, h1, isP_len hv])
    rw [idxP_none hj]
theorem indexFuncR_s {v : AV} {g : Nat} {caps : List AV} {p : Int → Int → Bool} (hv : IsP v) (hx : env.ext g = none) (ho : env.open_ g = false) (hdp : env.deep g = false) (hl : ∀ h, lows h caps = caps) (hp : ∀ x y, EvC env g (.agg [.int .i64 x, .int .i64 y] :: caps) (.bool (p x y))) {K : AV → Prop} {tg : Tg K} : CW env 117 [v, .fn g caps] K tg ↔ K (.int .i64 (idxP p (fsts v) (snds v))) := callsTo_iff (indexFuncR_c hv hx ho hdp hl hp)
attribute [simp] indexFuncR_s
theorem containsFuncR_c {v : AV} {g : Nat} {caps : List AV} {p : Int → Int → Bool} (hv : IsP v) (hx : env.ext g = none) (ho : env.open_ g = false) (hdp : env.deep g = false) (hl : ∀ h, lows h caps = caps) (hp : ∀ x y, EvC env g (.agg [.int .i64 x, .int .i64 y] :: caps) (.bool (p x y))) : EvC env 95 [v, .fn g caps] (.bool (anyP p (fsts v) (snds v))) := by
  refine evC_of (F := Tryz.f95) rfl rfl (Nat.le_of_ble_eq_true rfl) ?_
  have := hv.len
  repeat' (first | (apply brI <;> intro hb hb2 <;> (try simp [-Int.not_le, -Int.not_lt, -Nat.not_le, -Nat.not_lt, -Nat.add_left_cancel_iff] at hb2)) | (refine draw_listA (by rfl) (by kernel_rfl) ?_) | (refine draw_listB (by simp [allocsOf, isAlloc]; rfl) (by kernel_rfl) ?_) | simp (maxSteps := 2000000) (disch := first | omega | assumption | simp [*]) [*, -Int.not_le, -Int.not_lt, -Nat.not_le, -Nat.not_lt, -Nat.add_left_cancel_iff, wrap_i64, wrap_u64, Tryz.f95, isP_low hv, low_fn])
  rw [Bool.eq_iff_iff, ← idxP_any]; simp
theorem containsFuncR_s {v : AV} {g : Nat} {caps : List AV} {p : Int → Int → Bool} (hv : IsP v) (hx : env.ext g = none) (ho : env.open_ g = false) (hdp : env.deep g = false) (hl : ∀ h, lows h caps = caps) (hp : ∀ x y, EvC env g (.agg [.int .i64 x, .int .i64 y] :: caps) (.bool (p x y))) {K : AV → Prop} {tg : Tg K} : CW env 95 [v, .fn g caps] K tg ↔ K (.bool (anyP p (fsts v) (snds v))) := callsTo_iff (containsFuncR_c hv hx ho hdp hl hp)
attribute [simp] containsFuncR_s
theorem anyP_false {p : Int → Int → Bool} {xs ys : List Int} : anyP p xs ys = false ↔ ∀ k, k < xs.length → p (nth xs k) (nth ys k) = false := by
  unfold anyP
  rw [List.any_eq_false]
  simp only [List.mem_range, Bool.not_eq_true]
theorem areRules1_c {x y n : Int} : EvC env 96 [.agg [.int .i64 x, .int .i64 y], .cp true [.int .i64 n] 0] (.bool (!PSet n x || !PSet n y)) := by
  refine evC_of (F := Tryz.f96) rfl rfl (Nat.le_of_ble_eq_true rfl) ?_
  repeat' (first | (apply brI <;> intro hb hb2 <;> (try simp [-Int.not_le, -Int.not_lt, -Nat.not_le, -Nat.not_lt, -Nat.add_left_cancel_iff] at hb2)) | (refine draw_listA (by rfl) (by kernel_rfl) ?_) | (refine draw_listB (by simp [allocsOf, isAlloc]; rfl) (by kernel_rfl) ?_) | simp (maxSteps := 2000000) (disch := first | omega | assumption | simp [*]) [*, -Int.not_le, -Int.not_lt, -Nat.not_le, -Nat.not_lt, -Nat.add_left_cancel_iff, wrap_i64, wrap_u64, Tryz.f96])
  all_goals cases hx : PSet n x <;> cases hy : PSet n y <;> simp_all
theorem areRules1_s {x y n : Int} {K : AV → Prop} {tg : Tg K} : CW env 96 [.agg [.int .i64 x, .int .i64 y], .cp true [.int .i64 n] 0] K tg ↔ K (.bool (!PSet n x || !PSet n y)) := callsTo_iff (areRules1_c )
attribute [simp] areRules1_s
theorem areAny1_c {x y : Int} : EvC env 118 [.agg [.int .i64 x, .int .i64 y]] (.bool (!PSet 8 x || !PSet 8 y)) := by
  refine evC_of (F := Tryz.f118) rfl rfl (Nat.le_of_ble_eq_true rfl) ?_
  repeat' (first | (apply brI <;> intro hb hb2 <;> (try simp [-Int.not_le, -Int.not_lt, -Nat.not_le, -Nat.not_lt, -Nat.add_left_cancel_iff] at hb2)) | (refine draw_listA (by rfl) (by kernel_rfl) ?_) | (refine draw_listB (by simp [allocsOf, isAlloc]; rfl) (by kernel_rfl) ?_) | simp (maxSteps := 2000000) (disch := first | omega | assumption | simp [*]) [*, -Int.not_le, -Int.not_lt, -Nat.not_le, -Nat.not_lt, -Nat.add_left_cancel_iff, wrap_i64, wrap_u64, Tryz.f118])
  all_goals cases hx : PSet 8 x <;> cases hy : PSet 8 y <;> simp_all
theorem areAny1_s {x y : Int} {K : AV → Prop} {tg : Tg K} : CW env 118 [.agg [.int .i64 x, .int .i64 y]] K tg ↔ K (.bool (!PSet 8 x || !PSet 8 y)) := callsTo_iff (areAny1_c )
attribute [simp] areAny1_s
theorem iAreRules_c {n : Int} {v : AV} (hv : IsP v) : EvC env 51 [.int .i64 n, v] (.bool (decide (RulC n v))) := by
  refine evC_of (F := Tryz.f51) rfl rfl (Nat.le_of_ble_eq_true rfl) ?_
  have hvl := hv.len
  unfold top63 at hvl
  have hcs : ∀ (K : AV → Prop) (tg : Tg K), CW env 95 [v, .fn 96 [.cp true [.int .i64 n] 0]] K tg ↔ K (.bool (anyP (fun x y => !PSet n x || !PSet n y) (fsts v) (snds v))) :=
    fun K tg => callsTo_iff (containsFuncR_c hv rfl rfl rfl (fun h => by simp) fun x y => areRules1_c)
  have hany := @anyP_false (fun x y => !PSet n x || !PSet n y) (fsts v) (snds v)
  generalize anyP (fun x y => !PSet n x || !PSet n y) (fsts v) (snds v) = b at *
  by_cases hn : 0 ≤ n ∧ n ≤ 6
  · have hg : (decide (0 ≤ n) && decide (n ≤ 6)) = true := by simp; omega
    by_cases hl : (fsts v).length ≤ 40
    · have hl2 : ((fsts v).length : Int) ≤ 40 := by omega
      have hbv : decide (RulC n v) = !b := by
        cases b with
        | false =>
          refine decide_eq_true ⟨hn, hl, fun i hi => ?_⟩
          have := hany.1 rfl i hi
          simpa using this
        | true =>
          refine decide_eq_false fun h => ?_
          have h9 := hany.2 fun k hk => by have := h.2.2 k hk; simp [this]
          cases h9
      rw [hbv]
      clear hbv hany hn hl
      repeat' (first | (apply brI <;> intro hb hb2 <;> (try simp [-Int.not_le, -Int.not_lt, -Nat.not_le, -Nat.not_lt, -Nat.add_left_cancel_iff] at hb2)) | (refine draw_listA (by rfl) (by kernel_rfl) ?_) | (refine draw_listB (by simp [allocsOf, isAlloc]; rfl) (by kernel_rfl) ?_) | simp (maxSteps := 2000000) (disch := first | omega | assumption | simp [*]) [*, -Int.not_le, -Int.not_lt, -Nat.not_le, -Nat.not_lt, -Nat.add_left_cancel_iff, wrap_i64, wrap_u64, Tryz.f51, isP_len hv, isP_low hv])
    · have hno : decide (RulC n v) = false := decide_eq_false fun h => hl h.2.1
      have hl2 : ¬ ((fsts v).length : Int) ≤ 40 := by omega
      rw [hno]
      clear hno hany hn hl
      repeat' (first | (apply brI <;> intro hb hb2 <;> (try simp [-Int.not_le, -Int.not_lt, -Nat.not_le, -Nat.not_lt, -Nat.add_left_cancel_iff] at hb2)) | (refine draw_listA (by rfl) (by kernel_rfl) ?_) | (refine draw_listB (by simp [allocsOf, isAlloc]; rfl) (by kernel_rfl) ?_) | simp (maxSteps := 2000000) (disch := first | omega | assumption | simp [*]) [*, -Int.not_le, -Int.not_lt, -Nat.not_le, -Nat.not_lt, -Nat.add_left_cancel_iff, wrap_i64, wrap_u64, Tryz.f51, isP_len hv, isP_low hv])
  · have hno : decide (RulC n v) = false := decide_eq_false fun h => hn h.1
    have hg : (decide (0 ≤ n) && decide (n ≤ 6)) = false := by
      rw [Bool.eq_false_iff]; intro h; simp only [Bool.and_eq_true, decide_eq_true_eq] at h; exact hn h
    rw [hno]
    clear hno hany hn
    repeat' (first | (apply brI <;> intro hb hb2 <;> (try simp [-Int.not_le, -Int.not_lt, -Nat.not_le, -Nat.not_lt, -Nat.add_left_cancel_iff] at hb2)) | (refine draw_listA (by rfl) (by kernel_rfl) ?_) | (refine draw_listB (by simp [allocsOf, isAlloc]; rfl) (by kernel_rfl) ?_) | simp (maxSteps := 2000000) (disch := first | omega | assumption | simp [*]) [*, -Int.not_le, -Int.not_lt, -Nat.not_le, -Nat.not_lt, -Nat.add_left_cancel_iff, wrap_i64, wrap_u64, Tryz.f51, isP_len hv, isP_low hv])
theorem iAreRules_s {n : Int} {v : AV} (hv : IsP v) {K : AV → Prop} {tg : Tg K} : CW env 51 [.int .i64 n, v] K tg ↔ K (.bool (decide (RulC n v))) := callsTo_iff (iAreRules_c hv)
attribute [simp] iAreRules_s
theorem pset8_small {x : Nat} (h : x < 64) : PSet 8 (x : Int) = true := pset8 (pset_nat (N := 6) (by decide) h)
theorem bef_bits : ∀ x y : Fin 64, x ≠ y → (decide (Go.bits .and .i64 (y.val : Int) (Go.bits .and .i64 ((x.val ^^^ y.val : Nat) : Int) (-((x.val ^^^ y.val : Nat) : Int))) = 0)) = !befB x.val y.val := by decide +kernel
theorem sBefore_c {x y : Nat} (hx : x < 64) (hy : y < 64) : EvC env 55 [.int .i64 x, .int .i64 y] (.bool (befB x y)) := by
  refine evC_of (F := Tryz.f55) rfl rfl (Nat.le_of_ble_eq_true rfl) ?_
  have p1 := pset8_small hx
  have p2 := pset8_small hy
  by_cases e : x = y
  · subst e
    have hb : befB x x = false := by simp [befB]
    repeat' (first | (apply brI <;> intro hb hb2 <;> (try simp [-Int.not_le, -Int.not_lt, -Nat.not_le, -Nat.not_lt, -Nat.add_left_cancel_iff] at hb2)) | (refine draw_listA (by rfl) (by kernel_rfl) ?_) | (refine draw_listB (by simp [allocsOf, isAlloc]; rfl) (by kernel_rfl) ?_) | simp (maxSteps := 2000000) (disch := first | omega | assumption | simp [*]) [*, -Int.not_le, -Int.not_lt, -Nat.not_le, -Nat.not_lt, -Nat.add_left_cancel_iff, wrap_i64, wrap_u64, Tryz.f55])
  · have hb := bef_bits ⟨x, hx⟩ ⟨y, hy⟩ (fun h => e (congrArg Fin.val h))
    have ei : ¬ (x : Int) = y := by omega
    have hxl : x ^^^ y < 64 := Nat.xor_lt_two_pow (n := 6) hx hy
    simp only at hb
    generalize befB x y = B at *
    clear e
    repeat' (first | (apply brI <;> intro hb hb2 <;> (try simp [-Int.not_le, -Int.not_lt, -Nat.not_le, -Nat.not_lt, -Nat.add_left_cancel_iff] at hb2)) | (refine draw_listA (by rfl) (by kernel_rfl) ?_) | (refine draw_listB (by simp [allocsOf, isAlloc]; rfl) (by kernel_rfl) ?_) | simp (maxSteps := 2000000) (disch := first | omega | assumption | simp [*]) [*, -Int.not_le, -Int.not_lt, -Nat.not_le, -Nat.not_lt, -Nat.add_left_cancel_iff, wrap_i64, wrap_u64, Tryz.f55, bits_xor])
    all_goals first | exact hb | skip
theorem sBefore_s {x y : Nat} (hx : x < 64) (hy : y < 64) {K : AV → Prop} {tg : Tg K} : CW env 55 [.int .i64 x, .int .i64 y] K tg ↔ K (.bool (befB x y)) := callsTo_iff (sBefore_c hx hy)
attribute [simp] sBefore_s
/-- the rules of a value, as sets -/
def rA (v : AV) (i : Nat) : Nat := (nth (fsts v) i).toNat
def rB (v : AV) (i : Nat) : Nat := (nth (snds v) i).toNat
def Rul64 (v : AV) : Prop := ∀ i, i < (fsts v).length → nth (fsts v) i = (rA v i : Int) ∧ nth (snds v) i = (rB v i : Int) ∧ rA v i < 64 ∧ rB v i < 64
theorem pset64 {n s : Int} (hn : n ≤ 6) (h : PSet n s = true) : 0 ≤ s ∧ s < 64 := by
  obtain ⟨h1, h2, h3, h4⟩ := pset_iff.mp h
  have : (2 : Int) ^ n.toNat ≤ 2 ^ 6 := two_pow_le (by omega)
  omega
theorem rulC_64 {n : Int} {v : AV} (h : RulC n v) : Rul64 v := fun i hi => by
  obtain ⟨h1, h2⟩ := h.2.2 i hi
  have a := pset64 h.1.2 h1
  have b := pset64 h.1.2 h2
  unfold rA rB
  omega
theorem and_nat (a b : Nat) : (((a : Int).toNat &&& (b : Int).toNat : Nat) : Int) = ((a &&& b : Nat) : Int) := by simp
def Inv9 (P : Nat → Nat) (s k : Nat) (a1 a5 : AV) : Prop := ∃ t : Nat, ∃ fl : Bool, a1 = .int .i64 t ∧ a5 = .bool fl ∧ t < 64 ∧ (fl = true → k ≤ t ∧ fixG P s = fixG P t) ∧ (fl = false → fixG P s = t)
def In9 (A B : Nat → Nat) (i t : Nat) (a1 a5 : AV) : Prop := ∃ u : Nat, a1 = .int .i64 u ∧ a5 = .bool (decide (u ≠ t)) ∧ u < 64 ∧ t ≤ u ∧ pas A B i t = u
def InvC (P : Nat → Nat) (s k : Nat) (a1 a5 : AV) : Prop := ∃ t : Nat, a1 = .int .i64 t ∧ a5 = .int .i64 (P t : Nat) ∧ t < 64 ∧ k ≤ t ∧ fixG P s = fixG P t
def InvB (cand : Nat → Bool) (k : Nat) (a8 a9 : AV) : Prop := ∃ best : Nat, ∃ found : Bool, a8 = .int .i64 best ∧ a9 = .bool found ∧ best < 64 ∧ IsBest cand k best found
theorem l9Closed_c {v : AV} {s : Nat} (hv : IsP v) (hl : (fsts v).length ≤ 40) (hs : s < 64) (hR : Rul64 v) : EvC env 56 [v, .int .i64 s] (.int .i64 (fixG (pas (rA v) (rB v) (fsts v).length) s : Nat)) := by
  refine evC_of (F := Tryz.f56) rfl rfl (Nat.le_of_ble_eq_true rfl) ?_
  have hG : GrowsTo (pas (rA v) (rB v) (fsts v).length) := pas_grows fun i hi => (hR i hi).2.2.2
  obtain ⟨P, hP⟩ : ∃ P, P = pas (rA v) (rB v) (fsts v).length := ⟨_, rfl⟩
  rw [← hP] at hG ⊢
  have hPt : ∀ t, pas (rA v) (rB v) (fsts v).length t = P t := fun t => by rw [hP]
  clear hP
  repeat' (first | (apply brI <;> intro hb hb2 <;> (try simp [-Int.not_le, -Int.not_lt, -Nat.not_le, -Nat.not_lt, -Nat.add_left_cancel_iff] at hb2)) | (refine draw_listA (by rfl) (by kernel_rfl) ?_) | (refine draw_listB (by simp [allocsOf, isAlloc]; rfl) (by kernel_rfl) ?_) | simp (maxSteps := 2000000) (disch := first | omega | assumption | simp [*]) [*, -Int.not_le, -Int.not_lt, -Nat.not_le, -Nat.not_lt, -Nat.add_left_cancel_iff, wrap_i64, wrap_u64, Tryz.f56, isP_len hv, isP_low hv])
  refine W_loopP 64 (fun k st => Inv9 P s k (st 1) (st 5) ∧ st 0 = v) rfl ?_ ?_
  · exact ⟨⟨s, true, by simp, by simp, hs, fun _ => ⟨Nat.zero_le _, rfl⟩, fun h => by cases h⟩, by simp⟩
  rintro k st hk ⟨⟨t, fl, h1, h5, ht, hT, hF⟩, h0⟩
  cases fl with
  | false =>
    have hres := hF rfl
    clear hT hF hPt
    repeat' (first | (apply brI <;> intro hb hb2 <;> (try simp [-Int.not_le, -Int.not_lt, -Nat.not_le, -Nat.not_lt, -Nat.add_left_cancel_iff] at hb2)) | (refine draw_listA (by rfl) (by kernel_rfl) ?_) | (refine draw_listB (by simp [allocsOf, isAlloc]; rfl) (by kernel_rfl) ?_) | simp (maxSteps := 2000000) (disch := first | omega | assumption | simp [*]) [*, -Int.not_le, -Int.not_lt, -Nat.not_le, -Nat.not_lt, -Nat.add_left_cancel_iff, wrap_i64, wrap_u64, h1, h5, h0])
  | true =>
    obtain ⟨hkt, hres⟩ := hT rfl
    clear hT hF
    repeat' (first | (apply brI <;> intro hb hb2 <;> (try simp [-Int.not_le, -Int.not_lt, -Nat.not_le, -Nat.not_lt, -Nat.add_left_cancel_iff] at hb2)) | (refine draw_listA (by rfl) (by kernel_rfl) ?_) | (refine draw_listB (by simp [allocsOf, isAlloc]; rfl) (by kernel_rfl) ?_) | simp (maxSteps := 2000000) (disch := first | omega | assumption | simp [*]) [*, -Int.not_le, -Int.not_lt, -Nat.not_le, -Nat.not_lt, -Nat.add_left_cancel_iff, wrap_i64, wrap_u64, h1, h5, h0])
    refine W_loopP (fsts v).length (fun i st => In9 (rA v) (rB v) i t (st 1) (st 5) ∧ st 6 = .int .i64 i ∧ st 0 = v) rfl ?_ ?_
    · exact ⟨⟨t, by simp [h1], by simp, ht, Nat.le_refl _, rfl⟩, by simp, by simp [h0]⟩
    rintro i st2 hi ⟨⟨u, k1, k5, hu, htu, hpu⟩, k6, k0⟩
    by_cases hi2 : i < (fsts v).length
    · obtain ⟨ea, eb, la, lb⟩ := hR i hi2
      have hsu : pas (rA v) (rB v) (i + 1) t = if rA v i &&& u = rA v i ∧ rB v i &&& u ≠ rB v i then u ||| rB v i else u := by rw [pas, hpu]
      generalize rA v i = a at *
      generalize rB v i = b at *
      by_cases c1 : a &&& u = a
      · by_cases c2 : b &&& u = b
        · rw [if_neg fun h => h.2 c2] at hsu
          clear hPt hR hG hpu
          repeat' (first | (apply brI <;> intro hb hb2 <;> (try simp [-Int.not_le, -Int.not_lt, -Nat.not_le, -Nat.not_lt, -Nat.add_left_cancel_iff] at hb2)) | (refine draw_listA (by rfl) (by kernel_rfl) ?_) | (refine draw_listB (by simp [allocsOf, isAlloc]; rfl) (by kernel_rfl) ?_) | simp (maxSteps := 2000000) (disch := first | omega | assumption | simp [*]) [*, -Int.not_le, -Int.not_lt, -Nat.not_le, -Nat.not_lt, -Nat.add_left_cancel_iff, wrap_i64, wrap_u64, k1, k5, k6, k0, isP_len hv, isP_low hv, isP_index hv, bits_and, bits_or])
          exact ⟨u, rfl, by simp, hu, htu, hsu⟩
        · rw [if_pos ⟨c1, c2⟩] at hsu
          have hgu : u ≤ u ||| b := or_ge u b
          have hlu : u ||| b < 64 := or64 hu lb
          have hne : u ||| b ≠ u := fun h => c2 (or_same.1 h)
          have hdt : ¬ u ||| b = t := by omega
          have c2i : ¬ ((b &&& u : Nat) : Int) = b := by omega
          clear hPt hR hG hpu
          repeat' (first | (apply brI <;> intro hb hb2 <;> (try simp [-Int.not_le, -Int.not_lt, -Nat.not_le, -Nat.not_lt, -Nat.add_left_cancel_iff] at hb2)) | (refine draw_listA (by rfl) (by kernel_rfl) ?_) | (refine draw_listB (by simp [allocsOf, isAlloc]; rfl) (by kernel_rfl) ?_) | simp (maxSteps := 2000000) (disch := first | omega | assumption | simp [*]) [*, -Int.not_le, -Int.not_lt, -Nat.not_le, -Nat.not_lt, -Nat.add_left_cancel_iff, wrap_i64, wrap_u64, k1, k5, k6, k0, isP_len hv, isP_low hv, isP_index hv, bits_and, bits_or])
          exact ⟨u ||| b, rfl, by simp [hdt], hlu, by omega, hsu⟩
      · rw [if_neg fun h => c1 h.1] at hsu
        have c1i : ¬ ((a &&& u : Nat) : Int) = a := by omega
        clear hPt hR hG hpu
        repeat' (first | (apply brI <;> intro hb hb2 <;> (try simp [-Int.not_le, -Int.not_lt, -Nat.not_le, -Nat.not_lt, -Nat.add_left_cancel_iff] at hb2)) | (refine draw_listA (by rfl) (by kernel_rfl) ?_) | (refine draw_listB (by simp [allocsOf, isAlloc]; rfl) (by kernel_rfl) ?_) | simp (maxSteps := 2000000) (disch := first | omega | assumption | simp [*]) [*, -Int.not_le, -Int.not_lt, -Nat.not_le, -Nat.not_lt, -Nat.add_left_cancel_iff, wrap_i64, wrap_u64, k1, k5, k6, k0, isP_len hv, isP_low hv, isP_index hv, bits_and, bits_or])
        exact ⟨u, rfl, by simp, hu, htu, hsu⟩
    · obtain rfl : i = (fsts v).length := by omega
      rw [hPt] at hpu
      have hk2 : k + 1 ≤ 64 := by omega
      clear hR hPt
      repeat' (first | (apply brI <;> intro hb hb2 <;> (try simp [-Int.not_le, -Int.not_lt, -Nat.not_le, -Nat.not_lt, -Nat.add_left_cancel_iff] at hb2)) | (refine draw_listA (by rfl) (by kernel_rfl) ?_) | (refine draw_listB (by simp [allocsOf, isAlloc]; rfl) (by kernel_rfl) ?_) | simp (maxSteps := 2000000) (disch := first | omega | assumption | simp [*]) [*, -Int.not_le, -Int.not_lt, -Nat.not_le, -Nat.not_lt, -Nat.add_left_cancel_iff, wrap_i64, wrap_u64, k1, k5, k6, k0, isP_len hv, isP_low hv])
      refine ⟨by omega, u, decide (u ≠ t), rfl, by simp, hu, fun h => ?_, fun h => ?_⟩
      · have hne := of_decide_eq_true h
        exact ⟨by omega, hres.trans (by rw [fixG_go hG ht (by rw [hpu]; exact hne), hpu])⟩
      · have he : u = t := by have := of_decide_eq_false h; omega
        exact hres.trans (by rw [fixG_at (hpu.trans he)]; exact he.symm)
theorem l9Closed_s {v : AV} {s : Nat} (hv : IsP v) (hl : (fsts v).length ≤ 40) (hs : s < 64) (hR : Rul64 v) {K : AV → Prop} {tg : Tg K} : CW env 56 [v, .int .i64 s] K tg ↔ K (.int .i64 (fixG (pas (rA v) (rB v) (fsts v).length) s : Nat)) := callsTo_iff (l9Closed_c hv hl hs hR)
attribute [simp] l9Closed_s
theorem areAnyRules_c {v : AV} (hv : IsP v) (hR : Rul64 v) : EvC env 98 [v] (.bool true) := by
  refine evC_of (F := Tryz.f98) rfl rfl (Nat.le_of_ble_eq_true rfl) ?_
  have hcs : ∀ (K : AV → Prop) (tg : Tg K), CW env 95 [v, .fn 118 []] K tg ↔ K (.bool (anyP (fun x y => !PSet 8 x || !PSet 8 y) (fsts v) (snds v))) :=
    fun K tg => callsTo_iff (containsFuncR_c hv rfl rfl rfl (fun h => by simp) fun x y => areAny1_c)
  have hany : anyP (fun x y => !PSet 8 x || !PSet 8 y) (fsts v) (snds v) = false := anyP_false.2 fun k hk => by
    obtain ⟨ea, eb, la, lb⟩ := hR k hk
    rw [ea, eb, pset8_small la, pset8_small lb]; rfl
  rw [hany] at hcs
  clear hany hR
  repeat' (first | (apply brI <;> intro hb hb2 <;> (try simp [-Int.not_le, -Int.not_lt, -Nat.not_le, -Nat.not_lt, -Nat.add_left_cancel_iff] at hb2)) | (refine draw_listA (by rfl) (by kernel_rfl) ?_) | (refine draw_listB (by simp [allocsOf, isAlloc]; rfl) (by kernel_rfl) ?_) | simp (maxSteps := 2000000) (disch := first | omega | assumption | simp [*]) [*, -Int.not_le, -Int.not_lt, -Nat.not_le, -Nat.not_lt, -Nat.add_left_cancel_iff, wrap_i64, wrap_u64, Tryz.f98, isP_low hv, isP_len hv])
theorem areAnyRules_s {v : AV} (hv : IsP v) (hR : Rul64 v) {K : AV → Prop} {tg : Tg K} : CW env 98 [v] K tg ↔ K (.bool true) := callsTo_iff (areAnyRules_c hv hR)
attribute [simp] areAnyRules_s
theorem diff_iff (a u : Nat) : (diff a u = 0) ↔ a &&& u = a := by
  have := @psub_diff (a : Int) (u : Int)
  simp only [Int.toNat_natCast, PSub, decide_eq_true_eq] at this
  exact this
theorem oneStep_c {v : AV} {s : Nat} (hv : IsP v) (hl : (fsts v).length ≤ 40) (hs : s < 64) (hR : Rul64 v) : EvC env 114 [v, .int .i64 s] (.int .i64 (onc (rA v) (rB v) s (fsts v).length : Nat)) := by
  refine evC_of (F := Tryz.f114) rfl rfl (Nat.le_of_ble_eq_true rfl) ?_
  have p1 := pset8_small hs
  have har : ∀ (K : AV → Prop) (tg : Tg K), CW env 98 [v] K tg ↔ K (.bool true) := fun K tg => callsTo_iff (areAnyRules_c hv hR)
  repeat' (first | (apply brI <;> intro hb hb2 <;> (try simp [-Int.not_le, -Int.not_lt, -Nat.not_le, -Nat.not_lt, -Nat.add_left_cancel_iff] at hb2)) | (refine draw_listA (by rfl) (by kernel_rfl) ?_) | (refine draw_listB (by simp [allocsOf, isAlloc]; rfl) (by kernel_rfl) ?_) | simp (maxSteps := 2000000) (disch := first | omega | assumption | simp [*]) [*, -Int.not_le, -Int.not_lt, -Nat.not_le, -Nat.not_lt, -Nat.add_left_cancel_iff, wrap_i64, wrap_u64, Tryz.f114, isP_len hv, isP_low hv])
  refine W_loopG (fsts v).length (fun i st h => ∃ u : Nat, st 5 = .int .i64 u ∧ st 20 = .int .i64 i ∧ st 19 = .int .i64 (fsts v).length ∧ st 18 = v ∧ st 1 = .int .i64 s ∧ u < 64 ∧ onc (rA v) (rB v) s i = u) ?_ ?_
  · exact ⟨s, by simp, by simp, by simp, by simp, by simp, hs, rfl⟩
  rintro i st h hi ⟨u, k5, k20, k19, k18, k1, hu, hou⟩
  by_cases hi2 : i < (fsts v).length
  · obtain ⟨ea, eb, la, lb⟩ := hR i hi2
    have hsu : onc (rA v) (rB v) s (i + 1) = if rA v i &&& s = rA v i then u ||| rB v i else u := by rw [onc, hou]
    generalize rA v i = a at *
    generalize rB v i = b at *
    have hdi := diff_iff a s
    by_cases c1 : a &&& s = a
    · have hd := hdi.2 c1
      rw [if_pos c1] at hsu
      have hlu : u ||| b < 64 := or64 hu lb
      clear hdi hR hou
      repeat' (first | (apply brI <;> intro hb hb2 <;> (try simp [-Int.not_le, -Int.not_lt, -Nat.not_le, -Nat.not_lt, -Nat.add_left_cancel_iff] at hb2)) | (refine draw_listA (by rfl) (by kernel_rfl) ?_) | (refine draw_listB (by simp [allocsOf, isAlloc]; rfl) (by kernel_rfl) ?_) | simp (maxSteps := 2000000) (disch := first | omega | assumption | simp [*]) [*, -Int.not_le, -Int.not_lt, -Nat.not_le, -Nat.not_lt, -Nat.add_left_cancel_iff, wrap_i64, wrap_u64, k5, k20, k19, k18, k1, isP_len hv, isP_low hv, isP_index hv, bits_or])
    · have hd : ¬ diff a s = 0 := fun h => c1 (hdi.1 h)
      rw [if_neg c1] at hsu
      clear hdi hR hou
      repeat' (first | (apply brI <;> intro hb hb2 <;> (try simp [-Int.not_le, -Int.not_lt, -Nat.not_le, -Nat.not_lt, -Nat.add_left_cancel_iff] at hb2)) | (refine draw_listA (by rfl) (by kernel_rfl) ?_) | (refine draw_listB (by simp [allocsOf, isAlloc]; rfl) (by kernel_rfl) ?_) | simp (maxSteps := 2000000) (disch := first | omega | assumption | simp [*]) [*, -Int.not_le, -Int.not_lt, -Nat.not_le, -Nat.not_lt, -Nat.add_left_cancel_iff, wrap_i64, wrap_u64, k5, k20, k19, k18, k1, isP_len hv, isP_low hv, isP_index hv, bits_or])
  · obtain rfl : i = (fsts v).length := by omega
    clear hR
    repeat' (first | (apply brI <;> intro hb hb2 <;> (try simp [-Int.not_le, -Int.not_lt, -Nat.not_le, -Nat.not_lt, -Nat.add_left_cancel_iff] at hb2)) | (refine draw_listA (by rfl) (by kernel_rfl) ?_) | (refine draw_listB (by simp [allocsOf, isAlloc]; rfl) (by kernel_rfl) ?_) | simp (maxSteps := 2000000) (disch := first | omega | assumption | simp [*]) [*, -Int.not_le, -Int.not_lt, -Nat.not_le, -Nat.not_lt, -Nat.add_left_cancel_iff, wrap_i64, wrap_u64, k5, k20, k19, k18, k1])
theorem oneStep_s {v : AV} {s : Nat} (hv : IsP v) (hl : (fsts v).length ≤ 40) (hs : s < 64) (hR : Rul64 v) {K : AV → Prop} {tg : Tg K} : CW env 114 [v, .int .i64 s] K tg ↔ K (.int .i64 (onc (rA v) (rB v) s (fsts v).length : Nat)) := callsTo_iff (oneStep_c hv hl hs hR)
attribute [simp] oneStep_s
theorem closedBy_c {v : AV} {s : Nat} (hv : IsP v) (hl : (fsts v).length ≤ 40) (hs : s < 64) (hR : Rul64 v) : EvC env 88 [v, .int .i64 s] (.int .i64 (fixG (fun t => onc (rA v) (rB v) t (fsts v).length) s : Nat)) := by
  refine evC_of (F := Tryz.f88) rfl rfl (Nat.le_of_ble_eq_true rfl) ?_
  have p1 := pset8_small hs
  have har : ∀ (K : AV → Prop) (tg : Tg K), CW env 98 [v] K tg ↔ K (.bool true) := fun K tg => callsTo_iff (areAnyRules_c hv hR)
  have hG : GrowsTo (fun t => onc (rA v) (rB v) t (fsts v).length) := onc_grows fun i hi => (hR i hi).2.2.2
  obtain ⟨P, hP⟩ : ∃ P : Nat → Nat, P = fun t => onc (rA v) (rB v) t (fsts v).length := ⟨_, rfl⟩
  have hos : ∀ (t : Nat) (K : AV → Prop) (tg : Tg K), t < 64 → (CW env 114 [v, .int .i64 t] K tg ↔ K (.int .i64 (P t : Nat))) := fun t K tg ht => callsTo_iff (by rw [hP]; exact oneStep_c hv hl ht hR)
  rw [← hP] at hG ⊢
  clear hP hR
  repeat' (first | (apply brI <;> intro hb hb2 <;> (try simp [-Int.not_le, -Int.not_lt, -Nat.not_le, -Nat.not_lt, -Nat.add_left_cancel_iff] at hb2)) | (refine draw_listA (by rfl) (by kernel_rfl) ?_) | (refine draw_listB (by simp [allocsOf, isAlloc]; rfl) (by kernel_rfl) ?_) | simp (maxSteps := 2000000) (disch := first | omega | assumption | simp [*]) [*, -Int.not_le, -Int.not_lt, -Nat.not_le, -Nat.not_lt, -Nat.add_left_cancel_iff, wrap_i64, wrap_u64, Tryz.f88, isP_len hv, isP_low hv])
  refine W_loopP 64 (fun k st => InvC P s k (st 1) (st 5) ∧ st 0 = v) rfl ?_ ?_
  · exact ⟨⟨s, by simp, by simp, hs, Nat.zero_le _, rfl⟩, by simp⟩
  rintro k st hk ⟨⟨t, h1, h5, ht, hkt, hres⟩, h0⟩
  obtain ⟨g1, g2⟩ := hG t ht
  by_cases e : P t = t
  · have hf := hres.trans (fixG_at e)
    clear hres hG
    repeat' (first | (apply brI <;> intro hb hb2 <;> (try simp [-Int.not_le, -Int.not_lt, -Nat.not_le, -Nat.not_lt, -Nat.add_left_cancel_iff] at hb2)) | (refine draw_listA (by rfl) (by kernel_rfl) ?_) | (refine draw_listB (by simp [allocsOf, isAlloc]; rfl) (by kernel_rfl) ?_) | simp (maxSteps := 2000000) (disch := first | omega | assumption | simp [*]) [*, -Int.not_le, -Int.not_lt, -Nat.not_le, -Nat.not_lt, -Nat.add_left_cancel_iff, wrap_i64, wrap_u64, h1, h5, h0])
  · have hf := hres.trans (fixG_go hG ht e)
    have hk2 : k + 1 ≤ P t := by omega
    have ei : ¬ ((P t : Nat) : Int) = t := by omega
    clear hres hG
    repeat' (first | (apply brI <;> intro hb hb2 <;> (try simp [-Int.not_le, -Int.not_lt, -Nat.not_le, -Nat.not_lt, -Nat.add_left_cancel_iff] at hb2)) | (refine draw_listA (by rfl) (by kernel_rfl) ?_) | (refine draw_listB (by simp [allocsOf, isAlloc]; rfl) (by kernel_rfl) ?_) | simp (maxSteps := 2000000) (disch := first | omega | assumption | simp [*]) [*, -Int.not_le, -Int.not_lt, -Nat.not_le, -Nat.not_lt, -Nat.add_left_cancel_iff, wrap_i64, wrap_u64, h1, h5, h0, isP_low hv])
    exact ⟨by omega, P t, rfl, rfl, g2, hk2, hf⟩
theorem closedBy_s {v : AV} {s : Nat} (hv : IsP v) (hl : (fsts v).length ≤ 40) (hs : s < 64) (hR : Rul64 v) {K : AV → Prop} {tg : Tg K} : CW env 88 [v, .int .i64 s] K tg ↔ K (.int .i64 (fixG (fun t => onc (rA v) (rB v) t (fsts v).length) s : Nat)) := callsTo_iff (closedBy_c hv hl hs hR)
attribute [simp] closedBy_s
/-- a model after x -/
noncomputable def candB (v : AV) (x s : Nat) : Bool := befB x s && @decide (ClosR (rA v) (rB v) (fsts v).length s) (Classical.propDecidable _)
def NxtC (n : Int) (v : AV) (x : Int) : Prop := RulC n v ∧ PSet n x = true
noncomputable instance (n : Int) (v : AV) (x : Int) : Decidable (NxtC n v x) := Classical.propDecidable _
noncomputable def nextM (n : Int) (v : AV) (x : Int) : AV := if NxtC n v x then nxV (candB v x.toNat) n.toNat else .tup [.int .i64 0, .bool false]
theorem candB_of {v : AV} {x s : Nat} {r : Nat} (hr : r = s ↔ ClosR (rA v) (rB v) (fsts v).length s) : candB v x s = (befB x s && decide (r = s)) := by
  unfold candB
  by_cases h : r = s
  · have h2 := hr.1 h
    rw [decide_eq_true h, @decide_eq_true _ (Classical.propDecidable _) h2]
  · have h2 := fun c => h (hr.2 c)
    rw [decide_eq_false h, @decide_eq_false _ (Classical.propDecidable _) h2]
theorem sNextModel_c {n x : Int} {v : AV} (hv : IsP v) : EvC env 11 [.int .i64 n, v, .int .i64 x] (nextM n v x) := by
  refine evC_of (F := Tryz.f11) rfl rfl (Nat.le_of_ble_eq_true rfl) ?_
  by_cases hc : NxtC n v x
  · have hV : nextM n v x = nxV (candB v x.toNat) n.toNat := if_pos hc
    rw [hV]
    obtain ⟨hr, hp⟩ := hc
    have hd : decide (RulC n v) = true := decide_eq_true hr
    have hR := rulC_64 hr
    have hl := hr.2.1
    have hx := pset64 hr.1.2 hp
    obtain ⟨N, rfl⟩ : ∃ N : Nat, n = N := ⟨n.toNat, by have := hr.1; omega⟩
    obtain ⟨X, rfl⟩ : ∃ X : Nat, x = X := ⟨x.toNat, by omega⟩
    have hN : N ≤ 6 := by have := hr.1; omega
    have hX : X < 64 := by omega
    have hG : GrowsTo (pas (rA v) (rB v) (fsts v).length) := pas_grows fun i hi => (hR i hi).2.2.2
    have hcl : ∀ (s : Nat) (K : AV → Prop) (tg : Tg K), s < 64 → (CW env 56 [v, .int .i64 s] K tg ↔ K (.int .i64 (fixG (pas (rA v) (rB v) (fsts v).length) s : Nat))) := fun s K tg hs => callsTo_iff (l9Closed_c hv hl hs hR)
    have hcand : ∀ s, s < 64 → candB v X s = (befB X s && decide (fixG (pas (rA v) (rB v) (fsts v).length) s = s)) := fun s hs => candB_of ((fixG_iff hG hs).trans pas_iff)
    have hpw := pow64 hN
    have hp1 := Nat.two_pow_pos N
    have hpi : ((2 : Int) ^ N) = ((2 ^ N : Nat) : Int) := by simp
    simp only [Int.toNat_natCast]
    have hN8 : (N : Int) ≤ 8 := by omega
    obtain ⟨M, hM⟩ : ∃ M, M = 2 ^ N := ⟨_, rfl⟩
    have hend := fun best found (h : IsBest (candB v X) M best found) => best_end hN (hM ▸ h)
    rw [← hM] at hpw hp1 hpi
    obtain ⟨R, hRv⟩ : ∃ R, R = nxV (candB v X) N := ⟨_, rfl⟩
    rw [← hRv] at hend ⊢
    generalize candB v X = cand at *
    generalize fixG (pas (rA v) (rB v) (fsts v).length) = clo at *
    clear hM hRv hV hR hG hr
    repeat' (first | (apply brI <;> intro hb hb2 <;> (try simp [-Int.not_le, -Int.not_lt, -Nat.not_le, -Nat.not_lt, -Nat.add_left_cancel_iff] at hb2)) | (refine draw_listA (by rfl) (by kernel_rfl) ?_) | (refine draw_listB (by simp [allocsOf, isAlloc]; rfl) (by kernel_rfl) ?_) | simp (maxSteps := 2000000) (disch := first | omega | assumption | simp [*]) [*, -Int.not_le, -Int.not_lt, -Nat.not_le, -Nat.not_lt, -Nat.add_left_cancel_iff, wrap_i64, wrap_u64, Tryz.f11, isP_len hv, isP_low hv])
    refine W_loopP M (fun k st => InvB cand k (st 8) (st 9) ∧ st 10 = .int .i64 k ∧ st 0 = .int .i64 N ∧ st 1 = v ∧ st 2 = .int .i64 X) rfl ?_ ?_
    · exact ⟨⟨0, false, by simp, by simp, by decide, best_zero _⟩, by simp, by simp, by simp, by simp⟩
    rintro k st hk ⟨⟨best, found, h8, h9, hb64, hB⟩, h10, h0, h1, h2⟩
    by_cases hk2 : k < M
    · have hk64 : k < 64 := by omega
      have hck := hcand k hk64
      have hkM : (k : Int) ≤ (M : Int) - 1 := by omega
      cases hbf : befB X k with
      | false =>
        rw [hbf, Bool.false_and] at hck
        have hB2 := best_skip hB hck
        clear hcand hend hB hck
        repeat' (first | (apply brI <;> intro hb hb2 <;> (try simp [-Int.not_le, -Int.not_lt, -Nat.not_le, -Nat.not_lt, -Nat.add_left_cancel_iff] at hb2)) | (refine draw_listA (by rfl) (by kernel_rfl) ?_) | (refine draw_listB (by simp [allocsOf, isAlloc]; rfl) (by kernel_rfl) ?_) | simp (maxSteps := 2000000) (disch := first | omega | assumption | simp [*]) [*, -Int.not_le, -Int.not_lt, -Nat.not_le, -Nat.not_lt, -Nat.add_left_cancel_iff, wrap_i64, wrap_u64, h10, h8, h9, h0, h1, h2, isP_len hv, isP_low hv])
        exact ⟨best, found, rfl, rfl, hb64, hB2⟩
      | true =>
        by_cases hcc : clo k = k
        · rw [hbf, hcc] at hck
          simp only [Bool.true_and, decide_true] at hck
          have hci : ((clo k : Nat) : Int) = k := by omega
          cases found with
          | false =>
            have hB2 := best_take hB hck fun h => by cases h
            clear hcand hend hB hck
            repeat' (first | (apply brI <;> intro hb hb2 <;> (try simp [-Int.not_le, -Int.not_lt, -Nat.not_le, -Nat.not_lt, -Nat.add_left_cancel_iff] at hb2)) | (refine draw_listA (by rfl) (by kernel_rfl) ?_) | (refine draw_listB (by simp [allocsOf, isAlloc]; rfl) (by kernel_rfl) ?_) | simp (maxSteps := 2000000) (disch := first | omega | assumption | simp [*]) [*, -Int.not_le, -Int.not_lt, -Nat.not_le, -Nat.not_lt, -Nat.add_left_cancel_iff, wrap_i64, wrap_u64, h10, h8, h9, h0, h1, h2, isP_len hv, isP_low hv])
            exact ⟨k, true, rfl, rfl, hk64, hB2⟩
          | true =>
            cases hb9 : befB k best with
            | true =>
              have hB2 := best_take hB hck fun _ => hb9
              clear hcand hend hB hck
              repeat' (first | (apply brI <;> intro hb hb2 <;> (try simp [-Int.not_le, -Int.not_lt, -Nat.not_le, -Nat.not_lt, -Nat.add_left_cancel_iff] at hb2)) | (refine draw_listA (by rfl) (by kernel_rfl) ?_) | (refine draw_listB (by simp [allocsOf, isAlloc]; rfl) (by kernel_rfl) ?_) | simp (maxSteps := 2000000) (disch := first | omega | assumption | simp [*]) [*, -Int.not_le, -Int.not_lt, -Nat.not_le, -Nat.not_lt, -Nat.add_left_cancel_iff, wrap_i64, wrap_u64, h10, h8, h9, h0, h1, h2, isP_len hv, isP_low hv])
              exact ⟨k, true, rfl, rfl, hk64, hB2⟩
            | false =>
              have hB2 := best_stay hB hb9
              clear hcand hend hB hck
              repeat' (first | (apply brI <;> intro hb hb2 <;> (try simp [-Int.not_le, -Int.not_lt, -Nat.not_le, -Nat.not_lt, -Nat.add_left_cancel_iff] at hb2)) | (refine draw_listA (by rfl) (by kernel_rfl) ?_) | (refine draw_listB (by simp [allocsOf, isAlloc]; rfl) (by kernel_rfl) ?_) | simp (maxSteps := 2000000) (disch := first | omega | assumption | simp [*]) [*, -Int.not_le, -Int.not_lt, -Nat.not_le, -Nat.not_lt, -Nat.add_left_cancel_iff, wrap_i64, wrap_u64, h10, h8, h9, h0, h1, h2, isP_len hv, isP_low hv])
              exact ⟨best, true, rfl, rfl, hb64, hB2⟩
        · rw [hbf, decide_eq_false hcc] at hck
          simp only [Bool.and_false] at hck
          have hB2 := best_skip hB hck
          have hci : ¬ ((clo k : Nat) : Int) = k := by omega
          clear hcand hend hB hck
          repeat' (first | (apply brI <;> intro hb hb2 <;> (try simp [-Int.not_le, -Int.not_lt, -Nat.not_le, -Nat.not_lt, -Nat.add_left_cancel_iff] at hb2)) | (refine draw_listA (by rfl) (by kernel_rfl) ?_) | (refine draw_listB (by simp [allocsOf, isAlloc]; rfl) (by kernel_rfl) ?_) | simp (maxSteps := 2000000) (disch := first | omega | assumption | simp [*]) [*, -Int.not_le, -Int.not_lt, -Nat.not_le, -Nat.not_lt, -Nat.add_left_cancel_iff, wrap_i64, wrap_u64, h10, h8, h9, h0, h1, h2, isP_len hv, isP_low hv])
          exact ⟨best, found, rfl, rfl, hb64, hB2⟩
    · obtain rfl : k = M := by omega
      have hres := hend _ _ hB
      have hkM : ¬ (k : Int) ≤ (k : Int) - 1 := by omega
      clear hcand hend hB
      repeat' (first | (apply brI <;> intro hb hb2 <;> (try simp [-Int.not_le, -Int.not_lt, -Nat.not_le, -Nat.not_lt, -Nat.add_left_cancel_iff] at hb2)) | (refine draw_listA (by rfl) (by kernel_rfl) ?_) | (refine draw_listB (by simp [allocsOf, isAlloc]; rfl) (by kernel_rfl) ?_) | simp (maxSteps := 2000000) (disch := first | omega | assumption | simp [*]) [*, -Int.not_le, -Int.not_lt, -Nat.not_le, -Nat.not_lt, -Nat.add_left_cancel_iff, wrap_i64, wrap_u64, h10, h8, h9, h0, h1, h2])
  · have hV : nextM n v x = .tup [.int .i64 0, .bool false] := if_neg hc
    rw [hV]
    by_cases hr : RulC n v
    · have hd : decide (RulC n v) = true := decide_eq_true hr
      have hp : PSet n x = false := by rw [Bool.eq_false_iff]; exact fun h => hc ⟨hr, h⟩
      clear hc hV hr
      repeat' (first | (apply brI <;> intro hb hb2 <;> (try simp [-Int.not_le, -Int.not_lt, -Nat.not_le, -Nat.not_lt, -Nat.add_left_cancel_iff] at hb2)) | (refine draw_listA (by rfl) (by kernel_rfl) ?_) | (refine draw_listB (by simp [allocsOf, isAlloc]; rfl) (by kernel_rfl) ?_) | simp (maxSteps := 2000000) (disch := first | omega | assumption | simp [*]) [*, -Int.not_le, -Int.not_lt, -Nat.not_le, -Nat.not_lt, -Nat.add_left_cancel_iff, wrap_i64, wrap_u64, Tryz.f11, isP_len hv, isP_low hv])
    · have hd : decide (RulC n v) = false := decide_eq_false hr
      clear hc hV hr
      repeat' (first | (apply brI <;> intro hb hb2 <;> (try simp [-Int.not_le, -Int.not_lt, -Nat.not_le, -Nat.not_lt, -Nat.add_left_cancel_iff] at hb2)) | (refine draw_listA (by rfl) (by kernel_rfl) ?_) | (refine draw_listB (by simp [allocsOf, isAlloc]; rfl) (by kernel_rfl) ?_) | simp (maxSteps := 2000000) (disch := first | omega | assumption | simp [*]) [*, -Int.not_le, -Int.not_lt, -Nat.not_le, -Nat.not_lt, -Nat.add_left_cancel_iff, wrap_i64, wrap_u64, Tryz.f11, isP_len hv, isP_low hv])
theorem sNextModel_s {n x : Int} {v : AV} (hv : IsP v) {K : AV → Prop} {tg : Tg K} : CW env 11 [.int .i64 n, v, .int .i64 x] K tg ↔ K (nextM n v x) := callsTo_iff (sNextModel_c hv)
attribute [simp] sNextModel_s
theorem iNextM_c {N X : Nat} {v : AV} (hv : IsP v) (hc : NxtC N v X) : EvC env 39 [.int .i64 N, v, .int .i64 X] (nxV (candB v X) N) := by
  refine evC_of (F := Tryz.f39) rfl rfl (Nat.le_of_ble_eq_true rfl) ?_
  obtain ⟨hr, hp⟩ := hc
  have hR := rulC_64 hr
  have hl := hr.2.1
  have hx := pset64 hr.1.2 hp
  have hN : N ≤ 6 := by have := hr.1; omega
  have hX : X < 64 := by omega
  have hG : GrowsTo (fun t => onc (rA v) (rB v) t (fsts v).length) := onc_grows fun i hi => (hR i hi).2.2.2
  have hcl : ∀ (s : Nat) (K : AV → Prop) (tg : Tg K), s < 64 → (CW env 88 [v, .int .i64 s] K tg ↔ K (.int .i64 (fixG (fun t => onc (rA v) (rB v) t (fsts v).length) s : Nat))) := fun s K tg hs => callsTo_iff (closedBy_c hv hl hs hR)
  have hcand : ∀ s, s < 64 → candB v X s = (befB X s && decide (fixG (fun t => onc (rA v) (rB v) t (fsts v).length) s = s)) := fun s hs => candB_of ((fixG_iff hG hs).trans onc_iff)
  have hpw := pow64 hN
  have hll := lecL_len hN
  have hnl := lecN_len hN
  have hI : IsI (.sl 1 .no (ints (lecL N))) := isI_no (by unfold top63; omega)
  have hxI : xsOf (.sl 1 .no (ints (lecL N))) = lecL N := by simp
  obtain ⟨w, hw⟩ : ∃ w, AV.sl 1 .no (ints (lecL N)) = w := ⟨_, rfl⟩
  rw [hw] at hI hxI
  have hall : ∀ (K : AV → Prop) (tg : Tg K), CW env 86 [.int .i64 N] K tg ↔ K w := fun K tg => callsTo_iff (by rw [← hw]; exact allSets_c hN)
  have hxl : (xsOf w).length = (lecN N).length := by rw [hxI, hll, hnl]
  have hnw : noEx w = w := by rw [← hw]; simp
  have hnth : ∀ i, (hi : i < (lecN N).length) → nth (xsOf w) i = ((lecN N)[i] : Nat) := by
    intro i hi
    rw [hxI, lecL_map, nth]
    simp [hi]
  have hno : (∀ i, (hi : i < (lecN N).length) → candB v X (lecN N)[i] = false) → nxV (candB v X) N = .tup [.int .i64 0, .bool false] := fun h => nxV_none (lecN_none hN h)
  have hyes : ∀ i, (hi : i < (lecN N).length) → candB v X (lecN N)[i] = true → (∀ j, (h : j < i) → candB v X ((lecN N)[j]'(by omega)) = false) → nxV (candB v X) N = .tup [.int .i64 ((lecN N)[i] : Nat), .bool true] := fun i hi hc h => nxV_eq hN (lecN_first hN hi hc h)
  have hlt : ∀ i, (hi : i < (lecN N).length) → (lecN N)[i] < 64 := fun i hi => by have := lecN_lt hN (List.getElem_mem hi); omega
  obtain ⟨R, hRv⟩ : ∃ R, R = nxV (candB v X) N := ⟨_, rfl⟩
  rw [← hRv] at hno hyes ⊢
  have hlen64 : (lecN N).length ≤ 64 := by omega
  generalize candB v X = cand at *
  generalize fixG (fun t => onc (rA v) (rB v) t (fsts v).length) = clo at *
  clear hw hRv hR hG hr hp hll hnl hxI
  repeat' (first | (apply brI <;> intro hb hb2 <;> (try simp [-Int.not_le, -Int.not_lt, -Nat.not_le, -Nat.not_lt, -Nat.add_left_cancel_iff] at hb2)) | (refine draw_listA (by rfl) (by kernel_rfl) ?_) | (refine draw_listB (by simp [allocsOf, isAlloc]; rfl) (by kernel_rfl) ?_) | simp (maxSteps := 2000000) (disch := first | omega | assumption | simp [*]) [*, -Int.not_le, -Int.not_lt, -Nat.not_le, -Nat.not_lt, -Nat.add_left_cancel_iff, wrap_i64, wrap_u64, Tryz.f39, isP_len hv, isP_low hv, isI_cells hI, isI_one hI, isI_low hI, isI_len hI])
  refine W_loopG (lecN N).length (fun i st h => st 13 = .int .i64 i ∧ st 12 = .int .i64 (lecN N).length ∧ st 11 = w ∧ st 1 = v ∧ st 2 = .int .i64 X ∧ ∀ j, (h : j < i) → (hj : j < (lecN N).length) → cand (lecN N)[j] = false) ?_ ?_
  · simp [*]
  rintro i st h hi ⟨h13, h12, h11, h1, h2, hA⟩
  by_cases hi2 : i < (lecN N).length
  · have hy := hyes i hi2
    have hs64 := hlt i hi2
    have hwi := hnth i hi2
    have hiw : i < (xsOf w).length := by omega
    have hck := hcand _ hs64
    have hA2 : cand (lecN N)[i] = false → ∀ j, (h : j < i + 1) → (hj : j < (lecN N).length) → cand (lecN N)[j] = false := fun h9 j h hj => by
      by_cases e : j = i
      · subst e; exact h9
      · exact hA j (by omega) hj
    have hy2 : cand (lecN N)[i] = true → R = .tup [.int .i64 ((lecN N)[i] : Nat), .bool true] := fun h9 => hy h9 fun j h => hA j h (by omega)
    clear hy hA hyes hno hlt hnth
    generalize (lecN N)[i] = s at *
    have hcs := hcl s
    clear hcl hcand
    cases hbf : befB X s with
    | false =>
      rw [hbf, Bool.false_and] at hck
      have hA3 := hA2 hck
      clear hA2 hy2 hck
      repeat' (first | (apply brI <;> intro hb hb2 <;> (try simp [-Int.not_le, -Int.not_lt, -Nat.not_le, -Nat.not_lt, -Nat.add_left_cancel_iff] at hb2)) | (refine draw_listA (by rfl) (by kernel_rfl) ?_) | (refine draw_listB (by simp [allocsOf, isAlloc]; rfl) (by kernel_rfl) ?_) | simp (maxSteps := 2000000) (disch := first | omega | assumption | simp [*]) [*, -Int.not_le, -Int.not_lt, -Nat.not_le, -Nat.not_lt, -Nat.add_left_cancel_iff, wrap_i64, wrap_u64, h13, h12, h11, h1, h2, isI_len hI, isI_index hI, isI_load hI])
      refine cf_ext rfl (r := .bool (befB X s)) (beforeF_eq hX hs64) ?_
      repeat' (first | (apply brI <;> intro hb hb2 <;> (try simp [-Int.not_le, -Int.not_lt, -Nat.not_le, -Nat.not_lt, -Nat.add_left_cancel_iff] at hb2)) | (refine draw_listA (by rfl) (by kernel_rfl) ?_) | (refine draw_listB (by simp [allocsOf, isAlloc]; rfl) (by kernel_rfl) ?_) | simp (maxSteps := 2000000) (disch := first | omega | assumption | simp [*]) [*, -Int.not_le, -Int.not_lt, -Nat.not_le, -Nat.not_lt, -Nat.add_left_cancel_iff, wrap_i64, wrap_u64, h13, h12, h11, h1, h2, isI_len hI])
      exact hA3
    | true =>
      by_cases hcc : clo s = s
      · rw [hbf, hcc] at hck
        simp only [Bool.true_and, decide_true] at hck
        have hres := hy2 hck
        clear hA2 hy2 hck
        repeat' (first | (apply brI <;> intro hb hb2 <;> (try simp [-Int.not_le, -Int.not_lt, -Nat.not_le, -Nat.not_lt, -Nat.add_left_cancel_iff] at hb2)) | (refine draw_listA (by rfl) (by kernel_rfl) ?_) | (refine draw_listB (by simp [allocsOf, isAlloc]; rfl) (by kernel_rfl) ?_) | simp (maxSteps := 2000000) (disch := first | omega | assumption | simp [*]) [*, -Int.not_le, -Int.not_lt, -Nat.not_le, -Nat.not_lt, -Nat.add_left_cancel_iff, wrap_i64, wrap_u64, h13, h12, h11, h1, h2, isI_len hI, isI_index hI, isI_load hI])
        refine cf_ext rfl (r := .bool (befB X s)) (beforeF_eq hX hs64) ?_
        repeat' (first | (apply brI <;> intro hb hb2 <;> (try simp [-Int.not_le, -Int.not_lt, -Nat.not_le, -Nat.not_lt, -Nat.add_left_cancel_iff] at hb2)) | (refine draw_listA (by rfl) (by kernel_rfl) ?_) | (refine draw_listB (by simp [allocsOf, isAlloc]; rfl) (by kernel_rfl) ?_) | simp (maxSteps := 2000000) (disch := first | omega | assumption | simp [*]) [*, -Int.not_le, -Int.not_lt, -Nat.not_le, -Nat.not_lt, -Nat.add_left_cancel_iff, wrap_i64, wrap_u64, h13, h12, h11, h1, h2, isI_len hI, isP_low hv])
      · rw [hbf, decide_eq_false hcc] at hck
        simp only [Bool.and_false] at hck
        have hA3 := hA2 hck
        have hci : ¬ ((clo s : Nat) : Int) = s := by omega
        clear hA2 hy2 hck
        repeat' (first | (apply brI <;> intro hb hb2 <;> (try simp [-Int.not_le, -Int.not_lt, -Nat.not_le, -Nat.not_lt, -Nat.add_left_cancel_iff] at hb2)) | (refine draw_listA (by rfl) (by kernel_rfl) ?_) | (refine draw_listB (by simp [allocsOf, isAlloc]; rfl) (by kernel_rfl) ?_) | simp (maxSteps := 2000000) (disch := first | omega | assumption | simp [*]) [*, -Int.not_le, -Int.not_lt, -Nat.not_le, -Nat.not_lt, -Nat.add_left_cancel_iff, wrap_i64, wrap_u64, h13, h12, h11, h1, h2, isI_len hI, isI_index hI, isI_load hI])
        refine cf_ext rfl (r := .bool (befB X s)) (beforeF_eq hX hs64) ?_
        repeat' (first | (apply brI <;> intro hb hb2 <;> (try simp [-Int.not_le, -Int.not_lt, -Nat.not_le, -Nat.not_lt, -Nat.add_left_cancel_iff] at hb2)) | (refine draw_listA (by rfl) (by kernel_rfl) ?_) | (refine draw_listB (by simp [allocsOf, isAlloc]; rfl) (by kernel_rfl) ?_) | simp (maxSteps := 2000000) (disch := first | omega | assumption | simp [*]) [*, -Int.not_le, -Int.not_lt, -Nat.not_le, -Nat.not_lt, -Nat.add_left_cancel_iff, wrap_i64, wrap_u64, h13, h12, h11, h1, h2, isI_len hI, isP_low hv])
        exact hA3
  · obtain rfl : i = (lecN N).length := by omega
    have hres := hno fun j hj => hA j hj hj
    clear hA hyes hno hlt hnth hcl hcand
    repeat' (first | (apply brI <;> intro hb hb2 <;> (try simp [-Int.not_le, -Int.not_lt, -Nat.not_le, -Nat.not_lt, -Nat.add_left_cancel_iff] at hb2)) | (refine draw_listA (by rfl) (by kernel_rfl) ?_) | (refine draw_listB (by simp [allocsOf, isAlloc]; rfl) (by kernel_rfl) ?_) | simp (maxSteps := 2000000) (disch := first | omega | assumption | simp [*]) [*, -Int.not_le, -Int.not_lt, -Nat.not_le, -Nat.not_lt, -Nat.add_left_cancel_iff, wrap_i64, wrap_u64, h13, h12, h11, h1, h2])
theorem iNextM_s {N X : Nat} {v : AV} (hv : IsP v) (hc : NxtC N v X) {K : AV → Prop} {tg : Tg K} : CW env 39 [.int .i64 N, v, .int .i64 X] K tg ↔ K (nxV (candB v X) N) := callsTo_iff (iNextM_c hv hc)
attribute [simp] iNextM_s
theorem iNextModel_c {n x : Int} {v : AV} (hv : IsP v) : EvC env 10 [.int .i64 n, v, .int .i64 x] (nextM n v x) := by
  refine evC_of (F := Tryz.f10) rfl rfl (Nat.le_of_ble_eq_true rfl) ?_
  by_cases hc : NxtC n v x
  · have hV : nextM n v x = nxV (candB v x.toNat) n.toNat := if_pos hc
    rw [hV]
    have hr := hc.1
    have hp := hc.2
    have hx := pset64 hr.1.2 hp
    obtain ⟨N, rfl⟩ : ∃ N : Nat, n = N := ⟨n.toNat, by have := hr.1; omega⟩
    obtain ⟨X, rfl⟩ : ∃ X : Nat, x = X := ⟨x.toNat, by omega⟩
    have hd : decide (RulC N v) = true := decide_eq_true hr
    have hnm : ∀ (K : AV → Prop) (tg : Tg K), CW env 39 [.int .i64 N, v, .int .i64 X] K tg ↔ K (nxV (candB v X) N) := fun K tg => callsTo_iff (iNextM_c hv hc)
    have hf : ∃ a b, nxV (candB v X) N = .tup [.int .i64 a, .bool b] := by unfold nxV; split <;> exact ⟨_, _, rfl⟩
    obtain ⟨a, b, hf⟩ := hf
    rw [hf] at hnm
    simp only [Int.toNat_natCast, hf]
    clear hV hr hc hf
    repeat' (first | (apply brI <;> intro hb hb2 <;> (try simp [-Int.not_le, -Int.not_lt, -Nat.not_le, -Nat.not_lt, -Nat.add_left_cancel_iff] at hb2)) | (refine draw_listA (by rfl) (by kernel_rfl) ?_) | (refine draw_listB (by simp [allocsOf, isAlloc]; rfl) (by kernel_rfl) ?_) | simp (maxSteps := 2000000) (disch := first | omega | assumption | simp [*]) [*, -Int.not_le, -Int.not_lt, -Nat.not_le, -Nat.not_lt, -Nat.add_left_cancel_iff, wrap_i64, wrap_u64, Tryz.f10, isP_len hv, isP_low hv])
  · have hV : nextM n v x = .tup [.int .i64 0, .bool false] := if_neg hc
    rw [hV]
    by_cases hr : RulC n v
    · have hd : decide (RulC n v) = true := decide_eq_true hr
      have hp : PSet n x = false := by rw [Bool.eq_false_iff]; exact fun h => hc ⟨hr, h⟩
      clear hc hV hr
      repeat' (first | (apply brI <;> intro hb hb2 <;> (try simp [-Int.not_le, -Int.not_lt, -Nat.not_le, -Nat.not_lt, -Nat.add_left_cancel_iff] at hb2)) | (refine draw_listA (by rfl) (by kernel_rfl) ?_) | (refine draw_listB (by simp [allocsOf, isAlloc]; rfl) (by kernel_rfl) ?_) | simp (maxSteps := 2000000) (disch := first | omega | assumption | simp [*]) [*, -Int.not_le, -Int.not_lt, -Nat.not_le, -Nat.not_lt, -Nat.add_left_cancel_iff, wrap_i64, wrap_u64, Tryz.f10, isP_len hv, isP_low hv])
    · have hd : decide (RulC n v) = false := decide_eq_false hr
      clear hc hV hr
      repeat' (first | (apply brI <;> intro hb hb2 <;> (try simp [-Int.not_le, -Int.not_lt, -Nat.not_le, -Nat.not_lt, -Nat.add_left_cancel_iff] at hb2)) | (refine draw_listA (by rfl) (by kernel_rfl) ?_) | (refine draw_listB (by simp [allocsOf, isAlloc]; rfl) (by kernel_rfl) ?_) | simp (maxSteps := 2000000) (disch := first | omega | assumption | simp [*]) [*, -Int.not_le, -Int.not_lt, -Nat.not_le, -Nat.not_lt, -Nat.add_left_cancel_iff, wrap_i64, wrap_u64, Tryz.f10, isP_len hv, isP_low hv])
theorem iNextModel_s {n x : Int} {v : AV} (hv : IsP v) {K : AV → Prop} {tg : Tg K} : CW env 10 [.int .i64 n, v, .int .i64 x] K tg ↔ K (nextM n v x) := callsTo_iff (iNextModel_c hv)
attribute [simp] iNextModel_s
end Go.Proofs.YtlglhokpaplifaaGreatDoor
