/- Sums of contexts. Conditions: none. -/
import Derived.Test.YtliecnadoklgoaaDoorSum
namespace Go.Proofs.YtliecnadoklgoaaDoor
open Ev
set_option linter.unusedVariables false
set_option linter.unusedSimpArgs false
set_option maxHeartbeats 4000000

theorem l1Bit_c {b : Bool} : EvC env 42 [.bool b] (.int .i64 (if b then 1 else 0)) := by
  refine evC_of (F := Tryd.f42) rfl rfl (Nat.le_of_ble_eq_true rfl) ?_
  repeat' (first | (apply brI <;> intro hb hb2 <;> (try simp [-Int.not_le, -Int.not_lt, -Nat.not_le, -Nat.not_lt, -Nat.add_left_cancel_iff] at hb2)) | (refine draw_listA (by rfl) (by kernel_rfl) ?_) | (refine draw_listB (by simp [allocsOf, isAlloc]; rfl) (by kernel_rfl) ?_) | simp (maxSteps := 2000000) (disch := first | omega | assumption | simp [*]) [*, -Int.not_le, -Int.not_lt, -Nat.not_le, -Nat.not_lt, -Nat.add_left_cancel_iff, wrap_i64, wrap_u64, Tryd.f42])
theorem l1Bit_s {b : Bool} {K : AV → Prop} {tg : Tg K} : CW env 42 [.bool b] K tg ↔ K (.int .i64 (if b then 1 else 0)) := callsTo_iff (l1Bit_c )
attribute [simp] l1Bit_s
/-- all elements -/
def fullI (n : Int) : Int := 2 ^ n.toNat - 1
theorem full_range {n : Int} (h0 : 0 ≤ n) (h1 : n ≤ 8) : 0 ≤ fullI n ∧ fullI n < 2 ^ n.toNat ∧ fullI n < 256 := by
  have := pow8 h1
  have hp := pow_pos2 n.toNat
  unfold fullI; omega
theorem full_pset {n : Int} (h0 : 0 ≤ n) (h1 : n ≤ 8) : PSet n (fullI n) = true := by
  rw [pset_iff]; have := full_range h0 h1; exact ⟨h0, h1, this.1, this.2.1⟩
/-- a sum of contexts -/
def SumC (n : Int) (xs : List Int) (m : Int) (ys : List Int) : Prop := PCtx n xs ∧ PCtx m ys ∧ n + m ≤ 6 ∧ xs.length + ys.length ≤ 8
noncomputable instance (n : Int) (xs : List Int) (m : Int) (ys : List Int) : Decidable (SumC n xs m ys) := Classical.propDecidable _
def bitI (b : Bool) : Int := if b then 1 else 0
def sumA (b : Bool) (n m : Int) (xs : List Int) (i : Nat) : Int := nth xs i + bitI b * fullI m * 2 ^ n.toNat
def sumB (b : Bool) (n : Int) (ys : List Int) (i : Nat) : Int := bitI b * fullI n + nth ys i * 2 ^ n.toNat
def sumR (b : Bool) (n m : Int) (xs ys : List Int) : List Int := tab (sumA b n m xs) xs.length ++ tab (sumB b n ys) ys.length
def sumK (xs : List Int) (a b : Nat) : Nat := if xs.length = 0 then b else a
theorem sumK_or (xs : List Int) (a b : Nat) : sumK xs a b = a ∨ sumK xs a b = b := by unfold sumK; split <;> simp
theorem bit_range (b : Bool) : 0 ≤ bitI b ∧ bitI b ≤ 1 := by cases b <;> simp [bitI]
theorem bitfull {b : Bool} {n : Int} (h0 : 0 ≤ n) (h1 : n ≤ 8) : PSet n (bitI b * fullI n) = true := by
  cases b
  · simp only [bitI, Bool.false_eq_true, if_false, Int.zero_mul, pset_iff]; exact ⟨h0, h1, Int.le_refl _, pow_pos2 _⟩
  · simp only [bitI, if_true, Int.one_mul]; exact full_pset h0 h1
theorem l18Sum_c {n m : Int} {u v : AV} {b : Bool} (hu : IsI u) (hv : IsI v) : EvC env 23 [.agg [.int .i64 n, u], .agg [.int .i64 m, v], .bool b] (.tup [.agg [.int .i64 (if SumC n (xsOf u) m (xsOf v) then n + m else 0), bufR 3 (sumK (xsOf u) 70 98) 0 (if SumC n (xsOf u) m (xsOf v) then sumR b n m (xsOf u) (xsOf v) else [])], .bool (decide (SumC n (xsOf u) m (xsOf v)))]) := by
  refine evC_of (F := Tryd.f23) rfl rfl (Nat.le_of_ble_eq_true rfl) ?_
  have := hu.len
  have := hv.len
  by_cases hp : PCtx n (xsOf u)
  · by_cases hq : PCtx m (xsOf v)
    · have p1 := hp.1
      have p2 := hp.2.1
      have p3 := hp.2.2.1
      have q1 := hq.1
      have q2 := hq.2.1
      have q3 := hq.2.2.1
      have fn := full_range p1 (show n ≤ 8 by omega)
      have fm := full_range q1 (show m ≤ 8 by omega)
      have bn := pset_lt (bitfull (b := b) p1 (show n ≤ 8 by omega))
      have bm := pset_lt (bitfull (b := b) q1 (show m ≤ 8 by omega))
      have bb := bit_range b
      have hn8 : n ≤ 8 := by omega
      have hm8 : m ≤ 8 := by omega
      have efn : (2 : Int) ^ n.toNat - 1 = fullI n := rfl
      have efm : (2 : Int) ^ m.toNat - 1 = fullI m := rfl
      have eb : (if b = true then (1 : Int) else 0) = bitI b := rfl
      have r0 := mul_pow_le (y := bitI b * fullI m) (n := n) bm.1 (by omega) hn8
      repeat' (first | (apply brI <;> intro hb hb2 <;> (try simp [-Int.not_le, -Int.not_lt, -Nat.not_le, -Nat.not_lt, -Nat.add_left_cancel_iff] at hb2)) | (refine draw_listA (by rfl) (by kernel_rfl) ?_) | (refine draw_listB (by simp [allocsOf, isAlloc]; rfl) (by kernel_rfl) ?_) | simp (maxSteps := 2000000) (disch := first | omega | assumption | simp [*]) [*, -Int.not_le, -Int.not_lt, -Nat.not_le, -Nat.not_lt, -Nat.add_left_cancel_iff, wrap_i64, wrap_u64, Tryd.f23, isI_cells hu, isI_one hu, isI_low hu, isI_len hu, isI_index hu, isI_load hu, isI_cells hv, isI_one hv, isI_low hv, isI_len hv, isI_index hv, isI_load hv])
      · have hc : ¬ SumC n (xsOf u) m (xsOf v) := fun h => by have := h.2.2.2; omega
        simp [hc]
      rotate_left
      · have hc : ¬ SumC n (xsOf u) m (xsOf v) := fun h => by have := h.2.2.1; omega
        simp [hc]
      have hc : SumC n (xsOf u) m (xsOf v) := ⟨hp, hq, by omega, by omega⟩
      have hlen : (xsOf u).length + (xsOf v).length ≤ 8 := by omega
      refine W_loopG (xsOf u).length (fun i s h => s 9 = .int .i64 i ∧ s 2 = .bool b ∧ s 3 = .vp 3 0 0 ∧ s 4 = .vp 4 0 0 ∧ s 6 = .vp 6 0 0 ∧ s 8 = .vp 8 0 0 ∧
        h 3 = some (.var 0 26 (.agg [.int .i64 n, u])) ∧ h 4 = some (.var 0 26 (.agg [.int .i64 m, v])) ∧ h 6 = some (.var 0 26 (.agg [.int .i64 0, .sl 0 .lit []])) ∧
        ∃ w, h 8 = some (.var 0 26 (.agg [.int .i64 (n + m), w])) ∧ Buf h 3 70 0 w (tab (sumA b n m (xsOf u)) i)) ?_ ?_
      · simp; exact buf_nil ..
      rintro i s h hi ⟨h9, h2, h3, h4, h6, h8, e3, e4, e6, w, e8, hB⟩
      have o1 := hB.one
      have c1 := hB.cells
      by_cases hi2 : i < (xsOf u).length
      · have r1 := pctx_row hp hi2
        repeat' (first | (apply brI <;> intro hb hb2 <;> (try simp [-Int.not_le, -Int.not_lt, -Nat.not_le, -Nat.not_lt, -Nat.add_left_cancel_iff] at hb2)) | (refine draw_listA (by rfl) (by kernel_rfl) ?_) | (refine draw_listB (by simp [allocsOf, isAlloc]; rfl) (by kernel_rfl) ?_) | simp (maxSteps := 2000000) (disch := first | omega | assumption | simp [*]) [*, -Int.not_le, -Int.not_lt, -Nat.not_le, -Nat.not_lt, -Nat.add_left_cancel_iff, wrap_i64, wrap_u64, h9, h2, h3, h4, h6, h8, e3, e4, e6, e8, isI_cells hu, isI_one hu, isI_low hu, isI_len hu, isI_index hu, isI_load hu, isI_cells hv, isI_one hv, isI_low hv, isI_len hv, isI_index hv, isI_load hv])
        refine wa_push hB (by simp) (by simp) (by simp; omega) ?_
        intro v2 h2' hB2 hk2
        have o2 := hB2.one
        have c2 := hB2.cells
        repeat' (first | (apply brI <;> intro hb hb2 <;> (try simp [-Int.not_le, -Int.not_lt, -Nat.not_le, -Nat.not_lt, -Nat.add_left_cancel_iff] at hb2)) | (refine draw_listA (by rfl) (by kernel_rfl) ?_) | (refine draw_listB (by simp [allocsOf, isAlloc]; rfl) (by kernel_rfl) ?_) | simp (maxSteps := 2000000) (disch := first | omega | assumption | simp [*]) [*, -Int.not_le, -Int.not_lt, -Nat.not_le, -Nat.not_lt, -Nat.add_left_cancel_iff, wrap_i64, wrap_u64, h9, h2, h3, h4, h6, h8, e3, e4, e6, e8, isI_cells hu, isI_cells hv])
        rw [tab_succ]; exact hB2.keep (by simp [hset])
      · obtain rfl : i = (xsOf u).length := by omega
        repeat' (first | (apply brI <;> intro hb hb2 <;> (try simp [-Int.not_le, -Int.not_lt, -Nat.not_le, -Nat.not_lt, -Nat.add_left_cancel_iff] at hb2)) | (refine draw_listA (by rfl) (by kernel_rfl) ?_) | (refine draw_listB (by simp [allocsOf, isAlloc]; rfl) (by kernel_rfl) ?_) | simp (maxSteps := 2000000) (disch := first | omega | assumption | simp [*]) [*, -Int.not_le, -Int.not_lt, -Nat.not_le, -Nat.not_lt, -Nat.add_left_cancel_iff, wrap_i64, wrap_u64, h9, h2, h3, h4, h6, h8, e3, e4, e6, e8, isI_cells hu, isI_one hu, isI_low hu, isI_len hu, isI_index hu, isI_load hu, isI_cells hv, isI_one hv, isI_low hv, isI_len hv, isI_index hv, isI_load hv])
        have hB' : Buf h 3 (sumK (xsOf u) 70 98) 0 w (tab (sumA b n m (xsOf u)) (xsOf u).length) := by have := hB.rekey 98; rw [tab_length] at this; exact this
        have hkk := sumK_or (xsOf u) 70 98
        refine W_loopG (xsOf v).length (fun j s h => s 10 = .int .i64 j ∧ s 2 = .bool b ∧ s 3 = .vp 3 0 0 ∧ s 4 = .vp 4 0 0 ∧ s 6 = .vp 6 0 0 ∧ s 8 = .vp 8 0 0 ∧
          h 3 = some (.var 0 26 (.agg [.int .i64 n, u])) ∧ h 4 = some (.var 0 26 (.agg [.int .i64 m, v])) ∧ h 6 = some (.var 0 26 (.agg [.int .i64 0, .sl 0 .lit []])) ∧
          ∃ w, h 8 = some (.var 0 26 (.agg [.int .i64 (n + m), w])) ∧ Buf h 3 (sumK (xsOf u) 70 98) 0 w (tab (sumA b n m (xsOf u)) (xsOf u).length ++ tab (sumB b n (xsOf v)) j)) ?_ ?_
        · simp [*]
        rintro j s3 h3' hj ⟨k10, k2, k3, k4, k6, k8, f3, f4, f6, w2, f8, hB2⟩
        have o2 := hB2.one
        have c2 := hB2.cells
        by_cases hj2 : j < (xsOf v).length
        · have r2 := pctx_row hq hj2
          have r3 := mul_pow_le (y := nth (xsOf v) j) (n := n) (by omega) (by omega) hn8
          repeat' (first | (apply brI <;> intro hb hb2 <;> (try simp [-Int.not_le, -Int.not_lt, -Nat.not_le, -Nat.not_lt, -Nat.add_left_cancel_iff] at hb2)) | (refine draw_listA (by rfl) (by kernel_rfl) ?_) | (refine draw_listB (by simp [allocsOf, isAlloc]; rfl) (by kernel_rfl) ?_) | simp (maxSteps := 2000000) (disch := first | omega | assumption | simp [*]) [*, -Int.not_le, -Int.not_lt, -Nat.not_le, -Nat.not_lt, -Nat.add_left_cancel_iff, wrap_i64, wrap_u64, k10, k2, k3, k4, k6, k8, f3, f4, f6, f8, isI_cells hu, isI_one hu, isI_low hu, isI_len hu, isI_index hu, isI_load hu, isI_cells hv, isI_one hv, isI_low hv, isI_len hv, isI_index hv, isI_load hv])
          refine wa_push' hB2 (by simp) (by simp) (fun e => ?_) (by simp; omega) ?_
          · have h0 : (xsOf u).length = 0 := by have := congrArg List.length e; simp only [List.length_append, tab_length, List.length_nil] at this; omega
            unfold sumK; rw [if_pos h0]
          intro v3 h4' hB3 hk3
          have o3 := hB3.one
          have c3 := hB3.cells
          have q3 := hk3 3 (by omega)
          have q4 := hk3 4 (by omega)
          have q6 := hk3 6 (by omega)
          have q8 := hk3 8 (by omega)
          repeat' (first | (apply brI <;> intro hb hb2 <;> (try simp [-Int.not_le, -Int.not_lt, -Nat.not_le, -Nat.not_lt, -Nat.add_left_cancel_iff] at hb2)) | (refine draw_listA (by rfl) (by kernel_rfl) ?_) | (refine draw_listB (by simp [allocsOf, isAlloc]; rfl) (by kernel_rfl) ?_) | simp (maxSteps := 2000000) (disch := first | omega | assumption | simp [*]) [*, -Int.not_le, -Int.not_lt, -Nat.not_le, -Nat.not_lt, -Nat.add_left_cancel_iff, wrap_i64, wrap_u64, k10, k2, k3, k4, k6, k8, f3, f4, f6, f8, isI_cells hu, isI_cells hv])
          rw [tab_succ, ← List.append_assoc]; exact hB3.keep (by simp only [hset]; rw [if_neg (by omega)])
        · obtain rfl : j = (xsOf v).length := by omega
          repeat' (first | (apply brI <;> intro hb hb2 <;> (try simp [-Int.not_le, -Int.not_lt, -Nat.not_le, -Nat.not_lt, -Nat.add_left_cancel_iff] at hb2)) | (refine draw_listA (by rfl) (by kernel_rfl) ?_) | (refine draw_listB (by simp [allocsOf, isAlloc]; rfl) (by kernel_rfl) ?_) | simp (maxSteps := 2000000) (disch := first | omega | assumption | simp [*]) [*, -Int.not_le, -Int.not_lt, -Nat.not_le, -Nat.not_lt, -Nat.add_left_cancel_iff, wrap_i64, wrap_u64, k10, k2, k3, k4, k6, k8, f3, f4, f6, f8, isI_cells hu, isI_one hu, isI_low hu, isI_len hu, isI_index hu, isI_load hu, isI_cells hv, isI_one hv, isI_low hv, isI_len hv, isI_index hv, isI_load hv])
          rw [(hB2.keep (by simp only [hset]; rw [if_neg (by omega)])).expo]; rfl
    · have hc : ¬ SumC n (xsOf u) m (xsOf v) := fun h => hq h.2.1
      repeat' (first | (apply brI <;> intro hb hb2 <;> (try simp [-Int.not_le, -Int.not_lt, -Nat.not_le, -Nat.not_lt, -Nat.add_left_cancel_iff] at hb2)) | (refine draw_listA (by rfl) (by kernel_rfl) ?_) | (refine draw_listB (by simp [allocsOf, isAlloc]; rfl) (by kernel_rfl) ?_) | simp (maxSteps := 2000000) (disch := first | omega | assumption | simp [*]) [*, -Int.not_le, -Int.not_lt, -Nat.not_le, -Nat.not_lt, -Nat.add_left_cancel_iff, wrap_i64, wrap_u64, Tryd.f23, isI_cells hu, isI_one hu, isI_low hu, isI_len hu, isI_index hu, isI_load hu, isI_cells hv, isI_one hv, isI_low hv, isI_len hv, isI_index hv, isI_load hv])
  · have hc : ¬ SumC n (xsOf u) m (xsOf v) := fun h => hp h.1
    repeat' (first | (apply brI <;> intro hb hb2 <;> (try simp [-Int.not_le, -Int.not_lt, -Nat.not_le, -Nat.not_lt, -Nat.add_left_cancel_iff] at hb2)) | (refine draw_listA (by rfl) (by kernel_rfl) ?_) | (refine draw_listB (by simp [allocsOf, isAlloc]; rfl) (by kernel_rfl) ?_) | simp (maxSteps := 2000000) (disch := first | omega | assumption | simp [*]) [*, -Int.not_le, -Int.not_lt, -Nat.not_le, -Nat.not_lt, -Nat.add_left_cancel_iff, wrap_i64, wrap_u64, Tryd.f23, isI_cells hu, isI_one hu, isI_low hu, isI_len hu, isI_index hu, isI_load hu, isI_cells hv, isI_one hv, isI_low hv, isI_len hv, isI_index hv, isI_load hv])
theorem l18Sum_s {n m : Int} {u v : AV} {b : Bool} (hu : IsI u) (hv : IsI v) {K : AV → Prop} {tg : Tg K} : CW env 23 [.agg [.int .i64 n, u], .agg [.int .i64 m, v], .bool b] K tg ↔ K (.tup [.agg [.int .i64 (if SumC n (xsOf u) m (xsOf v) then n + m else 0), bufR 3 (sumK (xsOf u) 70 98) 0 (if SumC n (xsOf u) m (xsOf v) then sumR b n m (xsOf u) (xsOf v) else [])], .bool (decide (SumC n (xsOf u) m (xsOf v)))]) := callsTo_iff (l18Sum_c hu hv)
attribute [simp] l18Sum_s
theorem sum_ctx {b : Bool} {n m : Int} {xs ys : List Int} (hx : PCtx n xs) (hy : PCtx m ys) : PCtx (n + m) (sumR b n m xs ys) ↔ n + m ≤ 6 ∧ xs.length + ys.length ≤ 8 := by
  constructor
  · intro h
    refine ⟨h.2.1, ?_⟩
    have := h.2.2.1
    simpa [sumR] using this
  · rintro ⟨h, hl⟩
    refine ⟨by have := hx.1; have := hy.1; omega, h, by simpa [sumR] using hl, fun k hk => ?_⟩
    have hn := hx.1
    have hm := hy.1
    have hk2 : k < xs.length + ys.length := by simpa [sumR] using hk
    by_cases h1 : k < xs.length
    · have e : nth (sumR b n m xs ys) k = sumA b n m xs k := by
        have h3 : (sumR b n m xs ys)[k]? = some (sumA b n m xs k) := by unfold sumR; rw [List.getElem?_append_left (by simpa using h1), tab_get _ h1]
        rw [nth_get? hk] at h3; exact Option.some.inj h3
      rw [e]
      exact pset_app (hx.2.2.2 k h1) (bitfull hm (by omega)) (by omega)
    · have e : nth (sumR b n m xs ys) k = sumB b n ys (k - xs.length) := by
        have h3 : (sumR b n m xs ys)[k]? = some (sumB b n ys (k - xs.length)) := by unfold sumR; rw [List.getElem?_append_right (by simp; omega), tab_length, tab_get _ (by omega)]
        rw [nth_get? hk] at h3; exact Option.some.inj h3
      rw [e]
      exact pset_app (bitfull hn (by omega)) (hy.2.2.2 _ (by omega)) (by omega)
theorem together_c {n m : Int} {u v : AV} {b : Bool} (hu : IsI u) (hv : IsI v) : EvC env 22 [.agg [.int .i64 n, u], .agg [.int .i64 m, v], .bool b] (.tup [.agg [.int .i64 (if SumC n (xsOf u) m (xsOf v) then n + m else 0), bufR 3 (sumK (xsOf u) 53 72) 0 (if SumC n (xsOf u) m (xsOf v) then sumR b n m (xsOf u) (xsOf v) else [])], .bool (decide (SumC n (xsOf u) m (xsOf v)))]) := by
  refine evC_of (F := Tryd.f22) rfl rfl (Nat.le_of_ble_eq_true rfl) ?_
  have := hu.len
  have := hv.len
  by_cases hp : PCtx n (xsOf u)
  · by_cases hq : PCtx m (xsOf v)
    · have p1 := hp.1
      have p2 := hp.2.1
      have p3 := hp.2.2.1
      have q1 := hq.1
      have q2 := hq.2.1
      have q3 := hq.2.2.1
      have hn8 : n ≤ 8 := by omega
      have hm8 : m ≤ 8 := by omega
      have fn := full_range p1 hn8
      have fm := full_range q1 hm8
      have bn := pset_lt (bitfull (b := b) p1 hn8)
      have bm := pset_lt (bitfull (b := b) q1 hm8)
      have bn2 := (pset_iff.mp (bitfull (b := b) p1 hn8)).2.2.2
      have efn : (2 : Int) ^ n.toNat - 1 = fullI n := rfl
      have efm : (2 : Int) ^ m.toNat - 1 = fullI m := rfl
      have r0 := mul_pow_le (y := bitI b * fullI m) (n := n) bm.1 (by omega) hn8
      have bt : b = true → bitI b * fullI m * 2 ^ n.toNat = fullI m * 2 ^ n.toNat ∧ bitI b * fullI n = fullI n := by rintro rfl; simp [bitI]
      have bf : b = false → bitI b * fullI m * 2 ^ n.toNat = 0 ∧ bitI b * fullI n = 0 := by rintro rfl; simp [bitI]
      repeat' (first | (apply brI <;> intro hb hb2 <;> (try simp [-Int.not_le, -Int.not_lt, -Nat.not_le, -Nat.not_lt, -Nat.add_left_cancel_iff] at hb2)) | (refine draw_listA (by rfl) (by kernel_rfl) ?_) | (refine draw_listB (by simp [allocsOf, isAlloc]; rfl) (by kernel_rfl) ?_) | simp (maxSteps := 2000000) (disch := first | omega | assumption | simp [*]) [*, -Int.not_le, -Int.not_lt, -Nat.not_le, -Nat.not_lt, -Nat.add_left_cancel_iff, wrap_i64, wrap_u64, Tryd.f22, isI_cells hu, isI_one hu, isI_low hu, isI_len hu, isI_index hu, isI_load hu, isI_cells hv, isI_one hv, isI_low hv, isI_len hv, isI_index hv, isI_load hv])
      all_goals (
        refine W_loopG (xsOf u).length (fun i s h => s 43 = .int .i64 i ∧ s 42 = .int .i64 (xsOf u).length ∧ s 41 = u ∧ s 2 = .bool b ∧ s 3 = .vp 3 0 0 ∧ s 4 = .vp 4 0 0 ∧ s 6 = .vp 6 0 0 ∧ s 10 = .vp 10 0 0 ∧ s 8 = .int .i64 (bitI b * fullI m * 2 ^ n.toNat) ∧ s 9 = .int .i64 (bitI b * fullI n) ∧ h 3 = some (.var 0 26 (.agg [.int .i64 n, u])) ∧ h 4 = some (.var 0 26 (.agg [.int .i64 m, v])) ∧ h 6 = some (.var 0 26 (.agg [.int .i64 0, .sl 0 .lit []])) ∧
        ∃ w, h 10 = some (.var 0 26 (.agg [.int .i64 (n + m), w])) ∧ Buf h 3 53 0 w (tab (sumA b n m (xsOf u)) i)) ?_ ?_
        · first
          | (obtain ⟨g1, g2⟩ := bt (by assumption); simp [g1, g2]; exact buf_nil ..)
          | (obtain ⟨g1, g2⟩ := bf (by assumption); simp [g1, g2]; exact buf_nil ..)
        clear hb hb2
        rintro i s h hi ⟨h43, h42, h41, h2, h3, h4, h6, h10, h8, h9, e3, e4, e6, w, e10, hB⟩
        have o1 := hB.one
        have c1 := hB.cells
        by_cases hi2 : i < (xsOf u).length
        · have r1 := pctx_row hp hi2
          have hor := or_add (n := n.toNat) r1.1 r1.2.1 bm.1
          repeat' (first | (apply brI <;> intro hb hb2 <;> (try simp [-Int.not_le, -Int.not_lt, -Nat.not_le, -Nat.not_lt, -Nat.add_left_cancel_iff] at hb2)) | (refine draw_listA (by rfl) (by kernel_rfl) ?_) | (refine draw_listB (by simp [allocsOf, isAlloc]; rfl) (by kernel_rfl) ?_) | simp (maxSteps := 2000000) (disch := first | omega | assumption | simp [*]) [*, -Int.not_le, -Int.not_lt, -Nat.not_le, -Nat.not_lt, -Nat.add_left_cancel_iff, wrap_i64, wrap_u64, h43, h42, h41, h2, h3, h4, h6, h10, h8, h9, e3, e4, e6, e10, bits_or, isI_cells hu, isI_one hu, isI_low hu, isI_len hu, isI_index hu, isI_load hu, isI_cells hv, isI_one hv, isI_low hv, isI_len hv, isI_index hv, isI_load hv])
          refine wa_push hB (by simp) (by simp) (by simp; omega) ?_
          intro v2 h2' hB2 hk2
          have o2 := hB2.one
          have c2 := hB2.cells
          repeat' (first | (apply brI <;> intro hb hb2 <;> (try simp [-Int.not_le, -Int.not_lt, -Nat.not_le, -Nat.not_lt, -Nat.add_left_cancel_iff] at hb2)) | (refine draw_listA (by rfl) (by kernel_rfl) ?_) | (refine draw_listB (by simp [allocsOf, isAlloc]; rfl) (by kernel_rfl) ?_) | simp (maxSteps := 2000000) (disch := first | omega | assumption | simp [*]) [*, -Int.not_le, -Int.not_lt, -Nat.not_le, -Nat.not_lt, -Nat.add_left_cancel_iff, wrap_i64, wrap_u64, h43, h42, h41, h2, h3, h4, h6, h10, h8, h9, e3, e4, e6, e10, isI_cells hu, isI_cells hv])
          rw [tab_succ]; exact hB2.keep (by simp [hset])
        · obtain rfl : i = (xsOf u).length := by omega
          repeat' (first | (apply brI <;> intro hb hb2 <;> (try simp [-Int.not_le, -Int.not_lt, -Nat.not_le, -Nat.not_lt, -Nat.add_left_cancel_iff] at hb2)) | (refine draw_listA (by rfl) (by kernel_rfl) ?_) | (refine draw_listB (by simp [allocsOf, isAlloc]; rfl) (by kernel_rfl) ?_) | simp (maxSteps := 2000000) (disch := first | omega | assumption | simp [*]) [*, -Int.not_le, -Int.not_lt, -Nat.not_le, -Nat.not_lt, -Nat.add_left_cancel_iff, wrap_i64, wrap_u64, h43, h42, h41, h2, h3, h4, h6, h10, h8, h9, e3, e4, e6, e10, isI_cells hu, isI_one hu, isI_low hu, isI_len hu, isI_index hu, isI_load hu, isI_cells hv, isI_one hv, isI_low hv, isI_len hv, isI_index hv, isI_load hv])
          have hB' : Buf h 3 (sumK (xsOf u) 53 72) 0 w (tab (sumA b n m (xsOf u)) (xsOf u).length) := by have := hB.rekey 72; rw [tab_length] at this; exact this
          have hkk := sumK_or (xsOf u) 53 72
          refine W_loopG (xsOf v).length (fun j s h => s 59 = .int .i64 j ∧ s 58 = .int .i64 (xsOf v).length ∧ s 57 = v ∧ s 2 = .bool b ∧ s 3 = .vp 3 0 0 ∧ s 4 = .vp 4 0 0 ∧ s 6 = .vp 6 0 0 ∧ s 10 = .vp 10 0 0 ∧ s 8 = .int .i64 (bitI b * fullI m * 2 ^ n.toNat) ∧ s 9 = .int .i64 (bitI b * fullI n) ∧ h 3 = some (.var 0 26 (.agg [.int .i64 n, u])) ∧ h 4 = some (.var 0 26 (.agg [.int .i64 m, v])) ∧ h 6 = some (.var 0 26 (.agg [.int .i64 0, .sl 0 .lit []])) ∧
        ∃ w, h 10 = some (.var 0 26 (.agg [.int .i64 (n + m), w])) ∧ Buf h 3 (sumK (xsOf u) 53 72) 0 w (tab (sumA b n m (xsOf u)) (xsOf u).length ++ tab (sumB b n (xsOf v)) j)) ?_ ?_
          · simp [*]
          rintro j s3 h3' hj ⟨k59, k58, k57, k2, k3, k4, k6, k10, k8, k9, f3, f4, f6, w2, f10, hB2⟩
          have o2 := hB2.one
          have c2 := hB2.cells
          by_cases hj2 : j < (xsOf v).length
          · have r2 := pctx_row hq hj2
            have r3 := mul_pow_le (y := nth (xsOf v) j) (n := n) (by omega) (by omega) hn8
            have hor2 := or_add (n := n.toNat) bn.1 bn2 r2.1
            rw [Nat.or_comm] at hor2
            repeat' (first | (apply brI <;> intro hb hb2 <;> (try simp [-Int.not_le, -Int.not_lt, -Nat.not_le, -Nat.not_lt, -Nat.add_left_cancel_iff] at hb2)) | (refine draw_listA (by rfl) (by kernel_rfl) ?_) | (refine draw_listB (by simp [allocsOf, isAlloc]; rfl) (by kernel_rfl) ?_) | simp (maxSteps := 2000000) (disch := first | omega | assumption | simp [*]) [*, -Int.not_le, -Int.not_lt, -Nat.not_le, -Nat.not_lt, -Nat.add_left_cancel_iff, wrap_i64, wrap_u64, k59, k58, k57, k2, k3, k4, k6, k10, k8, k9, f3, f4, f6, f10, bits_or, isI_cells hu, isI_one hu, isI_low hu, isI_len hu, isI_index hu, isI_load hu, isI_cells hv, isI_one hv, isI_low hv, isI_len hv, isI_index hv, isI_load hv])
            refine wa_push' hB2 (by simp) (by simp) (fun e => ?_) (by simp; omega) ?_
            · have h0 : (xsOf u).length = 0 := by have := congrArg List.length e; simp only [List.length_append, tab_length, List.length_nil] at this; omega
              unfold sumK; rw [if_pos h0]
            intro v3 h4' hB3 hk3
            have o3 := hB3.one
            have c3 := hB3.cells
            have q3 := hk3 3 (by omega)
            have q4 := hk3 4 (by omega)
            have q6 := hk3 6 (by omega)
            have q10 := hk3 10 (by omega)
            repeat' (first | (apply brI <;> intro hb hb2 <;> (try simp [-Int.not_le, -Int.not_lt, -Nat.not_le, -Nat.not_lt, -Nat.add_left_cancel_iff] at hb2)) | (refine draw_listA (by rfl) (by kernel_rfl) ?_) | (refine draw_listB (by simp [allocsOf, isAlloc]; rfl) (by kernel_rfl) ?_) | simp (maxSteps := 2000000) (disch := first | omega | assumption | simp [*]) [*, -Int.not_le, -Int.not_lt, -Nat.not_le, -Nat.not_lt, -Nat.add_left_cancel_iff, wrap_i64, wrap_u64, k59, k58, k57, k2, k3, k4, k6, k10, k8, k9, f3, f4, f6, f10, isI_cells hu, isI_cells hv])
            rw [tab_succ, ← List.append_assoc]; exact hB3.keep (by simp only [hset]; rw [if_neg (by omega)])
          · obtain rfl : j = (xsOf v).length := by omega
            repeat' (first | (apply brI <;> intro hb hb2 <;> (try simp [-Int.not_le, -Int.not_lt, -Nat.not_le, -Nat.not_lt, -Nat.add_left_cancel_iff] at hb2)) | (refine draw_listA (by rfl) (by kernel_rfl) ?_) | (refine draw_listB (by simp [allocsOf, isAlloc]; rfl) (by kernel_rfl) ?_) | simp (maxSteps := 2000000) (disch := first | omega | assumption | simp [*]) [*, -Int.not_le, -Int.not_lt, -Nat.not_le, -Nat.not_lt, -Nat.add_left_cancel_iff, wrap_i64, wrap_u64, k59, k58, k57, k2, k3, k4, k6, k10, k8, k9, f3, f4, f6, f10, isI_cells hu, isI_one hu, isI_low hu, isI_len hu, isI_index hu, isI_load hu, isI_cells hv, isI_one hv, isI_low hv, isI_len hv, isI_index hv, isI_load hv])
            refine cf_open rfl rfl (checked_o hB2.one hB2.cells hB2.low (isI_bufC (by simp; unfold top63; omega)) (fun hT h2' hh => ?_) (fun hT h2' hh => ?_))
            · have hh2 : ∀ x, x < 100000 → h2' x = h3' x := fun x hx => hh x (by simp [farOff]; omega) (by simp [farOff]; omega)
              clear hh
              rw [xsOf_bufC] at hT
              rw [show tab (sumA b n m (xsOf u)) (xsOf u).length ++ tab (sumB b n (xsOf v)) (xsOf v).length = sumR b n m (xsOf u) (xsOf v) from rfl, sum_ctx hp hq] at hT
              have hc : SumC n (xsOf u) m (xsOf v) := ⟨hp, hq, hT.1, hT.2⟩
              repeat' (first | (apply brI <;> intro hb hb2 <;> (try simp [-Int.not_le, -Int.not_lt, -Nat.not_le, -Nat.not_lt, -Nat.add_left_cancel_iff] at hb2)) | (refine draw_listA (by rfl) (by kernel_rfl) ?_) | (refine draw_listB (by simp [allocsOf, isAlloc]; rfl) (by kernel_rfl) ?_) | simp (maxSteps := 2000000) (disch := first | omega | assumption | simp [*]) [*, -Int.not_le, -Int.not_lt, -Nat.not_le, -Nat.not_lt, -Nat.add_left_cancel_iff, wrap_i64, wrap_u64, k59, k58, k57, k2, k3, k4, k6, k10, k8, k9, f3, f4, f6, f10])
              rw [(hB2.keep (by simp only [hset]; rw [if_neg (by omega), hh2 _ (by omega)])).expo]; rfl
            · have hh2 : ∀ x, x < 100000 → h2' x = h3' x := fun x hx => hh x (by simp [farOff]; omega) (by simp [farOff]; omega)
              clear hh
              rw [xsOf_bufC] at hT
              rw [show tab (sumA b n m (xsOf u)) (xsOf u).length ++ tab (sumB b n (xsOf v)) (xsOf v).length = sumR b n m (xsOf u) (xsOf v) from rfl, sum_ctx hp hq] at hT
              have hc : ¬ SumC n (xsOf u) m (xsOf v) := fun h => hT ⟨h.2.2.1, h.2.2.2⟩
              repeat' (first | (apply brI <;> intro hb hb2 <;> (try simp [-Int.not_le, -Int.not_lt, -Nat.not_le, -Nat.not_lt, -Nat.add_left_cancel_iff] at hb2)) | (refine draw_listA (by rfl) (by kernel_rfl) ?_) | (refine draw_listB (by simp [allocsOf, isAlloc]; rfl) (by kernel_rfl) ?_) | simp (maxSteps := 2000000) (disch := first | omega | assumption | simp [*]) [*, -Int.not_le, -Int.not_lt, -Nat.not_le, -Nat.not_lt, -Nat.add_left_cancel_iff, wrap_i64, wrap_u64, k59, k58, k57, k2, k3, k4, k6, k10, k8, k9, f3, f4, f6, f10]))
    · have hc : ¬ SumC n (xsOf u) m (xsOf v) := fun h => hq h.2.1
      repeat' (first | (apply brI <;> intro hb hb2 <;> (try simp [-Int.not_le, -Int.not_lt, -Nat.not_le, -Nat.not_lt, -Nat.add_left_cancel_iff] at hb2)) | (refine draw_listA (by rfl) (by kernel_rfl) ?_) | (refine draw_listB (by simp [allocsOf, isAlloc]; rfl) (by kernel_rfl) ?_) | simp (maxSteps := 2000000) (disch := first | omega | assumption | simp [*]) [*, -Int.not_le, -Int.not_lt, -Nat.not_le, -Nat.not_lt, -Nat.add_left_cancel_iff, wrap_i64, wrap_u64, Tryd.f22, isI_cells hu, isI_one hu, isI_low hu, isI_len hu, isI_index hu, isI_load hu, isI_cells hv, isI_one hv, isI_low hv, isI_len hv, isI_index hv, isI_load hv])
  · have hc : ¬ SumC n (xsOf u) m (xsOf v) := fun h => hp h.1
    repeat' (first | (apply brI <;> intro hb hb2 <;> (try simp [-Int.not_le, -Int.not_lt, -Nat.not_le, -Nat.not_lt, -Nat.add_left_cancel_iff] at hb2)) | (refine draw_listA (by rfl) (by kernel_rfl) ?_) | (refine draw_listB (by simp [allocsOf, isAlloc]; rfl) (by kernel_rfl) ?_) | simp (maxSteps := 2000000) (disch := first | omega | assumption | simp [*]) [*, -Int.not_le, -Int.not_lt, -Nat.not_le, -Nat.not_lt, -Nat.add_left_cancel_iff, wrap_i64, wrap_u64, Tryd.f22, isI_cells hu, isI_one hu, isI_low hu, isI_len hu, isI_index hu, isI_load hu, isI_cells hv, isI_one hv, isI_low hv, isI_len hv, isI_index hv, isI_load hv])
theorem together_s {n m : Int} {u v : AV} {b : Bool} (hu : IsI u) (hv : IsI v) {K : AV → Prop} {tg : Tg K} : CW env 22 [.agg [.int .i64 n, u], .agg [.int .i64 m, v], .bool b] K tg ↔ K (.tup [.agg [.int .i64 (if SumC n (xsOf u) m (xsOf v) then n + m else 0), bufR 3 (sumK (xsOf u) 53 72) 0 (if SumC n (xsOf u) m (xsOf v) then sumR b n m (xsOf u) (xsOf v) else [])], .bool (decide (SumC n (xsOf u) m (xsOf v)))]) := callsTo_iff (together_c hu hv)
attribute [simp] together_s
theorem sDirectSum_c {n m : Int} {u v : AV} (hu : IsI u) (hv : IsI v) : EvC env 7 [.agg [.int .i64 n, u], .agg [.int .i64 m, v]] (.tup [.agg [.int .i64 (if SumC n (xsOf u) m (xsOf v) then n + m else 0), bufC 0 (if SumC n (xsOf u) m (xsOf v) then sumR true n m (xsOf u) (xsOf v) else [])], .bool (decide (SumC n (xsOf u) m (xsOf v)))]) := by
  refine evC_of (F := Tryd.f7) rfl rfl (Nat.le_of_ble_eq_true rfl) ?_
  repeat' (first | (apply brI <;> intro hb hb2 <;> (try simp [-Int.not_le, -Int.not_lt, -Nat.not_le, -Nat.not_lt, -Nat.add_left_cancel_iff] at hb2)) | (refine draw_listA (by rfl) (by kernel_rfl) ?_) | (refine draw_listB (by simp [allocsOf, isAlloc]; rfl) (by kernel_rfl) ?_) | simp (maxSteps := 2000000) (disch := first | omega | assumption | simp [*]) [*, -Int.not_le, -Int.not_lt, -Nat.not_le, -Nat.not_lt, -Nat.add_left_cancel_iff, wrap_i64, wrap_u64, Tryd.f7, isI_cells hu, isI_one hu, isI_low hu, isI_cells hv, isI_one hv, isI_low hv])
theorem sDirectSum_s {n m : Int} {u v : AV} (hu : IsI u) (hv : IsI v) {K : AV → Prop} {tg : Tg K} : CW env 7 [.agg [.int .i64 n, u], .agg [.int .i64 m, v]] K tg ↔ K (.tup [.agg [.int .i64 (if SumC n (xsOf u) m (xsOf v) then n + m else 0), bufC 0 (if SumC n (xsOf u) m (xsOf v) then sumR true n m (xsOf u) (xsOf v) else [])], .bool (decide (SumC n (xsOf u) m (xsOf v)))]) := callsTo_iff (sDirectSum_c hu hv)
attribute [simp] sDirectSum_s
theorem iDirectSum_c {n m : Int} {u v : AV} (hu : IsI u) (hv : IsI v) : EvC env 6 [.agg [.int .i64 n, u], .agg [.int .i64 m, v]] (.tup [.agg [.int .i64 (if SumC n (xsOf u) m (xsOf v) then n + m else 0), rowX 1 0 3 8 (ints (if SumC n (xsOf u) m (xsOf v) then sumR true n m (xsOf u) (xsOf v) else []))], .bool (decide (SumC n (xsOf u) m (xsOf v)))]) := by
  refine evC_of (F := Tryd.f6) rfl rfl (Nat.le_of_ble_eq_true rfl) ?_
  repeat' (first | (apply brI <;> intro hb hb2 <;> (try simp [-Int.not_le, -Int.not_lt, -Nat.not_le, -Nat.not_lt, -Nat.add_left_cancel_iff] at hb2)) | (refine draw_listA (by rfl) (by kernel_rfl) ?_) | (refine draw_listB (by simp [allocsOf, isAlloc]; rfl) (by kernel_rfl) ?_) | simp (maxSteps := 2000000) (disch := first | omega | assumption | simp [*]) [*, -Int.not_le, -Int.not_lt, -Nat.not_le, -Nat.not_lt, -Nat.add_left_cancel_iff, wrap_i64, wrap_u64, Tryd.f6, isI_cells hu, isI_one hu, isI_low hu, isI_cells hv, isI_one hv, isI_low hv])
  refine cf_ctxb (by simpa [isI_low hu, isI_low hv] using together_c (n := n) (m := m) (b := true) hu hv) (ownR_buf ..) (by simp) rfl ?_
  intro v2 h2 hR hh
  have o2 := hR.one
  have c2 := hR.cells
  repeat' (first | (apply brI <;> intro hb hb2 <;> (try simp [-Int.not_le, -Int.not_lt, -Nat.not_le, -Nat.not_lt, -Nat.add_left_cancel_iff] at hb2)) | (refine draw_listA (by rfl) (by kernel_rfl) ?_) | (refine draw_listB (by simp [allocsOf, isAlloc]; rfl) (by kernel_rfl) ?_) | simp (maxSteps := 2000000) (disch := first | omega | assumption | simp [*]) [*, -Int.not_le, -Int.not_lt, -Nat.not_le, -Nat.not_lt, -Nat.add_left_cancel_iff, wrap_i64, wrap_u64, isI_cells hu, isI_one hu, isI_low hu, isI_cells hv, isI_one hv, isI_low hv])
  rw [(hR.keep (by simp [hset])).expoI]
theorem iDirectSum_s {n m : Int} {u v : AV} (hu : IsI u) (hv : IsI v) {K : AV → Prop} {tg : Tg K} : CW env 6 [.agg [.int .i64 n, u], .agg [.int .i64 m, v]] K tg ↔ K (.tup [.agg [.int .i64 (if SumC n (xsOf u) m (xsOf v) then n + m else 0), rowX 1 0 3 8 (ints (if SumC n (xsOf u) m (xsOf v) then sumR true n m (xsOf u) (xsOf v) else []))], .bool (decide (SumC n (xsOf u) m (xsOf v)))]) := callsTo_iff (iDirectSum_c hu hv)
attribute [simp] iDirectSum_s
theorem sDisjointSum_c {n m : Int} {u v : AV} (hu : IsI u) (hv : IsI v) : EvC env 13 [.agg [.int .i64 n, u], .agg [.int .i64 m, v]] (.tup [.agg [.int .i64 (if SumC n (xsOf u) m (xsOf v) then n + m else 0), bufC 0 (if SumC n (xsOf u) m (xsOf v) then sumR false n m (xsOf u) (xsOf v) else [])], .bool (decide (SumC n (xsOf u) m (xsOf v)))]) := by
  refine evC_of (F := Tryd.f13) rfl rfl (Nat.le_of_ble_eq_true rfl) ?_
  repeat' (first | (apply brI <;> intro hb hb2 <;> (try simp [-Int.not_le, -Int.not_lt, -Nat.not_le, -Nat.not_lt, -Nat.add_left_cancel_iff] at hb2)) | (refine draw_listA (by rfl) (by kernel_rfl) ?_) | (refine draw_listB (by simp [allocsOf, isAlloc]; rfl) (by kernel_rfl) ?_) | simp (maxSteps := 2000000) (disch := first | omega | assumption | simp [*]) [*, -Int.not_le, -Int.not_lt, -Nat.not_le, -Nat.not_lt, -Nat.add_left_cancel_iff, wrap_i64, wrap_u64, Tryd.f13, isI_cells hu, isI_one hu, isI_low hu, isI_cells hv, isI_one hv, isI_low hv])
theorem sDisjointSum_s {n m : Int} {u v : AV} (hu : IsI u) (hv : IsI v) {K : AV → Prop} {tg : Tg K} : CW env 13 [.agg [.int .i64 n, u], .agg [.int .i64 m, v]] K tg ↔ K (.tup [.agg [.int .i64 (if SumC n (xsOf u) m (xsOf v) then n + m else 0), bufC 0 (if SumC n (xsOf u) m (xsOf v) then sumR false n m (xsOf u) (xsOf v) else [])], .bool (decide (SumC n (xsOf u) m (xsOf v)))]) := callsTo_iff (sDisjointSum_c hu hv)
attribute [simp] sDisjointSum_s
theorem iDisjointSum_c {n m : Int} {u v : AV} (hu : IsI u) (hv : IsI v) : EvC env 12 [.agg [.int .i64 n, u], .agg [.int .i64 m, v]] (.tup [.agg [.int .i64 (if SumC n (xsOf u) m (xsOf v) then n + m else 0), rowX 1 0 3 8 (ints (if SumC n (xsOf u) m (xsOf v) then sumR false n m (xsOf u) (xsOf v) else []))], .bool (decide (SumC n (xsOf u) m (xsOf v)))]) := by
  refine evC_of (F := Tryd.f12) rfl rfl (Nat.le_of_ble_eq_true rfl) ?_
  repeat' (first | (apply brI <;> intro hb hb2 <;> (try simp [-Int.not_le, -Int.not_lt, -Nat.not_le, -Nat.not_lt, -Nat.add_left_cancel_iff] at hb2)) | (refine draw_listA (by rfl) (by kernel_rfl) ?_) | (refine draw_listB (by simp [allocsOf, isAlloc]; rfl) (by kernel_rfl) ?_) | simp (maxSteps := 2000000) (disch := first | omega | assumption | simp [*]) [*, -Int.not_le, -Int.not_lt, -Nat.not_le, -Nat.not_lt, -Nat.add_left_cancel_iff, wrap_i64, wrap_u64, Tryd.f12, isI_cells hu, isI_one hu, isI_low hu, isI_cells hv, isI_one hv, isI_low hv])
  refine cf_ctxb (by simpa [isI_low hu, isI_low hv] using together_c (n := n) (m := m) (b := false) hu hv) (ownR_buf ..) (by simp) rfl ?_
  intro v2 h2 hR hh
  have o2 := hR.one
  have c2 := hR.cells
  repeat' (first | (apply brI <;> intro hb hb2 <;> (try simp [-Int.not_le, -Int.not_lt, -Nat.not_le, -Nat.not_lt, -Nat.add_left_cancel_iff] at hb2)) | (refine draw_listA (by rfl) (by kernel_rfl) ?_) | (refine draw_listB (by simp [allocsOf, isAlloc]; rfl) (by kernel_rfl) ?_) | simp (maxSteps := 2000000) (disch := first | omega | assumption | simp [*]) [*, -Int.not_le, -Int.not_lt, -Nat.not_le, -Nat.not_lt, -Nat.add_left_cancel_iff, wrap_i64, wrap_u64, isI_cells hu, isI_one hu, isI_low hu, isI_cells hv, isI_one hv, isI_low hv])
  rw [(hR.keep (by simp [hset])).expoI]
theorem iDisjointSum_s {n m : Int} {u v : AV} (hu : IsI u) (hv : IsI v) {K : AV → Prop} {tg : Tg K} : CW env 12 [.agg [.int .i64 n, u], .agg [.int .i64 m, v]] K tg ↔ K (.tup [.agg [.int .i64 (if SumC n (xsOf u) m (xsOf v) then n + m else 0), rowX 1 0 3 8 (ints (if SumC n (xsOf u) m (xsOf v) then sumR false n m (xsOf u) (xsOf v) else []))], .bool (decide (SumC n (xsOf u) m (xsOf v)))]) := callsTo_iff (iDisjointSum_c hu hv)
attribute [simp] iDisjointSum_s
end Go.Proofs.YtliecnadoklgoaaDoor
