/- Contexts beside and above each other, and sums. Conditions: none. -/
import Derived.Test.YtliecnadoklgoaaDoorBaseA
namespace Go.Proofs.YtliecnadoklgoaaDoor
open Ev
set_option linter.unusedVariables false
set_option linter.unusedSimpArgs false
set_option maxHeartbeats 4000000

/-- beside each other -/
def AppC (n : Int) (xs : List Int) (m : Int) (ys : List Int) : Prop := PCtx n xs ∧ PCtx m ys ∧ xs.length = ys.length ∧ n + m ≤ 6
noncomputable instance (n : Int) (xs : List Int) (m : Int) (ys : List Int) : Decidable (AppC n xs m ys) := Classical.propDecidable _
def appG (n : Int) (xs ys : List Int) (i : Nat) : Int := nth xs i + nth ys i * 2 ^ n.toNat
theorem sApposition_c {n m : Int} {u v : AV} (hu : IsI u) (hv : IsI v) : EvC env 9 [.agg [.int .i64 n, u], .agg [.int .i64 m, v]] (.tup [.agg [.int .i64 (if AppC n (xsOf u) m (xsOf v) then n + m else 0), bufR 3 65 0 (if AppC n (xsOf u) m (xsOf v) then tab (appG n (xsOf u) (xsOf v)) (xsOf u).length else [])], .bool (decide (AppC n (xsOf u) m (xsOf v)))]) := by
  refine evC_of (F := Tryd.f9) rfl rfl (Nat.le_of_ble_eq_true rfl) ?_
  have := hu.len
  have := hv.len
  by_cases hp : PCtx n (xsOf u)
  · by_cases hq : PCtx m (xsOf v)
    · have p1 := hp.1
      have p2 := hp.2.1
      have p3 := hp.2.2.1
      have q1 := hq.1
      have q2 := hq.2.1
      repeat' (first | (apply brI <;> intro hb hb2 <;> (try simp [-Int.not_le, -Int.not_lt, -Nat.not_le, -Nat.not_lt, -Nat.add_left_cancel_iff] at hb2)) | (refine draw_listA (by rfl) (by kernel_rfl) ?_) | (refine draw_listB (by simp [allocsOf, isAlloc]; rfl) (by kernel_rfl) ?_) | simp (maxSteps := 2000000) (disch := first | omega | assumption | simp [*]) [*, -Int.not_le, -Int.not_lt, -Nat.not_le, -Nat.not_lt, -Nat.add_left_cancel_iff, wrap_i64, wrap_u64, Tryd.f9, isI_cells hu, isI_one hu, isI_low hu, isI_len hu, isI_index hu, isI_load hu, isI_cells hv, isI_one hv, isI_low hv, isI_len hv, isI_index hv, isI_load hv])
      · have hc : ¬ AppC n (xsOf u) m (xsOf v) := fun h => by have := h.2.2.2; omega
        simp [hc]
      rotate_left
      · have hc : ¬ AppC n (xsOf u) m (xsOf v) := fun h => by have := h.2.2.1; omega
        simp [hc]
      have hc : AppC n (xsOf u) m (xsOf v) := ⟨hp, hq, by omega, by omega⟩
      refine W_loopG (xsOf u).length (fun i s h => s 7 = .int .i64 i ∧ s 2 = .vp 2 0 0 ∧ s 3 = .vp 3 0 0 ∧ s 4 = .vp 4 0 0 ∧ s 6 = .vp 6 0 0 ∧
        h 2 = some (.var 0 26 (.agg [.int .i64 n, u])) ∧ h 3 = some (.var 0 26 (.agg [.int .i64 m, v])) ∧ h 4 = some (.var 0 26 (.agg [.int .i64 0, .sl 0 .lit []])) ∧
        ∃ b, h 6 = some (.var 0 26 (.agg [.int .i64 (n + m), b])) ∧ Buf h 3 65 0 b (tab (appG n (xsOf u) (xsOf v)) i)) ?_ ?_
      · simp; exact buf_nil ..
      rintro i s h hi ⟨h7, h2, h3, h4, h6, e2, e3, e4, b, e6, hB⟩
      have o1 := hB.one
      have c1 := hB.cells
      by_cases hi2 : i < (xsOf u).length
      · have r1 := pctx_row hp hi2
        have r2 := pctx_row (k := i) hq (by omega)
        have r3 := mul_pow_le (y := nth (xsOf v) i) (n := n) (by omega) (by omega) (by omega)
        repeat' (first | (apply brI <;> intro hb hb2 <;> (try simp [-Int.not_le, -Int.not_lt, -Nat.not_le, -Nat.not_lt, -Nat.add_left_cancel_iff] at hb2)) | (refine draw_listA (by rfl) (by kernel_rfl) ?_) | (refine draw_listB (by simp [allocsOf, isAlloc]; rfl) (by kernel_rfl) ?_) | simp (maxSteps := 2000000) (disch := first | omega | assumption | simp [*]) [*, -Int.not_le, -Int.not_lt, -Nat.not_le, -Nat.not_lt, -Nat.add_left_cancel_iff, wrap_i64, wrap_u64, h7, h2, h3, h4, h6, e2, e3, e4, e6, isI_cells hu, isI_one hu, isI_low hu, isI_len hu, isI_index hu, isI_load hu, isI_cells hv, isI_one hv, isI_low hv, isI_len hv, isI_index hv, isI_load hv])
        refine wa_push hB (by simp) (by simp) (by simp; omega) ?_
        intro v2 h2' hB2 hk2
        have o2 := hB2.one
        have c2 := hB2.cells
        repeat' (first | (apply brI <;> intro hb hb2 <;> (try simp [-Int.not_le, -Int.not_lt, -Nat.not_le, -Nat.not_lt, -Nat.add_left_cancel_iff] at hb2)) | (refine draw_listA (by rfl) (by kernel_rfl) ?_) | (refine draw_listB (by simp [allocsOf, isAlloc]; rfl) (by kernel_rfl) ?_) | simp (maxSteps := 2000000) (disch := first | omega | assumption | simp [*]) [*, -Int.not_le, -Int.not_lt, -Nat.not_le, -Nat.not_lt, -Nat.add_left_cancel_iff, wrap_i64, wrap_u64, h7, h2, h3, h4, h6, e2, e3, e4, e6, isI_cells hu, isI_cells hv])
        · rw [tab_succ]; exact hB2.keep (by simp [hset])
        · omega
      · obtain rfl : i = (xsOf u).length := by omega
        repeat' (first | (apply brI <;> intro hb hb2 <;> (try simp [-Int.not_le, -Int.not_lt, -Nat.not_le, -Nat.not_lt, -Nat.add_left_cancel_iff] at hb2)) | (refine draw_listA (by rfl) (by kernel_rfl) ?_) | (refine draw_listB (by simp [allocsOf, isAlloc]; rfl) (by kernel_rfl) ?_) | simp (maxSteps := 2000000) (disch := first | omega | assumption | simp [*]) [*, -Int.not_le, -Int.not_lt, -Nat.not_le, -Nat.not_lt, -Nat.add_left_cancel_iff, wrap_i64, wrap_u64, h7, h2, h3, h4, h6, e2, e3, e4, e6, isI_cells hu, isI_one hu, isI_low hu, isI_len hu, isI_index hu, isI_load hu, isI_cells hv, isI_one hv, isI_low hv, isI_len hv, isI_index hv, isI_load hv])
        exact (hB.keep (by simp [hset])).expo
    · have hc : ¬ AppC n (xsOf u) m (xsOf v) := fun h => hq h.2.1
      repeat' (first | (apply brI <;> intro hb hb2 <;> (try simp [-Int.not_le, -Int.not_lt, -Nat.not_le, -Nat.not_lt, -Nat.add_left_cancel_iff] at hb2)) | (refine draw_listA (by rfl) (by kernel_rfl) ?_) | (refine draw_listB (by simp [allocsOf, isAlloc]; rfl) (by kernel_rfl) ?_) | simp (maxSteps := 2000000) (disch := first | omega | assumption | simp [*]) [*, -Int.not_le, -Int.not_lt, -Nat.not_le, -Nat.not_lt, -Nat.add_left_cancel_iff, wrap_i64, wrap_u64, Tryd.f9, isI_cells hu, isI_one hu, isI_low hu, isI_len hu, isI_index hu, isI_load hu, isI_cells hv, isI_one hv, isI_low hv, isI_len hv, isI_index hv, isI_load hv])
  · have hc : ¬ AppC n (xsOf u) m (xsOf v) := fun h => hp h.1
    repeat' (first | (apply brI <;> intro hb hb2 <;> (try simp [-Int.not_le, -Int.not_lt, -Nat.not_le, -Nat.not_lt, -Nat.add_left_cancel_iff] at hb2)) | (refine draw_listA (by rfl) (by kernel_rfl) ?_) | (refine draw_listB (by simp [allocsOf, isAlloc]; rfl) (by kernel_rfl) ?_) | simp (maxSteps := 2000000) (disch := first | omega | assumption | simp [*]) [*, -Int.not_le, -Int.not_lt, -Nat.not_le, -Nat.not_lt, -Nat.add_left_cancel_iff, wrap_i64, wrap_u64, Tryd.f9, isI_cells hu, isI_one hu, isI_low hu, isI_len hu, isI_index hu, isI_load hu, isI_cells hv, isI_one hv, isI_low hv, isI_len hv, isI_index hv, isI_load hv])
theorem sApposition_s {n m : Int} {u v : AV} (hu : IsI u) (hv : IsI v) {K : AV → Prop} {tg : Tg K} : CW env 9 [.agg [.int .i64 n, u], .agg [.int .i64 m, v]] K tg ↔ K (.tup [.agg [.int .i64 (if AppC n (xsOf u) m (xsOf v) then n + m else 0), bufR 3 65 0 (if AppC n (xsOf u) m (xsOf v) then tab (appG n (xsOf u) (xsOf v)) (xsOf u).length else [])], .bool (decide (AppC n (xsOf u) m (xsOf v)))]) := callsTo_iff (sApposition_c hu hv)
attribute [simp] sApposition_s
theorem checked_rows {n : Int} {xs : List Int} (h : PCtx n xs) : xs.length ≤ 8 := h.2.2.1
theorem pset_app {n m x y : Int} (hx : PSet n x = true) (hy : PSet m y = true) (h : n + m ≤ 8) : PSet (n + m) (x + y * 2 ^ n.toNat) = true := by
  obtain ⟨a1, a2, a3, a4⟩ := pset_iff.mp hx
  obtain ⟨b1, b2, b3, b4⟩ := pset_iff.mp hy
  rw [pset_iff]
  have e : (n + m).toNat = m.toNat + n.toNat := by omega
  have hp := pow_pos2 n.toNat
  refine ⟨by omega, by omega, by have := Int.mul_nonneg b3 (Int.le_of_lt hp); omega, ?_⟩
  rw [e, Int.pow_add]
  have : (y + 1) * 2 ^ n.toNat ≤ 2 ^ m.toNat * 2 ^ n.toNat := Int.mul_le_mul_of_nonneg_right (by omega) (Int.le_of_lt hp)
  rw [Int.add_mul] at this
  omega
theorem app_ctx {n m : Int} {xs ys : List Int} (hx : PCtx n xs) (hy : PCtx m ys) (hl : xs.length = ys.length) : PCtx (n + m) (tab (appG n xs ys) xs.length) ↔ n + m ≤ 6 := by
  constructor
  · exact fun h => h.2.1
  · intro h
    refine ⟨by have := hx.1; have := hy.1; omega, h, by simpa using hx.2.2.1, fun k hk => ?_⟩
    rw [tab_length] at hk
    rw [tab_nth _ hk]
    exact pset_app (hx.2.2.2 k hk) (hy.2.2.2 k (by omega)) (by omega)
theorem iApposition_c {n m : Int} {u v : AV} (hu : IsI u) (hv : IsI v) : EvC env 8 [.agg [.int .i64 n, u], .agg [.int .i64 m, v]] (.tup [.agg [.int .i64 (if AppC n (xsOf u) m (xsOf v) then n + m else 0), bufR 3 54 0 (if AppC n (xsOf u) m (xsOf v) then tab (appG n (xsOf u) (xsOf v)) (xsOf u).length else [])], .bool (decide (AppC n (xsOf u) m (xsOf v)))]) := by
  refine evC_of (F := Tryd.f8) rfl rfl (Nat.le_of_ble_eq_true rfl) ?_
  have := hu.len
  have := hv.len
  by_cases hp : PCtx n (xsOf u)
  · by_cases hq : PCtx m (xsOf v)
    · have p1 := hp.1
      have p2 := hp.2.1
      have p3 := hp.2.2.1
      have q1 := hq.1
      have q2 := hq.2.1
      repeat' (first | (apply brI <;> intro hb hb2 <;> (try simp [-Int.not_le, -Int.not_lt, -Nat.not_le, -Nat.not_lt, -Nat.add_left_cancel_iff] at hb2)) | (refine draw_listA (by rfl) (by kernel_rfl) ?_) | (refine draw_listB (by simp [allocsOf, isAlloc]; rfl) (by kernel_rfl) ?_) | simp (maxSteps := 2000000) (disch := first | omega | assumption | simp [*]) [*, -Int.not_le, -Int.not_lt, -Nat.not_le, -Nat.not_lt, -Nat.add_left_cancel_iff, wrap_i64, wrap_u64, Tryd.f8, isI_cells hu, isI_one hu, isI_low hu, isI_len hu, isI_index hu, isI_load hu, isI_cells hv, isI_one hv, isI_low hv, isI_len hv, isI_index hv, isI_load hv])
      · have hc : ¬ AppC n (xsOf u) m (xsOf v) := fun h => by have := h.2.2.1; omega
        simp [hc]
      refine W_loopG (xsOf u).length (fun i s h => s 36 = .int .i64 i ∧ s 35 = .int .i64 (xsOf u).length ∧ s 34 = u ∧ s 2 = .vp 2 0 0 ∧ s 3 = .vp 3 0 0 ∧ s 4 = .vp 4 0 0 ∧ s 6 = .vp 6 0 0 ∧
        h 2 = some (.var 0 26 (.agg [.int .i64 n, u])) ∧ h 3 = some (.var 0 26 (.agg [.int .i64 m, v])) ∧ h 4 = some (.var 0 26 (.agg [.int .i64 0, .sl 0 .lit []])) ∧
        ∃ b, h 6 = some (.var 0 26 (.agg [.int .i64 (n + m), b])) ∧ Buf h 3 54 0 b (tab (appG n (xsOf u) (xsOf v)) i)) ?_ ?_
      · simp; exact ⟨by omega, buf_nil ..⟩
      rintro i s h hi ⟨h36, h35, h34, h2, h3, h4, h6, e2, e3, e4, b, e6, hB⟩
      have o1 := hB.one
      have c1 := hB.cells
      by_cases hi2 : i < (xsOf u).length
      · have hi3 : i < (xsOf v).length := by omega
        have r1 := pctx_row hp hi2
        have r2 := pctx_row (k := i) hq (by omega)
        have r3 := mul_pow_le (y := nth (xsOf v) i) (n := n) (by omega) (by omega) (by omega)
        have hor := or_add (n := n.toNat) r1.1 r1.2.1 r2.1
        repeat' (first | (apply brI <;> intro hb hb2 <;> (try simp [-Int.not_le, -Int.not_lt, -Nat.not_le, -Nat.not_lt, -Nat.add_left_cancel_iff] at hb2)) | (refine draw_listA (by rfl) (by kernel_rfl) ?_) | (refine draw_listB (by simp [allocsOf, isAlloc]; rfl) (by kernel_rfl) ?_) | simp (maxSteps := 2000000) (disch := first | omega | assumption | simp [*]) [*, -Int.not_le, -Int.not_lt, -Nat.not_le, -Nat.not_lt, -Nat.add_left_cancel_iff, wrap_i64, wrap_u64, h36, h35, h34, h2, h3, h4, h6, e2, e3, e4, e6, bits_or, isI_cells hu, isI_one hu, isI_low hu, isI_len hu, isI_index hu, isI_load hu, isI_cells hv, isI_one hv, isI_low hv, isI_len hv, isI_index hv, isI_load hv])
        refine wa_push hB (by simp) (by simp) (by simp; omega) ?_
        intro v2 h2' hB2 hk2
        have o2 := hB2.one
        have c2 := hB2.cells
        repeat' (first | (apply brI <;> intro hb hb2 <;> (try simp [-Int.not_le, -Int.not_lt, -Nat.not_le, -Nat.not_lt, -Nat.add_left_cancel_iff] at hb2)) | (refine draw_listA (by rfl) (by kernel_rfl) ?_) | (refine draw_listB (by simp [allocsOf, isAlloc]; rfl) (by kernel_rfl) ?_) | simp (maxSteps := 2000000) (disch := first | omega | assumption | simp [*]) [*, -Int.not_le, -Int.not_lt, -Nat.not_le, -Nat.not_lt, -Nat.add_left_cancel_iff, wrap_i64, wrap_u64, h36, h35, h34, h2, h3, h4, h6, e2, e3, e4, e6, isI_cells hu, isI_cells hv])
        rw [tab_succ]; exact hB2.keep (by simp [hset])
      · obtain rfl : i = (xsOf u).length := by omega
        repeat' (first | (apply brI <;> intro hb hb2 <;> (try simp [-Int.not_le, -Int.not_lt, -Nat.not_le, -Nat.not_lt, -Nat.add_left_cancel_iff] at hb2)) | (refine draw_listA (by rfl) (by kernel_rfl) ?_) | (refine draw_listB (by simp [allocsOf, isAlloc]; rfl) (by kernel_rfl) ?_) | simp (maxSteps := 2000000) (disch := first | omega | assumption | simp [*]) [*, -Int.not_le, -Int.not_lt, -Nat.not_le, -Nat.not_lt, -Nat.add_left_cancel_iff, wrap_i64, wrap_u64, h36, h35, h34, h2, h3, h4, h6, e2, e3, e4, e6, isI_cells hu, isI_one hu, isI_low hu, isI_len hu, isI_index hu, isI_load hu, isI_cells hv, isI_one hv, isI_low hv, isI_len hv, isI_index hv, isI_load hv])
        refine cf_open rfl rfl (checked_o hB.one hB.cells hB.low (isI_bufC (by simp; omega)) (fun hT h2' hh => ?_) (fun hT h2' hh => ?_))
        · have hh2 : ∀ x, x < 100000 → h2' x = h x := fun x hx => hh x (by simp [farOff]; omega) (by simp [farOff]; omega)
          clear hh
          rw [xsOf_bufC, app_ctx hp hq (by omega)] at hT
          have hc : AppC n (xsOf u) m (xsOf v) := ⟨hp, hq, by omega, hT⟩
          repeat' (first | (apply brI <;> intro hb hb2 <;> (try simp [-Int.not_le, -Int.not_lt, -Nat.not_le, -Nat.not_lt, -Nat.add_left_cancel_iff] at hb2)) | (refine draw_listA (by rfl) (by kernel_rfl) ?_) | (refine draw_listB (by simp [allocsOf, isAlloc]; rfl) (by kernel_rfl) ?_) | simp (maxSteps := 2000000) (disch := first | omega | assumption | simp [*]) [*, -Int.not_le, -Int.not_lt, -Nat.not_le, -Nat.not_lt, -Nat.add_left_cancel_iff, wrap_i64, wrap_u64, e2, e3, e4, e6])
          exact (hB.keep (by simp [hset, hh2])).expo
        · have hh2 : ∀ x, x < 100000 → h2' x = h x := fun x hx => hh x (by simp [farOff]; omega) (by simp [farOff]; omega)
          clear hh
          rw [xsOf_bufC, app_ctx hp hq (by omega)] at hT
          have hc : ¬ AppC n (xsOf u) m (xsOf v) := fun h => hT h.2.2.2
          repeat' (first | (apply brI <;> intro hb hb2 <;> (try simp [-Int.not_le, -Int.not_lt, -Nat.not_le, -Nat.not_lt, -Nat.add_left_cancel_iff] at hb2)) | (refine draw_listA (by rfl) (by kernel_rfl) ?_) | (refine draw_listB (by simp [allocsOf, isAlloc]; rfl) (by kernel_rfl) ?_) | simp (maxSteps := 2000000) (disch := first | omega | assumption | simp [*]) [*, -Int.not_le, -Int.not_lt, -Nat.not_le, -Nat.not_lt, -Nat.add_left_cancel_iff, wrap_i64, wrap_u64, e2, e3, e4, e6])
    · have hc : ¬ AppC n (xsOf u) m (xsOf v) := fun h => hq h.2.1
      repeat' (first | (apply brI <;> intro hb hb2 <;> (try simp [-Int.not_le, -Int.not_lt, -Nat.not_le, -Nat.not_lt, -Nat.add_left_cancel_iff] at hb2)) | (refine draw_listA (by rfl) (by kernel_rfl) ?_) | (refine draw_listB (by simp [allocsOf, isAlloc]; rfl) (by kernel_rfl) ?_) | simp (maxSteps := 2000000) (disch := first | omega | assumption | simp [*]) [*, -Int.not_le, -Int.not_lt, -Nat.not_le, -Nat.not_lt, -Nat.add_left_cancel_iff, wrap_i64, wrap_u64, Tryd.f8, isI_cells hu, isI_one hu, isI_low hu, isI_len hu, isI_index hu, isI_load hu, isI_cells hv, isI_one hv, isI_low hv, isI_len hv, isI_index hv, isI_load hv])
  · have hc : ¬ AppC n (xsOf u) m (xsOf v) := fun h => hp h.1
    repeat' (first | (apply brI <;> intro hb hb2 <;> (try simp [-Int.not_le, -Int.not_lt, -Nat.not_le, -Nat.not_lt, -Nat.add_left_cancel_iff] at hb2)) | (refine draw_listA (by rfl) (by kernel_rfl) ?_) | (refine draw_listB (by simp [allocsOf, isAlloc]; rfl) (by kernel_rfl) ?_) | simp (maxSteps := 2000000) (disch := first | omega | assumption | simp [*]) [*, -Int.not_le, -Int.not_lt, -Nat.not_le, -Nat.not_lt, -Nat.add_left_cancel_iff, wrap_i64, wrap_u64, Tryd.f8, isI_cells hu, isI_one hu, isI_low hu, isI_len hu, isI_index hu, isI_load hu, isI_cells hv, isI_one hv, isI_low hv, isI_len hv, isI_index hv, isI_load hv])
theorem iApposition_s {n m : Int} {u v : AV} (hu : IsI u) (hv : IsI v) {K : AV → Prop} {tg : Tg K} : CW env 8 [.agg [.int .i64 n, u], .agg [.int .i64 m, v]] K tg ↔ K (.tup [.agg [.int .i64 (if AppC n (xsOf u) m (xsOf v) then n + m else 0), bufR 3 54 0 (if AppC n (xsOf u) m (xsOf v) then tab (appG n (xsOf u) (xsOf v)) (xsOf u).length else [])], .bool (decide (AppC n (xsOf u) m (xsOf v)))]) := callsTo_iff (iApposition_c hu hv)
attribute [simp] iApposition_s
end Go.Proofs.YtliecnadoklgoaaDoor
