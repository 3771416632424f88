/- What is a table: the reference's answer and the program's. Conditions: none. -/
import Derived.Test.YtppfgokonlloaaaBaseA
import Derived.Test.YtppfgokonlloaaaEvData2
namespace Go.Proofs.Ytppfgokonlloaaa
open Ev
set_option linter.unusedVariables false
set_option linter.unusedSimpArgs false
set_option maxHeartbeats 4000000

/-- how much a slice of slices holds -/
def szL (v : AV) : Nat := (xssOf v).length + sumTo (xssOf v) (xssOf v).length
theorem szIntSS_c {v : AV} {n : Int} (hv : IsLL v) (h0 : 0 ≤ n) (h1 : n ≤ 1048576) : EvC env 36 [v, .int .i64 n] (.int .i64 (if n < szL v then -1 else n - szL v)) := by
  refine evC_of (F := Try.f36) rfl rfl (Nat.le_of_ble_eq_true rfl) ?_
  have := hv.len
  unfold top63 at this
  unfold szL
  repeat' (first | (apply brI <;> intro hb hb2 <;> (try simp [-Int.not_le, -Int.not_lt, -Nat.not_le, -Nat.not_lt, -Nat.add_left_cancel_iff] at hb2)) | (refine draw_listA (by rfl) (by kernel_rfl) ?_) | (refine draw_listB (by simp [allocsOf, isAlloc]; rfl) (by kernel_rfl) ?_) | simp (maxSteps := 2000000) (disch := first | omega | assumption | simp [*]) [*, -Int.not_le, -Int.not_lt, -Nat.not_le, -Nat.not_lt, -Nat.add_left_cancel_iff, wrap_i64, wrap_u64, Try.f36, isLL_len hv, isLL_low hv])
  · omega
  refine W_loopP (xssOf v).length (fun i s => s 5 = .int .i64 i ∧ s 0 = v ∧ s 1 = .int .i64 (n - (xssOf v).length - sumTo (xssOf v) i) ∧ 0 ≤ n - (xssOf v).length - sumTo (xssOf v) i) rfl ?_ ?_
  · simp [sumTo]; omega
  rintro i s hi ⟨h5, h0, h1, hl⟩
  by_cases hi2 : i < (xssOf v).length
  · have hr := hv.row i hi2
    have hx := xssOf_row hi2
    have hm := sumTo_mono (xssOf v) (i := i + 1) (j := (xssOf v).length) (by omega)
    have he : sumTo (xssOf v) (i + 1) = sumTo (xssOf v) i + (nthL (xssOf v) i).length := rfl
    repeat' (first | (apply brI <;> intro hb hb2 <;> (try simp [-Int.not_le, -Int.not_lt, -Nat.not_le, -Nat.not_lt, -Nat.add_left_cancel_iff] at hb2)) | (refine draw_listA (by rfl) (by kernel_rfl) ?_) | (refine draw_listB (by simp [allocsOf, isAlloc]; rfl) (by kernel_rfl) ?_) | simp (maxSteps := 2000000) (disch := first | omega | assumption | simp [*]) [*, -Int.not_le, -Int.not_lt, -Nat.not_le, -Nat.not_lt, -Nat.add_left_cancel_iff, wrap_i64, wrap_u64, h5, h0, h1, isLL_len hv, isLL_low hv, isLL_index hv, isLL_load hv, isI_low hr])
    · split at hb2 <;> omega
    · split at hb2 <;> (split <;> omega)
  · obtain rfl : i = (xssOf v).length := by omega
    repeat' (first | (apply brI <;> intro hb hb2 <;> (try simp [-Int.not_le, -Int.not_lt, -Nat.not_le, -Nat.not_lt, -Nat.add_left_cancel_iff] at hb2)) | (refine draw_listA (by rfl) (by kernel_rfl) ?_) | (refine draw_listB (by simp [allocsOf, isAlloc]; rfl) (by kernel_rfl) ?_) | simp (maxSteps := 2000000) (disch := first | omega | assumption | simp [*]) [*, -Int.not_le, -Int.not_lt, -Nat.not_le, -Nat.not_lt, -Nat.add_left_cancel_iff, wrap_i64, wrap_u64, h5, h0, h1, isLL_len hv, isLL_low hv])
    omega
theorem szIntSS_s {v : AV} {n : Int} (hv : IsLL v) (h0 : 0 ≤ n) (h1 : n ≤ 1048576) {K : AV → Prop} {tg : Tg K} : CW env 36 [v, .int .i64 n] K tg ↔ K (.int .i64 (if n < szL v then -1 else n - szL v)) := callsTo_iff (szIntSS_c hv h0 h1)
attribute [simp] szIntSS_s
theorem eqIntSS_c {u v : AV} (hu : IsLL u) (hv : IsLL v) : EvC env 43 [u, v] (.bool (decide (xssOf u = xssOf v))) := by
  refine evC_of (F := Try.f43) rfl rfl (Nat.le_of_ble_eq_true rfl) ?_
  have := hu.len
  have := hv.len
  repeat' (first | (apply brI <;> intro hb hb2 <;> (try simp [-Int.not_le, -Int.not_lt, -Nat.not_le, -Nat.not_lt, -Nat.add_left_cancel_iff] at hb2)) | (refine draw_listA (by rfl) (by kernel_rfl) ?_) | (refine draw_listB (by simp [allocsOf, isAlloc]; rfl) (by kernel_rfl) ?_) | simp (maxSteps := 2000000) (disch := first | omega | assumption | simp [*]) [*, -Int.not_le, -Int.not_lt, -Nat.not_le, -Nat.not_lt, -Nat.add_left_cancel_iff, wrap_i64, wrap_u64, Try.f43, isLL_len hu, isLL_low hu, isLL_len hv, isLL_low hv])
  · intro e; exact hb2 (by rw [e])
  refine W_loopP (xssOf u).length (fun i s => s 5 = .int .i64 i ∧ s 0 = u ∧ s 1 = v ∧ ∀ j, j < i → nthL (xssOf u) j = nthL (xssOf v) j) rfl ?_ ?_
  · simp
  rintro i s hi ⟨h5, h0, h1, hj⟩
  by_cases hi2 : i < (xssOf u).length
  · have hr := hu.row i hi2
    have hq := hv.row i (by omega)
    have hx := xssOf_row hi2
    have hy := xssOf_row (v := v) (n := i) (by omega)
    repeat' (first | (apply brI <;> intro hb hb2 <;> (try simp [-Int.not_le, -Int.not_lt, -Nat.not_le, -Nat.not_lt, -Nat.add_left_cancel_iff] at hb2)) | (refine draw_listA (by rfl) (by kernel_rfl) ?_) | (refine draw_listB (by simp [allocsOf, isAlloc]; rfl) (by kernel_rfl) ?_) | simp (maxSteps := 2000000) (disch := first | omega | assumption | simp [*]) [*, -Int.not_le, -Int.not_lt, -Nat.not_le, -Nat.not_lt, -Nat.add_left_cancel_iff, wrap_i64, wrap_u64, h5, h0, h1, isLL_len hu, isLL_index hu, isLL_load hu, isLL_index hv, isLL_load hv, isI_low hr, isI_low hq])
    · intro e; apply hb2; rw [e]
    · intro j hj2
      by_cases e : j = i
      · subst e; exact hb2
      · exact hj j (by omega)
    · omega
  · obtain rfl : i = (xssOf u).length := by omega
    repeat' (first | (apply brI <;> intro hb hb2 <;> (try simp [-Int.not_le, -Int.not_lt, -Nat.not_le, -Nat.not_lt, -Nat.add_left_cancel_iff] at hb2)) | (refine draw_listA (by rfl) (by kernel_rfl) ?_) | (refine draw_listB (by simp [allocsOf, isAlloc]; rfl) (by kernel_rfl) ?_) | simp (maxSteps := 2000000) (disch := first | omega | assumption | simp [*]) [*, -Int.not_le, -Int.not_lt, -Nat.not_le, -Nat.not_lt, -Nat.add_left_cancel_iff, wrap_i64, wrap_u64, h5, h0, h1, isLL_len hu])
    exact nthL_ext (by omega) hj
theorem eqIntSS_s {u v : AV} (hu : IsLL u) (hv : IsLL v) {K : AV → Prop} {tg : Tg K} : CW env 43 [u, v] K tg ↔ K (.bool (decide (xssOf u = xssOf v))) := callsTo_iff (eqIntSS_c hu hv)
attribute [simp] eqIntSS_s
/-- a table -/
structure TabOk (v : AV) (lv : AV) (rs : AV) : Prop where
  v : v = .agg [lv, rs]
  lv : IsI lv
  rs : IsLL rs
def LvK (lv : List Int) (k : Nat) : Prop := 1 ≤ nth lv k ∧ nth lv k ≤ 5
def RwK (lv row : List Int) (k : Nat) : Prop := 0 ≤ nth row k ∧ nth row k ≤ nth lv k - 1
def RwP (lv row : List Int) : Prop := row.length = lv.length ∧ ∀ k, k < lv.length → RwK lv row k
/-- what is a table -/
def PTab (lv : List Int) (xss : List (List Int)) : Prop := lv.length ≤ 6 ∧ xss.length ≤ 8 ∧ (∀ k, k < lv.length → LvK lv k) ∧ ∀ i, i < xss.length → RwP lv (nthL xss i)
noncomputable instance (lv : List Int) (xss : List (List Int)) : Decidable (PTab lv xss) := Classical.propDecidable _
theorem szTable_c {u v : AV} {n : Int} (hu : IsI u) (hv : IsLL v) (h0 : 0 ≤ n) (h1 : n ≤ 1048576) : EvC env 15 [.agg [u, v], .int .i64 n] (.int .i64 (if n < (xsOf u).length + szL v then -1 else n - ((xsOf u).length + szL v))) := by
  refine evC_of (F := Try.f15) rfl rfl (Nat.le_of_ble_eq_true rfl) ?_
  have := hu.len
  have := hv.len
  repeat' (first | (apply brI <;> intro hb hb2 <;> (try simp [-Int.not_le, -Int.not_lt, -Nat.not_le, -Nat.not_lt, -Nat.add_left_cancel_iff] at hb2)) | (refine draw_listA (by rfl) (by kernel_rfl) ?_) | (refine draw_listB (by simp [allocsOf, isAlloc]; rfl) (by kernel_rfl) ?_) | simp (maxSteps := 2000000) (disch := first | omega | assumption | simp [*]) [*, -Int.not_le, -Int.not_lt, -Nat.not_le, -Nat.not_lt, -Nat.add_left_cancel_iff, wrap_i64, wrap_u64, Try.f15, isI_cells hu, isI_one hu, isI_low hu, isLL_cells hv, isLL_one hv, isLL_low hv])
  all_goals grind
theorem szTable_s {u v : AV} {n : Int} (hu : IsI u) (hv : IsLL v) (h0 : 0 ≤ n) (h1 : n ≤ 1048576) {K : AV → Prop} {tg : Tg K} : CW env 15 [.agg [u, v], .int .i64 n] K tg ↔ K (.int .i64 (if n < (xsOf u).length + szL v then -1 else n - ((xsOf u).length + szL v))) := callsTo_iff (szTable_c hu hv h0 h1)
attribute [simp] szTable_s
theorem eqTable_c {u v u2 v2 : AV} (hu : IsI u) (hv : IsLL v) (hu2 : IsI u2) (hv2 : IsLL v2) : EvC env 19 [.agg [u, v], .agg [u2, v2]] (.bool (decide (xsOf u = xsOf u2) && decide (xssOf v = xssOf v2))) := by
  refine evC_of (F := Try.f19) rfl rfl (Nat.le_of_ble_eq_true rfl) ?_
  repeat' (first | (apply brI <;> intro hb hb2 <;> (try simp [-Int.not_le, -Int.not_lt, -Nat.not_le, -Nat.not_lt, -Nat.add_left_cancel_iff] at hb2)) | (refine draw_listA (by rfl) (by kernel_rfl) ?_) | (refine draw_listB (by simp [allocsOf, isAlloc]; rfl) (by kernel_rfl) ?_) | simp (maxSteps := 2000000) (disch := first | omega | assumption | simp [*]) [*, -Int.not_le, -Int.not_lt, -Nat.not_le, -Nat.not_lt, -Nat.add_left_cancel_iff, wrap_i64, wrap_u64, Try.f19, isI_cells hu, isI_one hu, isI_low hu, isLL_cells hv, isLL_one hv, isLL_low hv, isI_cells hu2, isI_one hu2, isI_low hu2, isLL_cells hv2, isLL_one hv2, isLL_low hv2])
theorem eqTable_s {u v u2 v2 : AV} (hu : IsI u) (hv : IsLL v) (hu2 : IsI u2) (hv2 : IsLL v2) {K : AV → Prop} {tg : Tg K} : CW env 19 [.agg [u, v], .agg [u2, v2]] K tg ↔ K (.bool (decide (xsOf u = xsOf u2) && decide (xssOf v = xssOf v2))) := callsTo_iff (eqTable_c hu hv hu2 hv2)
attribute [simp] eqTable_s
theorem sIsTable_c {u v : AV} (hu : IsI u) (hv : IsLL v) : EvC env 37 [.agg [u, v]] (.bool (decide (PTab (xsOf u) (xssOf v)))) := by
  refine evC_of (F := Try.f37) rfl rfl (Nat.le_of_ble_eq_true rfl) ?_
  have := hu.len
  have := hv.len
  repeat' (first | (apply brI <;> intro hb hb2 <;> (try simp [-Int.not_le, -Int.not_lt, -Nat.not_le, -Nat.not_lt, -Nat.add_left_cancel_iff] at hb2)) | (refine draw_listA (by rfl) (by kernel_rfl) ?_) | (refine draw_listB (by simp [allocsOf, isAlloc]; rfl) (by kernel_rfl) ?_) | simp (maxSteps := 2000000) (disch := first | omega | assumption | simp [*]) [*, -Int.not_le, -Int.not_lt, -Nat.not_le, -Nat.not_lt, -Nat.add_left_cancel_iff, wrap_i64, wrap_u64, Try.f37, isI_cells hu, isI_one hu, isI_low hu, isI_len hu, isLL_cells hv, isLL_one hv])
  refine W_loopP (xsOf u).length (fun i s => s 3 = .int .i64 i ∧ s 1 = .vp 1 0 0 ∧ ∀ j, j < i → LvK (xsOf u) j) rfl ?_ ?_
  · simp
  rintro i s hi ⟨h3, h1, hj⟩
  repeat' (first | (apply brI <;> intro hb hb2 <;> (try simp [-Int.not_le, -Int.not_lt, -Nat.not_le, -Nat.not_lt, -Nat.add_left_cancel_iff] at hb2)) | (refine draw_listA (by rfl) (by kernel_rfl) ?_) | (refine draw_listB (by simp [allocsOf, isAlloc]; rfl) (by kernel_rfl) ?_) | simp (maxSteps := 2000000) (disch := first | omega | assumption | simp [*]) [*, -Int.not_le, -Int.not_lt, -Nat.not_le, -Nat.not_lt, -Nat.add_left_cancel_iff, wrap_i64, wrap_u64, h3, h1, isI_cells hu, isI_one hu, isI_low hu, isI_len hu, isI_index hu, isI_load hu, isLL_cells hv, isLL_one hv, isLL_low hv, isLL_len hv])
  · intro h; have := h.2.2.1 i (by omega); unfold LvK at this; grind
  · intro j hj2; unfold LvK at *; grind
  refine W_loopP (xssOf v).length (fun i s => s 4 = .int .i64 i ∧ s 1 = .vp 1 0 0 ∧ ∀ j, j < i → RwP (xsOf u) (nthL (xssOf v) j)) rfl ?_ ?_
  · simp_all
  rintro a s2 ha ⟨g4, g1, gj⟩
  by_cases ha2 : a < (xssOf v).length
  · have hr := hv.row a ha2
    have hx := xssOf_row ha2
    repeat' (first | (apply brI <;> intro hb hb2 <;> (try simp [-Int.not_le, -Int.not_lt, -Nat.not_le, -Nat.not_lt, -Nat.add_left_cancel_iff] at hb2)) | (refine draw_listA (by rfl) (by kernel_rfl) ?_) | (refine draw_listB (by simp [allocsOf, isAlloc]; rfl) (by kernel_rfl) ?_) | simp (maxSteps := 2000000) (disch := first | omega | assumption | simp [*]) [*, -Int.not_le, -Int.not_lt, -Nat.not_le, -Nat.not_lt, -Nat.add_left_cancel_iff, wrap_i64, wrap_u64, g4, g1, isI_cells hu, isI_one hu, isI_low hu, isI_len hu, isI_index hu, isI_load hu, isLL_cells hv, isLL_one hv, isLL_low hv, isLL_len hv, isLL_index hv, isLL_load hv, isI_len hr])
    · intro h; have h5 := (h.2.2.2 a ha2).1; omega
    · refine W_loopP (xsOf u).length (fun i s => s 5 = .int .i64 i ∧ s 4 = .int .i64 a ∧ s 1 = .vp 1 0 0 ∧ ∀ y, y < i → RwK (xsOf u) (nthL (xssOf v) a) y) rfl ?_ ?_
      · simp_all
      rintro c s3 hc ⟨k5, k4, k1, kj⟩
      have hlen : (xsOf (rowOf v a)).length = (xsOf u).length := by rw [hx]; omega
      have hlk : c < (xsOf u).length → 1 ≤ nth (xsOf u) c ∧ nth (xsOf u) c ≤ 5 := fun hc2 => hj c (by omega)
      by_cases hc2 : c < (xsOf u).length
      · have hlk := hlk hc2
        repeat' (first | (apply brI <;> intro hb hb2 <;> (try simp [-Int.not_le, -Int.not_lt, -Nat.not_le, -Nat.not_lt, -Nat.add_left_cancel_iff] at hb2)) | (refine draw_listA (by rfl) (by kernel_rfl) ?_) | (refine draw_listB (by simp [allocsOf, isAlloc]; rfl) (by kernel_rfl) ?_) | simp (maxSteps := 2000000) (disch := first | omega | assumption | simp [*]) [*, -Int.not_le, -Int.not_lt, -Nat.not_le, -Nat.not_lt, -Nat.add_left_cancel_iff, wrap_i64, wrap_u64, k5, k4, k1, isI_cells hu, isI_one hu, isI_low hu, isI_len hu, isI_index hu, isI_load hu, isLL_cells hv, isLL_one hv, isLL_low hv, isLL_len hv, isLL_index hv, isLL_load hv, isI_len hr, isI_index hr, isI_load hr])
        · intro h; have h5 := (h.2.2.2 a ha2).2 c hc2; unfold RwK at h5; grind
        · intro y hy; by_cases e : y = c
          · subst e; unfold RwK; omega
          · exact kj y (by omega)
      · repeat' (first | (apply brI <;> intro hb hb2 <;> (try simp [-Int.not_le, -Int.not_lt, -Nat.not_le, -Nat.not_lt, -Nat.add_left_cancel_iff] at hb2)) | (refine draw_listA (by rfl) (by kernel_rfl) ?_) | (refine draw_listB (by simp [allocsOf, isAlloc]; rfl) (by kernel_rfl) ?_) | simp (maxSteps := 2000000) (disch := first | omega | assumption | simp [*]) [*, -Int.not_le, -Int.not_lt, -Nat.not_le, -Nat.not_lt, -Nat.add_left_cancel_iff, wrap_i64, wrap_u64, k5, k4, k1, isI_cells hu, isI_one hu, isI_low hu, isI_len hu, isI_index hu, isI_load hu, isLL_cells hv, isLL_one hv, isLL_low hv, isLL_len hv, isLL_index hv, isLL_load hv])
        intro x hx2
        by_cases e : x = a
        · subst e; exact ⟨by omega, fun k hk => kj k (by omega)⟩
        · exact gj x (by omega)
  · obtain rfl : a = (xssOf v).length := by omega
    repeat' (first | (apply brI <;> intro hb hb2 <;> (try simp [-Int.not_le, -Int.not_lt, -Nat.not_le, -Nat.not_lt, -Nat.add_left_cancel_iff] at hb2)) | (refine draw_listA (by rfl) (by kernel_rfl) ?_) | (refine draw_listB (by simp [allocsOf, isAlloc]; rfl) (by kernel_rfl) ?_) | simp (maxSteps := 2000000) (disch := first | omega | assumption | simp [*]) [*, -Int.not_le, -Int.not_lt, -Nat.not_le, -Nat.not_lt, -Nat.add_left_cancel_iff, wrap_i64, wrap_u64, g4, g1, isI_cells hu, isI_one hu, isI_low hu, isI_len hu, isI_index hu, isI_load hu, isLL_cells hv, isLL_one hv, isLL_low hv, isLL_len hv, isLL_index hv, isLL_load hv])
    all_goals grind [PTab]
theorem sIsTable_s {u v : AV} (hu : IsI u) (hv : IsLL v) {K : AV → Prop} {tg : Tg K} : CW env 37 [.agg [u, v]] K tg ↔ K (.bool (decide (PTab (xsOf u) (xssOf v)))) := callsTo_iff (sIsTable_c hu hv)
attribute [simp] sIsTable_s
theorem iIsTable_c {u v : AV} (hu : IsI u) (hv : IsLL v) : EvC env 40 [.agg [u, v]] (.bool (decide (PTab (xsOf u) (xssOf v)))) := by
  refine evC_of (F := Try.f40) rfl rfl (Nat.le_of_ble_eq_true rfl) ?_
  have := hu.len
  have := hv.len
  repeat' (first | (apply brI <;> intro hb hb2 <;> (try simp [-Int.not_le, -Int.not_lt, -Nat.not_le, -Nat.not_lt, -Nat.add_left_cancel_iff] at hb2)) | (refine draw_listA (by rfl) (by kernel_rfl) ?_) | (refine draw_listB (by simp [allocsOf, isAlloc]; rfl) (by kernel_rfl) ?_) | simp (maxSteps := 2000000) (disch := first | omega | assumption | simp [*]) [*, -Int.not_le, -Int.not_lt, -Nat.not_le, -Nat.not_lt, -Nat.add_left_cancel_iff, wrap_i64, wrap_u64, Try.f40, isI_cells hu, isI_one hu, isI_low hu, isI_len hu, isI_index hu, isI_load hu, isLL_cells hv, isLL_one hv, isLL_low hv, isLL_len hv, isLL_index hv, isLL_load hv])
  · grind [PTab]
  rotate_left
  · grind [PTab]
  refine W_loopP (xsOf u).length (fun i s => s 22 = .int .i64 i ∧ s 21 = .int .i64 (xsOf u).length ∧ s 20 = u ∧ s 1 = .vp 1 0 0 ∧ ∀ j, j < i → LvK (xsOf u) j) rfl ?_ ?_
  · simp
  rintro i s hi ⟨h22, h21, h20, h1, hj⟩
  repeat' (first | (apply brI <;> intro hb hb2 <;> (try simp [-Int.not_le, -Int.not_lt, -Nat.not_le, -Nat.not_lt, -Nat.add_left_cancel_iff] at hb2)) | (refine draw_listA (by rfl) (by kernel_rfl) ?_) | (refine draw_listB (by simp [allocsOf, isAlloc]; rfl) (by kernel_rfl) ?_) | simp (maxSteps := 2000000) (disch := first | omega | assumption | simp [*]) [*, -Int.not_le, -Int.not_lt, -Nat.not_le, -Nat.not_lt, -Nat.add_left_cancel_iff, wrap_i64, wrap_u64, h22, h21, h20, h1, isI_cells hu, isI_one hu, isI_low hu, isI_len hu, isI_index hu, isI_load hu, isLL_cells hv, isLL_one hv, isLL_low hv, isLL_len hv, isLL_index hv, isLL_load hv])
  · intro h; have := h.2.2.1 i (by omega); unfold LvK at this; grind
  · intro j hj2; unfold LvK at *; grind
  refine W_loopP (xssOf v).length (fun i s => s 33 = .int .i64 i ∧ s 32 = .int .i64 (xssOf v).length ∧ s 31 = v ∧ s 1 = .vp 1 0 0 ∧ ∀ j, j < i → RwP (xsOf u) (nthL (xssOf v) j)) rfl ?_ ?_
  · simp_all
  rintro a s2 ha ⟨g33, g32, g31, g1, gj⟩
  by_cases ha2 : a < (xssOf v).length
  · have hr := hv.row a ha2
    have hx := xssOf_row ha2
    repeat' (first | (apply brI <;> intro hb hb2 <;> (try simp [-Int.not_le, -Int.not_lt, -Nat.not_le, -Nat.not_lt, -Nat.add_left_cancel_iff] at hb2)) | (refine draw_listA (by rfl) (by kernel_rfl) ?_) | (refine draw_listB (by simp [allocsOf, isAlloc]; rfl) (by kernel_rfl) ?_) | simp (maxSteps := 2000000) (disch := first | omega | assumption | simp [*]) [*, -Int.not_le, -Int.not_lt, -Nat.not_le, -Nat.not_lt, -Nat.add_left_cancel_iff, wrap_i64, wrap_u64, g33, g32, g31, g1, isI_cells hu, isI_one hu, isI_low hu, isI_len hu, isI_index hu, isI_load hu, isLL_cells hv, isLL_one hv, isLL_low hv, isLL_len hv, isLL_index hv, isLL_load hv, isI_len hr])
    · intro h; have h5 := (h.2.2.2 a ha2).1; omega
    · refine W_loopP (xsOf u).length (fun i s => s 45 = .int .i64 i ∧ s 44 = .int .i64 (nthL (xssOf v) a).length ∧ s 43 = rowOf v a ∧ s 33 = .int .i64 a ∧ s 32 = .int .i64 (xssOf v).length ∧ s 31 = v ∧ s 1 = .vp 1 0 0 ∧ ∀ y, y < i → RwK (xsOf u) (nthL (xssOf v) a) y) rfl ?_ ?_
      · simp_all
      rintro c s3 hc ⟨k45, k44, k43, k33, k32, k31, k1, kj⟩
      have hlen : (xsOf (rowOf v a)).length = (xsOf u).length := by rw [hx]; omega
      have hlk : c < (xsOf u).length → 1 ≤ nth (xsOf u) c ∧ nth (xsOf u) c ≤ 5 := fun hc2 => hj c (by omega)
      by_cases hc2 : c < (xsOf u).length
      · have hlk := hlk hc2
        repeat' (first | (apply brI <;> intro hb hb2 <;> (try simp [-Int.not_le, -Int.not_lt, -Nat.not_le, -Nat.not_lt, -Nat.add_left_cancel_iff] at hb2)) | (refine draw_listA (by rfl) (by kernel_rfl) ?_) | (refine draw_listB (by simp [allocsOf, isAlloc]; rfl) (by kernel_rfl) ?_) | simp (maxSteps := 2000000) (disch := first | omega | assumption | simp [*]) [*, -Int.not_le, -Int.not_lt, -Nat.not_le, -Nat.not_lt, -Nat.add_left_cancel_iff, wrap_i64, wrap_u64, k45, k44, k43, k33, k32, k31, k1, isI_cells hu, isI_one hu, isI_low hu, isI_len hu, isI_index hu, isI_load hu, isLL_cells hv, isLL_one hv, isLL_low hv, isLL_len hv, isLL_index hv, isLL_load hv, isI_len hr, isI_index hr, isI_load hr])
        · intro h; have h5 := (h.2.2.2 a ha2).2 c hc2; unfold RwK at h5; grind
        · intro y hy; by_cases e : y = c
          · subst e; unfold RwK; grind
          · exact kj y (by omega)
      · repeat' (first | (apply brI <;> intro hb hb2 <;> (try simp [-Int.not_le, -Int.not_lt, -Nat.not_le, -Nat.not_lt, -Nat.add_left_cancel_iff] at hb2)) | (refine draw_listA (by rfl) (by kernel_rfl) ?_) | (refine draw_listB (by simp [allocsOf, isAlloc]; rfl) (by kernel_rfl) ?_) | simp (maxSteps := 2000000) (disch := first | omega | assumption | simp [*]) [*, -Int.not_le, -Int.not_lt, -Nat.not_le, -Nat.not_lt, -Nat.add_left_cancel_iff, wrap_i64, wrap_u64, k45, k44, k43, k33, k32, k31, k1, isI_cells hu, isI_one hu, isI_low hu, isI_len hu, isI_index hu, isI_load hu, isLL_cells hv, isLL_one hv, isLL_low hv, isLL_len hv, isLL_index hv, isLL_load hv])
        intro x hx2
        by_cases e : x = a
        · subst e; exact ⟨by omega, fun k hk => kj k (by omega)⟩
        · exact gj x (by omega)
  · obtain rfl : a = (xssOf v).length := by omega
    repeat' (first | (apply brI <;> intro hb hb2 <;> (try simp [-Int.not_le, -Int.not_lt, -Nat.not_le, -Nat.not_lt, -Nat.add_left_cancel_iff] at hb2)) | (refine draw_listA (by rfl) (by kernel_rfl) ?_) | (refine draw_listB (by simp [allocsOf, isAlloc]; rfl) (by kernel_rfl) ?_) | simp (maxSteps := 2000000) (disch := first | omega | assumption | simp [*]) [*, -Int.not_le, -Int.not_lt, -Nat.not_le, -Nat.not_lt, -Nat.add_left_cancel_iff, wrap_i64, wrap_u64, g33, g32, g31, g1, isI_cells hu, isI_one hu, isI_low hu, isI_len hu, isI_index hu, isI_load hu, isLL_cells hv, isLL_one hv, isLL_low hv, isLL_len hv, isLL_index hv, isLL_load hv])
    all_goals grind [PTab]
theorem iIsTable_s {u v : AV} (hu : IsI u) (hv : IsLL v) {K : AV → Prop} {tg : Tg K} : CW env 40 [.agg [u, v]] K tg ↔ K (.bool (decide (PTab (xsOf u) (xssOf v)))) := callsTo_iff (iIsTable_c hu hv)
attribute [simp] iIsTable_s
end Go.Proofs.Ytppfgokonlloaaa
