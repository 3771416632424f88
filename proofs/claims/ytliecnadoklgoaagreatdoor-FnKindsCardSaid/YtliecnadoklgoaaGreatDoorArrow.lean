/- Arrows of objects. Conditions: none. -/
import Derived.Test.YtliecnadoklgoaaGreatDoorExtI
import Derived.Test.YtliecnadoklgoaaGreatDoorBitA
namespace Go.Proofs.YtliecnadoklgoaaGreatDoor
open Ev
set_option linter.unusedVariables false
set_option linter.unusedSimpArgs false
set_option maxHeartbeats 4000000

theorem col_range (xs : List Int) (m : Nat) (h : xs.length ≤ 8) : 0 ≤ Col xs m ∧ Col xs m < 256 := ⟨(setOf_range _ _).1, setOf_small _ h⟩
theorem col_has (xs : List Int) (m g : Nat) (h : g < xs.length) : PHas (Col xs m) g = PHas (nth xs g) m := by unfold Col; rw [setOf_has]; simp [h]
theorem l3Column_c {N m : Nat} {v : AV} (hv : IsI v) (hc : PCtx N (xsOf v)) (hm : m < N) : EvC env 200 [.agg [.int .i64 N, v], .int .i64 m] (.int .i64 (Col (xsOf v) m)) := by
  refine evC_of (F := Tryz.f200) rfl rfl (Nat.le_of_ble_eq_true rfl) ?_
  have hl := hc.2.2.1
  have hn := hc.2.1
  repeat' (first | (apply brI <;> intro hb hb2 <;> (try simp [-Int.not_le, -Int.not_lt, -Nat.not_le, -Nat.not_lt, -Nat.add_left_cancel_iff] at hb2)) | (refine draw_listA (by rfl) (by kernel_rfl) ?_) | (refine draw_listB (by simp [allocsOf, isAlloc]; rfl) (by kernel_rfl) ?_) | simp (maxSteps := 2000000) (disch := first | omega | assumption | simp [*]) [*, -Int.not_le, -Int.not_lt, -Nat.not_le, -Nat.not_lt, -Nat.add_left_cancel_iff, wrap_i64, wrap_u64, Tryz.f200, isI_cells hv, isI_one hv, isI_low hv, isI_len hv, isI_index hv, isI_load hv])
  refine W_loopP (xsOf v).length (fun i st => st 6 = .int .i64 i ∧ st 1 = .int .i64 m ∧ st 2 = .vp 2 0 0 ∧ st 5 = .int .i64 (setOf (fun g => PHas (nth (xsOf v) g) m) i)) rfl ?_ ?_
  · simp [setOf]
  rintro i st hi ⟨h6, h1, h2, h5⟩
  by_cases hi2 : i < (xsOf v).length
  · have r1 := pctx_row hc hi2
    have r2 := setOf_range (fun g => PHas (nth (xsOf v) g) m) i
    have r3 := setOf_small (fun g => PHas (nth (xsOf v) g) m) (n := i) (by omega)
    have hp := pow_small (i := i) (by omega)
    repeat' (first | (apply brI <;> intro hb hb2 <;> (try simp [-Int.not_le, -Int.not_lt, -Nat.not_le, -Nat.not_lt, -Nat.add_left_cancel_iff] at hb2)) | (refine draw_listA (by rfl) (by kernel_rfl) ?_) | (refine draw_listB (by simp [allocsOf, isAlloc]; rfl) (by kernel_rfl) ?_) | simp (maxSteps := 2000000) (disch := first | omega | assumption | simp [*]) [*, -Int.not_le, -Int.not_lt, -Nat.not_le, -Nat.not_lt, -Nat.add_left_cancel_iff, wrap_i64, wrap_u64, h6, h1, h2, h5, bits_or, pow_toNat, isI_cells hv, isI_one hv, isI_low hv, isI_len hv, isI_index hv, isI_load hv])
    · exact setOf_or _ _ hb2
    · exact setOf_skip _ _ hb2
  · obtain rfl : i = (xsOf v).length := by omega
    repeat' (first | (apply brI <;> intro hb hb2 <;> (try simp [-Int.not_le, -Int.not_lt, -Nat.not_le, -Nat.not_lt, -Nat.add_left_cancel_iff] at hb2)) | (refine draw_listA (by rfl) (by kernel_rfl) ?_) | (refine draw_listB (by simp [allocsOf, isAlloc]; rfl) (by kernel_rfl) ?_) | simp (maxSteps := 2000000) (disch := first | omega | assumption | simp [*]) [*, -Int.not_le, -Int.not_lt, -Nat.not_le, -Nat.not_lt, -Nat.add_left_cancel_iff, wrap_i64, wrap_u64, h6, h1, h2, h5, isI_cells hv, isI_one hv, isI_low hv, isI_len hv, isI_index hv, isI_load hv])
    rfl
theorem l3Column_s {N m : Nat} {v : AV} (hv : IsI v) (hc : PCtx N (xsOf v)) (hm : m < N) {K : AV → Prop} {tg : Tg K} : CW env 200 [.agg [.int .i64 N, v], .int .i64 m] K tg ↔ K (.int .i64 (Col (xsOf v) m)) := callsTo_iff (l3Column_c hv hc hm)
attribute [simp] l3Column_s
/-- the attributes, the objects of which are more than those of m -/
def moreP (xs : List Int) (m n : Nat) : Bool := decide (Col xs n ≠ Col xs m) && PSub (Col xs m) (Col xs n)
def upP (xs : List Int) (N g m : Nat) : Bool := !PHas (nth xs g) m && PSub (setOf (moreP xs m) N) (nth xs g)
def Up (xs : List Int) (N g : Nat) : Int := setOf (upP xs N g) N
def fineK (xs : List Int) (g m k : Nat) : Bool := !PHas (nth xs g) m && (List.range k).all fun n => !moreP xs m n || PHas (nth xs g) n
theorem fineK_succ (xs : List Int) (g m k : Nat) : fineK xs g m (k + 1) = (fineK xs g m k && (!moreP xs m k || PHas (nth xs g) k)) := by
  simp [fineK, List.range_succ, Bool.and_assoc]
theorem fineK_up {xs : List Int} {N g m : Nat} (hN : N ≤ 8) (h0 : 0 ≤ nth xs g) : fineK xs g m N = upP xs N g m := by
  unfold fineK upP
  congr 1
  rw [Bool.eq_iff_iff, psub_iff (setOf_pset _ hN) h0]
  simp only [List.all_eq_true, List.mem_range, Bool.or_eq_true, Bool.not_eq_true', setOf_has, Bool.and_eq_true, decide_eq_true_eq]
  constructor
  · intro h i hi ⟨_, h2⟩
    rcases h i hi with h3 | h3
    · rw [h3] at h2; cases h2
    · exact h3
  · intro h i hi
    cases hm : moreP xs m i with
    | false => exact .inl rfl
    | true => exact .inr (h i hi ⟨hi, hm⟩)
theorem l8Up_c {N g : Nat} {v : AV} (hv : IsI v) (hc : PCtx N (xsOf v)) (hg : g < (xsOf v).length) : EvC env 124 [.agg [.int .i64 N, v], .int .i64 g] (.int .i64 (Up (xsOf v) N g)) := by
  refine evC_of (F := Tryz.f124) rfl rfl (Nat.le_of_ble_eq_true rfl) ?_
  have hl := hc.2.2.1
  have hn := hc.2.1
  have hN8 : N ≤ 8 := by omega
  have hN8' : (N : Int) ≤ 8 := by omega
  have r1 := pctx_row hc hg
  repeat' (first | (apply brI <;> intro hb hb2 <;> (try simp [-Int.not_le, -Int.not_lt, -Nat.not_le, -Nat.not_lt, -Nat.add_left_cancel_iff] at hb2)) | (refine draw_listA (by rfl) (by kernel_rfl) ?_) | (refine draw_listB (by simp [allocsOf, isAlloc]; rfl) (by kernel_rfl) ?_) | simp (maxSteps := 2000000) (disch := first | omega | assumption | simp [*]) [*, -Int.not_le, -Int.not_lt, -Nat.not_le, -Nat.not_lt, -Nat.add_left_cancel_iff, wrap_i64, wrap_u64, Tryz.f124, isI_cells hv, isI_one hv, isI_low hv, isI_len hv, isI_index hv, isI_load hv])
  refine W_loopP N (fun i st => st 6 = .int .i64 i ∧ st 1 = .int .i64 g ∧ st 2 = .vp 2 0 0 ∧ st 5 = .int .i64 (setOf (upP (xsOf v) N g) i)) rfl ?_ ?_
  · simp [setOf]
  rintro m st hm ⟨h6, h1, h2, h5⟩
  have r2 := setOf_range (upP (xsOf v) N g) m
  have r3 := setOf_small (upP (xsOf v) N g) (n := m) (by omega)
  by_cases hm2 : m < N
  · have hpm := pow_small (i := m) (by omega)
    have cm := col_range (xsOf v) m hl
    repeat' (first | (apply brI <;> intro hb hb2 <;> (try simp [-Int.not_le, -Int.not_lt, -Nat.not_le, -Nat.not_lt, -Nat.add_left_cancel_iff] at hb2)) | (refine draw_listA (by rfl) (by kernel_rfl) ?_) | (refine draw_listB (by simp [allocsOf, isAlloc]; rfl) (by kernel_rfl) ?_) | simp (maxSteps := 2000000) (disch := first | omega | assumption | simp [*]) [*, -Int.not_le, -Int.not_lt, -Nat.not_le, -Nat.not_lt, -Nat.add_left_cancel_iff, wrap_i64, wrap_u64, h6, h1, h2, h5, isI_cells hv, isI_one hv, isI_low hv, isI_len hv, isI_index hv, isI_load hv])
    refine W_loopP N (fun k st => st 9 = .int .i64 k ∧ st 7 = .int .i64 (Col (xsOf v) m) ∧ st 8 = .bool (fineK (xsOf v) g m k) ∧ st 6 = .int .i64 m ∧ st 1 = .int .i64 g ∧ st 2 = .vp 2 0 0 ∧ st 5 = .int .i64 (setOf (upP (xsOf v) N g) m)) rfl ?_ ?_
    · simp [*, fineK]
    rintro k st3 hk ⟨k9, k7, k8, k6, k1, k2, k5⟩
    by_cases hk2 : k < N
    · have ck := col_range (xsOf v) k hl
      have hsub := psub_and' (t := Col (xsOf v) k) cm.1
      have hcg := col_has (xsOf v) k g hg
      have hs := fineK_succ (xsOf v) g m k
      simp only [moreP] at hs
      repeat' (first | (apply brI <;> intro hb hb2 <;> (try simp [-Int.not_le, -Int.not_lt, -Nat.not_le, -Nat.not_lt, -Nat.add_left_cancel_iff] at hb2)) | (refine draw_listA (by rfl) (by kernel_rfl) ?_) | (refine draw_listB (by simp [allocsOf, isAlloc]; rfl) (by kernel_rfl) ?_) | simp (maxSteps := 2000000) (disch := first | omega | assumption | simp [*]) [*, -Int.not_le, -Int.not_lt, -Nat.not_le, -Nat.not_lt, -Nat.add_left_cancel_iff, wrap_i64, wrap_u64, k9, k7, k8, k6, k1, k2, k5, bits_and, isI_cells hv, isI_one hv, isI_low hv, isI_len hv, isI_index hv, isI_load hv])
      all_goals simp_all
    · obtain rfl : k = N := by omega
      have hfu := fineK_up (g := g) (m := m) hN8 r1.1
      repeat' (first | (apply brI <;> intro hb hb2 <;> (try simp [-Int.not_le, -Int.not_lt, -Nat.not_le, -Nat.not_lt, -Nat.add_left_cancel_iff] at hb2)) | (refine draw_listA (by rfl) (by kernel_rfl) ?_) | (refine draw_listB (by simp [allocsOf, isAlloc]; rfl) (by kernel_rfl) ?_) | simp (maxSteps := 2000000) (disch := first | omega | assumption | simp [*]) [*, -Int.not_le, -Int.not_lt, -Nat.not_le, -Nat.not_lt, -Nat.add_left_cancel_iff, wrap_i64, wrap_u64, k9, k7, k8, k6, k1, k2, k5, bits_or, pow_toNat, isI_cells hv, isI_one hv, isI_low hv, isI_len hv, isI_index hv, isI_load hv])
      · exact setOf_or _ _ (by simp_all)
      · exact setOf_skip _ _ (by simp_all)
  · obtain rfl : m = N := by omega
    repeat' (first | (apply brI <;> intro hb hb2 <;> (try simp [-Int.not_le, -Int.not_lt, -Nat.not_le, -Nat.not_lt, -Nat.add_left_cancel_iff] at hb2)) | (refine draw_listA (by rfl) (by kernel_rfl) ?_) | (refine draw_listB (by simp [allocsOf, isAlloc]; rfl) (by kernel_rfl) ?_) | simp (maxSteps := 2000000) (disch := first | omega | assumption | simp [*]) [*, -Int.not_le, -Int.not_lt, -Nat.not_le, -Nat.not_lt, -Nat.add_left_cancel_iff, wrap_i64, wrap_u64, h6, h1, h2, h5, isI_cells hv, isI_one hv, isI_low hv, isI_len hv, isI_index hv, isI_load hv])
    rfl
theorem l8Up_s {N g : Nat} {v : AV} (hv : IsI v) (hc : PCtx N (xsOf v)) (hg : g < (xsOf v).length) {K : AV → Prop} {tg : Tg K} : CW env 124 [.agg [.int .i64 N, v], .int .i64 g] K tg ↔ K (.int .i64 (Up (xsOf v) N g)) := callsTo_iff (l8Up_c hv hc hg)
attribute [simp] l8Up_s
theorem isObject_c {n g : Int} {v : AV} (hv : IsI v) : EvC env 135 [.agg [.int .i64 n, v], .int .i64 g] (.bool (decide (PCtx n (xsOf v) ∧ 0 ≤ g ∧ g < (xsOf v).length))) := by
  refine evC_of (F := Tryz.f135) rfl rfl (Nat.le_of_ble_eq_true rfl) ?_
  have hl := hv.len
  unfold top63 at hl
  repeat' (first | (apply brI <;> intro hb hb2 <;> (try simp [-Int.not_le, -Int.not_lt, -Nat.not_le, -Nat.not_lt, -Nat.add_left_cancel_iff] at hb2)) | (refine draw_listA (by rfl) (by kernel_rfl) ?_) | (refine draw_listB (by simp [allocsOf, isAlloc]; rfl) (by kernel_rfl) ?_) | simp (maxSteps := 2000000) (disch := first | omega | assumption | simp [*]) [*, -Int.not_le, -Int.not_lt, -Nat.not_le, -Nat.not_lt, -Nat.add_left_cancel_iff, wrap_i64, wrap_u64, Tryz.f135, isI_cells hv, isI_one hv, isI_low hv, isI_len hv, isI_index hv, isI_load hv])
  all_goals (rw [Bool.eq_iff_iff]; simp; omega)
theorem isObject_s {n g : Int} {v : AV} (hv : IsI v) {K : AV → Prop} {tg : Tg K} : CW env 135 [.agg [.int .i64 n, v], .int .i64 g] K tg ↔ K (.bool (decide (PCtx n (xsOf v) ∧ 0 ≤ g ∧ g < (xsOf v).length))) := callsTo_iff (isObject_c hv)
attribute [simp] isObject_s
theorem up11_c {m n : Nat} {lst : AV} (hv : IsI lst) (hm : m < (xsOf lst).length) (hn : n < (xsOf lst).length) (h0 : ∀ k, k < (xsOf lst).length → 0 ≤ nth (xsOf lst) k ∧ nth (xsOf lst) k < 256) : EvC env 238 [.int .i64 n, .cp true [lst] 0, .cp true [.int .i64 m] 0] (.bool (decide (nth (xsOf lst) n ≠ nth (xsOf lst) m) && PSub (nth (xsOf lst) m) (nth (xsOf lst) n))) := by
  refine evC_of (F := Tryz.f238) rfl rfl (Nat.le_of_ble_eq_true rfl) ?_
  have a1 := h0 m hm
  have a2 := h0 n hn
  repeat' (first | (apply brI <;> intro hb hb2 <;> (try simp [-Int.not_le, -Int.not_lt, -Nat.not_le, -Nat.not_lt, -Nat.add_left_cancel_iff] at hb2)) | (refine draw_listA (by rfl) (by kernel_rfl) ?_) | (refine draw_listB (by simp [allocsOf, isAlloc]; rfl) (by kernel_rfl) ?_) | simp (maxSteps := 2000000) (disch := first | omega | assumption | simp [*]) [*, -Int.not_le, -Int.not_lt, -Nat.not_le, -Nat.not_lt, -Nat.add_left_cancel_iff, wrap_i64, wrap_u64, Tryz.f238, isI_len hv, isI_index hv, isI_load hv, psub_diff])
  all_goals (rw [Bool.eq_iff_iff]; simp_all)
theorem up11_s {m n : Nat} {lst : AV} (hv : IsI lst) (hm : m < (xsOf lst).length) (hn : n < (xsOf lst).length) (h0 : ∀ k, k < (xsOf lst).length → 0 ≤ nth (xsOf lst) k ∧ nth (xsOf lst) k < 256) {K : AV → Prop} {tg : Tg K} : CW env 238 [.int .i64 n, .cp true [lst] 0, .cp true [.int .i64 m] 0] K tg ↔ K (.bool (decide (nth (xsOf lst) n ≠ nth (xsOf lst) m) && PSub (nth (xsOf lst) m) (nth (xsOf lst) n))) := callsTo_iff (up11_c hv hm hn h0)
attribute [simp] up11_s
theorem up1_c {N m g : Nat} {v : AV} (hv : IsI v) (hc : PCtx N (xsOf v)) (hg : g < (xsOf v).length) (hm : m < N) : EvC env 237 [.int .i64 m, .cp true [.int .i64 N, v] 0, .cp true [bufC 1 (Cols (xsOf v) N)] 0, .cp true [.int .i64 g] 0] (.bool (upP (xsOf v) N g m)) := by
  refine evC_of (F := Tryz.f237) rfl rfl (Nat.le_of_ble_eq_true rfl) ?_
  have hl := hc.2.2.1
  have hn := hc.2.1
  have hN8 : N ≤ 8 := by omega
  have hN8' : (N : Int) ≤ 8 := by omega
  have r1 := pctx_row hc hg
  have r2 := setOf_range (moreP (xsOf v) m) N
  have r3 := setOf_small (moreP (xsOf v) m) hN8
  have hm7 : (m : Int) ≤ 7 := by omega
  have hI : IsI (bufC 1 (Cols (xsOf v) N)) := isI_bufC (by simp [Cols]; unfold top63; omega)
  have hcl : (Cols (xsOf v) N).length = N := by simp [Cols]
  have hcn : ∀ k, k < N → nth (Cols (xsOf v) N) k = Col (xsOf v) k := fun k hk => by unfold Cols; rw [tab_nth _ hk]
  have hrow := pset8 (hc.2.2.2 g hg)
  have hcs : ∀ (K : AV → Prop) (tg : Tg K), CW env 236 [.int .i64 N, .fn 238 [.cp true [bufC 1 (Cols (xsOf v) N)] 0, .cp true [.int .i64 m] 0]] K tg ↔ K (.int .i64 (setOf (moreP (xsOf v) m) N)) :=
    fun K tg => callsTo_iff (accepted_c hN8 rfl rfl (fun h => by simp) fun i hi => by
      have := up11_c (m := m) (n := i) hI (by simpa [hcl] using hm) (by simpa [hcl] using hi) (fun k hk => by
        simp only [xsOf_bufC, hcl] at hk ⊢
        rw [hcn k hk]; exact col_range _ _ hl)
      simp only [xsOf_bufC] at this
      rw [hcn i hi, hcn m hm] at this
      exact this)
  repeat' (first | (apply brI <;> intro hb hb2 <;> (try simp [-Int.not_le, -Int.not_lt, -Nat.not_le, -Nat.not_lt, -Nat.add_left_cancel_iff] at hb2)) | (refine draw_listA (by rfl) (by kernel_rfl) ?_) | (refine draw_listB (by simp [allocsOf, isAlloc]; rfl) (by kernel_rfl) ?_) | simp (maxSteps := 2000000) (disch := first | omega | assumption | simp [*]) [*, -Int.not_le, -Int.not_lt, -Nat.not_le, -Nat.not_lt, -Nat.add_left_cancel_iff, wrap_i64, wrap_u64, Tryz.f237, isI_cells hv, isI_one hv, isI_low hv, isI_len hv, isI_index hv, isI_load hv, psub_diff])
  all_goals simp_all [upP]
theorem up1_s {N m g : Nat} {v : AV} (hv : IsI v) (hc : PCtx N (xsOf v)) (hg : g < (xsOf v).length) (hm : m < N) {K : AV → Prop} {tg : Tg K} : CW env 237 [.int .i64 m, .cp true [.int .i64 N, v] 0, .cp true [bufC 1 (Cols (xsOf v) N)] 0, .cp true [.int .i64 g] 0] K tg ↔ K (.bool (upP (xsOf v) N g m)) := callsTo_iff (up1_c hv hc hg hm)
attribute [simp] up1_s
theorem iUp_c {N g : Nat} {v : AV} (hv : IsI v) (hc : PCtx N (xsOf v)) (hg : g < (xsOf v).length) : EvC env 203 [.agg [.int .i64 N, v], .int .i64 g] (.int .i64 (Up (xsOf v) N g)) := by
  refine evC_of (F := Tryz.f203) rfl rfl (Nat.le_of_ble_eq_true rfl) ?_
  have hl := hc.2.2.1
  have hn := hc.2.1
  have hN8 : N ≤ 8 := by omega
  have hN8' : (N : Int) ≤ 8 := by omega
  have hI : IsI (bufC 1 (Cols (xsOf v) N)) := isI_bufC (by simp [Cols]; unfold top63; omega)
  have hcs : ∀ (K : AV → Prop) (tg : Tg K), CW env 236 [.int .i64 N, .fn 237 [.cp true [.int .i64 N, v] 0, .cp true [bufC 1 (Cols (xsOf v) N)] 0, .cp true [.int .i64 g] 0]] K tg ↔ K (.int .i64 (setOf (upP (xsOf v) N g) N)) :=
    fun K tg => callsTo_iff (accepted_c hN8 rfl rfl (fun h => by simp [isI_low hv, isI_low0 hv]) fun i hi => up1_c hv hc hg hi)
  repeat' (first | (apply brI <;> intro hb hb2 <;> (try simp [-Int.not_le, -Int.not_lt, -Nat.not_le, -Nat.not_lt, -Nat.add_left_cancel_iff] at hb2)) | (refine draw_listA (by rfl) (by kernel_rfl) ?_) | (refine draw_listB (by simp [allocsOf, isAlloc]; rfl) (by kernel_rfl) ?_) | simp (maxSteps := 2000000) (disch := first | omega | assumption | simp [*]) [*, -Int.not_le, -Int.not_lt, -Nat.not_le, -Nat.not_lt, -Nat.add_left_cancel_iff, wrap_i64, wrap_u64, Tryz.f203, isI_cells hv, isI_one hv, isI_low hv, isI_low0 hv, isI_len hv, isI_index hv, isI_load hv, isI_low0 hI, isI_low hI])
  rfl
theorem iUp_s {N g : Nat} {v : AV} (hv : IsI v) (hc : PCtx N (xsOf v)) (hg : g < (xsOf v).length) {K : AV → Prop} {tg : Tg K} : CW env 203 [.agg [.int .i64 N, v], .int .i64 g] K tg ↔ K (.int .i64 (Up (xsOf v) N g)) := callsTo_iff (iUp_c hv hc hg)
attribute [simp] iUp_s
/-- those in all sets that are more than s -/
def dnP (xs : List Int) (s : Int) (k m : Nat) : Bool := (List.range k).all fun i => decide (nth xs i = s) || !PSub s (nth xs i) || PHas (nth xs i) m
theorem dnP_succ (xs : List Int) (s : Int) (k m : Nat) : dnP xs s (k + 1) m = (dnP xs s k m && (decide (nth xs k = s) || !PSub s (nth xs k) || PHas (nth xs k) m)) := by
  simp [dnP, List.range_succ]
theorem iBeyond_c {v : AV} {s : Int} {L : Nat} {full : Nat → Bool} (hv : IsI v) (hL : L ≤ 8) (hl : (xsOf v).length ≤ 8) (hs : PSet L s = true) (hq : ∀ i, i < (xsOf v).length → PSet L (nth (xsOf v) i) = true) : EvC env 239 [v, .int .i64 s, .int .i64 (setOf full L)] (.int .i64 (setOf (fun m => full m && dnP (xsOf v) s (xsOf v).length m) L)) := by
  refine evC_of (F := Tryz.f239) rfl rfl (Nat.le_of_ble_eq_true rfl) ?_
  have s1 := pset_lt hs
  repeat' (first | (apply brI <;> intro hb hb2 <;> (try simp [-Int.not_le, -Int.not_lt, -Nat.not_le, -Nat.not_lt, -Nat.add_left_cancel_iff] at hb2)) | (refine draw_listA (by rfl) (by kernel_rfl) ?_) | (refine draw_listB (by simp [allocsOf, isAlloc]; rfl) (by kernel_rfl) ?_) | simp (maxSteps := 2000000) (disch := first | omega | assumption | simp [*]) [*, -Int.not_le, -Int.not_lt, -Nat.not_le, -Nat.not_lt, -Nat.add_left_cancel_iff, wrap_i64, wrap_u64, Tryz.f239, isI_len hv])
  refine W_loopP (xsOf v).length (fun i st => st 11 = .int .i64 i ∧ st 10 = .int .i64 (xsOf v).length ∧ st 9 = v ∧ st 1 = .int .i64 s ∧ st 2 = .int .i64 (setOf (fun m => full m && dnP (xsOf v) s i m) L)) rfl ?_ ?_
  · simp
    exact setOf_congr fun m _ => by simp [dnP]
  rintro i st hi ⟨h11, h10, h9, h1, h2⟩
  by_cases hi2 : i < (xsOf v).length
  · have q1 := pset_lt (hq i hi2)
    have r3 := setOf_range (fun m => full m && dnP (xsOf v) s i m) L
    have r4 := setOf_small (fun m => full m && dnP (xsOf v) s i m) hL
    have ha := setOf_and (fun m => full m && dnP (xsOf v) s i m) (fun m => PHas (nth (xsOf v) i) m) L
    rw [← setOf_self (hq i hi2)] at ha
    repeat' (first | (apply brI <;> intro hb hb2 <;> (try simp [-Int.not_le, -Int.not_lt, -Nat.not_le, -Nat.not_lt, -Nat.add_left_cancel_iff] at hb2)) | (refine draw_listA (by rfl) (by kernel_rfl) ?_) | (refine draw_listB (by simp [allocsOf, isAlloc]; rfl) (by kernel_rfl) ?_) | simp (maxSteps := 2000000) (disch := first | omega | assumption | simp [*]) [*, -Int.not_le, -Int.not_lt, -Nat.not_le, -Nat.not_lt, -Nat.add_left_cancel_iff, wrap_i64, wrap_u64, h11, h10, h9, h1, h2, bits_and, isI_len hv, isI_index hv, isI_load hv, psub_diff])
    all_goals (exact setOf_congr fun m _ => by rw [dnP_succ]; grind)
  · obtain rfl : i = (xsOf v).length := by omega
    repeat' (first | (apply brI <;> intro hb hb2 <;> (try simp [-Int.not_le, -Int.not_lt, -Nat.not_le, -Nat.not_lt, -Nat.add_left_cancel_iff] at hb2)) | (refine draw_listA (by rfl) (by kernel_rfl) ?_) | (refine draw_listB (by simp [allocsOf, isAlloc]; rfl) (by kernel_rfl) ?_) | simp (maxSteps := 2000000) (disch := first | omega | assumption | simp [*]) [*, -Int.not_le, -Int.not_lt, -Nat.not_le, -Nat.not_lt, -Nat.add_left_cancel_iff, wrap_i64, wrap_u64, h11, h10, h9, h1, h2, isI_len hv])
theorem iBeyond_s {v : AV} {s : Int} {L : Nat} {full : Nat → Bool} (hv : IsI v) (hL : L ≤ 8) (hl : (xsOf v).length ≤ 8) (hs : PSet L s = true) (hq : ∀ i, i < (xsOf v).length → PSet L (nth (xsOf v) i) = true) {K : AV → Prop} {tg : Tg K} : CW env 239 [v, .int .i64 s, .int .i64 (setOf full L)] K tg ↔ K (.int .i64 (setOf (fun m => full m && dnP (xsOf v) s (xsOf v).length m) L)) := callsTo_iff (iBeyond_c hv hL hl hs hq)
attribute [simp] iBeyond_s
def dnQ (xs : List Int) (g m : Nat) : Bool := !PHas (nth xs g) m && dnP xs (nth xs g) xs.length m
def Down (xs : List Int) (N g : Nat) : Int := setOf (dnQ xs g) N
theorem setOf_not (p : Nat → Bool) (n : Nat) : 2 ^ n - 1 - setOf p n = setOf (fun i => !p i) n := by
  induction n with
  | zero => rfl
  | succ n ih =>
    simp only [setOf]
    rw [← ih]
    by_cases h : p n = true <;> simp [h, Int.pow_succ] <;> omega
theorem iDown_c {N g : Nat} {v : AV} (hv : IsI v) (hc : PCtx N (xsOf v)) (hg : g < (xsOf v).length) : EvC env 204 [.agg [.int .i64 N, v], .int .i64 g] (.int .i64 (Down (xsOf v) N g)) := by
  refine evC_of (F := Tryz.f204) rfl rfl (Nat.le_of_ble_eq_true rfl) ?_
  have hl := hc.2.2.1
  have hn := hc.2.1
  have hN8 : N ≤ 8 := by omega
  have hN8' : (N : Int) ≤ 8 := by omega
  have r1 := pctx_row hc hg
  have hb0 := iBeyond_c (v := v) (s := nth (xsOf v) g) (L := N) (full := fun _ => true) hv hN8 hl (hc.2.2.2 g hg) hc.2.2.2
  have htr : ∀ p : Nat → Bool, setOf (fun m => true && p m) N = setOf p N := fun p => setOf_congr fun m _ => by simp
  rw [setOf_full, htr] at hb0
  have hcs : ∀ (K : AV → Prop) (tg : Tg K), CW env 239 [v, .int .i64 (nth (xsOf v) g), .int .i64 (2 ^ N - 1)] K tg ↔ K (.int .i64 (setOf (dnP (xsOf v) (nth (xsOf v) g) (xsOf v).length) N)) := fun K tg => callsTo_iff hb0
  have q1 := setOf_range (dnP (xsOf v) (nth (xsOf v) g) (xsOf v).length) N
  have q2 := setOf_small (dnP (xsOf v) (nth (xsOf v) g) (xsOf v).length) hN8
  have hd := setOf_diff (dnP (xsOf v) (nth (xsOf v) g) (xsOf v).length) (fun m => PHas (nth (xsOf v) g) m) N
  rw [← setOf_self (hc.2.2.2 g hg), show setOf (fun i => dnP (xsOf v) (nth (xsOf v) g) (xsOf v).length i && !PHas (nth (xsOf v) g) i) N = Down (xsOf v) N g from setOf_congr fun m _ => by simp [dnQ, Bool.and_comm]] at hd
  clear hb0 htr
  repeat' (first | (apply brI <;> intro hb hb2 <;> (try simp [-Int.not_le, -Int.not_lt, -Nat.not_le, -Nat.not_lt, -Nat.add_left_cancel_iff] at hb2)) | (refine draw_listA (by rfl) (by kernel_rfl) ?_) | (refine draw_listB (by simp [allocsOf, isAlloc]; rfl) (by kernel_rfl) ?_) | simp (maxSteps := 2000000) (disch := first | omega | assumption | simp [*]) [*, -Int.not_le, -Int.not_lt, -Nat.not_le, -Nat.not_lt, -Nat.add_left_cancel_iff, wrap_i64, wrap_u64, Tryz.f204, isI_cells hv, isI_one hv, isI_low hv, isI_low0 hv, isI_len hv, isI_index hv, isI_load hv, bits_andNot])
theorem iDown_s {N g : Nat} {v : AV} (hv : IsI v) (hc : PCtx N (xsOf v)) (hg : g < (xsOf v).length) {K : AV → Prop} {tg : Tg K} : CW env 204 [.agg [.int .i64 N, v], .int .i64 g] K tg ↔ K (.int .i64 (Down (xsOf v) N g)) := callsTo_iff (iDown_c hv hc hg)
attribute [simp] iDown_s
theorem l8Down_c {N g : Nat} {v : AV} (hv : IsI v) (hc : PCtx N (xsOf v)) (hg : g < (xsOf v).length) : EvC env 125 [.agg [.int .i64 N, v], .int .i64 g] (.int .i64 (Down (xsOf v) N g)) := by
  refine evC_of (F := Tryz.f125) rfl rfl (Nat.le_of_ble_eq_true rfl) ?_
  have hl := hc.2.2.1
  have hn := hc.2.1
  have hN8 : N ≤ 8 := by omega
  have hN8' : (N : Int) ≤ 8 := by omega
  have r1 := pctx_row hc hg
  have hno := setOf_not (fun m => PHas (nth (xsOf v) g) m) N
  rw [← setOf_self (hc.2.2.2 g hg)] at hno
  have r5 := setOf_range (fun m => !PHas (nth (xsOf v) g) m) N
  have r6 := setOf_small (fun m => !PHas (nth (xsOf v) g) m) hN8
  repeat' (first | (apply brI <;> intro hb hb2 <;> (try simp [-Int.not_le, -Int.not_lt, -Nat.not_le, -Nat.not_lt, -Nat.add_left_cancel_iff] at hb2)) | (refine draw_listA (by rfl) (by kernel_rfl) ?_) | (refine draw_listB (by simp [allocsOf, isAlloc]; rfl) (by kernel_rfl) ?_) | simp (maxSteps := 2000000) (disch := first | omega | assumption | simp [*]) [*, -Int.not_le, -Int.not_lt, -Nat.not_le, -Nat.not_lt, -Nat.add_left_cancel_iff, wrap_i64, wrap_u64, Tryz.f125, isI_cells hv, isI_one hv, isI_low hv, isI_low0 hv, isI_len hv, isI_index hv, isI_load hv])
  refine W_loopP (xsOf v).length (fun i st => st 6 = .int .i64 i ∧ st 1 = .int .i64 g ∧ st 2 = .vp 2 0 0 ∧ st 5 = .int .i64 (setOf (fun m => !PHas (nth (xsOf v) g) m && dnP (xsOf v) (nth (xsOf v) g) i m) N)) rfl ?_ ?_
  · simp [*]
    exact setOf_congr fun m _ => by simp [dnP]
  rintro i st hi ⟨h6, h1, h2, h5⟩
  by_cases hi2 : i < (xsOf v).length
  · have q1 := pctx_row hc hi2
    have r3 := setOf_range (fun m => !PHas (nth (xsOf v) g) m && dnP (xsOf v) (nth (xsOf v) g) i m) N
    have r4 := setOf_small (fun m => !PHas (nth (xsOf v) g) m && dnP (xsOf v) (nth (xsOf v) g) i m) hN8
    have ha := setOf_and (fun m => !PHas (nth (xsOf v) g) m && dnP (xsOf v) (nth (xsOf v) g) i m) (fun m => PHas (nth (xsOf v) i) m) N
    rw [← setOf_self (hc.2.2.2 i hi2)] at ha
    have hsub := psub_and' (t := nth (xsOf v) i) r1.1
    repeat' (first | (apply brI <;> intro hb hb2 <;> (try simp [-Int.not_le, -Int.not_lt, -Nat.not_le, -Nat.not_lt, -Nat.add_left_cancel_iff] at hb2)) | (refine draw_listA (by rfl) (by kernel_rfl) ?_) | (refine draw_listB (by simp [allocsOf, isAlloc]; rfl) (by kernel_rfl) ?_) | simp (maxSteps := 2000000) (disch := first | omega | assumption | simp [*]) [*, -Int.not_le, -Int.not_lt, -Nat.not_le, -Nat.not_lt, -Nat.add_left_cancel_iff, wrap_i64, wrap_u64, h6, h1, h2, h5, bits_and, isI_cells hv, isI_one hv, isI_low hv, isI_low0 hv, isI_len hv, isI_index hv, isI_load hv])
    all_goals (exact setOf_congr fun m _ => by rw [dnP_succ]; grind)
  · obtain rfl : i = (xsOf v).length := by omega
    repeat' (first | (apply brI <;> intro hb hb2 <;> (try simp [-Int.not_le, -Int.not_lt, -Nat.not_le, -Nat.not_lt, -Nat.add_left_cancel_iff] at hb2)) | (refine draw_listA (by rfl) (by kernel_rfl) ?_) | (refine draw_listB (by simp [allocsOf, isAlloc]; rfl) (by kernel_rfl) ?_) | simp (maxSteps := 2000000) (disch := first | omega | assumption | simp [*]) [*, -Int.not_le, -Int.not_lt, -Nat.not_le, -Nat.not_lt, -Nat.add_left_cancel_iff, wrap_i64, wrap_u64, h6, h1, h2, h5, isI_cells hv, isI_one hv, isI_low hv, isI_low0 hv, isI_len hv])
    rfl
theorem l8Down_s {N g : Nat} {v : AV} (hv : IsI v) (hc : PCtx N (xsOf v)) (hg : g < (xsOf v).length) {K : AV → Prop} {tg : Tg K} : CW env 125 [.agg [.int .i64 N, v], .int .i64 g] K tg ↔ K (.int .i64 (Down (xsOf v) N g)) := callsTo_iff (l8Down_c hv hc hg)
attribute [simp] l8Down_s
end Go.Proofs.YtliecnadoklgoaaGreatDoor
