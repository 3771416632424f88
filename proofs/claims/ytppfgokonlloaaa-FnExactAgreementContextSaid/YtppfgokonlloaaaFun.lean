/- Which columns of a table tell which. Conditions: none. -/
import Derived.Test.YtppfgokonlloaaaBitA
import Derived.Test.YtppfgokonlloaaaTable
namespace Go.Proofs.Ytppfgokonlloaaa
open Ev
set_option linter.unusedVariables false
set_option linter.unusedSimpArgs false
set_option maxHeartbeats 4000000

/-- where two rows agree -/
def Agree (xs ys : List Int) : Int := setOf (fun k => decide (nth xs k = nth ys k)) xs.length
theorem agree_range (xs ys : List Int) (h : xs.length ≤ 8) : 0 ≤ Agree xs ys ∧ Agree xs ys < 256 := ⟨(setOf_range _ _).1, setOf_small _ h⟩
theorem l16Agree_c {u v : AV} (hu : IsI u) (hv : IsI v) (hl : (xsOf v).length = (xsOf u).length) (h8 : (xsOf u).length ≤ 8) : EvC env 38 [u, v] (.int .i64 (Agree (xsOf u) (xsOf v))) := by
  refine evC_of (F := Try.f38) rfl rfl (Nat.le_of_ble_eq_true rfl) ?_
  repeat' (first | (apply brI <;> intro hb hb2 <;> (try simp [-Int.not_le, -Int.not_lt, -Nat.not_le, -Nat.not_lt, -Nat.add_left_cancel_iff] at hb2)) | (refine draw_listA (by rfl) (by kernel_rfl) ?_) | (refine draw_listB (by simp [allocsOf, isAlloc]; rfl) (by kernel_rfl) ?_) | simp (maxSteps := 2000000) (disch := first | omega | assumption | simp [*]) [*, -Int.not_le, -Int.not_lt, -Nat.not_le, -Nat.not_lt, -Nat.add_left_cancel_iff, wrap_i64, wrap_u64, Try.f38, isI_len hu])
  refine W_loopP (xsOf u).length (fun i st => st 6 = .int .i64 i ∧ st 0 = u ∧ st 1 = v ∧ st 5 = .int .i64 (setOf (fun k => decide (nth (xsOf u) k = nth (xsOf v) k)) i)) rfl ?_ ?_
  · simp [setOf]
  rintro i st hi ⟨h6, h0, h1, h5⟩
  by_cases hi2 : i < (xsOf u).length
  · have hi3 : i < (xsOf v).length := by omega
    have r2 := setOf_range (fun k => decide (nth (xsOf u) k = nth (xsOf v) k)) i
    have r3 := setOf_small (fun k => decide (nth (xsOf u) k = nth (xsOf v) k)) (n := i) (by omega)
    have hp := pow_small (i := i) (by omega)
    repeat' (first | (apply brI <;> intro hb hb2 <;> (try simp [-Int.not_le, -Int.not_lt, -Nat.not_le, -Nat.not_lt, -Nat.add_left_cancel_iff] at hb2)) | (refine draw_listA (by rfl) (by kernel_rfl) ?_) | (refine draw_listB (by simp [allocsOf, isAlloc]; rfl) (by kernel_rfl) ?_) | simp (maxSteps := 2000000) (disch := first | omega | assumption | simp [*]) [*, -Int.not_le, -Int.not_lt, -Nat.not_le, -Nat.not_lt, -Nat.add_left_cancel_iff, wrap_i64, wrap_u64, h6, h0, h1, h5, isI_len hu, isI_index hu, isI_load hu, isI_index hv, isI_load hv, bits_or, pow_toNat])
    · exact setOf_or _ _ (by simpa using hb2)
    · exact setOf_skip _ _ (by simpa using hb2)
  · obtain rfl : i = (xsOf u).length := by omega
    repeat' (first | (apply brI <;> intro hb hb2 <;> (try simp [-Int.not_le, -Int.not_lt, -Nat.not_le, -Nat.not_lt, -Nat.add_left_cancel_iff] at hb2)) | (refine draw_listA (by rfl) (by kernel_rfl) ?_) | (refine draw_listB (by simp [allocsOf, isAlloc]; rfl) (by kernel_rfl) ?_) | simp (maxSteps := 2000000) (disch := first | omega | assumption | simp [*]) [*, -Int.not_le, -Int.not_lt, -Nat.not_le, -Nat.not_lt, -Nat.add_left_cancel_iff, wrap_i64, wrap_u64, h6, h0, h1, h5, isI_len hu])
    rfl
theorem l16Agree_s {u v : AV} (hu : IsI u) (hv : IsI v) (hl : (xsOf v).length = (xsOf u).length) (h8 : (xsOf u).length ≤ 8) {K : AV → Prop} {tg : Tg K} : CW env 38 [u, v] K tg ↔ K (.int .i64 (Agree (xsOf u) (xsOf v))) := callsTo_iff (l16Agree_c hu hv hl h8)
attribute [simp] l16Agree_s
theorem iAgreement1_c {u v : AV} {i : Nat} (hu : IsI u) (hv : IsI v) (h1 : i < (xsOf u).length) (h2 : i < (xsOf v).length) : EvC env 69 [.int .i64 i, .cp true [u] 0, .cp true [v] 0] (.bool (decide (nth (xsOf u) i = nth (xsOf v) i))) := by
  refine evC_of (F := Try.f69) rfl rfl (Nat.le_of_ble_eq_true rfl) ?_
  repeat' (first | (apply brI <;> intro hb hb2 <;> (try simp [-Int.not_le, -Int.not_lt, -Nat.not_le, -Nat.not_lt, -Nat.add_left_cancel_iff] at hb2)) | (refine draw_listA (by rfl) (by kernel_rfl) ?_) | (refine draw_listB (by simp [allocsOf, isAlloc]; rfl) (by kernel_rfl) ?_) | simp (maxSteps := 2000000) (disch := first | omega | assumption | simp [*]) [*, -Int.not_le, -Int.not_lt, -Nat.not_le, -Nat.not_lt, -Nat.add_left_cancel_iff, wrap_i64, wrap_u64, Try.f69, isI_len hu, isI_index hu, isI_load hu, isI_index hv, isI_load hv])
theorem iAgreement1_s {u v : AV} {i : Nat} (hu : IsI u) (hv : IsI v) (h1 : i < (xsOf u).length) (h2 : i < (xsOf v).length) {K : AV → Prop} {tg : Tg K} : CW env 69 [.int .i64 i, .cp true [u] 0, .cp true [v] 0] K tg ↔ K (.bool (decide (nth (xsOf u) i = nth (xsOf v) i))) := callsTo_iff (iAgreement1_c hu hv h1 h2)
attribute [simp] iAgreement1_s
theorem iAgreement_c {u v : AV} (hu : IsI u) (hv : IsI v) (hl : (xsOf v).length = (xsOf u).length) (h8 : (xsOf u).length ≤ 8) : EvC env 60 [u, v] (.int .i64 (Agree (xsOf u) (xsOf v))) := by
  refine evC_of (F := Try.f60) rfl rfl (Nat.le_of_ble_eq_true rfl) ?_
  have hcs : ∀ (K : AV → Prop) (tg : Tg K), CW env 63 [.int .i64 (xsOf u).length, .fn 69 [.cp true [u] 0, .cp true [v] 0]] K tg ↔ K (.int .i64 (Agree (xsOf u) (xsOf v))) :=
    fun K tg => callsTo_iff (accepted_c h8 rfl rfl rfl (fun h => by simp) fun i hi => iAgreement1_c hu hv hi (by omega))
  repeat' (first | (apply brI <;> intro hb hb2 <;> (try simp [-Int.not_le, -Int.not_lt, -Nat.not_le, -Nat.not_lt, -Nat.add_left_cancel_iff] at hb2)) | (refine draw_listA (by rfl) (by kernel_rfl) ?_) | (refine draw_listB (by simp [allocsOf, isAlloc]; rfl) (by kernel_rfl) ?_) | simp (maxSteps := 2000000) (disch := first | omega | assumption | simp [*]) [*, -Int.not_le, -Int.not_lt, -Nat.not_le, -Nat.not_lt, -Nat.add_left_cancel_iff, wrap_i64, wrap_u64, Try.f60, isI_cells hu, isI_one hu, isI_low hu, isI_low0 hu, isI_len hu, isI_cells hv, isI_one hv, isI_low hv, isI_low0 hv, isI_len hv])
theorem iAgreement_s {u v : AV} (hu : IsI u) (hv : IsI v) (hl : (xsOf v).length = (xsOf u).length) (h8 : (xsOf u).length ≤ 8) {K : AV → Prop} {tg : Tg K} : CW env 60 [u, v] K tg ↔ K (.int .i64 (Agree (xsOf u) (xsOf v))) := callsTo_iff (iAgreement_c hu hv hl h8)
attribute [simp] iAgreement_s
/-- the agreements of all pairs -/
def agTo (xss : List (List Int)) : Nat → List Int
  | 0 => []
  | k + 1 => agTo xss k ++ tab (fun i => Agree (nthL xss i) (nthL xss k)) k
theorem agTo_len (xss : List (List Int)) (k : Nat) : (agTo xss k).length ≤ k * k := by
  induction k with
  | zero => exact Nat.le_refl _
  | succ k ih => simp only [agTo, List.length_append, tab_length]; rw [Nat.add_mul, Nat.mul_add]; omega
theorem iAgreements_c {u v : AV} (hu : IsI u) (hv : IsLL v) (hl : (xssOf v).length ≤ 8) (hr : ∀ i, i < (xssOf v).length → (nthL (xssOf v) i).length = (xsOf u).length) (h8 : (xsOf u).length ≤ 8) : EvC env 42 [.agg [u, v]] (bufR 3 30 1 (agTo (xssOf v) (xssOf v).length)) := by
  refine evC_of (F := Try.f42) rfl rfl (Nat.le_of_ble_eq_true rfl) ?_
  repeat' (first | (apply brI <;> intro hb hb2 <;> (try simp [-Int.not_le, -Int.not_lt, -Nat.not_le, -Nat.not_lt, -Nat.add_left_cancel_iff] at hb2)) | (refine draw_listA (by rfl) (by kernel_rfl) ?_) | (refine draw_listB (by simp [allocsOf, isAlloc]; rfl) (by kernel_rfl) ?_) | simp (maxSteps := 2000000) (disch := first | omega | assumption | simp [*]) [*, -Int.not_le, -Int.not_lt, -Nat.not_le, -Nat.not_lt, -Nat.add_left_cancel_iff, wrap_i64, wrap_u64, Try.f42, isI_cells hu, isI_one hu, isI_low hu, isLL_cells hv, isLL_one hv, isLL_low hv, isLL_len hv])
  refine W_loopG (xssOf v).length (fun i s h => s 10 = .int .i64 i ∧ s 9 = .int .i64 (xssOf v).length ∧ s 1 = .vp 1 0 0 ∧ h 1 = some (.var 0 38 (.agg [u, v])) ∧ Buf h 3 30 1 (s 3) (agTo (xssOf v) i)) ?_ ?_
  · simp; exact buf_nil ..
  rintro k s h hk ⟨h10, h9, h1, e1, hB⟩
  by_cases hk2 : k < (xssOf v).length
  · have hal := agTo_len (xssOf v) k
    have hkk : k * k ≤ 8 * 8 := Nat.mul_le_mul (by omega) (by omega)
    have hrk := hv.row k hk2
    have hxk := xssOf_row hk2
    repeat' (first | (apply brI <;> intro hb hb2 <;> (try simp [-Int.not_le, -Int.not_lt, -Nat.not_le, -Nat.not_lt, -Nat.add_left_cancel_iff] at hb2)) | (refine draw_listA (by rfl) (by kernel_rfl) ?_) | (refine draw_listB (by simp [allocsOf, isAlloc]; rfl) (by kernel_rfl) ?_) | simp (maxSteps := 2000000) (disch := first | omega | assumption | simp [*]) [*, -Int.not_le, -Int.not_lt, -Nat.not_le, -Nat.not_lt, -Nat.add_left_cancel_iff, wrap_i64, wrap_u64, h10, h9, h1, e1, isLL_cells hv, isLL_one hv, isLL_low hv, isLL_len hv])
    refine W_loopG k (fun i s h => s 14 = .int .i64 i ∧ s 13 = .int .i64 k ∧ s 4 = .int .i64 k ∧ s 10 = .int .i64 k ∧ s 9 = .int .i64 (xssOf v).length ∧ s 1 = .vp 1 0 0 ∧ h 1 = some (.var 0 38 (.agg [u, v])) ∧
      Buf h 3 30 1 (s 3) (agTo (xssOf v) k ++ tab (fun i => Agree (nthL (xssOf v) i) (nthL (xssOf v) k)) i)) ?_ ?_
    · simp_all
    rintro i s3 h3 hi ⟨k14, k13, k4, k10, k9, k1, e1', hB2⟩
    by_cases hi2 : i < k
    · have hri := hv.row i (by omega)
      have hxi := xssOf_row (v := v) (n := i) (by omega)
      have hli : (xsOf (rowOf v i)).length = (xsOf u).length := by rw [hxi]; exact hr i (by omega)
      have hlk : (xsOf (rowOf v k)).length = (xsOf u).length := by rw [hxk]; exact hr k (by omega)
      have hi3 : i < (xssOf v).length := by omega
      repeat' (first | (apply brI <;> intro hb hb2 <;> (try simp [-Int.not_le, -Int.not_lt, -Nat.not_le, -Nat.not_lt, -Nat.add_left_cancel_iff] at hb2)) | (refine draw_listA (by rfl) (by kernel_rfl) ?_) | (refine draw_listB (by simp [allocsOf, isAlloc]; rfl) (by kernel_rfl) ?_) | simp (maxSteps := 2000000) (disch := first | omega | assumption | simp [*]) [*, -Int.not_le, -Int.not_lt, -Nat.not_le, -Nat.not_lt, -Nat.add_left_cancel_iff, wrap_i64, wrap_u64, k14, k13, k4, k10, k9, k1, e1', isLL_cells hv, isLL_one hv, isLL_low hv, isLL_len hv, isLL_index hv, isLL_load hv, isI_low hri, isI_low hrk])
      refine wa_push' hB2 (by simp) (by simp) (fun _ => rfl) (by simp; omega) ?_
      intro v2 h2 hB3 hk3
      repeat' (first | (apply brI <;> intro hb hb2 <;> (try simp [-Int.not_le, -Int.not_lt, -Nat.not_le, -Nat.not_lt, -Nat.add_left_cancel_iff] at hb2)) | (refine draw_listA (by rfl) (by kernel_rfl) ?_) | (refine draw_listB (by simp [allocsOf, isAlloc]; rfl) (by kernel_rfl) ?_) | simp (maxSteps := 2000000) (disch := first | omega | assumption | simp [*]) [*, -Int.not_le, -Int.not_lt, -Nat.not_le, -Nat.not_lt, -Nat.add_left_cancel_iff, wrap_i64, wrap_u64, k14, k13, k4, k10, k9, k1, e1'])
      rw [tab_succ, ← List.append_assoc]
      exact hB3
    · obtain rfl : i = k := by omega
      repeat' (first | (apply brI <;> intro hb hb2 <;> (try simp [-Int.not_le, -Int.not_lt, -Nat.not_le, -Nat.not_lt, -Nat.add_left_cancel_iff] at hb2)) | (refine draw_listA (by rfl) (by kernel_rfl) ?_) | (refine draw_listB (by simp [allocsOf, isAlloc]; rfl) (by kernel_rfl) ?_) | simp (maxSteps := 2000000) (disch := first | omega | assumption | simp [*]) [*, -Int.not_le, -Int.not_lt, -Nat.not_le, -Nat.not_lt, -Nat.add_left_cancel_iff, wrap_i64, wrap_u64, k14, k13, k4, k10, k9, k1, e1'])
      exact hB2
  · obtain rfl : k = (xssOf v).length := by omega
    repeat' (first | (apply brI <;> intro hb hb2 <;> (try simp [-Int.not_le, -Int.not_lt, -Nat.not_le, -Nat.not_lt, -Nat.add_left_cancel_iff] at hb2)) | (refine draw_listA (by rfl) (by kernel_rfl) ?_) | (refine draw_listB (by simp [allocsOf, isAlloc]; rfl) (by kernel_rfl) ?_) | simp (maxSteps := 2000000) (disch := first | omega | assumption | simp [*]) [*, -Int.not_le, -Int.not_lt, -Nat.not_le, -Nat.not_lt, -Nat.add_left_cancel_iff, wrap_i64, wrap_u64, h10, h9, h1, e1, isLL_len hv])
    exact hB.expo
theorem iAgreements_s {u v : AV} (hu : IsI u) (hv : IsLL v) (hl : (xssOf v).length ≤ 8) (hr : ∀ i, i < (xssOf v).length → (nthL (xssOf v) i).length = (xsOf u).length) (h8 : (xsOf u).length ≤ 8) {K : AV → Prop} {tg : Tg K} : CW env 42 [.agg [u, v]] K tg ↔ K (bufR 3 30 1 (agTo (xssOf v) (xssOf v).length)) := callsTo_iff (iAgreements_c hu hv hl hr h8)
attribute [simp] iAgreements_s
theorem mem_agTo {xss : List (List Int)} {s : Int} : ∀ (m : Nat), s ∈ agTo xss m ↔ ∃ k i, k < m ∧ i < k ∧ s = Agree (nthL xss i) (nthL xss k)
  | 0 => by simp [agTo]
  | m + 1 => by
    simp only [agTo, List.mem_append, mem_agTo m, tab, List.mem_map, List.mem_range]
    constructor
    · rintro (⟨k, i, h1, h2, h3⟩ | ⟨i, h1, rfl⟩)
      · exact ⟨k, i, by omega, h2, h3⟩
      · exact ⟨m, i, by omega, h1, rfl⟩
    · rintro ⟨k, i, h1, h2, rfl⟩
      by_cases e : k = m
      · subst e; exact .inr ⟨i, h2, rfl⟩
      · exact .inl ⟨k, i, by omega, h2, rfl⟩
/-- which columns tell which -/
def FrK (f t s : Int) : Prop := PSub f s = true → PSub t s = true
def PFun (lv : List Int) (xss : List (List Int)) (f t : Int) : Prop := PTab lv xss ∧ PSet lv.length f = true ∧ PSet lv.length t = true ∧ ∀ k i, k < xss.length → i < k → FrK f t (Agree (nthL xss i) (nthL xss k))
noncomputable instance (lv : List Int) (xss : List (List Int)) (f t : Int) : Decidable (PFun lv xss f t) := Classical.propDecidable _
end Go.Proofs.Ytppfgokonlloaaa
