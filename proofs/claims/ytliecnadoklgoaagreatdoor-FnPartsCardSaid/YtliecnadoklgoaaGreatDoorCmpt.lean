/- Compatible parts: both sides, laws of IsCompatible and CountCompatible. Conditions: none. -/
import Derived.Test.YtliecnadoklgoaaGreatDoorLatP
import Derived.Test.YtliecnadoklgoaaGreatDoorSub
namespace Go.Proofs.YtliecnadoklgoaaGreatDoor
open Ev
set_option linter.unusedVariables false
set_option linter.unusedSimpArgs false
set_option maxHeartbeats 4000000

def CmptC (n : Int) (xs : List Int) (o a : Int) : Prop := SubC n xs o a ∧ ∀ k, k < (conL n xs).length → IsCon (subN n xs o a) (subR n xs o a) (Pack (nth (fsts (conW n xs)) k) o) (Pack (nth (snds (conW n xs)) k) a)
noncomputable instance (n : Int) (xs : List Int) (o a : Int) : Decidable (CmptC n xs o a) := Classical.propDecidable _
theorem con_sets {n : Int} {xs : List Int} {k : Nat} (h : k < (conL n xs).length) : PSet 8 (nth (fsts (conW n xs)) k) = true ∧ PSet 8 (nth (snds (conW n xs)) k) = true := by
  obtain ⟨hc, h1, _⟩ := closed_get h
  have hn : n.toNat ≤ 8 := by have := hc.2.1; omega
  rw [nthF h, nthS h]
  exact ⟨pset8 (ext_pset _ _ hc.2.2.1), pset8 (pset_nat hn h1)⟩
theorem subV_w (T : Nat) (n : Int) (xs : List Int) (o a : Int) : IsI (noEx (subV T n xs o a)) ∧ xsOf (noEx (subV T n xs o a)) = subR n xs o a := by
  have hl := subR_len n xs o a
  unfold subV subR at *
  split
  · rename_i h
    rw [if_pos h] at hl
    rw [rowX_noEx]
    exact ⟨isI_rowN (by unfold top63; omega), by simp⟩
  · exact ⟨by simp, by simp [xsOf]⟩
theorem sIsCompatible_c {n o a : Int} {v : AV} (hv : IsI v) : EvC env 38 [.agg [.int .i64 n, v], .int .i64 o, .int .i64 a] (.bool (decide (CmptC n (xsOf v) o a))) := by
  refine evC_of (F := Tryz.f38) rfl rfl (Nat.le_of_ble_eq_true rfl) ?_
  by_cases hc : SubC n (xsOf v) o a
  · have hpc := hc.1
    have o8 : PSet 8 o = true := pset8 hc.2.1
    have a8 : PSet 8 a = true := pset8 hc.2.2
    have hP := conW_P n (xsOf v)
    have hw := sCon_noEx n (xsOf v) 101
    have hfl := conW_len n (xsOf v)
    have hL := conL_len n (xsOf v)
    have hst := fun k => con_sets (n := n) (xs := xsOf v) (k := k)
    have hcc : CmptC n (xsOf v) o a ↔ ∀ k, k < (conL n (xsOf v)).length → IsCon (subN n (xsOf v) o a) (subR n (xsOf v) o a) (Pack (nth (fsts (conW n (xsOf v))) k) o) (Pack (nth (snds (conW n (xsOf v))) k) a) := ⟨fun h => h.2, fun h => ⟨hc, h⟩⟩
    have hRl := subR_len n (xsOf v) o a
    obtain ⟨M, hM⟩ : ∃ M, subN n (xsOf v) o a = M := ⟨_, rfl⟩
    obtain ⟨R, hR⟩ : ∃ R, subR n (xsOf v) o a = R := ⟨_, rfl⟩
    rw [hM, hR] at hcc
    rw [hR] at hRl
    obtain ⟨w9, hw9⟩ : ∃ w9, w9 = bufC 0 R := ⟨_, rfl⟩
    have hI9 : IsI w9 := by rw [hw9]; exact isI_bufC (by unfold top63; omega)
    have hx9 : xsOf w9 = R := by rw [hw9]; simp
    have hne9 : noEx (bufR 3 39 0 R) = w9 := by rw [hw9]; simp
    have o9 := isI_one hI9
    have c9 := isI_cells hI9
    clear hw9
    generalize conW n (xsOf v) = w at *
    generalize (conL n (xsOf v)).length = len at *
    repeat' (first | (apply brI <;> intro hb hb2 <;> (try simp [-Int.not_le, -Int.not_lt, -Nat.not_le, -Nat.not_lt, -Nat.add_left_cancel_iff] at hb2)) | (refine draw_listA (by rfl) (by kernel_rfl) ?_) | (refine draw_listB (by simp [allocsOf, isAlloc]; rfl) (by kernel_rfl) ?_) | simp (maxSteps := 2000000) (disch := first | omega | assumption | simp [*]) [*, -Int.not_le, -Int.not_lt, -Nat.not_le, -Nat.not_lt, -Nat.add_left_cancel_iff, wrap_i64, wrap_u64, Tryz.f38, isI_cells hv, isI_one hv, isI_low hv, isI_len hv, isI_cells hI9, isI_one hI9, isI_low hI9, isP_len hP])
    refine W_loopG len (fun i s h => s 10 = .int .i64 i ∧ s 9 = w ∧ s 1 = .int .i64 o ∧ s 2 = .int .i64 a ∧ s 7 = .vp 7 0 0 ∧ h 7 = some (.var 0 26 (.agg [.int .i64 M, w9])) ∧ ∀ k, k < i → IsCon M R (Pack (nth (fsts w) k) o) (Pack (nth (snds w) k) a)) ?_ ?_
    · simp [*]
    rintro i s h hi ⟨h10, h9, h1, h2, h7, e7, hA⟩
    by_cases hi2 : i < len
    · have hsi := hst i hi2
      have p1 := pack8 (nth (fsts w) i) o
      have p2 := pack8 (nth (snds w) i) a
      by_cases hcn : IsCon M R (Pack (nth (fsts w) i) o) (Pack (nth (snds w) i) a)
      · have hA2 : ∀ k, k < i + 1 → IsCon M R (Pack (nth (fsts w) k) o) (Pack (nth (snds w) k) a) := fun k hk => by
          by_cases e : k = i
          · subst e; exact hcn
          · exact hA k (by omega)
        clear hA hst hcc
        repeat' (first | (apply brI <;> intro hb hb2 <;> (try simp [-Int.not_le, -Int.not_lt, -Nat.not_le, -Nat.not_lt, -Nat.add_left_cancel_iff] at hb2)) | (refine draw_listA (by rfl) (by kernel_rfl) ?_) | (refine draw_listB (by simp [allocsOf, isAlloc]; rfl) (by kernel_rfl) ?_) | simp (maxSteps := 2000000) (disch := first | omega | assumption | simp [*]) [*, -Int.not_le, -Int.not_lt, -Nat.not_le, -Nat.not_lt, -Nat.add_left_cancel_iff, wrap_i64, wrap_u64, h10, h9, h1, h2, h7, e7, isI_cells hI9, isI_one hI9, isI_low hI9, isP_len hP, isP_index hP, isP_low hP, isP_noKey hP])
        exact hA2
      · have hno : ¬ CmptC n (xsOf v) o a := fun h9 => hcn (hcc.1 h9 i hi2)
        clear hA hst hcc
        repeat' (first | (apply brI <;> intro hb hb2 <;> (try simp [-Int.not_le, -Int.not_lt, -Nat.not_le, -Nat.not_lt, -Nat.add_left_cancel_iff] at hb2)) | (refine draw_listA (by rfl) (by kernel_rfl) ?_) | (refine draw_listB (by simp [allocsOf, isAlloc]; rfl) (by kernel_rfl) ?_) | simp (maxSteps := 2000000) (disch := first | omega | assumption | simp [*]) [*, -Int.not_le, -Int.not_lt, -Nat.not_le, -Nat.not_lt, -Nat.add_left_cancel_iff, wrap_i64, wrap_u64, h10, h9, h1, h2, h7, e7, isI_cells hI9, isI_one hI9, isI_low hI9, isP_len hP, isP_index hP, isP_low hP, isP_noKey hP])
    · obtain rfl : i = len := by omega
      have hyes : CmptC n (xsOf v) o a := hcc.2 hA
      clear hA hst hcc
      repeat' (first | (apply brI <;> intro hb hb2 <;> (try simp [-Int.not_le, -Int.not_lt, -Nat.not_le, -Nat.not_lt, -Nat.add_left_cancel_iff] at hb2)) | (refine draw_listA (by rfl) (by kernel_rfl) ?_) | (refine draw_listB (by simp [allocsOf, isAlloc]; rfl) (by kernel_rfl) ?_) | simp (maxSteps := 2000000) (disch := first | omega | assumption | simp [*]) [*, -Int.not_le, -Int.not_lt, -Nat.not_le, -Nat.not_lt, -Nat.add_left_cancel_iff, wrap_i64, wrap_u64, h10, h9, h1, h2, h7, e7, isP_len hP])
  · have hno : ¬ CmptC n (xsOf v) o a := fun h => hc h.1
    have hRl := subR_len n (xsOf v) o a
    obtain ⟨M, hM⟩ : ∃ M, subN n (xsOf v) o a = M := ⟨_, rfl⟩
    obtain ⟨R, hR⟩ : ∃ R, subR n (xsOf v) o a = R := ⟨_, rfl⟩
    rw [hR] at hRl
    obtain ⟨w9, hw9⟩ : ∃ w9, w9 = bufC 0 R := ⟨_, rfl⟩
    have hI9 : IsI w9 := by rw [hw9]; exact isI_bufC (by unfold top63; omega)
    have hne9 : noEx (bufR 3 39 0 R) = w9 := by rw [hw9]; simp
    have o9 := isI_one hI9
    have c9 := isI_cells hI9
    clear hw9
    repeat' (first | (apply brI <;> intro hb hb2 <;> (try simp [-Int.not_le, -Int.not_lt, -Nat.not_le, -Nat.not_lt, -Nat.add_left_cancel_iff] at hb2)) | (refine draw_listA (by rfl) (by kernel_rfl) ?_) | (refine draw_listB (by simp [allocsOf, isAlloc]; rfl) (by kernel_rfl) ?_) | simp (maxSteps := 2000000) (disch := first | omega | assumption | simp [*]) [*, -Int.not_le, -Int.not_lt, -Nat.not_le, -Nat.not_lt, -Nat.add_left_cancel_iff, wrap_i64, wrap_u64, Tryz.f38, isI_cells hv, isI_one hv, isI_low hv, isI_len hv, isI_cells hI9, isI_one hI9, isI_low hI9])
theorem sIsCompatible_s {n o a : Int} {v : AV} (hv : IsI v) {K : AV → Prop} {tg : Tg K} : CW env 38 [.agg [.int .i64 n, v], .int .i64 o, .int .i64 a] K tg ↔ K (.bool (decide (CmptC n (xsOf v) o a))) := callsTo_iff (sIsCompatible_c hv)
attribute [simp] sIsCompatible_s
theorem iIsCompatible_c {n o a : Int} {v : AV} (hv : IsI v) : EvC env 30 [.agg [.int .i64 n, v], .int .i64 o, .int .i64 a] (.bool (decide (CmptC n (xsOf v) o a))) := by
  refine evC_of (F := Tryz.f30) rfl rfl (Nat.le_of_ble_eq_true rfl) ?_
  by_cases hc : SubC n (xsOf v) o a
  · have hpc := hc.1
    have o8 : PSet 8 o = true := pset8 hc.2.1
    have a8 : PSet 8 a = true := pset8 hc.2.2
    have hP := conW2_P n (xsOf v)
    have hw := iCon_noEx n (xsOf v) 101
    have hfl := conW_len n (xsOf v)
    have hL := conL_len n (xsOf v)
    have hst := fun k => con_sets (n := n) (xs := xsOf v) (k := k)
    have hcc : CmptC n (xsOf v) o a ↔ ∀ k, k < (conL n (xsOf v)).length → IsCon (subN n (xsOf v) o a) (subR n (xsOf v) o a) (Pack (nth (fsts (conW n (xsOf v))) k) o) (Pack (nth (snds (conW n (xsOf v))) k) a) := ⟨fun h => h.2, fun h => ⟨hc, h⟩⟩
    have hRl := subR_len n (xsOf v) o a
    obtain ⟨M, hM⟩ : ∃ M, subN n (xsOf v) o a = M := ⟨_, rfl⟩
    obtain ⟨R, hR⟩ : ∃ R, subR n (xsOf v) o a = R := ⟨_, rfl⟩
    rw [hM, hR] at hcc
    rw [hR] at hRl
    obtain ⟨w9, hw9⟩ : ∃ w9, w9 = noEx (subV 3 n (xsOf v) o a) := ⟨_, rfl⟩
    have hWW := subV_w 3 n (xsOf v) o a
    rw [← hw9, hR] at hWW
    obtain ⟨hI9, hx9⟩ := hWW
    have hne9 : noEx (subV 3 n (xsOf v) o a) = w9 := hw9.symm
    have o9 := isI_one hI9
    have c9 := isI_cells hI9
    clear hw9
    rw [← conW2_fsts] at hfl hst hcc
    rw [← conW2_snds] at hst hcc
    generalize conW2 n (xsOf v) = w at *
    generalize (conL n (xsOf v)).length = len at *
    repeat' (first | (apply brI <;> intro hb hb2 <;> (try simp [-Int.not_le, -Int.not_lt, -Nat.not_le, -Nat.not_lt, -Nat.add_left_cancel_iff] at hb2)) | (refine draw_listA (by rfl) (by kernel_rfl) ?_) | (refine draw_listB (by simp [allocsOf, isAlloc]; rfl) (by kernel_rfl) ?_) | simp (maxSteps := 2000000) (disch := first | omega | assumption | simp [*]) [*, -Int.not_le, -Int.not_lt, -Nat.not_le, -Nat.not_lt, -Nat.add_left_cancel_iff, wrap_i64, wrap_u64, Tryz.f30, isI_cells hv, isI_one hv, isI_low hv, isI_len hv, isI_cells hI9, isI_one hI9, isI_low hI9, isP_len hP])
    refine W_loopG len (fun i s h => s 23 = .int .i64 i ∧ s 22 = .int .i64 len ∧ s 21 = w ∧ s 1 = .int .i64 o ∧ s 2 = .int .i64 a ∧ s 7 = .vp 7 0 0 ∧ h 7 = some (.var 0 26 (.agg [.int .i64 M, w9])) ∧ ∀ k, k < i → IsCon M R (Pack (nth (fsts w) k) o) (Pack (nth (snds w) k) a)) ?_ ?_
    · simp [*]
    rintro i s h hi ⟨h23, h22, h21, h1, h2, h7, e7, hA⟩
    by_cases hi2 : i < len
    · have hsi := hst i hi2
      have p1 := pack8 (nth (fsts w) i) o
      have p2 := pack8 (nth (snds w) i) a
      by_cases hcn : IsCon M R (Pack (nth (fsts w) i) o) (Pack (nth (snds w) i) a)
      · have hA2 : ∀ k, k < i + 1 → IsCon M R (Pack (nth (fsts w) k) o) (Pack (nth (snds w) k) a) := fun k hk => by
          by_cases e : k = i
          · subst e; exact hcn
          · exact hA k (by omega)
        clear hA hst hcc
        repeat' (first | (apply brI <;> intro hb hb2 <;> (try simp [-Int.not_le, -Int.not_lt, -Nat.not_le, -Nat.not_lt, -Nat.add_left_cancel_iff] at hb2)) | (refine draw_listA (by rfl) (by kernel_rfl) ?_) | (refine draw_listB (by simp [allocsOf, isAlloc]; rfl) (by kernel_rfl) ?_) | simp (maxSteps := 2000000) (disch := first | omega | assumption | simp [*]) [*, -Int.not_le, -Int.not_lt, -Nat.not_le, -Nat.not_lt, -Nat.add_left_cancel_iff, wrap_i64, wrap_u64, h23, h22, h21, h1, h2, h7, e7, isI_cells hI9, isI_one hI9, isI_low hI9, isP_len hP, isP_index hP, isP_low hP, isP_noKey hP])
        exact hA2
      · have hno : ¬ CmptC n (xsOf v) o a := fun h9 => hcn (hcc.1 h9 i hi2)
        clear hA hst hcc
        repeat' (first | (apply brI <;> intro hb hb2 <;> (try simp [-Int.not_le, -Int.not_lt, -Nat.not_le, -Nat.not_lt, -Nat.add_left_cancel_iff] at hb2)) | (refine draw_listA (by rfl) (by kernel_rfl) ?_) | (refine draw_listB (by simp [allocsOf, isAlloc]; rfl) (by kernel_rfl) ?_) | simp (maxSteps := 2000000) (disch := first | omega | assumption | simp [*]) [*, -Int.not_le, -Int.not_lt, -Nat.not_le, -Nat.not_lt, -Nat.add_left_cancel_iff, wrap_i64, wrap_u64, h23, h22, h21, h1, h2, h7, e7, isI_cells hI9, isI_one hI9, isI_low hI9, isP_len hP, isP_index hP, isP_low hP, isP_noKey hP])
    · obtain rfl : i = len := by omega
      have hyes : CmptC n (xsOf v) o a := hcc.2 hA
      clear hA hst hcc
      repeat' (first | (apply brI <;> intro hb hb2 <;> (try simp [-Int.not_le, -Int.not_lt, -Nat.not_le, -Nat.not_lt, -Nat.add_left_cancel_iff] at hb2)) | (refine draw_listA (by rfl) (by kernel_rfl) ?_) | (refine draw_listB (by simp [allocsOf, isAlloc]; rfl) (by kernel_rfl) ?_) | simp (maxSteps := 2000000) (disch := first | omega | assumption | simp [*]) [*, -Int.not_le, -Int.not_lt, -Nat.not_le, -Nat.not_lt, -Nat.add_left_cancel_iff, wrap_i64, wrap_u64, h23, h22, h21, h1, h2, h7, e7, isP_len hP])
  · have hno : ¬ CmptC n (xsOf v) o a := fun h => hc h.1
    have hRl := subR_len n (xsOf v) o a
    obtain ⟨M, hM⟩ : ∃ M, subN n (xsOf v) o a = M := ⟨_, rfl⟩
    obtain ⟨R, hR⟩ : ∃ R, subR n (xsOf v) o a = R := ⟨_, rfl⟩
    rw [hR] at hRl
    obtain ⟨w9, hw9⟩ : ∃ w9, w9 = noEx (subV 3 n (xsOf v) o a) := ⟨_, rfl⟩
    have hWW := subV_w 3 n (xsOf v) o a
    rw [← hw9, hR] at hWW
    obtain ⟨hI9, hx9⟩ := hWW
    have hne9 : noEx (subV 3 n (xsOf v) o a) = w9 := hw9.symm
    have o9 := isI_one hI9
    have c9 := isI_cells hI9
    clear hw9
    repeat' (first | (apply brI <;> intro hb hb2 <;> (try simp [-Int.not_le, -Int.not_lt, -Nat.not_le, -Nat.not_lt, -Nat.add_left_cancel_iff] at hb2)) | (refine draw_listA (by rfl) (by kernel_rfl) ?_) | (refine draw_listB (by simp [allocsOf, isAlloc]; rfl) (by kernel_rfl) ?_) | simp (maxSteps := 2000000) (disch := first | omega | assumption | simp [*]) [*, -Int.not_le, -Int.not_lt, -Nat.not_le, -Nat.not_lt, -Nat.add_left_cancel_iff, wrap_i64, wrap_u64, Tryz.f30, isI_cells hv, isI_one hv, isI_low hv, isI_len hv, isI_cells hI9, isI_one hI9, isI_low hI9])
theorem iIsCompatible_s {n o a : Int} {v : AV} (hv : IsI v) {K : AV → Prop} {tg : Tg K} : CW env 30 [.agg [.int .i64 n, v], .int .i64 o, .int .i64 a] K tg ↔ K (.bool (decide (CmptC n (xsOf v) o a))) := callsTo_iff (iIsCompatible_c hv)
attribute [simp] iIsCompatible_s
noncomputable def bitC (n : Int) (xs : List Int) (o a : Nat) : Nat := if CmptC n xs o a then 1 else 0
noncomputable def cntY (n : Int) (xs : List Int) (o : Nat) : Nat → Nat
  | 0 => 0
  | y + 1 => cntY n xs o y + bitC n xs o y
noncomputable def cntX (n : Int) (xs : List Int) (Y : Nat) : Nat → Nat
  | 0 => 0
  | x + 1 => cntX n xs Y x + cntY n xs x Y
theorem cntY_le (n : Int) (xs : List Int) (o y : Nat) : cntY n xs o y ≤ y := by
  induction y with
  | zero => simp [cntY]
  | succ y ih => simp only [cntY, bitC]; split <;> omega
theorem cntX_le (n : Int) (xs : List Int) (Y x : Nat) : cntX n xs Y x ≤ Y * x := by
  induction x with
  | zero => simp [cntX]
  | succ x ih => have := cntY_le n xs x Y; simp only [cntX, Nat.mul_succ]; omega
noncomputable def cntV (n : Int) (xs : List Int) : Int := if PCtx n xs ∧ (xs.length : Int) + n ≤ 6 then (cntX n xs (2 ^ n.toNat) (2 ^ xs.length) : Nat) else -1
theorem l1BitC_c {b : Bool} : EvC env 132 [.bool b] (.int .i64 (if b then 1 else 0)) := by
  refine evC_of (F := Tryz.f132) rfl rfl (Nat.le_of_ble_eq_true rfl) ?_
  cases b <;> repeat' (first | (apply brI <;> intro hb hb2 <;> (try simp [-Int.not_le, -Int.not_lt, -Nat.not_le, -Nat.not_lt, -Nat.add_left_cancel_iff] at hb2)) | (refine draw_listA (by rfl) (by kernel_rfl) ?_) | (refine draw_listB (by simp [allocsOf, isAlloc]; rfl) (by kernel_rfl) ?_) | simp (maxSteps := 2000000) (disch := first | omega | assumption | simp [*]) [*, -Int.not_le, -Int.not_lt, -Nat.not_le, -Nat.not_lt, -Nat.add_left_cancel_iff, wrap_i64, wrap_u64, Tryz.f132])
theorem l1BitC_s {b : Bool} {K : AV → Prop} {tg : Tg K} : CW env 132 [.bool b] K tg ↔ K (.int .i64 (if b then 1 else 0)) := callsTo_iff (l1BitC_c )
attribute [simp] l1BitC_s
theorem sCountCompatible_c {n : Int} {v : AV} (hv : IsI v) : EvC env 42 [.agg [.int .i64 n, v]] (.int .i64 (cntV n (xsOf v))) := by
  refine evC_of (F := Tryz.f42) rfl rfl (Nat.le_of_ble_eq_true rfl) ?_
  by_cases hp : PCtx n (xsOf v)
  · by_cases h6 : ((xsOf v).length : Int) + n ≤ 6
    · obtain ⟨N, rfl⟩ : ∃ N : Nat, n = N := ⟨n.toNat, by have := hp.1; omega⟩
      have hV : cntV N (xsOf v) = (cntX N (xsOf v) (2 ^ N) (2 ^ (xsOf v).length) : Nat) := by unfold cntV; rw [if_pos ⟨hp, h6⟩]; rfl
      rw [hV]
      have hX6 : 2 ^ (xsOf v).length ≤ 2 ^ 6 := Nat.pow_le_pow_right (by decide) (by omega)
      have hY6 : 2 ^ N ≤ 2 ^ 6 := Nat.pow_le_pow_right (by decide) (by omega)
      have hX0 := Nat.two_pow_pos (xsOf v).length
      have hY0 := Nat.two_pow_pos N
      have hXi : ((2 : Int) ^ (xsOf v).length) = ((2 ^ (xsOf v).length : Nat) : Int) := by simp
      have hYi : ((2 : Int) ^ N) = ((2 ^ N : Nat) : Int) := by simp
      obtain ⟨X, hX⟩ : ∃ X, X = 2 ^ (xsOf v).length := ⟨_, rfl⟩
      obtain ⟨Y, hY⟩ : ∃ Y, Y = 2 ^ N := ⟨_, rfl⟩
      rw [← hX] at hX6 hX0 hXi ⊢
      rw [← hY] at hY6 hY0 hYi ⊢
      have h6' : ¬ 6 < ((xsOf v).length : Int) + N := by omega
      have hl8 : ((xsOf v).length : Int) ≤ 8 := by omega
      have hn8 : (N : Int) ≤ 8 := by omega
      clear hX hY hV
      repeat' (first | (apply brI <;> intro hb hb2 <;> (try simp [-Int.not_le, -Int.not_lt, -Nat.not_le, -Nat.not_lt, -Nat.add_left_cancel_iff] at hb2)) | (refine draw_listA (by rfl) (by kernel_rfl) ?_) | (refine draw_listB (by simp [allocsOf, isAlloc]; rfl) (by kernel_rfl) ?_) | simp (maxSteps := 2000000) (disch := first | omega | assumption | simp [*]) [*, -Int.not_le, -Int.not_lt, -Nat.not_le, -Nat.not_lt, -Nat.add_left_cancel_iff, wrap_i64, wrap_u64, Tryz.f42, isI_cells hv, isI_one hv, isI_low hv, isI_len hv])
      refine W_loopG X (fun x s h => s 4 = .int .i64 x ∧ s 3 = .int .i64 (cntX N (xsOf v) Y x) ∧ s 1 = .vp 1 0 0 ∧ h 1 = some (.var 0 26 (.agg [.int .i64 N, v]))) ?_ ?_
      · simp [*, cntX]
      rintro x s h hx ⟨h4, h3, h1, e1⟩
      have hxl : cntX N (xsOf v) Y x ≤ 64 * 64 := Nat.le_trans (cntX_le _ _ _ _) (Nat.mul_le_mul hY6 (by omega))
      by_cases hx2 : x < X
      · have hx3 : (x : Int) ≤ (X : Int) - 1 := by omega
        repeat' (first | (apply brI <;> intro hb hb2 <;> (try simp [-Int.not_le, -Int.not_lt, -Nat.not_le, -Nat.not_lt, -Nat.add_left_cancel_iff] at hb2)) | (refine draw_listA (by rfl) (by kernel_rfl) ?_) | (refine draw_listB (by simp [allocsOf, isAlloc]; rfl) (by kernel_rfl) ?_) | simp (maxSteps := 2000000) (disch := first | omega | assumption | simp [*]) [*, -Int.not_le, -Int.not_lt, -Nat.not_le, -Nat.not_lt, -Nat.add_left_cancel_iff, wrap_i64, wrap_u64, h4, h3, h1, e1, isI_cells hv, isI_one hv, isI_low hv, isI_len hv])
        refine W_loopG Y (fun y s h => s 5 = .int .i64 y ∧ s 4 = .int .i64 x ∧ s 3 = .int .i64 (((cntX N (xsOf v) Y x + cntY N (xsOf v) x y : Nat)) : Int) ∧ s 1 = .vp 1 0 0 ∧ h 1 = some (.var 0 26 (.agg [.int .i64 N, v]))) ?_ ?_
        · simp [*, cntY]
        rintro y s2 h2 hy ⟨k5, k4, k3, k1, f1⟩
        have hyl := cntY_le N (xsOf v) x y
        by_cases hy2 : y < Y
        · have hy3 : (y : Int) ≤ (Y : Int) - 1 := by omega
          have hb : bitC N (xsOf v) x y = if CmptC N (xsOf v) x y then 1 else 0 := rfl
          have hsu : cntY N (xsOf v) x (y + 1) = cntY N (xsOf v) x y + bitC N (xsOf v) x y := rfl
          by_cases hcm : CmptC N (xsOf v) (x : Int) (y : Int)
          · rw [if_pos hcm] at hb
            rw [hb] at hsu
            repeat' (first | (apply brI <;> intro hb hb2 <;> (try simp [-Int.not_le, -Int.not_lt, -Nat.not_le, -Nat.not_lt, -Nat.add_left_cancel_iff] at hb2)) | (refine draw_listA (by rfl) (by kernel_rfl) ?_) | (refine draw_listB (by simp [allocsOf, isAlloc]; rfl) (by kernel_rfl) ?_) | simp (maxSteps := 2000000) (disch := first | omega | assumption | simp [*]) [*, -Int.not_le, -Int.not_lt, -Nat.not_le, -Nat.not_lt, -Nat.add_left_cancel_iff, wrap_i64, wrap_u64, k5, k4, k3, k1, f1, isI_cells hv, isI_one hv, isI_low hv, isI_len hv])
            all_goals omega
          · rw [if_neg hcm] at hb
            rw [hb] at hsu
            repeat' (first | (apply brI <;> intro hb hb2 <;> (try simp [-Int.not_le, -Int.not_lt, -Nat.not_le, -Nat.not_lt, -Nat.add_left_cancel_iff] at hb2)) | (refine draw_listA (by rfl) (by kernel_rfl) ?_) | (refine draw_listB (by simp [allocsOf, isAlloc]; rfl) (by kernel_rfl) ?_) | simp (maxSteps := 2000000) (disch := first | omega | assumption | simp [*]) [*, -Int.not_le, -Int.not_lt, -Nat.not_le, -Nat.not_lt, -Nat.add_left_cancel_iff, wrap_i64, wrap_u64, k5, k4, k3, k1, f1, isI_cells hv, isI_one hv, isI_low hv, isI_len hv])
        · obtain rfl : y = Y := by omega
          have hyn : ¬ (y : Int) ≤ (y : Int) - 1 := by omega
          have hsx : cntX N (xsOf v) y (x + 1) = cntX N (xsOf v) y x + cntY N (xsOf v) x y := rfl
          repeat' (first | (apply brI <;> intro hb hb2 <;> (try simp [-Int.not_le, -Int.not_lt, -Nat.not_le, -Nat.not_lt, -Nat.add_left_cancel_iff] at hb2)) | (refine draw_listA (by rfl) (by kernel_rfl) ?_) | (refine draw_listB (by simp [allocsOf, isAlloc]; rfl) (by kernel_rfl) ?_) | simp (maxSteps := 2000000) (disch := first | omega | assumption | simp [*]) [*, -Int.not_le, -Int.not_lt, -Nat.not_le, -Nat.not_lt, -Nat.add_left_cancel_iff, wrap_i64, wrap_u64, k5, k4, k3, k1, f1, isI_cells hv, isI_one hv, isI_low hv, isI_len hv])
      · obtain rfl : x = X := by omega
        have hxn : ¬ (x : Int) ≤ (x : Int) - 1 := by omega
        repeat' (first | (apply brI <;> intro hb hb2 <;> (try simp [-Int.not_le, -Int.not_lt, -Nat.not_le, -Nat.not_lt, -Nat.add_left_cancel_iff] at hb2)) | (refine draw_listA (by rfl) (by kernel_rfl) ?_) | (refine draw_listB (by simp [allocsOf, isAlloc]; rfl) (by kernel_rfl) ?_) | simp (maxSteps := 2000000) (disch := first | omega | assumption | simp [*]) [*, -Int.not_le, -Int.not_lt, -Nat.not_le, -Nat.not_lt, -Nat.add_left_cancel_iff, wrap_i64, wrap_u64, h4, h3, h1, e1, isI_cells hv, isI_one hv, isI_low hv, isI_len hv])
    · have hV : cntV n (xsOf v) = -1 := by unfold cntV; rw [if_neg fun h => h6 h.2]
      have hn := hp.2.1
      have h0 := hp.1
      have hl := hp.2.2.1
      have h6' : 6 < ((xsOf v).length : Int) + n := by omega
      rw [hV]
      repeat' (first | (apply brI <;> intro hb hb2 <;> (try simp [-Int.not_le, -Int.not_lt, -Nat.not_le, -Nat.not_lt, -Nat.add_left_cancel_iff] at hb2)) | (refine draw_listA (by rfl) (by kernel_rfl) ?_) | (refine draw_listB (by simp [allocsOf, isAlloc]; rfl) (by kernel_rfl) ?_) | simp (maxSteps := 2000000) (disch := first | omega | assumption | simp [*]) [*, -Int.not_le, -Int.not_lt, -Nat.not_le, -Nat.not_lt, -Nat.add_left_cancel_iff, wrap_i64, wrap_u64, Tryz.f42, isI_cells hv, isI_one hv, isI_low hv, isI_len hv])
  · have hV : cntV n (xsOf v) = -1 := by unfold cntV; rw [if_neg fun h => hp h.1]
    rw [hV]
    repeat' (first | (apply brI <;> intro hb hb2 <;> (try simp [-Int.not_le, -Int.not_lt, -Nat.not_le, -Nat.not_lt, -Nat.add_left_cancel_iff] at hb2)) | (refine draw_listA (by rfl) (by kernel_rfl) ?_) | (refine draw_listB (by simp [allocsOf, isAlloc]; rfl) (by kernel_rfl) ?_) | simp (maxSteps := 2000000) (disch := first | omega | assumption | simp [*]) [*, -Int.not_le, -Int.not_lt, -Nat.not_le, -Nat.not_lt, -Nat.add_left_cancel_iff, wrap_i64, wrap_u64, Tryz.f42, isI_cells hv, isI_one hv, isI_low hv, isI_len hv])
theorem sCountCompatible_s {n : Int} {v : AV} (hv : IsI v) {K : AV → Prop} {tg : Tg K} : CW env 42 [.agg [.int .i64 n, v]] K tg ↔ K (.int .i64 (cntV n (xsOf v))) := callsTo_iff (sCountCompatible_c hv)
attribute [simp] sCountCompatible_s
theorem iCountCompatible_c {n : Int} {v : AV} (hv : IsI v) : EvC env 41 [.agg [.int .i64 n, v]] (.int .i64 (cntV n (xsOf v))) := by
  refine evC_of (F := Tryz.f41) rfl rfl (Nat.le_of_ble_eq_true rfl) ?_
  by_cases hp : PCtx n (xsOf v)
  · by_cases h6 : ((xsOf v).length : Int) + n ≤ 6
    · obtain ⟨N, rfl⟩ : ∃ N : Nat, n = N := ⟨n.toNat, by have := hp.1; omega⟩
      have hV : cntV N (xsOf v) = (cntX N (xsOf v) (2 ^ N) (2 ^ (xsOf v).length) : Nat) := by unfold cntV; rw [if_pos ⟨hp, h6⟩]; rfl
      rw [hV]
      have hX6 : 2 ^ (xsOf v).length ≤ 2 ^ 6 := Nat.pow_le_pow_right (by decide) (by omega)
      have hY6 : 2 ^ N ≤ 2 ^ 6 := Nat.pow_le_pow_right (by decide) (by omega)
      have hX0 := Nat.two_pow_pos (xsOf v).length
      have hY0 := Nat.two_pow_pos N
      have hXi : ((2 : Int) ^ (xsOf v).length) = ((2 ^ (xsOf v).length : Nat) : Int) := by simp
      have hYi : ((2 : Int) ^ N) = ((2 ^ N : Nat) : Int) := by simp
      obtain ⟨X, hX⟩ : ∃ X, X = 2 ^ (xsOf v).length := ⟨_, rfl⟩
      obtain ⟨Y, hY⟩ : ∃ Y, Y = 2 ^ N := ⟨_, rfl⟩
      rw [← hX] at hX6 hX0 hXi ⊢
      rw [← hY] at hY6 hY0 hYi ⊢
      have h6' : ¬ 6 < ((xsOf v).length : Int) + N := by omega
      have hl8 : ((xsOf v).length : Int) ≤ 8 := by omega
      have hn8 : (N : Int) ≤ 8 := by omega
      clear hX hY hV
      repeat' (first | (apply brI <;> intro hb hb2 <;> (try simp [-Int.not_le, -Int.not_lt, -Nat.not_le, -Nat.not_lt, -Nat.add_left_cancel_iff] at hb2)) | (refine draw_listA (by rfl) (by kernel_rfl) ?_) | (refine draw_listB (by simp [allocsOf, isAlloc]; rfl) (by kernel_rfl) ?_) | simp (maxSteps := 2000000) (disch := first | omega | assumption | simp [*]) [*, -Int.not_le, -Int.not_lt, -Nat.not_le, -Nat.not_lt, -Nat.add_left_cancel_iff, wrap_i64, wrap_u64, Tryz.f41, isI_cells hv, isI_one hv, isI_low hv, isI_len hv])
      refine W_loopG X (fun x s h => s 22 = .int .i64 x ∧ s 21 = .int .i64 X ∧ s 3 = .int .i64 (cntX N (xsOf v) Y x) ∧ s 1 = .vp 1 0 0 ∧ h 1 = some (.var 0 26 (.agg [.int .i64 N, v]))) ?_ ?_
      · simp [*, cntX]
      rintro x s h hx ⟨h4, h21, h3, h1, e1⟩
      have hxl : cntX N (xsOf v) Y x ≤ 64 * 64 := Nat.le_trans (cntX_le _ _ _ _) (Nat.mul_le_mul hY6 (by omega))
      by_cases hx2 : x < X
      · repeat' (first | (apply brI <;> intro hb hb2 <;> (try simp [-Int.not_le, -Int.not_lt, -Nat.not_le, -Nat.not_lt, -Nat.add_left_cancel_iff] at hb2)) | (refine draw_listA (by rfl) (by kernel_rfl) ?_) | (refine draw_listB (by simp [allocsOf, isAlloc]; rfl) (by kernel_rfl) ?_) | simp (maxSteps := 2000000) (disch := first | omega | assumption | simp [*]) [*, -Int.not_le, -Int.not_lt, -Nat.not_le, -Nat.not_lt, -Nat.add_left_cancel_iff, wrap_i64, wrap_u64, h4, h21, h3, h1, e1, isI_cells hv, isI_one hv, isI_low hv, isI_len hv])
        refine W_loopG Y (fun y s h => s 28 = .int .i64 y ∧ s 27 = .int .i64 Y ∧ s 4 = .int .i64 x ∧ s 22 = .int .i64 x ∧ s 21 = .int .i64 X ∧ s 3 = .int .i64 (((cntX N (xsOf v) Y x + cntY N (xsOf v) x y : Nat)) : Int) ∧ s 1 = .vp 1 0 0 ∧ h 1 = some (.var 0 26 (.agg [.int .i64 N, v]))) ?_ ?_
        · simp [*, cntY]
        rintro y s2 h2 hy ⟨k5, k27, k4, k22, k21, k3, k1, f1⟩
        have hyl := cntY_le N (xsOf v) x y
        by_cases hy2 : y < Y
        · have hb : bitC N (xsOf v) x y = if CmptC N (xsOf v) x y then 1 else 0 := rfl
          have hsu : cntY N (xsOf v) x (y + 1) = cntY N (xsOf v) x y + bitC N (xsOf v) x y := rfl
          by_cases hcm : CmptC N (xsOf v) (x : Int) (y : Int)
          · rw [if_pos hcm] at hb
            rw [hb] at hsu
            repeat' (first | (apply brI <;> intro hb hb2 <;> (try simp [-Int.not_le, -Int.not_lt, -Nat.not_le, -Nat.not_lt, -Nat.add_left_cancel_iff] at hb2)) | (refine draw_listA (by rfl) (by kernel_rfl) ?_) | (refine draw_listB (by simp [allocsOf, isAlloc]; rfl) (by kernel_rfl) ?_) | simp (maxSteps := 2000000) (disch := first | omega | assumption | simp [*]) [*, -Int.not_le, -Int.not_lt, -Nat.not_le, -Nat.not_lt, -Nat.add_left_cancel_iff, wrap_i64, wrap_u64, k5, k27, k4, k22, k21, k3, k1, f1, isI_cells hv, isI_one hv, isI_low hv, isI_len hv])
            all_goals omega
          · rw [if_neg hcm] at hb
            rw [hb] at hsu
            repeat' (first | (apply brI <;> intro hb hb2 <;> (try simp [-Int.not_le, -Int.not_lt, -Nat.not_le, -Nat.not_lt, -Nat.add_left_cancel_iff] at hb2)) | (refine draw_listA (by rfl) (by kernel_rfl) ?_) | (refine draw_listB (by simp [allocsOf, isAlloc]; rfl) (by kernel_rfl) ?_) | simp (maxSteps := 2000000) (disch := first | omega | assumption | simp [*]) [*, -Int.not_le, -Int.not_lt, -Nat.not_le, -Nat.not_lt, -Nat.add_left_cancel_iff, wrap_i64, wrap_u64, k5, k27, k4, k22, k21, k3, k1, f1, isI_cells hv, isI_one hv, isI_low hv, isI_len hv])
        · obtain rfl : y = Y := by omega
          have hsx : cntX N (xsOf v) y (x + 1) = cntX N (xsOf v) y x + cntY N (xsOf v) x y := rfl
          repeat' (first | (apply brI <;> intro hb hb2 <;> (try simp [-Int.not_le, -Int.not_lt, -Nat.not_le, -Nat.not_lt, -Nat.add_left_cancel_iff] at hb2)) | (refine draw_listA (by rfl) (by kernel_rfl) ?_) | (refine draw_listB (by simp [allocsOf, isAlloc]; rfl) (by kernel_rfl) ?_) | simp (maxSteps := 2000000) (disch := first | omega | assumption | simp [*]) [*, -Int.not_le, -Int.not_lt, -Nat.not_le, -Nat.not_lt, -Nat.add_left_cancel_iff, wrap_i64, wrap_u64, k5, k27, k4, k22, k21, k3, k1, f1, isI_cells hv, isI_one hv, isI_low hv, isI_len hv])
      · obtain rfl : x = X := by omega
        repeat' (first | (apply brI <;> intro hb hb2 <;> (try simp [-Int.not_le, -Int.not_lt, -Nat.not_le, -Nat.not_lt, -Nat.add_left_cancel_iff] at hb2)) | (refine draw_listA (by rfl) (by kernel_rfl) ?_) | (refine draw_listB (by simp [allocsOf, isAlloc]; rfl) (by kernel_rfl) ?_) | simp (maxSteps := 2000000) (disch := first | omega | assumption | simp [*]) [*, -Int.not_le, -Int.not_lt, -Nat.not_le, -Nat.not_lt, -Nat.add_left_cancel_iff, wrap_i64, wrap_u64, h4, h21, h3, h1, e1, isI_cells hv, isI_one hv, isI_low hv, isI_len hv])
    · have hV : cntV n (xsOf v) = -1 := by unfold cntV; rw [if_neg fun h => h6 h.2]
      have hn := hp.2.1
      have h0 := hp.1
      have hl := hp.2.2.1
      have h6' : 6 < ((xsOf v).length : Int) + n := by omega
      rw [hV]
      repeat' (first | (apply brI <;> intro hb hb2 <;> (try simp [-Int.not_le, -Int.not_lt, -Nat.not_le, -Nat.not_lt, -Nat.add_left_cancel_iff] at hb2)) | (refine draw_listA (by rfl) (by kernel_rfl) ?_) | (refine draw_listB (by simp [allocsOf, isAlloc]; rfl) (by kernel_rfl) ?_) | simp (maxSteps := 2000000) (disch := first | omega | assumption | simp [*]) [*, -Int.not_le, -Int.not_lt, -Nat.not_le, -Nat.not_lt, -Nat.add_left_cancel_iff, wrap_i64, wrap_u64, Tryz.f41, isI_cells hv, isI_one hv, isI_low hv, isI_len hv])
  · have hV : cntV n (xsOf v) = -1 := by unfold cntV; rw [if_neg fun h => hp h.1]
    rw [hV]
    repeat' (first | (apply brI <;> intro hb hb2 <;> (try simp [-Int.not_le, -Int.not_lt, -Nat.not_le, -Nat.not_lt, -Nat.add_left_cancel_iff] at hb2)) | (refine draw_listA (by rfl) (by kernel_rfl) ?_) | (refine draw_listB (by simp [allocsOf, isAlloc]; rfl) (by kernel_rfl) ?_) | simp (maxSteps := 2000000) (disch := first | omega | assumption | simp [*]) [*, -Int.not_le, -Int.not_lt, -Nat.not_le, -Nat.not_lt, -Nat.add_left_cancel_iff, wrap_i64, wrap_u64, Tryz.f41, isI_cells hv, isI_one hv, isI_low hv, isI_len hv])
theorem iCountCompatible_s {n : Int} {v : AV} (hv : IsI v) {K : AV → Prop} {tg : Tg K} : CW env 41 [.agg [.int .i64 n, v]] K tg ↔ K (.int .i64 (cntV n (xsOf v))) := callsTo_iff (iCountCompatible_c hv)
attribute [simp] iCountCompatible_s
end Go.Proofs.YtliecnadoklgoaaGreatDoor
