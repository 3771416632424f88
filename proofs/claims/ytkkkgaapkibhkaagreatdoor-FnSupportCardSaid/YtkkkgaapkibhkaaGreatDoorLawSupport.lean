/- The great law of support. Conditions: none. -/
import Derived.Test.YtkkkgaapkibhkaaGreatDoorDrawE
import Derived.Test.YtkkkgaapkibhkaaGreatDoorPathA
import Derived.Test.YtkkkgaapkibhkaaGreatDoorLawSame
import Derived.Test.YtkkkgaapkibhkaaGreatDoorStrong
import Derived.Test.YtkkkgaapkibhkaaGreatDoorFreq
namespace Go.Proofs.YtkkkgaapkibhkaaGreatDoor
open Ev
set_option linter.unusedVariables false
set_option linter.unusedSimpArgs false
set_option maxHeartbeats 8000000
set_option maxRecDepth 100000

theorem neq_rule (a b c e : Int) : binT env .neq 59 (.agg [.int .i64 a, .int .i64 b]) (.agg [.int .i64 c, .int .i64 e]) = some (.bool (!(decide (a = c) && decide (b = e)))) := by
  by_cases h1 : a = c
  · subst h1
    by_cases h2 : b = e
    · subst h2; simp [binT, eqT, eqFs, eqR, partOf, TD.agg?]
    · have f := beq_false_of_ne h2
      simp [binT, eqT, eqFs, eqR, partOf, TD.agg?, f, h2]
  · have f := beq_false_of_ne h1
    simp [binT, eqT, eqFs, eqR, partOf, TD.agg?, f, h1]
theorem neq_meas (a b c e : Int) : binT env .neq 100 (.agg [.int .i64 a, .int .i64 b, .int .i64 c, .int .i64 e]) (.agg [.int .i64 a, .int .i64 b, .int .i64 c, .int .i64 e]) = some (.bool false) := by
  simp [binT, eqT, eqFs, eqR, partOf, TD.agg?]
theorem sameRules_c {u v : AV} (hu : IsP u) (hv : IsP v) (h1 : fsts u = fsts v) (h2 : snds u = snds v) : EvC env 60 [u, v] (.bool true) := by
  refine evC_of (F := Tryz.f60) rfl rfl (Nat.le_of_ble_eq_true rfl) ?_
  have := hu.len
  have := hv.len
  have hul := hu.lens
  have hvl := hv.lens
  have hl : (fsts u).length = (fsts v).length := by rw [h1]
  have hli : ((fsts u).length : Int) = (fsts v).length := by omega
  have hj : ∀ j, nth (fsts u) j = nth (fsts v) j ∧ nth (snds u) j = nth (snds v) j := fun j => ⟨by rw [h1], by rw [h2]⟩
  clear h1 h2
  repeat' (first | (apply br_intro <;> intro hb <;> (have hb2 := hb) <;> (try simp [-Int.not_le, -Int.not_lt, -Nat.not_le, -Nat.not_lt, -Nat.add_left_cancel_iff] at hb2)) | (refine draw_listA (by rfl) (by kernel_rfl) ?_) | (refine draw_listB (by simp [allocsOf, isAlloc]; rfl) (by kernel_rfl) ?_) | simp (maxSteps := 2000000) (disch := first | omega | assumption | simp [*]) [*, -Int.not_le, -Int.not_lt, -Nat.not_le, -Nat.not_lt, -Nat.add_left_cancel_iff, wrap_i64, wrap_u64, Tryz.f60, isP_len hu, isP_low hu, isP_len hv, isP_low hv])
  refine W_loopP (fsts v).length (fun i s => s 5 = .int .i64 i ∧ s 0 = u ∧ s 1 = v) rfl ?_ ?_
  · simp
  rintro i s hi ⟨h5, h0, h1⟩
  by_cases hi2 : i < (fsts v).length
  · have hi3 : i < (fsts u).length := by omega
    obtain ⟨e1, e2⟩ := hj i
    clear hj
    repeat' (first | (apply br_intro <;> intro hb <;> (have hb2 := hb) <;> (try simp [-Int.not_le, -Int.not_lt, -Nat.not_le, -Nat.not_lt, -Nat.add_left_cancel_iff] at hb2)) | (refine draw_listA (by rfl) (by kernel_rfl) ?_) | (refine draw_listB (by simp [allocsOf, isAlloc]; rfl) (by kernel_rfl) ?_) | simp (maxSteps := 2000000) (disch := first | omega | assumption | simp [*]) [*, -Int.not_le, -Int.not_lt, -Nat.not_le, -Nat.not_lt, -Nat.add_left_cancel_iff, wrap_i64, wrap_u64, h5, h0, h1, isP_len hu, isP_low hu, isP_index hu, isP_len hv, isP_low hv, isP_index hv, neq_rule])
  · obtain rfl : i = (fsts v).length := by omega
    clear hj
    repeat' (first | (apply br_intro <;> intro hb <;> (have hb2 := hb) <;> (try simp [-Int.not_le, -Int.not_lt, -Nat.not_le, -Nat.not_lt, -Nat.add_left_cancel_iff] at hb2)) | (refine draw_listA (by rfl) (by kernel_rfl) ?_) | (refine draw_listB (by simp [allocsOf, isAlloc]; rfl) (by kernel_rfl) ?_) | simp (maxSteps := 2000000) (disch := first | omega | assumption | simp [*]) [*, -Int.not_le, -Int.not_lt, -Nat.not_le, -Nat.not_lt, -Nat.add_left_cancel_iff, wrap_i64, wrap_u64, h5, h0, h1, isP_len hu])
theorem sameRules_s {u v : AV} (hu : IsP u) (hv : IsP v) (h1 : fsts u = fsts v) (h2 : snds u = snds v) {K : AV → Prop} {tg : Tg K} : CW env 60 [u, v] K tg ↔ K (.bool true) := callsTo_iff (sameRules_c hu hv h1 h2)
attribute [simp] sameRules_s
theorem sameMeasured_c {v : AV} (hv : IsM v) : EvC env 101 [v, v] (.bool true) := by
  refine evC_of (F := Tryz.f101) rfl rfl (Nat.le_of_ble_eq_true rfl) ?_
  have := hv.len
  repeat' (first | (apply br_intro <;> intro hb <;> (have hb2 := hb) <;> (try simp [-Int.not_le, -Int.not_lt, -Nat.not_le, -Nat.not_lt, -Nat.add_left_cancel_iff] at hb2)) | (refine draw_listA (by rfl) (by kernel_rfl) ?_) | (refine draw_listB (by simp [allocsOf, isAlloc]; rfl) (by kernel_rfl) ?_) | simp (maxSteps := 2000000) (disch := first | omega | assumption | simp [*]) [*, -Int.not_le, -Int.not_lt, -Nat.not_le, -Nat.not_lt, -Nat.add_left_cancel_iff, wrap_i64, wrap_u64, Tryz.f101, isM_len hv, isM_low hv])
  refine W_loopP (esOf v).length (fun i s => s 5 = .int .i64 i ∧ s 0 = v ∧ s 1 = v) rfl ?_ ?_
  · simp
  rintro i s hi ⟨h5, h0, h1⟩
  by_cases hi2 : i < (esOf v).length
  · repeat' (first | (apply br_intro <;> intro hb <;> (have hb2 := hb) <;> (try simp [-Int.not_le, -Int.not_lt, -Nat.not_le, -Nat.not_lt, -Nat.add_left_cancel_iff] at hb2)) | (refine draw_listA (by rfl) (by kernel_rfl) ?_) | (refine draw_listB (by simp [allocsOf, isAlloc]; rfl) (by kernel_rfl) ?_) | simp (maxSteps := 2000000) (disch := first | omega | assumption | simp [*]) [*, -Int.not_le, -Int.not_lt, -Nat.not_le, -Nat.not_lt, -Nat.add_left_cancel_iff, wrap_i64, wrap_u64, h5, h0, h1, isM_len hv, isM_low hv, isM_index hv, neq_meas])
  · obtain rfl : i = (esOf v).length := by omega
    repeat' (first | (apply br_intro <;> intro hb <;> (have hb2 := hb) <;> (try simp [-Int.not_le, -Int.not_lt, -Nat.not_le, -Nat.not_lt, -Nat.add_left_cancel_iff] at hb2)) | (refine draw_listA (by rfl) (by kernel_rfl) ?_) | (refine draw_listB (by simp [allocsOf, isAlloc]; rfl) (by kernel_rfl) ?_) | simp (maxSteps := 2000000) (disch := first | omega | assumption | simp [*]) [*, -Int.not_le, -Int.not_lt, -Nat.not_le, -Nat.not_lt, -Nat.add_left_cancel_iff, wrap_i64, wrap_u64, h5, h0, h1, isM_len hv])
theorem sameMeasured_s {v : AV} (hv : IsM v) {K : AV → Prop} {tg : Tg K} : CW env 101 [v, v] K tg ↔ K (.bool true) := callsTo_iff (sameMeasured_c hv)
attribute [simp] sameMeasured_s
theorem DrC.gen {r : AV} {qs : List AV → Prop} (h : DrC r qs) : ∃ (n : Int) (v : AV) (xs : List AV), noEx r = .tup (.agg [.int .i64 n, v] :: xs) ∧ IsI v ∧ (xsOf v).length ≤ 9 ∧ qs xs := by
  obtain ⟨n, rows, xs, h1, h2, h3⟩ := h
  exact ⟨n, bufC 0 rows, xs, h1, isI_bufC (by unfold top63; omega), by simpa using h2, h3⟩
theorem sup_range (n : Int) (xs : List Int) (s : Int) : -1 ≤ supV n xs s ∧ supV n xs s ≤ 8 := by
  unfold supV
  split
  · have := elemsTo_len (Ext xs s) 8
    omega
  · omega
theorem conf_range (n : Int) (xs : List Int) (a b : Int) : -1 ≤ confA n xs a b ∧ confA n xs a b ≤ 8 ∧ -1 ≤ confB n xs a b ∧ confB n xs a b ≤ 8 := by
  unfold confA confB
  split
  · have h1 := sup_range n xs ((a.toNat ||| b.toNat : Nat) : Int)
    have h2 := sup_range n xs a
    omega
  · omega
theorem isP_bufS {k0 : Nat} {es : List AV} (h : ∀ e ∈ es, ∃ a b, e = pr a b) (hl : es.length ≤ top63) : IsP (bufLC k0 2 es) ∧ fsts (bufLC k0 2 es) = es.map fstI ∧ snds (bufLC k0 2 es) = es.map sndI := by
  by_cases he : es = []
  · subst he; unfold bufLC; rw [if_pos rfl]; exact ⟨isP_mk (xs := []) (ys := []) (.inl rfl) rfl (Nat.zero_le _), rfl, rfl⟩
  · have e : bufLC k0 2 es = bufLC 2 2 es := by unfold bufLC; rw [if_neg he, if_neg he]
    rw [e]; exact ⟨isP_bufLC h hl, fsts_bufLC .., snds_bufLC ..⟩
theorem mul_small {a b : Int} (ha : -1 ≤ a ∧ a ≤ 8) (hb : 0 ≤ b ∧ b ≤ 101) : -101 ≤ a * b ∧ a * b ≤ 808 := by
  have h1 : (-1) * b ≤ a * b := Int.mul_le_mul_of_nonneg_right ha.1 hb.1
  have h2 : a * b ≤ 8 * b := Int.mul_le_mul_of_nonneg_right ha.2 hb.1
  omega
theorem at_getD {es : List AV} {i : Nat} (hi : i < es.length) : atQ es i ∈ es := by
  unfold atQ
  simp [hi]
theorem lawSupport_c {b : AV} (hB : IsB b) (hbr : brwOf b = false) : EvC env 8 [b] (.bool true) := by
  refine evC_of (F := Tryz.f8) rfl rfl (Nat.le_of_ble_eq_true rfl) ?_
  have hcb := isB_cells hB
  have hob := isB_one hB
  by_cases hbig : 1048576 < bLen b
  · have hbi : (1048576 : Int) < (bLen b : Int) := by omega
    repeat' (first | (apply br_intro <;> intro hb <;> (have hb2 := hb) <;> (try simp [-Int.not_le, -Int.not_lt, -Nat.not_le, -Nat.not_lt, -Nat.add_left_cancel_iff] at hb2)) | (refine draw_listA (by rfl) (by kernel_rfl) ?_) | (refine draw_listB (by simp [allocsOf, isAlloc]; rfl) (by kernel_rfl) ?_) | simp (maxSteps := 2000000) (disch := first | omega | assumption | simp [*]) [*, -Int.not_le, -Int.not_lt, -Nat.not_le, -Nat.not_lt, -Nat.add_left_cancel_iff, wrap_i64, wrap_u64, Tryz.f8, isB_low hB])
  · have hbi : ¬ ((1048576 : Int) < (bLen b : Int)) := by omega
    have hl : bLen b ≤ 1073741824 := by omega
    repeat' (first | (apply br_intro <;> intro hb <;> (have hb2 := hb) <;> (try simp [-Int.not_le, -Int.not_lt, -Nat.not_le, -Nat.not_lt, -Nat.add_left_cancel_iff] at hb2)) | (refine draw_listA (by rfl) (by kernel_rfl) ?_) | (refine draw_listB (by simp [allocsOf, isAlloc]; rfl) (by kernel_rfl) ?_) | simp (maxSteps := 2000000) (disch := first | omega | assumption | simp [*]) [*, -Int.not_le, -Int.not_lt, -Nat.not_le, -Nat.not_lt, -Nat.add_left_cancel_iff, wrap_i64, wrap_u64, Tryz.f8, isB_low hB])
    refine cw_to (drawSupportOf_t hB hbr hl) ?_
    intro r1 hd1
    obtain ⟨n1, v1, xs, hr1, i1, l1, k1, rfl⟩ := hd1.gen
    clear hd1
    have o1 := isI_one i1
    have c1 := isI_cells i1
    repeat' (first | (apply br_intro <;> intro hb <;> (have hb2 := hb) <;> (try simp [-Int.not_le, -Int.not_lt, -Nat.not_le, -Nat.not_lt, -Nat.add_left_cancel_iff] at hb2)) | (refine draw_listA (by rfl) (by kernel_rfl) ?_) | (refine draw_listB (by simp [allocsOf, isAlloc]; rfl) (by kernel_rfl) ?_) | simp (maxSteps := 2000000) (disch := first | omega | assumption | simp [*]) [*, -Int.not_le, -Int.not_lt, -Nat.not_le, -Nat.not_lt, -Nat.add_left_cancel_iff, wrap_i64, wrap_u64, isB_low hB, isI_low i1])
    refine cw_to (drawConfidenceOf_t hB hbr hl) ?_
    intro r2 hd2
    obtain ⟨n2, v2, xs, hr2, i2, l2, a2, b2, rfl⟩ := hd2.gen
    clear hd2
    have o2 := isI_one i2
    have c2 := isI_cells i2
    repeat' (first | (apply br_intro <;> intro hb <;> (have hb2 := hb) <;> (try simp [-Int.not_le, -Int.not_lt, -Nat.not_le, -Nat.not_lt, -Nat.add_left_cancel_iff] at hb2)) | (refine draw_listA (by rfl) (by kernel_rfl) ?_) | (refine draw_listB (by simp [allocsOf, isAlloc]; rfl) (by kernel_rfl) ?_) | simp (maxSteps := 2000000) (disch := first | omega | assumption | simp [*]) [*, -Int.not_le, -Int.not_lt, -Nat.not_le, -Nat.not_lt, -Nat.add_left_cancel_iff, wrap_i64, wrap_u64, isB_low hB, isI_low i1, isI_low i2])
    refine cw_to (drawFrequentIntents_t hB hbr hl) ?_
    intro r3 hd3
    obtain ⟨n3, v3, xs, hr3, i3, l3, k3, rfl⟩ := hd3.gen
    clear hd3
    have o3 := isI_one i3
    have c3 := isI_cells i3
    have hlq := luxA_q (fsts (conW n3 (xsOf v3))) (snds (conW n3 (xsOf v3))) k3 (conL n3 (xsOf v3)).length
    have hll := luxL_len n3 (xsOf v3) k3
    have hM : IsM (bufLC 4 4 (luxL n3 (xsOf v3) k3)) := isM_bufLC hlq (by unfold top63; omega)
    have heM : esOf (bufLC 4 4 (luxL n3 (xsOf v3) k3)) = luxL n3 (xsOf v3) k3 := esOf_bufLC
    have hlux : ∀ i, i < (esOf (bufLC 4 4 (luxL n3 (xsOf v3) k3))).length → confA n3 (xsOf v3) (mA (bufLC 4 4 (luxL n3 (xsOf v3) k3)) i) (mB (bufLC 4 4 (luxL n3 (xsOf v3) k3)) i) = mC (bufLC 4 4 (luxL n3 (xsOf v3) k3)) i ∧ confB n3 (xsOf v3) (mA (bufLC 4 4 (luxL n3 (xsOf v3) k3)) i) (mB (bufLC 4 4 (luxL n3 (xsOf v3) k3)) i) = mD (bufLC 4 4 (luxL n3 (xsOf v3) k3)) i ∧ mC (bufLC 4 4 (luxL n3 (xsOf v3) k3)) i < mD (bufLC 4 4 (luxL n3 (xsOf v3) k3)) i := fun i hi => by
      have := lux_conf _ (at_getD hi |> fun h => by rw [heM] at h; exact h)
      unfold mA mB mC mD
      rw [heM]
      exact this
    have hlM : (esOf (bufLC 4 4 (luxL n3 (xsOf v3) k3))).length ≤ 4096 := by rw [heM]; exact hll
    obtain ⟨MB, hMB⟩ : ∃ MB, bufLC 4 4 (luxL n3 (xsOf v3) k3) = MB := ⟨_, rfl⟩
    rw [hMB] at hM hlux hlM
    have oM := isM_one hM
    have cM := isM_cells hM
    have iFI : IsI (bufC 1 (freqL n3 (xsOf v3) k3)) := isI_bufC (by have := freqL_len n3 (xsOf v3) k3; unfold top63; omega)
    obtain ⟨FI, hFI⟩ : ∃ FI, bufC 1 (freqL n3 (xsOf v3) k3) = FI := ⟨_, rfl⟩
    rw [hFI] at iFI
    have oF := isI_one iFI
    have cF := isI_cells iFI
    clear hlq hll heM
    repeat' (first | (apply br_intro <;> intro hb <;> (have hb2 := hb) <;> (try simp [-Int.not_le, -Int.not_lt, -Nat.not_le, -Nat.not_lt, -Nat.add_left_cancel_iff] at hb2)) | (refine draw_listA (by rfl) (by kernel_rfl) ?_) | (refine draw_listB (by simp [allocsOf, isAlloc]; rfl) (by kernel_rfl) ?_) | simp (maxSteps := 2000000) (disch := first | omega | assumption | simp [*]) [*, -Int.not_le, -Int.not_lt, -Nat.not_le, -Nat.not_lt, -Nat.add_left_cancel_iff, wrap_i64, wrap_u64, isB_low hB, isI_low i1, isI_low i2, isI_low i3, isM_low hM])
    refine cw_to (drawPathConfidence_t hB hbr hl) ?_
    intro r4 hd4
    obtain ⟨n4, v4, xs, hr4, i4, l4, u4, rfl, iu4, lu4⟩ := hd4.gen
    clear hd4
    have o4 := isI_one i4
    have c4 := isI_cells i4
    have ou4 := isI_one iu4
    have cu4 := isI_cells iu4
    have hP := conW_P n4 (xsOf v4)
    have hw := sCon_noEx n4 (xsOf v4) 102
    have hw2 : bufLC 2 2 (conR (xsOf v4) (conL n4 (xsOf v4))) = conW n4 (xsOf v4) := rfl
    have hpath := fun h => path_conf (n := n4) (xs := xsOf v4) (path := xsOf u4) h
    obtain ⟨w, hcw⟩ : ∃ w, conW n4 (xsOf v4) = w := ⟨_, rfl⟩
    simp only [hcw] at hP hw hw2 hpath
    obtain ⟨pa, hpa⟩ : ∃ pa, pathA (fsts w) (xsOf u4) = pa := ⟨_, rfl⟩
    obtain ⟨pb, hpb⟩ : ∃ pb, pathB (fsts w) (xsOf u4) = pb := ⟨_, rfl⟩
    simp only [hpa, hpb] at hpath
    repeat' (first | (apply br_intro <;> intro hb <;> (have hb2 := hb) <;> (try simp [-Int.not_le, -Int.not_lt, -Nat.not_le, -Nat.not_lt, -Nat.add_left_cancel_iff] at hb2)) | (refine draw_listA (by rfl) (by kernel_rfl) ?_) | (refine draw_listB (by simp [allocsOf, isAlloc]; rfl) (by kernel_rfl) ?_) | simp (maxSteps := 2000000) (disch := first | omega | assumption | simp [*]) [*, -Int.not_le, -Int.not_lt, -Nat.not_le, -Nat.not_lt, -Nat.add_left_cancel_iff, wrap_i64, wrap_u64, isB_low hB, isI_low i1, isI_low i2, isI_low i3, isI_low i4, isI_low iu4, isM_low hM])
    refine cw_to (drawStrongRules_t hB hbr hl) ?_
    intro r5 hd5
    obtain ⟨n5, v5, xs, hr5, i5, l5, num, den, rfl, hn0, hn5, hd0, hd5⟩ := hd5.gen
    have o5 := isI_one i5
    have c5 := isI_cells i5
    have hsl : (strL n5 (xsOf v5) num den).length ≤ top63 := by have := strL_len n5 (xsOf v5) num den; unfold top63; omega
    obtain ⟨hS1, hf1, hs1⟩ := isP_bufS (k0 := strK num den) (strL_pr n5 (xsOf v5) num den) hsl
    obtain ⟨hS2, hf2, hs2⟩ := isP_bufS (k0 := 2) (strL_pr n5 (xsOf v5) num den) hsl
    have hstr : ∀ i, i < (fsts (bufLC (strK num den) 2 (strL n5 (xsOf v5) num den))).length → ¬ confA n5 (xsOf v5) (nth (fsts (bufLC (strK num den) 2 (strL n5 (xsOf v5) num den))) i) (nth (snds (bufLC (strK num den) 2 (strL n5 (xsOf v5) num den))) i) * den < num * confB n5 (xsOf v5) (nth (fsts (bufLC (strK num den) 2 (strL n5 (xsOf v5) num den))) i) (nth (snds (bufLC (strK num den) 2 (strL n5 (xsOf v5) num den))) i) := fun i hi => by
      rw [hf1] at hi
      rw [hf1, hs1]
      have hi2 : i < (strL n5 (xsOf v5) num den).length := by simpa using hi
      have h9 := str_conf _ (List.getElem_mem hi2)
      simpa [nth, hi2] using h9
    have hlS : (fsts (bufLC (strK num den) 2 (strL n5 (xsOf v5) num den))).length ≤ 4611686018427387904 := by rw [hf1, List.length_map]; have := strL_len n5 (xsOf v5) num den; omega
    have hff : fsts (bufLC (strK num den) 2 (strL n5 (xsOf v5) num den)) = fsts (bufLC 2 2 (strL n5 (xsOf v5) num den)) := by rw [hf1, hf2]
    have hss : snds (bufLC (strK num den) 2 (strL n5 (xsOf v5) num den)) = snds (bufLC 2 2 (strL n5 (xsOf v5) num den)) := by rw [hs1, hs2]
    have hsr : ∀ (K : AV → Prop) (tg : Tg K), CW env 60 [bufLC (strK num den) 2 (strL n5 (xsOf v5) num den), bufLC 2 2 (strL n5 (xsOf v5) num den)] K tg ↔ K (.bool true) := fun K tg => callsTo_iff (sameRules_c hS1 hS2 hff hss)
    clear hff hss hf1 hf2 hs1 hs2 hsl
    obtain ⟨S1, hS1e⟩ : ∃ S1, bufLC (strK num den) 2 (strL n5 (xsOf v5) num den) = S1 := ⟨_, rfl⟩
    obtain ⟨S2, hS2e⟩ : ∃ S2, bufLC 2 2 (strL n5 (xsOf v5) num den) = S2 := ⟨_, rfl⟩
    simp only [hS1e, hS2e] at hS1 hS2 hstr hsr hlS
    have oS1 := isP_one hS1
    have cS1 := isP_cells hS1
    have oS2 := isP_one hS2
    have cS2 := isP_cells hS2
    repeat' (first | (apply br_intro <;> intro hb <;> (have hb2 := hb) <;> (try simp [-Int.not_le, -Int.not_lt, -Nat.not_le, -Nat.not_lt, -Nat.add_left_cancel_iff] at hb2)) | (refine draw_listA (by rfl) (by kernel_rfl) ?_) | (refine draw_listB (by simp [allocsOf, isAlloc]; rfl) (by kernel_rfl) ?_) | simp (maxSteps := 2000000) (disch := first | omega | assumption | simp [*]) [*, -Int.not_le, -Int.not_lt, -Nat.not_le, -Nat.not_lt, -Nat.add_left_cancel_iff, wrap_i64, wrap_u64, isB_low hB, isI_low i1, isI_low i2, isI_low i3, isI_low i4, isI_low i5, isI_low iu4, isI_low iFI, isM_low hM, isP_low hS1, isP_low hS2, isP_low hP])
    clear hr1 hr2 hr3 hr4 hr5 i1 i2 c1 c2 o1 o2 hsr hS2 oS2 cS2 iFI oF cF hMB hFI hS1e hS2e
    refine W_loopG (esOf MB).length (fun i s h' => s 24 = .int .i64 i ∧ s 13 = MB ∧ s 11 = .vp 11 0 0 ∧ h' 11 = some (.var 0 26 (.agg [.int .i64 n3, v3])) ∧ s 14 = .vp 14 0 0 ∧ h' 14 = some (.var 0 26 (.agg [.int .i64 n4, v4])) ∧ s 15 = u4 ∧ s 16 = .int .i64 pa ∧ s 17 = .int .i64 pb ∧ s 20 = .vp 20 0 0 ∧ h' 20 = some (.var 0 26 (.agg [.int .i64 n5, v5])) ∧ s 21 = .int .i64 num ∧ s 22 = .int .i64 den ∧ s 23 = S1) ?_ ?_
    · clear hlux hstr hpath
      simp [*]
    clear hpa hpb
    rintro i s h' hi ⟨h24, h13, h11, e11, h14, e14, h15, h16, h17, h20, e20, h21, h22, h23⟩
    by_cases hi2 : i < (esOf MB).length
    · obtain ⟨g1, g2, g3⟩ := hlux i hi2
      have g4 : ¬ (mD MB i ≤ mC MB i) := by omega
      clear hlux hstr hpath
      repeat' (first | (apply br_intro <;> intro hb <;> (have hb2 := hb) <;> (try simp [-Int.not_le, -Int.not_lt, -Nat.not_le, -Nat.not_lt, -Nat.add_left_cancel_iff] at hb2)) | (refine draw_listA (by rfl) (by kernel_rfl) ?_) | (refine draw_listB (by simp [allocsOf, isAlloc]; rfl) (by kernel_rfl) ?_) | simp (maxSteps := 2000000) (disch := first | omega | assumption | simp [*]) [*, -Int.not_le, -Int.not_lt, -Nat.not_le, -Nat.not_lt, -Nat.add_left_cancel_iff, wrap_i64, wrap_u64, h24, h13, h11, e11, h14, e14, h15, h16, h17, h20, e20, h21, h22, h23, isM_len hM, isM_index hM, isI_low i3, isI_low i4, isI_low i5, isI_low iu4, isM_low hM, isP_low hS1, isP_low hP])
    · obtain rfl : i = (esOf MB).length := by omega
      clear hlux hi2
      repeat' (first | (apply br_intro <;> intro hb <;> (have hb2 := hb) <;> (try simp [-Int.not_le, -Int.not_lt, -Nat.not_le, -Nat.not_lt, -Nat.add_left_cancel_iff] at hb2)) | (refine draw_listA (by rfl) (by kernel_rfl) ?_) | (refine draw_listB (by simp [allocsOf, isAlloc]; rfl) (by kernel_rfl) ?_) | simp (maxSteps := 2000000) (disch := first | omega | assumption | simp [*]) [*, -Int.not_le, -Int.not_lt, -Nat.not_le, -Nat.not_lt, -Nat.add_left_cancel_iff, wrap_i64, wrap_u64, h24, h13, h11, e11, h14, e14, h15, h16, h17, h20, e20, h21, h22, h23, isM_len hM, isI_low i3, isI_low i4, isI_low i5, isI_low iu4, isM_low hM, isP_low hS1, isP_low hP])
      refine W_loopG (fsts S1).length (fun i s h' => s 27 = .int .i64 i ∧ s 14 = .vp 14 0 0 ∧ h' 14 = some (.var 0 26 (.agg [.int .i64 n4, v4])) ∧ s 15 = u4 ∧ s 16 = .int .i64 pa ∧ s 17 = .int .i64 pb ∧ s 20 = .vp 20 0 0 ∧ h' 20 = some (.var 0 26 (.agg [.int .i64 n5, v5])) ∧ s 21 = .int .i64 num ∧ s 22 = .int .i64 den ∧ s 23 = S1) ?_ ?_
      · clear hstr hpath
        simp [*]
      clear h24 h13 h11 e11 h14 e14 h15 h16 h17 h20 e20 h21 h22 h23 hi hM hlM oM cM
      rintro i s h' hi ⟨h27, h14, e14, h15, h16, h17, h20, e20, h21, h22, h23⟩
      by_cases hi2 : i < (fsts S1).length
      · have g1 := hstr i hi2
        obtain ⟨ra1, ra2, rb1, rb2⟩ := conf_range n5 (xsOf v5) (nth (fsts S1) i) (nth (snds S1) i)
        obtain ⟨ca, hca⟩ : ∃ ca, confA n5 (xsOf v5) (nth (fsts S1) i) (nth (snds S1) i) = ca := ⟨_, rfl⟩
        obtain ⟨cb, hcb9⟩ : ∃ cb, confB n5 (xsOf v5) (nth (fsts S1) i) (nth (snds S1) i) = cb := ⟨_, rfl⟩
        rw [hca] at g1 ra1 ra2
        rw [hcb9] at g1 rb1 rb2
        have hm1 := mul_small (a := ca) (b := den) ⟨ra1, ra2⟩ ⟨hd0, hd5⟩
        have hm2 := mul_small (a := cb) (b := num) ⟨rb1, rb2⟩ ⟨hn0, by omega⟩
        rw [Int.mul_comm] at hm2
        clear hstr hpath
        repeat' (first | (apply br_intro <;> intro hb <;> (have hb2 := hb) <;> (try simp [-Int.not_le, -Int.not_lt, -Nat.not_le, -Nat.not_lt, -Nat.add_left_cancel_iff] at hb2)) | (refine draw_listA (by rfl) (by kernel_rfl) ?_) | (refine draw_listB (by simp [allocsOf, isAlloc]; rfl) (by kernel_rfl) ?_) | simp (maxSteps := 2000000) (disch := first | omega | assumption | simp [*]) [*, -Int.not_le, -Int.not_lt, -Nat.not_le, -Nat.not_lt, -Nat.add_left_cancel_iff, wrap_i64, wrap_u64, h27, h14, e14, h15, h16, h17, h20, e20, h21, h22, h23, isP_len hS1, isP_index hS1, isI_low i3, isI_low i4, isI_low i5, isI_low iu4, isP_low hS1, isP_low hP])
      · obtain rfl : i = (fsts S1).length := by omega
        clear hstr hi2
        by_cases hpb0 : pb = 0
        · clear hpath
          repeat' (first | (apply br_intro <;> intro hb <;> (have hb2 := hb) <;> (try simp [-Int.not_le, -Int.not_lt, -Nat.not_le, -Nat.not_lt, -Nat.add_left_cancel_iff] at hb2)) | (refine draw_listA (by rfl) (by kernel_rfl) ?_) | (refine draw_listB (by simp [allocsOf, isAlloc]; rfl) (by kernel_rfl) ?_) | simp (maxSteps := 2000000) (disch := first | omega | assumption | simp [*]) [*, -Int.not_le, -Int.not_lt, -Nat.not_le, -Nat.not_lt, -Nat.add_left_cancel_iff, wrap_i64, wrap_u64, h27, h14, e14, h15, h16, h17, h20, e20, h21, h22, h23, isP_len hS1, isI_low i3, isI_low i4, isI_low i5, isI_low iu4, isP_low hS1, isP_low hP])
        · obtain ⟨g1, g2, g3, g4⟩ := hpath hpb0
          obtain ⟨M, hM⟩ : ∃ M, (xsOf u4).length = M + 1 := ⟨(xsOf u4).length - 1, by have := List.length_pos_iff.2 g1; omega⟩
          have q0 := g2 0 (by omega)
          have qM := g2 M (by omega)
          have hMs : (xsOf u4).length - 1 = M := by omega
          rw [hMs] at g3 g4
          have hM7 : (M : Int) + 1 = ((xsOf u4).length : Int) := by omega
          have hML : M < (xsOf u4).length := by omega
          have h0L : 0 < (xsOf u4).length := by omega
          obtain ⟨z0, hz0⟩ : ∃ z0, nth (xsOf u4) 0 = z0 := ⟨_, rfl⟩
          obtain ⟨zM, hzM⟩ : ∃ zM, nth (xsOf u4) M = zM := ⟨_, rfl⟩
          rw [hz0] at q0 g3 g4
          rw [hzM] at qM g3 g4
          have q01 := q0.1
          have q02 := q0.2
          have qM1 := qM.1
          have qM2 := qM.2
          clear q0 qM
          clear hpath g1 g2 hMs hM7
          repeat' (first | (apply br_intro <;> intro hb <;> (have hb2 := hb) <;> (try simp [-Int.not_le, -Int.not_lt, -Nat.not_le, -Nat.not_lt, -Nat.add_left_cancel_iff] at hb2)) | (refine draw_listA (by rfl) (by kernel_rfl) ?_) | (refine draw_listB (by simp [allocsOf, isAlloc]; rfl) (by kernel_rfl) ?_) | simp (maxSteps := 2000000) (disch := first | omega | assumption | simp [*]) [*, -Int.not_le, -Int.not_lt, -Nat.not_le, -Nat.not_lt, -Nat.add_left_cancel_iff, wrap_i64, wrap_u64, h27, h14, e14, h15, h16, h17, h20, e20, h21, h22, h23, isP_len hS1, isI_low i3, isI_low i4, isI_low i5, isI_low iu4, isP_low hS1, isP_low hP, isI_len iu4, isI_index iu4, isI_load iu4, isP_len hP, isP_index hP])
theorem lawSupport_s {b : AV} (hB : IsB b) (hbr : brwOf b = false) {K : AV → Prop} {tg : Tg K} : CW env 8 [b] K tg ↔ K (.bool true) := callsTo_iff (lawSupport_c hB hbr)
attribute [simp] lawSupport_s
end Go.Proofs.YtkkkgaapkibhkaaGreatDoor
