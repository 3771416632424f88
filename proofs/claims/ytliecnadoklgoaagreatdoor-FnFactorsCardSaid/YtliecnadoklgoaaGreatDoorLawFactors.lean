/- The great law of factors. Conditions: none. -/
import Derived.Test.YtliecnadoklgoaaGreatDoorDrawG
import Derived.Test.YtliecnadoklgoaaGreatDoorSameC
import Derived.Test.YtliecnadoklgoaaGreatDoorFewA
import Derived.Test.YtliecnadoklgoaaGreatDoorLawSame
namespace Go.Proofs.YtliecnadoklgoaaGreatDoor
open Ev
set_option linter.unusedVariables false
set_option linter.unusedSimpArgs false
set_option maxHeartbeats 16000000
set_option maxRecDepth 100000

theorem grd_cov {n : Int} {xs : List Int} (hc : PCtx n xs) {k0 : Nat} : CovC n xs (fsts (bufLC k0 2 (grdL n xs))) (snds (bufLC k0 2 (grdL n xs))) := by
  obtain ⟨N, rfl⟩ : ∃ N : Nat, n = N := ⟨n.toNat, by have := hc.1; omega⟩
  obtain ⟨L, h1, h2, _, h4⟩ := grd_covers hc
  rw [fsts_buf0, snds_buf0, h1, recs_fsts, recs_snds]
  exact (cov_ok hc h2).2 h4
theorem few_cov {n : Int} {xs : List Int} {m : Int} (h : fewB n xs m = true) {k0 : Nat} : CovC n xs (fsts (bufLC k0 2 (fewL n xs m))) (snds (bufLC k0 2 (fewL n xs m))) ∧ (fewL n xs m).length ≤ (grdL n xs).length := by
  unfold fewB at h
  obtain ⟨out, ho⟩ := Option.isSome_iff_exists.mp h
  have hL : fewL n xs m = recsL (fsts (conW n xs)) (snds (conW n xs)) out := by unfold fewL; rw [ho]
  unfold fewO at ho
  split at ho
  · rename_i hc
    have hc := hc.1
    obtain ⟨N, rfl⟩ : ∃ N : Nat, n = N := ⟨n.toNat, by have := hc.1; omega⟩
    obtain ⟨a, b, c⟩ := few_least hc ho
    rw [fsts_buf0, snds_buf0, hL, recs_fsts, recs_snds, recsL_len]
    exact ⟨(cov_ok hc b).2 a, c⟩
  · cases ho
/-- a list of concepts that answers as it is read -/
theorem buf0_all {k0 : Nat} {es : List AV} (h : Prs es) (hl : es.length ≤ 66) : IsP (bufLC k0 2 es) ∧ fsts (bufLC k0 2 es) = es.map fstI ∧ snds (bufLC k0 2 es) = es.map sndI ∧ (∀ E t, slT E t = true → lenV E t (bufLC k0 2 es) = some (.int .i64 es.length)) :=
  ⟨isP_buf0 h (by unfold top63; omega), fsts_buf0, snds_buf0, fun E t ht => bufLC_len ht⟩
theorem lawFactors_c {b : AV} (hB : IsB b) (hbr : brwOf b = false) : EvC env 7 [b] (.bool true) := by
  refine evC_of (F := Tryz.f7) rfl rfl (Nat.le_of_ble_eq_true rfl) ?_
  have hcb := isB_cells hB
  have hob := isB_one hB
  by_cases hbig : 1048576 < bLen b
  · have hbi : (1048576 : Int) < (bLen b : Int) := by omega
    repeat' (first | (apply brI <;> intro hb hb2 <;> (try simp [-Int.not_le, -Int.not_lt, -Nat.not_le, -Nat.not_lt, -Nat.add_left_cancel_iff] at hb2)) | (refine draw_listA (by rfl) (by kernel_rfl) ?_) | (refine draw_listB (by simp [allocsOf, isAlloc]; rfl) (by kernel_rfl) ?_) | simp (maxSteps := 2000000) (disch := first | omega | assumption | simp [*]) [*, -Int.not_le, -Int.not_lt, -Nat.not_le, -Nat.not_lt, -Nat.add_left_cancel_iff, wrap_i64, wrap_u64, Tryz.f7, isB_low hB])
  · have hbi : ¬ ((1048576 : Int) < (bLen b : Int)) := by omega
    have hl : bLen b ≤ 1073741824 := by omega
    repeat' (first | (apply brI <;> intro hb hb2 <;> (try simp [-Int.not_le, -Int.not_lt, -Nat.not_le, -Nat.not_lt, -Nat.add_left_cancel_iff] at hb2)) | (refine draw_listA (by rfl) (by kernel_rfl) ?_) | (refine draw_listB (by simp [allocsOf, isAlloc]; rfl) (by kernel_rfl) ?_) | simp (maxSteps := 2000000) (disch := first | omega | assumption | simp [*]) [*, -Int.not_le, -Int.not_lt, -Nat.not_le, -Nat.not_lt, -Nat.add_left_cancel_iff, wrap_i64, wrap_u64, Tryz.f7, isB_low hB])
    refine cw_to (drawGreedyFactors_t hB hbr hl) ?_
    intro r1 hd1
    obtain ⟨n1, v1, hr1, i1, l1⟩ := hd1.gen
    clear hd1
    have o1 := isI_one i1
    have c1 := isI_cells i1
    have kI1 : ∀ (K : AV → Prop) (tg : Tg K), CW env 72 [.agg [.int .i64 n1, v1]] K tg ↔ K (bufLR 101 60 (grdK n1 (xsOf v1)) 2 (grdL n1 (xsOf v1))) := fun K tg => callsTo_iff (iGreedyFactors_c i1 (by omega))
    have kS1 : ∀ (K : AV → Prop) (tg : Tg K), CW env 81 [.agg [.int .i64 n1, v1]] K tg ↔ K (bufLR 101 53 2 2 (grdL n1 (xsOf v1))) := fun K tg => callsTo_iff (sGreedyFactors_c i1 (by omega))
    have kV1 : ∀ {u : AV}, IsP u → ∀ (K : AV → Prop) (tg : Tg K), CW env 82 [.agg [.int .i64 n1, v1], u] K tg ↔ K (.bool (decide (CovC n1 (xsOf v1) (fsts u) (snds u)))) := fun hu K tg => callsTo_iff (iIsCover_c i1 hu)
    have kP1 : ∀ (K : AV → Prop) (tg : Tg K), CW env 84 [.agg [.int .i64 n1, v1]] K tg ↔ K (.bool (decide (PCtx n1 (xsOf v1)))) := fun K tg => callsTo_iff (sIsContext_c i1)
    have hg1 : PCtx n1 (xsOf v1) → CovC n1 (xsOf v1) (fsts (bufLC (grdK n1 (xsOf v1)) 2 (grdL n1 (xsOf v1)))) (snds (bufLC (grdK n1 (xsOf v1)) 2 (grdL n1 (xsOf v1)))) := fun h => grd_cov h
    obtain ⟨pFI, a1, a2, a3⟩ := buf0_all (k0 := grdK n1 (xsOf v1)) (grdL_pr n1 (xsOf v1)) (by have := grdL_len n1 (xsOf v1); omega)
    obtain ⟨pFS, b1, b2, b3⟩ := buf0_all (k0 := 2) (grdL_pr n1 (xsOf v1)) (by have := grdL_len n1 (xsOf v1); omega)
    obtain ⟨rI, hrI⟩ : ∃ w, bufLR 101 60 (grdK n1 (xsOf v1)) 2 (grdL n1 (xsOf v1)) = w := ⟨_, rfl⟩
    obtain ⟨rS, hrS⟩ : ∃ w, bufLR 101 53 2 2 (grdL n1 (xsOf v1)) = w := ⟨_, rfl⟩
    have nI : noEx rI = bufLC (grdK n1 (xsOf v1)) 2 (grdL n1 (xsOf v1)) := by rw [← hrI, bufLR_noEx]
    have nS : noEx rS = bufLC 2 2 (grdL n1 (xsOf v1)) := by rw [← hrS, bufLR_noEx]
    rw [hrI] at kI1
    rw [hrS] at kS1
    obtain ⟨FI, hFI⟩ : ∃ w, bufLC (grdK n1 (xsOf v1)) 2 (grdL n1 (xsOf v1)) = w := ⟨_, rfl⟩
    obtain ⟨FS, hFS⟩ : ∃ w, bufLC 2 2 (grdL n1 (xsOf v1)) = w := ⟨_, rfl⟩
    rw [hFI] at nI pFI a1 a2 a3 hg1
    rw [hFS] at nS pFS b1 b2 b3
    have e1 : fsts FI = fsts FS := by rw [a1, b1]
    have e2 : snds FI = snds FS := by rw [a2, b2]
    clear hrI hrS hFI hFS a1 a2 b1 b2
    obtain ⟨pB, hpB⟩ : ∃ B, decide (PCtx n1 (xsOf v1)) = B := ⟨_, rfl⟩
    obtain ⟨cB, hcB⟩ : ∃ B, decide (CovC n1 (xsOf v1) (fsts FI) (snds FI)) = B := ⟨_, rfl⟩
    have kV1' := kV1 pFI
    clear kV1
    rw [hpB] at kP1
    rw [hcB] at kV1'
    have f1 : pB = true → cB = true := fun h => by rw [← hcB, decide_eq_true_eq]; rw [← hpB, decide_eq_true_eq] at h; exact hg1 h
    clear hpB hcB hg1
    have oF := isP_one pFI
    have cF := isP_cells pFI
    have oG := isP_one pFS
    have cG := isP_cells pFS
    repeat' (first | (apply brI <;> intro hb hb2 <;> (try simp [-Int.not_le, -Int.not_lt, -Nat.not_le, -Nat.not_lt, -Nat.add_left_cancel_iff] at hb2)) | (refine draw_listA (by rfl) (by kernel_rfl) ?_) | (refine draw_listB (by simp [allocsOf, isAlloc]; rfl) (by kernel_rfl) ?_) | simp (maxSteps := 2000000) (disch := first | omega | assumption | simp [*]) [*, -Int.not_le, -Int.not_lt, -Nat.not_le, -Nat.not_lt, -Nat.add_left_cancel_iff, wrap_i64, wrap_u64, hr1, kI1, nI, isB_low hB, isI_low i1, isP_low pFI])
    refine cw_to (drawProductOf_t hB hbr hl) ?_
    rintro r2 ⟨a, c, es2, hr2, pr2, le2⟩
    have p2 := (buf0_all (k0 := 2) pr2 le2).1
    obtain ⟨P2, hP2⟩ : ∃ w, bufLC 2 2 es2 = w := ⟨_, rfl⟩
    rw [hP2] at hr2 p2
    clear hP2 pr2 le2
    have o2 := isP_one p2
    have c2 := isP_cells p2
    obtain ⟨M, hM⟩ : ∃ M, (if ProdC a c (fsts P2) (snds P2) then c else 0) = M := ⟨_, rfl⟩
    obtain ⟨okB, hokB⟩ : ∃ B, decide (ProdC a c (fsts P2) (snds P2)) = B := ⟨_, rfl⟩
    obtain ⟨V1, hV1⟩ : ∃ V, prodV 3 24 a c (fsts P2) (snds P2) = V := ⟨_, rfl⟩
    obtain ⟨V2, hV2⟩ : ∃ V, prodV 3 22 a c (fsts P2) (snds P2) = V := ⟨_, rfl⟩
    obtain ⟨PV, hPV⟩ : ∃ V, noEx V1 = V := ⟨_, rfl⟩
    have nV2 : noEx V2 = PV := by
      rw [← hPV, ← hV1, ← hV2]
      unfold prodV
      split <;> simp [noEx]
    have iPV : IsI PV := by
      rw [← hPV, ← hV1]
      unfold prodV
      split
      · rename_i hc
        rw [rowR_noEx]
        exact isI_no (by simp; have := hc.1; unfold top63; omega)
      · exact isI_sl (xs := []) (.inl rfl) rfl (Nat.zero_le _)
    have kI2 : ∀ (K : AV → Prop) (tg : Tg K), CW env 74 [.int .i64 a, .int .i64 c, P2] K tg ↔ K (.tup [.agg [.int .i64 M, V1], .bool okB]) := fun K tg => by
      rw [← hM, ← hokB, ← hV1]; exact callsTo_iff (iProductOf_c p2)
    have kS2 : ∀ (K : AV → Prop) (tg : Tg K), CW env 75 [.int .i64 a, .int .i64 c, P2] K tg ↔ K (.tup [.agg [.int .i64 M, V2], .bool okB]) := fun K tg => by
      rw [← hM, ← hokB, ← hV2]; exact callsTo_iff (sProductOf_c p2)
    clear hM hokB hV1 hV2
    have o3 := isI_one iPV
    have c3 := isI_cells iPV
    repeat' (first | (apply brI <;> intro hb hb2 <;> (try simp [-Int.not_le, -Int.not_lt, -Nat.not_le, -Nat.not_lt, -Nat.add_left_cancel_iff] at hb2)) | (refine draw_listA (by rfl) (by kernel_rfl) ?_) | (refine draw_listB (by simp [allocsOf, isAlloc]; rfl) (by kernel_rfl) ?_) | simp (maxSteps := 2000000) (disch := first | omega | assumption | simp [*]) [*, -Int.not_le, -Int.not_lt, -Nat.not_le, -Nat.not_lt, -Nat.add_left_cancel_iff, wrap_i64, wrap_u64, hr2, kI2, kS2, hPV, nV2, isB_low hB, isI_low i1, isP_low pFI, isP_low p2, isI_low iPV])
    refine cw_to (drawIsCover_t hB hbr hl) ?_
    rintro r3 ⟨n3, rows3, es3, hr3, l3, pr3, le3⟩
    have p3 := (buf0_all (k0 := 2) pr3 le3).1
    have i3 : IsI (bufC 0 rows3) := isI_bufC (by unfold top63; omega)
    obtain ⟨P3, hP3⟩ : ∃ w, bufLC 2 2 es3 = w := ⟨_, rfl⟩
    obtain ⟨V3, hV3⟩ : ∃ w, bufC 0 rows3 = w := ⟨_, rfl⟩
    rw [hP3] at hr3 p3
    rw [hV3] at hr3 i3
    clear hP3 hV3 pr3 le3 l3
    have o4 := isP_one p3
    have c4 := isP_cells p3
    have o5 := isI_one i3
    have c5 := isI_cells i3
    obtain ⟨vB, hvB⟩ : ∃ B, decide (CovC n3 (xsOf V3) (fsts P3) (snds P3)) = B := ⟨_, rfl⟩
    have kI3 : ∀ (K : AV → Prop) (tg : Tg K), CW env 82 [.agg [.int .i64 n3, V3], P3] K tg ↔ K (.bool vB) := fun K tg => by
      rw [← hvB]; exact callsTo_iff (iIsCover_c i3 p3)
    have kS3 : ∀ (K : AV → Prop) (tg : Tg K), CW env 83 [.agg [.int .i64 n3, V3], P3] K tg ↔ K (.bool vB) := fun K tg => by
      rw [← hvB]; exact callsTo_iff (sIsCover_c i3 p3)
    clear hvB
    repeat' (first | (apply brI <;> intro hb hb2 <;> (try simp [-Int.not_le, -Int.not_lt, -Nat.not_le, -Nat.not_lt, -Nat.add_left_cancel_iff] at hb2)) | (refine draw_listA (by rfl) (by kernel_rfl) ?_) | (refine draw_listB (by simp [allocsOf, isAlloc]; rfl) (by kernel_rfl) ?_) | simp (maxSteps := 2000000) (disch := first | omega | assumption | simp [*]) [*, -Int.not_le, -Int.not_lt, -Nat.not_le, -Nat.not_lt, -Nat.add_left_cancel_iff, wrap_i64, wrap_u64, hr3, isB_low hB, isI_low i1, isP_low pFI, isP_low p2, isI_low iPV, isI_low i3, isP_low p3])
    refine cw_to (drawFewestFactors_t hB hbr hl) ?_
    intro r4 hd4
    obtain ⟨n4, v4, xs4, hr4, i4, l4, m4, rfl⟩ := hd4.gen'
    clear hd4
    have o6 := isI_one i4
    have c6 := isI_cells i4
    have hb4 : (xsOf v4).length ≤ 1048576 := by omega
    have hcov := fun (h : fewB n4 (xsOf v4) m4 = true) => few_cov h (k0 := 0)
    obtain ⟨p4, a1, a2, a4⟩ := buf0_all (k0 := 0) (few_pr (n := n4) (xs := xsOf v4) (m := m4)) (by have := few_len (n := n4) (xs := xsOf v4) (m := m4); omega)
    obtain ⟨p5, b1, b2, b4⟩ := buf0_all (k0 := 2) (few_pr (n := n4) (xs := xsOf v4) (m := m4)) (by have := few_len (n := n4) (xs := xsOf v4) (m := m4); omega)
    obtain ⟨p6, g1, g2, g4⟩ := buf0_all (k0 := 2) (grdL_pr n4 (xsOf v4)) (by have := grdL_len n4 (xsOf v4); omega)
    obtain ⟨w4, hw4, key4, rfl⟩ := iFewestFactors_t (n := n4) (m := m4) i4 hb4
    have kI4 : ∀ (K : AV → Prop) (tg : Tg K), CW env 78 [.agg [.int .i64 n4, v4], .int .i64 m4] K tg ↔ K (.tup [bufLR 101 key4 0 2 (fewL n4 (xsOf v4) m4), .bool (fewB n4 (xsOf v4) m4)]) := fun K tg => callsTo_iff hw4
    have kS4 : ∀ (K : AV → Prop) (tg : Tg K), CW env 79 [.agg [.int .i64 n4, v4], .int .i64 m4] K tg ↔ K (.tup [bufLR 101 43 2 2 (fewL n4 (xsOf v4) m4), .bool (fewB n4 (xsOf v4) m4)]) := fun K tg => callsTo_iff (sFewestFactors_c i4 hb4)
    have kG4 : ∀ (K : AV → Prop) (tg : Tg K), CW env 81 [.agg [.int .i64 n4, v4]] K tg ↔ K (bufLR 101 53 2 2 (grdL n4 (xsOf v4))) := fun K tg => callsTo_iff (sGreedyFactors_c i4 hb4)
    obtain ⟨q1, hq1⟩ : ∃ w, bufLR 101 key4 0 2 (fewL n4 (xsOf v4) m4) = w := ⟨_, rfl⟩
    obtain ⟨q2, hq2⟩ : ∃ w, bufLR 101 43 2 2 (fewL n4 (xsOf v4) m4) = w := ⟨_, rfl⟩
    obtain ⟨q3, hq3⟩ : ∃ w, bufLR 101 53 2 2 (grdL n4 (xsOf v4)) = w := ⟨_, rfl⟩
    have nq1 : noEx q1 = bufLC 0 2 (fewL n4 (xsOf v4) m4) := by rw [← hq1, bufLR_noEx]
    have nq2 : noEx q2 = bufLC 2 2 (fewL n4 (xsOf v4) m4) := by rw [← hq2, bufLR_noEx]
    have nq3 : noEx q3 = bufLC 2 2 (grdL n4 (xsOf v4)) := by rw [← hq3, bufLR_noEx]
    obtain ⟨W1, hW1⟩ : ∃ w, bufLC 0 2 (fewL n4 (xsOf v4) m4) = w := ⟨_, rfl⟩
    obtain ⟨W2, hW2⟩ : ∃ w, bufLC 2 2 (fewL n4 (xsOf v4) m4) = w := ⟨_, rfl⟩
    obtain ⟨W3, hW3⟩ : ∃ w, bufLC 2 2 (grdL n4 (xsOf v4)) = w := ⟨_, rfl⟩
    obtain ⟨fB, hfB⟩ : ∃ w, fewB n4 (xsOf v4) m4 = w := ⟨_, rfl⟩
    rw [hq1, hfB] at kI4
    rw [hq2, hfB] at kS4
    rw [hq3] at kG4
    rw [hW1] at nq1 p4 a1 a2 a4 hcov
    rw [hW2] at nq2 p5 b1 b2 b4
    rw [hW3] at nq3 p6 g1 g2 g4
    rw [hfB] at hcov
    have e3 : fsts W1 = fsts W2 := by rw [a1, b1]
    have e4 : snds W1 = snds W2 := by rw [a2, b2]
    obtain ⟨dB, hdB⟩ : ∃ B, decide (CovC n4 (xsOf v4) (fsts W1) (snds W1)) = B := ⟨_, rfl⟩
    have kV4 : ∀ (K : AV → Prop) (tg : Tg K), CW env 82 [.agg [.int .i64 n4, v4], W1] K tg ↔ K (.bool dB) := fun K tg => by
      rw [← hdB]; exact callsTo_iff (iIsCover_c i4 p4)
    obtain ⟨La, hLa⟩ : ∃ x, (fewL n4 (xsOf v4) m4).length = x := ⟨_, rfl⟩
    obtain ⟨Lb, hLb⟩ : ∃ x, (grdL n4 (xsOf v4)).length = x := ⟨_, rfl⟩
    rw [hLa] at a4 hcov
    rw [hLb] at g4 hcov
    have f4 : fB = true → dB = true := fun h => by rw [← hdB, decide_eq_true_eq]; exact (hcov h).1
    have f5 : fB = true → (La : Int) ≤ Lb := fun h => by have := (hcov h).2; omega
    clear hw4 hq1 hq2 hq3 hW1 hW2 hW3 hfB hdB hcov a1 a2 b1 b2 b4 g1 g2 hLa hLb
    have o7 := isP_one p4
    have c7 := isP_cells p4
    have o8 := isP_one p5
    have c8 := isP_cells p5
    have o9 := isP_one p6
    have c9 := isP_cells p6
    repeat' (first | (apply brI <;> intro hb hb2 <;> (try simp [-Int.not_le, -Int.not_lt, -Nat.not_le, -Nat.not_lt, -Nat.add_left_cancel_iff] at hb2)) | (refine draw_listA (by rfl) (by kernel_rfl) ?_) | (refine draw_listB (by simp [allocsOf, isAlloc]; rfl) (by kernel_rfl) ?_) | simp (maxSteps := 2000000) (disch := first | omega | assumption | simp [*]) [*, -Int.not_le, -Int.not_lt, -Nat.not_le, -Nat.not_lt, -Nat.add_left_cancel_iff, wrap_i64, wrap_u64, hr4, kI4, kS4, kG4, nq1, nq2, nq3, kI1, kS1, kI3, kS3, kV4, kV1', kP1, nI, nS, e1, e2, e3, e4, isB_low hB, isI_low i1, isI_low i3, isI_low i4, isP_low pFI, isP_low pFS, isP_low p2, isI_low iPV, isP_low p3, isP_low p4, isP_low p5, isP_low p6])
theorem lawFactors_s {b : AV} (hB : IsB b) (hbr : brwOf b = false) {K : AV → Prop} {tg : Tg K} : CW env 7 [b] K tg ↔ K (.bool true) := callsTo_iff (lawFactors_c hB hbr)
attribute [simp] lawFactors_s
end Go.Proofs.YtliecnadoklgoaaGreatDoor
