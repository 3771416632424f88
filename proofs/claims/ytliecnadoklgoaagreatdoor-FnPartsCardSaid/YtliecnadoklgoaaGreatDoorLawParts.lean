/- The great law of parts. Conditions: none. -/
import Derived.Test.YtliecnadoklgoaaGreatDoorDrawP
import Derived.Test.YtliecnadoklgoaaGreatDoorPartsL
import Derived.Test.YtliecnadoklgoaaGreatDoorLawSame
namespace Go.Proofs.YtliecnadoklgoaaGreatDoor
open Ev
set_option linter.unusedVariables false
set_option linter.unusedSimpArgs false
set_option maxHeartbeats 8000000
set_option maxRecDepth 100000

theorem sIsSubset_c {s t : Int} (hs : PSet 8 s = true) (ht : PSet 8 t = true) (hst : PSub s t = true) : EvC env 43 [.int .i64 s, .int .i64 t] (.bool true) := by
  refine evC_of (F := Tryz.f43) rfl rfl (Nat.le_of_ble_eq_true rfl) ?_
  have s1 := pset_lt hs
  have t1 := pset_lt ht
  have hq := (psub_and (t := t) s1.1).2 hst
  repeat' (first | (apply brI <;> intro hb hb2 <;> (try simp [-Int.not_le, -Int.not_lt, -Nat.not_le, -Nat.not_lt, -Nat.add_left_cancel_iff] at hb2)) | (refine draw_listA (by rfl) (by kernel_rfl) ?_) | (refine draw_listB (by simp [allocsOf, isAlloc]; rfl) (by kernel_rfl) ?_) | simp (maxSteps := 2000000) (disch := first | omega | assumption | simp [*]) [*, -Int.not_le, -Int.not_lt, -Nat.not_le, -Nat.not_lt, -Nat.add_left_cancel_iff, wrap_i64, wrap_u64, Tryz.f43, bits_and])
theorem sIsSubset_s {s t : Int} (hs : PSet 8 s = true) (ht : PSet 8 t = true) (hst : PSub s t = true) {K : AV → Prop} {tg : Tg K} : CW env 43 [.int .i64 s, .int .i64 t] K tg ↔ K (.bool true) := callsTo_iff (sIsSubset_c hs ht hst)
attribute [simp] sIsSubset_s
theorem lawParts_c {b : AV} (hB : IsB b) (hbr : brwOf b = false) : EvC env 4 [b] (.bool true) := by
  refine evC_of (F := Tryz.f4) rfl rfl (Nat.le_of_ble_eq_true rfl) ?_
  have hcb := isB_cells hB
  have hob := isB_one hB
  by_cases hbig : 1048576 < bLen b
  · have hbi : (1048576 : Int) < (bLen b : Int) := by omega
    repeat' (first | (apply brI <;> intro hb hb2 <;> (try simp [-Int.not_le, -Int.not_lt, -Nat.not_le, -Nat.not_lt, -Nat.add_left_cancel_iff] at hb2)) | (refine draw_listA (by rfl) (by kernel_rfl) ?_) | (refine draw_listB (by simp [allocsOf, isAlloc]; rfl) (by kernel_rfl) ?_) | simp (maxSteps := 2000000) (disch := first | omega | assumption | simp [*]) [*, -Int.not_le, -Int.not_lt, -Nat.not_le, -Nat.not_lt, -Nat.add_left_cancel_iff, wrap_i64, wrap_u64, Tryz.f4, isB_low hB])
  · have hbi : ¬ ((1048576 : Int) < (bLen b : Int)) := by omega
    have hl : bLen b ≤ 1073741824 := by omega
    repeat' (first | (apply brI <;> intro hb hb2 <;> (try simp [-Int.not_le, -Int.not_lt, -Nat.not_le, -Nat.not_lt, -Nat.add_left_cancel_iff] at hb2)) | (refine draw_listA (by rfl) (by kernel_rfl) ?_) | (refine draw_listB (by simp [allocsOf, isAlloc]; rfl) (by kernel_rfl) ?_) | simp (maxSteps := 2000000) (disch := first | omega | assumption | simp [*]) [*, -Int.not_le, -Int.not_lt, -Nat.not_le, -Nat.not_lt, -Nat.add_left_cancel_iff, wrap_i64, wrap_u64, Tryz.f4, isB_low hB])
    refine cw_to (drawIsCompatible_t hB hbr hl) ?_
    intro r1 hd1
    obtain ⟨n1, v1, xs, hr1, i1, l1, x1, y1, rfl⟩ := hd1.gen'
    clear hd1
    have o1 := isI_one i1
    have c1 := isI_cells i1
    obtain ⟨iS, xS⟩ := subV_w 3 n1 (xsOf v1) x1 y1
    have iR : IsI (bufC 0 (subR n1 (xsOf v1) x1 y1)) := isI_bufC (by have := subR_len n1 (xsOf v1) x1 y1; unfold top63; omega)
    have xR : xsOf (bufC 0 (subR n1 (xsOf v1) x1 y1)) = subR n1 (xsOf v1) x1 y1 := by simp
    obtain ⟨SV, hSV⟩ : ∃ w, noEx (subV 3 n1 (xsOf v1) x1 y1) = w := ⟨_, rfl⟩
    obtain ⟨SR, hSR⟩ : ∃ w, bufC 0 (subR n1 (xsOf v1) x1 y1) = w := ⟨_, rfl⟩
    rw [hSV] at iS xS
    rw [hSR] at iR xR
    have hsub : xsOf SV = xsOf SR := by rw [xS, xR]
    have hnR : noEx (bufR 3 39 0 (subR n1 (xsOf v1) x1 y1)) = SR := by rw [← hSR]; simp
    have oS := isI_one iS
    have cS := isI_cells iS
    have oR := isI_one iR
    have cR := isI_cells iR
    have hai : ArrP n1 (xsOf v1) x1 y1 → CmptC n1 (xsOf v1) x1 y1 := arr_cmpt
    have hia : CmptC n1 (xsOf v1) x1 y1 → PCtx n1 (xsOf v1) → rdN (xsOf v1) n1.toNat = n1.toNat → rdR (xsOf v1) n1.toNat = xsOf v1 → ArrP n1 (xsOf v1) x1 y1 := fun h1 hc h2 h3 => by
      obtain ⟨N, rfl⟩ : ∃ N : Nat, n1 = N := ⟨n1.toNat, by have := hc.1; omega⟩
      obtain ⟨q1, q2⟩ := red_self hc (by simpa using h2) (by simpa using h3)
      exact cmpt_arr h1 q1 (by simpa using q2)
    clear xS xR
    repeat' (first | (apply brI <;> intro hb hb2 <;> (try simp [-Int.not_le, -Int.not_lt, -Nat.not_le, -Nat.not_lt, -Nat.add_left_cancel_iff] at hb2)) | (refine draw_listA (by rfl) (by kernel_rfl) ?_) | (refine draw_listB (by simp [allocsOf, isAlloc]; rfl) (by kernel_rfl) ?_) | simp (maxSteps := 2000000) (disch := first | omega | assumption | simp [*]) [*, -Int.not_le, -Int.not_lt, -Nat.not_le, -Nat.not_lt, -Nat.add_left_cancel_iff, wrap_i64, wrap_u64, hr1, isB_low hB, isI_low i1, isI_low iS, isI_low iR])
    refine cw_to (drawArrowClosure_t hB hbr hl) ?_
    intro r2 hd2
    obtain ⟨n2, v2, xs, hr2, i2, l2, g2, rfl⟩ := hd2.gen'
    clear hd2
    have o2 := isI_one i2
    have c2 := isI_cells i2
    have hfc : (decide (PCtx n2 (xsOf v2)) && PSet (xsOf v2).length g2) = true → ArrP n2 (xsOf v2) (arrO n2 (xsOf v2) g2) (arrA n2 (xsOf v2) g2) ∧ PSub g2 (arrO n2 (xsOf v2) g2) = true ∧ PSet 8 (arrO n2 (xsOf v2) g2) = true ∧ PSet 8 g2 = true := fun h => by
      rw [Bool.and_eq_true, decide_eq_true_eq] at h
      obtain ⟨q1, q2, q3⟩ := arr_closed h.1 h.2
      exact ⟨q1, q2, q3, pset8 h.2⟩
    repeat' (first | (apply brI <;> intro hb hb2 <;> (try simp [-Int.not_le, -Int.not_lt, -Nat.not_le, -Nat.not_lt, -Nat.add_left_cancel_iff] at hb2)) | (refine draw_listA (by rfl) (by kernel_rfl) ?_) | (refine draw_listB (by simp [allocsOf, isAlloc]; rfl) (by kernel_rfl) ?_) | simp (maxSteps := 2000000) (disch := first | omega | assumption | simp [*]) [*, -Int.not_le, -Int.not_lt, -Nat.not_le, -Nat.not_lt, -Nat.add_left_cancel_iff, wrap_i64, wrap_u64, hr2, isB_low hB, isI_low i1, isI_low i2, isI_low iS, isI_low iR])
    refine cw_to (drawCountCompatible_t hB hbr hl) ?_
    intro r3 hd3
    obtain ⟨n3, v3, hr3, i3, l3⟩ := hd3.gen
    clear hd3
    have o3 := isI_one i3
    have c3 := isI_cells i3
    obtain ⟨FB, hFB⟩ : ∃ FB, (decide (PCtx n2 (xsOf v2)) && PSet (xsOf v2).length g2) = FB := ⟨_, rfl⟩
    obtain ⟨P2, hP2⟩ : ∃ P, arrO n2 (xsOf v2) g2 = P := ⟨_, rfl⟩
    obtain ⟨Q2, hQ2⟩ : ∃ P, arrA n2 (xsOf v2) g2 = P := ⟨_, rfl⟩
    rw [hFB, hP2, hQ2] at hfc
    have hred := sReduce_c (n := n1) i1
    by_cases hAR : ArrP n1 (xsOf v1) x1 y1
    · have hIS := hai hAR
      clear hai hia
      cases FB with
      | true =>
        obtain ⟨q1, q2, q3, q4⟩ := hfc rfl
        clear hfc
        repeat' (first | (apply brI <;> intro hb hb2 <;> (try simp [-Int.not_le, -Int.not_lt, -Nat.not_le, -Nat.not_lt, -Nat.add_left_cancel_iff] at hb2)) | (refine draw_listA (by rfl) (by kernel_rfl) ?_) | (refine draw_listB (by simp [allocsOf, isAlloc]; rfl) (by kernel_rfl) ?_) | simp (maxSteps := 2000000) (disch := first | omega | assumption | simp [*]) [*, -Int.not_le, -Int.not_lt, -Nat.not_le, -Nat.not_lt, -Nat.add_left_cancel_iff, wrap_i64, wrap_u64, hFB, hP2, hQ2, hr3, isB_low hB, isI_low i1, isI_low i2, isI_low i3, isI_low iS, isI_low iR])
        refine cw_to hred ?_
        rintro r4 ⟨m4, rows4, ok4, hr4, w0, w6, w8, hok⟩
        have i4 : IsI (bufC 0 rows4) := isI_bufC (by unfold top63; omega)
        have x4 : xsOf (bufC 0 rows4) = rows4 := by simp
        have hne : ok4 = true → rows4 = rows4 := fun _ => rfl
        clear hok
        obtain ⟨W4, hW4⟩ : ∃ w, bufC 0 rows4 = w := ⟨_, rfl⟩
        rw [hW4] at hr4 i4 x4
        rw [← x4] at hne
        have o4 := isI_one i4
        have c4 := isI_cells i4
        clear x4 w8 hW4
        cases ok4 with
        | true =>
          have hne := hne rfl
          repeat' (first | (apply brI <;> intro hb hb2 <;> (try simp [-Int.not_le, -Int.not_lt, -Nat.not_le, -Nat.not_lt, -Nat.add_left_cancel_iff] at hb2)) | (refine draw_listA (by rfl) (by kernel_rfl) ?_) | (refine draw_listB (by simp [allocsOf, isAlloc]; rfl) (by kernel_rfl) ?_) | simp (maxSteps := 2000000) (disch := first | omega | assumption | simp [*]) [*, -Int.not_le, -Int.not_lt, -Nat.not_le, -Nat.not_lt, -Nat.add_left_cancel_iff, wrap_i64, wrap_u64, hr4, isI_low i1, isI_low i4])
          all_goals (by_cases he4 : m4 = n1 <;> simp_all [expo])
        | false =>
          repeat' (first | (apply brI <;> intro hb hb2 <;> (try simp [-Int.not_le, -Int.not_lt, -Nat.not_le, -Nat.not_lt, -Nat.add_left_cancel_iff] at hb2)) | (refine draw_listA (by rfl) (by kernel_rfl) ?_) | (refine draw_listB (by simp [allocsOf, isAlloc]; rfl) (by kernel_rfl) ?_) | simp (maxSteps := 2000000) (disch := first | omega | assumption | simp [*]) [*, -Int.not_le, -Int.not_lt, -Nat.not_le, -Nat.not_lt, -Nat.add_left_cancel_iff, wrap_i64, wrap_u64, hr4, isI_low i1, isI_low i4])
      | false =>
        skip
        clear hfc
        repeat' (first | (apply brI <;> intro hb hb2 <;> (try simp [-Int.not_le, -Int.not_lt, -Nat.not_le, -Nat.not_lt, -Nat.add_left_cancel_iff] at hb2)) | (refine draw_listA (by rfl) (by kernel_rfl) ?_) | (refine draw_listB (by simp [allocsOf, isAlloc]; rfl) (by kernel_rfl) ?_) | simp (maxSteps := 2000000) (disch := first | omega | assumption | simp [*]) [*, -Int.not_le, -Int.not_lt, -Nat.not_le, -Nat.not_lt, -Nat.add_left_cancel_iff, wrap_i64, wrap_u64, hFB, hP2, hQ2, hr3, isB_low hB, isI_low i1, isI_low i2, isI_low i3, isI_low iS, isI_low iR])
        refine cw_to hred ?_
        rintro r4 ⟨m4, rows4, ok4, hr4, w0, w6, w8, hok⟩
        have i4 : IsI (bufC 0 rows4) := isI_bufC (by unfold top63; omega)
        have x4 : xsOf (bufC 0 rows4) = rows4 := by simp
        have hne : ok4 = true → rows4 = rows4 := fun _ => rfl
        clear hok
        obtain ⟨W4, hW4⟩ : ∃ w, bufC 0 rows4 = w := ⟨_, rfl⟩
        rw [hW4] at hr4 i4 x4
        rw [← x4] at hne
        have o4 := isI_one i4
        have c4 := isI_cells i4
        clear x4 w8 hW4
        cases ok4 with
        | true =>
          have hne := hne rfl
          repeat' (first | (apply brI <;> intro hb hb2 <;> (try simp [-Int.not_le, -Int.not_lt, -Nat.not_le, -Nat.not_lt, -Nat.add_left_cancel_iff] at hb2)) | (refine draw_listA (by rfl) (by kernel_rfl) ?_) | (refine draw_listB (by simp [allocsOf, isAlloc]; rfl) (by kernel_rfl) ?_) | simp (maxSteps := 2000000) (disch := first | omega | assumption | simp [*]) [*, -Int.not_le, -Int.not_lt, -Nat.not_le, -Nat.not_lt, -Nat.add_left_cancel_iff, wrap_i64, wrap_u64, hr4, isI_low i1, isI_low i4])
          all_goals (by_cases he4 : m4 = n1 <;> simp_all [expo])
        | false =>
          repeat' (first | (apply brI <;> intro hb hb2 <;> (try simp [-Int.not_le, -Int.not_lt, -Nat.not_le, -Nat.not_lt, -Nat.add_left_cancel_iff] at hb2)) | (refine draw_listA (by rfl) (by kernel_rfl) ?_) | (refine draw_listB (by simp [allocsOf, isAlloc]; rfl) (by kernel_rfl) ?_) | simp (maxSteps := 2000000) (disch := first | omega | assumption | simp [*]) [*, -Int.not_le, -Int.not_lt, -Nat.not_le, -Nat.not_lt, -Nat.add_left_cancel_iff, wrap_i64, wrap_u64, hr4, isI_low i1, isI_low i4])
    · clear hai
      by_cases hIS : CmptC n1 (xsOf v1) x1 y1
      · have hia := hia hIS
        cases FB with
        | true =>
          obtain ⟨q1, q2, q3, q4⟩ := hfc rfl
          clear hfc
          repeat' (first | (apply brI <;> intro hb hb2 <;> (try simp [-Int.not_le, -Int.not_lt, -Nat.not_le, -Nat.not_lt, -Nat.add_left_cancel_iff] at hb2)) | (refine draw_listA (by rfl) (by kernel_rfl) ?_) | (refine draw_listB (by simp [allocsOf, isAlloc]; rfl) (by kernel_rfl) ?_) | simp (maxSteps := 2000000) (disch := first | omega | assumption | simp [*]) [*, -Int.not_le, -Int.not_lt, -Nat.not_le, -Nat.not_lt, -Nat.add_left_cancel_iff, wrap_i64, wrap_u64, hFB, hP2, hQ2, hr3, isB_low hB, isI_low i1, isI_low i2, isI_low i3, isI_low iS, isI_low iR])
          refine cw_to hred ?_
          rintro r4 ⟨m4, rows4, ok4, hr4, w0, w6, w8, hok⟩
          have i4 : IsI (bufC 0 rows4) := isI_bufC (by unfold top63; omega)
          have x4 : xsOf (bufC 0 rows4) = rows4 := by simp
          have hne : ok4 = true → ¬ (m4 = n1 ∧ rows4 = xsOf v1) := fun e1 ⟨e2, e3⟩ => by
            obtain ⟨a1, a2, a3⟩ := hok e1
            exact hAR (hia a1 (by have := a1.1; omega) (by rw [← a3, e3]))
          clear hok
          obtain ⟨W4, hW4⟩ : ∃ w, bufC 0 rows4 = w := ⟨_, rfl⟩
          rw [hW4] at hr4 i4 x4
          rw [← x4] at hne
          have o4 := isI_one i4
          have c4 := isI_cells i4
          clear x4 w8 hW4
          cases ok4 with
          | true =>
            have hne := hne rfl
            repeat' (first | (apply brI <;> intro hb hb2 <;> (try simp [-Int.not_le, -Int.not_lt, -Nat.not_le, -Nat.not_lt, -Nat.add_left_cancel_iff] at hb2)) | (refine draw_listA (by rfl) (by kernel_rfl) ?_) | (refine draw_listB (by simp [allocsOf, isAlloc]; rfl) (by kernel_rfl) ?_) | simp (maxSteps := 2000000) (disch := first | omega | assumption | simp [*]) [*, -Int.not_le, -Int.not_lt, -Nat.not_le, -Nat.not_lt, -Nat.add_left_cancel_iff, wrap_i64, wrap_u64, hr4, isI_low i1, isI_low i4])
            all_goals (by_cases he4 : m4 = n1 <;> simp_all [expo])
          | false =>
            repeat' (first | (apply brI <;> intro hb hb2 <;> (try simp [-Int.not_le, -Int.not_lt, -Nat.not_le, -Nat.not_lt, -Nat.add_left_cancel_iff] at hb2)) | (refine draw_listA (by rfl) (by kernel_rfl) ?_) | (refine draw_listB (by simp [allocsOf, isAlloc]; rfl) (by kernel_rfl) ?_) | simp (maxSteps := 2000000) (disch := first | omega | assumption | simp [*]) [*, -Int.not_le, -Int.not_lt, -Nat.not_le, -Nat.not_lt, -Nat.add_left_cancel_iff, wrap_i64, wrap_u64, hr4, isI_low i1, isI_low i4])
        | false =>
          skip
          clear hfc
          repeat' (first | (apply brI <;> intro hb hb2 <;> (try simp [-Int.not_le, -Int.not_lt, -Nat.not_le, -Nat.not_lt, -Nat.add_left_cancel_iff] at hb2)) | (refine draw_listA (by rfl) (by kernel_rfl) ?_) | (refine draw_listB (by simp [allocsOf, isAlloc]; rfl) (by kernel_rfl) ?_) | simp (maxSteps := 2000000) (disch := first | omega | assumption | simp [*]) [*, -Int.not_le, -Int.not_lt, -Nat.not_le, -Nat.not_lt, -Nat.add_left_cancel_iff, wrap_i64, wrap_u64, hFB, hP2, hQ2, hr3, isB_low hB, isI_low i1, isI_low i2, isI_low i3, isI_low iS, isI_low iR])
          refine cw_to hred ?_
          rintro r4 ⟨m4, rows4, ok4, hr4, w0, w6, w8, hok⟩
          have i4 : IsI (bufC 0 rows4) := isI_bufC (by unfold top63; omega)
          have x4 : xsOf (bufC 0 rows4) = rows4 := by simp
          have hne : ok4 = true → ¬ (m4 = n1 ∧ rows4 = xsOf v1) := fun e1 ⟨e2, e3⟩ => by
            obtain ⟨a1, a2, a3⟩ := hok e1
            exact hAR (hia a1 (by have := a1.1; omega) (by rw [← a3, e3]))
          clear hok
          obtain ⟨W4, hW4⟩ : ∃ w, bufC 0 rows4 = w := ⟨_, rfl⟩
          rw [hW4] at hr4 i4 x4
          rw [← x4] at hne
          have o4 := isI_one i4
          have c4 := isI_cells i4
          clear x4 w8 hW4
          cases ok4 with
          | true =>
            have hne := hne rfl
            repeat' (first | (apply brI <;> intro hb hb2 <;> (try simp [-Int.not_le, -Int.not_lt, -Nat.not_le, -Nat.not_lt, -Nat.add_left_cancel_iff] at hb2)) | (refine draw_listA (by rfl) (by kernel_rfl) ?_) | (refine draw_listB (by simp [allocsOf, isAlloc]; rfl) (by kernel_rfl) ?_) | simp (maxSteps := 2000000) (disch := first | omega | assumption | simp [*]) [*, -Int.not_le, -Int.not_lt, -Nat.not_le, -Nat.not_lt, -Nat.add_left_cancel_iff, wrap_i64, wrap_u64, hr4, isI_low i1, isI_low i4])
            all_goals (by_cases he4 : m4 = n1 <;> simp_all [expo])
          | false =>
            repeat' (first | (apply brI <;> intro hb hb2 <;> (try simp [-Int.not_le, -Int.not_lt, -Nat.not_le, -Nat.not_lt, -Nat.add_left_cancel_iff] at hb2)) | (refine draw_listA (by rfl) (by kernel_rfl) ?_) | (refine draw_listB (by simp [allocsOf, isAlloc]; rfl) (by kernel_rfl) ?_) | simp (maxSteps := 2000000) (disch := first | omega | assumption | simp [*]) [*, -Int.not_le, -Int.not_lt, -Nat.not_le, -Nat.not_lt, -Nat.add_left_cancel_iff, wrap_i64, wrap_u64, hr4, isI_low i1, isI_low i4])
      · clear hia
        cases FB with
        | true =>
          obtain ⟨q1, q2, q3, q4⟩ := hfc rfl
          clear hfc
          repeat' (first | (apply brI <;> intro hb hb2 <;> (try simp [-Int.not_le, -Int.not_lt, -Nat.not_le, -Nat.not_lt, -Nat.add_left_cancel_iff] at hb2)) | (refine draw_listA (by rfl) (by kernel_rfl) ?_) | (refine draw_listB (by simp [allocsOf, isAlloc]; rfl) (by kernel_rfl) ?_) | simp (maxSteps := 2000000) (disch := first | omega | assumption | simp [*]) [*, -Int.not_le, -Int.not_lt, -Nat.not_le, -Nat.not_lt, -Nat.add_left_cancel_iff, wrap_i64, wrap_u64, hFB, hP2, hQ2, hr3, isB_low hB, isI_low i1, isI_low i2, isI_low i3, isI_low iS, isI_low iR])
          refine cw_to hred ?_
          rintro r4 ⟨m4, rows4, ok4, hr4, w0, w6, w8, hok⟩
          have i4 : IsI (bufC 0 rows4) := isI_bufC (by unfold top63; omega)
          have x4 : xsOf (bufC 0 rows4) = rows4 := by simp
          have hne : ok4 = true → rows4 = rows4 := fun _ => rfl
          clear hok
          obtain ⟨W4, hW4⟩ : ∃ w, bufC 0 rows4 = w := ⟨_, rfl⟩
          rw [hW4] at hr4 i4 x4
          rw [← x4] at hne
          have o4 := isI_one i4
          have c4 := isI_cells i4
          clear x4 w8 hW4
          cases ok4 with
          | true =>
            have hne := hne rfl
            repeat' (first | (apply brI <;> intro hb hb2 <;> (try simp [-Int.not_le, -Int.not_lt, -Nat.not_le, -Nat.not_lt, -Nat.add_left_cancel_iff] at hb2)) | (refine draw_listA (by rfl) (by kernel_rfl) ?_) | (refine draw_listB (by simp [allocsOf, isAlloc]; rfl) (by kernel_rfl) ?_) | simp (maxSteps := 2000000) (disch := first | omega | assumption | simp [*]) [*, -Int.not_le, -Int.not_lt, -Nat.not_le, -Nat.not_lt, -Nat.add_left_cancel_iff, wrap_i64, wrap_u64, hr4, isI_low i1, isI_low i4])
            all_goals (by_cases he4 : m4 = n1 <;> simp_all [expo])
          | false =>
            repeat' (first | (apply brI <;> intro hb hb2 <;> (try simp [-Int.not_le, -Int.not_lt, -Nat.not_le, -Nat.not_lt, -Nat.add_left_cancel_iff] at hb2)) | (refine draw_listA (by rfl) (by kernel_rfl) ?_) | (refine draw_listB (by simp [allocsOf, isAlloc]; rfl) (by kernel_rfl) ?_) | simp (maxSteps := 2000000) (disch := first | omega | assumption | simp [*]) [*, -Int.not_le, -Int.not_lt, -Nat.not_le, -Nat.not_lt, -Nat.add_left_cancel_iff, wrap_i64, wrap_u64, hr4, isI_low i1, isI_low i4])
        | false =>
          skip
          clear hfc
          repeat' (first | (apply brI <;> intro hb hb2 <;> (try simp [-Int.not_le, -Int.not_lt, -Nat.not_le, -Nat.not_lt, -Nat.add_left_cancel_iff] at hb2)) | (refine draw_listA (by rfl) (by kernel_rfl) ?_) | (refine draw_listB (by simp [allocsOf, isAlloc]; rfl) (by kernel_rfl) ?_) | simp (maxSteps := 2000000) (disch := first | omega | assumption | simp [*]) [*, -Int.not_le, -Int.not_lt, -Nat.not_le, -Nat.not_lt, -Nat.add_left_cancel_iff, wrap_i64, wrap_u64, hFB, hP2, hQ2, hr3, isB_low hB, isI_low i1, isI_low i2, isI_low i3, isI_low iS, isI_low iR])
          refine cw_to hred ?_
          rintro r4 ⟨m4, rows4, ok4, hr4, w0, w6, w8, hok⟩
          have i4 : IsI (bufC 0 rows4) := isI_bufC (by unfold top63; omega)
          have x4 : xsOf (bufC 0 rows4) = rows4 := by simp
          have hne : ok4 = true → rows4 = rows4 := fun _ => rfl
          clear hok
          obtain ⟨W4, hW4⟩ : ∃ w, bufC 0 rows4 = w := ⟨_, rfl⟩
          rw [hW4] at hr4 i4 x4
          rw [← x4] at hne
          have o4 := isI_one i4
          have c4 := isI_cells i4
          clear x4 w8 hW4
          cases ok4 with
          | true =>
            have hne := hne rfl
            repeat' (first | (apply brI <;> intro hb hb2 <;> (try simp [-Int.not_le, -Int.not_lt, -Nat.not_le, -Nat.not_lt, -Nat.add_left_cancel_iff] at hb2)) | (refine draw_listA (by rfl) (by kernel_rfl) ?_) | (refine draw_listB (by simp [allocsOf, isAlloc]; rfl) (by kernel_rfl) ?_) | simp (maxSteps := 2000000) (disch := first | omega | assumption | simp [*]) [*, -Int.not_le, -Int.not_lt, -Nat.not_le, -Nat.not_lt, -Nat.add_left_cancel_iff, wrap_i64, wrap_u64, hr4, isI_low i1, isI_low i4])
            all_goals (by_cases he4 : m4 = n1 <;> simp_all [expo])
          | false =>
            repeat' (first | (apply brI <;> intro hb hb2 <;> (try simp [-Int.not_le, -Int.not_lt, -Nat.not_le, -Nat.not_lt, -Nat.add_left_cancel_iff] at hb2)) | (refine draw_listA (by rfl) (by kernel_rfl) ?_) | (refine draw_listB (by simp [allocsOf, isAlloc]; rfl) (by kernel_rfl) ?_) | simp (maxSteps := 2000000) (disch := first | omega | assumption | simp [*]) [*, -Int.not_le, -Int.not_lt, -Nat.not_le, -Nat.not_lt, -Nat.add_left_cancel_iff, wrap_i64, wrap_u64, hr4, isI_low i1, isI_low i4])
theorem lawParts_s {b : AV} (hB : IsB b) (hbr : brwOf b = false) {K : AV → Prop} {tg : Tg K} : CW env 4 [b] K tg ↔ K (.bool true) := callsTo_iff (lawParts_c hB hbr)
attribute [simp] lawParts_s
end Go.Proofs.YtliecnadoklgoaaGreatDoor
