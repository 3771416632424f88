/- The great law of explorations. Conditions: none. -/
import Derived.Test.YtlglhokpaplifaaGreatDoorExplT
import Derived.Test.YtlglhokpaplifaaGreatDoorDrawQ
import Derived.Test.YtlglhokpaplifaaGreatDoorTxt
namespace Go.Proofs.YtlglhokpaplifaaGreatDoor
open Ev
set_option linter.unusedVariables false
set_option linter.unusedSimpArgs false
set_option maxHeartbeats 8000000
set_option maxRecDepth 100000

theorem exq_len (n : Int) (E ks : List Int) : (exS n E ks).q.length ≤ 600 ∧ (exS n E ks).r.length ≤ 40 ∧ (rowsE E (exS n E ks).ks).length ≤ 8 := by
  unfold exS
  split
  · rename_i hK
    have hc := hK.1
    obtain ⟨N, rfl⟩ : ∃ N : Nat, n = N := ⟨n.toNat, by have := hc.1; omega⟩
    obtain ⟨hnd, hks⟩ := ksN_ok hK
    obtain ⟨T, ⟨hT6, hTf, hTn, hTI⟩, hend⟩ := xend_T hc (xi_start hnd hks)
    rw [Int.toNat_natCast, show xend E N (xs0 ks) = xat E N (xs0 ks) T from hend]
    have h1 := xat_q E N (xs0 ks) T
    have h2 : (xs0 ks).q.length = 0 := rfl
    have hI : XI E N (xat E N (xs0 ks) T) := hTI T (Nat.le_refl _)
    have h3 := xi_few hc hI
    have h4 := (rowsE_ctx hc hI.nd hI.ks).2.2.1
    exact ⟨by omega, by omega, h4⟩
  · simp [rowsE]
/-- the parts of what an exploration comes to -/
theorem exV_parts (n : Int) (E ks : List Int) : ∃ q r x m, exV n E ks = .agg [q, r, .int .i64 m, x] ∧ noEx (exR n E ks) = .agg [q, r, .int .i64 m, x] ∧ IsM q ∧ IsP r ∧ IsI x ∧ esOf q = qAV (exS n E ks).q ∧ esOf r = rAV (exS n E ks).r ∧ xsOf x = rowsE E (exS n E ks).ks ∧ m = exN n E ks := by
  obtain ⟨l1, l2, l3⟩ := exq_len n E ks
  refine ⟨_, _, _, _, rfl, by unfold exR; simp [noEx, noExs], isM_bufLC (qAV_q _) (by simp [qAV]; unfold top63; omega), ?_, isI_bufC (by unfold top63; omega), esOf_bufLC, esOf_bufLC, by simp, rfl⟩
  exact rAV_C l2
theorem nextM_parts (n : Int) (v : AV) (x : Int) : ∃ t u, nextM n v x = .tup [.int .i64 t, .bool u] := by
  unfold nextM
  split
  · unfold nxV; split <;> exact ⟨_, _, rfl⟩
  · exact ⟨_, _, rfl⟩
theorem prL_isP {es : List AV} (hP : PrL es) (hl : es.length ≤ 41) : IsP (bufLC 2 2 es) := by
  unfold bufLC; split
  · exact isP_mk (xs := []) (ys := []) (.inl rfl) rfl (Nat.zero_le _)
  · have h1 : ∀ e ∈ esOf (.sl 2 .no es), e.cells.length = 2 ∧ e.cells.all AV.one = true := fun e he => by
      obtain ⟨a, c, rfl⟩ := hP e he
      exact ⟨rfl, rfl⟩
    have h2 : ∀ e ∈ esOf (.sl 2 .no es), ∃ a b, e = pr a b := fun e he => by
      obtain ⟨a, c, rfl⟩ := hP e he
      exact ⟨_, _, rfl⟩
    exact { l := { len := by simp; unfold top63; omega, ok := ⟨2, .no, _, rfl, .inr rfl, rfl⟩, cells := h1 }, el := h2 }
theorem bigE_c {b : AV} (hB : IsB b) : EvC env 5 [b] (.bool (decide (1048576 < bLen b))) := by
  refine evC_of (F := Tryz.f5) rfl rfl (Nat.le_of_ble_eq_true rfl) ?_
  repeat' (first | (apply brI <;> intro hb hb2 <;> (try simp [-Int.not_le, -Int.not_lt, -Nat.not_le, -Nat.not_lt, -Nat.add_left_cancel_iff] at hb2)) | (refine draw_listA (by rfl) (by kernel_rfl) ?_) | (refine draw_listB (by simp [allocsOf, isAlloc]; rfl) (by kernel_rfl) ?_) | simp (maxSteps := 2000000) (disch := first | omega | assumption | simp [*]) [*, -Int.not_le, -Int.not_lt, -Nat.not_le, -Nat.not_lt, -Nat.add_left_cancel_iff, wrap_i64, wrap_u64, Tryz.f5, isB_len hB])
  all_goals first | omega | skip
theorem bigE_s {b : AV} (hB : IsB b) {K : AV → Prop} {tg : Tg K} : CW env 5 [b] K tg ↔ K (.bool (decide (1048576 < bLen b))) := callsTo_iff (bigE_c hB)
attribute [simp] bigE_s
theorem lawExplored_c {b : AV} (hB : IsB b) (hbr : brwOf b = false) : EvC env 3 [b] (.bool true) := by
  refine evC_of (F := Tryz.f3) rfl rfl (Nat.le_of_ble_eq_true rfl) ?_
  have hcb := isB_cells hB
  have hob := isB_one hB
  by_cases hbig : 1048576 < bLen b
  · have hbi : (1048576 : Int) < (bLen b : Int) := by omega
    repeat' (first | (apply brI <;> intro hb hb2 <;> (try simp [-Int.not_le, -Int.not_lt, -Nat.not_le, -Nat.not_lt, -Nat.add_left_cancel_iff] at hb2)) | (refine draw_listA (by rfl) (by kernel_rfl) ?_) | (refine draw_listB (by simp [allocsOf, isAlloc]; rfl) (by kernel_rfl) ?_) | simp (maxSteps := 2000000) (disch := first | omega | assumption | simp [*]) [*, -Int.not_le, -Int.not_lt, -Nat.not_le, -Nat.not_lt, -Nat.add_left_cancel_iff, wrap_i64, wrap_u64, Tryz.f3, isB_low hB])
  · have hbi : ¬ ((1048576 : Int) < (bLen b : Int)) := by omega
    have hl : bLen b ≤ 1073741824 := by omega
    repeat' (first | (apply brI <;> intro hb hb2 <;> (try simp [-Int.not_le, -Int.not_lt, -Nat.not_le, -Nat.not_lt, -Nat.add_left_cancel_iff] at hb2)) | (refine draw_listA (by rfl) (by kernel_rfl) ?_) | (refine draw_listB (by simp [allocsOf, isAlloc]; rfl) (by kernel_rfl) ?_) | simp (maxSteps := 2000000) (disch := first | omega | assumption | simp [*]) [*, -Int.not_le, -Int.not_lt, -Nat.not_le, -Nat.not_lt, -Nat.add_left_cancel_iff, wrap_i64, wrap_u64, Tryz.f3, isB_low hB])
    refine cw_to (drawExplore_t hB hbr hl) ?_
    rintro r1 ⟨n, rows, ks, hr1, l1, l2⟩
    obtain ⟨V, hVe⟩ : ∃ V, bufC 0 rows = V := ⟨_, rfl⟩
    obtain ⟨K, hKe⟩ : ∃ K, bufC 1 ks = K := ⟨_, rfl⟩
    have iV : IsI V := by rw [← hVe]; exact isI_bufC (by unfold top63; omega)
    have iK : IsI K := by rw [← hKe]; exact isI_bufC (by unfold top63; omega)
    have xV : xsOf V = rows := by rw [← hVe]; simp
    have xK : xsOf K = ks := by rw [← hKe]; simp
    rw [hVe, hKe] at hr1
    clear hVe hKe
    have oV := isI_one iV
    have cV := isI_cells iV
    have oK := isI_one iK
    have cK := isI_cells iK
    -- the exploration
    obtain ⟨q, r, x, m, e1, e2, iq, ir, ix, eq9, er9, ex9, em9⟩ := exV_parts n rows ks
    have kI1 : ∀ (C : AV → Prop) (tg : Tg C), CW env 7 [.agg [.int .i64 n, V], K] C tg ↔ C (.tup [exR n rows ks, .bool (decide (KnoC n rows ks))]) := fun C tg => callsTo_iff (by
      have := iExplore_c (n := n) iV iK (by rw [xV]; omega) (by rw [xK]; omega)
      rw [xV, xK] at this; exact this)
    obtain ⟨wS, hwS, nS⟩ := sExplore_t (n := n) iV iK (by rw [xV]; omega)
    rw [xV, xK, e1] at nS
    have kS1 : ∀ (C : AV → Prop) (tg : Tg C), CW env 8 [.agg [.int .i64 n, V], K] C tg ↔ C wS := fun C tg => callsTo_iff hwS
    obtain ⟨eR, heR⟩ : ∃ e, exR n rows ks = e := ⟨_, rfl⟩
    rw [heR] at kI1 e2
    have hm9 : ∃ _ : Unit, m = exN n rows ks := ⟨(), em9⟩
    clear heR e1 hwS em9
    obtain ⟨c, hc⟩ : ∃ c, decide (KnoC n rows ks) = c := ⟨_, rfl⟩
    rw [hc] at kI1 nS
    have oq := isM_one iq
    have cq := isM_cells iq
    have or' := isP_one ir
    have cr := isP_cells ir
    have ox := isI_one ix
    have cx := isI_cells ix
    have kE : ∀ (C : AV → Prop) (tg : Tg C), CW env 14 [.agg [q, r, .int .i64 m, x], .agg [q, r, .int .i64 m, x]] C tg ↔ C (.bool true) := fun C tg => callsTo_iff (sameExploration_c iq ir ix)
    repeat' (first | (apply brI <;> intro hb hb2 <;> (try simp [-Int.not_le, -Int.not_lt, -Nat.not_le, -Nat.not_lt, -Nat.add_left_cancel_iff] at hb2)) | (refine draw_listA (by rfl) (by kernel_rfl) ?_) | (refine draw_listB (by simp [allocsOf, isAlloc]; rfl) (by kernel_rfl) ?_) | simp (maxSteps := 2000000) (disch := first | omega | assumption | simp [*]) [*, -Int.not_le, -Int.not_lt, -Nat.not_le, -Nat.not_lt, -Nat.add_left_cancel_iff, wrap_i64, wrap_u64, hr1, e2, nS, isB_low hB, isI_low iV, isI_low iK, isM_low iq, isP_low ir, isI_low ix])
    refine cw_to (drawNextModel_t hB hbr hl) ?_
    rintro r3 ⟨n3, x3, es3, hr3, hP3, l3⟩
    have i3 := prL_isP hP3 l3
    obtain ⟨P3, hP3e⟩ : ∃ w, bufLC 2 2 es3 = w := ⟨_, rfl⟩
    rw [hP3e] at hr3 i3
    clear hP3e hP3 l3
    obtain ⟨t3, u3, h3⟩ := nextM_parts n3 P3 x3
    have kI3 : ∀ (C : AV → Prop) (tg : Tg C), CW env 10 [.int .i64 n3, P3, .int .i64 x3] C tg ↔ C (.tup [.int .i64 t3, .bool u3]) := fun C tg => callsTo_iff (by have := iNextModel_c (n := n3) (x := x3) i3; rw [h3] at this; exact this)
    have kS3 : ∀ (C : AV → Prop) (tg : Tg C), CW env 11 [.int .i64 n3, P3, .int .i64 x3] C tg ↔ C (.tup [.int .i64 t3, .bool u3]) := fun C tg => callsTo_iff (by have := sNextModel_c (n := n3) (x := x3) i3; rw [h3] at this; exact this)
    clear h3
    have o3 := isP_one i3
    have c3 := isP_cells i3
    repeat' (first | (apply brI <;> intro hb hb2 <;> (try simp [-Int.not_le, -Int.not_lt, -Nat.not_le, -Nat.not_lt, -Nat.add_left_cancel_iff] at hb2)) | (refine draw_listA (by rfl) (by kernel_rfl) ?_) | (refine draw_listB (by simp [allocsOf, isAlloc]; rfl) (by kernel_rfl) ?_) | simp (maxSteps := 2000000) (disch := first | omega | assumption | simp [*]) [*, -Int.not_le, -Int.not_lt, -Nat.not_le, -Nat.not_lt, -Nat.add_left_cancel_iff, wrap_i64, wrap_u64, hr3, isB_low hB, isI_low iV, isI_low iK, isM_low iq, isP_low ir, isI_low ix, isP_low i3])
    refine cw_to (drawQuestionText_t hB hbr hl) ?_
    rintro r4 ⟨a4, b4, d4, f4, hr4, d40, d41⟩
    have kI4 : ∀ (C : AV → Prop) (tg : Tg C), CW env 15 [.agg [.int .i64 a4, .int .i64 b4, .bool f4, .int .i64 d4]] C tg ↔ C (.str (quesT a4 b4 f4 d4)) := fun C tg => callsTo_iff (iQuestionText_c d40 d41)
    have kS4 : ∀ (C : AV → Prop) (tg : Tg C), CW env 16 [.agg [.int .i64 a4, .int .i64 b4, .bool f4, .int .i64 d4]] C tg ↔ C (.str (quesT a4 b4 f4 d4)) := fun C tg => callsTo_iff (sQuestionText_c d40 d41)
    obtain ⟨T4, hT4⟩ : ∃ T, quesT a4 b4 f4 d4 = T := ⟨_, rfl⟩
    rw [hT4] at kI4 kS4
    clear hT4
    repeat' (first | (apply brI <;> intro hb hb2 <;> (try simp [-Int.not_le, -Int.not_lt, -Nat.not_le, -Nat.not_lt, -Nat.add_left_cancel_iff] at hb2)) | (refine draw_listA (by rfl) (by kernel_rfl) ?_) | (refine draw_listB (by simp [allocsOf, isAlloc]; rfl) (by kernel_rfl) ?_) | simp (maxSteps := 2000000) (disch := first | omega | assumption | simp [*]) [*, -Int.not_le, -Int.not_lt, -Nat.not_le, -Nat.not_lt, -Nat.add_left_cancel_iff, wrap_i64, wrap_u64, hr4, isB_low hB, isI_low iV, isI_low iK, isM_low iq, isP_low ir, isI_low ix, isP_low i3])
    refine cw_to (drawCountAccepted_t hB hbr hl) ?_
    rintro r5 ⟨n5, rows5, ks5, hr5⟩
    obtain ⟨q5, rl5, x5, m5, e5, -, iq5, ir5, ix5, eq5, er5, ex5, -⟩ := exV_parts n5 rows5 ks5
    rw [e5] at hr5
    have hac := acc_rules n5 rows5 ks5
    have hq5 : accTo q5 (esOf q5).length = (fsts rl5).length := by
      have h1 : (fsts rl5).length = (exS n5 rows5 ks5).r.length := by unfold fsts; rw [er5]; simp [rAV]
      have h2 : (esOf q5).length = (exS n5 rows5 ks5).q.length := by rw [eq5]; simp [qAV]
      rw [h1, h2, ← hac]
      unfold accTo mC
      rw [eq5, esOf_bufLC]
    have kI5 : ∀ (C : AV → Prop) (tg : Tg C), CW env 17 [.agg [q5, rl5, .int .i64 m5, x5]] C tg ↔ C (.int .i64 (fsts rl5).length) := fun C tg => callsTo_iff (by have := iCount_c (m := m5) iq5 ir5 ix5; rw [hq5] at this; exact this)
    have kS5 : ∀ (C : AV → Prop) (tg : Tg C), CW env 18 [.agg [q5, rl5, .int .i64 m5, x5]] C tg ↔ C (.int .i64 (fsts rl5).length) := fun C tg => callsTo_iff (by have := sCount_c (m := m5) iq5 ir5 ix5; rw [hq5] at this; exact this)
    clear e5 hac hq5 eq5 er5 ex5
    have oq5 := isM_one iq5
    have cq5 := isM_cells iq5
    have or5 := isP_one ir5
    have cr5 := isP_cells ir5
    have ox5 := isI_one ix5
    have cx5 := isI_cells ix5
    cases c with
    | false =>
      have hq0 : (esOf q).length = 0 := by
        have hK := of_decide_eq_false hc
        rw [eq9]; unfold exS; rw [if_neg hK]; rfl
      clear eq9 er9 ex9 hm9 hc
      repeat' (first | (apply brI <;> intro hb hb2 <;> (try simp [-Int.not_le, -Int.not_lt, -Nat.not_le, -Nat.not_lt, -Nat.add_left_cancel_iff] at hb2)) | (refine draw_listA (by rfl) (by kernel_rfl) ?_) | (refine draw_listB (by simp [allocsOf, isAlloc]; rfl) (by kernel_rfl) ?_) | simp (maxSteps := 2000000) (disch := first | omega | assumption | simp [*]) [*, -Int.not_le, -Int.not_lt, -Nat.not_le, -Nat.not_lt, -Nat.add_left_cancel_iff, wrap_i64, wrap_u64, hr5, isM_len iq, isP_len ir5, isB_low hB, isI_low iV, isI_low iK, isM_low iq, isP_low ir, isI_low ix, isP_low i3, isM_low iq5, isP_low ir5, isI_low ix5])
    | true =>
      have hK := of_decide_eq_true hc
      obtain ⟨N, rfl⟩ : ∃ N : Nat, n = N := ⟨n.toNat, by have := hK.1.1; omega⟩
      obtain ⟨_, hm⟩ := hm9
      have hmN : m = (N : Int) := by rw [hm]; unfold exN; rw [if_pos hK]
      clear hm
      subst hmN
      have xe := xend_ok hK
      obtain ⟨lq, lr, -⟩ := exq_len N rows ks
      obtain ⟨s, hs⟩ : ∃ s, exS N rows ks = s := ⟨_, rfl⟩
      rw [hs] at eq9 er9 ex9 xe lr lq
      have hq6 : (esOf q).length ≤ 600 := by rw [eq9]; simpa [qAV] using lq
      have hPV : PCtx N (xsOf V) := by rw [xV]; exact hK.1
      have hPx : PCtx N (xsOf x) := by rw [ex9]; exact xe.c
      -- the stem bases
      obtain ⟨w1, hw1, nw1⟩ := sStemBase_t iV hPV
      obtain ⟨w2, hw2, nw2⟩ := sStemBase_t ix hPx
      rw [xV, ← xe.r] at nw1
      rw [ex9, xe.st, ← xe.r] at nw2
      have hPr : PrL (rAV s.r) := fun e he => by
        obtain ⟨y, _, rfl⟩ := List.mem_map.1 he
        exact ⟨_, _, rfl⟩
      have iB := prL_isP hPr (by simp [rAV]; omega)
      have f1 : fsts (bufLC 2 2 (rAV s.r)) = fsts r := by unfold fsts; rw [esOf_bufLC, er9]
      have f2 : snds (bufLC 2 2 (rAV s.r)) = snds r := by unfold snds; rw [esOf_bufLC, er9]
      obtain ⟨SB, hSB⟩ : ∃ w, bufLC 2 2 (rAV s.r) = w := ⟨_, rfl⟩
      rw [hSB] at nw1 nw2 iB f1 f2
      have oB := isP_one iB
      have cB := isP_cells iB
      have kB1 : ∀ (C : AV → Prop) (tg : Tg C), CW env 22 [.agg [.int .i64 N, V]] C tg ↔ C w1 := fun C tg => callsTo_iff hw1
      have kB2 : ∀ (C : AV → Prop) (tg : Tg C), CW env 22 [.agg [.int .i64 N, x]] C tg ↔ C w2 := fun C tg => callsTo_iff hw2
      have kR1 : ∀ (C : AV → Prop) (tg : Tg C), CW env 21 [r, SB] C tg ↔ C (.bool true) := fun C tg => callsTo_iff (sameRules_c ir iB f1.symm f2.symm)
      have kR2 : ∀ (C : AV → Prop) (tg : Tg C), CW env 21 [SB, r] C tg ↔ C (.bool true) := fun C tg => callsTo_iff (sameRules_c iB ir f1 f2)
      have hxl : (xsOf x).length ≤ (xsOf V).length := by rw [ex9, xV, rowsE_len]; exact xe.l
      have hxli : ((xsOf x).length : Int) ≤ ((xsOf V).length : Int) := by omega
      -- the questions
      have hQ : ∀ i, i < (esOf q).length → ∃ (A B : Nat) (cc : Bool) (D : Int), mA q i = A ∧ mB q i = B ∧ mC q i = cc ∧ mD q i = D ∧ A < 64 ∧ B < 64 ∧ (∀ (C : AV → Prop) (tg : Tg C), CW env 19 [.agg [.int .i64 N, V], .agg [.int .i64 A, .int .i64 B]] C tg ↔ C (.bool cc)) ∧
          (cc = false → ∃ k : Nat, D = k ∧ k < (xsOf V).length ∧ PSub A (nth (xsOf V) k) = true ∧ PSub B (nth (xsOf V) k) = false) := fun i hi => by
        have hi2 : i < s.q.length := by rw [eq9] at hi; simpa [qAV] using hi
        have e : atQ (esOf q) i = qr s.q[i].1 s.q[i].2.1 s.q[i].2.2.1 s.q[i].2.2.2 := by rw [eq9]; simp [atQ, qAV, hi2]
        obtain ⟨q1, q2, q3, q4⟩ := xe.q s.q[i] (List.getElem_mem hi2)
        refine ⟨s.q[i].1, s.q[i].2.1, s.q[i].2.2.1, s.q[i].2.2.2, by unfold mA; rw [e]; rfl, by unfold mB; rw [e]; rfl, by unfold mC; rw [e]; rfl, by unfold mD; rw [e]; rfl, q1, q2, fun C tg => callsTo_iff (by
          have := sHoldsIn_c (n := (N : Int)) (a := (s.q[i].1 : Int)) (b := (s.q[i].2.1 : Int)) iV
          rw [xV, q3] at this; exact this), fun h => by rw [xV]; exact q4 h⟩
      have hrow : ∀ k, k < (xsOf V).length → 0 ≤ nth (xsOf V) k ∧ nth (xsOf V) k < 256 := fun k hk => by
        have := pctx_row hPV hk; omega
      clear eq9 er9 ex9 xe hs lr lq hPr f1 f2 hSB hw1 hw2 hK hPV hPx xV hc
      repeat' (first | (apply brI <;> intro hb hb2 <;> (try simp [-Int.not_le, -Int.not_lt, -Nat.not_le, -Nat.not_lt, -Nat.add_left_cancel_iff] at hb2)) | (refine draw_listA (by rfl) (by kernel_rfl) ?_) | (refine draw_listB (by simp [allocsOf, isAlloc]; rfl) (by kernel_rfl) ?_) | simp (maxSteps := 2000000) (disch := first | omega | assumption | simp [*]) [*, -Int.not_le, -Int.not_lt, -Nat.not_le, -Nat.not_lt, -Nat.add_left_cancel_iff, wrap_i64, wrap_u64, hr5, isM_len iq, isP_len ir5, isB_low hB, isI_low iV, isI_low iK, isM_low iq, isP_low ir, isI_low ix, isP_low i3, isM_low iq5, isP_low ir5, isI_low ix5])
      refine W_loopG (esOf q).length (fun i s h => s 18 = .int .i64 i ∧ s 3 = .vp 3 0 0 ∧ s 5 = .vp 5 0 0 ∧ h 3 = some (.var 0 26 (.agg [.int .i64 N, V])) ∧ h 5 = some (.var 0 32 (.agg [q, r, .int .i64 N, x]))) ?_ ?_
      · refine ⟨by simp, by simp, by simp, by simp [hset], by simp [hset]⟩
      rintro i st h hi ⟨h18, h3, h5, e3, e5⟩
      by_cases hi2 : i < (esOf q).length
      · obtain ⟨A, B, cc, D, hA, hBB, hC, hD, hA6, hB6, kH, hex⟩ := hQ i hi2
        cases cc with
        | true =>
          clear hQ hex hrow
          repeat' (first | (apply brI <;> intro hb hb2 <;> (try simp [-Int.not_le, -Int.not_lt, -Nat.not_le, -Nat.not_lt, -Nat.add_left_cancel_iff] at hb2)) | (refine draw_listA (by rfl) (by kernel_rfl) ?_) | (refine draw_listB (by simp [allocsOf, isAlloc]; rfl) (by kernel_rfl) ?_) | simp (maxSteps := 2000000) (disch := first | omega | assumption | simp [*]) [*, -Int.not_le, -Int.not_lt, -Nat.not_le, -Nat.not_lt, -Nat.add_left_cancel_iff, wrap_i64, wrap_u64, h18, h3, h5, e3, e5, isM_len iq, isM_index iq, isI_low iV, isI_len iV])
        | false =>
          obtain ⟨k, hk, hkl, hk1, hk2⟩ := hex rfl
          obtain ⟨r0, r1⟩ := hrow k hkl
          subst hk
          have kX : ∀ (C : AV → Prop) (tg : Tg C), CW env 20 [.agg [.int .i64 A, .int .i64 B], .int .i64 (nth (xsOf V) k)] C tg ↔ C (.bool false) := fun C tg => callsTo_iff (sRespects_c hA6 hB6 r0 r1 hk1 hk2)
          have hkl2 : (k : Int) < (xsOf V).length := by omega
          have hk0 : ¬ (k : Int) < 0 := by omega
          have hkn : ¬ ((xsOf V).length : Int) ≤ (k : Int) := by omega
          have hkn2 : ¬ (xsOf V).length ≤ k := by omega
          clear hQ hex hrow hk1 hk2 r0 r1
          repeat' (first | (apply brI <;> intro hb hb2 <;> (try simp [-Int.not_le, -Int.not_lt, -Nat.not_le, -Nat.not_lt, -Nat.add_left_cancel_iff] at hb2)) | (refine draw_listA (by rfl) (by kernel_rfl) ?_) | (refine draw_listB (by simp [allocsOf, isAlloc]; rfl) (by kernel_rfl) ?_) | simp (maxSteps := 2000000) (disch := first | omega | assumption | simp [*]) [*, -Int.not_le, -Int.not_lt, -Nat.not_le, -Nat.not_lt, -Nat.add_left_cancel_iff, wrap_i64, wrap_u64, h18, h3, h5, e3, e5, isM_len iq, isM_index iq, isI_low iV, isI_len iV, isI_index iV, isI_load iV])
      · obtain rfl : i = (esOf q).length := by omega
        clear hQ hrow
        repeat' (first | (apply brI <;> intro hb hb2 <;> (try simp [-Int.not_le, -Int.not_lt, -Nat.not_le, -Nat.not_lt, -Nat.add_left_cancel_iff] at hb2)) | (refine draw_listA (by rfl) (by kernel_rfl) ?_) | (refine draw_listB (by simp [allocsOf, isAlloc]; rfl) (by kernel_rfl) ?_) | simp (maxSteps := 2000000) (disch := first | omega | assumption | simp [*]) [*, -Int.not_le, -Int.not_lt, -Nat.not_le, -Nat.not_lt, -Nat.add_left_cancel_iff, wrap_i64, wrap_u64, h18, h3, h5, e3, e5, isM_len iq, isI_low iV, isI_len iV, isI_low ix, isI_len ix, isP_low ir, nw1, nw2, isP_low iB])
theorem lawExplored_s {b : AV} (hB : IsB b) (hbr : brwOf b = false) {K : AV → Prop} {tg : Tg K} : CW env 3 [b] K tg ↔ K (.bool true) := callsTo_iff (lawExplored_c hB hbr)
attribute [simp] lawExplored_s
end Go.Proofs.YtlglhokpaplifaaGreatDoor
