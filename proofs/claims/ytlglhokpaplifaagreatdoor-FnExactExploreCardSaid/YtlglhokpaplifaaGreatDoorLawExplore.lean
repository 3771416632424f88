/- The law of Explore. Conditions: none. -/
import Derived.Test.YtlglhokpaplifaaGreatDoorExplL
namespace Go.Proofs.YtlglhokpaplifaaGreatDoor
open Ev
set_option linter.unusedVariables false
set_option linter.unusedSimpArgs false
set_option maxHeartbeats 4000000

theorem exS_len (n : Int) (E ks : List Int) : (exS n E ks).q.length ≤ 600 ∧ (exS n E ks).r.length ≤ 40 ∧ (rowsE E (exS n E ks).ks).length ≤ 8 := by
  unfold exS
  split
  · rename_i hK
    have hc := hK.1
    obtain ⟨N, rfl⟩ : ∃ N : Nat, n = N := ⟨n.toNat, by have := hc.1; omega⟩
    obtain ⟨hnd, hks⟩ := ksN_ok hK
    obtain ⟨T, ⟨hT6, hTf, hTn, hTI⟩, hend⟩ := xend_T hc (xi_start hnd hks)
    rw [Int.toNat_natCast, show xend E N (xs0 ks) = xat E N (xs0 ks) T from hend]
    have h1 := xat_q E N (xs0 ks) T
    have h2 : (xs0 ks).q.length = 0 := rfl
    have hI : XI E N (xat E N (xs0 ks) T) := hTI T (Nat.le_refl _)
    have h3 := xi_few hc hI
    have h4 := (rowsE_ctx hc hI.nd hI.ks).2.2.1
    exact ⟨by omega, by omega, h4⟩
  · simp [rowsE]
theorem rAV_prs (r : List (Nat × Nat)) : rAV r = prs (r.map fun p => (p.1 : Int)) (r.map fun p => (p.2 : Int)) := by
  apply List.ext_getElem (by simp [rAV])
  intro i h1 h2
  have hi : i < r.length := by simpa [rAV] using h1
  simp only [rAV, List.getElem_map, prs_getElem, map_nth r Prod.fst hi, map_nth r Prod.snd hi, pr]
theorem lawExplore_c {n : Int} {v k : AV} (hv : IsI v) (hk : IsI k) : EvC env 4 [.agg [.int .i64 n, v], k] (.bool true) := by
  refine evC_of (F := Tryz.f4) rfl rfl (Nat.le_of_ble_eq_true rfl) ?_
  have hvl := hv.len
  have hkl := hk.len
  obtain ⟨lq, lr, lx⟩ := exS_len n (xsOf v) (xsOf k)
  obtain ⟨M, hM⟩ : ∃ M, exN n (xsOf v) (xsOf k) = M := ⟨_, rfl⟩
  obtain ⟨c, hc⟩ : ∃ c, decide (KnoC n (xsOf v) (xsOf k)) = c := ⟨_, rfl⟩
  obtain ⟨QL, hQL⟩ : ∃ QL, qAV (exS n (xsOf v) (xsOf k)).q = QL := ⟨_, rfl⟩
  obtain ⟨asL, has⟩ : ∃ asL, (exS n (xsOf v) (xsOf k)).r.map (fun p => (p.1 : Int)) = asL := ⟨_, rfl⟩
  obtain ⟨bsL, hbs⟩ : ∃ bsL, (exS n (xsOf v) (xsOf k)).r.map (fun p => (p.2 : Int)) = bsL := ⟨_, rfl⟩
  obtain ⟨XL, hXL⟩ : ∃ XL, rowsE (xsOf v) (exS n (xsOf v) (xsOf k)).ks = XL := ⟨_, rfl⟩
  obtain ⟨kx, hkx⟩ : ∃ kx, kxI (xsOf k) = kx := ⟨_, rfl⟩
  have hkxo : kx = 113 ∨ kx = 44 := by rw [← hkx]; exact kxI_or _
  have hRL : rAV (exS n (xsOf v) (xsOf k)).r = prs asL bsL := by rw [rAV_prs, has, hbs]
  have hql : QL.length ≤ 600 := by rw [← hQL]; simpa [qAV] using lq
  have hal : asL.length ≤ 40 := by rw [← has]; simpa using lr
  have hbl : bsL.length = asL.length := by rw [← has, ← hbs]; simp
  have hxl : XL.length ≤ 8 := by rw [← hXL]; exact lx
  have hqq : IsQ QL := by rw [← hQL]; exact qAV_q _
  have hS : ∀ {v' k' : AV}, IsI v' → IsI k' → xsOf v' = xsOf v → xsOf k' = xsOf k → (xsOf v).length ≤ 1048576 → CallsTo env 8 [.agg [.int .i64 n, v'], k'] (fun r => noEx r = .tup [.agg [bufLC 0 4 QL, bufLC 0 2 (prs asL bsL), .int .i64 M, bufC 0 XL], .bool c]) := fun h1 h2 h3 h4 h5 => by
    have := sExplore_t (n := n) h1 h2 (by rw [h3]; exact h5)
    rw [h3, h4, hc] at this
    unfold exV at this
    rw [hQL, hRL, hM, hXL] at this
    exact this
  have hI : ∀ {v' k' : AV}, IsI v' → IsI k' → xsOf v' = xsOf v → xsOf k' = xsOf k → (xsOf v).length ≤ 1048576 → (xsOf k).length ≤ 1048576 → EvC env 7 [.agg [.int .i64 n, v'], k'] (.tup [.agg [bufLR 42 120 0 4 QL, bufLR 40 86 0 2 (prs asL bsL), .int .i64 M, bufR 3 kx 0 XL], .bool c]) := fun h1 h2 h3 h4 h5 h6 => by
    have := iExplore_c (n := n) h1 h2 (by rw [h3]; exact h5) (by rw [h4]; exact h6)
    rw [h3, h4, hc] at this
    unfold exR at this
    rw [hQL, hRL, hM, hXL, hkx] at this
    exact this
  clear hM hc hQL has hbs hXL hRL lq lr lx hkx
  have hxt : XL.length ≤ top63 := by unfold top63; omega
  have hqt : QL.length ≤ top63 := by unfold top63; omega
  have hat : asL.length ≤ top63 := by unfold top63; omega
  -- by value
  obtain ⟨qw, hqw⟩ : ∃ w, bufLC 0 4 QL = w := ⟨_, rfl⟩
  obtain ⟨rw', hrw⟩ : ∃ w, bufLC 0 2 (prs asL bsL) = w := ⟨_, rfl⟩
  obtain ⟨xw, hxw⟩ : ∃ w, bufC 0 XL = w := ⟨_, rfl⟩
  have iq : IsM qw := by rw [← hqw]; exact isM_bufLC hqq hqt
  have eq9 : esOf qw = QL := by rw [← hqw]; exact esOf_bufLC
  have ir : IsP rw' := by
    rw [← hrw]; unfold bufLC; split
    · exact isP_mk (xs := []) (ys := []) (.inl rfl) rfl (Nat.zero_le _)
    · exact isP_mk (.inr rfl) rfl hat
  have er : fsts rw' = asL ∧ snds rw' = bsL := by
    rw [← hrw]; unfold bufLC; split
    · rename_i h
      have h0 : asL.length = 0 := by have := congrArg List.length h; simpa using this
      have h1 : asL = [] := List.eq_nil_of_length_eq_zero h0
      have h2 : bsL = [] := List.eq_nil_of_length_eq_zero (by omega)
      rw [h1, h2]; exact ⟨rfl, rfl⟩
    · exact ⟨fsts_prs .., snds_prs _ _ hbl⟩
  have ix : IsI xw := by rw [← hxw]; exact isI_bufC hxt
  have ex : xsOf xw = XL := by rw [← hxw]; simp
  have oq := isM_one iq
  have cq := isM_cells iq
  have or' := isP_one ir
  have cr := isP_cells ir
  have ox := isI_one ix
  have cx := isI_cells ix
  -- what is compared and held
  have jq : IsM (rowB 4 0 QL) := isM_rowB hqq hqt
  have jr : IsP (rowB 2 0 (prs asL bsL)) := isP_rowB hat
  have jx : IsI (rowB 1 0 (ints XL)) := isI_rowB hxt
  have hEq1 : ∀ (K : AV → Prop) (tg : Tg K), CW env 26 [.agg [rowB 4 0 QL, rowB 2 0 (prs asL bsL), .int .i64 M, rowB 1 0 (ints XL)], .agg [qw, rw', .int .i64 M, xw]] K tg ↔ K (.bool true) := fun K tg => callsTo_iff
    (eqExploration_c (m := M) jq iq (by rw [esOf_rowB, eq9]) jr ir (by rw [fsts_rowB, er.1]) (by rw [snds_rowB hbl, er.2]) jx ix (by rw [xsOf_rowB, ex]))
  have hEq2 : ∀ (K : AV → Prop) (tg : Tg K), CW env 26 [.agg [qw, rw', .int .i64 M, xw], .agg [qw, rw', .int .i64 M, xw]] K tg ↔ K (.bool true) := fun K tg => callsTo_iff
    (eqExploration_c (m := M) iq iq rfl ir ir rfl rfl ix ix rfl)
  have hHeld : ∀ (K : AV → Prop) (tg : Tg K), CW env 32 [.agg [rowB 4 0 (mkQ 1 QL.length), rowB 2 0 (prs (mk2a (1 + 4 * QL.length) asL.length) (mk2b (1 + 4 * QL.length) asL.length)), .int .i64 M, rowB 1 0 (ints (upTo (1 + 4 * QL.length + 2 * asL.length) XL.length))], .int .i64 1] K tg ↔ K (.int .i64 (1 + 4 * QL.length + 2 * asL.length + XL.length)) := fun K tg => callsTo_iff (by
    have l1 : (esOf (rowB 4 0 (mkQ 1 QL.length))).length = QL.length := by rw [esOf_rowB]; simp
    have l2 : (fsts (rowB 2 0 (prs (mk2a (1 + 4 * (QL.length : Int)) asL.length) (mk2b (1 + 4 * (QL.length : Int)) asL.length)))).length = asL.length := by rw [fsts_rowB, mk2a_len]
    have l3 : (xsOf (rowB 1 0 (ints (upTo (1 + 4 * (QL.length : Int) + 2 * asL.length) XL.length)))).length = XL.length := by simp
    have := heldExploration_c (m := M) (k := 1) (q := rowB 4 0 (mkQ 1 QL.length)) (r := rowB 2 0 (prs (mk2a (1 + 4 * QL.length) asL.length) (mk2b (1 + 4 * QL.length) asL.length))) (x := rowB 1 0 (ints (upTo (1 + 4 * QL.length + 2 * asL.length) XL.length)))
      (isM_rowB (mkQ_isQ _ _) (by simpa using hqt)) (isP_rowB (by rw [mk2a_len]; exact hat)) (isI_rowB (by simpa using hxt)) (by decide) (by rw [l1, l2, l3]; omega) (by rw [l1, esOf_rowB]) (by rw [l1, l2, fsts_rowB]) (by rw [l1, l2, snds_rowB (by rw [mk2a_len, mk2b_len])]) (by rw [l1, l2, l3, xsOf_rowB])
    rw [l1, l2, l3] at this
    exact this)
  repeat' (first | (apply brI <;> intro hb hb2 <;> (try simp [-Int.not_le, -Int.not_lt, -Nat.not_le, -Nat.not_lt, -Nat.add_left_cancel_iff] at hb2)) | (refine draw_listA (by rfl) (by kernel_rfl) ?_) | (refine draw_listB (by simp [allocsOf, isAlloc]; rfl) (by kernel_rfl) ?_) | simp (maxSteps := 2000000) (disch := first | omega | assumption | simp [*]) [*, -Int.not_le, -Int.not_lt, -Nat.not_le, -Nat.not_lt, -Nat.add_left_cancel_iff, wrap_i64, wrap_u64, Tryz.f4, isI_cells hv, isI_one hv, isI_low hv, isI_low hk, isI_len hk, isI_noKey hv, isI_noKey hk, farOff])
  have hlk : (xsOf k).length ≤ 1048576 := by omega
  have hlv : (xsOf v).length ≤ 1048576 := by grind
  refine cw_to (hS (isI_no hvl) (isI_no hkl) (by simp) (by simp) hlv) ?_
  intro r hr
  rw [hqw, hrw, hxw] at hr
  have hI1 : ∀ (K : AV → Prop) (tg : Tg K), CW env 7 [.agg [.int .i64 n, .sl 1 .no (ints (xsOf v))], .sl 1 .no (ints (xsOf k))] K tg ↔ K (.tup [.agg [bufLR 42 120 0 4 QL, bufLR 40 86 0 2 (prs asL bsL), .int .i64 M, bufR 3 kx 0 XL], .bool c]) := fun K tg => callsTo_iff (hI (isI_no hvl) (isI_no hkl) (by simp) (by simp) hlv hlk)
  clear hS
  repeat' (first | (apply brI <;> intro hb hb2 <;> (try simp [-Int.not_le, -Int.not_lt, -Nat.not_le, -Nat.not_lt, -Nat.add_left_cancel_iff] at hb2)) | (refine draw_listA (by rfl) (by kernel_rfl) ?_) | (refine draw_listB (by simp [allocsOf, isAlloc]; rfl) (by kernel_rfl) ?_) | simp (maxSteps := 2000000) (disch := first | omega | assumption | simp [*]) [*, -Int.not_le, -Int.not_lt, -Nat.not_le, -Nat.not_lt, -Nat.add_left_cancel_iff, wrap_i64, wrap_u64, hr, isM_low iq, isP_low ir, isI_low ix, isM_noKey iq, isP_noKey ir, isI_noKey ix, isI_cells hv, isI_one hv, isI_low hv, isI_low hk, isI_len hk, isI_noKey hv, isI_noKey hk, farOff])
  refine cf_ctx (by simpa [isI_low hv] using toContext_c (m := n) hv hlv) (ownR_row ..) (by simp) rfl ?_
  intro x0 m0 hx0 hm0
  have o0 := hx0.one
  have c0 := hx0.cells
  have l0 : ∀ h', h' 34 = m0 34 → low h' x0 = rowB 1 1 (ints (xsOf v)) := fun h' e => (hx0.keep e).lowI
  repeat' (first | (apply brI <;> intro hb hb2 <;> (try simp [-Int.not_le, -Int.not_lt, -Nat.not_le, -Nat.not_lt, -Nat.add_left_cancel_iff] at hb2)) | (refine draw_listA (by rfl) (by kernel_rfl) ?_) | (refine draw_listB (by simp [allocsOf, isAlloc]; rfl) (by kernel_rfl) ?_) | simp (maxSteps := 2000000) (disch := first | omega | assumption | simp [*]) [*, -Int.not_le, -Int.not_lt, -Nat.not_le, -Nat.not_lt, -Nat.add_left_cancel_iff, wrap_i64, wrap_u64, isM_low iq, isP_low ir, isI_low ix, isM_noKey iq, isP_noKey ir, isI_noKey ix, isI_cells hv, isI_one hv, isI_low hv, isI_low hk, isI_len hk, isI_noKey hv, isI_noKey hk, farOff])
  refine cf_row (by simpa [isI_low hk] using toIntS_c hk hlk) (ownR_row ..) (by simp) rfl ?_
  intro x1 m1 hx1 hm1
  have o1 := hx1.one
  have c1 := hx1.cells
  have l1 : ∀ h', h' 36 = m1 36 → low h' x1 = rowB 1 1 (ints (xsOf k)) := fun h' e => (hx1.keep e).lowI
  repeat' (first | (apply brI <;> intro hb hb2 <;> (try simp [-Int.not_le, -Int.not_lt, -Nat.not_le, -Nat.not_lt, -Nat.add_left_cancel_iff] at hb2)) | (refine draw_listA (by rfl) (by kernel_rfl) ?_) | (refine draw_listB (by simp [allocsOf, isAlloc]; rfl) (by kernel_rfl) ?_) | simp (maxSteps := 2000000) (disch := first | omega | assumption | simp [*]) [*, -Int.not_le, -Int.not_lt, -Nat.not_le, -Nat.not_lt, -Nat.add_left_cancel_iff, wrap_i64, wrap_u64, isM_low iq, isP_low ir, isI_low ix, isM_noKey iq, isP_noKey ir, isI_noKey ix, isI_cells hv, isI_one hv, isI_low hv, isI_low hk, isI_len hk, isI_noKey hv, isI_noKey hk, farOff])
  refine cf_expl (by simpa [l0, l1, hset, hm1] using hI (v' := rowB 1 1 (ints (xsOf v))) (k' := rowB 1 1 (ints (xsOf k))) (isI_rowB hvl) (isI_rowB hkl) (by simp) (by simp) hlv hlk) (ownR_bufL ..) (isQ_flat hqq) (ownR_bufL ..) (prs_flat ..) (ownR_buf ..) (by simp) (by decide) (by omega) (by omega) rfl ?_
  intro g1 g2 g3 m2 hg1 hg2 hg3 hm2
  clear hI
  have og1 := hg1.one
  have cg1 := hg1.cells
  have og2 := hg2.one
  have cg2 := hg2.cells
  have og3 := hg3.one
  have cg3 := hg3.cells
  have lg1 : ∀ h', h' 40 = m2 40 → low h' g1 = rowB 4 0 QL := fun h' e => lowQ (hg1.keep e) hqq
  have lg2 : ∀ h', h' 1040 = m2 1040 → low h' g2 = rowB 2 0 (prs asL bsL) := fun h' e => (hg2.keep e).lowP
  have lg3 : ∀ h', h' 2040 = m2 2040 → low h' g3 = rowB 1 0 (ints XL) := fun h' e => (hg3.keep e).lowI
  repeat' (first | (apply brI <;> intro hb hb2 <;> (try simp [-Int.not_le, -Int.not_lt, -Nat.not_le, -Nat.not_lt, -Nat.add_left_cancel_iff] at hb2)) | (refine draw_listA (by rfl) (by kernel_rfl) ?_) | (refine draw_listB (by simp [allocsOf, isAlloc]; rfl) (by kernel_rfl) ?_) | simp (maxSteps := 2000000) (disch := first | omega | assumption | simp [*]) [*, -Int.not_le, -Int.not_lt, -Nat.not_le, -Nat.not_lt, -Nat.add_left_cancel_iff, wrap_i64, wrap_u64, isM_low iq, isP_low ir, isI_low ix, isM_noKey iq, isP_noKey ir, isI_noKey ix, isI_cells hv, isI_one hv, isI_low hv, isI_low hk, isI_len hk, isI_noKey hv, isI_noKey hk, farOff])
  refine cf_open rfl rfl (markContext_o (xs := xsOf v) (key := 34) (hx0.keep (by simp [hset, hm1, hm2])) (by simp [farOff]) (by decide) (by omega) fun m3 hx0' hm3' => ?_)
  have hm3 := fun x (a : x < 100000) b => hm3' x b (by simp [farOff]; omega)
  clear hm3'
  repeat' (first | (apply brI <;> intro hb hb2 <;> (try simp [-Int.not_le, -Int.not_lt, -Nat.not_le, -Nat.not_lt, -Nat.add_left_cancel_iff] at hb2)) | (refine draw_listA (by rfl) (by kernel_rfl) ?_) | (refine draw_listB (by simp [allocsOf, isAlloc]; rfl) (by kernel_rfl) ?_) | simp (maxSteps := 2000000) (disch := first | omega | assumption | simp [*]) [*, -Int.not_le, -Int.not_lt, -Nat.not_le, -Nat.not_lt, -Nat.add_left_cancel_iff, wrap_i64, wrap_u64, isM_low iq, isP_low ir, isI_low ix, isM_noKey iq, isP_noKey ir, isI_noKey ix, isI_cells hv, isI_one hv, isI_low hv, isI_low hk, isI_len hk, isI_noKey hv, isI_noKey hk, farOff])
  refine cf_open rfl rfl (markIntS_o (xs := xsOf k) (key := 36) (hx1.keep (by simp [hset, hm2, hm3])) (by omega) (by omega) fun m4 hx1' hm4 => ?_)
  have hk0 : ¬ (1 + ((xsOf v).length : Int) + ((xsOf k).length : Int) < 0) := by omega
  repeat' (first | (apply brI <;> intro hb hb2 <;> (try simp [-Int.not_le, -Int.not_lt, -Nat.not_le, -Nat.not_lt, -Nat.add_left_cancel_iff] at hb2)) | (refine draw_listA (by rfl) (by kernel_rfl) ?_) | (refine draw_listB (by simp [allocsOf, isAlloc]; rfl) (by kernel_rfl) ?_) | simp (maxSteps := 2000000) (disch := first | omega | assumption | simp [*]) [*, -Int.not_le, -Int.not_lt, -Nat.not_le, -Nat.not_lt, -Nat.add_left_cancel_iff, wrap_i64, wrap_u64, isM_low iq, isP_low ir, isI_low ix, isM_noKey iq, isP_noKey ir, isI_noKey ix, isI_cells hv, isI_one hv, isI_low hv, isI_low hk, isI_len hk, isI_noKey hv, isI_noKey hk, farOff])
  refine cf_open rfl rfl (markExploration_o (hg1.keep (by simp [hset, hm3, hm4])) hqq (hg2.keep (by simp [hset, hm3, hm4])) hbl (hg3.keep (by simp [hset, hm3, hm4])) (by decide) (by decide) (by decide) (by simp [farOff]) (by simp [farOff]) (by simp [farOff]) (by decide) (by omega) fun m5 hq5 hr5 hx5 hm5' => ?_)
  have hm5 := fun x (a : x < 100000) b c d => hm5' x b c d (by simp [farOff]; omega)
  clear hm5' lg1 lg2 lg3
  have lh1 : ∀ h', h' 40 = m5 40 → low h' g1 = rowB 4 0 (mkQ 1 QL.length) := fun h' e => lowQ (hq5.keep e) (mkQ_isQ _ _)
  have lh2 : ∀ h', h' 1040 = m5 1040 → low h' g2 = rowB 2 0 (prs (mk2a (1 + 4 * QL.length) asL.length) (mk2b (1 + 4 * QL.length) asL.length)) := fun h' e => (hr5.keep e).lowP
  have lh3 : ∀ h', h' 2040 = m5 2040 → low h' g3 = rowB 1 0 (ints (upTo (1 + 4 * QL.length + 2 * asL.length) XL.length)) := fun h' e => (hx5.keep e).lowI
  have hnp : ¬ (1 + 4 * (QL.length : Int) + 2 * (asL.length : Int) + (XL.length : Int) < 0) := by omega
  repeat' (first | (apply brI <;> intro hb hb2 <;> (try simp [-Int.not_le, -Int.not_lt, -Nat.not_le, -Nat.not_lt, -Nat.add_left_cancel_iff] at hb2)) | (refine draw_listA (by rfl) (by kernel_rfl) ?_) | (refine draw_listB (by simp [allocsOf, isAlloc]; rfl) (by kernel_rfl) ?_) | simp (maxSteps := 2000000) (disch := first | omega | assumption | simp [*]) [*, -Int.not_le, -Int.not_lt, -Nat.not_le, -Nat.not_lt, -Nat.add_left_cancel_iff, wrap_i64, wrap_u64, isM_low iq, isP_low ir, isI_low ix, isM_noKey iq, isP_noKey ir, isI_noKey ix, isI_cells hv, isI_one hv, isI_low hv, isI_low hk, isI_len hk, isI_noKey hv, isI_noKey hk, farOff])
theorem lawExplore_s {n : Int} {v k : AV} (hv : IsI v) (hk : IsI k) {K : AV → Prop} {tg : Tg K} : CW env 4 [.agg [.int .i64 n, v], k] K tg ↔ K (.bool true) := callsTo_iff (lawExplore_c hv hk)
attribute [simp] lawExplore_s
end Go.Proofs.YtlglhokpaplifaaGreatDoor
