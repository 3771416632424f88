/- The law of DecideCell. Conditions: none. -/
import Derived.Test.YtemhhpjenffalaaDecide
namespace Go.Proofs.Ytemhhpjenffalaa
open Ev
set_option linter.unusedVariables false
set_option linter.unusedSimpArgs false
set_option maxHeartbeats 4000000

theorem markPartial_o {m : Int} {v v2 : AV} {key key2 T T2 k0 k02 : Nat} {xs ys : List Int} {k : Int} {h : Heap} {off : Nat} {K : AV → Heap → Prop} (hR : Row h key T 1 k0 v (ints xs)) (hR2 : Row h key2 T2 1 k02 v2 (ints ys)) (hkk : key ≠ key2) (hne : key ≠ off + 2) (hne2 : key2 ≠ off + 2) (h0 : 0 ≤ k) (h1 : k + xs.length + ys.length ≤ 4611686018427387904) (hK : ∀ h', Row h' key T 1 k0 v (ints (upTo k xs.length)) → Row h' key2 T2 1 k02 v2 (ints (upTo (k + xs.length) ys.length)) → (∀ x, x ≠ key → x ≠ key2 → x ≠ off + 2 → h' x = h x) → K (.int .i64 (k + xs.length + ys.length)) h') : OpenTo env 22 [.agg [.int .i64 m, v, v2], .int .i64 k] h off K := by
  refine openTo_of (F := Try.f22) rfl rfl (Nat.le_of_ble_eq_true rfl) ?_
  have o1 := hR.one
  have c1 := hR.cells
  have o2 := hR2.one
  have c2 := hR2.cells
  repeat' (first | (apply br_intro <;> intro hb <;> (have hb2 := hb) <;> (try simp [-Int.not_le, -Int.not_lt, -Nat.not_le, -Nat.not_lt, -Nat.add_left_cancel_iff] at hb2)) | (refine draw_listA (by rfl) (by kernel_rfl) ?_) | (refine draw_listB (by simp [allocsOf, isAlloc]; rfl) (by kernel_rfl) ?_) | simp (maxSteps := 2000000) (disch := first | omega | assumption | simp [*]) [*, -Int.not_le, -Int.not_lt, -Nat.not_le, -Nat.not_lt, -Nat.add_left_cancel_iff, wrap_i64, wrap_u64, Try.f22])
  refine cf_open rfl rfl (markIntS_o (hR.keep (by simp [hset, hne])) h0 (by omega) fun h2 hR3 hh2 => ?_)
  have e2 : h2 (off + 2) = some (.var (nextG h (off + 2)) 37 (.agg [.int .i64 m, v, v2])) := (hh2 _ (Ne.symm hne)).trans (if_pos rfl)
  have hR5 : Row h2 key2 T2 1 k02 v2 (ints ys) := hR2.keep (by rw [hh2 _ (Ne.symm hkk)]; simp [hset, hne2])
  repeat' (first | (apply br_intro <;> intro hb <;> (have hb2 := hb) <;> (try simp [-Int.not_le, -Int.not_lt, -Nat.not_le, -Nat.not_lt, -Nat.add_left_cancel_iff] at hb2)) | (refine draw_listA (by rfl) (by kernel_rfl) ?_) | (refine draw_listB (by simp [allocsOf, isAlloc]; rfl) (by kernel_rfl) ?_) | simp (maxSteps := 2000000) (disch := first | omega | assumption | simp [*]) [*, -Int.not_le, -Int.not_lt, -Nat.not_le, -Nat.not_lt, -Nat.add_left_cancel_iff, wrap_i64, wrap_u64, e2, nextG])
  refine cf_open rfl rfl (markIntS_o hR5 (by omega) (by omega) fun h3 hR4 hh3 => ?_)
  repeat' (first | (apply br_intro <;> intro hb <;> (have hb2 := hb) <;> (try simp [-Int.not_le, -Int.not_lt, -Nat.not_le, -Nat.not_lt, -Nat.add_left_cancel_iff] at hb2)) | (refine draw_listA (by rfl) (by kernel_rfl) ?_) | (refine draw_listB (by simp [allocsOf, isAlloc]; rfl) (by kernel_rfl) ?_) | simp (maxSteps := 2000000) (disch := first | omega | assumption | simp [*]) [*, -Int.not_le, -Int.not_lt, -Nat.not_le, -Nat.not_lt, -Nat.add_left_cancel_iff, wrap_i64, wrap_u64])
  exact hK _ (hR3.keep (by rw [hh3 _ hkk])) hR4 fun x g1 g2 g3 => by rw [hh3 x g2, hh2 x g1]; simp [hset, g3]
theorem heldPartial_c {m : Int} {u v : AV} {k : Int} (hu : IsI u) (hv : IsI v) (h0 : 0 ≤ k) (h1 : k + (xsOf u).length + (xsOf v).length ≤ 4611686018427387904) : EvC env 25 [.agg [.int .i64 m, u, v], .int .i64 k] (.int .i64 (if xsOf u = upTo k (xsOf u).length ∧ xsOf v = upTo (k + (xsOf u).length) (xsOf v).length then k + (xsOf u).length + (xsOf v).length else -1)) := by
  refine evC_of (F := Try.f25) rfl rfl (Nat.le_of_ble_eq_true rfl) ?_
  have := hu.len
  have := hv.len
  by_cases hx : xsOf u = upTo k (xsOf u).length
  · have h2 : k + (xsOf u).length ≤ 4611686018427387904 := by omega
    have hp : ¬ (k + ((xsOf u).length : Int) < 0) := by omega
    obtain ⟨L, hL⟩ : ∃ L, L = upTo k (xsOf u).length := ⟨_, rfl⟩
    have hs : ∀ (K : AV → Prop) (tg : Tg K), CW env 50 [u, .int .i64 k] K tg ↔ K (.int .i64 (k + (xsOf u).length)) := fun K tg => callsTo_iff (by
      have := heldIntS_c (k := k) hu h0 h2
      rw [if_pos hx] at this; exact this)
    have hc : (if xsOf u = upTo k (xsOf u).length ∧ xsOf v = upTo (k + (xsOf u).length) (xsOf v).length then k + ((xsOf u).length : Int) + (xsOf v).length else -1) = if xsOf v = upTo (k + (xsOf u).length) (xsOf v).length then k + ((xsOf u).length : Int) + (xsOf v).length else -1 := by
      by_cases h9 : xsOf v = upTo (k + (xsOf u).length) (xsOf v).length
      · rw [if_pos ⟨hx, h9⟩, if_pos h9]
      · rw [if_neg fun h => h9 h.2, if_neg h9]
    rw [hc]
    clear hx hc hL
    repeat' (first | (apply br_intro <;> intro hb <;> (have hb2 := hb) <;> (try simp [-Int.not_le, -Int.not_lt, -Nat.not_le, -Nat.not_lt, -Nat.add_left_cancel_iff] at hb2)) | (refine draw_listA (by rfl) (by kernel_rfl) ?_) | (refine draw_listB (by simp [allocsOf, isAlloc]; rfl) (by kernel_rfl) ?_) | simp (maxSteps := 2000000) (disch := first | omega | assumption | simp [*]) [*, -Int.not_le, -Int.not_lt, -Nat.not_le, -Nat.not_lt, -Nat.add_left_cancel_iff, wrap_i64, wrap_u64, Try.f25, isI_cells hu, isI_one hu, isI_low hu, isI_cells hv, isI_one hv, isI_low hv])
    all_goals grind
  · have h2 : k + (xsOf u).length ≤ 4611686018427387904 := by omega
    have hs : ∀ (K : AV → Prop) (tg : Tg K), CW env 50 [u, .int .i64 k] K tg ↔ K (.int .i64 (-1)) := fun K tg => callsTo_iff (by
      have := heldIntS_c (k := k) hu h0 h2
      rw [if_neg hx] at this; exact this)
    rw [if_neg fun h => hx h.1]
    clear hx
    repeat' (first | (apply br_intro <;> intro hb <;> (have hb2 := hb) <;> (try simp [-Int.not_le, -Int.not_lt, -Nat.not_le, -Nat.not_lt, -Nat.add_left_cancel_iff] at hb2)) | (refine draw_listA (by rfl) (by kernel_rfl) ?_) | (refine draw_listB (by simp [allocsOf, isAlloc]; rfl) (by kernel_rfl) ?_) | simp (maxSteps := 2000000) (disch := first | omega | assumption | simp [*]) [*, -Int.not_le, -Int.not_lt, -Nat.not_le, -Nat.not_lt, -Nat.add_left_cancel_iff, wrap_i64, wrap_u64, Try.f25, isI_cells hu, isI_one hu, isI_low hu, isI_cells hv, isI_one hv, isI_low hv])
theorem heldPartial_s {m : Int} {u v : AV} {k : Int} (hu : IsI u) (hv : IsI v) (h0 : 0 ≤ k) (h1 : k + (xsOf u).length + (xsOf v).length ≤ 4611686018427387904) {K : AV → Prop} {tg : Tg K} : CW env 25 [.agg [.int .i64 m, u, v], .int .i64 k] K tg ↔ K (.int .i64 (if xsOf u = upTo k (xsOf u).length ∧ xsOf v = upTo (k + (xsOf u).length) (xsOf v).length then k + (xsOf u).length + (xsOf v).length else -1)) := callsTo_iff (heldPartial_c hu hv h0 h1)
attribute [simp] heldPartial_s
noncomputable def decR1 (n : Int) (ss ms : List Int) (g m : Int) (has : Bool) : List Int := if DecC n ss ms g m then decS ss g.toNat m.toNat has else []
noncomputable def decR2 (n : Int) (ss ms : List Int) (g m : Int) : List Int := if DecC n ss ms g m then decM ms g.toNat m.toNat else []
theorem decR1_len (n : Int) (ss ms : List Int) (g m : Int) (has : Bool) : (decR1 n ss ms g m has).length ≤ 8 := by
  unfold decR1 decS; split
  · rename_i h
    have := h.1.1.2.2.1
    split <;> simpa
  · simp
theorem decR2_len (n : Int) (ss ms : List Int) (g m : Int) : (decR2 n ss ms g m).length ≤ 8 := by
  unfold decR2 decM; split
  · rename_i h
    have := h.1.2.1.2.2.1
    simpa
  · simp
theorem decVS_noEx {T key : Nat} {n : Int} {ss ms : List Int} {g m : Int} {has : Bool} : noEx (decVS T 1 key n ss ms g m has) = if DecC n ss ms g m then .sl 1 .no (ints (decS ss g.toNat m.toNat has)) else .sl 0 .lit [] := by
  unfold decVS; split <;> simp
theorem decVM_noEx {T key : Nat} {n : Int} {ss ms : List Int} {g m : Int} : noEx (decVM T 1 key n ss ms g m) = if DecC n ss ms g m then .sl 1 .no (ints (decM ms g.toNat m.toNat)) else .sl 0 .lit [] := by
  unfold decVM; split <;> simp
theorem lawDecideCell_c {n g m : Int} {has : Bool} {u v : AV} (hu : IsI u) (hv : IsI v) : EvC env 5 [.agg [.int .i64 n, u, v], .int .i64 g, .int .i64 m, .bool has] (.bool true) := by
  refine evC_of (F := Try.f5) rfl rfl (Nat.le_of_ble_eq_true rfl) ?_
  have hul := hu.len
  have hvl := hv.len
  obtain ⟨N, hN⟩ : ∃ N, N = decN n (xsOf u) (xsOf v) g m := ⟨_, rfl⟩
  obtain ⟨R1, hR1⟩ : ∃ R, R = decR1 n (xsOf u) (xsOf v) g m has := ⟨_, rfl⟩
  obtain ⟨R2, hR2⟩ : ∃ R, R = decR2 n (xsOf u) (xsOf v) g m := ⟨_, rfl⟩
  obtain ⟨c, hc⟩ : ∃ c, c = decide (DecC n (xsOf u) (xsOf v) g m) := ⟨_, rfl⟩
  obtain ⟨k0, hk0⟩ : ∃ k0, k0 = (if DecC n (xsOf u) (xsOf v) g m then 1 else 0) := ⟨_, rfl⟩
  obtain ⟨s1, hs1⟩ : ∃ x, x = decVS 3 1 39 n (xsOf u) (xsOf v) g m has := ⟨_, rfl⟩
  obtain ⟨s2, hs2⟩ : ∃ x, x = decVM 3 1 43 n (xsOf u) (xsOf v) g m := ⟨_, rfl⟩
  obtain ⟨i1, hi1⟩ : ∃ x, x = decVS 3 1 38 n (xsOf u) (xsOf v) g m has := ⟨_, rfl⟩
  obtain ⟨i2, hi2⟩ : ∃ x, x = decVM 3 1 41 n (xsOf u) (xsOf v) g m := ⟨_, rfl⟩
  have hR1l : R1.length ≤ 8 := by rw [hR1]; exact decR1_len ..
  have hR2l : R2.length ≤ 8 := by rw [hR2]; exact decR2_len ..
  have hR1t : R1.length ≤ top63 := by unfold top63; omega
  have hR2t : R2.length ≤ top63 := by unfold top63; omega
  obtain ⟨w1, hw1⟩ : ∃ w, w = noEx i1 := ⟨_, rfl⟩
  obtain ⟨w2, hw2⟩ : ∃ w, w = noEx i2 := ⟨_, rfl⟩
  have hI1 : IsI w1 ∧ xsOf w1 = R1 := by
    rw [hw1, hi1, decVS_noEx, hR1]
    unfold decR1
    split
    · rename_i h; exact ⟨isI_no (by rw [hR1, decR1, if_pos h] at hR1t; exact hR1t), by simp⟩
    · exact ⟨isI_lit, rfl⟩
  have hI2 : IsI w2 ∧ xsOf w2 = R2 := by
    rw [hw2, hi2, decVM_noEx, hR2]
    unfold decR2
    split
    · rename_i h; exact ⟨isI_no (by rw [hR2, decR2, if_pos h] at hR2t; exact hR2t), by simp⟩
    · exact ⟨isI_lit, rfl⟩
  obtain ⟨hI1, hx1⟩ := hI1
  obtain ⟨hI2, hx2⟩ := hI2
  have hOwn1 : OwnR i1 1 k0 3 38 (ints R1) := by
    rw [hi1, hR1, hk0]
    unfold decVS decR1
    split
    · exact ownR_rowX ..
    · exact ownR_nil ..
  have hOwn2 : OwnR i2 1 k0 3 41 (ints R2) := by
    rw [hi2, hR2, hk0]
    unfold decVM decR2
    split
    · exact ownR_rowX ..
    · exact ownR_nil ..
  have hn1 : noEx i1 = w1 := hw1.symm
  have hn2 : noEx i2 = w2 := hw2.symm
  have hn3 : noEx s1 = w1 := by rw [hw1, hs1, hi1, decVS_noEx, decVS_noEx]
  have hn4 : noEx s2 = w2 := by rw [hw2, hs2, hi2, decVM_noEx, decVM_noEx]
  have hS : ∀ {u' v' : AV}, IsI u' → IsI v' → xsOf u' = xsOf u → xsOf v' = xsOf v → EvC env 23 [.agg [.int .i64 n, u', v'], .int .i64 g, .int .i64 m, .bool has] (.tup [.agg [.int .i64 N, s1, s2], .bool c]) := fun h1 h2 h3 h4 => by
    have := sDecideCell_c (n := n) (g := g) (m := m) (has := has) h1 h2
    rw [h3, h4, ← hN, ← hs1, ← hs2, ← hc] at this; exact this
  have hI : ∀ {u' v' : AV}, IsI u' → IsI v' → xsOf u' = xsOf u → xsOf v' = xsOf v → EvC env 24 [.agg [.int .i64 n, u', v'], .int .i64 g, .int .i64 m, .bool has] (.tup [.agg [.int .i64 N, i1, i2], .bool c]) := fun h1 h2 h3 h4 => by
    have := iDecideCell_c (n := n) (g := g) (m := m) (has := has) h1 h2
    rw [h3, h4, ← hN, ← hi1, ← hi2, ← hc] at this; exact this
  clear hN hR1 hR2 hc hk0 hs1 hs2 hi1 hi2 hw1 hw2
  have hSS : ∀ (K : AV → Prop) (tg : Tg K), CW env 23 [.agg [.int .i64 n, .sl 1 .no (ints (xsOf u)), .sl 1 .no (ints (xsOf v))], .int .i64 g, .int .i64 m, .bool has] K tg ↔ K (.tup [.agg [.int .i64 N, s1, s2], .bool c]) := fun K tg => callsTo_iff (hS (isI_no hul) (isI_no hvl) (by simp) (by simp))
  have hII : ∀ (K : AV → Prop) (tg : Tg K), CW env 24 [.agg [.int .i64 n, .sl 1 .no (ints (xsOf u)), .sl 1 .no (ints (xsOf v))], .int .i64 g, .int .i64 m, .bool has] K tg ↔ K (.tup [.agg [.int .i64 N, i1, i2], .bool c]) := fun K tg => callsTo_iff (hI (isI_no hul) (isI_no hvl) (by simp) (by simp))
  have ow1 := isI_one hI1
  have cw1 := isI_cells hI1
  have ow2 := isI_one hI2
  have cw2 := isI_cells hI2
  repeat' (first | (apply br_intro <;> intro hb <;> (have hb2 := hb) <;> (try simp [-Int.not_le, -Int.not_lt, -Nat.not_le, -Nat.not_lt, -Nat.add_left_cancel_iff] at hb2)) | (refine draw_listA (by rfl) (by kernel_rfl) ?_) | (refine draw_listB (by simp [allocsOf, isAlloc]; rfl) (by kernel_rfl) ?_) | simp (maxSteps := 2000000) (disch := first | omega | assumption | simp [*]) [*, -Int.not_le, -Int.not_lt, -Nat.not_le, -Nat.not_lt, -Nat.add_left_cancel_iff, wrap_i64, wrap_u64, Try.f5, isI_cells hu, isI_one hu, isI_low hu, isI_noKey hu, isI_cells hv, isI_one hv, isI_low hv, isI_noKey hv, isI_cells hI1, isI_one hI1, isI_low hI1, isI_noKey hI1, isI_cells hI2, isI_one hI2, isI_low hI2, isI_noKey hI2, farOff])
  have hlu : (xsOf u).length ≤ 1048576 := by grind
  have hlv : (xsOf v).length ≤ 1048576 := by grind
  refine cf_part (by simpa [isI_low hu, isI_low hv] using toPartial_c (m := n) hu hv hlu hlv) (ownR_row ..) (by simp) (ownR_row ..) (by simp) (by decide) rfl ?_
  intro x0 y0 m0 hx0 hy0 hm0
  have o0 := hx0.one
  have c0 := hx0.cells
  have o9 := hy0.one
  have c9 := hy0.cells
  have l0 : ∀ h', h' 35 = m0 35 → low h' x0 = rowB 1 1 (ints (xsOf u)) := fun h' e => (hx0.keep e).lowI
  have l9 : ∀ h', h' 1035 = m0 1035 → low h' y0 = rowB 1 1 (ints (xsOf v)) := fun h' e => (hy0.keep e).lowI
  repeat' (first | (apply br_intro <;> intro hb <;> (have hb2 := hb) <;> (try simp [-Int.not_le, -Int.not_lt, -Nat.not_le, -Nat.not_lt, -Nat.add_left_cancel_iff] at hb2)) | (refine draw_listA (by rfl) (by kernel_rfl) ?_) | (refine draw_listB (by simp [allocsOf, isAlloc]; rfl) (by kernel_rfl) ?_) | simp (maxSteps := 2000000) (disch := first | omega | assumption | simp [*]) [*, -Int.not_le, -Int.not_lt, -Nat.not_le, -Nat.not_lt, -Nat.add_left_cancel_iff, wrap_i64, wrap_u64, isI_cells hu, isI_one hu, isI_low hu, isI_noKey hu, isI_cells hv, isI_one hv, isI_low hv, isI_noKey hv, isI_cells hI1, isI_one hI1, isI_low hI1, isI_noKey hI1, isI_cells hI2, isI_one hI2, isI_low hI2, isI_noKey hI2, farOff])
  refine cf_partb (R := i1) (R2 := i2) (by simpa [l0, l9, hset] using hI (u' := rowB 1 1 (ints (xsOf u))) (v' := rowB 1 1 (ints (xsOf v))) (isI_rowB hul) (isI_rowB hvl) (by simp) (by simp)) hOwn1 (by simp) hOwn2 (by simp) (by decide) rfl ?_
  intro g0 g1 m2 hg0 hg1 hm2
  have og := hg0.one
  have cg := hg0.cells
  have og1 := hg1.one
  have cg1 := hg1.cells
  have lg : ∀ h', h' 41 = m2 41 → low h' g0 = rowB 1 k0 (ints R1) := fun h' e => (hg0.keep e).lowI
  have lg1 : ∀ h', h' 1041 = m2 1041 → low h' g1 = rowB 1 k0 (ints R2) := fun h' e => (hg1.keep e).lowI
  repeat' (first | (apply br_intro <;> intro hb <;> (have hb2 := hb) <;> (try simp [-Int.not_le, -Int.not_lt, -Nat.not_le, -Nat.not_lt, -Nat.add_left_cancel_iff] at hb2)) | (refine draw_listA (by rfl) (by kernel_rfl) ?_) | (refine draw_listB (by simp [allocsOf, isAlloc]; rfl) (by kernel_rfl) ?_) | simp (maxSteps := 2000000) (disch := first | omega | assumption | simp [*]) [*, -Int.not_le, -Int.not_lt, -Nat.not_le, -Nat.not_lt, -Nat.add_left_cancel_iff, wrap_i64, wrap_u64, isI_cells hu, isI_one hu, isI_low hu, isI_noKey hu, isI_cells hv, isI_one hv, isI_low hv, isI_noKey hv, isI_cells hI1, isI_one hI1, isI_low hI1, isI_noKey hI1, isI_cells hI2, isI_one hI2, isI_low hI2, isI_noKey hI2, farOff])
  refine cf_open rfl rfl (markPartial_o (xs := xsOf u) (ys := xsOf v) (key := 35) (key2 := 1035) (hx0.keep (by simp [hset, hm2])) (hy0.keep (by simp [hset, hm2])) (by decide) (by simp [farOff]) (by simp [farOff]) (by decide) (by omega) fun m3 hx0' hy0' hm3' => ?_)
  have hm3 := fun x (a : x < 100000) b c => hm3' x b c (by simp [farOff]; omega)
  clear hm3'
  have hk0 : ¬ (1 + ((xsOf u).length : Int) + ((xsOf v).length : Int) < 0) := by omega
  repeat' (first | (apply br_intro <;> intro hb <;> (have hb2 := hb) <;> (try simp [-Int.not_le, -Int.not_lt, -Nat.not_le, -Nat.not_lt, -Nat.add_left_cancel_iff] at hb2)) | (refine draw_listA (by rfl) (by kernel_rfl) ?_) | (refine draw_listB (by simp [allocsOf, isAlloc]; rfl) (by kernel_rfl) ?_) | simp (maxSteps := 2000000) (disch := first | omega | assumption | simp [*]) [*, -Int.not_le, -Int.not_lt, -Nat.not_le, -Nat.not_lt, -Nat.add_left_cancel_iff, wrap_i64, wrap_u64, isI_cells hu, isI_one hu, isI_low hu, isI_noKey hu, isI_cells hv, isI_one hv, isI_low hv, isI_noKey hv, isI_cells hI1, isI_one hI1, isI_low hI1, isI_noKey hI1, isI_cells hI2, isI_one hI2, isI_low hI2, isI_noKey hI2, farOff])
  refine cf_open rfl rfl (markPartial_o (xs := R1) (ys := R2) (key := 41) (key2 := 1041) (hg0.keep (by simp [hset, hm3])) (hg1.keep (by simp [hset, hm3])) (by decide) (by simp [farOff]) (by simp [farOff]) (by omega) (by omega) fun m5 hg0' hg1' hm5' => ?_)
  have hm5 := fun x (a : x < 100000) b c => hm5' x b c (by simp [farOff]; omega)
  clear hm5' lg lg1
  have hIu : IsI (rowB 1 k0 (ints (upTo 1 R1.length))) := isI_rowB (by simpa using hR1t)
  have hIv : IsI (rowB 1 k0 (ints (upTo (1 + R1.length) R2.length))) := isI_rowB (by simpa using hR2t)
  have hIl : 1 + (R1.length : Int) + (R2.length : Int) ≤ 4611686018427387904 := by omega
  have hIp : ¬ (1 + (R1.length : Int) + (R2.length : Int) < 0) := by omega
  have lg2 : ∀ h', h' 41 = m5 41 → low h' g0 = rowB 1 k0 (ints (upTo 1 R1.length)) := fun h' e => (hg0'.keep e).lowI
  have lg3 : ∀ h', h' 1041 = m5 1041 → low h' g1 = rowB 1 k0 (ints (upTo (1 + R1.length) R2.length)) := fun h' e => (hg1'.keep e).lowI
  repeat' (first | (apply br_intro <;> intro hb <;> (have hb2 := hb) <;> (try simp [-Int.not_le, -Int.not_lt, -Nat.not_le, -Nat.not_lt, -Nat.add_left_cancel_iff] at hb2)) | (refine draw_listA (by rfl) (by kernel_rfl) ?_) | (refine draw_listB (by simp [allocsOf, isAlloc]; rfl) (by kernel_rfl) ?_) | simp (maxSteps := 2000000) (disch := first | omega | assumption | simp [*]) [*, -Int.not_le, -Int.not_lt, -Nat.not_le, -Nat.not_lt, -Nat.add_left_cancel_iff, wrap_i64, wrap_u64, isI_cells hu, isI_one hu, isI_low hu, isI_noKey hu, isI_cells hv, isI_one hv, isI_low hv, isI_noKey hv, isI_cells hI1, isI_one hI1, isI_low hI1, isI_noKey hI1, isI_cells hI2, isI_one hI2, isI_low hI2, isI_noKey hI2, farOff])
theorem lawDecideCell_s {n g m : Int} {has : Bool} {u v : AV} (hu : IsI u) (hv : IsI v) {K : AV → Prop} {tg : Tg K} : CW env 5 [.agg [.int .i64 n, u, v], .int .i64 g, .int .i64 m, .bool has] K tg ↔ K (.bool true) := callsTo_iff (lawDecideCell_c hu hv)
attribute [simp] lawDecideCell_s
end Go.Proofs.Ytemhhpjenffalaa
