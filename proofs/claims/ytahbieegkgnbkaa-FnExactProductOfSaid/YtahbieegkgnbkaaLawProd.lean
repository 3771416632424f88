/- The law of ProductOf. Conditions: none. -/
import Derived.Test.YtahbieegkgnbkaaProd
import Derived.Test.YtahbieegkgnbkaaCtx
namespace Go.Proofs.Ytahbieegkgnbkaa
open Ev
set_option linter.unusedVariables false
set_option linter.unusedSimpArgs false
set_option maxHeartbeats 4000000

theorem prodV_noEx {T key : Nat} {n m : Int} {F S : List Int} : noEx (prodV T key n m F S) = if ProdC n m F S then .sl 1 .no (ints (tab (prodRow F S m.toNat F.length) n.toNat)) else .sl 0 .lit [] := by
  unfold prodV; split <;> simp
theorem lawProductOf_c {n m : Int} {v : AV} (hv : IsP v) : EvC env 7 [.int .i64 n, .int .i64 m, v] (.bool true) := by
  refine evC_of (F := Try.f7) rfl rfl (Nat.le_of_ble_eq_true rfl) ?_
  have hvl := hv.len
  have hlens := hv.lens
  obtain ⟨N, hN⟩ : ∃ N, N = (if ProdC n m (fsts v) (snds v) then m else 0) := ⟨_, rfl⟩
  obtain ⟨R, hR⟩ : ∃ R, R = (if ProdC n m (fsts v) (snds v) then tab (prodRow (fsts v) (snds v) m.toNat (fsts v).length) n.toNat else []) := ⟨_, rfl⟩
  obtain ⟨c, hc⟩ : ∃ c, c = decide (ProdC n m (fsts v) (snds v)) := ⟨_, rfl⟩
  obtain ⟨k0, hk0⟩ : ∃ k0, k0 = (if ProdC n m (fsts v) (snds v) then 1 else 0) := ⟨_, rfl⟩
  obtain ⟨sv, hsv⟩ : ∃ sv, sv = prodV 3 22 n m (fsts v) (snds v) := ⟨_, rfl⟩
  obtain ⟨iv, hiv⟩ : ∃ iv, iv = prodV 3 24 n m (fsts v) (snds v) := ⟨_, rfl⟩
  have hRl : R.length ≤ 8 := by rw [hR]; split <;> simp; rename_i h; have := h.1; omega
  have hRt : R.length ≤ top63 := by unfold top63; omega
  obtain ⟨w, hwe⟩ : ∃ w, w = noEx sv := ⟨_, rfl⟩
  have hwi : noEx iv = w := by rw [hiv, hwe, hsv, prodV_noEx, prodV_noEx]
  have hw : IsI w ∧ xsOf w = R := by
    rw [hwe, hsv, prodV_noEx, hR]
    split
    · rename_i h; exact ⟨isI_no (by rw [hR, if_pos h] at hRt; exact hRt), by simp⟩
    · exact ⟨isI_lit, rfl⟩
  obtain ⟨hw, hwx⟩ := hw
  have hOwn : OwnR iv 1 k0 3 24 (ints R) := by
    rw [hiv, hk0, hR]
    unfold prodV
    split
    · exact ownR_row ..
    · exact ownR_nil ..
  have hwn : noEx sv = w := hwe.symm
  have hS : ∀ {v' : AV}, IsP v' → fsts v' = fsts v → snds v' = snds v → EvC env 37 [.int .i64 n, .int .i64 m, v'] (.tup [.agg [.int .i64 N, sv], .bool c]) := fun h1 h2 h3 => by
    have := sProductOf_c (n := n) (m := m) h1
    rw [h2, h3, ← hN, ← hsv, ← hc] at this; exact this
  have hI : ∀ {v' : AV}, IsP v' → fsts v' = fsts v → snds v' = snds v → EvC env 39 [.int .i64 n, .int .i64 m, v'] (.tup [.agg [.int .i64 N, iv], .bool c]) := fun h1 h2 h3 => by
    have := iProductOf_c (n := n) (m := m) h1
    rw [h2, h3, ← hN, ← hiv, ← hc] at this; exact this
  clear hN hR hc hk0 hsv hiv hwe
  have hP : IsP (.sl 2 .no (prs (fsts v) (snds v))) := isP_mk (.inr rfl) rfl hvl
  have hPf : fsts (.sl 2 .no (prs (fsts v) (snds v))) = fsts v := fsts_prs ..
  have hPs : snds (.sl 2 .no (prs (fsts v) (snds v))) = snds v := snds_prs _ _ hlens
  have hB : IsP (rowB 2 2 (prs (fsts v) (snds v))) := isP_rowB hvl
  have hBf : fsts (rowB 2 2 (prs (fsts v) (snds v))) = fsts v := fsts_rowB
  have hBs : snds (rowB 2 2 (prs (fsts v) (snds v))) = snds v := snds_rowB hlens
  have hS1 : ∀ (K : AV → Prop) (tg : Tg K), CW env 37 [.int .i64 n, .int .i64 m, .sl 2 .no (prs (fsts v) (snds v))] K tg ↔ K (.tup [.agg [.int .i64 N, sv], .bool c]) := fun K tg => callsTo_iff (hS hP hPf hPs)
  have hI1 : ∀ (K : AV → Prop) (tg : Tg K), CW env 39 [.int .i64 n, .int .i64 m, .sl 2 .no (prs (fsts v) (snds v))] K tg ↔ K (.tup [.agg [.int .i64 N, iv], .bool c]) := fun K tg => callsTo_iff (hI hP hPf hPs)
  have ow := isI_one hw
  have cw := isI_cells hw
  repeat' (first | (apply br_intro <;> intro hb <;> (have hb2 := hb) <;> (try simp [-Int.not_le, -Int.not_lt, -Nat.not_le, -Nat.not_lt, -Nat.add_left_cancel_iff] at hb2)) | (refine draw_listA (by rfl) (by kernel_rfl) ?_) | (refine draw_listB (by simp [allocsOf, isAlloc]; rfl) (by kernel_rfl) ?_) | simp (maxSteps := 2000000) (disch := first | omega | assumption | simp [*]) [*, -Int.not_le, -Int.not_lt, -Nat.not_le, -Nat.not_lt, -Nat.add_left_cancel_iff, wrap_i64, wrap_u64, Try.f7, isP_cells hv, isP_one hv, isP_low hv, isP_noKey hv, isI_cells hw, isI_one hw, isI_low hw, isI_noKey hw, farOff])
  have hlv : (fsts v).length ≤ 1048576 := by grind
  refine cf_row (by simpa [isP_low hv] using toConceptS_c hv hlv) (ownR_row ..) (by simp) rfl ?_
  intro x0 m0 hx0 hm0
  have o0 := hx0.one
  have c0 := hx0.cells
  have l0 : ∀ h', h' 32 = m0 32 → low h' x0 = rowB 2 2 (prs (fsts v) (snds v)) := fun h' e => (hx0.keep e).lowP
  repeat' (first | (apply br_intro <;> intro hb <;> (have hb2 := hb) <;> (try simp [-Int.not_le, -Int.not_lt, -Nat.not_le, -Nat.not_lt, -Nat.add_left_cancel_iff] at hb2)) | (refine draw_listA (by rfl) (by kernel_rfl) ?_) | (refine draw_listB (by simp [allocsOf, isAlloc]; rfl) (by kernel_rfl) ?_) | simp (maxSteps := 2000000) (disch := first | omega | assumption | simp [*]) [*, -Int.not_le, -Int.not_lt, -Nat.not_le, -Nat.not_lt, -Nat.add_left_cancel_iff, wrap_i64, wrap_u64, isP_cells hv, isP_one hv, isP_low hv, isP_noKey hv, isI_cells hw, isI_one hw, isI_low hw, isI_noKey hw, farOff])
  refine cf_ctxb (R := iv) (by simpa [l0, hset] using hI hB hBf hBs) hOwn (by simp) rfl ?_
  intro g0 m2 hg0 hm2
  have og := hg0.one
  have cg := hg0.cells
  have lg : ∀ h', h' 37 = m2 37 → low h' g0 = rowB 1 k0 (ints R) := fun h' e => (hg0.keep e).lowI
  repeat' (first | (apply br_intro <;> intro hb <;> (have hb2 := hb) <;> (try simp [-Int.not_le, -Int.not_lt, -Nat.not_le, -Nat.not_lt, -Nat.add_left_cancel_iff] at hb2)) | (refine draw_listA (by rfl) (by kernel_rfl) ?_) | (refine draw_listB (by simp [allocsOf, isAlloc]; rfl) (by kernel_rfl) ?_) | simp (maxSteps := 2000000) (disch := first | omega | assumption | simp [*]) [*, -Int.not_le, -Int.not_lt, -Nat.not_le, -Nat.not_lt, -Nat.add_left_cancel_iff, wrap_i64, wrap_u64, isP_cells hv, isP_one hv, isP_low hv, isP_noKey hv, isI_cells hw, isI_one hw, isI_low hw, isI_noKey hw, farOff])
  refine cf_open rfl rfl (markConceptS_o (xs := fsts v) (key := 32) (hx0.keep (by simp [hset, hm2])) hlens (by decide) (by omega) fun m3 hm3 => ?_)
  have hk0' : ¬ (1 + 2 * ((fsts v).length : Int) < 0) := by omega
  repeat' (first | (apply br_intro <;> intro hb <;> (have hb2 := hb) <;> (try simp [-Int.not_le, -Int.not_lt, -Nat.not_le, -Nat.not_lt, -Nat.add_left_cancel_iff] at hb2)) | (refine draw_listA (by rfl) (by kernel_rfl) ?_) | (refine draw_listB (by simp [allocsOf, isAlloc]; rfl) (by kernel_rfl) ?_) | simp (maxSteps := 2000000) (disch := first | omega | assumption | simp [*]) [*, -Int.not_le, -Int.not_lt, -Nat.not_le, -Nat.not_lt, -Nat.add_left_cancel_iff, wrap_i64, wrap_u64, isP_cells hv, isP_one hv, isP_low hv, isP_noKey hv, isI_cells hw, isI_one hw, isI_low hw, isI_noKey hw, farOff])
  refine cf_open rfl rfl (markContext_o (xs := R) (key := 37) (hg0.keep (by simp [hset, hm3])) (by simp [farOff]) (by omega) (by omega) fun m5 hg0' hm5' => ?_)
  have hm5 := fun x (a : x < 100000) b => hm5' x b (by simp [farOff]; omega)
  clear hm5' lg
  have hIu : IsI (rowB 1 k0 (ints (upTo 1 R.length))) := isI_rowB (by simpa using hRt)
  have hIl : 1 + (R.length : Int) ≤ 4611686018427387904 := by omega
  have hIp : ¬ (1 + (R.length : Int) < 0) := by omega
  have lg2 : ∀ h', h' 37 = m5 37 → low h' g0 = rowB 1 k0 (ints (upTo 1 R.length)) := fun h' e => (hg0'.keep e).lowI
  repeat' (first | (apply br_intro <;> intro hb <;> (have hb2 := hb) <;> (try simp [-Int.not_le, -Int.not_lt, -Nat.not_le, -Nat.not_lt, -Nat.add_left_cancel_iff] at hb2)) | (refine draw_listA (by rfl) (by kernel_rfl) ?_) | (refine draw_listB (by simp [allocsOf, isAlloc]; rfl) (by kernel_rfl) ?_) | simp (maxSteps := 2000000) (disch := first | omega | assumption | simp [*]) [*, -Int.not_le, -Int.not_lt, -Nat.not_le, -Nat.not_lt, -Nat.add_left_cancel_iff, wrap_i64, wrap_u64, isP_cells hv, isP_one hv, isP_low hv, isP_noKey hv, isI_cells hw, isI_one hw, isI_low hw, isI_noKey hw, farOff])
theorem lawProductOf_s {n m : Int} {v : AV} (hv : IsP v) {K : AV → Prop} {tg : Tg K} : CW env 7 [.int .i64 n, .int .i64 m, v] K tg ↔ K (.bool true) := callsTo_iff (lawProductOf_c hv)
attribute [simp] lawProductOf_s
end Go.Proofs.Ytahbieegkgnbkaa
