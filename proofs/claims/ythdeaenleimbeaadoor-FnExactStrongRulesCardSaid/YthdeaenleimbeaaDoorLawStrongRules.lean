/- The law of StrongRules. Conditions: none. -/
import Derived.Test.YthdeaenleimbeaaDoorStrong
namespace Go.Proofs.YthdeaenleimbeaaDoor
open Ev
set_option linter.unusedVariables false
set_option linter.unusedSimpArgs false
set_option maxHeartbeats 4000000

theorem isP_bufLP {k0 : Nat} {xs ys : List Int} (hl : xs.length ≤ top63) : IsP (bufLC k0 2 (prs xs ys)) := by
  unfold bufLC; split
  · exact isP_mk (xs := []) (ys := []) (.inl rfl) rfl (Nat.zero_le _)
  · exact isP_mk (.inr rfl) rfl hl
theorem fsts_bufLP {k0 : Nat} {xs ys : List Int} : fsts (bufLC k0 2 (prs xs ys)) = xs := by
  unfold bufLC; split
  · rename_i h
    have : xs.length = 0 := by have := congrArg List.length h; simpa using this
    rw [List.eq_nil_of_length_eq_zero this]; rfl
  · simp
theorem snds_bufLP {k0 : Nat} {xs ys : List Int} (h : ys.length = xs.length) : snds (bufLC k0 2 (prs xs ys)) = ys := by
  unfold bufLC; split
  · rename_i h2
    have h3 : xs.length = 0 := by have := congrArg List.length h2; simpa using this
    rw [List.eq_nil_of_length_eq_zero (h.trans h3)]; rfl
  · exact snds_prs _ _ h
theorem lawStrongRules_c {n num den : Int} {v : AV} (hv : IsI v) : EvC env 8 [.agg [.int .i64 n, v], .int .i64 num, .int .i64 den] (.bool true) := by
  refine evC_of (F := Tryd.f8) rfl rfl (Nat.le_of_ble_eq_true rfl) ?_
  have hvl := hv.len
  obtain ⟨xs, ys, hR, hyl, hRl⟩ : ∃ xs ys, strL n (xsOf v) num den = prs xs ys ∧ ys.length = xs.length ∧ xs.length ≤ 4096 :=
    ⟨_, _, prs_of (strL_pr n (xsOf v) num den), by simp, by simpa using strL_len n (xsOf v) num den⟩
  have hRt : xs.length ≤ top63 := by unfold top63; omega
  obtain ⟨k0, hk0⟩ : ∃ k0, k0 = strK num den := ⟨_, rfl⟩
  obtain ⟨iv, hiv⟩ : ∃ iv, iv = bufLR 77 77 k0 2 (prs xs ys) := ⟨_, rfl⟩
  obtain ⟨sv, hsv⟩ : ∃ sv, sv = bufLR 77 86 2 2 (prs xs ys) := ⟨_, rfl⟩
  have hOwn : OwnR iv 2 k0 77 77 (prs xs ys) := by rw [hiv]; exact ownR_bufL ..
  obtain ⟨w, hwn⟩ : ∃ w, noEx sv = w := ⟨_, rfl⟩
  obtain ⟨u, hun⟩ : ∃ u, noEx iv = u := ⟨_, rfl⟩
  have hw : IsP w ∧ fsts w = xs ∧ snds w = ys := by
    rw [← hwn, hsv, bufLR_noEx]; exact ⟨isP_bufLP hRt, fsts_bufLP, snds_bufLP hyl⟩
  have hu : IsP u ∧ fsts u = xs ∧ snds u = ys := by
    rw [← hun, hiv, bufLR_noEx]; exact ⟨isP_bufLP hRt, fsts_bufLP, snds_bufLP hyl⟩
  obtain ⟨hw, hwf, hws⟩ := hw
  obtain ⟨hu, huf, hus⟩ := hu
  have ow := isP_one hw
  have cw := isP_cells hw
  have ou := isP_one hu
  have cu := isP_cells hu
  have hS : ∀ {v' : AV}, IsI v' → xsOf v' = xsOf v → EvC env 33 [.agg [.int .i64 n, v'], .int .i64 num, .int .i64 den] sv := fun h1 h2 => by
    have := sStrongRules_c (n := n) (num := num) (den := den) h1
    rw [h2, hR, ← hsv] at this; exact this
  have hI : ∀ {v' : AV}, IsI v' → xsOf v' = xsOf v → EvC env 34 [.agg [.int .i64 n, v'], .int .i64 num, .int .i64 den] iv := fun h1 h2 => by
    have := iStrongRules_c (n := n) (num := num) (den := den) h1
    rw [h2, hR, ← hk0, ← hiv] at this; exact this
  clear hR hk0 hiv hsv
  have hS1 : ∀ (K : AV → Prop) (tg : Tg K), CW env 33 [.agg [.int .i64 n, .sl 1 .no (ints (xsOf v))], .int .i64 num, .int .i64 den] K tg ↔ K sv := fun K tg => callsTo_iff (hS (isI_no hvl) (by simp))
  have hI1 : ∀ (K : AV → Prop) (tg : Tg K), CW env 34 [.agg [.int .i64 n, .sl 1 .no (ints (xsOf v))], .int .i64 num, .int .i64 den] K tg ↔ K iv := fun K tg => callsTo_iff (hI (isI_no hvl) (by simp))
  repeat' (first | (apply br_intro <;> intro hb <;> (have hb2 := hb) <;> (try simp [-Int.not_le, -Int.not_lt, -Nat.not_le, -Nat.not_lt, -Nat.add_left_cancel_iff] at hb2)) | (refine draw_listA (by rfl) (by kernel_rfl) ?_) | (refine draw_listB (by simp [allocsOf, isAlloc]; rfl) (by kernel_rfl) ?_) | simp (maxSteps := 2000000) (disch := first | omega | assumption | simp [*]) [*, -Int.not_le, -Int.not_lt, -Nat.not_le, -Nat.not_lt, -Nat.add_left_cancel_iff, wrap_i64, wrap_u64, Tryd.f8, isI_cells hv, isI_one hv, isI_low hv, isI_noKey hv, farOff, isP_cells hw, isP_one hw, isP_low hw, isP_noKey hw, isP_low hu])
  have hlv : (xsOf v).length ≤ 1048576 := by grind
  refine cf_ctx (by simpa [isI_low hv] using toContext_c (m := n) hv hlv) (ownR_row ..) (by simp) rfl ?_
  intro x0 m0 hx0 hm0
  have o0 := hx0.one
  have c0 := hx0.cells
  have l0 : ∀ h', h' 26 = m0 26 → low h' x0 = rowB 1 1 (ints (xsOf v)) := fun h' e => (hx0.keep e).lowI
  repeat' (first | (apply br_intro <;> intro hb <;> (have hb2 := hb) <;> (try simp [-Int.not_le, -Int.not_lt, -Nat.not_le, -Nat.not_lt, -Nat.add_left_cancel_iff] at hb2)) | (refine draw_listA (by rfl) (by kernel_rfl) ?_) | (refine draw_listB (by simp [allocsOf, isAlloc]; rfl) (by kernel_rfl) ?_) | simp (maxSteps := 2000000) (disch := first | omega | assumption | simp [*]) [*, -Int.not_le, -Int.not_lt, -Nat.not_le, -Nat.not_lt, -Nat.add_left_cancel_iff, wrap_i64, wrap_u64, isI_cells hv, isI_one hv, isI_low hv, isI_noKey hv, farOff, isP_cells hw, isP_one hw, isP_low hw, isP_noKey hw, isP_low hu])
  refine cf_row (R := iv) (by simpa [l0, hset] using hI (v' := rowB 1 1 (ints (xsOf v))) (isI_rowB hvl) (by simp)) hOwn (by simp) rfl ?_
  intro g0 m2 hg0 hm2
  have og := hg0.one
  have cg := hg0.cells
  have hP0 : IsP (rowB 2 k0 (prs xs ys)) := isP_rowB hRt
  have hf0 : fsts (rowB 2 k0 (prs xs ys)) = xs := fsts_rowB
  have hs0 : snds (rowB 2 k0 (prs xs ys)) = ys := snds_rowB hyl
  have lg : ∀ h', h' 30 = m2 30 → low h' g0 = rowB 2 k0 (prs xs ys) := fun h' e => (hg0.keep e).lowP
  repeat' (first | (apply br_intro <;> intro hb <;> (have hb2 := hb) <;> (try simp [-Int.not_le, -Int.not_lt, -Nat.not_le, -Nat.not_lt, -Nat.add_left_cancel_iff] at hb2)) | (refine draw_listA (by rfl) (by kernel_rfl) ?_) | (refine draw_listB (by simp [allocsOf, isAlloc]; rfl) (by kernel_rfl) ?_) | simp (maxSteps := 2000000) (disch := first | omega | assumption | simp [*]) [*, -Int.not_le, -Int.not_lt, -Nat.not_le, -Nat.not_lt, -Nat.add_left_cancel_iff, wrap_i64, wrap_u64, isI_cells hv, isI_one hv, isI_low hv, isI_noKey hv, farOff, isP_cells hw, isP_one hw, isP_low hw, isP_noKey hw, isP_low hu])
  refine cf_open rfl rfl (markContext_o (xs := xsOf v) (key := 26) (hx0.keep (by simp [hset, hm2])) (by simp [farOff]) (by decide) (by omega) fun m3 hx0' hm3' => ?_)
  have hm3 := fun x (a : x < 100000) b => hm3' x b (by simp [farOff]; omega)
  clear hm3'
  have hk0 : ¬ (1 + ((xsOf v).length : Int) < 0) := by omega
  repeat' (first | (apply br_intro <;> intro hb <;> (have hb2 := hb) <;> (try simp [-Int.not_le, -Int.not_lt, -Nat.not_le, -Nat.not_lt, -Nat.add_left_cancel_iff] at hb2)) | (refine draw_listA (by rfl) (by kernel_rfl) ?_) | (refine draw_listB (by simp [allocsOf, isAlloc]; rfl) (by kernel_rfl) ?_) | simp (maxSteps := 2000000) (disch := first | omega | assumption | simp [*]) [*, -Int.not_le, -Int.not_lt, -Nat.not_le, -Nat.not_lt, -Nat.add_left_cancel_iff, wrap_i64, wrap_u64, isI_cells hv, isI_one hv, isI_low hv, isI_noKey hv, farOff, isP_cells hw, isP_one hw, isP_low hw, isP_noKey hw, isP_low hu])
  refine cf_open rfl rfl (markRuleS_o (xs := xs) (ys := ys) (key := 30) (hg0.keep (by simp [hset, hm3])) hyl (by omega) (by omega) fun m5 hg0' hm5 => ?_)
  clear lg
  have hP1 : IsP (rowB 2 k0 (prs (mk2a 1 xs.length) (mk2b 1 xs.length))) := isP_rowB (by rw [mk2a_len]; exact hRt)
  have hf1 : fsts (rowB 2 k0 (prs (mk2a 1 xs.length) (mk2b 1 xs.length))) = mk2a 1 xs.length := fsts_rowB
  have hs1 : snds (rowB 2 k0 (prs (mk2a 1 xs.length) (mk2b 1 xs.length))) = mk2b 1 xs.length := snds_rowB (by rw [mk2a_len, mk2b_len])
  have hl1 : (mk2a 1 xs.length).length = xs.length := mk2a_len ..
  have hIl : 1 + 2 * (xs.length : Int) ≤ 4611686018427387904 := by omega
  have hIp : ¬ (1 + 2 * (xs.length : Int) < 0) := by omega
  have lg2 : ∀ h', h' 30 = m5 30 → low h' g0 = rowB 2 k0 (prs (mk2a 1 xs.length) (mk2b 1 xs.length)) := fun h' e => (hg0'.keep e).lowP
  repeat' (first | (apply br_intro <;> intro hb <;> (have hb2 := hb) <;> (try simp [-Int.not_le, -Int.not_lt, -Nat.not_le, -Nat.not_lt, -Nat.add_left_cancel_iff] at hb2)) | (refine draw_listA (by rfl) (by kernel_rfl) ?_) | (refine draw_listB (by simp [allocsOf, isAlloc]; rfl) (by kernel_rfl) ?_) | simp (maxSteps := 2000000) (disch := first | omega | assumption | simp [*]) [*, -Int.not_le, -Int.not_lt, -Nat.not_le, -Nat.not_lt, -Nat.add_left_cancel_iff, wrap_i64, wrap_u64, isI_cells hv, isI_one hv, isI_low hv, isI_noKey hv, farOff, isP_cells hw, isP_one hw, isP_low hw, isP_noKey hw, isP_low hu])
theorem lawStrongRules_s {n num den : Int} {v : AV} (hv : IsI v) {K : AV → Prop} {tg : Tg K} : CW env 8 [.agg [.int .i64 n, v], .int .i64 num, .int .i64 den] K tg ↔ K (.bool true) := callsTo_iff (lawStrongRules_c hv)
attribute [simp] lawStrongRules_s
end Go.Proofs.YthdeaenleimbeaaDoor
