/- Greedy factors: both sides. Conditions: none. -/
import Derived.Test.YtkkkgaapkibhkaaDoorGrdP
import Derived.Test.YtkkkgaapkibhkaaDoorStrong
namespace Go.Proofs.YtkkkgaapkibhkaaDoor
open Ev
set_option linter.unusedVariables false
set_option linter.unusedSimpArgs false
set_option maxHeartbeats 4000000

theorem S_64 {n : Int} {xs : List Int} {k : Nat} (h : k < (conL n xs).length) : 0 ≤ nth (snds (conW n xs)) k ∧ nth (snds (conW n xs)) k < 64 := by
  obtain ⟨hc, h1, _⟩ := closed_get h
  rw [nthS h]
  have : (2 : Nat) ^ n.toNat ≤ 2 ^ 6 := Nat.pow_le_pow_right (by decide) (by have := hc.2.1; omega)
  omega
theorem F_rows {n : Int} {xs : List Int} {k : Nat} (h : k < (conL n xs).length) : PSet xs.length (nth (fsts (conW n xs)) k) = true := by
  rw [nthF h]; exact ext_pset _ _ (closed_get h).1.2.2.1
theorem rows_64 {n : Int} {xs : List Int} (hc : PCtx n xs) : In64 (fun g => nth xs g) := fun g => by
  by_cases hg : g < xs.length
  · have h := hc.2.2.2 g hg
    obtain ⟨h1, h2, h3, h4⟩ := pset_iff.mp h
    have : (2 : Int) ^ n.toNat ≤ 2 ^ 6 := two_pow_le (by have := hc.2.1; omega)
    show 0 ≤ nth xs g ∧ nth xs g < 64
    omega
  · show 0 ≤ nth xs g ∧ nth xs g < 64
    unfold nth
    simp [hg]
def GSt (F S : List Int) (G len : Nat) (f0 : Nat → Int) (TC TI kr kb i : Nat) (s3 s5 : AV) (h : Heap) : Prop := ∃ es f, GInv F S G len f0 i es f ∧ BufL h TC kb 2 2 s3 es ∧ Row h kr TI 1 1 s5 (ints (tab f G))
theorem cloneI_c {v : AV} (hv : IsI v) (hne : xsOf v ≠ []) (hl : (xsOf v).length ≤ 1048576) : EvC env 121 [v] (bufR 3 7 1 (xsOf v)) := by
  refine evC_of (F := Tryd.f121) rfl rfl (Nat.le_of_ble_eq_true rfl) ?_
  repeat' (first | (apply br_intro <;> intro hb <;> (have hb2 := hb) <;> (try simp [-Int.not_le, -Int.not_lt, -Nat.not_le, -Nat.not_lt, -Nat.add_left_cancel_iff] at hb2)) | (refine draw_listA (by rfl) (by kernel_rfl) ?_) | (refine draw_listB (by simp [allocsOf, isAlloc]; rfl) (by kernel_rfl) ?_) | simp (maxSteps := 2000000) (disch := first | omega | assumption | simp [*]) [*, -Int.not_le, -Int.not_lt, -Nat.not_le, -Nat.not_lt, -Nat.add_left_cancel_iff, wrap_i64, wrap_u64, Tryd.f121, isI_len hv, nilC_I hv])
  obtain ⟨k, o, es, rfl, hk, hos⟩ := hv.l.ok
  have hes : es = ints (xsOf (.sl k o es)) := by have := hv.ints; simpa using this
  have hne2 : es ≠ [] := by intro e; subst e; exact hne (by simp [xsOf])
  refine wa_ints (buf_nil ..) (by simp) (by simp) hes hne (hk.resolve_left hne2) (by rw [List.length_nil]; omega) ?_
  clear hes hne2
  intro v2 h2 hB hk2
  repeat' (first | (apply br_intro <;> intro hb <;> (have hb2 := hb) <;> (try simp [-Int.not_le, -Int.not_lt, -Nat.not_le, -Nat.not_lt, -Nat.add_left_cancel_iff] at hb2)) | (refine draw_listA (by rfl) (by kernel_rfl) ?_) | (refine draw_listB (by simp [allocsOf, isAlloc]; rfl) (by kernel_rfl) ?_) | simp (maxSteps := 2000000) (disch := first | omega | assumption | simp [*]) [*, -Int.not_le, -Int.not_lt, -Nat.not_le, -Nat.not_lt, -Nat.add_left_cancel_iff, wrap_i64, wrap_u64])
  exact hB.expo
theorem cloneI_s {v : AV} (hv : IsI v) (hne : xsOf v ≠ []) (hl : (xsOf v).length ≤ 1048576) {K : AV → Prop} {tg : Tg K} : CW env 121 [v] K tg ↔ K (bufR 3 7 1 (xsOf v)) := callsTo_iff (cloneI_c hv hne hl)
attribute [simp] cloneI_s
/-- the best of the first k, as the program keeps it -/
def mxI (F S : List Int) (G : Nat) (f : Nat → Int) (k : Nat) : Int := if k = 0 then 0 else gn F S G f (bst F S G f k)
def bxI (F S : List Int) (G : Nat) (f : Nat → Int) (k : Nat) : Int := if mxI F S G f k = 0 then 0 else nth F (bst F S G f k)
def byI (F S : List Int) (G : Nat) (f : Nat → Int) (k : Nat) : Int := if mxI F S G f k = 0 then 0 else nth S (bst F S G f k)
theorem mx_take {F S : List Int} {G : Nat} {f : Nat → Int} {k : Nat} (h : mxI F S G f k < gn F S G f k) : mxI F S G f (k + 1) = gn F S G f k ∧ bxI F S G f (k + 1) = nth F k ∧ byI F S G f (k + 1) = nth S k := by
  have h0 : 0 ≤ mxI F S G f k := by
    unfold mxI; split
    · omega
    · exact (gTo_range ..).1
  have hb : bst F S G f (k + 1) = k := by
    by_cases e : k = 0
    · subst e; exact bst_one ..
    · unfold mxI at h
      rw [if_neg e] at h
      unfold bst
      rw [if_pos h]
  have hm : mxI F S G f (k + 1) = gn F S G f k := by unfold mxI; rw [if_neg (by omega), hb]
  have hne : ¬ gn F S G f k = 0 := by omega
  exact ⟨hm, by unfold bxI; rw [hm, if_neg hne, hb], by unfold byI; rw [hm, if_neg hne, hb]⟩
theorem mx_skip {F S : List Int} {G : Nat} {f : Nat → Int} {k : Nat} (h : ¬ mxI F S G f k < gn F S G f k) : mxI F S G f (k + 1) = mxI F S G f k ∧ bxI F S G f (k + 1) = bxI F S G f k ∧ byI F S G f (k + 1) = byI F S G f k := by
  by_cases e : k = 0
  · subst e
    have h1 : mxI F S G f 0 = 0 := by simp [mxI]
    have h2 : 0 ≤ gn F S G f 0 := (gTo_range ..).1
    have h3 : gn F S G f 0 = 0 := by omega
    have h4 : mxI F S G f 1 = 0 := by unfold mxI; rw [if_neg (by omega), bst_one]; exact h3
    refine ⟨by rw [h4, h1], by unfold bxI; rw [h4, h1]; simp, by unfold byI; rw [h4, h1]; simp⟩
  · have hb : bst F S G f (k + 1) = bst F S G f k := by
      unfold mxI at h
      rw [if_neg e] at h
      rw [bst, if_neg h]
    have hm : mxI F S G f (k + 1) = mxI F S G f k := by unfold mxI; rw [if_neg (by omega), if_neg e, hb]
    exact ⟨hm, by unfold bxI; rw [hm, hb], by unfold byI; rw [hm, hb]⟩
theorem mx_end {F S : List Int} {G : Nat} {f : Nat → Int} {k : Nat} (h : 0 < k) : mxI F S G f k = gn F S G f (bst F S G f k) := by unfold mxI; rw [if_neg (by omega)]
noncomputable def grdK (n : Int) (xs : List Int) : Nat := if decide (PCtx n xs) = true then 2 else 0
theorem dif_idem : ∀ x s : Fin 64, diff (diff x.val s.val) s.val = diff x.val s.val := by decide +kernel
theorem dif_idem2 {x s : Int} (hx : 0 ≤ x ∧ x < 64) (hs : 0 ≤ s ∧ s < 64) : diI (diI x s) s = diI x s := by
  have := dif_idem ⟨x.toNat, by omega⟩ ⟨s.toNat, by omega⟩
  unfold diI
  rw [Int.toNat_natCast]
  simp only at this
  rw [this]
theorem cutE_range {f : Nat → Int} {s : Int} (hf : In64 f) (hs : 0 ≤ s ∧ s < 64) (es : List Int) (j m : Nat) : 0 ≤ cutE f s es j m ∧ cutE f s es j m < 64 := by
  unfold cutE; split
  · exact (dif_sub2 (hf m) hs).2
  · exact hf m
theorem cutE_step {f : Nat → Int} {s : Int} (hf : In64 f) (hs : 0 ≤ s ∧ s < 64) {es : List Int} {j m : Nat} (hm : nth es j = m) (hj : j < es.length) : ∀ j', cutE f s es (j + 1) j' = if j' = m then diI (cutE f s es j m) s else cutE f s es j j' := fun j' => by
  have htk : es.take (j + 1) = es.take j ++ [(m : Int)] := by rw [List.take_add_one, nth_get? hj, hm]; rfl
  unfold cutE
  rw [htk]
  by_cases e : j' = m
  · subst e
    rw [if_pos rfl, if_pos (by simp)]
    split
    · exact (dif_idem2 (hf j') hs).symm
    · rfl
  · have e2 : ¬ (j' : Int) = (m : Int) := by omega
    rw [if_neg e]
    simp [e2]
end Go.Proofs.YtkkkgaapkibhkaaDoor
