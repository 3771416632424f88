/- Chains: the law of IsChain. Conditions: none. -/
import Derived.Test.YtliecnadoklgoaaGreatDoorConA
namespace Go.Proofs.YtliecnadoklgoaaGreatDoor
open Ev
set_option linter.unusedVariables false
set_option linter.unusedSimpArgs false
set_option maxHeartbeats 4000000

theorem con_range {n : Int} {xs : List Int} {k : Nat} (h : k < (fsts (conW n xs)).length) : 0 ≤ nth (fsts (conW n xs)) k ∧ nth (fsts (conW n xs)) k < 256 := by
  rw [conW_fsts, List.length_map] at h
  rw [conW_fsts]
  have hc : PCtx n xs := by
    unfold conL at h
    split at h
    · assumption
    · simp at h
  have e : nth ((conL n xs).map fun (s : Nat) => Ext xs (s : Int)) k = Ext xs ((conL n xs)[k] : Nat) := by simp [nth, h]
  rw [e]
  exact ext_range _ _ hc.2.2.1
theorem l6Under_c {a b a2 b2 : Int} (ha : 0 ≤ a ∧ a < 256) (hb : 0 ≤ b ∧ b < 256) : EvC env 101 [.agg [.int .i64 a, .int .i64 a2], .agg [.int .i64 b, .int .i64 b2]] (.bool (PSub a b)) := by
  refine evC_of (F := Tryz.f101) rfl rfl (Nat.le_of_ble_eq_true rfl) ?_
  have hs := psub_and (t := b) ha.1
  repeat' (first | (apply brI <;> intro hb hb2 <;> (try simp [-Int.not_le, -Int.not_lt, -Nat.not_le, -Nat.not_lt, -Nat.add_left_cancel_iff] at hb2)) | (refine draw_listA (by rfl) (by kernel_rfl) ?_) | (refine draw_listB (by simp [allocsOf, isAlloc]; rfl) (by kernel_rfl) ?_) | simp (maxSteps := 2000000) (disch := first | omega | assumption | simp [*]) [*, -Int.not_le, -Int.not_lt, -Nat.not_le, -Nat.not_lt, -Nat.add_left_cancel_iff, wrap_i64, wrap_u64, Tryz.f101, bits_and])
theorem l6Under_s {a b a2 b2 : Int} (ha : 0 ≤ a ∧ a < 256) (hb : 0 ≤ b ∧ b < 256) {K : AV → Prop} {tg : Tg K} : CW env 101 [.agg [.int .i64 a, .int .i64 a2], .agg [.int .i64 b, .int .i64 b2]] K tg ↔ K (.bool (PSub a b)) := callsTo_iff (l6Under_c ha hb)
attribute [simp] l6Under_s
theorem below_c {v : AV} {a b : Nat} (hP : IsP v) (ha : a < (fsts v).length) (hb : b < (fsts v).length) (h : ∀ k, k < (fsts v).length → 0 ≤ nth (fsts v) k ∧ nth (fsts v) k < 256) : EvC env 92 [v, .int .i64 a, .int .i64 b] (.bool (PSub (nth (fsts v) a) (nth (fsts v) b))) := by
  refine evC_of (F := Tryz.f92) rfl rfl (Nat.le_of_ble_eq_true rfl) ?_
  have r1 := h a ha
  have r2 := h b hb
  clear h
  repeat' (first | (apply brI <;> intro hb hb2 <;> (try simp [-Int.not_le, -Int.not_lt, -Nat.not_le, -Nat.not_lt, -Nat.add_left_cancel_iff] at hb2)) | (refine draw_listA (by rfl) (by kernel_rfl) ?_) | (refine draw_listB (by simp [allocsOf, isAlloc]; rfl) (by kernel_rfl) ?_) | simp (maxSteps := 2000000) (disch := first | omega | assumption | simp [*]) [*, -Int.not_le, -Int.not_lt, -Nat.not_le, -Nat.not_lt, -Nat.add_left_cancel_iff, wrap_i64, wrap_u64, Tryz.f92, isP_index hP, isP_low hP, isP_noKey hP, psub_diff])
theorem below_s {v : AV} {a b : Nat} (hP : IsP v) (ha : a < (fsts v).length) (hb : b < (fsts v).length) (h : ∀ k, k < (fsts v).length → 0 ≤ nth (fsts v) k ∧ nth (fsts v) k < 256) {K : AV → Prop} {tg : Tg K} : CW env 92 [v, .int .i64 a, .int .i64 b] K tg ↔ K (.bool (PSub (nth (fsts v) a) (nth (fsts v) b))) := callsTo_iff (below_c hP ha hb h)
attribute [simp] below_s
def cmpP (F : List Int) (a b : Nat) : Prop := PSub (nth F a) (nth F b) = true ∨ PSub (nth F b) (nth F a) = true
def ChnC (n : Int) (xs F : List Int) : Prop := PCtx n xs ∧ ∀ a, a < F.length → ∀ b, b < a → cmpP F a b
noncomputable instance (n : Int) (xs F : List Int) : Decidable (ChnC n xs F) := Classical.propDecidable _
theorem sIsChain_c {n : Int} {v : AV} (hv : IsI v) : EvC env 21 [.agg [.int .i64 n, v]] (.bool (decide (ChnC n (xsOf v) (fsts (conW n (xsOf v)))))) := by
  refine evC_of (F := Tryz.f21) rfl rfl (Nat.le_of_ble_eq_true rfl) ?_
  have hP := conW_P n (xsOf v)
  have hr := fun k => con_range (n := n) (xs := xsOf v) (k := k)
  have hw := sCon_noEx n (xsOf v) 101
  obtain ⟨w, hww⟩ : ∃ w, conW n (xsOf v) = w := ⟨_, rfl⟩
  rw [hww] at hP hw
  rw [hww]
  simp only [hww] at hr
  clear hww
  have hpl := hP.len
  unfold top63 at hpl
  repeat' (first | (apply brI <;> intro hb hb2 <;> (try simp [-Int.not_le, -Int.not_lt, -Nat.not_le, -Nat.not_lt, -Nat.add_left_cancel_iff] at hb2)) | (refine draw_listA (by rfl) (by kernel_rfl) ?_) | (refine draw_listB (by simp [allocsOf, isAlloc]; rfl) (by kernel_rfl) ?_) | simp (maxSteps := 2000000) (disch := first | omega | assumption | simp [*]) [*, -Int.not_le, -Int.not_lt, -Nat.not_le, -Nat.not_lt, -Nat.add_left_cancel_iff, wrap_i64, wrap_u64, Tryz.f21, isI_cells hv, isI_one hv, isI_low hv, isI_len hv, isP_len hP])
  refine W_loopP (fsts w).length (fun i s => s 4 = .int .i64 i ∧ s 3 = w ∧ s 1 = .vp 1 0 0 ∧ ∀ a, a < i → ∀ b, b < a → cmpP (fsts w) a b) rfl ?_ ?_
  · simp
  rintro i s hi ⟨h4, h3, h1, hA⟩
  by_cases hi2 : i < (fsts w).length
  · have ri := hr i hi2
    repeat' (first | (apply brI <;> intro hb hb2 <;> (try simp [-Int.not_le, -Int.not_lt, -Nat.not_le, -Nat.not_lt, -Nat.add_left_cancel_iff] at hb2)) | (refine draw_listA (by rfl) (by kernel_rfl) ?_) | (refine draw_listB (by simp [allocsOf, isAlloc]; rfl) (by kernel_rfl) ?_) | simp (maxSteps := 2000000) (disch := first | omega | assumption | simp [*]) [*, -Int.not_le, -Int.not_lt, -Nat.not_le, -Nat.not_lt, -Nat.add_left_cancel_iff, wrap_i64, wrap_u64, h4, h3, h1, isP_len hP])
    refine W_loopP i (fun j s => s 5 = .int .i64 j ∧ s 4 = .int .i64 i ∧ s 3 = w ∧ s 1 = .vp 1 0 0 ∧ ∀ b, b < j → cmpP (fsts w) i b) rfl ?_ ?_
    · simp [*]
    rintro j s2 hj ⟨k5, k4, k3, k1, hB⟩
    by_cases hj2 : j < i
    · have hj3 : j < (fsts w).length := by omega
      have rj := hr j hj3
      by_cases hc : cmpP (fsts w) i j
      · have hB2 : ∀ b, b < j + 1 → cmpP (fsts w) i b := fun b hb => by
          by_cases e : b = j
          · subst e; exact hc
          · exact hB b (by omega)
        clear hB hr hA
        rcases hc with hc | hc
        · repeat' (first | (apply brI <;> intro hb hb2 <;> (try simp [-Int.not_le, -Int.not_lt, -Nat.not_le, -Nat.not_lt, -Nat.add_left_cancel_iff] at hb2)) | (refine draw_listA (by rfl) (by kernel_rfl) ?_) | (refine draw_listB (by simp [allocsOf, isAlloc]; rfl) (by kernel_rfl) ?_) | simp (maxSteps := 2000000) (disch := first | omega | assumption | simp [*]) [*, -Int.not_le, -Int.not_lt, -Nat.not_le, -Nat.not_lt, -Nat.add_left_cancel_iff, wrap_i64, wrap_u64, k5, k4, k3, k1, isP_len hP, isP_index hP, isP_noKey hP])
          exact hB2
        · cases hc2 : PSub (nth (fsts w) i) (nth (fsts w) j) <;> repeat' (first | (apply brI <;> intro hb hb2 <;> (try simp [-Int.not_le, -Int.not_lt, -Nat.not_le, -Nat.not_lt, -Nat.add_left_cancel_iff] at hb2)) | (refine draw_listA (by rfl) (by kernel_rfl) ?_) | (refine draw_listB (by simp [allocsOf, isAlloc]; rfl) (by kernel_rfl) ?_) | simp (maxSteps := 2000000) (disch := first | omega | assumption | simp [*]) [*, -Int.not_le, -Int.not_lt, -Nat.not_le, -Nat.not_lt, -Nat.add_left_cancel_iff, wrap_i64, wrap_u64, k5, k4, k3, k1, isP_len hP, isP_index hP, isP_noKey hP])
          all_goals exact hB2
      · have hno : ¬ ChnC n (xsOf v) (fsts w) := fun h => hc (h.2 i hi2 j hj2)
        have c1 : PSub (nth (fsts w) i) (nth (fsts w) j) = false := by
          cases h : PSub (nth (fsts w) i) (nth (fsts w) j) with
          | false => rfl
          | true => exact absurd (.inl h) hc
        have c2 : PSub (nth (fsts w) j) (nth (fsts w) i) = false := by
          cases h : PSub (nth (fsts w) j) (nth (fsts w) i) with
          | false => rfl
          | true => exact absurd (.inr h) hc
        clear hB hr hA hc
        repeat' (first | (apply brI <;> intro hb hb2 <;> (try simp [-Int.not_le, -Int.not_lt, -Nat.not_le, -Nat.not_lt, -Nat.add_left_cancel_iff] at hb2)) | (refine draw_listA (by rfl) (by kernel_rfl) ?_) | (refine draw_listB (by simp [allocsOf, isAlloc]; rfl) (by kernel_rfl) ?_) | simp (maxSteps := 2000000) (disch := first | omega | assumption | simp [*]) [*, -Int.not_le, -Int.not_lt, -Nat.not_le, -Nat.not_lt, -Nat.add_left_cancel_iff, wrap_i64, wrap_u64, k5, k4, k3, k1, isP_len hP, isP_index hP, isP_noKey hP])
    · obtain rfl : j = i := by omega
      have hA2 : ∀ a, a < j + 1 → ∀ b, b < a → cmpP (fsts w) a b := fun a ha b hb => by
        by_cases e : a = j
        · subst e; exact hB b hb
        · exact hA a (by omega) b hb
      clear hB hA hr
      repeat' (first | (apply brI <;> intro hb hb2 <;> (try simp [-Int.not_le, -Int.not_lt, -Nat.not_le, -Nat.not_lt, -Nat.add_left_cancel_iff] at hb2)) | (refine draw_listA (by rfl) (by kernel_rfl) ?_) | (refine draw_listB (by simp [allocsOf, isAlloc]; rfl) (by kernel_rfl) ?_) | simp (maxSteps := 2000000) (disch := first | omega | assumption | simp [*]) [*, -Int.not_le, -Int.not_lt, -Nat.not_le, -Nat.not_lt, -Nat.add_left_cancel_iff, wrap_i64, wrap_u64, k5, k4, k3, k1, isP_len hP])
      exact hA2
  · obtain rfl : i = (fsts w).length := by omega
    have hcc : ChnC n (xsOf v) (fsts w) ↔ PCtx n (xsOf v) := ⟨fun h => h.1, fun h => ⟨h, hA⟩⟩
    clear hA hr
    repeat' (first | (apply brI <;> intro hb hb2 <;> (try simp [-Int.not_le, -Int.not_lt, -Nat.not_le, -Nat.not_lt, -Nat.add_left_cancel_iff] at hb2)) | (refine draw_listA (by rfl) (by kernel_rfl) ?_) | (refine draw_listB (by simp [allocsOf, isAlloc]; rfl) (by kernel_rfl) ?_) | simp (maxSteps := 2000000) (disch := first | omega | assumption | simp [*]) [*, -Int.not_le, -Int.not_lt, -Nat.not_le, -Nat.not_lt, -Nat.add_left_cancel_iff, wrap_i64, wrap_u64, h4, h3, h1, isP_len hP, isI_cells hv, isI_one hv, isI_low hv])
theorem sIsChain_s {n : Int} {v : AV} (hv : IsI v) {K : AV → Prop} {tg : Tg K} : CW env 21 [.agg [.int .i64 n, v]] K tg ↔ K (.bool (decide (ChnC n (xsOf v) (fsts (conW n (xsOf v)))))) := callsTo_iff (sIsChain_c hv)
attribute [simp] sIsChain_s
theorem iIsChain_c {n : Int} {v : AV} (hv : IsI v) : EvC env 14 [.agg [.int .i64 n, v]] (.bool (decide (ChnC n (xsOf v) (fsts (conW n (xsOf v)))))) := by
  refine evC_of (F := Tryz.f14) rfl rfl (Nat.le_of_ble_eq_true rfl) ?_
  have hP := conW2_P n (xsOf v)
  have hr := fun k => con_range (n := n) (xs := xsOf v) (k := k)
  rw [← conW2_fsts] at hr
  rw [← conW2_fsts]
  have hw := iCon_noEx n (xsOf v) 101
  obtain ⟨w, hww⟩ : ∃ w, conW2 n (xsOf v) = w := ⟨_, rfl⟩
  rw [hww] at hP hw
  rw [hww]
  simp only [hww] at hr
  clear hww
  have hbl : ∀ (a b : Nat) (K : AV → Prop) (tg : Tg K), a < (fsts w).length → b < (fsts w).length → (CW env 92 [w, .int .i64 a, .int .i64 b] K tg ↔ K (.bool (PSub (nth (fsts w) a) (nth (fsts w) b)))) := fun a b K tg ha hb => callsTo_iff (below_c hP ha hb hr)
  have hpl := hP.len
  unfold top63 at hpl
  repeat' (first | (apply brI <;> intro hb hb2 <;> (try simp [-Int.not_le, -Int.not_lt, -Nat.not_le, -Nat.not_lt, -Nat.add_left_cancel_iff] at hb2)) | (refine draw_listA (by rfl) (by kernel_rfl) ?_) | (refine draw_listB (by simp [allocsOf, isAlloc]; rfl) (by kernel_rfl) ?_) | simp (maxSteps := 2000000) (disch := first | omega | assumption | simp [*]) [*, -Int.not_le, -Int.not_lt, -Nat.not_le, -Nat.not_lt, -Nat.add_left_cancel_iff, wrap_i64, wrap_u64, Tryz.f14, isI_cells hv, isI_one hv, isI_low hv, isI_len hv, isP_len hP])
  refine W_loopP (fsts w).length (fun i s => s 10 = .int .i64 i ∧ s 9 = .int .i64 (fsts w).length ∧ s 3 = w ∧ s 1 = .vp 1 0 0 ∧ ∀ a, a < i → ∀ b, b < a → cmpP (fsts w) a b) rfl ?_ ?_
  · simp
  rintro i s hi ⟨h4, h9, h3, h1, hA⟩
  by_cases hi2 : i < (fsts w).length
  · have ri := hr i hi2
    repeat' (first | (apply brI <;> intro hb hb2 <;> (try simp [-Int.not_le, -Int.not_lt, -Nat.not_le, -Nat.not_lt, -Nat.add_left_cancel_iff] at hb2)) | (refine draw_listA (by rfl) (by kernel_rfl) ?_) | (refine draw_listB (by simp [allocsOf, isAlloc]; rfl) (by kernel_rfl) ?_) | simp (maxSteps := 2000000) (disch := first | omega | assumption | simp [*]) [*, -Int.not_le, -Int.not_lt, -Nat.not_le, -Nat.not_lt, -Nat.add_left_cancel_iff, wrap_i64, wrap_u64, h4, h9, h3, h1, isP_len hP])
    refine W_loopP i (fun j s => s 14 = .int .i64 j ∧ s 13 = .int .i64 i ∧ s 4 = .int .i64 i ∧ s 10 = .int .i64 i ∧ s 9 = .int .i64 (fsts w).length ∧ s 3 = w ∧ s 1 = .vp 1 0 0 ∧ ∀ b, b < j → cmpP (fsts w) i b) rfl ?_ ?_
    · simp [*]
    rintro j s2 hj ⟨k5, k13, k4, k10, k9, k3, k1, hB⟩
    by_cases hj2 : j < i
    · have hj3 : j < (fsts w).length := by omega
      have rj := hr j hj3
      by_cases hc : cmpP (fsts w) i j
      · have hB2 : ∀ b, b < j + 1 → cmpP (fsts w) i b := fun b hb => by
          by_cases e : b = j
          · subst e; exact hc
          · exact hB b (by omega)
        clear hB hr hA
        rcases hc with hc | hc
        · repeat' (first | (apply brI <;> intro hb hb2 <;> (try simp [-Int.not_le, -Int.not_lt, -Nat.not_le, -Nat.not_lt, -Nat.add_left_cancel_iff] at hb2)) | (refine draw_listA (by rfl) (by kernel_rfl) ?_) | (refine draw_listB (by simp [allocsOf, isAlloc]; rfl) (by kernel_rfl) ?_) | simp (maxSteps := 2000000) (disch := first | omega | assumption | simp [*]) [*, -Int.not_le, -Int.not_lt, -Nat.not_le, -Nat.not_lt, -Nat.add_left_cancel_iff, wrap_i64, wrap_u64, k5, k13, k4, k10, k9, k3, k1, isP_len hP, isP_low hP])
          exact hB2
        · cases hc2 : PSub (nth (fsts w) i) (nth (fsts w) j) <;> repeat' (first | (apply brI <;> intro hb hb2 <;> (try simp [-Int.not_le, -Int.not_lt, -Nat.not_le, -Nat.not_lt, -Nat.add_left_cancel_iff] at hb2)) | (refine draw_listA (by rfl) (by kernel_rfl) ?_) | (refine draw_listB (by simp [allocsOf, isAlloc]; rfl) (by kernel_rfl) ?_) | simp (maxSteps := 2000000) (disch := first | omega | assumption | simp [*]) [*, -Int.not_le, -Int.not_lt, -Nat.not_le, -Nat.not_lt, -Nat.add_left_cancel_iff, wrap_i64, wrap_u64, k5, k13, k4, k10, k9, k3, k1, isP_len hP, isP_low hP])
          all_goals exact hB2
      · have hno : ¬ ChnC n (xsOf v) (fsts w) := fun h => hc (h.2 i hi2 j hj2)
        have c1 : PSub (nth (fsts w) i) (nth (fsts w) j) = false := by
          cases h : PSub (nth (fsts w) i) (nth (fsts w) j) with
          | false => rfl
          | true => exact absurd (.inl h) hc
        have c2 : PSub (nth (fsts w) j) (nth (fsts w) i) = false := by
          cases h : PSub (nth (fsts w) j) (nth (fsts w) i) with
          | false => rfl
          | true => exact absurd (.inr h) hc
        clear hB hr hA hc
        repeat' (first | (apply brI <;> intro hb hb2 <;> (try simp [-Int.not_le, -Int.not_lt, -Nat.not_le, -Nat.not_lt, -Nat.add_left_cancel_iff] at hb2)) | (refine draw_listA (by rfl) (by kernel_rfl) ?_) | (refine draw_listB (by simp [allocsOf, isAlloc]; rfl) (by kernel_rfl) ?_) | simp (maxSteps := 2000000) (disch := first | omega | assumption | simp [*]) [*, -Int.not_le, -Int.not_lt, -Nat.not_le, -Nat.not_lt, -Nat.add_left_cancel_iff, wrap_i64, wrap_u64, k5, k13, k4, k10, k9, k3, k1, isP_len hP, isP_low hP])
    · obtain rfl : j = i := by omega
      have hA2 : ∀ a, a < j + 1 → ∀ b, b < a → cmpP (fsts w) a b := fun a ha b hb => by
        by_cases e : a = j
        · subst e; exact hB b hb
        · exact hA a (by omega) b hb
      clear hB hA hr
      repeat' (first | (apply brI <;> intro hb hb2 <;> (try simp [-Int.not_le, -Int.not_lt, -Nat.not_le, -Nat.not_lt, -Nat.add_left_cancel_iff] at hb2)) | (refine draw_listA (by rfl) (by kernel_rfl) ?_) | (refine draw_listB (by simp [allocsOf, isAlloc]; rfl) (by kernel_rfl) ?_) | simp (maxSteps := 2000000) (disch := first | omega | assumption | simp [*]) [*, -Int.not_le, -Int.not_lt, -Nat.not_le, -Nat.not_lt, -Nat.add_left_cancel_iff, wrap_i64, wrap_u64, k5, k13, k4, k10, k9, k3, k1, isP_len hP])
      exact hA2
  · obtain rfl : i = (fsts w).length := by omega
    have hcc : ChnC n (xsOf v) (fsts w) ↔ PCtx n (xsOf v) := ⟨fun h => h.1, fun h => ⟨h, hA⟩⟩
    clear hA hr
    repeat' (first | (apply brI <;> intro hb hb2 <;> (try simp [-Int.not_le, -Int.not_lt, -Nat.not_le, -Nat.not_lt, -Nat.add_left_cancel_iff] at hb2)) | (refine draw_listA (by rfl) (by kernel_rfl) ?_) | (refine draw_listB (by simp [allocsOf, isAlloc]; rfl) (by kernel_rfl) ?_) | simp (maxSteps := 2000000) (disch := first | omega | assumption | simp [*]) [*, -Int.not_le, -Int.not_lt, -Nat.not_le, -Nat.not_lt, -Nat.add_left_cancel_iff, wrap_i64, wrap_u64, h4, h9, h3, h1, isP_len hP, isI_cells hv, isI_one hv, isI_low hv])
theorem iIsChain_s {n : Int} {v : AV} (hv : IsI v) {K : AV → Prop} {tg : Tg K} : CW env 14 [.agg [.int .i64 n, v]] K tg ↔ K (.bool (decide (ChnC n (xsOf v) (fsts (conW n (xsOf v)))))) := callsTo_iff (iIsChain_c hv)
attribute [simp] iIsChain_s
end Go.Proofs.YtliecnadoklgoaaGreatDoor
