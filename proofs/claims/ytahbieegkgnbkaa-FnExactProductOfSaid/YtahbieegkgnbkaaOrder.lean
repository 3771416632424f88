/- What is an order: the reference's answer and the program's. Conditions: none. -/
import Derived.Test.YtahbieegkgnbkaaLaw
namespace Go.Proofs.Ytahbieegkgnbkaa
open Ev
set_option linter.unusedVariables false
set_option linter.unusedSimpArgs false
set_option maxHeartbeats 4000000

def OrdK (b : List Int) (k : Nat) : Prop := PSet b.length (nth b k) = true ∧ PHas (nth b k) k = true
def OrdP (b : List Int) (x y : Nat) : Prop := PHas (nth b x) y = true → PSub (nth b y) (nth b x) = true ∧ (x ≠ y → PHas (nth b y) x = false)
def POrder (b : List Int) : Prop := b.length ≤ 6 ∧ (∀ k, k < b.length → OrdK b k) ∧ ∀ x y, x < b.length → y < b.length → OrdP b x y
noncomputable instance (b : List Int) : Decidable (POrder b) := Classical.propDecidable _

theorem sIsOrder_c {v : AV} (hv : IsI v) : EvC env 15 [.agg [v]] (.bool (decide (POrder (xsOf v)))) := by
  refine evC_of (F := Try.f15) rfl rfl (Nat.le_of_ble_eq_true rfl) ?_
  have := hv.len
  repeat' (first | (apply br_intro <;> intro hb <;> (have hb2 := hb) <;> (try simp [-Int.not_le, -Int.not_lt, -Nat.not_le, -Nat.not_lt, -Nat.add_left_cancel_iff] at hb2)) | (refine draw_listA (by rfl) (by kernel_rfl) ?_) | (refine draw_listB (by simp [allocsOf, isAlloc]; rfl) (by kernel_rfl) ?_) | simp (maxSteps := 2000000) (disch := first | omega | assumption | simp [*]) [*, -Int.not_le, -Int.not_lt, -Nat.not_le, -Nat.not_lt, -Nat.add_left_cancel_iff, wrap_i64, wrap_u64, Try.f15, isI_cells hv, isI_one hv, isI_low hv, isI_len hv])
  · intro h; exact absurd h.1 (by omega)
  refine W_loopP (xsOf v).length (fun i s => s 4 = .int .i64 i ∧ s 1 = .vp 1 0 0 ∧ s 3 = .int .i64 (xsOf v).length ∧ ∀ j, j < i → OrdK (xsOf v) j) rfl ?_ ?_
  · simp
  rintro i s hi ⟨h4, h1, h3, hj⟩
  repeat' (first | (apply br_intro <;> intro hb <;> (have hb2 := hb) <;> (try simp [-Int.not_le, -Int.not_lt, -Nat.not_le, -Nat.not_lt, -Nat.add_left_cancel_iff] at hb2)) | (refine draw_listA (by rfl) (by kernel_rfl) ?_) | (refine draw_listB (by simp [allocsOf, isAlloc]; rfl) (by kernel_rfl) ?_) | simp (maxSteps := 2000000) (disch := first | omega | assumption | simp [*]) [*, -Int.not_le, -Int.not_lt, -Nat.not_le, -Nat.not_lt, -Nat.add_left_cancel_iff, wrap_i64, wrap_u64, h4, h1, h3, isI_cells hv, isI_one hv, isI_low hv, isI_len hv, isI_index hv, isI_load hv])
  · intro h; have := (h.2.1 i (by omega)).2; simp_all
  · intro j hj2
    by_cases e : j = i
    · subst e; exact ⟨by assumption, by assumption⟩
    · exact hj j (by omega)
  · intro h; have := (h.2.1 i (by omega)).1; simp_all
  have hs : ∀ k, k < (xsOf v).length → OrdK (xsOf v) k := fun k hk => hj k (by omega)
  have hr : ∀ k, k < (xsOf v).length → 0 ≤ nth (xsOf v) k ∧ nth (xsOf v) k < 9223372036854775808 := fun k hk => by have := pset_lt (hs k hk).1; omega
  refine W_loopP (xsOf v).length (fun i s => s 5 = .int .i64 i ∧ s 1 = .vp 1 0 0 ∧ s 3 = .int .i64 (xsOf v).length ∧ ∀ x, x < i → ∀ y, y < (xsOf v).length → OrdP (xsOf v) x y) rfl ?_ ?_
  · simp_all
  rintro a s2 ha ⟨g5, g1, g3, gj⟩
  repeat' (first | (apply br_intro <;> intro hb <;> (have hb2 := hb) <;> (try simp [-Int.not_le, -Int.not_lt, -Nat.not_le, -Nat.not_lt, -Nat.add_left_cancel_iff] at hb2)) | (refine draw_listA (by rfl) (by kernel_rfl) ?_) | (refine draw_listB (by simp [allocsOf, isAlloc]; rfl) (by kernel_rfl) ?_) | simp (maxSteps := 2000000) (disch := first | omega | assumption | simp [*]) [*, -Int.not_le, -Int.not_lt, -Nat.not_le, -Nat.not_lt, -Nat.add_left_cancel_iff, wrap_i64, wrap_u64, g5, g1, g3])
  · refine W_loopP (xsOf v).length (fun i s => s 6 = .int .i64 i ∧ s 5 = .int .i64 a ∧ s 1 = .vp 1 0 0 ∧ s 3 = .int .i64 (xsOf v).length ∧ ∀ y, y < i → OrdP (xsOf v) a y) rfl ?_ ?_
    · simp_all
    rintro c s3 hc ⟨k6, k5, k1, k3, kj⟩
    repeat' (first | (apply br_intro <;> intro hb <;> (have hb2 := hb) <;> (try simp [-Int.not_le, -Int.not_lt, -Nat.not_le, -Nat.not_lt, -Nat.add_left_cancel_iff] at hb2)) | (refine draw_listA (by rfl) (by kernel_rfl) ?_) | (refine draw_listB (by simp [allocsOf, isAlloc]; rfl) (by kernel_rfl) ?_) | simp (maxSteps := 2000000) (disch := first | omega | assumption | simp [*]) [*, -Int.not_le, -Int.not_lt, -Nat.not_le, -Nat.not_lt, -Nat.add_left_cancel_iff, wrap_i64, wrap_u64, k6, k5, k1, k3, isI_cells hv, isI_one hv, isI_low hv, isI_len hv, isI_index hv, isI_load hv, bits_and])
    · intro h; have := (h.2.2 a c (by omega) (by omega) (by assumption)).2 (by omega); simp_all
    · intro y hy
      by_cases e : y = c
      · subst e; exact fun _ => ⟨(psub_and (hr _ (by omega)).1).mp (by assumption), fun _ => by assumption⟩
      · exact kj y (by omega)
    · intro y hy
      by_cases e : y = c
      · subst e; exact fun _ => ⟨(psub_and (hr _ (by omega)).1).mp (by assumption), fun hn => absurd (by omega) hn⟩
      · exact kj y (by omega)
    · intro h; have h2 := (h.2.2 a c (by omega) (by omega) (by assumption)).1
      rw [← psub_and (hr _ (by omega)).1] at h2; contradiction
    · intro y hy
      by_cases e : y = c
      · subst e; intro h; simp_all
      · exact kj y (by omega)
    · intro x hx y hy
      by_cases e : x = a
      · subst e; exact kj y (by omega)
      · exact gj x (by omega) y hy
  · exact ⟨by omega, hs, fun x y hx hy => gj x (by omega) y hy⟩
theorem sIsOrder_s {v : AV} (hv : IsI v) {K : AV → Prop} {tg : Tg K} : CW env 15 [.agg [v]] K tg ↔ K (.bool (decide (POrder (xsOf v)))) := callsTo_iff (sIsOrder_c hv)
attribute [simp] sIsOrder_s
/-- the elements of a set, below n -/
def elemsTo (s : Int) (n : Nat) : List Int := ((List.range n).filter fun (e : Nat) => PSet 8 s && PHas s e).map Int.ofNat
theorem elemsTo_succ (s : Int) (i : Nat) : elemsTo s (i + 1) = elemsTo s i ++ if (PSet 8 s && PHas s i) = true then [(i : Int)] else [] := by
  unfold elemsTo
  rw [List.range_succ, List.filter_append, List.map_append]
  congr 1
  simp only [List.filter_cons, List.filter_nil]
  split <;> rfl
theorem elemsTo_len (s : Int) (i : Nat) : (elemsTo s i).length ≤ i := by
  unfold elemsTo
  rw [List.length_map]
  exact Nat.le_trans (List.length_filter_le ..) (by simp)
theorem iElementsOf_c {s : Int} : EvC env 60 [.int .i64 s] (bufR 3 15 1 (elemsTo s 8)) := by
  refine evC_of (F := Try.f60) rfl rfl (Nat.le_of_ble_eq_true rfl) ?_
  repeat' (first | (apply br_intro <;> intro hb <;> (have hb2 := hb) <;> (try simp [-Int.not_le, -Int.not_lt, -Nat.not_le, -Nat.not_lt, -Nat.add_left_cancel_iff] at hb2)) | (refine draw_listA (by rfl) (by kernel_rfl) ?_) | (refine draw_listB (by simp [allocsOf, isAlloc]; rfl) (by kernel_rfl) ?_) | simp (maxSteps := 2000000) (disch := first | omega | assumption | simp [*]) [*, -Int.not_le, -Int.not_lt, -Nat.not_le, -Nat.not_lt, -Nat.add_left_cancel_iff, wrap_i64, wrap_u64, Try.f60])
  refine W_loopG 8 (fun i s' h => s' 6 = .int .i64 i ∧ s' 0 = .int .i64 s ∧ Buf h 3 15 1 (s' 3) (elemsTo s i)) ?_ ?_
  · simp [elemsTo]; exact buf_nil ..
  rintro i s' h hi ⟨h6, h0, hB⟩
  have hl := elemsTo_len s i
  repeat' (first | (apply br_intro <;> intro hb <;> (have hb2 := hb) <;> (try simp [-Int.not_le, -Int.not_lt, -Nat.not_le, -Nat.not_lt, -Nat.add_left_cancel_iff] at hb2)) | (refine draw_listA (by rfl) (by kernel_rfl) ?_) | (refine draw_listB (by simp [allocsOf, isAlloc]; rfl) (by kernel_rfl) ?_) | simp (maxSteps := 2000000) (disch := first | omega | assumption | simp [*]) [*, -Int.not_le, -Int.not_lt, -Nat.not_le, -Nat.not_lt, -Nat.add_left_cancel_iff, wrap_i64, wrap_u64, h6, h0])
  · refine wa_push hB (by simp) (by simp) (by omega) ?_
    intro v2 h2 hB2 hk2
    repeat' (first | (apply br_intro <;> intro hb <;> (have hb2 := hb) <;> (try simp [-Int.not_le, -Int.not_lt, -Nat.not_le, -Nat.not_lt, -Nat.add_left_cancel_iff] at hb2)) | (refine draw_listA (by rfl) (by kernel_rfl) ?_) | (refine draw_listB (by simp [allocsOf, isAlloc]; rfl) (by kernel_rfl) ?_) | simp (maxSteps := 2000000) (disch := first | omega | assumption | simp [*]) [*, -Int.not_le, -Int.not_lt, -Nat.not_le, -Nat.not_lt, -Nat.add_left_cancel_iff, wrap_i64, wrap_u64, h6, h0])
    exact ⟨by omega, by rw [elemsTo_succ, if_pos (by simp_all)]; exact hB2⟩
  · exact ⟨by omega, by rw [elemsTo_succ, if_neg (by simp at hb2 ⊢; exact fun h => hb2 h (by omega)), List.append_nil]; exact hB⟩
  · obtain rfl : i = 8 := by omega
    exact hB.expo
theorem iElementsOf_s {s : Int} {K : AV → Prop} {tg : Tg K} : CW env 60 [.int .i64 s] K tg ↔ K (bufR 3 15 1 (elemsTo s 8)) := callsTo_iff (iElementsOf_c )
attribute [simp] iElementsOf_s
theorem mem_elems {s : Int} {e : Nat} (h : e < (elemsTo s 8).length) : ∃ m : Nat, nth (elemsTo s 8) e = m ∧ m < 8 ∧ PSet 8 s = true ∧ PHas s m = true := by
  have := List.getElem_mem h
  rw [← nth_eq h] at this
  unfold elemsTo at this
  simp only [List.mem_map, List.mem_filter, List.mem_range, Bool.and_eq_true] at this
  obtain ⟨m, ⟨h1, h2, h3⟩, h4⟩ := this
  exact ⟨m, h4.symm, h1, h2, h3⟩
theorem elems_mem {s : Int} {m : Nat} (h1 : m < 8) (h2 : PSet 8 s = true) (h3 : PHas s m = true) : ∃ e, e < (elemsTo s 8).length ∧ nth (elemsTo s 8) e = m := by
  have : (m : Int) ∈ elemsTo s 8 := by
    unfold elemsTo
    simp only [List.mem_map, List.mem_filter, List.mem_range, Bool.and_eq_true]
    exact ⟨m, ⟨h1, h2, h3⟩, rfl⟩
  obtain ⟨e, he, h⟩ := List.getElem_of_mem this
  exact ⟨e, he, by rw [nth_eq he, h]⟩
theorem iIsOrder_c {v : AV} (hv : IsI v) : EvC env 17 [.agg [v]] (.bool (decide (POrder (xsOf v)))) := by
  refine evC_of (F := Try.f17) rfl rfl (Nat.le_of_ble_eq_true rfl) ?_
  have := hv.len
  repeat' (first | (apply br_intro <;> intro hb <;> (have hb2 := hb) <;> (try simp [-Int.not_le, -Int.not_lt, -Nat.not_le, -Nat.not_lt, -Nat.add_left_cancel_iff] at hb2)) | (refine draw_listA (by rfl) (by kernel_rfl) ?_) | (refine draw_listB (by simp [allocsOf, isAlloc]; rfl) (by kernel_rfl) ?_) | simp (maxSteps := 2000000) (disch := first | omega | assumption | simp [*]) [*, -Int.not_le, -Int.not_lt, -Nat.not_le, -Nat.not_lt, -Nat.add_left_cancel_iff, wrap_i64, wrap_u64, Try.f17, isI_cells hv, isI_one hv, isI_low hv, isI_len hv])
  · intro h; exact absurd h.1 (by omega)
  refine W_loopP (xsOf v).length (fun i s => s 18 = .int .i64 i ∧ s 1 = .vp 1 0 0 ∧ s 16 = v ∧ s 17 = .int .i64 (xsOf v).length ∧ s 3 = .int .i64 (xsOf v).length ∧ ∀ j, j < i → OrdK (xsOf v) j) rfl ?_ ?_
  · simp
  rintro i s hi ⟨h4, h1, h16, h17, h3, hj⟩
  repeat' (first | (apply br_intro <;> intro hb <;> (have hb2 := hb) <;> (try simp [-Int.not_le, -Int.not_lt, -Nat.not_le, -Nat.not_lt, -Nat.add_left_cancel_iff] at hb2)) | (refine draw_listA (by rfl) (by kernel_rfl) ?_) | (refine draw_listB (by simp [allocsOf, isAlloc]; rfl) (by kernel_rfl) ?_) | simp (maxSteps := 2000000) (disch := first | omega | assumption | simp [*]) [*, -Int.not_le, -Int.not_lt, -Nat.not_le, -Nat.not_lt, -Nat.add_left_cancel_iff, wrap_i64, wrap_u64, h4, h1, h16, h17, h3, isI_cells hv, isI_one hv, isI_low hv, isI_len hv, isI_index hv, isI_load hv])
  · intro h; have h5 := h.2.1 i (by omega); have := h5.2; have := pset8 h5.1; simp_all; omega
  · intro j hj2
    by_cases e : j = i
    · subst e; exact ⟨by assumption, by simp_all⟩
    · exact hj j (by omega)
  · intro h; have := (h.2.1 i (by omega)).1; simp_all
  have hs : ∀ k, k < (xsOf v).length → OrdK (xsOf v) k := fun k hk => hj k (by omega)
  have hr : ∀ k, k < (xsOf v).length → 0 ≤ nth (xsOf v) k ∧ nth (xsOf v) k < 9223372036854775808 := fun k hk => by have := pset_lt (hs k hk).1; omega
  refine W_loopP (xsOf v).length (fun i s => s 37 = .int .i64 i ∧ s 1 = .vp 1 0 0 ∧ s 35 = v ∧ s 36 = .int .i64 (xsOf v).length ∧ ∀ x, x < i → ∀ y, y < (xsOf v).length → OrdP (xsOf v) x y) rfl ?_ ?_
  · simp_all
  rintro a s2 ha ⟨g5, g1, g35, g36, gj⟩
  have hE : IsI (bufC 1 (elemsTo (nth (xsOf v) a) 8)) := isI_bufC (Nat.le_trans (elemsTo_len _ _) (by decide))
  repeat' (first | (apply br_intro <;> intro hb <;> (have hb2 := hb) <;> (try simp [-Int.not_le, -Int.not_lt, -Nat.not_le, -Nat.not_lt, -Nat.add_left_cancel_iff] at hb2)) | (refine draw_listA (by rfl) (by kernel_rfl) ?_) | (refine draw_listB (by simp [allocsOf, isAlloc]; rfl) (by kernel_rfl) ?_) | simp (maxSteps := 2000000) (disch := first | omega | assumption | simp [*]) [*, -Int.not_le, -Int.not_lt, -Nat.not_le, -Nat.not_lt, -Nat.add_left_cancel_iff, wrap_i64, wrap_u64, g5, g1, g35, g36, isI_cells hv, isI_one hv, isI_low hv, isI_len hv, isI_index hv, isI_load hv, isI_len hE])
  · refine W_loopP (elemsTo (nth (xsOf v) a) 8).length (fun i s => s 45 = .int .i64 i ∧ s 43 = bufC 1 (elemsTo (nth (xsOf v) a) 8) ∧ s 44 = .int .i64 (elemsTo (nth (xsOf v) a) 8).length ∧ s 7 = .int .i64 (nth (xsOf v) a) ∧ s 6 = .int .i64 a ∧
      s 1 = .vp 1 0 0 ∧ s 37 = .int .i64 a ∧ s 35 = v ∧ s 36 = .int .i64 (xsOf v).length ∧ ∀ y, y < i → ∀ m : Nat, nth (elemsTo (nth (xsOf v) a) 8) y = m → OrdP (xsOf v) a m) rfl ?_ ?_
    · simp_all
    rintro c s3 hc ⟨k45, k43, k44, k7, k6, k1, k37, k35, k36, kj⟩
    by_cases he : c < (elemsTo (nth (xsOf v) a) 8).length
    · obtain ⟨m, hm, hm8, hp, hh⟩ := mem_elems he
      have hml : m < (xsOf v).length := by have := phas_lt (hs a (by omega)).1 hh; omega
      have h8 := pset8 (hs m (by omega)).1
      have hc8 := elemsTo_len (nth (xsOf v) a) 8
      repeat' (first | (apply br_intro <;> intro hb <;> (have hb2 := hb) <;> (try simp [-Int.not_le, -Int.not_lt, -Nat.not_le, -Nat.not_lt, -Nat.add_left_cancel_iff] at hb2)) | (refine draw_listA (by rfl) (by kernel_rfl) ?_) | (refine draw_listB (by simp [allocsOf, isAlloc]; rfl) (by kernel_rfl) ?_) | simp (maxSteps := 2000000) (disch := first | omega | assumption | simp [*]) [*, -Int.not_le, -Int.not_lt, -Nat.not_le, -Nat.not_lt, -Nat.add_left_cancel_iff, wrap_i64, wrap_u64, k45, k43, k44, k7, k6, k1, k37, k35, k36, isI_cells hv, isI_one hv, isI_low hv, isI_len hv, isI_index hv, isI_load hv, isI_index hE, isI_load hE, psub_diff])
      · intro h; have h9 := (h.2.2 a m (by omega) hml hh).2 (by omega); simp_all
      · intro y hy m2 hm2
        by_cases e : y = c
        · subst e
          obtain rfl : m = m2 := by rw [hm] at hm2; omega
          exact fun _ => ⟨by assumption, fun _ => hb2 (by omega)⟩
        · exact kj y (by omega) m2 hm2
      · intro y hy m2 hm2
        by_cases e : y = c
        · subst e
          obtain rfl : m = m2 := by rw [hm] at hm2; omega
          exact fun _ => ⟨by assumption, fun hn => absurd (by omega) hn⟩
        · exact kj y (by omega) m2 hm2
      · intro h; have := (h.2.2 a m (by omega) hml hh).1; simp_all
    · repeat' (first | (apply br_intro <;> intro hb <;> (have hb2 := hb) <;> (try simp [-Int.not_le, -Int.not_lt, -Nat.not_le, -Nat.not_lt, -Nat.add_left_cancel_iff] at hb2)) | (refine draw_listA (by rfl) (by kernel_rfl) ?_) | (refine draw_listB (by simp [allocsOf, isAlloc]; rfl) (by kernel_rfl) ?_) | simp (maxSteps := 2000000) (disch := first | omega | assumption | simp [*]) [*, -Int.not_le, -Int.not_lt, -Nat.not_le, -Nat.not_lt, -Nat.add_left_cancel_iff, wrap_i64, wrap_u64, k45, k43, k44, k7, k6, k1, k37, k35, k36])
      intro x hx y hy
      by_cases e : x = a
      · subst e
        intro h
        obtain ⟨e, he1, he2⟩ := elems_mem (s := nth (xsOf v) x) (m := y) (by omega) (pset8 (hs x (by omega)).1) h
        exact kj e (by omega) y he2 h
      · exact gj x (by omega) y hy
  · exact ⟨by omega, hs, fun x y hx hy => gj x (by omega) y hy⟩
theorem iIsOrder_s {v : AV} (hv : IsI v) {K : AV → Prop} {tg : Tg K} : CW env 17 [.agg [v]] K tg ↔ K (.bool (decide (POrder (xsOf v)))) := callsTo_iff (iIsOrder_c hv)
attribute [simp] iIsOrder_s

theorem lawIsOrder_c {v : AV} (hv : IsI v) : EvC env 3 [.agg [v]] (.bool true) := by
  refine evC_of (F := Try.f3) rfl rfl (Nat.le_of_ble_eq_true rfl) ?_
  have := hv.len
  repeat' (first | (apply br_intro <;> intro hb <;> (have hb2 := hb) <;> (try simp [-Int.not_le, -Int.not_lt, -Nat.not_le, -Nat.not_lt, -Nat.add_left_cancel_iff] at hb2)) | (refine draw_listA (by rfl) (by kernel_rfl) ?_) | (refine draw_listB (by simp [allocsOf, isAlloc]; rfl) (by kernel_rfl) ?_) | simp (maxSteps := 2000000) (disch := first | omega | assumption | simp [*]) [*, -Int.not_le, -Int.not_lt, -Nat.not_le, -Nat.not_lt, -Nat.add_left_cancel_iff, wrap_i64, wrap_u64, Try.f3, isI_cells hv, isI_one hv, isI_low hv, isI_len hv])
theorem lawIsOrder_s {v : AV} (hv : IsI v) {K : AV → Prop} {tg : Tg K} : CW env 3 [.agg [v]] K tg ↔ K (.bool true) := callsTo_iff (lawIsOrder_c hv)
attribute [simp] lawIsOrder_s

end Go.Proofs.Ytahbieegkgnbkaa
