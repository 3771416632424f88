/- Partial contexts: what is one; how many completions. Conditions: none. -/
import Derived.Test.YtkkkgaapkibhkaaOrder
import Derived.Test.YtkkkgaapkibhkaaCtx
namespace Go.Proofs.Ytkkkgaapkibhkaa
open Ev
set_option linter.unusedVariables false
set_option linter.unusedSimpArgs false
set_option maxHeartbeats 4000000

theorem take_succ_get {α : Type} {l : List α} {j : Nat} {a : α} (h : l[j]? = some a) : l.take (j + 1) = l.take j ++ [a] := by rw [List.take_add_one, h]; rfl
theorem elemsTo_none {s : Int} (h : PSet 8 s = false) (n : Nat) : elemsTo s n = [] := by
  induction n with
  | zero => rfl
  | succ n ih => rw [elemsTo_succ, ih]; simp [h]
theorem elemsTo_bit {s : Int} (h : PSet 8 s = true) (i : Nat) : ((elemsTo s (i + 1)).length : Int) = (elemsTo s i).length + s / 2 ^ i % 2 := by
  rw [elemsTo_succ, List.length_append, h]
  simp only [Bool.true_and, PHas, Int.toNat_natCast, decide_eq_true_eq]
  split <;> simp <;> omega
theorem elemsTo_end {s : Int} {i : Nat} (h : PSet 8 s = true) (h0 : s / 2 ^ i = 0) : ∀ j, elemsTo s (i + j) = elemsTo s i
  | 0 => rfl
  | j + 1 => by
    rw [← Nat.add_assoc, elemsTo_succ, elemsTo_end h h0 j]
    have h1 := pset_lt h
    have : s / 2 ^ (i + j) = 0 := by
      rw [Int.pow_add, ← Int.ediv_ediv_of_nonneg (Int.le_of_lt (pow_pos2 i)), h0]; simp
    simp [PHas, Int.toNat_natCast, this, show (((i + j : Nat) : Int)).toNat = i + j from Int.toNat_natCast _]
    have e : ((i : Int) + (j : Int)).toNat = i + j := by omega
    rw [e, this]; simp
theorem elems_nat (s : Int) : (elemsTo s 8).length ≤ 8 := elemsTo_len s 8
theorem sCountOf_c {s : Int} : EvC env 37 [.int .i64 s] (.int .i64 (elemsTo s 8).length) := by
  refine evC_of (F := Try.f37) rfl rfl (Nat.le_of_ble_eq_true rfl) ?_
  repeat' (first | (apply br_intro <;> intro hb <;> (have hb2 := hb) <;> (try simp [-Int.not_le, -Int.not_lt, -Nat.not_le, -Nat.not_lt, -Nat.add_left_cancel_iff] at hb2)) | (refine draw_listA (by rfl) (by kernel_rfl) ?_) | (refine draw_listB (by simp [allocsOf, isAlloc]; rfl) (by kernel_rfl) ?_) | simp (maxSteps := 2000000) (disch := first | omega | assumption | simp [*]) [*, -Int.not_le, -Int.not_lt, -Nat.not_le, -Nat.not_lt, -Nat.add_left_cancel_iff, wrap_i64, wrap_u64, Try.f37])
  · rw [elemsTo_none (by assumption)]; rfl
  have hb2' := hb2
  refine W_loopP 8 (fun i st => st 0 = .int .i64 (s / 2 ^ i) ∧ st 3 = .int .i64 (elemsTo s i).length) rfl ?_ ?_
  · simp [elemsTo]
  rintro i st hi ⟨h0, h3⟩
  have hl := elemsTo_len s i
  have hb8 := elemsTo_bit hb2 i
  have hs := pset_lt hb2
  have hd : s / 2 ^ i / 2 = s / 2 ^ (i + 1) := by rw [Int.pow_succ, ← Int.ediv_ediv_of_nonneg (Int.le_of_lt (pow_pos2 i))]
  have hm : 0 ≤ s / 2 ^ i % 2 ∧ s / 2 ^ i % 2 ≤ 1 := by omega
  have hq : 0 ≤ s / 2 ^ i := Int.ediv_nonneg hs.1 (Int.le_of_lt (pow_pos2 i))
  have h88 : i = 8 → s / 2 ^ i = 0 := by rintro rfl; exact Int.ediv_eq_zero_of_lt hs.1 hs.2
  repeat' (first | (apply br_intro <;> intro hb <;> (have hb2 := hb) <;> (try simp [-Int.not_le, -Int.not_lt, -Nat.not_le, -Nat.not_lt, -Nat.add_left_cancel_iff] at hb2)) | (refine draw_listA (by rfl) (by kernel_rfl) ?_) | (refine draw_listB (by simp [allocsOf, isAlloc]; rfl) (by kernel_rfl) ?_) | simp (maxSteps := 2000000) (disch := first | omega | assumption | simp [*]) [*, -Int.not_le, -Int.not_lt, -Nat.not_le, -Nat.not_lt, -Nat.add_left_cancel_iff, wrap_i64, wrap_u64, h0, h3])
  · omega
  · have := elemsTo_end hb2' (show s / 2 ^ i = 0 by omega) (8 - i)
    rw [show i + (8 - i) = 8 by omega] at this
    rw [this]
theorem sCountOf_s {s : Int} {K : AV → Prop} {tg : Tg K} : CW env 37 [.int .i64 s] K tg ↔ K (.int .i64 (elemsTo s 8).length) := callsTo_iff (sCountOf_c )
attribute [simp] sCountOf_s
/-- the number of open pairs -/
def opensTo (ms : List Int) : Nat → Nat
  | 0 => 0
  | i + 1 => opensTo ms i + (elemsTo (nth ms i) 8).length
theorem opensTo_le (ms : List Int) (i : Nat) : opensTo ms i ≤ 8 * i := by
  induction i with
  | zero => exact Nat.le_refl _
  | succ i ih => have := elems_nat (nth ms i); simp only [opensTo]; omega
def opens (ms : List Int) : Nat := opensTo ms ms.length
theorem l15Open_c {n : Int} {u v : AV} (hu : IsI u) (hv : IsI v) (hl : (xsOf v).length ≤ 8) : EvC env 107 [.agg [.int .i64 n, u, v]] (.int .i64 (opens (xsOf v))) := by
  refine evC_of (F := Try.f107) rfl rfl (Nat.le_of_ble_eq_true rfl) ?_
  repeat' (first | (apply br_intro <;> intro hb <;> (have hb2 := hb) <;> (try simp [-Int.not_le, -Int.not_lt, -Nat.not_le, -Nat.not_lt, -Nat.add_left_cancel_iff] at hb2)) | (refine draw_listA (by rfl) (by kernel_rfl) ?_) | (refine draw_listB (by simp [allocsOf, isAlloc]; rfl) (by kernel_rfl) ?_) | simp (maxSteps := 2000000) (disch := first | omega | assumption | simp [*]) [*, -Int.not_le, -Int.not_lt, -Nat.not_le, -Nat.not_lt, -Nat.add_left_cancel_iff, wrap_i64, wrap_u64, Try.f107, isI_cells hu, isI_one hu, isI_low hu, isI_len hu, isI_index hu, isI_load hu, isI_cells hv, isI_one hv, isI_low hv, isI_len hv, isI_index hv, isI_load hv])
  refine W_loopP (xsOf v).length (fun i s => s 4 = .int .i64 i ∧ s 1 = .vp 1 0 0 ∧ s 3 = .int .i64 (opensTo (xsOf v) i)) rfl ?_ ?_
  · simp [opensTo]
  rintro i s hi ⟨h4, h1, h3⟩
  have ho := opensTo_le (xsOf v) i
  have he := elems_nat (nth (xsOf v) i)
  repeat' (first | (apply br_intro <;> intro hb <;> (have hb2 := hb) <;> (try simp [-Int.not_le, -Int.not_lt, -Nat.not_le, -Nat.not_lt, -Nat.add_left_cancel_iff] at hb2)) | (refine draw_listA (by rfl) (by kernel_rfl) ?_) | (refine draw_listB (by simp [allocsOf, isAlloc]; rfl) (by kernel_rfl) ?_) | simp (maxSteps := 2000000) (disch := first | omega | assumption | simp [*]) [*, -Int.not_le, -Int.not_lt, -Nat.not_le, -Nat.not_lt, -Nat.add_left_cancel_iff, wrap_i64, wrap_u64, h4, h1, h3, isI_cells hu, isI_one hu, isI_low hu, isI_len hu, isI_index hu, isI_load hu, isI_cells hv, isI_one hv, isI_low hv, isI_len hv, isI_index hv, isI_load hv])
  · simp [opensTo]
  · obtain rfl : i = (xsOf v).length := by omega
    rfl
theorem l15Open_s {n : Int} {u v : AV} (hu : IsI u) (hv : IsI v) (hl : (xsOf v).length ≤ 8) {K : AV → Prop} {tg : Tg K} : CW env 107 [.agg [.int .i64 n, u, v]] K tg ↔ K (.int .i64 (opens (xsOf v))) := callsTo_iff (l15Open_c hu hv hl)
attribute [simp] l15Open_s
def pairV (g m : Int) : AV := .agg [.int .i64 g, .int .i64 m]
/-- the open pairs -/
def pairsTo (ms : List Int) : Nat → List AV
  | 0 => []
  | g + 1 => pairsTo ms g ++ (elemsTo (nth ms g) 8).map (pairV g)
theorem pairsTo_len (ms : List Int) (g : Nat) : (pairsTo ms g).length = opensTo ms g := by
  induction g with
  | zero => rfl
  | succ g ih => simp [pairsTo, opensTo, ih]
theorem iOpenPairs_c {n : Int} {u v : AV} (hu : IsI u) (hv : IsI v) (hl : (xsOf v).length ≤ 8) : EvC env 100 [.agg [.int .i64 n, u, v]] (bufLR 102 29 2 2 (pairsTo (xsOf v) (xsOf v).length)) := by
  refine evC_of (F := Try.f100) rfl rfl (Nat.le_of_ble_eq_true rfl) ?_
  repeat' (first | (apply br_intro <;> intro hb <;> (have hb2 := hb) <;> (try simp [-Int.not_le, -Int.not_lt, -Nat.not_le, -Nat.not_lt, -Nat.add_left_cancel_iff] at hb2)) | (refine draw_listA (by rfl) (by kernel_rfl) ?_) | (refine draw_listB (by simp [allocsOf, isAlloc]; rfl) (by kernel_rfl) ?_) | simp (maxSteps := 2000000) (disch := first | omega | assumption | simp [*]) [*, -Int.not_le, -Int.not_lt, -Nat.not_le, -Nat.not_lt, -Nat.add_left_cancel_iff, wrap_i64, wrap_u64, Try.f100, isI_cells hu, isI_one hu, isI_low hu, isI_len hu, isI_index hu, isI_load hu, isI_cells hv, isI_one hv, isI_low hv, isI_len hv, isI_index hv, isI_load hv])
  refine W_loopG (xsOf v).length (fun i s h => s 12 = .int .i64 i ∧ s 11 = .int .i64 (xsOf v).length ∧ s 10 = v ∧ BufL h 102 29 2 2 (s 3) (pairsTo (xsOf v) i)) ?_ ?_
  · simp; exact bufL_nil ..
  rintro i s h hi ⟨h12, h11, h10, hB⟩
  have ho := opensTo_le (xsOf v) i
  have hE : IsI (bufC 1 (elemsTo (nth (xsOf v) i) 8)) := isI_bufC (Nat.le_trans (elemsTo_len _ _) (by decide))
  have he := elems_nat (nth (xsOf v) i)
  repeat' (first | (apply br_intro <;> intro hb <;> (have hb2 := hb) <;> (try simp [-Int.not_le, -Int.not_lt, -Nat.not_le, -Nat.not_lt, -Nat.add_left_cancel_iff] at hb2)) | (refine draw_listA (by rfl) (by kernel_rfl) ?_) | (refine draw_listB (by simp [allocsOf, isAlloc]; rfl) (by kernel_rfl) ?_) | simp (maxSteps := 2000000) (disch := first | omega | assumption | simp [*]) [*, -Int.not_le, -Int.not_lt, -Nat.not_le, -Nat.not_lt, -Nat.add_left_cancel_iff, wrap_i64, wrap_u64, h12, h11, h10, isI_cells hu, isI_one hu, isI_low hu, isI_len hu, isI_index hu, isI_load hu, isI_cells hv, isI_one hv, isI_low hv, isI_len hv, isI_index hv, isI_load hv, isI_len hE])
  · refine W_loopG (elemsTo (nth (xsOf v) i) 8).length (fun j s h => s 20 = .int .i64 j ∧ s 19 = .int .i64 (elemsTo (nth (xsOf v) i) 8).length ∧ s 18 = bufC 1 (elemsTo (nth (xsOf v) i) 8) ∧ s 4 = .int .i64 i ∧
      s 12 = .int .i64 i ∧ s 11 = .int .i64 (xsOf v).length ∧ s 10 = v ∧ BufL h 102 29 2 2 (s 3) (pairsTo (xsOf v) i ++ ((elemsTo (nth (xsOf v) i) 8).map (pairV i)).take j)) ?_ ?_
    · simp_all
    rintro j s3 h3 hj ⟨k20, k19, k18, k4, k12, k11, k10, hB2⟩
    by_cases hj2 : j < (elemsTo (nth (xsOf v) i) 8).length
    · repeat' (first | (apply br_intro <;> intro hb <;> (have hb2 := hb) <;> (try simp [-Int.not_le, -Int.not_lt, -Nat.not_le, -Nat.not_lt, -Nat.add_left_cancel_iff] at hb2)) | (refine draw_listA (by rfl) (by kernel_rfl) ?_) | (refine draw_listB (by simp [allocsOf, isAlloc]; rfl) (by kernel_rfl) ?_) | simp (maxSteps := 2000000) (disch := first | omega | assumption | simp [*]) [*, -Int.not_le, -Int.not_lt, -Nat.not_le, -Nat.not_lt, -Nat.add_left_cancel_iff, wrap_i64, wrap_u64, k20, k19, k18, k4, k12, k11, k10, isI_cells hu, isI_one hu, isI_low hu, isI_len hu, isI_index hu, isI_load hu, isI_cells hv, isI_one hv, isI_low hv, isI_len hv, isI_index hv, isI_load hv, isI_len hE, isI_index hE, isI_load hE])
      refine wa_pushL hB2 (by simp) (by simp) (by simp) ⟨rfl, rfl⟩ (fun _ => rfl) ?_ ?_
      · simp [pairsTo_len]; omega
      intro v2 h2' hB3 hk3
      repeat' (first | (apply br_intro <;> intro hb <;> (have hb2 := hb) <;> (try simp [-Int.not_le, -Int.not_lt, -Nat.not_le, -Nat.not_lt, -Nat.add_left_cancel_iff] at hb2)) | (refine draw_listA (by rfl) (by kernel_rfl) ?_) | (refine draw_listB (by simp [allocsOf, isAlloc]; rfl) (by kernel_rfl) ?_) | simp (maxSteps := 2000000) (disch := first | omega | assumption | simp [*]) [*, -Int.not_le, -Int.not_lt, -Nat.not_le, -Nat.not_lt, -Nat.add_left_cancel_iff, wrap_i64, wrap_u64, k20, k19, k18, k4, k12, k11, k10])
      rw [take_succ_get (a := pairV i (nth (elemsTo (nth (xsOf v) i) 8) j)) (by simp [nth_get? hj2]), ← List.append_assoc]
      exact hB3
    · obtain rfl : j = (elemsTo (nth (xsOf v) i) 8).length := by omega
      repeat' (first | (apply br_intro <;> intro hb <;> (have hb2 := hb) <;> (try simp [-Int.not_le, -Int.not_lt, -Nat.not_le, -Nat.not_lt, -Nat.add_left_cancel_iff] at hb2)) | (refine draw_listA (by rfl) (by kernel_rfl) ?_) | (refine draw_listB (by simp [allocsOf, isAlloc]; rfl) (by kernel_rfl) ?_) | simp (maxSteps := 2000000) (disch := first | omega | assumption | simp [*]) [*, -Int.not_le, -Int.not_lt, -Nat.not_le, -Nat.not_lt, -Nat.add_left_cancel_iff, wrap_i64, wrap_u64, k20, k19, k18, k4, k12, k11, k10])
      rw [List.take_of_length_le (by simp)] at hB2
      exact hB2
  · obtain rfl : i = (xsOf v).length := by omega
    exact hB.expo
theorem iOpenPairs_s {n : Int} {u v : AV} (hu : IsI u) (hv : IsI v) (hl : (xsOf v).length ≤ 8) {K : AV → Prop} {tg : Tg K} : CW env 100 [.agg [.int .i64 n, u, v]] K tg ↔ K (bufLR 102 29 2 2 (pairsTo (xsOf v) (xsOf v).length)) := callsTo_iff (iOpenPairs_c hu hv hl)
attribute [simp] iOpenPairs_s
/-- what is a partial context -/
def PPart (n : Int) (ss ms : List Int) : Prop := PCtx n ss ∧ PCtx n ms ∧ ss.length = ms.length ∧ opens ms ≤ 6 ∧ ∀ k, k < ss.length → (nth ss k).toNat &&& (nth ms k).toNat = 0
noncomputable instance (n : Int) (ss ms : List Int) : Decidable (PPart n ss ms) := Classical.propDecidable _
theorem sIsPartial_c {n : Int} {u v : AV} (hu : IsI u) (hv : IsI v) : EvC env 57 [.agg [.int .i64 n, u, v]] (.bool (decide (PPart n (xsOf u) (xsOf v)))) := by
  refine evC_of (F := Try.f57) rfl rfl (Nat.le_of_ble_eq_true rfl) ?_
  have := hu.len
  have := hv.len
  repeat' (first | (apply br_intro <;> intro hb <;> (have hb2 := hb) <;> (try simp [-Int.not_le, -Int.not_lt, -Nat.not_le, -Nat.not_lt, -Nat.add_left_cancel_iff] at hb2)) | (refine draw_listA (by rfl) (by kernel_rfl) ?_) | (refine draw_listB (by simp [allocsOf, isAlloc]; rfl) (by kernel_rfl) ?_) | simp (maxSteps := 2000000) (disch := first | omega | assumption | simp [*]) [*, -Int.not_le, -Int.not_lt, -Nat.not_le, -Nat.not_lt, -Nat.add_left_cancel_iff, wrap_i64, wrap_u64, Try.f57, isI_cells hu, isI_one hu, isI_low hu, isI_len hu, isI_index hu, isI_load hu, isI_cells hv, isI_one hv, isI_low hv, isI_len hv, isI_index hv, isI_load hv])
  · intro h; have := h.1.2.2.1; omega
  rotate_left
  · intro h; exact absurd h.2.2.1 (by omega)
  have hlen : (xsOf u).length = (xsOf v).length := by omega
  refine W_loopP (xsOf u).length (fun i s => s 3 = .int .i64 i ∧ s 1 = .vp 1 0 0 ∧ ∀ j, j < i → PSet n (nth (xsOf u) j) = true ∧ PSet n (nth (xsOf v) j) = true ∧ (nth (xsOf u) j).toNat &&& (nth (xsOf v) j).toNat = 0) rfl ?_ ?_
  · simp
  rintro i s hi ⟨h3, h1, hj⟩
  by_cases hi2 : i < (xsOf u).length
  · have hi3 : i < (xsOf v).length := by omega
    by_cases hpu : PSet n (nth (xsOf u) i) = true
    · by_cases hpv : PSet n (nth (xsOf v) i) = true
      · have b1 := pset_lt hpu
        have b2 := pset_lt hpv
        repeat' (first | (apply br_intro <;> intro hb <;> (have hb2 := hb) <;> (try simp [-Int.not_le, -Int.not_lt, -Nat.not_le, -Nat.not_lt, -Nat.add_left_cancel_iff] at hb2)) | (refine draw_listA (by rfl) (by kernel_rfl) ?_) | (refine draw_listB (by simp [allocsOf, isAlloc]; rfl) (by kernel_rfl) ?_) | simp (maxSteps := 2000000) (disch := first | omega | assumption | simp [*]) [*, -Int.not_le, -Int.not_lt, -Nat.not_le, -Nat.not_lt, -Nat.add_left_cancel_iff, wrap_i64, wrap_u64, h3, h1, bits_and, isI_cells hu, isI_one hu, isI_low hu, isI_len hu, isI_index hu, isI_load hu, isI_cells hv, isI_one hv, isI_low hv, isI_len hv, isI_index hv, isI_load hv])
        · intro h; exact hb2 (h.2.2.2.2 i hi2)
        · intro j hj2
          by_cases e : j = i
          · subst e; exact ⟨hpu, hpv, hb2⟩
          · exact hj j (by omega)
      · repeat' (first | (apply br_intro <;> intro hb <;> (have hb2 := hb) <;> (try simp [-Int.not_le, -Int.not_lt, -Nat.not_le, -Nat.not_lt, -Nat.add_left_cancel_iff] at hb2)) | (refine draw_listA (by rfl) (by kernel_rfl) ?_) | (refine draw_listB (by simp [allocsOf, isAlloc]; rfl) (by kernel_rfl) ?_) | simp (maxSteps := 2000000) (disch := first | omega | assumption | simp [*]) [*, -Int.not_le, -Int.not_lt, -Nat.not_le, -Nat.not_lt, -Nat.add_left_cancel_iff, wrap_i64, wrap_u64, h3, h1, isI_cells hu, isI_one hu, isI_low hu, isI_len hu, isI_index hu, isI_load hu, isI_cells hv, isI_one hv, isI_low hv, isI_len hv, isI_index hv, isI_load hv])
        intro h; exact hpv (h.2.1.2.2.2 i hi3)
    · repeat' (first | (apply br_intro <;> intro hb <;> (have hb2 := hb) <;> (try simp [-Int.not_le, -Int.not_lt, -Nat.not_le, -Nat.not_lt, -Nat.add_left_cancel_iff] at hb2)) | (refine draw_listA (by rfl) (by kernel_rfl) ?_) | (refine draw_listB (by simp [allocsOf, isAlloc]; rfl) (by kernel_rfl) ?_) | simp (maxSteps := 2000000) (disch := first | omega | assumption | simp [*]) [*, -Int.not_le, -Int.not_lt, -Nat.not_le, -Nat.not_lt, -Nat.add_left_cancel_iff, wrap_i64, wrap_u64, h3, h1, isI_cells hu, isI_one hu, isI_low hu, isI_len hu, isI_index hu, isI_load hu, isI_cells hv, isI_one hv, isI_low hv, isI_len hv, isI_index hv, isI_load hv])
      intro h; exact hpu (h.1.2.2.2 i hi2)
  · obtain rfl : i = (xsOf u).length := by omega
    repeat' (first | (apply br_intro <;> intro hb <;> (have hb2 := hb) <;> (try simp [-Int.not_le, -Int.not_lt, -Nat.not_le, -Nat.not_lt, -Nat.add_left_cancel_iff] at hb2)) | (refine draw_listA (by rfl) (by kernel_rfl) ?_) | (refine draw_listB (by simp [allocsOf, isAlloc]; rfl) (by kernel_rfl) ?_) | simp (maxSteps := 2000000) (disch := first | omega | assumption | simp [*]) [*, -Int.not_le, -Int.not_lt, -Nat.not_le, -Nat.not_lt, -Nat.add_left_cancel_iff, wrap_i64, wrap_u64, h3, h1, isI_cells hu, isI_one hu, isI_low hu, isI_len hu, isI_index hu, isI_load hu, isI_cells hv, isI_one hv, isI_low hv, isI_len hv, isI_index hv, isI_load hv])
    · have hc : PCtx n (xsOf u) ∧ PCtx n (xsOf v) := ⟨⟨hb2.1, hb2.2, by omega, fun k hk => (hj k hk).1⟩, ⟨hb2.1, hb2.2, by omega, fun k hk => (hj k (by omega)).2.1⟩⟩
      constructor
      · intro h; exact ⟨hc.1, hc.2, hlen, by omega, fun k hk => (hj k hk).2.2⟩
      · intro h; have := h.2.2.2.1; omega
    · intro h; have := h.1.1; have := h.1.2.1; grind
theorem sIsPartial_s {n : Int} {u v : AV} (hu : IsI u) (hv : IsI v) {K : AV → Prop} {tg : Tg K} : CW env 57 [.agg [.int .i64 n, u, v]] K tg ↔ K (.bool (decide (PPart n (xsOf u) (xsOf v)))) := callsTo_iff (sIsPartial_c hu hv)
attribute [simp] sIsPartial_s
end Go.Proofs.Ytkkkgaapkibhkaa
