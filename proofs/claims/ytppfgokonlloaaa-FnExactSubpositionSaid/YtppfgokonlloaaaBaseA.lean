/- XSet XLaw XOrder XCtx XPart, joined. Conditions: none. -/
import Derived.Test.YtppfgokonlloaaaEnv
import Derived.Test.YtppfgokonlloaaaEvBits
import Derived.Test.YtppfgokonlloaaaEvOpen
/- Small functions on numbers and sets. Conditions: none. -/
namespace Go.Proofs.Ytppfgokonlloaaa
open Ev
set_option linter.unusedVariables false
set_option linter.unusedSimpArgs false

/-- a set of the first n elements -/
def PSet (n s : Int) : Bool := decide (0 ≤ n ∧ n ≤ 8 ∧ 0 ≤ s ∧ s < 2 ^ n.toNat)
theorem pset_iff {n s : Int} : PSet n s = true ↔ (0 ≤ n ∧ n ≤ 8 ∧ 0 ≤ s ∧ s < 2 ^ n.toNat) := by simp [PSet]
theorem pset_lt {n s : Int} (h : PSet n s = true) : 0 ≤ s ∧ s < 256 := by
  obtain ⟨h1, h2, h3, h4⟩ := pset_iff.mp h
  have := pow8 h2
  omega
theorem pset8 {n s : Int} (h : PSet n s = true) : PSet 8 s = true := by
  have := pset_lt h
  rw [pset_iff]; simp; omega
/-- whether all of s is in t -/
def PSub (s t : Int) : Bool := decide (s.toNat &&& t.toNat = s.toNat)
theorem psub_and {s t : Int} (h : 0 ≤ s) : ((s.toNat &&& t.toNat : Nat) : Int) = s ↔ PSub s t = true := by
  simp only [PSub, decide_eq_true_eq]
  constructor <;> intro h1 <;> omega
theorem psub_diff {s t : Int} : (diff s.toNat t.toNat = 0) ↔ PSub s t = true := by
  simp only [PSub, decide_eq_true_eq]
  constructor
  · intro h
    apply Nat.eq_of_testBit_eq
    intro i
    have := congrArg (fun x => Nat.testBit x i) h
    simp only [diff_testBit, Nat.zero_testBit] at this
    rw [Nat.testBit_and]
    cases hs : s.toNat.testBit i <;> simp [hs] at this ⊢
    exact this
  · intro h
    apply Nat.eq_of_testBit_eq
    intro i
    have := congrArg (fun x => Nat.testBit x i) h
    simp only [Nat.testBit_and] at this
    rw [diff_testBit, Nat.zero_testBit]
    cases hs : s.toNat.testBit i <;> simp [hs] at this ⊢
    exact this
/-- whether a set has an element -/
def PHas (s e : Int) : Bool := decide (s / 2 ^ e.toNat % 2 = 1)
theorem phas_bit {s e : Int} (h : 0 ≤ s) : PHas s e = s.toNat.testBit e.toNat := half_testBit h _
theorem phas_lt {n s : Int} {m : Nat} (h : PSet n s = true) (hm : PHas s m = true) : (m : Int) < n := by
  obtain ⟨h1, h2, h3, h4⟩ := pset_iff.mp h
  simp only [PHas, decide_eq_true_eq, Int.toNat_natCast] at hm
  rcases Int.lt_or_le m n with h5 | h5
  · exact h5
  · have : (2 : Int) ^ n.toNat ≤ 2 ^ m := two_pow_le (by omega)
    rw [Int.ediv_eq_zero_of_lt h3 (by omega)] at hm
    simp at hm

theorem within_c {n lo hi : Int} : EvC env 55 [.int .i64 n, .int .i64 lo, .int .i64 hi] (.bool (decide (lo ≤ n) && decide (n ≤ hi))) := by
  refine evC_of (F := Try.f55) rfl rfl (Nat.le_of_ble_eq_true rfl) ?_
  repeat' (first | (apply brI <;> intro hb hb2 <;> (try simp [-Int.not_le, -Int.not_lt, -Nat.not_le, -Nat.not_lt, -Nat.add_left_cancel_iff] at hb2)) | (refine draw_listA (by rfl) (by kernel_rfl) ?_) | (refine draw_listB (by simp [allocsOf, isAlloc]; rfl) (by kernel_rfl) ?_) | simp (maxSteps := 2000000) (disch := first | omega | assumption | simp [*]) [*, -Int.not_le, -Int.not_lt, -Nat.not_le, -Nat.not_lt, -Nat.add_left_cancel_iff, wrap_i64, wrap_u64, Try.f55])
theorem within_s {n lo hi : Int} {K : AV → Prop} {tg : Tg K} : CW env 55 [.int .i64 n, .int .i64 lo, .int .i64 hi] K tg ↔ K (.bool (decide (lo ≤ n) && decide (n ≤ hi))) := callsTo_iff (within_c )
attribute [simp] within_s
theorem l1In_c {n lo hi : Int} : EvC env 54 [.int .i64 n, .int .i64 lo, .int .i64 hi] (.bool (decide (lo ≤ n) && decide (n ≤ hi))) := by
  refine evC_of (F := Try.f54) rfl rfl (Nat.le_of_ble_eq_true rfl) ?_
  repeat' (first | (apply brI <;> intro hb hb2 <;> (try simp [-Int.not_le, -Int.not_lt, -Nat.not_le, -Nat.not_lt, -Nat.add_left_cancel_iff] at hb2)) | (refine draw_listA (by rfl) (by kernel_rfl) ?_) | (refine draw_listB (by simp [allocsOf, isAlloc]; rfl) (by kernel_rfl) ?_) | simp (maxSteps := 2000000) (disch := first | omega | assumption | simp [*]) [*, -Int.not_le, -Int.not_lt, -Nat.not_le, -Nat.not_lt, -Nat.add_left_cancel_iff, wrap_i64, wrap_u64, Try.f54])
theorem l1In_s {n lo hi : Int} {K : AV → Prop} {tg : Tg K} : CW env 54 [.int .i64 n, .int .i64 lo, .int .i64 hi] K tg ↔ K (.bool (decide (lo ≤ n) && decide (n ≤ hi))) := callsTo_iff (l1In_c )
attribute [simp] l1In_s
theorem sIsSet_c {n s : Int} : EvC env 53 [.int .i64 n, .int .i64 s] (.bool (PSet n s)) := by
  refine evC_of (F := Try.f53) rfl rfl (Nat.le_of_ble_eq_true rfl) ?_
  repeat' (first | (apply brI <;> intro hb hb2 <;> (try simp [-Int.not_le, -Int.not_lt, -Nat.not_le, -Nat.not_lt, -Nat.add_left_cancel_iff] at hb2)) | (refine draw_listA (by rfl) (by kernel_rfl) ?_) | (refine draw_listB (by simp [allocsOf, isAlloc]; rfl) (by kernel_rfl) ?_) | simp (maxSteps := 2000000) (disch := first | omega | assumption | simp [*]) [*, -Int.not_le, -Int.not_lt, -Nat.not_le, -Nat.not_lt, -Nat.add_left_cancel_iff, wrap_i64, wrap_u64, Try.f53])
  · rw [Bool.eq_iff_iff, pset_iff]; simp; omega
  · rw [← Bool.not_eq_true, pset_iff]; omega
theorem sIsSet_s {n s : Int} {K : AV → Prop} {tg : Tg K} : CW env 53 [.int .i64 n, .int .i64 s] K tg ↔ K (.bool (PSet n s)) := callsTo_iff (sIsSet_c )
attribute [simp] sIsSet_s
theorem iIsSet_c {n s : Int} : EvC env 58 [.int .i64 n, .int .i64 s] (.bool (PSet n s)) := by
  refine evC_of (F := Try.f58) rfl rfl (Nat.le_of_ble_eq_true rfl) ?_
  repeat' (first | (apply brI <;> intro hb hb2 <;> (try simp [-Int.not_le, -Int.not_lt, -Nat.not_le, -Nat.not_lt, -Nat.add_left_cancel_iff] at hb2)) | (refine draw_listA (by rfl) (by kernel_rfl) ?_) | (refine draw_listB (by simp [allocsOf, isAlloc]; rfl) (by kernel_rfl) ?_) | simp (maxSteps := 2000000) (disch := first | omega | assumption | simp [*]) [*, -Int.not_le, -Int.not_lt, -Nat.not_le, -Nat.not_lt, -Nat.add_left_cancel_iff, wrap_i64, wrap_u64, Try.f58])
  · rw [Bool.eq_iff_iff, pset_iff]; simp; omega
  · rw [← Bool.not_eq_true, pset_iff]; omega
theorem iIsSet_s {n s : Int} {K : AV → Prop} {tg : Tg K} : CW env 58 [.int .i64 n, .int .i64 s] K tg ↔ K (.bool (PSet n s)) := callsTo_iff (iIsSet_c )
attribute [simp] iIsSet_s

end Go.Proofs.Ytppfgokonlloaaa
/- What the laws do with slices of numbers. Conditions: none. -/
namespace Go.Proofs.Ytppfgokonlloaaa
open Ev
set_option linter.unusedVariables false
set_option linter.unusedSimpArgs false

theorem szIntS_c {v : AV} {n : Int} (hv : IsI v) (h0 : 0 ≤ n) (h1 : n ≤ 1048576) : EvC env 27 [v, .int .i64 n] (.int .i64 (if n < (xsOf v).length then -1 else n - (xsOf v).length)) := by
  refine evC_of (F := Try.f27) rfl rfl (Nat.le_of_ble_eq_true rfl) ?_
  have := hv.len
  unfold top63 at this
  repeat' (first | (apply brI <;> intro hb hb2 <;> (try simp [-Int.not_le, -Int.not_lt, -Nat.not_le, -Nat.not_lt, -Nat.add_left_cancel_iff] at hb2)) | (refine draw_listA (by rfl) (by kernel_rfl) ?_) | (refine draw_listB (by simp [allocsOf, isAlloc]; rfl) (by kernel_rfl) ?_) | simp (maxSteps := 2000000) (disch := first | omega | assumption | simp [*]) [*, -Int.not_le, -Int.not_lt, -Nat.not_le, -Nat.not_lt, -Nat.add_left_cancel_iff, wrap_i64, wrap_u64, Try.f27, isI_len hv, isI_low hv])
  · omega
  · omega
theorem szIntS_s {v : AV} {n : Int} (hv : IsI v) (h0 : 0 ≤ n) (h1 : n ≤ 1048576) {K : AV → Prop} {tg : Tg K} : CW env 27 [v, .int .i64 n] K tg ↔ K (.int .i64 (if n < (xsOf v).length then -1 else n - (xsOf v).length)) := callsTo_iff (szIntS_c hv h0 h1)
attribute [simp] szIntS_s
theorem take_all {xs ys : List Int} (hl : ys.length = xs.length) (h : ∀ j, j < xs.length → ys[j]? = xs[j]?) : ys = xs :=
  List.ext_getElem? fun j => if hj : j < xs.length then h j hj else by simp [List.getElem?_eq_none (Nat.le_of_not_lt hj), List.getElem?_eq_none (hl ▸ Nat.le_of_not_lt hj)]
theorem toIntS_c {v : AV} (hv : IsI v) (hl : (xsOf v).length ≤ 1048576) : EvC env 29 [v] (rowR 1 3 7 (ints (xsOf v))) := by
  refine evC_of (F := Try.f29) rfl rfl (Nat.le_of_ble_eq_true rfl) ?_
  have := hv.len
  repeat' (first | (apply brI <;> intro hb hb2 <;> (try simp [-Int.not_le, -Int.not_lt, -Nat.not_le, -Nat.not_lt, -Nat.add_left_cancel_iff] at hb2)) | (refine draw_listA (by rfl) (by kernel_rfl) ?_) | (refine draw_listB (by simp [allocsOf, isAlloc]; rfl) (by kernel_rfl) ?_) | simp (maxSteps := 2000000) (disch := first | omega | assumption | simp [*]) [*, -Int.not_le, -Int.not_lt, -Nat.not_le, -Nat.not_lt, -Nat.add_left_cancel_iff, wrap_i64, wrap_u64, Try.f29, isI_len hv, isI_low hv])
  refine W_loopG (xsOf v).length (fun i s h => s 4 = .int .i64 i ∧ s 0 = v ∧ s 3 = .ms 7 0 0 (xsOf v).length ∧
    ∃ ys, h = hset hnil 7 (.row 0 3 1 (ints ys)) ∧ ys.length = (xsOf v).length ∧ ∀ j, j < i → ys[j]? = (xsOf v)[j]?) ?_ ?_
  · simp
    exact ⟨_, rfl, by simp⟩
  rintro i s h hi ⟨h4, h0, h3, ys, rfl, hy, hj⟩
  repeat' (first | (apply brI <;> intro hb hb2 <;> (try simp [-Int.not_le, -Int.not_lt, -Nat.not_le, -Nat.not_lt, -Nat.add_left_cancel_iff] at hb2)) | (refine draw_listA (by rfl) (by kernel_rfl) ?_) | (refine draw_listB (by simp [allocsOf, isAlloc]; rfl) (by kernel_rfl) ?_) | simp (maxSteps := 2000000) (disch := first | omega | assumption | simp [*]) [*, -Int.not_le, -Int.not_lt, -Nat.not_le, -Nat.not_lt, -Nat.add_left_cancel_iff, wrap_i64, wrap_u64, h4, h0, h3, isI_len hv, isI_index hv, isI_load hv])
  · exact ⟨_, rfl, by simp [hy], fun j hj2 => by
      by_cases e : j = i
      · subst e; rw [List.getElem?_set_self (by omega), nth_get? hb2]
      · rw [List.getElem?_set_ne (by omega)]; exact hj j (by omega)⟩
  · rw [take_all hy (fun j hj2 => hj j (by omega))]
theorem toIntS_s {v : AV} (hv : IsI v) (hl : (xsOf v).length ≤ 1048576) {K : AV → Prop} {tg : Tg K} : CW env 29 [v] K tg ↔ K (rowR 1 3 7 (ints (xsOf v))) := callsTo_iff (toIntS_c hv hl)
attribute [simp] toIntS_s

theorem eqIntS_c {u v : AV} (hu : IsI u) (hv : IsI v) : EvC env 33 [u, v] (.bool (decide (xsOf u = xsOf v))) := by
  refine evC_of (F := Try.f33) rfl rfl (Nat.le_of_ble_eq_true rfl) ?_
  have := hu.len
  have := hv.len
  repeat' (first | (apply brI <;> intro hb hb2 <;> (try simp [-Int.not_le, -Int.not_lt, -Nat.not_le, -Nat.not_lt, -Nat.add_left_cancel_iff] at hb2)) | (refine draw_listA (by rfl) (by kernel_rfl) ?_) | (refine draw_listB (by simp [allocsOf, isAlloc]; rfl) (by kernel_rfl) ?_) | simp (maxSteps := 2000000) (disch := first | omega | assumption | simp [*]) [*, -Int.not_le, -Int.not_lt, -Nat.not_le, -Nat.not_lt, -Nat.add_left_cancel_iff, wrap_i64, wrap_u64, Try.f33, isI_len hu, isI_low hu, isI_len hv, isI_low hv])
  · intro e; exact hb2 (by rw [e])
  refine W_loopP (xsOf u).length (fun i s => s 5 = .int .i64 i ∧ s 0 = u ∧ s 1 = v ∧ ∀ j, j < i → (xsOf u)[j]? = (xsOf v)[j]?) rfl ?_ ?_
  · simp
  rintro i s hi ⟨h4, h0, h1, hj⟩
  repeat' (first | (apply brI <;> intro hb hb2 <;> (try simp [-Int.not_le, -Int.not_lt, -Nat.not_le, -Nat.not_lt, -Nat.add_left_cancel_iff] at hb2)) | (refine draw_listA (by rfl) (by kernel_rfl) ?_) | (refine draw_listB (by simp [allocsOf, isAlloc]; rfl) (by kernel_rfl) ?_) | simp (maxSteps := 2000000) (disch := first | omega | assumption | simp [*]) [*, -Int.not_le, -Int.not_lt, -Nat.not_le, -Nat.not_lt, -Nat.add_left_cancel_iff, wrap_i64, wrap_u64, h4, h0, h1, isI_len hu, isI_index hu, isI_load hu, isI_index hv, isI_load hv])
  · intro e; apply hb2; rw [e]
  · refine ⟨by omega, fun j hj2 => ?_⟩
    by_cases e : j = i
    · subst e; rw [nth_get? (by omega), nth_get? (by omega), hb2]
    · exact hj j (by omega)
  · exact (take_all (by omega) (fun j hj2 => (hj j (by omega)).symm)).symm
theorem eqIntS_s {u v : AV} (hu : IsI u) (hv : IsI v) {K : AV → Prop} {tg : Tg K} : CW env 33 [u, v] K tg ↔ K (.bool (decide (xsOf u = xsOf v))) := callsTo_iff (eqIntS_c hu hv)
attribute [simp] eqIntS_s

end Go.Proofs.Ytppfgokonlloaaa
/- What is an order: the reference's answer and the program's. Conditions: none. -/
namespace Go.Proofs.Ytppfgokonlloaaa
open Ev
set_option linter.unusedVariables false
set_option linter.unusedSimpArgs false
set_option maxHeartbeats 4000000

def OrdK (b : List Int) (k : Nat) : Prop := PSet b.length (nth b k) = true ∧ PHas (nth b k) k = true
def OrdP (b : List Int) (x y : Nat) : Prop := PHas (nth b x) y = true → PSub (nth b y) (nth b x) = true ∧ (x ≠ y → PHas (nth b y) x = false)
def POrder (b : List Int) : Prop := b.length ≤ 6 ∧ (∀ k, k < b.length → OrdK b k) ∧ ∀ x y, x < b.length → y < b.length → OrdP b x y
noncomputable instance (b : List Int) : Decidable (POrder b) := Classical.propDecidable _

/-- the elements of a set, below n -/
def elemsTo (s : Int) (n : Nat) : List Int := ((List.range n).filter fun (e : Nat) => PSet 8 s && PHas s e).map Int.ofNat
theorem elemsTo_succ (s : Int) (i : Nat) : elemsTo s (i + 1) = elemsTo s i ++ if (PSet 8 s && PHas s i) = true then [(i : Int)] else [] := by
  unfold elemsTo
  rw [List.range_succ, List.filter_append, List.map_append]
  congr 1
  simp only [List.filter_cons, List.filter_nil]
  split <;> rfl
theorem elemsTo_len (s : Int) (i : Nat) : (elemsTo s i).length ≤ i := by
  unfold elemsTo
  rw [List.length_map]
  exact Nat.le_trans (List.length_filter_le ..) (by simp)
theorem mem_elems {s : Int} {e : Nat} (h : e < (elemsTo s 8).length) : ∃ m : Nat, nth (elemsTo s 8) e = m ∧ m < 8 ∧ PSet 8 s = true ∧ PHas s m = true := by
  have := List.getElem_mem h
  rw [← nth_eq h] at this
  unfold elemsTo at this
  simp only [List.mem_map, List.mem_filter, List.mem_range, Bool.and_eq_true] at this
  obtain ⟨m, ⟨h1, h2, h3⟩, h4⟩ := this
  exact ⟨m, h4.symm, h1, h2, h3⟩
theorem elems_mem {s : Int} {m : Nat} (h1 : m < 8) (h2 : PSet 8 s = true) (h3 : PHas s m = true) : ∃ e, e < (elemsTo s 8).length ∧ nth (elemsTo s 8) e = m := by
  have : (m : Int) ∈ elemsTo s 8 := by
    unfold elemsTo
    simp only [List.mem_map, List.mem_filter, List.mem_range, Bool.and_eq_true]
    exact ⟨m, ⟨h1, h2, h3⟩, rfl⟩
  obtain ⟨e, he, h⟩ := List.getElem_of_mem this
  exact ⟨e, he, by rw [nth_eq he, h]⟩


end Go.Proofs.Ytppfgokonlloaaa
/- Contexts: what is one, and what the laws do with them. Conditions: none. -/
namespace Go.Proofs.Ytppfgokonlloaaa
open Ev
set_option linter.unusedVariables false
set_option linter.unusedSimpArgs false
set_option maxHeartbeats 4000000

/-- what is a context -/
def PCtx (n : Int) (xs : List Int) : Prop := 0 ≤ n ∧ n ≤ 6 ∧ xs.length ≤ 8 ∧ ∀ k, k < xs.length → PSet n (nth xs k) = true
noncomputable instance (n : Int) (xs : List Int) : Decidable (PCtx n xs) := Classical.propDecidable _
theorem pctx_row {n : Int} {xs : List Int} (h : PCtx n xs) {k : Nat} (hk : k < xs.length) : 0 ≤ nth xs k ∧ nth xs k < 2 ^ n.toNat ∧ nth xs k < 256 := by
  have h1 := h.2.2.2 k hk
  obtain ⟨a, b, c, d⟩ := pset_iff.mp h1
  have := pset_lt h1
  exact ⟨c, d, this.2⟩
theorem mul_pow_le {y n : Int} (h0 : 0 ≤ y) (h1 : y ≤ 256) (hn : n ≤ 8) : 0 ≤ y * 2 ^ n.toNat ∧ y * 2 ^ n.toNat ≤ 65536 := by
  have := pow8 hn
  have hp := pow_pos2 n.toNat
  refine ⟨Int.mul_nonneg h0 (Int.le_of_lt hp), ?_⟩
  have := Int.mul_le_mul h1 this (Int.le_of_lt hp) (by decide)
  omega

theorem sIsContext_c {n : Int} {v : AV} (hv : IsI v) : EvC env 28 [.agg [.int .i64 n, v]] (.bool (decide (PCtx n (xsOf v)))) := by
  refine evC_of (F := Try.f28) rfl rfl (Nat.le_of_ble_eq_true rfl) ?_
  have := hv.len
  repeat' (first | (apply brI <;> intro hb hb2 <;> (try simp [-Int.not_le, -Int.not_lt, -Nat.not_le, -Nat.not_lt, -Nat.add_left_cancel_iff] at hb2)) | (refine draw_listA (by rfl) (by kernel_rfl) ?_) | (refine draw_listB (by simp [allocsOf, isAlloc]; rfl) (by kernel_rfl) ?_) | simp (maxSteps := 2000000) (disch := first | omega | assumption | simp [*]) [*, -Int.not_le, -Int.not_lt, -Nat.not_le, -Nat.not_lt, -Nat.add_left_cancel_iff, wrap_i64, wrap_u64, Try.f28, isI_cells hv, isI_one hv, isI_low hv, isI_len hv])
  refine W_loopP (xsOf v).length (fun i s => s 3 = .int .i64 i ∧ s 1 = .vp 1 0 0 ∧ ∀ j, j < i → PSet n (nth (xsOf v) j) = true) rfl ?_ ?_
  · simp
  rintro i s hi ⟨h3, h1, hj⟩
  repeat' (first | (apply brI <;> intro hb hb2 <;> (try simp [-Int.not_le, -Int.not_lt, -Nat.not_le, -Nat.not_lt, -Nat.add_left_cancel_iff] at hb2)) | (refine draw_listA (by rfl) (by kernel_rfl) ?_) | (refine draw_listB (by simp [allocsOf, isAlloc]; rfl) (by kernel_rfl) ?_) | simp (maxSteps := 2000000) (disch := first | omega | assumption | simp [*]) [*, -Int.not_le, -Int.not_lt, -Nat.not_le, -Nat.not_lt, -Nat.add_left_cancel_iff, wrap_i64, wrap_u64, h3, h1, isI_cells hv, isI_one hv, isI_low hv, isI_len hv, isI_index hv, isI_load hv])
  all_goals grind [PCtx]
theorem sIsContext_s {n : Int} {v : AV} (hv : IsI v) {K : AV → Prop} {tg : Tg K} : CW env 28 [.agg [.int .i64 n, v]] K tg ↔ K (.bool (decide (PCtx n (xsOf v)))) := callsTo_iff (sIsContext_c hv)
attribute [simp] sIsContext_s
/-- the first place where p holds -/
def idxI (p : Int → Bool) (xs : List Int) : Int := match xs.findIdx? p with | some i => (i : Int) | none => -1
theorem idxI_none {p : Int → Bool} {xs : List Int} (h : ∀ j, j < xs.length → p (nth xs j) = false) : idxI p xs = -1 := by
  unfold idxI
  rw [List.findIdx?_eq_none_iff.mpr]
  intro x hx
  obtain ⟨j, hj, rfl⟩ := List.getElem_of_mem hx
  have := h j hj
  rw [nth_eq hj] at this
  simpa using this
theorem idxI_some {p : Int → Bool} {xs : List Int} {i : Nat} (hi : i < xs.length) (hp : p (nth xs i) = true) (h : ∀ j, j < i → p (nth xs j) = false) : idxI p xs = i := by
  unfold idxI
  rw [List.findIdx?_eq_some_iff_getElem.mpr]
  exact ⟨hi, by rwa [nth_eq hi] at hp, fun j hj => by have := h j hj; rw [nth_eq (by omega)] at this; simpa using this⟩
theorem idxI_any {p : Int → Bool} {xs : List Int} : (0 ≤ idxI p xs) ↔ xs.any p = true := by
  unfold idxI
  cases h : xs.findIdx? p with
  | none =>
    simp only [List.findIdx?_eq_none_iff] at h
    simp; exact h
  | some i =>
    rw [List.findIdx?_eq_some_iff_getElem] at h
    obtain ⟨hi, hp, _⟩ := h
    simp only [List.any_eq_true]
    exact ⟨fun _ => ⟨xs[i], List.getElem_mem hi, hp⟩, fun _ => Int.natCast_nonneg i⟩
theorem indexFunc_c {v : AV} {g : Nat} {caps : List AV} {p : Int → Bool} (hv : IsI v) (hx : env.ext g = none) (ho : env.open_ g = false) (hdp : env.deep g = false) (hl : ∀ h, lows h caps = caps) (hp : ∀ x, EvC env g (.int .i64 x :: caps) (.bool (p x))) : EvC env 68 [v, .fn g caps] (.int .i64 (idxI p (xsOf v))) := by
  refine evC_of (F := Try.f68) rfl rfl (Nat.le_of_ble_eq_true rfl) ?_
  have := hv.len
  have hp2 : ∀ (x : Int) (K : AV → Prop) (tg : Tg K), CW env g (.int .i64 x :: caps) K tg ↔ K (.bool (p x)) := fun x K tg => callsTo_iff (hp x)
  repeat' (first | (apply brI <;> intro hb hb2 <;> (try simp [-Int.not_le, -Int.not_lt, -Nat.not_le, -Nat.not_lt, -Nat.add_left_cancel_iff] at hb2)) | (refine draw_listA (by rfl) (by kernel_rfl) ?_) | (refine draw_listB (by simp [allocsOf, isAlloc]; rfl) (by kernel_rfl) ?_) | simp (maxSteps := 2000000) (disch := first | omega | assumption | simp [*]) [*, -Int.not_le, -Int.not_lt, -Nat.not_le, -Nat.not_lt, -Nat.add_left_cancel_iff, wrap_i64, wrap_u64, Try.f68, isI_len hv])
  refine W_loopG (xsOf v).length (fun i s h => h = hnil ∧ s 8 = .int .i64 i ∧ s 7 = .int .i64 (xsOf v).length ∧ s 0 = v ∧ s 1 = .fn g caps ∧ ∀ j, j < i → p (nth (xsOf v) j) = false) ?_ ?_
  · simp
  rintro i s h hi ⟨rfl, h8, h7, h0, h1, hj⟩
  repeat' (first | (apply brI <;> intro hb hb2 <;> (try simp [-Int.not_le, -Int.not_lt, -Nat.not_le, -Nat.not_lt, -Nat.add_left_cancel_iff] at hb2)) | (refine draw_listA (by rfl) (by kernel_rfl) ?_) | (refine draw_listB (by simp [allocsOf, isAlloc]; rfl) (by kernel_rfl) ?_) | simp (maxSteps := 2000000) (disch := first | omega | assumption | simp [*]) [*, -Int.not_le, -Int.not_lt, -Nat.not_le, -Nat.not_lt, -Nat.add_left_cancel_iff, wrap_i64, wrap_u64, h8, h7, h0, h1, isI_len hv, isI_index hv, isI_load hv])
  · rw [idxI_some (by assumption) (by assumption) hj]
  · grind
  · rw [idxI_none]; grind
theorem indexFunc_s {v : AV} {g : Nat} {caps : List AV} {p : Int → Bool} (hv : IsI v) (hx : env.ext g = none) (ho : env.open_ g = false) (hdp : env.deep g = false) (hl : ∀ h, lows h caps = caps) (hp : ∀ x, EvC env g (.int .i64 x :: caps) (.bool (p x))) {K : AV → Prop} {tg : Tg K} : CW env 68 [v, .fn g caps] K tg ↔ K (.int .i64 (idxI p (xsOf v))) := callsTo_iff (indexFunc_c hv hx ho hdp hl hp)
attribute [simp] indexFunc_s
theorem containsFunc_c {v : AV} {g : Nat} {caps : List AV} {p : Int → Bool} (hv : IsI v) (hx : env.ext g = none) (ho : env.open_ g = false) (hdp : env.deep g = false) (hl : ∀ h, lows h caps = caps) (hp : ∀ x, EvC env g (.int .i64 x :: caps) (.bool (p x))) : EvC env 56 [v, .fn g caps] (.bool ((xsOf v).any p)) := by
  refine evC_of (F := Try.f56) rfl rfl (Nat.le_of_ble_eq_true rfl) ?_
  have := hv.len
  repeat' (first | (apply brI <;> intro hb hb2 <;> (try simp [-Int.not_le, -Int.not_lt, -Nat.not_le, -Nat.not_lt, -Nat.add_left_cancel_iff] at hb2)) | (refine draw_listA (by rfl) (by kernel_rfl) ?_) | (refine draw_listB (by simp [allocsOf, isAlloc]; rfl) (by kernel_rfl) ?_) | simp (maxSteps := 2000000) (disch := first | omega | assumption | simp [*]) [*, -Int.not_le, -Int.not_lt, -Nat.not_le, -Nat.not_lt, -Nat.add_left_cancel_iff, wrap_i64, wrap_u64, Try.f56, isI_low hv, low_fn])
  rw [Bool.eq_iff_iff, ← idxI_any]; simp
theorem containsFunc_s {v : AV} {g : Nat} {caps : List AV} {p : Int → Bool} (hv : IsI v) (hx : env.ext g = none) (ho : env.open_ g = false) (hdp : env.deep g = false) (hl : ∀ h, lows h caps = caps) (hp : ∀ x, EvC env g (.int .i64 x :: caps) (.bool (p x))) {K : AV → Prop} {tg : Tg K} : CW env 56 [v, .fn g caps] K tg ↔ K (.bool ((xsOf v).any p)) := callsTo_iff (containsFunc_c hv hx ho hdp hl hp)
attribute [simp] containsFunc_s
theorem iIsContext1_c {n s : Int} {v : AV} : EvC env 57 [.int .i64 s, .cp true [.int .i64 n, v] 0] (.bool (!PSet n s)) := by
  refine evC_of (F := Try.f57) rfl rfl (Nat.le_of_ble_eq_true rfl) ?_
  repeat' (first | (apply brI <;> intro hb hb2 <;> (try simp [-Int.not_le, -Int.not_lt, -Nat.not_le, -Nat.not_lt, -Nat.add_left_cancel_iff] at hb2)) | (refine draw_listA (by rfl) (by kernel_rfl) ?_) | (refine draw_listB (by simp [allocsOf, isAlloc]; rfl) (by kernel_rfl) ?_) | simp (maxSteps := 2000000) (disch := first | omega | assumption | simp [*]) [*, -Int.not_le, -Int.not_lt, -Nat.not_le, -Nat.not_lt, -Nat.add_left_cancel_iff, wrap_i64, wrap_u64, Try.f57])
theorem iIsContext1_s {n s : Int} {v : AV} {K : AV → Prop} {tg : Tg K} : CW env 57 [.int .i64 s, .cp true [.int .i64 n, v] 0] K tg ↔ K (.bool (!PSet n s)) := callsTo_iff (iIsContext1_c )
attribute [simp] iIsContext1_s
theorem iIsContext_c {n : Int} {v : AV} (hv : IsI v) : EvC env 30 [.agg [.int .i64 n, v]] (.bool (decide (PCtx n (xsOf v)))) := by
  refine evC_of (F := Try.f30) rfl rfl (Nat.le_of_ble_eq_true rfl) ?_
  have := hv.len
  have hcf : ∀ (K : AV → Prop) (tg : Tg K), CW env 56 [v, .fn 57 [.cp true [.int .i64 n, v] 0]] K tg ↔ K (.bool ((xsOf v).any fun s => !PSet n s)) :=
    fun K tg => callsTo_iff (containsFunc_c hv rfl rfl rfl (fun h => by simp) (fun x => iIsContext1_c))
  have hany : ((xsOf v).any fun s => !PSet n s) = false ↔ ∀ k, k < (xsOf v).length → PSet n (nth (xsOf v) k) = true := by
    simp only [List.any_eq_false, List.mem_iff_getElem]
    constructor
    · intro h k hk; have := h _ ⟨k, hk, rfl⟩; rw [nth_eq hk]; simpa using this
    · rintro h x ⟨k, hk, rfl⟩; have := h k hk; rw [nth_eq hk] at this; simpa using this
  repeat' (first | (apply brI <;> intro hb hb2 <;> (try simp [-Int.not_le, -Int.not_lt, -Nat.not_le, -Nat.not_lt, -Nat.add_left_cancel_iff] at hb2)) | (refine draw_listA (by rfl) (by kernel_rfl) ?_) | (refine draw_listB (by simp [allocsOf, isAlloc]; rfl) (by kernel_rfl) ?_) | simp (maxSteps := 2000000) (disch := first | omega | assumption | simp [*]) [*, -Int.not_le, -Int.not_lt, -Nat.not_le, -Nat.not_lt, -Nat.add_left_cancel_iff, wrap_i64, wrap_u64, Try.f30, isI_cells hv, isI_one hv, isI_low hv, isI_low0 hv, isI_len hv])
  · rw [Bool.eq_iff_iff]; simp; grind [PCtx]
  all_goals grind [PCtx]
theorem iIsContext_s {n : Int} {v : AV} (hv : IsI v) {K : AV → Prop} {tg : Tg K} : CW env 30 [.agg [.int .i64 n, v]] K tg ↔ K (.bool (decide (PCtx n (xsOf v)))) := callsTo_iff (iIsContext_c hv)
attribute [simp] iIsContext_s
/-- a context's slice, measured -/
theorem szContext_c {m : Int} {v : AV} {n : Int} (hv : IsI v) (h0 : 0 ≤ n) (h1 : n ≤ 1048576) : EvC env 8 [.agg [.int .i64 m, v], .int .i64 n] (.int .i64 (if n < (xsOf v).length then -1 else n - (xsOf v).length)) := by
  refine evC_of (F := Try.f8) rfl rfl (Nat.le_of_ble_eq_true rfl) ?_
  have := hv.len
  repeat' (first | (apply brI <;> intro hb hb2 <;> (try simp [-Int.not_le, -Int.not_lt, -Nat.not_le, -Nat.not_lt, -Nat.add_left_cancel_iff] at hb2)) | (refine draw_listA (by rfl) (by kernel_rfl) ?_) | (refine draw_listB (by simp [allocsOf, isAlloc]; rfl) (by kernel_rfl) ?_) | simp (maxSteps := 2000000) (disch := first | omega | assumption | simp [*]) [*, -Int.not_le, -Int.not_lt, -Nat.not_le, -Nat.not_lt, -Nat.add_left_cancel_iff, wrap_i64, wrap_u64, Try.f8, isI_cells hv, isI_one hv, isI_low hv])
  all_goals grind
theorem szContext_s {m : Int} {v : AV} {n : Int} (hv : IsI v) (h0 : 0 ≤ n) (h1 : n ≤ 1048576) {K : AV → Prop} {tg : Tg K} : CW env 8 [.agg [.int .i64 m, v], .int .i64 n] K tg ↔ K (.int .i64 (if n < (xsOf v).length then -1 else n - (xsOf v).length)) := callsTo_iff (szContext_c hv h0 h1)
attribute [simp] szContext_s
theorem toContext_c {m : Int} {v : AV} (hv : IsI v) (hl : (xsOf v).length ≤ 1048576) : EvC env 10 [.agg [.int .i64 m, v]] (.agg [.int .i64 m, rowR 1 3 9 (ints (xsOf v))]) := by
  refine evC_of (F := Try.f10) rfl rfl (Nat.le_of_ble_eq_true rfl) ?_
  have := hv.len
  repeat' (first | (apply brI <;> intro hb hb2 <;> (try simp [-Int.not_le, -Int.not_lt, -Nat.not_le, -Nat.not_lt, -Nat.add_left_cancel_iff] at hb2)) | (refine draw_listA (by rfl) (by kernel_rfl) ?_) | (refine draw_listB (by simp [allocsOf, isAlloc]; rfl) (by kernel_rfl) ?_) | simp (maxSteps := 2000000) (disch := first | omega | assumption | simp [*]) [*, -Int.not_le, -Int.not_lt, -Nat.not_le, -Nat.not_lt, -Nat.add_left_cancel_iff, wrap_i64, wrap_u64, Try.f10, isI_cells hv, isI_one hv, isI_low hv])
  refine cf_row (by simpa [isI_low hv] using toIntS_c hv hl) (ownR_row ..) (by simp) rfl ?_
  intro v2 h2 hR hh
  have o2 := hR.one
  have c2 := hR.cells
  repeat' (first | (apply brI <;> intro hb hb2 <;> (try simp [-Int.not_le, -Int.not_lt, -Nat.not_le, -Nat.not_lt, -Nat.add_left_cancel_iff] at hb2)) | (refine draw_listA (by rfl) (by kernel_rfl) ?_) | (refine draw_listB (by simp [allocsOf, isAlloc]; rfl) (by kernel_rfl) ?_) | simp (maxSteps := 2000000) (disch := first | omega | assumption | simp [*]) [*, -Int.not_le, -Int.not_lt, -Nat.not_le, -Nat.not_lt, -Nat.add_left_cancel_iff, wrap_i64, wrap_u64])
  rw [(hR.keep (by simp [hset])).expoI, rowX_row]
theorem toContext_s {m : Int} {v : AV} (hv : IsI v) (hl : (xsOf v).length ≤ 1048576) {K : AV → Prop} {tg : Tg K} : CW env 10 [.agg [.int .i64 m, v]] K tg ↔ K (.agg [.int .i64 m, rowR 1 3 9 (ints (xsOf v))]) := callsTo_iff (toContext_c hv hl)
attribute [simp] toContext_s
theorem eqContext_c {m m2 : Int} {u v : AV} (hu : IsI u) (hv : IsI v) : EvC env 12 [.agg [.int .i64 m, u], .agg [.int .i64 m2, v]] (.bool (decide (m = m2 ∧ xsOf u = xsOf v))) := by
  refine evC_of (F := Try.f12) rfl rfl (Nat.le_of_ble_eq_true rfl) ?_
  repeat' (first | (apply brI <;> intro hb hb2 <;> (try simp [-Int.not_le, -Int.not_lt, -Nat.not_le, -Nat.not_lt, -Nat.add_left_cancel_iff] at hb2)) | (refine draw_listA (by rfl) (by kernel_rfl) ?_) | (refine draw_listB (by simp [allocsOf, isAlloc]; rfl) (by kernel_rfl) ?_) | simp (maxSteps := 2000000) (disch := first | omega | assumption | simp [*]) [*, -Int.not_le, -Int.not_lt, -Nat.not_le, -Nat.not_lt, -Nat.add_left_cancel_iff, wrap_i64, wrap_u64, Try.f12, isI_cells hv, isI_one hv, isI_low hv, isI_cells hu, isI_one hu, isI_low hu])
theorem eqContext_s {m m2 : Int} {u v : AV} (hu : IsI u) (hv : IsI v) {K : AV → Prop} {tg : Tg K} : CW env 12 [.agg [.int .i64 m, u], .agg [.int .i64 m2, v]] K tg ↔ K (.bool (decide (m = m2 ∧ xsOf u = xsOf v))) := callsTo_iff (eqContext_c hu hv)
attribute [simp] eqContext_s
theorem checked_o {n : Int} {u w : AV} {h : Heap} {off : Nat} {K : AV → Heap → Prop} (o1 : u.one = true) (c1 : u.cells = [u]) (hl : ∀ h, low h u = w) (hw : IsI w) (hT : PCtx n (xsOf w) → ∀ h', (∀ x, x ≠ off + 1 → x ≠ off + 2 → h' x = h x) → K (.tup [.agg [.int .i64 n, u], .bool true]) h') (hF : ¬ PCtx n (xsOf w) → ∀ h', (∀ x, x ≠ off + 1 → x ≠ off + 2 → h' x = h x) → K (.tup [.agg [.int .i64 0, .sl 0 .lit []], .bool false]) h') : OpenTo env 31 [.agg [.int .i64 n, u]] h off K := by
  refine openTo_of (F := Try.f31) rfl rfl (Nat.le_of_ble_eq_true rfl) ?_
  repeat' (first | (apply brI <;> intro hb hb2 <;> (try simp [-Int.not_le, -Int.not_lt, -Nat.not_le, -Nat.not_lt, -Nat.add_left_cancel_iff] at hb2)) | (refine draw_listA (by rfl) (by kernel_rfl) ?_) | (refine draw_listB (by simp [allocsOf, isAlloc]; rfl) (by kernel_rfl) ?_) | simp (maxSteps := 2000000) (disch := first | omega | assumption | simp [*]) [*, -Int.not_le, -Int.not_lt, -Nat.not_le, -Nat.not_lt, -Nat.add_left_cancel_iff, wrap_i64, wrap_u64, Try.f31])
  · exact hF hb2 _ fun x g1 g2 => by simp [hset, g1, g2]
  · exact hT hb2 _ fun x g1 g2 => by simp [hset, g1, g2]
theorem markIntS_o {v : AV} {key T k0 : Nat} {xs : List Int} {k : Int} {h : Heap} {off : Nat} {K : AV → Heap → Prop} (hR : Row h key T 1 k0 v (ints xs)) (h0 : 0 ≤ k) (h1 : k + xs.length ≤ 4611686018427387904) (hK : ∀ h', Row h' key T 1 k0 v (ints (upTo k xs.length)) → (∀ x, x ≠ key → h' x = h x) → K (.int .i64 (k + xs.length)) h') : OpenTo env 34 [v, .int .i64 k] h off K := by
  refine openTo_of (F := Try.f34) rfl rfl (Nat.le_of_ble_eq_true rfl) ?_
  repeat' (first | (apply brI <;> intro hb hb2 <;> (try simp [-Int.not_le, -Int.not_lt, -Nat.not_le, -Nat.not_lt, -Nat.add_left_cancel_iff] at hb2)) | (refine draw_listA (by rfl) (by kernel_rfl) ?_) | (refine draw_listB (by simp [allocsOf, isAlloc]; rfl) (by kernel_rfl) ?_) | simp (maxSteps := 2000000) (disch := first | omega | assumption | simp [*]) [*, -Int.not_le, -Int.not_lt, -Nat.not_le, -Nat.not_lt, -Nat.add_left_cancel_iff, wrap_i64, wrap_u64, Try.f34])
  refine W_loopG xs.length (fun i s h' => s 5 = .int .i64 i ∧ s 0 = v ∧ s 1 = .int .i64 (k + i) ∧ (∀ x, x ≠ key → h' x = h x) ∧ ∃ ys, Row h' key T 1 k0 v (ints ys) ∧ ys.length = xs.length ∧ ∀ j, j < i → ys[j]? = some (k + (j : Int))) ?_ ?_
  · simp; exact ⟨xs, hR, rfl⟩
  rintro i s h2 hi ⟨h5, h0, h1, hh, ys, hR2, hy, hj⟩
  have hlen := fun E t ht => hR2.len (E := E) (t := t) ht
  by_cases hi2 : i < xs.length
  · rcases hR2 with ⟨e, _⟩ | ⟨hx, g, rfl, hg⟩
    · rw [show ys = [] by simpa using e] at hy; simp at hy; omega
    repeat' (first | (apply brI <;> intro hb hb2 <;> (try simp [-Int.not_le, -Int.not_lt, -Nat.not_le, -Nat.not_lt, -Nat.add_left_cancel_iff] at hb2)) | (refine draw_listA (by rfl) (by kernel_rfl) ?_) | (refine draw_listB (by simp [allocsOf, isAlloc]; rfl) (by kernel_rfl) ?_) | simp (maxSteps := 2000000) (disch := first | omega | assumption | simp [*]) [*, -Int.not_le, -Int.not_lt, -Nat.not_le, -Nat.not_lt, -Nat.add_left_cancel_iff, wrap_i64, wrap_u64, h5, h0, h1])
    refine ⟨by omega, fun x a b => absurd b a, ys.set i (k + i), .inr ⟨by simpa using hx, g, by simp [hy], by simp [hset]⟩, by simp [hy], fun j hj2 => ?_⟩
    by_cases e : j = i
    · subst e; rw [List.getElem?_set_self (by omega)]
    · rw [List.getElem?_set_ne (by omega)]; exact hj j (by omega)
  · obtain rfl : i = xs.length := by omega
    repeat' (first | (apply brI <;> intro hb hb2 <;> (try simp [-Int.not_le, -Int.not_lt, -Nat.not_le, -Nat.not_lt, -Nat.add_left_cancel_iff] at hb2)) | (refine draw_listA (by rfl) (by kernel_rfl) ?_) | (refine draw_listB (by simp [allocsOf, isAlloc]; rfl) (by kernel_rfl) ?_) | simp (maxSteps := 2000000) (disch := first | omega | assumption | simp [*]) [*, -Int.not_le, -Int.not_lt, -Nat.not_le, -Nat.not_lt, -Nat.add_left_cancel_iff, wrap_i64, wrap_u64, h5, h0, h1])
    rw [upTo_ext hy hj] at hR2
    exact hK _ hR2 hh
theorem markContext_o {m : Int} {v : AV} {key T k0 : Nat} {xs : List Int} {k : Int} {h : Heap} {off : Nat} {K : AV → Heap → Prop} (hR : Row h key T 1 k0 v (ints xs)) (hne : key ≠ off + 2) (h0 : 0 ≤ k) (h1 : k + xs.length ≤ 4611686018427387904) (hK : ∀ h', Row h' key T 1 k0 v (ints (upTo k xs.length)) → (∀ x, x ≠ key → x ≠ off + 2 → h' x = h x) → K (.int .i64 (k + xs.length)) h') : OpenTo env 13 [.agg [.int .i64 m, v], .int .i64 k] h off K := by
  refine openTo_of (F := Try.f13) rfl rfl (Nat.le_of_ble_eq_true rfl) ?_
  have o1 := hR.one
  have c1 := hR.cells
  repeat' (first | (apply brI <;> intro hb hb2 <;> (try simp [-Int.not_le, -Int.not_lt, -Nat.not_le, -Nat.not_lt, -Nat.add_left_cancel_iff] at hb2)) | (refine draw_listA (by rfl) (by kernel_rfl) ?_) | (refine draw_listB (by simp [allocsOf, isAlloc]; rfl) (by kernel_rfl) ?_) | simp (maxSteps := 2000000) (disch := first | omega | assumption | simp [*]) [*, -Int.not_le, -Int.not_lt, -Nat.not_le, -Nat.not_lt, -Nat.add_left_cancel_iff, wrap_i64, wrap_u64, Try.f13])
  refine cf_open rfl rfl (markIntS_o (hR.keep (by simp [hset, hne])) h0 h1 fun h2 hR2 hh2 => ?_)
  repeat' (first | (apply brI <;> intro hb hb2 <;> (try simp [-Int.not_le, -Int.not_lt, -Nat.not_le, -Nat.not_lt, -Nat.add_left_cancel_iff] at hb2)) | (refine draw_listA (by rfl) (by kernel_rfl) ?_) | (refine draw_listB (by simp [allocsOf, isAlloc]; rfl) (by kernel_rfl) ?_) | simp (maxSteps := 2000000) (disch := first | omega | assumption | simp [*]) [*, -Int.not_le, -Int.not_lt, -Nat.not_le, -Nat.not_lt, -Nat.add_left_cancel_iff, wrap_i64, wrap_u64])
  exact hK _ hR2 fun x g1 g2 => by rw [hh2 x g1]; simp [hset, g2]
theorem heldIntS_c {v : AV} {k : Int} (hv : IsI v) (h0 : 0 ≤ k) (h1 : k + (xsOf v).length ≤ 4611686018427387904) : EvC env 35 [v, .int .i64 k] (.int .i64 (if xsOf v = upTo k (xsOf v).length then k + (xsOf v).length else -1)) := by
  refine evC_of (F := Try.f35) rfl rfl (Nat.le_of_ble_eq_true rfl) ?_
  have := hv.len
  repeat' (first | (apply brI <;> intro hb hb2 <;> (try simp [-Int.not_le, -Int.not_lt, -Nat.not_le, -Nat.not_lt, -Nat.add_left_cancel_iff] at hb2)) | (refine draw_listA (by rfl) (by kernel_rfl) ?_) | (refine draw_listB (by simp [allocsOf, isAlloc]; rfl) (by kernel_rfl) ?_) | simp (maxSteps := 2000000) (disch := first | omega | assumption | simp [*]) [*, -Int.not_le, -Int.not_lt, -Nat.not_le, -Nat.not_lt, -Nat.add_left_cancel_iff, wrap_i64, wrap_u64, Try.f35, isI_len hv])
  refine W_loopP (xsOf v).length (fun i s => s 5 = .int .i64 i ∧ s 0 = v ∧ s 1 = .int .i64 (k + i) ∧ ∀ j, j < i → (xsOf v)[j]? = some (k + (j : Int))) rfl ?_ ?_
  · simp
  rintro i s hi ⟨h5, h0, h1, hj⟩
  repeat' (first | (apply brI <;> intro hb hb2 <;> (try simp [-Int.not_le, -Int.not_lt, -Nat.not_le, -Nat.not_lt, -Nat.add_left_cancel_iff] at hb2)) | (refine draw_listA (by rfl) (by kernel_rfl) ?_) | (refine draw_listB (by simp [allocsOf, isAlloc]; rfl) (by kernel_rfl) ?_) | simp (maxSteps := 2000000) (disch := first | omega | assumption | simp [*]) [*, -Int.not_le, -Int.not_lt, -Nat.not_le, -Nat.not_lt, -Nat.add_left_cancel_iff, wrap_i64, wrap_u64, h5, h0, h1, isI_len hv, isI_index hv, isI_load hv])
  · intro e
    have : nth (xsOf v) i = nth (upTo k (xsOf v).length) i := congrArg (nth · i) e
    rw [upTo_nth _ (by omega)] at this
    contradiction
  · refine ⟨by omega, fun j hj2 => ?_⟩
    by_cases e : j = i
    · subst e; rw [nth_get? (by omega), hb2]
    · exact hj j (by omega)
  · obtain rfl : i = (xsOf v).length := by omega
    rw [if_pos (upTo_ext rfl hj)]
theorem heldIntS_s {v : AV} {k : Int} (hv : IsI v) (h0 : 0 ≤ k) (h1 : k + (xsOf v).length ≤ 4611686018427387904) {K : AV → Prop} {tg : Tg K} : CW env 35 [v, .int .i64 k] K tg ↔ K (.int .i64 (if xsOf v = upTo k (xsOf v).length then k + (xsOf v).length else -1)) := callsTo_iff (heldIntS_c hv h0 h1)
attribute [simp] heldIntS_s
theorem heldContext_c {m : Int} {v : AV} {k : Int} (hv : IsI v) (h0 : 0 ≤ k) (h1 : k + (xsOf v).length ≤ 4611686018427387904) : EvC env 14 [.agg [.int .i64 m, v], .int .i64 k] (.int .i64 (if xsOf v = upTo k (xsOf v).length then k + (xsOf v).length else -1)) := by
  refine evC_of (F := Try.f14) rfl rfl (Nat.le_of_ble_eq_true rfl) ?_
  have := hv.len
  repeat' (first | (apply brI <;> intro hb hb2 <;> (try simp [-Int.not_le, -Int.not_lt, -Nat.not_le, -Nat.not_lt, -Nat.add_left_cancel_iff] at hb2)) | (refine draw_listA (by rfl) (by kernel_rfl) ?_) | (refine draw_listB (by simp [allocsOf, isAlloc]; rfl) (by kernel_rfl) ?_) | simp (maxSteps := 2000000) (disch := first | omega | assumption | simp [*]) [*, -Int.not_le, -Int.not_lt, -Nat.not_le, -Nat.not_lt, -Nat.add_left_cancel_iff, wrap_i64, wrap_u64, Try.f14, isI_cells hv, isI_one hv, isI_low hv])
  all_goals grind
theorem heldContext_s {m : Int} {v : AV} {k : Int} (hv : IsI v) (h0 : 0 ≤ k) (h1 : k + (xsOf v).length ≤ 4611686018427387904) {K : AV → Prop} {tg : Tg K} : CW env 14 [.agg [.int .i64 m, v], .int .i64 k] K tg ↔ K (.int .i64 (if xsOf v = upTo k (xsOf v).length then k + (xsOf v).length else -1)) := callsTo_iff (heldContext_c hv h0 h1)
attribute [simp] heldContext_s
end Go.Proofs.Ytppfgokonlloaaa
/- Partial contexts: what is one; how many completions. Conditions: none. -/
namespace Go.Proofs.Ytppfgokonlloaaa
open Ev
set_option linter.unusedVariables false
set_option linter.unusedSimpArgs false
set_option maxHeartbeats 4000000

theorem take_succ_get {α : Type} {l : List α} {j : Nat} {a : α} (h : l[j]? = some a) : l.take (j + 1) = l.take j ++ [a] := by rw [List.take_add_one, h]; rfl
theorem elemsTo_none {s : Int} (h : PSet 8 s = false) (n : Nat) : elemsTo s n = [] := by
  induction n with
  | zero => rfl
  | succ n ih => rw [elemsTo_succ, ih]; simp [h]
theorem elemsTo_bit {s : Int} (h : PSet 8 s = true) (i : Nat) : ((elemsTo s (i + 1)).length : Int) = (elemsTo s i).length + s / 2 ^ i % 2 := by
  rw [elemsTo_succ, List.length_append, h]
  simp only [Bool.true_and, PHas, Int.toNat_natCast, decide_eq_true_eq]
  split <;> simp <;> omega
theorem elemsTo_end {s : Int} {i : Nat} (h : PSet 8 s = true) (h0 : s / 2 ^ i = 0) : ∀ j, elemsTo s (i + j) = elemsTo s i
  | 0 => rfl
  | j + 1 => by
    rw [← Nat.add_assoc, elemsTo_succ, elemsTo_end h h0 j]
    have h1 := pset_lt h
    have : s / 2 ^ (i + j) = 0 := by
      rw [Int.pow_add, ← Int.ediv_ediv_of_nonneg (Int.le_of_lt (pow_pos2 i)), h0]; simp
    simp [PHas, Int.toNat_natCast, this, show (((i + j : Nat) : Int)).toNat = i + j from Int.toNat_natCast _]
    have e : ((i : Int) + (j : Int)).toNat = i + j := by omega
    rw [e, this]; simp
theorem elems_nat (s : Int) : (elemsTo s 8).length ≤ 8 := elemsTo_len s 8
/-- the number of open pairs -/
def opensTo (ms : List Int) : Nat → Nat
  | 0 => 0
  | i + 1 => opensTo ms i + (elemsTo (nth ms i) 8).length
theorem opensTo_le (ms : List Int) (i : Nat) : opensTo ms i ≤ 8 * i := by
  induction i with
  | zero => exact Nat.le_refl _
  | succ i ih => have := elems_nat (nth ms i); simp only [opensTo]; omega
def opens (ms : List Int) : Nat := opensTo ms ms.length
def pairV (g m : Int) : AV := .agg [.int .i64 g, .int .i64 m]
/-- the open pairs -/
def pairsTo (ms : List Int) : Nat → List AV
  | 0 => []
  | g + 1 => pairsTo ms g ++ (elemsTo (nth ms g) 8).map (pairV g)
theorem pairsTo_len (ms : List Int) (g : Nat) : (pairsTo ms g).length = opensTo ms g := by
  induction g with
  | zero => rfl
  | succ g ih => simp [pairsTo, opensTo, ih]
/-- what is a partial context -/
def PPart (n : Int) (ss ms : List Int) : Prop := PCtx n ss ∧ PCtx n ms ∧ ss.length = ms.length ∧ opens ms ≤ 6 ∧ ∀ k, k < ss.length → (nth ss k).toNat &&& (nth ms k).toNat = 0
noncomputable instance (n : Int) (ss ms : List Int) : Decidable (PPart n ss ms) := Classical.propDecidable _
end Go.Proofs.Ytppfgokonlloaaa
