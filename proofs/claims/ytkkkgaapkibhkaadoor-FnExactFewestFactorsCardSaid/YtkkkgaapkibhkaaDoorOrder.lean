/- What is an order: the reference's answer and the program's. Conditions: none. -/
import Derived.Test.YtkkkgaapkibhkaaDoorLaw
namespace Go.Proofs.YtkkkgaapkibhkaaDoor
open Ev
set_option linter.unusedVariables false
set_option linter.unusedSimpArgs false
set_option maxHeartbeats 4000000

def OrdK (b : List Int) (k : Nat) : Prop := PSet b.length (nth b k) = true ∧ PHas (nth b k) k = true
def OrdP (b : List Int) (x y : Nat) : Prop := PHas (nth b x) y = true → PSub (nth b y) (nth b x) = true ∧ (x ≠ y → PHas (nth b y) x = false)
def POrder (b : List Int) : Prop := b.length ≤ 6 ∧ (∀ k, k < b.length → OrdK b k) ∧ ∀ x y, x < b.length → y < b.length → OrdP b x y
noncomputable instance (b : List Int) : Decidable (POrder b) := Classical.propDecidable _

/-- the elements of a set, below n -/
def elemsTo (s : Int) (n : Nat) : List Int := ((List.range n).filter fun (e : Nat) => PSet 8 s && PHas s e).map Int.ofNat
theorem elemsTo_succ (s : Int) (i : Nat) : elemsTo s (i + 1) = elemsTo s i ++ if (PSet 8 s && PHas s i) = true then [(i : Int)] else [] := by
  unfold elemsTo
  rw [List.range_succ, List.filter_append, List.map_append]
  congr 1
  simp only [List.filter_cons, List.filter_nil]
  split <;> rfl
theorem elemsTo_len (s : Int) (i : Nat) : (elemsTo s i).length ≤ i := by
  unfold elemsTo
  rw [List.length_map]
  exact Nat.le_trans (List.length_filter_le ..) (by simp)
theorem iElementsOf_c {s : Int} : EvC env 131 [.int .i64 s] (bufR 3 15 1 (elemsTo s 8)) := by
  refine evC_of (F := Tryd.f131) rfl rfl (Nat.le_of_ble_eq_true rfl) ?_
  repeat' (first | (apply br_intro <;> intro hb <;> (have hb2 := hb) <;> (try simp [-Int.not_le, -Int.not_lt, -Nat.not_le, -Nat.not_lt, -Nat.add_left_cancel_iff] at hb2)) | (refine draw_listA (by rfl) (by kernel_rfl) ?_) | (refine draw_listB (by simp [allocsOf, isAlloc]; rfl) (by kernel_rfl) ?_) | simp (maxSteps := 2000000) (disch := first | omega | assumption | simp [*]) [*, -Int.not_le, -Int.not_lt, -Nat.not_le, -Nat.not_lt, -Nat.add_left_cancel_iff, wrap_i64, wrap_u64, Tryd.f131])
  refine W_loopG 8 (fun i s' h => s' 6 = .int .i64 i ∧ s' 0 = .int .i64 s ∧ Buf h 3 15 1 (s' 3) (elemsTo s i)) ?_ ?_
  · simp [elemsTo]; exact buf_nil ..
  rintro i s' h hi ⟨h6, h0, hB⟩
  have hl := elemsTo_len s i
  repeat' (first | (apply br_intro <;> intro hb <;> (have hb2 := hb) <;> (try simp [-Int.not_le, -Int.not_lt, -Nat.not_le, -Nat.not_lt, -Nat.add_left_cancel_iff] at hb2)) | (refine draw_listA (by rfl) (by kernel_rfl) ?_) | (refine draw_listB (by simp [allocsOf, isAlloc]; rfl) (by kernel_rfl) ?_) | simp (maxSteps := 2000000) (disch := first | omega | assumption | simp [*]) [*, -Int.not_le, -Int.not_lt, -Nat.not_le, -Nat.not_lt, -Nat.add_left_cancel_iff, wrap_i64, wrap_u64, h6, h0])
  · refine wa_push hB (by simp) (by simp) (by omega) ?_
    intro v2 h2 hB2 hk2
    repeat' (first | (apply br_intro <;> intro hb <;> (have hb2 := hb) <;> (try simp [-Int.not_le, -Int.not_lt, -Nat.not_le, -Nat.not_lt, -Nat.add_left_cancel_iff] at hb2)) | (refine draw_listA (by rfl) (by kernel_rfl) ?_) | (refine draw_listB (by simp [allocsOf, isAlloc]; rfl) (by kernel_rfl) ?_) | simp (maxSteps := 2000000) (disch := first | omega | assumption | simp [*]) [*, -Int.not_le, -Int.not_lt, -Nat.not_le, -Nat.not_lt, -Nat.add_left_cancel_iff, wrap_i64, wrap_u64, h6, h0])
    exact ⟨by omega, by rw [elemsTo_succ, if_pos (by simp_all)]; exact hB2⟩
  · exact ⟨by omega, by rw [elemsTo_succ, if_neg (by simp at hb2 ⊢; exact fun h => hb2 h (by omega)), List.append_nil]; exact hB⟩
  · obtain rfl : i = 8 := by omega
    exact hB.expo
theorem iElementsOf_s {s : Int} {K : AV → Prop} {tg : Tg K} : CW env 131 [.int .i64 s] K tg ↔ K (bufR 3 15 1 (elemsTo s 8)) := callsTo_iff (iElementsOf_c )
attribute [simp] iElementsOf_s
theorem mem_elems {s : Int} {e : Nat} (h : e < (elemsTo s 8).length) : ∃ m : Nat, nth (elemsTo s 8) e = m ∧ m < 8 ∧ PSet 8 s = true ∧ PHas s m = true := by
  have := List.getElem_mem h
  rw [← nth_eq h] at this
  unfold elemsTo at this
  simp only [List.mem_map, List.mem_filter, List.mem_range, Bool.and_eq_true] at this
  obtain ⟨m, ⟨h1, h2, h3⟩, h4⟩ := this
  exact ⟨m, h4.symm, h1, h2, h3⟩
theorem elems_mem {s : Int} {m : Nat} (h1 : m < 8) (h2 : PSet 8 s = true) (h3 : PHas s m = true) : ∃ e, e < (elemsTo s 8).length ∧ nth (elemsTo s 8) e = m := by
  have : (m : Int) ∈ elemsTo s 8 := by
    unfold elemsTo
    simp only [List.mem_map, List.mem_filter, List.mem_range, Bool.and_eq_true]
    exact ⟨m, ⟨h1, h2, h3⟩, rfl⟩
  obtain ⟨e, he, h⟩ := List.getElem_of_mem this
  exact ⟨e, he, by rw [nth_eq he, h]⟩


end Go.Proofs.YtkkkgaapkibhkaaDoor
