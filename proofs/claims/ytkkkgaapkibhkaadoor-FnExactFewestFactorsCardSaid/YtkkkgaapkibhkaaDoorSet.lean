/- Small functions on numbers and sets. Conditions: none. -/
import Derived.Test.YtkkkgaapkibhkaaDoorEnv
import Derived.Test.YtkkkgaapkibhkaaDoorEvBits
namespace Go.Proofs.YtkkkgaapkibhkaaDoor
open Ev
set_option linter.unusedVariables false
set_option linter.unusedSimpArgs false

/-- a set of the first n elements -/
def PSet (n s : Int) : Bool := decide (0 ≤ n ∧ n ≤ 8 ∧ 0 ≤ s ∧ s < 2 ^ n.toNat)
theorem pset_iff {n s : Int} : PSet n s = true ↔ (0 ≤ n ∧ n ≤ 8 ∧ 0 ≤ s ∧ s < 2 ^ n.toNat) := by simp [PSet]
theorem pset_lt {n s : Int} (h : PSet n s = true) : 0 ≤ s ∧ s < 256 := by
  obtain ⟨h1, h2, h3, h4⟩ := pset_iff.mp h
  have := pow8 h2
  omega
theorem pset8 {n s : Int} (h : PSet n s = true) : PSet 8 s = true := by
  have := pset_lt h
  rw [pset_iff]; simp; omega
/-- whether all of s is in t -/
def PSub (s t : Int) : Bool := decide (s.toNat &&& t.toNat = s.toNat)
theorem psub_and {s t : Int} (h : 0 ≤ s) : ((s.toNat &&& t.toNat : Nat) : Int) = s ↔ PSub s t = true := by
  simp only [PSub, decide_eq_true_eq]
  constructor <;> intro h1 <;> omega
theorem psub_diff {s t : Int} : (diff s.toNat t.toNat = 0) ↔ PSub s t = true := by
  simp only [PSub, decide_eq_true_eq]
  constructor
  · intro h
    apply Nat.eq_of_testBit_eq
    intro i
    have := congrArg (fun x => Nat.testBit x i) h
    simp only [diff_testBit, Nat.zero_testBit] at this
    rw [Nat.testBit_and]
    cases hs : s.toNat.testBit i <;> simp [hs] at this ⊢
    exact this
  · intro h
    apply Nat.eq_of_testBit_eq
    intro i
    have := congrArg (fun x => Nat.testBit x i) h
    simp only [Nat.testBit_and] at this
    rw [diff_testBit, Nat.zero_testBit]
    cases hs : s.toNat.testBit i <;> simp [hs] at this ⊢
    exact this
/-- whether a set has an element -/
def PHas (s e : Int) : Bool := decide (s / 2 ^ e.toNat % 2 = 1)
theorem phas_bit {s e : Int} (h : 0 ≤ s) : PHas s e = s.toNat.testBit e.toNat := half_testBit h _
theorem phas_lt {n s : Int} {m : Nat} (h : PSet n s = true) (hm : PHas s m = true) : (m : Int) < n := by
  obtain ⟨h1, h2, h3, h4⟩ := pset_iff.mp h
  simp only [PHas, decide_eq_true_eq, Int.toNat_natCast] at hm
  rcases Int.lt_or_le m n with h5 | h5
  · exact h5
  · have : (2 : Int) ^ n.toNat ≤ 2 ^ m := two_pow_le (by omega)
    rw [Int.ediv_eq_zero_of_lt h3 (by omega)] at hm
    simp at hm

theorem within_c {n lo hi : Int} : EvC env 53 [.int .i64 n, .int .i64 lo, .int .i64 hi] (.bool (decide (lo ≤ n) && decide (n ≤ hi))) := by
  refine evC_of (F := Tryd.f53) rfl rfl (Nat.le_of_ble_eq_true rfl) ?_
  repeat' (first | (apply br_intro <;> intro hb <;> (have hb2 := hb) <;> (try simp [-Int.not_le, -Int.not_lt, -Nat.not_le, -Nat.not_lt, -Nat.add_left_cancel_iff] at hb2)) | (refine draw_listA (by rfl) (by kernel_rfl) ?_) | (refine draw_listB (by simp [allocsOf, isAlloc]; rfl) (by kernel_rfl) ?_) | simp (maxSteps := 2000000) (disch := first | omega | assumption | simp [*]) [*, -Int.not_le, -Int.not_lt, -Nat.not_le, -Nat.not_lt, -Nat.add_left_cancel_iff, wrap_i64, wrap_u64, Tryd.f53])
theorem within_s {n lo hi : Int} {K : AV → Prop} {tg : Tg K} : CW env 53 [.int .i64 n, .int .i64 lo, .int .i64 hi] K tg ↔ K (.bool (decide (lo ≤ n) && decide (n ≤ hi))) := callsTo_iff (within_c )
attribute [simp] within_s
theorem l1In_c {n lo hi : Int} : EvC env 49 [.int .i64 n, .int .i64 lo, .int .i64 hi] (.bool (decide (lo ≤ n) && decide (n ≤ hi))) := by
  refine evC_of (F := Tryd.f49) rfl rfl (Nat.le_of_ble_eq_true rfl) ?_
  repeat' (first | (apply br_intro <;> intro hb <;> (have hb2 := hb) <;> (try simp [-Int.not_le, -Int.not_lt, -Nat.not_le, -Nat.not_lt, -Nat.add_left_cancel_iff] at hb2)) | (refine draw_listA (by rfl) (by kernel_rfl) ?_) | (refine draw_listB (by simp [allocsOf, isAlloc]; rfl) (by kernel_rfl) ?_) | simp (maxSteps := 2000000) (disch := first | omega | assumption | simp [*]) [*, -Int.not_le, -Int.not_lt, -Nat.not_le, -Nat.not_lt, -Nat.add_left_cancel_iff, wrap_i64, wrap_u64, Tryd.f49])
theorem l1In_s {n lo hi : Int} {K : AV → Prop} {tg : Tg K} : CW env 49 [.int .i64 n, .int .i64 lo, .int .i64 hi] K tg ↔ K (.bool (decide (lo ≤ n) && decide (n ≤ hi))) := callsTo_iff (l1In_c )
attribute [simp] l1In_s
theorem sIsSet_c {n s : Int} : EvC env 65 [.int .i64 n, .int .i64 s] (.bool (PSet n s)) := by
  refine evC_of (F := Tryd.f65) rfl rfl (Nat.le_of_ble_eq_true rfl) ?_
  repeat' (first | (apply br_intro <;> intro hb <;> (have hb2 := hb) <;> (try simp [-Int.not_le, -Int.not_lt, -Nat.not_le, -Nat.not_lt, -Nat.add_left_cancel_iff] at hb2)) | (refine draw_listA (by rfl) (by kernel_rfl) ?_) | (refine draw_listB (by simp [allocsOf, isAlloc]; rfl) (by kernel_rfl) ?_) | simp (maxSteps := 2000000) (disch := first | omega | assumption | simp [*]) [*, -Int.not_le, -Int.not_lt, -Nat.not_le, -Nat.not_lt, -Nat.add_left_cancel_iff, wrap_i64, wrap_u64, Tryd.f65])
  · rw [Bool.eq_iff_iff, pset_iff]; simp; omega
  · rw [← Bool.not_eq_true, pset_iff]; omega
theorem sIsSet_s {n s : Int} {K : AV → Prop} {tg : Tg K} : CW env 65 [.int .i64 n, .int .i64 s] K tg ↔ K (.bool (PSet n s)) := callsTo_iff (sIsSet_c )
attribute [simp] sIsSet_s
theorem iIsSet_c {n s : Int} : EvC env 84 [.int .i64 n, .int .i64 s] (.bool (PSet n s)) := by
  refine evC_of (F := Tryd.f84) rfl rfl (Nat.le_of_ble_eq_true rfl) ?_
  repeat' (first | (apply br_intro <;> intro hb <;> (have hb2 := hb) <;> (try simp [-Int.not_le, -Int.not_lt, -Nat.not_le, -Nat.not_lt, -Nat.add_left_cancel_iff] at hb2)) | (refine draw_listA (by rfl) (by kernel_rfl) ?_) | (refine draw_listB (by simp [allocsOf, isAlloc]; rfl) (by kernel_rfl) ?_) | simp (maxSteps := 2000000) (disch := first | omega | assumption | simp [*]) [*, -Int.not_le, -Int.not_lt, -Nat.not_le, -Nat.not_lt, -Nat.add_left_cancel_iff, wrap_i64, wrap_u64, Tryd.f84])
  · rw [Bool.eq_iff_iff, pset_iff]; simp; omega
  · rw [← Bool.not_eq_true, pset_iff]; omega
theorem iIsSet_s {n s : Int} {K : AV → Prop} {tg : Tg K} : CW env 84 [.int .i64 n, .int .i64 s] K tg ↔ K (.bool (PSet n s)) := callsTo_iff (iIsSet_c )
attribute [simp] iIsSet_s
theorem isAnySet_c {s : Int} : EvC env 120 [.int .i64 s] (.bool (PSet 8 s)) := by
  refine evC_of (F := Tryd.f120) rfl rfl (Nat.le_of_ble_eq_true rfl) ?_
  repeat' (first | (apply br_intro <;> intro hb <;> (have hb2 := hb) <;> (try simp [-Int.not_le, -Int.not_lt, -Nat.not_le, -Nat.not_lt, -Nat.add_left_cancel_iff] at hb2)) | (refine draw_listA (by rfl) (by kernel_rfl) ?_) | (refine draw_listB (by simp [allocsOf, isAlloc]; rfl) (by kernel_rfl) ?_) | simp (maxSteps := 2000000) (disch := first | omega | assumption | simp [*]) [*, -Int.not_le, -Int.not_lt, -Nat.not_le, -Nat.not_lt, -Nat.add_left_cancel_iff, wrap_i64, wrap_u64, Tryd.f120])
theorem isAnySet_s {s : Int} {K : AV → Prop} {tg : Tg K} : CW env 120 [.int .i64 s] K tg ↔ K (.bool (PSet 8 s)) := callsTo_iff (isAnySet_c )
attribute [simp] isAnySet_s
theorem l2Has_c {s e : Int} (h0 : 0 ≤ e) (h1 : e ≤ 62) : EvC env 78 [.int .i64 s, .int .i64 e] (.bool (PHas s e)) := by
  refine evC_of (F := Tryd.f78) rfl rfl (Nat.le_of_ble_eq_true rfl) ?_
  repeat' (first | (apply br_intro <;> intro hb <;> (have hb2 := hb) <;> (try simp [-Int.not_le, -Int.not_lt, -Nat.not_le, -Nat.not_lt, -Nat.add_left_cancel_iff] at hb2)) | (refine draw_listA (by rfl) (by kernel_rfl) ?_) | (refine draw_listB (by simp [allocsOf, isAlloc]; rfl) (by kernel_rfl) ?_) | simp (maxSteps := 2000000) (disch := first | omega | assumption | simp [*]) [*, -Int.not_le, -Int.not_lt, -Nat.not_le, -Nat.not_lt, -Nat.add_left_cancel_iff, wrap_i64, wrap_u64, Tryd.f78, PHas, h0, h1])
theorem l2Has_s {s e : Int} (h0 : 0 ≤ e) (h1 : e ≤ 62) {K : AV → Prop} {tg : Tg K} : CW env 78 [.int .i64 s, .int .i64 e] K tg ↔ K (.bool (PHas s e)) := callsTo_iff (l2Has_c h0 h1)
attribute [simp] l2Has_s
theorem iHas_c {s e : Int} : EvC env 127 [.int .i64 s, .int .i64 e] (.bool (PSet 8 s && (decide (0 ≤ e) && decide (e ≤ 7)) && PHas s e)) := by
  refine evC_of (F := Tryd.f127) rfl rfl (Nat.le_of_ble_eq_true rfl) ?_
  repeat' (first | (apply br_intro <;> intro hb <;> (have hb2 := hb) <;> (try simp [-Int.not_le, -Int.not_lt, -Nat.not_le, -Nat.not_lt, -Nat.add_left_cancel_iff] at hb2)) | (refine draw_listA (by rfl) (by kernel_rfl) ?_) | (refine draw_listB (by simp [allocsOf, isAlloc]; rfl) (by kernel_rfl) ?_) | simp (maxSteps := 2000000) (disch := first | omega | assumption | simp [*]) [*, -Int.not_le, -Int.not_lt, -Nat.not_le, -Nat.not_lt, -Nat.add_left_cancel_iff, wrap_i64, wrap_u64, Tryd.f127, PHas])
theorem iHas_s {s e : Int} {K : AV → Prop} {tg : Tg K} : CW env 127 [.int .i64 s, .int .i64 e] K tg ↔ K (.bool (PSet 8 s && (decide (0 ≤ e) && decide (e ≤ 7)) && PHas s e)) := callsTo_iff (iHas_c )
attribute [simp] iHas_s
theorem inSet_c {s t : Int} (h0 : 0 ≤ s) (h1 : s < 9223372036854775808) (h2 : 0 ≤ t) (h3 : t < 9223372036854775808) : EvC env 99 [.int .i64 s, .int .i64 t] (.bool (decide (diff s.toNat t.toNat = 0))) := by
  refine evC_of (F := Tryd.f99) rfl rfl (Nat.le_of_ble_eq_true rfl) ?_
  repeat' (first | (apply br_intro <;> intro hb <;> (have hb2 := hb) <;> (try simp [-Int.not_le, -Int.not_lt, -Nat.not_le, -Nat.not_lt, -Nat.add_left_cancel_iff] at hb2)) | (refine draw_listA (by rfl) (by kernel_rfl) ?_) | (refine draw_listB (by simp [allocsOf, isAlloc]; rfl) (by kernel_rfl) ?_) | simp (maxSteps := 2000000) (disch := first | omega | assumption | simp [*]) [*, -Int.not_le, -Int.not_lt, -Nat.not_le, -Nat.not_lt, -Nat.add_left_cancel_iff, wrap_i64, wrap_u64, Tryd.f99, bits_andNot, h0, h1, h2, h3])
theorem inSet_s {s t : Int} (h0 : 0 ≤ s) (h1 : s < 9223372036854775808) (h2 : 0 ≤ t) (h3 : t < 9223372036854775808) {K : AV → Prop} {tg : Tg K} : CW env 99 [.int .i64 s, .int .i64 t] K tg ↔ K (.bool (decide (diff s.toNat t.toNat = 0))) := callsTo_iff (inSet_c h0 h1 h2 h3)
attribute [simp] inSet_s

end Go.Proofs.YtkkkgaapkibhkaaDoor
