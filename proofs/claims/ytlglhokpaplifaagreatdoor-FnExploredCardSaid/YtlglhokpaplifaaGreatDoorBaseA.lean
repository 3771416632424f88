/- XSet XLaw XOrder XCtx XPart, joined. Conditions: none. -/
import Derived.Test.YtlglhokpaplifaaGreatDoorEnv
import Derived.Test.YtlglhokpaplifaaGreatDoorEvBits
import Derived.Test.YtlglhokpaplifaaGreatDoorEvOpen
/- Small functions on numbers and sets. Conditions: none. -/
namespace Go.Proofs.YtlglhokpaplifaaGreatDoor
open Ev
set_option linter.unusedVariables false
set_option linter.unusedSimpArgs false

/-- a set of the first n elements -/
def PSet (n s : Int) : Bool := decide (0 ≤ n ∧ n ≤ 8 ∧ 0 ≤ s ∧ s < 2 ^ n.toNat)
theorem pset_iff {n s : Int} : PSet n s = true ↔ (0 ≤ n ∧ n ≤ 8 ∧ 0 ≤ s ∧ s < 2 ^ n.toNat) := by simp [PSet]
theorem pset_lt {n s : Int} (h : PSet n s = true) : 0 ≤ s ∧ s < 256 := by
  obtain ⟨h1, h2, h3, h4⟩ := pset_iff.mp h
  have := pow8 h2
  omega
theorem pset8 {n s : Int} (h : PSet n s = true) : PSet 8 s = true := by
  have := pset_lt h
  rw [pset_iff]; simp; omega
/-- whether all of s is in t -/
def PSub (s t : Int) : Bool := decide (s.toNat &&& t.toNat = s.toNat)
theorem psub_and {s t : Int} (h : 0 ≤ s) : ((s.toNat &&& t.toNat : Nat) : Int) = s ↔ PSub s t = true := by
  simp only [PSub, decide_eq_true_eq]
  constructor <;> intro h1 <;> omega
theorem psub_diff {s t : Int} : (diff s.toNat t.toNat = 0) ↔ PSub s t = true := by
  simp only [PSub, decide_eq_true_eq]
  constructor
  · intro h
    apply Nat.eq_of_testBit_eq
    intro i
    have := congrArg (fun x => Nat.testBit x i) h
    simp only [diff_testBit, Nat.zero_testBit] at this
    rw [Nat.testBit_and]
    cases hs : s.toNat.testBit i <;> simp [hs] at this ⊢
    exact this
  · intro h
    apply Nat.eq_of_testBit_eq
    intro i
    have := congrArg (fun x => Nat.testBit x i) h
    simp only [Nat.testBit_and] at this
    rw [diff_testBit, Nat.zero_testBit]
    cases hs : s.toNat.testBit i <;> simp [hs] at this ⊢
    exact this
/-- whether a set has an element -/
def PHas (s e : Int) : Bool := decide (s / 2 ^ e.toNat % 2 = 1)
theorem phas_bit {s e : Int} (h : 0 ≤ s) : PHas s e = s.toNat.testBit e.toNat := half_testBit h _
theorem phas_lt {n s : Int} {m : Nat} (h : PSet n s = true) (hm : PHas s m = true) : (m : Int) < n := by
  obtain ⟨h1, h2, h3, h4⟩ := pset_iff.mp h
  simp only [PHas, decide_eq_true_eq, Int.toNat_natCast] at hm
  rcases Int.lt_or_le m n with h5 | h5
  · exact h5
  · have : (2 : Int) ^ n.toNat ≤ 2 ^ m := two_pow_le (by omega)
    rw [Int.ediv_eq_zero_of_lt h3 (by omega)] at hm
    simp at hm

theorem within_c {n lo hi : Int} : EvC env 79 [.int .i64 n, .int .i64 lo, .int .i64 hi] (.bool (decide (lo ≤ n) && decide (n ≤ hi))) := by
  refine evC_of (F := Tryz.f79) rfl rfl (Nat.le_of_ble_eq_true rfl) ?_
  repeat' (first | (apply brI <;> intro hb hb2 <;> (try simp [-Int.not_le, -Int.not_lt, -Nat.not_le, -Nat.not_lt, -Nat.add_left_cancel_iff] at hb2)) | (refine draw_listA (by rfl) (by kernel_rfl) ?_) | (refine draw_listB (by simp [allocsOf, isAlloc]; rfl) (by kernel_rfl) ?_) | simp (maxSteps := 2000000) (disch := first | omega | assumption | simp [*]) [*, -Int.not_le, -Int.not_lt, -Nat.not_le, -Nat.not_lt, -Nat.add_left_cancel_iff, wrap_i64, wrap_u64, Tryz.f79])
theorem within_s {n lo hi : Int} {K : AV → Prop} {tg : Tg K} : CW env 79 [.int .i64 n, .int .i64 lo, .int .i64 hi] K tg ↔ K (.bool (decide (lo ≤ n) && decide (n ≤ hi))) := callsTo_iff (within_c )
attribute [simp] within_s
theorem l1In_c {n lo hi : Int} : EvC env 89 [.int .i64 n, .int .i64 lo, .int .i64 hi] (.bool (decide (lo ≤ n) && decide (n ≤ hi))) := by
  refine evC_of (F := Tryz.f89) rfl rfl (Nat.le_of_ble_eq_true rfl) ?_
  repeat' (first | (apply brI <;> intro hb hb2 <;> (try simp [-Int.not_le, -Int.not_lt, -Nat.not_le, -Nat.not_lt, -Nat.add_left_cancel_iff] at hb2)) | (refine draw_listA (by rfl) (by kernel_rfl) ?_) | (refine draw_listB (by simp [allocsOf, isAlloc]; rfl) (by kernel_rfl) ?_) | simp (maxSteps := 2000000) (disch := first | omega | assumption | simp [*]) [*, -Int.not_le, -Int.not_lt, -Nat.not_le, -Nat.not_lt, -Nat.add_left_cancel_iff, wrap_i64, wrap_u64, Tryz.f89])
theorem l1In_s {n lo hi : Int} {K : AV → Prop} {tg : Tg K} : CW env 89 [.int .i64 n, .int .i64 lo, .int .i64 hi] K tg ↔ K (.bool (decide (lo ≤ n) && decide (n ≤ hi))) := callsTo_iff (l1In_c )
attribute [simp] l1In_s
theorem sIsSet_c {n s : Int} : EvC env 54 [.int .i64 n, .int .i64 s] (.bool (PSet n s)) := by
  refine evC_of (F := Tryz.f54) rfl rfl (Nat.le_of_ble_eq_true rfl) ?_
  repeat' (first | (apply brI <;> intro hb hb2 <;> (try simp [-Int.not_le, -Int.not_lt, -Nat.not_le, -Nat.not_lt, -Nat.add_left_cancel_iff] at hb2)) | (refine draw_listA (by rfl) (by kernel_rfl) ?_) | (refine draw_listB (by simp [allocsOf, isAlloc]; rfl) (by kernel_rfl) ?_) | simp (maxSteps := 2000000) (disch := first | omega | assumption | simp [*]) [*, -Int.not_le, -Int.not_lt, -Nat.not_le, -Nat.not_lt, -Nat.add_left_cancel_iff, wrap_i64, wrap_u64, Tryz.f54])
  · rw [Bool.eq_iff_iff, pset_iff]; simp; omega
  · rw [← Bool.not_eq_true, pset_iff]; omega
theorem sIsSet_s {n s : Int} {K : AV → Prop} {tg : Tg K} : CW env 54 [.int .i64 n, .int .i64 s] K tg ↔ K (.bool (PSet n s)) := callsTo_iff (sIsSet_c )
attribute [simp] sIsSet_s
theorem iIsSet_c {n s : Int} : EvC env 52 [.int .i64 n, .int .i64 s] (.bool (PSet n s)) := by
  refine evC_of (F := Tryz.f52) rfl rfl (Nat.le_of_ble_eq_true rfl) ?_
  repeat' (first | (apply brI <;> intro hb hb2 <;> (try simp [-Int.not_le, -Int.not_lt, -Nat.not_le, -Nat.not_lt, -Nat.add_left_cancel_iff] at hb2)) | (refine draw_listA (by rfl) (by kernel_rfl) ?_) | (refine draw_listB (by simp [allocsOf, isAlloc]; rfl) (by kernel_rfl) ?_) | simp (maxSteps := 2000000) (disch := first | omega | assumption | simp [*]) [*, -Int.not_le, -Int.not_lt, -Nat.not_le, -Nat.not_lt, -Nat.add_left_cancel_iff, wrap_i64, wrap_u64, Tryz.f52])
  · rw [Bool.eq_iff_iff, pset_iff]; simp; omega
  · rw [← Bool.not_eq_true, pset_iff]; omega
theorem iIsSet_s {n s : Int} {K : AV → Prop} {tg : Tg K} : CW env 52 [.int .i64 n, .int .i64 s] K tg ↔ K (.bool (PSet n s)) := callsTo_iff (iIsSet_c )
attribute [simp] iIsSet_s
theorem isAnySet_c {s : Int} : EvC env 111 [.int .i64 s] (.bool (PSet 8 s)) := by
  refine evC_of (F := Tryz.f111) rfl rfl (Nat.le_of_ble_eq_true rfl) ?_
  repeat' (first | (apply brI <;> intro hb hb2 <;> (try simp [-Int.not_le, -Int.not_lt, -Nat.not_le, -Nat.not_lt, -Nat.add_left_cancel_iff] at hb2)) | (refine draw_listA (by rfl) (by kernel_rfl) ?_) | (refine draw_listB (by simp [allocsOf, isAlloc]; rfl) (by kernel_rfl) ?_) | simp (maxSteps := 2000000) (disch := first | omega | assumption | simp [*]) [*, -Int.not_le, -Int.not_lt, -Nat.not_le, -Nat.not_lt, -Nat.add_left_cancel_iff, wrap_i64, wrap_u64, Tryz.f111])
theorem isAnySet_s {s : Int} {K : AV → Prop} {tg : Tg K} : CW env 111 [.int .i64 s] K tg ↔ K (.bool (PSet 8 s)) := callsTo_iff (isAnySet_c )
attribute [simp] isAnySet_s
theorem l2Has_c {s e : Int} (h0 : 0 ≤ e) (h1 : e ≤ 62) : EvC env 115 [.int .i64 s, .int .i64 e] (.bool (PHas s e)) := by
  refine evC_of (F := Tryz.f115) rfl rfl (Nat.le_of_ble_eq_true rfl) ?_
  repeat' (first | (apply brI <;> intro hb hb2 <;> (try simp [-Int.not_le, -Int.not_lt, -Nat.not_le, -Nat.not_lt, -Nat.add_left_cancel_iff] at hb2)) | (refine draw_listA (by rfl) (by kernel_rfl) ?_) | (refine draw_listB (by simp [allocsOf, isAlloc]; rfl) (by kernel_rfl) ?_) | simp (maxSteps := 2000000) (disch := first | omega | assumption | simp [*]) [*, -Int.not_le, -Int.not_lt, -Nat.not_le, -Nat.not_lt, -Nat.add_left_cancel_iff, wrap_i64, wrap_u64, Tryz.f115, PHas, h0, h1])
theorem l2Has_s {s e : Int} (h0 : 0 ≤ e) (h1 : e ≤ 62) {K : AV → Prop} {tg : Tg K} : CW env 115 [.int .i64 s, .int .i64 e] K tg ↔ K (.bool (PHas s e)) := callsTo_iff (l2Has_c h0 h1)
attribute [simp] l2Has_s
theorem iHas_c {s e : Int} : EvC env 112 [.int .i64 s, .int .i64 e] (.bool (PSet 8 s && (decide (0 ≤ e) && decide (e ≤ 7)) && PHas s e)) := by
  refine evC_of (F := Tryz.f112) rfl rfl (Nat.le_of_ble_eq_true rfl) ?_
  repeat' (first | (apply brI <;> intro hb hb2 <;> (try simp [-Int.not_le, -Int.not_lt, -Nat.not_le, -Nat.not_lt, -Nat.add_left_cancel_iff] at hb2)) | (refine draw_listA (by rfl) (by kernel_rfl) ?_) | (refine draw_listB (by simp [allocsOf, isAlloc]; rfl) (by kernel_rfl) ?_) | simp (maxSteps := 2000000) (disch := first | omega | assumption | simp [*]) [*, -Int.not_le, -Int.not_lt, -Nat.not_le, -Nat.not_lt, -Nat.add_left_cancel_iff, wrap_i64, wrap_u64, Tryz.f112, PHas])
theorem iHas_s {s e : Int} {K : AV → Prop} {tg : Tg K} : CW env 112 [.int .i64 s, .int .i64 e] K tg ↔ K (.bool (PSet 8 s && (decide (0 ≤ e) && decide (e ≤ 7)) && PHas s e)) := callsTo_iff (iHas_c )
attribute [simp] iHas_s
theorem sHas_c {s e : Int} : EvC env 133 [.int .i64 s, .int .i64 e] (.bool (PSet 8 s && (decide (0 ≤ e) && decide (e ≤ 7)) && PHas s e)) := by
  refine evC_of (F := Tryz.f133) rfl rfl (Nat.le_of_ble_eq_true rfl) ?_
  repeat' (first | (apply brI <;> intro hb hb2 <;> (try simp [-Int.not_le, -Int.not_lt, -Nat.not_le, -Nat.not_lt, -Nat.add_left_cancel_iff] at hb2)) | (refine draw_listA (by rfl) (by kernel_rfl) ?_) | (refine draw_listB (by simp [allocsOf, isAlloc]; rfl) (by kernel_rfl) ?_) | simp (maxSteps := 2000000) (disch := first | omega | assumption | simp [*]) [*, -Int.not_le, -Int.not_lt, -Nat.not_le, -Nat.not_lt, -Nat.add_left_cancel_iff, wrap_i64, wrap_u64, Tryz.f133, PHas])
theorem sHas_s {s e : Int} {K : AV → Prop} {tg : Tg K} : CW env 133 [.int .i64 s, .int .i64 e] K tg ↔ K (.bool (PSet 8 s && (decide (0 ≤ e) && decide (e ≤ 7)) && PHas s e)) := callsTo_iff (sHas_c )
attribute [simp] sHas_s
theorem inSet_c {s t : Int} (h0 : 0 ≤ s) (h1 : s < 9223372036854775808) (h2 : 0 ≤ t) (h3 : t < 9223372036854775808) : EvC env 43 [.int .i64 s, .int .i64 t] (.bool (decide (diff s.toNat t.toNat = 0))) := by
  refine evC_of (F := Tryz.f43) rfl rfl (Nat.le_of_ble_eq_true rfl) ?_
  repeat' (first | (apply brI <;> intro hb hb2 <;> (try simp [-Int.not_le, -Int.not_lt, -Nat.not_le, -Nat.not_lt, -Nat.add_left_cancel_iff] at hb2)) | (refine draw_listA (by rfl) (by kernel_rfl) ?_) | (refine draw_listB (by simp [allocsOf, isAlloc]; rfl) (by kernel_rfl) ?_) | simp (maxSteps := 2000000) (disch := first | omega | assumption | simp [*]) [*, -Int.not_le, -Int.not_lt, -Nat.not_le, -Nat.not_lt, -Nat.add_left_cancel_iff, wrap_i64, wrap_u64, Tryz.f43, bits_andNot, h0, h1, h2, h3])
theorem inSet_s {s t : Int} (h0 : 0 ≤ s) (h1 : s < 9223372036854775808) (h2 : 0 ≤ t) (h3 : t < 9223372036854775808) {K : AV → Prop} {tg : Tg K} : CW env 43 [.int .i64 s, .int .i64 t] K tg ↔ K (.bool (decide (diff s.toNat t.toNat = 0))) := callsTo_iff (inSet_c h0 h1 h2 h3)
attribute [simp] inSet_s

end Go.Proofs.YtlglhokpaplifaaGreatDoor
/- What the laws do with slices of numbers. Conditions: none. -/
namespace Go.Proofs.YtlglhokpaplifaaGreatDoor
open Ev
set_option linter.unusedVariables false
set_option linter.unusedSimpArgs false

theorem szIntS_c {v : AV} {n : Int} (hv : IsI v) (h0 : 0 ≤ n) (h1 : n ≤ 1048576) : EvC env 69 [v, .int .i64 n] (.int .i64 (if n < (xsOf v).length then -1 else n - (xsOf v).length)) := by
  refine evC_of (F := Tryz.f69) rfl rfl (Nat.le_of_ble_eq_true rfl) ?_
  have := hv.len
  unfold top63 at this
  repeat' (first | (apply brI <;> intro hb hb2 <;> (try simp [-Int.not_le, -Int.not_lt, -Nat.not_le, -Nat.not_lt, -Nat.add_left_cancel_iff] at hb2)) | (refine draw_listA (by rfl) (by kernel_rfl) ?_) | (refine draw_listB (by simp [allocsOf, isAlloc]; rfl) (by kernel_rfl) ?_) | simp (maxSteps := 2000000) (disch := first | omega | assumption | simp [*]) [*, -Int.not_le, -Int.not_lt, -Nat.not_le, -Nat.not_lt, -Nat.add_left_cancel_iff, wrap_i64, wrap_u64, Tryz.f69, isI_len hv, isI_low hv])
  · omega
  · omega
theorem szIntS_s {v : AV} {n : Int} (hv : IsI v) (h0 : 0 ≤ n) (h1 : n ≤ 1048576) {K : AV → Prop} {tg : Tg K} : CW env 69 [v, .int .i64 n] K tg ↔ K (.int .i64 (if n < (xsOf v).length then -1 else n - (xsOf v).length)) := callsTo_iff (szIntS_c hv h0 h1)
attribute [simp] szIntS_s
theorem take_all {xs ys : List Int} (hl : ys.length = xs.length) (h : ∀ j, j < xs.length → ys[j]? = xs[j]?) : ys = xs :=
  List.ext_getElem? fun j => if hj : j < xs.length then h j hj else by simp [List.getElem?_eq_none (Nat.le_of_not_lt hj), List.getElem?_eq_none (hl ▸ Nat.le_of_not_lt hj)]
theorem toIntS_c {v : AV} (hv : IsI v) (hl : (xsOf v).length ≤ 1048576) : EvC env 25 [v] (rowR 1 3 7 (ints (xsOf v))) := by
  refine evC_of (F := Tryz.f25) rfl rfl (Nat.le_of_ble_eq_true rfl) ?_
  have := hv.len
  repeat' (first | (apply brI <;> intro hb hb2 <;> (try simp [-Int.not_le, -Int.not_lt, -Nat.not_le, -Nat.not_lt, -Nat.add_left_cancel_iff] at hb2)) | (refine draw_listA (by rfl) (by kernel_rfl) ?_) | (refine draw_listB (by simp [allocsOf, isAlloc]; rfl) (by kernel_rfl) ?_) | simp (maxSteps := 2000000) (disch := first | omega | assumption | simp [*]) [*, -Int.not_le, -Int.not_lt, -Nat.not_le, -Nat.not_lt, -Nat.add_left_cancel_iff, wrap_i64, wrap_u64, Tryz.f25, isI_len hv, isI_low hv])
  refine W_loopG (xsOf v).length (fun i s h => s 4 = .int .i64 i ∧ s 0 = v ∧ s 3 = .ms 7 0 0 (xsOf v).length ∧
    ∃ ys, h = hset hnil 7 (.row 0 3 1 (ints ys)) ∧ ys.length = (xsOf v).length ∧ ∀ j, j < i → ys[j]? = (xsOf v)[j]?) ?_ ?_
  · simp
    exact ⟨_, rfl, by simp⟩
  rintro i s h hi ⟨h4, h0, h3, ys, rfl, hy, hj⟩
  repeat' (first | (apply brI <;> intro hb hb2 <;> (try simp [-Int.not_le, -Int.not_lt, -Nat.not_le, -Nat.not_lt, -Nat.add_left_cancel_iff] at hb2)) | (refine draw_listA (by rfl) (by kernel_rfl) ?_) | (refine draw_listB (by simp [allocsOf, isAlloc]; rfl) (by kernel_rfl) ?_) | simp (maxSteps := 2000000) (disch := first | omega | assumption | simp [*]) [*, -Int.not_le, -Int.not_lt, -Nat.not_le, -Nat.not_lt, -Nat.add_left_cancel_iff, wrap_i64, wrap_u64, h4, h0, h3, isI_len hv, isI_index hv, isI_load hv])
  · exact ⟨_, rfl, by simp [hy], fun j hj2 => by
      by_cases e : j = i
      · subst e; rw [List.getElem?_set_self (by omega), nth_get? hb2]
      · rw [List.getElem?_set_ne (by omega)]; exact hj j (by omega)⟩
  · rw [take_all hy (fun j hj2 => hj j (by omega))]
theorem toIntS_s {v : AV} (hv : IsI v) (hl : (xsOf v).length ≤ 1048576) {K : AV → Prop} {tg : Tg K} : CW env 25 [v] K tg ↔ K (rowR 1 3 7 (ints (xsOf v))) := callsTo_iff (toIntS_c hv hl)
attribute [simp] toIntS_s

theorem eqIntS_c {u v : AV} (hu : IsI u) (hv : IsI v) : EvC env 28 [u, v] (.bool (decide (xsOf u = xsOf v))) := by
  refine evC_of (F := Tryz.f28) rfl rfl (Nat.le_of_ble_eq_true rfl) ?_
  have := hu.len
  have := hv.len
  repeat' (first | (apply brI <;> intro hb hb2 <;> (try simp [-Int.not_le, -Int.not_lt, -Nat.not_le, -Nat.not_lt, -Nat.add_left_cancel_iff] at hb2)) | (refine draw_listA (by rfl) (by kernel_rfl) ?_) | (refine draw_listB (by simp [allocsOf, isAlloc]; rfl) (by kernel_rfl) ?_) | simp (maxSteps := 2000000) (disch := first | omega | assumption | simp [*]) [*, -Int.not_le, -Int.not_lt, -Nat.not_le, -Nat.not_lt, -Nat.add_left_cancel_iff, wrap_i64, wrap_u64, Tryz.f28, isI_len hu, isI_low hu, isI_len hv, isI_low hv])
  · intro e; exact hb2 (by rw [e])
  refine W_loopP (xsOf u).length (fun i s => s 5 = .int .i64 i ∧ s 0 = u ∧ s 1 = v ∧ ∀ j, j < i → (xsOf u)[j]? = (xsOf v)[j]?) rfl ?_ ?_
  · simp
  rintro i s hi ⟨h4, h0, h1, hj⟩
  repeat' (first | (apply brI <;> intro hb hb2 <;> (try simp [-Int.not_le, -Int.not_lt, -Nat.not_le, -Nat.not_lt, -Nat.add_left_cancel_iff] at hb2)) | (refine draw_listA (by rfl) (by kernel_rfl) ?_) | (refine draw_listB (by simp [allocsOf, isAlloc]; rfl) (by kernel_rfl) ?_) | simp (maxSteps := 2000000) (disch := first | omega | assumption | simp [*]) [*, -Int.not_le, -Int.not_lt, -Nat.not_le, -Nat.not_lt, -Nat.add_left_cancel_iff, wrap_i64, wrap_u64, h4, h0, h1, isI_len hu, isI_index hu, isI_load hu, isI_index hv, isI_load hv])
  · intro e; apply hb2; rw [e]
  · refine ⟨by omega, fun j hj2 => ?_⟩
    by_cases e : j = i
    · subst e; rw [nth_get? (by omega), nth_get? (by omega), hb2]
    · exact hj j (by omega)
  · exact (take_all (by omega) (fun j hj2 => (hj j (by omega)).symm)).symm
theorem eqIntS_s {u v : AV} (hu : IsI u) (hv : IsI v) {K : AV → Prop} {tg : Tg K} : CW env 28 [u, v] K tg ↔ K (.bool (decide (xsOf u = xsOf v))) := callsTo_iff (eqIntS_c hu hv)
attribute [simp] eqIntS_s

end Go.Proofs.YtlglhokpaplifaaGreatDoor
/- What is an order: the reference's answer and the program's. Conditions: none. -/
namespace Go.Proofs.YtlglhokpaplifaaGreatDoor
open Ev
set_option linter.unusedVariables false
set_option linter.unusedSimpArgs false
set_option maxHeartbeats 4000000

def OrdK (b : List Int) (k : Nat) : Prop := PSet b.length (nth b k) = true ∧ PHas (nth b k) k = true
def OrdP (b : List Int) (x y : Nat) : Prop := PHas (nth b x) y = true → PSub (nth b y) (nth b x) = true ∧ (x ≠ y → PHas (nth b y) x = false)
def POrder (b : List Int) : Prop := b.length ≤ 6 ∧ (∀ k, k < b.length → OrdK b k) ∧ ∀ x y, x < b.length → y < b.length → OrdP b x y
noncomputable instance (b : List Int) : Decidable (POrder b) := Classical.propDecidable _

/-- the elements of a set, below n -/
def elemsTo (s : Int) (n : Nat) : List Int := ((List.range n).filter fun (e : Nat) => PSet 8 s && PHas s e).map Int.ofNat
theorem elemsTo_succ (s : Int) (i : Nat) : elemsTo s (i + 1) = elemsTo s i ++ if (PSet 8 s && PHas s i) = true then [(i : Int)] else [] := by
  unfold elemsTo
  rw [List.range_succ, List.filter_append, List.map_append]
  congr 1
  simp only [List.filter_cons, List.filter_nil]
  split <;> rfl
theorem elemsTo_len (s : Int) (i : Nat) : (elemsTo s i).length ≤ i := by
  unfold elemsTo
  rw [List.length_map]
  exact Nat.le_trans (List.length_filter_le ..) (by simp)
theorem iElementsOf_c {s : Int} : EvC env 119 [.int .i64 s] (bufR 3 15 1 (elemsTo s 8)) := by
  refine evC_of (F := Tryz.f119) rfl rfl (Nat.le_of_ble_eq_true rfl) ?_
  repeat' (first | (apply brI <;> intro hb hb2 <;> (try simp [-Int.not_le, -Int.not_lt, -Nat.not_le, -Nat.not_lt, -Nat.add_left_cancel_iff] at hb2)) | (refine draw_listA (by rfl) (by kernel_rfl) ?_) | (refine draw_listB (by simp [allocsOf, isAlloc]; rfl) (by kernel_rfl) ?_) | simp (maxSteps := 2000000) (disch := first | omega | assumption | simp [*]) [*, -Int.not_le, -Int.not_lt, -Nat.not_le, -Nat.not_lt, -Nat.add_left_cancel_iff, wrap_i64, wrap_u64, Tryz.f119])
  refine W_loopG 8 (fun i s' h => s' 6 = .int .i64 i ∧ s' 0 = .int .i64 s ∧ Buf h 3 15 1 (s' 3) (elemsTo s i)) ?_ ?_
  · simp [elemsTo]; exact buf_nil ..
  rintro i s' h hi ⟨h6, h0, hB⟩
  have hl := elemsTo_len s i
  repeat' (first | (apply brI <;> intro hb hb2 <;> (try simp [-Int.not_le, -Int.not_lt, -Nat.not_le, -Nat.not_lt, -Nat.add_left_cancel_iff] at hb2)) | (refine draw_listA (by rfl) (by kernel_rfl) ?_) | (refine draw_listB (by simp [allocsOf, isAlloc]; rfl) (by kernel_rfl) ?_) | simp (maxSteps := 2000000) (disch := first | omega | assumption | simp [*]) [*, -Int.not_le, -Int.not_lt, -Nat.not_le, -Nat.not_lt, -Nat.add_left_cancel_iff, wrap_i64, wrap_u64, h6, h0])
  · refine wa_push hB (by simp) (by simp) (by omega) ?_
    intro v2 h2 hB2 hk2
    repeat' (first | (apply brI <;> intro hb hb2 <;> (try simp [-Int.not_le, -Int.not_lt, -Nat.not_le, -Nat.not_lt, -Nat.add_left_cancel_iff] at hb2)) | (refine draw_listA (by rfl) (by kernel_rfl) ?_) | (refine draw_listB (by simp [allocsOf, isAlloc]; rfl) (by kernel_rfl) ?_) | simp (maxSteps := 2000000) (disch := first | omega | assumption | simp [*]) [*, -Int.not_le, -Int.not_lt, -Nat.not_le, -Nat.not_lt, -Nat.add_left_cancel_iff, wrap_i64, wrap_u64, h6, h0])
    exact ⟨by omega, by rw [elemsTo_succ, if_pos (by simp_all)]; exact hB2⟩
  · exact ⟨by omega, by rw [elemsTo_succ, if_neg (by simp at hb2 ⊢; exact fun h => hb2 h (by omega)), List.append_nil]; exact hB⟩
  · obtain rfl : i = 8 := by omega
    exact hB.expo
theorem iElementsOf_s {s : Int} {K : AV → Prop} {tg : Tg K} : CW env 119 [.int .i64 s] K tg ↔ K (bufR 3 15 1 (elemsTo s 8)) := callsTo_iff (iElementsOf_c )
attribute [simp] iElementsOf_s
theorem mem_elems {s : Int} {e : Nat} (h : e < (elemsTo s 8).length) : ∃ m : Nat, nth (elemsTo s 8) e = m ∧ m < 8 ∧ PSet 8 s = true ∧ PHas s m = true := by
  have := List.getElem_mem h
  rw [← nth_eq h] at this
  unfold elemsTo at this
  simp only [List.mem_map, List.mem_filter, List.mem_range, Bool.and_eq_true] at this
  obtain ⟨m, ⟨h1, h2, h3⟩, h4⟩ := this
  exact ⟨m, h4.symm, h1, h2, h3⟩
theorem elems_mem {s : Int} {m : Nat} (h1 : m < 8) (h2 : PSet 8 s = true) (h3 : PHas s m = true) : ∃ e, e < (elemsTo s 8).length ∧ nth (elemsTo s 8) e = m := by
  have : (m : Int) ∈ elemsTo s 8 := by
    unfold elemsTo
    simp only [List.mem_map, List.mem_filter, List.mem_range, Bool.and_eq_true]
    exact ⟨m, ⟨h1, h2, h3⟩, rfl⟩
  obtain ⟨e, he, h⟩ := List.getElem_of_mem this
  exact ⟨e, he, by rw [nth_eq he, h]⟩


end Go.Proofs.YtlglhokpaplifaaGreatDoor
/- Contexts: what is one, and what the laws do with them. Conditions: none. -/
namespace Go.Proofs.YtlglhokpaplifaaGreatDoor
open Ev
set_option linter.unusedVariables false
set_option linter.unusedSimpArgs false
set_option maxHeartbeats 4000000

/-- what is a context -/
def PCtx (n : Int) (xs : List Int) : Prop := 0 ≤ n ∧ n ≤ 6 ∧ xs.length ≤ 8 ∧ ∀ k, k < xs.length → PSet n (nth xs k) = true
noncomputable instance (n : Int) (xs : List Int) : Decidable (PCtx n xs) := Classical.propDecidable _
theorem pctx_row {n : Int} {xs : List Int} (h : PCtx n xs) {k : Nat} (hk : k < xs.length) : 0 ≤ nth xs k ∧ nth xs k < 2 ^ n.toNat ∧ nth xs k < 256 := by
  have h1 := h.2.2.2 k hk
  obtain ⟨a, b, c, d⟩ := pset_iff.mp h1
  have := pset_lt h1
  exact ⟨c, d, this.2⟩
theorem mul_pow_le {y n : Int} (h0 : 0 ≤ y) (h1 : y ≤ 256) (hn : n ≤ 8) : 0 ≤ y * 2 ^ n.toNat ∧ y * 2 ^ n.toNat ≤ 65536 := by
  have := pow8 hn
  have hp := pow_pos2 n.toNat
  refine ⟨Int.mul_nonneg h0 (Int.le_of_lt hp), ?_⟩
  have := Int.mul_le_mul h1 this (Int.le_of_lt hp) (by decide)
  omega

theorem sFullSet_c {n : Int} : EvC env 45 [.int .i64 n] (.int .i64 (if 0 ≤ n ∧ n ≤ 8 then 2 ^ n.toNat - 1 else 0)) := by
  refine evC_of (F := Tryz.f45) rfl rfl (Nat.le_of_ble_eq_true rfl) ?_
  repeat' (first | (apply brI <;> intro hb hb2 <;> (try simp [-Int.not_le, -Int.not_lt, -Nat.not_le, -Nat.not_lt, -Nat.add_left_cancel_iff] at hb2)) | (refine draw_listA (by rfl) (by kernel_rfl) ?_) | (refine draw_listB (by simp [allocsOf, isAlloc]; rfl) (by kernel_rfl) ?_) | simp (maxSteps := 2000000) (disch := first | omega | assumption | simp [*]) [*, -Int.not_le, -Int.not_lt, -Nat.not_le, -Nat.not_lt, -Nat.add_left_cancel_iff, wrap_i64, wrap_u64, Tryz.f45])
  grind
theorem sFullSet_s {n : Int} {K : AV → Prop} {tg : Tg K} : CW env 45 [.int .i64 n] K tg ↔ K (.int .i64 (if 0 ≤ n ∧ n ≤ 8 then 2 ^ n.toNat - 1 else 0)) := callsTo_iff (sFullSet_c )
attribute [simp] sFullSet_s
theorem iFullSet_c {n : Int} : EvC env 37 [.int .i64 n] (.int .i64 (if 0 ≤ n ∧ n ≤ 8 then 2 ^ n.toNat - 1 else 0)) := by
  refine evC_of (F := Tryz.f37) rfl rfl (Nat.le_of_ble_eq_true rfl) ?_
  repeat' (first | (apply brI <;> intro hb hb2 <;> (try simp [-Int.not_le, -Int.not_lt, -Nat.not_le, -Nat.not_lt, -Nat.add_left_cancel_iff] at hb2)) | (refine draw_listA (by rfl) (by kernel_rfl) ?_) | (refine draw_listB (by simp [allocsOf, isAlloc]; rfl) (by kernel_rfl) ?_) | simp (maxSteps := 2000000) (disch := first | omega | assumption | simp [*]) [*, -Int.not_le, -Int.not_lt, -Nat.not_le, -Nat.not_lt, -Nat.add_left_cancel_iff, wrap_i64, wrap_u64, Tryz.f37])
  grind
theorem iFullSet_s {n : Int} {K : AV → Prop} {tg : Tg K} : CW env 37 [.int .i64 n] K tg ↔ K (.int .i64 (if 0 ≤ n ∧ n ≤ 8 then 2 ^ n.toNat - 1 else 0)) := callsTo_iff (iFullSet_c )
attribute [simp] iFullSet_s
theorem sIsContext_c {n : Int} {v : AV} (hv : IsI v) : EvC env 66 [.agg [.int .i64 n, v]] (.bool (decide (PCtx n (xsOf v)))) := by
  refine evC_of (F := Tryz.f66) rfl rfl (Nat.le_of_ble_eq_true rfl) ?_
  have := hv.len
  repeat' (first | (apply brI <;> intro hb hb2 <;> (try simp [-Int.not_le, -Int.not_lt, -Nat.not_le, -Nat.not_lt, -Nat.add_left_cancel_iff] at hb2)) | (refine draw_listA (by rfl) (by kernel_rfl) ?_) | (refine draw_listB (by simp [allocsOf, isAlloc]; rfl) (by kernel_rfl) ?_) | simp (maxSteps := 2000000) (disch := first | omega | assumption | simp [*]) [*, -Int.not_le, -Int.not_lt, -Nat.not_le, -Nat.not_lt, -Nat.add_left_cancel_iff, wrap_i64, wrap_u64, Tryz.f66, isI_cells hv, isI_one hv, isI_low hv, isI_len hv])
  refine W_loopP (xsOf v).length (fun i s => s 3 = .int .i64 i ∧ s 1 = .vp 1 0 0 ∧ ∀ j, j < i → PSet n (nth (xsOf v) j) = true) rfl ?_ ?_
  · simp
  rintro i s hi ⟨h3, h1, hj⟩
  repeat' (first | (apply brI <;> intro hb hb2 <;> (try simp [-Int.not_le, -Int.not_lt, -Nat.not_le, -Nat.not_lt, -Nat.add_left_cancel_iff] at hb2)) | (refine draw_listA (by rfl) (by kernel_rfl) ?_) | (refine draw_listB (by simp [allocsOf, isAlloc]; rfl) (by kernel_rfl) ?_) | simp (maxSteps := 2000000) (disch := first | omega | assumption | simp [*]) [*, -Int.not_le, -Int.not_lt, -Nat.not_le, -Nat.not_lt, -Nat.add_left_cancel_iff, wrap_i64, wrap_u64, h3, h1, isI_cells hv, isI_one hv, isI_low hv, isI_len hv, isI_index hv, isI_load hv])
  all_goals grind [PCtx]
theorem sIsContext_s {n : Int} {v : AV} (hv : IsI v) {K : AV → Prop} {tg : Tg K} : CW env 66 [.agg [.int .i64 n, v]] K tg ↔ K (.bool (decide (PCtx n (xsOf v)))) := callsTo_iff (sIsContext_c hv)
attribute [simp] sIsContext_s
/-- the first place where p holds -/
def idxI (p : Int → Bool) (xs : List Int) : Int := match xs.findIdx? p with | some i => (i : Int) | none => -1
theorem idxI_none {p : Int → Bool} {xs : List Int} (h : ∀ j, j < xs.length → p (nth xs j) = false) : idxI p xs = -1 := by
  unfold idxI
  rw [List.findIdx?_eq_none_iff.mpr]
  intro x hx
  obtain ⟨j, hj, rfl⟩ := List.getElem_of_mem hx
  have := h j hj
  rw [nth_eq hj] at this
  simpa using this
theorem idxI_some {p : Int → Bool} {xs : List Int} {i : Nat} (hi : i < xs.length) (hp : p (nth xs i) = true) (h : ∀ j, j < i → p (nth xs j) = false) : idxI p xs = i := by
  unfold idxI
  rw [List.findIdx?_eq_some_iff_getElem.mpr]
  exact ⟨hi, by rwa [nth_eq hi] at hp, fun j hj => by have := h j hj; rw [nth_eq (by omega)] at this; simpa using this⟩
theorem idxI_any {p : Int → Bool} {xs : List Int} : (0 ≤ idxI p xs) ↔ xs.any p = true := by
  unfold idxI
  cases h : xs.findIdx? p with
  | none =>
    simp only [List.findIdx?_eq_none_iff] at h
    simp; exact h
  | some i =>
    rw [List.findIdx?_eq_some_iff_getElem] at h
    obtain ⟨hi, hp, _⟩ := h
    simp only [List.any_eq_true]
    exact ⟨fun _ => ⟨xs[i], List.getElem_mem hi, hp⟩, fun _ => Int.natCast_nonneg i⟩
theorem indexFunc_c {v : AV} {g : Nat} {caps : List AV} {p : Int → Bool} (hv : IsI v) (hx : env.ext g = none) (ho : env.open_ g = false) (hdp : env.deep g = false) (hl : ∀ h, lows h caps = caps) (hp : ∀ x, EvC env g (.int .i64 x :: caps) (.bool (p x))) : EvC env 41 [v, .fn g caps] (.int .i64 (idxI p (xsOf v))) := by
  refine evC_of (F := Tryz.f41) rfl rfl (Nat.le_of_ble_eq_true rfl) ?_
  have := hv.len
  have hp2 : ∀ (x : Int) (K : AV → Prop) (tg : Tg K), CW env g (.int .i64 x :: caps) K tg ↔ K (.bool (p x)) := fun x K tg => callsTo_iff (hp x)
  repeat' (first | (apply brI <;> intro hb hb2 <;> (try simp [-Int.not_le, -Int.not_lt, -Nat.not_le, -Nat.not_lt, -Nat.add_left_cancel_iff] at hb2)) | (refine draw_listA (by rfl) (by kernel_rfl) ?_) | (refine draw_listB (by simp [allocsOf, isAlloc]; rfl) (by kernel_rfl) ?_) | simp (maxSteps := 2000000) (disch := first | omega | assumption | simp [*]) [*, -Int.not_le, -Int.not_lt, -Nat.not_le, -Nat.not_lt, -Nat.add_left_cancel_iff, wrap_i64, wrap_u64, Tryz.f41, isI_len hv])
  refine W_loopG (xsOf v).length (fun i s h => h = hnil ∧ s 8 = .int .i64 i ∧ s 7 = .int .i64 (xsOf v).length ∧ s 0 = v ∧ s 1 = .fn g caps ∧ ∀ j, j < i → p (nth (xsOf v) j) = false) ?_ ?_
  · simp
  rintro i s h hi ⟨rfl, h8, h7, h0, h1, hj⟩
  repeat' (first | (apply brI <;> intro hb hb2 <;> (try simp [-Int.not_le, -Int.not_lt, -Nat.not_le, -Nat.not_lt, -Nat.add_left_cancel_iff] at hb2)) | (refine draw_listA (by rfl) (by kernel_rfl) ?_) | (refine draw_listB (by simp [allocsOf, isAlloc]; rfl) (by kernel_rfl) ?_) | simp (maxSteps := 2000000) (disch := first | omega | assumption | simp [*]) [*, -Int.not_le, -Int.not_lt, -Nat.not_le, -Nat.not_lt, -Nat.add_left_cancel_iff, wrap_i64, wrap_u64, h8, h7, h0, h1, isI_len hv, isI_index hv, isI_load hv])
  · rw [idxI_some (by assumption) (by assumption) hj]
  · grind
  · rw [idxI_none]; grind
theorem indexFunc_s {v : AV} {g : Nat} {caps : List AV} {p : Int → Bool} (hv : IsI v) (hx : env.ext g = none) (ho : env.open_ g = false) (hdp : env.deep g = false) (hl : ∀ h, lows h caps = caps) (hp : ∀ x, EvC env g (.int .i64 x :: caps) (.bool (p x))) {K : AV → Prop} {tg : Tg K} : CW env 41 [v, .fn g caps] K tg ↔ K (.int .i64 (idxI p (xsOf v))) := callsTo_iff (indexFunc_c hv hx ho hdp hl hp)
attribute [simp] indexFunc_s
theorem containsFunc_c {v : AV} {g : Nat} {caps : List AV} {p : Int → Bool} (hv : IsI v) (hx : env.ext g = none) (ho : env.open_ g = false) (hdp : env.deep g = false) (hl : ∀ h, lows h caps = caps) (hp : ∀ x, EvC env g (.int .i64 x :: caps) (.bool (p x))) : EvC env 81 [v, .fn g caps] (.bool ((xsOf v).any p)) := by
  refine evC_of (F := Tryz.f81) rfl rfl (Nat.le_of_ble_eq_true rfl) ?_
  have := hv.len
  repeat' (first | (apply brI <;> intro hb hb2 <;> (try simp [-Int.not_le, -Int.not_lt, -Nat.not_le, -Nat.not_lt, -Nat.add_left_cancel_iff] at hb2)) | (refine draw_listA (by rfl) (by kernel_rfl) ?_) | (refine draw_listB (by simp [allocsOf, isAlloc]; rfl) (by kernel_rfl) ?_) | simp (maxSteps := 2000000) (disch := first | omega | assumption | simp [*]) [*, -Int.not_le, -Int.not_lt, -Nat.not_le, -Nat.not_lt, -Nat.add_left_cancel_iff, wrap_i64, wrap_u64, Tryz.f81, isI_low hv, low_fn])
  rw [Bool.eq_iff_iff, ← idxI_any]; simp
theorem containsFunc_s {v : AV} {g : Nat} {caps : List AV} {p : Int → Bool} (hv : IsI v) (hx : env.ext g = none) (ho : env.open_ g = false) (hdp : env.deep g = false) (hl : ∀ h, lows h caps = caps) (hp : ∀ x, EvC env g (.int .i64 x :: caps) (.bool (p x))) {K : AV → Prop} {tg : Tg K} : CW env 81 [v, .fn g caps] K tg ↔ K (.bool ((xsOf v).any p)) := callsTo_iff (containsFunc_c hv hx ho hdp hl hp)
attribute [simp] containsFunc_s
theorem iIsContext1_c {n s : Int} {v : AV} : EvC env 82 [.int .i64 s, .cp true [.int .i64 n, v] 0] (.bool (!PSet n s)) := by
  refine evC_of (F := Tryz.f82) rfl rfl (Nat.le_of_ble_eq_true rfl) ?_
  repeat' (first | (apply brI <;> intro hb hb2 <;> (try simp [-Int.not_le, -Int.not_lt, -Nat.not_le, -Nat.not_lt, -Nat.add_left_cancel_iff] at hb2)) | (refine draw_listA (by rfl) (by kernel_rfl) ?_) | (refine draw_listB (by simp [allocsOf, isAlloc]; rfl) (by kernel_rfl) ?_) | simp (maxSteps := 2000000) (disch := first | omega | assumption | simp [*]) [*, -Int.not_le, -Int.not_lt, -Nat.not_le, -Nat.not_lt, -Nat.add_left_cancel_iff, wrap_i64, wrap_u64, Tryz.f82])
theorem iIsContext1_s {n s : Int} {v : AV} {K : AV → Prop} {tg : Tg K} : CW env 82 [.int .i64 s, .cp true [.int .i64 n, v] 0] K tg ↔ K (.bool (!PSet n s)) := callsTo_iff (iIsContext1_c )
attribute [simp] iIsContext1_s
theorem iIsContext_c {n : Int} {v : AV} (hv : IsI v) : EvC env 36 [.agg [.int .i64 n, v]] (.bool (decide (PCtx n (xsOf v)))) := by
  refine evC_of (F := Tryz.f36) rfl rfl (Nat.le_of_ble_eq_true rfl) ?_
  have := hv.len
  have hcf : ∀ (K : AV → Prop) (tg : Tg K), CW env 81 [v, .fn 82 [.cp true [.int .i64 n, v] 0]] K tg ↔ K (.bool ((xsOf v).any fun s => !PSet n s)) :=
    fun K tg => callsTo_iff (containsFunc_c hv rfl rfl rfl (fun h => by simp) (fun x => iIsContext1_c))
  have hany : ((xsOf v).any fun s => !PSet n s) = false ↔ ∀ k, k < (xsOf v).length → PSet n (nth (xsOf v) k) = true := by
    simp only [List.any_eq_false, List.mem_iff_getElem]
    constructor
    · intro h k hk; have := h _ ⟨k, hk, rfl⟩; rw [nth_eq hk]; simpa using this
    · rintro h x ⟨k, hk, rfl⟩; have := h k hk; rw [nth_eq hk] at this; simpa using this
  repeat' (first | (apply brI <;> intro hb hb2 <;> (try simp [-Int.not_le, -Int.not_lt, -Nat.not_le, -Nat.not_lt, -Nat.add_left_cancel_iff] at hb2)) | (refine draw_listA (by rfl) (by kernel_rfl) ?_) | (refine draw_listB (by simp [allocsOf, isAlloc]; rfl) (by kernel_rfl) ?_) | simp (maxSteps := 2000000) (disch := first | omega | assumption | simp [*]) [*, -Int.not_le, -Int.not_lt, -Nat.not_le, -Nat.not_lt, -Nat.add_left_cancel_iff, wrap_i64, wrap_u64, Tryz.f36, isI_cells hv, isI_one hv, isI_low hv, isI_low0 hv, isI_len hv])
  · rw [Bool.eq_iff_iff]; simp; grind [PCtx]
  all_goals grind [PCtx]
theorem iIsContext_s {n : Int} {v : AV} (hv : IsI v) {K : AV → Prop} {tg : Tg K} : CW env 36 [.agg [.int .i64 n, v]] K tg ↔ K (.bool (decide (PCtx n (xsOf v)))) := callsTo_iff (iIsContext_c hv)
attribute [simp] iIsContext_s
/-- a context's slice, measured -/
theorem szContext_c {m : Int} {v : AV} {n : Int} (hv : IsI v) (h0 : 0 ≤ n) (h1 : n ≤ 1048576) : EvC env 23 [.agg [.int .i64 m, v], .int .i64 n] (.int .i64 (if n < (xsOf v).length then -1 else n - (xsOf v).length)) := by
  refine evC_of (F := Tryz.f23) rfl rfl (Nat.le_of_ble_eq_true rfl) ?_
  have := hv.len
  repeat' (first | (apply brI <;> intro hb hb2 <;> (try simp [-Int.not_le, -Int.not_lt, -Nat.not_le, -Nat.not_lt, -Nat.add_left_cancel_iff] at hb2)) | (refine draw_listA (by rfl) (by kernel_rfl) ?_) | (refine draw_listB (by simp [allocsOf, isAlloc]; rfl) (by kernel_rfl) ?_) | simp (maxSteps := 2000000) (disch := first | omega | assumption | simp [*]) [*, -Int.not_le, -Int.not_lt, -Nat.not_le, -Nat.not_lt, -Nat.add_left_cancel_iff, wrap_i64, wrap_u64, Tryz.f23, isI_cells hv, isI_one hv, isI_low hv])
  all_goals grind
theorem szContext_s {m : Int} {v : AV} {n : Int} (hv : IsI v) (h0 : 0 ≤ n) (h1 : n ≤ 1048576) {K : AV → Prop} {tg : Tg K} : CW env 23 [.agg [.int .i64 m, v], .int .i64 n] K tg ↔ K (.int .i64 (if n < (xsOf v).length then -1 else n - (xsOf v).length)) := callsTo_iff (szContext_c hv h0 h1)
attribute [simp] szContext_s
theorem toContext_c {m : Int} {v : AV} (hv : IsI v) (hl : (xsOf v).length ≤ 1048576) : EvC env 24 [.agg [.int .i64 m, v]] (.agg [.int .i64 m, rowR 1 3 9 (ints (xsOf v))]) := by
  refine evC_of (F := Tryz.f24) rfl rfl (Nat.le_of_ble_eq_true rfl) ?_
  have := hv.len
  repeat' (first | (apply brI <;> intro hb hb2 <;> (try simp [-Int.not_le, -Int.not_lt, -Nat.not_le, -Nat.not_lt, -Nat.add_left_cancel_iff] at hb2)) | (refine draw_listA (by rfl) (by kernel_rfl) ?_) | (refine draw_listB (by simp [allocsOf, isAlloc]; rfl) (by kernel_rfl) ?_) | simp (maxSteps := 2000000) (disch := first | omega | assumption | simp [*]) [*, -Int.not_le, -Int.not_lt, -Nat.not_le, -Nat.not_lt, -Nat.add_left_cancel_iff, wrap_i64, wrap_u64, Tryz.f24, isI_cells hv, isI_one hv, isI_low hv])
  refine cf_row (by simpa [isI_low hv] using toIntS_c hv hl) (ownR_row ..) (by simp) rfl ?_
  intro v2 h2 hR hh
  have o2 := hR.one
  have c2 := hR.cells
  repeat' (first | (apply brI <;> intro hb hb2 <;> (try simp [-Int.not_le, -Int.not_lt, -Nat.not_le, -Nat.not_lt, -Nat.add_left_cancel_iff] at hb2)) | (refine draw_listA (by rfl) (by kernel_rfl) ?_) | (refine draw_listB (by simp [allocsOf, isAlloc]; rfl) (by kernel_rfl) ?_) | simp (maxSteps := 2000000) (disch := first | omega | assumption | simp [*]) [*, -Int.not_le, -Int.not_lt, -Nat.not_le, -Nat.not_lt, -Nat.add_left_cancel_iff, wrap_i64, wrap_u64])
  rw [(hR.keep (by simp [hset])).expoI, rowX_row]
theorem toContext_s {m : Int} {v : AV} (hv : IsI v) (hl : (xsOf v).length ≤ 1048576) {K : AV → Prop} {tg : Tg K} : CW env 24 [.agg [.int .i64 m, v]] K tg ↔ K (.agg [.int .i64 m, rowR 1 3 9 (ints (xsOf v))]) := callsTo_iff (toContext_c hv hl)
attribute [simp] toContext_s
theorem eqContext_c {m m2 : Int} {u v : AV} (hu : IsI u) (hv : IsI v) : EvC env 27 [.agg [.int .i64 m, u], .agg [.int .i64 m2, v]] (.bool (decide (m = m2 ∧ xsOf u = xsOf v))) := by
  refine evC_of (F := Tryz.f27) rfl rfl (Nat.le_of_ble_eq_true rfl) ?_
  repeat' (first | (apply brI <;> intro hb hb2 <;> (try simp [-Int.not_le, -Int.not_lt, -Nat.not_le, -Nat.not_lt, -Nat.add_left_cancel_iff] at hb2)) | (refine draw_listA (by rfl) (by kernel_rfl) ?_) | (refine draw_listB (by simp [allocsOf, isAlloc]; rfl) (by kernel_rfl) ?_) | simp (maxSteps := 2000000) (disch := first | omega | assumption | simp [*]) [*, -Int.not_le, -Int.not_lt, -Nat.not_le, -Nat.not_lt, -Nat.add_left_cancel_iff, wrap_i64, wrap_u64, Tryz.f27, isI_cells hv, isI_one hv, isI_low hv, isI_cells hu, isI_one hu, isI_low hu])
theorem eqContext_s {m m2 : Int} {u v : AV} (hu : IsI u) (hv : IsI v) {K : AV → Prop} {tg : Tg K} : CW env 27 [.agg [.int .i64 m, u], .agg [.int .i64 m2, v]] K tg ↔ K (.bool (decide (m = m2 ∧ xsOf u = xsOf v))) := callsTo_iff (eqContext_c hu hv)
attribute [simp] eqContext_s
theorem markIntS_o {v : AV} {key T k0 : Nat} {xs : List Int} {k : Int} {h : Heap} {off : Nat} {K : AV → Heap → Prop} (hR : Row h key T 1 k0 v (ints xs)) (h0 : 0 ≤ k) (h1 : k + xs.length ≤ 4611686018427387904) (hK : ∀ h', Row h' key T 1 k0 v (ints (upTo k xs.length)) → (∀ x, x ≠ key → h' x = h x) → K (.int .i64 (k + xs.length)) h') : OpenTo env 30 [v, .int .i64 k] h off K := by
  refine openTo_of (F := Tryz.f30) rfl rfl (Nat.le_of_ble_eq_true rfl) ?_
  repeat' (first | (apply brI <;> intro hb hb2 <;> (try simp [-Int.not_le, -Int.not_lt, -Nat.not_le, -Nat.not_lt, -Nat.add_left_cancel_iff] at hb2)) | (refine draw_listA (by rfl) (by kernel_rfl) ?_) | (refine draw_listB (by simp [allocsOf, isAlloc]; rfl) (by kernel_rfl) ?_) | simp (maxSteps := 2000000) (disch := first | omega | assumption | simp [*]) [*, -Int.not_le, -Int.not_lt, -Nat.not_le, -Nat.not_lt, -Nat.add_left_cancel_iff, wrap_i64, wrap_u64, Tryz.f30])
  refine W_loopG xs.length (fun i s h' => s 5 = .int .i64 i ∧ s 0 = v ∧ s 1 = .int .i64 (k + i) ∧ (∀ x, x ≠ key → h' x = h x) ∧ ∃ ys, Row h' key T 1 k0 v (ints ys) ∧ ys.length = xs.length ∧ ∀ j, j < i → ys[j]? = some (k + (j : Int))) ?_ ?_
  · simp; exact ⟨xs, hR, rfl⟩
  rintro i s h2 hi ⟨h5, h0, h1, hh, ys, hR2, hy, hj⟩
  have hlen := fun E t ht => hR2.len (E := E) (t := t) ht
  by_cases hi2 : i < xs.length
  · rcases hR2 with ⟨e, _⟩ | ⟨hx, g, rfl, hg⟩
    · rw [show ys = [] by simpa using e] at hy; simp at hy; omega
    repeat' (first | (apply brI <;> intro hb hb2 <;> (try simp [-Int.not_le, -Int.not_lt, -Nat.not_le, -Nat.not_lt, -Nat.add_left_cancel_iff] at hb2)) | (refine draw_listA (by rfl) (by kernel_rfl) ?_) | (refine draw_listB (by simp [allocsOf, isAlloc]; rfl) (by kernel_rfl) ?_) | simp (maxSteps := 2000000) (disch := first | omega | assumption | simp [*]) [*, -Int.not_le, -Int.not_lt, -Nat.not_le, -Nat.not_lt, -Nat.add_left_cancel_iff, wrap_i64, wrap_u64, h5, h0, h1])
    refine ⟨by omega, fun x a b => absurd b a, ys.set i (k + i), .inr ⟨by simpa using hx, g, by simp [hy], by simp [hset]⟩, by simp [hy], fun j hj2 => ?_⟩
    by_cases e : j = i
    · subst e; rw [List.getElem?_set_self (by omega)]
    · rw [List.getElem?_set_ne (by omega)]; exact hj j (by omega)
  · obtain rfl : i = xs.length := by omega
    repeat' (first | (apply brI <;> intro hb hb2 <;> (try simp [-Int.not_le, -Int.not_lt, -Nat.not_le, -Nat.not_lt, -Nat.add_left_cancel_iff] at hb2)) | (refine draw_listA (by rfl) (by kernel_rfl) ?_) | (refine draw_listB (by simp [allocsOf, isAlloc]; rfl) (by kernel_rfl) ?_) | simp (maxSteps := 2000000) (disch := first | omega | assumption | simp [*]) [*, -Int.not_le, -Int.not_lt, -Nat.not_le, -Nat.not_lt, -Nat.add_left_cancel_iff, wrap_i64, wrap_u64, h5, h0, h1])
    rw [upTo_ext hy hj] at hR2
    exact hK _ hR2 hh
theorem markContext_o {m : Int} {v : AV} {key T k0 : Nat} {xs : List Int} {k : Int} {h : Heap} {off : Nat} {K : AV → Heap → Prop} (hR : Row h key T 1 k0 v (ints xs)) (hne : key ≠ off + 2) (h0 : 0 ≤ k) (h1 : k + xs.length ≤ 4611686018427387904) (hK : ∀ h', Row h' key T 1 k0 v (ints (upTo k xs.length)) → (∀ x, x ≠ key → x ≠ off + 2 → h' x = h x) → K (.int .i64 (k + xs.length)) h') : OpenTo env 29 [.agg [.int .i64 m, v], .int .i64 k] h off K := by
  refine openTo_of (F := Tryz.f29) rfl rfl (Nat.le_of_ble_eq_true rfl) ?_
  have o1 := hR.one
  have c1 := hR.cells
  repeat' (first | (apply brI <;> intro hb hb2 <;> (try simp [-Int.not_le, -Int.not_lt, -Nat.not_le, -Nat.not_lt, -Nat.add_left_cancel_iff] at hb2)) | (refine draw_listA (by rfl) (by kernel_rfl) ?_) | (refine draw_listB (by simp [allocsOf, isAlloc]; rfl) (by kernel_rfl) ?_) | simp (maxSteps := 2000000) (disch := first | omega | assumption | simp [*]) [*, -Int.not_le, -Int.not_lt, -Nat.not_le, -Nat.not_lt, -Nat.add_left_cancel_iff, wrap_i64, wrap_u64, Tryz.f29])
  refine cf_open rfl rfl (markIntS_o (hR.keep (by simp [hset, hne])) h0 h1 fun h2 hR2 hh2 => ?_)
  repeat' (first | (apply brI <;> intro hb hb2 <;> (try simp [-Int.not_le, -Int.not_lt, -Nat.not_le, -Nat.not_lt, -Nat.add_left_cancel_iff] at hb2)) | (refine draw_listA (by rfl) (by kernel_rfl) ?_) | (refine draw_listB (by simp [allocsOf, isAlloc]; rfl) (by kernel_rfl) ?_) | simp (maxSteps := 2000000) (disch := first | omega | assumption | simp [*]) [*, -Int.not_le, -Int.not_lt, -Nat.not_le, -Nat.not_lt, -Nat.add_left_cancel_iff, wrap_i64, wrap_u64])
  exact hK _ hR2 fun x g1 g2 => by rw [hh2 x g1]; simp [hset, g2]
theorem heldIntS_c {v : AV} {k : Int} (hv : IsI v) (h0 : 0 ≤ k) (h1 : k + (xsOf v).length ≤ 4611686018427387904) : EvC env 105 [v, .int .i64 k] (.int .i64 (if xsOf v = upTo k (xsOf v).length then k + (xsOf v).length else -1)) := by
  refine evC_of (F := Tryz.f105) rfl rfl (Nat.le_of_ble_eq_true rfl) ?_
  have := hv.len
  repeat' (first | (apply brI <;> intro hb hb2 <;> (try simp [-Int.not_le, -Int.not_lt, -Nat.not_le, -Nat.not_lt, -Nat.add_left_cancel_iff] at hb2)) | (refine draw_listA (by rfl) (by kernel_rfl) ?_) | (refine draw_listB (by simp [allocsOf, isAlloc]; rfl) (by kernel_rfl) ?_) | simp (maxSteps := 2000000) (disch := first | omega | assumption | simp [*]) [*, -Int.not_le, -Int.not_lt, -Nat.not_le, -Nat.not_lt, -Nat.add_left_cancel_iff, wrap_i64, wrap_u64, Tryz.f105, isI_len hv])
  refine W_loopP (xsOf v).length (fun i s => s 5 = .int .i64 i ∧ s 0 = v ∧ s 1 = .int .i64 (k + i) ∧ ∀ j, j < i → (xsOf v)[j]? = some (k + (j : Int))) rfl ?_ ?_
  · simp
  rintro i s hi ⟨h5, h0, h1, hj⟩
  repeat' (first | (apply brI <;> intro hb hb2 <;> (try simp [-Int.not_le, -Int.not_lt, -Nat.not_le, -Nat.not_lt, -Nat.add_left_cancel_iff] at hb2)) | (refine draw_listA (by rfl) (by kernel_rfl) ?_) | (refine draw_listB (by simp [allocsOf, isAlloc]; rfl) (by kernel_rfl) ?_) | simp (maxSteps := 2000000) (disch := first | omega | assumption | simp [*]) [*, -Int.not_le, -Int.not_lt, -Nat.not_le, -Nat.not_lt, -Nat.add_left_cancel_iff, wrap_i64, wrap_u64, h5, h0, h1, isI_len hv, isI_index hv, isI_load hv])
  · intro e
    have : nth (xsOf v) i = nth (upTo k (xsOf v).length) i := congrArg (nth · i) e
    rw [upTo_nth _ (by omega)] at this
    contradiction
  · refine ⟨by omega, fun j hj2 => ?_⟩
    by_cases e : j = i
    · subst e; rw [nth_get? (by omega), hb2]
    · exact hj j (by omega)
  · obtain rfl : i = (xsOf v).length := by omega
    rw [if_pos (upTo_ext rfl hj)]
theorem heldIntS_s {v : AV} {k : Int} (hv : IsI v) (h0 : 0 ≤ k) (h1 : k + (xsOf v).length ≤ 4611686018427387904) {K : AV → Prop} {tg : Tg K} : CW env 105 [v, .int .i64 k] K tg ↔ K (.int .i64 (if xsOf v = upTo k (xsOf v).length then k + (xsOf v).length else -1)) := callsTo_iff (heldIntS_c hv h0 h1)
attribute [simp] heldIntS_s
theorem heldContext_c {m : Int} {v : AV} {k : Int} (hv : IsI v) (h0 : 0 ≤ k) (h1 : k + (xsOf v).length ≤ 4611686018427387904) : EvC env 76 [.agg [.int .i64 m, v], .int .i64 k] (.int .i64 (if xsOf v = upTo k (xsOf v).length then k + (xsOf v).length else -1)) := by
  refine evC_of (F := Tryz.f76) rfl rfl (Nat.le_of_ble_eq_true rfl) ?_
  have := hv.len
  repeat' (first | (apply brI <;> intro hb hb2 <;> (try simp [-Int.not_le, -Int.not_lt, -Nat.not_le, -Nat.not_lt, -Nat.add_left_cancel_iff] at hb2)) | (refine draw_listA (by rfl) (by kernel_rfl) ?_) | (refine draw_listB (by simp [allocsOf, isAlloc]; rfl) (by kernel_rfl) ?_) | simp (maxSteps := 2000000) (disch := first | omega | assumption | simp [*]) [*, -Int.not_le, -Int.not_lt, -Nat.not_le, -Nat.not_lt, -Nat.add_left_cancel_iff, wrap_i64, wrap_u64, Tryz.f76, isI_cells hv, isI_one hv, isI_low hv])
  all_goals grind
theorem heldContext_s {m : Int} {v : AV} {k : Int} (hv : IsI v) (h0 : 0 ≤ k) (h1 : k + (xsOf v).length ≤ 4611686018427387904) {K : AV → Prop} {tg : Tg K} : CW env 76 [.agg [.int .i64 m, v], .int .i64 k] K tg ↔ K (.int .i64 (if xsOf v = upTo k (xsOf v).length then k + (xsOf v).length else -1)) := callsTo_iff (heldContext_c hv h0 h1)
attribute [simp] heldContext_s
end Go.Proofs.YtlglhokpaplifaaGreatDoor
/- Partial contexts: what is one; how many completions. Conditions: none. -/
namespace Go.Proofs.YtlglhokpaplifaaGreatDoor
open Ev
set_option linter.unusedVariables false
set_option linter.unusedSimpArgs false
set_option maxHeartbeats 4000000

theorem take_succ_get {α : Type} {l : List α} {j : Nat} {a : α} (h : l[j]? = some a) : l.take (j + 1) = l.take j ++ [a] := by rw [List.take_add_one, h]; rfl
theorem elemsTo_none {s : Int} (h : PSet 8 s = false) (n : Nat) : elemsTo s n = [] := by
  induction n with
  | zero => rfl
  | succ n ih => rw [elemsTo_succ, ih]; simp [h]
theorem elemsTo_bit {s : Int} (h : PSet 8 s = true) (i : Nat) : ((elemsTo s (i + 1)).length : Int) = (elemsTo s i).length + s / 2 ^ i % 2 := by
  rw [elemsTo_succ, List.length_append, h]
  simp only [Bool.true_and, PHas, Int.toNat_natCast, decide_eq_true_eq]
  split <;> simp <;> omega
theorem elemsTo_end {s : Int} {i : Nat} (h : PSet 8 s = true) (h0 : s / 2 ^ i = 0) : ∀ j, elemsTo s (i + j) = elemsTo s i
  | 0 => rfl
  | j + 1 => by
    rw [← Nat.add_assoc, elemsTo_succ, elemsTo_end h h0 j]
    have h1 := pset_lt h
    have : s / 2 ^ (i + j) = 0 := by
      rw [Int.pow_add, ← Int.ediv_ediv_of_nonneg (Int.le_of_lt (pow_pos2 i)), h0]; simp
    simp [PHas, Int.toNat_natCast, this, show (((i + j : Nat) : Int)).toNat = i + j from Int.toNat_natCast _]
    have e : ((i : Int) + (j : Int)).toNat = i + j := by omega
    rw [e, this]; simp
theorem elems_nat (s : Int) : (elemsTo s 8).length ≤ 8 := elemsTo_len s 8
/-- the number of open pairs -/
def opensTo (ms : List Int) : Nat → Nat
  | 0 => 0
  | i + 1 => opensTo ms i + (elemsTo (nth ms i) 8).length
theorem opensTo_le (ms : List Int) (i : Nat) : opensTo ms i ≤ 8 * i := by
  induction i with
  | zero => exact Nat.le_refl _
  | succ i ih => have := elems_nat (nth ms i); simp only [opensTo]; omega
def opens (ms : List Int) : Nat := opensTo ms ms.length
def pairV (g m : Int) : AV := .agg [.int .i64 g, .int .i64 m]
/-- the open pairs -/
def pairsTo (ms : List Int) : Nat → List AV
  | 0 => []
  | g + 1 => pairsTo ms g ++ (elemsTo (nth ms g) 8).map (pairV g)
theorem pairsTo_len (ms : List Int) (g : Nat) : (pairsTo ms g).length = opensTo ms g := by
  induction g with
  | zero => rfl
  | succ g ih => simp [pairsTo, opensTo, ih]
/-- what is a partial context -/
def PPart (n : Int) (ss ms : List Int) : Prop := PCtx n ss ∧ PCtx n ms ∧ ss.length = ms.length ∧ opens ms ≤ 6 ∧ ∀ k, k < ss.length → (nth ss k).toNat &&& (nth ms k).toNat = 0
noncomputable instance (n : Int) (ss ms : List Int) : Decidable (PPart n ss ms) := Classical.propDecidable _
end Go.Proofs.YtlglhokpaplifaaGreatDoor
