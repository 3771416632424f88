/- The columns of a scaled table. Conditions: none. -/
import Derived.Test.YtppfgokonlloaaaFun
namespace Go.Proofs.Ytppfgokonlloaaa
open Ev
set_option linter.unusedVariables false
set_option linter.unusedSimpArgs false
set_option maxHeartbeats 4000000

@[simp] theorem one_fn (f : Nat) (c : List AV) : (AV.fn f c).one = true := _root_.id rfl
@[simp] theorem cells_fn (f : Nat) (c : List AV) : (AV.fn f c).cells = [.fn f c] := _root_.id rfl
@[simp] theorem stab_fn (f : Nat) (v : Int) : stab (.fn f [.cp false [.int .i64 v] 0]) = true := _root_.id rfl
@[simp] theorem low0_fn (f : Nat) (v : Int) : low0 (.fn f [.cp false [.int .i64 v] 0]) = .fn f [.cp false [.int .i64 v] 0] := _root_.id rfl
/-- a column's function: which test (0: equal, 1: at least, 2: at most) against a value of an attribute -/
def colF (q : Nat) (a v : Int) : AV := .agg [.int .i64 a, .fn q [.cp false [.int .i64 v] 0]]
def colsF (q : Nat) (a lo : Int) (n : Nat) : List AV := (List.range n).map fun j => colF q a (lo + (j : Nat))
theorem colsF_succ (q : Nat) (a lo : Int) (n : Nat) : colsF q a lo (n + 1) = colsF q a lo n ++ [colF q a (lo + (n : Nat))] := by simp [colsF, List.range_succ]
@[simp] theorem colsF_len (q : Nat) (a lo : Int) (n : Nat) : (colsF q a lo n).length = n := by simp [colsF]

theorem iEqual1_c {x v : Int} : EvC env 65 [.int .i64 x, .cp false [.int .i64 v] 0] (.bool (decide (x = v))) := by
  refine evC_of (F := Try.f65) rfl rfl (Nat.le_of_ble_eq_true rfl) ?_
  repeat' (first | (apply brI <;> intro hb hb2 <;> (try simp [-Int.not_le, -Int.not_lt, -Nat.not_le, -Nat.not_lt, -Nat.add_left_cancel_iff] at hb2)) | (refine draw_listA (by rfl) (by kernel_rfl) ?_) | (refine draw_listB (by simp [allocsOf, isAlloc]; rfl) (by kernel_rfl) ?_) | simp (maxSteps := 2000000) (disch := first | omega | assumption | simp [*]) [*, -Int.not_le, -Int.not_lt, -Nat.not_le, -Nat.not_lt, -Nat.add_left_cancel_iff, wrap_i64, wrap_u64, Try.f65])
theorem iEqual1_s {x v : Int} {K : AV → Prop} {tg : Tg K} : CW env 65 [.int .i64 x, .cp false [.int .i64 v] 0] K tg ↔ K (.bool (decide (x = v))) := callsTo_iff (iEqual1_c )
attribute [simp] iEqual1_s
theorem iEqual_c {a lo hi : Int} {n : Nat} (hn : hi = lo + n - 1 ∨ n = 0 ∧ hi < lo) (hl0 : 0 ≤ lo) (hl1 : lo ≤ 1) (hn2 : n ≤ 1000) : EvC env 48 [.int .i64 a, .int .i64 lo, .int .i64 hi] (bufLR 70 21 2 2 (colsF 65 a lo n)) := by
  refine evC_of (F := Try.f48) rfl rfl (Nat.le_of_ble_eq_true rfl) ?_
  repeat' (first | (apply brI <;> intro hb hb2 <;> (try simp [-Int.not_le, -Int.not_lt, -Nat.not_le, -Nat.not_lt, -Nat.add_left_cancel_iff] at hb2)) | (refine draw_listA (by rfl) (by kernel_rfl) ?_) | (refine draw_listB (by simp [allocsOf, isAlloc]; rfl) (by kernel_rfl) ?_) | simp (maxSteps := 2000000) (disch := first | omega | assumption | simp [*]) [*, -Int.not_le, -Int.not_lt, -Nat.not_le, -Nat.not_lt, -Nat.add_left_cancel_iff, wrap_i64, wrap_u64, Try.f48])
  refine W_loopG n (fun i s h => s 0 = .int .i64 a ∧ s 2 = .int .i64 hi ∧ (∃ g, s 8 = .vp 8 g 0 ∧ h 8 = some (.var g 3 (.int .i64 (lo + (i : Nat))))) ∧ BufL h 70 21 2 2 (s 7) (colsF 65 a lo i)) ?_ ?_
  · refine ⟨rfl, rfl, ⟨0, rfl, by simp [hset]⟩, ?_⟩
    exact bufL_nil ..
  rintro i s h hin ⟨k0, k2, ⟨g, k8, e8⟩, hB⟩
  by_cases hi2 : i < n
  · have hle : lo + (i : Int) ≤ hi := by omega
    repeat' (first | (apply brI <;> intro hb hb2 <;> (try simp [-Int.not_le, -Int.not_lt, -Nat.not_le, -Nat.not_lt, -Nat.add_left_cancel_iff] at hb2)) | (refine draw_listA (by rfl) (by kernel_rfl) ?_) | (refine draw_listB (by simp [allocsOf, isAlloc]; rfl) (by kernel_rfl) ?_) | simp (maxSteps := 2000000) (disch := first | omega | assumption | simp [*]) [*, -Int.not_le, -Int.not_lt, -Nat.not_le, -Nat.not_lt, -Nat.add_left_cancel_iff, wrap_i64, wrap_u64, k0, k2, k8, e8])
    refine wa_pushL (hB.keep (by simp [hset])) (by simp) (by simp) (by simp) ⟨rfl, rfl⟩ (fun _ => rfl) (by simp; omega) ?_
    intro v2 h2 hB2 hk2
    have e9 := (hk2 8 (by omega)).trans (show hset h 8 (.fz g 3 (.int .i64 (lo + (i : Nat)))) 8 = some (.fz g 3 (.int .i64 (lo + (i : Nat)))) by simp [hset])
    repeat' (first | (apply brI <;> intro hb hb2 <;> (try simp [-Int.not_le, -Int.not_lt, -Nat.not_le, -Nat.not_lt, -Nat.add_left_cancel_iff] at hb2)) | (refine draw_listA (by rfl) (by kernel_rfl) ?_) | (refine draw_listB (by simp [allocsOf, isAlloc]; rfl) (by kernel_rfl) ?_) | simp (maxSteps := 2000000) (disch := first | omega | assumption | simp [*]) [*, -Int.not_le, -Int.not_lt, -Nat.not_le, -Nat.not_lt, -Nat.add_left_cancel_iff, wrap_i64, wrap_u64, k0, k2, k8, e9])
    exact ⟨by omega, BufL.keep (by rw [colsF_succ]; exact hB2) (by simp [hset])⟩
  · obtain rfl : i = n := by omega
    have hle : ¬ lo + (i : Int) ≤ hi := by omega
    repeat' (first | (apply brI <;> intro hb hb2 <;> (try simp [-Int.not_le, -Int.not_lt, -Nat.not_le, -Nat.not_lt, -Nat.add_left_cancel_iff] at hb2)) | (refine draw_listA (by rfl) (by kernel_rfl) ?_) | (refine draw_listB (by simp [allocsOf, isAlloc]; rfl) (by kernel_rfl) ?_) | simp (maxSteps := 2000000) (disch := first | omega | assumption | simp [*]) [*, -Int.not_le, -Int.not_lt, -Nat.not_le, -Nat.not_lt, -Nat.add_left_cancel_iff, wrap_i64, wrap_u64, k0, k2, k8, e8])
    exact hB.expo
theorem iEqual_s {a lo hi : Int} {n : Nat} (hn : hi = lo + n - 1 ∨ n = 0 ∧ hi < lo) (hl0 : 0 ≤ lo) (hl1 : lo ≤ 1) (hn2 : n ≤ 1000) {K : AV → Prop} {tg : Tg K} : CW env 48 [.int .i64 a, .int .i64 lo, .int .i64 hi] K tg ↔ K (bufLR 70 21 2 2 (colsF 65 a lo n)) := callsTo_iff (iEqual_c hn hl0 hl1 hn2)
attribute [simp] iEqual_s
theorem iLeast1_c {x v : Int} : EvC env 66 [.int .i64 x, .cp false [.int .i64 v] 0] (.bool (decide (x ≥ v))) := by
  refine evC_of (F := Try.f66) rfl rfl (Nat.le_of_ble_eq_true rfl) ?_
  repeat' (first | (apply brI <;> intro hb hb2 <;> (try simp [-Int.not_le, -Int.not_lt, -Nat.not_le, -Nat.not_lt, -Nat.add_left_cancel_iff] at hb2)) | (refine draw_listA (by rfl) (by kernel_rfl) ?_) | (refine draw_listB (by simp [allocsOf, isAlloc]; rfl) (by kernel_rfl) ?_) | simp (maxSteps := 2000000) (disch := first | omega | assumption | simp [*]) [*, -Int.not_le, -Int.not_lt, -Nat.not_le, -Nat.not_lt, -Nat.add_left_cancel_iff, wrap_i64, wrap_u64, Try.f66])
theorem iLeast1_s {x v : Int} {K : AV → Prop} {tg : Tg K} : CW env 66 [.int .i64 x, .cp false [.int .i64 v] 0] K tg ↔ K (.bool (decide (x ≥ v))) := callsTo_iff (iLeast1_c )
attribute [simp] iLeast1_s
theorem iLeast_c {a lo hi : Int} {n : Nat} (hn : hi = lo + n - 1 ∨ n = 0 ∧ hi < lo) (hl0 : 0 ≤ lo) (hl1 : lo ≤ 1) (hn2 : n ≤ 1000) : EvC env 50 [.int .i64 a, .int .i64 lo, .int .i64 hi] (bufLR 70 21 2 2 (colsF 66 a lo n)) := by
  refine evC_of (F := Try.f50) rfl rfl (Nat.le_of_ble_eq_true rfl) ?_
  repeat' (first | (apply brI <;> intro hb hb2 <;> (try simp [-Int.not_le, -Int.not_lt, -Nat.not_le, -Nat.not_lt, -Nat.add_left_cancel_iff] at hb2)) | (refine draw_listA (by rfl) (by kernel_rfl) ?_) | (refine draw_listB (by simp [allocsOf, isAlloc]; rfl) (by kernel_rfl) ?_) | simp (maxSteps := 2000000) (disch := first | omega | assumption | simp [*]) [*, -Int.not_le, -Int.not_lt, -Nat.not_le, -Nat.not_lt, -Nat.add_left_cancel_iff, wrap_i64, wrap_u64, Try.f50])
  refine W_loopG n (fun i s h => s 0 = .int .i64 a ∧ s 2 = .int .i64 hi ∧ (∃ g, s 8 = .vp 8 g 0 ∧ h 8 = some (.var g 3 (.int .i64 (lo + (i : Nat))))) ∧ BufL h 70 21 2 2 (s 7) (colsF 66 a lo i)) ?_ ?_
  · refine ⟨rfl, rfl, ⟨0, rfl, by simp [hset]⟩, ?_⟩
    exact bufL_nil ..
  rintro i s h hin ⟨k0, k2, ⟨g, k8, e8⟩, hB⟩
  by_cases hi2 : i < n
  · have hle : lo + (i : Int) ≤ hi := by omega
    repeat' (first | (apply brI <;> intro hb hb2 <;> (try simp [-Int.not_le, -Int.not_lt, -Nat.not_le, -Nat.not_lt, -Nat.add_left_cancel_iff] at hb2)) | (refine draw_listA (by rfl) (by kernel_rfl) ?_) | (refine draw_listB (by simp [allocsOf, isAlloc]; rfl) (by kernel_rfl) ?_) | simp (maxSteps := 2000000) (disch := first | omega | assumption | simp [*]) [*, -Int.not_le, -Int.not_lt, -Nat.not_le, -Nat.not_lt, -Nat.add_left_cancel_iff, wrap_i64, wrap_u64, k0, k2, k8, e8])
    refine wa_pushL (hB.keep (by simp [hset])) (by simp) (by simp) (by simp) ⟨rfl, rfl⟩ (fun _ => rfl) (by simp; omega) ?_
    intro v2 h2 hB2 hk2
    have e9 := (hk2 8 (by omega)).trans (show hset h 8 (.fz g 3 (.int .i64 (lo + (i : Nat)))) 8 = some (.fz g 3 (.int .i64 (lo + (i : Nat)))) by simp [hset])
    repeat' (first | (apply brI <;> intro hb hb2 <;> (try simp [-Int.not_le, -Int.not_lt, -Nat.not_le, -Nat.not_lt, -Nat.add_left_cancel_iff] at hb2)) | (refine draw_listA (by rfl) (by kernel_rfl) ?_) | (refine draw_listB (by simp [allocsOf, isAlloc]; rfl) (by kernel_rfl) ?_) | simp (maxSteps := 2000000) (disch := first | omega | assumption | simp [*]) [*, -Int.not_le, -Int.not_lt, -Nat.not_le, -Nat.not_lt, -Nat.add_left_cancel_iff, wrap_i64, wrap_u64, k0, k2, k8, e9])
    exact ⟨by omega, BufL.keep (by rw [colsF_succ]; exact hB2) (by simp [hset])⟩
  · obtain rfl : i = n := by omega
    have hle : ¬ lo + (i : Int) ≤ hi := by omega
    repeat' (first | (apply brI <;> intro hb hb2 <;> (try simp [-Int.not_le, -Int.not_lt, -Nat.not_le, -Nat.not_lt, -Nat.add_left_cancel_iff] at hb2)) | (refine draw_listA (by rfl) (by kernel_rfl) ?_) | (refine draw_listB (by simp [allocsOf, isAlloc]; rfl) (by kernel_rfl) ?_) | simp (maxSteps := 2000000) (disch := first | omega | assumption | simp [*]) [*, -Int.not_le, -Int.not_lt, -Nat.not_le, -Nat.not_lt, -Nat.add_left_cancel_iff, wrap_i64, wrap_u64, k0, k2, k8, e8])
    exact hB.expo
theorem iLeast_s {a lo hi : Int} {n : Nat} (hn : hi = lo + n - 1 ∨ n = 0 ∧ hi < lo) (hl0 : 0 ≤ lo) (hl1 : lo ≤ 1) (hn2 : n ≤ 1000) {K : AV → Prop} {tg : Tg K} : CW env 50 [.int .i64 a, .int .i64 lo, .int .i64 hi] K tg ↔ K (bufLR 70 21 2 2 (colsF 66 a lo n)) := callsTo_iff (iLeast_c hn hl0 hl1 hn2)
attribute [simp] iLeast_s
theorem iMost1_c {x v : Int} : EvC env 67 [.int .i64 x, .cp false [.int .i64 v] 0] (.bool (decide (x ≤ v))) := by
  refine evC_of (F := Try.f67) rfl rfl (Nat.le_of_ble_eq_true rfl) ?_
  repeat' (first | (apply brI <;> intro hb hb2 <;> (try simp [-Int.not_le, -Int.not_lt, -Nat.not_le, -Nat.not_lt, -Nat.add_left_cancel_iff] at hb2)) | (refine draw_listA (by rfl) (by kernel_rfl) ?_) | (refine draw_listB (by simp [allocsOf, isAlloc]; rfl) (by kernel_rfl) ?_) | simp (maxSteps := 2000000) (disch := first | omega | assumption | simp [*]) [*, -Int.not_le, -Int.not_lt, -Nat.not_le, -Nat.not_lt, -Nat.add_left_cancel_iff, wrap_i64, wrap_u64, Try.f67])
theorem iMost1_s {x v : Int} {K : AV → Prop} {tg : Tg K} : CW env 67 [.int .i64 x, .cp false [.int .i64 v] 0] K tg ↔ K (.bool (decide (x ≤ v))) := callsTo_iff (iMost1_c )
attribute [simp] iMost1_s
theorem iMost_c {a lo hi : Int} {n : Nat} (hn : hi = lo + n - 1 ∨ n = 0 ∧ hi < lo) (hl0 : 0 ≤ lo) (hl1 : lo ≤ 1) (hn2 : n ≤ 1000) : EvC env 52 [.int .i64 a, .int .i64 lo, .int .i64 hi] (bufLR 70 21 2 2 (colsF 67 a lo n)) := by
  refine evC_of (F := Try.f52) rfl rfl (Nat.le_of_ble_eq_true rfl) ?_
  repeat' (first | (apply brI <;> intro hb hb2 <;> (try simp [-Int.not_le, -Int.not_lt, -Nat.not_le, -Nat.not_lt, -Nat.add_left_cancel_iff] at hb2)) | (refine draw_listA (by rfl) (by kernel_rfl) ?_) | (refine draw_listB (by simp [allocsOf, isAlloc]; rfl) (by kernel_rfl) ?_) | simp (maxSteps := 2000000) (disch := first | omega | assumption | simp [*]) [*, -Int.not_le, -Int.not_lt, -Nat.not_le, -Nat.not_lt, -Nat.add_left_cancel_iff, wrap_i64, wrap_u64, Try.f52])
  refine W_loopG n (fun i s h => s 0 = .int .i64 a ∧ s 2 = .int .i64 hi ∧ (∃ g, s 8 = .vp 8 g 0 ∧ h 8 = some (.var g 3 (.int .i64 (lo + (i : Nat))))) ∧ BufL h 70 21 2 2 (s 7) (colsF 67 a lo i)) ?_ ?_
  · refine ⟨rfl, rfl, ⟨0, rfl, by simp [hset]⟩, ?_⟩
    exact bufL_nil ..
  rintro i s h hin ⟨k0, k2, ⟨g, k8, e8⟩, hB⟩
  by_cases hi2 : i < n
  · have hle : lo + (i : Int) ≤ hi := by omega
    repeat' (first | (apply brI <;> intro hb hb2 <;> (try simp [-Int.not_le, -Int.not_lt, -Nat.not_le, -Nat.not_lt, -Nat.add_left_cancel_iff] at hb2)) | (refine draw_listA (by rfl) (by kernel_rfl) ?_) | (refine draw_listB (by simp [allocsOf, isAlloc]; rfl) (by kernel_rfl) ?_) | simp (maxSteps := 2000000) (disch := first | omega | assumption | simp [*]) [*, -Int.not_le, -Int.not_lt, -Nat.not_le, -Nat.not_lt, -Nat.add_left_cancel_iff, wrap_i64, wrap_u64, k0, k2, k8, e8])
    refine wa_pushL (hB.keep (by simp [hset])) (by simp) (by simp) (by simp) ⟨rfl, rfl⟩ (fun _ => rfl) (by simp; omega) ?_
    intro v2 h2 hB2 hk2
    have e9 := (hk2 8 (by omega)).trans (show hset h 8 (.fz g 3 (.int .i64 (lo + (i : Nat)))) 8 = some (.fz g 3 (.int .i64 (lo + (i : Nat)))) by simp [hset])
    repeat' (first | (apply brI <;> intro hb hb2 <;> (try simp [-Int.not_le, -Int.not_lt, -Nat.not_le, -Nat.not_lt, -Nat.add_left_cancel_iff] at hb2)) | (refine draw_listA (by rfl) (by kernel_rfl) ?_) | (refine draw_listB (by simp [allocsOf, isAlloc]; rfl) (by kernel_rfl) ?_) | simp (maxSteps := 2000000) (disch := first | omega | assumption | simp [*]) [*, -Int.not_le, -Int.not_lt, -Nat.not_le, -Nat.not_lt, -Nat.add_left_cancel_iff, wrap_i64, wrap_u64, k0, k2, k8, e9])
    exact ⟨by omega, BufL.keep (by rw [colsF_succ]; exact hB2) (by simp [hset])⟩
  · obtain rfl : i = n := by omega
    have hle : ¬ lo + (i : Int) ≤ hi := by omega
    repeat' (first | (apply brI <;> intro hb hb2 <;> (try simp [-Int.not_le, -Int.not_lt, -Nat.not_le, -Nat.not_lt, -Nat.add_left_cancel_iff] at hb2)) | (refine draw_listA (by rfl) (by kernel_rfl) ?_) | (refine draw_listB (by simp [allocsOf, isAlloc]; rfl) (by kernel_rfl) ?_) | simp (maxSteps := 2000000) (disch := first | omega | assumption | simp [*]) [*, -Int.not_le, -Int.not_lt, -Nat.not_le, -Nat.not_lt, -Nat.add_left_cancel_iff, wrap_i64, wrap_u64, k0, k2, k8, e8])
    exact hB.expo
theorem iMost_s {a lo hi : Int} {n : Nat} (hn : hi = lo + n - 1 ∨ n = 0 ∧ hi < lo) (hl0 : 0 ≤ lo) (hl1 : lo ≤ 1) (hn2 : n ≤ 1000) {K : AV → Prop} {tg : Tg K} : CW env 52 [.int .i64 a, .int .i64 lo, .int .i64 hi] K tg ↔ K (bufLR 70 21 2 2 (colsF 67 a lo n)) := callsTo_iff (iMost_c hn hl0 hl1 hn2)
attribute [simp] iMost_s
end Go.Proofs.Ytppfgokonlloaaa
