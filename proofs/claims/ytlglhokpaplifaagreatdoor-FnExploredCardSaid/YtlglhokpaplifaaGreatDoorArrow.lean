/- Arrows of objects. Conditions: none. -/
import Derived.Test.YtlglhokpaplifaaGreatDoorExtI
import Derived.Test.YtlglhokpaplifaaGreatDoorBitA
namespace Go.Proofs.YtlglhokpaplifaaGreatDoor
open Ev
set_option linter.unusedVariables false
set_option linter.unusedSimpArgs false
set_option maxHeartbeats 4000000

theorem col_range (xs : List Int) (m : Nat) (h : xs.length ≤ 8) : 0 ≤ Col xs m ∧ Col xs m < 256 := ⟨(setOf_range _ _).1, setOf_small _ h⟩
theorem col_has (xs : List Int) (m g : Nat) (h : g < xs.length) : PHas (Col xs m) g = PHas (nth xs g) m := by unfold Col; rw [setOf_has]; simp [h]
/-- the attributes, the objects of which are more than those of m -/
def moreP (xs : List Int) (m n : Nat) : Bool := decide (Col xs n ≠ Col xs m) && PSub (Col xs m) (Col xs n)
def upP (xs : List Int) (N g m : Nat) : Bool := !PHas (nth xs g) m && PSub (setOf (moreP xs m) N) (nth xs g)
def Up (xs : List Int) (N g : Nat) : Int := setOf (upP xs N g) N
def fineK (xs : List Int) (g m k : Nat) : Bool := !PHas (nth xs g) m && (List.range k).all fun n => !moreP xs m n || PHas (nth xs g) n
theorem fineK_succ (xs : List Int) (g m k : Nat) : fineK xs g m (k + 1) = (fineK xs g m k && (!moreP xs m k || PHas (nth xs g) k)) := by
  simp [fineK, List.range_succ, Bool.and_assoc]
theorem fineK_up {xs : List Int} {N g m : Nat} (hN : N ≤ 8) (h0 : 0 ≤ nth xs g) : fineK xs g m N = upP xs N g m := by
  unfold fineK upP
  congr 1
  rw [Bool.eq_iff_iff, psub_iff (setOf_pset _ hN) h0]
  simp only [List.all_eq_true, List.mem_range, Bool.or_eq_true, Bool.not_eq_true', setOf_has, Bool.and_eq_true, decide_eq_true_eq]
  constructor
  · intro h i hi ⟨_, h2⟩
    rcases h i hi with h3 | h3
    · rw [h3] at h2; cases h2
    · exact h3
  · intro h i hi
    cases hm : moreP xs m i with
    | false => exact .inl rfl
    | true => exact .inr (h i hi ⟨hi, hm⟩)
theorem isObject_c {n g : Int} {v : AV} (hv : IsI v) : EvC env 34 [.agg [.int .i64 n, v], .int .i64 g] (.bool (decide (PCtx n (xsOf v) ∧ 0 ≤ g ∧ g < (xsOf v).length))) := by
  refine evC_of (F := Tryz.f34) rfl rfl (Nat.le_of_ble_eq_true rfl) ?_
  have hl := hv.len
  unfold top63 at hl
  repeat' (first | (apply brI <;> intro hb hb2 <;> (try simp [-Int.not_le, -Int.not_lt, -Nat.not_le, -Nat.not_lt, -Nat.add_left_cancel_iff] at hb2)) | (refine draw_listA (by rfl) (by kernel_rfl) ?_) | (refine draw_listB (by simp [allocsOf, isAlloc]; rfl) (by kernel_rfl) ?_) | simp (maxSteps := 2000000) (disch := first | omega | assumption | simp [*]) [*, -Int.not_le, -Int.not_lt, -Nat.not_le, -Nat.not_lt, -Nat.add_left_cancel_iff, wrap_i64, wrap_u64, Tryz.f34, isI_cells hv, isI_one hv, isI_low hv, isI_len hv, isI_index hv, isI_load hv])
  all_goals (rw [Bool.eq_iff_iff]; simp; omega)
theorem isObject_s {n g : Int} {v : AV} (hv : IsI v) {K : AV → Prop} {tg : Tg K} : CW env 34 [.agg [.int .i64 n, v], .int .i64 g] K tg ↔ K (.bool (decide (PCtx n (xsOf v) ∧ 0 ≤ g ∧ g < (xsOf v).length))) := callsTo_iff (isObject_c hv)
attribute [simp] isObject_s
/-- those in all sets that are more than s -/
def dnP (xs : List Int) (s : Int) (k m : Nat) : Bool := (List.range k).all fun i => decide (nth xs i = s) || !PSub s (nth xs i) || PHas (nth xs i) m
theorem dnP_succ (xs : List Int) (s : Int) (k m : Nat) : dnP xs s (k + 1) m = (dnP xs s k m && (decide (nth xs k = s) || !PSub s (nth xs k) || PHas (nth xs k) m)) := by
  simp [dnP, List.range_succ]
def dnQ (xs : List Int) (g m : Nat) : Bool := !PHas (nth xs g) m && dnP xs (nth xs g) xs.length m
def Down (xs : List Int) (N g : Nat) : Int := setOf (dnQ xs g) N
theorem setOf_not (p : Nat → Bool) (n : Nat) : 2 ^ n - 1 - setOf p n = setOf (fun i => !p i) n := by
  induction n with
  | zero => rfl
  | succ n ih =>
    simp only [setOf]
    rw [← ih]
    by_cases h : p n = true <;> simp [h, Int.pow_succ] <;> omega
end Go.Proofs.YtlglhokpaplifaaGreatDoor
