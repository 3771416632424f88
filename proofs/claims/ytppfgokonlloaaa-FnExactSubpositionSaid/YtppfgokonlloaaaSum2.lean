/- Sums of contexts. Conditions: none. -/
import Derived.Test.YtppfgokonlloaaaSum
namespace Go.Proofs.Ytppfgokonlloaaa
open Ev
set_option linter.unusedVariables false
set_option linter.unusedSimpArgs false
set_option maxHeartbeats 4000000

theorem l1Bit_c {b : Bool} : EvC env 61 [.bool b] (.int .i64 (if b then 1 else 0)) := by
  refine evC_of (F := Try.f61) rfl rfl (Nat.le_of_ble_eq_true rfl) ?_
  repeat' (first | (apply brI <;> intro hb hb2 <;> (try simp [-Int.not_le, -Int.not_lt, -Nat.not_le, -Nat.not_lt, -Nat.add_left_cancel_iff] at hb2)) | (refine draw_listA (by rfl) (by kernel_rfl) ?_) | (refine draw_listB (by simp [allocsOf, isAlloc]; rfl) (by kernel_rfl) ?_) | simp (maxSteps := 2000000) (disch := first | omega | assumption | simp [*]) [*, -Int.not_le, -Int.not_lt, -Nat.not_le, -Nat.not_lt, -Nat.add_left_cancel_iff, wrap_i64, wrap_u64, Try.f61])
theorem l1Bit_s {b : Bool} {K : AV → Prop} {tg : Tg K} : CW env 61 [.bool b] K tg ↔ K (.int .i64 (if b then 1 else 0)) := callsTo_iff (l1Bit_c )
attribute [simp] l1Bit_s
/-- all elements -/
def fullI (n : Int) : Int := 2 ^ n.toNat - 1
theorem full_range {n : Int} (h0 : 0 ≤ n) (h1 : n ≤ 8) : 0 ≤ fullI n ∧ fullI n < 2 ^ n.toNat ∧ fullI n < 256 := by
  have := pow8 h1
  have hp := pow_pos2 n.toNat
  unfold fullI; omega
theorem full_pset {n : Int} (h0 : 0 ≤ n) (h1 : n ≤ 8) : PSet n (fullI n) = true := by
  rw [pset_iff]; have := full_range h0 h1; exact ⟨h0, h1, this.1, this.2.1⟩
/-- a sum of contexts -/
def SumC (n : Int) (xs : List Int) (m : Int) (ys : List Int) : Prop := PCtx n xs ∧ PCtx m ys ∧ n + m ≤ 6 ∧ xs.length + ys.length ≤ 8
noncomputable instance (n : Int) (xs : List Int) (m : Int) (ys : List Int) : Decidable (SumC n xs m ys) := Classical.propDecidable _
def bitI (b : Bool) : Int := if b then 1 else 0
def sumA (b : Bool) (n m : Int) (xs : List Int) (i : Nat) : Int := nth xs i + bitI b * fullI m * 2 ^ n.toNat
def sumB (b : Bool) (n : Int) (ys : List Int) (i : Nat) : Int := bitI b * fullI n + nth ys i * 2 ^ n.toNat
def sumR (b : Bool) (n m : Int) (xs ys : List Int) : List Int := tab (sumA b n m xs) xs.length ++ tab (sumB b n ys) ys.length
def sumK (xs : List Int) (a b : Nat) : Nat := if xs.length = 0 then b else a
theorem sumK_or (xs : List Int) (a b : Nat) : sumK xs a b = a ∨ sumK xs a b = b := by unfold sumK; split <;> simp
theorem bit_range (b : Bool) : 0 ≤ bitI b ∧ bitI b ≤ 1 := by cases b <;> simp [bitI]
theorem bitfull {b : Bool} {n : Int} (h0 : 0 ≤ n) (h1 : n ≤ 8) : PSet n (bitI b * fullI n) = true := by
  cases b
  · simp only [bitI, Bool.false_eq_true, if_false, Int.zero_mul, pset_iff]; exact ⟨h0, h1, Int.le_refl _, pow_pos2 _⟩
  · simp only [bitI, if_true, Int.one_mul]; exact full_pset h0 h1
theorem sum_ctx {b : Bool} {n m : Int} {xs ys : List Int} (hx : PCtx n xs) (hy : PCtx m ys) : PCtx (n + m) (sumR b n m xs ys) ↔ n + m ≤ 6 ∧ xs.length + ys.length ≤ 8 := by
  constructor
  · intro h
    refine ⟨h.2.1, ?_⟩
    have := h.2.2.1
    simpa [sumR] using this
  · rintro ⟨h, hl⟩
    refine ⟨by have := hx.1; have := hy.1; omega, h, by simpa [sumR] using hl, fun k hk => ?_⟩
    have hn := hx.1
    have hm := hy.1
    have hk2 : k < xs.length + ys.length := by simpa [sumR] using hk
    by_cases h1 : k < xs.length
    · have e : nth (sumR b n m xs ys) k = sumA b n m xs k := by
        have h3 : (sumR b n m xs ys)[k]? = some (sumA b n m xs k) := by unfold sumR; rw [List.getElem?_append_left (by simpa using h1), tab_get _ h1]
        rw [nth_get? hk] at h3; exact Option.some.inj h3
      rw [e]
      exact pset_app (hx.2.2.2 k h1) (bitfull hm (by omega)) (by omega)
    · have e : nth (sumR b n m xs ys) k = sumB b n ys (k - xs.length) := by
        have h3 : (sumR b n m xs ys)[k]? = some (sumB b n ys (k - xs.length)) := by unfold sumR; rw [List.getElem?_append_right (by simp; omega), tab_length, tab_get _ (by omega)]
        rw [nth_get? hk] at h3; exact Option.some.inj h3
      rw [e]
      exact pset_app (bitfull hn (by omega)) (hy.2.2.2 _ (by omega)) (by omega)
end Go.Proofs.Ytppfgokonlloaaa
