/- Contexts beside and above each other, and sums. Conditions: none. -/
import Derived.Test.YtppfgokonlloaaaBaseA
namespace Go.Proofs.Ytppfgokonlloaaa
open Ev
set_option linter.unusedVariables false
set_option linter.unusedSimpArgs false
set_option maxHeartbeats 4000000

/-- beside each other -/
def AppC (n : Int) (xs : List Int) (m : Int) (ys : List Int) : Prop := PCtx n xs ∧ PCtx m ys ∧ xs.length = ys.length ∧ n + m ≤ 6
noncomputable instance (n : Int) (xs : List Int) (m : Int) (ys : List Int) : Decidable (AppC n xs m ys) := Classical.propDecidable _
def appG (n : Int) (xs ys : List Int) (i : Nat) : Int := nth xs i + nth ys i * 2 ^ n.toNat
theorem checked_rows {n : Int} {xs : List Int} (h : PCtx n xs) : xs.length ≤ 8 := h.2.2.1
theorem pset_app {n m x y : Int} (hx : PSet n x = true) (hy : PSet m y = true) (h : n + m ≤ 8) : PSet (n + m) (x + y * 2 ^ n.toNat) = true := by
  obtain ⟨a1, a2, a3, a4⟩ := pset_iff.mp hx
  obtain ⟨b1, b2, b3, b4⟩ := pset_iff.mp hy
  rw [pset_iff]
  have e : (n + m).toNat = m.toNat + n.toNat := by omega
  have hp := pow_pos2 n.toNat
  refine ⟨by omega, by omega, by have := Int.mul_nonneg b3 (Int.le_of_lt hp); omega, ?_⟩
  rw [e, Int.pow_add]
  have : (y + 1) * 2 ^ n.toNat ≤ 2 ^ m.toNat * 2 ^ n.toNat := Int.mul_le_mul_of_nonneg_right (by omega) (Int.le_of_lt hp)
  rw [Int.add_mul] at this
  omega
theorem app_ctx {n m : Int} {xs ys : List Int} (hx : PCtx n xs) (hy : PCtx m ys) (hl : xs.length = ys.length) : PCtx (n + m) (tab (appG n xs ys) xs.length) ↔ n + m ≤ 6 := by
  constructor
  · exact fun h => h.2.1
  · intro h
    refine ⟨by have := hx.1; have := hy.1; omega, h, by simpa using hx.2.2.1, fun k hk => ?_⟩
    rw [tab_length] at hk
    rw [tab_nth _ hk]
    exact pset_app (hx.2.2.2 k hk) (hy.2.2.2 k (by omega)) (by omega)
end Go.Proofs.Ytppfgokonlloaaa
