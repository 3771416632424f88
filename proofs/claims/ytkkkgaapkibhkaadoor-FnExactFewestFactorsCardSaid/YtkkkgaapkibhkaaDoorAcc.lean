/- The set of those that a function value accepts. Conditions: none. -/
import Derived.Test.YtkkkgaapkibhkaaDoorBit
import Derived.Test.YtkkkgaapkibhkaaDoorOrder
namespace Go.Proofs.YtkkkgaapkibhkaaDoor
open Ev
set_option linter.unusedVariables false
set_option linter.unusedSimpArgs false
set_option maxHeartbeats 4000000

theorem setOf_orr (p q : Nat → Bool) (n : Nat) : (((setOf p n).toNat ||| (setOf q n).toNat : Nat) : Int) = setOf (fun i => p i || q i) n := by
  refine int_bits (Int.natCast_nonneg _) (setOf_range _ _).1 fun i => ?_
  rw [Int.toNat_natCast, Nat.testBit_or, setOf_bit, setOf_bit, setOf_bit]
  cases decide (i < n) <;> simp
theorem phas_or {a b : Int} (ha : 0 ≤ a) (hb : 0 ≤ b) (i : Nat) : PHas ((a.toNat ||| b.toNat : Nat) : Int) i = (PHas a i || PHas b i) := by
  rw [phas_nat (Int.natCast_nonneg _), phas_nat ha, phas_nat hb, Int.toNat_natCast, Nat.testBit_or]
theorem phas_pow (g i : Nat) : PHas (2 ^ g) i = decide (i = g) := by
  rw [phas_nat (Int.le_of_lt (pow_pos2 g)), pow_toNat, Nat.testBit_two_pow, Bool.eq_iff_iff]; simp; exact eq_comm
theorem pset_or {n : Nat} {a b : Int} (ha : PSet n a = true) (hb : PSet n b = true) : PSet n ((a.toNat ||| b.toNat : Nat) : Int) = true := by
  have hn : n ≤ 8 := by have := (pset_iff.mp ha).2.1; omega
  have e : ((a.toNat ||| b.toNat : Nat) : Int) = setOf (fun i => PHas a i || PHas b i) n := by
    rw [← setOf_orr, ← setOf_self ha, ← setOf_self hb]
  rw [e]; exact setOf_pset _ hn
theorem pset_pow {n g : Nat} (hn : n ≤ 8) (h : g < n) : PSet n (2 ^ g) = true := by
  rw [pset_iff]
  have h1 := pow_pos2 g
  refine ⟨by omega, by omega, by omega, ?_⟩
  have h2 : (2 : Int) ^ (g + 1) ≤ 2 ^ n := two_pow_le (by omega)
  rw [Int.toNat_natCast]; rw [Int.pow_succ] at h2; omega
theorem psub_all {s t : Int} (hs : 0 ≤ s) (ht : 0 ≤ t) : PSub s t = true ↔ ∀ i : Nat, PHas s i = true → PHas t i = true := by
  simp only [phas_nat hs, phas_nat ht, PSub, decide_eq_true_eq]
  constructor
  · intro h i hi
    rw [← h, Nat.testBit_and, Bool.and_eq_true] at hi
    exact hi.2
  · intro h
    apply Nat.eq_of_testBit_eq
    intro i
    rw [Nat.testBit_and]
    cases hi : s.toNat.testBit i with
    | false => rfl
    | true => rw [h i hi]; rfl
theorem psub_antisymm {s t : Int} (hs : 0 ≤ s) (ht : 0 ≤ t) (h1 : PSub s t = true) (h2 : PSub t s = true) : s = t := by
  rw [psub_all hs ht] at h1
  rw [psub_all ht hs] at h2
  refine int_bits hs ht fun i => ?_
  rw [← phas_nat hs, ← phas_nat ht, Bool.eq_iff_iff]
  exact ⟨h1 i, h2 i⟩
theorem or_grow {a u : Int} (ha : 0 ≤ a) (hu : 0 ≤ u) (h : PSub u a = false) : a < ((a.toNat ||| u.toNat : Nat) : Int) := by
  have h1 : a.toNat ≤ a.toNat ||| u.toNat := Nat.left_le_or
  have h2 : a.toNat ||| u.toNat ≠ a.toNat := by
    intro e
    have : PSub u a = true := by
      rw [psub_all hu ha]
      intro i hi
      have h3 := phas_or ha hu i
      rw [e, hi, Bool.or_true, Int.toNat_of_nonneg ha] at h3
      exact h3
    rw [h] at this; cases this
  omega
theorem setOf_inj {p q : Nat → Bool} {n : Nat} (h : setOf p n = setOf q n) : ∀ i, i < n → p i = q i := by
  intro i hi
  have h1 := setOf_has p n i
  rw [h, setOf_has] at h1
  simpa [hi] using h1.symm
theorem elems_any {o : Int} (ho : PSet 8 o = true) (p : Nat → Bool) : ((elemsTo o 8).any fun e => p e.toNat) = (List.range 8).any fun g => PHas o g && p g := by
  unfold elemsTo
  simp [List.any_map, List.any_filter, ho]
theorem setOf_diff (p q : Nat → Bool) (n : Nat) : ((diff (setOf p n).toNat (setOf q n).toNat : Nat) : Int) = setOf (fun i => p i && !q i) n := by
  refine int_bits (Int.natCast_nonneg _) (setOf_range _ _).1 fun i => ?_
  rw [Int.toNat_natCast, diff_testBit, setOf_bit, setOf_bit, setOf_bit]
  cases decide (i < n) <;> simp
theorem tab_set (f : Nat → Int) {n i : Nat} (x : Int) (h : i < n) : (tab f n).set i x = tab (fun j => if j = i then x else f j) n := by
  refine tab_eq (by simp) fun j hj => ?_
  rw [nth_set _ _ _ _ (by simpa using h), tab_nth _ hj]
theorem tab_rep (n : Nat) (x : Int) : List.replicate n x = tab (fun _ => x) n := tab_eq (by simp) fun j hj => by simp [nth, hj]
end Go.Proofs.YtkkkgaapkibhkaaDoor
