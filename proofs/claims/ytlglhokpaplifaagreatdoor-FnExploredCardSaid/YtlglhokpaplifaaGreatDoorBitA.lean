/- XBit XAcc, joined. Conditions: none. -/
import Derived.Test.YtlglhokpaplifaaGreatDoorBaseA
/- Sets of small numbers as bits: plain Lean. Conditions: none. -/
namespace Go.Proofs.YtlglhokpaplifaaGreatDoor
open Ev
set_option linter.unusedVariables false
set_option linter.unusedSimpArgs false

/-- the set of those below n for which p -/
def setOf (p : Nat → Bool) : Nat → Int
  | 0 => 0
  | i + 1 => setOf p i + if p i then 2 ^ i else 0
theorem setOf_range (p : Nat → Bool) (n : Nat) : 0 ≤ setOf p n ∧ setOf p n < 2 ^ n := by
  induction n with
  | zero => simp [setOf]
  | succ n ih =>
    have hp := pow_pos2 n
    simp only [setOf, Int.pow_succ]
    split <;> omega
theorem setOf_small (p : Nat → Bool) {n : Nat} (h : n ≤ 8) : setOf p n < 256 := by
  have := (setOf_range p n).2
  have h2 : (2 : Int) ^ n ≤ 2 ^ 8 := two_pow_le h
  omega
theorem pow_small {i : Nat} (h : i ≤ 8) : (0 : Int) < 2 ^ i ∧ (2 : Int) ^ i ≤ 256 := by
  have h1 := pow_pos2 i
  have h2 : (2 : Int) ^ i ≤ 2 ^ 8 := two_pow_le h
  exact ⟨h1, by omega⟩
theorem int_bits {a b : Int} (ha : 0 ≤ a) (hb : 0 ≤ b) (h : ∀ i, a.toNat.testBit i = b.toNat.testBit i) : a = b := by
  have := Nat.eq_of_testBit_eq h; omega
theorem pow_toNat (n : Nat) : ((2 : Int) ^ n).toNat = 2 ^ n := by
  have : ((2 : Int) ^ n) = ((2 ^ n : Nat) : Int) := by simp
  rw [this, Int.toNat_natCast]
theorem setOf_bit (p : Nat → Bool) (n i : Nat) : (setOf p n).toNat.testBit i = (decide (i < n) && p i) := by
  induction n with
  | zero => simp [setOf]
  | succ n ih =>
    have hr := setOf_range p n
    have hlt : (setOf p n).toNat < 2 ^ n := by
      have : ((2 ^ n : Nat) : Int) = (2 : Int) ^ n := by simp
      omega
    simp only [setOf]
    by_cases hp : p n = true
    · have e := or_add (n := n) hr.1 hr.2 (show (0 : Int) ≤ 1 by decide)
      rw [Int.one_mul, pow_toNat] at e
      simp only [hp, if_true]
      rw [← e, Int.toNat_natCast, Nat.testBit_or, ih, Nat.testBit_two_pow]
      by_cases h1 : i = n
      · subst h1; simp [hp]
      · by_cases h2 : i < n
        · simp [h2, show i < n + 1 by omega, Ne.symm h1]
        · simp [h2, show ¬ i < n + 1 by omega, Ne.symm h1]
    · have hp2 : p n = false := by simpa using hp
      simp only [hp2, Bool.false_eq_true, if_false, Int.add_zero, ih]
      by_cases h1 : i = n
      · subst h1; simp [hp2]
      · by_cases h2 : i < n
        · simp [h2, show i < n + 1 by omega]
        · simp [h2, show ¬ i < n + 1 by omega]
theorem setOf_congr {p q : Nat → Bool} {n : Nat} (h : ∀ i, i < n → p i = q i) : setOf p n = setOf q n := by
  induction n with
  | zero => rfl
  | succ n ih => simp only [setOf]; rw [ih fun i hi => h i (by omega), h n (by omega)]
theorem setOf_or (p : Nat → Bool) (n : Nat) (h : p n = true) : (((setOf p n).toNat ||| 2 ^ n : Nat) : Int) = setOf p (n + 1) := by
  have hr := setOf_range p n
  have e := or_add (n := n) hr.1 hr.2 (show (0 : Int) ≤ 1 by decide)
  rw [Int.one_mul, pow_toNat] at e
  rw [e]; simp [setOf, h]
theorem setOf_or2 (p : Nat → Bool) (n : Nat) (b : Int) (hb : b = if p n then 1 else 0) : (((setOf p n).toNat ||| (b * 2 ^ n).toNat : Nat) : Int) = setOf p (n + 1) := by
  have hr := setOf_range p n
  have e := or_add (n := n) (y := b) hr.1 hr.2 (by rw [hb]; split <;> decide)
  rw [e, hb]
  simp only [setOf]
  split <;> simp
theorem setOf_skip (p : Nat → Bool) (n : Nat) (h : p n = false) : setOf p n = setOf p (n + 1) := by simp [setOf, h]
theorem phas_nat {s : Int} (h : 0 ≤ s) (i : Nat) : PHas s i = s.toNat.testBit i := by rw [phas_bit h]; simp
theorem setOf_has (p : Nat → Bool) (n i : Nat) : PHas (setOf p n) i = (decide (i < n) && p i) := by rw [phas_nat (setOf_range p n).1, setOf_bit]
theorem setOf_self {n : Nat} {x : Int} (h : PSet n x = true) : x = setOf (fun i => PHas x i) n := by
  obtain ⟨_, _, h3, h4⟩ := pset_iff.mp h
  refine int_bits h3 (setOf_range _ _).1 fun i => ?_
  rw [setOf_bit]
  by_cases hi : i < n
  · simp [hi, phas_nat h3]
  · have : x.toNat < 2 ^ i := by
      have h5 : (2 : Int) ^ n ≤ 2 ^ i := two_pow_le (by omega)
      have h6 : ((2 ^ i : Nat) : Int) = (2 : Int) ^ i := by simp
      simp only [Int.toNat_natCast] at h4
      omega
    simp [hi, Nat.testBit_lt_two_pow this]
theorem setOf_full (n : Nat) : setOf (fun _ => true) n = 2 ^ n - 1 := by
  induction n with
  | zero => rfl
  | succ n ih => simp only [setOf, ih, if_true, Int.pow_succ]; omega
theorem setOf_and (p q : Nat → Bool) (n : Nat) : (((setOf p n).toNat &&& (setOf q n).toNat : Nat) : Int) = setOf (fun i => p i && q i) n := by
  refine int_bits (Int.natCast_nonneg _) (setOf_range _ _).1 fun i => ?_
  rw [Int.toNat_natCast, Nat.testBit_and, setOf_bit, setOf_bit, setOf_bit]
  cases decide (i < n) <;> simp
theorem setOf_pset (p : Nat → Bool) {n : Nat} (h : n ≤ 8) : PSet n (setOf p n) = true := by
  rw [pset_iff]
  have := setOf_range p n
  refine ⟨by omega, by omega, this.1, by simpa using this.2⟩
theorem psub_and' {s t : Int} (h : 0 ≤ s) : ((t.toNat &&& s.toNat : Nat) : Int) = s ↔ PSub s t = true := by rw [Nat.and_comm]; exact psub_and h
theorem psub_iff {n : Nat} {s t : Int} (hs : PSet n s = true) (ht : 0 ≤ t) : PSub s t = true ↔ ∀ i, i < n → PHas s i = true → PHas t i = true := by
  have hs0 := (pset_iff.mp hs).2.2.1
  have key : s.toNat = (s.toNat &&& t.toNat) ↔ ∀ i, s.toNat.testBit i = true → t.toNat.testBit i = true := by
    constructor
    · intro h i hi
      rw [h, Nat.testBit_and, Bool.and_eq_true] at hi
      exact hi.2
    · intro h
      apply Nat.eq_of_testBit_eq
      intro i
      rw [Nat.testBit_and]
      cases hi : s.toNat.testBit i with
      | false => rfl
      | true => rw [h i hi]; rfl
  simp only [PSub, decide_eq_true_eq]
  constructor
  · intro h i _ hi
    rw [phas_nat hs0] at hi
    rw [phas_nat ht]
    exact key.mp h.symm i hi
  · intro h
    refine (key.mpr fun i hi => ?_).symm
    rw [← phas_nat hs0] at hi
    have := phas_lt hs hi
    have h2 := h i (by omega) hi
    rwa [phas_nat ht] at h2

/-- the objects that have all of s -/
def Ext (xs : List Int) (s : Int) : Int := setOf (fun k => PSub s (nth xs k)) xs.length
theorem ext_range (xs : List Int) (s : Int) (h : xs.length ≤ 8) : 0 ≤ Ext xs s ∧ Ext xs s < 256 := ⟨(setOf_range _ _).1, setOf_small _ h⟩

end Go.Proofs.YtlglhokpaplifaaGreatDoor
/- The set of those that a function value accepts. Conditions: none. -/
namespace Go.Proofs.YtlglhokpaplifaaGreatDoor
open Ev
set_option linter.unusedVariables false
set_option linter.unusedSimpArgs false
set_option maxHeartbeats 4000000

theorem setOf_orr (p q : Nat → Bool) (n : Nat) : (((setOf p n).toNat ||| (setOf q n).toNat : Nat) : Int) = setOf (fun i => p i || q i) n := by
  refine int_bits (Int.natCast_nonneg _) (setOf_range _ _).1 fun i => ?_
  rw [Int.toNat_natCast, Nat.testBit_or, setOf_bit, setOf_bit, setOf_bit]
  cases decide (i < n) <;> simp
theorem phas_or {a b : Int} (ha : 0 ≤ a) (hb : 0 ≤ b) (i : Nat) : PHas ((a.toNat ||| b.toNat : Nat) : Int) i = (PHas a i || PHas b i) := by
  rw [phas_nat (Int.natCast_nonneg _), phas_nat ha, phas_nat hb, Int.toNat_natCast, Nat.testBit_or]
theorem phas_pow (g i : Nat) : PHas (2 ^ g) i = decide (i = g) := by
  rw [phas_nat (Int.le_of_lt (pow_pos2 g)), pow_toNat, Nat.testBit_two_pow, Bool.eq_iff_iff]; simp; exact eq_comm
theorem pset_or {n : Nat} {a b : Int} (ha : PSet n a = true) (hb : PSet n b = true) : PSet n ((a.toNat ||| b.toNat : Nat) : Int) = true := by
  have hn : n ≤ 8 := by have := (pset_iff.mp ha).2.1; omega
  have e : ((a.toNat ||| b.toNat : Nat) : Int) = setOf (fun i => PHas a i || PHas b i) n := by
    rw [← setOf_orr, ← setOf_self ha, ← setOf_self hb]
  rw [e]; exact setOf_pset _ hn
theorem pset_pow {n g : Nat} (hn : n ≤ 8) (h : g < n) : PSet n (2 ^ g) = true := by
  rw [pset_iff]
  have h1 := pow_pos2 g
  refine ⟨by omega, by omega, by omega, ?_⟩
  have h2 : (2 : Int) ^ (g + 1) ≤ 2 ^ n := two_pow_le (by omega)
  rw [Int.toNat_natCast]; rw [Int.pow_succ] at h2; omega
theorem psub_all {s t : Int} (hs : 0 ≤ s) (ht : 0 ≤ t) : PSub s t = true ↔ ∀ i : Nat, PHas s i = true → PHas t i = true := by
  simp only [phas_nat hs, phas_nat ht, PSub, decide_eq_true_eq]
  constructor
  · intro h i hi
    rw [← h, Nat.testBit_and, Bool.and_eq_true] at hi
    exact hi.2
  · intro h
    apply Nat.eq_of_testBit_eq
    intro i
    rw [Nat.testBit_and]
    cases hi : s.toNat.testBit i with
    | false => rfl
    | true => rw [h i hi]; rfl
theorem psub_antisymm {s t : Int} (hs : 0 ≤ s) (ht : 0 ≤ t) (h1 : PSub s t = true) (h2 : PSub t s = true) : s = t := by
  rw [psub_all hs ht] at h1
  rw [psub_all ht hs] at h2
  refine int_bits hs ht fun i => ?_
  rw [← phas_nat hs, ← phas_nat ht, Bool.eq_iff_iff]
  exact ⟨h1 i, h2 i⟩
theorem or_grow {a u : Int} (ha : 0 ≤ a) (hu : 0 ≤ u) (h : PSub u a = false) : a < ((a.toNat ||| u.toNat : Nat) : Int) := by
  have h1 : a.toNat ≤ a.toNat ||| u.toNat := Nat.left_le_or
  have h2 : a.toNat ||| u.toNat ≠ a.toNat := by
    intro e
    have : PSub u a = true := by
      rw [psub_all hu ha]
      intro i hi
      have h3 := phas_or ha hu i
      rw [e, hi, Bool.or_true, Int.toNat_of_nonneg ha] at h3
      exact h3
    rw [h] at this; cases this
  omega
theorem setOf_inj {p q : Nat → Bool} {n : Nat} (h : setOf p n = setOf q n) : ∀ i, i < n → p i = q i := by
  intro i hi
  have h1 := setOf_has p n i
  rw [h, setOf_has] at h1
  simpa [hi] using h1.symm
theorem elems_any {o : Int} (ho : PSet 8 o = true) (p : Nat → Bool) : ((elemsTo o 8).any fun e => p e.toNat) = (List.range 8).any fun g => PHas o g && p g := by
  unfold elemsTo
  simp [List.any_map, List.any_filter, ho]
theorem setOf_diff (p q : Nat → Bool) (n : Nat) : ((diff (setOf p n).toNat (setOf q n).toNat : Nat) : Int) = setOf (fun i => p i && !q i) n := by
  refine int_bits (Int.natCast_nonneg _) (setOf_range _ _).1 fun i => ?_
  rw [Int.toNat_natCast, diff_testBit, setOf_bit, setOf_bit, setOf_bit]
  cases decide (i < n) <;> simp
theorem tab_set (f : Nat → Int) {n i : Nat} (x : Int) (h : i < n) : (tab f n).set i x = tab (fun j => if j = i then x else f j) n := by
  refine tab_eq (by simp) fun j hj => ?_
  rw [nth_set _ _ _ _ (by simpa using h), tab_nth _ hj]
theorem tab_rep (n : Nat) (x : Int) : List.replicate n x = tab (fun _ => x) n := tab_eq (by simp) fun j hj => by simp [nth, hj]
theorem psub_refl (s : Int) : PSub s s = true := by simp [PSub]
theorem psub_trans {a b c : Int} (ha : 0 ≤ a) (hb : 0 ≤ b) (hc : 0 ≤ c) (h1 : PSub a b = true) (h2 : PSub b c = true) : PSub a c = true := by
  rw [psub_all ha hb] at h1
  rw [psub_all hb hc] at h2
  rw [psub_all ha hc]
  exact fun i hi => h2 i (h1 i hi)
theorem psub_le {a b : Int} (ha : 0 ≤ a) (hb : 0 ≤ b) (h : PSub a b = true) : a ≤ b := by
  have h1 : a.toNat &&& b.toNat ≤ b.toNat := Nat.and_le_right
  simp only [PSub, decide_eq_true_eq] at h
  omega
end Go.Proofs.YtlglhokpaplifaaGreatDoor
