/- The completions of partial contexts. Conditions: none. -/
import Derived.Test.YtliecnadoklgoaaGreatDoorPart2
import Derived.Test.YtliecnadoklgoaaGreatDoorExtI
import Derived.Test.YtliecnadoklgoaaGreatDoorBitA
import Derived.Test.YtliecnadoklgoaaGreatDoorRec
namespace Go.Proofs.YtliecnadoklgoaaGreatDoor
open Ev
set_option linter.unusedVariables false
set_option linter.unusedSimpArgs false
set_option maxHeartbeats 4000000

@[simp] theorem effx1 : (Eff.pure == Eff.read) = false := _root_.id rfl
@[simp] theorem effx2 : (Eff.write == Eff.read) = false := _root_.id rfl
@[simp] theorem effx3 : (Eff.read == Eff.read) = true := _root_.id rfl
/-- an open pair's number -/
def openIdx (ms : List Int) (g m : Nat) : Nat := opensTo ms g + (elemsTo (nth ms g) m).length
theorem elems_idx {s : Int} : ∀ (n j : Nat) (m : Nat), (elemsTo s n)[j]? = some (m : Int) → m < n ∧ PSet 8 s = true ∧ PHas s m = true ∧ (elemsTo s m).length = j
  | 0, j, m, h => by simp [elemsTo] at h
  | n + 1, j, m, h => by
    rw [elemsTo_succ] at h
    by_cases hj : j < (elemsTo s n).length
    · rw [List.getElem?_append_left hj] at h
      obtain ⟨a, b, c, d⟩ := elems_idx n j m h
      exact ⟨by omega, b, c, d⟩
    · rw [List.getElem?_append_right (by omega)] at h
      split at h
      · rename_i hc
        have hj2 : j - (elemsTo s n).length = 0 := by
          have := (List.getElem?_eq_some_iff.1 h).1; simp at this; omega
        rw [hj2] at h
        have hm : n = m := by have : (n : Int) = (m : Int) := by simpa using h
                              omega
        subst hm
        simp only [Bool.and_eq_true] at hc
        exact ⟨by omega, hc.1, by simpa using hc.2, by omega⟩
      · simp at h
theorem elems_at {s : Int} {m : Nat} (hs : PSet 8 s = true) (hm : PHas s m = true) : ∀ (n : Nat), m < n → (elemsTo s n)[(elemsTo s m).length]? = some (m : Int)
  | 0, h => by omega
  | n + 1, h => by
    rw [elemsTo_succ]
    by_cases e : m = n
    · subst e
      rw [List.getElem?_append_right (Nat.le_refl _)]
      simp [hs, hm]
    · have := elems_at hs hm n (by omega)
      rw [List.getElem?_append_left (List.getElem?_eq_some_iff.1 this).1]
      exact this
theorem pair_of {ms : List Int} : ∀ (G i : Nat), i < (pairsTo ms G).length → ∃ g m : Nat, (pairsTo ms G)[i]? = some (pairV g m) ∧ g < G ∧ m < 8 ∧ PSet 8 (nth ms g) = true ∧ PHas (nth ms g) m = true ∧ openIdx ms g m = i
  | 0, i, h => by simp [pairsTo] at h
  | G + 1, i, h => by
    by_cases hi : i < (pairsTo ms G).length
    · obtain ⟨g, m, h1, h2, h3⟩ := pair_of G i hi
      refine ⟨g, m, ?_, by omega, h3⟩
      simp only [pairsTo]
      rw [List.getElem?_append_left hi]; exact h1
    · simp only [pairsTo, List.length_append, List.length_map] at h
      have hl : i - (pairsTo ms G).length < (elemsTo (nth ms G) 8).length := by omega
      obtain ⟨m, hm, hm8, hs, hp⟩ := mem_elems hl
      have hg : (elemsTo (nth ms G) 8)[i - (pairsTo ms G).length]? = some (m : Int) := by rw [nth_get? hl, hm]
      obtain ⟨_, _, _, hid⟩ := elems_idx _ _ _ hg
      refine ⟨G, m, ?_, by omega, hm8, hs, hp, ?_⟩
      · simp only [pairsTo]
        rw [List.getElem?_append_right (by omega), List.getElem?_map, hg]; rfl
      · unfold openIdx; rw [hid, ← pairsTo_len]; omega
theorem pair_at {ms : List Int} {g m : Nat} (hs : PSet 8 (nth ms g) = true) (hm : PHas (nth ms g) m = true) : ∀ (G : Nat), g < G → (pairsTo ms G)[openIdx ms g m]? = some (pairV g m)
  | 0, h => by omega
  | G + 1, h => by
    have hm8 : m < 8 := by have := phas_lt hs hm; omega
    simp only [pairsTo]
    by_cases e : g = G
    · subst e
      have := elems_at hs hm 8 hm8
      rw [List.getElem?_append_right (by unfold openIdx; rw [pairsTo_len]; omega), List.getElem?_map]
      rw [show openIdx ms g m - (pairsTo ms g).length = (elemsTo (nth ms g) m).length by unfold openIdx; rw [pairsTo_len]; omega, this]; rfl
    · have := pair_at hs hm G (by omega)
      rw [List.getElem?_append_left (List.getElem?_eq_some_iff.1 this).1]; exact this
theorem pairV_inj {g m g' m' : Nat} (h : pairV g m = pairV g' m') : g = g' ∧ m = m' := by
  simp only [pairV, AV.agg.injEq, List.cons.injEq, AV.int.injEq, true_and, and_true] at h
  omega
theorem opensTo_mono (ms : List Int) : ∀ {a b : Nat}, a ≤ b → opensTo ms a ≤ opensTo ms b
  | a, 0, h => by rw [show a = 0 by omega]; exact Nat.le_refl _
  | a, b + 1, h => by
    by_cases e : a = b + 1
    · rw [e]; exact Nat.le_refl _
    · have := opensTo_mono ms (a := a) (b := b) (by omega)
      simp only [opensTo]; omega
theorem elems_mono (s : Int) (a d : Nat) : (elemsTo s a).length ≤ (elemsTo s (a + d)).length := by
  induction d with
  | zero => exact Nat.le_refl _
  | succ d ih =>
    have h := elemsTo_succ s (a + d)
    have h2 := congrArg List.length h
    rw [List.length_append] at h2
    rw [← Nat.add_assoc]; omega
theorem pairs_pr (ms : List Int) (G : Nat) : ∀ e ∈ pairsTo ms G, ∃ a b, e = pr a b := by
  induction G with
  | zero => simp [pairsTo]
  | succ G ih =>
    intro e he
    simp only [pairsTo, List.mem_append, List.mem_map] at he
    rcases he with he | ⟨x, _, rfl⟩
    · exact ih e he
    · exact ⟨_, _, rfl⟩
def compBit (k : Int) (ss ms : List Int) (g m : Nat) : Bool := PHas (nth ss g) m || (PHas (nth ms g) m && PHas k (openIdx ms g m))
def compRow (N : Nat) (k : Int) (ss ms : List Int) (g : Nat) : Int := setOf (compBit k ss ms g) N
def comp (N : Nat) (k : Int) (ss ms : List Int) : List Int := tab (compRow N k ss ms) ss.length
def CompC (n : Int) (ss ms : List Int) (k : Int) : Prop := PPart n ss ms ∧ 0 ≤ k ∧ k < 2 ^ opens ms
noncomputable instance (n : Int) (ss ms : List Int) (k : Int) : Decidable (CompC n ss ms k) := Classical.propDecidable _
noncomputable def compR (n : Int) (ss ms : List Int) (k : Int) : List Int := if CompC n ss ms k then comp n.toNat k ss ms else []
noncomputable def compN (n : Int) (ss ms : List Int) (k : Int) : Int := if CompC n ss ms k then n else 0
theorem comp_ctx {N : Nat} {k : Int} {ss ms : List Int} (h : PPart N ss ms) : PCtx N (comp N k ss ms) := by
  obtain ⟨⟨a, b, c, d⟩, _⟩ := h
  refine ⟨a, b, by simpa [comp] using c, fun i hi => ?_⟩
  simp only [comp, tab_length] at hi
  unfold comp; rw [tab_nth _ hi]
  exact setOf_pset _ (by omega)
theorem setOf_orbit {p : Nat → Bool} {n m : Nat} {b : Int} {c : Bool} (hn : n ≤ 8) (hm : m < n) (hb : b = if c then 1 else 0) : (((setOf p n).toNat ||| (b * 2 ^ m).toNat : Nat) : Int) = setOf (fun i => p i || (decide (i = m) && c)) n := by
  cases c with
  | false =>
    have e : (b * 2 ^ m).toNat = 0 := by rw [hb]; simp
    rw [e, Nat.or_zero, Int.toNat_of_nonneg (setOf_range p n).1]
    exact setOf_congr fun i _ => by simp
  | true =>
    rw [hb]
    have h := setOf_orr p (fun i => PHas (2 ^ m) i) n
    rw [← setOf_self (pset_pow hn hm)] at h
    simp only [if_true, Int.one_mul, h]
    exact setOf_congr fun i _ => by rw [phas_pow]; simp
theorem elems_top {N : Nat} {s : Int} (h : PSet N s = true) : elemsTo s 8 = elemsTo s N := by
  obtain ⟨_, h2, h3, h4⟩ := pset_iff.mp h
  have h0 : s / 2 ^ N = 0 := Int.ediv_eq_zero_of_lt h3 (by simpa using h4)
  have := elemsTo_end (pset8 h) h0 (8 - N)
  rwa [show N + (8 - N) = 8 by omega] at this
theorem k_small {k : Int} {n : Nat} (h0 : 0 ≤ k) (h : k < 2 ^ n) (hn : n ≤ 6) : k < 64 := by
  have : (2 : Int) ^ n ≤ 2 ^ 6 := two_pow_le hn
  omega
theorem open_inj {ms : List Int} {g m g' m' : Nat} (h1 : PSet 8 (nth ms g) = true) (h2 : PHas (nth ms g) m = true) (h3 : PSet 8 (nth ms g') = true) (h4 : PHas (nth ms g') m' = true) (e : openIdx ms g m = openIdx ms g' m') : g = g' ∧ m = m' := by
  have a := pair_at h1 h2 (g + g' + 1) (by omega)
  have b := pair_at h3 h4 (g + g' + 1) (by omega)
  rw [e, b] at a
  have := pairV_inj (Option.some.inj a)
  exact ⟨this.1.symm, this.2.symm⟩
def iBit (k : Int) (ss ms : List Int) (i g m : Nat) : Bool := PHas (nth ss g) m || decide (openIdx ms g m < i) && (PHas (nth ms g) m && PHas k (openIdx ms g m))
def iRow (N : Nat) (k : Int) (ss ms : List Int) (i g : Nat) : Int := setOf (iBit k ss ms i g) N
theorem iRow_0 (N : Nat) (k : Int) (ss ms : List Int) (g : Nat) (h : PSet N (nth ss g) = true) : nth ss g = iRow N k ss ms 0 g := by
  have e : iRow N k ss ms 0 g = setOf (fun m => PHas (nth ss g) m) N := setOf_congr fun m _ => by simp [iBit]
  rw [e, ← setOf_self h]
theorem iRow_skip (N : Nat) {k : Int} (ss ms : List Int) {i : Nat} (g : Nat) (h : PHas k i = false) : iRow N k ss ms (i + 1) g = iRow N k ss ms i g := by
  refine setOf_congr fun m _ => ?_
  unfold iBit
  by_cases e : openIdx ms g m = i
  · rw [e, h]; simp
  · have e2 : openIdx ms g m < i + 1 ↔ openIdx ms g m < i := by omega
    simp [e2]
theorem iRow_other (N : Nat) {k : Int} {ss ms : List Int} {i g m g' : Nat} (hs : PSet 8 (nth ms g) = true) (hm : PHas (nth ms g) m = true) (hi : openIdx ms g m = i) (hs' : PSet 8 (nth ms g') = true) (hne : g' ≠ g) : iRow N k ss ms (i + 1) g' = iRow N k ss ms i g' := by
  refine setOf_congr fun x _ => ?_
  unfold iBit
  cases hp : PHas (nth ms g') x with
  | false => simp
  | true =>
    have e : openIdx ms g' x ≠ i := fun e => hne (open_inj hs' hp hs hm (by omega)).1
    have e2 : openIdx ms g' x < i + 1 ↔ openIdx ms g' x < i := by omega
    simp [e2]
theorem iRow_hit {N : Nat} {k : Int} {ss ms : List Int} {i g m : Nat} (hN : N ≤ 8) (hmN : m < N) (hs : PSet 8 (nth ms g) = true) (hm : PHas (nth ms g) m = true) (hi : openIdx ms g m = i) (hk : PHas k i = true) : (((iRow N k ss ms i g).toNat ||| 2 ^ m : Nat) : Int) = iRow N k ss ms (i + 1) g := by
  have h := setOf_orr (iBit k ss ms i g) (fun x => PHas (2 ^ m) x) N
  rw [← setOf_self (pset_pow hN hmN), pow_toNat] at h
  rw [show iRow N k ss ms i g = setOf (iBit k ss ms i g) N from rfl, h]
  refine setOf_congr fun x _ => ?_
  rw [phas_pow]
  unfold iBit
  by_cases e : x = m
  · subst e; simp [hm, hi, hk]
  · cases hp : PHas (nth ms g) x with
    | false => simp [e]
    | true =>
      have e3 : openIdx ms g x ≠ i := fun e9 => e (open_inj hs hp hs hm (by omega)).2
      have e2 : openIdx ms g x < i + 1 ↔ openIdx ms g x < i := by omega
      simp [e, e2]
theorem iRow_end {N : Nat} {k : Int} {ss ms : List Int} {g : Nat} (hg : g < ms.length) (hs : PSet 8 (nth ms g) = true) : iRow N k ss ms (opens ms) g = compRow N k ss ms g := by
  refine setOf_congr fun x _ => ?_
  unfold iBit compBit
  cases hp : PHas (nth ms g) x with
  | false => simp
  | true =>
    have := pair_at hs hp ms.length hg
    have h2 := (List.getElem?_eq_some_iff.1 this).1
    rw [pairsTo_len] at h2
    have h3 : openIdx ms g x < opens ms := h2
    simp [h3]
theorem compR_len (n : Int) (ss ms : List Int) (k : Int) : (compR n ss ms k).length ≤ 8 := by
  unfold compR; split
  · rename_i h; simp [comp]; exact h.1.1.2.2.1
  · simp
end Go.Proofs.YtliecnadoklgoaaGreatDoor
