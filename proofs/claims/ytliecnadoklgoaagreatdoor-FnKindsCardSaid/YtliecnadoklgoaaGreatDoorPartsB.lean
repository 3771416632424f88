/- Elements numbered anew; what is in an intent. Conditions: none. -/
import Derived.Test.YtliecnadoklgoaaGreatDoorSub
import Derived.Test.YtliecnadoklgoaaGreatDoorLatP
import Derived.Test.YtliecnadoklgoaaGreatDoorArrow
namespace Go.Proofs.YtliecnadoklgoaaGreatDoor
open Ev
set_option linter.unusedVariables false
set_option linter.unusedSimpArgs false
set_option maxHeartbeats 4000000

/-- an element's new number -/
def newI (keep : Int) (m : Nat) : Nat := (elemsTo keep m).length
theorem newI_lt {keep : Int} {m : Nat} (hk : PSet 8 keep = true) (hm : PHas keep m = true) : newI keep m < (elemsTo keep 8).length ∧ nth (elemsTo keep 8) (newI keep m) = m := by
  have h := elems_at hk hm 8 (by have := phas_lt hk hm; omega)
  have h1 := (List.getElem?_eq_some_iff.1 h).1
  refine ⟨h1, ?_⟩
  rw [nth_get? h1] at h
  exact Option.some.inj h
theorem newI_of {keep : Int} {j : Nat} (hj : j < (elemsTo keep 8).length) : ∃ m : Nat, PHas keep m = true ∧ newI keep m = j ∧ PSet 8 keep = true := by
  obtain ⟨m, h1, h2, h3, h4⟩ := mem_elems hj
  have hg : (elemsTo keep 8)[j]? = some (m : Int) := by rw [nth_get? hj, h1]
  exact ⟨m, h4, (elems_idx _ _ _ hg).2.2.2, h3⟩
theorem pack_new {s keep : Int} {m : Nat} (hk : PSet 8 keep = true) (hm : PHas keep m = true) : PHas (Pack s keep) (newI keep m) = PHas s m := by
  obtain ⟨h1, h2⟩ := newI_lt hk hm
  unfold Pack packTo
  rw [setOf_has]
  simp only [h1, decide_true, Bool.true_and]
  unfold packP
  rw [h2]
  simp
theorem pack_ext {s t keep : Int} (hk : PSet 8 keep = true) : Pack s keep = Pack t keep ↔ ∀ m : Nat, PHas keep m = true → PHas s m = PHas t m := by
  constructor
  · intro h m hm
    rw [← pack_new hk hm, ← pack_new hk hm, h]
  · intro h
    unfold Pack packTo
    refine setOf_congr fun j hj => ?_
    unfold packP
    obtain ⟨m, h1, h2, h3, h4⟩ := mem_elems hj
    rw [h1]
    simpa using h m h4
theorem pack_pset (s : Int) {keep : Int} : PSet (elemsTo keep 8).length (Pack s keep) = true := by
  have h8 := elemsTo_len keep 8
  exact setOf_pset _ (by omega)
/- concepts: what is in the intent is had by all of the extent, and the other way round -/
theorem con_F {N : Nat} {xs : List Int} {k : Nat} (hk : k < (conL N xs).length) (g : Nat) : PHas (nth (fsts (conW N xs)) k) g = true ↔ g < xs.length ∧ ∀ m : Nat, PHas (nth (snds (conW N xs)) k) m = true → PHas (nth xs g) m = true := by
  obtain ⟨hc, h1, h2⟩ := closed_get hk
  rw [nthF hk, nthS hk, ext_has, Bool.and_eq_true, decide_eq_true_eq]
  constructor
  · rintro ⟨a, b⟩
    exact ⟨a, (psub_all (by omega) (row_nn hc a)).1 b⟩
  · rintro ⟨a, b⟩
    exact ⟨a, (psub_all (by omega) (row_nn hc a)).2 b⟩
theorem con_S {N : Nat} {xs : List Int} {k : Nat} (hk : k < (conL N xs).length) (m : Nat) : PHas (nth (snds (conW N xs)) k) m = true ↔ m < N ∧ ∀ g : Nat, PHas (nth (fsts (conW N xs)) k) g = true → PHas (nth xs g) m = true := by
  obtain ⟨hc, h1, h2⟩ := closed_get hk
  simp only [Int.toNat_natCast] at h1 h2
  have e : nth (snds (conW N xs)) k = IntS xs N (nth (fsts (conW N xs)) k) := by
    rw [nthS hk, nthF hk]
    have : Clo xs N (((conL (N : Int) xs)[k] : Nat) : Int) = (((conL (N : Int) xs)[k] : Nat) : Int) := by rw [← cloN_cast, h2]
    exact this.symm
  rw [e, int_has]
  constructor
  · rintro ⟨a, b⟩
    exact ⟨a, fun g hg => b g ((con_F hk g).1 hg).1 hg⟩
  · rintro ⟨a, b⟩
    exact ⟨a, fun g _ hg => b g hg⟩
theorem col_nn (xs : List Int) (m : Nat) : 0 ≤ Col xs m := (setOf_range _ _).1
theorem col_sub {xs : List Int} {m n : Nat} : PSub (Col xs m) (Col xs n) = true ↔ ∀ g, g < xs.length → PHas (nth xs g) m = true → PHas (nth xs g) n = true := by
  rw [psub_all (col_nn _ _) (col_nn _ _)]
  constructor
  · intro h g hg hm
    have := h g (by rw [col_has _ _ _ hg]; exact hm)
    rwa [col_has _ _ _ hg] at this
  · intro h g hg
    have hgl : g < xs.length := by unfold Col at hg; rw [setOf_has, Bool.and_eq_true, decide_eq_true_eq] at hg; exact hg.1
    rw [col_has _ _ _ hgl] at hg ⊢
    exact h g hgl hg
end Go.Proofs.YtliecnadoklgoaaGreatDoor
