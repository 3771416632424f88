/- Lists of records of two numbers that grow. Conditions: none. -/
import Derived.Test.YtlglhokpaplifaaGreatDoorBitA
namespace Go.Proofs.YtlglhokpaplifaaGreatDoor
open Ev
set_option linter.unusedVariables false
set_option linter.unusedSimpArgs false

theorem isP_bufLC {es : List AV} (h : ∀ e ∈ es, ∃ a b, e = pr a b) (hl : es.length ≤ top63) : IsP (bufLC 2 2 es) := by
  unfold bufLC
  split
  · rename_i e; subst e
    exact { l := { len := by simp, ok := ⟨2, .lit, [], rfl, .inl rfl, rfl⟩, cells := fun e he => by simp at he }, el := fun e he => by simp at he }
  · exact { l := { len := by simpa using hl, ok := ⟨2, .no, es, rfl, .inr rfl, rfl⟩, cells := fun e he => by obtain ⟨a, b, rfl⟩ := h e (by simpa using he); exact ⟨rfl, rfl⟩ }, el := fun e he => h e (by simpa using he) }
theorem isP_lit : IsP (.sl 0 .lit []) := { l := { len := by simp, ok := ⟨0, .lit, [], rfl, .inl rfl, rfl⟩, cells := fun e he => by simp at he }, el := fun e he => by simp at he }
theorem fsts_bufLC (k0 : Nat) (es : List AV) : fsts (bufLC k0 2 es) = es.map fstI := by unfold bufLC; split <;> simp [fsts, *]
theorem snds_bufLC (k0 : Nat) (es : List AV) : snds (bufLC k0 2 es) = es.map sndI := by unfold bufLC; split <;> simp [snds, *]
theorem nth_map_get {es : List AV} {f : AV → Int} {i : Nat} {e : AV} (h : es[i]? = some e) : nth (es.map f) i = f e := by simp [nth, h]
end Go.Proofs.YtlglhokpaplifaaGreatDoor
