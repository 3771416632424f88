/- A copy of an empty slice: what the library's Clone does there, as a contract of the evaluator. Conditions: none. -/
import Derived.Test.YtlglhokpaplifaaGreatDoorEvData2
namespace Go.Proofs.YtlglhokpaplifaaGreatDoor.Ev
open Go.RowKit
set_option linter.unusedVariables false
set_option linter.unusedSimpArgs false
/-- a function comes to what is told of it -/
def ExtOk (P : Program) (f : Nat) (F : List AV → Option AV) : Prop := (∃ fn, P.funcs[f]? = some fn ∧ fn.name ≠ "runtime.NumGoroutine" ∧ fn.body.isSome = true) ∧ ∀ args res, F args = some res → ∀ (w : World) (B : Nat → Nat → Prop) (M : Mp) (rargs : List Value),
    True → VRl args (cx B w.heap.size w hnil M) rargs → Calls P f rargs.toArray w fun e w' => ∃ rv, e = .returned rv ∧ Below w.heap.size w w' ∧ VR res (extCx B w w') rv
theorem clone_ext {P : Program} {f : Nat} {fn : Func} (hf : P.funcs[f]? = some fn) (hn : fn.name ≠ "runtime.NumGoroutine") (hb : fn.body.isSome = true)
    (h1 : ∀ n c w, Calls P f #[.slice none n c] w fun e w' => e = .returned (.slice none 0 0) ∧ w' = w)
    (h2 : ∀ a c w, Calls P f #[.slice (some a) 0 c] w fun e w' => ∃ b c', e = .returned (.slice (some b) 0 c') ∧ c' ≤ maxLen ∧ Below w.heap.size w w') :
    ExtOk P f cloneF := by
  refine ⟨⟨fn, hf, hn, hb⟩, fun args res hr w B M rargs _ hv => ?_⟩
  unfold cloneF at hr
  split at hr
  · rename_i k o
    obtain rfl := Option.some.inj hr
    simp only [VRl] at hv
    obtain ⟨r, _, rfl, hv, rfl⟩ := hv
    have hcx := cx_x B w.heap.size w hnil M
    have hs : ∃ a c, r = .slice a 0 c := by
      cases o <;> simp only [VR] at hv <;> first | (exact (hcx _ _ hv).elim) | (obtain ⟨a, c, q, _⟩ := hv; exact ⟨a, c, q⟩)
    obtain ⟨a, c, rfl⟩ := hs
    have nil : VR (.sl 1 .no []) (extCx B w w) (.slice none 0 0) := by simp only [VR]; exact ⟨none, 0, rfl, Nat.le_refl _, Nat.zero_le _, fun _ => rfl, fun h => (h rfl).elim, trivial⟩
    cases a with
    | none =>
      refine (h1 0 c w).mono ?_
      rintro e w' ⟨rfl, rfl⟩
      exact ⟨_, rfl, Below.refl _ _, nil⟩
    | some a =>
      refine (h2 a c w).mono ?_
      rintro e w' ⟨b, c', rfl, hc, hb⟩
      refine ⟨_, rfl, hb, ?_⟩
      simp only [VR]
      exact ⟨some b, c', rfl, Nat.zero_le _, hc, fun h => (by cases h), fun h => (h rfl).elim, trivial⟩
  · cases hr
end Go.Proofs.YtlglhokpaplifaaGreatDoor.Ev
