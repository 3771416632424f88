/- Chains: the law of IsChain. Conditions: none. -/
import Derived.Test.YtliecnadoklgoaaDoorConA
namespace Go.Proofs.YtliecnadoklgoaaDoor
open Ev
set_option linter.unusedVariables false
set_option linter.unusedSimpArgs false
set_option maxHeartbeats 4000000

theorem con_range {n : Int} {xs : List Int} {k : Nat} (h : k < (fsts (conW n xs)).length) : 0 ≤ nth (fsts (conW n xs)) k ∧ nth (fsts (conW n xs)) k < 256 := by
  rw [conW_fsts, List.length_map] at h
  rw [conW_fsts]
  have hc : PCtx n xs := by
    unfold conL at h
    split at h
    · assumption
    · simp at h
  have e : nth ((conL n xs).map fun (s : Nat) => Ext xs (s : Int)) k = Ext xs ((conL n xs)[k] : Nat) := by simp [nth, h]
  rw [e]
  exact ext_range _ _ hc.2.2.1
def cmpP (F : List Int) (a b : Nat) : Prop := PSub (nth F a) (nth F b) = true ∨ PSub (nth F b) (nth F a) = true
def ChnC (n : Int) (xs F : List Int) : Prop := PCtx n xs ∧ ∀ a, a < F.length → ∀ b, b < a → cmpP F a b
noncomputable instance (n : Int) (xs F : List Int) : Decidable (ChnC n xs F) := Classical.propDecidable _
end Go.Proofs.YtliecnadoklgoaaDoor
