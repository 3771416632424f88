/- XSortD XSortE XSortF, joined. Conditions: none. -/
import Derived.Test.YtlglhokpaplifaaGreatDoorSortC
import Derived.Test.YtlglhokpaplifaaGreatDoorClone
/- The program's order of sets, as a contract of the evaluator. Conditions: the library's table of trailing zeros is laid. -/
namespace Go.Proofs.YtlglhokpaplifaaGreatDoor
open Go.RowKit Go.Lib Go.Sort Go.Shelf
set_option linter.unusedVariables false
set_option linter.unusedSimpArgs false

def befB (x y : Nat) : Bool := decide (Lect.rev6 x < Lect.rev6 y)
open Ev in
def beforeF : List AV → Option AV
  | [.int .i64 x, .int .i64 y] => if 0 ≤ x ∧ x < 64 ∧ 0 ≤ y ∧ y < 64 then some (.bool (befB x.toNat y.toNat)) else none
  | _ => none
open Ev in
theorem beforeF_eq {x y : Nat} (hx : x < 64) (hy : y < 64) : beforeF [.int .i64 x, .int .i64 y] = some (.bool (befB x y)) := by
  have h : 0 ≤ (x : Int) ∧ (x : Int) < 64 ∧ 0 ≤ (y : Int) ∧ (y : Int) < 64 := ⟨by omega, by omega, by omega, by omega⟩
  exact if_pos h
set_option maxHeartbeats 1000000 in
theorem before_same (x : Fin 64) (w : World) : Calls Tryz.prog 87 #[.int .i64 x.val, .int .i64 x.val] w fun r w' => r = .returned (.bool false) ∧ ∃ q, w' = w.drewN q := by
  go_enter Tryz.func87, Tryz.ntmps87
  go_wp2_with (go_at_call 111; refine (any_at _ (by omega) _).mono ?_; rintro e w' ⟨rfl, q, rfl⟩)
  go_ret
  exact ⟨rfl, _, rfl⟩
open Ev in
theorem beforeI_ok : ExtOkI laidT Tryz.prog 87 beforeF := by
  refine ⟨⟨_, Tryz.func87, by simp [Tryz.f87], by simp [Tryz.f87]⟩, fun args res hr w B M rargs hT hv => ?_⟩
  unfold beforeF at hr
  split at hr
  · rename_i x y
    split at hr
    · rename_i h
      obtain rfl := Option.some.inj hr
      obtain ⟨X, rfl⟩ : ∃ X : Nat, x = X := ⟨x.toNat, by omega⟩
      obtain ⟨Y, rfl⟩ : ∃ Y : Nat, y = Y := ⟨y.toNat, by omega⟩
      simp only [VRl, VR] at hv
      obtain ⟨r, _, rfl, rfl, s, _, rfl, rfl, rfl⟩ := hv
      have hc : Calls Tryz.prog 87 #[.int .i64 (X : Int), .int .i64 (Y : Int)] w fun r w' => r = .returned (.bool (befB X Y)) ∧ ∃ q, w' = w.drewN q := by
        by_cases e : X = Y
        · subst e
          have := before_same ⟨X, by omega⟩ w
          simpa [befB] using this
        · exact before_at ⟨X, by omega⟩ ⟨Y, by omega⟩ (fun h => e (congrArg Fin.val h)) w hT
      refine hc.mono ?_
      rintro e w' ⟨rfl, q, rfl⟩
      refine ⟨_, rfl, below_drewN (Below.refl _ w) q, ?_⟩
      simp only [VR, Int.toNat_natCast]
    · cases hr
  · cases hr
end Go.Proofs.YtlglhokpaplifaaGreatDoor
/- slices.Clone at nothing, beside the program's sort. Conditions: none. -/
namespace Go.Proofs.YtlglhokpaplifaaGreatDoor
theorem cloneI_okI : ExtOkI laidT Tryz.prog 126 Ev.cloneF := ⟨cloneI_ok.1, fun args res hr w B M rargs _ hv => cloneI_ok.2 args res hr w B M rargs trivial hv⟩
end Go.Proofs.YtlglhokpaplifaaGreatDoor
/- slices.Clone at nothing of both kinds, beside the program's sort. Conditions: none. -/
