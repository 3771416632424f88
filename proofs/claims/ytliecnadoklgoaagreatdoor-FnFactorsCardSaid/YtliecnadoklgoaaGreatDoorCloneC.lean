/- What slices.Clone does at an empty list of concepts that has no room. Conditions: none. -/
import Derived.Test.YtliecnadoklgoaaGreatDoorSortC
import Derived.Test.YtliecnadoklgoaaGreatDoorEvClone
import Derived.WalkKit
import Derived.WalkSpells
import Derived.WalkLawsBesides
import Derived.KernelRfl
import Derived.Lib.LazyBuf
namespace Go.Proofs.YtliecnadoklgoaaGreatDoor
open Go.RowKit
set_option maxRecDepth 100000 in
set_option maxHeartbeats 1000000 in
theorem cloneC_nil (n c : Nat) (w : World) :
    Calls Tryz.prog 224 #[.slice none n c] w fun e w' => e = .returned (.slice none 0 0) ∧ w' = w := by
  have q22 : ∀ (w : World) (a : Option Addr) (n c : Nat), (binOp .eql 79 (.slice a n c) (.slice none 0 0)).run Tryz.prog w = .ok (.bool a.isNone) w := fun w a n c => Go.run_eql_slice_nil w _ _ a n c Tryz.underlying79
  go_enter Tryz.func224, Tryz.ntmps224
  go_wp2
  go_ret
  exact ⟨rfl, rfl⟩
theorem cloneC_info : (Tryz.prog.info? 101).map (fun i => (i.size, i.bytes)) = some (2, 16) := by kernel_rfl
set_option maxRecDepth 100000 in
set_option maxHeartbeats 2000000 in
theorem cloneC_zero (a : Addr) (c : Nat) (w : World) :
    Calls Tryz.prog 224 #[.slice (some a) 0 c] w fun e w' => ∃ b, e = .returned (.slice (some b) 0 0) ∧ Below w.heap.size w w' := by
  have t22 : Tryz.prog.underlying 79 = some (.slice 101) := Tryz.underlying79
  obtain ⟨i0, hi, hz⟩ : ∃ i0, Tryz.prog.info? 101 = some i0 ∧ (i0.size, i0.bytes) = (2, 16) := by simpa using cloneC_info
  have q22 : ∀ (w : World) (a : Option Addr) (n c : Nat), (binOp .eql 79 (.slice a n c) (.slice none 0 0)).run Tryz.prog w = .ok (.bool a.isNone) w := fun w a n c => Go.run_eql_slice_nil w _ _ a n c t22
  have u22 : ∀ w, Sem.run Tryz.prog (underlying 79) w = .ok (TypeDesc.slice 101) w := run_underlying t22
  have qap : ∀ (w : World) (a b : Addr) (c d : Nat), (Builtin.append_ #[79, 79] 79 #[.slice (some a) 0 c, .slice (some b) 0 d]).run Tryz.prog w = .ok (.slice (some a) 0 c) w := by
    intro w a b c d
    have hf0 : (Builtin.firstCells i0.size 0 (.slice (some b) 0 d)).run Tryz.prog w = .ok #[] w := by simp [Builtin.firstCells, loadCells, loadCellsFrom]
    simp [Builtin.append_, run_underlying t22, sizeOf, typeInfo, hi, Builtin.lenOf, storeCells, hf0]
  go_enter Tryz.func224, Tryz.ntmps224
  go_wp2
  go_ret
  exact ⟨_, rfl, (Below.refl _ w).alloc (Nat.le_refl _) _⟩
open Ev in
/-- a copy of nothing has no room -/
def cloneCF : List AV → Option AV
  | [.sl _ _ []] => some (.sl 0 .lit [])
  | _ => none
open Ev in
theorem cloneC_ok : ExtOkI laidT Tryz.prog 224 cloneCF := by
  refine ⟨⟨_, Tryz.func224, by simp [Tryz.f224], by simp [Tryz.f224]⟩, fun args res hr w B M rargs _ hv => ?_⟩
  unfold cloneCF at hr
  split at hr
  · rename_i k o
    obtain rfl := Option.some.inj hr
    simp only [VRl] at hv
    obtain ⟨r, _, rfl, hv, rfl⟩ := hv
    have hcx := cx_x B w.heap.size w hnil M
    have hs : ∃ a c, r = .slice a 0 c := by
      cases o <;> simp only [VR] at hv <;> first | (exact (hcx _ _ hv).elim) | (obtain ⟨a, c, q, _⟩ := hv; exact ⟨a, c, q⟩)
    obtain ⟨a, c, rfl⟩ := hs
    cases a with
    | none =>
      refine (cloneC_nil 0 c w).mono ?_
      rintro e w' ⟨rfl, rfl⟩
      refine ⟨_, rfl, Below.refl _ _, ?_⟩
      simp only [VR]
      exact ⟨none, 0, rfl, Nat.le_refl _, Nat.zero_le _, fun _ => rfl, fun h => (h rfl).elim, rfl⟩
    | some a =>
      refine (cloneC_zero a c w).mono ?_
      rintro e w' ⟨b, rfl, hb⟩
      refine ⟨_, rfl, hb, ?_⟩
      simp only [VR]
      exact ⟨some b, 0, rfl, Nat.le_refl _, Nat.zero_le _, fun h => (by cases h), fun h => (h rfl).elim, rfl⟩
  · cases hr
end Go.Proofs.YtliecnadoklgoaaGreatDoor
