/- What slices.Clone does at an empty slice, in this seat's program. Conditions: none. -/
import Derived.Test.YtlglhokpaplifaaGreatDoorProg
import Derived.Test.YtlglhokpaplifaaGreatDoorEvClone
import Derived.WalkKit
import Derived.WalkSpells
import Derived.WalkLawsBesides
import Derived.KernelRfl
import Derived.Lib.LazyBuf
namespace Go.Proofs.YtlglhokpaplifaaGreatDoor
open Go.RowKit
set_option maxRecDepth 100000 in
set_option maxHeartbeats 1000000 in
theorem cloneI_nil (n c : Nat) (w : World) :
    Calls Tryz.prog 126 #[.slice none n c] w fun e w' => e = .returned (.slice none 0 0) ∧ w' = w := by
  have q22 : ∀ (w : World) (a : Option Addr) (n c : Nat), (binOp .eql 24 (.slice a n c) (.slice none 0 0)).run Tryz.prog w = .ok (.bool a.isNone) w := fun w a n c => Go.run_eql_slice_nil w _ _ a n c Tryz.underlying24
  go_enter Tryz.func126, Tryz.ntmps126
  go_wp2
  go_ret
  exact ⟨rfl, rfl⟩
theorem cloneI_info : (Tryz.prog.info? 3).map (fun i => (i.size, i.bytes, i.zero)) = some (1, 8, some (.int .i64 0)) := by kernel_rfl
set_option maxRecDepth 100000 in
set_option maxHeartbeats 2000000 in
theorem cloneI_zero (a : Addr) (c : Nat) (w : World) :
    Calls Tryz.prog 126 #[.slice (some a) 0 c] w fun e w' => ∃ b c', e = .returned (.slice (some b) 0 c') ∧ c' ≤ maxLen ∧ Below w.heap.size w w' := by
  have t22 : Tryz.prog.underlying 24 = some (.slice 3) := Tryz.underlying24
  obtain ⟨i0, hi, hz⟩ : ∃ i0, Tryz.prog.info? 3 = some i0 ∧ (i0.size, i0.bytes, i0.zero) = (1, 8, some (.int .i64 0)) := by simpa using cloneI_info
  obtain ⟨hz1, hz9⟩ := Prod.mk.inj hz
  obtain ⟨hz2, hz0⟩ := Prod.mk.inj hz9
  have q22 : ∀ (w : World) (a : Option Addr) (n c : Nat), (binOp .eql 24 (.slice a n c) (.slice none 0 0)).run Tryz.prog w = .ok (.bool a.isNone) w := fun w a n c => Go.run_eql_slice_nil w _ _ a n c t22
  have u22 : ∀ w, Sem.run Tryz.prog (underlying 24) w = .ok (TypeDesc.slice 3) w := run_underlying t22
  go_enter Tryz.func126, Tryz.ntmps126
  go_wp2_with (at_builtin; refine wpList_append_own _ rfl _ _ 24 rfl w.heap.size 3 i0 (.int .i64 0) 1 8 t22 hi hz0 hz1 hz2 rfl (by decide) _ _ _ rfl (World.ownsRow_made w #[] 0 (Nat.le_refl _) (Nat.zero_le _) rfl) a 0 c [] rfl rfl (by intro j u hj; simp at hj) (by intro u hu; cases hu) (by unfold maxLen; omega) (by omega) (by simp) ?_)
  intro v' w1 hown hgrow hnil
  go_wp2
  go_ret
  have hb : Below w.heap.size w w1 := ((Below.refl _ w).alloc (Nat.le_refl _) _).grown hgrow (by simp) (by intro k hk; simp [Value.ownBlock] at hk; omega)
  rcases hown.2 with ⟨rfl, _⟩ | ⟨g, cap, cur, rfl, _, _, _, h6, _⟩
  · exact (hnil rfl).elim
  · exact ⟨_, cap, rfl, h6, hb⟩
theorem cloneI_ok : Ev.ExtOk Tryz.prog 126 Ev.cloneF := Ev.clone_ext Tryz.func126 (by simp [Tryz.f126]) (by simp [Tryz.f126]) cloneI_nil cloneI_zero
end Go.Proofs.YtlglhokpaplifaaGreatDoor
