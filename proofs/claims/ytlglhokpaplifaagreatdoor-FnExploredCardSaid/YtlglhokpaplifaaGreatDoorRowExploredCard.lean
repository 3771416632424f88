/- The tied card of FnExplored. Conditions: none. -/
import Derived.Test.YtlglhokpaplifaaGreatDoorLawExplored
import Derived.Test.YtlglhokpaplifaaGreatDoorDoorG
import Derived.Test.YtlglhokpaplifaaGreatDoorCards
import Derived.Test.YtlglhokpaplifaaGreatDoorRowExploredFacts
import Derived.Test.YtlglhokpaplifaaGreatDoorRowExploredFacts2
import Derived.Test.YtlglhokpaplifaaGreatDoorTie
import Derived.SevenTiedAt
import Derived.ShutString
import Derived.ChangeOld
namespace Go.Proofs.YtlglhokpaplifaaGreatDoor
open Ev Go.RowKit Go.ChangeShapes Go.WideShapes Go.ChangeAt
set_option linter.unusedVariables false
set_option linter.unusedSimpArgs false

theorem laidOut : laidOutB Tryz.prog = true := by kernel_rfl
theorem sh0_ok : shB Tryz.prog (.sl 22 (.int 5 .u8)) = true := by kernel_rfl
set_option maxRecDepth 100000 in
theorem fnExplored_lifted (os : Os) (started : os.Started) (H : Type) (enc : TypeId × Value → H) :
    ReturnsInHanded {} Tryz.checked os 3 .any (fun w args => (Rows.fnExploredSpec.pre enc Tryz.prog Tryz.f3 [] false w args ∧ laidMetH Tryz.prog laidL w) ∧ sizedMet enc Tryz.prog Tryz.f3 (OpenSpec.ofChange Rows.fnExploredSpec) false w args)
      (Rows.fnExploredSpec.post enc Tryz.prog Tryz.f3 false true false false) := by
  refine returnsInHanded_of_change_and (C := Tryz.checked) (X := fun w _ => laidMetH Tryz.prog laidL w) (fun _ _ _ hh h => h.of_heap hh) own started (by kernel_rfl) Tryz.func3
    (ChangeSpec.witness_shaped (enc := enc) (C := Tryz.checked) (os := os) (X := fun w _ => laidMetH Tryz.prog laidL w) false (World.doorLaid Tryz.prog doorN os) #[.slice none 0 0] 8 rfl (World.shaped_of_RefB (by kernel_rfl) (by kernel_rfl)) (by kernel_rfl) (by kernel_rfl) (by kernel_rfl) (door_met os _)) ?_
  intro W base args ds gs before hval0 hW _ _ hL _
  have hval : ∀ (j : Nat) t v, Tryz.f3.params[j]? = some t → args[j]? = some v → Value.okWide Tryz.prog W .any base t v := hval0
  have hW' := hW
  obtain ⟨p, q, hA0, hV, rfl, hfz, hnd⟩ := hW
  have hA : DataW.TrodAll enc Tryz.prog W 0 (fun _ => true) true Tryz.f3.params.toList args.toList ds p := hA0
  rw [Tryz.params3] at hA hval
  obtain ⟨v0, vs0, d0, ds0, p0, q0, hargs, rfl, rfl, h0, r0⟩ := trodAll_cons hA
  obtain ⟨rfl, rfl, rfl⟩ := trodAll_nil r0
  obtain rfl : args = #[v0] := by cases args; simp_all
  obtain ⟨rfl, rfl⟩ := trodVars_none hV
  have lt0 : ∀ x ∈ p0, x.block < W.heap.size := by obtain ⟨m, hm⟩ := h0; exact DataW.trod_lt m _ _ _ hm
  obtain ⟨a0, fa0, vr0⟩ := open_arg sh0_ok (hval 0 22 v0 rfl rfl) h0
  have ia0 := fit_bytes fa0
  clear hA0 hval0
  have hC := calls_boolI prog_ok (lawExplored_c ia0.1 ia0.2) (of_laid hL) (vrl1 vr0) (arr := #[v0]) rfl
  refine hC.mono fun e W' ⟨he, bel⟩ => ?_
  subst he
  exact ⟨_, rfl, _, _, _, [], _, [], hW', trodAll_mk1 (shut_bool Tryz.underlying4 _), (trodAll_cons_mk (Below.trod laidOut (by kernel_rfl) (of_decide_eq_true (by kernel_rfl)) h0 bel lt0) trodAll_mk0), rfl, bel.frame _, fun h => by cases h⟩
theorem fnExplored_over : Rows.fnExploredRow.holds Tryz.pinned (OpenSpec.ofChange Rows.fnExploredSpec) :=
  OpenClaim.holds_of_wide 3 Tryz.f3 rfl rfl rfl rfl rfl rfl rfl ⟨rfl, rfl, rfl, rfl, rfl⟩ rfl rfl rfl rfl rfl (by kernel_rfl) Tryz.func3 fnExplored_facts
    (of_decide_eq_true (by kernel_rfl)) (by unfold Func.isWrapper; first | (rw [if_pos (by decide +kernel)]; kernel_rfl) | (rw [if_neg (by decide +kernel)]; exact ⟨rfl, rfl⟩))
    (fun os started H enc _ => fnExplored_lifted os started H enc)
theorem fnExplored_holds : Rows.FnExploredSaid := fnExplored_over
theorem fnExploredCard_holds : Rows.FnExploredCardSaid :=
  Claim7.holds_tied_plain_at .later [] [.data, .data, .data] true (true, "81867e72222372e31986b3410531dd0815f5d680f55f3a6782ecedbc917a93ed") false
    fnExplored_holds (fun _ h => by cases h) fnExplored_wf (fun _ h => by cases h) fnExplored_row_tie rfl ⟨rfl, rfl⟩ fnExplored_main rfl
    (fun f fn hf hfn => by
      obtain rfl : f = 3 := Option.some.inj (fnExplored_named.symm.trans hf) |>.symm
      obtain rfl : fn = Tryz.f3 := (Option.some.inj (Tryz.func3.symm.trans hfn)).symm
      exact ⟨fnExplored_looks, fun j t ht => by
        rw [Tryz.params3] at ht
        have hm : t ∈ [22] := by simpa using Array.mem_of_getElem? ht
        exact (show Tryz.prog.wantsStandIn t = false by simpa using List.all_eq_true.1 fnExplored_stands t hm)⟩)
    fnExplored_goes
#print axioms fnExploredCard_holds
end Go.Proofs.YtlglhokpaplifaaGreatDoor
