/- The tied card of FnExactExplore. Conditions: none. -/
import Derived.Test.YtlglhokpaplifaaGreatDoorLawExplore
import Derived.Test.YtlglhokpaplifaaGreatDoorDoor
import Derived.Test.YtlglhokpaplifaaGreatDoorCards
import Derived.Test.YtlglhokpaplifaaGreatDoorRowExploreFacts
import Derived.Test.YtlglhokpaplifaaGreatDoorRowExploreFacts2
import Derived.Test.YtlglhokpaplifaaGreatDoorTie
import Derived.SevenTiedAt
import Derived.ShutString
import Derived.ChangeOld
namespace Go.Proofs.YtlglhokpaplifaaGreatDoor
open Ev Go.RowKit Go.ChangeShapes Go.WideShapes Go.ChangeAt
set_option linter.unusedVariables false
set_option linter.unusedSimpArgs false

theorem laidOut : laidOutB Tryz.prog = true := by kernel_rfl
theorem sh0_ok : shB Tryz.prog (.st 52 [(.int 3 .i64), (.sl 24 (.int 3 .i64))]) = true := by kernel_rfl
theorem sh1_ok : shB Tryz.prog (.sl 24 (.int 3 .i64)) = true := by kernel_rfl
set_option maxRecDepth 100000 in
theorem fnExactExplore_lifted (os : Os) (started : os.Started) (H : Type) (enc : TypeId × Value → H) :
    ReturnsInHanded {} Tryz.checked os 4 .any (fun w args => (Rows.fnExactExploreSpec.pre enc Tryz.prog Tryz.f4 [] false w args ∧ laidMetH Tryz.prog laidL w) ∧ sizedMet enc Tryz.prog Tryz.f4 (OpenSpec.ofChange Rows.fnExactExploreSpec) false w args)
      (Rows.fnExactExploreSpec.post enc Tryz.prog Tryz.f4 false true false false) := by
  refine returnsInHanded_of_change_and (C := Tryz.checked) (X := fun w _ => laidMetH Tryz.prog laidL w) (fun _ _ _ hh h => h.of_heap hh) own started (by kernel_rfl) Tryz.func4
    (ChangeSpec.witness_shaped (enc := enc) (C := Tryz.checked) (os := os) (X := fun w _ => laidMetH Tryz.prog laidL w) false (World.doorLaid Tryz.prog doorN os) #[.agg #[.int .i64 0, .slice none 0 0], .slice none 0 0] 8 rfl (World.shaped_of_RefB (by kernel_rfl) (by kernel_rfl)) (by kernel_rfl) (by kernel_rfl) (by kernel_rfl) (door_met os _)) ?_
  intro W base args ds gs before hval0 hW _ _ hL _
  have hval : ∀ (j : Nat) t v, Tryz.f4.params[j]? = some t → args[j]? = some v → Value.okWide Tryz.prog W .any base t v := hval0
  have hW' := hW
  obtain ⟨p, q, hA0, hV, rfl, hfz, hnd⟩ := hW
  have hA : DataW.TrodAll enc Tryz.prog W 0 (fun _ => true) true Tryz.f4.params.toList args.toList ds p := hA0
  rw [Tryz.params4] at hA hval
  obtain ⟨v0, vs0, d0, ds0, p0, q0, hargs, rfl, rfl, h0, r0⟩ := trodAll_cons hA
  obtain ⟨v1, vs1, d1, ds1, p1, q1, rfl, rfl, rfl, h1, r1⟩ := trodAll_cons r0
  obtain ⟨rfl, rfl, rfl⟩ := trodAll_nil r1
  obtain rfl : args = #[v0, v1] := by cases args; simp_all
  obtain ⟨rfl, rfl⟩ := trodVars_none hV
  have lt0 : ∀ x ∈ p0, x.block < W.heap.size := by obtain ⟨m, hm⟩ := h0; exact DataW.trod_lt m _ _ _ hm
  obtain ⟨a0, fa0, vr0⟩ := open_arg sh0_ok (hval 0 52 v0 rfl rfl) h0
  simp only [fitV_st, fits_cons, fits_nil] at fa0
  obtain ⟨_, rfl, ya0_0, _, rfl, fa0_0, ya0_1, _, rfl, fa0_1, rfl⟩ := fa0
  simp only [fitV_int] at fa0_0
  obtain ⟨na0_0, rfl⟩ := fa0_0
  have ia0_1 := fit_ints fa0_1
  simp only [cells_int, isI_cells ia0_1, cells_agg, List.append_nil, List.cons_append, List.nil_append] at vr0
  have lt1 : ∀ x ∈ p1, x.block < W.heap.size := by obtain ⟨m, hm⟩ := h1; exact DataW.trod_lt m _ _ _ hm
  obtain ⟨a1, fa1, vr1⟩ := open_arg sh1_ok (hval 1 24 v1 rfl rfl) h1
  have ia1 := fit_ints fa1
  clear hA0 hval0
  have hC := calls_boolI prog_ok (lawExplore_c ia0_1 ia1) (of_laid hL) (vrl_cons vr0 (vrl1 vr1)) (arr := #[v0, v1]) rfl
  refine hC.mono fun e W' ⟨he, bel⟩ => ?_
  subst he
  exact ⟨_, rfl, _, _, _, [], _, [], hW', trodAll_mk1 (shut_bool Tryz.underlying4 _), (trodAll_cons_mk (Below.trod laidOut (by kernel_rfl) (of_decide_eq_true (by kernel_rfl)) h0 bel lt0) (trodAll_cons_mk (Below.trod laidOut (by kernel_rfl) (of_decide_eq_true (by kernel_rfl)) h1 bel lt1) trodAll_mk0)), rfl, bel.frame _, fun h => by cases h⟩
theorem fnExactExplore_over : Rows.fnExactExploreRow.holds Tryz.pinned (OpenSpec.ofChange Rows.fnExactExploreSpec) :=
  OpenClaim.holds_of_wide 4 Tryz.f4 rfl rfl rfl rfl rfl rfl rfl ⟨rfl, rfl, rfl, rfl, rfl⟩ rfl rfl rfl rfl rfl (by kernel_rfl) Tryz.func4 fnExactExplore_facts
    (of_decide_eq_true (by kernel_rfl)) (by unfold Func.isWrapper; first | (rw [if_pos (by decide +kernel)]; kernel_rfl) | (rw [if_neg (by decide +kernel)]; exact ⟨rfl, rfl⟩))
    (fun os started H enc _ => fnExactExplore_lifted os started H enc)
theorem fnExactExplore_holds : Rows.FnExactExploreSaid := fnExactExplore_over
theorem fnExactExploreCard_holds : Rows.FnExactExploreCardSaid :=
  Claim7.holds_tied_plain_at .later [] [.data, .data] true (true, "81867e72222372e31986b3410531dd0815f5d680f55f3a6782ecedbc917a93ed") false
    fnExactExplore_holds (fun _ h => by cases h) fnExactExplore_wf (fun _ h => by cases h) fnExactExplore_row_tie rfl ⟨rfl, rfl⟩ fnExactExplore_main rfl
    (fun f fn hf hfn => by
      obtain rfl : f = 4 := Option.some.inj (fnExactExplore_named.symm.trans hf) |>.symm
      obtain rfl : fn = Tryz.f4 := (Option.some.inj (Tryz.func4.symm.trans hfn)).symm
      exact ⟨fnExactExplore_looks, fun j t ht => by
        rw [Tryz.params4] at ht
        have hm : t ∈ [52, 24] := by simpa using Array.mem_of_getElem? ht
        exact (show Tryz.prog.wantsStandIn t = false by simpa using List.all_eq_true.1 fnExactExplore_stands t hm)⟩)
    fnExactExplore_goes
#print axioms fnExactExploreCard_holds
end Go.Proofs.YtlglhokpaplifaaGreatDoor
