/- The tied card of FnExactFewestFactors. Conditions: none. -/
import Derived.Test.YtkkkgaapkibhkaaDoorFewA
import Derived.Test.YtkkkgaapkibhkaaDoorDoor
import Derived.Test.YtkkkgaapkibhkaaDoorCards
import Derived.Test.YtkkkgaapkibhkaaDoorRowFewestFactorsFacts
import Derived.Test.YtkkkgaapkibhkaaDoorRowFewestFactorsFacts2
import Derived.Test.YtkkkgaapkibhkaaDoorTie
import Derived.SevenTiedAt
import Derived.ShutString
import Derived.ChangeOld
namespace Go.Proofs.YtkkkgaapkibhkaaDoor
open Ev Go.RowKit Go.ChangeShapes Go.WideShapes Go.ChangeAt
set_option linter.unusedVariables false
set_option linter.unusedSimpArgs false

theorem laidOut : laidOutB Tryd.prog = true := by kernel_rfl
theorem sh0_ok : shB Tryd.prog (.st 24 [(.int 3 .i64), (.sl 22 (.int 3 .i64))]) = true := by kernel_rfl
theorem sh1_ok : shB Tryd.prog (.int 3 .i64) = true := by kernel_rfl
set_option maxRecDepth 100000 in
theorem fnExactFewestFactors_lifted (os : Os) (started : os.Started) (H : Type) (enc : TypeId × Value → H) :
    ReturnsInHanded {} Tryd.checked os 6 .any (fun w args => (Rows.fnExactFewestFactorsSpec.pre enc Tryd.prog Tryd.f6 [] false w args ∧ laidMetH Tryd.prog laidL w) ∧ sizedMet enc Tryd.prog Tryd.f6 (OpenSpec.ofChange Rows.fnExactFewestFactorsSpec) false w args)
      (Rows.fnExactFewestFactorsSpec.post enc Tryd.prog Tryd.f6 false true false false) := by
  refine returnsInHanded_of_change_and (C := Tryd.checked) (X := fun w _ => laidMetH Tryd.prog laidL w) (fun _ _ _ hh h => h.of_heap hh) own started (by kernel_rfl) Tryd.func6
    (ChangeSpec.witness_shaped (enc := enc) (C := Tryd.checked) (os := os) (X := fun w _ => laidMetH Tryd.prog laidL w) false (World.doorLaid Tryd.prog doorN os) #[.agg #[.int .i64 0, .slice none 0 0], .int .i64 0] 8 rfl (World.shaped_of_RefB (by kernel_rfl) (by kernel_rfl)) (by kernel_rfl) (by kernel_rfl) (by kernel_rfl) (door_met os _)) ?_
  intro W base args ds gs before hval0 hW _ _ hL _
  have hval : ∀ (j : Nat) t v, Tryd.f6.params[j]? = some t → args[j]? = some v → Value.okWide Tryd.prog W .any base t v := hval0
  have hW' := hW
  obtain ⟨p, q, hA0, hV, rfl, hfz, hnd⟩ := hW
  have hA : DataW.TrodAll enc Tryd.prog W 0 (fun _ => true) true Tryd.f6.params.toList args.toList ds p := hA0
  rw [Tryd.params6] at hA hval
  obtain ⟨v0, vs0, d0, ds0, p0, q0, hargs, rfl, rfl, h0, r0⟩ := trodAll_cons hA
  obtain ⟨v1, vs1, d1, ds1, p1, q1, rfl, rfl, rfl, h1, r1⟩ := trodAll_cons r0
  obtain ⟨rfl, rfl, rfl⟩ := trodAll_nil r1
  obtain rfl : args = #[v0, v1] := by cases args; simp_all
  obtain ⟨rfl, rfl⟩ := trodVars_none hV
  have lt0 : ∀ x ∈ p0, x.block < W.heap.size := by obtain ⟨m, hm⟩ := h0; exact DataW.trod_lt m _ _ _ hm
  obtain ⟨a0, fa0, vr0⟩ := open_arg sh0_ok (hval 0 24 v0 rfl rfl) h0
  simp only [fitV_st, fits_cons, fits_nil] at fa0
  obtain ⟨_, rfl, ya0_0, _, rfl, fa0_0, ya0_1, _, rfl, fa0_1, rfl⟩ := fa0
  simp only [fitV_int] at fa0_0
  obtain ⟨na0_0, rfl⟩ := fa0_0
  have ia0_1 := fit_ints fa0_1
  simp only [cells_int, isI_cells ia0_1, cells_agg, List.append_nil, List.cons_append, List.nil_append] at vr0
  have lt1 : ∀ x ∈ p1, x.block < W.heap.size := by obtain ⟨m, hm⟩ := h1; exact DataW.trod_lt m _ _ _ hm
  obtain ⟨a1, fa1, vr1⟩ := open_arg sh1_ok (hval 1 3 v1 rfl rfl) h1
  simp only [fitV_int] at fa1
  obtain ⟨na1, rfl⟩ := fa1
  clear hA0 hval0
  have hC := calls_boolI prog_ok (lawFewestFactors_c ia0_1) (of_laid hL) (vrl_cons vr0 (vrl1 vr1)) (arr := #[v0, v1]) rfl
  refine hC.mono fun e W' ⟨he, bel⟩ => ?_
  subst he
  exact ⟨_, rfl, _, _, _, [], _, [], hW', trodAll_mk1 (shut_bool Tryd.underlying4 _), (trodAll_cons_mk (Below.trod laidOut (by kernel_rfl) (of_decide_eq_true (by kernel_rfl)) h0 bel lt0) (trodAll_cons_mk (Below.trod laidOut (by kernel_rfl) (of_decide_eq_true (by kernel_rfl)) h1 bel lt1) trodAll_mk0)), rfl, bel.frame _, fun h => by cases h⟩
theorem fnExactFewestFactors_over : Rows.fnExactFewestFactorsRow.holds Tryd.pinned (OpenSpec.ofChange Rows.fnExactFewestFactorsSpec) :=
  OpenClaim.holds_of_wide 6 Tryd.f6 rfl rfl rfl rfl rfl rfl rfl ⟨rfl, rfl, rfl, rfl, rfl⟩ rfl rfl rfl rfl rfl (by kernel_rfl) Tryd.func6 fnExactFewestFactors_facts
    (of_decide_eq_true (by kernel_rfl)) (by unfold Func.isWrapper; first | (rw [if_pos (by decide +kernel)]; kernel_rfl) | (rw [if_neg (by decide +kernel)]; exact ⟨rfl, rfl⟩))
    (fun os started H enc _ => fnExactFewestFactors_lifted os started H enc)
theorem fnExactFewestFactors_holds : Rows.FnExactFewestFactorsSaid := fnExactFewestFactors_over
theorem fnExactFewestFactorsCard_holds : Rows.FnExactFewestFactorsCardSaid :=
  Claim7.holds_tied_plain_at .later [] [.data, .data] true (true, "752b27383bf34983def5c7f7991b730669df392f362d400dc36477233162ba2b") false
    fnExactFewestFactors_holds (fun _ h => by cases h) fnExactFewestFactors_wf (fun _ h => by cases h) fnExactFewestFactors_row_tie rfl ⟨rfl, rfl⟩ fnExactFewestFactors_main rfl
    (fun f fn hf hfn => by
      obtain rfl : f = 6 := Option.some.inj (fnExactFewestFactors_named.symm.trans hf) |>.symm
      obtain rfl : fn = Tryd.f6 := (Option.some.inj (Tryd.func6.symm.trans hfn)).symm
      exact ⟨fnExactFewestFactors_looks, fun j t ht => by
        rw [Tryd.params6] at ht
        have hm : t ∈ [24, 3] := by simpa using Array.mem_of_getElem? ht
        exact (show Tryd.prog.wantsStandIn t = false by simpa using List.all_eq_true.1 fnExactFewestFactors_stands t hm)⟩)
    fnExactFewestFactors_goes
#print axioms fnExactFewestFactorsCard_holds
end Go.Proofs.YtkkkgaapkibhkaaDoor
