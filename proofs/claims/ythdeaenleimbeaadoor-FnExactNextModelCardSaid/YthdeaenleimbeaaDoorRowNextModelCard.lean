/- The tied card of FnExactNextModel. Conditions: none. -/
import Derived.Test.YthdeaenleimbeaaDoorLawNextModel
import Derived.Test.YthdeaenleimbeaaDoorDoor
import Derived.Test.YthdeaenleimbeaaDoorCards
import Derived.Test.YthdeaenleimbeaaDoorRowNextModelFacts
import Derived.Test.YthdeaenleimbeaaDoorRowNextModelFacts2
import Derived.Test.YthdeaenleimbeaaDoorTie
import Derived.SevenTiedAt
import Derived.ShutString
import Derived.ChangeOld
namespace Go.Proofs.YthdeaenleimbeaaDoor
open Ev Go.RowKit Go.ChangeShapes Go.WideShapes Go.ChangeAt
set_option linter.unusedVariables false
set_option linter.unusedSimpArgs false

theorem laidOut : laidOutB Tryd.prog = true := by kernel_rfl
theorem sh0_ok : shB Tryd.prog (.int 3 .i64) = true := by kernel_rfl
theorem sh1_ok : shB Tryd.prog (.sl 52 (.st 90 [(.int 3 .i64), (.int 3 .i64)])) = true := by kernel_rfl
theorem sh2_ok : shB Tryd.prog (.int 3 .i64) = true := by kernel_rfl
set_option maxRecDepth 100000 in
theorem fnExactNextModel_lifted (os : Os) (started : os.Started) (H : Type) (enc : TypeId × Value → H) :
    ReturnsInHanded {} Tryd.checked os 13 .any (fun w args => (Rows.fnExactNextModelSpec.pre enc Tryd.prog Tryd.f13 [] false w args ∧ laidMetH Tryd.prog laidL w) ∧ sizedMet enc Tryd.prog Tryd.f13 (OpenSpec.ofChange Rows.fnExactNextModelSpec) false w args)
      (Rows.fnExactNextModelSpec.post enc Tryd.prog Tryd.f13 false true false false) := by
  refine returnsInHanded_of_change_and (C := Tryd.checked) (X := fun w _ => laidMetH Tryd.prog laidL w) (fun _ _ _ hh h => h.of_heap hh) own started (by kernel_rfl) Tryd.func13
    (ChangeSpec.witness_shaped (enc := enc) (C := Tryd.checked) (os := os) (X := fun w _ => laidMetH Tryd.prog laidL w) false (World.doorLaid Tryd.prog doorN os) #[.int .i64 0, .slice none 0 0, .int .i64 0] 8 rfl (World.shaped_of_RefB (by kernel_rfl) (by kernel_rfl)) (by kernel_rfl) (by kernel_rfl) (by kernel_rfl) (door_met os _)) ?_
  intro W base args ds gs before hval0 hW _ _ hL _
  have hval : ∀ (j : Nat) t v, Tryd.f13.params[j]? = some t → args[j]? = some v → Value.okWide Tryd.prog W .any base t v := hval0
  have hW' := hW
  obtain ⟨p, q, hA0, hV, rfl, hfz, hnd⟩ := hW
  have hA : DataW.TrodAll enc Tryd.prog W 0 (fun _ => true) true Tryd.f13.params.toList args.toList ds p := hA0
  rw [Tryd.params13] at hA hval
  obtain ⟨v0, vs0, d0, ds0, p0, q0, hargs, rfl, rfl, h0, r0⟩ := trodAll_cons hA
  obtain ⟨v1, vs1, d1, ds1, p1, q1, rfl, rfl, rfl, h1, r1⟩ := trodAll_cons r0
  obtain ⟨v2, vs2, d2, ds2, p2, q2, rfl, rfl, rfl, h2, r2⟩ := trodAll_cons r1
  obtain ⟨rfl, rfl, rfl⟩ := trodAll_nil r2
  obtain rfl : args = #[v0, v1, v2] := by cases args; simp_all
  obtain ⟨rfl, rfl⟩ := trodVars_none hV
  have lt0 : ∀ x ∈ p0, x.block < W.heap.size := by obtain ⟨m, hm⟩ := h0; exact DataW.trod_lt m _ _ _ hm
  obtain ⟨a0, fa0, vr0⟩ := open_arg sh0_ok (hval 0 3 v0 rfl rfl) h0
  simp only [fitV_int] at fa0
  obtain ⟨na0, rfl⟩ := fa0
  have lt1 : ∀ x ∈ p1, x.block < W.heap.size := by obtain ⟨m, hm⟩ := h1; exact DataW.trod_lt m _ _ _ hm
  obtain ⟨a1, fa1, vr1⟩ := open_arg sh1_ok (hval 1 52 v1 rfl rfl) h1
  have ia1 := fit_recs fa1
  have lt2 : ∀ x ∈ p2, x.block < W.heap.size := by obtain ⟨m, hm⟩ := h2; exact DataW.trod_lt m _ _ _ hm
  obtain ⟨a2, fa2, vr2⟩ := open_arg sh2_ok (hval 2 3 v2 rfl rfl) h2
  simp only [fitV_int] at fa2
  obtain ⟨na2, rfl⟩ := fa2
  clear hA0 hval0
  have hC := calls_boolI prog_ok (lawNextModel_c ia1) (of_laid hL) (vrl_cons vr0 (vrl_cons vr1 (vrl1 vr2))) (arr := #[v0, v1, v2]) rfl
  refine hC.mono fun e W' ⟨he, bel⟩ => ?_
  subst he
  exact ⟨_, rfl, _, _, _, [], _, [], hW', trodAll_mk1 (shut_bool Tryd.underlying4 _), (trodAll_cons_mk (Below.trod laidOut (by kernel_rfl) (of_decide_eq_true (by kernel_rfl)) h0 bel lt0) (trodAll_cons_mk (Below.trod laidOut (by kernel_rfl) (of_decide_eq_true (by kernel_rfl)) h1 bel lt1) (trodAll_cons_mk (Below.trod laidOut (by kernel_rfl) (of_decide_eq_true (by kernel_rfl)) h2 bel lt2) trodAll_mk0))), rfl, bel.frame _, fun h => by cases h⟩
theorem fnExactNextModel_over : Rows.fnExactNextModelRow.holds Tryd.pinned (OpenSpec.ofChange Rows.fnExactNextModelSpec) :=
  OpenClaim.holds_of_wide 13 Tryd.f13 rfl rfl rfl rfl rfl rfl rfl ⟨rfl, rfl, rfl, rfl, rfl⟩ rfl rfl rfl rfl rfl (by kernel_rfl) Tryd.func13 fnExactNextModel_facts
    (of_decide_eq_true (by kernel_rfl)) (by unfold Func.isWrapper; first | (rw [if_pos (by decide +kernel)]; kernel_rfl) | (rw [if_neg (by decide +kernel)]; exact ⟨rfl, rfl⟩))
    (fun os started H enc _ => fnExactNextModel_lifted os started H enc)
theorem fnExactNextModel_holds : Rows.FnExactNextModelSaid := fnExactNextModel_over
theorem fnExactNextModelCard_holds : Rows.FnExactNextModelCardSaid :=
  Claim7.holds_tied_plain_at .later [] [.data, .data] true (true, "a60f607ac9c9e1515cf47570067a1de2d27f00fa85ca7c308c544318b928c77f") false
    fnExactNextModel_holds (fun _ h => by cases h) fnExactNextModel_wf (fun _ h => by cases h) fnExactNextModel_row_tie rfl ⟨rfl, rfl⟩ fnExactNextModel_main rfl
    (fun f fn hf hfn => by
      obtain rfl : f = 13 := Option.some.inj (fnExactNextModel_named.symm.trans hf) |>.symm
      obtain rfl : fn = Tryd.f13 := (Option.some.inj (Tryd.func13.symm.trans hfn)).symm
      exact ⟨fnExactNextModel_looks, fun j t ht => by
        rw [Tryd.params13] at ht
        have hm : t ∈ [3, 52, 3] := by simpa using Array.mem_of_getElem? ht
        exact (show Tryd.prog.wantsStandIn t = false by simpa using List.all_eq_true.1 fnExactNextModel_stands t hm)⟩)
    fnExactNextModel_goes
#print axioms fnExactNextModelCard_holds
end Go.Proofs.YthdeaenleimbeaaDoor
