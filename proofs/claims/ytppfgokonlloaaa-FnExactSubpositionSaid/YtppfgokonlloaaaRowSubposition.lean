/- The row of FnExactSubposition. Conditions: none. -/
import Derived.Test.YtppfgokonlloaaaLawSubposition
import Derived.Test.YtppfgokonlloaaaEvOpen
import Derived.Test.YtppfgokonlloaaaRows
import Derived.ShutString
import Derived.ChangeOld
namespace Go.Proofs.Ytppfgokonlloaaa
open Ev Go.RowKit Go.ChangeShapes Go.WideShapes Go.ChangeAt
set_option linter.unusedVariables false
set_option linter.unusedSimpArgs false

theorem own : ownKnob Try.prog.godebug = none := by kernel_rfl
theorem laidOut : laidOutB Try.prog = true := by kernel_rfl
theorem sh0_ok : shB Try.prog (.st 24 [(.int 3 .i64), (.sl 22 (.int 3 .i64))]) = true := by kernel_rfl
theorem sh1_ok : shB Try.prog (.st 24 [(.int 3 .i64), (.sl 22 (.int 3 .i64))]) = true := by kernel_rfl
set_option maxRecDepth 100000 in
theorem fnExactSubposition_lifted (os : Os) (started : os.Started) (H : Type) (enc : TypeId × Value → H) :
    ReturnsInHanded {} Try.checked os 3 .any (Rows.fnExactSubpositionSpec.pre6 enc Try.prog Try.f3 Rows.fnExactSubpositionRow.domain false) (Rows.fnExactSubpositionSpec.post enc Try.prog Try.f3 false true false false) := by
  refine returnsInHanded_of_change_sized (C := Try.checked) own started (by kernel_rfl) Try.func3
    (ChangeSpec.witness6 (enc := enc) (C := Try.checked) false ⟨#[], #[.agg #[.int .i64 0, .slice none 0 0], .agg #[.int .i64 0, .slice none 0 0]], []⟩ 8 (by kernel_rfl) (by kernel_rfl) (by kernel_rfl) (by kernel_rfl)) ?_
  intro W base args ds gs before hval0 hW hcnd hsz0 _
  have hval : ∀ (j : Nat) t v, Try.f3.params[j]? = some t → args[j]? = some v → Value.okWide Try.prog W .any base t v := hval0
  have hW' := hW
  obtain ⟨p, q, hA0, hV, rfl, hfz, hnd⟩ := hW
  have hA : DataW.TrodAll enc Try.prog W 0 (fun _ => true) true Try.f3.params.toList args.toList ds p := hA0
  rw [Try.params3] at hA hval
  obtain ⟨v0, vs0, d0, ds0, p0, q0, hargs, rfl, rfl, h0, r0⟩ := trodAll_cons hA
  obtain ⟨v1, vs1, d1, ds1, p1, q1, rfl, rfl, rfl, h1, r1⟩ := trodAll_cons r0
  obtain ⟨rfl, rfl, rfl⟩ := trodAll_nil r1
  obtain rfl : args = #[v0, v1] := by cases args; simp_all
  obtain ⟨rfl, rfl⟩ := trodVars_none hV
  have lt0 : ∀ x ∈ p0, x.block < W.heap.size := by obtain ⟨m, hm⟩ := h0; exact DataW.trod_lt m _ _ _ hm
  obtain ⟨a0, fa0, vr0⟩ := open_arg sh0_ok (hval 0 24 v0 rfl rfl) h0
  simp only [fitV_st, fits_cons, fits_nil] at fa0
  obtain ⟨_, rfl, ya0_0, _, rfl, fa0_0, ya0_1, _, rfl, fa0_1, rfl⟩ := fa0
  simp only [fitV_int] at fa0_0
  obtain ⟨na0_0, rfl⟩ := fa0_0
  have ia0_1 := fit_ints fa0_1
  simp only [cells_int, isI_cells ia0_1, cells_agg, List.append_nil, List.cons_append, List.nil_append] at vr0
  have lt1 : ∀ x ∈ p1, x.block < W.heap.size := by obtain ⟨m, hm⟩ := h1; exact DataW.trod_lt m _ _ _ hm
  obtain ⟨a1, fa1, vr1⟩ := open_arg sh1_ok (hval 1 24 v1 rfl rfl) h1
  simp only [fitV_st, fits_cons, fits_nil] at fa1
  obtain ⟨_, rfl, ya1_0, _, rfl, fa1_0, ya1_1, _, rfl, fa1_1, rfl⟩ := fa1
  simp only [fitV_int] at fa1_0
  obtain ⟨na1_0, rfl⟩ := fa1_0
  have ia1_1 := fit_ints fa1_1
  simp only [cells_int, isI_cells ia1_1, cells_agg, List.append_nil, List.cons_append, List.nil_append] at vr1
  clear hA0 hval0 hsz0
  have hC := calls_bool prog_ok (lawSubposition_c ia0_1 ia1_1) (vrl_cons vr0 (vrl1 vr1)) (arr := #[v0, v1]) rfl
  refine hC.mono fun e W' ⟨he, bel⟩ => ?_
  subst he
  exact ⟨_, rfl, _, _, _, [], _, [], hW', trodAll_mk1 (shut_bool Try.underlying4 _), (trodAll_cons_mk (Below.trod laidOut (by kernel_rfl) (of_decide_eq_true (by kernel_rfl)) h0 bel lt0) (trodAll_cons_mk (Below.trod laidOut (by kernel_rfl) (of_decide_eq_true (by kernel_rfl)) h1 bel lt1) trodAll_mk0)), rfl, bel.frame _, fun h => by cases h⟩
theorem fnExactSubposition_over : Rows.fnExactSubpositionRow.holds Try.pinned (OpenSpec.ofChange Rows.fnExactSubpositionSpec) :=
  OpenClaim.holds_of_wide 3 Try.f3 rfl rfl rfl rfl rfl rfl rfl ⟨rfl, rfl, rfl, rfl, rfl⟩ rfl rfl rfl rfl rfl (by kernel_rfl) Try.func3 (by kernel_rfl)
    (of_decide_eq_true (by kernel_rfl)) (by unfold Func.isWrapper; first | (rw [if_pos (by decide +kernel)]; kernel_rfl) | (rw [if_neg (by decide +kernel)]; exact ⟨rfl, rfl⟩))
    (fun os started H enc _ => fnExactSubposition_lifted os started H enc)
theorem fnExactSubposition_holds : Rows.FnExactSubpositionSaid := fnExactSubposition_over
#print axioms fnExactSubposition_holds
end Go.Proofs.Ytppfgokonlloaaa
