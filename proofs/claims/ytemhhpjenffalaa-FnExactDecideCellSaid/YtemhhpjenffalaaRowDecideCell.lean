/- The row of FnExactDecideCell. Conditions: none. -/
import Derived.Test.YtemhhpjenffalaaLawDecide
import Derived.Test.YtemhhpjenffalaaEvOpen
import Derived.Test.YtemhhpjenffalaaRows
import Derived.ShutString
import Derived.ChangeOld
namespace Go.Proofs.Ytemhhpjenffalaa
open Ev Go.RowKit Go.ChangeShapes Go.WideShapes Go.ChangeAt
set_option linter.unusedVariables false
set_option linter.unusedSimpArgs false

theorem own : ownKnob Try.prog.godebug = none := by kernel_rfl
theorem laidOut : laidOutB Try.prog = true := by kernel_rfl
theorem sh0_ok : shB Try.prog (.st 34 [(.int 3 .i64), (.sl 22 (.int 3 .i64)), (.sl 22 (.int 3 .i64))]) = true := by kernel_rfl
theorem sh1_ok : shB Try.prog (.int 3 .i64) = true := by kernel_rfl
theorem sh2_ok : shB Try.prog (.int 3 .i64) = true := by kernel_rfl
theorem sh3_ok : shB Try.prog (.bool 4) = true := by kernel_rfl
set_option maxRecDepth 100000 in
theorem fnExactDecideCell_lifted (os : Os) (started : os.Started) (H : Type) (enc : TypeId × Value → H) :
    ReturnsInHanded {} Try.checked os 5 .any (Rows.fnExactDecideCellSpec.pre6 enc Try.prog Try.f5 Rows.fnExactDecideCellRow.domain false) (Rows.fnExactDecideCellSpec.post enc Try.prog Try.f5 false true false false) := by
  refine returnsInHanded_of_change_sized (C := Try.checked) own started (by kernel_rfl) Try.func5
    (ChangeSpec.witness6 (enc := enc) (C := Try.checked) false ⟨#[], #[.agg #[.int .i64 0, .slice none 0 0, .slice none 0 0], .int .i64 0, .int .i64 0, .bool false], []⟩ 8 (by kernel_rfl) (by kernel_rfl) (by kernel_rfl) (by kernel_rfl)) ?_
  intro W base args ds gs before hval0 hW hcnd hsz0 _
  have hval : ∀ (j : Nat) t v, Try.f5.params[j]? = some t → args[j]? = some v → Value.okWide Try.prog W .any base t v := hval0
  have hW' := hW
  obtain ⟨p, q, hA0, hV, rfl, hfz, hnd⟩ := hW
  have hA : DataW.TrodAll enc Try.prog W 0 (fun _ => true) true Try.f5.params.toList args.toList ds p := hA0
  rw [Try.params5] at hA hval
  obtain ⟨v0, vs0, d0, ds0, p0, q0, hargs, rfl, rfl, h0, r0⟩ := trodAll_cons hA
  obtain ⟨v1, vs1, d1, ds1, p1, q1, rfl, rfl, rfl, h1, r1⟩ := trodAll_cons r0
  obtain ⟨v2, vs2, d2, ds2, p2, q2, rfl, rfl, rfl, h2, r2⟩ := trodAll_cons r1
  obtain ⟨v3, vs3, d3, ds3, p3, q3, rfl, rfl, rfl, h3, r3⟩ := trodAll_cons r2
  obtain ⟨rfl, rfl, rfl⟩ := trodAll_nil r3
  obtain rfl : args = #[v0, v1, v2, v3] := by cases args; simp_all
  obtain ⟨rfl, rfl⟩ := trodVars_none hV
  have lt0 : ∀ x ∈ p0, x.block < W.heap.size := by obtain ⟨m, hm⟩ := h0; exact DataW.trod_lt m _ _ _ hm
  obtain ⟨a0, fa0, vr0⟩ := open_arg sh0_ok (hval 0 34 v0 rfl rfl) h0
  simp only [fitV_st, fits_cons, fits_nil] at fa0
  obtain ⟨_, rfl, ya0_0, _, rfl, fa0_0, ya0_1, _, rfl, fa0_1, ya0_2, _, rfl, fa0_2, rfl⟩ := fa0
  simp only [fitV_int] at fa0_0
  obtain ⟨na0_0, rfl⟩ := fa0_0
  have ia0_1 := fit_ints fa0_1
  have ia0_2 := fit_ints fa0_2
  simp only [cells_int, isI_cells ia0_1, isI_cells ia0_2, cells_agg, List.append_nil, List.cons_append, List.nil_append] at vr0
  have lt1 : ∀ x ∈ p1, x.block < W.heap.size := by obtain ⟨m, hm⟩ := h1; exact DataW.trod_lt m _ _ _ hm
  obtain ⟨a1, fa1, vr1⟩ := open_arg sh1_ok (hval 1 3 v1 rfl rfl) h1
  simp only [fitV_int] at fa1
  obtain ⟨na1, rfl⟩ := fa1
  have lt2 : ∀ x ∈ p2, x.block < W.heap.size := by obtain ⟨m, hm⟩ := h2; exact DataW.trod_lt m _ _ _ hm
  obtain ⟨a2, fa2, vr2⟩ := open_arg sh2_ok (hval 2 3 v2 rfl rfl) h2
  simp only [fitV_int] at fa2
  obtain ⟨na2, rfl⟩ := fa2
  have lt3 : ∀ x ∈ p3, x.block < W.heap.size := by obtain ⟨m, hm⟩ := h3; exact DataW.trod_lt m _ _ _ hm
  obtain ⟨a3, fa3, vr3⟩ := open_arg sh3_ok (hval 3 4 v3 rfl rfl) h3
  simp only [fitV_bool] at fa3
  obtain ⟨ba3, rfl⟩ := fa3
  clear hA0 hval0 hsz0
  have hC := calls_bool prog_ok (lawDecideCell_c ia0_1 ia0_2) (vrl_cons vr0 (vrl_cons vr1 (vrl_cons vr2 (vrl1 vr3)))) (arr := #[v0, v1, v2, v3]) rfl
  refine hC.mono fun e W' ⟨he, bel⟩ => ?_
  subst he
  exact ⟨_, rfl, _, _, _, [], _, [], hW', trodAll_mk1 (shut_bool Try.underlying4 _), (trodAll_cons_mk (Below.trod laidOut (by kernel_rfl) (of_decide_eq_true (by kernel_rfl)) h0 bel lt0) (trodAll_cons_mk (Below.trod laidOut (by kernel_rfl) (of_decide_eq_true (by kernel_rfl)) h1 bel lt1) (trodAll_cons_mk (Below.trod laidOut (by kernel_rfl) (of_decide_eq_true (by kernel_rfl)) h2 bel lt2) (trodAll_cons_mk (Below.trod laidOut (by kernel_rfl) (of_decide_eq_true (by kernel_rfl)) h3 bel lt3) trodAll_mk0)))), rfl, bel.frame _, fun h => by cases h⟩
theorem fnExactDecideCell_over : Rows.fnExactDecideCellRow.holds Try.pinned (OpenSpec.ofChange Rows.fnExactDecideCellSpec) :=
  OpenClaim.holds_of_wide 5 Try.f5 rfl rfl rfl rfl rfl rfl rfl ⟨rfl, rfl, rfl, rfl, rfl⟩ rfl rfl rfl rfl rfl (by kernel_rfl) Try.func5 (by kernel_rfl)
    (of_decide_eq_true (by kernel_rfl)) (by unfold Func.isWrapper; first | (rw [if_pos (by decide +kernel)]; kernel_rfl) | (rw [if_neg (by decide +kernel)]; exact ⟨rfl, rfl⟩))
    (fun os started H enc _ => fnExactDecideCell_lifted os started H enc)
theorem fnExactDecideCell_holds : Rows.FnExactDecideCellSaid := fnExactDecideCell_over
#print axioms fnExactDecideCell_holds
end Go.Proofs.Ytemhhpjenffalaa
