/- The row of FnExactIsOrder. Conditions: none. -/
import Derived.Test.YtahbieegkgnbkaaOrder
import Derived.Test.YtahbieegkgnbkaaRowA
import Derived.Test.YtahbieegkgnbkaaRows
import Derived.ShutString
import Derived.ChangeOld
namespace Go.Proofs.Ytahbieegkgnbkaa
open Ev Go.RowKit Go.ChangeShapes Go.WideShapes Go.ChangeAt
set_option linter.unusedVariables false
set_option linter.unusedSimpArgs false

theorem expo_bool_inv {h : Heap} {v : AV} {b : Bool} (e : Ev.expo h v = .bool b) : v = .bool b := by
  cases v with
  | bool c => simpa [Ev.expo] using e
  | sl k o es =>
    cases o <;> simp only [Ev.expo] at e
    all_goals (repeat' split at e) <;> cases e
  | _ =>
    simp only [Ev.expo] at e
    all_goals (repeat' split at e) <;> cases e

theorem calls_order {W : World} {v : AV} {v0 : Value} (hv : IsI v) (hvr : VR (.agg [v]) (cx0 W) v0) : Calls Try.prog 3 #[v0] W fun e W' => e = .returned (.bool true) ∧ Below W.heap.size W W' := by
  obtain ⟨k, r1, h', hk, hr⟩ := lawIsOrder_c hv
  have hC := ((sound prog_ok k).2 _ _ _ _ _ _ hk).2 (fun _ _ => True) W W (fun _ => (0, 0)) [v0] trivial (HR.start _ _ _) (by simp only [VRl]; exact ⟨v0, [], rfl, hvr, rfl⟩)
  refine hC.mono fun e W' ⟨rv, M', he, hHR, _, hres⟩ => ?_
  rw [expo_bool_inv hr] at hres
  simp only [VR] at hres
  subst hres
  exact ⟨he, hHR.below⟩
theorem own : ownKnob Try.prog.godebug = none := by kernel_rfl
theorem laidOut : laidOutB Try.prog = true := by kernel_rfl
set_option maxRecDepth 100000 in
theorem fnExactIsOrder_lifted (os : Os) (started : os.Started) (H : Type) (enc : TypeId × Value → H) :
    ReturnsInHanded {} Try.checked os 3 .any (Rows.fnExactIsOrderSpec.pre6 enc Try.prog Try.f3 Rows.fnExactIsOrderRow.domain false) (Rows.fnExactIsOrderSpec.post enc Try.prog Try.f3 false true false false) := by
  refine returnsInHanded_of_change_sized (C := Try.checked) own started (by kernel_rfl) Try.func3
    (ChangeSpec.witness6 (enc := enc) (C := Try.checked) false ⟨#[], #[.agg #[.slice none 0 0]], []⟩ 8 (by kernel_rfl) (by kernel_rfl) (by kernel_rfl) (by kernel_rfl)) ?_
  intro W base args ds gs before hval0 hW hcnd hsz0 _
  have hval : ∀ (j : Nat) t v, Try.f3.params[j]? = some t → args[j]? = some v → Value.okWide Try.prog W .any base t v := hval0
  have hW' := hW
  obtain ⟨p, q, hA0, hV, rfl, hfz, hnd⟩ := hW
  have hA : DataW.TrodAll enc Try.prog W 0 (fun _ => true) true Try.f3.params.toList args.toList ds p := hA0
  rw [Try.params3] at hA hval
  obtain ⟨v0, vs0, d0, ds0, p0, q0, hargs, rfl, rfl, h0, r0⟩ := trodAll_cons hA
  obtain ⟨rfl, rfl, rfl⟩ := trodAll_nil r0
  obtain rfl : args = #[v0] := by cases args; simp_all
  obtain ⟨rfl, rfl⟩ := trodVars_none hV
  have lt0 : ∀ x ∈ p0, x.block < W.heap.size := by obtain ⟨m, hm⟩ := h0; exact DataW.trod_lt m _ _ _ hm
  obtain ⟨v, hv, hvr⟩ := open_vr_order Try.underlying24 rfl (by kernel_rfl) (by kernel_rfl) Try.underlying22 Try.underlying3 (by kernel_rfl) (hval 0 24 v0 rfl rfl) h0
  clear hA0 hval0 hsz0
  have hC := calls_order hv hvr
  refine hC.mono fun e W' ⟨he, bel⟩ => ?_
  subst he
  exact ⟨_, rfl, _, _, _, [], _, [], hW', trodAll_mk1 (shut_bool Try.underlying4 _), (trodAll_cons_mk (Below.trod laidOut (by kernel_rfl) (of_decide_eq_true (by kernel_rfl)) h0 bel lt0) trodAll_mk0), rfl, bel.frame _, fun h => by cases h⟩
theorem fnExactIsOrder_over : Rows.fnExactIsOrderRow.holds Try.pinned (OpenSpec.ofChange Rows.fnExactIsOrderSpec) :=
  OpenClaim.holds_of_wide 3 Try.f3 rfl rfl rfl rfl rfl rfl rfl ⟨rfl, rfl, rfl, rfl, rfl⟩ rfl rfl rfl rfl rfl (by kernel_rfl) Try.func3 (by kernel_rfl)
    (of_decide_eq_true (by kernel_rfl)) (by unfold Func.isWrapper; first | (rw [if_pos (by decide +kernel)]; kernel_rfl) | (rw [if_neg (by decide +kernel)]; exact ⟨rfl, rfl⟩))
    (fun os started H enc _ => fnExactIsOrder_lifted os started H enc)
theorem fnExactIsOrder_holds : Rows.FnExactIsOrderSaid := fnExactIsOrder_over
#print axioms fnExactIsOrder_holds
end Go.Proofs.Ytahbieegkgnbkaa
