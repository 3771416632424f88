/- From the data of a row to the evaluator's values. Conditions: none. -/
import Derived.Test.YtahbieegkgnbkaaLaw
import Derived.ProofKit
import Derived.WalkKit
import Derived.Below
import Derived.ChangeSlices
import Derived.ChangeArms
import Derived.Carry
import Derived.OpenShut
import Derived.SizedLaws
namespace Go.Proofs.Ytahbieegkgnbkaa
open Ev Go.RowKit Go.ChangeShapes Go.WideShapes Go.ChangeAt
set_option linter.unusedVariables false
set_option linter.unusedSimpArgs false

/-- What a row's argument is read by: no memory of the caller is written. -/
def cx0 (w : World) : Cx := cx (fun _ _ => True) w.heap.size w hnil (fun _ => (0, 0))
theorem cx0_s {w : World} {b i : Nat} {x : Value} (h : w.cell? ⟨b, i, none⟩ = some x) : (cx0 w).s b i x :=
  ⟨h, fun ⟨_, _, hk, _⟩ => (by cases hk), .inr trivial⟩

theorem vrm_ints {w : World} {c : Cx} {C : CellP} {b : Nat} : ∀ {xs : List Int} {o : Nat}, (∀ i, i < xs.length → C b (o + i) (.int .i64 (nth xs i))) → VRm (ints xs) c C b o 1
  | [], _, _ => by simp [VRm]
  | x :: xs, o, h => by
    simp only [ints_cons, VRm]
    refine ⟨⟨.int .i64 x, by simp only [VR], rfl, fun j y hj => ?_⟩, vrm_ints (w := w) fun i hi => ?_⟩
    · have h0 := h 0 (by simp)
      simp only [Value.cells, List.getElem?_toArray] at hj
      cases j with
      | zero => simp at hj; subst hj; simpa [nth] using h0
      | succ j => simp at hj
    · have := h (i + 1) (by simpa using hi)
      have e : o + (i + 1) = o + 1 + i := by omega
      rw [e] at this
      simpa [nth] using this

/-- A slice of numbers. -/
theorem open_vr_ints {H : Type} {enc : TypeId × Value → H} {P : Program} {w : World} {held : Bool} {t e : TypeId} {fuel : Nat} {cs : List Value} {x : DataW H × List MemPlace} (ht : P.underlying t = some (.slice e)) (he : P.underlying e = some (.int .i64)) (hc : P.cellsOf e = 1)
    (h : DataW.trod enc P w 0 (fun _ => true) held fuel t cs = some x) : ∃ v rv, cs = [rv] ∧ IsI v ∧ VR v (cx0 w) rv := by
  rcases open_ints ht he hc h with ⟨hcs, _⟩ | ⟨a, len, cap, zs, hcs, _, hl, hm, hz, _, hcell, hwz⟩
  · exact ⟨.sl 0 .lit [], _, hcs, isI_lit, by simp only [VR]; exact ⟨none, 0, rfl, Nat.le_refl _, Nat.zero_le _, fun _ => rfl, fun h => (h rfl).elim, rfl⟩⟩
  · simp only [if_true] at hz
    refine ⟨.sl 1 .no (ints (zs.take len)), _, hcs, isI_no ?_, ?_⟩
    · simp only [List.length_take]; unfold top63; simp only [maxLen] at hm; omega
    · simp only [VR]
      refine ⟨some a, cap, by simp [List.length_take]; omega, by simp [List.length_take]; omega, hm, fun h => (by cases h), fun hne => ?_, trivial⟩
      have hlen : 0 < zs.length := by
        rcases Nat.eq_zero_or_pos zs.length with h0 | h0
        · exact (hne (by simp [List.length_eq_zero_iff.mp h0])).elim
        · exact h0
      have hsp : a.spot = none := by
        have := hcell 0 hlen
        simp only [Addr.add, if_true] at this
        unfold World.cell? at this
        split at this
        · split at this
          · cases this
          · rename_i hs; simpa using hs
        · cases this
      obtain ⟨ab, ao, asp⟩ := a
      simp only at hsp
      subst hsp
      refine ⟨ab, ao, rfl, vrm_ints (w := w) fun i hi => cx0_s ?_⟩
      have hi2 : i < zs.length := by simp only [List.length_take] at hi; omega
      have := hcell i hi2
      have e1 : nth (zs.take len) i = zs.getD i 0 := by
        simp only [List.length_take] at hi
        simp [nth, List.getD, List.getElem?_take, show i < len by omega]
      rw [e1]
      rw [← this]
      congr 1
      unfold Addr.add
      split
      · rename_i h0; subst h0; simp
      · rfl

/-- A struct of one field of one cell, opened. -/
theorem open_agg1 {H : Type} {enc : TypeId × Value → H} {P : Program} {w : World} {base b0 : Nat} {spare : Nat → Bool} {held : Bool} {r : Reach} {t : TypeId} {f0 : Field} {v : Value} {d : DataW H} {p : List MemPlace} (hs : P.underlying t = some (.struct #[f0]))
    (ho : f0.offset = 0) (h1 : P.cellsOf f0.type = 1) (hC : P.cellsOf t = 1) (hv : Value.okWide P w r b0 t v) (h : DataW.Trod enc P w base spare held t v d p) :
    ∃ (v0 : Value) (y0 : DataW H × List MemPlace) (n : Nat), v = .agg #[v0] ∧ DataW.trod enc P w base spare held n f0.type [v0] = some y0 := by
  obtain ⟨cs, rfl, hsz⟩ := okWide_struct hs hv
  obtain ⟨fuel, hf⟩ := h
  obtain ⟨xs, n, _, _, hl, hlen, hfd⟩ := DataW.trod_struct hs hf
  have hf0 := hfd 0 f0 rfl
  rw [ho, h1] at hf0
  obtain ⟨l⟩ := cs
  rw [hC] at hsz
  simp only [List.size_toArray] at hsz
  obtain ⟨y, rfl⟩ := List.length_eq_one_iff.mp hsz
  have hx : xs.length = 1 := by rw [hlen]; rfl
  obtain ⟨x, rfl⟩ := List.length_eq_one_iff.mp hx
  exact ⟨y, x, n, rfl, by simpa [Value.cells] using hf0⟩

/-- A struct whose one field is a slice of numbers. -/
theorem open_vr_order {H : Type} {enc : TypeId × Value → H} {P : Program} {W : World} {base : Nat} {held : Bool} {v0 : Value} {d0 : DataW H} {p0 : List MemPlace} {f0 : Field} {t e : TypeId} (hs : P.underlying t = some (.struct #[f0]))
    (ho : f0.offset = 0) (h1 : P.cellsOf f0.type = 1) (hC : P.cellsOf t = 1) (hf : P.underlying f0.type = some (.slice e)) (he : P.underlying e = some (.int .i64)) (hc : P.cellsOf e = 1)
    (hval : Value.okWide P W .any base t v0) (h0 : DataW.Trod enc P W 0 (fun _ => true) held t v0 d0 p0) : ∃ v, IsI v ∧ VR (.agg [v]) (cx0 W) v0 := by
  obtain ⟨y, x, n, rfl, h2⟩ := open_agg1 hs ho h1 hC hval h0
  obtain ⟨u, rv, hc, hu, hvr⟩ := open_vr_ints hf he hc h2
  obtain rfl : y = rv := by simpa using hc
  exact ⟨u, hu, by simp only [VR, VRl]; exact ⟨[y], rfl, y, [], rfl, hvr, rfl⟩⟩

end Go.Proofs.Ytahbieegkgnbkaa
