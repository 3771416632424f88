/- What a called function is handed, and what it hands back. Conditions: none. -/
import Derived.Test.YthdeaenleimbeaaDoorEvOps5
namespace Go.Proofs.YthdeaenleimbeaaDoor.Ev
open Go.RowKit
set_option linter.unusedVariables false
set_option linter.unusedSimpArgs false
set_option linter.unusedSectionVars false

/-- the cells that stay as they are, in the caller's eyes -/
def stableOf (c : Cx) : Nat → Nat → Prop := fun b i => ∃ x, c.s b i x

theorem gr_call_el {B : Nat → Nat → Prop} {n0 : Nat} {w : World} {h : Heap} {M M' : Mp} :
    Gr (cx B n0 w h M).el (cx (stableOf (cx B n0 w h M)) w.heap.size w hnil M').el :=
  ⟨fun b i x hx => ⟨hx.1, fun ⟨_, _, h1, _⟩ => by simp [hnil] at h1, .inr ⟨x, hx⟩⟩, fun b i x hx => ⟨hx.1, fun ⟨_, _, h1, _⟩ => by simp [hnil] at h1, .inr ⟨x, hx⟩⟩,
    fun _ _ hq => by simp [Cx.el] at hq, fun _ _ hx => hx.elim⟩

theorem gr_call_elb {B : Nat → Nat → Prop} {n0 : Nat} {w : World} {h : Heap} {M M' : Mp} (br : Bool) :
    Gr ((cx B n0 w h M).elb br) ((cx (stableOf (cx B n0 w h M)) w.heap.size w hnil M').elb br) := by
  cases br with
  | false => exact gr_call_el
  | true => exact ⟨gr_call_el.s, fun b i x hx => ⟨hx.1, fun ⟨_, _, h1, _⟩ => by simp [hnil] at h1⟩, fun _ _ hq => by simp [Cx.elb_true, Cx.ela] at hq, fun _ _ hx => hx.elim⟩

theorem callee_a {B : Nat → Nat → Prop} {n0 : Nat} {w : World} {M' : Mp} {b i : Nat} {x : Value} (hx : w.cell? ⟨b, i, none⟩ = some x) : (cx B n0 w hnil M').a b i x :=
  ⟨hx, fun ⟨_, _, h1, _⟩ => by simp [hnil] at h1⟩

section
variable {B : Nat → Nat → Prop} {w0 w : World} {h : Heap} {M M' : Mp} (H : HR B w0 w h M)
include H
mutual
theorem VR.low : ∀ (v : AV) {rv : Value}, VR v (cx B w0.heap.size w h M) rv → VR (low h v) (cx (stableOf (cx B w0.heap.size w h M)) w.heap.size w hnil M') rv
  | .un, _, _ => by simp [Ev.low, VR]
  | .int .., _, hv => by simpa only [Ev.low, VR] using hv
  | .bool .., _, hv => by simpa only [Ev.low, VR] using hv
  | .str .., _, hv => by simpa only [Ev.low, VR] using hv
  | .nilf, _, hv => by simpa only [Ev.low, VR] using hv
  | .ud, _, hv => by simpa only [Ev.low, VR] using hv
  | .agg cs, _, hv => by
    simp only [Ev.low, VR] at hv ⊢
    obtain ⟨rc, h1, h2⟩ := hv
    exact ⟨rc, h1, VRl.low cs h2⟩
  | .tup cs, _, hv => by
    simp only [Ev.low, VR] at hv ⊢
    obtain ⟨rc, h1, h2⟩ := hv
    exact ⟨rc, h1, VRl.low cs h2⟩
  | .sl k o es, rv, hv => by
    have el := gr_call_el (B := B) (n0 := w0.heap.size) (w := w) (h := h) (M := M) (M' := M')
    cases o with
    | ex T key => simp only [VR] at hv; exact hv.elim
    | brw =>
      simp only [Ev.low, VR] at hv ⊢
      obtain ⟨a, cap, h1, h2, h3, h4, h5, h6⟩ := hv
      refine ⟨a, cap, h1, h2, h3, h4, fun hne => ?_, trivial⟩
      obtain ⟨b, ofs, e, hm⟩ := h5 hne
      exact ⟨b, ofs, e, VRm.mono el (fun b i x hx => callee_a hx.1) es hm⟩
    | tok key g =>
      simp only [Ev.low, VR] at hv ⊢
      obtain ⟨a, cap, h1, h2, h3, h4, h5, h6⟩ := hv
      refine ⟨a, cap, h1, h2, h3, h4, fun hne => ?_, trivial⟩
      obtain ⟨b, ofs, e, hm⟩ := h5 hne
      exact ⟨b, ofs, e, VRm.mono el (fun b i x hx => el.s _ _ _ hx) es hm⟩
    | no =>
      simp only [Ev.low, VR] at hv ⊢
      obtain ⟨a, cap, h1, h2, h3, h4, h5, h6⟩ := hv
      refine ⟨a, cap, h1, h2, h3, h4, fun hne => ?_, trivial⟩
      obtain ⟨b, ofs, e, hm⟩ := h5 hne
      exact ⟨b, ofs, e, VRm.mono el (fun b i x hx => el.s _ _ _ hx) es hm⟩
    | lit =>
      simp only [Ev.low, VR] at hv ⊢
      obtain ⟨a, cap, h1, h2, h3, h4, h5, h6⟩ := hv
      refine ⟨a, cap, h1, h2, h3, h4, fun hne => ?_, h6⟩
      obtain ⟨b, ofs, e, hm⟩ := h5 hne
      exact ⟨b, ofs, e, VRm.mono el (fun b i x hx => el.s _ _ _ hx) es hm⟩
  | .ms key g off len, rv, hv => by
    have el := gr_call_el (B := B) (n0 := w0.heap.size) (w := w) (h := h) (M := M) (M' := M')
    simp only [Ev.low]
    cases hk : h key with
    | none => simp [VR]
    | some blk =>
      cases blk with
      | row g' T k es =>
        simp only
        split
        · rename_i hc
          simp only [VR] at hv
          obtain ⟨a, cap, rfl, q, hq, h2, h3⟩ := hv
          have hq' := cx_l hk hq
          subst hq'
          obtain ⟨_, hp, h5, h6, h7⟩ := h3 hc.1
          obtain ⟨hk0, hall, rvs, rest, hvl, hh, hlk, hmx⟩ := H.ok _ _ hk
          have hsz := VRl.sizes (cx_x B w0.heap.size w h M) hvl hall
          have hlen : (low0s ((es.drop off).take len)).length = len := by rw [low0s_length, List.length_take, List.length_drop]; omega
          simp only [VR]
          refine ⟨some a, cap, by rw [hlen], by rw [hlen]; exact h5, h6, fun ha => (by cases ha), fun hne => ?_, trivial⟩
          · have hl0 : len ≠ 0 := by intro e0; exact hne (List.eq_nil_of_length_eq_zero (hlen.trans e0))
            refine ⟨_, _, congrArg some (hp hl0), VRm.mk (VRl.mono el _ (VRl.low0 _ ((hvl.drop off).take len) ?_)) (fun r hr => hsz r (List.mem_of_mem_drop (List.mem_of_mem_take hr))) fun j x hj => ?_⟩
            · have := hc.2.2
              rw [stabs_iff] at this ⊢
              exact fun v hv => this v (List.mem_of_mem_drop (List.mem_of_mem_take hv))
            · refine callee_a ?_
              rw [cell_of_row w _ _ _ _ _ hh]
              have hsp : flatC rvs = flatC (rvs.take off) ++ (flatC ((rvs.drop off).take len) ++ flatC ((rvs.drop off).drop len)) := by
                rw [← flatC_append, List.take_append_drop, ← flatC_append, List.take_append_drop]
              have hol : (flatC (rvs.take off)).length = off * k := by
                rw [flatC_length (k := k) fun r hr => hsz r (List.mem_of_mem_take hr), List.length_take, hvl.length, Nat.min_eq_left (by omega)]
              simp only [Blk.k, List.getElem?_toArray]
              rw [hsp, List.append_assoc, List.getElem?_append_right (by omega), hol, Nat.add_sub_cancel_left, List.append_assoc, List.getElem?_append_left (List.getElem?_eq_some_iff.1 hj).1]
              exact hj
        · simp [VR]
      | var => simp [VR]
      | tok => simp [VR]
  | .vp key g off, rv, hv => by
    have el := gr_call_el (B := B) (n0 := w0.heap.size) (w := w) (h := h) (M := M) (M' := M')
    simp only [Ev.low]
    cases hk : h key with
    | none => simp [VR]
    | some blk =>
      cases blk with
      | var g' T x =>
        simp only
        split
        · rename_i hc
          simp only [VR] at hv
          obtain ⟨a, rfl, q, hq, h2, h3⟩ := hv
          have hq' := cx_l hk hq
          subst hq'
          obtain ⟨_, rfl⟩ := h3 hc
          obtain ⟨hone, r0, hr0, hh⟩ := H.ok _ _ hk
          have hcells := VR.cells_one (cx_x B w0.heap.size w h M) hr0 hone
          simp only [VR]
          refine ⟨(M key).1, 0, r0.cells.toList, by rw [Nat.zero_add], VRl.mono (gr_call_elb true) _ (VRl.low1 _ hcells), fun j y hj => ?_⟩
          · simp only [if_true]
            refine callee_a ?_
            rw [cell_of_row w _ _ _ _ _ hh, Nat.zero_add]
            simpa using hj
        · simp [VR]
      | row => simp [VR]
      | tok => simp [VR]
  | .rp .., _, _ => by simp [Ev.low, VR]
  | .xp .., _, _ => by simp [Ev.low, VR]
  | .cp br cs off, rv, hv => by
    have el := gr_call_el (B := B) (n0 := w0.heap.size) (w := w) (h := h) (M := M) (M' := M')
    simp only [Ev.low, VR] at hv ⊢
    obtain ⟨b, o, rc, h1, h2, h3⟩ := hv
    refine ⟨b, o, rc, h1, VRl.mono (gr_call_elb br) _ h2, fun j x hj => ?_⟩
    have := h3 j x hj
    cases br with
    | true => simp only [if_true] at this ⊢; exact callee_a this.1
    | false => simp only [Bool.false_eq_true, if_false] at this ⊢; exact el.s _ _ _ this
  | .fn f caps, _, hv => by
    simp only [Ev.low, VR] at hv ⊢
    obtain ⟨rc, h1, h2⟩ := hv
    exact ⟨rc, h1, VRl.low caps h2⟩
theorem VRl.low : ∀ (vs : List AV) {rs : List Value}, VRl vs (cx B w0.heap.size w h M) rs → VRl (lows h vs) (cx (stableOf (cx B w0.heap.size w h M)) w.heap.size w hnil M') rs
  | [], _, hv => by simpa only [Ev.lows, VRl] using hv
  | x :: xs, _, hv => by
    simp only [Ev.lows, VRl] at hv ⊢
    obtain ⟨v, ws, h1, h2, h3⟩ := hv
    exact ⟨v, ws, h1, VR.low x h2, VRl.low xs h3⟩
end
end

end Go.Proofs.YthdeaenleimbeaaDoor.Ev
