/- XEvCall XEvCall2, joined. Conditions: none. -/
import Derived.Test.YtlglhokpaplifaaGreatDoorEvOps5
/- What a called function is handed, and what it hands back. Conditions: none. -/
namespace Go.Proofs.YtlglhokpaplifaaGreatDoor.Ev
open Go.RowKit
set_option linter.unusedVariables false
set_option linter.unusedSimpArgs false
set_option linter.unusedSectionVars false

/-- the cells that stay as they are, in the caller's eyes -/
def stableOf (c : Cx) : Nat → Nat → Prop := fun b i => ∃ x, c.s b i x

theorem gr_call_el {B : Nat → Nat → Prop} {n0 : Nat} {w : World} {h : Heap} {M M' : Mp} :
    Gr (cx B n0 w h M).el (cx (stableOf (cx B n0 w h M)) w.heap.size w hnil M').el :=
  ⟨fun b i x hx => ⟨hx.1, fun ⟨_, _, h1, _⟩ => by simp [hnil] at h1, .inr ⟨x, hx⟩⟩, fun b i x hx => ⟨hx.1, fun ⟨_, _, h1, _⟩ => by simp [hnil] at h1, .inr ⟨x, hx⟩⟩,
    fun _ _ hq => by simp [Cx.el] at hq, fun _ _ hx => hx.elim⟩

theorem gr_call_elb {B : Nat → Nat → Prop} {n0 : Nat} {w : World} {h : Heap} {M M' : Mp} (br : Bool) :
    Gr ((cx B n0 w h M).elb br) ((cx (stableOf (cx B n0 w h M)) w.heap.size w hnil M').elb br) := by
  cases br with
  | false => exact gr_call_el
  | true => exact ⟨gr_call_el.s, fun b i x hx => ⟨hx.1, fun ⟨_, _, h1, _⟩ => by simp [hnil] at h1⟩, fun _ _ hq => by simp [Cx.elb_true, Cx.ela] at hq, fun _ _ hx => hx.elim⟩

theorem callee_a {B : Nat → Nat → Prop} {n0 : Nat} {w : World} {M' : Mp} {b i : Nat} {x : Value} (hx : w.cell? ⟨b, i, none⟩ = some x) : (cx B n0 w hnil M').a b i x :=
  ⟨hx, fun ⟨_, _, h1, _⟩ => by simp [hnil] at h1⟩

section
variable {B : Nat → Nat → Prop} {w0 w : World} {h : Heap} {M M' : Mp} (H : HR B w0 w h M)
include H
mutual
theorem VR.low : ∀ (v : AV) {rv : Value}, VR v (cx B w0.heap.size w h M) rv → VR (low h v) (cx (stableOf (cx B w0.heap.size w h M)) w.heap.size w hnil M') rv
  | .un, _, _ => by simp [Ev.low, VR]
  | .int .., _, hv => by simpa only [Ev.low, VR] using hv
  | .bool .., _, hv => by simpa only [Ev.low, VR] using hv
  | .str .., _, hv => by simpa only [Ev.low, VR] using hv
  | .nilf, _, hv => by simpa only [Ev.low, VR] using hv
  | .ud, _, hv => by simpa only [Ev.low, VR] using hv
  | .agg cs, _, hv => by
    simp only [Ev.low, VR] at hv ⊢
    obtain ⟨rc, h1, h2⟩ := hv
    exact ⟨rc, h1, VRl.low cs h2⟩
  | .tup cs, _, hv => by
    simp only [Ev.low, VR] at hv ⊢
    obtain ⟨rc, h1, h2⟩ := hv
    exact ⟨rc, h1, VRl.low cs h2⟩
  | .sl k o es, rv, hv => by
    have el := gr_call_el (B := B) (n0 := w0.heap.size) (w := w) (h := h) (M := M) (M' := M')
    cases o with
    | ex T key => simp only [VR] at hv; exact hv.elim
    | brw =>
      simp only [Ev.low, VR] at hv ⊢
      obtain ⟨a, cap, h1, h2, h3, h4, h5, h6⟩ := hv
      refine ⟨a, cap, h1, h2, h3, h4, fun hne => ?_, trivial⟩
      obtain ⟨b, ofs, e, hm⟩ := h5 hne
      exact ⟨b, ofs, e, VRm.mono (gr_call_elb true) (fun b i x hx => callee_a hx.1) es hm⟩
    | tok key g =>
      simp only [Ev.low, VR] at hv ⊢
      obtain ⟨a, cap, h1, h2, h3, h4, h5, h6⟩ := hv
      refine ⟨a, cap, h1, h2, h3, h4, fun hne => ?_, trivial⟩
      obtain ⟨b, ofs, e, hm⟩ := h5 hne
      exact ⟨b, ofs, e, VRm.mono el (fun b i x hx => el.s _ _ _ hx) es hm⟩
    | no =>
      simp only [Ev.low, VR] at hv ⊢
      obtain ⟨a, cap, h1, h2, h3, h4, h5, h6⟩ := hv
      refine ⟨a, cap, h1, h2, h3, h4, fun hne => ?_, trivial⟩
      obtain ⟨b, ofs, e, hm⟩ := h5 hne
      exact ⟨b, ofs, e, VRm.mono el (fun b i x hx => el.s _ _ _ hx) es hm⟩
    | lit =>
      simp only [Ev.low, VR] at hv ⊢
      obtain ⟨a, cap, h1, h2, h3, h4, h5, h6⟩ := hv
      refine ⟨a, cap, h1, h2, h3, h4, fun hne => ?_, h6⟩
      obtain ⟨b, ofs, e, hm⟩ := h5 hne
      exact ⟨b, ofs, e, VRm.mono el (fun b i x hx => el.s _ _ _ hx) es hm⟩
  | .ms key g off len, rv, hv => by
    have el := gr_call_el (B := B) (n0 := w0.heap.size) (w := w) (h := h) (M := M) (M' := M')
    simp only [Ev.low]
    cases hk : h key with
    | none => simp [VR]
    | some blk =>
      cases blk with
      | row g' T k es =>
        simp only
        split
        · rename_i hc
          simp only [VR] at hv
          obtain ⟨a, cap, rfl, q, hq, h2, h3⟩ := hv
          have hq' := cx_l hk hq
          subst hq'
          obtain ⟨_, hp, h5, h6, h7⟩ := h3 hc.1
          obtain ⟨hk0, hall, rvs, rest, hvl, hh, hlk, hmx⟩ := H.ok _ _ hk
          have hsz := VRl.sizes (cx_x B w0.heap.size w h M) hvl hall
          have hlen : (low0s ((es.drop off).take len)).length = len := by rw [low0s_length, List.length_take, List.length_drop]; omega
          simp only [VR]
          refine ⟨some a, cap, by rw [hlen], by rw [hlen]; exact h5, h6, fun ha => (by cases ha), fun hne => ?_, trivial⟩
          · have hl0 : len ≠ 0 := by intro e0; exact hne (List.eq_nil_of_length_eq_zero (hlen.trans e0))
            refine ⟨_, _, congrArg some (hp (by omega)), VRm.mk (VRl.mono (el.trans (gr_el_ela ..)) _ (VRl.low0 _ ((hvl.drop off).take len) ?_)) (fun r hr => hsz r (List.mem_of_mem_drop (List.mem_of_mem_take hr))) fun j x hj => ?_⟩
            · have := hc.2.2
              rw [stabs_iff] at this ⊢
              exact fun v hv => this v (List.mem_of_mem_drop (List.mem_of_mem_take hv))
            · refine callee_a ?_
              rw [cell_of_row w _ _ _ _ _ hh]
              have hsp : flatC rvs = flatC (rvs.take off) ++ (flatC ((rvs.drop off).take len) ++ flatC ((rvs.drop off).drop len)) := by
                rw [← flatC_append, List.take_append_drop, ← flatC_append, List.take_append_drop]
              have hol : (flatC (rvs.take off)).length = off * k := by
                rw [flatC_length (k := k) fun r hr => hsz r (List.mem_of_mem_take hr), List.length_take, hvl.length, Nat.min_eq_left (by omega)]
              simp only [Blk.k, List.getElem?_toArray]
              rw [hsp, List.append_assoc, List.getElem?_append_right (by omega), hol, Nat.add_sub_cancel_left, List.append_assoc, List.getElem?_append_left (List.getElem?_eq_some_iff.1 hj).1]
              exact hj
        · simp [VR]
      | var => simp [VR]
      | tok => simp [VR]
      | fz => simp [VR]
  | .vp key g off, rv, hv => by
    have el := gr_call_el (B := B) (n0 := w0.heap.size) (w := w) (h := h) (M := M) (M' := M')
    simp only [Ev.low]
    cases hk : h key with
    | none => simp [VR]
    | some blk =>
      cases blk with
      | var g' T x =>
        simp only
        split
        · rename_i hc
          simp only [VR] at hv
          obtain ⟨a, rfl, q, hq, h2, h3⟩ := hv
          have hq' := cx_l hk hq
          subst hq'
          obtain ⟨_, rfl⟩ := h3 hc
          obtain ⟨hone, r0, hr0, hh⟩ := H.ok _ _ hk
          have hcells := VR.cells_one (cx_x B w0.heap.size w h M) hr0 hone
          simp only [VR]
          refine ⟨(M key).1, 0, r0.cells.toList, by rw [Nat.zero_add], VRl.mono (gr_call_elb true) _ (VRl.low1 _ hcells), fun j y hj => ?_⟩
          · simp only [if_true]
            refine callee_a ?_
            rw [cell_of_row w _ _ _ _ _ hh, Nat.zero_add]
            simpa using hj
        · simp [VR]
      | row => simp [VR]
      | tok => simp [VR]
      | fz => simp [VR]
  | .rp .., _, _ => by simp [Ev.low, VR]
  | .xp .., _, _ => by simp [Ev.low, VR]
  | .cp br cs off, rv, hv => by
    have el := gr_call_el (B := B) (n0 := w0.heap.size) (w := w) (h := h) (M := M) (M' := M')
    simp only [Ev.low, VR] at hv ⊢
    obtain ⟨b, o, rc, h1, h2, h3⟩ := hv
    refine ⟨b, o, rc, h1, VRl.mono (gr_call_elb br) _ h2, fun j x hj => ?_⟩
    have := h3 j x hj
    cases br with
    | true => simp only [if_true] at this ⊢; exact callee_a this.1
    | false => simp only [Bool.false_eq_true, if_false] at this ⊢; exact el.s _ _ _ this
  | .fn f caps, _, hv => by
    simp only [Ev.low, VR] at hv ⊢
    obtain ⟨rc, h1, h2⟩ := hv
    exact ⟨rc, h1, VRl.low caps h2⟩
theorem VRl.low : ∀ (vs : List AV) {rs : List Value}, VRl vs (cx B w0.heap.size w h M) rs → VRl (lows h vs) (cx (stableOf (cx B w0.heap.size w h M)) w.heap.size w hnil M') rs
  | [], _, hv => by simpa only [Ev.lows, VRl] using hv
  | x :: xs, _, hv => by
    simp only [Ev.lows, VRl] at hv ⊢
    obtain ⟨v, ws, h1, h2, h3⟩ := hv
    exact ⟨v, ws, h1, VR.low x h2, VRl.low xs h3⟩
end
theorem VR.lowE (v : AV) {rv : Value} (hv : VR v (cx B w0.heap.size w h M) rv) : VR (Ev.lowE h v) (cx (stableOf (cx B w0.heap.size w h M)) w.heap.size w hnil M').ela rv := by
  cases v with
  | ms key g off len =>
    have := VR.low (M' := M') H _ hv
    simp only [Ev.lowE]
    simp only [Ev.low] at this ⊢
    cases hk : h key with
    | none => simp [VR]
    | some blk =>
      rw [hk] at this
      cases blk with
      | row g' T k es =>
        simp only at this ⊢
        split
        · rename_i hc
          rw [if_pos hc] at this
          simp only [VR] at this ⊢
          exact this
        · simp [VR]
      | _ => simp [VR]
  | _ => exact VR.mono (gr_call_elb true) _ (VR.low1 _ hv)
theorem VRl.lowE : ∀ (vs : List AV) {rs : List Value}, VRl vs (cx B w0.heap.size w h M) rs → VRl (vs.map (Ev.lowE h)) (cx (stableOf (cx B w0.heap.size w h M)) w.heap.size w hnil M').ela rs
  | [], _, hv => by simpa only [List.map_nil, VRl] using hv
  | x :: xs, _, hv => by
    simp only [List.map_cons, VRl] at hv ⊢
    obtain ⟨v, ws, h1, h2, h3⟩ := hv
    exact ⟨v, ws, h1, VR.lowE H x h2, VRl.lowE xs h3⟩
theorem VR.lowD1 (v : AV) {rv : Value} (hv : VR v (cx B w0.heap.size w h M) rv) : VR (Ev.lowD1 h v) (cx (stableOf (cx B w0.heap.size w h M)) w.heap.size w hnil M') rv := by
  cases v with
  | ms key g off len =>
    simp only [Ev.lowD1]
    cases hk : h key with
    | none => simp [VR]
    | some blk =>
      cases blk with
      | row g' T k es =>
        simp only
        split
        · rename_i hc
          simp only [VR] at hv
          obtain ⟨a, cap, rfl, q, hq, h2, h3⟩ := hv
          have hq' := cx_l hk hq
          subst hq'
          obtain ⟨_, hp, h5, h6, h7⟩ := h3 hc.1
          obtain ⟨hk0, hall, rvs, rest, hvl, hh, hlk, hmx⟩ := H.ok _ _ hk
          have hsz := VRl.sizes (cx_x B w0.heap.size w h M) hvl hall
          have hlen : (((es.drop off).take len).map (Ev.lowE h)).length = len := by rw [List.length_map, List.length_take, List.length_drop]; omega
          simp only [VR]
          refine ⟨some a, cap, by rw [hlen], by rw [hlen]; exact h5, h6, fun ha => (by cases ha), fun hne => ?_, trivial⟩
          · have hl0 : len ≠ 0 := by intro e0; exact hne (List.eq_nil_of_length_eq_zero (hlen.trans e0))
            refine ⟨_, _, congrArg some (hp (by omega)), VRm.mk (VRl.lowE H _ ((hvl.drop off).take len)) (fun r hr => hsz r (List.mem_of_mem_drop (List.mem_of_mem_take hr))) fun j x hj => ?_⟩
            refine callee_a ?_
            rw [cell_of_row w _ _ _ _ _ hh]
            have hsp : flatC rvs = flatC (rvs.take off) ++ (flatC ((rvs.drop off).take len) ++ flatC ((rvs.drop off).drop len)) := by
              rw [← flatC_append, List.take_append_drop, ← flatC_append, List.take_append_drop]
            have hol : (flatC (rvs.take off)).length = off * k := by
              rw [flatC_length (k := k) fun r hr => hsz r (List.mem_of_mem_take hr), List.length_take, hvl.length, Nat.min_eq_left (by omega)]
            simp only [Blk.k, List.getElem?_toArray]
            rw [hsp, List.append_assoc, List.getElem?_append_right (by omega), hol, Nat.add_sub_cancel_left, List.append_assoc, List.getElem?_append_left (List.getElem?_eq_some_iff.1 hj).1]
            exact hj
        · simp [VR]
      | _ => simp [VR]
  | _ => exact VR.low H _ hv
theorem VRl.lowD1 : ∀ (vs : List AV) {rs : List Value}, VRl vs (cx B w0.heap.size w h M) rs → VRl (vs.map (Ev.lowD1 h)) (cx (stableOf (cx B w0.heap.size w h M)) w.heap.size w hnil M') rs
  | [], _, hv => by simpa only [List.map_nil, VRl] using hv
  | x :: xs, _, hv => by
    simp only [List.map_cons, VRl] at hv ⊢
    obtain ⟨v, ws, h1, h2, h3⟩ := hv
    exact ⟨v, ws, h1, VR.lowD1 H x h2, VRl.lowD1 xs h3⟩
theorem VR.lowD (v : AV) {rv : Value} (hv : VR v (cx B w0.heap.size w h M) rv) : VR (Ev.lowD h v) (cx (stableOf (cx B w0.heap.size w h M)) w.heap.size w hnil M') rv := by
  cases v with
  | agg cs =>
    simp only [Ev.lowD, VR] at hv ⊢
    obtain ⟨rc, h1, h2⟩ := hv
    exact ⟨rc, h1, VRl.lowD1 H cs h2⟩
  | _ => exact VR.lowD1 H _ hv
theorem VRl.lowD : ∀ (vs : List AV) {rs : List Value}, VRl vs (cx B w0.heap.size w h M) rs → VRl (vs.map (Ev.lowD h)) (cx (stableOf (cx B w0.heap.size w h M)) w.heap.size w hnil M') rs
  | [], _, hv => by simpa only [List.map_nil, VRl] using hv
  | x :: xs, _, hv => by
    simp only [List.map_cons, VRl] at hv ⊢
    obtain ⟨v, ws, h1, h2, h3⟩ := hv
    exact ⟨v, ws, h1, VR.lowD H x h2, VRl.lowD xs h3⟩
end

end Go.Proofs.YtlglhokpaplifaaGreatDoor.Ev
/- What a called function hands back, and how the caller takes it. Conditions: none. -/
namespace Go.Proofs.YtlglhokpaplifaaGreatDoor.Ev
open Go.RowKit
set_option linter.unusedVariables false
set_option linter.unusedSimpArgs false
set_option linter.unusedSectionVars false

/-- What is handed back as the call's own. -/
def ExOk (B : Nat → Nat → Prop) (w0 w : World) (h : Heap) (M : Mp) : AV → Value → Prop
  | .sl k (.ex T key) es, v => v = .slice (some ⟨(M key).1, 0, none⟩) es.length (M key).2 ∧ es.length ≤ (M key).2 ∧ (M key).2 ≤ maxLen ∧ 0 < k ∧ w0.heap.size ≤ (M key).1 ∧ (∃ blk, h key = some blk ∧ ∀ i, es.length * k ≤ i → blk.mutAt i) ∧
      ∃ rvs rest, VRl es (cx B w0.heap.size w h M).el rvs ∧ (∀ r ∈ rvs, r.cells.size = k) ∧ w.heap[(M key).1]? = some (.cells (flatC rvs ++ rest).toArray T (0, 0)) ∧ (flatC rvs ++ rest).length = (M key).2 * k
  | .xp T key y, v => v = .pointer (some ⟨(M key).1, 0, none⟩) ∧ w0.heap.size ≤ (M key).1 ∧ (∃ blk, h key = some blk ∧ ∀ i, blk.mutAt i) ∧ y.cells.all AV.one = true ∧
      ∃ rv, VR y (cx B w0.heap.size w h M).el rv ∧ w.heap[(M key).1]? = some (.cells rv.cells T (0, 0))
  | _, _ => False

def xcx (B : Nat → Nat → Prop) (w0 w : World) (h : Heap) (M : Mp) : Cx where
  s b i x := w.cell? ⟨b, i, none⟩ = some x ∧ (w0.heap.size ≤ b ∨ B b i)
  a b i x := w.cell? ⟨b, i, none⟩ = some x ∧ (w0.heap.size ≤ b ∨ B b i)
  l := fun _ => none
  x := ExOk B w0 w h M

theorem gr_xcx_el {B : Nat → Nat → Prop} {w0 w : World} {h : Heap} {M : Mp} : Gr (cx B w0.heap.size w h M).el (xcx B w0 w h M).el :=
  ⟨fun b i x hx => ⟨hx.1, hx.2.2⟩, fun b i x hx => ⟨hx.1, hx.2.2⟩, fun _ _ hq => by simp [Cx.el] at hq, fun _ _ hx => hx.elim⟩

theorem low0_one {v : AV} (h : v.one = true) : (low0 v).one = true ∨ low0 v = .un := by
  cases v <;> first | exact .inl rfl | exact .inr rfl | (simp [AV.one] at h; done) | (rename_i k o es; cases o <;> exact .inl rfl)

section
variable {B : Nat → Nat → Prop} {w0 w : World} {h : Heap} {M : Mp} (H : HR B w0 w h M)
include H

theorem row_part {key g T k : Nat} {es : List AV} (hk : h key = some (.row g T k es)) {off len : Nat} (hol : off + len ≤ es.length) (hst : stabs es = true) :
    ∃ rvs, VRl (low0s ((es.drop off).take len)) (cx B w0.heap.size w h M).el rvs ∧ (∀ r ∈ rvs, r.cells.size = k) ∧ rvs.length = len ∧ ∀ j x, (flatC rvs)[j]? = some x → w.cell? ⟨(M key).1, off * k + j, none⟩ = some x := by
  obtain ⟨hk0, hall, rvs, rest, hvl, hh, hlk, hmx⟩ := H.ok _ _ hk
  have hsz := VRl.sizes (cx_x B w0.heap.size w h M) hvl hall
  refine ⟨(rvs.drop off).take len, VRl.low0 _ ((hvl.drop off).take len) ?_, fun r hr => hsz r (List.mem_of_mem_drop (List.mem_of_mem_take hr)), ?_, fun j x hj => ?_⟩
  · rw [stabs_iff] at hst ⊢
    exact fun v hv => hst v (List.mem_of_mem_drop (List.mem_of_mem_take hv))
  · rw [List.length_take, List.length_drop, hvl.length]; omega
  · rw [cell_of_row w _ _ _ _ _ hh]
    have hsp : flatC rvs = flatC (rvs.take off) ++ (flatC ((rvs.drop off).take len) ++ flatC ((rvs.drop off).drop len)) := by
      rw [← flatC_append, List.take_append_drop, ← flatC_append, List.take_append_drop]
    have hol : (flatC (rvs.take off)).length = off * k := by
      rw [flatC_length (k := k) fun r hr => hsz r (List.mem_of_mem_take hr), List.length_take, hvl.length, Nat.min_eq_left (by omega)]
    simp only [List.getElem?_toArray]
    rw [hsp, List.append_assoc, List.getElem?_append_right (by omega), hol, Nat.add_sub_cancel_left, List.append_assoc, List.getElem?_append_left (List.getElem?_eq_some_iff.1 hj).1]
    exact hj

theorem expo_sl_no {k : Nat} {es : List AV} {rv : Value} {C : CellP} (hC : ∀ b i x, C b i x → (xcx B w0 w h M).s b i x)
    (hv : ∃ a cap, rv = .slice a es.length cap ∧ es.length ≤ cap ∧ cap ≤ maxLen ∧ (a = none → cap = 0) ∧ (es ≠ [] → ∃ b ofs, a = some ⟨b, ofs, none⟩ ∧ VRm es (cx B w0.heap.size w h M).el C b ofs k)) :
    VR (.sl k .no es) (xcx B w0 w h M) rv := by
  obtain ⟨a, cap, h1, h2, h3, h4, h5⟩ := hv
  simp only [VR]
  refine ⟨a, cap, h1, h2, h3, h4, fun hne => ?_, trivial⟩
  obtain ⟨b, ofs, e, hm⟩ := h5 hne
  exact ⟨b, ofs, e, VRm.mono gr_xcx_el hC es hm⟩

mutual
theorem VR.expo : ∀ (v : AV) {rv : Value}, VR v (cx B w0.heap.size w h M) rv → VR (expo h v) (xcx B w0 w h M) rv
  | .un, _, _ => by simp [Ev.expo, VR]
  | .int .., _, hv => by simpa only [Ev.expo, VR] using hv
  | .bool .., _, hv => by simpa only [Ev.expo, VR] using hv
  | .str .., _, hv => by simpa only [Ev.expo, VR] using hv
  | .nilf, _, hv => by simpa only [Ev.expo, VR] using hv
  | .ud, _, hv => by simpa only [Ev.expo, VR] using hv
  | .agg cs, _, hv => by
    simp only [Ev.expo, VR] at hv ⊢
    obtain ⟨rc, h1, h2⟩ := hv
    exact ⟨rc, h1, VRl.expo cs h2⟩
  | .tup cs, _, hv => by
    simp only [Ev.expo, VR] at hv ⊢
    obtain ⟨rc, h1, h2⟩ := hv
    exact ⟨rc, h1, VRl.expo cs h2⟩
  | .sl k o es, rv, hv => by
    have hs : ∀ b i x, (cx B w0.heap.size w h M).s b i x → (xcx B w0 w h M).s b i x := fun b i x hx => ⟨hx.1, hx.2.2⟩
    cases o with
    | ex T key => simp only [VR] at hv; exact hv.elim
    | brw =>
      simp only [Ev.expo]
      split
      · rename_i he
        have he : es = [] := by simpa using he
        subst he
        simp only [VR] at hv ⊢
        obtain ⟨a, cap, h1, h2, h3, h4, _, h6⟩ := hv
        exact ⟨a, cap, h1, h2, h3, h4, fun hne => (hne rfl).elim, trivial⟩
      · simp [VR]
    | no =>
      simp only [Ev.expo]
      simp only [VR] at hv
      obtain ⟨a, cap, h1, h2, h3, h4, h5, h6⟩ := hv
      exact expo_sl_no H hs ⟨a, cap, h1, h2, h3, h4, h5⟩
    | lit =>
      simp only [Ev.expo, VR] at hv ⊢
      obtain ⟨a, cap, h1, h2, h3, h4, h5, h6⟩ := hv
      refine ⟨a, cap, h1, h2, h3, h4, fun hne => ?_, h6⟩
      obtain ⟨b, ofs, e, hm⟩ := h5 hne
      exact ⟨b, ofs, e, VRm.mono gr_xcx_el hs es hm⟩
    | tok key g =>
      have hv0 := hv
      simp only [VR] at hv
      obtain ⟨a, cap, h1, h2, h3, h4, h5, q, hq, h6, h7⟩ := hv
      have hno : VR (.sl k .no es) (xcx B w0 w h M) rv := expo_sl_no H hs ⟨a, cap, h1, h2, h3, h4, h5⟩
      simp only [Ev.expo]
      cases hk : h key with
      | none => exact hno
      | some blk =>
        cases blk with
        | tok g' T k' u =>
          simp only
          split
          · rename_i hc
            have hq' := cx_l hk hq
            subst hq'
            obtain ⟨_, _, h9⟩ := h7 hc.1
            obtain ⟨rfl, rfl⟩ := h9 hc.2.1.symm
            obtain ⟨hk0, hu2, cur, hh, hcs⟩ := H.ok _ _ hk
            have hkk : k' = k := hc.2.2
            subst hkk
            simp only [VR, xcx, ExOk]
            have hold : ∃ rvs, VRl es (cx B w0.heap.size w h M).el rvs ∧ (∀ r ∈ rvs, r.cells.size = k') ∧ ∀ j x, (flatC rvs)[j]? = some x → w.cell? ⟨(M key).1, j, none⟩ = some x := by
              by_cases he : es = []
              · exact ⟨[], by simp [he, VRl], by simp, by simp [flatC]⟩
              · obtain ⟨b1, o1, e1, hm⟩ := h5 he
                obtain ⟨olds, q1, q2, q3⟩ := hm.flat
                have e2 : b1 = (M key).1 ∧ o1 = 0 := by
                  have := Option.some.inj e1
                  injection this with a1 a2
                  exact ⟨a1.symm, a2.symm⟩
                refine ⟨olds, q1, q2, fun j x hj => ?_⟩
                have := (q3 j x hj).1
                rw [e2.1, e2.2, Nat.zero_add] at this
                exact this
            obtain ⟨rvs, q1, q2, q3⟩ := hold
            have hlen : (flatC rvs).length = es.length * k' := by rw [flatC_length q2, q1.length]
            have hle : (flatC rvs).length ≤ cur.toList.length := by
              have e9 : cur.toList.length = cur.size := Array.length_toList
              rw [hlen, e9, hcs]; exact Nat.mul_le_mul_right _ h2
            have hsplit : cur.toList = flatC rvs ++ cur.toList.drop (flatC rvs).length := by
              apply List.ext_getElem?
              intro j
              by_cases hj : j < (flatC rvs).length
              · rw [List.getElem?_append_left hj]
                have := q3 j _ (List.getElem?_eq_getElem hj)
                rw [cell_of_row w _ _ _ _ _ hh, ← Array.getElem?_toList] at this
                rw [this, List.getElem?_eq_getElem hj]
              · rw [List.getElem?_append_right (by omega), List.getElem?_drop]
                congr 1; omega
            refine ⟨h1, h2, h3, hk0, H.old _ _ hk, ⟨_, hk, fun i hi => by simp only [Blk.mutAt]; rw [hc.2.1]; exact hi⟩, rvs, cur.toList.drop (flatC rvs).length, q1, q2, ?_, ?_⟩
            · rw [← hsplit, Array.toArray_toList]; exact hh
            · rw [← hsplit]
              have e9 : cur.toList.length = cur.size := Array.length_toList
              rw [e9, hcs]
          · exact hno
        | var => exact hno
        | row => exact hno
        | fz => exact hno
  | .ms key g off len, rv, hv => by
    simp only [Ev.expo]
    cases hk : h key with
    | none => simp [VR]
    | some blk =>
      cases blk with
      | row g' T k es =>
        simp only
        split
        · rename_i hc
          simp only [VR] at hv
          obtain ⟨a, cap, rfl, q, hq, h2, h3⟩ := hv
          have hq' := cx_l hk hq
          subst hq'
          obtain ⟨_, hp, h5, h6, h7⟩ := h3 hc.1
          obtain ⟨rvs, r1, r2, r3, r4⟩ := row_part H hk hc.2.1 hc.2.2
          have hlen : (low0s ((es.drop off).take len)).length = len := by rw [← r1.length, r3]
          split
          · rename_i hfull
            obtain ⟨rfl, rfl, hne0⟩ := hfull
            obtain ⟨hk0, hall, rvs', rest, hvl, hh, hlk, hmx⟩ := H.ok _ _ hk
            have hsz := VRl.sizes (cx_x B w0.heap.size w h M) hvl hall
            simp only [VR, xcx, ExOk]
            have hcap : cap = (M key).2 := by simpa using h7
            have hl0 : es.length ≠ 0 := fun e0 => hne0 (List.eq_nil_of_length_eq_zero e0)
            have := hp (by omega)
            rw [Nat.zero_mul] at this
            rw [this, low0s_length, hcap]
            exact ⟨rfl, hcap ▸ h5, hmx, hk0, H.old _ _ hk, ⟨_, hk, fun i _ => trivial⟩, rvs', rest, VRl.low0 _ hvl hc.2.2, hsz, hh, hlk⟩
          · refine expo_sl_no H (C := fun b i x => w.cell? ⟨b, i, none⟩ = some x ∧ w0.heap.size ≤ b) (fun b i x hx => ⟨hx.1, .inl hx.2⟩) ⟨some a, cap, by rw [hlen], by rw [hlen]; exact h5, h6, fun ha => (by cases ha), fun hne => ?_⟩
            have hl0 : len ≠ 0 := by intro e0; exact hne (List.eq_nil_of_length_eq_zero (hlen.trans e0))
            exact ⟨_, _, congrArg some (hp (by omega)), VRm.mk r1 r2 fun j x hj => ⟨r4 j x hj, H.old _ _ hk⟩⟩
        · simp [VR]
      | var => simp [VR]
      | tok => simp [VR]
      | fz => simp [VR]
  | .vp key g off, rv, hv => by
    simp only [Ev.expo]
    cases hk : h key with
    | none => simp [VR]
    | some blk =>
      cases blk with
      | var g' T x =>
        simp only
        split
        · rename_i hc
          obtain ⟨hc1, rfl, hc3, hc4⟩ := hc
          simp only [VR] at hv
          obtain ⟨a, rfl, q, hq, h2, h3⟩ := hv
          have hq' := cx_l hk hq
          subst hq'
          obtain ⟨_, rfl⟩ := h3 hc1
          obtain ⟨hone, r0, hr0, hh⟩ := H.ok _ _ hk
          simp only [VR, xcx, ExOk]
          exact ⟨(by first | rfl | trivial), H.old _ _ hk, ⟨_, hk, fun i => trivial⟩, hc4, r0, VR.low0 _ hr0 hc3, hh⟩
        · simp [VR]
      | row => simp [VR]
      | tok => simp [VR]
      | fz => simp [VR]
  | .rp .., _, _ => by simp [Ev.expo, VR]
  | .xp .., _, _ => by simp [Ev.expo, VR]
  | .cp br cs off, rv, hv => by
    simp only [Ev.expo]
    split
    · simp [VR]
    · rename_i hb
      have hb : br = false := by simpa using hb
      subst hb
      simp only [VR] at hv ⊢
      obtain ⟨b, o, rc, h1, h2, h3⟩ := hv
      exact ⟨b, o, rc, h1, VRl.mono gr_xcx_el _ h2, fun j x hj => ⟨(h3 j x hj).1, (h3 j x hj).2.2⟩⟩
  | .fn f caps, _, hv => by
    simp only [Ev.expo, VR] at hv ⊢
    obtain ⟨rc, h1, h2⟩ := hv
    exact ⟨rc, h1, VRl.expc caps h2⟩
theorem VRl.expo : ∀ (vs : List AV) {rs : List Value}, VRl vs (cx B w0.heap.size w h M) rs → VRl (expos h vs) (xcx B w0 w h M) rs
  | [], _, hv => by simpa only [Ev.expos, VRl] using hv
  | x :: xs, _, hv => by
    simp only [Ev.expos, VRl] at hv ⊢
    obtain ⟨v, ws, h1, h2, h3⟩ := hv
    exact ⟨v, ws, h1, VR.expo x h2, VRl.expo xs h3⟩
theorem VR.expc : ∀ (v : AV) {rv : Value}, VR v (cx B w0.heap.size w h M) rv → VR (expc h v) (xcx B w0 w h M) rv
  | .vp key g off, rv, hv => by
    simp only [Ev.expc]
    cases hk : h key with
    | none => simp [VR]
    | some blk =>
      cases blk with
      | var g' T x =>
        simp only
        split
        · rename_i hc
          simp only [VR] at hv
          obtain ⟨a, rfl, q, hq, h2, h3⟩ := hv
          have hq' := cx_l hk hq
          subst hq'
          obtain ⟨_, rfl⟩ := h3 hc.1
          obtain ⟨hone, r0, hr0, hh⟩ := H.ok _ _ hk
          have hcells := VR.cells_one (cx_x B w0.heap.size w h M) hr0 hone
          simp only [VR]
          refine ⟨(M key).1, 0, r0.cells.toList, by rw [Nat.zero_add], VRl.mono gr_xcx_el _ (VRl.low0 _ hcells ?_), fun j y hj => ?_⟩
          · have := hc.2
            rw [stabs_iff]
            intro v hv
            cases x <;> simp only [AV.cells, List.mem_singleton] at hv <;> first
              | (subst hv; exact this)
              | (simp only [stab, stabs_iff] at this; exact this v hv)
          · simp only [Bool.false_eq_true, if_false]
            refine ⟨?_, .inl (H.old _ _ hk)⟩
            rw [cell_of_row w _ _ _ _ _ hh, Nat.zero_add]
            simpa using hj
        · simp [VR]
      | row => simp [VR]
      | tok => simp [VR]
      | fz => simp [VR]
  | .cp br cs off, rv, hv => by
    simp only [Ev.expc]
    split
    · simp [VR]
    · rename_i hb
      have hb : br = false := by simpa using hb
      subst hb
      simp only [VR] at hv ⊢
      obtain ⟨b, o, rc, h1, h2, h3⟩ := hv
      exact ⟨b, o, rc, h1, VRl.mono gr_xcx_el _ h2, fun j x hj => ⟨(h3 j x hj).1, (h3 j x hj).2.2⟩⟩
  | .un, _, _ => by simp [Ev.expc, VR]
  | .int .., _, _ => by simp [Ev.expc, VR]
  | .bool .., _, _ => by simp [Ev.expc, VR]
  | .str .., _, _ => by simp [Ev.expc, VR]
  | .agg .., _, _ => by simp [Ev.expc, VR]
  | .tup .., _, _ => by simp [Ev.expc, VR]
  | .sl .., _, _ => by simp [Ev.expc, VR]
  | .ms .., _, _ => by simp [Ev.expc, VR]
  | .rp .., _, _ => by simp [Ev.expc, VR]
  | .xp .., _, _ => by simp [Ev.expc, VR]
  | .fn .., _, _ => by simp [Ev.expc, VR]
  | .nilf, _, _ => by simp [Ev.expc, VR]
  | .ud, _, _ => by simp [Ev.expc, VR]
theorem VRl.expc : ∀ (vs : List AV) {rs : List Value}, VRl vs (cx B w0.heap.size w h M) rs → VRl (expcs h vs) (xcx B w0 w h M) rs
  | [], _, hv => by simpa only [Ev.expcs, VRl] using hv
  | x :: xs, _, hv => by
    simp only [Ev.expcs, VRl] at hv ⊢
    obtain ⟨v, ws, h1, h2, h3⟩ := hv
    exact ⟨v, ws, h1, VR.expc x h2, VRl.expc xs h3⟩
end
end

end Go.Proofs.YtlglhokpaplifaaGreatDoor.Ev
