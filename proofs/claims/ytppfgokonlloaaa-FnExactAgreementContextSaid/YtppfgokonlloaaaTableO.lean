/- Tables in the memory of a law: copies, marks. Conditions: none. -/
import Derived.Test.YtppfgokonlloaaaBaseA
import Derived.Test.YtppfgokonlloaaaEvData2
import Derived.Test.YtppfgokonlloaaaCalls
import Derived.Test.YtppfgokonlloaaaTable
namespace Go.Proofs.Ytppfgokonlloaaa
open Ev
set_option linter.unusedVariables false
set_option linter.unusedSimpArgs false
set_option maxHeartbeats 4000000

/-- rows of numbers of one's own, in a row of one's own -/
def Rows2 (h : Heap) (ko kr T1 T : Nat) (v : AV) (xss : List (List Int)) : Prop :=
  ∃ g es, v = .ms ko g 0 xss.length ∧ h ko = some (.row g T1 1 es) ∧ es.length = xss.length ∧ ∀ j, j < xss.length → ∃ e, es[j]? = some e ∧ Row h (kr + deepStep * (j + 1)) T 1 1 e (ints (nthL xss j))
theorem Rows2.keep {h h' : Heap} {ko kr T1 T : Nat} {v : AV} {xss : List (List Int)} (hR : Rows2 h ko kr T1 T v xss) (h1 : h' ko = h ko) (h2 : ∀ j, j < xss.length → h' (kr + deepStep * (j + 1)) = h (kr + deepStep * (j + 1))) : Rows2 h' ko kr T1 T v xss := by
  obtain ⟨g, es, rfl, hg, hl, hr⟩ := hR
  refine ⟨g, es, rfl, h1.trans hg, hl, fun j hj => ?_⟩
  obtain ⟨e, he, hE⟩ := hr j hj
  exact ⟨e, he, hE.keep (h2 j hj)⟩
theorem Rows2.one {h : Heap} {ko kr T1 T : Nat} {v : AV} {xss : List (List Int)} (hR : Rows2 h ko kr T1 T v xss) : v.one = true := by
  obtain ⟨g, es, rfl, _⟩ := hR; rfl
theorem Rows2.cells {h : Heap} {ko kr T1 T : Nat} {v : AV} {xss : List (List Int)} (hR : Rows2 h ko kr T1 T v xss) : v.cells = [v] := by
  obtain ⟨g, es, rfl, _⟩ := hR; rfl
def rowsB (xss : List (List Int)) : List AV := (List.range xss.length).map fun j => rowB 1 1 (ints (nthL xss j))
theorem row_unset {h : Heap} {key T : Nat} {e : AV} {xs : List Int} (hR : Row h key T 1 1 e (ints xs)) : isUnset e = false ∧ stab e = true := by
  rcases hR with ⟨_, rfl⟩ | ⟨_, g, rfl, _⟩ <;> exact ⟨rfl, rfl⟩
theorem Rows2.low {h : Heap} {ko kr T1 T : Nat} {v : AV} {xss : List (List Int)} (hR : Rows2 h ko kr T1 T v xss) : lowD1 h v = .sl 1 .brw (rowsB xss) := by
  obtain ⟨g, es, rfl, hg, hl, hr⟩ := hR
  have hs : stabs es = true := by
    rw [stabs_iff]
    intro e he
    obtain ⟨j, hj⟩ := List.mem_iff_getElem?.1 he
    have hj2 : j < xss.length := by have := (List.getElem?_eq_some_iff.1 hj).1; omega
    obtain ⟨e2, he2, hE⟩ := hr j hj2
    rw [hj] at he2
    obtain rfl := Option.some.inj he2
    exact (row_unset hE).2
  simp only [lowD1, hg]
  rw [if_pos ⟨by trivial, by omega, hs⟩]
  congr 1
  rw [List.drop_zero, ← hl, List.take_length]
  apply List.ext_getElem?
  intro j
  by_cases hj : j < xss.length
  · obtain ⟨e, he, hE⟩ := hr j hj
    rw [List.getElem?_map, he]
    have : (rowsB xss)[j]? = some (rowB 1 1 (ints (nthL xss j))) := by simp [rowsB, hj]
    rw [this, Option.map_some]
    congr 1
    have hlow := hE.lowI
    rcases hE with ⟨e0, rfl⟩ | ⟨_, g, rfl, _⟩
    · rw [e0]; simp [lowE, low0, rowB]
    · simpa only [lowE] using hlow
  · rw [List.getElem?_eq_none (by simp; omega), List.getElem?_eq_none (by simp [rowsB]; omega)]
theorem rowsB_get {xss : List (List Int)} {n : Nat} (hn : n < xss.length) : (rowsB xss)[n]? = some (rowB 1 1 (ints (nthL xss n))) := by simp [rowsB, hn]
theorem rowB_one (k k0 : Nat) (es : List AV) : (rowB k k0 es).one = true ∧ (rowB k k0 es).cells = [rowB k k0 es] := by unfold rowB; split <;> exact ⟨rfl, rfl⟩
theorem isLL_rowsB {xss : List (List Int)} (hl : xss.length ≤ top63) (h : ∀ n, n < xss.length → (nthL xss n).length ≤ top63) : IsLL (.sl 1 .brw (rowsB xss)) where
  l := { len := by simpa [rowsB] using hl, ok := ⟨1, .brw, _, rfl, .inr rfl, rfl⟩, cells := fun e he => by
          simp only [esOf_sl, rowsB, List.mem_map] at he
          obtain ⟨j, _, rfl⟩ := he
          rw [(rowB_one ..).2]
          simp [(rowB_one _ _ _).1] }
  row := fun n hn => by
    have hn2 : n < xss.length := by simpa [xssOf, rowsB] using hn
    simp only [rowOf, esOf_sl, List.getD_eq_getElem?_getD, rowsB_get hn2, Option.getD_some]
    exact isI_rowB (h n hn2)
theorem xssOf_rowsB {k : Nat} {o : Own} {xss : List (List Int)} : xssOf (.sl k o (rowsB xss)) = xss := by
  simp only [xssOf, esOf_sl]
  apply List.ext_getElem?
  intro j
  by_cases hj : j < xss.length
  · rw [List.getElem?_map, rowsB_get hj]
    simp [nthL, hj]
  · rw [List.getElem?_eq_none (by simp [rowsB]; omega), List.getElem?_eq_none (by omega)]
/-- one of many rows -/
def matNB (E : Env) (fid d g m : Nat) : Bool := (E.ext g).isNone && !E.open_ g && E.mat fid d == 2000 + m && !E.deep g
theorem cf_rowN {E : Env} {fid d g m i : Nat} {args : List AV} {s : Nat → AV} {h : Heap} {off nt : Nat} {K : AV → Heap → Prop} {tg : Tg ((⟨s, h, off, nt⟩ : St), K)} {R : AV} {k k0 T key : Nat} {es : List AV}
    (hc : EvC E g (lows h args) R) (hR : OwnR R k k0 T key es) (hf : es.all flat = true) (he : matNB E fid d g m = true) (hi : cntK h (off + m) = i)
    (hK : ∀ v' h', Row h' (off + d + deepStep * (i + 1)) T k k0 v' es → (∀ x, x ≠ off + d + deepStep * (i + 1) → h' x = h x) → K v' h') : CF E fid (some d) g args ⟨s, h, off, nt⟩ K tg := by
  simp only [matNB, Bool.and_eq_true, Bool.not_eq_true', beq_iff_eq, Option.isNone_iff_eq_none] at he
  unfold CF
  rw [WF_mat (ext_none he.1.1.1 _) he.1.1.2 he.2]
  refine ⟨R, hc, ?_⟩
  have hm : mat E fid ⟨s, h, off, nt⟩ (some d) R = Ev.mat1 (off + d + deepStep * (i + 1)) h R := by
    have h2 : E.mat fid d = (1994 + m) + 6 := by rw [he.1.2]; omega
    have h3 : (1994 + m) + 6 - 2000 = m := by omega
    unfold mat
    simp only [h2]
    have h4 : 2000 ≤ 1994 + m + 6 := by omega
    simp only [h4, if_true, h3, hi]
  show Is (mat E fid ⟨s, h, off, nt⟩ (some d) R) K
  rw [hm]
  rcases hR with ⟨rfl, rfl | rfl⟩ | ⟨hx, rfl⟩
  · exact ⟨.sl k0 .no [], h, by simp only [Ev.mat1], hK _ _ (.inl ⟨rfl, rfl⟩) fun _ _ => rfl⟩
  · exact ⟨.sl k0 .no [], h, by simp only [Ev.mat1], hK _ _ (.inl ⟨rfl, rfl⟩) fun _ _ => rfl⟩
  · refine ⟨.ms (off + d + deepStep * (i + 1)) (nextG h (off + d + deepStep * (i + 1))) 0 es.length, hset h (off + d + deepStep * (i + 1)) (.row (nextG h (off + d + deepStep * (i + 1))) T k es), ?_, hK _ _ (.inr ⟨hx, _, rfl, by simp [hset]⟩) (fun x hxx => by simp [hset, hxx])⟩
    simp only [Ev.mat1]
    rw [if_pos ⟨hf, hx⟩]
theorem flat_ints (xs : List Int) : (ints xs).all flat = true := by
  rw [List.all_eq_true]; intro y hyy
  simp only [ints, List.mem_map] at hyy
  obtain ⟨n, _, rfl⟩ := hyy
  rfl
theorem szL_row {v : AV} (hl : szL v ≤ 1048576) : ∀ i, i < (xssOf v).length → (nthL (xssOf v) i).length ≤ 1048576 := fun i hi => by
  have := sumTo_le (xssOf v) hi; unfold szL at hl; omega
theorem toIntSS_o {v : AV} {h : Heap} {off : Nat} {K : AV → Heap → Prop} (hv : IsLL v) (hl : szL v ≤ 1048576) (hK : ∀ w h', Rows2 h' (off + 7) (off + 20) 22 3 w (xssOf v) → (∀ x, x < off → h' x = h x) → K w h') : OpenTo env 39 [v] h off K := by
  refine openTo_of (F := Try.f39) rfl rfl (Nat.le_of_ble_eq_true rfl) ?_
  have := hv.len
  have hle := szL_row hl
  have hl2 : (xssOf v).length ≤ 1048576 := by unfold szL at hl; omega
  repeat' (first | (apply brI <;> intro hb hb2 <;> (try simp [-Int.not_le, -Int.not_lt, -Nat.not_le, -Nat.not_lt, -Nat.add_left_cancel_iff] at hb2)) | (refine draw_listA (by rfl) (by kernel_rfl) ?_) | (refine draw_listB (by simp [allocsOf, isAlloc]; rfl) (by kernel_rfl) ?_) | simp (maxSteps := 2000000) (disch := first | omega | assumption | simp [*]) [*, -Int.not_le, -Int.not_lt, -Nat.not_le, -Nat.not_lt, -Nat.add_left_cancel_iff, wrap_i64, wrap_u64, Try.f39, isLL_len hv, isLL_low hv])
  refine W_loopG (xssOf v).length (fun i s h2 => ∃ g, s 4 = .int .i64 i ∧ s 0 = v ∧ s 3 = .ms (off + 7) g 0 (xssOf v).length ∧ (∀ x, x < off → h2 x = h x) ∧
    ∃ es, h2 (off + 7) = some (.row g 22 1 es) ∧ es.length = (xssOf v).length ∧ (∀ j, j < (xssOf v).length → i ≤ j → es[j]? = some (.sl 0 .lit [])) ∧
      ∀ j, j < i → ∃ e, es[j]? = some e ∧ Row h2 (off + 20 + deepStep * (j + 1)) 3 1 1 e (ints (nthL (xssOf v) j))) ?_ ?_
  · refine ⟨_, by simp, by simp, by simp; rfl, fun x hx => by simp [hset]; omega, List.replicate (xssOf v).length (.sl 0 .lit []), by simp [hset], by simp, fun j hj _ => by simp [hj], fun j hj => by omega⟩
  rintro i s h2 hi ⟨g, h4, h0, h3, hfr, es, hes, hel, hun, hrs⟩
  by_cases hi2 : i < (xssOf v).length
  · have hr := hv.row i hi2
    have hx := xssOf_row hi2
    have hli := hle i hi2
    have hcnt : cntK h2 (off + 7) = i := by
      simp only [cntK, hes]
      rw [List.findIdx_eq (by omega)]
      refine ⟨?_, fun j hj => ?_⟩
      · have := hun i hi2 (Nat.le_refl _)
        rw [List.getElem?_eq_getElem (by omega)] at this
        rw [Option.some.inj this]; rfl
      · obtain ⟨e, he, hE⟩ := hrs j hj
        rw [List.getElem?_eq_getElem (by omega)] at he
        rw [Option.some.inj he, (row_unset hE).1]
    repeat' (first | (apply brI <;> intro hb hb2 <;> (try simp [-Int.not_le, -Int.not_lt, -Nat.not_le, -Nat.not_lt, -Nat.add_left_cancel_iff] at hb2)) | simp (maxSteps := 2000000) (disch := first | omega | assumption | simp [*]) [*, -Int.not_le, -Int.not_lt, -Nat.not_le, -Nat.not_lt, -Nat.add_left_cancel_iff, wrap_i64, wrap_u64, Try.f39, h4, h0, h3, isLL_len hv, isLL_low hv, isLL_index hv, isLL_load hv, isI_low hr])
    refine cf_rowN (m := 7) (i := i) (by simpa [isI_low hr] using toIntS_c hr (by rw [hx]; omega)) (ownR_row ..) (flat_ints _) rfl hcnt ?_
    intro e m3 hE hfr3
    rw [hx] at hE
    have hne : off + 7 ≠ off + 20 + deepStep * (i + 1) := by unfold deepStep; omega
    have hes3 : m3 (off + 7) = some (.row g 22 1 es) := (hfr3 _ hne).trans hes
    have oe := hE.one
    have ce := hE.cells
    have hil : i < es.length := by rw [hel]; exact hi2
    have hui : es[i] = .sl 0 .lit [] := by
      have := hun i hi2 (Nat.le_refl _)
      rw [List.getElem?_eq_getElem (by omega)] at this
      exact Option.some.inj this
    have hput : putCells (.sl 0 .lit []) 0 e = some e := by
      unfold putCells
      rw [if_pos (by rw [ce]; simp [oe])]
      exact if_pos ⟨rfl, rfl, oe⟩
    clear hcnt
    repeat' (first | (apply brI <;> intro hb hb2 <;> (try simp [-Int.not_le, -Int.not_lt, -Nat.not_le, -Nat.not_lt, -Nat.add_left_cancel_iff] at hb2)) | (refine draw_listA (by rfl) (by kernel_rfl) ?_) | (refine draw_listB (by simp [allocsOf, isAlloc]; rfl) (by kernel_rfl) ?_) | simp (maxSteps := 2000000) (disch := first | omega | assumption | simp [*]) [*, -Int.not_le, -Int.not_lt, -Nat.not_le, -Nat.not_lt, -Nat.add_left_cancel_iff, wrap_i64, wrap_u64, h4, h0, h3, isLL_len hv, isLL_low hv, isLL_index hv, isLL_load hv, isI_low hr])
    refine ⟨fun x hx2 => ?_, fun j hj hj2 => ?_, fun j hj => ?_⟩
    · have a1 : x ≠ off + 7 := by omega
      rw [if_neg a1, hfr3 x (by unfold deepStep; omega), hfr x hx2]
    · rw [List.getElem?_set_ne (by omega)]; exact hun j hj (by omega)
    · by_cases e9 : j = i
      · subst e9
        exact ⟨e, List.getElem?_set_self hil, hE.keep (by rw [hset_other _ _ (Ne.symm hne)])⟩
      · obtain ⟨e2, he2, hE2⟩ := hrs j (by omega)
        refine ⟨e2, by rw [List.getElem?_set_ne (by omega)]; exact he2, hE2.keep ?_⟩
        rw [hset_other _ _ (by unfold deepStep; omega), hfr3 _ (by unfold deepStep; omega)]
  · obtain rfl : i = (xssOf v).length := by omega
    repeat' (first | (apply brI <;> intro hb hb2 <;> (try simp [-Int.not_le, -Int.not_lt, -Nat.not_le, -Nat.not_lt, -Nat.add_left_cancel_iff] at hb2)) | (refine draw_listA (by rfl) (by kernel_rfl) ?_) | (refine draw_listB (by simp [allocsOf, isAlloc]; rfl) (by kernel_rfl) ?_) | simp (maxSteps := 2000000) (disch := first | omega | assumption | simp [*]) [*, -Int.not_le, -Int.not_lt, -Nat.not_le, -Nat.not_lt, -Nat.add_left_cancel_iff, wrap_i64, wrap_u64, h4, h0, h3, isLL_len hv, isLL_low hv])
    exact hK _ _ ⟨g, es, rfl, hes, hel, hrs⟩ hfr
theorem toTable_o {u v : AV} {h : Heap} {off : Nat} {K : AV → Heap → Prop} (hu : IsI u) (hv : IsLL v) (hl : (xsOf u).length ≤ 1048576) (hl2 : szL v ≤ 1048576) (hK : ∀ a w h', Row h' (off + 6) 3 1 1 a (ints (xsOf u)) → Rows2 h' (off + farOff + 7) (off + farOff + 20) 22 3 w (xssOf v) → (∀ x, x < off → h' x = h x) → K (.agg [a, w]) h') : OpenTo env 17 [.agg [u, v]] h off K := by
  refine openTo_of (F := Try.f17) rfl rfl (Nat.le_of_ble_eq_true rfl) ?_
  have := hu.len
  have := hv.len
  have ou := isI_one hu
  have cu := isI_cells hu
  repeat' (first | (apply brI <;> intro hb hb2 <;> (try simp [-Int.not_le, -Int.not_lt, -Nat.not_le, -Nat.not_lt, -Nat.add_left_cancel_iff] at hb2)) | simp (maxSteps := 2000000) (disch := first | omega | assumption | simp [*]) [*, -Int.not_le, -Int.not_lt, -Nat.not_le, -Nat.not_lt, -Nat.add_left_cancel_iff, wrap_i64, wrap_u64, Try.f17, isI_cells hu, isI_one hu, isI_low hu, isLL_cells hv, isLL_one hv, isLL_low hv])
  refine cf_row (by simpa [isI_low hu] using toIntS_c hu (by omega)) (ownR_row ..) (flat_ints _) rfl ?_
  intro a h1 ha hf1
  have oa := ha.one
  have ca := ha.cells
  have p1 := hf1 (off + 1) (by omega)
  have p2 := hf1 (off + 2) (by omega)
  have p3 := hf1 (off + 3) (by omega)
  simp [hset] at p1 p2 p3
  repeat' (first | (apply brI <;> intro hb hb2 <;> (try simp [-Int.not_le, -Int.not_lt, -Nat.not_le, -Nat.not_lt, -Nat.add_left_cancel_iff] at hb2)) | (refine draw_listA (by rfl) (by kernel_rfl) ?_) | (refine draw_listB (by simp [allocsOf, isAlloc]; rfl) (by kernel_rfl) ?_) | simp (maxSteps := 2000000) (disch := first | omega | assumption | simp [*]) [*, -Int.not_le, -Int.not_lt, -Nat.not_le, -Nat.not_lt, -Nat.add_left_cancel_iff, wrap_i64, wrap_u64, isI_cells hu, isI_one hu, isI_low hu, isLL_cells hv, isLL_one hv, isLL_low hv])
  refine cf_open rfl rfl (toIntSS_o hv hl2 fun w h2 hw hf2 => ?_)
  have ow := hw.one
  have cw := hw.cells
  have q1 := hf2 (off + 1) (by unfold farOff; omega)
  have q2 := hf2 (off + 2) (by unfold farOff; omega)
  have q3 := hf2 (off + 3) (by unfold farOff; omega)
  have q6 := hf2 (off + 6) (by unfold farOff; omega)
  simp [hset, p1, p2, p3] at q1 q2 q3 q6
  repeat' (first | (apply brI <;> intro hb hb2 <;> (try simp [-Int.not_le, -Int.not_lt, -Nat.not_le, -Nat.not_lt, -Nat.add_left_cancel_iff] at hb2)) | (refine draw_listA (by rfl) (by kernel_rfl) ?_) | (refine draw_listB (by simp [allocsOf, isAlloc]; rfl) (by kernel_rfl) ?_) | simp (maxSteps := 2000000) (disch := first | omega | assumption | simp [*]) [*, -Int.not_le, -Int.not_lt, -Nat.not_le, -Nat.not_lt, -Nat.add_left_cancel_iff, wrap_i64, wrap_u64, isI_cells hu, isI_one hu, isI_low hu, isLL_cells hv, isLL_one hv, isLL_low hv])
  refine hK a w _ (ha.keep ?_) (hw.keep ?_ fun j hj => ?_) fun x hx => ?_
  · rw [hset_other _ _ (by omega), hset_other _ _ (by omega), q6]
  · rw [hset_other _ _ (by unfold farOff; omega), hset_other _ _ (by unfold farOff; omega)]
  · rw [hset_other _ _ (by unfold farOff deepStep; omega), hset_other _ _ (by unfold farOff deepStep; omega)]
  · rw [hset_other _ _ (by omega), hset_other _ _ (by omega), hf2 x (by unfold farOff; omega), hset_other _ _ (by omega), hf1 x (by omega)]
    rw [hset_other _ _ (by omega), hset_other _ _ (by omega), hset_other _ _ (by omega)]
theorem markIntSS_o {v : AV} {ko kr T1 : Nat} {xss : List (List Int)} {k : Int} {h : Heap} {off : Nat} {K : AV → Heap → Prop} (hR : Rows2 h ko kr T1 3 v xss) (hko : ko < kr) (h0 : 0 ≤ k) (h1 : k + sumTo xss xss.length ≤ 4611686018427387904) (hl : xss.length ≤ 1048576) (hK : ∀ h', (∀ x, x < kr → h' x = h x) → K (.int .i64 (k + sumTo xss xss.length)) h') : OpenTo env 44 [v, .int .i64 k] h off K := by
  refine openTo_of (F := Try.f44) rfl rfl (Nat.le_of_ble_eq_true rfl) ?_
  obtain ⟨g, es, rfl, hg, hel, hr⟩ := hR
  repeat' (first | (apply brI <;> intro hb hb2 <;> (try simp [-Int.not_le, -Int.not_lt, -Nat.not_le, -Nat.not_lt, -Nat.add_left_cancel_iff] at hb2)) | (refine draw_listA (by rfl) (by kernel_rfl) ?_) | (refine draw_listB (by simp [allocsOf, isAlloc]; rfl) (by kernel_rfl) ?_) | simp (maxSteps := 2000000) (disch := first | omega | assumption | simp [*]) [*, -Int.not_le, -Int.not_lt, -Nat.not_le, -Nat.not_lt, -Nat.add_left_cancel_iff, wrap_i64, wrap_u64, Try.f44])
  refine W_loopG xss.length (fun i s h2 => s 5 = .int .i64 i ∧ s 0 = .ms ko g 0 xss.length ∧ s 1 = .int .i64 (k + sumTo xss i) ∧ (∀ x, x < kr → h2 x = h x) ∧ ∀ j, i ≤ j → j < xss.length → h2 (kr + deepStep * (j + 1)) = h (kr + deepStep * (j + 1))) ?_ ?_
  · simp [sumTo]
  rintro i s h2 hi ⟨h5, h0, h1, hfr, hrs⟩
  by_cases hi2 : i < xss.length
  · obtain ⟨e, he, hE⟩ := hr i hi2
    have hil : i < es.length := by omega
    have hei : es[i] = e := by rw [List.getElem?_eq_getElem hil] at he; exact Option.some.inj he
    have hE2 := hE.keep (hrs i (Nat.le_refl _) hi2)
    have hg2 := (hfr ko hko).trans hg
    have oe := hE2.one
    have ce := hE2.cells
    have hm := sumTo_mono xss (i := i + 1) (j := xss.length) (by omega)
    have hs : sumTo xss (i + 1) = sumTo xss i + (nthL xss i).length := rfl
    repeat' (first | (apply brI <;> intro hb hb2 <;> (try simp [-Int.not_le, -Int.not_lt, -Nat.not_le, -Nat.not_lt, -Nat.add_left_cancel_iff] at hb2)) | simp (maxSteps := 2000000) (disch := first | omega | assumption | simp [*]) [*, -Int.not_le, -Int.not_lt, -Nat.not_le, -Nat.not_lt, -Nat.add_left_cancel_iff, wrap_i64, wrap_u64, Try.f44, h5, h0, h1])
    refine cf_open rfl rfl (markIntS_o hE2 (by omega) (by omega) fun h3 hE3 hf3 => ?_)
    have a1 : ∀ x, x < kr → h3 x = h x := fun x hx => by rw [hf3 x (by omega), hfr x hx]
    have a2 : ∀ j, i + 1 ≤ j → j < xss.length → h3 (kr + deepStep * (j + 1)) = h (kr + deepStep * (j + 1)) := fun j hj hj2 => by rw [hf3 _ (by unfold deepStep; omega), hrs j (by omega) hj2]
    clear hE hE2 hE3 hf3 hfr hrs hr
    repeat' (first | (apply brI <;> intro hb hb2 <;> (try simp [-Int.not_le, -Int.not_lt, -Nat.not_le, -Nat.not_lt, -Nat.add_left_cancel_iff] at hb2)) | (refine draw_listA (by rfl) (by kernel_rfl) ?_) | (refine draw_listB (by simp [allocsOf, isAlloc]; rfl) (by kernel_rfl) ?_) | simp (maxSteps := 2000000) (disch := first | omega | assumption | simp [*]) [*, -Int.not_le, -Int.not_lt, -Nat.not_le, -Nat.not_lt, -Nat.add_left_cancel_iff, wrap_i64, wrap_u64, h5, h0, h1])
    exact ⟨by omega, a1, a2⟩
  · obtain rfl : i = xss.length := by omega
    repeat' (first | (apply brI <;> intro hb hb2 <;> (try simp [-Int.not_le, -Int.not_lt, -Nat.not_le, -Nat.not_lt, -Nat.add_left_cancel_iff] at hb2)) | (refine draw_listA (by rfl) (by kernel_rfl) ?_) | (refine draw_listB (by simp [allocsOf, isAlloc]; rfl) (by kernel_rfl) ?_) | simp (maxSteps := 2000000) (disch := first | omega | assumption | simp [*]) [*, -Int.not_le, -Int.not_lt, -Nat.not_le, -Nat.not_lt, -Nat.add_left_cancel_iff, wrap_i64, wrap_u64, h5, h0, h1])
theorem markTable_o {a w : AV} {ka ko kr T1 : Nat} {xs : List Int} {xss : List (List Int)} {k : Int} {h : Heap} {off : Nat} {K : AV → Heap → Prop} (hA : Row h ka 3 1 1 a (ints xs)) (hR : Rows2 h ko kr T1 3 w xss) (hka : off + 2 < ka) (hko : ka < ko) (hkr : ko < kr) (h0 : 0 ≤ k) (h1 : k + xs.length + sumTo xss xss.length ≤ 4611686018427387904) (hl : xss.length ≤ 1048576) (hK : ∀ h', (∀ x, x < ka → x ≠ off + 2 → h' x = h x) → K (.int .i64 (k + xs.length + sumTo xss xss.length)) h') : OpenTo env 20 [.agg [a, w], .int .i64 k] h off K := by
  refine openTo_of (F := Try.f20) rfl rfl (Nat.le_of_ble_eq_true rfl) ?_
  have oa := hA.one
  have ca := hA.cells
  have ow := hR.one
  have cw := hR.cells
  repeat' (first | (apply brI <;> intro hb hb2 <;> (try simp [-Int.not_le, -Int.not_lt, -Nat.not_le, -Nat.not_lt, -Nat.add_left_cancel_iff] at hb2)) | (refine draw_listA (by rfl) (by kernel_rfl) ?_) | (refine draw_listB (by simp [allocsOf, isAlloc]; rfl) (by kernel_rfl) ?_) | simp (maxSteps := 2000000) (disch := first | omega | assumption | simp [*]) [*, -Int.not_le, -Int.not_lt, -Nat.not_le, -Nat.not_lt, -Nat.add_left_cancel_iff, wrap_i64, wrap_u64, Try.f20])
  refine cf_open rfl rfl (markIntS_o (hA.keep (by rw [hset_other _ _ (by omega)])) h0 (by omega) fun h2 hA2 hf2 => ?_)
  have p2 := hf2 (off + 2) (by omega)
  simp [hset] at p2
  repeat' (first | (apply brI <;> intro hb hb2 <;> (try simp [-Int.not_le, -Int.not_lt, -Nat.not_le, -Nat.not_lt, -Nat.add_left_cancel_iff] at hb2)) | (refine draw_listA (by rfl) (by kernel_rfl) ?_) | (refine draw_listB (by simp [allocsOf, isAlloc]; rfl) (by kernel_rfl) ?_) | simp (maxSteps := 2000000) (disch := first | omega | assumption | simp [*]) [*, -Int.not_le, -Int.not_lt, -Nat.not_le, -Nat.not_lt, -Nat.add_left_cancel_iff, wrap_i64, wrap_u64])
  refine cf_open rfl rfl (markIntSS_o (ko := ko) (kr := kr) (hR.keep ?_ fun j hj => ?_) hkr (by omega) h1 hl fun h3 hf3 => ?_)
  · rw [hf2 _ (by omega), hset_other _ _ (by omega)]
  · rw [hf2 _ (by omega), hset_other _ _ (by omega)]
  repeat' (first | (apply brI <;> intro hb hb2 <;> (try simp [-Int.not_le, -Int.not_lt, -Nat.not_le, -Nat.not_lt, -Nat.add_left_cancel_iff] at hb2)) | (refine draw_listA (by rfl) (by kernel_rfl) ?_) | (refine draw_listB (by simp [allocsOf, isAlloc]; rfl) (by kernel_rfl) ?_) | simp (maxSteps := 2000000) (disch := first | omega | assumption | simp [*]) [*, -Int.not_le, -Int.not_lt, -Nat.not_le, -Nat.not_lt, -Nat.add_left_cancel_iff, wrap_i64, wrap_u64])
  refine hK _ fun x hx hx2 => ?_
  rw [hf3 x (by omega), hf2 x (by omega), hset_other _ _ (by omega)]
end Go.Proofs.Ytppfgokonlloaaa
