/- The program's lectic sort at the list of all sets of up to six elements, as a contract of the evaluator. Conditions: the library's table of trailing zeros is laid. -/
import Derived.Test.YtlglhokpaplifaaGreatDoorSortA
namespace Go.Proofs.YtlglhokpaplifaaGreatDoor
open Go.RowKit Go.Lib Go.Sort Go.Shelf
set_option linter.unusedVariables false
set_option linter.unusedSimpArgs false

theorem putCells_enc (off : Nat) (d : Array (Fin 64)) (c : Array Value) : Sort.putCells encF off d c = Sort.putCells (Value.int .i64) off (intsF d.toList).toArray c := by
  unfold Sort.putCells
  congr 1
  funext k x
  have hs : (intsF d.toList).toArray.size = d.size := by simp [intsF]
  rw [hs]
  by_cases h : off ≤ k ∧ k < off + d.size
  · rw [if_pos h, if_pos h]
    have hk : k - off < d.size := by omega
    simp [encF, intsF, hk]
  · rw [if_neg h, if_neg h]
theorem putRow_enc (w : World) (g off : Nat) (d : Array (Fin 64)) : putRow encF w g off d = putRow (Value.int .i64) w g off (intsF d.toList).toArray := by
  unfold putRow
  rw [show Sort.putCells encF off d = Sort.putCells (Value.int .i64) off (intsF d.toList).toArray from funext fun c => putCells_enc off d c]
theorem holds_enc {w : World} {g : Nat} {l : List (Fin 64)} (h : Holds (Value.int .i64) w g 0 (intsF l).toArray) : Holds encF w g 0 l.toArray := by
  intro j hj
  have hj2 : j < l.length := by simpa using hj
  have := h j (by simpa [intsF] using hj2)
  simpa [intsF, encF, hj2] using this
/-- a row of numbers in a block -/
def HasRow (W : World) (g cap : Nat) (L : List Int) : Prop := ∃ cur, W.heap[g]? = some (.cells cur 3 (0, 0)) ∧ cur.size = cap ∧ L.length ≤ cap ∧ cap ≤ maxLen ∧ cur.toList.take L.length = L.map (Value.int .i64)
theorem laidT.grown {W W' : World} {g : Nat} (h : laidT W) (hg : W.grownBy W' (some g)) (h1 : g ≠ 1) : laidT W' := fun j hj => by
  have hb := hg.block 1 h.size (by simp; exact fun e => h1 e.symm)
  rw [World.cell?_of_block (w := W) (a := ⟨1, j, none⟩) hb]; exact h j hj
theorem grown_enc {W : World} {g m : Nat} {os : Array Obj} (d : Array (Fin 64)) : W.grownBy (sortWorld encF W g 0 m d os) (some g) := by
  unfold sortWorld
  rw [putRow_enc]
  exact grownBy_sortedI _
theorem intsF_len (l : List (Fin 64)) : (intsF l).length = l.length := by simp [intsF]
theorem sort_at {N : Nat} (hN : N ≤ 6) {W : World} {g cap : Nat} (hr : HasRow W g cap (intsF (setsF N))) (hT : laidT W) (hg : g ≠ 1) :
    Calls Tryz.prog 127 #[.slice (some ⟨g, 0, none⟩) (2 ^ N) cap, .func (.func 128) #[] #[]] W fun e w' => e = .returned (.tuple #[]) ∧ HasRow w' g cap (intsF (lecF N)) ∧ W.grownBy w' (some g) := by
  obtain ⟨cur, hb, hs, hl, hm, ht⟩ := hr
  have hH := holds_enc (holds_of_blockI hb ht)
  have hblk : g < W.heap.size := (Array.getElem?_eq_some_iff.1 hb).1
  have hp : 2 ^ N ≤ 64 := by have : 2 ^ N ≤ 2 ^ 6 := Nat.pow_le_pow_right (by decide) hN; omega
  have hsz : (setsF N).toArray.size = 2 ^ N := by simp [setsF]
  have hc : CmpReads Tryz.prog 128 #[] encF cfF g 0 (setsF N).toArray.size W := fun m os dk hdk x y => cmp_at x y _ (hT.grown (grown_enc dk) hg)
  have h := Any.slices_SortFunc_total Tryz.sortL encF (fun _ => rfl) cfF swoF 128 #[] g 0 cap (setsF N).toArray W eg75 hc.lays hH hblk (by rw [hsz]; omega) totF
  rw [hsz, List.toList_toArray, lecF_merge hN] at h
  change Calls Tryz.prog 127 _ _ _ at h
  refine h.mono ?_
  rintro e w' ⟨he, n, os, rfl⟩
  refine ⟨he, ?_, grown_enc _⟩
  unfold sortWorld
  rw [putRow_enc]
  rw [intsF_len, setsF_len] at hl
  refine ⟨_, heap_sortedI _ hb, by simp [Sort.putCells, hs], by rw [intsF_len, lecF_len hN]; exact hl, hm, ?_⟩
  exact take_putCellsI cur _ (by rw [intsF_len, lecF_len hN]; omega)
theorem comp_at {N : Nat} (hN : N ≤ 6) {W : World} {g cap : Nat} (hr : HasRow W g cap (intsF (lecF N))) :
    Calls Tryz.prog 129 #[.slice (some ⟨g, 0, none⟩) (2 ^ N) cap] W fun e w' => e = .returned (.slice (some ⟨g, 0, none⟩) (2 ^ N) cap) ∧ HasRow w' g cap (intsF (lecF N)) ∧ W.grownBy w' (some g) := by
  obtain ⟨cur, hb, hs, hl, hm, ht⟩ := hr
  have hp : 2 ^ N ≤ 64 := by have : 2 ^ N ≤ 2 ^ 6 := Nat.pow_le_pow_right (by decide) hN; omega
  have hsz : (intsF (lecF N)).length = 2 ^ N := by rw [intsF_len, lecF_len hN]
  have h := Any.slices_Compact_int Tryz.compactL g 0 cap (intsF (lecF N)) W (holds_of_blockI hb ht) (by omega) hl
  rw [lecF_compact ⟨N, by omega⟩, Nat.sub_self, List.replicate_zero, List.append_nil, hsz] at h
  change Calls Tryz.prog 129 _ _ _ at h
  refine h.mono ?_
  rintro e w' ⟨he, q, rfl⟩
  refine ⟨he, ?_, ?_⟩
  · have e1 := heap_sortedI (n := q) (os := #[]) (intsF (lecF N)).toArray hb
    rw [grow_empty] at e1
    exact ⟨_, e1, by simp [Sort.putCells, hs], hl, hm, take_putCellsI cur _ (by omega)⟩
  · have e1 := grownBy_sortedI (w := W) (g := g) (n := q) (os := #[]) (intsF (lecF N)).toArray
    rw [grow_empty] at e1
    exact e1
theorem intsF_getD (N : Nat) (j : Nat) (h : j < 2 ^ N) (hN : N ≤ 6) : (intsF (setsF N)).getD j 0 = j := by
  have hp : 2 ^ N ≤ 64 := by have : 2 ^ N ≤ 2 ^ 6 := Nat.pow_le_pow_right (by decide) hN; omega
  simp [intsF, setsF, List.getD, h]
  omega
theorem clone_at {N : Nat} (hN : N ≤ 6) {W : World} {b off c : Nat} (hc : ∀ j, j < 2 ^ N → W.cell? ⟨b, off + j, none⟩ = some (.int .i64 (j : Int))) :
    Calls Tryz.prog 126 #[.slice (some ⟨b, off, none⟩) (2 ^ N) c] W fun e w' => ∃ g cap, e = .returned (.slice (some ⟨g, 0, none⟩) (2 ^ N) cap) ∧ HasRow w' g cap (intsF (setsF N)) ∧ W.heap.size ≤ g ∧ Below W.heap.size W w' := by
  have hp : 2 ^ N ≤ 64 := by have : 2 ^ N ≤ 2 ^ 6 := Nat.pow_le_pow_right (by decide) hN; omega
  have hl : (intsF (setsF N)).length = 2 ^ N := by rw [intsF_len, setsF_len]
  have h := Any.slices_Clone_int Tryz.cloneL b off (2 ^ N) c (intsF (setsF N)) W (by omega) (by omega) (fun j hj => by rw [hl] at hj; rw [intsF_getD N j hj hN]; exact hc j hj)
  change Calls Tryz.prog 126 _ _ _ at h
  refine h.mono ?_
  rintro e w' ⟨v', rfl, hown, hnil, hb⟩
  rcases hown.2 with ⟨rfl, _⟩ | ⟨g, cap, cur, rfl, h1, h2, h3, h4, h5, h6⟩
  · exact (hnil rfl).elim
  · refine ⟨g, cap, rfl, ⟨cur, h2, by omega, by omega, h4, ?_⟩, h1, hb⟩
    rw [hl]
    rw [Nat.mul_one] at h6
    rw [h6, List.take_of_length_le (by omega)]
theorem contains_at {N : Nat} (hN : N ≤ 6) {W : World} {b off c : Nat} (hc : ∀ j, j < 2 ^ N → W.cell? ⟨b, off + j, none⟩ = some (.int .i64 (j : Int))) :
    Calls Tryz.prog 81 #[.slice (some ⟨b, off, none⟩) (2 ^ N) c, .func (.func 125) #[] #[]] W fun e w' => e = .returned (.bool false) ∧ ∃ q, w' = W.drewN q := by
  have hp : 2 ^ N ≤ 64 := by have : 2 ^ N ≤ 2 ^ 6 := Nat.pow_le_pow_right (by decide) hN; omega
  have h := AnyE.slices_ContainsFunc Tryz.containsL encF (fun _ => false) 125 #[] eg71 b off (2 ^ N) c (setsF N) W (fun W' x _ => not_at x.val x.isLt W') (by rw [setsF_len]; exact Nat.le_refl _) (by omega) (fun j hj => by
    rw [setsF_len] at hj
    rw [hc j hj]
    have e : (setsF N)[j]! = Fin.ofNat 64 j := by simp [setsF, hj]
    rw [e]
    simp [encF]
    omega)
  change Calls Tryz.prog 81 _ _ _ at h
  refine h.mono ?_
  rintro e w' ⟨rfl, q, rfl⟩
  refine ⟨by simp, q, rfl⟩
set_option maxHeartbeats 1000000 in
theorem lectic_at {N : Nat} (hN : N ≤ 6) {w : World} (hT : laidT w) {b off c : Nat} (hc : ∀ j, j < 2 ^ N → w.cell? ⟨b, off + j, none⟩ = some (.int .i64 (j : Int))) :
    Calls Tryz.prog 110 #[.slice (some ⟨b, off, none⟩) (2 ^ N) c] w fun e w' => ∃ g cap, e = .returned (.slice (some ⟨g, 0, none⟩) (2 ^ N) cap) ∧ HasRow w' g cap (intsF (lecF N)) ∧ w.heap.size ≤ g ∧ Below w.heap.size w w' := by
  have h1 := contains_at (c := c) hN hc
  have h2 : ∀ q, Calls Tryz.prog 126 #[.slice (some ⟨b, off, none⟩) (2 ^ N) c] (w.drewN q) fun e w' => ∃ g cap, e = .returned (.slice (some ⟨g, 0, none⟩) (2 ^ N) cap) ∧ HasRow w' g cap (intsF (setsF N)) ∧ w.heap.size ≤ g ∧ Below w.heap.size w w' := fun q =>
    (clone_at (W := w.drewN q) (c := c) hN hc).mono fun e w' ⟨g, cap, e1, e2, e3, e4⟩ => ⟨g, cap, e1, e2, e3, (below_drewN (Below.refl _ w) q).trans e4⟩
  have hT1 := hT.size
  have HC : Hid (laidT w) := hT
  have h3 : ∀ (g cap : Nat) (W : World), HasRow W g cap (intsF (setsF N)) → w.heap.size ≤ g → Below w.heap.size w W → Calls Tryz.prog 127 #[.slice (some ⟨g, 0, none⟩) (2 ^ N) cap, .func (.func 128) #[] #[]] W fun e w' => e = .returned (.tuple #[]) ∧ HasRow w' g cap (intsF (lecF N)) ∧ Below w.heap.size w w' := fun g cap W hr hg hb =>
    (sort_at hN hr (hT.keep hT1 hb) (by omega)).mono fun e w' ⟨e1, e2, e3⟩ => ⟨e1, e2, hb.grown e3 hb.size (fun k hk => by obtain rfl := Option.some.inj hk; exact hg)⟩
  have h4 : ∀ (g cap : Nat) (W : World), HasRow W g cap (intsF (lecF N)) → w.heap.size ≤ g → Below w.heap.size w W → Calls Tryz.prog 129 #[.slice (some ⟨g, 0, none⟩) (2 ^ N) cap] W fun e w' => e = .returned (.slice (some ⟨g, 0, none⟩) (2 ^ N) cap) ∧ HasRow w' g cap (intsF (lecF N)) ∧ Below w.heap.size w w' := fun g cap W hr hg hb =>
    (comp_at hN hr).mono fun e w' ⟨e1, e2, e3⟩ => ⟨e1, e2, hb.grown e3 hb.size (fun k hk => by obtain rfl := Option.some.inj hk; exact hg)⟩
  clear hT hc
  go_enter Tryz.func110, Tryz.ntmps110
  go_wp2_with (first | (go_at_call 81; refine h1.mono ?_; rintro e w' ⟨rfl, q, rfl⟩) | (go_at_call 126; refine (h2 _).mono ?_; rintro e w2 ⟨g, cap, rfl, hr2, hg, hb2⟩) | (go_at_call 127; refine (h3 _ _ _ hr2 hg hb2).mono ?_; rintro e w3 ⟨rfl, hr3, hb3⟩) | (go_at_call 129; refine (h4 _ _ _ hr3 hg hb3).mono ?_; rintro e w4 ⟨rfl, hr4, hb4⟩))
  go_ret
  exact ⟨_, _, rfl, hr4, hg, hb4⟩
open Ev in
/-- what is told of a call, where the world is as it must be -/
def ExtOkI (inv : World → Prop) (P : Program) (f : Nat) (F : List AV → Option AV) : Prop := (∃ fn, P.funcs[f]? = some fn ∧ fn.name ≠ "runtime.NumGoroutine" ∧ fn.body.isSome = true) ∧ ∀ args res, F args = some res → ∀ (w : World) (B : Nat → Nat → Prop) (M : Mp) (rargs : List Value),
    inv w → VRl args (cx B w.heap.size w hnil M) rargs → Calls P f rargs.toArray w fun e w' => ∃ rv, e = .returned rv ∧ Below w.heap.size w w' ∧ VR res (extCx B w w') rv
open Ev Classical in
noncomputable def sortF : List AV → Option AV
  | [.sl 1 o es] => if h : o.safe = true ∧ ∃ N, N ≤ 6 ∧ es = ints (intsF (setsF N)) then some (.sl 1 .no (ints (intsF (lecF (Classical.choose h.2))))) else none
  | _ => none
open Ev in
theorem ints_inj {a b : List Int} (h : ints a = ints b) : a = b := by
  have := congrArg (List.map fun v : AV => match v with | .int _ n => n | _ => 0) h
  simpa [ints, List.map_map, Function.comp_def] using this
theorem pow_inj : ∀ a b : Fin 7, 2 ^ a.val = 2 ^ b.val → a.val = b.val := by decide +kernel
open Ev in
theorem sortF_eq {N : Nat} (hN : N ≤ 6) {o : Own} (ho : o.safe = true) : sortF [.sl 1 o (ints (intsF (setsF N)))] = some (.sl 1 .no (ints (intsF (lecF N)))) := by
  have h : o.safe = true ∧ ∃ N', N' ≤ 6 ∧ ints (intsF (setsF N)) = ints (intsF (setsF N')) := ⟨ho, N, hN, rfl⟩
  have hs := Classical.choose_spec h.2
  unfold sortF
  simp only
  rw [dif_pos h]
  have e := congrArg List.length (ints_inj hs.2)
  rw [intsF_len, intsF_len, setsF_len, setsF_len] at e
  have e2 : N = Classical.choose h.2 := pow_inj ⟨N, by omega⟩ ⟨Classical.choose h.2, by have := hs.1; omega⟩ e
  rw [← e2]
open Ev in
theorem vr_cells {B : Nat → Nat → Prop} {n0 : Nat} {w : World} {h : Heap} {M : Mp} {o : Own} {xs : List Int} {rv : Value} (hv : VR (.sl 1 o (ints xs)) (cx B n0 w h M) rv) (ho : o.safe = true) (hx : xs ≠ []) :
    ∃ b ofs cap, rv = .slice (some ⟨b, ofs, none⟩) xs.length cap ∧ ∀ j x, xs[j]? = some x → w.cell? ⟨b, ofs + j, none⟩ = some (.int .i64 x) := by
  have hne : ints xs ≠ [] := by simpa using hx
  have key : ∀ (c' : Cx) (C : CellP) b ofs, (∀ p i y, C p i y → w.cell? ⟨p, i, none⟩ = some y) → VRm (ints xs) c' C b ofs 1 → ∀ j x, xs[j]? = some x → w.cell? ⟨b, ofs + j, none⟩ = some (.int .i64 x) := by
    intro c' C b ofs hC hm j x hj
    obtain ⟨rv, h1, h2, h3⟩ := hm.get (i := j) (e := .int .i64 x) (by simp [ints, hj])
    simp only [VR] at h1
    subst h1
    have := h3 0 (.int .i64 x) (by simp [Value.cells])
    rw [Nat.add_zero, Nat.mul_one] at this
    exact hC _ _ _ this
  cases o <;> first | (cases ho; done) | skip
  all_goals
    simp only [VR] at hv
    obtain ⟨a, cap, rfl, _, _, _, h5, _⟩ := hv
    obtain ⟨b, ofs, rfl, hm⟩ := h5 hne
    refine ⟨b, ofs, cap, by simp, key _ _ b ofs (fun p i y hy => ?_) hm⟩
    exact hy.1
open Ev in
theorem vr_row {B : Nat → Nat → Prop} {w w' : World} {g cap : Nat} {L : List Int} (hr : HasRow w' g cap L) (hg : w.heap.size ≤ g) : VR (.sl 1 .no (ints L)) (extCx B w w') (.slice (some ⟨g, 0, none⟩) L.length cap) := by
  obtain ⟨cur, hb, hs, hl, hm, ht⟩ := hr
  simp only [VR]
  refine ⟨some ⟨g, 0, none⟩, cap, by simp, by simpa using hl, hm, ?_, ?_, trivial⟩
  · intro h; cases h
  intro _
  refine ⟨g, 0, rfl, ?_⟩
  have hv : ∀ L' : List Int, VRl (ints L') (extCx B w w').el (L'.map (Value.int .i64)) := by
    intro L'
    induction L' with
    | nil => simp [ints, VRl]
    | cons x xs ih => simp only [ints, List.map_cons, VRl]; exact ⟨_, _, rfl, by simp only [VR], ih⟩
  refine vrm_mk (hv L) (fun r hr => ?_) fun i r hr j x hj => ?_
  · simp only [List.mem_map] at hr
    obtain ⟨y, _, rfl⟩ := hr
    rfl
  · have hH := holds_of_blockI hb ht
    rw [List.getElem?_map, Option.map_eq_some_iff] at hr
    obtain ⟨y, hy, rfl⟩ := hr
    have hi : i < L.length := (List.getElem?_eq_some_iff.1 hy).1
    have h9 := (hH i (by simpa using hi)).1
    have hj0 : j = 0 ∧ x = .int .i64 y := by
      cases j with
      | zero => simpa [Value.cells, eq_comm] using hj
      | succ j => simp [Value.cells] at hj
    obtain ⟨rfl, rfl⟩ := hj0
    have e2 : L.toArray[i]! = y := by
      have := List.getElem?_eq_some_iff.1 hy
      simp [hi, this.2]
    rw [e2] at h9
    refine ⟨by simpa using h9, .inl hg⟩
open Ev in
theorem sortI_ok : ExtOkI laidT Tryz.prog 110 sortF := by
  refine ⟨⟨_, Tryz.func110, by simp [Tryz.f110], by simp [Tryz.f110]⟩, fun args res hr w B M rargs hT hv => ?_⟩
  unfold sortF at hr
  split at hr
  · rename_i o es
    split at hr
    · rename_i h
      obtain rfl := Option.some.inj hr
      obtain ⟨hN, he⟩ := Classical.choose_spec h.2
      generalize Classical.choose h.2 = N at hN he
      subst he
      simp only [VRl] at hv
      obtain ⟨r, _, rfl, hv, rfl⟩ := hv
      have hne : intsF (setsF N) ≠ [] := by
        intro e
        have h8 := congrArg List.length e
        rw [intsF_len, setsF_len, List.length_nil] at h8
        have h9 := Nat.two_pow_pos N
        omega
      obtain ⟨b, ofs, cap, rfl, hc⟩ := vr_cells hv h.1 hne
      rw [intsF_len, setsF_len]
      refine (lectic_at hN hT (c := cap) fun j hj => ?_).mono ?_
      · refine hc j _ ?_
        have hp : 2 ^ N ≤ 64 := by have : 2 ^ N ≤ 2 ^ 6 := Nat.pow_le_pow_right (by decide) hN; omega
        simp [intsF, setsF, hj]
        omega
      · rintro e w' ⟨g, cap', rfl, hr, hg, hb⟩
        refine ⟨_, rfl, hb, ?_⟩
        have := vr_row (B := B) hr hg
        rw [intsF_len, lecF_len hN] at this
        exact this
    · cases hr
  · cases hr
end Go.Proofs.YtlglhokpaplifaaGreatDoor
