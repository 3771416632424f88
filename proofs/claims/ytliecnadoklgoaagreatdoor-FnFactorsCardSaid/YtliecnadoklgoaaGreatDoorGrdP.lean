/- Greedy factors: plain Lean. Conditions: none. -/
import Derived.Test.YtliecnadoklgoaaGreatDoorStrP
namespace Go.Proofs.YtliecnadoklgoaaGreatDoor
open Ev
set_option linter.unusedVariables false
set_option linter.unusedSimpArgs false

def diI (x s : Int) : Int := ((diff x.toNat s.toNat : Nat) : Int)
theorem cnt_split : ∀ x s : Fin 64, cntI ((diff x.val s.val : Nat) : Int) + cntI ((x.val &&& s.val : Nat) : Int) = cntI (x.val : Int) := by decide +kernel
theorem dif_sub : ∀ x s : Fin 64, (x.val : Int) - ((x.val &&& s.val : Nat) : Int) = ((diff x.val s.val : Nat) : Int) ∧ diff x.val s.val < 64 := by decide +kernel
theorem cnt_split2 {x s : Int} (hx : 0 ≤ x ∧ x < 64) (hs : 0 ≤ s ∧ s < 64) : cntI (diI x s) + cntI (andI x s) = cntI x := by
  have := cnt_split ⟨x.toNat, by omega⟩ ⟨s.toNat, by omega⟩
  simp only [Int.toNat_of_nonneg hx.1] at this
  exact this
theorem dif_sub2 {x s : Int} (hx : 0 ≤ x ∧ x < 64) (hs : 0 ≤ s ∧ s < 64) : x - andI x s = diI x s ∧ 0 ≤ diI x s ∧ diI x s < 64 := by
  have := dif_sub ⟨x.toNat, by omega⟩ ⟨s.toNat, by omega⟩
  simp only [Int.toNat_of_nonneg hx.1] at this
  refine ⟨this.1, Int.natCast_nonneg _, ?_⟩
  unfold diI
  omega
/-- what a set of rows and a set of columns still cover -/
def gTo (f : Nat → Int) (e s : Int) : Nat → Int
  | 0 => 0
  | i + 1 => gTo f e s i + if PHas e i = true then cntI (andI (f i) s) else 0
theorem gTo_range (f : Nat → Int) (e s : Int) (i : Nat) : 0 ≤ gTo f e s i ∧ gTo f e s i ≤ 8 * i := by
  induction i with
  | zero => simp [gTo]
  | succ i ih =>
    have h := cntI_range (andI (f i) s)
    simp only [gTo]
    split <;> push_cast <;> omega
def tot (f : Nat → Int) : Nat → Int
  | 0 => 0
  | i + 1 => tot f i + cntI (f i)
theorem tot_range (f : Nat → Int) (i : Nat) : 0 ≤ tot f i ∧ tot f i ≤ 8 * i := by
  induction i with
  | zero => simp [tot]
  | succ i ih =>
    have h := cntI_range (f i)
    simp only [tot]
    push_cast; omega
def nxtF (e s : Int) (f : Nat → Int) : Nat → Int := fun g => if PHas e g = true then diI (f g) s else f g
def In64 (f : Nat → Int) : Prop := ∀ g, 0 ≤ f g ∧ f g < 64
theorem nxt_in {e s : Int} {f : Nat → Int} (hf : In64 f) (hs : 0 ≤ s ∧ s < 64) : In64 (nxtF e s f) := fun g => by
  unfold nxtF
  split
  · exact (dif_sub2 (hf g) hs).2
  · exact hf g
theorem tot_next {e s : Int} {f : Nat → Int} (hf : In64 f) (hs : 0 ≤ s ∧ s < 64) (G : Nat) : tot (nxtF e s f) G + gTo f e s G = tot f G := by
  induction G with
  | zero => simp [tot, gTo]
  | succ G ih =>
    simp only [tot, gTo]
    have h := cnt_split2 (hf G) hs
    have h5 : nxtF e s f G = if PHas e G = true then diI (f G) s else f G := rfl
    by_cases hp : PHas e G = true
    · rw [if_pos hp] at h5
      rw [h5, if_pos hp]; omega
    · rw [if_neg hp] at h5
      rw [h5, if_neg hp]; omega
def gn (F S : List Int) (G : Nat) (f : Nat → Int) (k : Nat) : Int := gTo f (nth F k) (nth S k) G
/-- the first of the best among the first k -/
def bst (F S : List Int) (G : Nat) (f : Nat → Int) : Nat → Nat
  | 0 => 0
  | k + 1 => if gn F S G f (bst F S G f k) < gn F S G f k then k else bst F S G f k
theorem bst_lt (F S : List Int) (G : Nat) (f : Nat → Int) {k : Nat} (h : 0 < k) : bst F S G f k < k := by
  induction k with
  | zero => omega
  | succ k ih =>
    unfold bst; split
    · omega
    · by_cases e : k = 0
      · subst e; simp [bst]
      · have := ih (by omega); omega
theorem bst_one (F S : List Int) (G : Nat) (f : Nat → Int) : bst F S G f 1 = 0 := by simp [bst]
def grun (F S : List Int) (G len : Nat) (f0 : Nat → Int) : Nat → List AV × (Nat → Int)
  | 0 => ([], f0)
  | i + 1 => if gn F S G (grun F S G len f0 i).2 (bst F S G (grun F S G len f0 i).2 len) = 0 then grun F S G len f0 i
    else ((grun F S G len f0 i).1 ++ [pr (nth F (bst F S G (grun F S G len f0 i).2 len)) (nth S (bst F S G (grun F S G len f0 i).2 len))], nxtF (nth F (bst F S G (grun F S G len f0 i).2 len)) (nth S (bst F S G (grun F S G len f0 i).2 len)) (grun F S G len f0 i).2)
theorem grun_succ (F S : List Int) (G len : Nat) (f0 : Nat → Int) (i : Nat) : grun F S G len f0 (i + 1) = if gn F S G (grun F S G len f0 i).2 (bst F S G (grun F S G len f0 i).2 len) = 0 then grun F S G len f0 i
    else ((grun F S G len f0 i).1 ++ [pr (nth F (bst F S G (grun F S G len f0 i).2 len)) (nth S (bst F S G (grun F S G len f0 i).2 len))], nxtF (nth F (bst F S G (grun F S G len f0 i).2 len)) (nth S (bst F S G (grun F S G len f0 i).2 len)) (grun F S G len f0 i).2) := rfl
theorem grun_stay {F S : List Int} {G len : Nat} {f0 : Nat → Int} {i : Nat} (h : gn F S G (grun F S G len f0 i).2 (bst F S G (grun F S G len f0 i).2 len) = 0) : ∀ j, i ≤ j → grun F S G len f0 j = grun F S G len f0 i := by
  intro j hj
  induction j with
  | zero => obtain rfl : i = 0 := by omega
            rfl
  | succ j ih =>
    by_cases e : i = j + 1
    · rw [e]
    · have h2 := ih (by omega)
      rw [grun_succ, h2, if_pos h]
theorem grun_len (F S : List Int) (G len : Nat) (f0 : Nat → Int) (i : Nat) : (grun F S G len f0 i).1.length ≤ i := by
  induction i with
  | zero => simp [grun]
  | succ i ih =>
    unfold grun; split
    · omega
    · simp; omega
theorem grun_pr (F S : List Int) (G len : Nat) (f0 : Nat → Int) (i : Nat) : ∀ e ∈ (grun F S G len f0 i).1, ∃ x y, e = pr x y := by
  induction i with
  | zero => intro e he; simp [grun] at he
  | succ i ih =>
    unfold grun; split
    · exact ih
    · intro e he
      rw [List.mem_append] at he
      rcases he with h | h
      · exact ih e h
      · simp at h; exact ⟨_, _, h⟩
/-- what is so while something is still gained -/
def GInv (F S : List Int) (G len : Nat) (f0 : Nat → Int) (i : Nat) (es : List AV) (f : Nat → Int) : Prop := grun F S G len f0 i = (es, f) ∧ In64 f ∧ tot f G + i ≤ 64
theorem ginv_zero {F S : List Int} {G len : Nat} {f0 : Nat → Int} (h0 : In64 f0) (hG : G ≤ 8) : GInv F S G len f0 0 [] f0 := ⟨rfl, h0, by have := (tot_range f0 G).2; simp; omega⟩
theorem ginv_next {F S : List Int} {G len : Nat} {f0 f : Nat → Int} {i : Nat} {es : List AV} (h : GInv F S G len f0 i es f) (hs : 0 ≤ nth S (bst F S G f len) ∧ nth S (bst F S G f len) < 64) (hg : gn F S G f (bst F S G f len) ≠ 0) :
    i < 64 ∧ GInv F S G len f0 (i + 1) (es ++ [pr (nth F (bst F S G f len)) (nth S (bst F S G f len))]) (nxtF (nth F (bst F S G f len)) (nth S (bst F S G f len)) f) := by
  obtain ⟨h1, h2, h3⟩ := h
  have h4 := tot_next (e := nth F (bst F S G f len)) h2 hs G
  have h5 := (gTo_range f (nth F (bst F S G f len)) (nth S (bst F S G f len)) G).1
  have h6 := (tot_range (nxtF (nth F (bst F S G f len)) (nth S (bst F S G f len)) f) G).1
  unfold gn at hg
  refine ⟨by omega, ?_, nxt_in h2 hs, by push_cast; omega⟩
  rw [grun_succ, h1]
  exact if_neg hg
theorem ginv_end {F S : List Int} {G len : Nat} {f0 f : Nat → Int} {i : Nat} {es : List AV} (h : GInv F S G len f0 i es f) (hi : i ≤ 64) (hg : gn F S G f (bst F S G f len) = 0) : (grun F S G len f0 64).1 = es := by
  have h1 := h.1
  rw [grun_stay (i := i) (by rw [h1]; exact hg) 64 hi, h1]
/- sums over elements -/
def sumE (f : Nat → Int) (s : Int) (es : List Int) : Nat → Int
  | 0 => 0
  | j + 1 => sumE f s es j + cntI (andI (f (nth es j).toNat) s)
theorem sumE_range (f : Nat → Int) (s : Int) (es : List Int) (j : Nat) : 0 ≤ sumE f s es j ∧ sumE f s es j ≤ 8 * j := by
  induction j with
  | zero => simp [sumE]
  | succ j ih =>
    have h := cntI_range (andI (f (nth es j).toNat) s)
    simp only [sumE]
    push_cast; omega
theorem sumE_list (f : Nat → Int) (s : Int) (es : List Int) : sumE f s es es.length = (es.map fun e => cntI (andI (f e.toNat) s)).sum := by
  have h : ∀ j, j ≤ es.length → sumE f s es j = ((es.take j).map fun e => cntI (andI (f e.toNat) s)).sum := by
    intro j
    induction j with
    | zero => simp [sumE]
    | succ j ih =>
      intro hj
      have ht : es.take (j + 1) = es.take j ++ [nth es j] := by rw [List.take_add_one, nth_get? (by omega)]; rfl
      simp only [sumE]
      rw [ih (by omega), ht]
      simp
  have := h es.length (Nat.le_refl _)
  rwa [List.take_length] at this
theorem gTo_list (f : Nat → Int) (e s : Int) (n : Nat) : gTo f e s n = (((List.range n).filter fun i : Nat => PHas e i).map fun i => cntI (andI (f i) s)).sum := by
  induction n with
  | zero => simp [gTo]
  | succ n ih =>
    rw [List.range_succ, List.filter_append, List.map_append, List.sum_append, ← ih]
    simp only [gTo]
    by_cases h : PHas e n = true
    · simp [h]
    · simp [h]
theorem gTo_cut {f : Nat → Int} {e s : Int} {G : Nat} (hp : PSet G e = true) {n : Nat} (hn : G ≤ n) : gTo f e s n = gTo f e s G := by
  induction n with
  | zero => obtain rfl : G = 0 := by omega
            rfl
  | succ n ih =>
    by_cases e1 : G = n + 1
    · rw [e1]
    · have h : ¬ PHas e n = true := fun h => by have := phas_lt hp h; omega
      simp only [gTo, h, if_false]
      rw [ih (by omega)]
      simp
theorem sumE_all {f : Nat → Int} {e s : Int} {G : Nat} (hG : G ≤ 8) (hp : PSet G e = true) : sumE f s (elemsTo e 8) (elemsTo e 8).length = gTo f e s G := by
  rw [sumE_list, ← gTo_cut hp hG, gTo_list]
  have h8 := pset8 hp
  unfold elemsTo
  rw [List.map_map]
  congr 1
  have : ((List.range 8).filter fun i : Nat => PSet 8 e && PHas e i) = (List.range 8).filter fun i : Nat => PHas e i := by
    congr 1; funext i; rw [h8, Bool.true_and]
  rw [this]
  rfl
/-- the first i of the elements taken away -/
def cutE (f : Nat → Int) (s : Int) (es : List Int) (j : Nat) : Nat → Int := fun g => if (g : Int) ∈ es.take j then diI (f g) s else f g
theorem cutE_all {f : Nat → Int} {e s : Int} {G : Nat} (hp : PSet G e = true) : cutE f s (elemsTo e 8) (elemsTo e 8).length = nxtF e s f := by
  funext g
  unfold cutE nxtF
  rw [List.take_length]
  have h8 := pset8 hp
  by_cases h : PHas e g = true
  · obtain ⟨k, hk, h9⟩ := elems_mem (s := e) (m := g) (by have := phas_lt h8 h; omega) h8 h
    have hm : (g : Int) ∈ elemsTo e 8 := by rw [← h9, nth_eq hk]; exact List.getElem_mem hk
    rw [if_pos hm, if_pos h]
  · have hm : ¬ (g : Int) ∈ elemsTo e 8 := fun hm => by
      obtain ⟨k, hk, h9⟩ := List.getElem_of_mem hm
      obtain ⟨m, a, b, c, d⟩ := mem_elems hk
      rw [nth_eq hk, h9] at a
      have : g = m := by omega
      subst this
      exact h d
    rw [if_neg hm, if_neg h]
noncomputable def grdL (n : Int) (xs : List Int) : List AV := if PCtx n xs then (grun (fsts (conW n xs)) (snds (conW n xs)) xs.length (conL n xs).length (fun g => nth xs g) 64).1 else []
theorem grdL_len (n : Int) (xs : List Int) : (grdL n xs).length ≤ 64 := by
  unfold grdL; split
  · exact grun_len ..
  · simp
theorem grdL_pr (n : Int) (xs : List Int) : ∀ e ∈ grdL n xs, ∃ x y, e = pr x y := by
  unfold grdL; split
  · exact grun_pr _ _ _ _ _ _
  · intro e he; simp at he
end Go.Proofs.YtliecnadoklgoaaGreatDoor
