/- The reference's reduced context: its steps; plain Lean. Conditions: none. -/
import Derived.Test.YtliecnadoklgoaaGreatDoorPartsB
import Derived.Test.YtliecnadoklgoaaGreatDoorRed
namespace Go.Proofs.YtliecnadoklgoaaGreatDoor
open Ev
set_option linter.unusedVariables false
set_option linter.unusedSimpArgs false
set_option maxHeartbeats 4000000

theorem phas_eq {s t : Int} (hs : 0 ≤ s) (ht : 0 ≤ t) (h : ∀ i : Nat, PHas s i = PHas t i) : s = t :=
  int_bits hs ht fun i => by rw [← phas_nat hs, ← phas_nat ht]; exact h i
theorem mem_nth {xs : List Int} {r : Int} : r ∈ xs ↔ ∃ k, k < xs.length ∧ nth xs k = r := by
  constructor
  · intro h
    obtain ⟨k, hk, e⟩ := List.getElem_of_mem h
    exact ⟨k, hk, by rw [nth_eq hk, e]⟩
  · rintro ⟨k, hk, rfl⟩
    rw [nth_eq hk]; exact List.getElem_mem hk
theorem col_bit {xs : List Int} {m g : Nat} : PHas (Col xs m) g = true ↔ g < xs.length ∧ PHas (nth xs g) m = true := by
  unfold Col; rw [setOf_has, Bool.and_eq_true, decide_eq_true_eq]
/- what is clarified -/
theorem inB_mem {xs : List Int} {x : Int} : inB xs x = true ↔ x ∈ xs := by
  unfold inB
  rw [List.any_eq_true, mem_nth]
  simp only [List.mem_range, decide_eq_true_eq]
/-- the rows, each once -/
def dedR (xs : List Int) : Nat → List Int
  | 0 => []
  | k + 1 => if inB (dedR xs k) (nth xs k) = true then dedR xs k else dedR xs k ++ [nth xs k]
theorem dedR_len (xs : List Int) : ∀ k, (dedR xs k).length ≤ k
  | 0 => by simp [dedR]
  | k + 1 => by
    have := dedR_len xs k
    unfold dedR
    split
    · omega
    · simp; omega
theorem mem_ded {xs : List Int} {r : Int} : ∀ {k}, r ∈ dedR xs k ↔ ∃ i, i < k ∧ nth xs i = r
  | 0 => by simp [dedR]
  | k + 1 => by
    have ih := mem_ded (xs := xs) (r := r) (k := k)
    unfold dedR
    split
    · rename_i hb
      rw [ih]
      constructor
      · rintro ⟨i, hi, e⟩; exact ⟨i, by omega, e⟩
      · rintro ⟨i, hi, e⟩
        by_cases h : i = k
        · subst h
          rw [inB_mem, e, ih] at hb
          exact hb
        · exact ⟨i, by omega, e⟩
    · rw [List.mem_append, ih, List.mem_singleton]
      constructor
      · rintro (⟨i, hi, e⟩ | e)
        · exact ⟨i, by omega, e⟩
        · exact ⟨k, by omega, e.symm⟩
      · rintro ⟨i, hi, e⟩
        by_cases h : i = k
        · subst h; exact .inr e.symm
        · exact .inl ⟨i, by omega, e⟩
theorem ded_nodup (xs : List Int) : ∀ k, (dedR xs k).Nodup
  | 0 => by simp [dedR]
  | k + 1 => by
    have ih := ded_nodup xs k
    unfold dedR
    split
    · exact ih
    · rename_i hb
      rw [List.nodup_append]
      refine ⟨ih, by simp, fun a ha b hb2 e => hb ?_⟩
      rw [List.mem_singleton] at hb2
      rw [inB_mem, ← hb2, ← e]; exact ha
theorem ded_all {xs : List Int} {r : Int} : r ∈ dedR xs xs.length ↔ r ∈ xs := by rw [mem_ded, mem_nth]
theorem nodup_nth {xs : List Int} (h : xs.Nodup) {i j : Nat} (hi : i < xs.length) (hj : j < xs.length) (e : nth xs i = nth xs j) : i = j := by
  rw [nth_eq hi, nth_eq hj] at e
  have hd := List.pairwise_iff_getElem.1 h
  by_cases h1 : i < j
  · exact absurd e (hd i j hi hj h1)
  · by_cases h2 : j < i
    · exact absurd e.symm (hd j i hj hi h2)
    · omega
theorem ded_full {xs : List Int} : ∀ {k}, (dedR xs k).length = k → ∀ i j, i < k → j < k → nth xs i = nth xs j → i = j
  | 0, _, i, j, hi, _, _ => by omega
  | k + 1, h, i, j, hi, hj, e => by
    have hl := dedR_len xs k
    unfold dedR at h
    split at h
    · omega
    · rename_i hb
      have h' : (dedR xs k).length = k := by simpa using h
      have ih := ded_full (xs := xs) h'
      have hno : ∀ i, i < k → nth xs i ≠ nth xs k := fun i hi e => hb (by rw [inB_mem, mem_ded]; exact ⟨i, hi, e⟩)
      by_cases h1 : i = k
      · by_cases h2 : j = k
        · omega
        · rw [h1] at e; exact absurd e.symm (hno j (by omega))
      · by_cases h2 : j = k
        · rw [h2] at e; exact absurd e (hno i (by omega))
        · exact ih i j (by omega) (by omega) e
/-- the columns that are told before -/
def goneC (xs : List Int) (N : Nat) : Int := setOf (fun m => (List.range m).any fun n => decide (Col xs n = Col xs m)) N
def keepC (xs : List Int) (N : Nat) : Int := 2 ^ N - 1 - goneC xs N
theorem keep_has {xs : List Int} {N m : Nat} : PHas (keepC xs N) m = true ↔ m < N ∧ ∀ n, n < m → Col xs n ≠ Col xs m := by
  unfold keepC goneC
  rw [setOf_not, setOf_has, Bool.and_eq_true, decide_eq_true_eq, Bool.not_eq_true', List.any_eq_false]
  simp only [List.mem_range, decide_eq_true_eq]
theorem keep_set {xs : List Int} {N : Nat} (h : N ≤ 8) : PSet N (keepC xs N) = true := by
  unfold keepC goneC
  rw [setOf_not]; exact setOf_pset _ h
theorem keep_rep {xs : List Int} {N : Nat} : ∀ {m : Nat}, m < N → ∃ m' : Nat, PHas (keepC xs N) m' = true ∧ Col xs m' = Col xs m := by
  intro m
  induction m using Nat.strongRecOn with
  | _ m ih =>
    intro hm
    by_cases h : ∃ n, n < m ∧ Col xs n = Col xs m
    · obtain ⟨n, hn, e⟩ := h
      obtain ⟨m', h1, h2⟩ := ih n hn (by omega)
      exact ⟨m', h1, h2.trans e⟩
    · exact ⟨m, keep_has.2 ⟨hm, fun n hn e => h ⟨n, hn, e⟩⟩, rfl⟩
theorem keep_inj {xs : List Int} {N m n : Nat} (hm : PHas (keepC xs N) m = true) (hn : PHas (keepC xs N) n = true) (e : Col xs m = Col xs n) : m = n := by
  have h1 := keep_has.1 hm
  have h2 := keep_has.1 hn
  by_cases h : m < n
  · exact absurd e (h2.2 m h)
  · by_cases h' : n < m
    · exact absurd e.symm (h1.2 n h')
    · omega
/-- columns by their rows -/
def ColEq (R : List Int) (n m : Nat) : Prop := ∀ r ∈ R, PHas r n = PHas r m
def ColLe (R : List Int) (m n : Nat) : Prop := ∀ r ∈ R, PHas r m = true → PHas r n = true
theorem col_le {xs : List Int} {m n : Nat} : PSub (Col xs m) (Col xs n) = true ↔ ColLe xs m n := by
  rw [col_sub]
  constructor
  · intro h r hr
    obtain ⟨g, hg, rfl⟩ := mem_nth.1 hr
    exact h g hg
  · exact fun h g hg => h _ (mem_nth.2 ⟨g, hg, rfl⟩)
theorem col_eq {xs : List Int} {m n : Nat} : Col xs m = Col xs n ↔ ColEq xs m n := by
  constructor
  · intro h r hr
    have h1 := col_le.1 (show PSub (Col xs m) (Col xs n) = true by rw [h]; exact psub_refl _) r hr
    have h2 := col_le.1 (show PSub (Col xs n) (Col xs m) = true by rw [h]; exact psub_refl _) r hr
    rw [Bool.eq_iff_iff]; exact ⟨h1, h2⟩
  · intro h
    exact psub_antisymm (col_nn ..) (col_nn ..) (col_le.2 fun r hr hm => by rw [← h r hr]; exact hm) (col_le.2 fun r hr hm => by rw [h r hr]; exact hm)
theorem mem_stay {xs : List Int} {o : Int} {r : Int} : ∀ {k}, r ∈ stayR xs o k ↔ ∃ i, i < k ∧ PHas o i = false ∧ nth xs i = r
  | 0 => by simp [stayR]
  | k + 1 => by
    have ih := mem_stay (xs := xs) (o := o) (r := r) (k := k)
    unfold stayR
    split
    · rename_i h
      rw [ih]
      constructor
      · rintro ⟨i, hi, h1⟩; exact ⟨i, by omega, h1⟩
      · rintro ⟨i, hi, h1, h2⟩
        by_cases e : i = k
        · subst e; rw [h] at h1; cases h1
        · exact ⟨i, by omega, h1, h2⟩
    · rename_i h
      rw [List.mem_append, ih, List.mem_singleton]
      constructor
      · rintro (⟨i, hi, h1⟩ | e)
        · exact ⟨i, by omega, h1⟩
        · exact ⟨k, by omega, by simpa using h, e.symm⟩
      · rintro ⟨i, hi, h1, h2⟩
        by_cases e : i = k
        · subst e; exact .inr h2.symm
        · exact .inl ⟨i, by omega, h1, h2⟩
theorem pack_nth {xs : List Int} {kp : Int} : ∀ {K i : Nat}, i < K → nth (packR xs kp K) i = Pack (nth xs i) kp
  | 0, i, h => by omega
  | K + 1, i, h => by
    unfold packR
    by_cases e : i = K
    · subst e
      have := packR_len xs kp i
      conv => lhs; arg 2; rw [← this]
      exact nth_appR
    · rw [nth_appL (by rw [packR_len]; omega)]
      exact pack_nth (by omega)
theorem elems_not {p : Nat → Bool} {N : Nat} (h : N ≤ 8) : (elemsTo (2 ^ N - 1 - setOf p N) 8).length = ((List.range N).filter fun m => !p m).length := by
  have hp : PSet N (2 ^ N - 1 - setOf p N) = true := by rw [setOf_not]; exact setOf_pset _ h
  rw [elems_top hp]
  unfold elemsTo
  rw [List.length_map]
  congr 1
  refine List.filter_congr fun m hm => ?_
  rw [List.mem_range] at hm
  rw [pset8 hp, setOf_not, setOf_has]
  simp [hm]
/- the steps of the reference -/
def clX (xs : List Int) : List Int := dedR xs xs.length
def clKp (xs : List Int) (N : Nat) : Int := keepC (clX xs) N
def clN (xs : List Int) (N : Nat) : Nat := (elemsTo (clKp xs N) 8).length
def clR (xs : List Int) (N : Nat) : List Int := packR (clX xs) (clKp xs N) (clX xs).length
def goO (xs : List Int) (N : Nat) : Int := setOf (fun g => decide (upO xs N g xs.length = nth xs g)) xs.length
def goA (xs : List Int) (N : Nat) : Int := setOf (fun m => decide (upC xs m N = Col xs m)) N
def rdZ (xs : List Int) (N : Nat) : List Int := stayR (clR xs N) (goO (clR xs N) (clN xs N)) (clR xs N).length
def rdKp (xs : List Int) (N : Nat) : Int := 2 ^ (clN xs N) - 1 - goA (rdZ xs N) (clN xs N)
def rdN (xs : List Int) (N : Nat) : Nat := (elemsTo (rdKp xs N) 8).length
def rdR (xs : List Int) (N : Nat) : List Int := packR (rdZ xs N) (rdKp xs N) (rdZ xs N).length
theorem clX_len (xs : List Int) : (clX xs).length ≤ xs.length := dedR_len _ _
theorem clX_ctx {N : Nat} {xs : List Int} (hc : PCtx N xs) : PCtx N (clX xs) := ⟨hc.1, hc.2.1, Nat.le_trans (clX_len xs) hc.2.2.1, fun k hk => by
  obtain ⟨j, hj, e⟩ := mem_nth.1 (ded_all.1 (mem_nth.2 ⟨k, hk, rfl⟩))
  have e2 : nth xs j = nth (clX xs) k := e
  rw [← e2]; exact hc.2.2.2 j hj⟩
theorem clN_le {N : Nat} {xs : List Int} (hc : PCtx N xs) : clN xs N ≤ N := by
  have hN := hc.2.1
  unfold clN
  have hk : PSet N (clKp xs N) = true := keep_set (by omega)
  rw [elems_top hk]
  exact elemsTo_len _ _
@[simp] theorem clR_len (xs : List Int) (N : Nat) : (clR xs N).length = (clX xs).length := packR_len ..
theorem clR_ctx {N : Nat} {xs : List Int} (hc : PCtx N xs) : PCtx (clN xs N) (clR xs N) := by
  have h1 := clN_le hc
  have h2 := hc.2.1
  have h3 := clX_len xs
  have h4 := hc.2.2.1
  refine ⟨by omega, by omega, by rw [clR_len]; omega, fun k hk => ?_⟩
  rw [clR_len] at hk
  unfold clR
  rw [pack_nth hk]
  exact pack_pset _
theorem rdZ_ctx {N : Nat} {xs : List Int} (hc : PCtx N xs) : PCtx (clN xs N) (rdZ xs N) := by
  have h := clR_ctx hc
  refine ⟨h.1, h.2.1, Nat.le_trans (stayR_len _ _ _) h.2.2.1, fun k hk => ?_⟩
  obtain ⟨i, hi, _, e⟩ := mem_stay.1 (mem_nth.2 ⟨k, hk, rfl⟩)
  have e2 : nth (clR xs N) i = nth (rdZ xs N) k := e
  rw [← e2]; exact h.2.2.2 i hi
/-- a reduced context that is the context itself has each row and each column once -/
theorem red_self {N : Nat} {xs : List Int} (hc : PCtx N xs) (h1 : rdN xs N = N) (h2 : rdR xs N = xs) : (∀ i j, i < xs.length → j < xs.length → nth xs i = nth xs j → i = j) ∧ ∀ i j, i < N → j < N → Col xs i = Col xs j → i = j := by
  have h6 := (clR_ctx hc).2.1
  have hle := clN_le hc
  have h3 : clN xs N = N := by
    have : rdN xs N ≤ clN xs N := by
      unfold rdN rdKp goA
      rw [elems_not (by omega)]
      exact Nat.le_trans (List.length_filter_le ..) (by simp)
    omega
  have h4 : (clX xs).length = xs.length := by
    have a1 := congrArg List.length h2
    unfold rdR at a1
    rw [packR_len] at a1
    have a2 : (rdZ xs N).length ≤ (clR xs N).length := stayR_len ..
    rw [clR_len] at a2
    have a3 := clX_len xs
    omega
  refine ⟨fun i j hi hj e => ded_full h4 i j hi hj e, fun i j hi hj e => ?_⟩
  have h5 : ∀ m, m < N → PHas (clKp xs N) m = true := by
    have e1 : ((List.range N).filter fun m : Nat => !((List.range m).any fun n => decide (Col (clX xs) n = Col (clX xs) m))).length = N := by
      have := h3
      unfold clN clKp keepC goneC at this
      rw [elems_not (by omega)] at this
      exact this
    intro m hm
    have e2 := List.length_filter_eq_length_iff.1 (e1.trans (by simp : N = (List.range N).length)) m (List.mem_range.2 hm)
    unfold clKp keepC goneC
    rw [setOf_not, setOf_has]
    simpa [hm] using e2
  exact keep_inj (h5 i hi) (h5 j hj) (col_eq.2 fun r hr => col_eq.1 e r (ded_all.1 hr))
end Go.Proofs.YtliecnadoklgoaaGreatDoor
