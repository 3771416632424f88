/- Strong rules between concepts: plain Lean. Conditions: none. -/
import Derived.Test.YtliecnadoklgoaaGreatDoorLatP
namespace Go.Proofs.YtliecnadoklgoaaGreatDoor
open Ev
set_option linter.unusedVariables false
set_option linter.unusedSimpArgs false

/-- how many objects a set has -/
def cntI (s : Int) : Int := (elemsTo s 8).length
theorem cntI_range (s : Int) : 0 ≤ cntI s ∧ cntI s ≤ 8 := ⟨Int.natCast_nonneg _, by have := elemsTo_len s 8; unfold cntI; omega⟩
theorem filt_mono {p q : Nat → Bool} : ∀ (n : Nat), (∀ i, i < n → p i = true → q i = true) → ((List.range n).filter p).length ≤ ((List.range n).filter q).length
  | 0, _ => by simp
  | n + 1, h => by
    have ih := filt_mono (p := p) (q := q) n fun i hi => h i (by omega)
    rw [List.range_succ, List.filter_append, List.filter_append, List.length_append, List.length_append]
    have h2 := h n (by omega)
    cases hp : p n with
    | false => simp [hp]; omega
    | true => simp [hp, h2 hp]; omega
theorem filt_strict {p q : Nat → Bool} {j : Nat} (hj : p j = false) (hj2 : q j = true) : ∀ (n : Nat), j < n → (∀ i, i < n → p i = true → q i = true) → ((List.range n).filter p).length < ((List.range n).filter q).length
  | 0, h, _ => by omega
  | n + 1, hn, h => by
    rw [List.range_succ, List.filter_append, List.filter_append, List.length_append, List.length_append]
    by_cases e : j = n
    · subst e
      have ih := filt_mono (p := p) (q := q) j fun i hi => h i (by omega)
      simp [hj, hj2]; omega
    · have ih := filt_strict hj hj2 n (by omega) fun i hi => h i (by omega)
      have h2 := h n (by omega)
      cases hp : p n with
      | false => simp [hp]; omega
      | true => simp [hp, h2 hp]; omega
theorem cnt_strict {s t : Int} (hs : PSet 8 s = true) (ht : PSet 8 t = true) (h : PSub s t = true) (hne : s ≠ t) : cntI s < cntI t := by
  have hs0 := pset_nn hs
  have ht0 := pset_nn ht
  rw [psub_all hs0 ht0] at h
  have hex : ∃ j : Nat, j < 8 ∧ PHas s j = false ∧ PHas t j = true := by
    refine Classical.byContradiction fun hno => hne ?_
    refine psub_antisymm hs0 ht0 ((psub_all hs0 ht0).2 h) ((psub_all ht0 hs0).2 fun i hi => ?_)
    have h8 := phas_lt ht hi
    cases hc : PHas s i with
    | true => rfl
    | false => exact absurd ⟨i, by omega, hc, hi⟩ hno
  obtain ⟨j, hj8, hjs, hjt⟩ := hex
  have := filt_strict (p := fun e => PSet 8 s && PHas s e) (q := fun e => PSet 8 t && PHas t e) (j := j) (by simp [hs, hjs]) (by simp [ht, hjt]) 8 hj8 fun i _ hi => by
    simp only [hs, ht, Bool.true_and] at hi ⊢
    exact h i hi
  unfold cntI elemsTo
  rw [List.length_map, List.length_map]
  omega
/-- smaller intents have larger extents, and the other way round -/
theorem con_galois {n : Int} {xs : List Int} {a b : Nat} (ha : a < (conL n xs).length) (hb : b < (conL n xs).length) :
    PSub (nth (snds (conW n xs)) a) (nth (snds (conW n xs)) b) = PSub (nth (fsts (conW n xs)) b) (nth (fsts (conW n xs)) a) := by
  obtain ⟨hc, a1, a2⟩ := closed_get ha
  obtain ⟨_, b1, b2⟩ := closed_get hb
  obtain ⟨N, rfl⟩ : ∃ N : Nat, n = N := ⟨n.toNat, by have := hc.1; omega⟩
  simp only [Int.toNat_natCast] at a1 a2 b1 b2
  have hN8 : N ≤ 8 := by have := hc.2.1; omega
  have pa := pset_nat hN8 a1
  have pb := pset_nat hN8 b1
  rw [nthF ha, nthF hb, nthS ha, nthS hb]
  generalize (conL (N : Int) xs)[a] = s at *
  generalize (conL (N : Int) xs)[b] = t at *
  rw [Bool.eq_iff_iff]
  constructor
  · intro h
    rw [psub_all (ext_nn ..) (ext_nn ..)]
    intro k hk
    exact ext_anti hc pa pb h hk
  · intro h
    have hs : Clo xs N (s : Int) = s := by rw [← cloN_cast, a2]
    have ht : Clo xs N (t : Int) = t := by rw [← cloN_cast, b2]
    rw [← hs, ← ht]
    rw [psub_all (clo_nn ..) (clo_nn ..)]
    intro i hi
    unfold Clo at hi ⊢
    rw [int_has] at hi ⊢
    refine ⟨hi.1, fun k hk hE => hi.2 k hk ?_⟩
    exact (psub_all (ext_nn ..) (ext_nn ..)).1 h k hE
theorem S_inj {n : Int} {xs : List Int} {i j : Nat} (hi : i < (conL n xs).length) (hj : j < (conL n xs).length) (h : nth (snds (conW n xs)) i = nth (snds (conW n xs)) j) : i = j := by
  refine F_inj hi hj ?_
  rw [nthS hi, nthS hj] at h
  rw [nthF hi, nthF hj, h]
def strB (F : List Int) (num den : Int) (a b : Nat) : Bool := decide (a ≠ b) && PSub (nth F b) (nth F a) && decide (num * cntI (nth F a) ≤ cntI (nth F b) * den)
def strQ (F S : List Int) (num den : Int) (a b : Nat) : Bool := decide (nth S a ≠ nth S b) && PSub (nth S a) (nth S b) && decide (cntI (nth F b) < cntI (nth F a)) && decide (num * cntI (nth F a) ≤ cntI (nth F b) * den)
theorem F_set8 {n : Int} {xs : List Int} {k : Nat} (h : k < (conL n xs).length) : PSet 8 (nth (fsts (conW n xs)) k) = true := by
  rw [nthF h]; exact pset8 (ext_pset _ _ (closed_get h).1.2.2.1)
theorem str_eq {n : Int} {xs : List Int} {num den : Int} {a b : Nat} (ha : a < (conL n xs).length) (hb : b < (conL n xs).length) :
    strQ (fsts (conW n xs)) (snds (conW n xs)) num den a b = strB (fsts (conW n xs)) num den a b := by
  unfold strQ strB
  rw [con_galois ha hb]
  by_cases e : a = b
  · subst e; simp
  · have e1 : nth (snds (conW n xs)) a ≠ nth (snds (conW n xs)) b := fun h => e (S_inj ha hb h)
    cases hs : PSub (nth (fsts (conW n xs)) b) (nth (fsts (conW n xs)) a) with
    | false => simp
    | true =>
      have hlt := cnt_strict (F_set8 hb) (F_set8 ha) hs fun h => e (F_inj hb ha h).symm
      simp [e, e1, hlt]
def strRow (q : Nat → Nat → Bool) (S : List Int) (a : Nat) : Nat → List AV
  | 0 => []
  | k + 1 => strRow q S a k ++ if q a k then [pr (nth S a) (nth S k)] else []
def strAll (q : Nat → Nat → Bool) (S : List Int) (len : Nat) : Nat → List AV
  | 0 => []
  | a + 1 => strAll q S len a ++ strRow q S a len
theorem strRow_len (q : Nat → Nat → Bool) (S : List Int) (a k : Nat) : (strRow q S a k).length ≤ k := by
  induction k with
  | zero => simp [strRow]
  | succ k ih => simp only [strRow, List.length_append]; split <;> simp <;> omega
theorem strAll_len (q : Nat → Nat → Bool) (S : List Int) (len a : Nat) : (strAll q S len a).length ≤ len * a := by
  induction a with
  | zero => simp [strAll]
  | succ a ih => have := strRow_len q S a len; simp only [strAll, List.length_append, Nat.mul_succ]; omega
theorem strRow_congr {q q' : Nat → Nat → Bool} {S : List Int} {a k : Nat} (h : ∀ b, b < k → q a b = q' a b) : strRow q S a k = strRow q' S a k := by
  induction k with
  | zero => rfl
  | succ k ih => simp only [strRow]; rw [ih fun b hb => h b (by omega), h k (by omega)]
theorem strAll_congr {q q' : Nat → Nat → Bool} {S : List Int} {len a : Nat} (h : ∀ x, x < a → ∀ b, b < len → q x b = q' x b) : strAll q S len a = strAll q' S len a := by
  induction a with
  | zero => rfl
  | succ a ih => simp only [strAll]; rw [ih fun x hx => h x (by omega), strRow_congr fun b hb => h a (by omega) b hb]
theorem strRow_pr (q : Nat → Nat → Bool) (S : List Int) (a k : Nat) : ∀ e ∈ strRow q S a k, ∃ x y, e = pr x y := by
  induction k with
  | zero => simp [strRow]
  | succ k ih =>
    intro e he
    simp only [strRow, List.mem_append] at he
    rcases he with he | he
    · exact ih e he
    · split at he
      · simp at he; exact ⟨_, _, he⟩
      · simp at he
theorem strAll_pr (q : Nat → Nat → Bool) (S : List Int) (len a : Nat) : ∀ e ∈ strAll q S len a, ∃ x y, e = pr x y := by
  induction a with
  | zero => simp [strAll]
  | succ a ih =>
    intro e he
    simp only [strAll, List.mem_append] at he
    rcases he with he | he
    · exact ih e he
    · exact strRow_pr _ _ _ _ e he
def StrC (num den : Int) : Prop := (1 ≤ den ∧ den ≤ 100) ∧ 0 ≤ num ∧ num ≤ den
instance (num den : Int) : Decidable (StrC num den) := by unfold StrC; infer_instance
noncomputable def strL (n : Int) (xs : List Int) (num den : Int) : List AV := if StrC num den then strAll (strB (fsts (conW n xs)) num den) (snds (conW n xs)) (conL n xs).length (conL n xs).length else []
theorem strL_pr (n : Int) (xs : List Int) (num den : Int) : ∀ e ∈ strL n xs num den, ∃ x y, e = pr x y := by
  unfold strL; split
  · exact strAll_pr _ _ _ _
  · simp
theorem strL_len (n : Int) (xs : List Int) (num den : Int) : (strL n xs num den).length ≤ 4096 := by
  unfold strL; split
  · have h1 := strAll_len (strB (fsts (conW n xs)) num den) (snds (conW n xs)) (conL n xs).length (conL n xs).length
    have h2 := conL_len n xs
    have h3 : (conL n xs).length * (conL n xs).length ≤ 64 * 64 := Nat.mul_le_mul h2 h2
    omega
  · simp
/-- records, told by their parts -/
theorem prs_of {es : List AV} (h : ∀ e ∈ es, ∃ x y, e = pr x y) : es = prs (es.map fstI) (es.map sndI) := by
  apply List.ext_getElem (by simp)
  intro i h1 h2
  obtain ⟨x, y, e⟩ := h es[i] (List.getElem_mem h1)
  simp [prs, nth, h1, e, pr]
  exact ⟨rfl, rfl⟩
end Go.Proofs.YtliecnadoklgoaaGreatDoor
