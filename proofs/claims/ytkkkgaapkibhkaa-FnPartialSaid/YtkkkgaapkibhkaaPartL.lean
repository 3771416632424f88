/- Completions as contexts between what is sure and what may be; what a decided cell does to certain and possible rules: plain Lean. Conditions: none. -/
import Derived.Test.YtkkkgaapkibhkaaPoss2
import Derived.Test.YtkkkgaapkibhkaaDecide
namespace Go.Proofs.Ytkkkgaapkibhkaa
open Ev
set_option linter.unusedVariables false
set_option linter.unusedSimpArgs false

theorem psetNN {n s : Int} (h : PSet n s = true) : 0 ≤ s := (pset_lt h).1
/-- a context between what is sure and what may be -/
def IsComp (N : Nat) (ss ms R : List Int) : Prop := R.length = ss.length ∧ ∀ g, g < ss.length → PSet N (nth R g) = true ∧ ∀ m, m < N → (PHas (nth ss g) m = true → PHas (nth R g) m = true) ∧ (PHas (nth R g) m = true → PHas (nth ss g) m = true ∨ PHas (nth ms g) m = true)
theorem comp_is {N : Nat} {ss ms : List Int} (hp : PPart N ss ms) (k : Int) : IsComp N ss ms (comp N k ss ms) := by
  have hn := hp.1.2.1
  refine ⟨by simp [comp], fun g hg => ?_⟩
  have e : nth (comp N k ss ms) g = setOf (compBit k ss ms g) N := by unfold comp; rw [tab_nth _ hg]; rfl
  rw [e]
  refine ⟨setOf_pset _ (by omega), fun m hm => ?_⟩
  rw [setOf_has]
  simp only [hm, decide_true, Bool.true_and]
  unfold compBit
  constructor
  · intro h; rw [h]; rfl
  · intro h
    rw [Bool.or_eq_true, Bool.and_eq_true] at h
    rcases h with h | h
    · exact .inl h
    · exact .inr h.1
theorem row8 {N : Nat} {ss ms : List Int} (hp : PPart N ss ms) {g : Nat} (hg : g < ms.length) : PSet 8 (nth ms g) = true := pset8 (hp.2.1.2.2.2 g hg)
/-- which open pairs such a context has -/
def pickB (ms R : List Int) (i : Nat) : Prop := ∃ g m : Nat, g < ms.length ∧ PHas (nth ms g) m = true ∧ openIdx ms g m = i ∧ PHas (nth R g) m = true
noncomputable def pickK (ms R : List Int) : Int := by
  classical
  exact setOf (fun i => decide (pickB ms R i)) (opens ms)
theorem pickK_has {N : Nat} {ss ms R : List Int} (hp : PPart N ss ms) {g m : Nat} (hg : g < ms.length) (hm : PHas (nth ms g) m = true) : PHas (pickK ms R) (openIdx ms g m) = PHas (nth R g) m := by
  classical
  have h8 := row8 hp hg
  have h1 := (List.getElem?_eq_some_iff.1 (pair_at h8 hm ms.length hg)).1
  rw [pairsTo_len] at h1
  have h2 : openIdx ms g m < opens ms := h1
  unfold pickK
  rw [setOf_has]
  simp only [h2, decide_true, Bool.true_and]
  rw [Bool.eq_iff_iff, decide_eq_true_eq]
  constructor
  · rintro ⟨g', m', a, b, c, d⟩
    obtain ⟨rfl, rfl⟩ := open_inj (row8 hp a) b h8 hm c
    exact d
  · intro h; exact ⟨g, m, hg, hm, rfl, h⟩
theorem pickK_range (ms R : List Int) : 0 ≤ pickK ms R ∧ pickK ms R < 2 ^ opens ms := by
  classical
  exact setOf_range _ _
theorem is_comp {N : Nat} {ss ms R : List Int} (hp : PPart N ss ms) (hR : IsComp N ss ms R) : comp N (pickK ms R) ss ms = R := by
  have hl := hp.2.2.1
  unfold comp
  refine (tab_eq hR.1 fun g hg => ?_).symm
  obtain ⟨h1, h2⟩ := hR.2 g hg
  rw [setOf_self h1]
  refine setOf_congr fun m hm => ?_
  unfold compBit
  rw [Bool.eq_iff_iff, Bool.or_eq_true, Bool.and_eq_true]
  obtain ⟨a, b⟩ := h2 m hm
  constructor
  · intro h
    rcases b h with h3 | h3
    · exact .inl h3
    · exact .inr ⟨h3, by rw [pickK_has hp (by omega) h3]; exact h⟩
  · rintro (h | ⟨h3, h4⟩)
    · exact a h
    · rw [pickK_has hp (by omega) h3] at h4; exact h4
theorem holdK_iff {N : Nat} {ss ms : List Int} {a b : Int} (hp : PPart N ss ms) {k : Nat} (hk : k < 2 ^ opens ms) : holdK N ss ms a b k = true ↔ HoldC N (comp N k ss ms) a b := by
  have hk2 : (k : Int) < 2 ^ opens ms := by
    have : ((2 ^ opens ms : Nat) : Int) = (2 : Int) ^ opens ms := by simp
    omega
  have hc : CompC N ss ms k := ⟨hp, by omega, hk2⟩
  unfold holdK compN compR
  rw [if_pos hc, if_pos hc, decide_eq_true_eq]
  rfl
theorem cert_iff {N : Nat} {ss ms : List Int} {a b : Int} (hp : PPart N ss ms) : CertC N ss ms a b ↔ ∀ R, IsComp N ss ms R → HoldC N R a b := by
  have hcnt : cntN N ss ms = 2 ^ opens ms := by unfold cntN; rw [if_pos hp]
  unfold CertC
  rw [hcnt]
  constructor
  · rintro ⟨_, h⟩ R hR
    have hr := pickK_range ms R
    have hk : (pickK ms R).toNat < 2 ^ opens ms := by
      have : ((2 ^ opens ms : Nat) : Int) = (2 : Int) ^ opens ms := by simp
      omega
    have := (holdK_iff hp hk).1 (h _ hk)
    rw [Int.toNat_of_nonneg hr.1, is_comp hp hR] at this
    exact this
  · intro h
    exact ⟨hp, fun j hj => (holdK_iff hp hj).2 (h _ (comp_is hp _))⟩
theorem poss_iff {N : Nat} {ss ms : List Int} {a b : Int} (hp : PPart N ss ms) : PossC N ss ms a b ↔ ∃ R, IsComp N ss ms R ∧ HoldC N R a b := by
  have hcnt : cntN N ss ms = 2 ^ opens ms := by unfold cntN; rw [if_pos hp]
  unfold PossC
  rw [hcnt]
  constructor
  · rintro ⟨j, hj, h⟩
    exact ⟨_, comp_is hp j, (holdK_iff hp hj).1 h⟩
  · rintro ⟨R, hR, h⟩
    have hr := pickK_range ms R
    have hk : (pickK ms R).toNat < 2 ^ opens ms := by
      have : ((2 ^ opens ms : Nat) : Int) = (2 : Int) ^ opens ms := by simp
      omega
    refine ⟨_, hk, (holdK_iff hp hk).2 ?_⟩
    rw [Int.toNat_of_nonneg hr.1, is_comp hp hR]
    exact h
theorem cert_part {n : Int} {ss ms : List Int} {a b : Int} (h : CertC n ss ms a b) : PPart n ss ms := h.1
theorem poss_part {n : Int} {ss ms : List Int} {a b : Int} (h : PossC n ss ms a b) : PPart n ss ms := by
  obtain ⟨j, hj, _⟩ := h
  exact cntN_pos.1 (by omega)
theorem part_nat {n : Int} {ss ms : List Int} (h : PPart n ss ms) : ∃ N : Nat, n = N := ⟨n.toNat, by have := h.1.1; omega⟩
/-- a certain rule is possible -/
theorem cert_poss {n : Int} {ss ms : List Int} {a b : Int} (h : CertC n ss ms a b) : PossC n ss ms a b := by
  have hp := h.1
  exact ⟨0, cntN_pos.2 hp, h.2 0 (cntN_pos.2 hp)⟩
/-- where all is known, the two are one -/
theorem cert_one {n : Int} {ss ms : List Int} {a b : Int} (hp : PPart n ss ms) (h : opens ms = 0) : CertC n ss ms a b ↔ PossC n ss ms a b := by
  refine ⟨cert_poss, fun ⟨j, hj, hh⟩ => ⟨hp, fun i hi => ?_⟩⟩
  have hcnt : cntN n ss ms = 1 := by unfold cntN; rw [if_pos hp, h]
  rw [hcnt] at hj hi
  obtain rfl : i = 0 := by omega
  obtain rfl : j = 0 := by omega
  exact hh
/- a decided cell -/
theorem filt_le {p q : Nat → Bool} : ∀ (n : Nat), (∀ i, i < n → p i = true → q i = true) → ((List.range n).filter p).length ≤ ((List.range n).filter q).length
  | 0, _ => by simp
  | n + 1, h => by
    have ih := filt_le n fun i hi => h i (by omega)
    rw [List.range_succ, List.filter_append, List.filter_append, List.length_append, List.length_append]
    have : ([n].filter p).length ≤ ([n].filter q).length := by
      cases hp : p n with
      | false => simp [hp]
      | true => simp [hp, h n (by omega) hp]
    omega
theorem elems_le {s t : Int} (hs : PSet 8 s = true) (ht : PSet 8 t = true) (h : ∀ i : Nat, PHas s i = true → PHas t i = true) : (elemsTo s 8).length ≤ (elemsTo t 8).length := by
  unfold elemsTo
  rw [List.length_map, List.length_map]
  refine filt_le 8 fun i _ hi => ?_
  simp only [hs, ht, Bool.true_and] at hi ⊢
  exact h i hi
theorem opens_le {ms ms' : List Int} (h : ∀ g, (elemsTo (nth ms' g) 8).length ≤ (elemsTo (nth ms g) 8).length) : ∀ G, opensTo ms' G ≤ opensTo ms G
  | 0 => Nat.le_refl _
  | G + 1 => by
    have := opens_le h G
    have := h G
    simp only [opensTo]; omega
theorem sub_has {n m : Nat} {x : Int} (h : PSet n x = true) (hm : m < n) (hp : PHas x m = true) : PSet n (x - 2 ^ m) = true ∧ ∀ i : Nat, PHas (x - 2 ^ m) i = (PHas x i && decide (i ≠ m)) := by
  have hn8 : n ≤ 8 := by have := (pset_iff.mp h).2.1; omega
  have hd := has_diff h hm hp
  have hb : ∀ i : Nat, PHas (x - 2 ^ m) i = (PHas x i && decide (i ≠ m)) := fun i => by
    rw [← hd, phas_nat (by omega), Int.toNat_natCast, diff_testBit, phas_nat (psetNN h), Nat.testBit_two_pow]
    congr 1
    by_cases e : i = m
    · subst e; simp
    · simp [e, Ne.symm e]
  refine ⟨?_, hb⟩
  have e : x - 2 ^ m = setOf (fun i => PHas x i && decide (i ≠ m)) n := by
    refine int_bits (by rw [← hd]; omega) (setOf_range _ _).1 fun i => ?_
    rw [setOf_bit, ← phas_nat (by rw [← hd]; omega), hb]
    by_cases hi : i < n
    · simp [hi]
    · have : PHas x i = false := by
        cases hx : PHas x i with
        | false => rfl
        | true => have := phas_lt h hx; omega
      simp [hi, this]
  rw [e]; exact setOf_pset _ hn8
theorem add_has {n m : Nat} {x : Int} (h : PSet n x = true) (hm : m < n) (hp : PHas x m = false) : PSet n (x + 2 ^ m) = true ∧ ∀ i : Nat, PHas (x + 2 ^ m) i = (PHas x i || decide (i = m)) := by
  have hn8 : n ≤ 8 := by have := (pset_iff.mp h).2.1; omega
  have hd := not_or h hm hp
  have h2 : (0 : Int) ≤ 2 ^ m := Int.le_of_lt (pow_pos2 m)
  have h3 : ((2 : Int) ^ m).toNat = 2 ^ m := pow_toNat m
  rw [← h3] at hd
  refine ⟨?_, fun i => ?_⟩
  · rw [← hd]; exact pset_or h (pset_pow hn8 hm)
  · rw [← hd, phas_or (psetNN h) h2, phas_pow]
theorem dec_facts {N : Nat} {ss ms : List Int} {g m : Nat} (hp : PPart N ss ms) (hg : g < ms.length) (hm : PHas (nth ms g) m = true) :
    m < N ∧ PHas (nth ss g) m = false := by
  have h1 := hp.2.1.2.2.2 g hg
  have h2 := phas_lt h1 hm
  refine ⟨by omega, ?_⟩
  have h3 := hp.2.2.2.2 g (by have := hp.2.2.1; omega)
  have hl := hp.2.2.1
  have h4 := hp.1.2.2.2 g (by omega)
  cases hx : PHas (nth ss g) m with
  | false => rfl
  | true =>
    rw [phas_nat (psetNN h4)] at hx
    rw [phas_nat (psetNN h1)] at hm
    have := congrArg (fun z => Nat.testBit z m) h3
    simp [hx, hm] at this
theorem set_nth {xs : List Int} {g : Nat} {x : Int} (h : g < xs.length) (i : Nat) : nth (xs.set g x) i = if i = g then x else nth xs i := by
  rw [nth_set _ _ _ _ h]
theorem dec_part {N : Nat} {ss ms : List Int} {g m : Nat} (has : Bool) (hp : PPart N ss ms) (hg : g < ms.length) (hm : PHas (nth ms g) m = true) : PPart N (decS ss g m has) (decM ms g m) := by
  obtain ⟨hmN, hsm⟩ := dec_facts hp hg hm
  have hl := hp.2.2.1
  have hs := hp.1.2.2.2
  have ht := hp.2.1.2.2.2
  obtain ⟨a1, a2⟩ := sub_has (ht g hg) hmN hm
  obtain ⟨b1, b2⟩ := add_has (hs g (by omega)) hmN hsm
  have hSl : (decS ss g m has).length = ss.length := by unfold decS; split <;> simp
  have hMl : (decM ms g m).length = ms.length := by simp [decM]
  have hSn : ∀ i, i < ss.length → PSet N (nth (decS ss g m has) i) = true := fun i hi => by
    unfold decS; split
    · rw [set_nth (by omega)]; split
      · exact b1
      · exact hs i hi
    · exact hs i hi
  have hMn : ∀ i, i < ms.length → PSet N (nth (decM ms g m) i) = true := fun i hi => by
    unfold decM
    rw [set_nth hg]; split
    · exact a1
    · exact ht i hi
  refine ⟨⟨hp.1.1, hp.1.2.1, by rw [hSl]; exact hp.1.2.2.1, fun i hi => hSn i (by omega)⟩, ⟨hp.2.1.1, hp.2.1.2.1, by rw [hMl]; exact hp.2.1.2.2.1, fun i hi => hMn i (by omega)⟩, by omega, ?_, fun i hi => ?_⟩
  · have := opens_le (ms := ms) (ms' := decM ms g m) (fun i => by
      unfold decM
      rw [set_nth hg]; split
      · rename_i e; subst e
        exact elems_le (pset8 a1) (pset8 (ht i hg)) fun j hj => by rw [a2, Bool.and_eq_true] at hj; exact hj.1
      · exact Nat.le_refl _) ms.length
    have h6 := hp.2.2.2.1
    unfold opens at *
    rw [hMl]
    omega
  · apply Nat.eq_of_testBit_eq
    intro j
    rw [Nat.testBit_and, ← phas_nat (psetNN (hSn i (by omega))), ← phas_nat (psetNN (hMn i (by omega))), Nat.zero_testBit]
    have h0 := congrArg (fun z => Nat.testBit z j) (hp.2.2.2.2 i (by omega))
    simp only [Nat.testBit_and, Nat.zero_testBit] at h0
    rw [← phas_nat (psetNN (hs i (by omega))), ← phas_nat (psetNN (ht i (by omega)))] at h0
    unfold decS decM
    rw [set_nth hg]
    by_cases e : i = g
    · subst e
      rw [if_pos rfl, a2]
      by_cases ej : j = m
      · subst ej; simp
      · split
        · rw [set_nth (by omega), if_pos rfl, b2]; simp [ej, h0]
        · simp [ej, h0]
    · rw [if_neg e]
      split
      · rw [set_nth (by omega), if_neg e]; exact h0
      · exact h0
theorem dec_comp {N : Nat} {ss ms R : List Int} {g m : Nat} (has : Bool) (hp : PPart N ss ms) (hg : g < ms.length) (hm : PHas (nth ms g) m = true) :
    IsComp N (decS ss g m has) (decM ms g m) R ↔ IsComp N ss ms R ∧ PHas (nth R g) m = has := by
  obtain ⟨hmN, hsm⟩ := dec_facts hp hg hm
  have hl := hp.2.2.1
  have hs := hp.1.2.2.2
  have ht := hp.2.1.2.2.2
  obtain ⟨a1, a2⟩ := sub_has (ht g hg) hmN hm
  obtain ⟨b1, b2⟩ := add_has (hs g (by omega)) hmN hsm
  have hSl : (decS ss g m has).length = ss.length := by unfold decS; split <;> simp
  have hS : ∀ i j : Nat, i < ss.length → PHas (nth (decS ss g m has) i) j = (PHas (nth ss i) j || (decide (i = g) && decide (j = m) && has)) := fun i j hi => by
    unfold decS
    cases has with
    | false => simp
    | true =>
      simp only [if_true]
      rw [set_nth (by omega)]
      by_cases e : i = g
      · subst e; simp [b2]
      · simp [e]
  have hM : ∀ i j : Nat, i < ss.length → PHas (nth (decM ms g m) i) j = (PHas (nth ms i) j && !(decide (i = g) && decide (j = m))) := fun i j hi => by
    unfold decM
    rw [set_nth hg]
    by_cases e : i = g
    · subst e; simp [a2]
    · simp [e]
  unfold IsComp
  rw [hSl]
  constructor
  · rintro ⟨h1, h2⟩
    refine ⟨⟨h1, fun i hi => ⟨(h2 i hi).1, fun j hj => ?_⟩⟩, ?_⟩
    · obtain ⟨c, d⟩ := (h2 i hi).2 j hj
      rw [hS i j hi] at c d
      rw [hM i j hi] at d
      refine ⟨fun h => c (by rw [h]; rfl), fun h => ?_⟩
      rcases d h with d | d
      · rw [Bool.or_eq_true] at d
        rcases d with d | d
        · exact .inl d
        · simp only [Bool.and_eq_true, decide_eq_true_eq] at d
          obtain ⟨⟨rfl, rfl⟩, _⟩ := d
          exact .inr hm
      · rw [Bool.and_eq_true] at d; exact .inr d.1
    · obtain ⟨c, d⟩ := (h2 g (by omega)).2 m hmN
      rw [hS g m (by omega)] at c d
      rw [hM g m (by omega)] at d
      cases has with
      | true => exact c (by simp)
      | false =>
        cases hx : PHas (nth R g) m with
        | false => rfl
        | true => have := d hx; simp [hsm] at this
  · rintro ⟨⟨h1, h2⟩, h3⟩
    refine ⟨h1, fun i hi => ⟨(h2 i hi).1, fun j hj => ?_⟩⟩
    obtain ⟨c, d⟩ := (h2 i hi).2 j hj
    rw [hS i j hi, hM i j hi]
    by_cases e : i = g ∧ j = m
    · obtain ⟨rfl, rfl⟩ := e
      simp [hsm, h3]
    · have e2 : (decide (i = g) && decide (j = m)) = false := by
        rw [Bool.eq_false_iff]; intro h; simp only [Bool.and_eq_true, decide_eq_true_eq] at h; exact e h
      rw [e2]
      simpa using ⟨c, d⟩
theorem dec_cert {N : Nat} {ss ms : List Int} {g m : Nat} {a b : Int} (hp : PPart N ss ms) (hg : g < ms.length) (hm : PHas (nth ms g) m = true) :
    CertC N ss ms a b ↔ CertC N (decS ss g m true) (decM ms g m) a b ∧ CertC N (decS ss g m false) (decM ms g m) a b := by
  rw [cert_iff hp, cert_iff (dec_part true hp hg hm), cert_iff (dec_part false hp hg hm)]
  constructor
  · intro h
    exact ⟨fun R hR => h R ((dec_comp true hp hg hm).1 hR).1, fun R hR => h R ((dec_comp false hp hg hm).1 hR).1⟩
  · rintro ⟨h1, h2⟩ R hR
    cases hx : PHas (nth R g) m with
    | true => exact h1 R ((dec_comp true hp hg hm).2 ⟨hR, hx⟩)
    | false => exact h2 R ((dec_comp false hp hg hm).2 ⟨hR, hx⟩)
theorem dec_poss {N : Nat} {ss ms : List Int} {g m : Nat} {a b : Int} (hp : PPart N ss ms) (hg : g < ms.length) (hm : PHas (nth ms g) m = true) :
    PossC N ss ms a b ↔ PossC N (decS ss g m true) (decM ms g m) a b ∨ PossC N (decS ss g m false) (decM ms g m) a b := by
  rw [poss_iff hp, poss_iff (dec_part true hp hg hm), poss_iff (dec_part false hp hg hm)]
  constructor
  · rintro ⟨R, hR, h⟩
    cases hx : PHas (nth R g) m with
    | true => exact .inl ⟨R, (dec_comp true hp hg hm).2 ⟨hR, hx⟩, h⟩
    | false => exact .inr ⟨R, (dec_comp false hp hg hm).2 ⟨hR, hx⟩, h⟩
  · rintro (⟨R, hR, h⟩ | ⟨R, hR, h⟩)
    · exact ⟨R, ((dec_comp true hp hg hm).1 hR).1, h⟩
    · exact ⟨R, ((dec_comp false hp hg hm).1 hR).1, h⟩
end Go.Proofs.Ytkkkgaapkibhkaa
