/- The reference's reduced context: its rows and columns counted; plain Lean. Conditions: none. -/
import Derived.Test.YtliecnadoklgoaaGreatDoorRedL
namespace Go.Proofs.YtliecnadoklgoaaGreatDoor
open Ev
set_option linter.unusedVariables false
set_option linter.unusedSimpArgs false
set_option maxHeartbeats 4000000

theorem and_phas {a b : Int} (ha : 0 ≤ a) (hb : 0 ≤ b) (m : Nat) : PHas (((a.toNat &&& b.toNat : Nat) : Int)) m = (PHas a m && PHas b m) := by
  rw [phas_nat (Int.natCast_nonneg _), Int.toNat_natCast, Nat.testBit_and, ← phas_nat ha, ← phas_nat hb]
theorem full_phas (n m : Nat) : PHas (2 ^ n - 1) m = decide (m < n) := by rw [← setOf_full, setOf_has]; simp
theorem upO_has {xs : List Int} {N g : Nat} (hN : N ≤ 8) (hR : ∀ k, k < xs.length → 0 ≤ nth xs k) (hg : g < xs.length) : ∀ K, K ≤ xs.length → ∀ m : Nat, PHas (upO xs N g K) m = true ↔ m < N ∧ ∀ k, k < K → nth xs k ≠ nth xs g → PSub (nth xs g) (nth xs k) = true → PHas (nth xs k) m = true
  | 0, _, m => by unfold upO; rw [full_phas]; simp
  | K + 1, hK, m => by
    have ih := upO_has hN hR hg K (by omega) m
    unfold upO
    split
    · rename_i h
      rw [psub_and' (hR g hg)] at h
      rw [and_phas (upO_range xs g hN K).1 (hR K (by omega)), Bool.and_eq_true, ih]
      constructor
      · rintro ⟨⟨h1, h2⟩, h3⟩
        refine ⟨h1, fun k hk h4 h5 => ?_⟩
        by_cases e : k = K
        · rw [e]; exact h3
        · exact h2 k (by omega) h4 h5
      · rintro ⟨h1, h2⟩
        exact ⟨⟨h1, fun k hk => h2 k (by omega)⟩, h2 K (by omega) h.1 h.2⟩
    · rename_i h
      rw [psub_and' (hR g hg)] at h
      rw [ih]
      constructor
      · rintro ⟨h1, h2⟩
        refine ⟨h1, fun k hk h4 h5 => ?_⟩
        by_cases e : k = K
        · subst e; exact absurd ⟨h4, h5⟩ h
        · exact h2 k (by omega) h4 h5
      · rintro ⟨h1, h2⟩
        exact ⟨h1, fun k hk => h2 k (by omega)⟩
theorem upO_irr {xs : List Int} {N g : Nat} (hN : N ≤ 8) (hF : FamP N xs) (hg : g < xs.length) : upO xs N g xs.length = nth xs g ↔ ¬ IrrR xs N (nth xs g) := by
  have hR : ∀ k, k < xs.length → 0 ≤ nth xs k := fun k hk => (hF _ (mem_nth.2 ⟨k, hk, rfl⟩)).1
  have hh := upO_has hN hR hg xs.length (Nat.le_refl _)
  constructor
  · rintro e ⟨m, h1, h2, h3⟩
    have := (hh m).2 ⟨h1, fun k hk => h3 _ (mem_nth.2 ⟨k, hk, rfl⟩)⟩
    rw [e, h2] at this; cases this
  · intro h
    refine phas_eq (upO_range xs g hN _).1 (hR g hg) fun i => ?_
    rw [Bool.eq_iff_iff, hh]
    constructor
    · rintro ⟨h1, h2⟩
      cases hx : PHas (nth xs g) i with
      | true => rfl
      | false => exact absurd ⟨i, h1, hx, fun s hs => by obtain ⟨k, hk, rfl⟩ := mem_nth.1 hs; exact h2 k hk⟩ h
    · intro hi
      exact ⟨(hF _ (mem_nth.2 ⟨g, hg, rfl⟩)).2.2 i hi, fun k hk _ h2 => (psub_all (hR g hg) (hR k hk)).1 h2 i hi⟩
theorem upC_has {xs : List Int} {m : Nat} (h8 : xs.length ≤ 8) : ∀ (K g : Nat), PHas (upC xs m K) g = true ↔ g < xs.length ∧ ∀ k, k < K → ¬ ColEq xs k m → ColLe xs m k → PHas (nth xs g) k = true
  | 0, g => by unfold upC; rw [full_phas]; simp
  | K + 1, g => by
    have ih := upC_has (m := m) h8 K g
    unfold upC
    split
    · rename_i h
      rw [psub_and' (col_nn ..), col_le, ne_eq, col_eq] at h
      rw [and_phas (upC_range m h8 K).1 (col_nn ..), Bool.and_eq_true, ih, col_bit]
      constructor
      · rintro ⟨⟨h1, h2⟩, _, h3⟩
        refine ⟨h1, fun k hk h4 h5 => ?_⟩
        by_cases e : k = K
        · rw [e]; exact h3
        · exact h2 k (by omega) h4 h5
      · rintro ⟨h1, h2⟩
        exact ⟨⟨h1, fun k hk => h2 k (by omega)⟩, h1, h2 K (by omega) h.1 h.2⟩
    · rename_i h
      rw [psub_and' (col_nn ..), col_le, ne_eq, col_eq] at h
      rw [ih]
      constructor
      · rintro ⟨h1, h2⟩
        refine ⟨h1, fun k hk h4 h5 => ?_⟩
        by_cases e : k = K
        · subst e; exact absurd ⟨h4, h5⟩ h
        · exact h2 k (by omega) h4 h5
      · rintro ⟨h1, h2⟩
        exact ⟨h1, fun k hk => h2 k (by omega)⟩
theorem upC_irr {xs : List Int} {N m : Nat} (h8 : xs.length ≤ 8) : upC xs m N = Col xs m ↔ ¬ IrrM xs N m := by
  have hh := upC_has (m := m) h8 N
  constructor
  · rintro e ⟨r, hr, h1, h2⟩
    obtain ⟨g, hg, rfl⟩ := mem_nth.1 hr
    have := (hh g).2 ⟨hg, h2⟩
    rw [e] at this
    rw [(col_bit.1 this).2] at h1; cases h1
  · intro h
    refine phas_eq (upC_range m h8 _).1 (col_nn ..) fun g => ?_
    rw [Bool.eq_iff_iff, hh, col_bit]
    constructor
    · rintro ⟨h1, h2⟩
      refine ⟨h1, ?_⟩
      cases hx : PHas (nth xs g) m with
      | true => rfl
      | false => exact absurd ⟨nth xs g, mem_nth.2 ⟨g, h1, rfl⟩, hx, h2⟩ h
    · rintro ⟨h1, h2⟩
      exact ⟨h1, fun k hk _ h4 => h4 _ (mem_nth.2 ⟨g, h1, rfl⟩) h2⟩
theorem stay_cnt (xs : List Int) (o : Int) : ∀ k, (stayR xs o k).length = ((List.range k).filter fun i : Nat => !PHas o i).length
  | 0 => by simp [stayR]
  | k + 1 => by
    have ih := stay_cnt xs o k
    rw [List.range_succ, List.filter_append, List.length_append, ← ih]
    by_cases h : PHas o k = true
    · have e : stayR xs o (k + 1) = stayR xs o k := by
        conv => lhs; unfold stayR
        rw [if_pos h]
      rw [e]; simp [h]
    · have e : stayR xs o (k + 1) = stayR xs o k ++ [nth xs k] := by
        conv => lhs; unfold stayR
        rw [if_neg h]
      rw [e]; simp [h]
theorem mem_pack {xs : List Int} {kp s : Int} : s ∈ packR xs kp xs.length ↔ ∃ r ∈ xs, s = Pack r kp := by
  rw [mem_nth]
  simp only [packR_len]
  constructor
  · rintro ⟨k, hk, rfl⟩
    exact ⟨nth xs k, mem_nth.2 ⟨k, hk, rfl⟩, pack_nth hk⟩
  · rintro ⟨r, hr, rfl⟩
    obtain ⟨k, hk, rfl⟩ := mem_nth.1 hr
    exact ⟨k, hk, pack_nth hk⟩
theorem red_pk {N : Nat} {xs : List Int} (hc : PCtx N xs) : PkP xs (clR xs N) N (clKp xs N) where
  fam := fam_rows hc
  k8 := pset8 (keep_set (by have := hc.2.1; omega))
  lt := fun m hm => (keep_has.1 hm).1
  rep := fun m hm => by
    obtain ⟨m', h1, h2⟩ := keep_rep (xs := clX xs) hm
    exact ⟨m', h1, fun r hr => col_eq.1 h2 r (ded_all.2 hr)⟩
  mem := fun s => by
    unfold clR
    rw [mem_pack]
    constructor
    · rintro ⟨r, hr, e⟩; exact ⟨r, ded_all.1 hr, e⟩
    · rintro ⟨r, hr, e⟩; exact ⟨r, ded_all.2 hr, e⟩
theorem goO_has {N g : Nat} {xs : List Int} (hN : N ≤ 8) (hF : FamP N xs) (hg : g < xs.length) : PHas (goO xs N) g = false ↔ IrrR xs N (nth xs g) := by
  unfold goO
  rw [setOf_has, ← Bool.not_eq_true, Bool.and_eq_true, decide_eq_true_eq, decide_eq_true_eq, upO_irr hN hF hg]
  simp [hg]
theorem red_zs {N : Nat} {xs : List Int} (hc : PCtx N xs) : ∀ s, s ∈ rdZ xs N ↔ ∃ r ∈ xs, IrrR xs N r ∧ s = Pack r (clKp xs N) := fun s => by
  have hk := red_pk hc
  have h6 := (clR_ctx hc).2.1
  unfold rdZ
  rw [mem_stay]
  constructor
  · rintro ⟨i, hi, h1, h2⟩
    rw [goO_has (by omega) (fam_rows (clR_ctx hc)) hi] at h1
    obtain ⟨r, hr, e⟩ := (hk.mem _).1 (mem_nth.2 ⟨i, hi, rfl⟩)
    rw [e] at h1 h2
    exact ⟨r, hr, (pk_irr hk hr).1 h1, h2.symm⟩
  · rintro ⟨r, hr, h1, rfl⟩
    obtain ⟨i, hi, e⟩ := mem_nth.1 ((hk.mem _).2 ⟨r, hr, rfl⟩)
    refine ⟨i, hi, ?_, e⟩
    rw [goO_has (by omega) (fam_rows (clR_ctx hc)) hi, e]
    exact (pk_irr hk hr).2 h1
theorem irrL_cnt (n : Int) (xs : List Int) (up : Bool) : (irrL n xs up).length = ((List.range (conL n xs).length).filter (irrB (fsts (conW n xs)) up)).length := by unfold irrL selTo; rw [List.length_map]
/-- as many rows as join-irreducible concepts -/
theorem red_rows {N : Nat} {xs : List Int} (hc : PCtx N xs) : (rdR xs N).length = (irrL N xs false).length := by
  have hk := red_pk hc
  have h6 := (clR_ctx hc).2.1
  have hsl := S_len N xs
  unfold rdR
  rw [packR_len, irrL_cnt]
  unfold rdZ
  rw [stay_cnt, clR_len]
  have hp : ∀ i, i < (clX xs).length → ((!PHas (goO (clR xs N) (clN xs N)) i) = true ↔ nth (clX xs) i ∈ xs ∧ IrrR xs N (nth (clX xs) i)) := fun i hi => by
    have hm := ded_all.1 (mem_nth.2 ⟨i, hi, rfl⟩)
    rw [Bool.not_eq_true', goO_has (by omega) (fam_rows (clR_ctx hc)) (by rw [clR_len]; exact hi)]
    unfold clR
    rw [pack_nth hi]
    exact ⟨fun h => ⟨hm, (pk_irr hk hm).1 h⟩, fun h => (pk_irr hk hm).2 h.2⟩
  have hq : ∀ a, a < (conL N xs).length → (irrB (fsts (conW N xs)) false a = true ↔ nth (snds (conW N xs)) a ∈ xs ∧ IrrR xs N (nth (snds (conW N xs)) a)) := fun a ha => by
    rw [irr_J ha]
    exact irr_abs hk.fam (mem_S hc) (mem_nth.2 ⟨a, by rw [hsl]; exact ha, rfl⟩)
  refine cnt_bij (f := fun i => nth (clX xs) i) (h := fun a => nth (snds (conW N xs)) a) (fun i j hi hj _ _ e => nodup_nth (ded_nodup ..) hi hj e) (fun i j hi hj _ _ e => S_inj hi hj e) (fun i hi h => ?_) (fun a ha h => ?_)
  · obtain ⟨h1, h2⟩ := (hp i hi).1 h
    obtain ⟨a, ha, e⟩ := mem_nth.1 ((mem_S hc _).2 (row_cl hk.fam h1))
    rw [hsl] at ha
    exact ⟨a, ha, (hq a ha).2 (by rw [e]; exact ⟨h1, h2⟩), e⟩
  · obtain ⟨h1, h2⟩ := (hq a ha).1 h
    obtain ⟨i, hi, e⟩ := mem_nth.1 (ded_all.2 h1)
    exact ⟨i, hi, (hp i hi).2 (by rw [show nth (clX xs) i = _ from e]; exact ⟨h1, h2⟩), e⟩
/-- .. as many columns as meet-irreducible ones -/
theorem red_cols {N : Nat} {xs : List Int} (hc : PCtx N xs) : rdN xs N = (irrL N xs true).length := by
  have hk := red_pk hc
  have hz := red_zs hc
  have h6 := (clR_ctx hc).2.1
  have hz8 := (rdZ_ctx hc).2.2.1
  have hfl := conW_len N xs
  unfold rdN rdKp goA
  rw [elems_not (by omega), irrL_cnt]
  let og : Nat → Nat := fun j => (nth (elemsTo (clKp xs N) 8) j).toNat
  have hog : ∀ j, j < clN xs N → ∃ m : Nat, PHas (clKp xs N) m = true ∧ newI (clKp xs N) m = j ∧ og j = m := fun j hj => by
    obtain ⟨m, h1, h2, _⟩ := newI_of hj
    refine ⟨m, h1, h2, ?_⟩
    have := (newI_lt hk.k8 h1).2
    rw [h2] at this
    show (nth (elemsTo (clKp xs N) 8) j).toNat = m
    rw [this]; simp
  have hp : ∀ j m : Nat, j < clN xs N → PHas (clKp xs N) m = true → newI (clKp xs N) m = j → ((!decide (upC (rdZ xs N) j (clN xs N) = Col (rdZ xs N) j)) = true ↔ Col xs m ∈ Cols xs N ∧ IrrR (Cols xs N) xs.length (Col xs m)) := fun j m hj hm e => by
    rw [Bool.not_eq_true', decide_eq_false_iff_not, upC_irr hz8, Classical.not_not, irr_col, ← e]
    unfold clN
    rw [zs_irr hk hz hm]
    exact ⟨fun h => ⟨mem_cols.2 ⟨m, hk.lt m hm, rfl⟩, h⟩, fun h => h.2⟩
  have hcc := fam_cols N hc.2.2.1
  have hq : ∀ a, a < (conL N xs).length → (irrB (fsts (conW N xs)) true a = true ↔ nth (fsts (conW N xs)) a ∈ Cols xs N ∧ IrrR (Cols xs N) xs.length (nth (fsts (conW N xs)) a)) := fun a ha => by
    rw [irr_M ha]
    exact irr_abs hcc (mem_F hc) (mem_nth.2 ⟨a, by rw [hfl]; exact ha, rfl⟩)
  have hcl : ∀ m n, Col xs m = Col xs n → Col (clX xs) m = Col (clX xs) n := fun m n e => col_eq.2 fun r hr => col_eq.1 e r (ded_all.1 hr)
  refine cnt_bij (f := fun j => Col xs (og j)) (h := fun a => nth (fsts (conW N xs)) a) (fun i j hi hj _ _ e => ?_) (fun i j hi hj _ _ e => F_inj hi hj e) (fun j hj h => ?_) (fun a ha h => ?_)
  · obtain ⟨m, h1, h2, h3⟩ := hog i hi
    obtain ⟨n, g1, g2, g3⟩ := hog j hj
    simp only [h3, g3] at e
    have := keep_inj h1 g1 (hcl _ _ e)
    rw [← h2, ← g2, this]
  · obtain ⟨m, h1, h2, h3⟩ := hog j hj
    obtain ⟨h4, h5⟩ := (hp j m hj h1 h2).1 h
    obtain ⟨a, ha, e⟩ := mem_nth.1 ((mem_F hc _).2 (row_cl hcc h4))
    rw [hfl] at ha
    exact ⟨a, ha, (hq a ha).2 (by rw [e]; exact ⟨h4, h5⟩), by simp only [h3]; exact e⟩
  · obtain ⟨h1, h2⟩ := (hq a ha).1 h
    obtain ⟨m0, hm0, e0⟩ := mem_cols.1 h1
    obtain ⟨m, hm, he⟩ := hk.rep m0 hm0
    have e1 : Col xs m = nth (fsts (conW N xs)) a := by rw [← e0]; exact col_eq.2 he
    obtain ⟨m2, g1, g2, g3⟩ := hog (newI (clKp xs N) m) (newI_lt hk.k8 hm).1
    have e2 : m2 = m := by
      have a1 := (newI_lt hk.k8 g1).2
      have a2 := (newI_lt hk.k8 hm).2
      rw [g2, a2] at a1
      omega
    subst e2
    exact ⟨newI (clKp xs N) m2, (newI_lt hk.k8 hm).1, (hp _ m2 (newI_lt hk.k8 hm).1 hm rfl).2 (by rw [e1]; exact ⟨h1, h2⟩), by simp only [g3]; exact e1⟩
end Go.Proofs.YtliecnadoklgoaaGreatDoor
