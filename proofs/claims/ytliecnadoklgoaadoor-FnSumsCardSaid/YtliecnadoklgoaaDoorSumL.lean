/- Concepts of sums: plain Lean. Conditions: none. -/
import Derived.Test.YtliecnadoklgoaaDoorSum
import Derived.Test.YtliecnadoklgoaaDoorSum2
import Derived.Test.YtliecnadoklgoaaDoorLatP
namespace Go.Proofs.YtliecnadoklgoaaDoor
open Ev
set_option linter.unusedVariables false
set_option linter.unusedSimpArgs false

/- bits of one beside the other -/
theorem beside_has {n : Nat} {x y : Int} (hx : 0 ≤ x) (hx2 : x < 2 ^ n) (hy : 0 ≤ y) (i : Nat) : PHas (x + y * 2 ^ n) i = if i < n then PHas x i else PHas y ((i - n : Nat) : Int) := by
  have h := or_add hx hx2 hy
  have e : (y * 2 ^ n).toNat = y.toNat * 2 ^ n := by
    have h1 : y = (y.toNat : Int) := by omega
    rw [h1]
    have : ((y.toNat : Int) * 2 ^ n) = ((y.toNat * 2 ^ n : Nat) : Int) := by simp
    rw [this, Int.toNat_natCast, Int.toNat_natCast]
  have hb : x.toNat < 2 ^ n := by
    have : ((2 ^ n : Nat) : Int) = (2 : Int) ^ n := by simp
    omega
  rw [← h, phas_nat (by omega), Int.toNat_natCast, Nat.testBit_or, e, Nat.testBit_mul_two_pow]
  rw [phas_nat hx, phas_nat hy]
  by_cases hi : i < n
  · simp [hi]
    intro h9; omega
  · have : x.toNat.testBit i = false := Nat.testBit_lt_two_pow (Nat.lt_of_lt_of_le hb (Nat.pow_le_pow_right (by decide) (by omega)))
    simp [hi, this]
    intro h9; omega
theorem clo_has {N : Nat} {xs : List Int} {s : Int} (hc : PCtx N xs) (i : Nat) : PHas (Clo xs N s) i = true ↔ i < N ∧ ∀ k, k < xs.length → PSub s (nth xs k) = true → PHas (nth xs k) i = true := by
  unfold Clo
  rw [int_has]
  constructor
  · rintro ⟨h1, h2⟩
    exact ⟨h1, fun k hk hs => h2 k hk (by rw [ext_has]; simp [hk, hs])⟩
  · rintro ⟨h1, h2⟩
    exact ⟨h1, fun k hk hs => h2 k hk (by rw [ext_has, Bool.and_eq_true] at hs; exact hs.2)⟩
theorem nth_app (xs ys : List Int) (k : Nat) : nth (xs ++ ys) k = if k < xs.length then nth xs k else nth ys (k - xs.length) := by
  unfold nth
  by_cases h : k < xs.length
  · rw [if_pos h]; simp [List.getElem?_append_left h]
  · rw [if_neg h]; simp [List.getElem?_append_right (show xs.length ≤ k by omega)]
/-- contexts above each other -/
theorem clo_sub {N : Nat} {xs ys : List Int} {s : Int} (hx : PCtx N xs) (hy : PCtx N ys) (hu : PCtx N (xs ++ ys)) : Clo (xs ++ ys) N s = (((Clo xs N s).toNat &&& (Clo ys N s).toNat : Nat) : Int) := by
  refine int_bits (clo_nn ..) (by omega) fun i => ?_
  rw [Int.toNat_natCast, Nat.testBit_and, ← phas_nat (clo_nn ..), ← phas_nat (clo_nn ..), ← phas_nat (clo_nn ..), Bool.eq_iff_iff, Bool.and_eq_true, clo_has hu, clo_has hx, clo_has hy]
  constructor
  · rintro ⟨h1, h2⟩
    refine ⟨⟨h1, fun k hk hs => ?_⟩, ⟨h1, fun k hk hs => ?_⟩⟩
    · have := h2 k (by rw [List.length_append]; omega)
      rw [nth_app, if_pos hk] at this
      exact this hs
    · have := h2 (xs.length + k) (by rw [List.length_append]; omega)
      rw [nth_app, if_neg (by omega), show xs.length + k - xs.length = k by omega] at this
      exact this hs
  · rintro ⟨⟨h1, h2⟩, ⟨_, h3⟩⟩
    refine ⟨h1, fun k hk hs => ?_⟩
    rw [nth_app] at hs ⊢
    rw [List.length_append] at hk
    split
    · rename_i h; rw [if_pos h] at hs; exact h2 k h hs
    · rename_i h; rw [if_neg h] at hs; exact h3 _ (by omega) hs
/-- contexts beside each other: the closure of objects -/
theorem oclo_app {n m : Nat} {xs ys : List Int} {s : Int} (h : AppC n xs m ys) :
    Ext (tab (appG n xs ys) xs.length) (IntS (tab (appG n xs ys) xs.length) (n + m) s) = (((Ext xs (IntS xs n s)).toNat &&& (Ext ys (IntS ys m s)).toNat : Nat) : Int) := by
  obtain ⟨hx, hy, hl, hnm⟩ := h
  have hc : PCtx ((n + m : Nat) : Int) (tab (appG n xs ys) xs.length) := by rw [Int.natCast_add]; exact (app_ctx hx hy hl).2 hnm
  have hr : ∀ k, k < xs.length → 0 ≤ nth xs k ∧ nth xs k < 2 ^ n ∧ 0 ≤ nth ys k := fun k hk => by
    have h1 := pset_iff.mp (hx.2.2.2 k hk)
    have h2 := pset_iff.mp (hy.2.2.2 k (by omega))
    exact ⟨h1.2.2.1, by simpa using h1.2.2.2, h2.2.2.1⟩
  have hrow : ∀ k, k < xs.length → ∀ i : Nat, PHas (nth (tab (appG n xs ys) xs.length) k) i = if i < n then PHas (nth xs k) i else PHas (nth ys k) ((i - n : Nat) : Int) := fun k hk i => by
    rw [tab_nth _ hk]
    unfold appG
    obtain ⟨h1, h2, h3⟩ := hr k hk
    simpa using beside_has h1 h2 h3 i
  have htl : (tab (appG n xs ys) xs.length).length = xs.length := by simp
  refine int_bits (ext_nn ..) (by omega) fun k => ?_
  rw [Int.toNat_natCast, Nat.testBit_and, ← phas_nat (ext_nn ..), ← phas_nat (ext_nn ..), ← phas_nat (ext_nn ..), ext_has, ext_has, ext_has, htl, ← hl]
  by_cases hk : k < xs.length
  case neg => simp [hk]
  simp only [hk, decide_true, Bool.true_and]
  rw [Bool.eq_iff_iff, Bool.and_eq_true, psub_all (int_nn ..) (row_nn hc (by omega)), psub_all (int_nn ..) (row_nn hx hk), psub_all (int_nn ..) (row_nn hy (by omega))]
  simp only [int_has, htl, hrow k hk, ← hl]
  constructor
  · intro h
    refine ⟨fun i hi => ?_, fun i hi => ?_⟩
    · have := h i ⟨by omega, fun g hg ho => by rw [hrow g hg, if_pos hi.1]; exact hi.2 g hg ho⟩
      rwa [if_pos hi.1] at this
    · have := h (n + i) ⟨by omega, fun g hg ho => by rw [hrow g hg, if_neg (by omega), show n + i - n = i by omega]; exact hi.2 g hg ho⟩
      rwa [if_neg (by omega), show n + i - n = i by omega] at this
  · rintro ⟨h1, h2⟩ i ⟨hi, h3⟩
    by_cases hin : i < n
    · rw [if_pos hin]
      exact h1 i ⟨hin, fun g hg ho => by have := h3 g hg ho; rwa [hrow g hg, if_pos hin] at this⟩
    · rw [if_neg hin]
      exact h2 (i - n) ⟨by omega, fun g hg ho => by have := h3 g hg ho; rwa [hrow g hg, if_neg hin] at this⟩
/- how many sets are closed -/
theorem lecN_perm : ∀ N : Fin 7, (lecN N.val).isPerm (List.range (2 ^ N.val)) = true := by decide +kernel
def cntC (cl : Nat → Nat) (n : Nat) : Nat := ((List.range n).filter fun s => decide (cl s = s)).length
theorem conL_cnt {N : Nat} {xs : List Int} (hc : PCtx N xs) : (conL N xs).length = cntC (cloN xs N) (2 ^ N) := by
  have hN := (clo_cl hc).n6
  rw [conL_eq hc, ← lecN_cls hN]
  have hp : (lecN N).Perm (List.range (2 ^ N)) := List.isPerm_iff.1 (lecN_perm ⟨N, by omega⟩)
  exact (hp.filter _).length_eq
theorem cnt_prod {a : Nat} (p q : Nat → Bool) (ha : 0 < a) : ∀ b, ((List.range (a * b)).filter fun s => p (s % a) && q (s / a)).length = ((List.range a).filter p).length * ((List.range b).filter q).length
  | 0 => by simp
  | b + 1 => by
    have ih := cnt_prod p q ha b
    rw [Nat.mul_succ, List.range_add, List.filter_append, List.length_append, ih, List.range_succ, List.filter_append, List.length_append, Nat.mul_add]
    congr 1
    rw [List.filter_map, List.length_map]
    have hf : ((List.range a).filter ((fun s => p (s % a) && q (s / a)) ∘ fun x => a * b + x)).length = ((List.range a).filter fun s => p s && q b).length := by
      congr 1
      refine List.filter_congr fun s hs => ?_
      have hs := List.mem_range.1 hs
      simp only [Function.comp]
      rw [Nat.mul_add_mod, Nat.mod_eq_of_lt hs, Nat.mul_add_div ha, Nat.div_eq_of_lt hs, Nat.add_zero]
    rw [hf]
    cases hq : q b with
    | true => simp [hq]
    | false => simp [hq]
/-- the closure in a direct sum -/
theorem clo_sum {n m : Nat} {xs ys : List Int} (h : SumC n xs m ys) {s t : Nat} (hs : s < 2 ^ n) (ht : t < 2 ^ m) :
    cloN (sumR true n m xs ys) (n + m) (s + t * 2 ^ n) = cloN xs n s + cloN ys m t * 2 ^ n := by
  obtain ⟨hx, hy, hnm, hl⟩ := h
  have hc : PCtx ((n + m : Nat) : Int) (sumR true n m xs ys) := by rw [Int.natCast_add]; exact (sum_ctx hx hy).2 ⟨hnm, hl⟩
  have hn8 : n ≤ 8 := by have := hx.2.1; omega
  have hm8 : m ≤ 8 := by have := hy.2.1; omega
  have hfull : ∀ (k i : Nat), PHas (fullI (k : Int)) i = decide (i < k) := fun k i => by
    have e : fullI (k : Int) = setOf (fun _ => true) k := by rw [setOf_full]; rfl
    rw [e, setOf_has]; simp
  have hf0 : ∀ k : Nat, k ≤ 8 → 0 ≤ fullI (k : Int) ∧ fullI (k : Int) < 2 ^ k := fun k hk => by
    have := full_range (n := (k : Int)) (by omega) (by omega)
    exact ⟨this.1, by simpa using this.2.1⟩
  have hrA : ∀ k, k < xs.length → ∀ i : Nat, PHas (nth (sumR true n m xs ys) k) i = if i < n then PHas (nth xs k) i else decide (i - n < m) := fun k hk i => by
    have h1 := pset_iff.mp (hx.2.2.2 k hk)
    unfold sumR
    rw [nth_app, if_pos (by simpa using hk), tab_nth _ hk]
    unfold sumA bitI
    simp only [if_true, Int.one_mul]
    rw [Int.toNat_natCast, beside_has h1.2.2.1 (by simpa using h1.2.2.2) (hf0 m hm8).1, hfull]
  have hrB : ∀ k, k < ys.length → ∀ i : Nat, PHas (nth (sumR true n m xs ys) (xs.length + k)) i = if i < n then true else PHas (nth ys k) ((i - n : Nat) : Int) := fun k hk i => by
    have h1 := pset_iff.mp (hy.2.2.2 k hk)
    unfold sumR
    rw [nth_app, if_neg (by simp), tab_length, show xs.length + k - xs.length = k by omega, tab_nth _ hk]
    unfold sumB bitI
    simp only [if_true, Int.one_mul]
    rw [Int.toNat_natCast, beside_has (hf0 n hn8).1 (hf0 n hn8).2 h1.2.2.1, hfull]
    split
    · rename_i hi; simp [hi]
    · rfl
  have hlen : (sumR true n m xs ys).length = xs.length + ys.length := by simp [sumR]
  have hst : ∀ i : Nat, PHas ((s + t * 2 ^ n : Nat) : Int) i = if i < n then PHas (s : Int) i else PHas (t : Int) ((i - n : Nat) : Int) := fun i => by
    have e : ((s + t * 2 ^ n : Nat) : Int) = (s : Int) + (t : Int) * 2 ^ n := by simp
    have : ((2 ^ n : Nat) : Int) = (2 : Int) ^ n := by simp
    rw [e]; exact beside_has (by omega) (by omega) (by omega) i
  have ps := pset_nat hn8 hs
  have pt := pset_nat hm8 ht
  have hsubA : ∀ k, k < xs.length → (PSub ((s + t * 2 ^ n : Nat) : Int) (nth (sumR true n m xs ys) k) = true ↔ PSub (s : Int) (nth xs k) = true) := fun k hk => by
    rw [psub_all (by omega) (row_nn hc (by omega)), psub_all (by omega) (row_nn hx hk)]
    constructor
    · intro h9 i hi
      have hin : i < n := by have := phas_lt ps hi; omega
      have := h9 i (by rw [hst, if_pos hin]; exact hi)
      rwa [hrA k hk, if_pos hin] at this
    · intro h9 i hi
      rw [hst] at hi
      rw [hrA k hk]
      by_cases hin : i < n
      · rw [if_pos hin] at hi ⊢; exact h9 i hi
      · rw [if_neg hin] at hi ⊢
        have := phas_lt pt hi
        exact decide_eq_true (by omega)
  have hsubB : ∀ k, k < ys.length → (PSub ((s + t * 2 ^ n : Nat) : Int) (nth (sumR true n m xs ys) (xs.length + k)) = true ↔ PSub (t : Int) (nth ys k) = true) := fun k hk => by
    rw [psub_all (by omega) (row_nn hc (by omega)), psub_all (by omega) (row_nn hy hk)]
    constructor
    · intro h9 i hi
      have := h9 (n + i) (by rw [hst, if_neg (by omega), show n + i - n = i by omega]; exact hi)
      rwa [hrB k hk, if_neg (by omega), show n + i - n = i by omega] at this
    · intro h9 i hi
      rw [hst] at hi
      rw [hrB k hk]
      by_cases hin : i < n
      · rw [if_pos hin]
      · rw [if_neg hin] at hi ⊢; exact h9 _ hi
  have hB : ∀ i : Nat, PHas (Clo (sumR true n m xs ys) (n + m) ((s + t * 2 ^ n : Nat) : Int)) i = if i < n then PHas (Clo xs n (s : Int)) i else PHas (Clo ys m (t : Int)) ((i - n : Nat) : Int) := fun i => by
    by_cases hin : i < n
    · rw [if_pos hin, Bool.eq_iff_iff, clo_has hc, clo_has hx]
      constructor
      · rintro ⟨_, h2⟩
        exact ⟨hin, fun k hk hk2 => by have := h2 k (by omega) ((hsubA k hk).2 hk2); rwa [hrA k hk, if_pos hin] at this⟩
      · rintro ⟨_, h2⟩
        refine ⟨by omega, fun k hk hk2 => ?_⟩
        by_cases hkx : k < xs.length
        · rw [hrA k hkx, if_pos hin]; exact h2 k hkx ((hsubA k hkx).1 hk2)
        · obtain ⟨j, rfl⟩ : ∃ j, k = xs.length + j := ⟨k - xs.length, by omega⟩
          rw [hrB j (by omega), if_pos hin]
    · rw [if_neg hin, Bool.eq_iff_iff, clo_has hc, clo_has hy]
      constructor
      · rintro ⟨h1, h2⟩
        exact ⟨by omega, fun k hk hk2 => by have := h2 (xs.length + k) (by omega) ((hsubB k hk).2 hk2); rwa [hrB k hk, if_neg hin] at this⟩
      · rintro ⟨h1, h2⟩
        refine ⟨by omega, fun k hk hk2 => ?_⟩
        by_cases hkx : k < xs.length
        · rw [hrA k hkx, if_neg hin]; exact decide_eq_true h1
        · obtain ⟨j, rfl⟩ : ∃ j, k = xs.length + j := ⟨k - xs.length, by omega⟩
          rw [hrB j (by omega), if_neg hin]
          exact h2 j (by omega) ((hsubB j (by omega)).1 hk2)
  have hin : ((cloN (sumR true n m xs ys) (n + m) (s + t * 2 ^ n) : Nat) : Int) = ((cloN xs n s + cloN ys m t * 2 ^ n : Nat) : Int) := by
    have e : ((cloN xs n s + cloN ys m t * 2 ^ n : Nat) : Int) = Clo xs n (s : Int) + Clo ys m (t : Int) * 2 ^ n := by
      rw [Int.natCast_add, Int.natCast_mul, cloN_cast, cloN_cast]; simp
    have hr1 := pset_iff.mp (clo_pset hx (s : Int))
    have hr2 := clo_nn ys m (t : Int)
    rw [cloN_cast, e]
    refine int_bits (clo_nn ..) (by have := hr1.2.2.1; have : 0 ≤ Clo ys m (t : Int) * 2 ^ n := Int.mul_nonneg hr2 (Int.le_of_lt (pow_pos2 n)); omega) fun i => ?_
    rw [← phas_nat (clo_nn ..), ← phas_nat (by have := hr1.2.2.1; have : 0 ≤ Clo ys m (t : Int) * 2 ^ n := Int.mul_nonneg hr2 (Int.le_of_lt (pow_pos2 n)); omega), hB, beside_has hr1.2.2.1 (by simpa using hr1.2.2.2) hr2]
  omega
/-- the concepts of a direct sum are pairs of concepts -/
theorem sum_count {n m : Int} {xs ys : List Int} (h : SumC n xs m ys) : (conL (n + m) (sumR true n m xs ys)).length = (conL n xs).length * (conL m ys).length := by
  obtain ⟨hx, hy, hnm, hl⟩ := h
  obtain ⟨N, rfl⟩ : ∃ N : Nat, n = N := ⟨n.toNat, by have := hx.1; omega⟩
  obtain ⟨M, rfl⟩ : ∃ M : Nat, m = M := ⟨m.toNat, by have := hy.1; omega⟩
  have hS : SumC N xs M ys := ⟨hx, hy, hnm, hl⟩
  have hc : PCtx ((N + M : Nat) : Int) (sumR true N M xs ys) := by rw [Int.natCast_add]; exact (sum_ctx hx hy).2 ⟨hnm, hl⟩
  rw [← Int.natCast_add, conL_cnt hc, conL_cnt hx, conL_cnt hy]
  have hp := Nat.two_pow_pos N
  unfold cntC
  rw [← cnt_prod (fun s => decide (cloN xs N s = s)) (fun s => decide (cloN ys M s = s)) hp, ← Nat.pow_add]
  congr 1
  refine List.filter_congr fun s hs => ?_
  have hs := List.mem_range.1 hs
  have h1 : s % 2 ^ N < 2 ^ N := Nat.mod_lt _ hp
  have h2 : s / 2 ^ N < 2 ^ M := by rw [Nat.div_lt_iff_lt_mul hp, ← Nat.pow_add, Nat.add_comm]; exact hs
  have e : s = s % 2 ^ N + s / 2 ^ N * 2 ^ N := by rw [Nat.mul_comm]; exact (Nat.mod_add_div s _).symm
  have hcl := clo_sum hS h1 h2
  rw [← e] at hcl
  rw [hcl, Bool.eq_iff_iff, Bool.and_eq_true, decide_eq_true_eq, decide_eq_true_eq, decide_eq_true_eq]
  have h3 := (clo_cl hx).lt _ h1
  generalize cloN xs N (s % 2 ^ N) = a at *
  generalize cloN ys M (s / 2 ^ N) = b at *
  constructor
  · intro h9
    have q1 : (a + b * 2 ^ N) % 2 ^ N = a := by rw [Nat.add_mul_mod_self_right, Nat.mod_eq_of_lt h3]
    have q2 : (a + b * 2 ^ N) / 2 ^ N = b := by rw [Nat.add_mul_div_right _ _ hp, Nat.div_eq_of_lt h3, Nat.zero_add]
    rw [h9] at q1 q2
    exact ⟨q1.symm, q2.symm⟩
  · rintro ⟨h8, h9⟩
    rw [h8, h9]; exact e.symm
end Go.Proofs.YtliecnadoklgoaaDoor
