/- What is closed under arrows is compatible, and for clarified contexts nothing else is: plain Lean. Conditions: none. -/
import Derived.Test.YtliecnadoklgoaaGreatDoorCmpt
import Derived.Test.YtliecnadoklgoaaGreatDoorPartsB
import Derived.Test.YtliecnadoklgoaaGreatDoorCompl
import Derived.Test.YtliecnadoklgoaaGreatDoorArrClo
import Derived.Test.YtliecnadoklgoaaGreatDoorTabP
namespace Go.Proofs.YtliecnadoklgoaaGreatDoor
open Ev
set_option linter.unusedVariables false
set_option linter.unusedSimpArgs false

theorem subTo_elems {xs : List Int} {o keep : Int} (ho : PSet 8 o = true) : ∀ K, (subTo xs o keep K).length = (elemsTo o K).length
  | 0 => by simp [subTo, elemsTo]
  | K + 1 => by
    simp only [subTo, elemsTo_succ, List.length_append]
    rw [subTo_elems ho K, ho]
    by_cases h : PHas o K = true
    · simp [h]
    · simp [h]
theorem subTo_at {xs : List Int} {o keep : Int} (ho : PSet 8 o = true) {g : Nat} (hg : PHas o g = true) : ∀ K, g < K → nth (subTo xs o keep K) (newI o g) = Pack (nth xs g) keep
  | 0, h => by omega
  | K + 1, h => by
    have hl := subTo_elems (xs := xs) (keep := keep) ho K
    simp only [subTo]
    by_cases e : g = K
    · subst e
      rw [if_pos hg]
      unfold newI
      rw [← hl]
      exact nth_appR
    · have hlt : newI o g < (subTo xs o keep K).length := by
        rw [hl]
        have := elems_at ho hg K (by omega)
        exact (List.getElem?_eq_some_iff.1 this).1
      have ih := subTo_at (xs := xs) (keep := keep) ho hg K (by omega)
      split
      · rw [nth_appL hlt]; exact ih
      · rw [List.append_nil]; exact ih
/-- compatible, told in the context itself -/
def CQ (n : Int) (xs : List Int) (o a : Int) : Prop := ∀ k, k < (conL n xs).length →
  (∀ m : Nat, PHas a m = true → ((∀ g : Nat, PHas o g = true → PHas (nth (fsts (conW n xs)) k) g = true → PHas (nth xs g) m = true) ↔ PHas (nth (snds (conW n xs)) k) m = true)) ∧
  (∀ g : Nat, PHas o g = true → ((∀ m : Nat, PHas a m = true → PHas (nth (snds (conW n xs)) k) m = true → PHas (nth xs g) m = true) ↔ PHas (nth (fsts (conW n xs)) k) g = true))
theorem cmpt_iff {n : Int} {xs : List Int} {o a : Int} (hs : SubC n xs o a) : CmptC n xs o a ↔ CQ n xs o a := by
  obtain ⟨hc, ho, ha⟩ := id hs
  have o8 := pset8 ho
  have a8 := pset8 ha
  obtain ⟨N, rfl⟩ : ∃ N : Nat, n = N := ⟨n.toNat, by have := hc.1; omega⟩
  have hN := hc.2.1
  have hM6 : (elemsTo a 8).length ≤ 6 := by
    rw [elems_top ha]
    have := elemsTo_len a N
    omega
  have hR : subR N xs o a = subTo xs o a xs.length := by unfold subR; rw [if_pos hs]
  have hMv : subN N xs o a = ((elemsTo a 8).length : Nat) := by unfold subN; rw [if_pos hs]
  have hRl : (subTo xs o a xs.length).length = (elemsTo o 8).length := by rw [subTo_elems o8, elems_top ho]
  have hrow : ∀ g : Nat, PHas o g = true → nth (subTo xs o a xs.length) (newI o g) = Pack (nth xs g) a := fun g hg => subTo_at o8 hg _ (by have := phas_lt ho hg; omega)
  have hPC : PCtx (subN N xs o a) (subR N xs o a) := by
    rw [hR, hMv]
    refine ⟨by omega, by omega, by have := elemsTo_len o 8; omega, fun j hj => ?_⟩
    rw [hRl] at hj
    obtain ⟨g, hg, rfl, _⟩ := newI_of hj
    rw [hrow g hg]; exact pack_pset _
  unfold CmptC CQ
  refine ⟨fun h k hk => ?_, fun h => ⟨hs, fun k hk => ?_⟩⟩
  · obtain ⟨_, h1, h2, h3, h4⟩ := h.2 k hk
    rw [hR, hMv] at h3
    rw [hR] at h4
    rw [Int.toNat_natCast] at h3
    refine ⟨fun m hm => ?_, fun g hg => ?_⟩
    · have e := congrArg (fun s => PHas s (newI a m)) h3
      rw [pack_new a8 hm] at e
      rw [← e, int_has, hRl]
      constructor
      · intro h9
        refine ⟨(newI_lt a8 hm).1, fun j hj hj2 => ?_⟩
        obtain ⟨g, hg, rfl, _⟩ := newI_of hj
        rw [pack_new o8 hg] at hj2
        rw [hrow g hg, pack_new a8 hm]
        exact h9 g hg hj2
      · rintro ⟨_, h9⟩ g hg hF
        have := h9 (newI o g) (newI_lt o8 hg).1 (by rw [pack_new o8 hg]; exact hF)
        rw [hrow g hg, pack_new a8 hm] at this; exact this
    · have e := congrArg (fun s => PHas s (newI o g)) h4
      rw [pack_new o8 hg, ext_has, hRl] at e
      rw [← e]
      simp only [(newI_lt o8 hg).1, decide_true, Bool.true_and]
      rw [hrow g hg, psub_all (pack8 _ _).1 (pack8 _ _).1]
      constructor
      · intro h9 j hj
        have hjl : j < (elemsTo a 8).length := by
          have := phas_lt (pack_pset (nth (snds (conW N xs)) k) (keep := a)) hj
          omega
        obtain ⟨m, hm, rfl, _⟩ := newI_of hjl
        rw [pack_new a8 hm] at hj ⊢
        exact h9 m hm hj
      · intro h9 m hm hS
        have := h9 (newI a m) (by rw [pack_new a8 hm]; exact hS)
        rwa [pack_new a8 hm] at this
  · obtain ⟨h1, h2⟩ := h k hk
    refine ⟨hPC, ?_, ?_, ?_, ?_⟩
    · rw [hR, hRl]; exact pack_pset _
    · rw [hMv]; exact pack_pset _
    · rw [hR, hMv, Int.toNat_natCast]
      refine int_bits (int_nn ..) (pack8 _ _).1 fun j => ?_
      rw [← phas_nat (int_nn ..), ← phas_nat (pack8 _ _).1]
      by_cases hj : j < (elemsTo a 8).length
      · obtain ⟨m, hm, rfl, _⟩ := newI_of hj
        rw [pack_new a8 hm, Bool.eq_iff_iff, ← h1 m hm, int_has, hRl]
        constructor
        · rintro ⟨_, h9⟩ g hg hF
          have := h9 (newI o g) (newI_lt o8 hg).1 (by rw [pack_new o8 hg]; exact hF)
          rw [hrow g hg, pack_new a8 hm] at this; exact this
        · intro h9
          refine ⟨hj, fun i hi hi2 => ?_⟩
          obtain ⟨g, hg, rfl, _⟩ := newI_of hi
          rw [pack_new o8 hg] at hi2
          rw [hrow g hg, pack_new a8 hm]
          exact h9 g hg hi2
      · have e1 : PHas (Pack (nth (snds (conW N xs)) k) a) j = false := by
          cases hx : PHas (Pack (nth (snds (conW N xs)) k) a) j with
          | false => rfl
          | true => have := phas_lt (pack_pset (nth (snds (conW N xs)) k) (keep := a)) hx; omega
        rw [e1, Bool.eq_false_iff]
        intro h9
        rw [int_has] at h9
        exact hj h9.1
    · rw [hR]
      refine int_bits (ext_nn ..) (pack8 _ _).1 fun j => ?_
      rw [← phas_nat (ext_nn ..), ← phas_nat (pack8 _ _).1, ext_has, hRl]
      by_cases hj : j < (elemsTo o 8).length
      · obtain ⟨g, hg, rfl, _⟩ := newI_of hj
        rw [pack_new o8 hg, Bool.eq_iff_iff, ← h2 g hg]
        simp only [hj, decide_true, Bool.true_and]
        rw [hrow g hg, psub_all (pack8 _ _).1 (pack8 _ _).1]
        constructor
        · intro h9 m hm hS
          have := h9 (newI a m) (by rw [pack_new a8 hm]; exact hS)
          rwa [pack_new a8 hm] at this
        · intro h9 i hi
          have hil : i < (elemsTo a 8).length := by
            have := phas_lt (pack_pset (nth (snds (conW N xs)) k) (keep := a)) hi
            omega
          obtain ⟨m, hm, rfl, _⟩ := newI_of hil
          rw [pack_new a8 hm] at hi ⊢
          exact h9 m hm hi
      · have e1 : PHas (Pack (nth (fsts (conW N xs)) k) o) j = false := by
          cases hx : PHas (Pack (nth (fsts (conW N xs)) k) o) j with
          | false => rfl
          | true => have := phas_lt (pack_pset (nth (fsts (conW N xs)) k) (keep := o)) hx; omega
        rw [e1]; simp [hj]
theorem up_has {xs : List Int} {N g m : Nat} (hg : 0 ≤ nth xs g) : PHas (Up xs N g) m = true ↔ m < N ∧ PHas (nth xs g) m = false ∧ ∀ n, n < N → Col xs n ≠ Col xs m → PSub (Col xs m) (Col xs n) = true → PHas (nth xs g) n = true := by
  unfold Up
  rw [setOf_has, Bool.and_eq_true, decide_eq_true_eq]
  unfold upP
  rw [Bool.and_eq_true, Bool.not_eq_true', psub_all (setOf_range _ _).1 hg]
  constructor
  · rintro ⟨a, b, c⟩
    exact ⟨a, b, fun n hn h1 h2 => c n (by rw [setOf_has]; unfold moreP; simp [hn, h1, h2])⟩
  · rintro ⟨a, b, c⟩
    refine ⟨a, b, fun n hn => ?_⟩
    rw [setOf_has] at hn
    unfold moreP at hn
    simp only [Bool.and_eq_true, decide_eq_true_eq] at hn
    exact c n hn.1 hn.2.1 hn.2.2
theorem down_has {xs : List Int} {N g m : Nat} : PHas (Down xs N g) m = true ↔ m < N ∧ PHas (nth xs g) m = false ∧ ∀ k, k < xs.length → nth xs k ≠ nth xs g → PSub (nth xs g) (nth xs k) = true → PHas (nth xs k) m = true := by
  unfold Down
  rw [setOf_has, Bool.and_eq_true, decide_eq_true_eq]
  unfold dnQ dnP
  rw [Bool.and_eq_true, Bool.not_eq_true', List.all_eq_true]
  constructor
  · rintro ⟨a, b, c⟩
    refine ⟨a, b, fun k hk h1 h2 => ?_⟩
    have := c k (List.mem_range.2 hk)
    simp only [Bool.or_eq_true, decide_eq_true_eq, Bool.not_eq_true'] at this
    rcases this with (h | h) | h
    · exact absurd h h1
    · rw [h2] at h; cases h
    · exact h
  · rintro ⟨a, b, c⟩
    refine ⟨a, b, fun k hk => ?_⟩
    have hk := List.mem_range.1 hk
    simp only [Bool.or_eq_true, decide_eq_true_eq, Bool.not_eq_true']
    by_cases e : nth xs k = nth xs g
    · exact .inl (.inl e)
    · cases hp : PSub (nth xs g) (nth xs k) with
      | false => exact .inl (.inr rfl)
      | true => exact .inr (c k hk e hp)
/-- a greatest one of some sets -/
theorem max_set {f : Nat → Int} {L : Nat} (hf : ∀ n, n < L → 0 ≤ f n ∧ f n < 256) {Q : Nat → Prop} {n0 : Nat} (h0 : n0 < L) (hq : Q n0) :
    ∃ n, n < L ∧ Q n ∧ PSub (f n0) (f n) = true ∧ ∀ j, j < L → Q j → f j ≠ f n → ¬ PSub (f n) (f j) = true := by
  have key : ∀ d n, n < L → Q n → PSub (f n0) (f n) = true → 256 - (f n).toNat ≤ d → ∃ n, n < L ∧ Q n ∧ PSub (f n0) (f n) = true ∧ ∀ j, j < L → Q j → f j ≠ f n → ¬ PSub (f n) (f j) = true := by
    intro d
    induction d with
    | zero => intro n hn _ _ hd; have := hf n hn; omega
    | succ d ih =>
      intro n hn hqn hs hd
      by_cases hm : ∃ j, j < L ∧ Q j ∧ f j ≠ f n ∧ PSub (f n) (f j) = true
      · obtain ⟨j, hj, hqj, hne, hsj⟩ := hm
        have a := hf n hn
        have b := hf j hj
        have hle := psub_le a.1 b.1 hsj
        exact ih j hj hqj (psub_trans (hf n0 h0).1 a.1 b.1 hs hsj) (by omega)
      · exact ⟨n, hn, hqn, hs, fun j hj hqj hne hs2 => hm ⟨j, hj, hqj, hne, hs2⟩⟩
  exact key 256 n0 h0 hq (psub_refl _) (by omega)
theorem up_nn (xs : List Int) (N g : Nat) : 0 ≤ Up xs N g := (setOf_range _ _).1
theorem down_nn (xs : List Int) (N g : Nat) : 0 ≤ Down xs N g := (setOf_range _ _).1
/-- closed under arrows: compatible -/
theorem arr_cmpt {n : Int} {xs : List Int} {o a : Int} (h : ArrP n xs o a) : CmptC n xs o a := by
  obtain ⟨hc, ho, ha, hA⟩ := h
  rw [cmpt_iff ⟨hc, ho, ha⟩]
  obtain ⟨N, rfl⟩ : ∃ N : Nat, n = N := ⟨n.toNat, by have := hc.1; omega⟩
  rw [Int.toNat_natCast] at hA
  have hl8 := hc.2.2.1
  intro k hk
  refine ⟨fun m hm => ⟨fun h1 => ?_, fun h1 g hg hF => ?_⟩, fun g hg => ⟨fun h1 => ?_, fun h1 m hm hS => ?_⟩⟩
  · have hmN : m < N := by have := phas_lt ha hm; omega
    rw [con_S hk]
    refine ⟨hmN, fun g hF => ?_⟩
    apply Classical.byContradiction
    intro hgm
    have hgl := ((con_F hk g).1 hF).1
    obtain ⟨i, hi, hqi, hsi, hmax⟩ := max_set (f := fun i => nth xs i) (L := xs.length) (Q := fun i => PHas (nth xs i) m = false) (fun i hi => by have := pset_lt (hc.2.2.2 i hi); exact this) hgl (by simpa using hgm)
    have hD : PHas (Down xs N i) m = true := by
      rw [down_has]
      refine ⟨hmN, hqi, fun j hj h2 h3 => ?_⟩
      cases hx : PHas (nth xs j) m with
      | true => rfl
      | false => exact absurd h3 (hmax j hj hx h2)
    have hio : PHas o i = true := by
      cases hx : PHas o i with
      | true => rfl
      | false =>
        have := (hA i hi).2 hx
        have h5 := (meetB_iff (s := Down xs N i) (t := a) (setOf_range _ _).1 (pset_nn ha)).2 ⟨m, hD, hm⟩
        rw [h5] at this; cases this
    have hFi : PHas (nth (fsts (conW N xs)) k) i = true := by
      rw [con_F hk] at hF ⊢
      refine ⟨hi, fun j hj => ?_⟩
      have h6 := (psub_all (row_nn hc hgl) (row_nn hc hi)).1 hsi j
      exact h6 (hF.2 j hj)
    have h7 := h1 i hio hFi
    have h8 : PHas (nth xs i) m = false := hqi
    rw [h8] at h7; cases h7
  · exact ((con_S hk m).1 h1).2 g hF
  · have hgl := phas_lt ho hg
    have hgl2 : g < xs.length := by omega
    rw [con_F hk]
    refine ⟨hgl2, fun m hS => ?_⟩
    apply Classical.byContradiction
    intro hgm
    have hmN := ((con_S hk m).1 hS).1
    obtain ⟨i, hi, hqi, hsi, hmax⟩ := max_set (f := fun i => Col xs i) (L := N) (Q := fun i => PHas (nth xs g) i = false) (fun i hi => col_range xs i hl8) hmN (by simpa using hgm)
    have hU : PHas (Up xs N g) i = true := by
      rw [up_has (row_nn hc hgl2)]
      refine ⟨hi, hqi, fun j hj h2 h3 => ?_⟩
      cases hx : PHas (nth xs g) j with
      | true => rfl
      | false => exact absurd h3 (hmax j hj hx h2)
    have hia : PHas a i = true := (psub_all (setOf_range _ _).1 (pset_nn ha)).1 ((hA g hgl2).1 hg) i hU
    have hSi : PHas (nth (snds (conW N xs)) k) i = true := by
      rw [con_S hk] at hS ⊢
      refine ⟨hi, fun j hj => ?_⟩
      exact col_sub.1 hsi j ((con_F hk j).1 hj).1 (hS.2 j hj)
    have h7 := h1 i hia hSi
    have h8 : PHas (nth xs g) i = false := hqi
    rw [h8] at h7; cases h7
  · exact ((con_F hk g).1 h1).2 m hS
/-- compatible and clarified: closed under arrows -/
theorem cmpt_arr {n : Int} {xs : List Int} {o a : Int} (h : CmptC n xs o a) (hr : ∀ i j, i < xs.length → j < xs.length → nth xs i = nth xs j → i = j) (hm : ∀ i j, i < n.toNat → j < n.toNat → Col xs i = Col xs j → i = j) : ArrP n xs o a := by
  obtain ⟨hc, ho, ha⟩ := h.1
  have hq := (cmpt_iff ⟨hc, ho, ha⟩).1 h
  obtain ⟨N, rfl⟩ : ∃ N : Nat, n = N := ⟨n.toNat, by have := hc.1; omega⟩
  rw [Int.toNat_natCast] at hm
  have hC := clo_cl hc
  have hN8 : N ≤ 8 := by have := hc.2.1; omega
  refine ⟨hc, ho, ha, fun g hg => ⟨fun hgo => ?_, fun hgo => ?_⟩⟩
  · rw [Int.toNat_natCast, psub_all (up_nn _ _ _) (pset_nn ha)]
    intro m hU
    rw [up_has (row_nn hc hg)] at hU
    obtain ⟨hmN, hgm, hall⟩ := hU
    apply Classical.byContradiction
    intro hma
    -- the attribute's concept
    have hp : PSet N ((2 ^ m : Nat) : Int) = true := pset_nat hN8 (Nat.pow_lt_pow_right (by decide) hmN)
    obtain ⟨k, hk, e⟩ := closed_at hc (hC.lt _ (nat_pset hp).1) (hC.idem _ (nat_pset hp).1)
    rw [Int.toNat_natCast] at e
    have hFk : nth (fsts (conW N xs)) k = Ext xs ((2 ^ m : Nat) : Int) := by rw [nthF hk, e, cloN_cast, ext_clo hc hp]
    have hpm : ∀ j : Nat, PHas ((2 ^ m : Nat) : Int) j = decide (m = j) := fun j => by rw [phas_nat (Int.natCast_nonneg _), Int.toNat_natCast, Nat.testBit_two_pow]
    have hF : ∀ i : Nat, PHas (nth (fsts (conW N xs)) k) i = true ↔ i < xs.length ∧ PHas (nth xs i) m = true := fun i => by
      rw [hFk, ext_has, Bool.and_eq_true, decide_eq_true_eq]
      constructor
      · rintro ⟨h1, h2⟩
        exact ⟨h1, (psub_all (pset_nn hp) (row_nn hc h1)).1 h2 m (by rw [hpm]; simp)⟩
      · rintro ⟨h1, h2⟩
        refine ⟨h1, (psub_all (pset_nn hp) (row_nn hc h1)).2 fun j hj => ?_⟩
        rw [hpm] at hj
        have : m = j := by simpa using hj
        rw [← this]; exact h2
    have h1 := ((hq k hk).2 g hgo).1 fun i hia hSi => by
      have hSi := (con_S hk i).1 hSi
      have hsub : PSub (Col xs m) (Col xs i) = true := col_sub.2 fun j hj hjm => hSi.2 j ((hF j).2 ⟨hj, hjm⟩)
      refine hall i hSi.1 (fun e9 => ?_) hsub
      have := hm i m hSi.1 hmN e9
      rw [this] at hia
      exact hma hia
    have h2 := ((hF g).1 h1).2
    rw [hgm] at h2; cases h2
  · rw [Int.toNat_natCast, Bool.eq_false_iff]
    intro hmt
    obtain ⟨m, hD, hma⟩ := (meetB_iff (s := Down xs N g) (t := a) (setOf_range _ _).1 (pset_nn ha)).1 hmt
    rw [down_has] at hD
    obtain ⟨hmN, hgm, hall⟩ := hD
    have hrow := hc.2.2.2 g hg
    have hrn := nat_pset hrow
    have hclo : cloN xs N (nth xs g).toNat = (nth xs g).toNat := by
      have hle : PSub (Clo xs N (nth xs g)) (nth xs g) = true := by
        rw [psub_all (clo_nn ..) (pset_nn hrow)]
        intro j hj
        unfold Clo at hj
        rw [int_has] at hj
        exact hj.2 g hg (by rw [ext_has]; simp [hg, psub_refl])
      have := psub_antisymm (clo_nn ..) (pset_nn hrow) hle (sub_clo hc hrow)
      unfold cloN
      rw [hrn.2, this]
    obtain ⟨k, hk, e⟩ := closed_at hc hrn.1 hclo
    have hSk : nth (snds (conW N xs)) k = nth xs g := by rw [nthS hk, e, hrn.2]
    have h1 := ((hq k hk).1 m hma).1 fun i hio hFi => by
      have hFi := (con_F hk i).1 hFi
      have hsub : PSub (nth xs g) (nth xs i) = true := (psub_all (pset_nn hrow) (row_nn hc hFi.1)).2 fun j hj => hFi.2 j (by rw [hSk]; exact hj)
      refine hall i hFi.1 (fun e9 => ?_) hsub
      have := hr i g hFi.1 hg e9
      rw [this, hgo] at hio; cases hio
    rw [hSk, hgm] at h1; cases h1
/-- the arrow closure is closed under arrows -/
theorem arr_least {xs : List Int} {N : Nat} {o : Int} (hN : N ≤ 8) (hl : xs.length ≤ 8) (ho : PSet xs.length o = true) : ∃ p, ArrLeast xs N o p := by
  have key : ∀ d O A, ArrIn xs N o O A → 512 - (O + A).toNat ≤ d → ∃ p, ArrLeast xs N o p := by
    intro d
    induction d with
    | zero =>
      intro O A h hd
      have a := pset_lt h.1
      have b := pset_lt h.2.1
      omega
    | succ d ih =>
      intro O A h hd
      by_cases hA : ArrC xs N O A
      · exact ⟨(O, A), h, hA⟩
      · obtain ⟨h1, h2⟩ := arrIn_pul hN hl (pset_nn ho) h hA
        have a := pset_lt h.1
        have b := pset_lt h.2.1
        exact ih _ _ h1 (by omega)
  exact key 512 o 0 (arrIn_0 hN ho) (by omega)
theorem arr_closed {n : Int} {xs : List Int} {o : Int} (hc : PCtx n xs) (ho : PSet xs.length o = true) : ArrP n xs (arrO n xs o) (arrA n xs o) ∧ PSub o (arrO n xs o) = true ∧ PSet 8 (arrO n xs o) = true := by
  obtain ⟨N, rfl⟩ : ∃ N : Nat, n = N := ⟨n.toNat, by have := hc.1; omega⟩
  have hN8 : N ≤ 8 := by have := hc.2.1; omega
  have hex := arr_least (N := N) hN8 hc.2.2.1 ho
  have hv : arrV xs N o = Classical.choose hex := by unfold arrV; rw [dif_pos hex]
  have hs := Classical.choose_spec hex
  rw [← hv] at hs
  obtain ⟨⟨h1, h2, h3, _⟩, h5⟩ := hs
  unfold arrO arrA
  rw [if_pos ⟨hc, ho⟩, if_pos ⟨hc, ho⟩, Int.toNat_natCast]
  exact ⟨⟨hc, h1, h2, h5⟩, h3, pset8 h1⟩
end Go.Proofs.YtliecnadoklgoaaGreatDoor
