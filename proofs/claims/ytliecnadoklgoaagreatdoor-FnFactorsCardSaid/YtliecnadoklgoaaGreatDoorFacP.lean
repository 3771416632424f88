/- XPickP XFacL, joined. Conditions: none. -/
import Derived.Test.YtliecnadoklgoaaGreatDoorGrdP
import Derived.Test.YtliecnadoklgoaaGreatDoorCover
import Derived.Test.YtliecnadoklgoaaGreatDoorTabP
/- The first list of so many concepts that covers: plain Lean. Conditions: none. -/
namespace Go.Proofs.YtliecnadoklgoaaGreatDoor
open Ev
set_option linter.unusedVariables false
set_option linter.unusedSimpArgs false

/-- the first of some places at which something is answered -/
def firstS {α : Type} (f : Nat → Option α) : Nat → Nat → Option α
  | _, 0 => none
  | a, d + 1 => match f a with | some x => some x | none => firstS f (a + 1) d
theorem firstS_some {α : Type} {f : Nat → Option α} {x : α} : ∀ {d a : Nat}, firstS f a d = some x → ∃ k, a ≤ k ∧ k < a + d ∧ f k = some x
  | 0, a, h => by simp [firstS] at h
  | d + 1, a, h => by
    unfold firstS at h
    cases hf : f a with
    | some y => rw [hf] at h; exact ⟨a, Nat.le_refl _, by omega, by rw [hf]; exact h⟩
    | none =>
      rw [hf] at h
      obtain ⟨k, h1, h2, h3⟩ := firstS_some (d := d) (a := a + 1) h
      exact ⟨k, by omega, by omega, h3⟩
theorem firstS_none {α : Type} {f : Nat → Option α} : ∀ {d a : Nat}, firstS f a d = none → ∀ k, a ≤ k → k < a + d → f k = none
  | 0, a, _, k, h1, h2 => by omega
  | d + 1, a, h, k, h1, h2 => by
    unfold firstS at h
    cases hf : f a with
    | some y => rw [hf] at h; simp at h
    | none =>
      rw [hf] at h
      by_cases e : k = a
      · rw [e]; exact hf
      · exact firstS_none (d := d) (a := a + 1) h k (by omega) (by omega)
/-- lists of so many more places, in their order, the first that is right -/
def pickD (ok : List Nat → Bool) (len : Nat) : Nat → Nat → List Nat → Option (List Nat)
  | 0, _, done => if ok done = true then some done else none
  | c + 1, from_, done => firstS (fun k => pickD ok len c (k + 1) (done ++ [k])) from_ (len - from_)
theorem pickD_sound {ok : List Nat → Bool} {len : Nat} : ∀ {c from_ : Nat} {done out : List Nat}, pickD ok len c from_ done = some out → ok out = true ∧ out.length = done.length + c ∧ ((∀ k ∈ done, k < len) → ∀ k ∈ out, k < len)
  | 0, from_, done, out, h => by
    unfold pickD at h
    split at h
    · rename_i ho; obtain rfl := Option.some.inj h; exact ⟨ho, rfl, fun h => h⟩
    · cases h
  | c + 1, from_, done, out, h => by
    unfold pickD at h
    obtain ⟨k, h1, h2, h3⟩ := firstS_some h
    obtain ⟨a, b, d⟩ := pickD_sound (c := c) h3
    refine ⟨a, by rw [b]; simp; omega, fun hd => d fun j hj => ?_⟩
    rw [List.mem_append, List.mem_singleton] at hj
    rcases hj with hj | rfl
    · exact hd j hj
    · omega
theorem pickD_full {ok : List Nat → Bool} {len : Nat} : ∀ {c from_ : Nat} {done L : List Nat}, L.length = c → L.Pairwise (· < ·) → (∀ k ∈ L, from_ ≤ k ∧ k < len) → ok (done ++ L) = true → pickD ok len c from_ done ≠ none
  | 0, from_, done, L, hl, hp, hr, ho => by
    obtain rfl := List.eq_nil_of_length_eq_zero hl
    unfold pickD
    rw [List.append_nil] at ho
    rw [if_pos ho]; simp
  | c + 1, from_, done, L, hl, hp, hr, ho => by
    cases L with
    | nil => simp at hl
    | cons k L =>
      intro hn
      unfold pickD at hn
      have hk := hr k (by simp)
      have h1 := firstS_none hn k hk.1 (by omega)
      rw [List.pairwise_cons] at hp
      refine pickD_full (c := c) (from_ := k + 1) (done := done ++ [k]) (L := L) (by simpa using hl) hp.2 (fun j hj => ⟨hp.1 j hj, (hr j (by simp [hj])).2⟩) ?_ h1
      rw [List.append_assoc]; exact ho
theorem firstS_step {α : Type} (f : Nat → Option α) {a d : Nat} (h : 0 < d) : firstS f a d = match f a with | some x => some x | none => firstS f (a + 1) (d - 1) := by
  obtain ⟨e, rfl⟩ : ∃ e, d = e + 1 := ⟨d - 1, by omega⟩
  rfl
/- what the chosen cover, and what is left -/
def recsL (F S : List Int) (L : List Nat) : List AV := L.map fun k => pr (nth F k) (nth S k)
def openL (F S : List Int) (f0 : Nat → Int) : List Nat → (Nat → Int)
  | [] => f0
  | k :: L => openL F S (nxtF (nth F k) (nth S k) f0) L
theorem openL_app (F S : List Int) (f0 : Nat → Int) (L : List Nat) (k : Nat) : openL F S f0 (L ++ [k]) = nxtF (nth F k) (nth S k) (openL F S f0 L) := by
  induction L generalizing f0 with
  | nil => rfl
  | cons j L ih => simp only [List.cons_append, openL]; exact ih _
theorem openL_64 {F S : List Int} {len : Nat} (hS : ∀ k, k < len → 0 ≤ nth S k ∧ nth S k < 64) : ∀ {L : List Nat} {f0 : Nat → Int}, In64 f0 → (∀ k ∈ L, k < len) → In64 (openL F S f0 L)
  | [], f0, h, _ => h
  | k :: L, f0, h, hl => openL_64 (F := F) (f0 := nxtF (nth F k) (nth S k) f0) hS (nxt_in h (hS k (hl k (by simp)))) fun j hj => hl j (by simp [hj])
theorem diI_has {x s : Int} (i : Nat) (hx : 0 ≤ x) (hs : 0 ≤ s) : PHas (diI x s) i = (PHas x i && !PHas s i) := by
  unfold diI
  rw [phas_nat (by omega), Int.toNat_natCast, diff_testBit, phas_nat hx, phas_nat hs]
theorem openL_has {F S : List Int} {len : Nat} (hS : ∀ k, k < len → 0 ≤ nth S k ∧ nth S k < 64) (g i : Nat) : ∀ {L : List Nat} {f0 : Nat → Int}, In64 f0 → (∀ k ∈ L, k < len) → (PHas (openL F S f0 L g) i = true ↔ PHas (f0 g) i = true ∧ ∀ k ∈ L, PHas (nth F k) g = true → PHas (nth S k) i = false)
  | [], f0, h, _ => by simp [openL]
  | k :: L, f0, h, hl => by
    have hk := hS k (hl k (by simp))
    have ih := openL_has (F := F) hS g i (L := L) (f0 := nxtF (nth F k) (nth S k) f0) (nxt_in h hk) fun j hj => hl j (by simp [hj])
    simp only [openL]
    rw [ih]
    have e : PHas (nxtF (nth F k) (nth S k) f0 g) i = true ↔ PHas (f0 g) i = true ∧ (PHas (nth F k) g = true → PHas (nth S k) i = false) := by
      unfold nxtF
      by_cases hp : PHas (nth F k) g = true
      · rw [if_pos hp, diI_has i (h g).1 hk.1, Bool.and_eq_true, Bool.not_eq_true']
        simp [hp]
      · rw [if_neg hp]; simp [hp]
    rw [e]
    simp only [List.mem_cons, forall_eq_or_imp]
    constructor
    · rintro ⟨⟨a, b⟩, c⟩; exact ⟨a, b, c⟩
    · rintro ⟨a, b, c⟩; exact ⟨⟨a, b⟩, c⟩
/-- is nothing left -/
def okL (F S : List Int) (G : Nat) (f0 : Nat → Int) (L : List Nat) : Bool := (List.range G).all fun g => decide (openL F S f0 L g = 0)
theorem zero_has {x : Int} (h : 0 ≤ x) : x = 0 ↔ ∀ i : Nat, PHas x i = false := by
  constructor
  · intro e i; rw [e, phas_nat (by decide)]; simp
  · intro h9
    refine int_bits h (by decide) fun i => ?_
    have := h9 i
    rw [phas_nat h] at this
    rw [this]; simp
theorem okL_iff {F S : List Int} {len G : Nat} {f0 : Nat → Int} {L : List Nat} (hS : ∀ k, k < len → 0 ≤ nth S k ∧ nth S k < 64) (h : In64 f0) (hl : ∀ k ∈ L, k < len) :
    okL F S G f0 L = true ↔ ∀ g, g < G → ∀ i : Nat, PHas (f0 g) i = true → ∃ k, k ∈ L ∧ PHas (nth F k) g = true ∧ PHas (nth S k) i = true := by
  unfold okL
  simp only [List.all_eq_true, List.mem_range, decide_eq_true_eq]
  constructor
  · intro h1 g hg i hi
    have h2 := (zero_has (openL_64 hS h hl g).1).1 (h1 g hg) i
    have h3 := openL_has (F := F) hS g i h hl
    rw [h2] at h3
    apply Classical.byContradiction
    intro hno
    refine absurd (h3.2 ⟨hi, fun k hk hF => ?_⟩) (by simp)
    cases hs : PHas (nth S k) i with
    | false => rfl
    | true => exact absurd ⟨k, hk, hF, hs⟩ hno
  · intro h1 g hg
    rw [zero_has (openL_64 hS h hl g).1]
    intro i
    cases hx : PHas (openL F S f0 L g) i with
    | false => rfl
    | true =>
      obtain ⟨a, b⟩ := (openL_has hS g i h hl).1 hx
      obtain ⟨k, hk, hF, hs⟩ := h1 g hg i a
      have := b k hk hF
      rw [hs] at this; cases this
/-- some concepts of a context -/
theorem con_is {N : Nat} {xs : List Int} (hc : PCtx N xs) {k : Nat} (hk : k < (conL N xs).length) : IsCon N xs (nth (fsts (conW N xs)) k) (nth (snds (conW N xs)) k) := by
  obtain ⟨_, h1, h2⟩ := closed_get hk
  simp only [Int.toNat_natCast] at h1 h2
  have hN8 : N ≤ 8 := by have := hc.2.1; omega
  have e : nth (fsts (conW N xs)) k = Ext xs (nth (snds (conW N xs)) k) := by rw [nthF hk, nthS hk]
  refine ⟨hc, by rw [nthF hk]; exact ext_pset _ _ hc.2.2.1, by rw [nthS hk]; exact pset_nat hN8 h1, ?_, e.symm⟩
  rw [e, nthS hk, Int.toNat_natCast]
  show Clo xs N _ = _
  rw [← cloN_cast, h2]
theorem recs_fsts (F S : List Int) (L : List Nat) : (recsL F S L).map fstI = L.map fun k => nth F k := by simp [recsL, Function.comp_def]
theorem recs_snds (F S : List Int) (L : List Nat) : (recsL F S L).map sndI = L.map fun k => nth S k := by simp [recsL, Function.comp_def]
theorem nth_map {α : Type} (f : α → Int) (L : List α) {i : Nat} (h : i < L.length) : nth (L.map f) i = f L[i] := by simp [nth, h]
/-- a list of concepts covers the context where nothing is left -/
theorem cov_ok {N : Nat} {xs : List Int} (hc : PCtx N xs) {L : List Nat} (hl : ∀ k ∈ L, k < (conL N xs).length) :
    CovC N xs (L.map fun k => nth (fsts (conW N xs)) k) (L.map fun k => nth (snds (conW N xs)) k) ↔ okL (fsts (conW N xs)) (snds (conW N xs)) xs.length (fun g => nth xs g) L = true := by
  have hS : ∀ k, k < (conL N xs).length → 0 ≤ nth (snds (conW N xs)) k ∧ nth (snds (conW N xs)) k < 64 := fun k hk => by
    obtain ⟨hc2, h1, _⟩ := closed_get hk
    rw [nthS hk]
    have : (2 : Nat) ^ (N : Int).toNat ≤ 2 ^ 6 := Nat.pow_le_pow_right (by decide) (by have := hc2.2.1; omega)
    omega
  have h64 : In64 (fun g => nth xs g) := fun g => by
    by_cases hg : g < xs.length
    · have h := hc.2.2.2 g hg
      obtain ⟨h1, h2, h3, h4⟩ := pset_iff.mp h
      have : (2 : Int) ^ (N : Int).toNat ≤ 2 ^ 6 := two_pow_le (by have := hc.2.1; omega)
      show 0 ≤ nth xs g ∧ nth xs g < 64
      omega
    · show 0 ≤ nth xs g ∧ nth xs g < 64
      unfold nth
      simp [hg]
  rw [okL_iff hS h64 hl]
  have hcon : ∀ i, i < L.length → IsCon N xs (nth (L.map fun k => nth (fsts (conW N xs)) k) i) (nth (L.map fun k => nth (snds (conW N xs)) k) i) := fun i hi => by
    rw [nth_map _ _ hi, nth_map _ _ hi]
    exact con_is hc (hl _ (List.getElem_mem hi))
  have hrow : ∀ g : Nat, g < xs.length → ∀ i : Nat, PHas (prodRow (L.map fun k => nth (fsts (conW N xs)) k) (L.map fun k => nth (snds (conW N xs)) k) N L.length g) i = true ↔ i < N ∧ ∃ k, k ∈ L ∧ PHas (nth (fsts (conW N xs)) k) g = true ∧ PHas (nth (snds (conW N xs)) k) i = true := fun g hg i => by
    unfold prodRow
    rw [setOf_has, Bool.and_eq_true, decide_eq_true_eq]
    unfold prodP
    rw [List.any_eq_true]
    constructor
    · rintro ⟨h1, j, hj, h2⟩
      rw [List.mem_range] at hj
      rw [nth_map _ _ hj, nth_map _ _ hj, Bool.and_eq_true] at h2
      exact ⟨h1, _, List.getElem_mem hj, h2.1, h2.2⟩
    · rintro ⟨h1, k, hk, h2, h3⟩
      obtain ⟨j, hj, rfl⟩ := List.getElem_of_mem hk
      refine ⟨h1, j, List.mem_range.2 hj, ?_⟩
      rw [nth_map _ _ hj, nth_map _ _ hj, h2, h3]; rfl
  constructor
  · rintro ⟨_, _, h3⟩ g hg i hi
    simp only [List.length_map, Int.toNat_natCast] at h3
    have h4 := congrArg (fun l => nth l g) h3
    simp only [tab_nth _ hg] at h4
    rw [← h4] at hi
    exact ((hrow g hg i).1 hi).2
  · intro h
    refine ⟨hc, fun i hi => hcon i (by simpa using hi), ?_⟩
    simp only [List.length_map, Int.toNat_natCast]
    refine (tab_eq rfl fun g hg => ?_).symm
    have hr := hc.2.2.2 g hg
    refine int_bits (pset_nn hr) (setOf_range _ _).1 fun i => ?_
    rw [← phas_nat (pset_nn hr), ← phas_nat (show 0 ≤ prodRow _ _ N L.length g from (setOf_range _ _).1), Bool.eq_iff_iff, hrow g hg i]
    constructor
    · intro hi
      exact ⟨by have := phas_lt hr hi; omega, h g hg i hi⟩
    · rintro ⟨_, k, hk, hF, hSk⟩
      have hkl := hl k hk
      obtain ⟨_, _, _, h4, _⟩ := con_is hc hkl
      rw [← h4, Int.toNat_natCast, int_has] at hSk
      exact hSk.2 g hg hF
end Go.Proofs.YtliecnadoklgoaaGreatDoor
/- Greedy factors cover, and no list of factors that is sought is longer: plain Lean. Conditions: none. -/
namespace Go.Proofs.YtliecnadoklgoaaGreatDoor
open Ev
set_option linter.unusedVariables false
set_option linter.unusedSimpArgs false

theorem bst_max (F S : List Int) (G : Nat) (f : Nat → Int) : ∀ (k j : Nat), j < k → gn F S G f j ≤ gn F S G f (bst F S G f k)
  | 0, j, h => by omega
  | k + 1, j, h => by
    unfold bst
    split
    · rename_i hlt
      by_cases e : j = k
      · rw [e]; exact Int.le_refl _
      · have := bst_max F S G f k j (by omega); omega
    · rename_i hlt
      by_cases e : j = k
      · rw [e]; omega
      · exact bst_max F S G f k j (by omega)
theorem gTo_zero {f : Nat → Int} {e s : Int} : ∀ {G : Nat}, gTo f e s G = 0 → ∀ g, g < G → PHas e g = true → cntI (andI (f g) s) = 0
  | 0, _, g, hg, _ => by omega
  | G + 1, h, g, hg, hp => by
    have h1 := (gTo_range f e s G).1
    have h2 := (cntI_range (andI (f G) s)).1
    simp only [gTo] at h
    by_cases e1 : g = G
    · subst e1; rw [if_pos hp] at h; omega
    · refine gTo_zero (G := G) ?_ g (by omega) hp
      split at h <;> omega
theorem cnt_andI {x s : Int} (hx : 0 ≤ x ∧ x < 64) (hs : 0 ≤ s ∧ s < 64) (h : cntI (andI x s) = 0) (i : Nat) (h1 : PHas x i = true) (h2 : PHas s i = true) : False := by
  have hps : PSet 8 (andI x s) = true := by
    rw [pset_iff]
    have : x.toNat &&& s.toNat < 2 ^ 6 := Nat.and_lt_two_pow _ (by omega)
    unfold andI
    refine ⟨by decide, by decide, by omega, ?_⟩
    have e : (2 : Int) ^ (8 : Int).toNat = 256 := by decide
    rw [e]; omega
  have hb : PHas (andI x s) i = true := by
    unfold andI
    rw [phas_nat (by omega), Int.toNat_natCast, Nat.testBit_and, ← phas_nat hx.1, ← phas_nat hs.1, h1, h2]; rfl
  have hi := phas_lt hps hb
  obtain ⟨e, he, _⟩ := elems_mem (by omega) hps hb
  unfold cntI at h
  omega
structure GrB (F S : List Int) (G len : Nat) (f0 : Nat → Int) (i : Nat) (L : List Nat) : Prop where
  run : grun F S G len f0 i = (recsL F S L, openL F S f0 L)
  lt : ∀ k ∈ L, k < len
  nd : L.Nodup
theorem gain_of {F S : List Int} {G len : Nat} {f0 : Nat → Int} {L : List Nat} (hS : ∀ k, k < len → 0 ≤ nth S k ∧ nth S k < 64) (h0 : In64 f0) (hl : ∀ k ∈ L, k < len) {k : Nat} (hk : k ∈ L) : gn F S G (openL F S f0 L) k = 0 := by
  have h64 := openL_64 (F := F) hS h0 hl
  have : ∀ m, gTo (openL F S f0 L) (nth F k) (nth S k) m = 0 := by
    intro m
    induction m with
    | zero => rfl
    | succ m ih =>
      simp only [gTo]
      rw [ih]
      split
      · rename_i hp
        have hz : andI (openL F S f0 L m) (nth S k) = 0 := by
          unfold andI
          have : (openL F S f0 L m).toNat &&& (nth S k).toNat = 0 := by
            apply Nat.eq_of_testBit_eq
            intro i
            rw [Nat.testBit_and, Nat.zero_testBit, ← phas_nat (h64 m).1, ← phas_nat (hS k (hl k hk)).1]
            cases hx : PHas (openL F S f0 L m) i with
            | false => rfl
            | true => rw [((openL_has hS m i h0 hl).1 hx).2 k hk hp]; rfl
          rw [this]; rfl
        rw [hz]; exact cnt_zero0
      · rfl
  exact this G
where cnt_zero0 : (0 : Int) + cntI 0 = 0 := by unfold cntI elemsTo; decide +kernel
theorem grun_places {F S : List Int} {G len : Nat} {f0 : Nat → Int} (hS : ∀ k, k < len → 0 ≤ nth S k ∧ nth S k < 64) (h0 : In64 f0) (hpos : 0 < len) : ∀ i, ∃ L, GrB F S G len f0 i L
  | 0 => ⟨[], rfl, by simp, List.Pairwise.nil⟩
  | i + 1 => by
    obtain ⟨L, h1, h2, h3⟩ := grun_places hS h0 hpos i
    by_cases hz : gn F S G (openL F S f0 L) (bst F S G (openL F S f0 L) len) = 0
    · exact ⟨L, by rw [grun_succ, h1]; rw [if_pos hz], h2, h3⟩
    · refine ⟨L ++ [bst F S G (openL F S f0 L) len], ?_, fun k hk => ?_, ?_⟩
      · rw [grun_succ, h1, if_neg hz, openL_app]
        simp [recsL]
      · rw [List.mem_append, List.mem_singleton] at hk
        rcases hk with hk | rfl
        · exact h2 k hk
        · exact bst_lt F S G _ hpos
      · rw [List.nodup_append]
        refine ⟨h3, by simp, fun a ha b hb e => ?_⟩
        rw [List.mem_singleton] at hb
        subst hb
        subst e
        exact hz (gain_of hS h0 h2 ha)
theorem grun_done {F S : List Int} {G len : Nat} {f0 : Nat → Int} (hS : ∀ k, k < len → 0 ≤ nth S k ∧ nth S k < 64) (h0 : In64 f0) (hG : G ≤ 8) (hpos : 0 < len) :
    gn F S G (grun F S G len f0 64).2 (bst F S G (grun F S G len f0 64).2 len) = 0 := by
  have key : ∀ i, i ≤ 64 → gn F S G (grun F S G len f0 i).2 (bst F S G (grun F S G len f0 i).2 len) = 0 ∨ ∃ es f, GInv F S G len f0 i es f := by
    intro i
    induction i with
    | zero => intro _; exact .inr ⟨_, _, ginv_zero h0 hG⟩
    | succ i ih =>
      intro hi
      rcases ih (by omega) with h | ⟨es, f, h⟩
      · left
        rw [grun_stay h (i + 1) (by omega)]; exact h
      · by_cases hz : gn F S G f (bst F S G f len) = 0
        · left
          have h1 := h.1
          rw [grun_stay (i := i) (by rw [h1]; exact hz) (i + 1) (by omega), h1]; exact hz
        · exact .inr ⟨_, _, (ginv_next h (hS _ (bst_lt F S G f hpos)) hz).2⟩
  rcases key 64 (Nat.le_refl _) with h | ⟨es, f, h⟩
  · exact h
  · have h1 := h.1
    rw [h1]
    show gn F S G f (bst F S G f len) = 0
    apply Classical.byContradiction
    intro hz
    have := (ginv_next h (hS _ (bst_lt F S G f hpos)) hz).1
    omega
/-- the greedy factors are concepts at different places that cover -/
theorem grd_covers {N : Nat} {xs : List Int} (hc : PCtx N xs) : ∃ L : List Nat, grdL N xs = recsL (fsts (conW N xs)) (snds (conW N xs)) L ∧ (∀ k ∈ L, k < (conL N xs).length) ∧ L.Nodup ∧ okL (fsts (conW N xs)) (snds (conW N xs)) xs.length (fun g => nth xs g) L = true := by
  have hS : ∀ k, k < (conL N xs).length → 0 ≤ nth (snds (conW N xs)) k ∧ nth (snds (conW N xs)) k < 64 := fun k hk => by
    obtain ⟨hc2, h1, _⟩ := closed_get hk
    rw [nthS hk]
    have : (2 : Nat) ^ (N : Int).toNat ≤ 2 ^ 6 := Nat.pow_le_pow_right (by decide) (by have := hc2.2.1; omega)
    omega
  have h64 : In64 (fun g => nth xs g) := fun g => by
    by_cases hg : g < xs.length
    · have h := hc.2.2.2 g hg
      obtain ⟨h1, h2, h3, h4⟩ := pset_iff.mp h
      have : (2 : Int) ^ (N : Int).toNat ≤ 2 ^ 6 := two_pow_le (by have := hc.2.1; omega)
      show 0 ≤ nth xs g ∧ nth xs g < 64
      omega
    · show 0 ≤ nth xs g ∧ nth xs g < 64
      unfold nth
      simp [hg]
  have hpos := con_pos hc
  obtain ⟨L, h1, h2, h3⟩ := grun_places (F := fsts (conW N xs)) (G := xs.length) hS h64 hpos 64
  have hd := grun_done (F := fsts (conW N xs)) (G := xs.length) hS h64 hc.2.2.1 hpos
  rw [h1] at hd
  simp only at hd
  refine ⟨L, by unfold grdL; rw [if_pos hc, h1], h2, h3, ?_⟩
  rw [okL_iff hS h64 h2]
  intro g hg i hi
  apply Classical.byContradiction
  intro hno
  have hop : PHas (openL (fsts (conW N xs)) (snds (conW N xs)) (fun g => nth xs g) L g) i = true := (openL_has hS g i h64 h2).2 ⟨hi, fun k hk hF => by
    cases hs : PHas (nth (snds (conW N xs)) k) i with
    | false => rfl
    | true => exact absurd ⟨k, hk, hF, hs⟩ hno⟩
  have hrow := hc.2.2.2 g hg
  have hN8 : N ≤ 8 := by have := hc.2.1; omega
  have hrn := nat_pset hrow
  have hclo : cloN xs N (nth xs g).toNat = (nth xs g).toNat := by
    have hle : PSub (Clo xs N (nth xs g)) (nth xs g) = true := by
      rw [psub_all (clo_nn ..) (pset_nn hrow)]
      intro j hj
      unfold Clo at hj
      rw [int_has] at hj
      exact hj.2 g hg (by rw [ext_has]; simp [hg, psub_all (pset_nn hrow) (pset_nn hrow)])
    have := psub_antisymm (clo_nn ..) (pset_nn hrow) hle (sub_clo hc hrow)
    unfold cloN
    rw [hrn.2, this]
  obtain ⟨k, hk, e⟩ := closed_at hc hrn.1 hclo
  have hSk : nth (snds (conW N xs)) k = nth xs g := by rw [nthS hk, e, hrn.2]
  have hFk : PHas (nth (fsts (conW N xs)) k) g = true := by rw [nthF hk, e, hrn.2, ext_has]; simp [hg, psub_all (pset_nn hrow) (pset_nn hrow)]
  have hg0 : gn (fsts (conW N xs)) (snds (conW N xs)) xs.length (openL (fsts (conW N xs)) (snds (conW N xs)) (fun g => nth xs g) L) k = 0 := by
    have h5 := bst_max (fsts (conW N xs)) (snds (conW N xs)) xs.length (openL (fsts (conW N xs)) (snds (conW N xs)) (fun g => nth xs g) L) _ k hk
    have h6 := (gTo_range (openL (fsts (conW N xs)) (snds (conW N xs)) (fun g => nth xs g) L) (nth (fsts (conW N xs)) k) (nth (snds (conW N xs)) k) xs.length).1
    unfold gn at h5 hd ⊢
    omega
  exact cnt_andI (openL_64 hS h64 h2 g) (hS k hk) (gTo_zero hg0 g hg hFk) i hop (by rw [hSk]; exact hi)
/-- in their order -/
theorem sorted_of {len : Nat} {L : List Nat} (hl : ∀ k ∈ L, k < len) (hn : L.Nodup) : ∃ M : List Nat, M.length = L.length ∧ M.Pairwise (· < ·) ∧ ∀ k, k ∈ M ↔ k ∈ L := by
  refine ⟨(List.range len).filter fun k => L.contains k, ?_, List.Pairwise.filter _ List.pairwise_lt_range, fun k => ?_⟩
  · have hp : ((List.range len).filter fun k => L.contains k).Perm L := by
      rw [List.perm_iff_count]
      intro a
      have h1 : ((List.range len).filter fun k => L.contains k).Nodup := List.Pairwise.filter _ List.nodup_range
      rw [h1.count, hn.count]
      by_cases ha : a ∈ L
      · simp [ha, hl a ha]
      · simp [ha]
    exact hp.length_eq
  · rw [List.mem_filter]
    simp only [List.mem_range, List.contains_eq_mem, decide_eq_true_eq]
    exact ⟨fun h => h.2, fun h => ⟨hl k h, h⟩⟩
/-- the list with the fewest -/
def fewD (ok : List Nat → Bool) (len : Nat) : Nat → Nat → Option (List Nat)
  | c, 0 => none
  | c, d + 1 => match pickD ok len c 0 [] with | some x => some x | none => fewD ok len (c + 1) d
theorem fewD_some {ok : List Nat → Bool} {len : Nat} {x : List Nat} : ∀ {d c : Nat}, fewD ok len c d = some x → ∃ k, c ≤ k ∧ pickD ok len k 0 [] = some x ∧ ∀ j, c ≤ j → j < k → pickD ok len j 0 [] = none
  | 0, c, h => by simp [fewD] at h
  | d + 1, c, h => by
    unfold fewD at h
    cases hf : pickD ok len c 0 [] with
    | some y => rw [hf] at h; exact ⟨c, Nat.le_refl _, by rw [hf]; exact h, fun j h1 h2 => by omega⟩
    | none =>
      rw [hf] at h
      obtain ⟨k, h1, h2, h3⟩ := fewD_some (d := d) (c := c + 1) h
      refine ⟨k, by omega, h2, fun j h4 h5 => ?_⟩
      by_cases e : j = c
      · rw [e]; exact hf
      · exact h3 j (by omega) h5
theorem few_least {N : Nat} {xs : List Int} (hc : PCtx N xs) {d : Nat} {out : List Nat} (h : fewD (okL (fsts (conW N xs)) (snds (conW N xs)) xs.length (fun g => nth xs g)) (conL N xs).length 0 d = some out) :
    okL (fsts (conW N xs)) (snds (conW N xs)) xs.length (fun g => nth xs g) out = true ∧ (∀ k ∈ out, k < (conL N xs).length) ∧ out.length ≤ (grdL N xs).length := by
  obtain ⟨k, _, h2, h3⟩ := fewD_some h
  obtain ⟨a, b, c⟩ := pickD_sound h2
  refine ⟨a, c (by simp), ?_⟩
  obtain ⟨L, g1, g2, g3, g4⟩ := grd_covers hc
  obtain ⟨M, m1, m2, m3⟩ := sorted_of g2 g3
  have hS : ∀ k, k < (conL N xs).length → 0 ≤ nth (snds (conW N xs)) k ∧ nth (snds (conW N xs)) k < 64 := fun k hk => by
    obtain ⟨hc2, h1, _⟩ := closed_get hk
    rw [nthS hk]
    have : (2 : Nat) ^ (N : Int).toNat ≤ 2 ^ 6 := Nat.pow_le_pow_right (by decide) (by have := hc2.2.1; omega)
    omega
  have h64 : In64 (fun g => nth xs g) := fun g => by
    by_cases hg : g < xs.length
    · have h := hc.2.2.2 g hg
      obtain ⟨h1, h2, h3, h4⟩ := pset_iff.mp h
      have : (2 : Int) ^ (N : Int).toNat ≤ 2 ^ 6 := two_pow_le (by have := hc.2.1; omega)
      show 0 ≤ nth xs g ∧ nth xs g < 64
      omega
    · show 0 ≤ nth xs g ∧ nth xs g < 64
      unfold nth
      simp [hg]
  have hM : ∀ k ∈ M, k < (conL N xs).length := fun k hk => g2 k ((m3 k).1 hk)
  have hokM : okL (fsts (conW N xs)) (snds (conW N xs)) xs.length (fun g => nth xs g) M = true := by
    rw [okL_iff hS h64 hM]
    intro g hg i hi
    obtain ⟨k, hk, h⟩ := (okL_iff hS h64 g2).1 g4 g hg i hi
    exact ⟨k, (m3 k).2 hk, h⟩
  have hne := pickD_full (ok := okL (fsts (conW N xs)) (snds (conW N xs)) xs.length (fun g => nth xs g)) (len := (conL N xs).length) (from_ := 0) (done := []) rfl m2 (fun k hk => ⟨Nat.zero_le _, hM k hk⟩) hokM
  have hgl : (grdL N xs).length = M.length := by rw [g1, recsL, List.length_map, m1]
  rw [b, hgl, List.length_nil, Nat.zero_add]
  apply Classical.byContradiction
  intro hlt
  exact hne (h3 _ (Nat.zero_le _) (by omega))
end Go.Proofs.YtliecnadoklgoaaGreatDoor
