/- What the reference's reduced context keeps: as many rows as join-irreducible concepts, as many columns as meet-irreducible ones; plain Lean. Conditions: none. -/
import Derived.Test.YtliecnadoklgoaaGreatDoorKindL
import Derived.Test.YtliecnadoklgoaaGreatDoorRedB
namespace Go.Proofs.YtliecnadoklgoaaGreatDoor
open Ev
set_option linter.unusedVariables false
set_option linter.unusedSimpArgs false
set_option maxHeartbeats 4000000

/-- sets of the first n elements -/
def FamP (n : Nat) (R : List Int) : Prop := ∀ r ∈ R, 0 ≤ r ∧ r < 256 ∧ ∀ m : Nat, PHas r m = true → m < n
/-- a set that is not the meet of those strictly above it -/
def IrrR (R : List Int) (n : Nat) (r : Int) : Prop := ∃ m : Nat, m < n ∧ PHas r m = false ∧ ∀ s ∈ R, s ≠ r → PSub r s = true → PHas s m = true
/-- a meet of sets of the family -/
def ClR (R : List Int) (n : Nat) (s : Int) : Prop := 0 ≤ s ∧ ∀ m : Nat, PHas s m = true ↔ m < n ∧ ∀ r ∈ R, PSub s r = true → PHas r m = true
theorem row_cl {R : List Int} {n : Nat} (hR : FamP n R) {r : Int} (h : r ∈ R) : ClR R n r :=
  ⟨(hR r h).1, fun m => ⟨fun hm => ⟨(hR r h).2.2 m hm, fun s hs h2 => (psub_all (hR r h).1 (hR s hs).1).1 h2 m hm⟩, fun ⟨_, h2⟩ => h2 r h (psub_refl _)⟩⟩
/-- there is a least one strictly above -/
def OneUp (C : List Int) (c : Int) : Prop := ∃ b ∈ C, b ≠ c ∧ PSub c b = true ∧ ∀ z ∈ C, z ≠ c → PSub c z = true → PSub b z = true
theorem irr_abs {R C : List Int} {n : Nat} (hR : FamP n R) (hC : ∀ c, c ∈ C ↔ ClR R n c) {c : Int} (hc : c ∈ C) : OneUp C c ↔ c ∈ R ∧ IrrR R n c := by
  have c0 := (hC c).1 hc
  constructor
  · rintro ⟨b, hb, hne, hcb, hl⟩
    have b0 := (hC b).1 hb
    have hw : ∃ m : Nat, PHas b m = true ∧ PHas c m = false := by
      apply Classical.byContradiction
      intro h
      refine hne (psub_antisymm b0.1 c0.1 ((psub_all b0.1 c0.1).2 fun i hi => ?_) hcb)
      cases hx : PHas c i with
      | true => rfl
      | false => exact absurd ⟨i, hi, hx⟩ h
    obtain ⟨m, hm, hmc⟩ := hw
    have hab : ∀ s ∈ R, s ≠ c → PSub c s = true → PHas s m = true := fun s hs h1 h2 =>
      (psub_all b0.1 (hR s hs).1).1 (hl s ((hC s).2 (row_cl hR hs)) h1 h2) m hm
    have hmn := ((b0.2 m).1 hm).1
    refine ⟨Classical.byContradiction fun hn => ?_, m, hmn, hmc, hab⟩
    have := (c0.2 m).2 ⟨hmn, fun r hr h2 => hab r hr (fun e => hn (e ▸ hr)) h2⟩
    rw [hmc] at this; cases this
  · rintro ⟨hcR, m, hmn, hmc, hab⟩
    classical
    obtain ⟨U, hUd⟩ : ∃ U : Int, U = setOf (fun i => decide (∀ s ∈ R, s ≠ c → PSub c s = true → PHas s i = true)) n := ⟨_, rfl⟩
    have hU : ∀ i : Nat, PHas U i = true ↔ i < n ∧ ∀ s ∈ R, s ≠ c → PSub c s = true → PHas s i = true := fun i => by
      rw [hUd, setOf_has, Bool.and_eq_true, decide_eq_true_eq, decide_eq_true_eq]
    have U0 : 0 ≤ U := by rw [hUd]; exact (setOf_range _ _).1
    have hUcl : ClR R n U := ⟨U0, fun i => ⟨fun hi => ⟨((hU i).1 hi).1, fun r hr h2 => (psub_all U0 (hR r hr).1).1 h2 i hi⟩, fun ⟨h1, h2⟩ => (hU i).2 ⟨h1, fun s hs h3 h4 => h2 s hs ((psub_all U0 (hR s hs).1).2 fun j hj => ((hU j).1 hj).2 s hs h3 h4)⟩⟩⟩
    have hcU : PSub c U = true := (psub_all c0.1 U0).2 fun i hi => (hU i).2 ⟨((c0.2 i).1 hi).1, fun s hs _ h2 => (psub_all c0.1 (hR s hs).1).1 h2 i hi⟩
    refine ⟨U, (hC U).2 hUcl, fun e => ?_, hcU, fun z hz h1 h2 => ?_⟩
    · have := (hU m).2 ⟨hmn, hab⟩
      rw [e, hmc] at this; cases this
    · have z0 := (hC z).1 hz
      refine (psub_all U0 z0.1).2 fun i hi => (z0.2 i).2 ⟨((hU i).1 hi).1, fun r hr h3 => ((hU i).1 hi).2 r hr (fun e => ?_) (psub_trans c0.1 z0.1 (hR r hr).1 h2 h3)⟩
      rw [e] at h3
      exact h1 (psub_antisymm z0.1 c0.1 h3 h2)
/-- what is not had is not had by an irreducible one above -/
theorem irr_above {R : List Int} {n : Nat} (hR : FamP n R) {r : Int} (hr : r ∈ R) {m : Nat} (hm : m < n) (h : PHas r m = false) : ∃ s ∈ R, IrrR R n s ∧ PSub r s = true ∧ PHas s m = false := by
  obtain ⟨k, hk, rfl⟩ := mem_nth.1 hr
  obtain ⟨i, hi, hq, hs, hmax⟩ := max_setK (f := fun i => nth R i) (L := R.length) (Q := fun i => PHas (nth R i) m = false) (fun j hj => ⟨(hR _ (mem_nth.2 ⟨j, hj, rfl⟩)).1, (hR _ (mem_nth.2 ⟨j, hj, rfl⟩)).2.1⟩) hk h
  refine ⟨nth R i, mem_nth.2 ⟨i, hi, rfl⟩, ⟨m, hm, hq, fun s hs2 hne hsub => ?_⟩, hs, hq⟩
  obtain ⟨j, hj, rfl⟩ := mem_nth.1 hs2
  cases hx : PHas (nth R j) m with
  | true => rfl
  | false => exact absurd hsub (hmax j hj hx hne)
theorem fam_rows {N : Nat} {xs : List Int} (hc : PCtx N xs) : FamP N xs := fun r hr => by
  obtain ⟨k, hk, rfl⟩ := mem_nth.1 hr
  have h := hc.2.2.2 k hk
  exact ⟨(pset_lt h).1, (pset_lt h).2, fun m hm => by have := phas_lt h hm; omega⟩
theorem mem_cols {xs : List Int} {N : Nat} {r : Int} : r ∈ Cols xs N ↔ ∃ m, m < N ∧ Col xs m = r := by
  unfold Cols tab; simp only [List.mem_map, List.mem_range]
theorem fam_cols {xs : List Int} (N : Nat) (h8 : xs.length ≤ 8) : FamP xs.length (Cols xs N) := fun r hr => by
  obtain ⟨m, hm, rfl⟩ := mem_cols.1 hr
  exact ⟨(col_256 h8 m).1, (col_256 h8 m).2, fun g hg => (col_bit.1 hg).1⟩
theorem S_len (n : Int) (xs : List Int) : (snds (conW n xs)).length = (conL n xs).length := by rw [(conW_P n xs).lens, conW_len]
theorem mem_S {N : Nat} {xs : List Int} (hc : PCtx N xs) (c : Int) : c ∈ snds (conW N xs) ↔ ClR xs N c := by
  have hsl := S_len N xs
  constructor
  · intro h
    obtain ⟨k, hk, rfl⟩ := mem_nth.1 h
    rw [hsl] at hk
    refine ⟨(S_range hk).1, fun m => ?_⟩
    rw [con_S hk m]
    constructor
    · rintro ⟨h1, h2⟩
      refine ⟨h1, fun r hr hs => ?_⟩
      obtain ⟨g, hg, rfl⟩ := mem_nth.1 hr
      exact h2 g ((con_F hk g).2 ⟨hg, fun i hi => (psub_all (S_range hk).1 (row_nn hc hg)).1 hs i hi⟩)
    · rintro ⟨h1, h2⟩
      exact ⟨h1, fun g hg => h2 _ (mem_nth.2 ⟨g, ((con_F hk g).1 hg).1, rfl⟩) ((psub_all (S_range hk).1 (row_nn hc ((con_F hk g).1 hg).1)).2 ((con_F hk g).1 hg).2)⟩
  · rintro ⟨h0, h⟩
    have e : Clo xs N c = c := phas_eq (clo_nn ..) h0 fun i => by
      rw [Bool.eq_iff_iff, h]
      unfold Clo
      rw [int_has]
      constructor
      · rintro ⟨h1, h2⟩
        refine ⟨h1, fun r hr hs => ?_⟩
        obtain ⟨k, hk, rfl⟩ := mem_nth.1 hr
        exact h2 k hk (by rw [ext_has]; simp [hk, hs])
      · rintro ⟨h1, h2⟩
        refine ⟨h1, fun k hk hs => h2 _ (mem_nth.2 ⟨k, hk, rfl⟩) ?_⟩
        rw [ext_has] at hs
        simpa [hk] using hs
    have hp : PSet N c = true := by rw [← e]; exact clo_pset hc c
    obtain ⟨h2, h3⟩ := nat_pset hp
    obtain ⟨k, hk, e2⟩ := closed_at hc h2 (by unfold cloN; rw [h3, e])
    exact mem_nth.2 ⟨k, by rw [hsl]; exact hk, by rw [nthS hk, e2, h3]⟩
theorem mem_F {N : Nat} {xs : List Int} (hc : PCtx N xs) (c : Int) : c ∈ fsts (conW N xs) ↔ ClR (Cols xs N) xs.length c := by
  have hfl := conW_len N xs
  constructor
  · intro h
    obtain ⟨k, hk, rfl⟩ := mem_nth.1 h
    have hk' : k < (conL N xs).length := by rw [← hfl]; exact hk
    have F0 := (sets_F N xs k hk).1
    refine ⟨F0, fun g => ⟨fun hg => ⟨((con_F hk' g).1 hg).1, fun r hr hs => ?_⟩, ?_⟩⟩
    · obtain ⟨m, hm, rfl⟩ := mem_cols.1 hr
      exact (psub_all F0 (col_nn ..)).1 hs g hg
    · rintro ⟨h1, h2⟩
      refine (con_F hk' g).2 ⟨h1, fun m hm => ?_⟩
      have hm2 := (con_S hk' m).1 hm
      have := h2 _ (mem_cols.2 ⟨m, hm2.1, rfl⟩) ((psub_all F0 (col_nn ..)).2 fun i hi => col_bit.2 ⟨((con_F hk' i).1 hi).1, hm2.2 i hi⟩)
      exact (col_bit.1 this).2
  · rintro ⟨h0, h⟩
    have hs0 := int_nn xs N c
    have hE : Ext xs (IntS xs N c) = c := phas_eq (ext_nn ..) h0 fun g => by
      rw [Bool.eq_iff_iff, h, ext_has, Bool.and_eq_true, decide_eq_true_eq]
      constructor
      · rintro ⟨h1, h2⟩
        refine ⟨h1, fun r hr hs => ?_⟩
        obtain ⟨m, hm, rfl⟩ := mem_cols.1 hr
        refine col_bit.2 ⟨h1, (psub_all hs0 (row_nn hc h1)).1 h2 m ?_⟩
        exact (int_has ..).2 ⟨hm, fun k hk hck => (col_bit.1 ((psub_all h0 (col_nn ..)).1 hs k hck)).2⟩
      · rintro ⟨h1, h2⟩
        refine ⟨h1, (psub_all hs0 (row_nn hc h1)).2 fun m hm => ?_⟩
        obtain ⟨hm1, hm2⟩ := (int_has ..).1 hm
        exact (col_bit.1 (h2 _ (mem_cols.2 ⟨m, hm1, rfl⟩) ((psub_all h0 (col_nn ..)).2 fun i hi => col_bit.2 ⟨((h i).1 hi).1, hm2 i ((h i).1 hi).1 hi⟩))).2
    have hcl : Clo xs N (IntS xs N c) = IntS xs N c := by unfold Clo; rw [hE]
    have hp : PSet N (IntS xs N c) = true := by rw [← hcl]; exact clo_pset hc _
    obtain ⟨h2, h3⟩ := nat_pset hp
    obtain ⟨k, hk, e2⟩ := closed_at hc h2 (by unfold cloN; rw [h3, hcl])
    exact mem_nth.2 ⟨k, by rw [hfl]; exact hk, by rw [nthF hk, e2, h3, hE]⟩
theorem irr_J {N : Nat} {xs : List Int} {a : Nat} (ha : a < (conL N xs).length) : irrB (fsts (conW N xs)) false a = true ↔ OneUp (snds (conW N xs)) (nth (snds (conW N xs)) a) := by
  have hfl := conW_len N xs
  have hsl := S_len N xs
  rw [irrC_one ha]
  constructor
  · rintro ⟨b, hb, h1, h2, h3⟩
    rw [hfl] at hb
    refine ⟨_, mem_nth.2 ⟨b, by rw [hsl]; exact hb, rfl⟩, fun e => h1 (S_inj hb ha e), by rw [con_galois ha hb]; exact h2, fun z hz h4 h5 => ?_⟩
    obtain ⟨k, hk, rfl⟩ := mem_nth.1 hz
    rw [hsl] at hk
    rw [con_galois hb hk]
    rw [con_galois ha hk] at h5
    exact h3 k (by rw [hfl]; exact hk) (fun e => h4 (by rw [e])) h5
  · rintro ⟨b', hb', h1, h2, h3⟩
    obtain ⟨b, hb, rfl⟩ := mem_nth.1 hb'
    rw [hsl] at hb
    refine ⟨b, by rw [hfl]; exact hb, fun e => h1 (by rw [e]), by rw [← con_galois ha hb]; exact h2, fun z hz h4 h5 => ?_⟩
    rw [hfl] at hz
    rw [← con_galois hb hz]
    rw [← con_galois ha hz] at h5
    exact h3 _ (mem_nth.2 ⟨z, by rw [hsl]; exact hz, rfl⟩) (fun e => h4 (S_inj hz ha e)) h5
theorem irr_M {N : Nat} {xs : List Int} {a : Nat} (ha : a < (conL N xs).length) : irrB (fsts (conW N xs)) true a = true ↔ OneUp (fsts (conW N xs)) (nth (fsts (conW N xs)) a) := by
  have hfl := conW_len N xs
  have hsl := S_len N xs
  rw [irr_up ha, irr_one (sets_S N xs) (fun i j hi hj e => S_inj (by rw [← hsl]; exact hi) (by rw [← hsl]; exact hj) e) (by rw [hsl]; exact ha)]
  constructor
  · rintro ⟨b, hb, h1, h2, h3⟩
    rw [hsl] at hb
    refine ⟨_, mem_nth.2 ⟨b, by rw [hfl]; exact hb, rfl⟩, fun e => h1 (F_inj hb ha e), by rw [← con_galois hb ha]; exact h2, fun z hz h4 h5 => ?_⟩
    obtain ⟨k, hk, rfl⟩ := mem_nth.1 hz
    rw [hfl] at hk
    rw [← con_galois hk hb]
    rw [← con_galois hk ha] at h5
    exact h3 k (by rw [hsl]; exact hk) (fun e => h4 (by rw [e])) h5
  · rintro ⟨b', hb', h1, h2, h3⟩
    obtain ⟨b, hb, rfl⟩ := mem_nth.1 hb'
    rw [hfl] at hb
    refine ⟨b, by rw [hsl]; exact hb, fun e => h1 (by rw [e]), by rw [con_galois hb ha]; exact h2, fun z hz h4 h5 => ?_⟩
    rw [hsl] at hz
    rw [con_galois hz hb]
    rw [con_galois hz ha] at h5
    exact h3 _ (mem_nth.2 ⟨z, by rw [hfl]; exact hz, rfl⟩) (fun e => h4 (F_inj hz ha e)) h5
theorem nodup_mapI {f : Nat → Int} {L : List Nat} (hn : L.Nodup) (hi : ∀ x ∈ L, ∀ y ∈ L, f x = f y → x = y) : (L.map f).Nodup := by
  induction L with
  | nil => simp
  | cons a L ih =>
    rw [List.nodup_cons] at hn
    rw [List.map_cons, List.nodup_cons]
    refine ⟨fun h => ?_, ih hn.2 fun x hx y hy => hi x (by simp [hx]) y (by simp [hy])⟩
    obtain ⟨x, hx, e⟩ := List.mem_map.1 h
    have := hi x (by simp [hx]) a (by simp) e
    exact hn.1 (this ▸ hx)
theorem cnt_le {n L : Nat} {p q : Nat → Bool} {f h : Nat → Int} (hf : ∀ i j, i < n → j < n → p i = true → p j = true → f i = f j → i = j)
    (h1 : ∀ i, i < n → p i = true → ∃ a, a < L ∧ q a = true ∧ h a = f i) : ((List.range n).filter p).length ≤ ((List.range L).filter q).length := by
  have := nodup_len (L := ((List.range n).filter p).map f) (M := ((List.range L).filter q).map h)
    (nodup_mapI (List.Pairwise.filter _ List.nodup_range) fun x hx y hy e => by
      rw [List.mem_filter, List.mem_range] at hx hy
      exact hf x y hx.1 hy.1 hx.2 hy.2 e) fun x hx => by
    obtain ⟨i, hi, rfl⟩ := List.mem_map.1 hx
    rw [List.mem_filter, List.mem_range] at hi
    obtain ⟨a, ha, hq, e⟩ := h1 i hi.1 hi.2
    exact List.mem_map.2 ⟨a, by rw [List.mem_filter, List.mem_range]; exact ⟨ha, hq⟩, e⟩
  simpa using this
theorem cnt_bij {n L : Nat} {p q : Nat → Bool} {f h : Nat → Int} (hf : ∀ i j, i < n → j < n → p i = true → p j = true → f i = f j → i = j) (hh : ∀ i j, i < L → j < L → q i = true → q j = true → h i = h j → i = j)
    (h1 : ∀ i, i < n → p i = true → ∃ a, a < L ∧ q a = true ∧ h a = f i) (h2 : ∀ a, a < L → q a = true → ∃ i, i < n ∧ p i = true ∧ f i = h a) : ((List.range n).filter p).length = ((List.range L).filter q).length :=
  Nat.le_antisymm (cnt_le hf h1) (cnt_le hh h2)

/-- an irreducible column -/
def IrrM (R : List Int) (n m : Nat) : Prop := ∃ r ∈ R, PHas r m = false ∧ ∀ k, k < n → ¬ ColEq R k m → ColLe R m k → PHas r k = true
theorem irr_col {xs : List Int} {N m : Nat} : IrrR (Cols xs N) xs.length (Col xs m) ↔ IrrM xs N m := by
  constructor
  · rintro ⟨g, hg, h1, h2⟩
    refine ⟨nth xs g, mem_nth.2 ⟨g, hg, rfl⟩, ?_, fun k hk h3 h4 => ?_⟩
    · cases h : PHas (nth xs g) m with
      | false => rfl
      | true => rw [col_bit.2 ⟨hg, h⟩] at h1; cases h1
    · exact (col_bit.1 (h2 _ (mem_cols.2 ⟨k, hk, rfl⟩) (fun e => h3 (col_eq.1 e)) (col_le.2 h4))).2
  · rintro ⟨r, hr, h1, h2⟩
    obtain ⟨g, hg, rfl⟩ := mem_nth.1 hr
    refine ⟨g, hg, ?_, fun s hs h3 h4 => ?_⟩
    · cases h : PHas (Col xs m) g with
      | false => rfl
      | true => rw [(col_bit.1 h).2] at h1; cases h1
    · obtain ⟨k, hk, rfl⟩ := mem_cols.1 hs
      exact col_bit.2 ⟨hg, h2 k hk (fun e => h3 (col_eq.2 e)) (col_le.1 h4)⟩
/- rows packed: kp keeps a column of each kind -/
section
variable {xs ys : List Int} {N : Nat} {kp : Int}
structure PkP (xs ys : List Int) (N : Nat) (kp : Int) : Prop where
  fam : FamP N xs
  k8 : PSet 8 kp = true
  lt : ∀ m : Nat, PHas kp m = true → m < N
  rep : ∀ m, m < N → ∃ m' : Nat, PHas kp m' = true ∧ ColEq xs m' m
  mem : ∀ s, s ∈ ys ↔ ∃ r ∈ xs, s = Pack r kp
theorem pk_sub (h : PkP xs ys N kp) {r s : Int} (hr : r ∈ xs) (hs : s ∈ xs) : PSub (Pack r kp) (Pack s kp) = true ↔ PSub r s = true := by
  rw [psub_all (pack8 _ _).1 (pack8 _ _).1, psub_all (h.fam r hr).1 (h.fam s hs).1]
  constructor
  · intro h1 m hm
    obtain ⟨m', hk, he⟩ := h.rep m ((h.fam r hr).2.2 m hm)
    have h2 := h1 (newI kp m') (by rw [pack_new h.k8 hk, he r hr]; exact hm)
    rw [pack_new h.k8 hk, he s hs] at h2; exact h2
  · intro h1 j hj
    have hjl : j < (elemsTo kp 8).length := by have := phas_lt (pack_pset r (keep := kp)) hj; omega
    obtain ⟨m, hm, rfl, _⟩ := newI_of hjl
    rw [pack_new h.k8 hm] at hj ⊢
    exact h1 m hj
theorem pk_inj (h : PkP xs ys N kp) {r s : Int} (hr : r ∈ xs) (hs : s ∈ xs) (e : Pack r kp = Pack s kp) : r = s :=
  psub_antisymm (h.fam r hr).1 (h.fam s hs).1 ((pk_sub h hr hs).1 (by rw [e]; exact psub_refl _)) ((pk_sub h hs hr).1 (by rw [e]; exact psub_refl _))
theorem pk_irr (h : PkP xs ys N kp) {r : Int} (hr : r ∈ xs) : IrrR ys (elemsTo kp 8).length (Pack r kp) ↔ IrrR xs N r := by
  constructor
  · rintro ⟨j, hj, h1, h2⟩
    obtain ⟨m, hm, rfl, _⟩ := newI_of hj
    rw [pack_new h.k8 hm] at h1
    refine ⟨m, h.lt m hm, h1, fun s hs hne hsub => ?_⟩
    have := h2 (Pack s kp) ((h.mem _).2 ⟨s, hs, rfl⟩) (fun e => hne (pk_inj h hs hr e)) ((pk_sub h hr hs).2 hsub)
    rwa [pack_new h.k8 hm] at this
  · rintro ⟨m, hm, h1, h2⟩
    obtain ⟨m', hk, he⟩ := h.rep m hm
    refine ⟨newI kp m', (newI_lt h.k8 hk).1, by rw [pack_new h.k8 hk, he r hr]; exact h1, fun s' hs' hne hsub => ?_⟩
    obtain ⟨s, hs, rfl⟩ := (h.mem _).1 hs'
    rw [pack_new h.k8 hk, he s hs]
    exact h2 s hs (fun e => hne (by rw [e])) ((pk_sub h hr hs).1 hsub)
/- .. and only irreducible rows stay -/
variable {zs : List Int}
theorem zs_le (h : PkP xs ys N kp) (hz : ∀ s, s ∈ zs ↔ ∃ r ∈ xs, IrrR xs N r ∧ s = Pack r kp) {m n : Nat} (hm : PHas kp m = true) (hn : PHas kp n = true) : ColLe zs (newI kp m) (newI kp n) ↔ ColLe xs m n := by
  constructor
  · intro h1 r hr h2
    cases hx : PHas r n with
    | true => rfl
    | false =>
      obtain ⟨s, hs, hi, hsub, hsn⟩ := irr_above h.fam hr (h.lt n hn) hx
      have h3 := (psub_all (h.fam r hr).1 (h.fam s hs).1).1 hsub m h2
      have h4 := h1 (Pack s kp) ((hz _).2 ⟨s, hs, hi, rfl⟩) (by rw [pack_new h.k8 hm]; exact h3)
      rw [pack_new h.k8 hn, hsn] at h4; cases h4
  · intro h1 s' hs' h2
    obtain ⟨s, hs, _, rfl⟩ := (hz _).1 hs'
    rw [pack_new h.k8 hm] at h2
    rw [pack_new h.k8 hn]
    exact h1 s hs h2
theorem le_eq {R : List Int} {m n : Nat} : ColEq R m n ↔ ColLe R m n ∧ ColLe R n m :=
  ⟨fun h => ⟨fun r hr hm => by rw [← h r hr]; exact hm, fun r hr hm => by rw [h r hr]; exact hm⟩, fun h r hr => by rw [Bool.eq_iff_iff]; exact ⟨h.1 r hr, h.2 r hr⟩⟩
theorem zs_irr (h : PkP xs ys N kp) (hz : ∀ s, s ∈ zs ↔ ∃ r ∈ xs, IrrR xs N r ∧ s = Pack r kp) {m : Nat} (hm : PHas kp m = true) : IrrM zs (elemsTo kp 8).length (newI kp m) ↔ IrrM xs N m := by
  constructor
  · rintro ⟨s', hs', h1, h2⟩
    obtain ⟨s, hs, _, rfl⟩ := (hz _).1 hs'
    rw [pack_new h.k8 hm] at h1
    refine ⟨s, hs, h1, fun k hk h3 h4 => ?_⟩
    obtain ⟨k', hk', he⟩ := h.rep k hk
    have h5 : ColLe xs m k' := fun r hr hr2 => by rw [he r hr]; exact h4 r hr hr2
    have h6 := h2 (newI kp k') (newI_lt h.k8 hk').1 (fun e => h3 fun r hr => by
      rw [le_eq, zs_le h hz hk' hm, zs_le h hz hm hk', ← le_eq] at e
      rw [← he r hr]; exact e r hr) ((zs_le h hz hm hk').2 h5)
    rw [pack_new h.k8 hk', he s hs] at h6; exact h6
  · rintro ⟨r, hr, h1, h2⟩
    obtain ⟨s, hs, hi, hsub, hsn⟩ := irr_above h.fam hr (h.lt m hm) h1
    refine ⟨Pack s kp, (hz _).2 ⟨s, hs, hi, rfl⟩, by rw [pack_new h.k8 hm]; exact hsn, fun j hj h3 h4 => ?_⟩
    obtain ⟨k, hk, rfl, _⟩ := newI_of hj
    rw [pack_new h.k8 hk]
    refine (psub_all (h.fam r hr).1 (h.fam s hs).1).1 hsub k (h2 k (h.lt k hk) (fun e => h3 ?_) ((zs_le h hz hm hk).1 h4))
    rw [le_eq] at e ⊢
    exact ⟨(zs_le h hz hk hm).2 e.1, (zs_le h hz hm hk).2 e.2⟩
end
end Go.Proofs.YtliecnadoklgoaaGreatDoor
