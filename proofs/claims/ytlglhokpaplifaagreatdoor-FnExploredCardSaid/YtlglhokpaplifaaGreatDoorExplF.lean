/- What an exploration ends with: plain Lean. Conditions: none. -/
import Derived.Test.YtlglhokpaplifaaGreatDoorExplW
namespace Go.Proofs.YtlglhokpaplifaaGreatDoor
open Ev
set_option linter.unusedVariables false
set_option linter.unusedSimpArgs false

/-- the pseudo-closed sets below k, as the reference finds them -/
def psTo (cl : Nat → Nat) : Nat → List Nat
  | 0 => []
  | k + 1 => psTo cl k ++ (if cl k ≠ k ∧ ∀ p ∈ psTo cl k, p &&& k = p → cl p &&& k = cl p then [k] else [])
def PsAt (cl : Nat → Nat) (s : Nat) : Prop := cl s ≠ s ∧ ∀ p ∈ psTo cl s, p &&& s = p → cl p &&& s = cl p
instance (cl : Nat → Nat) (s : Nat) : Decidable (PsAt cl s) := by unfold PsAt; infer_instance
theorem psTo_mem {cl : Nat → Nat} {k p : Nat} : p ∈ psTo cl k ↔ p < k ∧ PsAt cl p := by
  induction k with
  | zero => simp [psTo]
  | succ k ih =>
    simp only [psTo, List.mem_append, ih]
    constructor
    · rintro (⟨h1, h2⟩ | h)
      · exact ⟨by omega, h2⟩
      · split at h
        · rename_i hc
          obtain rfl := List.mem_singleton.1 h
          exact ⟨by omega, hc⟩
        · cases h
    · rintro ⟨h1, h2⟩
      by_cases e : p = k
      · subst e
        right
        rw [if_pos (show cl p ≠ p ∧ ∀ q ∈ psTo cl p, q &&& p = q → cl q &&& p = cl q from h2)]; simp
      · exact .inl ⟨by omega, h2⟩
theorem sub_le {p s : Nat} (h : p &&& s = p) : p ≤ s := by rw [← h]; exact Nat.and_le_right
theorem psAt_iff {cl : Nat → Nat} {s : Nat} : PsAt cl s ↔ cl s ≠ s ∧ ∀ p, PsAt cl p → p ≠ s → p &&& s = p → cl p &&& s = cl p := by
  constructor
  · intro h
    refine ⟨h.1, fun p hp hne hsub => h.2 p (psTo_mem.2 ⟨?_, hp⟩) hsub⟩
    have := sub_le hsub
    omega
  · intro h
    refine ⟨h.1, fun p hp hsub => ?_⟩
    obtain ⟨h1, h2⟩ := psTo_mem.1 hp
    exact h.2 p h2 (by omega) hsub
theorem bef_tri {x y : Nat} (hx : x < 64) (hy : y < 64) : befB x y = true ∨ x = y ∨ befB y x = true := by
  rcases Nat.lt_trichotomy (Lect.rev6 x) (Lect.rev6 y) with h | h | h
  · exact .inl (by simpa [befB] using h)
  · exact .inr (.inl (rev6_inj hx hy h))
  · exact .inr (.inr (by simpa [befB] using h))
theorem bef_irr {x : Nat} : ¬ befB x x = true := by simp [befB]
theorem bef_sub {x y : Nat} (hx : x < 64) (hy : y < 64) (h : x &&& y = x) (hne : x ≠ y) : befB x y = true := by
  have h1 := Lect.rev_sub ⟨x, hx⟩ ⟨y, hy⟩ h
  simp only at h1
  simp only [befB, decide_eq_true_eq]
  rcases Nat.lt_or_eq_of_le h1 with h2 | h2
  · exact h2
  · exact absurd (rev6_inj hx hy h2) hne
/-- more rows, fewer in the closure -/
theorem clo_more {E : List Int} {N : Nat} {ks ks' : List Nat} (h : ∀ k ∈ ks, k ∈ ks') (t : Int) : PSub (Clo (rowsE E ks') N t) (Clo (rowsE E ks) N t) = true := by
  rw [psub_all (clo_nn ..) (clo_nn ..)]
  intro i hi
  rw [clo_hasE] at hi ⊢
  refine ⟨hi.1, fun k hk hs => ?_⟩
  rw [rowsE_len] at hk
  rw [rowsE_nth hk] at hs ⊢
  obtain ⟨j, hj, e⟩ := List.mem_iff_getElem.1 (h _ (List.getElem_mem hk))
  have := hi.2 j (by rw [rowsE_len]; exact hj)
  rw [rowsE_nth hj, e] at this
  exact this hs
def ModR (r : List (Nat × Nat)) (t : Nat) : Prop := ∀ x ∈ r, x.1 &&& t = x.1 → x.2 &&& t = x.2
/-- what else holds on the way -/
structure XJ (E : List Int) (N : Nat) (s : XS) : Prop where
  all : ∀ p, p < 2 ^ N → PsAt (cloN E N) p → befB p s.a = true → ∃ q, (p, q) ∈ s.r
  ps : ∀ x ∈ s.r, PsAt (cloN E N) x.1
  cl : ∀ t, t < 2 ^ N → ModR s.r t → befB t s.a = true → cloN (rowsE E s.ks) N t = t
  q : ∀ x ∈ s.q, x.1 < 2 ^ N ∧ x.2.1 < 2 ^ N ∧ (x.2.2.1 = true → ctrE E x.1 x.2.1 < 0) ∧ (x.2.2.1 = false → ∃ k : Nat, x.2.2.2 = k ∧ k < E.length ∧ PSub (x.1 : Int) (nth E k) = true ∧ PSub (x.2.1 : Int) (nth E k) = false)
  n : (s.q.filter fun x => x.2.2.1).length = s.r.length
theorem xj_move {E : List Int} {N : Nat} (hc : PCtx N E) {s : XS} (h : XI E N s) (j : XJ E N s) {r' : List (Nat × Nat)} {a' : Nat} (hsub : ∀ x ∈ s.r, x ∈ r') (hps : ∀ x ∈ r', PsAt (cloN E N) x.1 ∧ x.2 = cloN E N x.1 ∧ (befB x.1 s.a = true ∨ x.1 = s.a) ∧ x.1 < 2 ^ N)
    (ha : PsAt (cloN E N) s.a → ∃ q, (s.a, q) ∈ r') (hcl : ModR r' s.a → cloN (rowsE E s.ks) N s.a = s.a) (hx : IsNx (candR r' s.a) N a') :
    (∀ p, p < 2 ^ N → PsAt (cloN E N) p → befB p a' = true → ∃ q, (p, q) ∈ r') ∧ (∀ t, t < 2 ^ N → ModR r' t → befB t a' = true → cloN (rowsE E s.ks) N t = t) := by
  have hN : N ≤ 6 := by have := hc.2.1; omega
  have h64 := pow64 hN
  have past : ∀ t, t < 2 ^ N → ModR r' t → befB s.a t = true → ¬ befB t a' = true := fun t ht hm hb hb2 => by
    have := hx.2.2 t ht (candR_iff.2 ⟨hb, hm⟩)
    have := bef_lt hb2
    omega
  constructor
  · intro p hp hP hb
    rcases bef_tri (x := p) (y := s.a) (by omega) (by have := h.a; omega) with h1 | h1 | h1
    · obtain ⟨q, hq⟩ := j.all p hp hP h1
      exact ⟨q, hsub _ hq⟩
    · subst h1; exact ha hP
    · refine absurd hb (past p hp (fun x hxr hs => ?_) h1)
      obtain ⟨x1, x2, x3, x4⟩ := hps x hxr
      rw [x2]
      refine (psAt_iff.1 hP).2 x.1 x1 (fun e => ?_) hs
      rw [e] at x3
      rcases x3 with x3 | x3
      · exact bef_irr (bef_trans x3 h1)
      · rw [x3] at h1; exact bef_irr h1
  · intro t ht hm hb
    rcases bef_tri (x := t) (y := s.a) (by omega) (by have := h.a; omega) with h1 | h1 | h1
    · exact j.cl t ht (fun x hx => hm x (hsub x hx)) h1
    · rw [h1] at hm ⊢; exact hcl hm
    · exact absurd hb (past t ht hm h1)
theorem xj_step {E : List Int} {N : Nat} (hc : PCtx N E) {s : XS} (h : XI E N s) (j : XJ E N s) (hf : s.a ≠ 2 ^ N - 1) : XJ E N (xst E N s) := by
  have hN : N ≤ 6 := by have := hc.2.1; omega
  have h64 := pow64 hN
  have hcl := clo_cl hc
  have hclx := clo_cl (rowsE_ctx hc h.nd h.ks)
  have hr2 : ∀ p ∈ s.r, p.2 < 2 ^ N := fun p hp => by rw [(h.r p hp).2.1]; exact hcl.lt _ (h.r p hp).1
  have hprt : ∀ t : Nat, cloN E N t &&& cloN (rowsE E s.ks) N t = cloN E N t := fun t => by
    have := clo_part hc h.ks (t : Int)
    rw [← cloN_cast, ← cloN_cast, psub_nat] at this
    exact this
  obtain ⟨b, hb⟩ : ∃ b, cloN (rowsE E s.ks) N s.a = b := ⟨_, rfl⟩
  have hb2 : b < 2 ^ N := by rw [← hb]; exact hclx.lt _ h.a
  have hab : s.a &&& b = s.a := by rw [← hb]; exact hclx.ext _ h.a
  by_cases e : b = s.a
  · rw [xst_same (by rw [hb]; exact e)]
    have hx := nxt_ok hN h.a hf hr2
    have hnp : ¬ PsAt (cloN E N) s.a := fun hP => hP.1 (by
      have h1 := hprt s.a
      rw [hb, e] at h1
      exact sub_eqN h1 (hcl.ext _ h.a))
    obtain ⟨m1, m2⟩ := xj_move hc h j (r' := s.r) (fun x hx => hx) (fun x hx => ⟨j.ps x hx, (h.r x hx).2.1, .inl (h.r x hx).2.2.2, (h.r x hx).1⟩) (fun hP => absurd hP hnp) (fun _ => by rw [hb]; exact e) hx
    exact { all := m1, ps := j.ps, cl := m2, q := j.q, n := j.n }
  · by_cases hct : ctrE E s.a b < 0
    · rw [xst_acc hb e hct]
      have hbe : b = cloN E N s.a := sub_eqN ((hold_clo hc h.a hb2).1 hct) (by rw [← hb]; exact hprt s.a)
      have hx := nxt_ok (r := s.r ++ [(s.a, b)]) hN h.a hf fun p hp => by
        rcases List.mem_append.1 hp with hp | hp
        · exact hr2 p hp
        · obtain rfl := List.mem_singleton.1 hp; exact hb2
      have hP : PsAt (cloN E N) s.a := psAt_iff.2 ⟨fun e2 => e (hbe.trans e2), fun p hp hne hs => by
        have hple := sub_le hs
        have hp2 : p < 2 ^ N := by have := h.a; omega
        obtain ⟨q, hq⟩ := j.all p hp2 hp (bef_sub (by omega) (by have := h.a; omega) hs hne)
        have := h.m _ hq hs
        rw [(h.r _ hq).2.1] at this
        exact this⟩
      obtain ⟨m1, m2⟩ := xj_move hc h j (r' := s.r ++ [(s.a, b)]) (fun x hx => List.mem_append_left _ hx) (fun x hx => by
        rcases List.mem_append.1 hx with hx | hx
        · exact ⟨j.ps x hx, (h.r x hx).2.1, .inl (h.r x hx).2.2.2, (h.r x hx).1⟩
        · obtain rfl := List.mem_singleton.1 hx
          exact ⟨hP, hbe, .inr rfl, h.a⟩) (fun _ => ⟨b, List.mem_append_right _ (List.mem_singleton.2 rfl)⟩) (fun hm => by
          have := hm (s.a, b) (List.mem_append_right _ (List.mem_singleton.2 rfl)) (Nat.and_self _)
          exact absurd (sub_eqN this hab) e) hx
      refine { all := m1, ps := fun x hx => ?_, cl := m2, q := fun x hx => ?_, n := by simp [List.filter_append, j.n] }
      · rcases List.mem_append.1 hx with hx | hx
        · exact j.ps x hx
        · obtain rfl := List.mem_singleton.1 hx; exact hP
      · rcases List.mem_append.1 hx with hx | hx
        · exact j.q x hx
        · obtain rfl := List.mem_singleton.1 hx
          exact ⟨h.a, hb2, fun _ => hct, fun h9 => (by cases h9)⟩
    · obtain ⟨k, k1, k2, k3, k4⟩ := ctr_pos hct
      rw [xst_ex hb e k1]
      refine { all := j.all, ps := j.ps, cl := fun t ht hm hbt => ?_, q := fun x hx => ?_, n := by simp [List.filter_append, j.n] }
      · have h1 := j.cl t ht hm hbt
        have h2 := clo_more (E := E) (N := N) (ks := s.ks) (ks' := s.ks ++ [k]) (fun x hx => List.mem_append_left _ hx) (t : Int)
        rw [← cloN_cast, ← cloN_cast, psub_nat, h1] at h2
        have hI := (xst_ok hc h hf).1
        rw [xst_ex hb e k1] at hI
        have hcl2 := clo_cl (rowsE_ctx hc hI.nd hI.ks)
        exact sub_eqN h2 (hcl2.ext t ht)
      · rcases List.mem_append.1 hx with hx | hx
        · exact j.q x hx
        · obtain rfl := List.mem_singleton.1 hx
          exact ⟨h.a, hb2, fun h9 => (by cases h9), fun _ => ⟨k, rfl, k2, k3, k4⟩⟩
theorem bef_zero : ∀ p : Fin 64, befB p.val 0 = false := by decide +kernel
theorem xj_start {E : List Int} {N : Nat} (hc : PCtx N E) {ks : List Nat} : XJ E N ⟨0, [], [], ks⟩ := by
  have hN : N ≤ 6 := by have := hc.2.1; omega
  have h64 := pow64 hN
  exact { all := fun p hp _ hb => (by have := bef_zero ⟨p, by omega⟩; simp only at this hb; rw [this] at hb; cases hb), ps := fun x hx => (by cases hx), cl := fun t ht _ hb => (by have := bef_zero ⟨t, by omega⟩; simp only at this hb; rw [this] at hb; cases hb), q := fun x hx => (by cases hx), n := rfl }
theorem xj_at {E : List Int} {N : Nat} (hc : PCtx N E) {s : XS} (j : XJ E N s) {T : Nat} (hT : XT E N s T) : ∀ i, i ≤ T → XJ E N (xat E N s i)
  | 0, _ => j
  | i + 1, hi => xj_step hc (hT.2.2.2 i (by omega)) (xj_at hc j hT i (by omega)) (hT.2.2.1 i (by omega))
/-- the stem base -/
def stemL (cl : Nat → Nat) (N : Nat) : List Nat := (lecN N).filter fun s => decide (PsAt cl s)
theorem sorted_eq : ∀ {a b : List Nat}, a.Pairwise (fun x y => befB x y = true) → b.Pairwise (fun x y => befB x y = true) → (∀ x, x ∈ a ↔ x ∈ b) → a = b
  | [], [], _, _, _ => rfl
  | [], y :: b, _, _, h => absurd ((h y).2 (by simp)) (by simp)
  | x :: a, [], _, _, h => absurd ((h x).1 (by simp)) (by simp)
  | x :: a, y :: b, ha, hb, h => by
    rw [List.pairwise_cons] at ha hb
    have hxy : x = y := by
      rcases List.mem_cons.1 ((h x).1 (by simp)) with e | e
      · exact e
      · rcases List.mem_cons.1 ((h y).2 (by simp)) with e2 | e2
        · exact e2.symm
        · exact absurd (bef_trans (ha.1 y e2) (hb.1 x e)) bef_irr
    subst hxy
    rw [sorted_eq ha.2 hb.2 fun z => ?_]
    constructor
    · intro hz
      rcases List.mem_cons.1 ((h z).1 (List.mem_cons_of_mem _ hz)) with e | e
      · subst e; exact absurd (ha.1 _ hz) bef_irr
      · exact e
    · intro hz
      rcases List.mem_cons.1 ((h z).2 (List.mem_cons_of_mem _ hz)) with e | e
      · subst e; exact absurd (hb.1 _ hz) bef_irr
      · exact e
theorem lecN_lt64 : ∀ N : Fin 7, (lecN N.val).all (fun s => decide (s < 2 ^ N.val)) = true := by decide +kernel
theorem stemL_ok {cl : Nat → Nat} {N : Nat} (hN : N ≤ 6) : (stemL cl N).Pairwise (fun x y => befB x y = true) ∧ ∀ x, x ∈ stemL cl N ↔ x < 2 ^ N ∧ PsAt cl x := by
  constructor
  · refine List.Pairwise.filter _ ((lecN_sorted ⟨N, by omega⟩).imp fun h => ?_)
    simpa [befB] using h
  · intro x
    unfold stemL
    rw [List.mem_filter, decide_eq_true_eq]
    constructor
    · rintro ⟨h1, h2⟩
      have := List.all_eq_true.1 (lecN_lt64 ⟨N, by omega⟩) x h1
      exact ⟨by simpa using this, h2⟩
    · rintro ⟨h1, h2⟩
      exact ⟨lecN_mem hN h1, h2⟩
theorem expl_ends {E : List Int} {N : Nat} (hc : PCtx N E) {s : XS} (h : XI E N s) (j : XJ E N s) (hf : s.a = 2 ^ N - 1) :
    s.r = (stemL (cloN E N) N).map (fun p => (p, cloN E N p)) ∧ ∀ t, t < 2 ^ N → cloN (rowsE E s.ks) N t = cloN E N t := by
  have hN : N ≤ 6 := by have := hc.2.1; omega
  have h64 := pow64 hN
  have hcl := clo_cl hc
  have hclx := clo_cl (rowsE_ctx hc h.nd h.ks)
  have hpos : 0 < 2 ^ N := Nat.pow_pos (by decide)
  have hfull : ∀ {c : Nat → Nat}, Lect.Cl N c → c (2 ^ N - 1) = 2 ^ N - 1 := fun {c} hC => by
    have h1 := hC.lt (2 ^ N - 1) (by omega)
    have h2 := hC.ext (2 ^ N - 1) (by omega)
    have := sub_le h2
    omega
  have hbf : ∀ t, t < 2 ^ N → t ≠ 2 ^ N - 1 → befB t s.a = true := fun t ht hne => by rw [hf]; exact bef_full ⟨N, by omega⟩ ⟨t, by omega⟩ ht hne
  constructor
  · have h1 : s.r.map (·.1) = stemL (cloN E N) N := by
      obtain ⟨s1, s2⟩ := stemL_ok (cl := cloN E N) hN
      refine sorted_eq ?_ s1 fun x => ?_
      · rw [List.pairwise_map]
        exact h.p.imp fun hx => hx.1
      · rw [s2]
        constructor
        · intro hx
          obtain ⟨p, hp, rfl⟩ := List.mem_map.1 hx
          exact ⟨(h.r p hp).1, j.ps p hp⟩
        · rintro ⟨x1, x2⟩
          obtain ⟨q, hq⟩ := j.all x x1 x2 (hbf x x1 fun e => x2.1 (by rw [e]; exact hfull hcl))
          exact List.mem_map.2 ⟨_, hq, rfl⟩
    rw [← h1, List.map_map]
    symm
    rw [List.map_congr_left (g := _root_.id) (fun p hp => by
      have := (h.r p hp).2.1
      show (p.1, cloN E N p.1) = p
      rw [← this]), List.map_id]
  · intro t ht
    have hprt : ∀ t : Nat, cloN E N t &&& cloN (rowsE E s.ks) N t = cloN E N t := fun t => by
      have := clo_part hc h.ks (t : Int)
      rw [← cloN_cast, ← cloN_cast, psub_nat] at this
      exact this
    have hu := hcl.lt t ht
    have hui := hcl.idem t ht
    have hclosed : cloN (rowsE E s.ks) N (cloN E N t) = cloN E N t := by
      by_cases e : cloN E N t = 2 ^ N - 1
      · rw [e]; exact hfull hclx
      · refine j.cl _ hu (fun x hx hs => ?_) (hbf _ hu e)
        rw [(h.r x hx).2.1]
        exact hcl.mono _ _ (h.r x hx).1 hu hui hs
    exact sub_eqN (hclx.mono t _ ht hu hclosed (hcl.ext t ht)) (hprt t)
end Go.Proofs.YtlglhokpaplifaaGreatDoor
