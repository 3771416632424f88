/- Exploration, step by step: plain Lean. Conditions: none. -/
import Derived.Test.YtlglhokpaplifaaGreatDoorNextP
import Derived.Test.YtlglhokpaplifaaGreatDoorExplK
namespace Go.Proofs.YtlglhokpaplifaaGreatDoor
open Ev
set_option linter.unusedVariables false
set_option linter.unusedSimpArgs false

/-- where an exploration stands: the set it has come to, its questions (a rule, whether it was accepted, an example), the rules, the objects known -/
structure XS where
  a : Nat
  q : List (Nat × Nat × Bool × Int)
  r : List (Nat × Nat)
  ks : List Nat
def rowsE (E : List Int) (ks : List Nat) : List Int := ks.map fun k => nth E k
def candR (r : List (Nat × Nat)) (x s : Nat) : Bool := befB x s && decide (∀ p ∈ r, p.1 &&& s = p.1 → p.2 &&& s = p.2)
open Classical in
noncomputable def nxtR (r : List (Nat × Nat)) (N a : Nat) : Nat := if h : ∃ m, IsNx (candR r a) N m then Classical.choose h else 0
open Classical in
noncomputable def xst (E : List Int) (N : Nat) (s : XS) : XS :=
  if cloN (rowsE E s.ks) N s.a = s.a then { s with a := nxtR s.r N s.a }
  else if ctrE E s.a (cloN (rowsE E s.ks) N s.a) < 0 then
    { s with a := nxtR (s.r ++ [(s.a, cloN (rowsE E s.ks) N s.a)]) N s.a, q := s.q ++ [(s.a, cloN (rowsE E s.ks) N s.a, true, -1)], r := s.r ++ [(s.a, cloN (rowsE E s.ks) N s.a)] }
  else { s with q := s.q ++ [(s.a, cloN (rowsE E s.ks) N s.a, false, ctrE E s.a (cloN (rowsE E s.ks) N s.a))], ks := s.ks ++ [(ctrE E s.a (cloN (rowsE E s.ks) N s.a)).toNat] }
noncomputable def xat (E : List Int) (N : Nat) (s : XS) : Nat → XS
  | 0 => s
  | i + 1 => xst E N (xat E N s i)
theorem xat_shift (E : List Int) (N : Nat) (s : XS) (i : Nat) : xat E N s (i + 1) = xat E N (xst E N s) i := by
  induction i with
  | zero => rfl
  | succ i ih => show xst E N (xat E N s (i + 1)) = _; rw [ih]; rfl

/- small sets -/
theorem bef_full : ∀ N : Fin 7, ∀ x : Fin 64, x.val < 2 ^ N.val → x.val ≠ 2 ^ N.val - 1 → befB x.val (2 ^ N.val - 1) = true := by decide +kernel
theorem bef_half : ∀ x y : Fin 64, x.val / 2 = y.val / 2 → befB x.val y.val = true → x.val % 2 = 0 ∧ y.val = x.val + 1 := by decide +kernel
theorem sub_half : ∀ x z : Fin 64, x.val % 2 = 0 → x.val &&& (x.val + 1) = x.val ∧ (x.val &&& z.val = x.val → z.val &&& (x.val + 1) = z.val → z.val = x.val ∨ z.val = x.val + 1) := by decide +kernel
theorem rev_lt64 {x : Nat} (h : x < 64) : Lect.rev6 x < 64 := (Lect.rev_rev ⟨x, h⟩).2

/-- what holds on the way -/
structure XI (E : List Int) (N : Nat) (s : XS) : Prop where
  a : s.a < 2 ^ N
  nd : s.ks.Nodup
  ks : ∀ k ∈ s.ks, k < E.length
  r : ∀ p ∈ s.r, p.1 < 2 ^ N ∧ p.2 = cloN E N p.1 ∧ p.1 ≠ p.2 ∧ befB p.1 s.a = true
  m : ∀ p ∈ s.r, p.1 &&& s.a = p.1 → p.2 &&& s.a = p.2
  p : s.r.Pairwise fun x y => befB x.1 y.1 = true ∧ (x.1 &&& y.1 = x.1 → x.2 &&& y.1 = x.2)

/-- rules whose premises are apart are few -/
theorem nodup_bound : ∀ {n : Nat} {l : List Nat}, l.Nodup → (∀ x ∈ l, x < n) → l.length ≤ n
  | 0, l, _, h => by
    cases l with
    | nil => simp
    | cons x l => exact absurd (h x (by simp)) (by omega)
  | n + 1, l, hn, h => by
    by_cases hm : n ∈ l
    · have := nodup_bound (n := n) (hn.erase n) fun x hx => by
        have h1 := (List.Nodup.mem_erase_iff hn).1 hx
        have h2 := h x h1.2
        have h3 := h1.1
        omega
      rw [List.length_erase_of_mem hm] at this
      omega
    · have := nodup_bound (n := n) hn fun x hx => by
        have h2 := h x hx
        have h3 : x ≠ n := fun e => hm (e ▸ hx)
        omega
      omega
theorem rules_few {E : List Int} {N : Nat} (hc : PCtx N E) {r : List (Nat × Nat)} (h1 : ∀ p ∈ r, p.1 < 2 ^ N ∧ p.2 = cloN E N p.1 ∧ p.1 ≠ p.2)
    (h2 : r.Pairwise fun x y => befB x.1 y.1 = true ∧ (x.1 &&& y.1 = x.1 → x.2 &&& y.1 = x.2)) : r.length ≤ 32 := by
  have hN : N ≤ 6 := by have := hc.2.1; omega
  have h64 := pow64 hN
  have hcl := clo_cl hc
  have hnd : (r.map fun p => p.1 / 2).Nodup := by
    rw [List.Nodup, List.pairwise_map]
    refine (List.Pairwise.and_mem.1 h2).imp fun {x y} h e => ?_
    obtain ⟨hx, hy, hb, hm⟩ := h
    obtain ⟨x1, x2, x3⟩ := h1 x hx
    obtain ⟨y1, y2, y3⟩ := h1 y hy
    obtain ⟨e1, e2⟩ := bef_half ⟨x.1, by omega⟩ ⟨y.1, by omega⟩ e hb
    simp only at e1 e2
    have hsub := (sub_half ⟨x.1, by omega⟩ ⟨0, by omega⟩ e1).1
    simp only at hsub
    have hz := hm (by rw [e2]; exact hsub)
    have hz2 : x.1 &&& x.2 = x.1 := by rw [x2]; exact hcl.ext _ x1
    have hlt : x.2 < 64 := by rw [x2]; have := hcl.lt _ x1; omega
    have := (sub_half ⟨x.1, by omega⟩ ⟨x.2, hlt⟩ e1).2
    simp only at this
    rcases this hz2 (by rw [← e2]; exact hz) with h | h
    · exact x3 h.symm
    · have e3 : x.2 = y.1 := by omega
      have : y.2 = y.1 := by rw [y2, ← e3, x2, hcl.idem _ x1]
      exact y3 this.symm
  have := nodup_bound (n := 32) hnd fun x hx => by
    obtain ⟨p, hp, rfl⟩ := List.mem_map.1 hx
    have := (h1 p hp).1
    omega
  simpa using this

theorem clo_hasE {N : Nat} {xs : List Int} {s : Int} (i : Nat) : PHas (Clo xs N s) i = true ↔ i < N ∧ ∀ k, k < xs.length → PSub s (nth xs k) = true → PHas (nth xs k) i = true := by
  unfold Clo
  rw [int_has]
  constructor
  · rintro ⟨h1, h2⟩
    exact ⟨h1, fun k hk hs => h2 k hk (by rw [ext_has]; simp [hk, hs])⟩
  · rintro ⟨h1, h2⟩
    exact ⟨h1, fun k hk hs => h2 k hk (by rw [ext_has, Bool.and_eq_true] at hs; exact hs.2)⟩
theorem rowsE_len (E : List Int) (ks : List Nat) : (rowsE E ks).length = ks.length := by simp [rowsE]
theorem rowsE_nth {E : List Int} {ks : List Nat} {k : Nat} (h : k < ks.length) : nth (rowsE E ks) k = nth E ks[k] := by
  rw [nth_eq (by rw [rowsE_len]; exact h)]; simp [rowsE]
theorem rowsE_ctx {E : List Int} {N : Nat} (hc : PCtx N E) {ks : List Nat} (hn : ks.Nodup) (hk : ∀ k ∈ ks, k < E.length) : PCtx N (rowsE E ks) := by
  refine ⟨hc.1, hc.2.1, ?_, fun k h => ?_⟩
  · have := nodup_bound hn hk
    have := hc.2.2.1
    rw [rowsE_len]; omega
  · rw [rowsE_len] at h
    rw [rowsE_nth h]
    exact hc.2.2.2 _ (hk _ (List.getElem_mem h))
/-- the closure in what is known holds the closure in all -/
theorem clo_part {E : List Int} {N : Nat} (hc : PCtx N E) {ks : List Nat} (hk : ∀ k ∈ ks, k < E.length) (a : Int) : PSub (Clo E N a) (Clo (rowsE E ks) N a) = true := by
  rw [psub_all (clo_nn ..) (clo_nn ..)]
  intro i hi
  rw [clo_hasE] at hi ⊢
  refine ⟨hi.1, fun k h hs => ?_⟩
  rw [rowsE_len] at h
  rw [rowsE_nth h] at hs ⊢
  exact hi.2 _ (hk _ (List.getElem_mem h)) hs
theorem psub_nat {a b : Nat} : PSub (a : Int) (b : Int) = true ↔ a &&& b = a := by simp [PSub]
theorem sub_eqN {a b : Nat} (h1 : a &&& b = a) (h2 : b &&& a = b) : a = b := by rw [← h1, Nat.and_comm, h2]
/-- no example against it -/
theorem ctr_neg {E : List Int} {a b : Nat} : ctrE E a b < 0 ↔ ∀ k, k < E.length → PSub (a : Int) (nth E k) = true → PSub (b : Int) (nth E k) = true := by
  unfold ctrE
  have h := idxI_any (p := fun row => PSub (a : Int) row && !PSub (b : Int) row) (xs := E)
  constructor
  · intro hlt k hk hs
    cases hb : PSub (b : Int) (nth E k) with
    | true => rfl
    | false =>
      have : E.any (fun row => PSub (a : Int) row && !PSub (b : Int) row) = true := by
        rw [List.any_eq_true]
        exact ⟨nth E k, by rw [nth_eq hk]; exact List.getElem_mem hk, by simp [hs, hb]⟩
      have := h.2 this
      omega
  · intro hall
    rw [idxI_none fun j hj => ?_]
    · omega
    · cases hs : PSub (a : Int) (nth E j) with
      | false => simp
      | true => simp [hall j hj hs]
theorem ctr_pos {E : List Int} {a b : Nat} (h : ¬ ctrE E a b < 0) : ∃ k, ctrE E a b = (k : Nat) ∧ k < E.length ∧ PSub (a : Int) (nth E k) = true ∧ PSub (b : Int) (nth E k) = false := by
  unfold ctrE idxI at *
  cases hf : E.findIdx? (fun row => PSub (a : Int) row && !PSub (b : Int) row) with
  | none => rw [hf] at h; simp at h
  | some k =>
    rw [hf] at h
    rw [List.findIdx?_eq_some_iff_getElem] at hf
    obtain ⟨hk, hp, _⟩ := hf
    simp only [Bool.and_eq_true, Bool.not_eq_true'] at hp
    exact ⟨k, rfl, hk, by rw [nth_eq hk]; exact hp.1, by rw [nth_eq hk]; exact hp.2⟩
theorem hold_clo {E : List Int} {N : Nat} (hc : PCtx N E) {a b : Nat} (ha : a < 2 ^ N) (hb : b < 2 ^ N) : ctrE E a b < 0 ↔ b &&& cloN E N a = b := by
  have hN : N ≤ 6 := by have := hc.2.1; omega
  rw [ctr_neg, ← psub_nat, cloN_cast, psub_all (by omega) (clo_nn ..)]
  constructor
  · intro h i hi
    rw [clo_hasE]
    refine ⟨by have := phas_lt (pset_nat (N := N) (by omega) hb) hi; omega, fun k hk hs => ?_⟩
    exact (psub_all (by omega) (row_nn hc hk)).1 (h k hk hs) i hi
  · intro h k hk hs
    rw [psub_all (by omega) (row_nn hc hk)]
    intro i hi
    exact (clo_hasE i).1 (h i hi) |>.2 k hk hs

/-- the next set -/
theorem nxtR_is {r : List (Nat × Nat)} {N a : Nat} (h : ∃ m, IsNx (candR r a) N m) : IsNx (candR r a) N (nxtR r N a) := by
  unfold nxtR
  rw [dif_pos h]
  exact Classical.choose_spec h
theorem candR_iff {r : List (Nat × Nat)} {x s : Nat} : candR r x s = true ↔ befB x s = true ∧ ∀ p ∈ r, p.1 &&& s = p.1 → p.2 &&& s = p.2 := by
  unfold candR; rw [Bool.and_eq_true, decide_eq_true_eq]
theorem min_exists {f : Nat → Nat} {P : Nat → Prop} : ∀ (n : Nat) (m : Nat), P m → f m ≤ n → ∃ m, P m ∧ ∀ s, P s → f m ≤ f s
  | 0, m, hm, hn => ⟨m, hm, fun s _ => by omega⟩
  | n + 1, m, hm, hn => by
    by_cases h : ∃ s, P s ∧ f s ≤ n
    · obtain ⟨s, hs, hf⟩ := h
      exact min_exists n s hs hf
    · exact ⟨m, hm, fun s hs => by
        have : ¬ f s ≤ n := fun h2 => h ⟨s, hs, h2⟩
        omega⟩
theorem nxt_ok {r : List (Nat × Nat)} {N a : Nat} (hN : N ≤ 6) (ha : a < 2 ^ N) (hf : a ≠ 2 ^ N - 1) (hr : ∀ p ∈ r, p.2 < 2 ^ N) : IsNx (candR r a) N (nxtR r N a) := by
  have h64 := pow64 hN
  have hfull : candR r a (2 ^ N - 1) = true := by
    rw [candR_iff]
    refine ⟨bef_full ⟨N, by omega⟩ ⟨a, by omega⟩ ha hf, fun p hp _ => ?_⟩
    rw [Nat.and_two_pow_sub_one_eq_mod, Nat.mod_eq_of_lt (hr p hp)]
  obtain ⟨m, hm, hmin⟩ := min_exists (f := Lect.rev6) (P := fun s => s < 2 ^ N ∧ candR r a s = true) _ (2 ^ N - 1) ⟨by have : 0 < 2 ^ N := Nat.pow_pos (by decide); omega, hfull⟩ (Nat.le_refl _)
  exact nxtR_is ⟨m, hm.1, hm.2, fun s hs hc => hmin s ⟨hs, hc⟩⟩

/-- how far it is yet -/
def xmu (s : XS) : Nat := (64 - Lect.rev6 s.a) * 9 + (8 - s.ks.length)
theorem bef_lt {x y : Nat} (h : befB x y = true) : Lect.rev6 x < Lect.rev6 y := by simpa [befB] using h
theorem bef_trans {x y z : Nat} (h : befB x y = true) (k : befB y z = true) : befB x z = true := by
  have := bef_lt h; have := bef_lt k; simp only [befB, decide_eq_true_eq]; omega
theorem mu_next {E : List Int} {a b : Nat} {x y : Nat} (ha : Lect.rev6 a < Lect.rev6 b) (hb : Lect.rev6 b < 64) (hx : x ≤ 8) : (64 - Lect.rev6 b) * 9 + (8 - x) < (64 - Lect.rev6 a) * 9 + (8 - x) := by omega
theorem xst_ok {E : List Int} {N : Nat} (hc : PCtx N E) {s : XS} (h : XI E N s) (hf : s.a ≠ 2 ^ N - 1) : XI E N (xst E N s) ∧ xmu (xst E N s) < xmu s := by
  have hN : N ≤ 6 := by have := hc.2.1; omega
  have h64 := pow64 hN
  have hcl := clo_cl hc
  have hcx := rowsE_ctx hc h.nd h.ks
  have hclx := clo_cl hcx
  obtain ⟨b, hb⟩ : ∃ b, b = cloN (rowsE E s.ks) N s.a := ⟨_, rfl⟩
  have hb2 : b < 2 ^ N := by rw [hb]; exact hclx.lt _ h.a
  have hab : s.a &&& b = s.a := by rw [hb]; exact hclx.ext _ h.a
  have hr2 : ∀ p ∈ s.r, p.2 < 2 ^ N := fun p hp => by rw [(h.r p hp).2.1]; exact hcl.lt _ (h.r p hp).1
  have hk8 : s.ks.length ≤ 8 := by have := nodup_bound h.nd h.ks; have := hc.2.2.1; omega
  unfold xst
  rw [← hb]
  split
  · -- closed
    obtain ⟨n1, n2, n3⟩ := nxt_ok hN h.a hf hr2
    rw [candR_iff] at n2
    refine ⟨{ a := n1, nd := h.nd, ks := h.ks, r := fun p hp => ?_, m := fun p hp => n2.2 p hp, p := h.p }, ?_⟩
    · obtain ⟨r1, r2, r3, r4⟩ := h.r p hp
      exact ⟨r1, r2, r3, bef_trans r4 n2.1⟩
    · have := bef_lt n2.1
      have := rev_lt64 (x := nxtR s.r N s.a) (by omega)
      simp only [xmu]; omega
  · rename_i hne
    split
    · -- accepted
      rename_i hh
      have he : b = cloN E N s.a := by
        refine sub_eqN ((hold_clo hc h.a hb2).1 hh) ?_
        have := clo_part hc h.ks (s.a : Int)
        rw [← cloN_cast, ← cloN_cast, psub_nat] at this
        rw [hb]; exact this
      obtain ⟨n1, n2, n3⟩ := nxt_ok (r := s.r ++ [(s.a, b)]) hN h.a hf fun p hp => by
        rcases List.mem_append.1 hp with hp | hp
        · exact hr2 p hp
        · obtain rfl := List.mem_singleton.1 hp; exact hb2
      rw [candR_iff] at n2
      refine ⟨{ a := n1, nd := h.nd, ks := h.ks, r := fun p hp => ?_, m := fun p hp => n2.2 p hp, p := ?_ }, ?_⟩
      · rcases List.mem_append.1 hp with hp | hp
        · obtain ⟨r1, r2, r3, r4⟩ := h.r p hp
          exact ⟨r1, r2, r3, bef_trans r4 n2.1⟩
        · obtain rfl := List.mem_singleton.1 hp
          exact ⟨h.a, he, fun e => hne e.symm, n2.1⟩
      · rw [List.pairwise_append]
        refine ⟨h.p, List.pairwise_singleton _ _, fun x hx y hy => ?_⟩
        obtain rfl := List.mem_singleton.1 hy
        exact ⟨(h.r x hx).2.2.2, h.m x hx⟩
      · have := bef_lt n2.1
        have := rev_lt64 (x := nxtR (s.r ++ [(s.a, b)]) N s.a) (by omega)
        simp only [xmu]; omega
    · -- an example
      rename_i hh
      obtain ⟨k, k1, k2, k3, k4⟩ := ctr_pos hh
      have hkn : k ∉ s.ks := fun hm => by
        obtain ⟨i, hi, rfl⟩ := List.mem_iff_getElem.1 hm
        have : PSub (b : Int) (nth E s.ks[i]) = true := by
          rw [psub_all (by omega) (row_nn hc (h.ks _ hm))]
          intro j hj
          rw [hb, cloN_cast, clo_hasE] at hj
          have := hj.2 i (by rw [rowsE_len]; exact hi)
          rw [rowsE_nth hi] at this
          exact this k3
        rw [k4] at this; cases this
      rw [k1, Int.toNat_natCast]
      have hnd : (s.ks ++ [k]).Nodup := by
        rw [List.nodup_append]
        exact ⟨h.nd, by simp, fun x hx y hy => by obtain rfl := List.mem_singleton.1 hy; exact fun e => hkn (e ▸ hx)⟩
      have hks : ∀ x ∈ s.ks ++ [k], x < E.length := fun x hx => by
        rcases List.mem_append.1 hx with hx | hx
        · exact h.ks x hx
        · obtain rfl := List.mem_singleton.1 hx; exact k2
      have hk9 : (s.ks ++ [k]).length ≤ 8 := by have := nodup_bound hnd hks; have := hc.2.2.1; omega
      rw [List.length_append, List.length_singleton] at hk9
      refine ⟨{ a := h.a, nd := hnd, ks := hks, r := h.r, m := h.m, p := h.p }, ?_⟩
      simp only [xmu, List.length_append, List.length_singleton]
      omega
/-- it comes to its end -/
theorem xat_ends {E : List Int} {N : Nat} (hc : PCtx N E) : ∀ (m : Nat) (s : XS), XI E N s → xmu s ≤ m → ∃ T, T ≤ m ∧ (xat E N s T).a = 2 ^ N - 1 ∧ (∀ i, i < T → (xat E N s i).a ≠ 2 ^ N - 1) ∧ ∀ i, i ≤ T → XI E N (xat E N s i)
  | m, s, h, hm => by
    by_cases hf : s.a = 2 ^ N - 1
    · exact ⟨0, by omega, hf, fun i hi => by omega, fun i hi => by obtain rfl : i = 0 := by omega
                                                                   exact h⟩
    · obtain ⟨h1, h2⟩ := xst_ok hc h hf
      cases m with
      | zero => omega
      | succ m =>
        obtain ⟨T, t1, t2, t3, t4⟩ := xat_ends hc m _ h1 (by omega)
        refine ⟨T + 1, by omega, by rw [xat_shift]; exact t2, fun i hi => ?_, fun i hi => ?_⟩
        · cases i with
          | zero => exact hf
          | succ i => rw [xat_shift]; exact t3 i (by omega)
        · cases i with
          | zero => exact h
          | succ i => rw [xat_shift]; exact t4 i (by omega)
theorem xat_q (E : List Int) (N : Nat) (s : XS) : ∀ i, (xat E N s i).q.length ≤ s.q.length + i
  | 0 => Nat.le_refl _
  | i + 1 => by
    have := xat_q E N s i
    show (xst E N (xat E N s i)).q.length ≤ _
    unfold xst
    split
    · simp only; omega
    · split <;> (simp only [List.length_append, List.length_singleton]; omega)
/-- the start -/
theorem xi_start {E : List Int} {N : Nat} {ks : List Nat} (hn : ks.Nodup) (hk : ∀ k ∈ ks, k < E.length) : XI E N ⟨0, [], [], ks⟩ :=
  { a := Nat.pow_pos (by decide), nd := hn, ks := hk, r := fun p hp => (by cases hp), m := fun p hp => (by cases hp), p := List.Pairwise.nil }
theorem xi_few {E : List Int} {N : Nat} (hc : PCtx N E) {s : XS} (h : XI E N s) : s.r.length ≤ 32 := rules_few hc (fun p hp => ⟨(h.r p hp).1, (h.r p hp).2.1, (h.r p hp).2.2.1⟩) h.p
end Go.Proofs.YtlglhokpaplifaaGreatDoor
