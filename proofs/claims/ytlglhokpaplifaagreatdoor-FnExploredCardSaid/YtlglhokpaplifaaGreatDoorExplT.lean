/- What the law of explorations says, in plain Lean. Conditions: none. -/
import Derived.Test.YtlglhokpaplifaaGreatDoorExplS
namespace Go.Proofs.YtlglhokpaplifaaGreatDoor
open Ev
set_option linter.unusedVariables false
set_option linter.unusedSimpArgs false

theorem psTo_congr {c1 c2 : Nat → Nat} {M : Nat} (h : ∀ t, t < M → c1 t = c2 t) : ∀ k, k ≤ M → psTo c1 k = psTo c2 k
  | 0, _ => rfl
  | k + 1, hk => by
    have ih := psTo_congr h k (by omega)
    rw [psTo, psTo, ih, h k (by omega)]
    congr 1
    have : (c2 k ≠ k ∧ ∀ p ∈ psTo c2 k, p &&& k = p → c1 p &&& k = c1 p) ↔ (c2 k ≠ k ∧ ∀ p ∈ psTo c2 k, p &&& k = p → c2 p &&& k = c2 p) := by
      constructor
      · rintro ⟨a, b⟩
        exact ⟨a, fun p hp hs => by have h1 := b p hp hs; rw [h p (by have := (psTo_mem.1 hp).1; omega)] at h1; exact h1⟩
      · rintro ⟨a, b⟩
        exact ⟨a, fun p hp hs => by have h1 := b p hp hs; rw [h p (by have := (psTo_mem.1 hp).1; omega)]; exact h1⟩
    by_cases e : c2 k ≠ k ∧ ∀ p ∈ psTo c2 k, p &&& k = p → c2 p &&& k = c2 p
    · rw [if_pos (this.2 e), if_pos e]
    · rw [if_neg fun h => e (this.1 h), if_neg e]
theorem psAt_congr {c1 c2 : Nat → Nat} {M : Nat} (h : ∀ t, t < M → c1 t = c2 t) {s : Nat} (hs : s < M) : PsAt c1 s ↔ PsAt c2 s := by
  have h1 := psTo_mem (cl := c1) (k := M) (p := s)
  have h2 := psTo_mem (cl := c2) (k := M) (p := s)
  rw [psTo_congr h M (Nat.le_refl _)] at h1
  constructor
  · intro hp; exact (h2.1 (h1.2 ⟨hs, hp⟩)).2
  · intro hp; exact (h1.1 (h2.2 ⟨hs, hp⟩)).2
theorem stemL_congr {c1 c2 : Nat → Nat} {N : Nat} (hN : N ≤ 6) (h : ∀ t, t < 2 ^ N → c1 t = c2 t) : stemL c1 N = stemL c2 N := by
  obtain ⟨a1, a2⟩ := stemL_ok (cl := c1) hN
  obtain ⟨b1, b2⟩ := stemL_ok (cl := c2) hN
  refine sorted_eq a1 b1 fun x => ?_
  rw [a2, b2]
  constructor
  · rintro ⟨x1, x2⟩; exact ⟨x1, (psAt_congr h x1).1 x2⟩
  · rintro ⟨x1, x2⟩; exact ⟨x1, (psAt_congr h x1).2 x2⟩
/-- what an exploration ends with -/
structure XEnd (E : List Int) (N : Nat) (s : XS) : Prop where
  r : s.r = stemR E N
  st : stemR (rowsE E s.ks) N = stemR E N
  c : PCtx N (rowsE E s.ks)
  q : ∀ x ∈ s.q, x.1 < 64 ∧ x.2.1 < 64 ∧ decide (HoldC N E x.1 x.2.1) = x.2.2.1 ∧ (x.2.2.1 = false → ∃ k : Nat, x.2.2.2 = k ∧ k < E.length ∧ PSub (x.1 : Int) (nth E k) = true ∧ PSub (x.2.1 : Int) (nth E k) = false)
  l : s.ks.length ≤ E.length
  n : (s.q.filter fun x => x.2.2.1).length = s.r.length
theorem xend_ok {N : Nat} {E ks : List Int} (hK : KnoC N E ks) : XEnd E N (exS N E ks) := by
  have hc := hK.1
  have hN : N ≤ 6 := by have := hc.2.1; omega
  have h64 := pow64 hN
  obtain ⟨hnd, hks⟩ := ksN_ok hK
  obtain ⟨T, hT, hend⟩ := xend_T hc (xi_start hnd hks)
  have hI := hT.2.2.2 T (Nat.le_refl _)
  have hJ := xj_at hc (xj_start hc (ks := ksN ks)) hT T (Nat.le_refl _)
  have hs : exS N E ks = xat E N ⟨0, [], [], ksN ks⟩ T := by
    unfold exS
    rw [if_pos hK, Int.toNat_natCast]
    exact hend
  rw [hs]
  obtain ⟨s, hse⟩ : ∃ s, xat E N ⟨0, [], [], ksN ks⟩ T = s := ⟨_, rfl⟩
  have ha := hT.2.1
  rw [hse] at hI hJ ha ⊢
  obtain ⟨e1, e2⟩ := expl_ends hc hI hJ ha
  refine { r := e1, st := ?_, c := rowsE_ctx hc hI.nd hI.ks, q := fun x hx => ?_, l := nodup_bound hI.nd hI.ks, n := hJ.n }
  · unfold stemR
    rw [stemL_congr hN e2]
    refine List.map_congr_left fun p hp => ?_
    rw [e2 p ((stemL_ok hN).2 p |>.1 hp).1]
  · obtain ⟨q1, q2, q3, q4⟩ := hJ.q x hx
    refine ⟨by omega, by omega, ?_, q4⟩
    have hh : HoldC N E x.1 x.2.1 ↔ ctrE E x.1 x.2.1 < 0 := by
      rw [hold_clo hc q1 q2]
      unfold HoldC
      rw [Int.toNat_natCast, ← cloN_cast, psub_nat]
      exact ⟨fun h => h.2.2.2, fun h => ⟨hc, pset_nat (by omega) q1, pset_nat (by omega) q2, h⟩⟩
    cases hcq : x.2.2.1 with
    | true => exact decide_eq_true (hh.2 (q3 hcq))
    | false =>
      refine decide_eq_false fun h => ?_
      obtain ⟨k, _, k2, k3, k4⟩ := q4 hcq
      have := ctr_neg.1 (hh.1 h) k k2 k3
      rw [k4] at this; cases this
theorem filt_len {α : Type} (c : α → Bool) (d : α) : ∀ q : List α, ((List.range q.length).filter fun j => c (q.getD j d)).length = (q.filter c).length
  | [] => rfl
  | x :: q => by
    rw [List.length_cons, List.range_succ_eq_map, List.filter_cons, List.filter_cons, List.filter_map]
    have ih := filt_len c d q
    have e : ((fun j => c ((x :: q).getD j d)) ∘ Nat.succ) = fun j => c (q.getD j d) := by funext j; simp
    rw [e]
    have e0 : (x :: q).getD 0 d = x := rfl
    rw [e0]
    simp only [List.getD_eq_getElem?_getD] at ih ⊢
    cases c x <;> simp [ih]
theorem acc_len (q : List (Nat × Nat × Bool × Int)) (k0 : Nat) : accTo (bufLC k0 4 (qAV q)) q.length = (q.filter fun x => x.2.2.1).length := by
  rw [← filt_len (fun x : Nat × Nat × Bool × Int => x.2.2.1) (0, 0, false, 0) q]
  unfold accTo mC
  rw [esOf_bufLC]
  congr 1
  refine List.filter_congr fun j hj => ?_
  have hj := List.mem_range.1 hj
  have e : atQ (qAV q) j = qr q[j].1 q[j].2.1 q[j].2.2.1 q[j].2.2.2 := by simp [atQ, qAV, hj]
  rw [e]
  simp [hj, qC, qr]
theorem acc_rules (n : Int) (E ks : List Int) : accTo (bufLC 0 4 (qAV (exS n E ks).q)) (exS n E ks).q.length = (exS n E ks).r.length := by
  rw [acc_len]
  by_cases hK : KnoC n E ks
  · obtain ⟨N, rfl⟩ : ∃ N : Nat, n = N := ⟨n.toNat, by have := hK.1.1; omega⟩
    exact (xend_ok hK).n
  · unfold exS; rw [if_neg hK]; rfl
end Go.Proofs.YtlglhokpaplifaaGreatDoor
