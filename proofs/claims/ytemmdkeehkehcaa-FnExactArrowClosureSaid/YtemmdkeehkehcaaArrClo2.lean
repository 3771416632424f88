/- The least set that is closed under arrows. Conditions: none. -/
import Derived.Test.YtemmdkeehkehcaaArrClo
namespace Go.Proofs.Ytemmdkeehkehcaa
open Ev
set_option linter.unusedVariables false
set_option linter.unusedSimpArgs false
set_option maxHeartbeats 4000000

def ArrLB (xs : List Int) (N : Nat) (o O A : Int) : Prop := ∀ O' A', PSet xs.length O' = true → PSet N A' = true → PSub o O' = true → ArrC xs N O' A' → PSub O O' = true ∧ PSub A A' = true
def ArrIn (xs : List Int) (N : Nat) (o O A : Int) : Prop := PSet xs.length O = true ∧ PSet N A = true ∧ PSub o O = true ∧ ArrLB xs N o O A
def ArrLeast (xs : List Int) (N : Nat) (o : Int) (p : Int × Int) : Prop := ArrIn xs N o p.1 p.2 ∧ ArrC xs N p.1 p.2
open Classical in
noncomputable def arrV (xs : List Int) (N : Nat) (o : Int) : Int × Int := if h : ∃ p, ArrLeast xs N o p then Classical.choose h else (0, 0)
theorem arrV_eq {xs : List Int} {N : Nat} {o O A : Int} (h : ArrIn xs N o O A) (hc : ArrC xs N O A) : arrV xs N o = (O, A) := by
  have he : ∃ p, ArrLeast xs N o p := ⟨(O, A), h, hc⟩
  unfold arrV
  rw [dif_pos he]
  obtain ⟨⟨h1, h2, h3, h4⟩, h5⟩ := Classical.choose_spec he
  obtain ⟨g1, g2, g3, g4⟩ := h
  have a := h4 O A g1 g2 g3 hc
  have b := g4 _ _ h1 h2 h3 h5
  have e1 := psub_antisymm (pset_lt h1).1 (pset_lt g1).1 a.1 b.1
  have e2 := psub_antisymm (pset_lt h2).1 (pset_lt g2).1 a.2 b.2
  exact Prod.ext e1 e2
theorem psub_refl (s : Int) : PSub s s = true := by simp [PSub]
theorem psub_trans {a b c : Int} (ha : 0 ≤ a) (hb : 0 ≤ b) (hc : 0 ≤ c) (h1 : PSub a b = true) (h2 : PSub b c = true) : PSub a c = true := by
  rw [psub_all ha hb] at h1
  rw [psub_all hb hc] at h2
  rw [psub_all ha hc]
  exact fun i hi => h2 i (h1 i hi)
theorem psub_orL {a b : Int} (ha : 0 ≤ a) (hb : 0 ≤ b) : PSub a ((a.toNat ||| b.toNat : Nat) : Int) = true := by
  rw [psub_all ha (Int.natCast_nonneg _)]
  intro i hi; rw [phas_or ha hb, hi]; rfl
theorem psub_orI {a b c : Int} (ha : 0 ≤ a) (hb : 0 ≤ b) (hc : 0 ≤ c) (h1 : PSub a c = true) (h2 : PSub b c = true) : PSub ((a.toNat ||| b.toNat : Nat) : Int) c = true := by
  rw [psub_all ha hc] at h1
  rw [psub_all hb hc] at h2
  rw [psub_all (Int.natCast_nonneg _) hc]
  intro i hi
  rw [phas_or ha hb, Bool.or_eq_true] at hi
  exact hi.elim (h1 i) (h2 i)
theorem psub_pow {g : Nat} {o : Int} (ho : 0 ≤ o) : PSub (2 ^ g) o = PHas o g := by
  rw [Bool.eq_iff_iff, psub_all (Int.le_of_lt (pow_pos2 g)) ho]
  constructor
  · intro h; exact h g (by rw [phas_pow]; simp)
  · intro h i hi; rw [phas_pow] at hi; simp at hi; subst hi; exact h
theorem psub_le {a b : Int} (ha : 0 ≤ a) (hb : 0 ≤ b) (h : PSub a b = true) : a ≤ b := by
  have h1 : a.toNat &&& b.toNat ≤ b.toNat := Nat.and_le_right
  simp only [PSub, decide_eq_true_eq] at h
  omega
/-- one step up: the attributes of a chosen object's arrows -/
theorem arrIn_up {xs : List Int} {N : Nat} {o O A : Int} {g : Nat} (hN : N ≤ 8) (h : ArrIn xs N o O A) (hg : g < xs.length) (hog : PHas O g = true) : ArrIn xs N o O ((A.toNat ||| (Up xs N g).toNat : Nat) : Int) := by
  obtain ⟨h1, h2, h3, h4⟩ := h
  refine ⟨h1, pset_or h2 (up_pset xs g hN), h3, fun O' A' q1 q2 q3 q4 => ?_⟩
  obtain ⟨a, b⟩ := h4 O' A' q1 q2 q3 q4
  have hg' : PHas O' g = true := (psub_all (pset_lt h1).1 (pset_lt q1).1).1 a g hog
  exact ⟨a, psub_orI (pset_lt h2).1 (pset_lt (up_pset xs g hN)).1 (pset_lt q2).1 b ((q4 g hg).1 hg')⟩
theorem arrIn_down {xs : List Int} {N : Nat} {o O A : Int} {g : Nat} (hN : N ≤ 8) (hl : xs.length ≤ 8) (ho : 0 ≤ o) (h : ArrIn xs N o O A) (hg : g < xs.length) (hm : meetB (Down xs N g) A = true) : ArrIn xs N o ((O.toNat ||| ((2 : Int) ^ g).toNat : Nat) : Int) A := by
  obtain ⟨h1, h2, h3, h4⟩ := h
  have hp := pset_pow hl hg
  refine ⟨pset_or h1 hp, h2, psub_trans ho (pset_lt h1).1 (Int.natCast_nonneg _) h3 (psub_orL (pset_lt h1).1 (pset_lt hp).1), fun O' A' q1 q2 q3 q4 => ?_⟩
  obtain ⟨a, b⟩ := h4 O' A' q1 q2 q3 q4
  have hg' : PHas O' g = true := by
    cases hx : PHas O' g with
    | true => rfl
    | false =>
      have h5 := (q4 g hg).2 hx
      have d := (pset_lt (down_pset xs g hN)).1
      rw [meetB_iff d (pset_lt h2).1] at hm
      obtain ⟨i, i1, i2⟩ := hm
      have : meetB (Down xs N g) A' = true := (meetB_iff d (pset_lt q2).1).2 ⟨i, i1, (psub_all (pset_lt h2).1 (pset_lt q2).1).1 b i i2⟩
      rw [h5] at this; cases this
  exact ⟨psub_orI (pset_lt h1).1 (pset_lt hp).1 (pset_lt q1).1 a (by rw [psub_pow (pset_lt q1).1]; exact hg'), b⟩
/-- a round of the program -/
theorem arrIn_pul {xs : List Int} {N : Nat} {o O A : Int} (hN : N ≤ 8) (hl : xs.length ≤ 8) (ho : 0 ≤ o) (h : ArrIn xs N o O A) (hc : ¬ ArrC xs N O A) : ArrIn xs N o (pulO xs N O (pulA xs N O A)) (pulA xs N O A) ∧ O + A < pulO xs N O (pulA xs N O A) + pulA xs N O A := by
  obtain ⟨h1, h2, h3, h4⟩ := h
  have p1 := (pset_lt h1).1
  have p2 := (pset_lt h2).1
  have hA : PSet N (pulA xs N O A) = true := setOf_pset _ hN
  have hO : PSet xs.length (pulO xs N O (pulA xs N O A)) = true := setOf_pset _ hl
  have a1 := (pset_lt hA).1
  have o1 := (pset_lt hO).1
  have sA : PSub A (pulA xs N O A) = true := by
    rw [psub_iff h2 a1]
    intro i hi h; unfold pulA; rw [setOf_has]; simp [hi, h]
  have sO : PSub O (pulO xs N O (pulA xs N O A)) = true := by
    rw [psub_iff h1 o1]
    intro i hi h; unfold pulO; rw [setOf_has]; simp [hi, h]
  refine ⟨⟨hO, hA, psub_trans ho p1 o1 h3 sO, fun O' A' q1 q2 q3 q4 => ?_⟩, ?_⟩
  · obtain ⟨a, b⟩ := h4 O' A' q1 q2 q3 q4
    have z1 := (pset_lt q1).1
    have z2 := (pset_lt q2).1
    have tA : PSub (pulA xs N O A) A' = true := by
      rw [psub_iff hA z2]
      intro m hm hp
      unfold pulA at hp
      rw [setOf_has] at hp
      simp only [Bool.and_eq_true, Bool.or_eq_true, List.any_eq_true, List.mem_range] at hp
      rcases hp.2 with hp | ⟨g, _, hg1, hg2⟩
      · exact (psub_iff h2 z2).1 b m hm hp
      · have hgl := phas_lt h1 hg1
        have := (q4 g (by omega)).1 ((psub_all p1 z1).1 a g hg1)
        rw [psub_iff (up_pset xs g hN) z2] at this
        exact this m hm (by unfold Up; rw [setOf_has]; simp [hm, hg2])
    refine ⟨?_, tA⟩
    rw [psub_iff hO z1]
    intro g hg hp
    unfold pulO at hp
    rw [setOf_has] at hp
    simp only [Bool.and_eq_true, Bool.or_eq_true] at hp
    rcases hp.2 with hp | hp
    · exact (psub_all p1 z1).1 a g hp
    · cases hx : PHas O' g with
      | true => rfl
      | false =>
        have h5 := (q4 g hg).2 hx
        have d := (pset_lt (down_pset xs g hN)).1
        rw [meetB_iff d a1] at hp
        obtain ⟨i, i1, i2⟩ := hp
        have : meetB (Down xs N g) A' = true := (meetB_iff d z2).2 ⟨i, i1, (psub_all a1 z2).1 tA i i2⟩
        rw [h5] at this; cases this
  · have l1 := psub_le p1 o1 sO
    have l2 := psub_le p2 a1 sA
    rcases Int.lt_or_le (O + A) (pulO xs N O (pulA xs N O A) + pulA xs N O A) with h | h
    · exact h
    · exact (hc ((arrC_pul hN hl h1 h2).1 ⟨by omega, by omega⟩)).elim
theorem arrIn_0 {xs : List Int} {N : Nat} {o : Int} (hN : N ≤ 8) (ho : PSet xs.length o = true) : ArrIn xs N o o 0 := by
  refine ⟨ho, ?_, psub_refl o, fun O' A' q1 q2 q3 q4 => ⟨q3, by simp [PSub]⟩⟩
  rw [pset_iff]
  have := pow_pos2 ((N : Int)).toNat
  omega
noncomputable def arrO (n : Int) (xs : List Int) (o : Int) : Int := if PCtx n xs ∧ PSet xs.length o = true then (arrV xs n.toNat o).1 else 0
noncomputable def arrA (n : Int) (xs : List Int) (o : Int) : Int := if PCtx n xs ∧ PSet xs.length o = true then (arrV xs n.toNat o).2 else 0
theorem iArrowClosure_c {n o : Int} {v : AV} (hv : IsI v) : EvC env 42 [.agg [.int .i64 n, v], .int .i64 o] (.tup [.int .i64 (arrO n (xsOf v) o), .int .i64 (arrA n (xsOf v) o), .bool (decide (PCtx n (xsOf v)) && PSet (xsOf v).length o)]) := by
  refine evC_of (F := Try.f42) rfl rfl (Nat.le_of_ble_eq_true rfl) ?_
  by_cases hp : PCtx n (xsOf v)
  · by_cases ho : PSet (xsOf v).length o = true
    · obtain ⟨N, rfl⟩ : ∃ N : Nat, n = N := ⟨n.toNat, by have := hp.1; omega⟩
      have hl := hp.2.2.1
      have hN8 : N ≤ 8 := by have := hp.2.1; omega
      have o1 := pset_lt ho
      have hres : ∀ O A, ArrIn (xsOf v) N o O A → ArrC (xsOf v) N O A → arrO N (xsOf v) o = O ∧ arrA N (xsOf v) o = A := fun O A h1 h2 => by
        have := arrV_eq h1 h2
        simp [arrO, arrA, hp, ho, this]
      repeat' (first | (apply br_intro <;> intro hb <;> (have hb2 := hb) <;> (try simp [-Int.not_le, -Int.not_lt, -Nat.not_le, -Nat.not_lt, -Nat.add_left_cancel_iff] at hb2)) | (refine draw_listA (by rfl) (by kernel_rfl) ?_) | (refine draw_listB (by simp [allocsOf, isAlloc]; rfl) (by kernel_rfl) ?_) | simp (maxSteps := 2000000) (disch := first | omega | assumption | simp [*]) [*, -Int.not_le, -Int.not_lt, -Nat.not_le, -Nat.not_lt, -Nat.add_left_cancel_iff, wrap_i64, wrap_u64, Try.f42, isI_cells hv, isI_one hv, isI_low hv, isI_len hv])
      refine W_loopP 600 (fun i s => ∃ O A, s 1 = .int .i64 O ∧ s 7 = .int .i64 A ∧ s 2 = .vp 2 0 0 ∧ ArrIn (xsOf v) N o O A ∧ (i : Int) ≤ O + A) rfl ?_ ?_
      · exact ⟨o, 0, by simp, by simp, by simp, arrIn_0 hN8 ho, by omega⟩
      rintro i s hi ⟨O, A, h1, h7, h2, hI, hm⟩
      obtain ⟨i1, i2, i3, i4⟩ := hI
      have b1 := pset_lt i1
      have b2 := pset_lt i2
      by_cases hC : ArrC (xsOf v) N O A
      · have hP : ArrP N (xsOf v) O A := ⟨hp, i1, i2, hC⟩
        obtain ⟨r1, r2⟩ := hres O A ⟨i1, i2, i3, i4⟩ hC
        clear hres i4
        repeat' (first | (apply br_intro <;> intro hb <;> (have hb2 := hb) <;> (try simp [-Int.not_le, -Int.not_lt, -Nat.not_le, -Nat.not_lt, -Nat.add_left_cancel_iff] at hb2)) | (refine draw_listA (by rfl) (by kernel_rfl) ?_) | (refine draw_listB (by simp [allocsOf, isAlloc]; rfl) (by kernel_rfl) ?_) | simp (maxSteps := 2000000) (disch := first | omega | assumption | simp [*]) [*, -Int.not_le, -Int.not_lt, -Nat.not_le, -Nat.not_lt, -Nat.add_left_cancel_iff, wrap_i64, wrap_u64, h1, h7, h2, isI_cells hv, isI_one hv, isI_low hv, isI_len hv])
      · have hP : ¬ ArrP N (xsOf v) O A := fun h => hC h.2.2.2
        obtain ⟨z1, z2⟩ := arrIn_pul hN8 hl o1.1 ⟨i1, i2, i3, i4⟩ hC
        clear hres i4
        repeat' (first | (apply br_intro <;> intro hb <;> (have hb2 := hb) <;> (try simp [-Int.not_le, -Int.not_lt, -Nat.not_le, -Nat.not_lt, -Nat.add_left_cancel_iff] at hb2)) | (refine draw_listA (by rfl) (by kernel_rfl) ?_) | (refine draw_listB (by simp [allocsOf, isAlloc]; rfl) (by kernel_rfl) ?_) | simp (maxSteps := 2000000) (disch := first | omega | assumption | simp [*]) [*, -Int.not_le, -Int.not_lt, -Nat.not_le, -Nat.not_lt, -Nat.add_left_cancel_iff, wrap_i64, wrap_u64, h1, h7, h2, isI_cells hv, isI_one hv, isI_low hv, isI_len hv])
        omega
    · have hz : arrO n (xsOf v) o = 0 ∧ arrA n (xsOf v) o = 0 := by simp [arrO, arrA, ho]
      obtain ⟨z1, z2⟩ := hz
      repeat' (first | (apply br_intro <;> intro hb <;> (have hb2 := hb) <;> (try simp [-Int.not_le, -Int.not_lt, -Nat.not_le, -Nat.not_lt, -Nat.add_left_cancel_iff] at hb2)) | (refine draw_listA (by rfl) (by kernel_rfl) ?_) | (refine draw_listB (by simp [allocsOf, isAlloc]; rfl) (by kernel_rfl) ?_) | simp (maxSteps := 2000000) (disch := first | omega | assumption | simp [*]) [*, -Int.not_le, -Int.not_lt, -Nat.not_le, -Nat.not_lt, -Nat.add_left_cancel_iff, wrap_i64, wrap_u64, Try.f42, isI_cells hv, isI_one hv, isI_low hv, isI_len hv])
  · have hz : arrO n (xsOf v) o = 0 ∧ arrA n (xsOf v) o = 0 := by simp [arrO, arrA, hp]
    obtain ⟨z1, z2⟩ := hz
    repeat' (first | (apply br_intro <;> intro hb <;> (have hb2 := hb) <;> (try simp [-Int.not_le, -Int.not_lt, -Nat.not_le, -Nat.not_lt, -Nat.add_left_cancel_iff] at hb2)) | (refine draw_listA (by rfl) (by kernel_rfl) ?_) | (refine draw_listB (by simp [allocsOf, isAlloc]; rfl) (by kernel_rfl) ?_) | simp (maxSteps := 2000000) (disch := first | omega | assumption | simp [*]) [*, -Int.not_le, -Int.not_lt, -Nat.not_le, -Nat.not_lt, -Nat.add_left_cancel_iff, wrap_i64, wrap_u64, Try.f42, isI_cells hv, isI_one hv, isI_low hv, isI_len hv])
theorem iArrowClosure_s {n o : Int} {v : AV} (hv : IsI v) {K : AV → Prop} {tg : Tg K} : CW env 42 [.agg [.int .i64 n, v], .int .i64 o] K tg ↔ K (.tup [.int .i64 (arrO n (xsOf v) o), .int .i64 (arrA n (xsOf v) o), .bool (decide (PCtx n (xsOf v)) && PSet (xsOf v).length o)]) := callsTo_iff (iArrowClosure_c hv)
attribute [simp] iArrowClosure_s
theorem sArrowClosure_c {n o : Int} {v : AV} (hv : IsI v) : EvC env 41 [.agg [.int .i64 n, v], .int .i64 o] (.tup [.int .i64 (arrO n (xsOf v) o), .int .i64 (arrA n (xsOf v) o), .bool (decide (PCtx n (xsOf v)) && PSet (xsOf v).length o)]) := by
  refine evC_of (F := Try.f41) rfl rfl (Nat.le_of_ble_eq_true rfl) ?_
  have h0n : PCtx n (xsOf v) → PSet n 0 = true := fun hp => by
    rw [pset_iff]
    have := pow_pos2 n.toNat
    have h1 := hp.1
    have h2 := hp.2.1
    omega
  by_cases hp : PCtx n (xsOf v)
  · by_cases ho : PSet (xsOf v).length o = true
    · obtain ⟨N, rfl⟩ : ∃ N : Nat, n = N := ⟨n.toNat, by have := hp.1; omega⟩
      have hl := hp.2.2.1
      have hN8 : N ≤ 8 := by have := hp.2.1; omega
      have o1 := pset_lt ho
      have h0n' := h0n hp
      clear h0n
      have hres : ∀ O A, ArrIn (xsOf v) N o O A → ArrC (xsOf v) N O A → arrO N (xsOf v) o = O ∧ arrA N (xsOf v) o = A := fun O A h1 h2 => by
        have := arrV_eq h1 h2
        simp [arrO, arrA, hp, ho, this]
      repeat' (first | (apply br_intro <;> intro hb <;> (have hb2 := hb) <;> (try simp [-Int.not_le, -Int.not_lt, -Nat.not_le, -Nat.not_lt, -Nat.add_left_cancel_iff] at hb2)) | (refine draw_listA (by rfl) (by kernel_rfl) ?_) | (refine draw_listB (by simp [allocsOf, isAlloc]; rfl) (by kernel_rfl) ?_) | simp (maxSteps := 2000000) (disch := first | omega | assumption | simp [*]) [*, -Int.not_le, -Int.not_lt, -Nat.not_le, -Nat.not_lt, -Nat.add_left_cancel_iff, wrap_i64, wrap_u64, Try.f41, isI_cells hv, isI_one hv, isI_low hv, isI_len hv])
      refine W_loopP 600 (fun i s => ∃ O A c, s 1 = .int .i64 O ∧ s 7 = .int .i64 A ∧ s 2 = .vp 2 0 0 ∧ s 8 = .bool c ∧ ArrIn (xsOf v) N o O A ∧ (c = true → (i : Int) ≤ O + A) ∧ (c = false → ArrC (xsOf v) N O A)) rfl ?_ ?_
      · exact ⟨o, 0, true, by simp, by simp, by simp, by simp, arrIn_0 hN8 ho, by simp; omega, by simp⟩
      rintro i s hi ⟨O, A, c, h1, h7, h2, h8, hI, hm, hC⟩
      cases c with
      | false =>
        obtain ⟨r1, r2⟩ := hres O A hI (hC rfl)
        clear hres hI hC hm
        repeat' (first | (apply br_intro <;> intro hb <;> (have hb2 := hb) <;> (try simp [-Int.not_le, -Int.not_lt, -Nat.not_le, -Nat.not_lt, -Nat.add_left_cancel_iff] at hb2)) | (refine draw_listA (by rfl) (by kernel_rfl) ?_) | (refine draw_listB (by simp [allocsOf, isAlloc]; rfl) (by kernel_rfl) ?_) | simp (maxSteps := 2000000) (disch := first | omega | assumption | simp [*]) [*, -Int.not_le, -Int.not_lt, -Nat.not_le, -Nat.not_lt, -Nat.add_left_cancel_iff, wrap_i64, wrap_u64, h1, h7, h2, h8, isI_cells hv, isI_one hv, isI_low hv, isI_len hv])
      | true =>
        have hm := hm rfl
        clear hres hC
        repeat' (first | (apply br_intro <;> intro hb <;> (have hb2 := hb) <;> (try simp [-Int.not_le, -Int.not_lt, -Nat.not_le, -Nat.not_lt, -Nat.add_left_cancel_iff] at hb2)) | (refine draw_listA (by rfl) (by kernel_rfl) ?_) | (refine draw_listB (by simp [allocsOf, isAlloc]; rfl) (by kernel_rfl) ?_) | simp (maxSteps := 2000000) (disch := first | omega | assumption | simp [*]) [*, -Int.not_le, -Int.not_lt, -Nat.not_le, -Nat.not_lt, -Nat.add_left_cancel_iff, wrap_i64, wrap_u64, h1, h7, h2, h8, isI_cells hv, isI_one hv, isI_low hv, isI_len hv])
        refine W_loopP (xsOf v).length (fun g s => ∃ O2 A2 c, s 1 = .int .i64 O2 ∧ s 7 = .int .i64 A2 ∧ s 2 = .vp 2 0 0 ∧ s 8 = .bool c ∧ s 9 = .int .i64 g ∧ ArrIn (xsOf v) N o O2 A2 ∧ (c = true → (i : Int) + 1 ≤ O2 + A2) ∧ (c = false → O2 = O ∧ A2 = A ∧
          ∀ j, j < g → (PHas O2 j = true → PSub (Up (xsOf v) N j) A2 = true) ∧ (PHas O2 j = false → meetB (Down (xsOf v) N j) A2 = false))) rfl ?_ ?_
        · exact ⟨O, A, false, by simp [*], by simp [*], by simp [*], by simp, by simp, hI, by simp, by simp⟩
        rintro g s3 hg ⟨O2, A2, c, k1, k7, k2, k8, k9, kI, km, kC⟩
        have c1 := pset_lt kI.1
        have c2 := pset_lt kI.2.1
        by_cases hg2 : g < (xsOf v).length
        · have u1 := pset_lt (up_pset (xsOf v) g hN8)
          have d1 := pset_lt (down_pset (xsOf v) g hN8)
          have hpw := pow_small (i := g) (by omega)
          have hsub := psub_and (t := A2) u1.1
          have hmt : meetB (Down (xsOf v) N g) A2 = decide ((Down (xsOf v) N g).toNat &&& A2.toNat ≠ 0) := rfl
          have hgood : c = false → ((PHas O2 g = true → PSub (Up (xsOf v) N g) A2 = true) ∧ (PHas O2 g = false → meetB (Down (xsOf v) N g) A2 = false)) → ∀ j, j < g + 1 → (PHas O2 j = true → PSub (Up (xsOf v) N j) A2 = true) ∧ (PHas O2 j = false → meetB (Down (xsOf v) N j) A2 = false) := fun hc h j hj => by
            by_cases e : j = g
            · subst e; exact h
            · exact (kC hc).2.2 j (by omega)
          have hS : c = false → O2 = O ∧ A2 = A := fun hc => ⟨(kC hc).1, (kC hc).2.1⟩
          have hle : (i : Int) ≤ O2 + A2 := by
            cases c with
            | true => have := km rfl; omega
            | false => have := hS rfl; omega
          have hmt : (Down (xsOf v) N g).toNat &&& A2.toNat = 0 ↔ meetB (Down (xsOf v) N g) A2 = false := by simp [meetB]
          have hk1 : c = true → (i : Int) + 1 ≤ O2 + A2 := km
          clear km kC
          cases hog : PHas O2 g with
          | true =>
            have hup := arrIn_up hN8 kI hg2 hog
            have hgr : PSub (Up (xsOf v) N g) A2 = false → A2 < ((A2.toNat ||| (Up (xsOf v) N g).toNat : Nat) : Int) := or_grow c2.1 u1.1
            cases hsb : PSub (Up (xsOf v) N g) A2 with
            | true =>
              have hq : c = false → O2 = O ∧ A2 = A ∧ ∀ j, j < g + 1 → (PHas O2 j = true → PSub (Up (xsOf v) N j) A2 = true) ∧ (PHas O2 j = false → meetB (Down (xsOf v) N j) A2 = false) :=
                fun hc => ⟨(hS hc).1, (hS hc).2, hgood hc (by simp [hog, hsb])⟩
              clear hgood hS hgr hup hmt
              repeat' (first | (apply br_intro <;> intro hb <;> (have hb2 := hb) <;> (try simp [-Int.not_le, -Int.not_lt, -Nat.not_le, -Nat.not_lt, -Nat.add_left_cancel_iff] at hb2)) | (refine draw_listA (by rfl) (by kernel_rfl) ?_) | (refine draw_listB (by simp [allocsOf, isAlloc]; rfl) (by kernel_rfl) ?_) | simp (maxSteps := 2000000) (disch := first | omega | assumption | simp [*]) [*, -Int.not_le, -Int.not_lt, -Nat.not_le, -Nat.not_lt, -Nat.add_left_cancel_iff, wrap_i64, wrap_u64, k1, k7, k2, k8, k9, bits_and, isI_cells hv, isI_one hv, isI_low hv, isI_len hv])
              first | exact ⟨hk1, hq⟩ | exact hq | exact ⟨hk1, fun hc => (hq hc).2.2⟩
            | false =>
              have hgr := hgr hsb
              clear hgood hS hmt
              repeat' (first | (apply br_intro <;> intro hb <;> (have hb2 := hb) <;> (try simp [-Int.not_le, -Int.not_lt, -Nat.not_le, -Nat.not_lt, -Nat.add_left_cancel_iff] at hb2)) | (refine draw_listA (by rfl) (by kernel_rfl) ?_) | (refine draw_listB (by simp [allocsOf, isAlloc]; rfl) (by kernel_rfl) ?_) | simp (maxSteps := 2000000) (disch := first | omega | assumption | simp [*]) [*, -Int.not_le, -Int.not_lt, -Nat.not_le, -Nat.not_lt, -Nat.add_left_cancel_iff, wrap_i64, wrap_u64, k1, k7, k2, k8, k9, bits_and, bits_or, isI_cells hv, isI_one hv, isI_low hv, isI_len hv])
              omega
          | false =>
            cases hmb : meetB (Down (xsOf v) N g) A2 with
            | true =>
              have hdn := arrIn_down hN8 hl o1.1 kI hg2 hmb
              have hgr := or_grow (u := 2 ^ g) c1.1 (by omega) (by rw [psub_pow c1.1]; exact hog)
              rw [pow_toNat] at hdn hgr
              have hmt2 : ¬ (Down (xsOf v) N g).toNat &&& A2.toNat = 0 := by rw [hmt, hmb]; simp
              clear hgood hS hmt hmb
              repeat' (first | (apply br_intro <;> intro hb <;> (have hb2 := hb) <;> (try simp [-Int.not_le, -Int.not_lt, -Nat.not_le, -Nat.not_lt, -Nat.add_left_cancel_iff] at hb2)) | (refine draw_listA (by rfl) (by kernel_rfl) ?_) | (refine draw_listB (by simp [allocsOf, isAlloc]; rfl) (by kernel_rfl) ?_) | simp (maxSteps := 2000000) (disch := first | omega | assumption | simp [*]) [*, -Int.not_le, -Int.not_lt, -Nat.not_le, -Nat.not_lt, -Nat.add_left_cancel_iff, wrap_i64, wrap_u64, k1, k7, k2, k8, k9, bits_and, bits_or, pow_toNat, isI_cells hv, isI_one hv, isI_low hv, isI_len hv])
              omega
            | false =>
              have hq : c = false → O2 = O ∧ A2 = A ∧ ∀ j, j < g + 1 → (PHas O2 j = true → PSub (Up (xsOf v) N j) A2 = true) ∧ (PHas O2 j = false → meetB (Down (xsOf v) N j) A2 = false) :=
                fun hc => ⟨(hS hc).1, (hS hc).2, hgood hc (by simp [hog, hmb])⟩
              have hmt2 : (Down (xsOf v) N g).toNat &&& A2.toNat = 0 := hmt.2 hmb
              clear hgood hS hmt hmb
              repeat' (first | (apply br_intro <;> intro hb <;> (have hb2 := hb) <;> (try simp [-Int.not_le, -Int.not_lt, -Nat.not_le, -Nat.not_lt, -Nat.add_left_cancel_iff] at hb2)) | (refine draw_listA (by rfl) (by kernel_rfl) ?_) | (refine draw_listB (by simp [allocsOf, isAlloc]; rfl) (by kernel_rfl) ?_) | simp (maxSteps := 2000000) (disch := first | omega | assumption | simp [*]) [*, -Int.not_le, -Int.not_lt, -Nat.not_le, -Nat.not_lt, -Nat.add_left_cancel_iff, wrap_i64, wrap_u64, k1, k7, k2, k8, k9, bits_and, isI_cells hv, isI_one hv, isI_low hv, isI_len hv])
              first | exact ⟨hk1, hq⟩ | exact hq | exact ⟨hk1, fun hc => (hq hc).2.2⟩
        · obtain rfl : g = (xsOf v).length := by omega
          have hC' : c = false → ArrC (xsOf v) N O2 A2 := fun hc => (kC hc).2.2
          clear kC
          repeat' (first | (apply br_intro <;> intro hb <;> (have hb2 := hb) <;> (try simp [-Int.not_le, -Int.not_lt, -Nat.not_le, -Nat.not_lt, -Nat.add_left_cancel_iff] at hb2)) | (refine draw_listA (by rfl) (by kernel_rfl) ?_) | (refine draw_listB (by simp [allocsOf, isAlloc]; rfl) (by kernel_rfl) ?_) | simp (maxSteps := 2000000) (disch := first | omega | assumption | simp [*]) [*, -Int.not_le, -Int.not_lt, -Nat.not_le, -Nat.not_lt, -Nat.add_left_cancel_iff, wrap_i64, wrap_u64, k1, k7, k2, k8, k9, isI_cells hv, isI_one hv, isI_low hv, isI_len hv])
          have := pset_lt hI.1
          have := pset_lt hI.2.1
          exact ⟨by omega, km, hC'⟩
    · have hz : arrO n (xsOf v) o = 0 ∧ arrA n (xsOf v) o = 0 := by simp [arrO, arrA, ho]
      obtain ⟨z1, z2⟩ := hz
      repeat' (first | (apply br_intro <;> intro hb <;> (have hb2 := hb) <;> (try simp [-Int.not_le, -Int.not_lt, -Nat.not_le, -Nat.not_lt, -Nat.add_left_cancel_iff] at hb2)) | (refine draw_listA (by rfl) (by kernel_rfl) ?_) | (refine draw_listB (by simp [allocsOf, isAlloc]; rfl) (by kernel_rfl) ?_) | simp (maxSteps := 2000000) (disch := first | omega | assumption | simp [*]) [*, -Int.not_le, -Int.not_lt, -Nat.not_le, -Nat.not_lt, -Nat.add_left_cancel_iff, wrap_i64, wrap_u64, Try.f41, isI_cells hv, isI_one hv, isI_low hv, isI_len hv])
  · have hz : arrO n (xsOf v) o = 0 ∧ arrA n (xsOf v) o = 0 := by simp [arrO, arrA, hp]
    obtain ⟨z1, z2⟩ := hz
    repeat' (first | (apply br_intro <;> intro hb <;> (have hb2 := hb) <;> (try simp [-Int.not_le, -Int.not_lt, -Nat.not_le, -Nat.not_lt, -Nat.add_left_cancel_iff] at hb2)) | (refine draw_listA (by rfl) (by kernel_rfl) ?_) | (refine draw_listB (by simp [allocsOf, isAlloc]; rfl) (by kernel_rfl) ?_) | simp (maxSteps := 2000000) (disch := first | omega | assumption | simp [*]) [*, -Int.not_le, -Int.not_lt, -Nat.not_le, -Nat.not_lt, -Nat.add_left_cancel_iff, wrap_i64, wrap_u64, Try.f41, isI_cells hv, isI_one hv, isI_low hv, isI_len hv])
theorem sArrowClosure_s {n o : Int} {v : AV} (hv : IsI v) {K : AV → Prop} {tg : Tg K} : CW env 41 [.agg [.int .i64 n, v], .int .i64 o] K tg ↔ K (.tup [.int .i64 (arrO n (xsOf v) o), .int .i64 (arrA n (xsOf v) o), .bool (decide (PCtx n (xsOf v)) && PSet (xsOf v).length o)]) := callsTo_iff (sArrowClosure_c hv)
attribute [simp] sArrowClosure_s
theorem lawArrowClosure_c {n o : Int} {v : AV} (hv : IsI v) : EvC env 9 [.agg [.int .i64 n, v], .int .i64 o] (.bool true) := by
  refine evC_of (F := Try.f9) rfl rfl (Nat.le_of_ble_eq_true rfl) ?_
  have := hv.len
  repeat' (first | (apply br_intro <;> intro hb <;> (have hb2 := hb) <;> (try simp [-Int.not_le, -Int.not_lt, -Nat.not_le, -Nat.not_lt, -Nat.add_left_cancel_iff] at hb2)) | (refine draw_listA (by rfl) (by kernel_rfl) ?_) | (refine draw_listB (by simp [allocsOf, isAlloc]; rfl) (by kernel_rfl) ?_) | simp (maxSteps := 2000000) (disch := first | omega | assumption | simp [*]) [*, -Int.not_le, -Int.not_lt, -Nat.not_le, -Nat.not_lt, -Nat.add_left_cancel_iff, wrap_i64, wrap_u64, Try.f9, isI_cells hv, isI_one hv, isI_low hv])
theorem lawArrowClosure_s {n o : Int} {v : AV} (hv : IsI v) {K : AV → Prop} {tg : Tg K} : CW env 9 [.agg [.int .i64 n, v], .int .i64 o] K tg ↔ K (.bool true) := callsTo_iff (lawArrowClosure_c hv)
attribute [simp] lawArrowClosure_s
end Go.Proofs.Ytemmdkeehkehcaa
