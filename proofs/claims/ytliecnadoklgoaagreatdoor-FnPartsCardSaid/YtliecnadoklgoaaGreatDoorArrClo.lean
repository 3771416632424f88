/- XArrClo XArrClo2, joined. Conditions: none. -/
import Derived.Test.YtliecnadoklgoaaGreatDoorArrow
/- What is closed under arrows. Conditions: none. -/
namespace Go.Proofs.YtliecnadoklgoaaGreatDoor
open Ev
set_option linter.unusedVariables false
set_option linter.unusedSimpArgs false
set_option maxHeartbeats 4000000

theorem up_pset (xs : List Int) {N : Nat} (g : Nat) (h : N ≤ 8) : PSet N (Up xs N g) = true := setOf_pset _ h
theorem down_pset (xs : List Int) {N : Nat} (g : Nat) (h : N ≤ 8) : PSet N (Down xs N g) = true := setOf_pset _ h
def meetB (s t : Int) : Bool := decide (s.toNat &&& t.toNat ≠ 0)
theorem meetB_iff {s t : Int} (hs : 0 ≤ s) (ht : 0 ≤ t) : meetB s t = true ↔ ∃ i : Nat, PHas s i = true ∧ PHas t i = true := by
  simp only [meetB, decide_eq_true_eq, phas_nat hs, phas_nat ht]
  constructor
  · intro h
    apply Classical.byContradiction
    intro hn
    apply h
    apply Nat.eq_of_testBit_eq
    intro i
    rw [Nat.testBit_and, Nat.zero_testBit]
    cases h1 : s.toNat.testBit i with
    | false => rfl
    | true =>
      cases h2 : t.toNat.testBit i with
      | false => rfl
      | true => exact (hn ⟨i, h1, h2⟩).elim
  · rintro ⟨i, h1, h2⟩ h
    have := congrArg (fun x => Nat.testBit x i) h
    simp [Nat.testBit_and, h1, h2] at this
def pulA (xs : List Int) (N : Nat) (o a : Int) : Int := setOf (fun m => PHas a m || (List.range 8).any fun g => PHas o g && upP xs N g m) N
def pulO (xs : List Int) (N : Nat) (o a : Int) : Int := setOf (fun g => PHas o g || meetB (Down xs N g) a) xs.length
theorem pulled_c {N : Nat} {o a : Int} {v : AV} (hv : IsI v) (hc : PCtx N (xsOf v)) (ho : PSet (xsOf v).length o = true) (ha : PSet N a = true) : EvC env 117 [.agg [.int .i64 N, v], .int .i64 o, .int .i64 a] (.tup [.int .i64 (pulO (xsOf v) N o (pulA (xsOf v) N o a)), .int .i64 (pulA (xsOf v) N o a)]) := by
  refine evC_of (F := Tryz.f117) rfl rfl (Nat.le_of_ble_eq_true rfl) ?_
  have hl := hc.2.2.1
  have hn := hc.2.1
  have hN8 : N ≤ 8 := by omega
  have ho8 := pset8 ho
  have o1 := pset_lt ho
  have hE : IsI (bufC 1 (elemsTo o 8)) := isI_bufC (Nat.le_trans (elemsTo_len _ _) (by decide))
  have he := elems_nat o
  repeat' (first | (apply brI <;> intro hb hb2 <;> (try simp [-Int.not_le, -Int.not_lt, -Nat.not_le, -Nat.not_lt, -Nat.add_left_cancel_iff] at hb2)) | (refine draw_listA (by rfl) (by kernel_rfl) ?_) | (refine draw_listB (by simp [allocsOf, isAlloc]; rfl) (by kernel_rfl) ?_) | simp (maxSteps := 2000000) (disch := first | omega | assumption | simp [*]) [*, -Int.not_le, -Int.not_lt, -Nat.not_le, -Nat.not_lt, -Nat.add_left_cancel_iff, wrap_i64, wrap_u64, Tryz.f117, isI_cells hv, isI_one hv, isI_low hv, isI_len hv, isI_len hE])
  refine W_loopP (elemsTo o 8).length (fun j s => s 14 = .int .i64 j ∧ s 13 = .int .i64 (elemsTo o 8).length ∧ s 12 = bufC 1 (elemsTo o 8) ∧ s 1 = .int .i64 o ∧ s 3 = .vp 3 0 0 ∧
    s 2 = .int .i64 (setOf (fun m => PHas a m || ((elemsTo o 8).take j).any fun e => upP (xsOf v) N e.toNat m) N)) rfl ?_ ?_
  · simp
    exact setOf_self ha
  rintro j s hj ⟨h14, h13, h12, h1, h3, h2⟩
  by_cases hj2 : j < (elemsTo o 8).length
  · obtain ⟨g, hg, hg8, _, hgp⟩ := mem_elems hj2
    have hgl := phas_lt ho hgp
    have hgl2 : g < (xsOf v).length := by omega
    have htk : (elemsTo o 8).take (j + 1) = (elemsTo o 8).take j ++ [(g : Int)] := by rw [List.take_add_one, nth_get? hj2, hg]; rfl
    have r1 := setOf_range (fun m => PHas a m || ((elemsTo o 8).take j).any fun e => upP (xsOf v) N e.toNat m) N
    have r2 := setOf_small (fun m => PHas a m || ((elemsTo o 8).take j).any fun e => upP (xsOf v) N e.toNat m) hN8
    have u1 := pset_lt (up_pset (xsOf v) g hN8)
    have hor := setOf_orr (fun m => PHas a m || ((elemsTo o 8).take j).any fun e => upP (xsOf v) N e.toNat m) (upP (xsOf v) N g) N
    rw [show setOf (upP (xsOf v) N g) N = Up (xsOf v) N g from rfl] at hor
    repeat' (first | (apply brI <;> intro hb hb2 <;> (try simp [-Int.not_le, -Int.not_lt, -Nat.not_le, -Nat.not_lt, -Nat.add_left_cancel_iff] at hb2)) | (refine draw_listA (by rfl) (by kernel_rfl) ?_) | (refine draw_listB (by simp [allocsOf, isAlloc]; rfl) (by kernel_rfl) ?_) | simp (maxSteps := 2000000) (disch := first | omega | assumption | simp [*]) [*, -Int.not_le, -Int.not_lt, -Nat.not_le, -Nat.not_lt, -Nat.add_left_cancel_iff, wrap_i64, wrap_u64, h14, h13, h12, h1, h3, h2, bits_or, isI_cells hv, isI_one hv, isI_low hv, isI_len hv, isI_len hE, isI_index hE, isI_load hE])
    all_goals (refine setOf_congr fun m _ => ?_; simp [Bool.or_assoc])
  · obtain rfl : j = (elemsTo o 8).length := by omega
    have hA : setOf (fun m => PHas a m || ((elemsTo o 8).take (elemsTo o 8).length).any fun e => upP (xsOf v) N e.toNat m) N = pulA (xsOf v) N o a := by
      refine setOf_congr fun m _ => ?_
      rw [List.take_length, elems_any ho8 fun g => upP (xsOf v) N g m]
    rw [hA] at h2
    have a1 : 0 ≤ pulA (xsOf v) N o a ∧ pulA (xsOf v) N o a < 256 := ⟨(setOf_range _ _).1, setOf_small _ hN8⟩
    generalize pulA (xsOf v) N o a = A at *
    repeat' (first | (apply brI <;> intro hb hb2 <;> (try simp [-Int.not_le, -Int.not_lt, -Nat.not_le, -Nat.not_lt, -Nat.add_left_cancel_iff] at hb2)) | (refine draw_listA (by rfl) (by kernel_rfl) ?_) | (refine draw_listB (by simp [allocsOf, isAlloc]; rfl) (by kernel_rfl) ?_) | simp (maxSteps := 2000000) (disch := first | omega | assumption | simp [*]) [*, -Int.not_le, -Int.not_lt, -Nat.not_le, -Nat.not_lt, -Nat.add_left_cancel_iff, wrap_i64, wrap_u64, h14, h13, h12, h1, h3, h2, isI_cells hv, isI_one hv, isI_low hv, isI_len hv, isI_len hE])
    refine W_loopP (xsOf v).length (fun i s => s 27 = .int .i64 i ∧ s 26 = .int .i64 (xsOf v).length ∧ s 3 = .vp 3 0 0 ∧ s 2 = .int .i64 A ∧ s 1 = .int .i64 (setOf (fun g => PHas o g || decide (g < i) && meetB (Down (xsOf v) N g) A) (xsOf v).length)) rfl ?_ ?_
    · simp [*]
      exact setOf_self ho
    rintro i s hi ⟨h27, h26, h3, h2, h1⟩
    by_cases hi2 : i < (xsOf v).length
    · have r1 := setOf_range (fun g => PHas o g || decide (g < i) && meetB (Down (xsOf v) N g) A) (xsOf v).length
      have r2 := setOf_small (fun g => PHas o g || decide (g < i) && meetB (Down (xsOf v) N g) A) hl
      have d1 := pset_lt (down_pset (xsOf v) i hN8)
      have hp := pow_small (i := i) (by omega)
      have hps := setOf_self (pset_pow (by omega) hi2)
      have hor := setOf_orr (fun g => PHas o g || decide (g < i) && meetB (Down (xsOf v) N g) A) (fun g => PHas (2 ^ i) g) (xsOf v).length
      rw [← hps, pow_toNat] at hor
      clear hps
      have hm : meetB (Down (xsOf v) N i) A = decide ((Down (xsOf v) N i).toNat &&& A.toNat ≠ 0) := rfl
      repeat' (first | (apply brI <;> intro hb hb2 <;> (try simp [-Int.not_le, -Int.not_lt, -Nat.not_le, -Nat.not_lt, -Nat.add_left_cancel_iff] at hb2)) | (refine draw_listA (by rfl) (by kernel_rfl) ?_) | (refine draw_listB (by simp [allocsOf, isAlloc]; rfl) (by kernel_rfl) ?_) | simp (maxSteps := 2000000) (disch := first | omega | assumption | simp [*]) [*, -Int.not_le, -Int.not_lt, -Nat.not_le, -Nat.not_lt, -Nat.add_left_cancel_iff, wrap_i64, wrap_u64, h27, h26, h3, h2, h1, bits_or, bits_and, pow_toNat, isI_cells hv, isI_one hv, isI_low hv, isI_len hv])
      all_goals
        refine setOf_congr fun g _ => ?_
        try rw [phas_pow]
        by_cases e : g = i
        · subst e; simp_all
        · have e2 : g < i + 1 ↔ g < i := by omega
          simp [e, e2]
    · obtain rfl : i = (xsOf v).length := by omega
      repeat' (first | (apply brI <;> intro hb hb2 <;> (try simp [-Int.not_le, -Int.not_lt, -Nat.not_le, -Nat.not_lt, -Nat.add_left_cancel_iff] at hb2)) | (refine draw_listA (by rfl) (by kernel_rfl) ?_) | (refine draw_listB (by simp [allocsOf, isAlloc]; rfl) (by kernel_rfl) ?_) | simp (maxSteps := 2000000) (disch := first | omega | assumption | simp [*]) [*, -Int.not_le, -Int.not_lt, -Nat.not_le, -Nat.not_lt, -Nat.add_left_cancel_iff, wrap_i64, wrap_u64, h27, h26, h3, h2, h1])
      exact setOf_congr fun g hg => by simp [hg]
theorem pulled_s {N : Nat} {o a : Int} {v : AV} (hv : IsI v) (hc : PCtx N (xsOf v)) (ho : PSet (xsOf v).length o = true) (ha : PSet N a = true) {K : AV → Prop} {tg : Tg K} : CW env 117 [.agg [.int .i64 N, v], .int .i64 o, .int .i64 a] K tg ↔ K (.tup [.int .i64 (pulO (xsOf v) N o (pulA (xsOf v) N o a)), .int .i64 (pulA (xsOf v) N o a)]) := callsTo_iff (pulled_c hv hc ho ha)
attribute [simp] pulled_s
def ArrC (xs : List Int) (N : Nat) (o a : Int) : Prop := ∀ g, g < xs.length → (PHas o g = true → PSub (Up xs N g) a = true) ∧ (PHas o g = false → meetB (Down xs N g) a = false)
theorem arrC_pul {xs : List Int} {N : Nat} {o a : Int} (hN : N ≤ 8) (hl : xs.length ≤ 8) (ho : PSet xs.length o = true) (ha : PSet N a = true) : (pulO xs N o (pulA xs N o a) = o ∧ pulA xs N o a = a) ↔ ArrC xs N o a := by
  have a1 := pset_lt ha
  have e1 : pulA xs N o a = a ↔ ∀ g, g < xs.length → PHas o g = true → PSub (Up xs N g) a = true := by
    have hs : pulA xs N o a = a ↔ pulA xs N o a = setOf (fun m => PHas a m) N := by rw [← setOf_self ha]
    rw [hs]
    constructor
    · intro h g hg hog
      rw [psub_iff (up_pset xs g hN) a1.1]
      intro m hm hu
      have := setOf_inj h m hm
      unfold Up at hu
      rw [setOf_has] at hu
      simp only [Bool.and_eq_true] at hu
      cases hx : PHas a m with
      | true => rfl
      | false =>
        rw [hx, Bool.false_or] at this
        have h2 : ((List.range 8).any fun g => PHas o g && upP xs N g m) = true := List.any_eq_true.2 ⟨g, List.mem_range.2 (by omega), by simp [hog, hu.2]⟩
        rw [this] at h2; cases h2
    · intro h
      refine setOf_congr fun m hm => ?_
      rw [Bool.eq_iff_iff]
      simp only [Bool.or_eq_true, List.any_eq_true, List.mem_range, Bool.and_eq_true]
      constructor
      · rintro (h1 | ⟨g, hg, h1, h2⟩)
        · exact h1
        · have hgl := phas_lt ho h1
          have := h g (by omega) h1
          rw [psub_iff (up_pset xs g hN) a1.1] at this
          exact this m hm (by unfold Up; rw [setOf_has]; simp [hm, h2])
      · exact .inl
  have e2 : pulO xs N o a = o ↔ ∀ g, g < xs.length → PHas o g = false → meetB (Down xs N g) a = false := by
    have hs : pulO xs N o a = o ↔ pulO xs N o a = setOf (fun m => PHas o m) xs.length := by rw [← setOf_self ho]
    rw [hs]
    constructor
    · intro h g hg hog
      have := setOf_inj h g hg
      rw [hog] at this; simpa using this
    · intro h
      refine setOf_congr fun g hg => ?_
      cases hog : PHas o g with
      | true => rfl
      | false => simp [h g hg hog]
  constructor
  · rintro ⟨h1, h2⟩
    rw [h2] at h1
    exact fun g hg => ⟨e1.1 h2 g hg, e2.1 h1 g hg⟩
  · intro h
    have h2 := e1.2 fun g hg => (h g hg).1
    rw [h2]
    exact ⟨e2.2 fun g hg => (h g hg).2, rfl⟩
def ArrP (n : Int) (xs : List Int) (o a : Int) : Prop := PCtx n xs ∧ PSet xs.length o = true ∧ PSet n a = true ∧ ArrC xs n.toNat o a
noncomputable instance (n : Int) (xs : List Int) (a b : Int) : Decidable (ArrP n xs a b) := Classical.propDecidable _
theorem iArrClosed_c {n o a : Int} {v : AV} (hv : IsI v) : EvC env 31 [.agg [.int .i64 n, v], .int .i64 o, .int .i64 a] (.bool (decide (ArrP n (xsOf v) o a))) := by
  refine evC_of (F := Tryz.f31) rfl rfl (Nat.le_of_ble_eq_true rfl) ?_
  by_cases hp : PCtx n (xsOf v)
  · by_cases ho : PSet (xsOf v).length o = true
    · by_cases ha : PSet n a = true
      · obtain ⟨N, rfl⟩ : ∃ N : Nat, n = N := ⟨n.toNat, by have := hp.1; omega⟩
        have hN8 : N ≤ 8 := by have := hp.2.1; omega
        have hq := arrC_pul (xs := xsOf v) hN8 hp.2.2.1 ho ha
        have hq2 : ArrP N (xsOf v) o a ↔ (pulO (xsOf v) N o (pulA (xsOf v) N o a) = o ∧ pulA (xsOf v) N o a = a) := by
          rw [hq]; exact ⟨fun h => h.2.2.2, fun h => ⟨hp, ho, ha, h⟩⟩
        clear hq
        repeat' (first | (apply brI <;> intro hb hb2 <;> (try simp [-Int.not_le, -Int.not_lt, -Nat.not_le, -Nat.not_lt, -Nat.add_left_cancel_iff] at hb2)) | (refine draw_listA (by rfl) (by kernel_rfl) ?_) | (refine draw_listB (by simp [allocsOf, isAlloc]; rfl) (by kernel_rfl) ?_) | simp (maxSteps := 2000000) (disch := first | omega | assumption | simp [*]) [*, -Int.not_le, -Int.not_lt, -Nat.not_le, -Nat.not_lt, -Nat.add_left_cancel_iff, wrap_i64, wrap_u64, Tryz.f31, isI_cells hv, isI_one hv, isI_low hv, isI_len hv])
        all_goals simp_all
      · have hc : ¬ ArrP n (xsOf v) o a := fun h => ha h.2.2.1
        repeat' (first | (apply brI <;> intro hb hb2 <;> (try simp [-Int.not_le, -Int.not_lt, -Nat.not_le, -Nat.not_lt, -Nat.add_left_cancel_iff] at hb2)) | (refine draw_listA (by rfl) (by kernel_rfl) ?_) | (refine draw_listB (by simp [allocsOf, isAlloc]; rfl) (by kernel_rfl) ?_) | simp (maxSteps := 2000000) (disch := first | omega | assumption | simp [*]) [*, -Int.not_le, -Int.not_lt, -Nat.not_le, -Nat.not_lt, -Nat.add_left_cancel_iff, wrap_i64, wrap_u64, Tryz.f31, isI_cells hv, isI_one hv, isI_low hv, isI_len hv])
    · have hc : ¬ ArrP n (xsOf v) o a := fun h => ho h.2.1
      repeat' (first | (apply brI <;> intro hb hb2 <;> (try simp [-Int.not_le, -Int.not_lt, -Nat.not_le, -Nat.not_lt, -Nat.add_left_cancel_iff] at hb2)) | (refine draw_listA (by rfl) (by kernel_rfl) ?_) | (refine draw_listB (by simp [allocsOf, isAlloc]; rfl) (by kernel_rfl) ?_) | simp (maxSteps := 2000000) (disch := first | omega | assumption | simp [*]) [*, -Int.not_le, -Int.not_lt, -Nat.not_le, -Nat.not_lt, -Nat.add_left_cancel_iff, wrap_i64, wrap_u64, Tryz.f31, isI_cells hv, isI_one hv, isI_low hv, isI_len hv])
  · have hc : ¬ ArrP n (xsOf v) o a := fun h => hp h.1
    repeat' (first | (apply brI <;> intro hb hb2 <;> (try simp [-Int.not_le, -Int.not_lt, -Nat.not_le, -Nat.not_lt, -Nat.add_left_cancel_iff] at hb2)) | (refine draw_listA (by rfl) (by kernel_rfl) ?_) | (refine draw_listB (by simp [allocsOf, isAlloc]; rfl) (by kernel_rfl) ?_) | simp (maxSteps := 2000000) (disch := first | omega | assumption | simp [*]) [*, -Int.not_le, -Int.not_lt, -Nat.not_le, -Nat.not_lt, -Nat.add_left_cancel_iff, wrap_i64, wrap_u64, Tryz.f31, isI_cells hv, isI_one hv, isI_low hv, isI_len hv])
theorem iArrClosed_s {n o a : Int} {v : AV} (hv : IsI v) {K : AV → Prop} {tg : Tg K} : CW env 31 [.agg [.int .i64 n, v], .int .i64 o, .int .i64 a] K tg ↔ K (.bool (decide (ArrP n (xsOf v) o a))) := callsTo_iff (iArrClosed_c hv)
attribute [simp] iArrClosed_s
theorem sArrClosed_c {n o a : Int} {v : AV} (hv : IsI v) : EvC env 39 [.agg [.int .i64 n, v], .int .i64 o, .int .i64 a] (.bool (decide (ArrP n (xsOf v) o a))) := by
  refine evC_of (F := Tryz.f39) rfl rfl (Nat.le_of_ble_eq_true rfl) ?_
  by_cases hp : PCtx n (xsOf v)
  · by_cases ho : PSet (xsOf v).length o = true
    · by_cases ha : PSet n a = true
      · obtain ⟨N, rfl⟩ : ∃ N : Nat, n = N := ⟨n.toNat, by have := hp.1; omega⟩
        have hl := hp.2.2.1
        have hN8 : N ≤ 8 := by have := hp.2.1; omega
        have o1 := pset_lt ho
        have a1 := pset_lt ha
        repeat' (first | (apply brI <;> intro hb hb2 <;> (try simp [-Int.not_le, -Int.not_lt, -Nat.not_le, -Nat.not_lt, -Nat.add_left_cancel_iff] at hb2)) | (refine draw_listA (by rfl) (by kernel_rfl) ?_) | (refine draw_listB (by simp [allocsOf, isAlloc]; rfl) (by kernel_rfl) ?_) | simp (maxSteps := 2000000) (disch := first | omega | assumption | simp [*]) [*, -Int.not_le, -Int.not_lt, -Nat.not_le, -Nat.not_lt, -Nat.add_left_cancel_iff, wrap_i64, wrap_u64, Tryz.f39, isI_cells hv, isI_one hv, isI_low hv, isI_len hv])
        refine W_loopP (xsOf v).length (fun i s => s 7 = .int .i64 i ∧ s 1 = .int .i64 o ∧ s 2 = .int .i64 a ∧ s 3 = .vp 3 0 0 ∧ ∀ g, g < i → (PHas o g = true → PSub (Up (xsOf v) N g) a = true) ∧ (PHas o g = false → meetB (Down (xsOf v) N g) a = false)) rfl ?_ ?_
        · simp
        rintro i s hi ⟨h7, h1, h2, h3, hj⟩
        by_cases hi2 : i < (xsOf v).length
        · have u1 := pset_lt (up_pset (xsOf v) i hN8)
          have d1 := pset_lt (down_pset (xsOf v) i hN8)
          have hsub := psub_and (t := a) u1.1
          have hm : meetB (Down (xsOf v) N i) a = decide ((Down (xsOf v) N i).toNat &&& a.toNat ≠ 0) := rfl
          have hbad : ¬ ((PHas o i = true → PSub (Up (xsOf v) N i) a = true) ∧ (PHas o i = false → meetB (Down (xsOf v) N i) a = false)) → ¬ ArrP N (xsOf v) o a := fun h h2 => h (h2.2.2.2 i hi2)
          have hgood : ((PHas o i = true → PSub (Up (xsOf v) N i) a = true) ∧ (PHas o i = false → meetB (Down (xsOf v) N i) a = false)) → ∀ g, g < i + 1 → (PHas o g = true → PSub (Up (xsOf v) N g) a = true) ∧ (PHas o g = false → meetB (Down (xsOf v) N g) a = false) := fun h g hg => by
            by_cases e : g = i
            · subst e; exact h
            · exact hj g (by omega)
          clear hj
          repeat' (first | (apply brI <;> intro hb hb2 <;> (try simp [-Int.not_le, -Int.not_lt, -Nat.not_le, -Nat.not_lt, -Nat.add_left_cancel_iff] at hb2)) | (refine draw_listA (by rfl) (by kernel_rfl) ?_) | (refine draw_listB (by simp [allocsOf, isAlloc]; rfl) (by kernel_rfl) ?_) | simp (maxSteps := 2000000) (disch := first | omega | assumption | simp [*]) [*, -Int.not_le, -Int.not_lt, -Nat.not_le, -Nat.not_lt, -Nat.add_left_cancel_iff, wrap_i64, wrap_u64, h7, h1, h2, h3, bits_and, isI_cells hv, isI_one hv, isI_low hv, isI_len hv])
          all_goals first | (apply hbad; simp_all; done) | (apply hgood; simp_all; done) | skip
        · obtain rfl : i = (xsOf v).length := by omega
          repeat' (first | (apply brI <;> intro hb hb2 <;> (try simp [-Int.not_le, -Int.not_lt, -Nat.not_le, -Nat.not_lt, -Nat.add_left_cancel_iff] at hb2)) | (refine draw_listA (by rfl) (by kernel_rfl) ?_) | (refine draw_listB (by simp [allocsOf, isAlloc]; rfl) (by kernel_rfl) ?_) | simp (maxSteps := 2000000) (disch := first | omega | assumption | simp [*]) [*, -Int.not_le, -Int.not_lt, -Nat.not_le, -Nat.not_lt, -Nat.add_left_cancel_iff, wrap_i64, wrap_u64, h7, h1, h2, h3, isI_cells hv, isI_one hv, isI_low hv, isI_len hv])
          exact ⟨hp, ho, ha, hj⟩
      · have hc : ¬ ArrP n (xsOf v) o a := fun h => ha h.2.2.1
        repeat' (first | (apply brI <;> intro hb hb2 <;> (try simp [-Int.not_le, -Int.not_lt, -Nat.not_le, -Nat.not_lt, -Nat.add_left_cancel_iff] at hb2)) | (refine draw_listA (by rfl) (by kernel_rfl) ?_) | (refine draw_listB (by simp [allocsOf, isAlloc]; rfl) (by kernel_rfl) ?_) | simp (maxSteps := 2000000) (disch := first | omega | assumption | simp [*]) [*, -Int.not_le, -Int.not_lt, -Nat.not_le, -Nat.not_lt, -Nat.add_left_cancel_iff, wrap_i64, wrap_u64, Tryz.f39, isI_cells hv, isI_one hv, isI_low hv, isI_len hv])
    · have hc : ¬ ArrP n (xsOf v) o a := fun h => ho h.2.1
      repeat' (first | (apply brI <;> intro hb hb2 <;> (try simp [-Int.not_le, -Int.not_lt, -Nat.not_le, -Nat.not_lt, -Nat.add_left_cancel_iff] at hb2)) | (refine draw_listA (by rfl) (by kernel_rfl) ?_) | (refine draw_listB (by simp [allocsOf, isAlloc]; rfl) (by kernel_rfl) ?_) | simp (maxSteps := 2000000) (disch := first | omega | assumption | simp [*]) [*, -Int.not_le, -Int.not_lt, -Nat.not_le, -Nat.not_lt, -Nat.add_left_cancel_iff, wrap_i64, wrap_u64, Tryz.f39, isI_cells hv, isI_one hv, isI_low hv, isI_len hv])
  · have hc : ¬ ArrP n (xsOf v) o a := fun h => hp h.1
    repeat' (first | (apply brI <;> intro hb hb2 <;> (try simp [-Int.not_le, -Int.not_lt, -Nat.not_le, -Nat.not_lt, -Nat.add_left_cancel_iff] at hb2)) | (refine draw_listA (by rfl) (by kernel_rfl) ?_) | (refine draw_listB (by simp [allocsOf, isAlloc]; rfl) (by kernel_rfl) ?_) | simp (maxSteps := 2000000) (disch := first | omega | assumption | simp [*]) [*, -Int.not_le, -Int.not_lt, -Nat.not_le, -Nat.not_lt, -Nat.add_left_cancel_iff, wrap_i64, wrap_u64, Tryz.f39, isI_cells hv, isI_one hv, isI_low hv, isI_len hv])
theorem sArrClosed_s {n o a : Int} {v : AV} (hv : IsI v) {K : AV → Prop} {tg : Tg K} : CW env 39 [.agg [.int .i64 n, v], .int .i64 o, .int .i64 a] K tg ↔ K (.bool (decide (ArrP n (xsOf v) o a))) := callsTo_iff (sArrClosed_c hv)
attribute [simp] sArrClosed_s
end Go.Proofs.YtliecnadoklgoaaGreatDoor
/- The least set that is closed under arrows. Conditions: none. -/
namespace Go.Proofs.YtliecnadoklgoaaGreatDoor
open Ev
set_option linter.unusedVariables false
set_option linter.unusedSimpArgs false
set_option maxHeartbeats 4000000

def ArrLB (xs : List Int) (N : Nat) (o O A : Int) : Prop := ∀ O' A', PSet xs.length O' = true → PSet N A' = true → PSub o O' = true → ArrC xs N O' A' → PSub O O' = true ∧ PSub A A' = true
def ArrIn (xs : List Int) (N : Nat) (o O A : Int) : Prop := PSet xs.length O = true ∧ PSet N A = true ∧ PSub o O = true ∧ ArrLB xs N o O A
def ArrLeast (xs : List Int) (N : Nat) (o : Int) (p : Int × Int) : Prop := ArrIn xs N o p.1 p.2 ∧ ArrC xs N p.1 p.2
open Classical in
noncomputable def arrV (xs : List Int) (N : Nat) (o : Int) : Int × Int := if h : ∃ p, ArrLeast xs N o p then Classical.choose h else (0, 0)
theorem arrV_eq {xs : List Int} {N : Nat} {o O A : Int} (h : ArrIn xs N o O A) (hc : ArrC xs N O A) : arrV xs N o = (O, A) := by
  have he : ∃ p, ArrLeast xs N o p := ⟨(O, A), h, hc⟩
  unfold arrV
  rw [dif_pos he]
  obtain ⟨⟨h1, h2, h3, h4⟩, h5⟩ := Classical.choose_spec he
  obtain ⟨g1, g2, g3, g4⟩ := h
  have a := h4 O A g1 g2 g3 hc
  have b := g4 _ _ h1 h2 h3 h5
  have e1 := psub_antisymm (pset_lt h1).1 (pset_lt g1).1 a.1 b.1
  have e2 := psub_antisymm (pset_lt h2).1 (pset_lt g2).1 a.2 b.2
  exact Prod.ext e1 e2
theorem psub_orL {a b : Int} (ha : 0 ≤ a) (hb : 0 ≤ b) : PSub a ((a.toNat ||| b.toNat : Nat) : Int) = true := by
  rw [psub_all ha (Int.natCast_nonneg _)]
  intro i hi; rw [phas_or ha hb, hi]; rfl
theorem psub_orI {a b c : Int} (ha : 0 ≤ a) (hb : 0 ≤ b) (hc : 0 ≤ c) (h1 : PSub a c = true) (h2 : PSub b c = true) : PSub ((a.toNat ||| b.toNat : Nat) : Int) c = true := by
  rw [psub_all ha hc] at h1
  rw [psub_all hb hc] at h2
  rw [psub_all (Int.natCast_nonneg _) hc]
  intro i hi
  rw [phas_or ha hb, Bool.or_eq_true] at hi
  exact hi.elim (h1 i) (h2 i)
theorem psub_pow {g : Nat} {o : Int} (ho : 0 ≤ o) : PSub (2 ^ g) o = PHas o g := by
  rw [Bool.eq_iff_iff, psub_all (Int.le_of_lt (pow_pos2 g)) ho]
  constructor
  · intro h; exact h g (by rw [phas_pow]; simp)
  · intro h i hi; rw [phas_pow] at hi; simp at hi; subst hi; exact h
/-- one step up: the attributes of a chosen object's arrows -/
theorem arrIn_up {xs : List Int} {N : Nat} {o O A : Int} {g : Nat} (hN : N ≤ 8) (h : ArrIn xs N o O A) (hg : g < xs.length) (hog : PHas O g = true) : ArrIn xs N o O ((A.toNat ||| (Up xs N g).toNat : Nat) : Int) := by
  obtain ⟨h1, h2, h3, h4⟩ := h
  refine ⟨h1, pset_or h2 (up_pset xs g hN), h3, fun O' A' q1 q2 q3 q4 => ?_⟩
  obtain ⟨a, b⟩ := h4 O' A' q1 q2 q3 q4
  have hg' : PHas O' g = true := (psub_all (pset_lt h1).1 (pset_lt q1).1).1 a g hog
  exact ⟨a, psub_orI (pset_lt h2).1 (pset_lt (up_pset xs g hN)).1 (pset_lt q2).1 b ((q4 g hg).1 hg')⟩
theorem arrIn_down {xs : List Int} {N : Nat} {o O A : Int} {g : Nat} (hN : N ≤ 8) (hl : xs.length ≤ 8) (ho : 0 ≤ o) (h : ArrIn xs N o O A) (hg : g < xs.length) (hm : meetB (Down xs N g) A = true) : ArrIn xs N o ((O.toNat ||| ((2 : Int) ^ g).toNat : Nat) : Int) A := by
  obtain ⟨h1, h2, h3, h4⟩ := h
  have hp := pset_pow hl hg
  refine ⟨pset_or h1 hp, h2, psub_trans ho (pset_lt h1).1 (Int.natCast_nonneg _) h3 (psub_orL (pset_lt h1).1 (pset_lt hp).1), fun O' A' q1 q2 q3 q4 => ?_⟩
  obtain ⟨a, b⟩ := h4 O' A' q1 q2 q3 q4
  have hg' : PHas O' g = true := by
    cases hx : PHas O' g with
    | true => rfl
    | false =>
      have h5 := (q4 g hg).2 hx
      have d := (pset_lt (down_pset xs g hN)).1
      rw [meetB_iff d (pset_lt h2).1] at hm
      obtain ⟨i, i1, i2⟩ := hm
      have : meetB (Down xs N g) A' = true := (meetB_iff d (pset_lt q2).1).2 ⟨i, i1, (psub_all (pset_lt h2).1 (pset_lt q2).1).1 b i i2⟩
      rw [h5] at this; cases this
  exact ⟨psub_orI (pset_lt h1).1 (pset_lt hp).1 (pset_lt q1).1 a (by rw [psub_pow (pset_lt q1).1]; exact hg'), b⟩
/-- a round of the program -/
theorem arrIn_pul {xs : List Int} {N : Nat} {o O A : Int} (hN : N ≤ 8) (hl : xs.length ≤ 8) (ho : 0 ≤ o) (h : ArrIn xs N o O A) (hc : ¬ ArrC xs N O A) : ArrIn xs N o (pulO xs N O (pulA xs N O A)) (pulA xs N O A) ∧ O + A < pulO xs N O (pulA xs N O A) + pulA xs N O A := by
  obtain ⟨h1, h2, h3, h4⟩ := h
  have p1 := (pset_lt h1).1
  have p2 := (pset_lt h2).1
  have hA : PSet N (pulA xs N O A) = true := setOf_pset _ hN
  have hO : PSet xs.length (pulO xs N O (pulA xs N O A)) = true := setOf_pset _ hl
  have a1 := (pset_lt hA).1
  have o1 := (pset_lt hO).1
  have sA : PSub A (pulA xs N O A) = true := by
    rw [psub_iff h2 a1]
    intro i hi h; unfold pulA; rw [setOf_has]; simp [hi, h]
  have sO : PSub O (pulO xs N O (pulA xs N O A)) = true := by
    rw [psub_iff h1 o1]
    intro i hi h; unfold pulO; rw [setOf_has]; simp [hi, h]
  refine ⟨⟨hO, hA, psub_trans ho p1 o1 h3 sO, fun O' A' q1 q2 q3 q4 => ?_⟩, ?_⟩
  · obtain ⟨a, b⟩ := h4 O' A' q1 q2 q3 q4
    have z1 := (pset_lt q1).1
    have z2 := (pset_lt q2).1
    have tA : PSub (pulA xs N O A) A' = true := by
      rw [psub_iff hA z2]
      intro m hm hp
      unfold pulA at hp
      rw [setOf_has] at hp
      simp only [Bool.and_eq_true, Bool.or_eq_true, List.any_eq_true, List.mem_range] at hp
      rcases hp.2 with hp | ⟨g, _, hg1, hg2⟩
      · exact (psub_iff h2 z2).1 b m hm hp
      · have hgl := phas_lt h1 hg1
        have := (q4 g (by omega)).1 ((psub_all p1 z1).1 a g hg1)
        rw [psub_iff (up_pset xs g hN) z2] at this
        exact this m hm (by unfold Up; rw [setOf_has]; simp [hm, hg2])
    refine ⟨?_, tA⟩
    rw [psub_iff hO z1]
    intro g hg hp
    unfold pulO at hp
    rw [setOf_has] at hp
    simp only [Bool.and_eq_true, Bool.or_eq_true] at hp
    rcases hp.2 with hp | hp
    · exact (psub_all p1 z1).1 a g hp
    · cases hx : PHas O' g with
      | true => rfl
      | false =>
        have h5 := (q4 g hg).2 hx
        have d := (pset_lt (down_pset xs g hN)).1
        rw [meetB_iff d a1] at hp
        obtain ⟨i, i1, i2⟩ := hp
        have : meetB (Down xs N g) A' = true := (meetB_iff d z2).2 ⟨i, i1, (psub_all a1 z2).1 tA i i2⟩
        rw [h5] at this; cases this
  · have l1 := psub_le p1 o1 sO
    have l2 := psub_le p2 a1 sA
    rcases Int.lt_or_le (O + A) (pulO xs N O (pulA xs N O A) + pulA xs N O A) with h | h
    · exact h
    · exact (hc ((arrC_pul hN hl h1 h2).1 ⟨by omega, by omega⟩)).elim
theorem arrIn_0 {xs : List Int} {N : Nat} {o : Int} (hN : N ≤ 8) (ho : PSet xs.length o = true) : ArrIn xs N o o 0 := by
  refine ⟨ho, ?_, psub_refl o, fun O' A' q1 q2 q3 q4 => ⟨q3, by simp [PSub]⟩⟩
  rw [pset_iff]
  have := pow_pos2 ((N : Int)).toNat
  omega
noncomputable def arrO (n : Int) (xs : List Int) (o : Int) : Int := if PCtx n xs ∧ PSet xs.length o = true then (arrV xs n.toNat o).1 else 0
noncomputable def arrA (n : Int) (xs : List Int) (o : Int) : Int := if PCtx n xs ∧ PSet xs.length o = true then (arrV xs n.toNat o).2 else 0
theorem iArrowClosure_c {n o : Int} {v : AV} (hv : IsI v) : EvC env 35 [.agg [.int .i64 n, v], .int .i64 o] (.tup [.int .i64 (arrO n (xsOf v) o), .int .i64 (arrA n (xsOf v) o), .bool (decide (PCtx n (xsOf v)) && PSet (xsOf v).length o)]) := by
  refine evC_of (F := Tryz.f35) rfl rfl (Nat.le_of_ble_eq_true rfl) ?_
  by_cases hp : PCtx n (xsOf v)
  · by_cases ho : PSet (xsOf v).length o = true
    · obtain ⟨N, rfl⟩ : ∃ N : Nat, n = N := ⟨n.toNat, by have := hp.1; omega⟩
      have hl := hp.2.2.1
      have hN8 : N ≤ 8 := by have := hp.2.1; omega
      have o1 := pset_lt ho
      have hres : ∀ O A, ArrIn (xsOf v) N o O A → ArrC (xsOf v) N O A → arrO N (xsOf v) o = O ∧ arrA N (xsOf v) o = A := fun O A h1 h2 => by
        have := arrV_eq h1 h2
        simp [arrO, arrA, hp, ho, this]
      repeat' (first | (apply brI <;> intro hb hb2 <;> (try simp [-Int.not_le, -Int.not_lt, -Nat.not_le, -Nat.not_lt, -Nat.add_left_cancel_iff] at hb2)) | (refine draw_listA (by rfl) (by kernel_rfl) ?_) | (refine draw_listB (by simp [allocsOf, isAlloc]; rfl) (by kernel_rfl) ?_) | simp (maxSteps := 2000000) (disch := first | omega | assumption | simp [*]) [*, -Int.not_le, -Int.not_lt, -Nat.not_le, -Nat.not_lt, -Nat.add_left_cancel_iff, wrap_i64, wrap_u64, Tryz.f35, isI_cells hv, isI_one hv, isI_low hv, isI_len hv])
      refine W_loopP 600 (fun i s => ∃ O A, s 1 = .int .i64 O ∧ s 7 = .int .i64 A ∧ s 2 = .vp 2 0 0 ∧ ArrIn (xsOf v) N o O A ∧ (i : Int) ≤ O + A) rfl ?_ ?_
      · exact ⟨o, 0, by simp, by simp, by simp, arrIn_0 hN8 ho, by omega⟩
      rintro i s hi ⟨O, A, h1, h7, h2, hI, hm⟩
      obtain ⟨i1, i2, i3, i4⟩ := hI
      have b1 := pset_lt i1
      have b2 := pset_lt i2
      by_cases hC : ArrC (xsOf v) N O A
      · have hP : ArrP N (xsOf v) O A := ⟨hp, i1, i2, hC⟩
        obtain ⟨r1, r2⟩ := hres O A ⟨i1, i2, i3, i4⟩ hC
        clear hres i4
        repeat' (first | (apply brI <;> intro hb hb2 <;> (try simp [-Int.not_le, -Int.not_lt, -Nat.not_le, -Nat.not_lt, -Nat.add_left_cancel_iff] at hb2)) | (refine draw_listA (by rfl) (by kernel_rfl) ?_) | (refine draw_listB (by simp [allocsOf, isAlloc]; rfl) (by kernel_rfl) ?_) | simp (maxSteps := 2000000) (disch := first | omega | assumption | simp [*]) [*, -Int.not_le, -Int.not_lt, -Nat.not_le, -Nat.not_lt, -Nat.add_left_cancel_iff, wrap_i64, wrap_u64, h1, h7, h2, isI_cells hv, isI_one hv, isI_low hv, isI_len hv])
      · have hP : ¬ ArrP N (xsOf v) O A := fun h => hC h.2.2.2
        obtain ⟨z1, z2⟩ := arrIn_pul hN8 hl o1.1 ⟨i1, i2, i3, i4⟩ hC
        clear hres i4
        repeat' (first | (apply brI <;> intro hb hb2 <;> (try simp [-Int.not_le, -Int.not_lt, -Nat.not_le, -Nat.not_lt, -Nat.add_left_cancel_iff] at hb2)) | (refine draw_listA (by rfl) (by kernel_rfl) ?_) | (refine draw_listB (by simp [allocsOf, isAlloc]; rfl) (by kernel_rfl) ?_) | simp (maxSteps := 2000000) (disch := first | omega | assumption | simp [*]) [*, -Int.not_le, -Int.not_lt, -Nat.not_le, -Nat.not_lt, -Nat.add_left_cancel_iff, wrap_i64, wrap_u64, h1, h7, h2, isI_cells hv, isI_one hv, isI_low hv, isI_len hv])
        omega
    · have hz : arrO n (xsOf v) o = 0 ∧ arrA n (xsOf v) o = 0 := by simp [arrO, arrA, ho]
      obtain ⟨z1, z2⟩ := hz
      repeat' (first | (apply brI <;> intro hb hb2 <;> (try simp [-Int.not_le, -Int.not_lt, -Nat.not_le, -Nat.not_lt, -Nat.add_left_cancel_iff] at hb2)) | (refine draw_listA (by rfl) (by kernel_rfl) ?_) | (refine draw_listB (by simp [allocsOf, isAlloc]; rfl) (by kernel_rfl) ?_) | simp (maxSteps := 2000000) (disch := first | omega | assumption | simp [*]) [*, -Int.not_le, -Int.not_lt, -Nat.not_le, -Nat.not_lt, -Nat.add_left_cancel_iff, wrap_i64, wrap_u64, Tryz.f35, isI_cells hv, isI_one hv, isI_low hv, isI_len hv])
  · have hz : arrO n (xsOf v) o = 0 ∧ arrA n (xsOf v) o = 0 := by simp [arrO, arrA, hp]
    obtain ⟨z1, z2⟩ := hz
    repeat' (first | (apply brI <;> intro hb hb2 <;> (try simp [-Int.not_le, -Int.not_lt, -Nat.not_le, -Nat.not_lt, -Nat.add_left_cancel_iff] at hb2)) | (refine draw_listA (by rfl) (by kernel_rfl) ?_) | (refine draw_listB (by simp [allocsOf, isAlloc]; rfl) (by kernel_rfl) ?_) | simp (maxSteps := 2000000) (disch := first | omega | assumption | simp [*]) [*, -Int.not_le, -Int.not_lt, -Nat.not_le, -Nat.not_lt, -Nat.add_left_cancel_iff, wrap_i64, wrap_u64, Tryz.f35, isI_cells hv, isI_one hv, isI_low hv, isI_len hv])
theorem iArrowClosure_s {n o : Int} {v : AV} (hv : IsI v) {K : AV → Prop} {tg : Tg K} : CW env 35 [.agg [.int .i64 n, v], .int .i64 o] K tg ↔ K (.tup [.int .i64 (arrO n (xsOf v) o), .int .i64 (arrA n (xsOf v) o), .bool (decide (PCtx n (xsOf v)) && PSet (xsOf v).length o)]) := callsTo_iff (iArrowClosure_c hv)
attribute [simp] iArrowClosure_s
theorem sArrowClosure_c {n o : Int} {v : AV} (hv : IsI v) : EvC env 36 [.agg [.int .i64 n, v], .int .i64 o] (.tup [.int .i64 (arrO n (xsOf v) o), .int .i64 (arrA n (xsOf v) o), .bool (decide (PCtx n (xsOf v)) && PSet (xsOf v).length o)]) := by
  refine evC_of (F := Tryz.f36) rfl rfl (Nat.le_of_ble_eq_true rfl) ?_
  have h0n : PCtx n (xsOf v) → PSet n 0 = true := fun hp => by
    rw [pset_iff]
    have := pow_pos2 n.toNat
    have h1 := hp.1
    have h2 := hp.2.1
    omega
  by_cases hp : PCtx n (xsOf v)
  · by_cases ho : PSet (xsOf v).length o = true
    · obtain ⟨N, rfl⟩ : ∃ N : Nat, n = N := ⟨n.toNat, by have := hp.1; omega⟩
      have hl := hp.2.2.1
      have hN8 : N ≤ 8 := by have := hp.2.1; omega
      have o1 := pset_lt ho
      have h0n' := h0n hp
      clear h0n
      have hres : ∀ O A, ArrIn (xsOf v) N o O A → ArrC (xsOf v) N O A → arrO N (xsOf v) o = O ∧ arrA N (xsOf v) o = A := fun O A h1 h2 => by
        have := arrV_eq h1 h2
        simp [arrO, arrA, hp, ho, this]
      repeat' (first | (apply brI <;> intro hb hb2 <;> (try simp [-Int.not_le, -Int.not_lt, -Nat.not_le, -Nat.not_lt, -Nat.add_left_cancel_iff] at hb2)) | (refine draw_listA (by rfl) (by kernel_rfl) ?_) | (refine draw_listB (by simp [allocsOf, isAlloc]; rfl) (by kernel_rfl) ?_) | simp (maxSteps := 2000000) (disch := first | omega | assumption | simp [*]) [*, -Int.not_le, -Int.not_lt, -Nat.not_le, -Nat.not_lt, -Nat.add_left_cancel_iff, wrap_i64, wrap_u64, Tryz.f36, isI_cells hv, isI_one hv, isI_low hv, isI_len hv])
      refine W_loopP 600 (fun i s => ∃ O A c, s 1 = .int .i64 O ∧ s 7 = .int .i64 A ∧ s 2 = .vp 2 0 0 ∧ s 8 = .bool c ∧ ArrIn (xsOf v) N o O A ∧ (c = true → (i : Int) ≤ O + A) ∧ (c = false → ArrC (xsOf v) N O A)) rfl ?_ ?_
      · exact ⟨o, 0, true, by simp, by simp, by simp, by simp, arrIn_0 hN8 ho, by simp; omega, by simp⟩
      rintro i s hi ⟨O, A, c, h1, h7, h2, h8, hI, hm, hC⟩
      cases c with
      | false =>
        obtain ⟨r1, r2⟩ := hres O A hI (hC rfl)
        clear hres hI hC hm
        repeat' (first | (apply brI <;> intro hb hb2 <;> (try simp [-Int.not_le, -Int.not_lt, -Nat.not_le, -Nat.not_lt, -Nat.add_left_cancel_iff] at hb2)) | (refine draw_listA (by rfl) (by kernel_rfl) ?_) | (refine draw_listB (by simp [allocsOf, isAlloc]; rfl) (by kernel_rfl) ?_) | simp (maxSteps := 2000000) (disch := first | omega | assumption | simp [*]) [*, -Int.not_le, -Int.not_lt, -Nat.not_le, -Nat.not_lt, -Nat.add_left_cancel_iff, wrap_i64, wrap_u64, h1, h7, h2, h8, isI_cells hv, isI_one hv, isI_low hv, isI_len hv])
      | true =>
        have hm := hm rfl
        clear hres hC
        repeat' (first | (apply brI <;> intro hb hb2 <;> (try simp [-Int.not_le, -Int.not_lt, -Nat.not_le, -Nat.not_lt, -Nat.add_left_cancel_iff] at hb2)) | (refine draw_listA (by rfl) (by kernel_rfl) ?_) | (refine draw_listB (by simp [allocsOf, isAlloc]; rfl) (by kernel_rfl) ?_) | simp (maxSteps := 2000000) (disch := first | omega | assumption | simp [*]) [*, -Int.not_le, -Int.not_lt, -Nat.not_le, -Nat.not_lt, -Nat.add_left_cancel_iff, wrap_i64, wrap_u64, h1, h7, h2, h8, isI_cells hv, isI_one hv, isI_low hv, isI_len hv])
        refine W_loopP (xsOf v).length (fun g s => ∃ O2 A2 c, s 1 = .int .i64 O2 ∧ s 7 = .int .i64 A2 ∧ s 2 = .vp 2 0 0 ∧ s 8 = .bool c ∧ s 9 = .int .i64 g ∧ ArrIn (xsOf v) N o O2 A2 ∧ (c = true → (i : Int) + 1 ≤ O2 + A2) ∧ (c = false → O2 = O ∧ A2 = A ∧
          ∀ j, j < g → (PHas O2 j = true → PSub (Up (xsOf v) N j) A2 = true) ∧ (PHas O2 j = false → meetB (Down (xsOf v) N j) A2 = false))) rfl ?_ ?_
        · exact ⟨O, A, false, by simp [*], by simp [*], by simp [*], by simp, by simp, hI, by simp, by simp⟩
        rintro g s3 hg ⟨O2, A2, c, k1, k7, k2, k8, k9, kI, km, kC⟩
        have c1 := pset_lt kI.1
        have c2 := pset_lt kI.2.1
        by_cases hg2 : g < (xsOf v).length
        · have u1 := pset_lt (up_pset (xsOf v) g hN8)
          have d1 := pset_lt (down_pset (xsOf v) g hN8)
          have hpw := pow_small (i := g) (by omega)
          have hsub := psub_and (t := A2) u1.1
          have hmt : meetB (Down (xsOf v) N g) A2 = decide ((Down (xsOf v) N g).toNat &&& A2.toNat ≠ 0) := rfl
          have hgood : c = false → ((PHas O2 g = true → PSub (Up (xsOf v) N g) A2 = true) ∧ (PHas O2 g = false → meetB (Down (xsOf v) N g) A2 = false)) → ∀ j, j < g + 1 → (PHas O2 j = true → PSub (Up (xsOf v) N j) A2 = true) ∧ (PHas O2 j = false → meetB (Down (xsOf v) N j) A2 = false) := fun hc h j hj => by
            by_cases e : j = g
            · subst e; exact h
            · exact (kC hc).2.2 j (by omega)
          have hS : c = false → O2 = O ∧ A2 = A := fun hc => ⟨(kC hc).1, (kC hc).2.1⟩
          have hle : (i : Int) ≤ O2 + A2 := by
            cases c with
            | true => have := km rfl; omega
            | false => have := hS rfl; omega
          have hmt : (Down (xsOf v) N g).toNat &&& A2.toNat = 0 ↔ meetB (Down (xsOf v) N g) A2 = false := by simp [meetB]
          have hk1 : c = true → (i : Int) + 1 ≤ O2 + A2 := km
          clear km kC
          cases hog : PHas O2 g with
          | true =>
            have hup := arrIn_up hN8 kI hg2 hog
            have hgr : PSub (Up (xsOf v) N g) A2 = false → A2 < ((A2.toNat ||| (Up (xsOf v) N g).toNat : Nat) : Int) := or_grow c2.1 u1.1
            cases hsb : PSub (Up (xsOf v) N g) A2 with
            | true =>
              have hq : c = false → O2 = O ∧ A2 = A ∧ ∀ j, j < g + 1 → (PHas O2 j = true → PSub (Up (xsOf v) N j) A2 = true) ∧ (PHas O2 j = false → meetB (Down (xsOf v) N j) A2 = false) :=
                fun hc => ⟨(hS hc).1, (hS hc).2, hgood hc (by simp [hog, hsb])⟩
              clear hgood hS hgr hup hmt
              repeat' (first | (apply brI <;> intro hb hb2 <;> (try simp [-Int.not_le, -Int.not_lt, -Nat.not_le, -Nat.not_lt, -Nat.add_left_cancel_iff] at hb2)) | (refine draw_listA (by rfl) (by kernel_rfl) ?_) | (refine draw_listB (by simp [allocsOf, isAlloc]; rfl) (by kernel_rfl) ?_) | simp (maxSteps := 2000000) (disch := first | omega | assumption | simp [*]) [*, -Int.not_le, -Int.not_lt, -Nat.not_le, -Nat.not_lt, -Nat.add_left_cancel_iff, wrap_i64, wrap_u64, k1, k7, k2, k8, k9, bits_and, isI_cells hv, isI_one hv, isI_low hv, isI_len hv])
              first | exact ⟨hk1, hq⟩ | exact hq | exact ⟨hk1, fun hc => (hq hc).2.2⟩
            | false =>
              have hgr := hgr hsb
              clear hgood hS hmt
              repeat' (first | (apply brI <;> intro hb hb2 <;> (try simp [-Int.not_le, -Int.not_lt, -Nat.not_le, -Nat.not_lt, -Nat.add_left_cancel_iff] at hb2)) | (refine draw_listA (by rfl) (by kernel_rfl) ?_) | (refine draw_listB (by simp [allocsOf, isAlloc]; rfl) (by kernel_rfl) ?_) | simp (maxSteps := 2000000) (disch := first | omega | assumption | simp [*]) [*, -Int.not_le, -Int.not_lt, -Nat.not_le, -Nat.not_lt, -Nat.add_left_cancel_iff, wrap_i64, wrap_u64, k1, k7, k2, k8, k9, bits_and, bits_or, isI_cells hv, isI_one hv, isI_low hv, isI_len hv])
              omega
          | false =>
            cases hmb : meetB (Down (xsOf v) N g) A2 with
            | true =>
              have hdn := arrIn_down hN8 hl o1.1 kI hg2 hmb
              have hgr := or_grow (u := 2 ^ g) c1.1 (by omega) (by rw [psub_pow c1.1]; exact hog)
              rw [pow_toNat] at hdn hgr
              have hmt2 : ¬ (Down (xsOf v) N g).toNat &&& A2.toNat = 0 := by rw [hmt, hmb]; simp
              clear hgood hS hmt hmb
              repeat' (first | (apply brI <;> intro hb hb2 <;> (try simp [-Int.not_le, -Int.not_lt, -Nat.not_le, -Nat.not_lt, -Nat.add_left_cancel_iff] at hb2)) | (refine draw_listA (by rfl) (by kernel_rfl) ?_) | (refine draw_listB (by simp [allocsOf, isAlloc]; rfl) (by kernel_rfl) ?_) | simp (maxSteps := 2000000) (disch := first | omega | assumption | simp [*]) [*, -Int.not_le, -Int.not_lt, -Nat.not_le, -Nat.not_lt, -Nat.add_left_cancel_iff, wrap_i64, wrap_u64, k1, k7, k2, k8, k9, bits_and, bits_or, pow_toNat, isI_cells hv, isI_one hv, isI_low hv, isI_len hv])
              omega
            | false =>
              have hq : c = false → O2 = O ∧ A2 = A ∧ ∀ j, j < g + 1 → (PHas O2 j = true → PSub (Up (xsOf v) N j) A2 = true) ∧ (PHas O2 j = false → meetB (Down (xsOf v) N j) A2 = false) :=
                fun hc => ⟨(hS hc).1, (hS hc).2, hgood hc (by simp [hog, hmb])⟩
              have hmt2 : (Down (xsOf v) N g).toNat &&& A2.toNat = 0 := hmt.2 hmb
              clear hgood hS hmt hmb
              repeat' (first | (apply brI <;> intro hb hb2 <;> (try simp [-Int.not_le, -Int.not_lt, -Nat.not_le, -Nat.not_lt, -Nat.add_left_cancel_iff] at hb2)) | (refine draw_listA (by rfl) (by kernel_rfl) ?_) | (refine draw_listB (by simp [allocsOf, isAlloc]; rfl) (by kernel_rfl) ?_) | simp (maxSteps := 2000000) (disch := first | omega | assumption | simp [*]) [*, -Int.not_le, -Int.not_lt, -Nat.not_le, -Nat.not_lt, -Nat.add_left_cancel_iff, wrap_i64, wrap_u64, k1, k7, k2, k8, k9, bits_and, isI_cells hv, isI_one hv, isI_low hv, isI_len hv])
              first | exact ⟨hk1, hq⟩ | exact hq | exact ⟨hk1, fun hc => (hq hc).2.2⟩
        · obtain rfl : g = (xsOf v).length := by omega
          have hC' : c = false → ArrC (xsOf v) N O2 A2 := fun hc => (kC hc).2.2
          clear kC
          repeat' (first | (apply brI <;> intro hb hb2 <;> (try simp [-Int.not_le, -Int.not_lt, -Nat.not_le, -Nat.not_lt, -Nat.add_left_cancel_iff] at hb2)) | (refine draw_listA (by rfl) (by kernel_rfl) ?_) | (refine draw_listB (by simp [allocsOf, isAlloc]; rfl) (by kernel_rfl) ?_) | simp (maxSteps := 2000000) (disch := first | omega | assumption | simp [*]) [*, -Int.not_le, -Int.not_lt, -Nat.not_le, -Nat.not_lt, -Nat.add_left_cancel_iff, wrap_i64, wrap_u64, k1, k7, k2, k8, k9, isI_cells hv, isI_one hv, isI_low hv, isI_len hv])
          have := pset_lt hI.1
          have := pset_lt hI.2.1
          exact ⟨by omega, km, hC'⟩
    · have hz : arrO n (xsOf v) o = 0 ∧ arrA n (xsOf v) o = 0 := by simp [arrO, arrA, ho]
      obtain ⟨z1, z2⟩ := hz
      repeat' (first | (apply brI <;> intro hb hb2 <;> (try simp [-Int.not_le, -Int.not_lt, -Nat.not_le, -Nat.not_lt, -Nat.add_left_cancel_iff] at hb2)) | (refine draw_listA (by rfl) (by kernel_rfl) ?_) | (refine draw_listB (by simp [allocsOf, isAlloc]; rfl) (by kernel_rfl) ?_) | simp (maxSteps := 2000000) (disch := first | omega | assumption | simp [*]) [*, -Int.not_le, -Int.not_lt, -Nat.not_le, -Nat.not_lt, -Nat.add_left_cancel_iff, wrap_i64, wrap_u64, Tryz.f36, isI_cells hv, isI_one hv, isI_low hv, isI_len hv])
  · have hz : arrO n (xsOf v) o = 0 ∧ arrA n (xsOf v) o = 0 := by simp [arrO, arrA, hp]
    obtain ⟨z1, z2⟩ := hz
    repeat' (first | (apply brI <;> intro hb hb2 <;> (try simp [-Int.not_le, -Int.not_lt, -Nat.not_le, -Nat.not_lt, -Nat.add_left_cancel_iff] at hb2)) | (refine draw_listA (by rfl) (by kernel_rfl) ?_) | (refine draw_listB (by simp [allocsOf, isAlloc]; rfl) (by kernel_rfl) ?_) | simp (maxSteps := 2000000) (disch := first | omega | assumption | simp [*]) [*, -Int.not_le, -Int.not_lt, -Nat.not_le, -Nat.not_lt, -Nat.add_left_cancel_iff, wrap_i64, wrap_u64, Tryz.f36, isI_cells hv, isI_one hv, isI_low hv, isI_len hv])
theorem sArrowClosure_s {n o : Int} {v : AV} (hv : IsI v) {K : AV → Prop} {tg : Tg K} : CW env 36 [.agg [.int .i64 n, v], .int .i64 o] K tg ↔ K (.tup [.int .i64 (arrO n (xsOf v) o), .int .i64 (arrA n (xsOf v) o), .bool (decide (PCtx n (xsOf v)) && PSet (xsOf v).length o)]) := callsTo_iff (sArrowClosure_c hv)
attribute [simp] sArrowClosure_s
end Go.Proofs.YtliecnadoklgoaaGreatDoor
