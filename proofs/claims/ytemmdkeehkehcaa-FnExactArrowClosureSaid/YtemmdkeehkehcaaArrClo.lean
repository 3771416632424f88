/- What is closed under arrows. Conditions: none. -/
import Derived.Test.YtemmdkeehkehcaaArrow
namespace Go.Proofs.Ytemmdkeehkehcaa
open Ev
set_option linter.unusedVariables false
set_option linter.unusedSimpArgs false
set_option maxHeartbeats 4000000

theorem up_pset (xs : List Int) {N : Nat} (g : Nat) (h : N ≤ 8) : PSet N (Up xs N g) = true := setOf_pset _ h
theorem down_pset (xs : List Int) {N : Nat} (g : Nat) (h : N ≤ 8) : PSet N (Down xs N g) = true := setOf_pset _ h
def meetB (s t : Int) : Bool := decide (s.toNat &&& t.toNat ≠ 0)
theorem meetB_iff {s t : Int} (hs : 0 ≤ s) (ht : 0 ≤ t) : meetB s t = true ↔ ∃ i : Nat, PHas s i = true ∧ PHas t i = true := by
  simp only [meetB, decide_eq_true_eq, phas_nat hs, phas_nat ht]
  constructor
  · intro h
    apply Classical.byContradiction
    intro hn
    apply h
    apply Nat.eq_of_testBit_eq
    intro i
    rw [Nat.testBit_and, Nat.zero_testBit]
    cases h1 : s.toNat.testBit i with
    | false => rfl
    | true =>
      cases h2 : t.toNat.testBit i with
      | false => rfl
      | true => exact (hn ⟨i, h1, h2⟩).elim
  · rintro ⟨i, h1, h2⟩ h
    have := congrArg (fun x => Nat.testBit x i) h
    simp [Nat.testBit_and, h1, h2] at this
def pulA (xs : List Int) (N : Nat) (o a : Int) : Int := setOf (fun m => PHas a m || (List.range 8).any fun g => PHas o g && upP xs N g m) N
def pulO (xs : List Int) (N : Nat) (o a : Int) : Int := setOf (fun g => PHas o g || meetB (Down xs N g) a) xs.length
theorem pulled_c {N : Nat} {o a : Int} {v : AV} (hv : IsI v) (hc : PCtx N (xsOf v)) (ho : PSet (xsOf v).length o = true) (ha : PSet N a = true) : EvC env 76 [.agg [.int .i64 N, v], .int .i64 o, .int .i64 a] (.tup [.int .i64 (pulO (xsOf v) N o (pulA (xsOf v) N o a)), .int .i64 (pulA (xsOf v) N o a)]) := by
  refine evC_of (F := Try.f76) rfl rfl (Nat.le_of_ble_eq_true rfl) ?_
  have hl := hc.2.2.1
  have hn := hc.2.1
  have hN8 : N ≤ 8 := by omega
  have ho8 := pset8 ho
  have o1 := pset_lt ho
  have hE : IsI (bufC 1 (elemsTo o 8)) := isI_bufC (Nat.le_trans (elemsTo_len _ _) (by decide))
  have he := elems_nat o
  repeat' (first | (apply br_intro <;> intro hb <;> (have hb2 := hb) <;> (try simp [-Int.not_le, -Int.not_lt, -Nat.not_le, -Nat.not_lt, -Nat.add_left_cancel_iff] at hb2)) | (refine draw_listA (by rfl) (by kernel_rfl) ?_) | (refine draw_listB (by simp [allocsOf, isAlloc]; rfl) (by kernel_rfl) ?_) | simp (maxSteps := 2000000) (disch := first | omega | assumption | simp [*]) [*, -Int.not_le, -Int.not_lt, -Nat.not_le, -Nat.not_lt, -Nat.add_left_cancel_iff, wrap_i64, wrap_u64, Try.f76, isI_cells hv, isI_one hv, isI_low hv, isI_len hv, isI_len hE])
  refine W_loopP (elemsTo o 8).length (fun j s => s 14 = .int .i64 j ∧ s 13 = .int .i64 (elemsTo o 8).length ∧ s 12 = bufC 1 (elemsTo o 8) ∧ s 1 = .int .i64 o ∧ s 3 = .vp 3 0 0 ∧
    s 2 = .int .i64 (setOf (fun m => PHas a m || ((elemsTo o 8).take j).any fun e => upP (xsOf v) N e.toNat m) N)) rfl ?_ ?_
  · simp
    exact setOf_self ha
  rintro j s hj ⟨h14, h13, h12, h1, h3, h2⟩
  by_cases hj2 : j < (elemsTo o 8).length
  · obtain ⟨g, hg, hg8, _, hgp⟩ := mem_elems hj2
    have hgl := phas_lt ho hgp
    have hgl2 : g < (xsOf v).length := by omega
    have htk : (elemsTo o 8).take (j + 1) = (elemsTo o 8).take j ++ [(g : Int)] := by rw [List.take_add_one, nth_get? hj2, hg]; rfl
    have r1 := setOf_range (fun m => PHas a m || ((elemsTo o 8).take j).any fun e => upP (xsOf v) N e.toNat m) N
    have r2 := setOf_small (fun m => PHas a m || ((elemsTo o 8).take j).any fun e => upP (xsOf v) N e.toNat m) hN8
    have u1 := pset_lt (up_pset (xsOf v) g hN8)
    have hor := setOf_orr (fun m => PHas a m || ((elemsTo o 8).take j).any fun e => upP (xsOf v) N e.toNat m) (upP (xsOf v) N g) N
    rw [show setOf (upP (xsOf v) N g) N = Up (xsOf v) N g from rfl] at hor
    repeat' (first | (apply br_intro <;> intro hb <;> (have hb2 := hb) <;> (try simp [-Int.not_le, -Int.not_lt, -Nat.not_le, -Nat.not_lt, -Nat.add_left_cancel_iff] at hb2)) | (refine draw_listA (by rfl) (by kernel_rfl) ?_) | (refine draw_listB (by simp [allocsOf, isAlloc]; rfl) (by kernel_rfl) ?_) | simp (maxSteps := 2000000) (disch := first | omega | assumption | simp [*]) [*, -Int.not_le, -Int.not_lt, -Nat.not_le, -Nat.not_lt, -Nat.add_left_cancel_iff, wrap_i64, wrap_u64, h14, h13, h12, h1, h3, h2, bits_or, isI_cells hv, isI_one hv, isI_low hv, isI_len hv, isI_len hE, isI_index hE, isI_load hE])
    all_goals (refine setOf_congr fun m _ => ?_; simp [Bool.or_assoc])
  · obtain rfl : j = (elemsTo o 8).length := by omega
    have hA : setOf (fun m => PHas a m || ((elemsTo o 8).take (elemsTo o 8).length).any fun e => upP (xsOf v) N e.toNat m) N = pulA (xsOf v) N o a := by
      refine setOf_congr fun m _ => ?_
      rw [List.take_length, elems_any ho8 fun g => upP (xsOf v) N g m]
    rw [hA] at h2
    have a1 : 0 ≤ pulA (xsOf v) N o a ∧ pulA (xsOf v) N o a < 256 := ⟨(setOf_range _ _).1, setOf_small _ hN8⟩
    generalize pulA (xsOf v) N o a = A at *
    repeat' (first | (apply br_intro <;> intro hb <;> (have hb2 := hb) <;> (try simp [-Int.not_le, -Int.not_lt, -Nat.not_le, -Nat.not_lt, -Nat.add_left_cancel_iff] at hb2)) | (refine draw_listA (by rfl) (by kernel_rfl) ?_) | (refine draw_listB (by simp [allocsOf, isAlloc]; rfl) (by kernel_rfl) ?_) | simp (maxSteps := 2000000) (disch := first | omega | assumption | simp [*]) [*, -Int.not_le, -Int.not_lt, -Nat.not_le, -Nat.not_lt, -Nat.add_left_cancel_iff, wrap_i64, wrap_u64, h14, h13, h12, h1, h3, h2, isI_cells hv, isI_one hv, isI_low hv, isI_len hv, isI_len hE])
    refine W_loopP (xsOf v).length (fun i s => s 27 = .int .i64 i ∧ s 26 = .int .i64 (xsOf v).length ∧ s 3 = .vp 3 0 0 ∧ s 2 = .int .i64 A ∧ s 1 = .int .i64 (setOf (fun g => PHas o g || decide (g < i) && meetB (Down (xsOf v) N g) A) (xsOf v).length)) rfl ?_ ?_
    · simp [*]
      exact setOf_self ho
    rintro i s hi ⟨h27, h26, h3, h2, h1⟩
    by_cases hi2 : i < (xsOf v).length
    · have r1 := setOf_range (fun g => PHas o g || decide (g < i) && meetB (Down (xsOf v) N g) A) (xsOf v).length
      have r2 := setOf_small (fun g => PHas o g || decide (g < i) && meetB (Down (xsOf v) N g) A) hl
      have d1 := pset_lt (down_pset (xsOf v) i hN8)
      have hp := pow_small (i := i) (by omega)
      have hps := setOf_self (pset_pow (by omega) hi2)
      have hor := setOf_orr (fun g => PHas o g || decide (g < i) && meetB (Down (xsOf v) N g) A) (fun g => PHas (2 ^ i) g) (xsOf v).length
      rw [← hps, pow_toNat] at hor
      clear hps
      have hm : meetB (Down (xsOf v) N i) A = decide ((Down (xsOf v) N i).toNat &&& A.toNat ≠ 0) := rfl
      repeat' (first | (apply br_intro <;> intro hb <;> (have hb2 := hb) <;> (try simp [-Int.not_le, -Int.not_lt, -Nat.not_le, -Nat.not_lt, -Nat.add_left_cancel_iff] at hb2)) | (refine draw_listA (by rfl) (by kernel_rfl) ?_) | (refine draw_listB (by simp [allocsOf, isAlloc]; rfl) (by kernel_rfl) ?_) | simp (maxSteps := 2000000) (disch := first | omega | assumption | simp [*]) [*, -Int.not_le, -Int.not_lt, -Nat.not_le, -Nat.not_lt, -Nat.add_left_cancel_iff, wrap_i64, wrap_u64, h27, h26, h3, h2, h1, bits_or, bits_and, pow_toNat, isI_cells hv, isI_one hv, isI_low hv, isI_len hv])
      all_goals
        refine setOf_congr fun g _ => ?_
        try rw [phas_pow]
        by_cases e : g = i
        · subst e; simp_all
        · have e2 : g < i + 1 ↔ g < i := by omega
          simp [e, e2]
    · obtain rfl : i = (xsOf v).length := by omega
      repeat' (first | (apply br_intro <;> intro hb <;> (have hb2 := hb) <;> (try simp [-Int.not_le, -Int.not_lt, -Nat.not_le, -Nat.not_lt, -Nat.add_left_cancel_iff] at hb2)) | (refine draw_listA (by rfl) (by kernel_rfl) ?_) | (refine draw_listB (by simp [allocsOf, isAlloc]; rfl) (by kernel_rfl) ?_) | simp (maxSteps := 2000000) (disch := first | omega | assumption | simp [*]) [*, -Int.not_le, -Int.not_lt, -Nat.not_le, -Nat.not_lt, -Nat.add_left_cancel_iff, wrap_i64, wrap_u64, h27, h26, h3, h2, h1])
      exact setOf_congr fun g hg => by simp [hg]
theorem pulled_s {N : Nat} {o a : Int} {v : AV} (hv : IsI v) (hc : PCtx N (xsOf v)) (ho : PSet (xsOf v).length o = true) (ha : PSet N a = true) {K : AV → Prop} {tg : Tg K} : CW env 76 [.agg [.int .i64 N, v], .int .i64 o, .int .i64 a] K tg ↔ K (.tup [.int .i64 (pulO (xsOf v) N o (pulA (xsOf v) N o a)), .int .i64 (pulA (xsOf v) N o a)]) := callsTo_iff (pulled_c hv hc ho ha)
attribute [simp] pulled_s
def ArrC (xs : List Int) (N : Nat) (o a : Int) : Prop := ∀ g, g < xs.length → (PHas o g = true → PSub (Up xs N g) a = true) ∧ (PHas o g = false → meetB (Down xs N g) a = false)
theorem arrC_pul {xs : List Int} {N : Nat} {o a : Int} (hN : N ≤ 8) (hl : xs.length ≤ 8) (ho : PSet xs.length o = true) (ha : PSet N a = true) : (pulO xs N o (pulA xs N o a) = o ∧ pulA xs N o a = a) ↔ ArrC xs N o a := by
  have a1 := pset_lt ha
  have e1 : pulA xs N o a = a ↔ ∀ g, g < xs.length → PHas o g = true → PSub (Up xs N g) a = true := by
    have hs : pulA xs N o a = a ↔ pulA xs N o a = setOf (fun m => PHas a m) N := by rw [← setOf_self ha]
    rw [hs]
    constructor
    · intro h g hg hog
      rw [psub_iff (up_pset xs g hN) a1.1]
      intro m hm hu
      have := setOf_inj h m hm
      unfold Up at hu
      rw [setOf_has] at hu
      simp only [Bool.and_eq_true] at hu
      cases hx : PHas a m with
      | true => rfl
      | false =>
        rw [hx, Bool.false_or] at this
        have h2 : ((List.range 8).any fun g => PHas o g && upP xs N g m) = true := List.any_eq_true.2 ⟨g, List.mem_range.2 (by omega), by simp [hog, hu.2]⟩
        rw [this] at h2; cases h2
    · intro h
      refine setOf_congr fun m hm => ?_
      rw [Bool.eq_iff_iff]
      simp only [Bool.or_eq_true, List.any_eq_true, List.mem_range, Bool.and_eq_true]
      constructor
      · rintro (h1 | ⟨g, hg, h1, h2⟩)
        · exact h1
        · have hgl := phas_lt ho h1
          have := h g (by omega) h1
          rw [psub_iff (up_pset xs g hN) a1.1] at this
          exact this m hm (by unfold Up; rw [setOf_has]; simp [hm, h2])
      · exact .inl
  have e2 : pulO xs N o a = o ↔ ∀ g, g < xs.length → PHas o g = false → meetB (Down xs N g) a = false := by
    have hs : pulO xs N o a = o ↔ pulO xs N o a = setOf (fun m => PHas o m) xs.length := by rw [← setOf_self ho]
    rw [hs]
    constructor
    · intro h g hg hog
      have := setOf_inj h g hg
      rw [hog] at this; simpa using this
    · intro h
      refine setOf_congr fun g hg => ?_
      cases hog : PHas o g with
      | true => rfl
      | false => simp [h g hg hog]
  constructor
  · rintro ⟨h1, h2⟩
    rw [h2] at h1
    exact fun g hg => ⟨e1.1 h2 g hg, e2.1 h1 g hg⟩
  · intro h
    have h2 := e1.2 fun g hg => (h g hg).1
    rw [h2]
    exact ⟨e2.2 fun g hg => (h g hg).2, rfl⟩
def ArrP (n : Int) (xs : List Int) (o a : Int) : Prop := PCtx n xs ∧ PSet xs.length o = true ∧ PSet n a = true ∧ ArrC xs n.toNat o a
noncomputable instance (n : Int) (xs : List Int) (a b : Int) : Decidable (ArrP n xs a b) := Classical.propDecidable _
theorem iArrClosed_c {n o a : Int} {v : AV} (hv : IsI v) : EvC env 28 [.agg [.int .i64 n, v], .int .i64 o, .int .i64 a] (.bool (decide (ArrP n (xsOf v) o a))) := by
  refine evC_of (F := Try.f28) rfl rfl (Nat.le_of_ble_eq_true rfl) ?_
  by_cases hp : PCtx n (xsOf v)
  · by_cases ho : PSet (xsOf v).length o = true
    · by_cases ha : PSet n a = true
      · obtain ⟨N, rfl⟩ : ∃ N : Nat, n = N := ⟨n.toNat, by have := hp.1; omega⟩
        have hN8 : N ≤ 8 := by have := hp.2.1; omega
        have hq := arrC_pul (xs := xsOf v) hN8 hp.2.2.1 ho ha
        have hq2 : ArrP N (xsOf v) o a ↔ (pulO (xsOf v) N o (pulA (xsOf v) N o a) = o ∧ pulA (xsOf v) N o a = a) := by
          rw [hq]; exact ⟨fun h => h.2.2.2, fun h => ⟨hp, ho, ha, h⟩⟩
        clear hq
        repeat' (first | (apply br_intro <;> intro hb <;> (have hb2 := hb) <;> (try simp [-Int.not_le, -Int.not_lt, -Nat.not_le, -Nat.not_lt, -Nat.add_left_cancel_iff] at hb2)) | (refine draw_listA (by rfl) (by kernel_rfl) ?_) | (refine draw_listB (by simp [allocsOf, isAlloc]; rfl) (by kernel_rfl) ?_) | simp (maxSteps := 2000000) (disch := first | omega | assumption | simp [*]) [*, -Int.not_le, -Int.not_lt, -Nat.not_le, -Nat.not_lt, -Nat.add_left_cancel_iff, wrap_i64, wrap_u64, Try.f28, isI_cells hv, isI_one hv, isI_low hv, isI_len hv])
        all_goals simp_all
      · have hc : ¬ ArrP n (xsOf v) o a := fun h => ha h.2.2.1
        repeat' (first | (apply br_intro <;> intro hb <;> (have hb2 := hb) <;> (try simp [-Int.not_le, -Int.not_lt, -Nat.not_le, -Nat.not_lt, -Nat.add_left_cancel_iff] at hb2)) | (refine draw_listA (by rfl) (by kernel_rfl) ?_) | (refine draw_listB (by simp [allocsOf, isAlloc]; rfl) (by kernel_rfl) ?_) | simp (maxSteps := 2000000) (disch := first | omega | assumption | simp [*]) [*, -Int.not_le, -Int.not_lt, -Nat.not_le, -Nat.not_lt, -Nat.add_left_cancel_iff, wrap_i64, wrap_u64, Try.f28, isI_cells hv, isI_one hv, isI_low hv, isI_len hv])
    · have hc : ¬ ArrP n (xsOf v) o a := fun h => ho h.2.1
      repeat' (first | (apply br_intro <;> intro hb <;> (have hb2 := hb) <;> (try simp [-Int.not_le, -Int.not_lt, -Nat.not_le, -Nat.not_lt, -Nat.add_left_cancel_iff] at hb2)) | (refine draw_listA (by rfl) (by kernel_rfl) ?_) | (refine draw_listB (by simp [allocsOf, isAlloc]; rfl) (by kernel_rfl) ?_) | simp (maxSteps := 2000000) (disch := first | omega | assumption | simp [*]) [*, -Int.not_le, -Int.not_lt, -Nat.not_le, -Nat.not_lt, -Nat.add_left_cancel_iff, wrap_i64, wrap_u64, Try.f28, isI_cells hv, isI_one hv, isI_low hv, isI_len hv])
  · have hc : ¬ ArrP n (xsOf v) o a := fun h => hp h.1
    repeat' (first | (apply br_intro <;> intro hb <;> (have hb2 := hb) <;> (try simp [-Int.not_le, -Int.not_lt, -Nat.not_le, -Nat.not_lt, -Nat.add_left_cancel_iff] at hb2)) | (refine draw_listA (by rfl) (by kernel_rfl) ?_) | (refine draw_listB (by simp [allocsOf, isAlloc]; rfl) (by kernel_rfl) ?_) | simp (maxSteps := 2000000) (disch := first | omega | assumption | simp [*]) [*, -Int.not_le, -Int.not_lt, -Nat.not_le, -Nat.not_lt, -Nat.add_left_cancel_iff, wrap_i64, wrap_u64, Try.f28, isI_cells hv, isI_one hv, isI_low hv, isI_len hv])
theorem iArrClosed_s {n o a : Int} {v : AV} (hv : IsI v) {K : AV → Prop} {tg : Tg K} : CW env 28 [.agg [.int .i64 n, v], .int .i64 o, .int .i64 a] K tg ↔ K (.bool (decide (ArrP n (xsOf v) o a))) := callsTo_iff (iArrClosed_c hv)
attribute [simp] iArrClosed_s
theorem l19Sets_c {n o a : Int} {v : AV} (hv : IsI v) : EvC env 71 [.agg [.int .i64 n, v], .int .i64 o, .int .i64 a] (.bool (decide (PCtx n (xsOf v)) && PSet (xsOf v).length o && PSet n a)) := by
  refine evC_of (F := Try.f71) rfl rfl (Nat.le_of_ble_eq_true rfl) ?_
  repeat' (first | (apply br_intro <;> intro hb <;> (have hb2 := hb) <;> (try simp [-Int.not_le, -Int.not_lt, -Nat.not_le, -Nat.not_lt, -Nat.add_left_cancel_iff] at hb2)) | (refine draw_listA (by rfl) (by kernel_rfl) ?_) | (refine draw_listB (by simp [allocsOf, isAlloc]; rfl) (by kernel_rfl) ?_) | simp (maxSteps := 2000000) (disch := first | omega | assumption | simp [*]) [*, -Int.not_le, -Int.not_lt, -Nat.not_le, -Nat.not_lt, -Nat.add_left_cancel_iff, wrap_i64, wrap_u64, Try.f71, isI_cells hv, isI_one hv, isI_low hv, isI_len hv])
theorem l19Sets_s {n o a : Int} {v : AV} (hv : IsI v) {K : AV → Prop} {tg : Tg K} : CW env 71 [.agg [.int .i64 n, v], .int .i64 o, .int .i64 a] K tg ↔ K (.bool (decide (PCtx n (xsOf v)) && PSet (xsOf v).length o && PSet n a)) := callsTo_iff (l19Sets_c hv)
attribute [simp] l19Sets_s
theorem sArrClosed_c {n o a : Int} {v : AV} (hv : IsI v) : EvC env 27 [.agg [.int .i64 n, v], .int .i64 o, .int .i64 a] (.bool (decide (ArrP n (xsOf v) o a))) := by
  refine evC_of (F := Try.f27) rfl rfl (Nat.le_of_ble_eq_true rfl) ?_
  by_cases hp : PCtx n (xsOf v)
  · by_cases ho : PSet (xsOf v).length o = true
    · by_cases ha : PSet n a = true
      · obtain ⟨N, rfl⟩ : ∃ N : Nat, n = N := ⟨n.toNat, by have := hp.1; omega⟩
        have hl := hp.2.2.1
        have hN8 : N ≤ 8 := by have := hp.2.1; omega
        have o1 := pset_lt ho
        have a1 := pset_lt ha
        repeat' (first | (apply br_intro <;> intro hb <;> (have hb2 := hb) <;> (try simp [-Int.not_le, -Int.not_lt, -Nat.not_le, -Nat.not_lt, -Nat.add_left_cancel_iff] at hb2)) | (refine draw_listA (by rfl) (by kernel_rfl) ?_) | (refine draw_listB (by simp [allocsOf, isAlloc]; rfl) (by kernel_rfl) ?_) | simp (maxSteps := 2000000) (disch := first | omega | assumption | simp [*]) [*, -Int.not_le, -Int.not_lt, -Nat.not_le, -Nat.not_lt, -Nat.add_left_cancel_iff, wrap_i64, wrap_u64, Try.f27, isI_cells hv, isI_one hv, isI_low hv, isI_len hv])
        refine W_loopP (xsOf v).length (fun i s => s 7 = .int .i64 i ∧ s 1 = .int .i64 o ∧ s 2 = .int .i64 a ∧ s 3 = .vp 3 0 0 ∧ ∀ g, g < i → (PHas o g = true → PSub (Up (xsOf v) N g) a = true) ∧ (PHas o g = false → meetB (Down (xsOf v) N g) a = false)) rfl ?_ ?_
        · simp
        rintro i s hi ⟨h7, h1, h2, h3, hj⟩
        by_cases hi2 : i < (xsOf v).length
        · have u1 := pset_lt (up_pset (xsOf v) i hN8)
          have d1 := pset_lt (down_pset (xsOf v) i hN8)
          have hsub := psub_and (t := a) u1.1
          have hm : meetB (Down (xsOf v) N i) a = decide ((Down (xsOf v) N i).toNat &&& a.toNat ≠ 0) := rfl
          have hbad : ¬ ((PHas o i = true → PSub (Up (xsOf v) N i) a = true) ∧ (PHas o i = false → meetB (Down (xsOf v) N i) a = false)) → ¬ ArrP N (xsOf v) o a := fun h h2 => h (h2.2.2.2 i hi2)
          have hgood : ((PHas o i = true → PSub (Up (xsOf v) N i) a = true) ∧ (PHas o i = false → meetB (Down (xsOf v) N i) a = false)) → ∀ g, g < i + 1 → (PHas o g = true → PSub (Up (xsOf v) N g) a = true) ∧ (PHas o g = false → meetB (Down (xsOf v) N g) a = false) := fun h g hg => by
            by_cases e : g = i
            · subst e; exact h
            · exact hj g (by omega)
          clear hj
          repeat' (first | (apply br_intro <;> intro hb <;> (have hb2 := hb) <;> (try simp [-Int.not_le, -Int.not_lt, -Nat.not_le, -Nat.not_lt, -Nat.add_left_cancel_iff] at hb2)) | (refine draw_listA (by rfl) (by kernel_rfl) ?_) | (refine draw_listB (by simp [allocsOf, isAlloc]; rfl) (by kernel_rfl) ?_) | simp (maxSteps := 2000000) (disch := first | omega | assumption | simp [*]) [*, -Int.not_le, -Int.not_lt, -Nat.not_le, -Nat.not_lt, -Nat.add_left_cancel_iff, wrap_i64, wrap_u64, h7, h1, h2, h3, bits_and, isI_cells hv, isI_one hv, isI_low hv, isI_len hv])
          all_goals first | (apply hbad; simp_all; done) | (apply hgood; simp_all; done) | skip
        · obtain rfl : i = (xsOf v).length := by omega
          repeat' (first | (apply br_intro <;> intro hb <;> (have hb2 := hb) <;> (try simp [-Int.not_le, -Int.not_lt, -Nat.not_le, -Nat.not_lt, -Nat.add_left_cancel_iff] at hb2)) | (refine draw_listA (by rfl) (by kernel_rfl) ?_) | (refine draw_listB (by simp [allocsOf, isAlloc]; rfl) (by kernel_rfl) ?_) | simp (maxSteps := 2000000) (disch := first | omega | assumption | simp [*]) [*, -Int.not_le, -Int.not_lt, -Nat.not_le, -Nat.not_lt, -Nat.add_left_cancel_iff, wrap_i64, wrap_u64, h7, h1, h2, h3, isI_cells hv, isI_one hv, isI_low hv, isI_len hv])
          exact ⟨hp, ho, ha, hj⟩
      · have hc : ¬ ArrP n (xsOf v) o a := fun h => ha h.2.2.1
        repeat' (first | (apply br_intro <;> intro hb <;> (have hb2 := hb) <;> (try simp [-Int.not_le, -Int.not_lt, -Nat.not_le, -Nat.not_lt, -Nat.add_left_cancel_iff] at hb2)) | (refine draw_listA (by rfl) (by kernel_rfl) ?_) | (refine draw_listB (by simp [allocsOf, isAlloc]; rfl) (by kernel_rfl) ?_) | simp (maxSteps := 2000000) (disch := first | omega | assumption | simp [*]) [*, -Int.not_le, -Int.not_lt, -Nat.not_le, -Nat.not_lt, -Nat.add_left_cancel_iff, wrap_i64, wrap_u64, Try.f27, isI_cells hv, isI_one hv, isI_low hv, isI_len hv])
    · have hc : ¬ ArrP n (xsOf v) o a := fun h => ho h.2.1
      repeat' (first | (apply br_intro <;> intro hb <;> (have hb2 := hb) <;> (try simp [-Int.not_le, -Int.not_lt, -Nat.not_le, -Nat.not_lt, -Nat.add_left_cancel_iff] at hb2)) | (refine draw_listA (by rfl) (by kernel_rfl) ?_) | (refine draw_listB (by simp [allocsOf, isAlloc]; rfl) (by kernel_rfl) ?_) | simp (maxSteps := 2000000) (disch := first | omega | assumption | simp [*]) [*, -Int.not_le, -Int.not_lt, -Nat.not_le, -Nat.not_lt, -Nat.add_left_cancel_iff, wrap_i64, wrap_u64, Try.f27, isI_cells hv, isI_one hv, isI_low hv, isI_len hv])
  · have hc : ¬ ArrP n (xsOf v) o a := fun h => hp h.1
    repeat' (first | (apply br_intro <;> intro hb <;> (have hb2 := hb) <;> (try simp [-Int.not_le, -Int.not_lt, -Nat.not_le, -Nat.not_lt, -Nat.add_left_cancel_iff] at hb2)) | (refine draw_listA (by rfl) (by kernel_rfl) ?_) | (refine draw_listB (by simp [allocsOf, isAlloc]; rfl) (by kernel_rfl) ?_) | simp (maxSteps := 2000000) (disch := first | omega | assumption | simp [*]) [*, -Int.not_le, -Int.not_lt, -Nat.not_le, -Nat.not_lt, -Nat.add_left_cancel_iff, wrap_i64, wrap_u64, Try.f27, isI_cells hv, isI_one hv, isI_low hv, isI_len hv])
theorem sArrClosed_s {n o a : Int} {v : AV} (hv : IsI v) {K : AV → Prop} {tg : Tg K} : CW env 27 [.agg [.int .i64 n, v], .int .i64 o, .int .i64 a] K tg ↔ K (.bool (decide (ArrP n (xsOf v) o a))) := callsTo_iff (sArrClosed_c hv)
attribute [simp] sArrClosed_s
theorem lawIsArrowClosed_c {n o a : Int} {v : AV} (hv : IsI v) : EvC env 5 [.agg [.int .i64 n, v], .int .i64 o, .int .i64 a] (.bool true) := by
  refine evC_of (F := Try.f5) rfl rfl (Nat.le_of_ble_eq_true rfl) ?_
  have := hv.len
  repeat' (first | (apply br_intro <;> intro hb <;> (have hb2 := hb) <;> (try simp [-Int.not_le, -Int.not_lt, -Nat.not_le, -Nat.not_lt, -Nat.add_left_cancel_iff] at hb2)) | (refine draw_listA (by rfl) (by kernel_rfl) ?_) | (refine draw_listB (by simp [allocsOf, isAlloc]; rfl) (by kernel_rfl) ?_) | simp (maxSteps := 2000000) (disch := first | omega | assumption | simp [*]) [*, -Int.not_le, -Int.not_lt, -Nat.not_le, -Nat.not_lt, -Nat.add_left_cancel_iff, wrap_i64, wrap_u64, Try.f5, isI_cells hv, isI_one hv, isI_low hv])
theorem lawIsArrowClosed_s {n o a : Int} {v : AV} (hv : IsI v) {K : AV → Prop} {tg : Tg K} : CW env 5 [.agg [.int .i64 n, v], .int .i64 o, .int .i64 a] K tg ↔ K (.bool true) := callsTo_iff (lawIsArrowClosed_c hv)
attribute [simp] lawIsArrowClosed_s
end Go.Proofs.Ytemmdkeehkehcaa
