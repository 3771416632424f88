/- Explorations compared and counted. Conditions: none. -/
import Derived.Test.YtlglhokpaplifaaGreatDoorExplV
import Derived.Test.YtlglhokpaplifaaGreatDoorExplI
import Derived.Test.YtlglhokpaplifaaGreatDoorStem
namespace Go.Proofs.YtlglhokpaplifaaGreatDoor
open Ev
set_option linter.unusedVariables false
set_option linter.unusedSimpArgs false
set_option maxHeartbeats 4000000

theorem neq_rule (a b c e : Int) : binT env .neq 40 (.agg [.int .i64 a, .int .i64 b]) (.agg [.int .i64 c, .int .i64 e]) = some (.bool (!(decide (a = c) && decide (b = e)))) := by
  by_cases h1 : a = c
  · subst h1
    by_cases h2 : b = e
    · subst h2; simp [binT, eqT, eqFs, eqR, partOf, TD.agg?]
    · have f := beq_false_of_ne h2
      simp [binT, eqT, eqFs, eqR, partOf, TD.agg?, f, h2]
  · have f := beq_false_of_ne h1
    simp [binT, eqT, eqFs, eqR, partOf, TD.agg?, f, h1]
theorem neq_quest (a b d : Int) (c : Bool) : binT env .neq 42 (.agg [.int .i64 a, .int .i64 b, .bool c, .int .i64 d]) (.agg [.int .i64 a, .int .i64 b, .bool c, .int .i64 d]) = some (.bool false) := by
  simp [binT, eqT, eqFs, eqR, partOf, TD.agg?]
theorem sameRules_c {u v : AV} (hu : IsP u) (hv : IsP v) (h1 : fsts u = fsts v) (h2 : snds u = snds v) : EvC env 21 [u, v] (.bool true) := by
  refine evC_of (F := Tryz.f21) rfl rfl (Nat.le_of_ble_eq_true rfl) ?_
  have := hu.len
  have := hv.len
  have hul := hu.lens
  have hvl := hv.lens
  have hl : (fsts u).length = (fsts v).length := by rw [h1]
  have hli : ((fsts u).length : Int) = (fsts v).length := by omega
  have hj : ∀ j, nth (fsts u) j = nth (fsts v) j ∧ nth (snds u) j = nth (snds v) j := fun j => ⟨by rw [h1], by rw [h2]⟩
  clear h1 h2
  repeat' (first | (apply brI <;> intro hb hb2 <;> (try simp [-Int.not_le, -Int.not_lt, -Nat.not_le, -Nat.not_lt, -Nat.add_left_cancel_iff] at hb2)) | (refine draw_listA (by rfl) (by kernel_rfl) ?_) | (refine draw_listB (by simp [allocsOf, isAlloc]; rfl) (by kernel_rfl) ?_) | simp (maxSteps := 2000000) (disch := first | omega | assumption | simp [*]) [*, -Int.not_le, -Int.not_lt, -Nat.not_le, -Nat.not_lt, -Nat.add_left_cancel_iff, wrap_i64, wrap_u64, Tryz.f21, isP_len hu, isP_low hu, isP_len hv, isP_low hv])
  refine W_loopP (fsts v).length (fun i s => s 5 = .int .i64 i ∧ s 0 = u ∧ s 1 = v) rfl ?_ ?_
  · simp
  rintro i s hi ⟨h5, h0, h1⟩
  by_cases hi2 : i < (fsts v).length
  · have hi3 : i < (fsts u).length := by omega
    obtain ⟨e1, e2⟩ := hj i
    clear hj
    repeat' (first | (apply brI <;> intro hb hb2 <;> (try simp [-Int.not_le, -Int.not_lt, -Nat.not_le, -Nat.not_lt, -Nat.add_left_cancel_iff] at hb2)) | (refine draw_listA (by rfl) (by kernel_rfl) ?_) | (refine draw_listB (by simp [allocsOf, isAlloc]; rfl) (by kernel_rfl) ?_) | simp (maxSteps := 2000000) (disch := first | omega | assumption | simp [*]) [*, -Int.not_le, -Int.not_lt, -Nat.not_le, -Nat.not_lt, -Nat.add_left_cancel_iff, wrap_i64, wrap_u64, h5, h0, h1, isP_len hu, isP_low hu, isP_index hu, isP_len hv, isP_low hv, isP_index hv, neq_rule])
  · obtain rfl : i = (fsts v).length := by omega
    clear hj
    repeat' (first | (apply brI <;> intro hb hb2 <;> (try simp [-Int.not_le, -Int.not_lt, -Nat.not_le, -Nat.not_lt, -Nat.add_left_cancel_iff] at hb2)) | (refine draw_listA (by rfl) (by kernel_rfl) ?_) | (refine draw_listB (by simp [allocsOf, isAlloc]; rfl) (by kernel_rfl) ?_) | simp (maxSteps := 2000000) (disch := first | omega | assumption | simp [*]) [*, -Int.not_le, -Int.not_lt, -Nat.not_le, -Nat.not_lt, -Nat.add_left_cancel_iff, wrap_i64, wrap_u64, h5, h0, h1, isP_len hu])
theorem sameRules_s {u v : AV} (hu : IsP u) (hv : IsP v) (h1 : fsts u = fsts v) (h2 : snds u = snds v) {K : AV → Prop} {tg : Tg K} : CW env 21 [u, v] K tg ↔ K (.bool true) := callsTo_iff (sameRules_c hu hv h1 h2)
attribute [simp] sameRules_s
theorem sameExploration_c {q r x : AV} {m : Int} (hq : IsM q) (hr : IsP r) (hx : IsI x) : EvC env 14 [.agg [q, r, .int .i64 m, x], .agg [q, r, .int .i64 m, x]] (.bool true) := by
  refine evC_of (F := Tryz.f14) rfl rfl (Nat.le_of_ble_eq_true rfl) ?_
  have hql := hq.len
  have oq := isM_one hq
  have cq := isM_cells hq
  have or' := isP_one hr
  have cr := isP_cells hr
  have ox := isI_one hx
  have cx := isI_cells hx
  have h1 : ∀ (K : AV → Prop) (tg : Tg K), CW env 21 [r, r] K tg ↔ K (.bool true) := fun K tg => callsTo_iff (sameRules_c hr hr rfl rfl)
  have h2 : ∀ (K : AV → Prop) (tg : Tg K), CW env 60 [.agg [.int .i64 m, x], .agg [.int .i64 m, x]] K tg ↔ K (.bool true) := fun K tg => callsTo_iff (by
    have := sEqualContext_c (n := m) (m := m) hx hx
    simpa using this)
  repeat' (first | (apply brI <;> intro hb hb2 <;> (try simp [-Int.not_le, -Int.not_lt, -Nat.not_le, -Nat.not_lt, -Nat.add_left_cancel_iff] at hb2)) | (refine draw_listA (by rfl) (by kernel_rfl) ?_) | (refine draw_listB (by simp [allocsOf, isAlloc]; rfl) (by kernel_rfl) ?_) | simp (maxSteps := 2000000) (disch := first | omega | assumption | simp [*]) [*, -Int.not_le, -Int.not_lt, -Nat.not_le, -Nat.not_lt, -Nat.add_left_cancel_iff, wrap_i64, wrap_u64, Tryz.f14, isM_len hq, isM_low hq, isP_low hr, isI_low hx])
  refine W_loopP (esOf q).length (fun i s => s 5 = .int .i64 i ∧ s 2 = .vp 2 0 0 ∧ s 3 = .vp 3 0 0) rfl ?_ ?_
  · simp
  rintro i s hi ⟨h5, h2, h3⟩
  by_cases hi2 : i < (esOf q).length
  · repeat' (first | (apply brI <;> intro hb hb2 <;> (try simp [-Int.not_le, -Int.not_lt, -Nat.not_le, -Nat.not_lt, -Nat.add_left_cancel_iff] at hb2)) | (refine draw_listA (by rfl) (by kernel_rfl) ?_) | (refine draw_listB (by simp [allocsOf, isAlloc]; rfl) (by kernel_rfl) ?_) | simp (maxSteps := 2000000) (disch := first | omega | assumption | simp [*]) [*, -Int.not_le, -Int.not_lt, -Nat.not_le, -Nat.not_lt, -Nat.add_left_cancel_iff, wrap_i64, wrap_u64, h5, h2, h3, isM_len hq, isM_low hq, isM_index hq, neq_quest])
  · obtain rfl : i = (esOf q).length := by omega
    repeat' (first | (apply brI <;> intro hb hb2 <;> (try simp [-Int.not_le, -Int.not_lt, -Nat.not_le, -Nat.not_lt, -Nat.add_left_cancel_iff] at hb2)) | (refine draw_listA (by rfl) (by kernel_rfl) ?_) | (refine draw_listB (by simp [allocsOf, isAlloc]; rfl) (by kernel_rfl) ?_) | simp (maxSteps := 2000000) (disch := first | omega | assumption | simp [*]) [*, -Int.not_le, -Int.not_lt, -Nat.not_le, -Nat.not_lt, -Nat.add_left_cancel_iff, wrap_i64, wrap_u64, h5, h2, h3, isM_len hq])
theorem sameExploration_s {q r x : AV} {m : Int} (hq : IsM q) (hr : IsP r) (hx : IsI x) {K : AV → Prop} {tg : Tg K} : CW env 14 [.agg [q, r, .int .i64 m, x], .agg [q, r, .int .i64 m, x]] K tg ↔ K (.bool true) := callsTo_iff (sameExploration_c hq hr hx)
attribute [simp] sameExploration_s
/-- how many questions are accepted -/
def accTo (q : AV) (i : Nat) : Nat := ((List.range i).filter fun j => mC q j).length
theorem accTo_succ (q : AV) (i : Nat) : accTo q (i + 1) = accTo q i + if mC q i = true then 1 else 0 := by
  unfold accTo
  rw [List.range_succ, List.filter_append, List.length_append]
  cases h : mC q i <;> simp [h]
theorem accTo_le (q : AV) (i : Nat) : accTo q i ≤ i := by
  have := List.length_filter_le (fun j => mC q j) (List.range i)
  simpa [accTo] using this
theorem l1BitE_c {b : Bool} : EvC env 65 [.bool b] (.int .i64 (if b then 1 else 0)) := by
  refine evC_of (F := Tryz.f65) rfl rfl (Nat.le_of_ble_eq_true rfl) ?_
  cases b <;> repeat' (first | (apply brI <;> intro hb hb2 <;> (try simp [-Int.not_le, -Int.not_lt, -Nat.not_le, -Nat.not_lt, -Nat.add_left_cancel_iff] at hb2)) | (refine draw_listA (by rfl) (by kernel_rfl) ?_) | (refine draw_listB (by simp [allocsOf, isAlloc]; rfl) (by kernel_rfl) ?_) | simp (maxSteps := 2000000) (disch := first | omega | assumption | simp [*]) [*, -Int.not_le, -Int.not_lt, -Nat.not_le, -Nat.not_lt, -Nat.add_left_cancel_iff, wrap_i64, wrap_u64, Tryz.f65])
theorem l1BitE_s {b : Bool} {K : AV → Prop} {tg : Tg K} : CW env 65 [.bool b] K tg ↔ K (.int .i64 (if b then 1 else 0)) := callsTo_iff (l1BitE_c )
attribute [simp] l1BitE_s
theorem sCount_c {q r x : AV} {m : Int} (hq : IsM q) (hr : IsP r) (hx : IsI x) : EvC env 18 [.agg [q, r, .int .i64 m, x]] (.int .i64 (accTo q (esOf q).length : Nat)) := by
  refine evC_of (F := Tryz.f18) rfl rfl (Nat.le_of_ble_eq_true rfl) ?_
  have hql := hq.len
  unfold top63 at hql
  have oq := isM_one hq
  have cq := isM_cells hq
  have or' := isP_one hr
  have cr := isP_cells hr
  have ox := isI_one hx
  have cx := isI_cells hx
  repeat' (first | (apply brI <;> intro hb hb2 <;> (try simp [-Int.not_le, -Int.not_lt, -Nat.not_le, -Nat.not_lt, -Nat.add_left_cancel_iff] at hb2)) | (refine draw_listA (by rfl) (by kernel_rfl) ?_) | (refine draw_listB (by simp [allocsOf, isAlloc]; rfl) (by kernel_rfl) ?_) | simp (maxSteps := 2000000) (disch := first | omega | assumption | simp [*]) [*, -Int.not_le, -Int.not_lt, -Nat.not_le, -Nat.not_lt, -Nat.add_left_cancel_iff, wrap_i64, wrap_u64, Tryz.f18, isM_len hq, isM_low hq])
  refine W_loopP (esOf q).length (fun i s => s 4 = .int .i64 i ∧ s 1 = .vp 1 0 0 ∧ s 3 = .int .i64 (accTo q i : Nat)) rfl ?_ ?_
  · simp [accTo]
  rintro i s hi ⟨h4, h1, h3⟩
  have hle := accTo_le q i
  by_cases hi2 : i < (esOf q).length
  · have hsu := accTo_succ q i
    obtain ⟨A, hA⟩ : ∃ A, accTo q i = A := ⟨_, rfl⟩
    rw [hA] at hle hsu h3
    cases hc : mC q i with
    | true =>
      rw [if_pos hc] at hsu
      repeat' (first | (apply brI <;> intro hb hb2 <;> (try simp [-Int.not_le, -Int.not_lt, -Nat.not_le, -Nat.not_lt, -Nat.add_left_cancel_iff] at hb2)) | (refine draw_listA (by rfl) (by kernel_rfl) ?_) | (refine draw_listB (by simp [allocsOf, isAlloc]; rfl) (by kernel_rfl) ?_) | simp (maxSteps := 2000000) (disch := first | omega | assumption | simp [*]) [*, -Int.not_le, -Int.not_lt, -Nat.not_le, -Nat.not_lt, -Nat.add_left_cancel_iff, wrap_i64, wrap_u64, h4, h1, h3, isM_len hq, isM_low hq, isM_index hq])
    | false =>
      rw [if_neg (by simp [hc])] at hsu
      repeat' (first | (apply brI <;> intro hb hb2 <;> (try simp [-Int.not_le, -Int.not_lt, -Nat.not_le, -Nat.not_lt, -Nat.add_left_cancel_iff] at hb2)) | (refine draw_listA (by rfl) (by kernel_rfl) ?_) | (refine draw_listB (by simp [allocsOf, isAlloc]; rfl) (by kernel_rfl) ?_) | simp (maxSteps := 2000000) (disch := first | omega | assumption | simp [*]) [*, -Int.not_le, -Int.not_lt, -Nat.not_le, -Nat.not_lt, -Nat.add_left_cancel_iff, wrap_i64, wrap_u64, h4, h1, h3, isM_len hq, isM_low hq, isM_index hq])
  · obtain rfl : i = (esOf q).length := by omega
    repeat' (first | (apply brI <;> intro hb hb2 <;> (try simp [-Int.not_le, -Int.not_lt, -Nat.not_le, -Nat.not_lt, -Nat.add_left_cancel_iff] at hb2)) | (refine draw_listA (by rfl) (by kernel_rfl) ?_) | (refine draw_listB (by simp [allocsOf, isAlloc]; rfl) (by kernel_rfl) ?_) | simp (maxSteps := 2000000) (disch := first | omega | assumption | simp [*]) [*, -Int.not_le, -Int.not_lt, -Nat.not_le, -Nat.not_lt, -Nat.add_left_cancel_iff, wrap_i64, wrap_u64, h4, h1, h3, isM_len hq])
theorem sCount_s {q r x : AV} {m : Int} (hq : IsM q) (hr : IsP r) (hx : IsI x) {K : AV → Prop} {tg : Tg K} : CW env 18 [.agg [q, r, .int .i64 m, x]] K tg ↔ K (.int .i64 (accTo q (esOf q).length : Nat)) := callsTo_iff (sCount_c hq hr hx)
attribute [simp] sCount_s
theorem iCount_c {q r x : AV} {m : Int} (hq : IsM q) (hr : IsP r) (hx : IsI x) : EvC env 17 [.agg [q, r, .int .i64 m, x]] (.int .i64 (accTo q (esOf q).length : Nat)) := by
  refine evC_of (F := Tryz.f17) rfl rfl (Nat.le_of_ble_eq_true rfl) ?_
  have hql := hq.len
  unfold top63 at hql
  have oq := isM_one hq
  have cq := isM_cells hq
  have or' := isP_one hr
  have cr := isP_cells hr
  have ox := isI_one hx
  have cx := isI_cells hx
  repeat' (first | (apply brI <;> intro hb hb2 <;> (try simp [-Int.not_le, -Int.not_lt, -Nat.not_le, -Nat.not_lt, -Nat.add_left_cancel_iff] at hb2)) | (refine draw_listA (by rfl) (by kernel_rfl) ?_) | (refine draw_listB (by simp [allocsOf, isAlloc]; rfl) (by kernel_rfl) ?_) | simp (maxSteps := 2000000) (disch := first | omega | assumption | simp [*]) [*, -Int.not_le, -Int.not_lt, -Nat.not_le, -Nat.not_lt, -Nat.add_left_cancel_iff, wrap_i64, wrap_u64, Tryz.f17, isM_len hq, isM_low hq])
  refine W_loopG (esOf q).length (fun i s h => s 9 = .int .i64 i ∧ s 8 = .int .i64 (esOf q).length ∧ s 7 = q ∧ s 3 = .int .i64 (accTo q i : Nat)) ?_ ?_
  · simp [accTo]
  rintro i s h hi ⟨h9, h8, h7, h3⟩
  have hle := accTo_le q i
  by_cases hi2 : i < (esOf q).length
  · have hsu := accTo_succ q i
    obtain ⟨A, hA⟩ : ∃ A, accTo q i = A := ⟨_, rfl⟩
    rw [hA] at hle hsu h3
    cases hc : mC q i with
    | true =>
      rw [if_pos hc] at hsu
      repeat' (first | (apply brI <;> intro hb hb2 <;> (try simp [-Int.not_le, -Int.not_lt, -Nat.not_le, -Nat.not_lt, -Nat.add_left_cancel_iff] at hb2)) | (refine draw_listA (by rfl) (by kernel_rfl) ?_) | (refine draw_listB (by simp [allocsOf, isAlloc]; rfl) (by kernel_rfl) ?_) | simp (maxSteps := 2000000) (disch := first | omega | assumption | simp [*]) [*, -Int.not_le, -Int.not_lt, -Nat.not_le, -Nat.not_lt, -Nat.add_left_cancel_iff, wrap_i64, wrap_u64, h9, h8, h7, h3, isM_len hq, isM_low hq, isM_index hq])
    | false =>
      rw [if_neg (by simp [hc])] at hsu
      repeat' (first | (apply brI <;> intro hb hb2 <;> (try simp [-Int.not_le, -Int.not_lt, -Nat.not_le, -Nat.not_lt, -Nat.add_left_cancel_iff] at hb2)) | (refine draw_listA (by rfl) (by kernel_rfl) ?_) | (refine draw_listB (by simp [allocsOf, isAlloc]; rfl) (by kernel_rfl) ?_) | simp (maxSteps := 2000000) (disch := first | omega | assumption | simp [*]) [*, -Int.not_le, -Int.not_lt, -Nat.not_le, -Nat.not_lt, -Nat.add_left_cancel_iff, wrap_i64, wrap_u64, h9, h8, h7, h3, isM_len hq, isM_low hq, isM_index hq])
  · obtain rfl : i = (esOf q).length := by omega
    repeat' (first | (apply brI <;> intro hb hb2 <;> (try simp [-Int.not_le, -Int.not_lt, -Nat.not_le, -Nat.not_lt, -Nat.add_left_cancel_iff] at hb2)) | (refine draw_listA (by rfl) (by kernel_rfl) ?_) | (refine draw_listB (by simp [allocsOf, isAlloc]; rfl) (by kernel_rfl) ?_) | simp (maxSteps := 2000000) (disch := first | omega | assumption | simp [*]) [*, -Int.not_le, -Int.not_lt, -Nat.not_le, -Nat.not_lt, -Nat.add_left_cancel_iff, wrap_i64, wrap_u64, h9, h8, h7, h3, isM_len hq])
theorem iCount_s {q r x : AV} {m : Int} (hq : IsM q) (hr : IsP r) (hx : IsI x) {K : AV → Prop} {tg : Tg K} : CW env 17 [.agg [q, r, .int .i64 m, x]] K tg ↔ K (.int .i64 (accTo q (esOf q).length : Nat)) := callsTo_iff (iCount_c hq hr hx)
attribute [simp] iCount_s
theorem sRespects_c {a b : Nat} {x : Int} (ha : a < 64) (hb : b < 64) (h0 : 0 ≤ x) (h1 : x < 256) (h2 : PSub a x = true) (h3 : PSub b x = false) : EvC env 20 [.agg [.int .i64 a, .int .i64 b], .int .i64 x] (.bool false) := by
  refine evC_of (F := Tryz.f20) rfl rfl (Nat.le_of_ble_eq_true rfl) ?_
  have sa := (psub_and (s := (a : Int)) (t := x) (by omega)).2 h2
  have sb : ¬ (((b : Int).toNat &&& x.toNat : Nat) : Int) = b := fun h => by
    have := (psub_and (s := (b : Int)) (t := x) (by omega)).1 h
    rw [h3] at this; cases this
  simp only [Int.toNat_natCast] at sa sb
  have pa := pset8_small ha
  have pb := pset8_small hb
  clear h2 h3
  repeat' (first | (apply brI <;> intro hb hb2 <;> (try simp [-Int.not_le, -Int.not_lt, -Nat.not_le, -Nat.not_lt, -Nat.add_left_cancel_iff] at hb2)) | (refine draw_listA (by rfl) (by kernel_rfl) ?_) | (refine draw_listB (by simp [allocsOf, isAlloc]; rfl) (by kernel_rfl) ?_) | simp (maxSteps := 2000000) (disch := first | omega | assumption | simp [*]) [*, -Int.not_le, -Int.not_lt, -Nat.not_le, -Nat.not_lt, -Nat.add_left_cancel_iff, wrap_i64, wrap_u64, Tryz.f20, bits_and])
theorem sRespects_s {a b : Nat} {x : Int} (ha : a < 64) (hb : b < 64) (h0 : 0 ≤ x) (h1 : x < 256) (h2 : PSub a x = true) (h3 : PSub b x = false) {K : AV → Prop} {tg : Tg K} : CW env 20 [.agg [.int .i64 a, .int .i64 b], .int .i64 x] K tg ↔ K (.bool false) := callsTo_iff (sRespects_c ha hb h0 h1 h2 h3)
attribute [simp] sRespects_s
end Go.Proofs.YtlglhokpaplifaaGreatDoor
