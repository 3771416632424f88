/- Intents, closures, rules that hold. Conditions: none. -/
import Derived.Test.YtkkkgaapkibhkaaConf
namespace Go.Proofs.Ytkkkgaapkibhkaa
open Ev
set_option linter.unusedVariables false
set_option linter.unusedSimpArgs false
set_option maxHeartbeats 4000000

/-- the attributes that all objects of a set have -/
def IntS (xs : List Int) (N : Nat) (o : Int) : Int := setOf (comG (fun _ => true) (fun k m => PHas (nth xs k) m) o xs.length) N
theorem int_pset (xs : List Int) {N : Nat} (o : Int) (h : N ≤ 8) : PSet N (IntS xs N o) = true := setOf_pset _ h
theorem ext_pset (xs : List Int) (s : Int) (h : xs.length ≤ 8) : PSet xs.length (Ext xs s) = true := setOf_pset _ h
theorem ctx_self {N : Nat} {xs : List Int} (hc : PCtx N xs) (i : Nat) (hi : i < xs.length) : nth xs i = setOf (fun m => PHas (nth xs i) m) N := setOf_self (hc.2.2.2 i hi)
theorem l4Intent_c {N : Nat} {o : Int} {v : AV} (hv : IsI v) (hc : PCtx N (xsOf v)) (ho : PSet (xsOf v).length o = true) : EvC env 120 [.agg [.int .i64 N, v], .int .i64 o] (.int .i64 (IntS (xsOf v) N o)) := by
  refine evC_of (F := Try.f120) rfl rfl (Nat.le_of_ble_eq_true rfl) ?_
  have hl := hc.2.2.1
  have hn := hc.2.1
  have hN8 : N ≤ 8 := by omega
  have hN8' : (N : Int) ≤ 8 := by omega
  have o1 := pset_lt ho
  repeat' (first | (apply br_intro <;> intro hb <;> (have hb2 := hb) <;> (try simp [-Int.not_le, -Int.not_lt, -Nat.not_le, -Nat.not_lt, -Nat.add_left_cancel_iff] at hb2)) | (refine draw_listA (by rfl) (by kernel_rfl) ?_) | (refine draw_listB (by simp [allocsOf, isAlloc]; rfl) (by kernel_rfl) ?_) | simp (maxSteps := 2000000) (disch := first | omega | assumption | simp [*]) [*, -Int.not_le, -Int.not_lt, -Nat.not_le, -Nat.not_lt, -Nat.add_left_cancel_iff, wrap_i64, wrap_u64, Try.f120, isI_cells hv, isI_one hv, isI_low hv, isI_len hv])
  refine W_loopP (xsOf v).length (fun i st => st 6 = .int .i64 i ∧ st 1 = .int .i64 o ∧ st 2 = .vp 2 0 0 ∧ st 5 = .int .i64 (setOf (comG (fun _ => true) (fun k m => PHas (nth (xsOf v) k) m) o i) N)) rfl ?_ ?_
  · simp
    rw [← setOf_full]
    exact setOf_congr fun g _ => by simp [comG]
  rintro i st hi ⟨h6, h1, h2, h5⟩
  by_cases hi2 : i < (xsOf v).length
  · have r1 := pctx_row hc hi2
    have r2 := setOf_range (comG (fun _ => true) (fun k m => PHas (nth (xsOf v) k) m) o i) N
    have r3 := setOf_small (comG (fun _ => true) (fun k m => PHas (nth (xsOf v) k) m) o i) hN8
    have hs := ctx_self hc i hi2
    have ha := setOf_and (comG (fun _ => true) (fun k m => PHas (nth (xsOf v) k) m) o i) (fun m => PHas (nth (xsOf v) i) m) N
    rw [← hs] at ha
    clear hs
    repeat' (first | (apply br_intro <;> intro hb <;> (have hb2 := hb) <;> (try simp [-Int.not_le, -Int.not_lt, -Nat.not_le, -Nat.not_lt, -Nat.add_left_cancel_iff] at hb2)) | (refine draw_listA (by rfl) (by kernel_rfl) ?_) | (refine draw_listB (by simp [allocsOf, isAlloc]; rfl) (by kernel_rfl) ?_) | simp (maxSteps := 2000000) (disch := first | omega | assumption | simp [*]) [*, -Int.not_le, -Int.not_lt, -Nat.not_le, -Nat.not_lt, -Nat.add_left_cancel_iff, wrap_i64, wrap_u64, h6, h1, h2, h5, bits_and, isI_cells hv, isI_one hv, isI_low hv, isI_len hv, isI_index hv, isI_load hv])
    · exact setOf_congr fun g _ => by rw [comG_succ]; grind
    · exact setOf_congr fun g _ => by rw [comG_succ]; grind
  · obtain rfl : i = (xsOf v).length := by omega
    repeat' (first | (apply br_intro <;> intro hb <;> (have hb2 := hb) <;> (try simp [-Int.not_le, -Int.not_lt, -Nat.not_le, -Nat.not_lt, -Nat.add_left_cancel_iff] at hb2)) | (refine draw_listA (by rfl) (by kernel_rfl) ?_) | (refine draw_listB (by simp [allocsOf, isAlloc]; rfl) (by kernel_rfl) ?_) | simp (maxSteps := 2000000) (disch := first | omega | assumption | simp [*]) [*, -Int.not_le, -Int.not_lt, -Nat.not_le, -Nat.not_lt, -Nat.add_left_cancel_iff, wrap_i64, wrap_u64, h6, h1, h2, h5, isI_cells hv, isI_one hv, isI_low hv, isI_len hv])
    rfl
theorem l4Intent_s {N : Nat} {o : Int} {v : AV} (hv : IsI v) (hc : PCtx N (xsOf v)) (ho : PSet (xsOf v).length o = true) {K : AV → Prop} {tg : Tg K} : CW env 120 [.agg [.int .i64 N, v], .int .i64 o] K tg ↔ K (.int .i64 (IntS (xsOf v) N o)) := callsTo_iff (l4Intent_c hv hc ho)
attribute [simp] l4Intent_s
def Clo (xs : List Int) (N : Nat) (s : Int) : Int := IntS xs N (Ext xs s)
theorem l4Closure_c {N : Nat} {s : Int} {v : AV} (hv : IsI v) (hc : PCtx N (xsOf v)) (hs : PSet N s = true) : EvC env 92 [.agg [.int .i64 N, v], .int .i64 s] (.int .i64 (Clo (xsOf v) N s)) := by
  refine evC_of (F := Try.f92) rfl rfl (Nat.le_of_ble_eq_true rfl) ?_
  have he := ext_pset (xsOf v) s hc.2.2.1
  repeat' (first | (apply br_intro <;> intro hb <;> (have hb2 := hb) <;> (try simp [-Int.not_le, -Int.not_lt, -Nat.not_le, -Nat.not_lt, -Nat.add_left_cancel_iff] at hb2)) | (refine draw_listA (by rfl) (by kernel_rfl) ?_) | (refine draw_listB (by simp [allocsOf, isAlloc]; rfl) (by kernel_rfl) ?_) | simp (maxSteps := 2000000) (disch := first | omega | assumption | simp [*]) [*, -Int.not_le, -Int.not_lt, -Nat.not_le, -Nat.not_lt, -Nat.add_left_cancel_iff, wrap_i64, wrap_u64, Try.f92, isI_cells hv, isI_one hv, isI_low hv, isI_len hv])
  rfl
theorem l4Closure_s {N : Nat} {s : Int} {v : AV} (hv : IsI v) (hc : PCtx N (xsOf v)) (hs : PSet N s = true) {K : AV → Prop} {tg : Tg K} : CW env 92 [.agg [.int .i64 N, v], .int .i64 s] K tg ↔ K (.int .i64 (Clo (xsOf v) N s)) := callsTo_iff (l4Closure_c hv hc hs)
attribute [simp] l4Closure_s
theorem areObjects_c {n s : Int} {v : AV} (hv : IsI v) : EvC env 133 [.agg [.int .i64 n, v], .int .i64 s] (.bool (decide (PCtx n (xsOf v)) && PSet (xsOf v).length s)) := by
  refine evC_of (F := Try.f133) rfl rfl (Nat.le_of_ble_eq_true rfl) ?_
  repeat' (first | (apply br_intro <;> intro hb <;> (have hb2 := hb) <;> (try simp [-Int.not_le, -Int.not_lt, -Nat.not_le, -Nat.not_lt, -Nat.add_left_cancel_iff] at hb2)) | (refine draw_listA (by rfl) (by kernel_rfl) ?_) | (refine draw_listB (by simp [allocsOf, isAlloc]; rfl) (by kernel_rfl) ?_) | simp (maxSteps := 2000000) (disch := first | omega | assumption | simp [*]) [*, -Int.not_le, -Int.not_lt, -Nat.not_le, -Nat.not_lt, -Nat.add_left_cancel_iff, wrap_i64, wrap_u64, Try.f133, isI_cells hv, isI_one hv, isI_low hv, isI_len hv, isI_index hv, isI_load hv])
theorem areObjects_s {n s : Int} {v : AV} (hv : IsI v) {K : AV → Prop} {tg : Tg K} : CW env 133 [.agg [.int .i64 n, v], .int .i64 s] K tg ↔ K (.bool (decide (PCtx n (xsOf v)) && PSet (xsOf v).length s)) := callsTo_iff (areObjects_c hv)
attribute [simp] areObjects_s
theorem iIntentOf_c {N : Nat} {o : Int} {v : AV} (hv : IsI v) (hc : PCtx N (xsOf v)) (ho : PSet (xsOf v).length o = true) : EvC env 131 [.agg [.int .i64 N, v], .int .i64 o] (.int .i64 (IntS (xsOf v) N o)) := by
  refine evC_of (F := Try.f131) rfl rfl (Nat.le_of_ble_eq_true rfl) ?_
  have hl := hc.2.2.1
  have hn := hc.2.1
  have hN8 : N ≤ 8 := by omega
  have hN8' : (N : Int) ≤ 8 := by omega
  have h8 := pset8 ho
  have hcm := iCommon_c (v := v) (c := o) (L := N) (full := fun _ => true) (q := fun k m => PHas (nth (xsOf v) k) m) hv hN8 hl (ctx_self hc) h8
  rw [setOf_full] at hcm
  have hcs : ∀ (K : AV → Prop) (tg : Tg K), CW env 134 [v, .int .i64 o, .int .i64 (2 ^ N - 1)] K tg ↔ K (.int .i64 (IntS (xsOf v) N o)) := fun K tg => callsTo_iff hcm
  repeat' (first | (apply br_intro <;> intro hb <;> (have hb2 := hb) <;> (try simp [-Int.not_le, -Int.not_lt, -Nat.not_le, -Nat.not_lt, -Nat.add_left_cancel_iff] at hb2)) | (refine draw_listA (by rfl) (by kernel_rfl) ?_) | (refine draw_listB (by simp [allocsOf, isAlloc]; rfl) (by kernel_rfl) ?_) | simp (maxSteps := 2000000) (disch := first | omega | assumption | simp [*]) [*, -Int.not_le, -Int.not_lt, -Nat.not_le, -Nat.not_lt, -Nat.add_left_cancel_iff, wrap_i64, wrap_u64, Try.f131, isI_cells hv, isI_one hv, isI_low hv, isI_len hv, isI_index hv, isI_load hv])
theorem iIntentOf_s {N : Nat} {o : Int} {v : AV} (hv : IsI v) (hc : PCtx N (xsOf v)) (ho : PSet (xsOf v).length o = true) {K : AV → Prop} {tg : Tg K} : CW env 131 [.agg [.int .i64 N, v], .int .i64 o] K tg ↔ K (.int .i64 (IntS (xsOf v) N o)) := callsTo_iff (iIntentOf_c hv hc ho)
attribute [simp] iIntentOf_s
theorem iClosureOf_c {N : Nat} {s : Int} {v : AV} (hv : IsI v) (hc : PCtx N (xsOf v)) (hs : PSet N s = true) : EvC env 130 [.agg [.int .i64 N, v], .int .i64 s] (.int .i64 (Clo (xsOf v) N s)) := by
  refine evC_of (F := Try.f130) rfl rfl (Nat.le_of_ble_eq_true rfl) ?_
  have he := ext_pset (xsOf v) s hc.2.2.1
  repeat' (first | (apply br_intro <;> intro hb <;> (have hb2 := hb) <;> (try simp [-Int.not_le, -Int.not_lt, -Nat.not_le, -Nat.not_lt, -Nat.add_left_cancel_iff] at hb2)) | (refine draw_listA (by rfl) (by kernel_rfl) ?_) | (refine draw_listB (by simp [allocsOf, isAlloc]; rfl) (by kernel_rfl) ?_) | simp (maxSteps := 2000000) (disch := first | omega | assumption | simp [*]) [*, -Int.not_le, -Int.not_lt, -Nat.not_le, -Nat.not_lt, -Nat.add_left_cancel_iff, wrap_i64, wrap_u64, Try.f130, isI_cells hv, isI_one hv, isI_low hv, isI_len hv])
  rfl
theorem iClosureOf_s {N : Nat} {s : Int} {v : AV} (hv : IsI v) (hc : PCtx N (xsOf v)) (hs : PSet N s = true) {K : AV → Prop} {tg : Tg K} : CW env 130 [.agg [.int .i64 N, v], .int .i64 s] K tg ↔ K (.int .i64 (Clo (xsOf v) N s)) := callsTo_iff (iClosureOf_c hv hc hs)
attribute [simp] iClosureOf_s
def HoldC (n : Int) (xs : List Int) (a b : Int) : Prop := PCtx n xs ∧ PSet n a = true ∧ PSet n b = true ∧ PSub b (Clo xs n.toNat a) = true
noncomputable instance (n : Int) (xs : List Int) (a b : Int) : Decidable (HoldC n xs a b) := Classical.propDecidable _
theorem sHoldsIn_c {n a b : Int} {v : AV} (hv : IsI v) : EvC env 38 [.agg [.int .i64 n, v], .agg [.int .i64 a, .int .i64 b]] (.bool (decide (HoldC n (xsOf v) a b))) := by
  refine evC_of (F := Try.f38) rfl rfl (Nat.le_of_ble_eq_true rfl) ?_
  by_cases hp : PCtx n (xsOf v)
  · by_cases ha : PSet n a = true
    · by_cases hb : PSet n b = true
      · obtain ⟨N, rfl⟩ : ∃ N : Nat, n = N := ⟨n.toNat, by have := hp.1; omega⟩
        have hl := hp.2.2.1
        have hn := hp.2.1
        have hN8 : N ≤ 8 := by omega
        have b1 := pset_lt hb
        have hcp : PSet N (Clo (xsOf v) N a) = true := int_pset _ _ hN8
        have hc1 := pset_lt hcp
        have hsub := psub_and (t := Clo (xsOf v) N a) b1.1
        repeat' (first | (apply br_intro <;> intro hb <;> (have hb2 := hb) <;> (try simp [-Int.not_le, -Int.not_lt, -Nat.not_le, -Nat.not_lt, -Nat.add_left_cancel_iff] at hb2)) | (refine draw_listA (by rfl) (by kernel_rfl) ?_) | (refine draw_listB (by simp [allocsOf, isAlloc]; rfl) (by kernel_rfl) ?_) | simp (maxSteps := 2000000) (disch := first | omega | assumption | simp [*]) [*, -Int.not_le, -Int.not_lt, -Nat.not_le, -Nat.not_lt, -Nat.add_left_cancel_iff, wrap_i64, wrap_u64, Try.f38, isI_cells hv, isI_one hv, isI_low hv, isI_len hv, bits_and])
        rw [Bool.eq_iff_iff]
        simp [HoldC, hp, ha, hb]
      · have hc : ¬ HoldC n (xsOf v) a b := fun h => hb h.2.2.1
        repeat' (first | (apply br_intro <;> intro hb <;> (have hb2 := hb) <;> (try simp [-Int.not_le, -Int.not_lt, -Nat.not_le, -Nat.not_lt, -Nat.add_left_cancel_iff] at hb2)) | (refine draw_listA (by rfl) (by kernel_rfl) ?_) | (refine draw_listB (by simp [allocsOf, isAlloc]; rfl) (by kernel_rfl) ?_) | simp (maxSteps := 2000000) (disch := first | omega | assumption | simp [*]) [*, -Int.not_le, -Int.not_lt, -Nat.not_le, -Nat.not_lt, -Nat.add_left_cancel_iff, wrap_i64, wrap_u64, Try.f38, isI_cells hv, isI_one hv, isI_low hv])
    · have hc : ¬ HoldC n (xsOf v) a b := fun h => ha h.2.1
      repeat' (first | (apply br_intro <;> intro hb <;> (have hb2 := hb) <;> (try simp [-Int.not_le, -Int.not_lt, -Nat.not_le, -Nat.not_lt, -Nat.add_left_cancel_iff] at hb2)) | (refine draw_listA (by rfl) (by kernel_rfl) ?_) | (refine draw_listB (by simp [allocsOf, isAlloc]; rfl) (by kernel_rfl) ?_) | simp (maxSteps := 2000000) (disch := first | omega | assumption | simp [*]) [*, -Int.not_le, -Int.not_lt, -Nat.not_le, -Nat.not_lt, -Nat.add_left_cancel_iff, wrap_i64, wrap_u64, Try.f38, isI_cells hv, isI_one hv, isI_low hv])
  · have hc : ¬ HoldC n (xsOf v) a b := fun h => hp h.1
    repeat' (first | (apply br_intro <;> intro hb <;> (have hb2 := hb) <;> (try simp [-Int.not_le, -Int.not_lt, -Nat.not_le, -Nat.not_lt, -Nat.add_left_cancel_iff] at hb2)) | (refine draw_listA (by rfl) (by kernel_rfl) ?_) | (refine draw_listB (by simp [allocsOf, isAlloc]; rfl) (by kernel_rfl) ?_) | simp (maxSteps := 2000000) (disch := first | omega | assumption | simp [*]) [*, -Int.not_le, -Int.not_lt, -Nat.not_le, -Nat.not_lt, -Nat.add_left_cancel_iff, wrap_i64, wrap_u64, Try.f38, isI_cells hv, isI_one hv, isI_low hv])
theorem sHoldsIn_s {n a b : Int} {v : AV} (hv : IsI v) {K : AV → Prop} {tg : Tg K} : CW env 38 [.agg [.int .i64 n, v], .agg [.int .i64 a, .int .i64 b]] K tg ↔ K (.bool (decide (HoldC n (xsOf v) a b))) := callsTo_iff (sHoldsIn_c hv)
attribute [simp] sHoldsIn_s
theorem iHoldsIn_c {n a b : Int} {v : AV} (hv : IsI v) : EvC env 123 [.agg [.int .i64 n, v], .agg [.int .i64 a, .int .i64 b]] (.bool (decide (HoldC n (xsOf v) a b))) := by
  refine evC_of (F := Try.f123) rfl rfl (Nat.le_of_ble_eq_true rfl) ?_
  by_cases hp : PCtx n (xsOf v)
  · by_cases ha : PSet n a = true
    · by_cases hb : PSet n b = true
      · obtain ⟨N, rfl⟩ : ∃ N : Nat, n = N := ⟨n.toNat, by have := hp.1; omega⟩
        have hl := hp.2.2.1
        have hn := hp.2.1
        have hN8 : N ≤ 8 := by omega
        have b1 := pset_lt hb
        have hcp : PSet N (Clo (xsOf v) N a) = true := int_pset _ _ hN8
        have hc1 := pset_lt hcp
        repeat' (first | (apply br_intro <;> intro hb <;> (have hb2 := hb) <;> (try simp [-Int.not_le, -Int.not_lt, -Nat.not_le, -Nat.not_lt, -Nat.add_left_cancel_iff] at hb2)) | (refine draw_listA (by rfl) (by kernel_rfl) ?_) | (refine draw_listB (by simp [allocsOf, isAlloc]; rfl) (by kernel_rfl) ?_) | simp (maxSteps := 2000000) (disch := first | omega | assumption | simp [*]) [*, -Int.not_le, -Int.not_lt, -Nat.not_le, -Nat.not_lt, -Nat.add_left_cancel_iff, wrap_i64, wrap_u64, Try.f123, isI_cells hv, isI_one hv, isI_low hv, isI_len hv, psub_diff])
        rw [Bool.eq_iff_iff]
        simp [HoldC, hp, ha, hb]
      · have hc : ¬ HoldC n (xsOf v) a b := fun h => hb h.2.2.1
        repeat' (first | (apply br_intro <;> intro hb <;> (have hb2 := hb) <;> (try simp [-Int.not_le, -Int.not_lt, -Nat.not_le, -Nat.not_lt, -Nat.add_left_cancel_iff] at hb2)) | (refine draw_listA (by rfl) (by kernel_rfl) ?_) | (refine draw_listB (by simp [allocsOf, isAlloc]; rfl) (by kernel_rfl) ?_) | simp (maxSteps := 2000000) (disch := first | omega | assumption | simp [*]) [*, -Int.not_le, -Int.not_lt, -Nat.not_le, -Nat.not_lt, -Nat.add_left_cancel_iff, wrap_i64, wrap_u64, Try.f123, isI_cells hv, isI_one hv, isI_low hv])
    · have hc : ¬ HoldC n (xsOf v) a b := fun h => ha h.2.1
      repeat' (first | (apply br_intro <;> intro hb <;> (have hb2 := hb) <;> (try simp [-Int.not_le, -Int.not_lt, -Nat.not_le, -Nat.not_lt, -Nat.add_left_cancel_iff] at hb2)) | (refine draw_listA (by rfl) (by kernel_rfl) ?_) | (refine draw_listB (by simp [allocsOf, isAlloc]; rfl) (by kernel_rfl) ?_) | simp (maxSteps := 2000000) (disch := first | omega | assumption | simp [*]) [*, -Int.not_le, -Int.not_lt, -Nat.not_le, -Nat.not_lt, -Nat.add_left_cancel_iff, wrap_i64, wrap_u64, Try.f123, isI_cells hv, isI_one hv, isI_low hv])
  · have hc : ¬ HoldC n (xsOf v) a b := fun h => hp h.1
    repeat' (first | (apply br_intro <;> intro hb <;> (have hb2 := hb) <;> (try simp [-Int.not_le, -Int.not_lt, -Nat.not_le, -Nat.not_lt, -Nat.add_left_cancel_iff] at hb2)) | (refine draw_listA (by rfl) (by kernel_rfl) ?_) | (refine draw_listB (by simp [allocsOf, isAlloc]; rfl) (by kernel_rfl) ?_) | simp (maxSteps := 2000000) (disch := first | omega | assumption | simp [*]) [*, -Int.not_le, -Int.not_lt, -Nat.not_le, -Nat.not_lt, -Nat.add_left_cancel_iff, wrap_i64, wrap_u64, Try.f123, isI_cells hv, isI_one hv, isI_low hv])
theorem iHoldsIn_s {n a b : Int} {v : AV} (hv : IsI v) {K : AV → Prop} {tg : Tg K} : CW env 123 [.agg [.int .i64 n, v], .agg [.int .i64 a, .int .i64 b]] K tg ↔ K (.bool (decide (HoldC n (xsOf v) a b))) := callsTo_iff (iHoldsIn_c hv)
attribute [simp] iHoldsIn_s
def IsCon (n : Int) (xs : List Int) (e i : Int) : Prop := PCtx n xs ∧ PSet xs.length e = true ∧ PSet n i = true ∧ IntS xs n.toNat e = i ∧ Ext xs i = e
noncomputable instance (n : Int) (xs : List Int) (a b : Int) : Decidable (IsCon n xs a b) := Classical.propDecidable _
end Go.Proofs.Ytkkkgaapkibhkaa
