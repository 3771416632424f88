/- Intents, closures, rules that hold. Conditions: none. -/
import Derived.Test.YtkkkgaapkibhkaaDoorConf
namespace Go.Proofs.YtkkkgaapkibhkaaDoor
open Ev
set_option linter.unusedVariables false
set_option linter.unusedSimpArgs false
set_option maxHeartbeats 4000000

/-- the attributes that all objects of a set have -/
def IntS (xs : List Int) (N : Nat) (o : Int) : Int := setOf (comG (fun _ => true) (fun k m => PHas (nth xs k) m) o xs.length) N
theorem int_pset (xs : List Int) {N : Nat} (o : Int) (h : N ≤ 8) : PSet N (IntS xs N o) = true := setOf_pset _ h
theorem ext_pset (xs : List Int) (s : Int) (h : xs.length ≤ 8) : PSet xs.length (Ext xs s) = true := setOf_pset _ h
theorem ctx_self {N : Nat} {xs : List Int} (hc : PCtx N xs) (i : Nat) (hi : i < xs.length) : nth xs i = setOf (fun m => PHas (nth xs i) m) N := setOf_self (hc.2.2.2 i hi)
theorem l4Intent_c {N : Nat} {o : Int} {v : AV} (hv : IsI v) (hc : PCtx N (xsOf v)) (ho : PSet (xsOf v).length o = true) : EvC env 68 [.agg [.int .i64 N, v], .int .i64 o] (.int .i64 (IntS (xsOf v) N o)) := by
  refine evC_of (F := Tryd.f68) rfl rfl (Nat.le_of_ble_eq_true rfl) ?_
  have hl := hc.2.2.1
  have hn := hc.2.1
  have hN8 : N ≤ 8 := by omega
  have hN8' : (N : Int) ≤ 8 := by omega
  have o1 := pset_lt ho
  repeat' (first | (apply br_intro <;> intro hb <;> (have hb2 := hb) <;> (try simp [-Int.not_le, -Int.not_lt, -Nat.not_le, -Nat.not_lt, -Nat.add_left_cancel_iff] at hb2)) | (refine draw_listA (by rfl) (by kernel_rfl) ?_) | (refine draw_listB (by simp [allocsOf, isAlloc]; rfl) (by kernel_rfl) ?_) | simp (maxSteps := 2000000) (disch := first | omega | assumption | simp [*]) [*, -Int.not_le, -Int.not_lt, -Nat.not_le, -Nat.not_lt, -Nat.add_left_cancel_iff, wrap_i64, wrap_u64, Tryd.f68, isI_cells hv, isI_one hv, isI_low hv, isI_len hv])
  refine W_loopP (xsOf v).length (fun i st => st 6 = .int .i64 i ∧ st 1 = .int .i64 o ∧ st 2 = .vp 2 0 0 ∧ st 5 = .int .i64 (setOf (comG (fun _ => true) (fun k m => PHas (nth (xsOf v) k) m) o i) N)) rfl ?_ ?_
  · simp
    rw [← setOf_full]
    exact setOf_congr fun g _ => by simp [comG]
  rintro i st hi ⟨h6, h1, h2, h5⟩
  by_cases hi2 : i < (xsOf v).length
  · have r1 := pctx_row hc hi2
    have r2 := setOf_range (comG (fun _ => true) (fun k m => PHas (nth (xsOf v) k) m) o i) N
    have r3 := setOf_small (comG (fun _ => true) (fun k m => PHas (nth (xsOf v) k) m) o i) hN8
    have hs := ctx_self hc i hi2
    have ha := setOf_and (comG (fun _ => true) (fun k m => PHas (nth (xsOf v) k) m) o i) (fun m => PHas (nth (xsOf v) i) m) N
    rw [← hs] at ha
    clear hs
    repeat' (first | (apply br_intro <;> intro hb <;> (have hb2 := hb) <;> (try simp [-Int.not_le, -Int.not_lt, -Nat.not_le, -Nat.not_lt, -Nat.add_left_cancel_iff] at hb2)) | (refine draw_listA (by rfl) (by kernel_rfl) ?_) | (refine draw_listB (by simp [allocsOf, isAlloc]; rfl) (by kernel_rfl) ?_) | simp (maxSteps := 2000000) (disch := first | omega | assumption | simp [*]) [*, -Int.not_le, -Int.not_lt, -Nat.not_le, -Nat.not_lt, -Nat.add_left_cancel_iff, wrap_i64, wrap_u64, h6, h1, h2, h5, bits_and, isI_cells hv, isI_one hv, isI_low hv, isI_len hv, isI_index hv, isI_load hv])
    · exact setOf_congr fun g _ => by rw [comG_succ]; grind
    · exact setOf_congr fun g _ => by rw [comG_succ]; grind
  · obtain rfl : i = (xsOf v).length := by omega
    repeat' (first | (apply br_intro <;> intro hb <;> (have hb2 := hb) <;> (try simp [-Int.not_le, -Int.not_lt, -Nat.not_le, -Nat.not_lt, -Nat.add_left_cancel_iff] at hb2)) | (refine draw_listA (by rfl) (by kernel_rfl) ?_) | (refine draw_listB (by simp [allocsOf, isAlloc]; rfl) (by kernel_rfl) ?_) | simp (maxSteps := 2000000) (disch := first | omega | assumption | simp [*]) [*, -Int.not_le, -Int.not_lt, -Nat.not_le, -Nat.not_lt, -Nat.add_left_cancel_iff, wrap_i64, wrap_u64, h6, h1, h2, h5, isI_cells hv, isI_one hv, isI_low hv, isI_len hv])
    rfl
theorem l4Intent_s {N : Nat} {o : Int} {v : AV} (hv : IsI v) (hc : PCtx N (xsOf v)) (ho : PSet (xsOf v).length o = true) {K : AV → Prop} {tg : Tg K} : CW env 68 [.agg [.int .i64 N, v], .int .i64 o] K tg ↔ K (.int .i64 (IntS (xsOf v) N o)) := callsTo_iff (l4Intent_c hv hc ho)
attribute [simp] l4Intent_s
def Clo (xs : List Int) (N : Nat) (s : Int) : Int := IntS xs N (Ext xs s)
theorem l4Closure_c {N : Nat} {s : Int} {v : AV} (hv : IsI v) (hc : PCtx N (xsOf v)) (hs : PSet N s = true) : EvC env 66 [.agg [.int .i64 N, v], .int .i64 s] (.int .i64 (Clo (xsOf v) N s)) := by
  refine evC_of (F := Tryd.f66) rfl rfl (Nat.le_of_ble_eq_true rfl) ?_
  have he := ext_pset (xsOf v) s hc.2.2.1
  repeat' (first | (apply br_intro <;> intro hb <;> (have hb2 := hb) <;> (try simp [-Int.not_le, -Int.not_lt, -Nat.not_le, -Nat.not_lt, -Nat.add_left_cancel_iff] at hb2)) | (refine draw_listA (by rfl) (by kernel_rfl) ?_) | (refine draw_listB (by simp [allocsOf, isAlloc]; rfl) (by kernel_rfl) ?_) | simp (maxSteps := 2000000) (disch := first | omega | assumption | simp [*]) [*, -Int.not_le, -Int.not_lt, -Nat.not_le, -Nat.not_lt, -Nat.add_left_cancel_iff, wrap_i64, wrap_u64, Tryd.f66, isI_cells hv, isI_one hv, isI_low hv, isI_len hv])
  rfl
theorem l4Closure_s {N : Nat} {s : Int} {v : AV} (hv : IsI v) (hc : PCtx N (xsOf v)) (hs : PSet N s = true) {K : AV → Prop} {tg : Tg K} : CW env 66 [.agg [.int .i64 N, v], .int .i64 s] K tg ↔ K (.int .i64 (Clo (xsOf v) N s)) := callsTo_iff (l4Closure_c hv hc hs)
attribute [simp] l4Closure_s
theorem areObjects_c {n s : Int} {v : AV} (hv : IsI v) : EvC env 130 [.agg [.int .i64 n, v], .int .i64 s] (.bool (decide (PCtx n (xsOf v)) && PSet (xsOf v).length s)) := by
  refine evC_of (F := Tryd.f130) rfl rfl (Nat.le_of_ble_eq_true rfl) ?_
  repeat' (first | (apply br_intro <;> intro hb <;> (have hb2 := hb) <;> (try simp [-Int.not_le, -Int.not_lt, -Nat.not_le, -Nat.not_lt, -Nat.add_left_cancel_iff] at hb2)) | (refine draw_listA (by rfl) (by kernel_rfl) ?_) | (refine draw_listB (by simp [allocsOf, isAlloc]; rfl) (by kernel_rfl) ?_) | simp (maxSteps := 2000000) (disch := first | omega | assumption | simp [*]) [*, -Int.not_le, -Int.not_lt, -Nat.not_le, -Nat.not_lt, -Nat.add_left_cancel_iff, wrap_i64, wrap_u64, Tryd.f130, isI_cells hv, isI_one hv, isI_low hv, isI_len hv, isI_index hv, isI_load hv])
theorem areObjects_s {n s : Int} {v : AV} (hv : IsI v) {K : AV → Prop} {tg : Tg K} : CW env 130 [.agg [.int .i64 n, v], .int .i64 s] K tg ↔ K (.bool (decide (PCtx n (xsOf v)) && PSet (xsOf v).length s)) := callsTo_iff (areObjects_c hv)
attribute [simp] areObjects_s
theorem iIntentOf_c {N : Nat} {o : Int} {v : AV} (hv : IsI v) (hc : PCtx N (xsOf v)) (ho : PSet (xsOf v).length o = true) : EvC env 126 [.agg [.int .i64 N, v], .int .i64 o] (.int .i64 (IntS (xsOf v) N o)) := by
  refine evC_of (F := Tryd.f126) rfl rfl (Nat.le_of_ble_eq_true rfl) ?_
  have hl := hc.2.2.1
  have hn := hc.2.1
  have hN8 : N ≤ 8 := by omega
  have hN8' : (N : Int) ≤ 8 := by omega
  have h8 := pset8 ho
  have hcm := iCommon_c (v := v) (c := o) (L := N) (full := fun _ => true) (q := fun k m => PHas (nth (xsOf v) k) m) hv hN8 hl (ctx_self hc) h8
  rw [setOf_full] at hcm
  have hcs : ∀ (K : AV → Prop) (tg : Tg K), CW env 107 [v, .int .i64 o, .int .i64 (2 ^ N - 1)] K tg ↔ K (.int .i64 (IntS (xsOf v) N o)) := fun K tg => callsTo_iff hcm
  repeat' (first | (apply br_intro <;> intro hb <;> (have hb2 := hb) <;> (try simp [-Int.not_le, -Int.not_lt, -Nat.not_le, -Nat.not_lt, -Nat.add_left_cancel_iff] at hb2)) | (refine draw_listA (by rfl) (by kernel_rfl) ?_) | (refine draw_listB (by simp [allocsOf, isAlloc]; rfl) (by kernel_rfl) ?_) | simp (maxSteps := 2000000) (disch := first | omega | assumption | simp [*]) [*, -Int.not_le, -Int.not_lt, -Nat.not_le, -Nat.not_lt, -Nat.add_left_cancel_iff, wrap_i64, wrap_u64, Tryd.f126, isI_cells hv, isI_one hv, isI_low hv, isI_len hv, isI_index hv, isI_load hv])
theorem iIntentOf_s {N : Nat} {o : Int} {v : AV} (hv : IsI v) (hc : PCtx N (xsOf v)) (ho : PSet (xsOf v).length o = true) {K : AV → Prop} {tg : Tg K} : CW env 126 [.agg [.int .i64 N, v], .int .i64 o] K tg ↔ K (.int .i64 (IntS (xsOf v) N o)) := callsTo_iff (iIntentOf_c hv hc ho)
attribute [simp] iIntentOf_s
theorem iClosureOf_c {N : Nat} {s : Int} {v : AV} (hv : IsI v) (hc : PCtx N (xsOf v)) (hs : PSet N s = true) : EvC env 106 [.agg [.int .i64 N, v], .int .i64 s] (.int .i64 (Clo (xsOf v) N s)) := by
  refine evC_of (F := Tryd.f106) rfl rfl (Nat.le_of_ble_eq_true rfl) ?_
  have he := ext_pset (xsOf v) s hc.2.2.1
  repeat' (first | (apply br_intro <;> intro hb <;> (have hb2 := hb) <;> (try simp [-Int.not_le, -Int.not_lt, -Nat.not_le, -Nat.not_lt, -Nat.add_left_cancel_iff] at hb2)) | (refine draw_listA (by rfl) (by kernel_rfl) ?_) | (refine draw_listB (by simp [allocsOf, isAlloc]; rfl) (by kernel_rfl) ?_) | simp (maxSteps := 2000000) (disch := first | omega | assumption | simp [*]) [*, -Int.not_le, -Int.not_lt, -Nat.not_le, -Nat.not_lt, -Nat.add_left_cancel_iff, wrap_i64, wrap_u64, Tryd.f106, isI_cells hv, isI_one hv, isI_low hv, isI_len hv])
  rfl
theorem iClosureOf_s {N : Nat} {s : Int} {v : AV} (hv : IsI v) (hc : PCtx N (xsOf v)) (hs : PSet N s = true) {K : AV → Prop} {tg : Tg K} : CW env 106 [.agg [.int .i64 N, v], .int .i64 s] K tg ↔ K (.int .i64 (Clo (xsOf v) N s)) := callsTo_iff (iClosureOf_c hv hc hs)
attribute [simp] iClosureOf_s
def HoldC (n : Int) (xs : List Int) (a b : Int) : Prop := PCtx n xs ∧ PSet n a = true ∧ PSet n b = true ∧ PSub b (Clo xs n.toNat a) = true
noncomputable instance (n : Int) (xs : List Int) (a b : Int) : Decidable (HoldC n xs a b) := Classical.propDecidable _
def IsCon (n : Int) (xs : List Int) (e i : Int) : Prop := PCtx n xs ∧ PSet xs.length e = true ∧ PSet n i = true ∧ IntS xs n.toNat e = i ∧ Ext xs i = e
noncomputable instance (n : Int) (xs : List Int) (a b : Int) : Decidable (IsCon n xs a b) := Classical.propDecidable _
theorem iIsConcept_c {n e i : Int} {v : AV} (hv : IsI v) : EvC env 112 [.agg [.int .i64 n, v], .agg [.int .i64 e, .int .i64 i]] (.bool (decide (IsCon n (xsOf v) e i))) := by
  refine evC_of (F := Tryd.f112) rfl rfl (Nat.le_of_ble_eq_true rfl) ?_
  by_cases hp : PCtx n (xsOf v)
  · by_cases he : PSet (xsOf v).length e = true
    · by_cases hi : PSet n i = true
      · obtain ⟨N, rfl⟩ : ∃ N : Nat, n = N := ⟨n.toNat, by have := hp.1; omega⟩
        repeat' (first | (apply br_intro <;> intro hb <;> (have hb2 := hb) <;> (try simp [-Int.not_le, -Int.not_lt, -Nat.not_le, -Nat.not_lt, -Nat.add_left_cancel_iff] at hb2)) | (refine draw_listA (by rfl) (by kernel_rfl) ?_) | (refine draw_listB (by simp [allocsOf, isAlloc]; rfl) (by kernel_rfl) ?_) | simp (maxSteps := 2000000) (disch := first | omega | assumption | simp [*]) [*, -Int.not_le, -Int.not_lt, -Nat.not_le, -Nat.not_lt, -Nat.add_left_cancel_iff, wrap_i64, wrap_u64, Tryd.f112, isI_cells hv, isI_one hv, isI_low hv, isI_len hv])
        all_goals simp_all [IsCon]
      · have hc : ¬ IsCon n (xsOf v) e i := fun h => hi h.2.2.1
        repeat' (first | (apply br_intro <;> intro hb <;> (have hb2 := hb) <;> (try simp [-Int.not_le, -Int.not_lt, -Nat.not_le, -Nat.not_lt, -Nat.add_left_cancel_iff] at hb2)) | (refine draw_listA (by rfl) (by kernel_rfl) ?_) | (refine draw_listB (by simp [allocsOf, isAlloc]; rfl) (by kernel_rfl) ?_) | simp (maxSteps := 2000000) (disch := first | omega | assumption | simp [*]) [*, -Int.not_le, -Int.not_lt, -Nat.not_le, -Nat.not_lt, -Nat.add_left_cancel_iff, wrap_i64, wrap_u64, Tryd.f112, isI_cells hv, isI_one hv, isI_low hv, isI_len hv])
    · have hc : ¬ IsCon n (xsOf v) e i := fun h => he h.2.1
      repeat' (first | (apply br_intro <;> intro hb <;> (have hb2 := hb) <;> (try simp [-Int.not_le, -Int.not_lt, -Nat.not_le, -Nat.not_lt, -Nat.add_left_cancel_iff] at hb2)) | (refine draw_listA (by rfl) (by kernel_rfl) ?_) | (refine draw_listB (by simp [allocsOf, isAlloc]; rfl) (by kernel_rfl) ?_) | simp (maxSteps := 2000000) (disch := first | omega | assumption | simp [*]) [*, -Int.not_le, -Int.not_lt, -Nat.not_le, -Nat.not_lt, -Nat.add_left_cancel_iff, wrap_i64, wrap_u64, Tryd.f112, isI_cells hv, isI_one hv, isI_low hv, isI_len hv])
  · have hc : ¬ IsCon n (xsOf v) e i := fun h => hp h.1
    repeat' (first | (apply br_intro <;> intro hb <;> (have hb2 := hb) <;> (try simp [-Int.not_le, -Int.not_lt, -Nat.not_le, -Nat.not_lt, -Nat.add_left_cancel_iff] at hb2)) | (refine draw_listA (by rfl) (by kernel_rfl) ?_) | (refine draw_listB (by simp [allocsOf, isAlloc]; rfl) (by kernel_rfl) ?_) | simp (maxSteps := 2000000) (disch := first | omega | assumption | simp [*]) [*, -Int.not_le, -Int.not_lt, -Nat.not_le, -Nat.not_lt, -Nat.add_left_cancel_iff, wrap_i64, wrap_u64, Tryd.f112, isI_cells hv, isI_one hv, isI_low hv, isI_len hv])
theorem iIsConcept_s {n e i : Int} {v : AV} (hv : IsI v) {K : AV → Prop} {tg : Tg K} : CW env 112 [.agg [.int .i64 n, v], .agg [.int .i64 e, .int .i64 i]] K tg ↔ K (.bool (decide (IsCon n (xsOf v) e i))) := callsTo_iff (iIsConcept_c hv)
attribute [simp] iIsConcept_s
end Go.Proofs.YtkkkgaapkibhkaaDoor
