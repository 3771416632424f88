/- XExt XConf XInt, joined. Conditions: none. -/
import Derived.Test.YtlglhokpaplifaaGreatDoorBitA
import Derived.Test.YtlglhokpaplifaaGreatDoorBaseA
/- Extents and how many objects they have. Conditions: none. -/
namespace Go.Proofs.YtlglhokpaplifaaGreatDoor
open Ev
set_option linter.unusedVariables false
set_option linter.unusedSimpArgs false
set_option maxHeartbeats 4000000

theorem l4Extent_c {n s : Int} {v : AV} (hv : IsI v) (hc : PCtx n (xsOf v)) (hs : PSet n s = true) : EvC env 92 [.agg [.int .i64 n, v], .int .i64 s] (.int .i64 (Ext (xsOf v) s)) := by
  refine evC_of (F := Tryz.f92) rfl rfl (Nat.le_of_ble_eq_true rfl) ?_
  have hl := hc.2.2.1
  have hsl := pset_lt hs
  repeat' (first | (apply brI <;> intro hb hb2 <;> (try simp [-Int.not_le, -Int.not_lt, -Nat.not_le, -Nat.not_lt, -Nat.add_left_cancel_iff] at hb2)) | (refine draw_listA (by rfl) (by kernel_rfl) ?_) | (refine draw_listB (by simp [allocsOf, isAlloc]; rfl) (by kernel_rfl) ?_) | simp (maxSteps := 2000000) (disch := first | omega | assumption | simp [*]) [*, -Int.not_le, -Int.not_lt, -Nat.not_le, -Nat.not_lt, -Nat.add_left_cancel_iff, wrap_i64, wrap_u64, Tryz.f92, isI_cells hv, isI_one hv, isI_low hv, isI_len hv])
  refine W_loopP (xsOf v).length (fun i st => st 6 = .int .i64 i ∧ st 1 = .int .i64 s ∧ st 2 = .vp 2 0 0 ∧ st 5 = .int .i64 (setOf (fun k => PSub s (nth (xsOf v) k)) i)) rfl ?_ ?_
  · simp [setOf]
  rintro i st hi ⟨h6, h1, h2, h5⟩
  by_cases hi2 : i < (xsOf v).length
  · have r1 := pctx_row hc hi2
    have r2 := setOf_range (fun k => PSub s (nth (xsOf v) k)) i
    have r3 := setOf_small (fun k => PSub s (nth (xsOf v) k)) (n := i) (by omega)
    have hp := pow_small (i := i) (by omega)
    have hsub := psub_and' (t := nth (xsOf v) i) hsl.1
    repeat' (first | (apply brI <;> intro hb hb2 <;> (try simp [-Int.not_le, -Int.not_lt, -Nat.not_le, -Nat.not_lt, -Nat.add_left_cancel_iff] at hb2)) | (refine draw_listA (by rfl) (by kernel_rfl) ?_) | (refine draw_listB (by simp [allocsOf, isAlloc]; rfl) (by kernel_rfl) ?_) | simp (maxSteps := 2000000) (disch := first | omega | assumption | simp [*]) [*, -Int.not_le, -Int.not_lt, -Nat.not_le, -Nat.not_lt, -Nat.add_left_cancel_iff, wrap_i64, wrap_u64, h6, h1, h2, h5, isI_cells hv, isI_one hv, isI_low hv, isI_len hv, isI_index hv, isI_load hv, bits_and, bits_or, pow_toNat])
    · exact setOf_or _ _ hb2
    · exact setOf_skip _ _ hb2
  · obtain rfl : i = (xsOf v).length := by omega
    repeat' (first | (apply brI <;> intro hb hb2 <;> (try simp [-Int.not_le, -Int.not_lt, -Nat.not_le, -Nat.not_lt, -Nat.add_left_cancel_iff] at hb2)) | (refine draw_listA (by rfl) (by kernel_rfl) ?_) | (refine draw_listB (by simp [allocsOf, isAlloc]; rfl) (by kernel_rfl) ?_) | simp (maxSteps := 2000000) (disch := first | omega | assumption | simp [*]) [*, -Int.not_le, -Int.not_lt, -Nat.not_le, -Nat.not_lt, -Nat.add_left_cancel_iff, wrap_i64, wrap_u64, h6, h1, h2, h5, isI_cells hv, isI_one hv, isI_low hv, isI_len hv])
    rfl
theorem l4Extent_s {n s : Int} {v : AV} (hv : IsI v) (hc : PCtx n (xsOf v)) (hs : PSet n s = true) {K : AV → Prop} {tg : Tg K} : CW env 92 [.agg [.int .i64 n, v], .int .i64 s] K tg ↔ K (.int .i64 (Ext (xsOf v) s)) := callsTo_iff (l4Extent_c hv hc hs)
attribute [simp] l4Extent_s
/-- the library's count of bits -/
def ones1 (x : Int) : Int := IntKind.wrap .u64 (Go.bits .and .u64 (x.fdiv (2 ^ min 1 (IntKind.bits .u64))) 6148914691236517205 + Go.bits .and .u64 x 6148914691236517205)
def ones2 (x : Int) : Int := IntKind.wrap .u64 (Go.bits .and .u64 (x.fdiv (2 ^ min 2 (IntKind.bits .u64))) 3689348814741910323 + Go.bits .and .u64 x 3689348814741910323)
def ones3 (x : Int) : Int := Go.bits .and .u64 (IntKind.wrap .u64 (x.fdiv (2 ^ min 4 (IntKind.bits .u64)) + x)) 1085102592571150095
def ones4 (n : Nat) (x : Int) : Int := IntKind.wrap .u64 (x + x.fdiv (2 ^ min n (IntKind.bits .u64)))
def onesF (x : Int) : Int := Go.bits .and .i64 (IntKind.wrap .i64 (ones4 32 (ones4 16 (ones4 8 (ones3 (ones2 (ones1 x))))))) 127
theorem ones_card : ∀ x : Fin 256, onesF (x.val : Int) = (elemsTo (x.val : Int) 8).length := by decide +kernel
theorem ones_eq {x : Int} (h0 : 0 ≤ x) (h1 : x < 256) : onesF x = (elemsTo x 8).length := by
  have := ones_card ⟨x.toNat, by omega⟩
  rw [Int.toNat_of_nonneg h0] at this
  exact this
theorem areAttributes_c {n s : Int} {v : AV} (hv : IsI v) : EvC env 83 [.agg [.int .i64 n, v], .int .i64 s] (.bool (decide (PCtx n (xsOf v)) && PSet n s)) := by
  refine evC_of (F := Tryz.f83) rfl rfl (Nat.le_of_ble_eq_true rfl) ?_
  repeat' (first | (apply brI <;> intro hb hb2 <;> (try simp [-Int.not_le, -Int.not_lt, -Nat.not_le, -Nat.not_lt, -Nat.add_left_cancel_iff] at hb2)) | (refine draw_listA (by rfl) (by kernel_rfl) ?_) | (refine draw_listB (by simp [allocsOf, isAlloc]; rfl) (by kernel_rfl) ?_) | simp (maxSteps := 2000000) (disch := first | omega | assumption | simp [*]) [*, -Int.not_le, -Int.not_lt, -Nat.not_le, -Nat.not_lt, -Nat.add_left_cancel_iff, wrap_i64, wrap_u64, Tryz.f83, isI_cells hv, isI_one hv, isI_low hv, isI_len hv, isI_index hv, isI_load hv])
theorem areAttributes_s {n s : Int} {v : AV} (hv : IsI v) {K : AV → Prop} {tg : Tg K} : CW env 83 [.agg [.int .i64 n, v], .int .i64 s] K tg ↔ K (.bool (decide (PCtx n (xsOf v)) && PSet n s)) := callsTo_iff (areAttributes_c hv)
attribute [simp] areAttributes_s
theorem isAttribute_c {n m : Int} {v : AV} (hv : IsI v) : EvC env 135 [.agg [.int .i64 n, v], .int .i64 m] (.bool (decide (PCtx n (xsOf v) ∧ 0 ≤ m ∧ m < n))) := by
  refine evC_of (F := Tryz.f135) rfl rfl (Nat.le_of_ble_eq_true rfl) ?_
  by_cases hc : PCtx n (xsOf v)
  · have h1 := hc.1
    have h2 := hc.2.1
    repeat' (first | (apply brI <;> intro hb hb2 <;> (try simp [-Int.not_le, -Int.not_lt, -Nat.not_le, -Nat.not_lt, -Nat.add_left_cancel_iff] at hb2)) | (refine draw_listA (by rfl) (by kernel_rfl) ?_) | (refine draw_listB (by simp [allocsOf, isAlloc]; rfl) (by kernel_rfl) ?_) | simp (maxSteps := 2000000) (disch := first | omega | assumption | simp [*]) [*, -Int.not_le, -Int.not_lt, -Nat.not_le, -Nat.not_lt, -Nat.add_left_cancel_iff, wrap_i64, wrap_u64, Tryz.f135, isI_cells hv, isI_one hv, isI_low hv, isI_len hv, isI_index hv, isI_load hv])
    rw [Bool.eq_iff_iff]; simp; omega
  · repeat' (first | (apply brI <;> intro hb hb2 <;> (try simp [-Int.not_le, -Int.not_lt, -Nat.not_le, -Nat.not_lt, -Nat.add_left_cancel_iff] at hb2)) | (refine draw_listA (by rfl) (by kernel_rfl) ?_) | (refine draw_listB (by simp [allocsOf, isAlloc]; rfl) (by kernel_rfl) ?_) | simp (maxSteps := 2000000) (disch := first | omega | assumption | simp [*]) [*, -Int.not_le, -Int.not_lt, -Nat.not_le, -Nat.not_lt, -Nat.add_left_cancel_iff, wrap_i64, wrap_u64, Tryz.f135, isI_cells hv, isI_one hv, isI_low hv, isI_len hv, isI_index hv, isI_load hv])
theorem isAttribute_s {n m : Int} {v : AV} (hv : IsI v) {K : AV → Prop} {tg : Tg K} : CW env 135 [.agg [.int .i64 n, v], .int .i64 m] K tg ↔ K (.bool (decide (PCtx n (xsOf v) ∧ 0 ≤ m ∧ m < n))) := callsTo_iff (isAttribute_c hv)
attribute [simp] isAttribute_s
/-- an attribute's objects -/
def Col (xs : List Int) (m : Nat) : Int := setOf (fun g => PHas (nth xs g) m) xs.length
theorem iColumnOf_c {n : Int} {m : Nat} {v : AV} (hv : IsI v) (hc : PCtx n (xsOf v)) (hm : m < n.toNat) : EvC env 124 [.agg [.int .i64 n, v], .int .i64 m] (.int .i64 (Col (xsOf v) m)) := by
  refine evC_of (F := Tryz.f124) rfl rfl (Nat.le_of_ble_eq_true rfl) ?_
  have hl := hc.2.2.1
  have hn := hc.2.1
  have hm2 : (m : Int) < n := by omega
  repeat' (first | (apply brI <;> intro hb hb2 <;> (try simp [-Int.not_le, -Int.not_lt, -Nat.not_le, -Nat.not_lt, -Nat.add_left_cancel_iff] at hb2)) | (refine draw_listA (by rfl) (by kernel_rfl) ?_) | (refine draw_listB (by simp [allocsOf, isAlloc]; rfl) (by kernel_rfl) ?_) | simp (maxSteps := 2000000) (disch := first | omega | assumption | simp [*]) [*, -Int.not_le, -Int.not_lt, -Nat.not_le, -Nat.not_lt, -Nat.add_left_cancel_iff, wrap_i64, wrap_u64, Tryz.f124, isI_cells hv, isI_one hv, isI_low hv, isI_len hv, isI_index hv, isI_load hv])
  refine W_loopP (xsOf v).length (fun i st => st 15 = .int .i64 i ∧ st 14 = .int .i64 (xsOf v).length ∧ st 13 = v ∧ st 1 = .int .i64 m ∧ st 5 = .int .i64 (setOf (fun g => PHas (nth (xsOf v) g) m) i)) rfl ?_ ?_
  · simp [setOf]
  rintro i st hi ⟨h15, h14, h13, h1, h5⟩
  by_cases hi2 : i < (xsOf v).length
  · have r1 := pctx_row hc hi2
    have r2 := setOf_range (fun g => PHas (nth (xsOf v) g) m) i
    have r3 := setOf_small (fun g => PHas (nth (xsOf v) g) m) (n := i) (by omega)
    have hp := pow_small (i := i) (by omega)
    have hb : 0 ≤ nth (xsOf v) i / 2 ^ m % 2 ∧ nth (xsOf v) i / 2 ^ m % 2 ≤ 1 := by omega
    have hs := mul_pow_le (y := nth (xsOf v) i / 2 ^ m % 2) (n := i) hb.1 (by omega) (by omega)
    simp only [Int.toNat_natCast] at hs
    have ho := setOf_or2 (fun g => PHas (nth (xsOf v) g) m) i (nth (xsOf v) i / 2 ^ m % 2) (by simp [PHas]; omega)
    repeat' (first | (apply brI <;> intro hb hb2 <;> (try simp [-Int.not_le, -Int.not_lt, -Nat.not_le, -Nat.not_lt, -Nat.add_left_cancel_iff] at hb2)) | (refine draw_listA (by rfl) (by kernel_rfl) ?_) | (refine draw_listB (by simp [allocsOf, isAlloc]; rfl) (by kernel_rfl) ?_) | simp (maxSteps := 2000000) (disch := first | omega | assumption | simp [*]) [*, -Int.not_le, -Int.not_lt, -Nat.not_le, -Nat.not_lt, -Nat.add_left_cancel_iff, wrap_i64, wrap_u64, h15, h14, h13, h1, h5, bits_or, isI_cells hv, isI_one hv, isI_low hv, isI_len hv, isI_index hv, isI_load hv])
  · obtain rfl : i = (xsOf v).length := by omega
    repeat' (first | (apply brI <;> intro hb hb2 <;> (try simp [-Int.not_le, -Int.not_lt, -Nat.not_le, -Nat.not_lt, -Nat.add_left_cancel_iff] at hb2)) | (refine draw_listA (by rfl) (by kernel_rfl) ?_) | (refine draw_listB (by simp [allocsOf, isAlloc]; rfl) (by kernel_rfl) ?_) | simp (maxSteps := 2000000) (disch := first | omega | assumption | simp [*]) [*, -Int.not_le, -Int.not_lt, -Nat.not_le, -Nat.not_lt, -Nat.add_left_cancel_iff, wrap_i64, wrap_u64, h15, h14, h13, h1, h5, isI_cells hv, isI_one hv, isI_low hv, isI_len hv, isI_index hv, isI_load hv])
    rfl
theorem iColumnOf_s {n : Int} {m : Nat} {v : AV} (hv : IsI v) (hc : PCtx n (xsOf v)) (hm : m < n.toNat) {K : AV → Prop} {tg : Tg K} : CW env 124 [.agg [.int .i64 n, v], .int .i64 m] K tg ↔ K (.int .i64 (Col (xsOf v) m)) := callsTo_iff (iColumnOf_c hv hc hm)
attribute [simp] iColumnOf_s
/-- all columns -/
def Cols (xs : List Int) (N : Nat) : List Int := tab (fun m => Col xs m) N
theorem iColumns_c {N : Nat} {v : AV} (hv : IsI v) (hc : PCtx N (xsOf v)) : EvC env 109 [.agg [.int .i64 N, v]] (bufR 3 16 1 (Cols (xsOf v) N)) := by
  refine evC_of (F := Tryz.f109) rfl rfl (Nat.le_of_ble_eq_true rfl) ?_
  have hl := hc.2.2.1
  have hn := hc.2.1
  repeat' (first | (apply brI <;> intro hb hb2 <;> (try simp [-Int.not_le, -Int.not_lt, -Nat.not_le, -Nat.not_lt, -Nat.add_left_cancel_iff] at hb2)) | (refine draw_listA (by rfl) (by kernel_rfl) ?_) | (refine draw_listB (by simp [allocsOf, isAlloc]; rfl) (by kernel_rfl) ?_) | simp (maxSteps := 2000000) (disch := first | omega | assumption | simp [*]) [*, -Int.not_le, -Int.not_lt, -Nat.not_le, -Nat.not_lt, -Nat.add_left_cancel_iff, wrap_i64, wrap_u64, Tryz.f109, isI_cells hv, isI_one hv, isI_low hv, isI_len hv, isI_index hv, isI_load hv])
  refine W_loopG N (fun i s h => s 8 = .int .i64 i ∧ s 7 = .int .i64 N ∧ s 1 = .vp 1 0 0 ∧ h 1 = some (.var 0 26 (.agg [.int .i64 N, v])) ∧ Buf h 3 16 1 (s 3) (Cols (xsOf v) i)) ?_ ?_
  · simp; exact buf_nil ..
  rintro i s h hi ⟨h8, h7, h1, e1, hB⟩
  by_cases hi2 : i < N
  · repeat' (first | (apply brI <;> intro hb hb2 <;> (try simp [-Int.not_le, -Int.not_lt, -Nat.not_le, -Nat.not_lt, -Nat.add_left_cancel_iff] at hb2)) | (refine draw_listA (by rfl) (by kernel_rfl) ?_) | (refine draw_listB (by simp [allocsOf, isAlloc]; rfl) (by kernel_rfl) ?_) | simp (maxSteps := 2000000) (disch := first | omega | assumption | simp [*]) [*, -Int.not_le, -Int.not_lt, -Nat.not_le, -Nat.not_lt, -Nat.add_left_cancel_iff, wrap_i64, wrap_u64, h8, h7, h1, e1, isI_cells hv, isI_one hv, isI_low hv, isI_len hv, isI_index hv, isI_load hv])
    refine wa_push hB (by simp) (by simp) (by simp [Cols]; omega) ?_
    intro v2 h2 hB2 hk2
    repeat' (first | (apply brI <;> intro hb hb2 <;> (try simp [-Int.not_le, -Int.not_lt, -Nat.not_le, -Nat.not_lt, -Nat.add_left_cancel_iff] at hb2)) | (refine draw_listA (by rfl) (by kernel_rfl) ?_) | (refine draw_listB (by simp [allocsOf, isAlloc]; rfl) (by kernel_rfl) ?_) | simp (maxSteps := 2000000) (disch := first | omega | assumption | simp [*]) [*, -Int.not_le, -Int.not_lt, -Nat.not_le, -Nat.not_lt, -Nat.add_left_cancel_iff, wrap_i64, wrap_u64, h8, h7, h1, e1])
    unfold Cols; rw [tab_succ]; exact hB2
  · obtain rfl : i = N := by omega
    repeat' (first | (apply brI <;> intro hb hb2 <;> (try simp [-Int.not_le, -Int.not_lt, -Nat.not_le, -Nat.not_lt, -Nat.add_left_cancel_iff] at hb2)) | (refine draw_listA (by rfl) (by kernel_rfl) ?_) | (refine draw_listB (by simp [allocsOf, isAlloc]; rfl) (by kernel_rfl) ?_) | simp (maxSteps := 2000000) (disch := first | omega | assumption | simp [*]) [*, -Int.not_le, -Int.not_lt, -Nat.not_le, -Nat.not_lt, -Nat.add_left_cancel_iff, wrap_i64, wrap_u64, h8, h7, h1, e1, isI_cells hv, isI_one hv, isI_low hv, isI_len hv, isI_index hv, isI_load hv])
    exact hB.expo
theorem iColumns_s {N : Nat} {v : AV} (hv : IsI v) (hc : PCtx N (xsOf v)) {K : AV → Prop} {tg : Tg K} : CW env 109 [.agg [.int .i64 N, v]] K tg ↔ K (bufR 3 16 1 (Cols (xsOf v) N)) := callsTo_iff (iColumns_c hv hc)
attribute [simp] iColumns_s
/-- those in all that are chosen -/
def comG (full : Nat → Bool) (q : Nat → Nat → Bool) (c : Int) (k g : Nat) : Bool := full g && (List.range k).all fun i => !PHas c i || q i g
theorem comG_succ (full : Nat → Bool) (q : Nat → Nat → Bool) (c : Int) (k g : Nat) : comG full q c (k + 1) g = (comG full q c k g && (!PHas c k || q k g)) := by
  simp [comG, List.range_succ, Bool.and_assoc]
theorem iCommon_c {v : AV} {c : Int} {L : Nat} {full : Nat → Bool} {q : Nat → Nat → Bool} (hv : IsI v) (hL : L ≤ 8) (hl : (xsOf v).length ≤ 8) (hq : ∀ i, i < (xsOf v).length → nth (xsOf v) i = setOf (q i) L) (hp : PSet 8 c = true) : EvC env 108 [v, .int .i64 c, .int .i64 (setOf full L)] (.int .i64 (setOf (comG full q c (xsOf v).length) L)) := by
  refine evC_of (F := Tryz.f108) rfl rfl (Nat.le_of_ble_eq_true rfl) ?_
  repeat' (first | (apply brI <;> intro hb hb2 <;> (try simp [-Int.not_le, -Int.not_lt, -Nat.not_le, -Nat.not_lt, -Nat.add_left_cancel_iff] at hb2)) | (refine draw_listA (by rfl) (by kernel_rfl) ?_) | (refine draw_listB (by simp [allocsOf, isAlloc]; rfl) (by kernel_rfl) ?_) | simp (maxSteps := 2000000) (disch := first | omega | assumption | simp [*]) [*, -Int.not_le, -Int.not_lt, -Nat.not_le, -Nat.not_lt, -Nat.add_left_cancel_iff, wrap_i64, wrap_u64, Tryz.f108, isI_cells hv, isI_one hv, isI_low hv, isI_len hv, isI_index hv, isI_load hv])
  refine W_loopP (xsOf v).length (fun i st => st 11 = .int .i64 i ∧ st 10 = .int .i64 (xsOf v).length ∧ st 9 = v ∧ st 1 = .int .i64 c ∧ st 2 = .int .i64 (setOf (comG full q c i) L)) rfl ?_ ?_
  · simp
    exact setOf_congr fun g _ => by simp [comG]
  rintro i st hi ⟨h11, h10, h9, h1, h2⟩
  by_cases hi2 : i < (xsOf v).length
  · have hqi := hq i hi2
    have r1 := setOf_range (q i) L
    have r2 := setOf_small (q i) hL
    have r3 := setOf_range (comG full q c i) L
    have r4 := setOf_small (comG full q c i) hL
    have ha := setOf_and (comG full q c i) (q i) L
    repeat' (first | (apply brI <;> intro hb hb2 <;> (try simp [-Int.not_le, -Int.not_lt, -Nat.not_le, -Nat.not_lt, -Nat.add_left_cancel_iff] at hb2)) | (refine draw_listA (by rfl) (by kernel_rfl) ?_) | (refine draw_listB (by simp [allocsOf, isAlloc]; rfl) (by kernel_rfl) ?_) | simp (maxSteps := 2000000) (disch := first | omega | assumption | simp [*]) [*, -Int.not_le, -Int.not_lt, -Nat.not_le, -Nat.not_lt, -Nat.add_left_cancel_iff, wrap_i64, wrap_u64, h11, h10, h9, h1, h2, bits_and, isI_cells hv, isI_one hv, isI_low hv, isI_len hv, isI_index hv, isI_load hv])
    · exact setOf_congr fun g _ => by rw [comG_succ]; grind
    · exact setOf_congr fun g _ => by rw [comG_succ]; grind
  · obtain rfl : i = (xsOf v).length := by omega
    repeat' (first | (apply brI <;> intro hb hb2 <;> (try simp [-Int.not_le, -Int.not_lt, -Nat.not_le, -Nat.not_lt, -Nat.add_left_cancel_iff] at hb2)) | (refine draw_listA (by rfl) (by kernel_rfl) ?_) | (refine draw_listB (by simp [allocsOf, isAlloc]; rfl) (by kernel_rfl) ?_) | simp (maxSteps := 2000000) (disch := first | omega | assumption | simp [*]) [*, -Int.not_le, -Int.not_lt, -Nat.not_le, -Nat.not_lt, -Nat.add_left_cancel_iff, wrap_i64, wrap_u64, h11, h10, h9, h1, h2, isI_cells hv, isI_one hv, isI_low hv, isI_len hv, isI_index hv, isI_load hv])
theorem iCommon_s {v : AV} {c : Int} {L : Nat} {full : Nat → Bool} {q : Nat → Nat → Bool} (hv : IsI v) (hL : L ≤ 8) (hl : (xsOf v).length ≤ 8) (hq : ∀ i, i < (xsOf v).length → nth (xsOf v) i = setOf (q i) L) (hp : PSet 8 c = true) {K : AV → Prop} {tg : Tg K} : CW env 108 [v, .int .i64 c, .int .i64 (setOf full L)] K tg ↔ K (.int .i64 (setOf (comG full q c (xsOf v).length) L)) := callsTo_iff (iCommon_c hv hL hl hq hp)
attribute [simp] iCommon_s
theorem ext_com {N : Nat} {xs : List Int} {s : Int} (hc : PCtx N xs) (hs : PSet N s = true) : setOf (comG (fun _ => true) (fun m g => PHas (nth xs g) m) s N) xs.length = Ext xs s := by
  refine setOf_congr fun g hg => ?_
  have hr := pctx_row hc hg
  rw [Bool.eq_iff_iff, psub_iff hs hr.1]
  simp [comG]
  grind
theorem iExtentOf_c {n s : Int} {v : AV} (hv : IsI v) : EvC env 85 [.agg [.int .i64 n, v], .int .i64 s] (.int .i64 (if PCtx n (xsOf v) ∧ PSet n s = true then Ext (xsOf v) s else 0)) := by
  refine evC_of (F := Tryz.f85) rfl rfl (Nat.le_of_ble_eq_true rfl) ?_
  by_cases hc : PCtx n (xsOf v)
  · obtain ⟨N, rfl⟩ : ∃ N : Nat, n = N := ⟨n.toNat, by have := hc.1; omega⟩
    by_cases hs : PSet N s = true
    · have hl := hc.2.2.1
      have hn := hc.2.1
      have h8 := pset8 hs
      have hI : IsI (bufC 1 (Cols (xsOf v) N)) := isI_bufC (by simp [Cols]; unfold top63; omega)
      have hcm := iCommon_c (v := bufC 1 (Cols (xsOf v) N)) (c := s) (L := (xsOf v).length) (full := fun _ => true) (q := fun m g => PHas (nth (xsOf v) g) m) hI hl (by simp [Cols]; omega) (fun i hi => by simp [Cols] at hi ⊢; rw [tab_nth _ hi]; rfl) h8
      rw [xsOf_bufC, setOf_full] at hcm
      have hl2 : ((xsOf v).length : Int) ≤ 8 := by omega
      have hcl : (Cols (xsOf v) N).length = N := by simp [Cols]
      rw [hcl, ext_com hc hs] at hcm
      have hcs : ∀ (K : AV → Prop) (tg : Tg K), CW env 108 [bufC 1 (Cols (xsOf v) N), .int .i64 s, .int .i64 (2 ^ (xsOf v).length - 1)] K tg ↔ K (.int .i64 (Ext (xsOf v) s)) := fun K tg => callsTo_iff hcm
      repeat' (first | (apply brI <;> intro hb hb2 <;> (try simp [-Int.not_le, -Int.not_lt, -Nat.not_le, -Nat.not_lt, -Nat.add_left_cancel_iff] at hb2)) | (refine draw_listA (by rfl) (by kernel_rfl) ?_) | (refine draw_listB (by simp [allocsOf, isAlloc]; rfl) (by kernel_rfl) ?_) | simp (maxSteps := 2000000) (disch := first | omega | assumption | simp [*]) [*, -Int.not_le, -Int.not_lt, -Nat.not_le, -Nat.not_lt, -Nat.add_left_cancel_iff, wrap_i64, wrap_u64, Tryz.f85, isI_cells hv, isI_one hv, isI_low hv, isI_len hv, isI_index hv, isI_load hv, isI_low hI])
    · repeat' (first | (apply brI <;> intro hb hb2 <;> (try simp [-Int.not_le, -Int.not_lt, -Nat.not_le, -Nat.not_lt, -Nat.add_left_cancel_iff] at hb2)) | (refine draw_listA (by rfl) (by kernel_rfl) ?_) | (refine draw_listB (by simp [allocsOf, isAlloc]; rfl) (by kernel_rfl) ?_) | simp (maxSteps := 2000000) (disch := first | omega | assumption | simp [*]) [*, -Int.not_le, -Int.not_lt, -Nat.not_le, -Nat.not_lt, -Nat.add_left_cancel_iff, wrap_i64, wrap_u64, Tryz.f85, isI_cells hv, isI_one hv, isI_low hv, isI_len hv, isI_index hv, isI_load hv])
  · repeat' (first | (apply brI <;> intro hb hb2 <;> (try simp [-Int.not_le, -Int.not_lt, -Nat.not_le, -Nat.not_lt, -Nat.add_left_cancel_iff] at hb2)) | (refine draw_listA (by rfl) (by kernel_rfl) ?_) | (refine draw_listB (by simp [allocsOf, isAlloc]; rfl) (by kernel_rfl) ?_) | simp (maxSteps := 2000000) (disch := first | omega | assumption | simp [*]) [*, -Int.not_le, -Int.not_lt, -Nat.not_le, -Nat.not_lt, -Nat.add_left_cancel_iff, wrap_i64, wrap_u64, Tryz.f85, isI_cells hv, isI_one hv, isI_low hv, isI_len hv, isI_index hv, isI_load hv])
theorem iExtentOf_s {n s : Int} {v : AV} (hv : IsI v) {K : AV → Prop} {tg : Tg K} : CW env 85 [.agg [.int .i64 n, v], .int .i64 s] K tg ↔ K (.int .i64 (if PCtx n (xsOf v) ∧ PSet n s = true then Ext (xsOf v) s else 0)) := callsTo_iff (iExtentOf_c hv)
attribute [simp] iExtentOf_s
end Go.Proofs.YtlglhokpaplifaaGreatDoor
/- How often a rule holds. Conditions: none. -/
namespace Go.Proofs.YtlglhokpaplifaaGreatDoor
open Ev
set_option linter.unusedVariables false
set_option linter.unusedSimpArgs false
set_option maxHeartbeats 4000000

theorem l9Rule_c {n a b : Int} : EvC env 67 [.int .i64 n, .agg [.int .i64 a, .int .i64 b]] (.bool (PSet n a && PSet n b)) := by
  refine evC_of (F := Tryz.f67) rfl rfl (Nat.le_of_ble_eq_true rfl) ?_
  repeat' (first | (apply brI <;> intro hb hb2 <;> (try simp [-Int.not_le, -Int.not_lt, -Nat.not_le, -Nat.not_lt, -Nat.add_left_cancel_iff] at hb2)) | (refine draw_listA (by rfl) (by kernel_rfl) ?_) | (refine draw_listB (by simp [allocsOf, isAlloc]; rfl) (by kernel_rfl) ?_) | simp (maxSteps := 2000000) (disch := first | omega | assumption | simp [*]) [*, -Int.not_le, -Int.not_lt, -Nat.not_le, -Nat.not_lt, -Nat.add_left_cancel_iff, wrap_i64, wrap_u64, Tryz.f67])
theorem l9Rule_s {n a b : Int} {K : AV → Prop} {tg : Tg K} : CW env 67 [.int .i64 n, .agg [.int .i64 a, .int .i64 b]] K tg ↔ K (.bool (PSet n a && PSet n b)) := callsTo_iff (l9Rule_c )
attribute [simp] l9Rule_s
noncomputable def supV (n : Int) (xs : List Int) (s : Int) : Int := if PCtx n xs ∧ PSet n s = true then (elemsTo (Ext xs s) 8).length else -1
def ConfC (n : Int) (xs : List Int) (a b : Int) : Prop := PCtx n xs ∧ PSet n a = true ∧ PSet n b = true
noncomputable instance (n : Int) (xs : List Int) (a b : Int) : Decidable (ConfC n xs a b) := Classical.propDecidable _
noncomputable def confA (n : Int) (xs : List Int) (a b : Int) : Int := if ConfC n xs a b then supV n xs ((a.toNat ||| b.toNat : Nat) : Int) else 0
noncomputable def confB (n : Int) (xs : List Int) (a b : Int) : Int := if ConfC n xs a b then supV n xs a else 0
end Go.Proofs.YtlglhokpaplifaaGreatDoor
/- Intents, closures, rules that hold. Conditions: none. -/
namespace Go.Proofs.YtlglhokpaplifaaGreatDoor
open Ev
set_option linter.unusedVariables false
set_option linter.unusedSimpArgs false
set_option maxHeartbeats 4000000

/-- the attributes that all objects of a set have -/
def IntS (xs : List Int) (N : Nat) (o : Int) : Int := setOf (comG (fun _ => true) (fun k m => PHas (nth xs k) m) o xs.length) N
theorem int_pset (xs : List Int) {N : Nat} (o : Int) (h : N ≤ 8) : PSet N (IntS xs N o) = true := setOf_pset _ h
theorem ext_pset (xs : List Int) (s : Int) (h : xs.length ≤ 8) : PSet xs.length (Ext xs s) = true := setOf_pset _ h
theorem ctx_self {N : Nat} {xs : List Int} (hc : PCtx N xs) (i : Nat) (hi : i < xs.length) : nth xs i = setOf (fun m => PHas (nth xs i) m) N := setOf_self (hc.2.2.2 i hi)
theorem l4Intent_c {N : Nat} {o : Int} {v : AV} (hv : IsI v) (hc : PCtx N (xsOf v)) (ho : PSet (xsOf v).length o = true) : EvC env 91 [.agg [.int .i64 N, v], .int .i64 o] (.int .i64 (IntS (xsOf v) N o)) := by
  refine evC_of (F := Tryz.f91) rfl rfl (Nat.le_of_ble_eq_true rfl) ?_
  have hl := hc.2.2.1
  have hn := hc.2.1
  have hN8 : N ≤ 8 := by omega
  have hN8' : (N : Int) ≤ 8 := by omega
  have o1 := pset_lt ho
  repeat' (first | (apply brI <;> intro hb hb2 <;> (try simp [-Int.not_le, -Int.not_lt, -Nat.not_le, -Nat.not_lt, -Nat.add_left_cancel_iff] at hb2)) | (refine draw_listA (by rfl) (by kernel_rfl) ?_) | (refine draw_listB (by simp [allocsOf, isAlloc]; rfl) (by kernel_rfl) ?_) | simp (maxSteps := 2000000) (disch := first | omega | assumption | simp [*]) [*, -Int.not_le, -Int.not_lt, -Nat.not_le, -Nat.not_lt, -Nat.add_left_cancel_iff, wrap_i64, wrap_u64, Tryz.f91, isI_cells hv, isI_one hv, isI_low hv, isI_len hv])
  refine W_loopP (xsOf v).length (fun i st => st 6 = .int .i64 i ∧ st 1 = .int .i64 o ∧ st 2 = .vp 2 0 0 ∧ st 5 = .int .i64 (setOf (comG (fun _ => true) (fun k m => PHas (nth (xsOf v) k) m) o i) N)) rfl ?_ ?_
  · simp
    rw [← setOf_full]
    exact setOf_congr fun g _ => by simp [comG]
  rintro i st hi ⟨h6, h1, h2, h5⟩
  by_cases hi2 : i < (xsOf v).length
  · have r1 := pctx_row hc hi2
    have r2 := setOf_range (comG (fun _ => true) (fun k m => PHas (nth (xsOf v) k) m) o i) N
    have r3 := setOf_small (comG (fun _ => true) (fun k m => PHas (nth (xsOf v) k) m) o i) hN8
    have hs := ctx_self hc i hi2
    have ha := setOf_and (comG (fun _ => true) (fun k m => PHas (nth (xsOf v) k) m) o i) (fun m => PHas (nth (xsOf v) i) m) N
    rw [← hs] at ha
    clear hs
    repeat' (first | (apply brI <;> intro hb hb2 <;> (try simp [-Int.not_le, -Int.not_lt, -Nat.not_le, -Nat.not_lt, -Nat.add_left_cancel_iff] at hb2)) | (refine draw_listA (by rfl) (by kernel_rfl) ?_) | (refine draw_listB (by simp [allocsOf, isAlloc]; rfl) (by kernel_rfl) ?_) | simp (maxSteps := 2000000) (disch := first | omega | assumption | simp [*]) [*, -Int.not_le, -Int.not_lt, -Nat.not_le, -Nat.not_lt, -Nat.add_left_cancel_iff, wrap_i64, wrap_u64, h6, h1, h2, h5, bits_and, isI_cells hv, isI_one hv, isI_low hv, isI_len hv, isI_index hv, isI_load hv])
    · exact setOf_congr fun g _ => by rw [comG_succ]; grind
    · exact setOf_congr fun g _ => by rw [comG_succ]; grind
  · obtain rfl : i = (xsOf v).length := by omega
    repeat' (first | (apply brI <;> intro hb hb2 <;> (try simp [-Int.not_le, -Int.not_lt, -Nat.not_le, -Nat.not_lt, -Nat.add_left_cancel_iff] at hb2)) | (refine draw_listA (by rfl) (by kernel_rfl) ?_) | (refine draw_listB (by simp [allocsOf, isAlloc]; rfl) (by kernel_rfl) ?_) | simp (maxSteps := 2000000) (disch := first | omega | assumption | simp [*]) [*, -Int.not_le, -Int.not_lt, -Nat.not_le, -Nat.not_lt, -Nat.add_left_cancel_iff, wrap_i64, wrap_u64, h6, h1, h2, h5, isI_cells hv, isI_one hv, isI_low hv, isI_len hv])
    rfl
theorem l4Intent_s {N : Nat} {o : Int} {v : AV} (hv : IsI v) (hc : PCtx N (xsOf v)) (ho : PSet (xsOf v).length o = true) {K : AV → Prop} {tg : Tg K} : CW env 91 [.agg [.int .i64 N, v], .int .i64 o] K tg ↔ K (.int .i64 (IntS (xsOf v) N o)) := callsTo_iff (l4Intent_c hv hc ho)
attribute [simp] l4Intent_s
def Clo (xs : List Int) (N : Nat) (s : Int) : Int := IntS xs N (Ext xs s)
theorem l4Closure_c {N : Nat} {s : Int} {v : AV} (hv : IsI v) (hc : PCtx N (xsOf v)) (hs : PSet N s = true) : EvC env 46 [.agg [.int .i64 N, v], .int .i64 s] (.int .i64 (Clo (xsOf v) N s)) := by
  refine evC_of (F := Tryz.f46) rfl rfl (Nat.le_of_ble_eq_true rfl) ?_
  have he := ext_pset (xsOf v) s hc.2.2.1
  repeat' (first | (apply brI <;> intro hb hb2 <;> (try simp [-Int.not_le, -Int.not_lt, -Nat.not_le, -Nat.not_lt, -Nat.add_left_cancel_iff] at hb2)) | (refine draw_listA (by rfl) (by kernel_rfl) ?_) | (refine draw_listB (by simp [allocsOf, isAlloc]; rfl) (by kernel_rfl) ?_) | simp (maxSteps := 2000000) (disch := first | omega | assumption | simp [*]) [*, -Int.not_le, -Int.not_lt, -Nat.not_le, -Nat.not_lt, -Nat.add_left_cancel_iff, wrap_i64, wrap_u64, Tryz.f46, isI_cells hv, isI_one hv, isI_low hv, isI_len hv])
  rfl
theorem l4Closure_s {N : Nat} {s : Int} {v : AV} (hv : IsI v) (hc : PCtx N (xsOf v)) (hs : PSet N s = true) {K : AV → Prop} {tg : Tg K} : CW env 46 [.agg [.int .i64 N, v], .int .i64 s] K tg ↔ K (.int .i64 (Clo (xsOf v) N s)) := callsTo_iff (l4Closure_c hv hc hs)
attribute [simp] l4Closure_s
theorem areObjects_c {n s : Int} {v : AV} (hv : IsI v) : EvC env 107 [.agg [.int .i64 n, v], .int .i64 s] (.bool (decide (PCtx n (xsOf v)) && PSet (xsOf v).length s)) := by
  refine evC_of (F := Tryz.f107) rfl rfl (Nat.le_of_ble_eq_true rfl) ?_
  repeat' (first | (apply brI <;> intro hb hb2 <;> (try simp [-Int.not_le, -Int.not_lt, -Nat.not_le, -Nat.not_lt, -Nat.add_left_cancel_iff] at hb2)) | (refine draw_listA (by rfl) (by kernel_rfl) ?_) | (refine draw_listB (by simp [allocsOf, isAlloc]; rfl) (by kernel_rfl) ?_) | simp (maxSteps := 2000000) (disch := first | omega | assumption | simp [*]) [*, -Int.not_le, -Int.not_lt, -Nat.not_le, -Nat.not_lt, -Nat.add_left_cancel_iff, wrap_i64, wrap_u64, Tryz.f107, isI_cells hv, isI_one hv, isI_low hv, isI_len hv, isI_index hv, isI_load hv])
theorem areObjects_s {n s : Int} {v : AV} (hv : IsI v) {K : AV → Prop} {tg : Tg K} : CW env 107 [.agg [.int .i64 n, v], .int .i64 s] K tg ↔ K (.bool (decide (PCtx n (xsOf v)) && PSet (xsOf v).length s)) := callsTo_iff (areObjects_c hv)
attribute [simp] areObjects_s
theorem iIntentOf_c {N : Nat} {o : Int} {v : AV} (hv : IsI v) (hc : PCtx N (xsOf v)) (ho : PSet (xsOf v).length o = true) : EvC env 84 [.agg [.int .i64 N, v], .int .i64 o] (.int .i64 (IntS (xsOf v) N o)) := by
  refine evC_of (F := Tryz.f84) rfl rfl (Nat.le_of_ble_eq_true rfl) ?_
  have hl := hc.2.2.1
  have hn := hc.2.1
  have hN8 : N ≤ 8 := by omega
  have hN8' : (N : Int) ≤ 8 := by omega
  have h8 := pset8 ho
  have hcm := iCommon_c (v := v) (c := o) (L := N) (full := fun _ => true) (q := fun k m => PHas (nth (xsOf v) k) m) hv hN8 hl (ctx_self hc) h8
  rw [setOf_full] at hcm
  have hcs : ∀ (K : AV → Prop) (tg : Tg K), CW env 108 [v, .int .i64 o, .int .i64 (2 ^ N - 1)] K tg ↔ K (.int .i64 (IntS (xsOf v) N o)) := fun K tg => callsTo_iff hcm
  repeat' (first | (apply brI <;> intro hb hb2 <;> (try simp [-Int.not_le, -Int.not_lt, -Nat.not_le, -Nat.not_lt, -Nat.add_left_cancel_iff] at hb2)) | (refine draw_listA (by rfl) (by kernel_rfl) ?_) | (refine draw_listB (by simp [allocsOf, isAlloc]; rfl) (by kernel_rfl) ?_) | simp (maxSteps := 2000000) (disch := first | omega | assumption | simp [*]) [*, -Int.not_le, -Int.not_lt, -Nat.not_le, -Nat.not_lt, -Nat.add_left_cancel_iff, wrap_i64, wrap_u64, Tryz.f84, isI_cells hv, isI_one hv, isI_low hv, isI_len hv, isI_index hv, isI_load hv])
theorem iIntentOf_s {N : Nat} {o : Int} {v : AV} (hv : IsI v) (hc : PCtx N (xsOf v)) (ho : PSet (xsOf v).length o = true) {K : AV → Prop} {tg : Tg K} : CW env 84 [.agg [.int .i64 N, v], .int .i64 o] K tg ↔ K (.int .i64 (IntS (xsOf v) N o)) := callsTo_iff (iIntentOf_c hv hc ho)
attribute [simp] iIntentOf_s
theorem iClosureOf_c {N : Nat} {s : Int} {v : AV} (hv : IsI v) (hc : PCtx N (xsOf v)) (hs : PSet N s = true) : EvC env 38 [.agg [.int .i64 N, v], .int .i64 s] (.int .i64 (Clo (xsOf v) N s)) := by
  refine evC_of (F := Tryz.f38) rfl rfl (Nat.le_of_ble_eq_true rfl) ?_
  have he := ext_pset (xsOf v) s hc.2.2.1
  repeat' (first | (apply brI <;> intro hb hb2 <;> (try simp [-Int.not_le, -Int.not_lt, -Nat.not_le, -Nat.not_lt, -Nat.add_left_cancel_iff] at hb2)) | (refine draw_listA (by rfl) (by kernel_rfl) ?_) | (refine draw_listB (by simp [allocsOf, isAlloc]; rfl) (by kernel_rfl) ?_) | simp (maxSteps := 2000000) (disch := first | omega | assumption | simp [*]) [*, -Int.not_le, -Int.not_lt, -Nat.not_le, -Nat.not_lt, -Nat.add_left_cancel_iff, wrap_i64, wrap_u64, Tryz.f38, isI_cells hv, isI_one hv, isI_low hv, isI_len hv])
  rfl
theorem iClosureOf_s {N : Nat} {s : Int} {v : AV} (hv : IsI v) (hc : PCtx N (xsOf v)) (hs : PSet N s = true) {K : AV → Prop} {tg : Tg K} : CW env 38 [.agg [.int .i64 N, v], .int .i64 s] K tg ↔ K (.int .i64 (Clo (xsOf v) N s)) := callsTo_iff (iClosureOf_c hv hc hs)
attribute [simp] iClosureOf_s
def HoldC (n : Int) (xs : List Int) (a b : Int) : Prop := PCtx n xs ∧ PSet n a = true ∧ PSet n b = true ∧ PSub b (Clo xs n.toNat a) = true
noncomputable instance (n : Int) (xs : List Int) (a b : Int) : Decidable (HoldC n xs a b) := Classical.propDecidable _
theorem sHoldsIn_c {n a b : Int} {v : AV} (hv : IsI v) : EvC env 19 [.agg [.int .i64 n, v], .agg [.int .i64 a, .int .i64 b]] (.bool (decide (HoldC n (xsOf v) a b))) := by
  refine evC_of (F := Tryz.f19) rfl rfl (Nat.le_of_ble_eq_true rfl) ?_
  by_cases hp : PCtx n (xsOf v)
  · by_cases ha : PSet n a = true
    · by_cases hb : PSet n b = true
      · obtain ⟨N, rfl⟩ : ∃ N : Nat, n = N := ⟨n.toNat, by have := hp.1; omega⟩
        have hl := hp.2.2.1
        have hn := hp.2.1
        have hN8 : N ≤ 8 := by omega
        have b1 := pset_lt hb
        have hcp : PSet N (Clo (xsOf v) N a) = true := int_pset _ _ hN8
        have hc1 := pset_lt hcp
        have hsub := psub_and (t := Clo (xsOf v) N a) b1.1
        repeat' (first | (apply brI <;> intro hb hb2 <;> (try simp [-Int.not_le, -Int.not_lt, -Nat.not_le, -Nat.not_lt, -Nat.add_left_cancel_iff] at hb2)) | (refine draw_listA (by rfl) (by kernel_rfl) ?_) | (refine draw_listB (by simp [allocsOf, isAlloc]; rfl) (by kernel_rfl) ?_) | simp (maxSteps := 2000000) (disch := first | omega | assumption | simp [*]) [*, -Int.not_le, -Int.not_lt, -Nat.not_le, -Nat.not_lt, -Nat.add_left_cancel_iff, wrap_i64, wrap_u64, Tryz.f19, isI_cells hv, isI_one hv, isI_low hv, isI_len hv, bits_and])
        rw [Bool.eq_iff_iff]
        simp [HoldC, hp, ha, hb]
      · have hc : ¬ HoldC n (xsOf v) a b := fun h => hb h.2.2.1
        repeat' (first | (apply brI <;> intro hb hb2 <;> (try simp [-Int.not_le, -Int.not_lt, -Nat.not_le, -Nat.not_lt, -Nat.add_left_cancel_iff] at hb2)) | (refine draw_listA (by rfl) (by kernel_rfl) ?_) | (refine draw_listB (by simp [allocsOf, isAlloc]; rfl) (by kernel_rfl) ?_) | simp (maxSteps := 2000000) (disch := first | omega | assumption | simp [*]) [*, -Int.not_le, -Int.not_lt, -Nat.not_le, -Nat.not_lt, -Nat.add_left_cancel_iff, wrap_i64, wrap_u64, Tryz.f19, isI_cells hv, isI_one hv, isI_low hv])
    · have hc : ¬ HoldC n (xsOf v) a b := fun h => ha h.2.1
      repeat' (first | (apply brI <;> intro hb hb2 <;> (try simp [-Int.not_le, -Int.not_lt, -Nat.not_le, -Nat.not_lt, -Nat.add_left_cancel_iff] at hb2)) | (refine draw_listA (by rfl) (by kernel_rfl) ?_) | (refine draw_listB (by simp [allocsOf, isAlloc]; rfl) (by kernel_rfl) ?_) | simp (maxSteps := 2000000) (disch := first | omega | assumption | simp [*]) [*, -Int.not_le, -Int.not_lt, -Nat.not_le, -Nat.not_lt, -Nat.add_left_cancel_iff, wrap_i64, wrap_u64, Tryz.f19, isI_cells hv, isI_one hv, isI_low hv])
  · have hc : ¬ HoldC n (xsOf v) a b := fun h => hp h.1
    repeat' (first | (apply brI <;> intro hb hb2 <;> (try simp [-Int.not_le, -Int.not_lt, -Nat.not_le, -Nat.not_lt, -Nat.add_left_cancel_iff] at hb2)) | (refine draw_listA (by rfl) (by kernel_rfl) ?_) | (refine draw_listB (by simp [allocsOf, isAlloc]; rfl) (by kernel_rfl) ?_) | simp (maxSteps := 2000000) (disch := first | omega | assumption | simp [*]) [*, -Int.not_le, -Int.not_lt, -Nat.not_le, -Nat.not_lt, -Nat.add_left_cancel_iff, wrap_i64, wrap_u64, Tryz.f19, isI_cells hv, isI_one hv, isI_low hv])
theorem sHoldsIn_s {n a b : Int} {v : AV} (hv : IsI v) {K : AV → Prop} {tg : Tg K} : CW env 19 [.agg [.int .i64 n, v], .agg [.int .i64 a, .int .i64 b]] K tg ↔ K (.bool (decide (HoldC n (xsOf v) a b))) := callsTo_iff (sHoldsIn_c hv)
attribute [simp] sHoldsIn_s
theorem iHoldsIn_c {n a b : Int} {v : AV} (hv : IsI v) : EvC env 40 [.agg [.int .i64 n, v], .agg [.int .i64 a, .int .i64 b]] (.bool (decide (HoldC n (xsOf v) a b))) := by
  refine evC_of (F := Tryz.f40) rfl rfl (Nat.le_of_ble_eq_true rfl) ?_
  by_cases hp : PCtx n (xsOf v)
  · by_cases ha : PSet n a = true
    · by_cases hb : PSet n b = true
      · obtain ⟨N, rfl⟩ : ∃ N : Nat, n = N := ⟨n.toNat, by have := hp.1; omega⟩
        have hl := hp.2.2.1
        have hn := hp.2.1
        have hN8 : N ≤ 8 := by omega
        have b1 := pset_lt hb
        have hcp : PSet N (Clo (xsOf v) N a) = true := int_pset _ _ hN8
        have hc1 := pset_lt hcp
        repeat' (first | (apply brI <;> intro hb hb2 <;> (try simp [-Int.not_le, -Int.not_lt, -Nat.not_le, -Nat.not_lt, -Nat.add_left_cancel_iff] at hb2)) | (refine draw_listA (by rfl) (by kernel_rfl) ?_) | (refine draw_listB (by simp [allocsOf, isAlloc]; rfl) (by kernel_rfl) ?_) | simp (maxSteps := 2000000) (disch := first | omega | assumption | simp [*]) [*, -Int.not_le, -Int.not_lt, -Nat.not_le, -Nat.not_lt, -Nat.add_left_cancel_iff, wrap_i64, wrap_u64, Tryz.f40, isI_cells hv, isI_one hv, isI_low hv, isI_len hv, psub_diff])
        rw [Bool.eq_iff_iff]
        simp [HoldC, hp, ha, hb]
      · have hc : ¬ HoldC n (xsOf v) a b := fun h => hb h.2.2.1
        repeat' (first | (apply brI <;> intro hb hb2 <;> (try simp [-Int.not_le, -Int.not_lt, -Nat.not_le, -Nat.not_lt, -Nat.add_left_cancel_iff] at hb2)) | (refine draw_listA (by rfl) (by kernel_rfl) ?_) | (refine draw_listB (by simp [allocsOf, isAlloc]; rfl) (by kernel_rfl) ?_) | simp (maxSteps := 2000000) (disch := first | omega | assumption | simp [*]) [*, -Int.not_le, -Int.not_lt, -Nat.not_le, -Nat.not_lt, -Nat.add_left_cancel_iff, wrap_i64, wrap_u64, Tryz.f40, isI_cells hv, isI_one hv, isI_low hv])
    · have hc : ¬ HoldC n (xsOf v) a b := fun h => ha h.2.1
      repeat' (first | (apply brI <;> intro hb hb2 <;> (try simp [-Int.not_le, -Int.not_lt, -Nat.not_le, -Nat.not_lt, -Nat.add_left_cancel_iff] at hb2)) | (refine draw_listA (by rfl) (by kernel_rfl) ?_) | (refine draw_listB (by simp [allocsOf, isAlloc]; rfl) (by kernel_rfl) ?_) | simp (maxSteps := 2000000) (disch := first | omega | assumption | simp [*]) [*, -Int.not_le, -Int.not_lt, -Nat.not_le, -Nat.not_lt, -Nat.add_left_cancel_iff, wrap_i64, wrap_u64, Tryz.f40, isI_cells hv, isI_one hv, isI_low hv])
  · have hc : ¬ HoldC n (xsOf v) a b := fun h => hp h.1
    repeat' (first | (apply brI <;> intro hb hb2 <;> (try simp [-Int.not_le, -Int.not_lt, -Nat.not_le, -Nat.not_lt, -Nat.add_left_cancel_iff] at hb2)) | (refine draw_listA (by rfl) (by kernel_rfl) ?_) | (refine draw_listB (by simp [allocsOf, isAlloc]; rfl) (by kernel_rfl) ?_) | simp (maxSteps := 2000000) (disch := first | omega | assumption | simp [*]) [*, -Int.not_le, -Int.not_lt, -Nat.not_le, -Nat.not_lt, -Nat.add_left_cancel_iff, wrap_i64, wrap_u64, Tryz.f40, isI_cells hv, isI_one hv, isI_low hv])
theorem iHoldsIn_s {n a b : Int} {v : AV} (hv : IsI v) {K : AV → Prop} {tg : Tg K} : CW env 40 [.agg [.int .i64 n, v], .agg [.int .i64 a, .int .i64 b]] K tg ↔ K (.bool (decide (HoldC n (xsOf v) a b))) := callsTo_iff (iHoldsIn_c hv)
attribute [simp] iHoldsIn_s
def IsCon (n : Int) (xs : List Int) (e i : Int) : Prop := PCtx n xs ∧ PSet xs.length e = true ∧ PSet n i = true ∧ IntS xs n.toNat e = i ∧ Ext xs i = e
noncomputable instance (n : Int) (xs : List Int) (a b : Int) : Decidable (IsCon n xs a b) := Classical.propDecidable _
theorem list_ext {xs ys : List Int} (hl : xs.length = ys.length) (h : ∀ j, j < xs.length → nth xs j = nth ys j) : xs = ys := by
  apply List.ext_getElem?
  intro j
  by_cases hj : j < xs.length
  · rw [nth_get? hj, nth_get? (by omega), h j hj]
  · rw [List.getElem?_eq_none (by omega), List.getElem?_eq_none (by omega)]
theorem l2Same_c {u v : AV} (hu : IsI u) (hv : IsI v) : EvC env 97 [u, v] (.bool (decide (xsOf u = xsOf v))) := by
  refine evC_of (F := Tryz.f97) rfl rfl (Nat.le_of_ble_eq_true rfl) ?_
  have := hu.len
  have := hv.len
  repeat' (first | (apply brI <;> intro hb hb2 <;> (try simp [-Int.not_le, -Int.not_lt, -Nat.not_le, -Nat.not_lt, -Nat.add_left_cancel_iff] at hb2)) | (refine draw_listA (by rfl) (by kernel_rfl) ?_) | (refine draw_listB (by simp [allocsOf, isAlloc]; rfl) (by kernel_rfl) ?_) | simp (maxSteps := 2000000) (disch := first | omega | assumption | simp [*]) [*, -Int.not_le, -Int.not_lt, -Nat.not_le, -Nat.not_lt, -Nat.add_left_cancel_iff, wrap_i64, wrap_u64, Tryz.f97, isI_len hu, isI_len hv])
  · intro e; exact hb2 (by rw [e])
  refine W_loopP (xsOf u).length (fun i s => s 5 = .int .i64 i ∧ s 0 = u ∧ s 1 = v ∧ ∀ j, j < i → nth (xsOf u) j = nth (xsOf v) j) rfl ?_ ?_
  · simp [*]
  rintro i s hi ⟨h5, h0, h1, hj⟩
  by_cases hi2 : i < (xsOf u).length
  · have hi3 : i < (xsOf v).length := by omega
    repeat' (first | (apply brI <;> intro hb hb2 <;> (try simp [-Int.not_le, -Int.not_lt, -Nat.not_le, -Nat.not_lt, -Nat.add_left_cancel_iff] at hb2)) | (refine draw_listA (by rfl) (by kernel_rfl) ?_) | (refine draw_listB (by simp [allocsOf, isAlloc]; rfl) (by kernel_rfl) ?_) | simp (maxSteps := 2000000) (disch := first | omega | assumption | simp [*]) [*, -Int.not_le, -Int.not_lt, -Nat.not_le, -Nat.not_lt, -Nat.add_left_cancel_iff, wrap_i64, wrap_u64, h5, h0, h1, isI_len hu, isI_index hu, isI_load hu, isI_index hv, isI_load hv])
    · intro e; apply hb2; rw [e]
    · intro j hj2
      by_cases e : j = i
      · subst e; exact hb2
      · exact hj j (by omega)
  · obtain rfl : i = (xsOf u).length := by omega
    repeat' (first | (apply brI <;> intro hb hb2 <;> (try simp [-Int.not_le, -Int.not_lt, -Nat.not_le, -Nat.not_lt, -Nat.add_left_cancel_iff] at hb2)) | (refine draw_listA (by rfl) (by kernel_rfl) ?_) | (refine draw_listB (by simp [allocsOf, isAlloc]; rfl) (by kernel_rfl) ?_) | simp (maxSteps := 2000000) (disch := first | omega | assumption | simp [*]) [*, -Int.not_le, -Int.not_lt, -Nat.not_le, -Nat.not_lt, -Nat.add_left_cancel_iff, wrap_i64, wrap_u64, h5, h0, h1, isI_len hu])
    exact list_ext (by omega) hj
theorem l2Same_s {u v : AV} (hu : IsI u) (hv : IsI v) {K : AV → Prop} {tg : Tg K} : CW env 97 [u, v] K tg ↔ K (.bool (decide (xsOf u = xsOf v))) := callsTo_iff (l2Same_c hu hv)
attribute [simp] l2Same_s
theorem sEqualContext_c {n m : Int} {u v : AV} (hu : IsI u) (hv : IsI v) : EvC env 60 [.agg [.int .i64 n, u], .agg [.int .i64 m, v]] (.bool (decide (n = m ∧ xsOf u = xsOf v))) := by
  refine evC_of (F := Tryz.f60) rfl rfl (Nat.le_of_ble_eq_true rfl) ?_
  repeat' (first | (apply brI <;> intro hb hb2 <;> (try simp [-Int.not_le, -Int.not_lt, -Nat.not_le, -Nat.not_lt, -Nat.add_left_cancel_iff] at hb2)) | (refine draw_listA (by rfl) (by kernel_rfl) ?_) | (refine draw_listB (by simp [allocsOf, isAlloc]; rfl) (by kernel_rfl) ?_) | simp (maxSteps := 2000000) (disch := first | omega | assumption | simp [*]) [*, -Int.not_le, -Int.not_lt, -Nat.not_le, -Nat.not_lt, -Nat.add_left_cancel_iff, wrap_i64, wrap_u64, Tryz.f60, isI_cells hu, isI_one hu, isI_low hu, isI_cells hv, isI_one hv, isI_low hv])
theorem sEqualContext_s {n m : Int} {u v : AV} (hu : IsI u) (hv : IsI v) {K : AV → Prop} {tg : Tg K} : CW env 60 [.agg [.int .i64 n, u], .agg [.int .i64 m, v]] K tg ↔ K (.bool (decide (n = m ∧ xsOf u = xsOf v))) := callsTo_iff (sEqualContext_c hu hv)
attribute [simp] sEqualContext_s
end Go.Proofs.YtlglhokpaplifaaGreatDoor
