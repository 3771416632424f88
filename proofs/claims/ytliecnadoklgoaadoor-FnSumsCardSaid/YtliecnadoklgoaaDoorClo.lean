/- Closures of sets of attributes and of objects. Conditions: none. -/
import Derived.Test.YtliecnadoklgoaaDoorConA
namespace Go.Proofs.YtliecnadoklgoaaDoor
open Ev
set_option linter.unusedVariables false
set_option linter.unusedSimpArgs false
set_option maxHeartbeats 4000000

noncomputable def cloF (n : Int) (xs : List Int) (s : Int) : Int := if PCtx n xs ∧ PSet n s = true then Clo xs n.toNat s else 0
theorem sClosureOf_c {n s : Int} {v : AV} (hv : IsI v) : EvC env 19 [.agg [.int .i64 n, v], .int .i64 s] (.int .i64 (cloF n (xsOf v) s)) := by
  refine evC_of (F := Tryd.f19) rfl rfl (Nat.le_of_ble_eq_true rfl) ?_
  have hvl := hv.len
  by_cases hp : PCtx n (xsOf v)
  · by_cases hs : PSet n s = true
    · obtain ⟨N, rfl⟩ : ∃ N : Nat, n = N := ⟨n.toNat, by have := hp.1; omega⟩
      have e : cloF N (xsOf v) s = Clo (xsOf v) N s := by unfold cloF; rw [if_pos ⟨hp, hs⟩]; rfl
      rw [e]
      clear e
      repeat' (first | (apply brI <;> intro hb hb2 <;> (try simp [-Int.not_le, -Int.not_lt, -Nat.not_le, -Nat.not_lt, -Nat.add_left_cancel_iff] at hb2)) | (refine draw_listA (by rfl) (by kernel_rfl) ?_) | (refine draw_listB (by simp [allocsOf, isAlloc]; rfl) (by kernel_rfl) ?_) | simp (maxSteps := 2000000) (disch := first | omega | assumption | simp [*]) [*, -Int.not_le, -Int.not_lt, -Nat.not_le, -Nat.not_lt, -Nat.add_left_cancel_iff, wrap_i64, wrap_u64, Tryd.f19, isI_cells hv, isI_one hv, isI_low hv])
    · have e : cloF n (xsOf v) s = 0 := by unfold cloF; rw [if_neg fun h => hs h.2]
      have hs2 : PSet n s = false := by simpa using hs
      rw [e]
      clear e hs
      repeat' (first | (apply brI <;> intro hb hb2 <;> (try simp [-Int.not_le, -Int.not_lt, -Nat.not_le, -Nat.not_lt, -Nat.add_left_cancel_iff] at hb2)) | (refine draw_listA (by rfl) (by kernel_rfl) ?_) | (refine draw_listB (by simp [allocsOf, isAlloc]; rfl) (by kernel_rfl) ?_) | simp (maxSteps := 2000000) (disch := first | omega | assumption | simp [*]) [*, -Int.not_le, -Int.not_lt, -Nat.not_le, -Nat.not_lt, -Nat.add_left_cancel_iff, wrap_i64, wrap_u64, Tryd.f19, isI_cells hv, isI_one hv, isI_low hv])
  · have e : cloF n (xsOf v) s = 0 := by unfold cloF; rw [if_neg fun h => hp h.1]
    rw [e]
    clear e
    repeat' (first | (apply brI <;> intro hb hb2 <;> (try simp [-Int.not_le, -Int.not_lt, -Nat.not_le, -Nat.not_lt, -Nat.add_left_cancel_iff] at hb2)) | (refine draw_listA (by rfl) (by kernel_rfl) ?_) | (refine draw_listB (by simp [allocsOf, isAlloc]; rfl) (by kernel_rfl) ?_) | simp (maxSteps := 2000000) (disch := first | omega | assumption | simp [*]) [*, -Int.not_le, -Int.not_lt, -Nat.not_le, -Nat.not_lt, -Nat.add_left_cancel_iff, wrap_i64, wrap_u64, Tryd.f19, isI_cells hv, isI_one hv, isI_low hv])
theorem sClosureOf_s {n s : Int} {v : AV} (hv : IsI v) {K : AV → Prop} {tg : Tg K} : CW env 19 [.agg [.int .i64 n, v], .int .i64 s] K tg ↔ K (.int .i64 (cloF n (xsOf v) s)) := callsTo_iff (sClosureOf_c hv)
attribute [simp] sClosureOf_s
noncomputable def oclF (n : Int) (xs : List Int) (s : Int) : Int := if PCtx n xs ∧ PSet xs.length s = true then Ext xs (IntS xs n.toNat s) else 0
theorem sObjectClosure_c {n s : Int} {v : AV} (hv : IsI v) : EvC env 20 [.agg [.int .i64 n, v], .int .i64 s] (.int .i64 (oclF n (xsOf v) s)) := by
  refine evC_of (F := Tryd.f20) rfl rfl (Nat.le_of_ble_eq_true rfl) ?_
  have hvl := hv.len
  by_cases hp : PCtx n (xsOf v)
  · by_cases hs : PSet (xsOf v).length s = true
    · obtain ⟨N, rfl⟩ : ∃ N : Nat, n = N := ⟨n.toNat, by have := hp.1; omega⟩
      have e : oclF N (xsOf v) s = Ext (xsOf v) (IntS (xsOf v) N s) := by unfold oclF; rw [if_pos ⟨hp, hs⟩]; rfl
      have hq : PSet N (IntS (xsOf v) N s) = true := int_pset _ _ (by have := hp.2.1; omega)
      rw [e]
      clear e
      repeat' (first | (apply brI <;> intro hb hb2 <;> (try simp [-Int.not_le, -Int.not_lt, -Nat.not_le, -Nat.not_lt, -Nat.add_left_cancel_iff] at hb2)) | (refine draw_listA (by rfl) (by kernel_rfl) ?_) | (refine draw_listB (by simp [allocsOf, isAlloc]; rfl) (by kernel_rfl) ?_) | simp (maxSteps := 2000000) (disch := first | omega | assumption | simp [*]) [*, -Int.not_le, -Int.not_lt, -Nat.not_le, -Nat.not_lt, -Nat.add_left_cancel_iff, wrap_i64, wrap_u64, Tryd.f20, isI_cells hv, isI_one hv, isI_low hv, isI_len hv])
    · have e : oclF n (xsOf v) s = 0 := by unfold oclF; rw [if_neg fun h => hs h.2]
      have hs2 : PSet (xsOf v).length s = false := by simpa using hs
      rw [e]
      clear e hs
      repeat' (first | (apply brI <;> intro hb hb2 <;> (try simp [-Int.not_le, -Int.not_lt, -Nat.not_le, -Nat.not_lt, -Nat.add_left_cancel_iff] at hb2)) | (refine draw_listA (by rfl) (by kernel_rfl) ?_) | (refine draw_listB (by simp [allocsOf, isAlloc]; rfl) (by kernel_rfl) ?_) | simp (maxSteps := 2000000) (disch := first | omega | assumption | simp [*]) [*, -Int.not_le, -Int.not_lt, -Nat.not_le, -Nat.not_lt, -Nat.add_left_cancel_iff, wrap_i64, wrap_u64, Tryd.f20, isI_cells hv, isI_one hv, isI_low hv, isI_len hv])
  · have e : oclF n (xsOf v) s = 0 := by unfold oclF; rw [if_neg fun h => hp h.1]
    rw [e]
    clear e
    repeat' (first | (apply brI <;> intro hb hb2 <;> (try simp [-Int.not_le, -Int.not_lt, -Nat.not_le, -Nat.not_lt, -Nat.add_left_cancel_iff] at hb2)) | (refine draw_listA (by rfl) (by kernel_rfl) ?_) | (refine draw_listB (by simp [allocsOf, isAlloc]; rfl) (by kernel_rfl) ?_) | simp (maxSteps := 2000000) (disch := first | omega | assumption | simp [*]) [*, -Int.not_le, -Int.not_lt, -Nat.not_le, -Nat.not_lt, -Nat.add_left_cancel_iff, wrap_i64, wrap_u64, Tryd.f20, isI_cells hv, isI_one hv, isI_low hv, isI_len hv])
theorem sObjectClosure_s {n s : Int} {v : AV} (hv : IsI v) {K : AV → Prop} {tg : Tg K} : CW env 20 [.agg [.int .i64 n, v], .int .i64 s] K tg ↔ K (.int .i64 (oclF n (xsOf v) s)) := callsTo_iff (sObjectClosure_c hv)
attribute [simp] sObjectClosure_s
end Go.Proofs.YtliecnadoklgoaaDoor
