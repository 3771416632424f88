/- What is drawn for the law of factors (spec.l20Case is not here yet). Conditions: none. -/
import Derived.Test.YtliecnadoklgoaaGreatDoorDrawK
namespace Go.Proofs.YtliecnadoklgoaaGreatDoor
open Ev
set_option linter.unusedVariables false
set_option linter.unusedSimpArgs false
set_option maxHeartbeats 4000000

theorem drawGreedyFactors_t {b : AV} (hB : IsB b) (hbr : brwOf b = false) (hl : bLen b ≤ 1073741824) : CallsTo env 71 [b] (fun r => DrK r) := by
  refine callsTo_mk (F := Tryz.f71) rfl rfl (Nat.le_of_ble_eq_true rfl) ?_
  have hcb := isB_cells hB
  have hob := isB_one hB
  repeat' (first | (apply brI <;> intro hb hb2 <;> (try simp [-Int.not_le, -Int.not_lt, -Nat.not_le, -Nat.not_lt, -Nat.add_left_cancel_iff] at hb2)) | (refine draw_listA (by rfl) (by kernel_rfl) ?_) | (refine draw_listB (by simp [allocsOf, isAlloc]; rfl) (by kernel_rfl) ?_) | simp (maxSteps := 2000000) (disch := first | omega | assumption | simp [*]) [*, -Int.not_le, -Int.not_lt, -Nat.not_le, -Nat.not_lt, -Nat.add_left_cancel_iff, wrap_i64, wrap_u64, Tryz.f71, isB_low hB])
  refine cf_xp (by simpa [isB_low hB] using l1New_t hB hbr hl) rfl ?_
  rintro r ⟨hh, rfl⟩
  refine ⟨_, _, _, rfl, ?_⟩
  repeat' (first | (apply brI <;> intro hb hb2 <;> (try simp [-Int.not_le, -Int.not_lt, -Nat.not_le, -Nat.not_lt, -Nat.add_left_cancel_iff] at hb2)) | (refine draw_listA (by rfl) (by kernel_rfl) ?_) | (refine draw_listB (by simp [allocsOf, isAlloc]; rfl) (by kernel_rfl) ?_) | simp (maxSteps := 2000000) (disch := first | omega | assumption | simp [*]) [*, -Int.not_le, -Int.not_lt, -Nat.not_le, -Nat.not_lt, -Nat.add_left_cancel_iff, wrap_i64, wrap_u64])
  refine cf_open rfl rfl (l3Bent_o hB hl (g := 0) ⟨0, hh, by omega, by omega, by simp [hset, hnil]⟩ (by simp [farOff]) fun n rk v h1 hr1 hr2 hp hc1 hf1 => ?_)
  simp only [farOff] at hr1 hr2 hf1
  have ov := hp.one
  have cv := hp.cells
  have f2 : h1 2 = some (.var 0 26 (.agg [.int .i64 0, .sl 0 .lit []])) := by rw [hf1 2 (by omega) (by omega)]; simp [hset]
  have hend : ∀ h', h' rk = h1 rk → DrK (.agg [.int .i64 n, expo h' v]) := fun h' e => by
    obtain ⟨rows, e1, e2⟩ := (show CAny h' rk v from .inl (hp.keep e)).res
    exact ⟨n, rows, by simp [noEx, noExs, e1], e2⟩
  clear hf1 hp
  repeat' (first | (apply brI <;> intro hb hb2 <;> (try simp [-Int.not_le, -Int.not_lt, -Nat.not_le, -Nat.not_lt, -Nat.add_left_cancel_iff] at hb2)) | (refine draw_listA (by rfl) (by kernel_rfl) ?_) | (refine draw_listB (by simp [allocsOf, isAlloc]; rfl) (by kernel_rfl) ?_) | simp (maxSteps := 2000000) (disch := first | omega | assumption | simp [*]) [*, -Int.not_le, -Int.not_lt, -Nat.not_le, -Nat.not_lt, -Nat.add_left_cancel_iff, wrap_i64, wrap_u64, f2])
  exact hend _ (by rw [hset_other _ _ (by omega)])
theorem drawFewestFactors_t {b : AV} (hB : IsB b) (hbr : brwOf b = false) (hl : bLen b ≤ 1073741824) : CallsTo env 77 [b] (fun r => DrC r QInt) := by
  refine callsTo_mk (F := Tryz.f77) rfl rfl (Nat.le_of_ble_eq_true rfl) ?_
  have hcb := isB_cells hB
  have hob := isB_one hB
  have hr7 : [0, 1, 2, 3, 4, 5, 6] = List.range 7 := rfl
  have hv7 : IsI (.sl 1 .lit [.int .i64 4, .int .i64 3, .int .i64 4, .int .i64 2, .int .i64 0, .int .i64 5, .int .i64 (-1)]) := isI_lit1 (xs := [4, 3, 4, 2, 0, 5, -1]) (by decide)
  repeat' (first | (apply brI <;> intro hb hb2 <;> (try simp [-Int.not_le, -Int.not_lt, -Nat.not_le, -Nat.not_lt, -Nat.add_left_cancel_iff] at hb2)) | (refine draw_listA (by rfl) (by kernel_rfl) ?_) | (refine draw_listB (by simp [allocsOf, isAlloc]; rfl) (by kernel_rfl) ?_) | simp (maxSteps := 2000000) (disch := first | omega | assumption | simp [*]) [*, -Int.not_le, -Int.not_lt, -Nat.not_le, -Nat.not_lt, -Nat.add_left_cancel_iff, wrap_i64, wrap_u64, Tryz.f77, isB_low hB])
  refine cf_xp (by simpa [isB_low hB] using l1New_t hB hbr hl) rfl ?_
  rintro r ⟨hh, rfl⟩
  refine ⟨_, _, _, rfl, ?_⟩
  repeat' (first | (apply brI <;> intro hb hb2 <;> (try simp [-Int.not_le, -Int.not_lt, -Nat.not_le, -Nat.not_lt, -Nat.add_left_cancel_iff] at hb2)) | (refine draw_listA (by rfl) (by kernel_rfl) ?_) | (refine draw_listB (by simp [allocsOf, isAlloc]; rfl) (by kernel_rfl) ?_) | simp (maxSteps := 2000000) (disch := first | omega | assumption | simp [*]) [*, -Int.not_le, -Int.not_lt, -Nat.not_le, -Nat.not_lt, -Nat.add_left_cancel_iff, wrap_i64, wrap_u64])
  refine cf_open rfl rfl (l1Below_o hB hl (g := 0) ⟨0, hh, by omega, by omega, by simp [hset, hnil]⟩ fun x h0 hx _ hy hc0 hf0 => ?_)
  have hz := hy (by omega)
  obtain ⟨N, rfl⟩ : ∃ N : Nat, x = N := ⟨x.toNat, by omega⟩
  have d2 : h0 2 = some (.var 0 26 (.agg [.int .i64 0, .sl 0 .lit []])) := by rw [hf0 2 (by omega)]; simp [hset]
  have d5 : h0 5 = none := by rw [hf0 5 (by omega)]; simp [hset, hnil]
  clear hf0 hy
  repeat' (first | (apply brI <;> intro hb hb2 <;> (try simp [-Int.not_le, -Int.not_lt, -Nat.not_le, -Nat.not_lt, -Nat.add_left_cancel_iff] at hb2)) | (refine draw_listA (by rfl) (by kernel_rfl) ?_) | (refine draw_listB (by simp [allocsOf, isAlloc]; rfl) (by kernel_rfl) ?_) | simp (maxSteps := 2000000) (disch := first | omega | assumption | simp [*]) [*, -Int.not_le, -Int.not_lt, -Nat.not_le, -Nat.not_lt, -Nat.add_left_cancel_iff, wrap_i64, wrap_u64])
  refine cf_open rfl rfl (l3Make_o (M := 4) hB hl (by omega) (by decide) hc0 (by simp [farOff]) fun rk k v h1 hrk hkM hp hc1 hf1 => ?_)
  simp only [farOff] at hrk hf1
  have hp1 := hp.bt (by omega)
  have ov := hp.one
  have cv := hp.cells
  have f2 := (hf1 2 (by omega) (by omega)).trans d2
  have f5 := (hf1 5 (by omega) (by omega)).trans d5
  clear hf1 hp d2 d5 hc0
  repeat' (first | (apply brI <;> intro hb hb2 <;> (try simp [-Int.not_le, -Int.not_lt, -Nat.not_le, -Nat.not_lt, -Nat.add_left_cancel_iff] at hb2)) | (refine draw_listA (by rfl) (by kernel_rfl) ?_) | (refine draw_listB (by simp [allocsOf, isAlloc]; rfl) (by kernel_rfl) ?_) | simp (maxSteps := 2000000) (disch := first | omega | assumption | simp [*]) [*, -Int.not_le, -Int.not_lt, -Nat.not_le, -Nat.not_lt, -Nat.add_left_cancel_iff, wrap_i64, wrap_u64, f5])
  refine cf_open rfl rfl (l1Once_o hB hl (hc1.keep (hset_other _ _ (by omega))) fun c4 h2 hc2 hf2 => ?_)
  have g2 : h2 2 = _ := ((hf2 2 (by omega)).trans (hset_other _ _ (by omega))).trans f2
  have g5 : h2 5 = some (.var 0 26 (.agg [.int .i64 N, v])) := by rw [hf2 5 (by omega)]; simp [hset, f5]
  have hp2 := hp1.keep (h' := h2) ((hf2 rk (by omega)).trans (hset_other _ _ (by omega)))
  clear hf2 hp1 f2 f5 hc1
  cases c4 with
  | true =>
    repeat' (first | (apply brI <;> intro hb hb2 <;> (try simp [-Int.not_le, -Int.not_lt, -Nat.not_le, -Nat.not_lt, -Nat.add_left_cancel_iff] at hb2)) | (refine draw_listA (by rfl) (by kernel_rfl) ?_) | (refine draw_listB (by simp [allocsOf, isAlloc]; rfl) (by kernel_rfl) ?_) | simp (maxSteps := 2000000) (disch := first | omega | assumption | simp [*]) [*, -Int.not_le, -Int.not_lt, -Nat.not_le, -Nat.not_lt, -Nat.add_left_cancel_iff, wrap_i64, wrap_u64, g2, g5])
    refine cf_open rfl rfl (l3Bent_o hB hl hc2 (by simp [farOff]) fun n rk4 v4 h4 hr1 hr2 hp4 hc4 hf4 => ?_)
    simp only [farOff] at hr1 hr2 hf4
    have ov4 := hp4.one
    have cv4 := hp4.cells
    have j2 := (hf4 2 (by omega) (by omega)).trans g2
    have j5 := (hf4 5 (by omega) (by omega)).trans g5
    clear hf4 g2 g5 hp2 hc2
    repeat' (first | (apply brI <;> intro hb hb2 <;> (try simp [-Int.not_le, -Int.not_lt, -Nat.not_le, -Nat.not_lt, -Nat.add_left_cancel_iff] at hb2)) | simp (maxSteps := 2000000) (disch := first | omega | assumption | simp [*]) [*, -Int.not_le, -Int.not_lt, -Nat.not_le, -Nat.not_lt, -Nat.add_left_cancel_iff, wrap_i64, wrap_u64, j2, j5])
    refine draw_listK [5] [1, 0, 0, 2, 0, 0] (by kernel_rfl) (by kernel_rfl) (by kernel_rfl) (by kernel_rfl) ?_
    repeat' (first | (apply brI <;> intro hb hb2 <;> (try simp [-Int.not_le, -Int.not_lt, -Nat.not_le, -Nat.not_lt, -Nat.add_left_cancel_iff] at hb2)) | simp (maxSteps := 2000000) (disch := first | omega | assumption | simp [*]) [*, -Int.not_le, -Int.not_lt, -Nat.not_le, -Nat.not_lt, -Nat.add_left_cancel_iff, wrap_i64, wrap_u64, j2, j5])
    refine cf_open rfl rfl (l1PickInt_o hB hl (hc4.keep (hset_other _ _ (by omega))) hv7 (by simp [xsOf]) fun j h5 hj hc5 hf5 => ?_)
    generalize nth (xsOf (.sl 1 .lit [.int .i64 4, .int .i64 3, .int .i64 4, .int .i64 2, .int .i64 0, .int .i64 5, .int .i64 (-1)])) j = z
    refine ⟨kept1 (hf5 5 (by omega)), ?_⟩
    have i2 : h5 2 = _ := ((hf5 2 (by omega)).trans (hset_other _ _ (by omega))).trans j2
    have hend : ∀ h', h' rk4 = h5 rk4 → DrC (.tup [.agg [.int .i64 n, expo h' v4], .int .i64 z]) QInt := fun h' e => drc_mk (ys := [.int .i64 z]) (hp4.keep (by rw [e, hf5 _ (by omega), hset_other _ _ (by omega)])) (by simp [noExs, noEx]) ⟨_, rfl⟩
    clear hf5 hp4
    repeat' (first | (apply brI <;> intro hb hb2 <;> (try simp [-Int.not_le, -Int.not_lt, -Nat.not_le, -Nat.not_lt, -Nat.add_left_cancel_iff] at hb2)) | simp (maxSteps := 2000000) (disch := first | omega | assumption | simp [*]) [*, -Int.not_le, -Int.not_lt, -Nat.not_le, -Nat.not_lt, -Nat.add_left_cancel_iff, wrap_i64, wrap_u64, i2])
    exact hend _ (by rw [hset_other _ _ (by omega)])
  | false =>
    repeat' (first | (apply brI <;> intro hb hb2 <;> (try simp [-Int.not_le, -Int.not_lt, -Nat.not_le, -Nat.not_lt, -Nat.add_left_cancel_iff] at hb2)) | simp (maxSteps := 2000000) (disch := first | omega | assumption | simp [*]) [*, -Int.not_le, -Int.not_lt, -Nat.not_le, -Nat.not_lt, -Nat.add_left_cancel_iff, wrap_i64, wrap_u64, g2, g5])
    refine draw_listK [5] [1, 0, 0, 2, 0, 0] (by kernel_rfl) (by kernel_rfl) (by kernel_rfl) (by kernel_rfl) ?_
    repeat' (first | (apply brI <;> intro hb hb2 <;> (try simp [-Int.not_le, -Int.not_lt, -Nat.not_le, -Nat.not_lt, -Nat.add_left_cancel_iff] at hb2)) | simp (maxSteps := 2000000) (disch := first | omega | assumption | simp [*]) [*, -Int.not_le, -Int.not_lt, -Nat.not_le, -Nat.not_lt, -Nat.add_left_cancel_iff, wrap_i64, wrap_u64, g2, g5])
    refine cf_open rfl rfl (l1PickInt_o hB hl hc2 hv7 (by simp [xsOf]) fun j h5 hj hc5 hf5 => ?_)
    generalize nth (xsOf (.sl 1 .lit [.int .i64 4, .int .i64 3, .int .i64 4, .int .i64 2, .int .i64 0, .int .i64 5, .int .i64 (-1)])) j = z
    refine ⟨kept1 (hf5 5 (by omega)), ?_⟩
    have i2 := (hf5 2 (by omega)).trans g2
    have hend : ∀ h', h' rk = h5 rk → DrC (.tup [.agg [.int .i64 N, expo h' v], .int .i64 z]) QInt := fun h' e => drc_mk (ys := [.int .i64 z]) (hp2.keep (by rw [e, hf5 _ (by omega)])) (by simp [noExs, noEx]) ⟨_, rfl⟩
    clear hf5 hp2
    repeat' (first | (apply brI <;> intro hb hb2 <;> (try simp [-Int.not_le, -Int.not_lt, -Nat.not_le, -Nat.not_lt, -Nat.add_left_cancel_iff] at hb2)) | simp (maxSteps := 2000000) (disch := first | omega | assumption | simp [*]) [*, -Int.not_le, -Int.not_lt, -Nat.not_le, -Nat.not_lt, -Nat.add_left_cancel_iff, wrap_i64, wrap_u64, i2])
    exact hend _ (by rw [hset_other _ _ (by omega)])
end Go.Proofs.YtliecnadoklgoaaGreatDoor
