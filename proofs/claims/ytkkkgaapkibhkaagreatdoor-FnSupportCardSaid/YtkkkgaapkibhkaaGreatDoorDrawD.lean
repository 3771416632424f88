/- What is drawn for the laws of support. Conditions: none. -/
import Derived.Test.YtkkkgaapkibhkaaGreatDoorDrawC
import Derived.Test.YtkkkgaapkibhkaaGreatDoorLuxA
import Derived.Test.YtkkkgaapkibhkaaGreatDoorPathA
namespace Go.Proofs.YtkkkgaapkibhkaaGreatDoor
open Ev
set_option linter.unusedVariables false
set_option linter.unusedSimpArgs false
set_option maxHeartbeats 4000000

theorem kept1 {d off : Nat} {h h' : Heap} (e : h' (off + d) = h (off + d)) : Kept [d] off h h' := fun x hx => by
  rw [List.mem_singleton] at hx; subst hx; exact e
def DrC (r : AV) (qs : List AV → Prop) : Prop := ∃ (n : Int) (rows : List Int) (xs : List AV), noEx r = .tup (.agg [.int .i64 n, bufC 0 rows] :: xs) ∧ rows.length ≤ 9 ∧ qs xs
theorem drc_mk {n : Int} {v : AV} {h : Heap} {rk : Nat} {xs ys : List AV} {qs : List AV → Prop} (hB : CBt h rk v) (hx : noExs xs = ys) (hq : qs ys) : DrC (.tup (.agg [.int .i64 n, expo h v] :: xs)) qs := by
  obtain ⟨rows, hb, hl⟩ := hB
  refine ⟨n, rows, ys, ?_, hl, hq⟩
  have e := hb.expo
  simp [noEx, noExs, e, hx]
def QInt (xs : List AV) : Prop := ∃ k : Int, xs = [.int .i64 k]
def QRule (xs : List AV) : Prop := ∃ a c : Int, xs = [.agg [.int .i64 a, .int .i64 c]]
def QTwo (xs : List AV) : Prop := ∃ a c : Int, xs = [.int .i64 a, .int .i64 c] ∧ 0 ≤ a ∧ a ≤ 5 ∧ 0 ≤ c ∧ c ≤ 101
def QPath (xs : List AV) : Prop := ∃ v : AV, xs = [v] ∧ IsI v ∧ (xsOf v).length ≤ 8
theorem CDr.bt {h : Heap} {rk : Nat} {v : AV} {N k : Nat} (hc : CDr h rk v N k) (hk : k ≤ 6) : CBt h rk v := by
  obtain ⟨xs, a, b, c⟩ := hc
  exact ⟨xs, a, by omega⟩
theorem l4Attributes_t {b : AV} (hB : IsB b) (hbr : brwOf b = false) (hl : bLen b ≤ 1073741824) : CallsTo env 200 [b] (fun r => DrC r QInt) := by
  refine callsTo_mk (F := Tryz.f200) rfl rfl (Nat.le_of_ble_eq_true rfl) ?_
  have hcb := isB_cells hB
  have hob := isB_one hB
  repeat' (first | (apply br_intro <;> intro hb <;> (have hb2 := hb) <;> (try simp [-Int.not_le, -Int.not_lt, -Nat.not_le, -Nat.not_lt, -Nat.add_left_cancel_iff] at hb2)) | (refine draw_listA (by rfl) (by kernel_rfl) ?_) | (refine draw_listB (by simp [allocsOf, isAlloc]; rfl) (by kernel_rfl) ?_) | simp (maxSteps := 2000000) (disch := first | omega | assumption | simp [*]) [*, -Int.not_le, -Int.not_lt, -Nat.not_le, -Nat.not_lt, -Nat.add_left_cancel_iff, wrap_i64, wrap_u64, Tryz.f200, isB_low hB])
  refine cf_xp (by simpa [isB_low hB] using l1New_t hB hbr hl) rfl ?_
  rintro r ⟨hh, rfl⟩
  refine ⟨_, _, _, rfl, ?_⟩
  repeat' (first | (apply br_intro <;> intro hb <;> (have hb2 := hb) <;> (try simp [-Int.not_le, -Int.not_lt, -Nat.not_le, -Nat.not_lt, -Nat.add_left_cancel_iff] at hb2)) | (refine draw_listA (by rfl) (by kernel_rfl) ?_) | (refine draw_listB (by simp [allocsOf, isAlloc]; rfl) (by kernel_rfl) ?_) | simp (maxSteps := 2000000) (disch := first | omega | assumption | simp [*]) [*, -Int.not_le, -Int.not_lt, -Nat.not_le, -Nat.not_lt, -Nat.add_left_cancel_iff, wrap_i64, wrap_u64])
  refine cf_open rfl rfl (l3Draw_o hB hl (g := 0) ⟨0, hh, by omega, by omega, by simp [hset, hnil]⟩ (by simp [farOff]) fun rk N k v h1 hrk hN hk hp hc1 hf1 => ?_)
  simp only [farOff] at hrk hf1
  have hp1 := hp.bt hk
  have ov := hp.one
  have cv := hp.cells
  have f2 : h1 2 = some (.var 0 26 (.agg [.int .i64 0, .sl 0 .lit []])) := by rw [hf1 2 (by omega) (by omega)]; simp [hset]
  have f5 : h1 5 = none := by rw [hf1 5 (by omega) (by omega)]; simp [hset, hnil]
  have hpw := pow_small (i := N) (by omega)
  clear hf1 hp
  repeat' (first | (apply br_intro <;> intro hb <;> (have hb2 := hb) <;> (try simp [-Int.not_le, -Int.not_lt, -Nat.not_le, -Nat.not_lt, -Nat.add_left_cancel_iff] at hb2)) | (refine draw_listA (by rfl) (by kernel_rfl) ?_) | (refine draw_listB (by simp [allocsOf, isAlloc]; rfl) (by kernel_rfl) ?_) | simp (maxSteps := 2000000) (disch := first | omega | assumption | simp [*]) [*, -Int.not_le, -Int.not_lt, -Nat.not_le, -Nat.not_lt, -Nat.add_left_cancel_iff, wrap_i64, wrap_u64, f5])
  refine cf_open rfl rfl (l1Below_o hB hl (hc1.keep (hset_other _ _ (by omega))) fun x h2 hx _ _ hc2 hf2 => ?_)
  have g2 : h2 2 = some (.var 0 26 (.agg [.int .i64 0, .sl 0 .lit []])) := by rw [hf2 2 (by omega), hset_other _ _ (by omega)]; exact f2
  have g5 : h2 5 = some (.var 0 26 (.agg [.int .i64 N, v])) := by rw [hf2 5 (by omega)]; simp [hset, f5]
  have hp2 := hp1.keep (h' := h2) (by rw [hf2 _ (by omega), hset_other _ _ (by omega)])
  clear hf2 f2 f5 hp1 hc1
  repeat' (first | (apply br_intro <;> intro hb <;> (have hb2 := hb) <;> (try simp [-Int.not_le, -Int.not_lt, -Nat.not_le, -Nat.not_lt, -Nat.add_left_cancel_iff] at hb2)) | (refine draw_listA (by rfl) (by kernel_rfl) ?_) | (refine draw_listB (by simp [allocsOf, isAlloc]; rfl) (by kernel_rfl) ?_) | simp (maxSteps := 2000000) (disch := first | omega | assumption | simp [*]) [*, -Int.not_le, -Int.not_lt, -Nat.not_le, -Nat.not_lt, -Nat.add_left_cancel_iff, wrap_i64, wrap_u64, g2, g5])
  refine cf_open rfl rfl (l1Below_o hB hl hc2 fun y h3 hy _ _ hc3 hf3 => ?_)
  have i2 := (hf3 2 (by omega)).trans g2
  have i5 := (hf3 5 (by omega)).trans g5
  have hp3 := hp2.keep (h' := h3) (hf3 _ (by omega))
  clear hf3 g2 g5 hp2 hc2
  by_cases y0 : y = 0
  · subst y0
    repeat' (first | (apply br_intro <;> intro hb <;> (have hb2 := hb) <;> (try simp [-Int.not_le, -Int.not_lt, -Nat.not_le, -Nat.not_lt, -Nat.add_left_cancel_iff] at hb2)) | (refine draw_listA (by rfl) (by kernel_rfl) ?_) | (refine draw_listB (by simp [allocsOf, isAlloc]; rfl) (by kernel_rfl) ?_) | simp (maxSteps := 2000000) (disch := first | omega | assumption | simp [*]) [*, -Int.not_le, -Int.not_lt, -Nat.not_le, -Nat.not_lt, -Nat.add_left_cancel_iff, wrap_i64, wrap_u64, i2, i5])
    refine cf_open rfl rfl (l3Bent_o hB hl hc3 (by simp [farOff]) fun n rk4 v4 h4 hr1 hr2 hp4 hc4 hf4 => ?_)
    simp only [farOff] at hr1 hr2 hf4
    have ov4 := hp4.one
    have cv4 := hp4.cells
    have j2 := (hf4 2 (by omega) (by omega)).trans i2
    have j5 := (hf4 5 (by omega) (by omega)).trans i5
    have hend : ∀ h', h' rk4 = h4 rk4 → DrC (.tup [.agg [.int .i64 n, expo h' v4], .int .i64 x]) QInt := fun h' e => drc_mk (ys := [.int .i64 x]) (hp4.keep e) (by simp [noExs, noEx]) ⟨_, rfl⟩
    clear hf4 i2 i5 hp4 hp3
    repeat' (first | (apply br_intro <;> intro hb <;> (have hb2 := hb) <;> (try simp [-Int.not_le, -Int.not_lt, -Nat.not_le, -Nat.not_lt, -Nat.add_left_cancel_iff] at hb2)) | (refine draw_listA (by rfl) (by kernel_rfl) ?_) | (refine draw_listB (by simp [allocsOf, isAlloc]; rfl) (by kernel_rfl) ?_) | simp (maxSteps := 2000000) (disch := first | omega | assumption | simp [*]) [*, -Int.not_le, -Int.not_lt, -Nat.not_le, -Nat.not_lt, -Nat.add_left_cancel_iff, wrap_i64, wrap_u64, j2, j5])
    exact hend _ (by rw [hset_other _ _ (by omega), hset_other _ _ (by omega)])
  · by_cases y1 : y = 1
    · subst y1
      repeat' (first | (apply br_intro <;> intro hb <;> (have hb2 := hb) <;> (try simp [-Int.not_le, -Int.not_lt, -Nat.not_le, -Nat.not_lt, -Nat.add_left_cancel_iff] at hb2)) | (refine draw_listA (by rfl) (by kernel_rfl) ?_) | (refine draw_listB (by simp [allocsOf, isAlloc]; rfl) (by kernel_rfl) ?_) | simp (maxSteps := 2000000) (disch := first | omega | assumption | simp [*]) [*, -Int.not_le, -Int.not_lt, -Nat.not_le, -Nat.not_lt, -Nat.add_left_cancel_iff, wrap_i64, wrap_u64, i2, i5])
      refine cf_open rfl rfl (l2Bent_o hB hl hc3 fun z h4 hc4 hf4 => ?_)
      have j2 := (hf4 2 (by omega)).trans i2
      have j5 := (hf4 5 (by omega)).trans i5
      have hp4 := hp3.keep (h' := h4) (hf4 _ (by omega))
      have hend : ∀ h', h' rk = h4 rk → DrC (.tup [.agg [.int .i64 N, expo h' v], .int .i64 z]) QInt := fun h' e => drc_mk (ys := [.int .i64 z]) (hp4.keep e) (by simp [noExs, noEx]) ⟨_, rfl⟩
      clear hf4 i2 i5 hp4 hp3
      repeat' (first | (apply br_intro <;> intro hb <;> (have hb2 := hb) <;> (try simp [-Int.not_le, -Int.not_lt, -Nat.not_le, -Nat.not_lt, -Nat.add_left_cancel_iff] at hb2)) | (refine draw_listA (by rfl) (by kernel_rfl) ?_) | (refine draw_listB (by simp [allocsOf, isAlloc]; rfl) (by kernel_rfl) ?_) | simp (maxSteps := 2000000) (disch := first | omega | assumption | simp [*]) [*, -Int.not_le, -Int.not_lt, -Nat.not_le, -Nat.not_lt, -Nat.add_left_cancel_iff, wrap_i64, wrap_u64, j2, j5])
      exact hend _ (by rw [hset_other _ _ (by omega)])
    · have hend : ∀ h', h' rk = h3 rk → DrC (.tup [.agg [.int .i64 N, expo h' v], .int .i64 x]) QInt := fun h' e => drc_mk (ys := [.int .i64 x]) (hp3.keep e) (by simp [noExs, noEx]) ⟨_, rfl⟩
      clear hp3
      repeat' (first | (apply br_intro <;> intro hb <;> (have hb2 := hb) <;> (try simp [-Int.not_le, -Int.not_lt, -Nat.not_le, -Nat.not_lt, -Nat.add_left_cancel_iff] at hb2)) | (refine draw_listA (by rfl) (by kernel_rfl) ?_) | (refine draw_listB (by simp [allocsOf, isAlloc]; rfl) (by kernel_rfl) ?_) | simp (maxSteps := 2000000) (disch := first | omega | assumption | simp [*]) [*, -Int.not_le, -Int.not_lt, -Nat.not_le, -Nat.not_lt, -Nat.add_left_cancel_iff, wrap_i64, wrap_u64, i2, i5])
      exact hend _ (by rw [hset_other _ _ (by omega)])
theorem drawFrequentIntents_t {b : AV} (hB : IsB b) (hbr : brwOf b = false) (hl : bLen b ≤ 1073741824) : CallsTo env 90 [b] (fun r => DrC r QInt) := by
  refine callsTo_mk (F := Tryz.f90) rfl rfl (Nat.le_of_ble_eq_true rfl) ?_
  have hcb := isB_cells hB
  have hob := isB_one hB
  repeat' (first | (apply br_intro <;> intro hb <;> (have hb2 := hb) <;> (try simp [-Int.not_le, -Int.not_lt, -Nat.not_le, -Nat.not_lt, -Nat.add_left_cancel_iff] at hb2)) | (refine draw_listA (by rfl) (by kernel_rfl) ?_) | (refine draw_listB (by simp [allocsOf, isAlloc]; rfl) (by kernel_rfl) ?_) | simp (maxSteps := 2000000) (disch := first | omega | assumption | simp [*]) [*, -Int.not_le, -Int.not_lt, -Nat.not_le, -Nat.not_lt, -Nat.add_left_cancel_iff, wrap_i64, wrap_u64, Tryz.f90, isB_low hB])
  refine cf_xp (by simpa [isB_low hB] using l1New_t hB hbr hl) rfl ?_
  rintro r ⟨hh, rfl⟩
  refine ⟨_, _, _, rfl, ?_⟩
  repeat' (first | (apply br_intro <;> intro hb <;> (have hb2 := hb) <;> (try simp [-Int.not_le, -Int.not_lt, -Nat.not_le, -Nat.not_lt, -Nat.add_left_cancel_iff] at hb2)) | (refine draw_listA (by rfl) (by kernel_rfl) ?_) | (refine draw_listB (by simp [allocsOf, isAlloc]; rfl) (by kernel_rfl) ?_) | simp (maxSteps := 2000000) (disch := first | omega | assumption | simp [*]) [*, -Int.not_le, -Int.not_lt, -Nat.not_le, -Nat.not_lt, -Nat.add_left_cancel_iff, wrap_i64, wrap_u64])
  refine cf_open rfl rfl (l3Bent_o hB hl (g := 0) ⟨0, hh, by omega, by omega, by simp [hset, hnil]⟩ (by simp [farOff]) fun n rk v h1 hr1 hr2 hp hc1 hf1 => ?_)
  simp only [farOff] at hr1 hr2 hf1
  have ov := hp.one
  have cv := hp.cells
  have f2 : h1 2 = some (.var 0 26 (.agg [.int .i64 0, .sl 0 .lit []])) := by rw [hf1 2 (by omega) (by omega)]; simp [hset]
  have f5 : h1 5 = none := by rw [hf1 5 (by omega) (by omega)]; simp [hset, hnil]
  clear hf1
  repeat' (first | (apply br_intro <;> intro hb <;> (have hb2 := hb) <;> (try simp [-Int.not_le, -Int.not_lt, -Nat.not_le, -Nat.not_lt, -Nat.add_left_cancel_iff] at hb2)) | simp (maxSteps := 2000000) (disch := first | omega | assumption | simp [*]) [*, -Int.not_le, -Int.not_lt, -Nat.not_le, -Nat.not_lt, -Nat.add_left_cancel_iff, wrap_i64, wrap_u64])
  refine draw_listK [5] [1, 0, 2, 0, 0, 0] (by kernel_rfl) (by kernel_rfl) (by kernel_rfl) (by kernel_rfl) ?_
  repeat' (first | (apply br_intro <;> intro hb <;> (have hb2 := hb) <;> (try simp [-Int.not_le, -Int.not_lt, -Nat.not_le, -Nat.not_lt, -Nat.add_left_cancel_iff] at hb2)) | simp (maxSteps := 2000000) (disch := first | omega | assumption | simp [*]) [*, -Int.not_le, -Int.not_lt, -Nat.not_le, -Nat.not_lt, -Nat.add_left_cancel_iff, wrap_i64, wrap_u64, f2, f5])
  refine cf_open rfl rfl (l1Below_o hB hl (hc1.keep (hset_other _ _ (by omega))) fun x h2 hx _ hy hc2 hf2 => ?_)
  have hz := hy (by omega)
  refine ⟨kept1 (hf2 5 (by omega)), ?_⟩
  have g2 : h2 2 = _ := ((hf2 2 (by omega)).trans (hset_other _ _ (by omega))).trans f2
  have hend : ∀ h', h' rk = h2 rk → DrC (.tup [.agg [.int .i64 n, expo h' v], .int .i64 (x - 1)]) QInt := fun h' e => drc_mk (ys := [.int .i64 (x - 1)]) (hp.keep (by rw [e, hf2 _ (by omega), hset_other _ _ (by omega)])) (by simp [noExs, noEx]) ⟨_, rfl⟩
  clear hf2 hy hp
  repeat' (first | (apply br_intro <;> intro hb <;> (have hb2 := hb) <;> (try simp [-Int.not_le, -Int.not_lt, -Nat.not_le, -Nat.not_lt, -Nat.add_left_cancel_iff] at hb2)) | simp (maxSteps := 2000000) (disch := first | omega | assumption | simp [*]) [*, -Int.not_le, -Int.not_lt, -Nat.not_le, -Nat.not_lt, -Nat.add_left_cancel_iff, wrap_i64, wrap_u64, g2])
  exact hend _ (by rw [hset_other _ _ (by omega)])
theorem drawStrongRules_t {b : AV} (hB : IsB b) (hbr : brwOf b = false) (hl : bLen b ≤ 1073741824) : CallsTo env 95 [b] (fun r => DrC r QTwo) := by
  refine callsTo_mk (F := Tryz.f95) rfl rfl (Nat.le_of_ble_eq_true rfl) ?_
  have hcb := isB_cells hB
  have hob := isB_one hB
  have hr6 : [0, 1, 2, 3, 4, 5] = List.range 6 := rfl
  have hv6 : IsI (.sl 1 .lit [.int .i64 2, .int .i64 3, .int .i64 4, .int .i64 1, .int .i64 0, .int .i64 101]) := isI_lit1 (xs := [2, 3, 4, 1, 0, 101]) (by decide)
  have hxs : xsOf (.sl 1 .lit [.int .i64 2, .int .i64 3, .int .i64 4, .int .i64 1, .int .i64 0, .int .i64 101]) = [2, 3, 4, 1, 0, 101] := rfl
  repeat' (first | (apply br_intro <;> intro hb <;> (have hb2 := hb) <;> (try simp [-Int.not_le, -Int.not_lt, -Nat.not_le, -Nat.not_lt, -Nat.add_left_cancel_iff] at hb2)) | (refine draw_listA (by rfl) (by kernel_rfl) ?_) | (refine draw_listB (by simp [allocsOf, isAlloc]; rfl) (by kernel_rfl) ?_) | simp (maxSteps := 2000000) (disch := first | omega | assumption | simp [*]) [*, -Int.not_le, -Int.not_lt, -Nat.not_le, -Nat.not_lt, -Nat.add_left_cancel_iff, wrap_i64, wrap_u64, Tryz.f95, isB_low hB])
  refine cf_xp (by simpa [isB_low hB] using l1New_t hB hbr hl) rfl ?_
  rintro r ⟨hh, rfl⟩
  refine ⟨_, _, _, rfl, ?_⟩
  repeat' (first | (apply br_intro <;> intro hb <;> (have hb2 := hb) <;> (try simp [-Int.not_le, -Int.not_lt, -Nat.not_le, -Nat.not_lt, -Nat.add_left_cancel_iff] at hb2)) | (refine draw_listA (by rfl) (by kernel_rfl) ?_) | (refine draw_listB (by simp [allocsOf, isAlloc]; rfl) (by kernel_rfl) ?_) | simp (maxSteps := 2000000) (disch := first | omega | assumption | simp [*]) [*, -Int.not_le, -Int.not_lt, -Nat.not_le, -Nat.not_lt, -Nat.add_left_cancel_iff, wrap_i64, wrap_u64])
  refine cf_open rfl rfl (l3Bent_o hB hl (g := 0) ⟨0, hh, by omega, by omega, by simp [hset, hnil]⟩ (by simp [farOff]) fun n rk v h1 hr1 hr2 hp hc1 hf1 => ?_)
  simp only [farOff] at hr1 hr2 hf1
  have ov := hp.one
  have cv := hp.cells
  have f2 : h1 2 = some (.var 0 26 (.agg [.int .i64 0, .sl 0 .lit []])) := by rw [hf1 2 (by omega) (by omega)]; simp [hset]
  have f6 : h1 6 = none := by rw [hf1 6 (by omega) (by omega)]; simp [hset, hnil]
  clear hf1
  repeat' (first | (apply br_intro <;> intro hb <;> (have hb2 := hb) <;> (try simp [-Int.not_le, -Int.not_lt, -Nat.not_le, -Nat.not_lt, -Nat.add_left_cancel_iff] at hb2)) | (refine draw_listA (by rfl) (by kernel_rfl) ?_) | (refine draw_listB (by simp [allocsOf, isAlloc]; rfl) (by kernel_rfl) ?_) | simp (maxSteps := 2000000) (disch := first | omega | assumption | simp [*]) [*, -Int.not_le, -Int.not_lt, -Nat.not_le, -Nat.not_lt, -Nat.add_left_cancel_iff, wrap_i64, wrap_u64])
  refine cf_open rfl rfl (l1PickInt_o hB hl (hc1.keep (hset_other _ _ (by omega))) hv6 (by rw [hxs]; decide) fun j h2 hj hc2 hf2 => ?_)
  rw [hxs] at hj ⊢
  have hden : 0 ≤ nth [2, 3, 4, 1, 0, 101] j ∧ nth [2, 3, 4, 1, 0, 101] j ≤ 101 := by
    have hj9 : j < 6 := hj
    have : ∀ j : Fin 6, 0 ≤ nth [2, 3, 4, 1, 0, 101] j.val ∧ nth [2, 3, 4, 1, 0, 101] j.val ≤ 101 := by decide
    exact this ⟨j, hj9⟩
  generalize nth [2, 3, 4, 1, 0, 101] j = den at *
  have g2 : h2 2 = _ := ((hf2 2 (by omega)).trans (hset_other _ _ (by omega))).trans f2
  have g6 : h2 6 = some (.var 0 26 (.agg [.int .i64 n, v])) := by rw [hf2 6 (by omega)]; simp [hset, f6]
  have hp2 := hp.keep (h' := h2) (by rw [hf2 _ (by omega), hset_other _ _ (by omega)])
  clear hf2 hp f2 f6 hc1 hv6 hxs hr6 hj
  repeat' (first | (apply br_intro <;> intro hb <;> (have hb2 := hb) <;> (try simp [-Int.not_le, -Int.not_lt, -Nat.not_le, -Nat.not_lt, -Nat.add_left_cancel_iff] at hb2)) | simp (maxSteps := 2000000) (disch := first | omega | assumption | simp [*]) [*, -Int.not_le, -Int.not_lt, -Nat.not_le, -Nat.not_lt, -Nat.add_left_cancel_iff, wrap_i64, wrap_u64])
  refine draw_listK [6] [1, 0, 2, 0, 0, 0, 0] (by kernel_rfl) (by kernel_rfl) (by kernel_rfl) (by kernel_rfl) ?_
  repeat' (first | (apply br_intro <;> intro hb <;> (have hb2 := hb) <;> (try simp [-Int.not_le, -Int.not_lt, -Nat.not_le, -Nat.not_lt, -Nat.add_left_cancel_iff] at hb2)) | simp (maxSteps := 2000000) (disch := first | omega | assumption | simp [*]) [*, -Int.not_le, -Int.not_lt, -Nat.not_le, -Nat.not_lt, -Nat.add_left_cancel_iff, wrap_i64, wrap_u64, g2, g6])
  refine cf_open rfl rfl (l1Below_o hB hl hc2 fun x h3 hx _ hy hc3 hf3 => ?_)
  have hz := hy (by omega)
  refine ⟨kept1 (hf3 6 (by omega)), ?_⟩
  have i2 := (hf3 2 (by omega)).trans g2
  have hend : ∀ h', h' rk = h3 rk → DrC (.tup [.agg [.int .i64 n, expo h' v], .int .i64 x, .int .i64 den]) QTwo := fun h' e => drc_mk (ys := [.int .i64 x, .int .i64 den]) (hp2.keep (by rw [e, hf3 _ (by omega)])) (by simp [noExs, noEx]) ⟨_, _, rfl, by omega, by omega, hden.1, hden.2⟩
  clear hf3 hy hp2
  repeat' (first | (apply br_intro <;> intro hb <;> (have hb2 := hb) <;> (try simp [-Int.not_le, -Int.not_lt, -Nat.not_le, -Nat.not_lt, -Nat.add_left_cancel_iff] at hb2)) | simp (maxSteps := 2000000) (disch := first | omega | assumption | simp [*]) [*, -Int.not_le, -Int.not_lt, -Nat.not_le, -Nat.not_lt, -Nat.add_left_cancel_iff, wrap_i64, wrap_u64, i2])
  exact hend _ (by rw [hset_other _ _ (by omega)])
noncomputable def cloF (n : Int) (xs : List Int) (s : Int) : Int := if PCtx n xs ∧ PSet n s = true then Clo xs n.toNat s else 0
theorem sClosureOf_c {n s : Int} {v : AV} (hv : IsI v) : EvC env 251 [.agg [.int .i64 n, v], .int .i64 s] (.int .i64 (cloF n (xsOf v) s)) := by
  refine evC_of (F := Tryz.f251) rfl rfl (Nat.le_of_ble_eq_true rfl) ?_
  have hvl := hv.len
  by_cases hp : PCtx n (xsOf v)
  · by_cases hs : PSet n s = true
    · obtain ⟨N, rfl⟩ : ∃ N : Nat, n = N := ⟨n.toNat, by have := hp.1; omega⟩
      have e : cloF N (xsOf v) s = Clo (xsOf v) N s := by unfold cloF; rw [if_pos ⟨hp, hs⟩]; rfl
      rw [e]
      clear e
      repeat' (first | (apply br_intro <;> intro hb <;> (have hb2 := hb) <;> (try simp [-Int.not_le, -Int.not_lt, -Nat.not_le, -Nat.not_lt, -Nat.add_left_cancel_iff] at hb2)) | (refine draw_listA (by rfl) (by kernel_rfl) ?_) | (refine draw_listB (by simp [allocsOf, isAlloc]; rfl) (by kernel_rfl) ?_) | simp (maxSteps := 2000000) (disch := first | omega | assumption | simp [*]) [*, -Int.not_le, -Int.not_lt, -Nat.not_le, -Nat.not_lt, -Nat.add_left_cancel_iff, wrap_i64, wrap_u64, Tryz.f251, isI_cells hv, isI_one hv, isI_low hv])
    · have e : cloF n (xsOf v) s = 0 := by unfold cloF; rw [if_neg fun h => hs h.2]
      have hs2 : PSet n s = false := by simpa using hs
      rw [e]
      clear e hs
      repeat' (first | (apply br_intro <;> intro hb <;> (have hb2 := hb) <;> (try simp [-Int.not_le, -Int.not_lt, -Nat.not_le, -Nat.not_lt, -Nat.add_left_cancel_iff] at hb2)) | (refine draw_listA (by rfl) (by kernel_rfl) ?_) | (refine draw_listB (by simp [allocsOf, isAlloc]; rfl) (by kernel_rfl) ?_) | simp (maxSteps := 2000000) (disch := first | omega | assumption | simp [*]) [*, -Int.not_le, -Int.not_lt, -Nat.not_le, -Nat.not_lt, -Nat.add_left_cancel_iff, wrap_i64, wrap_u64, Tryz.f251, isI_cells hv, isI_one hv, isI_low hv])
  · have e : cloF n (xsOf v) s = 0 := by unfold cloF; rw [if_neg fun h => hp h.1]
    rw [e]
    clear e
    repeat' (first | (apply br_intro <;> intro hb <;> (have hb2 := hb) <;> (try simp [-Int.not_le, -Int.not_lt, -Nat.not_le, -Nat.not_lt, -Nat.add_left_cancel_iff] at hb2)) | (refine draw_listA (by rfl) (by kernel_rfl) ?_) | (refine draw_listB (by simp [allocsOf, isAlloc]; rfl) (by kernel_rfl) ?_) | simp (maxSteps := 2000000) (disch := first | omega | assumption | simp [*]) [*, -Int.not_le, -Int.not_lt, -Nat.not_le, -Nat.not_lt, -Nat.add_left_cancel_iff, wrap_i64, wrap_u64, Tryz.f251, isI_cells hv, isI_one hv, isI_low hv])
theorem sClosureOf_s {n s : Int} {v : AV} (hv : IsI v) {K : AV → Prop} {tg : Tg K} : CW env 251 [.agg [.int .i64 n, v], .int .i64 s] K tg ↔ K (.int .i64 (cloF n (xsOf v) s)) := callsTo_iff (sClosureOf_c hv)
attribute [simp] sClosureOf_s
theorem drawHoldsIn_t {b : AV} (hB : IsB b) (hbr : brwOf b = false) (hl : bLen b ≤ 1073741824) : CallsTo env 201 [b] (fun r => DrC r QRule) := by
  refine callsTo_mk (F := Tryz.f201) rfl rfl (Nat.le_of_ble_eq_true rfl) ?_
  have hcb := isB_cells hB
  have hob := isB_one hB
  repeat' (first | (apply br_intro <;> intro hb <;> (have hb2 := hb) <;> (try simp [-Int.not_le, -Int.not_lt, -Nat.not_le, -Nat.not_lt, -Nat.add_left_cancel_iff] at hb2)) | (refine draw_listA (by rfl) (by kernel_rfl) ?_) | (refine draw_listB (by simp [allocsOf, isAlloc]; rfl) (by kernel_rfl) ?_) | simp (maxSteps := 2000000) (disch := first | omega | assumption | simp [*]) [*, -Int.not_le, -Int.not_lt, -Nat.not_le, -Nat.not_lt, -Nat.add_left_cancel_iff, wrap_i64, wrap_u64, Tryz.f201, isB_low hB])
  refine cf_xp (by simpa [isB_low hB] using l1New_t hB hbr hl) rfl ?_
  rintro r ⟨hh, rfl⟩
  refine ⟨_, _, _, rfl, ?_⟩
  repeat' (first | (apply br_intro <;> intro hb <;> (have hb2 := hb) <;> (try simp [-Int.not_le, -Int.not_lt, -Nat.not_le, -Nat.not_lt, -Nat.add_left_cancel_iff] at hb2)) | (refine draw_listA (by rfl) (by kernel_rfl) ?_) | (refine draw_listB (by simp [allocsOf, isAlloc]; rfl) (by kernel_rfl) ?_) | simp (maxSteps := 2000000) (disch := first | omega | assumption | simp [*]) [*, -Int.not_le, -Int.not_lt, -Nat.not_le, -Nat.not_lt, -Nat.add_left_cancel_iff, wrap_i64, wrap_u64])
  refine cf_open rfl rfl (l3Bent_o hB hl (g := 0) ⟨0, hh, by omega, by omega, by simp [hset, hnil]⟩ (by simp [farOff]) fun n rk v h1 hr1 hr2 hp hc1 hf1 => ?_)
  simp only [farOff] at hr1 hr2 hf1
  have ov := hp.one
  have cv := hp.cells
  have f2 : h1 2 = some (.var 0 26 (.agg [.int .i64 0, .sl 0 .lit []])) := by rw [hf1 2 (by omega) (by omega)]; simp [hset]
  have f3 : h1 3 = some (.var 0 59 (.agg [.int .i64 0, .int .i64 0])) := by rw [hf1 3 (by omega) (by omega)]; simp [hset]
  have f5 : h1 5 = none := by rw [hf1 5 (by omega) (by omega)]; simp [hset, hnil]
  have f6 : h1 6 = none := by rw [hf1 6 (by omega) (by omega)]; simp [hset, hnil]
  clear hf1
  have hmm : ∃ N : Nat, (if (0 : Int) < (if n < 6 then n else 6) then (if n < 6 then n else 6) else 0) = (N : Int) ∧ N ≤ 6 := by
    refine ⟨((if (0 : Int) < (if n < 6 then n else 6) then (if n < 6 then n else 6) else 0) : Int).toNat, ?_, ?_⟩ <;> split <;> (try split) <;> omega
  obtain ⟨N, hN, hN6⟩ := hmm
  have hmax : EvC env 249 [.int .i64 0, .int .i64 (if n < 6 then n else 6)] (.int .i64 N) := by
    have h9 := l1Max_c (a := 0) (b := if n < 6 then n else 6)
    have e : (if (if n < 6 then n else 6) < (0 : Int) then (0 : Int) else (if n < 6 then n else 6)) = (N : Int) := by
      rw [← hN]; split <;> split <;> (try split) <;> omega
    rw [e] at h9; exact h9
  have hmin := l1Min_c (a := n) (b := 6)
  obtain ⟨mn, hmn⟩ : ∃ mn, (if n < 6 then n else 6) = mn := ⟨_, rfl⟩
  rw [hmn] at hmax hmin
  have hmx2 : ∀ (K : AV → Prop) (tg : Tg K), CW env 249 [.int .i64 0, .int .i64 mn] K tg ↔ K (.int .i64 N) := fun K tg => callsTo_iff hmax
  have hmn2 : ∀ (K : AV → Prop) (tg : Tg K), CW env 250 [.int .i64 n, .int .i64 6] K tg ↔ K (.int .i64 mn) := fun K tg => callsTo_iff hmin
  clear hN hmn hmax hmin
  repeat' (first | (apply br_intro <;> intro hb <;> (have hb2 := hb) <;> (try simp [-Int.not_le, -Int.not_lt, -Nat.not_le, -Nat.not_lt, -Nat.add_left_cancel_iff] at hb2)) | (refine draw_listA (by rfl) (by kernel_rfl) ?_) | (refine draw_listB (by simp [allocsOf, isAlloc]; rfl) (by kernel_rfl) ?_) | simp (maxSteps := 2000000) (disch := first | omega | assumption | simp [*]) [*, -Int.not_le, -Int.not_lt, -Nat.not_le, -Nat.not_lt, -Nat.add_left_cancel_iff, wrap_i64, wrap_u64, f5])
  refine cf_open rfl rfl (l9Make_o hB hl (by omega) (hc1.keep (hset_other _ _ (by omega))) (by simp [farOff]) fun a c h2 hc2 hf2 => ?_)
  simp only [farOff] at hf2
  have hf : ∀ y, y ≠ 8 → y ≠ 100004 → y ≠ 5 → h2 y = h1 y := fun y y1 y2 y3 => by rw [hf2 y y1 (by omega), hset_other _ _ y3]
  have g2 := (hf 2 (by omega) (by omega) (by omega)).trans f2
  have g3 := (hf 3 (by omega) (by omega) (by omega)).trans f3
  have g6 := (hf 6 (by omega) (by omega) (by omega)).trans f6
  have g5 : h2 5 = some (.var 0 26 (.agg [.int .i64 n, v])) := by rw [hf2 5 (by omega) (by omega)]; simp [hset, f5]
  have hp2 := hp.keep (hf rk (by omega) (by omega) (by omega))
  clear hf hf2 f2 f3 f5 f6 hc1 hmx2 hmn2 hp
  repeat' (first | (apply br_intro <;> intro hb <;> (have hb2 := hb) <;> (try simp [-Int.not_le, -Int.not_lt, -Nat.not_le, -Nat.not_lt, -Nat.add_left_cancel_iff] at hb2)) | (refine draw_listA (by rfl) (by kernel_rfl) ?_) | (refine draw_listB (by simp [allocsOf, isAlloc]; rfl) (by kernel_rfl) ?_) | simp (maxSteps := 2000000) (disch := first | omega | assumption | simp [*]) [*, -Int.not_le, -Int.not_lt, -Nat.not_le, -Nat.not_lt, -Nat.add_left_cancel_iff, wrap_i64, wrap_u64, g2, g3, g5, g6])
  refine cf_open rfl rfl (l1Once_o hB hl (hc2.keep (hset_other _ _ (by omega))) fun c1 h3 hc3 hf3 => ?_)
  have i2 : h3 2 = _ := ((hf3 2 (by omega)).trans (hset_other _ _ (by omega))).trans g2
  have i3 : h3 3 = _ := ((hf3 3 (by omega)).trans (hset_other _ _ (by omega))).trans g3
  have i5 : h3 5 = _ := ((hf3 5 (by omega)).trans (hset_other _ _ (by omega))).trans g5
  have i6 : h3 6 = some (.var 0 59 (.agg [.int .i64 a, .int .i64 c])) := by rw [hf3 6 (by omega)]; simp [hset]
  have hp3 := hp2.keep (h' := h3) ((hf3 rk (by omega)).trans (hset_other _ _ (by omega)))
  clear hf3 g2 g3 g5 g6 hp2 hc2
  have hend : ∀ (a c : Int) (h' : Heap), h' rk = h3 rk → DrC (.tup [.agg [.int .i64 n, expo h' v], .agg [.int .i64 a, .int .i64 c]]) QRule := fun a c h' e => drc_mk (ys := [.agg [.int .i64 a, .int .i64 c]]) (hp3.keep e) (by simp [noExs, noEx]) ⟨_, _, rfl⟩
  cases c1 with
  | false =>
    clear hp3
    repeat' (first | (apply br_intro <;> intro hb <;> (have hb2 := hb) <;> (try simp [-Int.not_le, -Int.not_lt, -Nat.not_le, -Nat.not_lt, -Nat.add_left_cancel_iff] at hb2)) | simp (maxSteps := 2000000) (disch := first | omega | assumption | simp [*]) [*, -Int.not_le, -Int.not_lt, -Nat.not_le, -Nat.not_lt, -Nat.add_left_cancel_iff, wrap_i64, wrap_u64, i2, i3, i5, i6])
    refine draw_listK [6] [0, 1, 2, 0] (by kernel_rfl) (by kernel_rfl) (by kernel_rfl) (by kernel_rfl) ?_
    repeat' (first | (apply br_intro <;> intro hb <;> (have hb2 := hb) <;> (try simp [-Int.not_le, -Int.not_lt, -Nat.not_le, -Nat.not_lt, -Nat.add_left_cancel_iff] at hb2)) | simp (maxSteps := 2000000) (disch := first | omega | assumption | simp [*]) [*, -Int.not_le, -Int.not_lt, -Nat.not_le, -Nat.not_lt, -Nat.add_left_cancel_iff, wrap_i64, wrap_u64, i2, i3, i5, i6])
    refine ⟨kept1 (by simp [hset]), ?_⟩
    exact hend _ _ _ (by rw [hset_other _ _ (by omega), hset_other _ _ (by omega)])
  | true =>
    obtain ⟨rows, hbr, hrl⟩ := hp3
    have hlr := hbr.low
    have hIr : IsI (bufC 0 rows) := isI_bufC (by unfold top63; omega)
    have hxr : xsOf (bufC 0 rows) = rows := by simp
    have hcr : ∀ (K : AV → Prop) (tg : Tg K), CW env 251 [.agg [.int .i64 n, bufC 0 rows], .int .i64 a] K tg ↔ K (.int .i64 (cloF n rows a)) := fun K tg => callsTo_iff (by simpa using sClosureOf_c (n := n) (s := a) hIr)
    clear hbr
    repeat' (first | (apply br_intro <;> intro hb <;> (have hb2 := hb) <;> (try simp [-Int.not_le, -Int.not_lt, -Nat.not_le, -Nat.not_lt, -Nat.add_left_cancel_iff] at hb2)) | simp (maxSteps := 2000000) (disch := first | omega | assumption | simp [*]) [*, -Int.not_le, -Int.not_lt, -Nat.not_le, -Nat.not_lt, -Nat.add_left_cancel_iff, wrap_i64, wrap_u64, i2, i3, i5, i6, hlr])
    refine draw_listK [6] [0, 1, 2, 0] (by kernel_rfl) (by kernel_rfl) (by kernel_rfl) (by kernel_rfl) ?_
    repeat' (first | (apply br_intro <;> intro hb <;> (have hb2 := hb) <;> (try simp [-Int.not_le, -Int.not_lt, -Nat.not_le, -Nat.not_lt, -Nat.add_left_cancel_iff] at hb2)) | simp (maxSteps := 2000000) (disch := first | omega | assumption | simp [*]) [*, -Int.not_le, -Int.not_lt, -Nat.not_le, -Nat.not_lt, -Nat.add_left_cancel_iff, wrap_i64, wrap_u64, i2, i3, i5, i6])
    refine ⟨kept1 (by simp [hset]), ?_⟩
    exact hend _ _ _ (by rw [hset_other _ _ (by omega), hset_other _ _ (by omega), hset_other _ _ (by omega)])
theorem drawSupportOf_t {b : AV} (hB : IsB b) (hbr : brwOf b = false) (hl : bLen b ≤ 1073741824) : CallsTo env 86 [b] (fun r => DrC r QInt) := by
  refine callsTo_mk (F := Tryz.f86) rfl rfl (Nat.le_of_ble_eq_true rfl) ?_
  repeat' (first | (apply br_intro <;> intro hb <;> (have hb2 := hb) <;> (try simp [-Int.not_le, -Int.not_lt, -Nat.not_le, -Nat.not_lt, -Nat.add_left_cancel_iff] at hb2)) | (refine draw_listA (by rfl) (by kernel_rfl) ?_) | (refine draw_listB (by simp [allocsOf, isAlloc]; rfl) (by kernel_rfl) ?_) | simp (maxSteps := 2000000) (disch := first | omega | assumption | simp [*]) [*, -Int.not_le, -Int.not_lt, -Nat.not_le, -Nat.not_lt, -Nat.add_left_cancel_iff, wrap_i64, wrap_u64, Tryz.f86, isB_low hB])
  refine cw_to (l4Attributes_t hB hbr hl) ?_
  rintro r ⟨n, rows, xs, hr, hl9, k, rfl⟩
  have hlr := hl9
  clear hl9
  repeat' (first | (apply br_intro <;> intro hb <;> (have hb2 := hb) <;> (try simp [-Int.not_le, -Int.not_lt, -Nat.not_le, -Nat.not_lt, -Nat.add_left_cancel_iff] at hb2)) | (refine draw_listA (by rfl) (by kernel_rfl) ?_) | (refine draw_listB (by simp [allocsOf, isAlloc]; rfl) (by kernel_rfl) ?_) | simp (maxSteps := 2000000) (disch := first | omega | assumption | simp [*]) [*, -Int.not_le, -Int.not_lt, -Nat.not_le, -Nat.not_lt, -Nat.add_left_cancel_iff, wrap_i64, wrap_u64, hr])
  exact ⟨n, rows, [.int .i64 k], by simp [noEx, noExs], hlr, ⟨k, rfl⟩⟩
theorem drawConfidenceOf_t {b : AV} (hB : IsB b) (hbr : brwOf b = false) (hl : bLen b ≤ 1073741824) : CallsTo env 87 [b] (fun r => DrC r QRule) := by
  refine callsTo_mk (F := Tryz.f87) rfl rfl (Nat.le_of_ble_eq_true rfl) ?_
  repeat' (first | (apply br_intro <;> intro hb <;> (have hb2 := hb) <;> (try simp [-Int.not_le, -Int.not_lt, -Nat.not_le, -Nat.not_lt, -Nat.add_left_cancel_iff] at hb2)) | (refine draw_listA (by rfl) (by kernel_rfl) ?_) | (refine draw_listB (by simp [allocsOf, isAlloc]; rfl) (by kernel_rfl) ?_) | simp (maxSteps := 2000000) (disch := first | omega | assumption | simp [*]) [*, -Int.not_le, -Int.not_lt, -Nat.not_le, -Nat.not_lt, -Nat.add_left_cancel_iff, wrap_i64, wrap_u64, Tryz.f87, isB_low hB])
  refine cw_to (drawHoldsIn_t hB hbr hl) ?_
  rintro r ⟨n, rows, xs, hr, hl9, a, c, rfl⟩
  have hlr := hl9
  clear hl9
  repeat' (first | (apply br_intro <;> intro hb <;> (have hb2 := hb) <;> (try simp [-Int.not_le, -Int.not_lt, -Nat.not_le, -Nat.not_lt, -Nat.add_left_cancel_iff] at hb2)) | simp (maxSteps := 2000000) (disch := first | omega | assumption | simp [*]) [*, -Int.not_le, -Int.not_lt, -Nat.not_le, -Nat.not_lt, -Nat.add_left_cancel_iff, wrap_i64, wrap_u64, hr])
  refine draw_listK [5] [0, 1, 2, 0] (by kernel_rfl) (by kernel_rfl) (by kernel_rfl) (by kernel_rfl) ?_
  repeat' (first | (apply br_intro <;> intro hb <;> (have hb2 := hb) <;> (try simp [-Int.not_le, -Int.not_lt, -Nat.not_le, -Nat.not_lt, -Nat.add_left_cancel_iff] at hb2)) | simp (maxSteps := 2000000) (disch := first | omega | assumption | simp [*]) [*, -Int.not_le, -Int.not_lt, -Nat.not_le, -Nat.not_lt, -Nat.add_left_cancel_iff, wrap_i64, wrap_u64, hr])
  refine ⟨kept1 (by simp [hset]), ?_⟩
  exact ⟨n, rows, [.agg [.int .i64 a, .int .i64 c]], by simp [noEx, noExs], hlr, ⟨a, c, rfl⟩⟩
theorem wa_lit {E : Env} {h : Heap} {ko t : Nat} {o : Own} {x : Int} {xs : List Int} {K : AV → Heap → Prop} (ht : slT E t = true) (hs : E.size (elT E t) = 1) (hx : xs ≠ []) (hl : xs.length < 1073741824)
    (hK : ∀ v' h', Buf h' (elT E t) ko 1 v' (xs ++ [x]) → (∀ k, k ≠ ko → h' k = h k) → K v' h') : WA E h ko t (.sl 1 .lit (ints xs)) (.sl 1 o [.int .i64 x]) K ⟨⟩ := by
  unfold WA
  refine ⟨.sl 1 (.tok ko (nextG h ko)) (ints (xs ++ [x])), hset h ko (.tok (nextG h ko) (elT E t) 1 (xs ++ [x]).length), ?_, hK _ _ (.inr ⟨by simp, _, rfl, by simp [hset]⟩) (fun k hk => by simp [hset, hk])⟩
  simp only [appendV, slT_ty ht, elemsOf, hs]
  rw [if_neg (by decide), if_neg (by simp), if_pos ⟨.inr (by trivial), by trivial, by simp [maxRow]; omega, by simp [AV.cells, AV.one]⟩]
  simp [ints]
/-- a path that is drawn -/
def PathB (h : Heap) (v : AV) (xs : List Int) : Prop := xs ≠ [] ∧ (v = .sl 1 .lit (ints xs) ∨ ∃ pk, (pk = 47 ∨ pk = 58) ∧ Buf h 3 pk 1 v xs)
theorem PathB.one {h : Heap} {v : AV} {xs : List Int} (hp : PathB h v xs) : v.one = true ∧ v.cells = [v] := by
  rcases hp with ⟨_, rfl | ⟨pk, _, hB⟩⟩
  · exact ⟨rfl, rfl⟩
  · exact ⟨hB.one, hB.cells⟩
theorem PathB.keep {h h' : Heap} {v : AV} {xs : List Int} (hp : PathB h v xs) (e1 : h' 47 = h 47) (e2 : h' 58 = h 58) : PathB h' v xs := by
  rcases hp with ⟨hx, e | ⟨pk, hk, hB⟩⟩
  · exact ⟨hx, .inl e⟩
  · exact ⟨hx, .inr ⟨pk, hk, hB.keep (by rcases hk with rfl | rfl <;> assumption)⟩⟩
theorem PathB.res {h : Heap} {v : AV} {xs : List Int} (hp : PathB h v xs) (hl : xs.length ≤ 8) : ∃ u, noEx (expo h v) = u ∧ IsI u ∧ (xsOf u).length ≤ 8 := by
  rcases hp with ⟨hx, rfl | ⟨pk, _, hB⟩⟩
  · refine ⟨.sl 1 .lit (ints xs), by simp, isI_lit1 (by unfold top63; omega), by simpa using hl⟩
  · refine ⟨bufC 1 xs, by rw [hB.expo]; simp, isI_bufC (by unfold top63; omega), by simpa using hl⟩
theorem wa_path {E : Env} {h : Heap} {ko t : Nat} {v : AV} {o : Own} {x : Int} {xs : List Int} {K : AV → Heap → Prop} (hp : PathB h v xs) (hT : elT E t = 3) (ht : slT E t = true) (hs : E.size (elT E t) = 1) (hko : ko = 47 ∨ ko = 58) (hl : xs.length < 1073741824)
    (hK : ∀ v' h', PathB h' v' (xs ++ [x]) → (∀ k, k ≠ 47 → k ≠ 58 → h' k = h k) → K v' h') : WA E h ko t v (.sl 1 o [.int .i64 x]) K ⟨⟩ := by
  rcases hp with ⟨hx, rfl | ⟨pk, hpk, hB⟩⟩
  · exact wa_lit ht hs hx hl fun v' h' hB' hk => hK v' h' ⟨by simp, .inr ⟨ko, hko, by rw [hT] at hB'; exact hB'⟩⟩ fun k h1 h2 => hk k (by omega)
  · exact wa_push' (key := pk) (by rw [hT]; exact hB) ht hs (fun h9 => absurd h9 hx) hl fun v' h' hB' hk => hK v' h' ⟨by simp, .inr ⟨pk, hpk, by rw [hT] at hB'; exact hB'⟩⟩ fun k h1 h2 => hk k (by omega)
theorem pctx_of {N : Nat} {rows : List Int} (hN : N ≤ 5) (hl : rows.length ≤ 6) (h : ∀ x ∈ rows, 0 ≤ x ∧ x < 2 ^ N) : PCtx N rows := by
  refine ⟨by omega, by omega, by omega, fun g hg => ?_⟩
  rw [pset_iff]
  have hm : nth rows g ∈ rows := by rw [nth_eq hg]; exact List.getElem_mem hg
  have := h _ hm
  rw [Int.toNat_natCast]
  omega
theorem nbL_lt {F : List Int} {up : Bool} {a : Nat} : ∀ j, j < (nbL F up a).length → ∃ m : Nat, nth (nbL F up a) j = m ∧ m < F.length := by
  intro j hj
  obtain ⟨m, h1, h2⟩ := selTo_mem hj
  exact ⟨m, h1, h2⟩
end Go.Proofs.YtkkkgaapkibhkaaGreatDoor
