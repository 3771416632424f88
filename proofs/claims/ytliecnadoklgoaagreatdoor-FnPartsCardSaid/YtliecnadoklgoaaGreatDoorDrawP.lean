/- What is drawn for the law of parts. Conditions: none. -/
import Derived.Test.YtliecnadoklgoaaGreatDoorRed3
import Derived.Test.YtliecnadoklgoaaGreatDoorArrClo
namespace Go.Proofs.YtliecnadoklgoaaGreatDoor
open Ev
set_option linter.unusedVariables false
set_option linter.unusedSimpArgs false
set_option maxHeartbeats 4000000

def QInts (xs : List AV) : Prop := ∃ a c : Int, xs = [.int .i64 a, .int .i64 c]
theorem l19Case_t {b : AV} (hB : IsB b) (hbr : brwOf b = false) (hl : bLen b ≤ 1073741824) : CallsTo env 112 [b] (fun r => DrC r QInts) := by
  refine callsTo_mk (F := Tryz.f112) rfl rfl (Nat.le_of_ble_eq_true rfl) ?_
  have hcb := isB_cells hB
  have hob := isB_one hB
  repeat' (first | (apply brI <;> intro hb hb2 <;> (try simp [-Int.not_le, -Int.not_lt, -Nat.not_le, -Nat.not_lt, -Nat.add_left_cancel_iff] at hb2)) | (refine draw_listA (by rfl) (by kernel_rfl) ?_) | (refine draw_listB (by simp [allocsOf, isAlloc]; rfl) (by kernel_rfl) ?_) | simp (maxSteps := 2000000) (disch := first | omega | assumption | simp [*]) [*, -Int.not_le, -Int.not_lt, -Nat.not_le, -Nat.not_lt, -Nat.add_left_cancel_iff, wrap_i64, wrap_u64, Tryz.f112, isB_low hB])
  refine cf_xp (by simpa [isB_low hB] using l1New_t hB hbr hl) rfl ?_
  rintro r ⟨hh, rfl⟩
  refine ⟨_, _, _, rfl, ?_⟩
  repeat' (first | (apply brI <;> intro hb hb2 <;> (try simp [-Int.not_le, -Int.not_lt, -Nat.not_le, -Nat.not_lt, -Nat.add_left_cancel_iff] at hb2)) | (refine draw_listA (by rfl) (by kernel_rfl) ?_) | (refine draw_listB (by simp [allocsOf, isAlloc]; rfl) (by kernel_rfl) ?_) | simp (maxSteps := 2000000) (disch := first | omega | assumption | simp [*]) [*, -Int.not_le, -Int.not_lt, -Nat.not_le, -Nat.not_lt, -Nat.add_left_cancel_iff, wrap_i64, wrap_u64])
  refine cf_open rfl rfl (l3Draw_o hB hl (g := 0) ⟨0, hh, by omega, by omega, by simp [hset, hnil]⟩ (by simp [farOff]) fun rk N k v h1 hrk hN hk hp hc1 hf1 => ?_)
  simp only [farOff] at hrk hf1
  have hp1 := hp.bt hk
  have ov := hp.one
  have cv := hp.cells
  have f2 : h1 2 = some (.var 0 26 (.agg [.int .i64 0, .sl 0 .lit []])) := by rw [hf1 2 (by omega) (by omega)]; simp [hset]
  have f6 : h1 6 = none := by rw [hf1 6 (by omega) (by omega)]; simp [hset, hnil]
  have hrk2 : 100 < rk := by omega
  clear hf1 hp hrk
  repeat' (first | (apply brI <;> intro hb hb2 <;> (try simp [-Int.not_le, -Int.not_lt, -Nat.not_le, -Nat.not_lt, -Nat.add_left_cancel_iff] at hb2)) | (refine draw_listA (by rfl) (by kernel_rfl) ?_) | (refine draw_listB (by simp [allocsOf, isAlloc]; rfl) (by kernel_rfl) ?_) | simp (maxSteps := 2000000) (disch := first | omega | assumption | simp [*]) [*, -Int.not_le, -Int.not_lt, -Nat.not_le, -Nat.not_lt, -Nat.add_left_cancel_iff, wrap_i64, wrap_u64, f6])
  refine cf_open rfl rfl (l1Once_o hB hl (hc1.keep (hset_other _ _ (by omega))) fun c2 h2 hc2 hf2 => ?_)
  have g2 : h2 2 = _ := ((hf2 2 (by omega)).trans (hset_other _ _ (by omega))).trans f2
  have g6 : h2 6 = some (.var 0 26 (.agg [.int .i64 N, v])) := by rw [hf2 6 (by omega)]; simp [hset, f6]
  have hp2 : CAny h2 rk v := .inl (hp1.keep (h' := h2) ((hf2 rk (by omega)).trans (hset_other _ _ (by omega))))
  clear hf2 hp1 f2 f6 hc1
  have hn0 : (0 : Int) ≤ (N : Int) := by omega
  have hn6 : (N : Int) ≤ 6 := by omega
  obtain ⟨n, hn⟩ : ∃ n : Int, (N : Int) = n := ⟨_, rfl⟩
  rw [hn] at hn0 hn6 g6
  clear hN hn
  obtain ⟨rows, hlo, hex, hln, hrl⟩ := hp2.all
  have hI : IsI (bufC 0 rows) := isI_bufC (by unfold top63; omega)
  cases c2 with
  | true =>
    repeat' (first | (apply brI <;> intro hb hb2 <;> (try simp [-Int.not_le, -Int.not_lt, -Nat.not_le, -Nat.not_lt, -Nat.add_left_cancel_iff] at hb2)) | (refine draw_listA (by rfl) (by kernel_rfl) ?_) | (refine draw_listB (by simp [allocsOf, isAlloc]; rfl) (by kernel_rfl) ?_) | simp (maxSteps := 2000000) (disch := first | omega | assumption | simp [*]) [*, -Int.not_le, -Int.not_lt, -Nat.not_le, -Nat.not_lt, -Nat.add_left_cancel_iff, wrap_i64, wrap_u64, g2, g6, hlo])
    refine cw_to (sReduce_c hI) ?_
    rintro r3 ⟨n3, rows3, ok3, hr3, q0, q6, q8, _⟩
    have hq9 : rows3.length ≤ 9 := by omega
    have hp3 : ∀ h', CAny h' rk (bufC 0 rows3) := fun h' => .inr ⟨rows3, rfl, hq9⟩
    have hI3 : IsI (bufC 0 rows3) := isI_bufC (by unfold top63; omega)
    have hlo3 : ∀ h', low h' (bufC 0 rows3) = bufC 0 rows3 := fun h' => isI_low hI3 h'
    have hln3 : ∀ (E : Env) (t : Nat), slT E t = true → lenV E t (bufC 0 rows3) = some (.int .i64 rows3.length) := fun E t ht => by simpa using isI_len hI3 ht
    have o3 := isI_one hI3
    have c3 := isI_cells hI3
    obtain ⟨W, hW⟩ : ∃ W, bufC 0 rows3 = W := ⟨_, rfl⟩
    rw [hW] at hr3 o3 c3
    simp only [hW] at hp3 hln3
    have hlo4 : ∀ h', low h' W = bufC 0 rows3 := fun h' => by rw [← hW]; exact hlo3 h'
    obtain ⟨L, hL⟩ : ∃ L : Nat, rows3.length = L := ⟨_, rfl⟩
    simp only [hL] at hln3 hq9
    have hpwL := pow_small10 (i := L) (by omega)
    obtain ⟨N3, rfl⟩ : ∃ N3 : Nat, n3 = N3 := ⟨n3.toNat, by omega⟩
    have hpwN := pow_small10 (i := N3) (by omega)
    clear hlo hex hln hrl hI hlo3 hI3 q8 hL hp2 ov cv hn0 hn6
    repeat' (first | (apply brI <;> intro hb hb2 <;> (try simp [-Int.not_le, -Int.not_lt, -Nat.not_le, -Nat.not_lt, -Nat.add_left_cancel_iff] at hb2)) | (refine draw_listA (by rfl) (by kernel_rfl) ?_) | (refine draw_listB (by simp [allocsOf, isAlloc]; rfl) (by kernel_rfl) ?_) | simp (maxSteps := 2000000) (disch := first | omega | assumption | simp [*]) [*, -Int.not_le, -Int.not_lt, -Nat.not_le, -Nat.not_lt, -Nat.add_left_cancel_iff, wrap_i64, wrap_u64, hr3, g2, g6, hln3, pow_toNat])
    refine cf_open rfl rfl (l1Below_o hB hl (hc2.keep (hset_other _ _ (by omega))) fun a h3 _ _ _ hc3 hf3 => ?_)
    have j2 : h3 2 = _ := (hf3 2 (by omega)).trans ((hset_other _ _ (by omega)).trans g2)
    have j6 : h3 6 = _ := (hf3 6 (by omega)).trans (hset_same ..)
    have hp3' := hp3 h3
    clear hf3
    repeat' (first | (apply brI <;> intro hb hb2 <;> (try simp [-Int.not_le, -Int.not_lt, -Nat.not_le, -Nat.not_lt, -Nat.add_left_cancel_iff] at hb2)) | (refine draw_listA (by rfl) (by kernel_rfl) ?_) | (refine draw_listB (by simp [allocsOf, isAlloc]; rfl) (by kernel_rfl) ?_) | simp (maxSteps := 2000000) (disch := first | omega | assumption | simp [*]) [*, -Int.not_le, -Int.not_lt, -Nat.not_le, -Nat.not_lt, -Nat.add_left_cancel_iff, wrap_i64, wrap_u64, j2, j6, pow_toNat])
    refine cf_open rfl rfl (l1Below_o hB hl hc3 fun b2 h4 _ _ _ hc4 hf4 => ?_)
    have k2 : h4 2 = _ := (hf4 2 (by omega)).trans j2
    have k6 : h4 6 = _ := (hf4 6 (by omega)).trans j6
    have hp4' := hp3'.keep (h' := h4) (hf4 _ (by omega))
    clear hf4 hp3' j2 j6 hc3
    repeat' (first | (apply brI <;> intro hb hb2 <;> (try simp [-Int.not_le, -Int.not_lt, -Nat.not_le, -Nat.not_lt, -Nat.add_left_cancel_iff] at hb2)) | (refine draw_listA (by rfl) (by kernel_rfl) ?_) | (refine draw_listB (by simp [allocsOf, isAlloc]; rfl) (by kernel_rfl) ?_) | simp (maxSteps := 2000000) (disch := first | omega | assumption | simp [*]) [*, -Int.not_le, -Int.not_lt, -Nat.not_le, -Nat.not_lt, -Nat.add_left_cancel_iff, wrap_i64, wrap_u64, k2, k6])
    refine cf_open rfl rfl (l1Below_o hB hl hc4 fun z h5 _ _ _ hc5 hf5 => ?_)
    have m2 : h5 2 = _ := (hf5 2 (by omega)).trans k2
    have m6 : h5 6 = _ := (hf5 6 (by omega)).trans k6
    have hp5' := hp4'.keep (h' := h5) (hf5 _ (by omega))
    clear hf5 hp4' k2 k6 hc4
    by_cases hz0 : z = 0
    · subst hz0
      repeat' (first | (apply brI <;> intro hb hb2 <;> (try simp [-Int.not_le, -Int.not_lt, -Nat.not_le, -Nat.not_lt, -Nat.add_left_cancel_iff] at hb2)) | (refine draw_listA (by rfl) (by kernel_rfl) ?_) | (refine draw_listB (by simp [allocsOf, isAlloc]; rfl) (by kernel_rfl) ?_) | simp (maxSteps := 2000000) (disch := first | omega | assumption | simp [*]) [*, -Int.not_le, -Int.not_lt, -Nat.not_le, -Nat.not_lt, -Nat.add_left_cancel_iff, wrap_i64, wrap_u64, m2, m6])
      refine cf_open rfl rfl (l3Bent_o hB hl hc5 (by simp [farOff]) fun n7 rk7 v7 h7 hr71 hr72 hp7 hc7 hf7 => ?_)
      simp only [farOff] at hr71 hr72 hf7
      have ov7 := hp7.one
      have cv7 := hp7.cells
      have n2 := (hf7 2 (by omega) (by omega)).trans m2
      have n6 := (hf7 6 (by omega) (by omega)).trans m6
      have hp7' : CAny h7 rk7 v7 := .inl hp7
      clear hf7 hp7 m2 m6 hp5' hc5
      repeat' (first | (apply brI <;> intro hb hb2 <;> (try simp [-Int.not_le, -Int.not_lt, -Nat.not_le, -Nat.not_lt, -Nat.add_left_cancel_iff] at hb2)) | (refine draw_listA (by rfl) (by kernel_rfl) ?_) | (refine draw_listB (by simp [allocsOf, isAlloc]; rfl) (by kernel_rfl) ?_) | simp (maxSteps := 2000000) (disch := first | omega | assumption | simp [*]) [*, -Int.not_le, -Int.not_lt, -Nat.not_le, -Nat.not_lt, -Nat.add_left_cancel_iff, wrap_i64, wrap_u64, n2, n6])
      refine cf_open rfl rfl (l1Once_o hB hl (hc7.keep (hset_other _ _ (by omega))) fun c6 h6 hc6 hf6 => ?_)
      have i2 : h6 2 = _ := (hf6 2 (by omega)).trans ((hset_other _ _ (by omega)).trans n2)
      have i6 : h6 6 = _ := (hf6 6 (by omega)).trans (hset_same ..)
      have hp6 := (hp7'.keep (h' := hset h7 6 (.var 0 26 (.agg [.int .i64 n7, v7]))) (hset_other _ _ (by omega))).keep (h' := h6) (hf6 _ (by omega))
      obtain ⟨rw6, hlo6, hex6, _, hr6⟩ := hp6.all
      have hI6 : IsI (bufC 0 rw6) := isI_bufC (by unfold top63; omega)
      have ov6 := hp6.one.1
      have cv6 := hp6.one.2
      have hend : ∀ h' (p q : Int), h' rk7 = h6 rk7 → DrC (.tup [.agg [.int .i64 n7, expo h' v7], .int .i64 p, .int .i64 q]) QInts := fun h' p q e => ⟨n7, rw6, [.int .i64 p, .int .i64 q], by simp [noEx, noExs, hex6 h' e], hr6, ⟨p, q, rfl⟩⟩
      clear hf6 hp6 hex6 hc6
      cases c6 with
      | true =>
        repeat' (first | (apply brI <;> intro hb hb2 <;> (try simp [-Int.not_le, -Int.not_lt, -Nat.not_le, -Nat.not_lt, -Nat.add_left_cancel_iff] at hb2)) | (refine draw_listA (by rfl) (by kernel_rfl) ?_) | (refine draw_listB (by simp [allocsOf, isAlloc]; rfl) (by kernel_rfl) ?_) | simp (maxSteps := 2000000) (disch := first | omega | assumption | simp [*]) [*, -Int.not_le, -Int.not_lt, -Nat.not_le, -Nat.not_lt, -Nat.add_left_cancel_iff, wrap_i64, wrap_u64, i2, i6, hlo6])
        all_goals exact hend _ _ _ (by simp only [hset]; first | rfl | (rw [if_neg (by omega)]))
      | false =>
        repeat' (first | (apply brI <;> intro hb hb2 <;> (try simp [-Int.not_le, -Int.not_lt, -Nat.not_le, -Nat.not_lt, -Nat.add_left_cancel_iff] at hb2)) | (refine draw_listA (by rfl) (by kernel_rfl) ?_) | (refine draw_listB (by simp [allocsOf, isAlloc]; rfl) (by kernel_rfl) ?_) | simp (maxSteps := 2000000) (disch := first | omega | assumption | simp [*]) [*, -Int.not_le, -Int.not_lt, -Nat.not_le, -Nat.not_lt, -Nat.add_left_cancel_iff, wrap_i64, wrap_u64, i2, i6, hlo6])
        all_goals exact hend _ _ _ (by simp only [hset]; first | rfl | (rw [if_neg (by omega)]))
    · by_cases hz1 : z = 1
      · subst hz1
        repeat' (first | (apply brI <;> intro hb hb2 <;> (try simp [-Int.not_le, -Int.not_lt, -Nat.not_le, -Nat.not_lt, -Nat.add_left_cancel_iff] at hb2)) | (refine draw_listA (by rfl) (by kernel_rfl) ?_) | (refine draw_listB (by simp [allocsOf, isAlloc]; rfl) (by kernel_rfl) ?_) | simp (maxSteps := 2000000) (disch := first | omega | assumption | simp [*]) [*, -Int.not_le, -Int.not_lt, -Nat.not_le, -Nat.not_lt, -Nat.add_left_cancel_iff, wrap_i64, wrap_u64, m2, m6])
        refine cf_open rfl rfl (l2Bent_o hB hl hc5 fun z7 h7 hc7 hf7 => ?_)
        have n2 := (hf7 2 (by omega)).trans m2
        have n6 := (hf7 6 (by omega)).trans m6
        have hp7' := hp5'.keep (h' := h7) (hf7 _ (by omega))
        clear hf7 m2 m6 hp5' hc5
        repeat' (first | (apply brI <;> intro hb hb2 <;> (try simp [-Int.not_le, -Int.not_lt, -Nat.not_le, -Nat.not_lt, -Nat.add_left_cancel_iff] at hb2)) | (refine draw_listA (by rfl) (by kernel_rfl) ?_) | (refine draw_listB (by simp [allocsOf, isAlloc]; rfl) (by kernel_rfl) ?_) | simp (maxSteps := 2000000) (disch := first | omega | assumption | simp [*]) [*, -Int.not_le, -Int.not_lt, -Nat.not_le, -Nat.not_lt, -Nat.add_left_cancel_iff, wrap_i64, wrap_u64, n2, n6])
        refine cf_open rfl rfl (l1Once_o hB hl hc7 fun c6 h6 hc6 hf6 => ?_)
        have i2 : h6 2 = _ := (hf6 2 (by omega)).trans n2
        have i6 : h6 6 = _ := (hf6 6 (by omega)).trans n6
        have hp6 := hp7'.keep (h' := h6) (hf6 _ (by omega))
        obtain ⟨rw6, hlo6, hex6, _, hr6⟩ := hp6.all
        have hI6 : IsI (bufC 0 rw6) := isI_bufC (by unfold top63; omega)
        have ov6 := hp6.one.1
        have cv6 := hp6.one.2
        have hend : ∀ h' (p q : Int), h' rk = h6 rk → DrC (.tup [.agg [.int .i64 (N3 : Nat), expo h' W], .int .i64 p, .int .i64 q]) QInts := fun h' p q e => ⟨(N3 : Nat), rw6, [.int .i64 p, .int .i64 q], by simp [noEx, noExs, hex6 h' e], hr6, ⟨p, q, rfl⟩⟩
        clear hf6 hp6 hex6 hc6
        cases c6 with
        | true =>
          repeat' (first | (apply brI <;> intro hb hb2 <;> (try simp [-Int.not_le, -Int.not_lt, -Nat.not_le, -Nat.not_lt, -Nat.add_left_cancel_iff] at hb2)) | (refine draw_listA (by rfl) (by kernel_rfl) ?_) | (refine draw_listB (by simp [allocsOf, isAlloc]; rfl) (by kernel_rfl) ?_) | simp (maxSteps := 2000000) (disch := first | omega | assumption | simp [*]) [*, -Int.not_le, -Int.not_lt, -Nat.not_le, -Nat.not_lt, -Nat.add_left_cancel_iff, wrap_i64, wrap_u64, i2, i6, hlo6])
          all_goals exact hend _ _ _ (by simp only [hset]; first | rfl | (rw [if_neg (by omega)]))
        | false =>
          repeat' (first | (apply brI <;> intro hb hb2 <;> (try simp [-Int.not_le, -Int.not_lt, -Nat.not_le, -Nat.not_lt, -Nat.add_left_cancel_iff] at hb2)) | (refine draw_listA (by rfl) (by kernel_rfl) ?_) | (refine draw_listB (by simp [allocsOf, isAlloc]; rfl) (by kernel_rfl) ?_) | simp (maxSteps := 2000000) (disch := first | omega | assumption | simp [*]) [*, -Int.not_le, -Int.not_lt, -Nat.not_le, -Nat.not_lt, -Nat.add_left_cancel_iff, wrap_i64, wrap_u64, i2, i6, hlo6])
          all_goals exact hend _ _ _ (by simp only [hset]; first | rfl | (rw [if_neg (by omega)]))
      · repeat' (first | (apply brI <;> intro hb hb2 <;> (try simp [-Int.not_le, -Int.not_lt, -Nat.not_le, -Nat.not_lt, -Nat.add_left_cancel_iff] at hb2)) | (refine draw_listA (by rfl) (by kernel_rfl) ?_) | (refine draw_listB (by simp [allocsOf, isAlloc]; rfl) (by kernel_rfl) ?_) | simp (maxSteps := 2000000) (disch := first | omega | assumption | simp [*]) [*, -Int.not_le, -Int.not_lt, -Nat.not_le, -Nat.not_lt, -Nat.add_left_cancel_iff, wrap_i64, wrap_u64, m2, m6])
        refine cf_open rfl rfl (l1Once_o hB hl hc5 fun c6 h6 hc6 hf6 => ?_)
        have i2 : h6 2 = _ := (hf6 2 (by omega)).trans m2
        have i6 : h6 6 = _ := (hf6 6 (by omega)).trans m6
        have hp6 := hp5'.keep (h' := h6) (hf6 _ (by omega))
        obtain ⟨rw6, hlo6, hex6, _, hr6⟩ := hp6.all
        have hI6 : IsI (bufC 0 rw6) := isI_bufC (by unfold top63; omega)
        have ov6 := hp6.one.1
        have cv6 := hp6.one.2
        have hend : ∀ h' (p q : Int), h' rk = h6 rk → DrC (.tup [.agg [.int .i64 (N3 : Nat), expo h' W], .int .i64 p, .int .i64 q]) QInts := fun h' p q e => ⟨(N3 : Nat), rw6, [.int .i64 p, .int .i64 q], by simp [noEx, noExs, hex6 h' e], hr6, ⟨p, q, rfl⟩⟩
        clear hf6 hp6 hex6 hc6
        cases c6 with
        | true =>
          repeat' (first | (apply brI <;> intro hb hb2 <;> (try simp [-Int.not_le, -Int.not_lt, -Nat.not_le, -Nat.not_lt, -Nat.add_left_cancel_iff] at hb2)) | (refine draw_listA (by rfl) (by kernel_rfl) ?_) | (refine draw_listB (by simp [allocsOf, isAlloc]; rfl) (by kernel_rfl) ?_) | simp (maxSteps := 2000000) (disch := first | omega | assumption | simp [*]) [*, -Int.not_le, -Int.not_lt, -Nat.not_le, -Nat.not_lt, -Nat.add_left_cancel_iff, wrap_i64, wrap_u64, i2, i6, hlo6])
          all_goals exact hend _ _ _ (by simp only [hset]; first | rfl | (rw [if_neg (by omega)]))
        | false =>
          repeat' (first | (apply brI <;> intro hb hb2 <;> (try simp [-Int.not_le, -Int.not_lt, -Nat.not_le, -Nat.not_lt, -Nat.add_left_cancel_iff] at hb2)) | (refine draw_listA (by rfl) (by kernel_rfl) ?_) | (refine draw_listB (by simp [allocsOf, isAlloc]; rfl) (by kernel_rfl) ?_) | simp (maxSteps := 2000000) (disch := first | omega | assumption | simp [*]) [*, -Int.not_le, -Int.not_lt, -Nat.not_le, -Nat.not_lt, -Nat.add_left_cancel_iff, wrap_i64, wrap_u64, i2, i6, hlo6])
          all_goals exact hend _ _ _ (by simp only [hset]; first | rfl | (rw [if_neg (by omega)]))
  | false =>
    obtain ⟨L, hL⟩ : ∃ L : Nat, rows.length = L := ⟨_, rfl⟩
    simp only [hL] at hln
    have hpwL := pow_small10 (i := L) (by omega)
    obtain ⟨N3, rfl⟩ : ∃ N3 : Nat, n = N3 := ⟨n.toNat, by omega⟩
    have hpwN := pow_small10 (i := N3) (by omega)
    clear hlo hex hI
    repeat' (first | (apply brI <;> intro hb hb2 <;> (try simp [-Int.not_le, -Int.not_lt, -Nat.not_le, -Nat.not_lt, -Nat.add_left_cancel_iff] at hb2)) | (refine draw_listA (by rfl) (by kernel_rfl) ?_) | (refine draw_listB (by simp [allocsOf, isAlloc]; rfl) (by kernel_rfl) ?_) | simp (maxSteps := 2000000) (disch := first | omega | assumption | simp [*]) [*, -Int.not_le, -Int.not_lt, -Nat.not_le, -Nat.not_lt, -Nat.add_left_cancel_iff, wrap_i64, wrap_u64, g2, g6, hln, pow_toNat])
    refine cf_open rfl rfl (l1Below_o hB hl hc2 fun a h3 _ _ _ hc3 hf3 => ?_)
    have j2 : h3 2 = _ := (hf3 2 (by omega)).trans g2
    have j6 : h3 6 = _ := (hf3 6 (by omega)).trans g6
    have hp3' := hp2.keep (h' := h3) (hf3 _ (by omega))
    clear hf3
    repeat' (first | (apply brI <;> intro hb hb2 <;> (try simp [-Int.not_le, -Int.not_lt, -Nat.not_le, -Nat.not_lt, -Nat.add_left_cancel_iff] at hb2)) | (refine draw_listA (by rfl) (by kernel_rfl) ?_) | (refine draw_listB (by simp [allocsOf, isAlloc]; rfl) (by kernel_rfl) ?_) | simp (maxSteps := 2000000) (disch := first | omega | assumption | simp [*]) [*, -Int.not_le, -Int.not_lt, -Nat.not_le, -Nat.not_lt, -Nat.add_left_cancel_iff, wrap_i64, wrap_u64, j2, j6, pow_toNat])
    refine cf_open rfl rfl (l1Below_o hB hl hc3 fun b2 h4 _ _ _ hc4 hf4 => ?_)
    have k2 : h4 2 = _ := (hf4 2 (by omega)).trans j2
    have k6 : h4 6 = _ := (hf4 6 (by omega)).trans j6
    have hp4' := hp3'.keep (h' := h4) (hf4 _ (by omega))
    clear hf4 hp3' j2 j6 hc3
    repeat' (first | (apply brI <;> intro hb hb2 <;> (try simp [-Int.not_le, -Int.not_lt, -Nat.not_le, -Nat.not_lt, -Nat.add_left_cancel_iff] at hb2)) | (refine draw_listA (by rfl) (by kernel_rfl) ?_) | (refine draw_listB (by simp [allocsOf, isAlloc]; rfl) (by kernel_rfl) ?_) | simp (maxSteps := 2000000) (disch := first | omega | assumption | simp [*]) [*, -Int.not_le, -Int.not_lt, -Nat.not_le, -Nat.not_lt, -Nat.add_left_cancel_iff, wrap_i64, wrap_u64, k2, k6])
    refine cf_open rfl rfl (l1Below_o hB hl hc4 fun z h5 _ _ _ hc5 hf5 => ?_)
    have m2 : h5 2 = _ := (hf5 2 (by omega)).trans k2
    have m6 : h5 6 = _ := (hf5 6 (by omega)).trans k6
    have hp5' := hp4'.keep (h' := h5) (hf5 _ (by omega))
    clear hf5 hp4' k2 k6 hc4
    by_cases hz0 : z = 0
    · subst hz0
      repeat' (first | (apply brI <;> intro hb hb2 <;> (try simp [-Int.not_le, -Int.not_lt, -Nat.not_le, -Nat.not_lt, -Nat.add_left_cancel_iff] at hb2)) | (refine draw_listA (by rfl) (by kernel_rfl) ?_) | (refine draw_listB (by simp [allocsOf, isAlloc]; rfl) (by kernel_rfl) ?_) | simp (maxSteps := 2000000) (disch := first | omega | assumption | simp [*]) [*, -Int.not_le, -Int.not_lt, -Nat.not_le, -Nat.not_lt, -Nat.add_left_cancel_iff, wrap_i64, wrap_u64, m2, m6])
      refine cf_open rfl rfl (l3Bent_o hB hl hc5 (by simp [farOff]) fun n7 rk7 v7 h7 hr71 hr72 hp7 hc7 hf7 => ?_)
      simp only [farOff] at hr71 hr72 hf7
      have ov7 := hp7.one
      have cv7 := hp7.cells
      have n2 := (hf7 2 (by omega) (by omega)).trans m2
      have n6 := (hf7 6 (by omega) (by omega)).trans m6
      have hp7' : CAny h7 rk7 v7 := .inl hp7
      clear hf7 hp7 m2 m6 hp5' hc5
      repeat' (first | (apply brI <;> intro hb hb2 <;> (try simp [-Int.not_le, -Int.not_lt, -Nat.not_le, -Nat.not_lt, -Nat.add_left_cancel_iff] at hb2)) | (refine draw_listA (by rfl) (by kernel_rfl) ?_) | (refine draw_listB (by simp [allocsOf, isAlloc]; rfl) (by kernel_rfl) ?_) | simp (maxSteps := 2000000) (disch := first | omega | assumption | simp [*]) [*, -Int.not_le, -Int.not_lt, -Nat.not_le, -Nat.not_lt, -Nat.add_left_cancel_iff, wrap_i64, wrap_u64, n2, n6])
      refine cf_open rfl rfl (l1Once_o hB hl (hc7.keep (hset_other _ _ (by omega))) fun c6 h6 hc6 hf6 => ?_)
      have i2 : h6 2 = _ := (hf6 2 (by omega)).trans ((hset_other _ _ (by omega)).trans n2)
      have i6 : h6 6 = _ := (hf6 6 (by omega)).trans (hset_same ..)
      have hp6 := (hp7'.keep (h' := hset h7 6 (.var 0 26 (.agg [.int .i64 n7, v7]))) (hset_other _ _ (by omega))).keep (h' := h6) (hf6 _ (by omega))
      obtain ⟨rw6, hlo6, hex6, _, hr6⟩ := hp6.all
      have hI6 : IsI (bufC 0 rw6) := isI_bufC (by unfold top63; omega)
      have ov6 := hp6.one.1
      have cv6 := hp6.one.2
      have hend : ∀ h' (p q : Int), h' rk7 = h6 rk7 → DrC (.tup [.agg [.int .i64 n7, expo h' v7], .int .i64 p, .int .i64 q]) QInts := fun h' p q e => ⟨n7, rw6, [.int .i64 p, .int .i64 q], by simp [noEx, noExs, hex6 h' e], hr6, ⟨p, q, rfl⟩⟩
      clear hf6 hp6 hex6 hc6
      cases c6 with
      | true =>
        repeat' (first | (apply brI <;> intro hb hb2 <;> (try simp [-Int.not_le, -Int.not_lt, -Nat.not_le, -Nat.not_lt, -Nat.add_left_cancel_iff] at hb2)) | (refine draw_listA (by rfl) (by kernel_rfl) ?_) | (refine draw_listB (by simp [allocsOf, isAlloc]; rfl) (by kernel_rfl) ?_) | simp (maxSteps := 2000000) (disch := first | omega | assumption | simp [*]) [*, -Int.not_le, -Int.not_lt, -Nat.not_le, -Nat.not_lt, -Nat.add_left_cancel_iff, wrap_i64, wrap_u64, i2, i6, hlo6])
        all_goals exact hend _ _ _ (by simp only [hset]; first | rfl | (rw [if_neg (by omega)]))
      | false =>
        repeat' (first | (apply brI <;> intro hb hb2 <;> (try simp [-Int.not_le, -Int.not_lt, -Nat.not_le, -Nat.not_lt, -Nat.add_left_cancel_iff] at hb2)) | (refine draw_listA (by rfl) (by kernel_rfl) ?_) | (refine draw_listB (by simp [allocsOf, isAlloc]; rfl) (by kernel_rfl) ?_) | simp (maxSteps := 2000000) (disch := first | omega | assumption | simp [*]) [*, -Int.not_le, -Int.not_lt, -Nat.not_le, -Nat.not_lt, -Nat.add_left_cancel_iff, wrap_i64, wrap_u64, i2, i6, hlo6])
        all_goals exact hend _ _ _ (by simp only [hset]; first | rfl | (rw [if_neg (by omega)]))
    · by_cases hz1 : z = 1
      · subst hz1
        repeat' (first | (apply brI <;> intro hb hb2 <;> (try simp [-Int.not_le, -Int.not_lt, -Nat.not_le, -Nat.not_lt, -Nat.add_left_cancel_iff] at hb2)) | (refine draw_listA (by rfl) (by kernel_rfl) ?_) | (refine draw_listB (by simp [allocsOf, isAlloc]; rfl) (by kernel_rfl) ?_) | simp (maxSteps := 2000000) (disch := first | omega | assumption | simp [*]) [*, -Int.not_le, -Int.not_lt, -Nat.not_le, -Nat.not_lt, -Nat.add_left_cancel_iff, wrap_i64, wrap_u64, m2, m6])
        refine cf_open rfl rfl (l2Bent_o hB hl hc5 fun z7 h7 hc7 hf7 => ?_)
        have n2 := (hf7 2 (by omega)).trans m2
        have n6 := (hf7 6 (by omega)).trans m6
        have hp7' := hp5'.keep (h' := h7) (hf7 _ (by omega))
        clear hf7 m2 m6 hp5' hc5
        repeat' (first | (apply brI <;> intro hb hb2 <;> (try simp [-Int.not_le, -Int.not_lt, -Nat.not_le, -Nat.not_lt, -Nat.add_left_cancel_iff] at hb2)) | (refine draw_listA (by rfl) (by kernel_rfl) ?_) | (refine draw_listB (by simp [allocsOf, isAlloc]; rfl) (by kernel_rfl) ?_) | simp (maxSteps := 2000000) (disch := first | omega | assumption | simp [*]) [*, -Int.not_le, -Int.not_lt, -Nat.not_le, -Nat.not_lt, -Nat.add_left_cancel_iff, wrap_i64, wrap_u64, n2, n6])
        refine cf_open rfl rfl (l1Once_o hB hl hc7 fun c6 h6 hc6 hf6 => ?_)
        have i2 : h6 2 = _ := (hf6 2 (by omega)).trans n2
        have i6 : h6 6 = _ := (hf6 6 (by omega)).trans n6
        have hp6 := hp7'.keep (h' := h6) (hf6 _ (by omega))
        obtain ⟨rw6, hlo6, hex6, _, hr6⟩ := hp6.all
        have hI6 : IsI (bufC 0 rw6) := isI_bufC (by unfold top63; omega)
        have ov6 := hp6.one.1
        have cv6 := hp6.one.2
        have hend : ∀ h' (p q : Int), h' rk = h6 rk → DrC (.tup [.agg [.int .i64 (N3 : Nat), expo h' v], .int .i64 p, .int .i64 q]) QInts := fun h' p q e => ⟨(N3 : Nat), rw6, [.int .i64 p, .int .i64 q], by simp [noEx, noExs, hex6 h' e], hr6, ⟨p, q, rfl⟩⟩
        clear hf6 hp6 hex6 hc6
        cases c6 with
        | true =>
          repeat' (first | (apply brI <;> intro hb hb2 <;> (try simp [-Int.not_le, -Int.not_lt, -Nat.not_le, -Nat.not_lt, -Nat.add_left_cancel_iff] at hb2)) | (refine draw_listA (by rfl) (by kernel_rfl) ?_) | (refine draw_listB (by simp [allocsOf, isAlloc]; rfl) (by kernel_rfl) ?_) | simp (maxSteps := 2000000) (disch := first | omega | assumption | simp [*]) [*, -Int.not_le, -Int.not_lt, -Nat.not_le, -Nat.not_lt, -Nat.add_left_cancel_iff, wrap_i64, wrap_u64, i2, i6, hlo6])
          all_goals exact hend _ _ _ (by simp only [hset]; first | rfl | (rw [if_neg (by omega)]))
        | false =>
          repeat' (first | (apply brI <;> intro hb hb2 <;> (try simp [-Int.not_le, -Int.not_lt, -Nat.not_le, -Nat.not_lt, -Nat.add_left_cancel_iff] at hb2)) | (refine draw_listA (by rfl) (by kernel_rfl) ?_) | (refine draw_listB (by simp [allocsOf, isAlloc]; rfl) (by kernel_rfl) ?_) | simp (maxSteps := 2000000) (disch := first | omega | assumption | simp [*]) [*, -Int.not_le, -Int.not_lt, -Nat.not_le, -Nat.not_lt, -Nat.add_left_cancel_iff, wrap_i64, wrap_u64, i2, i6, hlo6])
          all_goals exact hend _ _ _ (by simp only [hset]; first | rfl | (rw [if_neg (by omega)]))
      · repeat' (first | (apply brI <;> intro hb hb2 <;> (try simp [-Int.not_le, -Int.not_lt, -Nat.not_le, -Nat.not_lt, -Nat.add_left_cancel_iff] at hb2)) | (refine draw_listA (by rfl) (by kernel_rfl) ?_) | (refine draw_listB (by simp [allocsOf, isAlloc]; rfl) (by kernel_rfl) ?_) | simp (maxSteps := 2000000) (disch := first | omega | assumption | simp [*]) [*, -Int.not_le, -Int.not_lt, -Nat.not_le, -Nat.not_lt, -Nat.add_left_cancel_iff, wrap_i64, wrap_u64, m2, m6])
        refine cf_open rfl rfl (l1Once_o hB hl hc5 fun c6 h6 hc6 hf6 => ?_)
        have i2 : h6 2 = _ := (hf6 2 (by omega)).trans m2
        have i6 : h6 6 = _ := (hf6 6 (by omega)).trans m6
        have hp6 := hp5'.keep (h' := h6) (hf6 _ (by omega))
        obtain ⟨rw6, hlo6, hex6, _, hr6⟩ := hp6.all
        have hI6 : IsI (bufC 0 rw6) := isI_bufC (by unfold top63; omega)
        have ov6 := hp6.one.1
        have cv6 := hp6.one.2
        have hend : ∀ h' (p q : Int), h' rk = h6 rk → DrC (.tup [.agg [.int .i64 (N3 : Nat), expo h' v], .int .i64 p, .int .i64 q]) QInts := fun h' p q e => ⟨(N3 : Nat), rw6, [.int .i64 p, .int .i64 q], by simp [noEx, noExs, hex6 h' e], hr6, ⟨p, q, rfl⟩⟩
        clear hf6 hp6 hex6 hc6
        cases c6 with
        | true =>
          repeat' (first | (apply brI <;> intro hb hb2 <;> (try simp [-Int.not_le, -Int.not_lt, -Nat.not_le, -Nat.not_lt, -Nat.add_left_cancel_iff] at hb2)) | (refine draw_listA (by rfl) (by kernel_rfl) ?_) | (refine draw_listB (by simp [allocsOf, isAlloc]; rfl) (by kernel_rfl) ?_) | simp (maxSteps := 2000000) (disch := first | omega | assumption | simp [*]) [*, -Int.not_le, -Int.not_lt, -Nat.not_le, -Nat.not_lt, -Nat.add_left_cancel_iff, wrap_i64, wrap_u64, i2, i6, hlo6])
          all_goals exact hend _ _ _ (by simp only [hset]; first | rfl | (rw [if_neg (by omega)]))
        | false =>
          repeat' (first | (apply brI <;> intro hb hb2 <;> (try simp [-Int.not_le, -Int.not_lt, -Nat.not_le, -Nat.not_lt, -Nat.add_left_cancel_iff] at hb2)) | (refine draw_listA (by rfl) (by kernel_rfl) ?_) | (refine draw_listB (by simp [allocsOf, isAlloc]; rfl) (by kernel_rfl) ?_) | simp (maxSteps := 2000000) (disch := first | omega | assumption | simp [*]) [*, -Int.not_le, -Int.not_lt, -Nat.not_le, -Nat.not_lt, -Nat.add_left_cancel_iff, wrap_i64, wrap_u64, i2, i6, hlo6])
          all_goals exact hend _ _ _ (by simp only [hset]; first | rfl | (rw [if_neg (by omega)]))
theorem drawIsCompatible_t {b : AV} (hB : IsB b) (hbr : brwOf b = false) (hl : bLen b ≤ 1073741824) : CallsTo env 29 [b] (fun r => DrC r QInts) := by
  refine callsTo_mk (F := Tryz.f29) rfl rfl (Nat.le_of_ble_eq_true rfl) ?_
  repeat' (first | (apply brI <;> intro hb hb2 <;> (try simp [-Int.not_le, -Int.not_lt, -Nat.not_le, -Nat.not_lt, -Nat.add_left_cancel_iff] at hb2)) | (refine draw_listA (by rfl) (by kernel_rfl) ?_) | (refine draw_listB (by simp [allocsOf, isAlloc]; rfl) (by kernel_rfl) ?_) | simp (maxSteps := 2000000) (disch := first | omega | assumption | simp [*]) [*, -Int.not_le, -Int.not_lt, -Nat.not_le, -Nat.not_lt, -Nat.add_left_cancel_iff, wrap_i64, wrap_u64, Tryz.f29, isB_low hB])
  refine cw_to (l19Case_t hB hbr hl) ?_
  rintro r ⟨n, rows, xs, hr, hl9, a, c, rfl⟩
  have hlr := hl9
  clear hl9
  repeat' (first | (apply brI <;> intro hb hb2 <;> (try simp [-Int.not_le, -Int.not_lt, -Nat.not_le, -Nat.not_lt, -Nat.add_left_cancel_iff] at hb2)) | (refine draw_listA (by rfl) (by kernel_rfl) ?_) | (refine draw_listB (by simp [allocsOf, isAlloc]; rfl) (by kernel_rfl) ?_) | simp (maxSteps := 2000000) (disch := first | omega | assumption | simp [*]) [*, -Int.not_le, -Int.not_lt, -Nat.not_le, -Nat.not_lt, -Nat.add_left_cancel_iff, wrap_i64, wrap_u64, hr])
  exact ⟨n, rows, [.int .i64 a, .int .i64 c], by simp [noEx, noExs], hlr, ⟨a, c, rfl⟩⟩
theorem drawArrowClosure_t {b : AV} (hB : IsB b) (hbr : brwOf b = false) (hl : bLen b ≤ 1073741824) : CallsTo env 34 [b] (fun r => DrC r QInt) := by
  refine callsTo_mk (F := Tryz.f34) rfl rfl (Nat.le_of_ble_eq_true rfl) ?_
  repeat' (first | (apply brI <;> intro hb hb2 <;> (try simp [-Int.not_le, -Int.not_lt, -Nat.not_le, -Nat.not_lt, -Nat.add_left_cancel_iff] at hb2)) | (refine draw_listA (by rfl) (by kernel_rfl) ?_) | (refine draw_listB (by simp [allocsOf, isAlloc]; rfl) (by kernel_rfl) ?_) | simp (maxSteps := 2000000) (disch := first | omega | assumption | simp [*]) [*, -Int.not_le, -Int.not_lt, -Nat.not_le, -Nat.not_lt, -Nat.add_left_cancel_iff, wrap_i64, wrap_u64, Tryz.f34, isB_low hB])
  refine cw_to (l19Case_t hB hbr hl) ?_
  rintro r ⟨n, rows, xs, hr, hl9, a, c, rfl⟩
  have hlr := hl9
  clear hl9
  repeat' (first | (apply brI <;> intro hb hb2 <;> (try simp [-Int.not_le, -Int.not_lt, -Nat.not_le, -Nat.not_lt, -Nat.add_left_cancel_iff] at hb2)) | (refine draw_listA (by rfl) (by kernel_rfl) ?_) | (refine draw_listB (by simp [allocsOf, isAlloc]; rfl) (by kernel_rfl) ?_) | simp (maxSteps := 2000000) (disch := first | omega | assumption | simp [*]) [*, -Int.not_le, -Int.not_lt, -Nat.not_le, -Nat.not_lt, -Nat.add_left_cancel_iff, wrap_i64, wrap_u64, hr])
  exact ⟨n, rows, [.int .i64 a], by simp [noEx, noExs], hlr, ⟨a, rfl⟩⟩
theorem drawCountCompatible_t {b : AV} (hB : IsB b) (hbr : brwOf b = false) (hl : bLen b ≤ 1073741824) : CallsTo env 37 [b] (fun r => DrK r) := by
  refine callsTo_mk (F := Tryz.f37) rfl rfl (Nat.le_of_ble_eq_true rfl) ?_
  have hcb := isB_cells hB
  have hob := isB_one hB
  repeat' (first | (apply brI <;> intro hb hb2 <;> (try simp [-Int.not_le, -Int.not_lt, -Nat.not_le, -Nat.not_lt, -Nat.add_left_cancel_iff] at hb2)) | (refine draw_listA (by rfl) (by kernel_rfl) ?_) | (refine draw_listB (by simp [allocsOf, isAlloc]; rfl) (by kernel_rfl) ?_) | simp (maxSteps := 2000000) (disch := first | omega | assumption | simp [*]) [*, -Int.not_le, -Int.not_lt, -Nat.not_le, -Nat.not_lt, -Nat.add_left_cancel_iff, wrap_i64, wrap_u64, Tryz.f37, isB_low hB])
  refine cf_xp (by simpa [isB_low hB] using l1New_t hB hbr hl) rfl ?_
  rintro r ⟨hh, rfl⟩
  refine ⟨_, _, _, rfl, ?_⟩
  repeat' (first | (apply brI <;> intro hb hb2 <;> (try simp [-Int.not_le, -Int.not_lt, -Nat.not_le, -Nat.not_lt, -Nat.add_left_cancel_iff] at hb2)) | (refine draw_listA (by rfl) (by kernel_rfl) ?_) | (refine draw_listB (by simp [allocsOf, isAlloc]; rfl) (by kernel_rfl) ?_) | simp (maxSteps := 2000000) (disch := first | omega | assumption | simp [*]) [*, -Int.not_le, -Int.not_lt, -Nat.not_le, -Nat.not_lt, -Nat.add_left_cancel_iff, wrap_i64, wrap_u64])
  refine cf_open rfl rfl (l1Once_o hB hl (g := 0) ⟨0, hh, by omega, by omega, by simp [hset, hnil]⟩ fun c1 h1 hc1 hf1 => ?_)
  have f2 : h1 2 = some (.var 0 26 (.agg [.int .i64 0, .sl 0 .lit []])) := by rw [hf1 2 (by omega)]; simp [hset]
  clear hf1
  cases c1 with
  | true =>
    repeat' (first | (apply brI <;> intro hb hb2 <;> (try simp [-Int.not_le, -Int.not_lt, -Nat.not_le, -Nat.not_lt, -Nat.add_left_cancel_iff] at hb2)) | (refine draw_listA (by rfl) (by kernel_rfl) ?_) | (refine draw_listB (by simp [allocsOf, isAlloc]; rfl) (by kernel_rfl) ?_) | simp (maxSteps := 2000000) (disch := first | omega | assumption | simp [*]) [*, -Int.not_le, -Int.not_lt, -Nat.not_le, -Nat.not_lt, -Nat.add_left_cancel_iff, wrap_i64, wrap_u64, f2])
    refine cf_open rfl rfl (l3Bent_o hB hl hc1 (by simp [farOff]) fun n rk v h2 hr1 hr2 hp hc2 hf2 => ?_)
    simp only [farOff] at hr1 hr2 hf2
    have ov := hp.one
    have cv := hp.cells
    have g2 := (hf2 2 (by omega) (by omega)).trans f2
    have hend : ∀ h', h' rk = h2 rk → DrK (.agg [.int .i64 n, expo h' v]) := fun h' e => by
      obtain ⟨rows, e1, e2⟩ := CAny.res (.inl (hp.keep e))
      exact ⟨n, rows, by simp [noEx, noExs, e1], e2⟩
    clear hf2 hp
    repeat' (first | (apply brI <;> intro hb hb2 <;> (try simp [-Int.not_le, -Int.not_lt, -Nat.not_le, -Nat.not_lt, -Nat.add_left_cancel_iff] at hb2)) | (refine draw_listA (by rfl) (by kernel_rfl) ?_) | (refine draw_listB (by simp [allocsOf, isAlloc]; rfl) (by kernel_rfl) ?_) | simp (maxSteps := 2000000) (disch := first | omega | assumption | simp [*]) [*, -Int.not_le, -Int.not_lt, -Nat.not_le, -Nat.not_lt, -Nat.add_left_cancel_iff, wrap_i64, wrap_u64, g2])
    exact hend _ (by rw [hset_other _ _ (by omega)])
  | false =>
    repeat' (first | (apply brI <;> intro hb hb2 <;> (try simp [-Int.not_le, -Int.not_lt, -Nat.not_le, -Nat.not_lt, -Nat.add_left_cancel_iff] at hb2)) | (refine draw_listA (by rfl) (by kernel_rfl) ?_) | (refine draw_listB (by simp [allocsOf, isAlloc]; rfl) (by kernel_rfl) ?_) | simp (maxSteps := 2000000) (disch := first | omega | assumption | simp [*]) [*, -Int.not_le, -Int.not_lt, -Nat.not_le, -Nat.not_lt, -Nat.add_left_cancel_iff, wrap_i64, wrap_u64, f2])
    refine cf_open rfl rfl (l1Below_o hB hl hc1 fun x h2 hx _ hy hc2 hf2 => ?_)
    have hz := hy (by omega)
    obtain ⟨N, rfl⟩ : ∃ N : Nat, x = N := ⟨x.toNat, by omega⟩
    have g2 := (hf2 2 (by omega)).trans f2
    clear hf2 hy
    repeat' (first | (apply brI <;> intro hb hb2 <;> (try simp [-Int.not_le, -Int.not_lt, -Nat.not_le, -Nat.not_lt, -Nat.add_left_cancel_iff] at hb2)) | (refine draw_listA (by rfl) (by kernel_rfl) ?_) | (refine draw_listB (by simp [allocsOf, isAlloc]; rfl) (by kernel_rfl) ?_) | simp (maxSteps := 2000000) (disch := first | omega | assumption | simp [*]) [*, -Int.not_le, -Int.not_lt, -Nat.not_le, -Nat.not_lt, -Nat.add_left_cancel_iff, wrap_i64, wrap_u64, g2])
    refine cf_open rfl rfl (l3Make_o (M := 3) hB hl (by omega) (by decide) hc2 (by simp [farOff]) fun rk k v h3 hrk hkM hp hc3 hf3 => ?_)
    simp only [farOff] at hrk hf3
    have hp3 := hp.bt (by omega)
    have ov := hp.one
    have cv := hp.cells
    have j2 := (hf3 2 (by omega) (by omega)).trans g2
    have hend : ∀ h', h' rk = h3 rk → DrK (.agg [.int .i64 N, expo h' v]) := fun h' e => by
      obtain ⟨rows, e1, e2⟩ := CAny.res (.inl (hp3.keep e))
      exact ⟨N, rows, by simp [noEx, noExs, e1], e2⟩
    clear hf3 hp hp3
    repeat' (first | (apply brI <;> intro hb hb2 <;> (try simp [-Int.not_le, -Int.not_lt, -Nat.not_le, -Nat.not_lt, -Nat.add_left_cancel_iff] at hb2)) | (refine draw_listA (by rfl) (by kernel_rfl) ?_) | (refine draw_listB (by simp [allocsOf, isAlloc]; rfl) (by kernel_rfl) ?_) | simp (maxSteps := 2000000) (disch := first | omega | assumption | simp [*]) [*, -Int.not_le, -Int.not_lt, -Nat.not_le, -Nat.not_lt, -Nat.add_left_cancel_iff, wrap_i64, wrap_u64, j2])
    exact hend _ (by rw [hset_other _ _ (by omega)])
end Go.Proofs.YtliecnadoklgoaaGreatDoor
