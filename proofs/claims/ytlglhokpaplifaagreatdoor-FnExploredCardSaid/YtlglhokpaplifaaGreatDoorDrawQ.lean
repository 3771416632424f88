/- What is drawn for the law of explorations. Conditions: none. -/
import Derived.Test.YtlglhokpaplifaaGreatDoorDrawC
import Derived.Test.YtlglhokpaplifaaGreatDoorExplV
import Derived.Test.YtlglhokpaplifaaGreatDoorStem
namespace Go.Proofs.YtlglhokpaplifaaGreatDoor
open Ev
set_option linter.unusedVariables false
set_option linter.unusedSimpArgs false
set_option maxHeartbeats 4000000

def ExpSt (h : Heap) (b : AV) (n : Int) (rk : Nat) (v a6 : AV) (rows : List Int) (k : Nat) : Prop := ∃ ks : List Int, Buf h 3 29 1 a6 ks ∧ ks.length ≤ k ∧ Cur h 9 0 b ∧ h 2 = some (.var 0 26 (.agg [.int .i64 0, .sl 0 .lit []])) ∧ h 5 = some (.var 0 26 (.agg [.int .i64 n, v])) ∧ Buf h 3 rk 0 v rows
theorem l14Expert_t {b : AV} (hB : IsB b) (hbr : brwOf b = false) (hl : bLen b ≤ 1073741824) : CallsTo env 33 [b] (fun r => ∃ (n : Int) (rows ks : List Int), noEx r = .tup [.agg [.int .i64 n, bufC 0 rows], bufC 1 ks] ∧ rows.length ≤ 9 ∧ ks.length ≤ 10) := by
  refine callsTo_mk (F := Tryz.f33) rfl rfl (Nat.le_of_ble_eq_true rfl) ?_
  have hcb := isB_cells hB
  have hob := isB_one hB
  repeat' (first | (apply brI <;> intro hb hb2 <;> (try simp [-Int.not_le, -Int.not_lt, -Nat.not_le, -Nat.not_lt, -Nat.add_left_cancel_iff] at hb2)) | (refine draw_listA (by rfl) (by kernel_rfl) ?_) | (refine draw_listB (by simp [allocsOf, isAlloc]; rfl) (by kernel_rfl) ?_) | simp (maxSteps := 2000000) (disch := first | omega | assumption | simp [*]) [*, -Int.not_le, -Int.not_lt, -Nat.not_le, -Nat.not_lt, -Nat.add_left_cancel_iff, wrap_i64, wrap_u64, Tryz.f33, isB_low hB])
  refine cf_xp (by simpa [isB_low hB] using l1New_t hB hbr hl) rfl ?_
  rintro r ⟨hh, rfl⟩
  refine ⟨_, _, _, rfl, ?_⟩
  repeat' (first | (apply brI <;> intro hb hb2 <;> (try simp [-Int.not_le, -Int.not_lt, -Nat.not_le, -Nat.not_lt, -Nat.add_left_cancel_iff] at hb2)) | (refine draw_listA (by rfl) (by kernel_rfl) ?_) | (refine draw_listB (by simp [allocsOf, isAlloc]; rfl) (by kernel_rfl) ?_) | simp (maxSteps := 2000000) (disch := first | omega | assumption | simp [*]) [*, -Int.not_le, -Int.not_lt, -Nat.not_le, -Nat.not_lt, -Nat.add_left_cancel_iff, wrap_i64, wrap_u64])
  refine cf_open rfl rfl (l3Bent_o hB hl (g := 0) ⟨0, hh, by omega, by omega, by simp [hset, hnil]⟩ (by simp [farOff]) fun n rk v h1 hr1 hr2 hp hc1 hf1 => ?_)
  simp only [farOff] at hr1 hr2 hf1
  obtain ⟨rows, hBv, hrl⟩ := hp
  have ov := hBv.one
  have cv := hBv.cells
  have f2 : h1 2 = some (.var 0 26 (.agg [.int .i64 0, .sl 0 .lit []])) := by rw [hf1 2 (by omega) (by omega)]; simp [hset]
  have f5 : h1 5 = none := by rw [hf1 5 (by omega) (by omega)]; simp [hset, hnil]
  clear hf1
  repeat' (first | (apply brI <;> intro hb hb2 <;> (try simp [-Int.not_le, -Int.not_lt, -Nat.not_le, -Nat.not_lt, -Nat.add_left_cancel_iff] at hb2)) | (refine draw_listA (by rfl) (by kernel_rfl) ?_) | (refine draw_listB (by simp [allocsOf, isAlloc]; rfl) (by kernel_rfl) ?_) | simp (maxSteps := 2000000) (disch := first | omega | assumption | simp [*]) [*, -Int.not_le, -Int.not_lt, -Nat.not_le, -Nat.not_lt, -Nat.add_left_cancel_iff, wrap_i64, wrap_u64, f2, f5])
  refine W_loopG rows.length (fun k s h' => s 7 = .int .i64 k ∧ s 4 = .vp 9 0 0 ∧ s 5 = .vp 5 0 0 ∧ s 2 = .vp 2 0 0 ∧ ExpSt h' b n rk v (s 6) rows k) ?_ ?_
  · refine ⟨by simp, by simp, by simp, by simp, [], buf_nil .., by simp, hc1.keep (hset_other _ _ (by omega)), by rw [hset_other _ _ (by omega)]; exact f2, by simp [hset], hBv.keep (hset_other _ _ (by omega))⟩
  clear f2 f5 hBv hc1
  rintro k s h2 hk ⟨h7, h4, h5, h2', ks, hK, hkl, hc, e2, e5, hBv⟩
  obtain ⟨v6, h6⟩ : ∃ v6, s 6 = v6 := ⟨_, rfl⟩
  rw [h6] at hK
  have o6 := hK.one
  have c6 := hK.cells
  have hlen : ∀ t, slT env t = true → lenV env t v = some (.int .i64 rows.length) := fun t ht => hBv.len ht
  by_cases hk2 : k < rows.length
  · have hki : (k : Int) < rows.length := by omega
    have hk9 : (k : Int) < 9 := by omega
    repeat' (first | (apply brI <;> intro hb hb2 <;> (try simp [-Int.not_le, -Int.not_lt, -Nat.not_le, -Nat.not_lt, -Nat.add_left_cancel_iff] at hb2)) | (refine draw_listA (by rfl) (by kernel_rfl) ?_) | (refine draw_listB (by simp [allocsOf, isAlloc]; rfl) (by kernel_rfl) ?_) | simp (maxSteps := 2000000) (disch := first | omega | assumption | simp [*]) [*, -Int.not_le, -Int.not_lt, -Nat.not_le, -Nat.not_lt, -Nat.add_left_cancel_iff, wrap_i64, wrap_u64, h7, h4, h5, h2', h6, e2, e5])
    refine cf_open rfl rfl (l1Once_o hB hl hc fun c1 h3 hc3 hf3 => ?_)
    have d2 := (hf3 2 (by omega)).trans e2
    have d5 := (hf3 5 (by omega)).trans e5
    have hK3 := hK.keep (hf3 29 (by omega))
    have hB3 := hBv.keep (hf3 rk (by omega))
    clear hf3 hc e2 e5 hK hBv hlen
    cases c1 with
    | true =>
      repeat' (first | (apply brI <;> intro hb hb2 <;> (try simp [-Int.not_le, -Int.not_lt, -Nat.not_le, -Nat.not_lt, -Nat.add_left_cancel_iff] at hb2)) | (refine draw_listA (by rfl) (by kernel_rfl) ?_) | (refine draw_listB (by simp [allocsOf, isAlloc]; rfl) (by kernel_rfl) ?_) | simp (maxSteps := 2000000) (disch := first | omega | assumption | simp [*]) [*, -Int.not_le, -Int.not_lt, -Nat.not_le, -Nat.not_lt, -Nat.add_left_cancel_iff, wrap_i64, wrap_u64, h7, h4, h5, h2', h6, d2, d5])
      refine wa_push hK3 (by simp) (by simp) (by omega) fun v' h8 hB' hk' => ?_
      have hst : ExpSt h8 b n rk v v' rows (k + 1) := ⟨_, hB', by simp; omega, hc3.keep (hk' 9 (by omega)), (hk' 2 (by omega)).trans d2, (hk' 5 (by omega)).trans d5, hB3.keep (hk' rk (by omega))⟩
      have o8 := hB'.one
      have c8 := hB'.cells
      clear hB' hk' hK3 hB3 d2 d5 hc3
      repeat' (first | (apply brI <;> intro hb hb2 <;> (try simp [-Int.not_le, -Int.not_lt, -Nat.not_le, -Nat.not_lt, -Nat.add_left_cancel_iff] at hb2)) | (refine draw_listA (by rfl) (by kernel_rfl) ?_) | (refine draw_listB (by simp [allocsOf, isAlloc]; rfl) (by kernel_rfl) ?_) | simp (maxSteps := 2000000) (disch := first | omega | assumption | simp [*]) [*, -Int.not_le, -Int.not_lt, -Nat.not_le, -Nat.not_lt, -Nat.add_left_cancel_iff, wrap_i64, wrap_u64, h7, h4, h5, h2', h6])
    | false =>
      have hst : ExpSt h3 b n rk v v6 rows (k + 1) := ⟨_, hK3, by omega, hc3, d2, d5, hB3⟩
      clear hK3 hB3 d2 d5 hc3
      repeat' (first | (apply brI <;> intro hb hb2 <;> (try simp [-Int.not_le, -Int.not_lt, -Nat.not_le, -Nat.not_lt, -Nat.add_left_cancel_iff] at hb2)) | (refine draw_listA (by rfl) (by kernel_rfl) ?_) | (refine draw_listB (by simp [allocsOf, isAlloc]; rfl) (by kernel_rfl) ?_) | simp (maxSteps := 2000000) (disch := first | omega | assumption | simp [*]) [*, -Int.not_le, -Int.not_lt, -Nat.not_le, -Nat.not_lt, -Nat.add_left_cancel_iff, wrap_i64, wrap_u64, h7, h4, h5, h2', h6])
  · have hki : ¬ (k : Int) < rows.length := by omega
    have hk9 : k ≤ 9 := by omega
    repeat' (first | (apply brI <;> intro hb hb2 <;> (try simp [-Int.not_le, -Int.not_lt, -Nat.not_le, -Nat.not_lt, -Nat.add_left_cancel_iff] at hb2)) | (refine draw_listA (by rfl) (by kernel_rfl) ?_) | (refine draw_listB (by simp [allocsOf, isAlloc]; rfl) (by kernel_rfl) ?_) | simp (maxSteps := 2000000) (disch := first | omega | assumption | simp [*]) [*, -Int.not_le, -Int.not_lt, -Nat.not_le, -Nat.not_lt, -Nat.add_left_cancel_iff, wrap_i64, wrap_u64, h7, h4, h5, h2', h6, e2, e5])
    refine cf_open rfl rfl (l1Once_o hB hl hc fun c1 h3 hc3 hf3 => ?_)
    have d2 := (hf3 2 (by omega)).trans e2
    have d5 := (hf3 5 (by omega)).trans e5
    have hK3 := hK.keep (hf3 29 (by omega))
    have hB3 := hBv.keep (hf3 rk (by omega))
    clear hf3 hc e2 e5 hK hBv hlen
    cases c1 with
    | true =>
      have hr : [0, 1, 2] = List.range 3 := rfl
      have hv : IsI (.sl 1 .lit [.int .i64 (-1), .int .i64 0, .int .i64 9]) := isI_lit1 (xs := [-1, 0, 9]) (by decide)
      repeat' (first | (apply brI <;> intro hb hb2 <;> (try simp [-Int.not_le, -Int.not_lt, -Nat.not_le, -Nat.not_lt, -Nat.add_left_cancel_iff] at hb2)) | (refine draw_listA (by rfl) (by kernel_rfl) ?_) | (refine draw_listB (by simp [allocsOf, isAlloc]; rfl) (by kernel_rfl) ?_) | simp (maxSteps := 2000000) (disch := first | omega | assumption | simp [*]) [*, -Int.not_le, -Int.not_lt, -Nat.not_le, -Nat.not_lt, -Nat.add_left_cancel_iff, wrap_i64, wrap_u64, h7, h4, h5, h2', h6, d2, d5])
      refine cf_open rfl rfl (l1PickInt_o hB hl hc3 hv (by simp [xsOf]) fun j h4' hj hc4 hf4 => ?_)
      generalize nth (xsOf (.sl 1 .lit [.int .i64 (-1), .int .i64 0, .int .i64 9])) j = z
      have d2' := (hf4 2 (by omega)).trans d2
      have d5' := (hf4 5 (by omega)).trans d5
      have hK4 := hK3.keep (hf4 29 (by omega))
      have hB4 := hB3.keep (hf4 rk (by omega))
      clear hf4 hc4 d2 d5 hK3 hB3 hr hv hj hc3
      repeat' (first | (apply brI <;> intro hb hb2 <;> (try simp [-Int.not_le, -Int.not_lt, -Nat.not_le, -Nat.not_lt, -Nat.add_left_cancel_iff] at hb2)) | (refine draw_listA (by rfl) (by kernel_rfl) ?_) | (refine draw_listB (by simp [allocsOf, isAlloc]; rfl) (by kernel_rfl) ?_) | simp (maxSteps := 2000000) (disch := first | omega | assumption | simp [*]) [*, -Int.not_le, -Int.not_lt, -Nat.not_le, -Nat.not_lt, -Nat.add_left_cancel_iff, wrap_i64, wrap_u64, h7, h4, h5, h2', h6, d2', d5'])
      refine wa_pushS hK4 (by simp) (by simp) (by omega) ?_
      intro rk6 v7 h8 hrk6 hB6 hk6
      have o6 := hB6.one
      have c6 := hB6.cells
      have f2 := (hk6 2 (by omega)).trans d2'
      have f5 := (hk6 5 (by omega)).trans d5'
      have hB8 := hB4.keep (hk6 rk (by omega))
      clear hk6 hK4 hB4 d2' d5'
      repeat' (first | (apply brI <;> intro hb hb2 <;> (try simp [-Int.not_le, -Int.not_lt, -Nat.not_le, -Nat.not_lt, -Nat.add_left_cancel_iff] at hb2)) | (refine draw_listA (by rfl) (by kernel_rfl) ?_) | (refine draw_listB (by simp [allocsOf, isAlloc]; rfl) (by kernel_rfl) ?_) | simp (maxSteps := 2000000) (disch := first | omega | assumption | simp [*]) [*, -Int.not_le, -Int.not_lt, -Nat.not_le, -Nat.not_lt, -Nat.add_left_cancel_iff, wrap_i64, wrap_u64, h7, h4, h5, h2', h6, f2, f5])
      exact ⟨n, rows, ks ++ [z], ⟨⟨rfl, by rw [(hB8.keep (hset_other _ _ (by omega))).expo]; simp⟩, by rw [(hB6.keep (hset_other _ _ (by omega))).expo]; simp⟩, hrl, by simp; omega⟩
    | false =>
      repeat' (first | (apply brI <;> intro hb hb2 <;> (try simp [-Int.not_le, -Int.not_lt, -Nat.not_le, -Nat.not_lt, -Nat.add_left_cancel_iff] at hb2)) | (refine draw_listA (by rfl) (by kernel_rfl) ?_) | (refine draw_listB (by simp [allocsOf, isAlloc]; rfl) (by kernel_rfl) ?_) | simp (maxSteps := 2000000) (disch := first | omega | assumption | simp [*]) [*, -Int.not_le, -Int.not_lt, -Nat.not_le, -Nat.not_lt, -Nat.add_left_cancel_iff, wrap_i64, wrap_u64, h7, h4, h5, h2', h6, d2, d5])
      exact ⟨n, rows, ks, ⟨⟨rfl, by rw [(hB3.keep (hset_other _ _ (by omega))).expo]; simp⟩, by rw [(hK3.keep (hset_other _ _ (by omega))).expo]; simp⟩, hrl, by omega⟩
theorem bufC_one (k0 : Nat) (xs : List Int) : (bufC k0 xs).one = true := by unfold bufC; split <;> rfl
theorem bufC_cells (k0 : Nat) (xs : List Int) : (bufC k0 xs).cells = [bufC k0 xs] := by unfold bufC; split <;> rfl
theorem bufC_exp (h : Heap) (k0 : Nat) (xs : List Int) : expo h (bufC k0 xs) = bufC k0 xs := by unfold bufC; split <;> simp
theorem bufC_nox (k0 : Nat) (xs : List Int) : noEx (bufC k0 xs) = bufC k0 xs := by unfold bufC; split <;> simp
theorem bufC_lw (h : Heap) (k0 : Nat) (xs : List Int) : low h (bufC k0 xs) = bufC k0 xs := by unfold bufC; split <;> simp
theorem drawExplore_t {b : AV} (hB : IsB b) (hbr : brwOf b = false) (hl : bLen b ≤ 1073741824) : CallsTo env 6 [b] (fun r => ∃ (n : Int) (rows ks : List Int), noEx r = .tup [.agg [.int .i64 n, bufC 0 rows], bufC 1 ks] ∧ rows.length ≤ 9 ∧ ks.length ≤ 10) := by
  refine callsTo_mk (F := Tryz.f6) rfl rfl (Nat.le_of_ble_eq_true rfl) ?_
  have hcb := isB_cells hB
  have hob := isB_one hB
  repeat' (first | (apply brI <;> intro hb hb2 <;> (try simp [-Int.not_le, -Int.not_lt, -Nat.not_le, -Nat.not_lt, -Nat.add_left_cancel_iff] at hb2)) | (refine draw_listA (by rfl) (by kernel_rfl) ?_) | (refine draw_listB (by simp [allocsOf, isAlloc]; rfl) (by kernel_rfl) ?_) | simp (maxSteps := 2000000) (disch := first | omega | assumption | simp [*]) [*, -Int.not_le, -Int.not_lt, -Nat.not_le, -Nat.not_lt, -Nat.add_left_cancel_iff, wrap_i64, wrap_u64, Tryz.f6, isB_low hB])
  refine cw_to (l14Expert_t hB hbr hl) ?_
  rintro r ⟨n, rows, ks, hr, h1, h2⟩
  have o1 := bufC_one 0 rows
  have o2 := bufC_one 1 ks
  have c1 := bufC_cells 0 rows
  have c2 := bufC_cells 1 ks
  repeat' (first | (apply brI <;> intro hb hb2 <;> (try simp [-Int.not_le, -Int.not_lt, -Nat.not_le, -Nat.not_lt, -Nat.add_left_cancel_iff] at hb2)) | (refine draw_listA (by rfl) (by kernel_rfl) ?_) | (refine draw_listB (by simp [allocsOf, isAlloc]; rfl) (by kernel_rfl) ?_) | simp (maxSteps := 2000000) (disch := first | omega | assumption | simp [*]) [*, -Int.not_le, -Int.not_lt, -Nat.not_le, -Nat.not_lt, -Nat.add_left_cancel_iff, wrap_i64, wrap_u64, hr, bufC_exp, bufC_nox])
  exact ⟨n, rows, ks, ⟨⟨rfl, rfl⟩, rfl⟩, h1, h2⟩
theorem drawCountAccepted_t {b : AV} (hB : IsB b) (hbr : brwOf b = false) (hl : bLen b ≤ 1073741824) : CallsTo env 13 [b] (fun r => ∃ (n : Int) (rows ks : List Int), noEx r = exV n rows ks) := by
  refine callsTo_mk (F := Tryz.f13) rfl rfl (Nat.le_of_ble_eq_true rfl) ?_
  have hcb := isB_cells hB
  have hob := isB_one hB
  repeat' (first | (apply brI <;> intro hb hb2 <;> (try simp [-Int.not_le, -Int.not_lt, -Nat.not_le, -Nat.not_lt, -Nat.add_left_cancel_iff] at hb2)) | (refine draw_listA (by rfl) (by kernel_rfl) ?_) | (refine draw_listB (by simp [allocsOf, isAlloc]; rfl) (by kernel_rfl) ?_) | simp (maxSteps := 2000000) (disch := first | omega | assumption | simp [*]) [*, -Int.not_le, -Int.not_lt, -Nat.not_le, -Nat.not_lt, -Nat.add_left_cancel_iff, wrap_i64, wrap_u64, Tryz.f13, isB_low hB])
  refine cw_to (l14Expert_t hB hbr hl) ?_
  rintro r ⟨n, rows, ks, hr, h1, h2⟩
  have o1 := bufC_one 0 rows
  have o2 := bufC_one 1 ks
  have c1 := bufC_cells 0 rows
  have c2 := bufC_cells 1 ks
  have hx := sExplore_t (n := n) (v := bufC 0 rows) (k := bufC 1 ks) (isI_bufC (by unfold top63; omega)) (isI_bufC (by unfold top63; omega)) (by simp; omega)
  simp only [xsOf_bufC] at hx
  have hex : ∃ (n : Int) (rows' ks' : List Int), exV n rows' ks' = exV n rows ks := ⟨n, rows, ks, rfl⟩
  have hfin : ∃ (n' : Int) (rows' ks' : List Int), exV n rows ks = exV n' rows' ks' := ⟨n, rows, ks, rfl⟩
  obtain ⟨q, r9, m, x, he, f1, f2, f3, f4, f5, f6, f7, f8, f9⟩ : ∃ q r9 m x, exV n rows ks = .agg [q, r9, .int .i64 m, x] ∧ q.one = true ∧ q.cells = [q] ∧ noEx q = q ∧ r9.one = true ∧ r9.cells = [r9] ∧ noEx r9 = r9 ∧ x.one = true ∧ x.cells = [x] ∧ noEx x = x :=
    ⟨_, _, _, _, rfl, bufLC_one' .., bufLC_cells' .., bufLC_noEx' .., bufLC_one' .., bufLC_cells' .., bufLC_noEx' .., bufC_one .., bufC_cells .., bufC_nox ..⟩
  have hexp : ∀ h, expo h q = q ∧ expo h r9 = r9 ∧ expo h x = x := fun h => by
    have := he
    unfold exV at this
    simp only [AV.agg.injEq, List.cons.injEq, and_true] at this
    obtain ⟨rfl, rfl, _, rfl⟩ := this
    exact ⟨bufLC_expo' .., bufLC_expo' .., bufC_exp ..⟩
  have e1 := fun h => (hexp h).1
  have e2 := fun h => (hexp h).2.1
  have e3 := fun h => (hexp h).2.2
  rw [he] at hx hfin
  clear he hexp hex
  repeat' (first | (apply brI <;> intro hb hb2 <;> (try simp [-Int.not_le, -Int.not_lt, -Nat.not_le, -Nat.not_lt, -Nat.add_left_cancel_iff] at hb2)) | (refine draw_listA (by rfl) (by kernel_rfl) ?_) | (refine draw_listB (by simp [allocsOf, isAlloc]; rfl) (by kernel_rfl) ?_) | simp (maxSteps := 2000000) (disch := first | omega | assumption | simp [*]) [*, -Int.not_le, -Int.not_lt, -Nat.not_le, -Nat.not_lt, -Nat.add_left_cancel_iff, wrap_i64, wrap_u64, hr, bufC_lw])
  refine cw_to hx ?_
  rintro r2 hr2
  repeat' (first | (apply brI <;> intro hb hb2 <;> (try simp [-Int.not_le, -Int.not_lt, -Nat.not_le, -Nat.not_lt, -Nat.add_left_cancel_iff] at hb2)) | (refine draw_listA (by rfl) (by kernel_rfl) ?_) | (refine draw_listB (by simp [allocsOf, isAlloc]; rfl) (by kernel_rfl) ?_) | simp (maxSteps := 2000000) (disch := first | omega | assumption | simp [*]) [*, -Int.not_le, -Int.not_lt, -Nat.not_le, -Nat.not_lt, -Nat.add_left_cancel_iff, wrap_i64, wrap_u64, hr2])
/- rules -/
def PrL (es : List AV) : Prop := ∀ e ∈ es, ∃ a c : Int, e = .agg [.int .i64 a, .int .i64 c]
theorem PrL.snoc {es : List AV} (h : PrL es) (a c : Int) : PrL (es ++ [.agg [.int .i64 a, .int .i64 c]]) := fun e he => by
  rcases List.mem_append.1 he with he | he
  · exact h e he
  · exact ⟨a, c, List.mem_singleton.1 he⟩
def RlSt (h0 h : Heap) (off key g : Nat) (b v : AV) (k : Nat) : Prop := ∃ es : List AV, BufL h 40 (off + 21) 2 2 v es ∧ PrL es ∧ es.length = k ∧ Cur h key g b ∧ ∀ y, y < off → y ≠ key → h y = h0 y
theorem l9Draw_o {key g N : Nat} {b : AV} {h : Heap} {off : Nat} {K : AV → Heap → Prop} (hb : IsB b) (hl : bLen b ≤ 1073741824) (hN : N ≤ 8) (hc : Cur h key g b) (hk : key < off) (hK : ∀ (v : AV) (es : List AV) h', BufL h' 40 (off + 21) 2 2 v es → PrL es → es.length ≤ 4 → Cur h' key g b → (∀ y, y < off → y ≠ key → h' y = h y) → K v h') : OpenTo env 116 [.vp key g 0, .int .i64 N] h off K := by
  refine openTo_of (F := Tryz.f116) rfl rfl (Nat.le_of_ble_eq_true rfl) ?_
  repeat' (first | (apply brI <;> intro hb hb2 <;> (try simp [-Int.not_le, -Int.not_lt, -Nat.not_le, -Nat.not_lt, -Nat.add_left_cancel_iff] at hb2)) | (refine draw_listA (by rfl) (by kernel_rfl) ?_) | (refine draw_listB (by simp [allocsOf, isAlloc]; rfl) (by kernel_rfl) ?_) | simp (maxSteps := 2000000) (disch := first | omega | assumption | simp [*]) [*, -Int.not_le, -Int.not_lt, -Nat.not_le, -Nat.not_lt, -Nat.add_left_cancel_iff, wrap_i64, wrap_u64, Tryz.f116])
  refine cf_open rfl rfl (l1Below_o hb hl hc fun x1 h1 hx1 _ hy1 hc1 hf1 => ?_)
  have hz1 := hy1 (by omega)
  obtain ⟨k0, rfl⟩ : ∃ k0 : Nat, x1 = k0 := ⟨x1.toNat, by omega⟩
  have hk4 : k0 ≤ 4 := by omega
  have hfr1 : ∀ y, y < off → y ≠ key → h1 y = h y := fun y y1 y2 => hf1 y y2
  clear hf1 hy1 hz1 hc
  repeat' (first | (apply brI <;> intro hb hb2 <;> (try simp [-Int.not_le, -Int.not_lt, -Nat.not_le, -Nat.not_lt, -Nat.add_left_cancel_iff] at hb2)) | (refine draw_listA (by rfl) (by kernel_rfl) ?_) | (refine draw_listB (by simp [allocsOf, isAlloc]; rfl) (by kernel_rfl) ?_) | simp (maxSteps := 2000000) (disch := first | omega | assumption | simp [*]) [*, -Int.not_le, -Int.not_lt, -Nat.not_le, -Nat.not_lt, -Nat.add_left_cancel_iff, wrap_i64, wrap_u64])
  refine W_loopG k0 (fun k s h' => RlSt h h' off key g b (s 5) k ∧ s 7 = .int .i64 k ∧ s 6 = .int .i64 k0 ∧ s 1 = .int .i64 N ∧ s 0 = .vp key g 0) ?_ ?_
  · refine ⟨⟨[], by simp; exact bufL_nil .., (fun e he => (List.not_mem_nil he).elim), rfl, hc1, hfr1⟩, by simp, by simp, by simp, by simp⟩
  clear hc1 hfr1
  rintro k s h2 hk2 ⟨⟨es, hB, hP, hel, hc2, hfr⟩, s7, s6, s1, s0⟩
  obtain ⟨v5, s5⟩ : ∃ v5, s 5 = v5 := ⟨_, rfl⟩
  rw [s5] at hB
  have o5 := hB.one
  have c5 := hB.cells
  by_cases hk3 : k < k0
  · repeat' (first | (apply brI <;> intro hb hb2 <;> (try simp [-Int.not_le, -Int.not_lt, -Nat.not_le, -Nat.not_lt, -Nat.add_left_cancel_iff] at hb2)) | (refine draw_listA (by rfl) (by kernel_rfl) ?_) | (refine draw_listB (by simp [allocsOf, isAlloc]; rfl) (by kernel_rfl) ?_) | simp (maxSteps := 2000000) (disch := first | omega | assumption | simp [*]) [*, -Int.not_le, -Int.not_lt, -Nat.not_le, -Nat.not_lt, -Nat.add_left_cancel_iff, wrap_i64, wrap_u64, s7, s6, s1, s0, s5])
    refine cf_open rfl rfl (l9Make_o (N := N) hb hl hN hc2 (by simp only [farOff]; omega) fun a c h3 hc3 hf3 => ?_)
    simp only [farOff] at hf3
    have hB3 := hB.keep (hf3 (off + 21) (by omega) (by omega))
    have hfr3 : ∀ y, y < off → y ≠ key → h3 y = h y := fun y y1 y2 => (hf3 y y2 (by omega)).trans (hfr y y1 y2)
    clear hf3 hB hfr hc2
    repeat' (first | (apply brI <;> intro hb hb2 <;> (try simp [-Int.not_le, -Int.not_lt, -Nat.not_le, -Nat.not_lt, -Nat.add_left_cancel_iff] at hb2)) | (refine draw_listA (by rfl) (by kernel_rfl) ?_) | (refine draw_listB (by simp [allocsOf, isAlloc]; rfl) (by kernel_rfl) ?_) | simp (maxSteps := 2000000) (disch := first | omega | assumption | simp [*]) [*, -Int.not_le, -Int.not_lt, -Nat.not_le, -Nat.not_lt, -Nat.add_left_cancel_iff, wrap_i64, wrap_u64, s7, s6, s1, s0, s5])
    refine wa_pushL hB3 (by simp) (by simp) (by decide) ⟨rfl, rfl⟩ (fun _ => rfl) (by omega) fun v' h8 hB8 hk8 => ?_
    have hst : RlSt h h8 off key g b v' (k + 1) := ⟨_, hB8, hP.snoc a c, by simp [hel], hc3.keep (hk8 key (by omega)), fun y y1 y2 => (hk8 y (by omega)).trans (hfr3 y y1 y2)⟩
    have o8 := hB8.one
    have c8 := hB8.cells
    clear hB8 hk8 hB3 hfr3 hc3 hP
    repeat' (first | (apply brI <;> intro hb hb2 <;> (try simp [-Int.not_le, -Int.not_lt, -Nat.not_le, -Nat.not_lt, -Nat.add_left_cancel_iff] at hb2)) | (refine draw_listA (by rfl) (by kernel_rfl) ?_) | (refine draw_listB (by simp [allocsOf, isAlloc]; rfl) (by kernel_rfl) ?_) | simp (maxSteps := 2000000) (disch := first | omega | assumption | simp [*]) [*, -Int.not_le, -Int.not_lt, -Nat.not_le, -Nat.not_lt, -Nat.add_left_cancel_iff, wrap_i64, wrap_u64, s7, s6, s1, s0, s5])
  · obtain rfl : k = k0 := by omega
    have hend := hK v5 es h2 hB hP (by omega) hc2 hfr
    clear hK hB hP hc2 hfr
    repeat' (first | (apply brI <;> intro hb hb2 <;> (try simp [-Int.not_le, -Int.not_lt, -Nat.not_le, -Nat.not_lt, -Nat.add_left_cancel_iff] at hb2)) | (refine draw_listA (by rfl) (by kernel_rfl) ?_) | (refine draw_listB (by simp [allocsOf, isAlloc]; rfl) (by kernel_rfl) ?_) | simp (maxSteps := 2000000) (disch := first | omega | assumption | simp [*]) [*, -Int.not_le, -Int.not_lt, -Nat.not_le, -Nat.not_lt, -Nat.add_left_cancel_iff, wrap_i64, wrap_u64, s7, s6, s1, s0, s5])
theorem l9Bent_o {key g N : Nat} {b : AV} {h : Heap} {off : Nat} {K : AV → Heap → Prop} (hb : IsB b) (hl : bLen b ≤ 1073741824) (hN : N ≤ 8) (hc : Cur h key g b) (hk : key < off) (hK : ∀ (v : AV) (es : List AV) (rk : Nat) h', off ≤ rk → BufL h' 40 rk 2 2 v es → PrL es → es.length ≤ 5 → Cur h' key g b → (∀ y, y < off → y ≠ key → h' y = h y) → K v h') : OpenTo env 93 [.vp key g 0, .int .i64 N] h off K := by
  refine openTo_of (F := Tryz.f93) rfl rfl (Nat.le_of_ble_eq_true rfl) ?_
  repeat' (first | (apply brI <;> intro hb hb2 <;> (try simp [-Int.not_le, -Int.not_lt, -Nat.not_le, -Nat.not_lt, -Nat.add_left_cancel_iff] at hb2)) | (refine draw_listA (by rfl) (by kernel_rfl) ?_) | (refine draw_listB (by simp [allocsOf, isAlloc]; rfl) (by kernel_rfl) ?_) | simp (maxSteps := 2000000) (disch := first | omega | assumption | simp [*]) [*, -Int.not_le, -Int.not_lt, -Nat.not_le, -Nat.not_lt, -Nat.add_left_cancel_iff, wrap_i64, wrap_u64, Tryz.f93])
  refine cf_open rfl rfl (l9Draw_o (N := N) hb hl hN hc (by simp only [farOff]; omega) fun v es h1 hB hP hel hc1 hf1 => ?_)
  simp only [farOff] at hB hf1
  have hfr1 : ∀ y, y < off → y ≠ key → h1 y = h y := fun y y1 y2 => hf1 y (by omega) y2
  have ov := hB.one
  have cv := hB.cells
  clear hf1 hc
  repeat' (first | (apply brI <;> intro hb hb2 <;> (try simp [-Int.not_le, -Int.not_lt, -Nat.not_le, -Nat.not_lt, -Nat.add_left_cancel_iff] at hb2)) | (refine draw_listA (by rfl) (by kernel_rfl) ?_) | (refine draw_listB (by simp [allocsOf, isAlloc]; rfl) (by kernel_rfl) ?_) | simp (maxSteps := 2000000) (disch := first | omega | assumption | simp [*]) [*, -Int.not_le, -Int.not_lt, -Nat.not_le, -Nat.not_lt, -Nat.add_left_cancel_iff, wrap_i64, wrap_u64])
  refine cf_open rfl rfl (l1Once_o hb hl hc1 fun c1 h2 hc2 hf2 => ?_)
  have hB2 := hB.keep (hf2 (off + 100000 + 21) (by omega))
  have hfr2 : ∀ y, y < off → y ≠ key → h2 y = h y := fun y y1 y2 => (hf2 y y2).trans (hfr1 y y1 y2)
  clear hf2 hB hfr1 hc1
  cases c1 with
  | true =>
    repeat' (first | (apply brI <;> intro hb hb2 <;> (try simp [-Int.not_le, -Int.not_lt, -Nat.not_le, -Nat.not_lt, -Nat.add_left_cancel_iff] at hb2)) | (refine draw_listA (by rfl) (by kernel_rfl) ?_) | (refine draw_listB (by simp [allocsOf, isAlloc]; rfl) (by kernel_rfl) ?_) | simp (maxSteps := 2000000) (disch := first | omega | assumption | simp [*]) [*, -Int.not_le, -Int.not_lt, -Nat.not_le, -Nat.not_lt, -Nat.add_left_cancel_iff, wrap_i64, wrap_u64])
    refine cf_open rfl rfl (l2Bent_o hb hl hc2 fun z1 h3 hc3 hf3 => ?_)
    repeat' (first | (apply brI <;> intro hb hb2 <;> (try simp [-Int.not_le, -Int.not_lt, -Nat.not_le, -Nat.not_lt, -Nat.add_left_cancel_iff] at hb2)) | (refine draw_listA (by rfl) (by kernel_rfl) ?_) | (refine draw_listB (by simp [allocsOf, isAlloc]; rfl) (by kernel_rfl) ?_) | simp (maxSteps := 2000000) (disch := first | omega | assumption | simp [*]) [*, -Int.not_le, -Int.not_lt, -Nat.not_le, -Nat.not_lt, -Nat.add_left_cancel_iff, wrap_i64, wrap_u64])
    refine cf_open rfl rfl (l2Bent_o hb hl hc3 fun z2 h4 hc4 hf4 => ?_)
    have hB4 := hB2.keep ((hf4 _ (by omega)).trans (hf3 (off + 100000 + 21) (by omega)))
    have hfr4 : ∀ y, y < off → y ≠ key → h4 y = h y := fun y y1 y2 => ((hf4 y y2).trans (hf3 y y2)).trans (hfr2 y y1 y2)
    obtain ⟨rk, hrk, hB5, hko⟩ := bufL_site (off + 18) hB4
    clear hf3 hf4 hB2 hfr2 hc2 hc3 hB4
    repeat' (first | (apply brI <;> intro hb hb2 <;> (try simp [-Int.not_le, -Int.not_lt, -Nat.not_le, -Nat.not_lt, -Nat.add_left_cancel_iff] at hb2)) | (refine draw_listA (by rfl) (by kernel_rfl) ?_) | (refine draw_listB (by simp [allocsOf, isAlloc]; rfl) (by kernel_rfl) ?_) | simp (maxSteps := 2000000) (disch := first | omega | assumption | simp [*]) [*, -Int.not_le, -Int.not_lt, -Nat.not_le, -Nat.not_lt, -Nat.add_left_cancel_iff, wrap_i64, wrap_u64])
    refine wa_pushL hB5 (by simp) (by simp) (by decide) ⟨rfl, rfl⟩ hko (by omega) fun v' h8 hB8 hk8 => ?_
    have hend := hK v' _ rk h8 (by omega) hB8 (hP.snoc z1 z2) (by simp; omega) (hc4.keep (hk8 key (by omega))) fun y y1 y2 => (hk8 y (by omega)).trans (hfr4 y y1 y2)
    have o8 := hB8.one
    have c8 := hB8.cells
    clear hB8 hk8 hB5 hfr4 hc4 hP hK
    repeat' (first | (apply brI <;> intro hb hb2 <;> (try simp [-Int.not_le, -Int.not_lt, -Nat.not_le, -Nat.not_lt, -Nat.add_left_cancel_iff] at hb2)) | (refine draw_listA (by rfl) (by kernel_rfl) ?_) | (refine draw_listB (by simp [allocsOf, isAlloc]; rfl) (by kernel_rfl) ?_) | simp (maxSteps := 2000000) (disch := first | omega | assumption | simp [*]) [*, -Int.not_le, -Int.not_lt, -Nat.not_le, -Nat.not_lt, -Nat.add_left_cancel_iff, wrap_i64, wrap_u64])
  | false =>
    have hend := hK v _ _ h2 (by omega) hB2 hP (by omega) hc2 hfr2
    clear hK hB2 hP hc2 hfr2
    repeat' (first | (apply brI <;> intro hb hb2 <;> (try simp [-Int.not_le, -Int.not_lt, -Nat.not_le, -Nat.not_lt, -Nat.add_left_cancel_iff] at hb2)) | (refine draw_listA (by rfl) (by kernel_rfl) ?_) | (refine draw_listB (by simp [allocsOf, isAlloc]; rfl) (by kernel_rfl) ?_) | simp (maxSteps := 2000000) (disch := first | omega | assumption | simp [*]) [*, -Int.not_le, -Int.not_lt, -Nat.not_le, -Nat.not_lt, -Nat.add_left_cancel_iff, wrap_i64, wrap_u64])
def RaSt (h : Heap) (b v : AV) (i : Nat) : Prop := ∃ (es : List AV) (rk : Nat), (rk = 29 ∨ 100000 ≤ rk) ∧ BufL h 40 rk 2 2 v es ∧ PrL es ∧ i ≤ es.length ∧ es.length ≤ 41
def RulD (n : Int) (r : AV) : Prop := ∃ es : List AV, r = .tup [.int .i64 n, bufLC 2 2 es] ∧ PrL es ∧ es.length ≤ 41
theorem drawAreRules_t {b : AV} (hB : IsB b) (hbr : brwOf b = false) (hl : bLen b ≤ 1073741824) : CallsTo env 48 [b] (fun r => ∃ n : Int, RulD n (noEx r)) := by
  refine callsTo_mk (F := Tryz.f48) rfl rfl (Nat.le_of_ble_eq_true rfl) ?_
  have hcb := isB_cells hB
  have hob := isB_one hB
  repeat' (first | (apply brI <;> intro hb hb2 <;> (try simp [-Int.not_le, -Int.not_lt, -Nat.not_le, -Nat.not_lt, -Nat.add_left_cancel_iff] at hb2)) | (refine draw_listA (by rfl) (by kernel_rfl) ?_) | (refine draw_listB (by simp [allocsOf, isAlloc]; rfl) (by kernel_rfl) ?_) | simp (maxSteps := 2000000) (disch := first | omega | assumption | simp [*]) [*, -Int.not_le, -Int.not_lt, -Nat.not_le, -Nat.not_lt, -Nat.add_left_cancel_iff, wrap_i64, wrap_u64, Tryz.f48, isB_low hB])
  refine cf_xp (by simpa [isB_low hB] using l1New_t hB hbr hl) rfl ?_
  rintro r ⟨hh, rfl⟩
  refine ⟨_, _, _, rfl, ?_⟩
  repeat' (first | (apply brI <;> intro hb hb2 <;> (try simp [-Int.not_le, -Int.not_lt, -Nat.not_le, -Nat.not_lt, -Nat.add_left_cancel_iff] at hb2)) | (refine draw_listA (by rfl) (by kernel_rfl) ?_) | (refine draw_listB (by simp [allocsOf, isAlloc]; rfl) (by kernel_rfl) ?_) | simp (maxSteps := 2000000) (disch := first | omega | assumption | simp [*]) [*, -Int.not_le, -Int.not_lt, -Nat.not_le, -Nat.not_lt, -Nat.add_left_cancel_iff, wrap_i64, wrap_u64])
  refine cf_open rfl rfl (l1Below_o hB hl (g := 0) ⟨0, hh, by omega, by omega, by simp [hset, hnil]⟩ fun x h0 hx _ hy hc0 hf0 => ?_)
  have hz := hy (by omega)
  obtain ⟨N, rfl⟩ : ∃ N : Nat, x = N := ⟨x.toNat, by omega⟩
  have hN8 : N ≤ 8 := by omega
  clear hf0 hy
  repeat' (first | (apply brI <;> intro hb hb2 <;> (try simp [-Int.not_le, -Int.not_lt, -Nat.not_le, -Nat.not_lt, -Nat.add_left_cancel_iff] at hb2)) | (refine draw_listA (by rfl) (by kernel_rfl) ?_) | (refine draw_listB (by simp [allocsOf, isAlloc]; rfl) (by kernel_rfl) ?_) | simp (maxSteps := 2000000) (disch := first | omega | assumption | simp [*]) [*, -Int.not_le, -Int.not_lt, -Nat.not_le, -Nat.not_lt, -Nat.add_left_cancel_iff, wrap_i64, wrap_u64])
  refine cf_open rfl rfl (l9Bent_o (N := N) hB hl hN8 hc0 (by simp [farOff]) fun v es rk h1 hrk hBL hP hel hc1 hf1 => ?_)
  simp only [farOff] at hrk hf1
  have ov := hBL.one
  have cv := hBL.cells
  clear hf1 hc0
  repeat' (first | (apply brI <;> intro hb hb2 <;> (try simp [-Int.not_le, -Int.not_lt, -Nat.not_le, -Nat.not_lt, -Nat.add_left_cancel_iff] at hb2)) | (refine draw_listA (by rfl) (by kernel_rfl) ?_) | (refine draw_listB (by simp [allocsOf, isAlloc]; rfl) (by kernel_rfl) ?_) | simp (maxSteps := 2000000) (disch := first | omega | assumption | simp [*]) [*, -Int.not_le, -Int.not_lt, -Nat.not_le, -Nat.not_lt, -Nat.add_left_cancel_iff, wrap_i64, wrap_u64])
  refine cf_open rfl rfl (l1Below_o hB hl hc1 fun x2 h2 hx2 _ hy2 hc2 hf2 => ?_)
  have hB2 := hBL.keep (hf2 rk (by omega))
  clear hf2 hy2 hBL hc1
  by_cases x0 : x2 = 0
  · subst x0
    have hr : [0, 1, 2] = List.range 3 := rfl
    have hv : IsI (.sl 1 .lit [.int .i64 (-1), .int .i64 7, .int .i64 1]) := isI_lit1 (xs := [-1, 7, 1]) (by decide)
    repeat' (first | (apply brI <;> intro hb hb2 <;> (try simp [-Int.not_le, -Int.not_lt, -Nat.not_le, -Nat.not_lt, -Nat.add_left_cancel_iff] at hb2)) | (refine draw_listA (by rfl) (by kernel_rfl) ?_) | (refine draw_listB (by simp [allocsOf, isAlloc]; rfl) (by kernel_rfl) ?_) | simp (maxSteps := 2000000) (disch := first | omega | assumption | simp [*]) [*, -Int.not_le, -Int.not_lt, -Nat.not_le, -Nat.not_lt, -Nat.add_left_cancel_iff, wrap_i64, wrap_u64])
    refine cf_open rfl rfl (l1PickInt_o hB hl hc2 hv (by simp [xsOf]) fun j h4 hj hc4 hf4 => ?_)
    generalize nth (xsOf (.sl 1 .lit [.int .i64 (-1), .int .i64 7, .int .i64 1])) j = z
    have hB4 := hB2.keep (hf4 rk (by omega))
    clear hf4 hB2 hr hv hj hc2 hc4
    repeat' (first | (apply brI <;> intro hb hb2 <;> (try simp [-Int.not_le, -Int.not_lt, -Nat.not_le, -Nat.not_lt, -Nat.add_left_cancel_iff] at hb2)) | (refine draw_listA (by rfl) (by kernel_rfl) ?_) | (refine draw_listB (by simp [allocsOf, isAlloc]; rfl) (by kernel_rfl) ?_) | simp (maxSteps := 2000000) (disch := first | omega | assumption | simp [*]) [*, -Int.not_le, -Int.not_lt, -Nat.not_le, -Nat.not_lt, -Nat.add_left_cancel_iff, wrap_i64, wrap_u64])
    exact ⟨z, es, by rw [hB4.expo]; simp, hP, by omega⟩
  · by_cases x1 : x2 = 1
    · subst x1
      repeat' (first | (apply brI <;> intro hb hb2 <;> (try simp [-Int.not_le, -Int.not_lt, -Nat.not_le, -Nat.not_lt, -Nat.add_left_cancel_iff] at hb2)) | (refine draw_listA (by rfl) (by kernel_rfl) ?_) | (refine draw_listB (by simp [allocsOf, isAlloc]; rfl) (by kernel_rfl) ?_) | simp (maxSteps := 2000000) (disch := first | omega | assumption | simp [*]) [*, -Int.not_le, -Int.not_lt, -Nat.not_le, -Nat.not_lt, -Nat.add_left_cancel_iff, wrap_i64, wrap_u64])
      refine W_loopG 41 (fun i s h' => RaSt h' b (s 6) i ∧ s 5 = .int .i64 N) ?_ ?_
      · refine ⟨⟨es, rk, by omega, by simpa using hB2, hP, by omega, by omega⟩, by simp⟩
      clear hB2 hP hc2 hel ov cv
      rintro i s h4 hi ⟨⟨es2, rk2, hrk2, hB4, hP, hi1, hi2⟩, s5⟩
      obtain ⟨v6, s6⟩ : ∃ v6, s 6 = v6 := ⟨_, rfl⟩
      rw [s6] at hB4
      have o6 := hB4.one
      have c6 := hB4.cells
      have hlen : ∀ t, slT env t = true → lenV env t v6 = some (.int .i64 es2.length) := fun t ht => hB4.len ht
      by_cases hx : es2.length < 41
      · have hxi : (es2.length : Int) < 41 := by omega
        obtain ⟨rk3, hrk3, hB5, hko⟩ := bufL_site 29 hB4
        repeat' (first | (apply brI <;> intro hb hb2 <;> (try simp [-Int.not_le, -Int.not_lt, -Nat.not_le, -Nat.not_lt, -Nat.add_left_cancel_iff] at hb2)) | (refine draw_listA (by rfl) (by kernel_rfl) ?_) | (refine draw_listB (by simp [allocsOf, isAlloc]; rfl) (by kernel_rfl) ?_) | simp (maxSteps := 2000000) (disch := first | omega | assumption | simp [*]) [*, -Int.not_le, -Int.not_lt, -Nat.not_le, -Nat.not_lt, -Nat.add_left_cancel_iff, wrap_i64, wrap_u64, s5, s6])
        refine wa_pushL hB5 (by simp) (by simp) (by decide) ⟨rfl, rfl⟩ hko (by omega) fun v' h8 hB8 hk8 => ?_
        have hst : RaSt h8 b v' (i + 1) := ⟨_, rk3, by omega, hB8, hP.snoc 0 0, by simp; omega, by simp; omega⟩
        have hi41 : i < 41 := by omega
        have o8 := hB8.one
        have c8 := hB8.cells
        clear hB8 hk8 hB5 hB4 hP hlen hko
        repeat' (first | (apply brI <;> intro hb hb2 <;> (try simp [-Int.not_le, -Int.not_lt, -Nat.not_le, -Nat.not_lt, -Nat.add_left_cancel_iff] at hb2)) | (refine draw_listA (by rfl) (by kernel_rfl) ?_) | (refine draw_listB (by simp [allocsOf, isAlloc]; rfl) (by kernel_rfl) ?_) | simp (maxSteps := 2000000) (disch := first | omega | assumption | simp [*]) [*, -Int.not_le, -Int.not_lt, -Nat.not_le, -Nat.not_lt, -Nat.add_left_cancel_iff, wrap_i64, wrap_u64, s5, s6])
      · have hxi : ¬ (es2.length : Int) < 41 := by omega
        repeat' (first | (apply brI <;> intro hb hb2 <;> (try simp [-Int.not_le, -Int.not_lt, -Nat.not_le, -Nat.not_lt, -Nat.add_left_cancel_iff] at hb2)) | (refine draw_listA (by rfl) (by kernel_rfl) ?_) | (refine draw_listB (by simp [allocsOf, isAlloc]; rfl) (by kernel_rfl) ?_) | simp (maxSteps := 2000000) (disch := first | omega | assumption | simp [*]) [*, -Int.not_le, -Int.not_lt, -Nat.not_le, -Nat.not_lt, -Nat.add_left_cancel_iff, wrap_i64, wrap_u64, s5, s6])
        exact ⟨N, es2, by rw [hB4.expo]; simp, hP, by omega⟩
    · repeat' (first | (apply brI <;> intro hb hb2 <;> (try simp [-Int.not_le, -Int.not_lt, -Nat.not_le, -Nat.not_lt, -Nat.add_left_cancel_iff] at hb2)) | (refine draw_listA (by rfl) (by kernel_rfl) ?_) | (refine draw_listB (by simp [allocsOf, isAlloc]; rfl) (by kernel_rfl) ?_) | simp (maxSteps := 2000000) (disch := first | omega | assumption | simp [*]) [*, -Int.not_le, -Int.not_lt, -Nat.not_le, -Nat.not_lt, -Nat.add_left_cancel_iff, wrap_i64, wrap_u64])
      exact ⟨N, es, by rw [hB2.expo]; simp, hP, by omega⟩
theorem drawNextModel_t {b : AV} (hB : IsB b) (hbr : brwOf b = false) (hl : bLen b ≤ 1073741824) : CallsTo env 9 [b] (fun r => ∃ (n x : Int) (es : List AV), noEx r = .tup [.int .i64 n, bufLC 2 2 es, .int .i64 x] ∧ PrL es ∧ es.length ≤ 41) := by
  refine callsTo_mk (F := Tryz.f9) rfl rfl (Nat.le_of_ble_eq_true rfl) ?_
  have hcb := isB_cells hB
  have hob := isB_one hB
  repeat' (first | (apply brI <;> intro hb hb2 <;> (try simp [-Int.not_le, -Int.not_lt, -Nat.not_le, -Nat.not_lt, -Nat.add_left_cancel_iff] at hb2)) | (refine draw_listA (by rfl) (by kernel_rfl) ?_) | (refine draw_listB (by simp [allocsOf, isAlloc]; rfl) (by kernel_rfl) ?_) | simp (maxSteps := 2000000) (disch := first | omega | assumption | simp [*]) [*, -Int.not_le, -Int.not_lt, -Nat.not_le, -Nat.not_lt, -Nat.add_left_cancel_iff, wrap_i64, wrap_u64, Tryz.f9, isB_low hB])
  refine cw_to (drawAreRules_t hB hbr hl) ?_
  rintro r ⟨n, es, hr, hP, hel⟩
  have o1 := bufLC_one' 2 2 es
  have c1 := bufLC_cells' 2 2 es
  repeat' (first | (apply brI <;> intro hb hb2 <;> (try simp [-Int.not_le, -Int.not_lt, -Nat.not_le, -Nat.not_lt, -Nat.add_left_cancel_iff] at hb2)) | (refine draw_listA (by rfl) (by kernel_rfl) ?_) | (refine draw_listB (by simp [allocsOf, isAlloc]; rfl) (by kernel_rfl) ?_) | simp (maxSteps := 2000000) (disch := first | omega | assumption | simp [*]) [*, -Int.not_le, -Int.not_lt, -Nat.not_le, -Nat.not_lt, -Nat.add_left_cancel_iff, wrap_i64, wrap_u64, hr, isB_low hB])
  refine cf_xp (by simpa [isB_low hB] using l1New_t hB hbr hl) rfl ?_
  rintro r ⟨hh, rfl⟩
  refine ⟨_, _, _, rfl, ?_⟩
  repeat' (first | (apply brI <;> intro hb hb2 <;> (try simp [-Int.not_le, -Int.not_lt, -Nat.not_le, -Nat.not_lt, -Nat.add_left_cancel_iff] at hb2)) | (refine draw_listA (by rfl) (by kernel_rfl) ?_) | (refine draw_listB (by simp [allocsOf, isAlloc]; rfl) (by kernel_rfl) ?_) | simp (maxSteps := 2000000) (disch := first | omega | assumption | simp [*]) [*, -Int.not_le, -Int.not_lt, -Nat.not_le, -Nat.not_lt, -Nat.add_left_cancel_iff, wrap_i64, wrap_u64])
  refine cf_open rfl rfl (l1Below_o hB hl (g := 0) ⟨0, hh, by omega, by omega, by simp [hset, hnil]⟩ fun x h0 hx _ hy hc0 hf0 => ?_)
  clear hf0 hy hc0
  repeat' (first | (apply brI <;> intro hb hb2 <;> (try simp [-Int.not_le, -Int.not_lt, -Nat.not_le, -Nat.not_lt, -Nat.add_left_cancel_iff] at hb2)) | (refine draw_listA (by rfl) (by kernel_rfl) ?_) | (refine draw_listB (by simp [allocsOf, isAlloc]; rfl) (by kernel_rfl) ?_) | simp (maxSteps := 2000000) (disch := first | omega | assumption | simp [*]) [*, -Int.not_le, -Int.not_lt, -Nat.not_le, -Nat.not_lt, -Nat.add_left_cancel_iff, wrap_i64, wrap_u64, bufLC_expo', bufLC_noEx'])
  exact ⟨n, x, es, ⟨rfl, rfl, rfl⟩, hP, hel⟩
theorem drawQuestionText_t {b : AV} (hB : IsB b) (hbr : brwOf b = false) (hl : bLen b ≤ 1073741824) : CallsTo env 12 [b] (fun r => ∃ (x y d : Int) (c : Bool), noEx r = .agg [.int .i64 x, .int .i64 y, .bool c, .int .i64 d] ∧ -1 ≤ d ∧ d ≤ 8) := by
  refine callsTo_mk (F := Tryz.f12) rfl rfl (Nat.le_of_ble_eq_true rfl) ?_
  have hcb := isB_cells hB
  have hob := isB_one hB
  repeat' (first | (apply brI <;> intro hb hb2 <;> (try simp [-Int.not_le, -Int.not_lt, -Nat.not_le, -Nat.not_lt, -Nat.add_left_cancel_iff] at hb2)) | (refine draw_listA (by rfl) (by kernel_rfl) ?_) | (refine draw_listB (by simp [allocsOf, isAlloc]; rfl) (by kernel_rfl) ?_) | simp (maxSteps := 2000000) (disch := first | omega | assumption | simp [*]) [*, -Int.not_le, -Int.not_lt, -Nat.not_le, -Nat.not_lt, -Nat.add_left_cancel_iff, wrap_i64, wrap_u64, Tryz.f12, isB_low hB])
  refine cf_xp (by simpa [isB_low hB] using l1New_t hB hbr hl) rfl ?_
  rintro r ⟨hh, rfl⟩
  refine ⟨_, _, _, rfl, ?_⟩
  repeat' (first | (apply brI <;> intro hb hb2 <;> (try simp [-Int.not_le, -Int.not_lt, -Nat.not_le, -Nat.not_lt, -Nat.add_left_cancel_iff] at hb2)) | (refine draw_listA (by rfl) (by kernel_rfl) ?_) | (refine draw_listB (by simp [allocsOf, isAlloc]; rfl) (by kernel_rfl) ?_) | simp (maxSteps := 2000000) (disch := first | omega | assumption | simp [*]) [*, -Int.not_le, -Int.not_lt, -Nat.not_le, -Nat.not_lt, -Nat.add_left_cancel_iff, wrap_i64, wrap_u64])
  refine cf_open rfl rfl (l9Make_o (N := 5) hB hl (by decide) (g := 0) ⟨0, hh, by omega, by omega, by simp [hset, hnil]⟩ (by simp [farOff]) fun x y h1 hc1 hf1 => ?_)
  simp only [farOff] at hf1
  have f2 : h1 2 = some (.var 0 42 (.agg [.int .i64 0, .int .i64 0, .bool false, .int .i64 0])) := by rw [hf1 2 (by omega) (by omega)]; simp [hset]
  have f4 : h1 4 = none := by rw [hf1 4 (by omega) (by omega)]; simp [hset, hnil]
  clear hf1
  repeat' (first | (apply brI <;> intro hb hb2 <;> (try simp [-Int.not_le, -Int.not_lt, -Nat.not_le, -Nat.not_lt, -Nat.add_left_cancel_iff] at hb2)) | (refine draw_listA (by rfl) (by kernel_rfl) ?_) | (refine draw_listB (by simp [allocsOf, isAlloc]; rfl) (by kernel_rfl) ?_) | simp (maxSteps := 2000000) (disch := first | omega | assumption | simp [*]) [*, -Int.not_le, -Int.not_lt, -Nat.not_le, -Nat.not_lt, -Nat.add_left_cancel_iff, wrap_i64, wrap_u64, f2, f4])
  refine cf_open rfl rfl (l1Once_o hB hl (hc1.keep (hset_other _ _ (by omega))) fun c3 h3 hc3 hf3 => ?_)
  have g2 : h3 2 = some (.var 0 42 (.agg [.int .i64 0, .int .i64 0, .bool false, .int .i64 0])) := by rw [hf3 2 (by omega), hset_other _ _ (by omega)]; exact f2
  have g4 : h3 4 = some (.var 0 40 (.agg [.int .i64 x, .int .i64 y])) := by rw [hf3 4 (by omega)]; simp [hset]
  clear hf3 hc1 f2 f4
  cases c3 with
  | true =>
    repeat' (first | (apply brI <;> intro hb hb2 <;> (try simp [-Int.not_le, -Int.not_lt, -Nat.not_le, -Nat.not_lt, -Nat.add_left_cancel_iff] at hb2)) | simp (maxSteps := 2000000) (disch := first | omega | assumption | simp [*]) [*, -Int.not_le, -Int.not_lt, -Nat.not_le, -Nat.not_lt, -Nat.add_left_cancel_iff, wrap_i64, wrap_u64, g2, g4])
    refine cf_open rfl rfl (l2Bent_o hB hl hc3 fun z h4 hc4 hf4 => ?_)
    have e2 := (hf4 2 (by omega)).trans g2
    have e4 := (hf4 4 (by omega)).trans g4
    clear hf4 hc3 g2 g4
    repeat' (first | (apply brI <;> intro hb hb2 <;> (try simp [-Int.not_le, -Int.not_lt, -Nat.not_le, -Nat.not_lt, -Nat.add_left_cancel_iff] at hb2)) | simp (maxSteps := 2000000) (disch := first | omega | assumption | simp [*]) [*, -Int.not_le, -Int.not_lt, -Nat.not_le, -Nat.not_lt, -Nat.add_left_cancel_iff, wrap_i64, wrap_u64, e2, e4])
    refine draw_listK [4] [1, 0, 2, 0, 2, 0, 0, 0] (by kernel_rfl) (by kernel_rfl) (by kernel_rfl) (by kernel_rfl) ?_
    repeat' (first | (apply brI <;> intro hb hb2 <;> (try simp [-Int.not_le, -Int.not_lt, -Nat.not_le, -Nat.not_lt, -Nat.add_left_cancel_iff] at hb2)) | simp (maxSteps := 2000000) (disch := first | omega | assumption | simp [*]) [*, -Int.not_le, -Int.not_lt, -Nat.not_le, -Nat.not_lt, -Nat.add_left_cancel_iff, wrap_i64, wrap_u64, e2, e4])
    refine cf_open rfl rfl (l1Once_o hB hl (hc4.keep (hset_other _ _ (by omega))) fun c5 h5 hc5 hf5 => ?_)
    refine ⟨kept1 (hf5 4 (by omega)), ?_⟩
    have k2 : h5 2 = some (.var 0 42 (.agg [.int .i64 0, .int .i64 0, .bool false, .int .i64 0])) := by rw [hf5 2 (by omega), hset_other _ _ (by omega)]; exact e2
    have k4 : h5 4 = some (.var 0 40 (.agg [.int .i64 z, .int .i64 y])) := by rw [hf5 4 (by omega)]; simp [hset]
    clear hf5
    repeat' (first | (apply brI <;> intro hb hb2 <;> (try simp [-Int.not_le, -Int.not_lt, -Nat.not_le, -Nat.not_lt, -Nat.add_left_cancel_iff] at hb2)) | simp (maxSteps := 2000000) (disch := first | omega | assumption | simp [*]) [*, -Int.not_le, -Int.not_lt, -Nat.not_le, -Nat.not_lt, -Nat.add_left_cancel_iff, wrap_i64, wrap_u64, k2, k4])
    refine cf_open rfl rfl (l1Below_o hB hl hc5 fun d h6 hd _ hd2 hc6 hf6 => ?_)
    have hd3 := hd2 (by omega)
    refine ⟨kept1 (hf6 4 (by omega)), ?_⟩
    have j2 := (hf6 2 (by omega)).trans k2
    clear hf6 hd2
    repeat' (first | (apply brI <;> intro hb hb2 <;> (try simp [-Int.not_le, -Int.not_lt, -Nat.not_le, -Nat.not_lt, -Nat.add_left_cancel_iff] at hb2)) | simp (maxSteps := 2000000) (disch := first | omega | assumption | simp [*]) [*, -Int.not_le, -Int.not_lt, -Nat.not_le, -Nat.not_lt, -Nat.add_left_cancel_iff, wrap_i64, wrap_u64, j2])
    exact ⟨z, y, d - 1, ⟨rfl, rfl, rfl⟩, by omega, by omega⟩
  | false =>
    repeat' (first | (apply brI <;> intro hb hb2 <;> (try simp [-Int.not_le, -Int.not_lt, -Nat.not_le, -Nat.not_lt, -Nat.add_left_cancel_iff] at hb2)) | simp (maxSteps := 2000000) (disch := first | omega | assumption | simp [*]) [*, -Int.not_le, -Int.not_lt, -Nat.not_le, -Nat.not_lt, -Nat.add_left_cancel_iff, wrap_i64, wrap_u64, g2, g4])
    refine draw_listK [4] [1, 0, 2, 0, 2, 0, 0, 0] (by kernel_rfl) (by kernel_rfl) (by kernel_rfl) (by kernel_rfl) ?_
    repeat' (first | (apply brI <;> intro hb hb2 <;> (try simp [-Int.not_le, -Int.not_lt, -Nat.not_le, -Nat.not_lt, -Nat.add_left_cancel_iff] at hb2)) | simp (maxSteps := 2000000) (disch := first | omega | assumption | simp [*]) [*, -Int.not_le, -Int.not_lt, -Nat.not_le, -Nat.not_lt, -Nat.add_left_cancel_iff, wrap_i64, wrap_u64, g2, g4])
    refine cf_open rfl rfl (l1Once_o hB hl hc3 fun c5 h5 hc5 hf5 => ?_)
    refine ⟨kept1 (hf5 4 (by omega)), ?_⟩
    have k2 : h5 2 = some (.var 0 42 (.agg [.int .i64 0, .int .i64 0, .bool false, .int .i64 0])) := (hf5 2 (by omega)).trans g2
    have k4 : h5 4 = some (.var 0 40 (.agg [.int .i64 x, .int .i64 y])) := (hf5 4 (by omega)).trans g4
    clear hf5
    repeat' (first | (apply brI <;> intro hb hb2 <;> (try simp [-Int.not_le, -Int.not_lt, -Nat.not_le, -Nat.not_lt, -Nat.add_left_cancel_iff] at hb2)) | simp (maxSteps := 2000000) (disch := first | omega | assumption | simp [*]) [*, -Int.not_le, -Int.not_lt, -Nat.not_le, -Nat.not_lt, -Nat.add_left_cancel_iff, wrap_i64, wrap_u64, k2, k4])
    refine cf_open rfl rfl (l1Below_o hB hl hc5 fun d h6 hd _ hd2 hc6 hf6 => ?_)
    have hd3 := hd2 (by omega)
    refine ⟨kept1 (hf6 4 (by omega)), ?_⟩
    have j2 := (hf6 2 (by omega)).trans k2
    clear hf6 hd2
    repeat' (first | (apply brI <;> intro hb hb2 <;> (try simp [-Int.not_le, -Int.not_lt, -Nat.not_le, -Nat.not_lt, -Nat.add_left_cancel_iff] at hb2)) | simp (maxSteps := 2000000) (disch := first | omega | assumption | simp [*]) [*, -Int.not_le, -Int.not_lt, -Nat.not_le, -Nat.not_lt, -Nat.add_left_cancel_iff, wrap_i64, wrap_u64, j2])
    exact ⟨x, y, d - 1, ⟨rfl, rfl, rfl⟩, by omega, by omega⟩
end Go.Proofs.YtlglhokpaplifaaGreatDoor