/- What is drawn for partial contexts. Conditions: none. -/
import Derived.Test.YtkkkgaapkibhkaaDraw
import Derived.Test.YtkkkgaapkibhkaaPoss2
namespace Go.Proofs.Ytkkkgaapkibhkaa
open Ev
set_option linter.unusedVariables false
set_option linter.unusedSimpArgs false
set_option maxHeartbeats 4000000

/-- a variable that was made there -/
theorem cf_xp {E : Env} {fid d g : Nat} {args : List AV} {s : Nat → AV} {h : Heap} {off nt : Nat} {K : AV → Heap → Prop} {tg : Tg ((⟨s, h, off, nt⟩ : St), K)} {P : AV → Prop}
    (hc : CallsTo E g (lows h args) P) (he : mat1B E fid d g = true) (hK : ∀ r, P r → ∃ T k v, r = .xp T k v ∧ K (.vp (off + d) (nextG h (off + d)) 0) (hset h (off + d) (.var (nextG h (off + d)) T v))) : CF E fid (some d) g args ⟨s, h, off, nt⟩ K tg := by
  simp only [mat1B, Bool.and_eq_true, Bool.not_eq_true', beq_iff_eq, Option.isNone_iff_eq_none] at he
  unfold CF
  rw [WF_mat (ext_none he.1.1 _) he.1.2]
  obtain ⟨r, h1, h2⟩ := hc
  obtain ⟨T, k, v, rfl, h3⟩ := hK r h2
  exact ⟨_, h1, _, _, by simp only [mat, he.2], h3⟩
def AnyI (a : AV) : Prop := ∃ z : Int, a = .int .i64 z
theorem expo_cur {T : Nat} {b : AV} {z : Int} (hs : stab b = true) (h0 : low0 b = b) (ho : b.one = true) :
    expo (hset hnil 31 (.var 0 T (.agg [b, .int .i64 0, .int .i64 z]))) (.vp 31 0 0) = .xp T 31 (.agg [b, .int .i64 0, .int .i64 z]) := by
  have h1 : stab (.agg [b, .int .i64 0, .int .i64 z]) = true := by simp [stab, stabs, hs]
  have h2 : low0 (.agg [b, .int .i64 0, .int .i64 z]) = .agg [b, .int .i64 0, .int .i64 z] := by simp [h0]
  unfold Ev.expo
  rw [hset_same]
  simp only [h1, h2, AV.cells, and_self, if_true]
  rw [if_pos]
  refine ⟨trivial, trivial, trivial, ?_⟩
  rw [List.all_cons, ho]
  rfl
theorem l1New_t {b : AV} (hB : IsB b) (hbr : brwOf b = false) (hl : bLen b ≤ 1073741824) : CallsTo env 83 [b] (fun r => ∃ hh : Int, r = .xp 112 31 (.agg [b, .int .i64 0, .int .i64 hh])) := by
  refine callsTo_mk (F := Try.f83) rfl rfl (Nat.le_of_ble_eq_true rfl) ?_
  have hcb := isB_cells hB
  have hob := isB_one hB
  have hsb := isB_stab hB hbr
  have h0b := isB_low0 hB
  repeat' (first | (apply br_intro <;> intro hb <;> (have hb2 := hb) <;> (try simp [-Int.not_le, -Int.not_lt, -Nat.not_le, -Nat.not_lt, -Nat.add_left_cancel_iff] at hb2)) | (refine draw_listA (by rfl) (by kernel_rfl) ?_) | (refine draw_listB (by simp [allocsOf, isAlloc]; rfl) (by kernel_rfl) ?_) | simp (maxSteps := 2000000) (disch := first | omega | assumption | simp [*]) [*, -Int.not_le, -Int.not_lt, -Nat.not_le, -Nat.not_lt, -Nat.add_left_cancel_iff, wrap_i64, wrap_u64, Try.f83, isB_len hB])
  refine W_loopP 4000 (fun i s => AnyI (s 3) ∧ s 4 = .int .i64 i ∧ s 0 = b ∧ i ≤ bLen b) rfl ?_ ?_
  · exact ⟨⟨26583 + (bLen b : Int), by simp⟩, by simp, by simp, Nat.zero_le _⟩
  rintro i s hi ⟨⟨z, h3⟩, h4, h0, hib⟩
  by_cases hi2 : i < bLen b
  · have hi2i : (i : Int) < bLen b := by omega
    by_cases hi4 : i < 4000
    · have hi4i : (i : Int) < 4000 := by omega
      have hld : ∀ h', loadV env h' 5 (elP b i) = some (.int .u8 (bAt b i)) := fun h' => isB_load hB (by simp) hi2
      repeat' (first | (apply br_intro <;> intro hb <;> (have hb2 := hb) <;> (try simp [-Int.not_le, -Int.not_lt, -Nat.not_le, -Nat.not_lt, -Nat.add_left_cancel_iff] at hb2)) | (refine draw_listA (by rfl) (by kernel_rfl) ?_) | (refine draw_listB (by simp [allocsOf, isAlloc]; rfl) (by kernel_rfl) ?_) | simp (maxSteps := 2000000) (disch := first | omega | assumption | simp [*]) [*, -Int.not_le, -Int.not_lt, -Nat.not_le, -Nat.not_lt, -Nat.add_left_cancel_iff, wrap_i64, wrap_u64, h3, h4, h0, isB_len hB, isB_index hB])
      exact ⟨⟨_, rfl⟩, by omega⟩
    · obtain rfl : i = 4000 := by omega
      repeat' (first | (apply br_intro <;> intro hb <;> (have hb2 := hb) <;> (try simp [-Int.not_le, -Int.not_lt, -Nat.not_le, -Nat.not_lt, -Nat.add_left_cancel_iff] at hb2)) | (refine draw_listA (by rfl) (by kernel_rfl) ?_) | (refine draw_listB (by simp [allocsOf, isAlloc]; rfl) (by kernel_rfl) ?_) | simp (maxSteps := 2000000) (disch := first | omega | assumption | simp [*]) [*, -Int.not_le, -Int.not_lt, -Nat.not_le, -Nat.not_lt, -Nat.add_left_cancel_iff, wrap_i64, wrap_u64, h3, h4, h0, isB_len hB])
      all_goals exact ⟨z, expo_cur hsb h0b hob⟩
  · have hi2i : ¬ (i : Int) < bLen b := by omega
    repeat' (first | (apply br_intro <;> intro hb <;> (have hb2 := hb) <;> (try simp [-Int.not_le, -Int.not_lt, -Nat.not_le, -Nat.not_lt, -Nat.add_left_cancel_iff] at hb2)) | (refine draw_listA (by rfl) (by kernel_rfl) ?_) | (refine draw_listB (by simp [allocsOf, isAlloc]; rfl) (by kernel_rfl) ?_) | simp (maxSteps := 2000000) (disch := first | omega | assumption | simp [*]) [*, -Int.not_le, -Int.not_lt, -Nat.not_le, -Nat.not_lt, -Nat.add_left_cancel_iff, wrap_i64, wrap_u64, h3, h4, h0, isB_len hB])
    exact ⟨z, expo_cur hsb h0b hob⟩
def DrP (r : AV) (qs : List AV → Prop) : Prop := ∃ (n : Int) (u v : AV) (xs : List AV), noEx r = .tup (.agg [.int .i64 n, u, v] :: xs) ∧ IsI u ∧ IsI v ∧ (xsOf u).length ≤ 6 ∧ (xsOf v).length ≤ 6 ∧ qs xs
theorem drp_mk {n : Int} {u v : AV} {h : Heap} {T ks km : Nat} {ss ms : List Int} {xs ys : List AV} {qs : List AV → Prop} (hs : Buf h T ks 0 u ss) (hm : Buf h T km 0 v ms) (h1 : ss.length ≤ 6) (h2 : ms.length ≤ 6) (hx : noExs (expos h xs) = ys) (hq : qs ys) : DrP (expo h (.tup (.agg [.int .i64 n, u, v] :: xs))) qs := by
  refine ⟨n, bufC 0 ss, bufC 0 ms, ys, ?_, isI_bufC (by unfold top63; omega), isI_bufC (by unfold top63; omega), by simpa using h1, by simpa using h2, hq⟩
  have e1 := hs.expo
  have e2 := hm.expo
  simp [Ev.expo, Ev.expos, noEx, noExs, e1, e2, hx]
theorem drp_mk2 {n : Int} {u v : AV} {h : Heap} {T ks km : Nat} {ss ms : List Int} {xs ys : List AV} {qs : List AV → Prop} (hs : Buf h T ks 0 u ss) (hm : Buf h T km 0 v ms) (h1 : ss.length ≤ 6) (h2 : ms.length ≤ 6) (hx : noExs xs = ys) (hq : qs ys) : DrP (.tup (.agg [.int .i64 n, expo h u, expo h v] :: xs)) qs := by
  refine ⟨n, bufC 0 ss, bufC 0 ms, ys, ?_, isI_bufC (by unfold top63; omega), isI_bufC (by unfold top63; omega), by simpa using h1, by simpa using h2, hq⟩
  have e1 := hs.expo
  have e2 := hm.expo
  simp [noEx, noExs, e1, e2, hx]
theorem kept1 {d off : Nat} {h h' : Heap} (e : h' (off + d) = h (off + d)) : Kept [d] off h h' := fun x hx => by
  rw [List.mem_singleton] at hx; subst hx; exact e
theorem drawIsCertain_t {b : AV} (hB : IsB b) (hbr : brwOf b = false) (hl : bLen b ≤ 1073741824) : CallsTo env 39 [b] (fun r => DrP r fun xs => ∃ a c : Int, xs = [.agg [.int .i64 a, .int .i64 c]]) := by
  refine callsTo_mk (F := Try.f39) rfl rfl (Nat.le_of_ble_eq_true rfl) ?_
  have hcb := isB_cells hB
  have hob := isB_one hB
  repeat' (first | (apply br_intro <;> intro hb <;> (have hb2 := hb) <;> (try simp [-Int.not_le, -Int.not_lt, -Nat.not_le, -Nat.not_lt, -Nat.add_left_cancel_iff] at hb2)) | (refine draw_listA (by rfl) (by kernel_rfl) ?_) | (refine draw_listB (by simp [allocsOf, isAlloc]; rfl) (by kernel_rfl) ?_) | simp (maxSteps := 2000000) (disch := first | omega | assumption | simp [*]) [*, -Int.not_le, -Int.not_lt, -Nat.not_le, -Nat.not_lt, -Nat.add_left_cancel_iff, wrap_i64, wrap_u64, Try.f39, isB_low hB])
  refine cf_xp (by simpa [isB_low hB] using l1New_t hB hbr hl) rfl ?_
  rintro r ⟨hh, rfl⟩
  refine ⟨_, _, _, rfl, ?_⟩
  repeat' (first | (apply br_intro <;> intro hb <;> (have hb2 := hb) <;> (try simp [-Int.not_le, -Int.not_lt, -Nat.not_le, -Nat.not_lt, -Nat.add_left_cancel_iff] at hb2)) | (refine draw_listA (by rfl) (by kernel_rfl) ?_) | (refine draw_listB (by simp [allocsOf, isAlloc]; rfl) (by kernel_rfl) ?_) | simp (maxSteps := 2000000) (disch := first | omega | assumption | simp [*]) [*, -Int.not_le, -Int.not_lt, -Nat.not_le, -Nat.not_lt, -Nat.add_left_cancel_iff, wrap_i64, wrap_u64])
  refine cf_open rfl rfl (l15Bent_o hB hl (g := 0) ⟨0, hh, by omega, by omega, by simp [hset, hnil]⟩ (by simp [farOff]) fun n ks km u v h1 hks hkm hp hc1 hf1 => ?_)
  obtain ⟨ss, ms, hBs, hBm, hls, hlm⟩ := hp
  simp only [farOff] at hks hkm hf1
  have ou := hBs.one
  have cu := hBs.cells
  have ov := hBm.one
  have cv := hBm.cells
  have lu := hBs.low
  have lv := hBm.low
  have f2 : h1 2 = some (.var 0 55 (.agg [.int .i64 0, .sl 0 .lit [], .sl 0 .lit []])) := by rw [hf1 2 (by omega) (by omega)]; simp [hset]
  have f3 : h1 3 = some (.var 0 53 (.agg [.int .i64 0, .int .i64 0])) := by rw [hf1 3 (by omega) (by omega)]; simp [hset]
  have f5 : h1 5 = none := by rw [hf1 5 (by omega) (by omega)]; simp [hset, hnil]
  have f6 : h1 6 = none := by rw [hf1 6 (by omega) (by omega)]; simp [hset, hnil]
  obtain ⟨N, hN6, hN⟩ : ∃ N : Nat, N ≤ 6 ∧ (if (if n < 6 then n else 6) < 0 then (0 : Int) else if n < 6 then n else 6) = N := by
    by_cases h6 : n < 6
    · rw [if_pos h6]
      by_cases h0 : n < 0
      · exact ⟨0, by omega, by rw [if_pos h0]; rfl⟩
      · exact ⟨n.toNat, by omega, by rw [if_neg h0]; omega⟩
    · rw [if_neg h6]
      exact ⟨6, by omega, by simp⟩
  clear hf1
  repeat' (first | (apply br_intro <;> intro hb <;> (have hb2 := hb) <;> (try simp [-Int.not_le, -Int.not_lt, -Nat.not_le, -Nat.not_lt, -Nat.add_left_cancel_iff] at hb2)) | (refine draw_listA (by rfl) (by kernel_rfl) ?_) | (refine draw_listB (by simp [allocsOf, isAlloc]; rfl) (by kernel_rfl) ?_) | simp (maxSteps := 2000000) (disch := first | omega | assumption | simp [*]) [*, -Int.not_le, -Int.not_lt, -Nat.not_le, -Nat.not_lt, -Nat.add_left_cancel_iff, wrap_i64, wrap_u64])
  refine cf_open rfl rfl (l9Make_o hB hl (by omega) (hc1.keep (hset_other _ _ (by omega))) (by simp [farOff]) fun a c h2 hc2 hf2 => ?_)
  simp only [farOff] at hf2
  have hf : ∀ y, y ≠ 8 → y ≠ 100004 → y ≠ 5 → h2 y = h1 y := fun y y1 y2 y3 => by rw [hf2 y y1 (by omega), hset_other _ _ y3]
  have g2 := (hf 2 (by omega) (by omega) (by omega)).trans f2
  have g3 := (hf 3 (by omega) (by omega) (by omega)).trans f3
  have g6 := (hf 6 (by omega) (by omega) (by omega)).trans f6
  have g5 : h2 5 = some (.var 0 55 (.agg [.int .i64 n, u, v])) := by rw [hf2 5 (by omega) (by omega)]; simp [hset, f5]
  have hBs2 := hBs.keep (hf ks (by omega) (by omega) (by omega))
  have hBm2 := hBm.keep (hf km (by omega) (by omega) (by omega))
  clear hf hf2 f2 f3 f5 f6 hN hBs hBm hc1
  repeat' (first | (apply br_intro <;> intro hb <;> (have hb2 := hb) <;> (try simp [-Int.not_le, -Int.not_lt, -Nat.not_le, -Nat.not_lt, -Nat.add_left_cancel_iff] at hb2)) | (refine draw_listA (by rfl) (by kernel_rfl) ?_) | (refine draw_listB (by simp [allocsOf, isAlloc]; rfl) (by kernel_rfl) ?_) | simp (maxSteps := 2000000) (disch := first | omega | assumption | simp [*]) [*, -Int.not_le, -Int.not_lt, -Nat.not_le, -Nat.not_lt, -Nat.add_left_cancel_iff, wrap_i64, wrap_u64, g2, g3, g5, g6])
  refine cf_open rfl rfl (l1Once_o hB hl (hc2.keep (hset_other _ _ (by omega))) fun c1 h3 hc3 hf3 => ?_)
  have i2 : h3 2 = _ := ((hf3 2 (by omega)).trans (hset_other _ _ (by omega))).trans g2
  have i3 : h3 3 = _ := ((hf3 3 (by omega)).trans (hset_other _ _ (by omega))).trans g3
  have i5 : h3 5 = _ := ((hf3 5 (by omega)).trans (hset_other _ _ (by omega))).trans g5
  have i6 : h3 6 = some (.var 0 53 (.agg [.int .i64 a, .int .i64 c])) := by rw [hf3 6 (by omega)]; simp [hset]
  have hBs3 := hBs2.keep (h' := h3) ((hf3 ks (by omega)).trans (hset_other _ _ (by omega)))
  have hBm3 := hBm2.keep (h' := h3) ((hf3 km (by omega)).trans (hset_other _ _ (by omega)))
  clear hf3 g2 g3 g5 g6 hBs2 hBm2 hc2
  have hend : ∀ (a c : Int) (h' : Heap), h' ks = h3 ks → h' km = h3 km → DrP (.tup [.agg [.int .i64 n, expo h' u, expo h' v], .agg [.int .i64 a, .int .i64 c]]) fun xs => ∃ a c : Int, xs = [.agg [.int .i64 a, .int .i64 c]] := fun a c h' e1 e2 =>
    drp_mk2 (hBs3.keep e1) (hBm3.keep e2) hls hlm (ys := [.agg [.int .i64 a, .int .i64 c]]) (by simp [noExs, noEx]) ⟨a, c, rfl⟩
  cases c1 with
  | false =>
    repeat' (first | (apply br_intro <;> intro hb <;> (have hb2 := hb) <;> (try simp [-Int.not_le, -Int.not_lt, -Nat.not_le, -Nat.not_lt, -Nat.add_left_cancel_iff] at hb2)) | simp (maxSteps := 2000000) (disch := first | omega | assumption | simp [*]) [*, -Int.not_le, -Int.not_lt, -Nat.not_le, -Nat.not_lt, -Nat.add_left_cancel_iff, wrap_i64, wrap_u64, i2, i3, i5, i6])
    refine draw_listK [6] [0, 1, 2, 0] (by kernel_rfl) (by kernel_rfl) (by kernel_rfl) (by kernel_rfl) ?_
    repeat' (first | (apply br_intro <;> intro hb <;> (have hb2 := hb) <;> (try simp [-Int.not_le, -Int.not_lt, -Nat.not_le, -Nat.not_lt, -Nat.add_left_cancel_iff] at hb2)) | simp (maxSteps := 2000000) (disch := first | omega | assumption | simp [*]) [*, -Int.not_le, -Int.not_lt, -Nat.not_le, -Nat.not_lt, -Nat.add_left_cancel_iff, wrap_i64, wrap_u64, i2, i3, i5, i6])
    refine ⟨kept1 (by simp [hset]), ?_⟩
    exact hend _ _ _ (by rw [hset_other _ _ (by omega), hset_other _ _ (by omega)]) (by rw [hset_other _ _ (by omega), hset_other _ _ (by omega)])
  | true =>
    repeat' (first | (apply br_intro <;> intro hb <;> (have hb2 := hb) <;> (try simp [-Int.not_le, -Int.not_lt, -Nat.not_le, -Nat.not_lt, -Nat.add_left_cancel_iff] at hb2)) | (refine draw_listA (by rfl) (by kernel_rfl) ?_) | (refine draw_listB (by simp [allocsOf, isAlloc]; rfl) (by kernel_rfl) ?_) | simp (maxSteps := 2000000) (disch := first | omega | assumption | simp [*]) [*, -Int.not_le, -Int.not_lt, -Nat.not_le, -Nat.not_lt, -Nat.add_left_cancel_iff, wrap_i64, wrap_u64, i2, i3, i5, i6])
    refine cf_open rfl rfl (l1Once_o hB hl (hc3.keep (hset_other _ _ (by omega))) fun c2 h4 hc4 hf4 => ?_)
    have j2 : h4 2 = _ := ((hf4 2 (by omega)).trans (hset_other _ _ (by omega))).trans i2
    have j3 : h4 3 = _ := ((hf4 3 (by omega)).trans (hset_other _ _ (by omega))).trans i3
    have j5 : h4 5 = _ := ((hf4 5 (by omega)).trans (hset_other _ _ (by omega))).trans i5
    have j6 : h4 6 = some (.var 0 53 (.agg [.int .i64 a, .int .i64 (Go.bits .and .i64 c a)])) := by rw [hf4 6 (by omega)]; simp [hset]
    have js : h4 ks = h3 ks := (hf4 ks (by omega)).trans (hset_other _ _ (by omega))
    have jm : h4 km = h3 km := (hf4 km (by omega)).trans (hset_other _ _ (by omega))
    clear hf4 i2 i3 i5 i6
    cases c2 with
    | false =>
      repeat' (first | (apply br_intro <;> intro hb <;> (have hb2 := hb) <;> (try simp [-Int.not_le, -Int.not_lt, -Nat.not_le, -Nat.not_lt, -Nat.add_left_cancel_iff] at hb2)) | simp (maxSteps := 2000000) (disch := first | omega | assumption | simp [*]) [*, -Int.not_le, -Int.not_lt, -Nat.not_le, -Nat.not_lt, -Nat.add_left_cancel_iff, wrap_i64, wrap_u64, j2, j3, j5, j6])
      refine draw_listK [6] [0, 1, 2, 0] (by kernel_rfl) (by kernel_rfl) (by kernel_rfl) (by kernel_rfl) ?_
      repeat' (first | (apply br_intro <;> intro hb <;> (have hb2 := hb) <;> (try simp [-Int.not_le, -Int.not_lt, -Nat.not_le, -Nat.not_lt, -Nat.add_left_cancel_iff] at hb2)) | simp (maxSteps := 2000000) (disch := first | omega | assumption | simp [*]) [*, -Int.not_le, -Int.not_lt, -Nat.not_le, -Nat.not_lt, -Nat.add_left_cancel_iff, wrap_i64, wrap_u64, j2, j3, j5, j6])
      refine ⟨kept1 (by simp [hset]), ?_⟩
      exact hend _ _ _ (by rw [hset_other _ _ (by omega), hset_other _ _ (by omega), js]) (by rw [hset_other _ _ (by omega), hset_other _ _ (by omega), jm])
    | true =>
      have hIs : IsI (bufC 0 ss) := isI_bufC (by unfold top63; omega)
      have hIm : IsI (bufC 0 ms) := isI_bufC (by unfold top63; omega)
      repeat' (first | (apply br_intro <;> intro hb <;> (have hb2 := hb) <;> (try simp [-Int.not_le, -Int.not_lt, -Nat.not_le, -Nat.not_lt, -Nat.add_left_cancel_iff] at hb2)) | simp (maxSteps := 2000000) (disch := first | omega | assumption | simp [*]) [*, -Int.not_le, -Int.not_lt, -Nat.not_le, -Nat.not_lt, -Nat.add_left_cancel_iff, wrap_i64, wrap_u64, j2, j3, j5, j6])
      refine draw_listK [6] [0, 1, 2, 0] (by kernel_rfl) (by kernel_rfl) (by kernel_rfl) (by kernel_rfl) ?_
      repeat' (first | (apply br_intro <;> intro hb <;> (have hb2 := hb) <;> (try simp [-Int.not_le, -Int.not_lt, -Nat.not_le, -Nat.not_lt, -Nat.add_left_cancel_iff] at hb2)) | simp (maxSteps := 2000000) (disch := first | omega | assumption | simp [*]) [*, -Int.not_le, -Int.not_lt, -Nat.not_le, -Nat.not_lt, -Nat.add_left_cancel_iff, wrap_i64, wrap_u64, j2, j3, j5, j6])
      refine ⟨kept1 (by simp [hset]), ?_⟩
      exact hend _ _ _ (by rw [hset_other _ _ (by omega), hset_other _ _ (by omega), hset_other _ _ (by omega), js]) (by rw [hset_other _ _ (by omega), hset_other _ _ (by omega), hset_other _ _ (by omega), jm])
theorem drawCompletionAt_t {b : AV} (hB : IsB b) (hbr : brwOf b = false) (hl : bLen b ≤ 1073741824) : CallsTo env 42 [b] (fun r => DrP r fun xs => ∃ k : Int, xs = [.int .i64 k] ∧ -1 ≤ k ∧ k < 18) := by
  refine callsTo_mk (F := Try.f42) rfl rfl (Nat.le_of_ble_eq_true rfl) ?_
  have hcb := isB_cells hB
  have hob := isB_one hB
  repeat' (first | (apply br_intro <;> intro hb <;> (have hb2 := hb) <;> (try simp [-Int.not_le, -Int.not_lt, -Nat.not_le, -Nat.not_lt, -Nat.add_left_cancel_iff] at hb2)) | (refine draw_listA (by rfl) (by kernel_rfl) ?_) | (refine draw_listB (by simp [allocsOf, isAlloc]; rfl) (by kernel_rfl) ?_) | simp (maxSteps := 2000000) (disch := first | omega | assumption | simp [*]) [*, -Int.not_le, -Int.not_lt, -Nat.not_le, -Nat.not_lt, -Nat.add_left_cancel_iff, wrap_i64, wrap_u64, Try.f42, isB_low hB])
  refine cf_xp (by simpa [isB_low hB] using l1New_t hB hbr hl) rfl ?_
  rintro r ⟨hh, rfl⟩
  refine ⟨_, _, _, rfl, ?_⟩
  repeat' (first | (apply br_intro <;> intro hb <;> (have hb2 := hb) <;> (try simp [-Int.not_le, -Int.not_lt, -Nat.not_le, -Nat.not_lt, -Nat.add_left_cancel_iff] at hb2)) | (refine draw_listA (by rfl) (by kernel_rfl) ?_) | (refine draw_listB (by simp [allocsOf, isAlloc]; rfl) (by kernel_rfl) ?_) | simp (maxSteps := 2000000) (disch := first | omega | assumption | simp [*]) [*, -Int.not_le, -Int.not_lt, -Nat.not_le, -Nat.not_lt, -Nat.add_left_cancel_iff, wrap_i64, wrap_u64])
  refine cf_open rfl rfl (l15Bent_o hB hl (g := 0) ⟨0, hh, by omega, by omega, by simp [hset, hnil]⟩ (by simp [farOff]) fun n ks km u v h1 hks hkm hp hc1 hf1 => ?_)
  obtain ⟨ss, ms, hBs, hBm, hls, hlm⟩ := hp
  simp only [farOff] at hks hkm hf1
  have ou := hBs.one
  have cu := hBs.cells
  have ov := hBm.one
  have cv := hBm.cells
  have f2 : h1 2 = some (.var 0 55 (.agg [.int .i64 0, .sl 0 .lit [], .sl 0 .lit []])) := by rw [hf1 2 (by omega) (by omega)]; simp [hset]
  have f5 : h1 5 = none := by rw [hf1 5 (by omega) (by omega)]; simp [hset, hnil]
  clear hf1
  repeat' (first | (apply br_intro <;> intro hb <;> (have hb2 := hb) <;> (try simp [-Int.not_le, -Int.not_lt, -Nat.not_le, -Nat.not_lt, -Nat.add_left_cancel_iff] at hb2)) | simp (maxSteps := 2000000) (disch := first | omega | assumption | simp [*]) [*, -Int.not_le, -Int.not_lt, -Nat.not_le, -Nat.not_lt, -Nat.add_left_cancel_iff, wrap_i64, wrap_u64])
  refine draw_listK [5] [1, 0, 2, 0, 0, 0] (by kernel_rfl) (by kernel_rfl) (by kernel_rfl) (by kernel_rfl) ?_
  repeat' (first | (apply br_intro <;> intro hb <;> (have hb2 := hb) <;> (try simp [-Int.not_le, -Int.not_lt, -Nat.not_le, -Nat.not_lt, -Nat.add_left_cancel_iff] at hb2)) | simp (maxSteps := 2000000) (disch := first | omega | assumption | simp [*]) [*, -Int.not_le, -Int.not_lt, -Nat.not_le, -Nat.not_lt, -Nat.add_left_cancel_iff, wrap_i64, wrap_u64, f2, f5])
  refine cf_open rfl rfl (l1Below_o hB hl (hc1.keep (hset_other _ _ (by omega))) fun x h2 hx _ hy hc2 hf2 => ?_)
  have hz := hy (by omega)
  refine ⟨kept1 (hf2 5 (by omega)), ?_⟩
  have g2 : h2 2 = _ := ((hf2 2 (by omega)).trans (hset_other _ _ (by omega))).trans f2
  have hBs2 := hBs.keep (h' := h2) ((hf2 ks (by omega)).trans (hset_other _ _ (by omega)))
  have hBm2 := hBm.keep (h' := h2) ((hf2 km (by omega)).trans (hset_other _ _ (by omega)))
  clear hf2 hy
  repeat' (first | (apply br_intro <;> intro hb <;> (have hb2 := hb) <;> (try simp [-Int.not_le, -Int.not_lt, -Nat.not_le, -Nat.not_lt, -Nat.add_left_cancel_iff] at hb2)) | simp (maxSteps := 2000000) (disch := first | omega | assumption | simp [*]) [*, -Int.not_le, -Int.not_lt, -Nat.not_le, -Nat.not_lt, -Nat.add_left_cancel_iff, wrap_i64, wrap_u64, g2])
  exact drp_mk2 (hBs2.keep (hset_other _ _ (by omega))) (hBm2.keep (hset_other _ _ (by omega))) hls hlm (ys := [.int .i64 (x - 1)]) (by simp [noExs, noEx]) ⟨_, rfl, by omega, by omega⟩
theorem drawCertainClosure_t {b : AV} (hB : IsB b) (hbr : brwOf b = false) (hl : bLen b ≤ 1073741824) : CallsTo env 45 [b] (fun r => DrP r fun xs => ∃ k : Int, xs = [.int .i64 k]) := by
  refine callsTo_mk (F := Try.f45) rfl rfl (Nat.le_of_ble_eq_true rfl) ?_
  have hcb := isB_cells hB
  have hob := isB_one hB
  repeat' (first | (apply br_intro <;> intro hb <;> (have hb2 := hb) <;> (try simp [-Int.not_le, -Int.not_lt, -Nat.not_le, -Nat.not_lt, -Nat.add_left_cancel_iff] at hb2)) | (refine draw_listA (by rfl) (by kernel_rfl) ?_) | (refine draw_listB (by simp [allocsOf, isAlloc]; rfl) (by kernel_rfl) ?_) | simp (maxSteps := 2000000) (disch := first | omega | assumption | simp [*]) [*, -Int.not_le, -Int.not_lt, -Nat.not_le, -Nat.not_lt, -Nat.add_left_cancel_iff, wrap_i64, wrap_u64, Try.f45, isB_low hB])
  refine cf_xp (by simpa [isB_low hB] using l1New_t hB hbr hl) rfl ?_
  rintro r ⟨hh, rfl⟩
  refine ⟨_, _, _, rfl, ?_⟩
  repeat' (first | (apply br_intro <;> intro hb <;> (have hb2 := hb) <;> (try simp [-Int.not_le, -Int.not_lt, -Nat.not_le, -Nat.not_lt, -Nat.add_left_cancel_iff] at hb2)) | (refine draw_listA (by rfl) (by kernel_rfl) ?_) | (refine draw_listB (by simp [allocsOf, isAlloc]; rfl) (by kernel_rfl) ?_) | simp (maxSteps := 2000000) (disch := first | omega | assumption | simp [*]) [*, -Int.not_le, -Int.not_lt, -Nat.not_le, -Nat.not_lt, -Nat.add_left_cancel_iff, wrap_i64, wrap_u64])
  refine cf_open rfl rfl (l15Bent_o hB hl (g := 0) ⟨0, hh, by omega, by omega, by simp [hset, hnil]⟩ (by simp [farOff]) fun n ks km u v h1 hks hkm hp hc1 hf1 => ?_)
  obtain ⟨ss, ms, hBs, hBm, hls, hlm⟩ := hp
  simp only [farOff] at hks hkm hf1
  have ou := hBs.one
  have cu := hBs.cells
  have ov := hBm.one
  have cv := hBm.cells
  have f2 : h1 2 = some (.var 0 55 (.agg [.int .i64 0, .sl 0 .lit [], .sl 0 .lit []])) := by rw [hf1 2 (by omega) (by omega)]; simp [hset]
  have f5 : h1 5 = none := by rw [hf1 5 (by omega) (by omega)]; simp [hset, hnil]
  clear hf1
  repeat' (first | (apply br_intro <;> intro hb <;> (have hb2 := hb) <;> (try simp [-Int.not_le, -Int.not_lt, -Nat.not_le, -Nat.not_lt, -Nat.add_left_cancel_iff] at hb2)) | simp (maxSteps := 2000000) (disch := first | omega | assumption | simp [*]) [*, -Int.not_le, -Int.not_lt, -Nat.not_le, -Nat.not_lt, -Nat.add_left_cancel_iff, wrap_i64, wrap_u64])
  refine draw_listK [5] [1, 0, 2, 0, 0] (by kernel_rfl) (by kernel_rfl) (by kernel_rfl) (by kernel_rfl) ?_
  repeat' (first | (apply br_intro <;> intro hb <;> (have hb2 := hb) <;> (try simp [-Int.not_le, -Int.not_lt, -Nat.not_le, -Nat.not_lt, -Nat.add_left_cancel_iff] at hb2)) | simp (maxSteps := 2000000) (disch := first | omega | assumption | simp [*]) [*, -Int.not_le, -Int.not_lt, -Nat.not_le, -Nat.not_lt, -Nat.add_left_cancel_iff, wrap_i64, wrap_u64, f2, f5])
  refine cf_open rfl rfl (l1Below_o hB hl (hc1.keep (hset_other _ _ (by omega))) fun x h2 hx _ hy hc2 hf2 => ?_)
  refine ⟨kept1 (hf2 5 (by omega)), ?_⟩
  have g2 : h2 2 = _ := ((hf2 2 (by omega)).trans (hset_other _ _ (by omega))).trans f2
  have hBs2 := hBs.keep (h' := h2) ((hf2 ks (by omega)).trans (hset_other _ _ (by omega)))
  have hBm2 := hBm.keep (h' := h2) ((hf2 km (by omega)).trans (hset_other _ _ (by omega)))
  clear hf2 hy
  repeat' (first | (apply br_intro <;> intro hb <;> (have hb2 := hb) <;> (try simp [-Int.not_le, -Int.not_lt, -Nat.not_le, -Nat.not_lt, -Nat.add_left_cancel_iff] at hb2)) | simp (maxSteps := 2000000) (disch := first | omega | assumption | simp [*]) [*, -Int.not_le, -Int.not_lt, -Nat.not_le, -Nat.not_lt, -Nat.add_left_cancel_iff, wrap_i64, wrap_u64, g2])
  exact drp_mk2 (hBs2.keep (hset_other _ _ (by omega))) (hBm2.keep (hset_other _ _ (by omega))) hls hlm (ys := [.int .i64 x]) (by simp [noExs, noEx]) ⟨_, rfl⟩
def IsCellQ (xs : List AV) : Prop := ∃ (g m : Int) (c : Bool), xs = [.int .i64 g, .int .i64 m, .bool c]
theorem drawDecideCell_t {b : AV} (hB : IsB b) (hbr : brwOf b = false) (hl : bLen b ≤ 1073741824) : CallsTo env 46 [b] (fun r => DrP r IsCellQ) := by
  refine callsTo_mk (F := Try.f46) rfl rfl (Nat.le_of_ble_eq_true rfl) ?_
  have hcb := isB_cells hB
  have hob := isB_one hB
  repeat' (first | (apply br_intro <;> intro hb <;> (have hb2 := hb) <;> (try simp [-Int.not_le, -Int.not_lt, -Nat.not_le, -Nat.not_lt, -Nat.add_left_cancel_iff] at hb2)) | (refine draw_listA (by rfl) (by kernel_rfl) ?_) | (refine draw_listB (by simp [allocsOf, isAlloc]; rfl) (by kernel_rfl) ?_) | simp (maxSteps := 2000000) (disch := first | omega | assumption | simp [*]) [*, -Int.not_le, -Int.not_lt, -Nat.not_le, -Nat.not_lt, -Nat.add_left_cancel_iff, wrap_i64, wrap_u64, Try.f46, isB_low hB])
  refine cf_xp (by simpa [isB_low hB] using l1New_t hB hbr hl) rfl ?_
  rintro r ⟨hh, rfl⟩
  refine ⟨_, _, _, rfl, ?_⟩
  repeat' (first | (apply br_intro <;> intro hb <;> (have hb2 := hb) <;> (try simp [-Int.not_le, -Int.not_lt, -Nat.not_le, -Nat.not_lt, -Nat.add_left_cancel_iff] at hb2)) | (refine draw_listA (by rfl) (by kernel_rfl) ?_) | (refine draw_listB (by simp [allocsOf, isAlloc]; rfl) (by kernel_rfl) ?_) | simp (maxSteps := 2000000) (disch := first | omega | assumption | simp [*]) [*, -Int.not_le, -Int.not_lt, -Nat.not_le, -Nat.not_lt, -Nat.add_left_cancel_iff, wrap_i64, wrap_u64])
  refine cf_open rfl rfl (l15Bent_o hB hl (g := 0) ⟨0, hh, by omega, by omega, by simp [hset, hnil]⟩ (by simp [farOff]) fun n ks km u v h1 hks hkm hp hc1 hf1 => ?_)
  obtain ⟨ss, ms, hBs, hBm, hls, hlm⟩ := hp
  simp only [farOff] at hks hkm hf1
  have ou := hBs.one
  have cu := hBs.cells
  have ov := hBm.one
  have cv := hBm.cells
  have f2 : h1 2 = some (.var 0 55 (.agg [.int .i64 0, .sl 0 .lit [], .sl 0 .lit []])) := by rw [hf1 2 (by omega) (by omega)]; simp [hset]
  have f7 : h1 7 = none := by rw [hf1 7 (by omega) (by omega)]; simp [hset, hnil]
  clear hf1
  repeat' (first | (apply br_intro <;> intro hb <;> (have hb2 := hb) <;> (try simp [-Int.not_le, -Int.not_lt, -Nat.not_le, -Nat.not_lt, -Nat.add_left_cancel_iff] at hb2)) | (refine draw_listA (by rfl) (by kernel_rfl) ?_) | (refine draw_listB (by simp [allocsOf, isAlloc]; rfl) (by kernel_rfl) ?_) | simp (maxSteps := 2000000) (disch := first | omega | assumption | simp [*]) [*, -Int.not_le, -Int.not_lt, -Nat.not_le, -Nat.not_lt, -Nat.add_left_cancel_iff, wrap_i64, wrap_u64])
  refine cf_open rfl rfl (l1Below_o hB hl (hc1.keep (hset_other _ _ (by omega))) fun x0 h2 hx0 _ hy0 hc2 hf2 => ?_)
  have hz0 := hy0 (by omega)
  have g2 : h2 2 = _ := ((hf2 2 (by omega)).trans (hset_other _ _ (by omega))).trans f2
  have g7 : h2 7 = some (.var 0 55 (.agg [.int .i64 n, u, v])) := by rw [hf2 7 (by omega)]; simp [hset, f7]
  have hBs2 := hBs.keep (h' := h2) ((hf2 ks (by omega)).trans (hset_other _ _ (by omega)))
  have hBm2 := hBm.keep (h' := h2) ((hf2 km (by omega)).trans (hset_other _ _ (by omega)))
  clear hf2 hy0 hBs hBm hc1 f2 f7
  repeat' (first | (apply br_intro <;> intro hb <;> (have hb2 := hb) <;> (try simp [-Int.not_le, -Int.not_lt, -Nat.not_le, -Nat.not_lt, -Nat.add_left_cancel_iff] at hb2)) | simp (maxSteps := 2000000) (disch := first | omega | assumption | simp [*]) [*, -Int.not_le, -Int.not_lt, -Nat.not_le, -Nat.not_lt, -Nat.add_left_cancel_iff, wrap_i64, wrap_u64])
  refine draw_listK [7] [1, 0, 0, 2, 0, 0, 2, 0, 0, 0, 0] (by kernel_rfl) (by kernel_rfl) (by kernel_rfl) (by kernel_rfl) ?_
  repeat' (first | (apply br_intro <;> intro hb <;> (have hb2 := hb) <;> (try simp [-Int.not_le, -Int.not_lt, -Nat.not_le, -Nat.not_lt, -Nat.add_left_cancel_iff] at hb2)) | simp (maxSteps := 2000000) (disch := first | omega | assumption | simp [*]) [*, -Int.not_le, -Int.not_lt, -Nat.not_le, -Nat.not_lt, -Nat.add_left_cancel_iff, wrap_i64, wrap_u64, g2, g7])
  refine cf_open rfl rfl (l1Below_o hB hl hc2 fun x h3 hx _ hy hc3 hf3 => ?_)
  have hz := hy (by omega)
  refine ⟨kept1 (hf3 7 (by omega)), ?_⟩
  have i2 := (hf3 2 (by omega)).trans g2
  have hBs3 := hBs2.keep (hf3 ks (by omega))
  have hBm3 := hBm2.keep (hf3 km (by omega))
  clear hf3 hy hBs2 hBm2 hc2
  repeat' (first | (apply br_intro <;> intro hb <;> (have hb2 := hb) <;> (try simp [-Int.not_le, -Int.not_lt, -Nat.not_le, -Nat.not_lt, -Nat.add_left_cancel_iff] at hb2)) | simp (maxSteps := 2000000) (disch := first | omega | assumption | simp [*]) [*, -Int.not_le, -Int.not_lt, -Nat.not_le, -Nat.not_lt, -Nat.add_left_cancel_iff, wrap_i64, wrap_u64, i2])
  refine cf_open rfl rfl (l1Once_o hB hl hc3 fun c h4 hc4 hf4 => ?_)
  refine ⟨kept1 (hf4 7 (by omega)), ?_⟩
  have j2 := (hf4 2 (by omega)).trans i2
  have hBs4 := hBs3.keep (hf4 ks (by omega))
  have hBm4 := hBm3.keep (hf4 km (by omega))
  clear hf4 hBs3 hBm3 hc3
  repeat' (first | (apply br_intro <;> intro hb <;> (have hb2 := hb) <;> (try simp [-Int.not_le, -Int.not_lt, -Nat.not_le, -Nat.not_lt, -Nat.add_left_cancel_iff] at hb2)) | simp (maxSteps := 2000000) (disch := first | omega | assumption | simp [*]) [*, -Int.not_le, -Int.not_lt, -Nat.not_le, -Nat.not_lt, -Nat.add_left_cancel_iff, wrap_i64, wrap_u64, j2])
  exact drp_mk2 (hBs4.keep (hset_other _ _ (by omega))) (hBm4.keep (hset_other _ _ (by omega))) hls hlm (ys := [.int .i64 (x0 - 1), .int .i64 (x - 1), .bool c]) (by simp [noExs, noEx]) ⟨_, _, _, rfl⟩
end Go.Proofs.Ytkkkgaapkibhkaa
