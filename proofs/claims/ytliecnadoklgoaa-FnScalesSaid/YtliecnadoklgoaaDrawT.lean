/- Drawn tables. Conditions: none. -/
import Derived.Test.YtliecnadoklgoaaDraw
import Derived.Test.YtliecnadoklgoaaScaleB
namespace Go.Proofs.Ytliecnadoklgoaa
open Ev
set_option linter.unusedVariables false
set_option linter.unusedSimpArgs false
set_option maxHeartbeats 8000000

theorem kept1' {d off : Nat} {h h' : Heap} (e : h' (off + d) = h (off + d)) : Kept [d] off h h' := fun x hx => by
  rw [List.mem_singleton] at hx; subst hx; exact e
theorem buf_index {h h' : Heap} {T key k0 : Nat} {v : AV} {xs : List Int} (hB : Buf h T key k0 v xs) {i : Nat} (hi : i < xs.length) : indexA env h' 22 v (.int .i64 i) = some (.cp false [.int .i64 (nth xs i)] 0) := by
  rcases hB with ⟨rfl, rfl⟩ | ⟨hx, g, rfl, hk⟩
  · simp at hi
  · have : (ints xs)[i]? = some (.int .i64 (nth xs i)) := by simp [ints, nth_eq hi, List.getElem?_eq_getElem hi]
    simp [indexA, env, this, AV.cells]
    rfl
theorem buf_low0 {h : Heap} {T key k0 : Nat} {v : AV} {xs : List Int} (hB : Buf h T key k0 v xs) : low0 v = bufC k0 xs ∧ stab v = true := by
  rcases hB with ⟨rfl, rfl⟩ | ⟨hx, g, rfl, hk⟩
  · exact ⟨rfl, rfl⟩
  · unfold bufC; rw [if_neg hx]; exact ⟨rfl, rfl⟩
theorem buf_noEx {h : Heap} {T key k0 : Nat} {v : AV} {xs : List Int} (hB : Buf h T key k0 v xs) (h' : Heap) : noEx (expo h' v) = bufC k0 xs := by
  rcases hB with ⟨rfl, rfl⟩ | ⟨hx, g, rfl, hk⟩
  · rfl
  · unfold bufC; rw [if_neg hx]
    simp only [expo]
    split
    · split <;> simp [noEx]
    · simp [noEx]
theorem bufL_noEx {h : Heap} {T key k0 sz : Nat} {v : AV} {es : List AV} (hB : BufL h T key k0 sz v es) (h' : Heap) : noEx (expo h' v) = bufLC k0 sz es := by
  rcases hB with ⟨rfl, rfl⟩ | ⟨hx, g, rfl, hk⟩
  · rfl
  · unfold bufLC; rw [if_neg hx]
    simp only [expo]
    split
    · split <;> simp [noEx]
    · simp [noEx]
/-- a drawn table -/
def TDr (x y : AV) : Prop := x.one = true ∧ x.cells = [x] ∧ y.one = true ∧ y.cells = [y] ∧ ∃ lv es, (∀ h', noEx (expo h' x) = bufC 0 lv) ∧ (∀ h', noEx (expo h' y) = bufLC 0 1 es) ∧ lv.length ≤ 5 ∧ es.length ≤ 7 ∧ ∀ e ∈ es, IsI e
theorem tdr_of {h h2 : Heap} {T T' k k' : Nat} {x y : AV} {lv : List Int} {es : List AV} (h1 : Buf h T k 0 x lv) (hy : BufL h2 T' k' 0 1 y es) (h3 : lv.length ≤ 5) (h4 : es.length ≤ 7) (h5 : ∀ e ∈ es, IsI e) : TDr x y :=
  ⟨h1.one, h1.cells, hy.one, hy.cells, lv, es, buf_noEx h1, bufL_noEx hy, h3, h4, h5⟩
def TSt (h0 h : Heap) (off key g : Nat) (b : AV) (g2 g3 n m : Nat) : Prop := ∃ x y lv es, h (off + 3) = some (.var g3 38 (.agg [x, y])) ∧ h (off + 2) = some (.var g2 38 (.agg [.sl 0 .lit [], .sl 0 .lit []])) ∧ Buf h 3 (off + 24) 0 x lv ∧ BufL h 22 (off + 53) 0 1 y es ∧
  lv.length = n ∧ es.length = m ∧ (∀ e ∈ es, IsI e) ∧ Cur h key g b ∧ ∀ z, z < off → z ≠ key → h z = h0 z
theorem l16Draw_o {key g : Nat} {b : AV} {h : Heap} {off : Nat} {K : AV → Heap → Prop} (hb : IsB b) (hl : bLen b ≤ 1073741824) (hc : Cur h key g b) (hk : key < off) (hK : ∀ (x y : AV) h', TDr x y → Cur h' key g b → (∀ z, z < off → z ≠ key → h' z = h z) → K (.agg [x, y]) h') : OpenTo env 62 [.vp key g 0] h off K := by
  refine openTo_of (F := Try.f62) rfl rfl (Nat.le_of_ble_eq_true rfl) ?_
  obtain ⟨g2, hg2⟩ : ∃ g2, nextG h (off + 2) = g2 := ⟨_, rfl⟩
  obtain ⟨g3, hg3⟩ : ∃ g3, nextG (hset h (off + 2) (.var g2 38 (.agg [.sl 0 .lit [], .sl 0 .lit []]))) (off + 3) = g3 := ⟨_, rfl⟩
  have hg2' := hg2
  have hg3' := hg3
  simp only [nextG, Blk.g] at hg2' hg3'
  repeat' (first | (apply brI <;> intro hb hb2 <;> (try simp [-Int.not_le, -Int.not_lt, -Nat.not_le, -Nat.not_lt, -Nat.add_left_cancel_iff] at hb2)) | (refine draw_listA (by rfl) (by kernel_rfl) ?_) | (refine draw_listB (by simp [allocsOf, isAlloc]; rfl) (by kernel_rfl) ?_) | simp (maxSteps := 2000000) (disch := first | omega | assumption | simp [*]) [*, -Int.not_le, -Int.not_lt, -Nat.not_le, -Nat.not_lt, -Nat.add_left_cancel_iff, wrap_i64, wrap_u64, Try.f62])
  refine cf_open rfl rfl (l1Below_o hb hl ((hc.keep (hset_other _ _ (by omega))).keep (hset_other _ _ (by omega))) fun N' h1 hN hN0 hN4 hc1 hf1 => ?_)
  obtain ⟨N, rfl⟩ : ∃ N : Nat, N' = N := ⟨N'.toNat, by omega⟩
  have hN4' : N < 4 := by have := hN4 (by omega); omega
  have hst : TSt h h1 off key g b g2 g3 0 0 := ⟨.sl 0 .lit [], .sl 0 .lit [], [], [], by rw [hf1 _ (by omega), ← hg3]; simp [hset, nextG], by rw [hf1 _ (by omega), ← hg2]; simp [hset, nextG], buf_nil .., bufL_nil .., rfl, rfl, by simp, hc1, fun y y1 y2 => by rw [hf1 y y2, hset_other _ _ (by omega), hset_other _ _ (by omega)]⟩
  clear hf1 hc1 hc hN hN0 hN4 hg2 hg3
  repeat' (first | (apply brI <;> intro hb hb2 <;> (try simp [-Int.not_le, -Int.not_lt, -Nat.not_le, -Nat.not_lt, -Nat.add_left_cancel_iff] at hb2)) | (refine draw_listA (by rfl) (by kernel_rfl) ?_) | (refine draw_listB (by simp [allocsOf, isAlloc]; rfl) (by kernel_rfl) ?_) | simp (maxSteps := 2000000) (disch := first | omega | assumption | simp [*]) [*, -Int.not_le, -Int.not_lt, -Nat.not_le, -Nat.not_lt, -Nat.add_left_cancel_iff, wrap_i64, wrap_u64])
  refine W_loopG N (fun k st h' => TSt h h' off key g b g2 g3 k 0 ∧ st 5 = .int .i64 k ∧ st 4 = .int .i64 N ∧ st 0 = .vp key g 0 ∧ st 3 = .vp (off + 3) g3 0 ∧ st 2 = .vp (off + 2) g2 0) ?_ ?_
  · simp_all
  clear hst hg2' hg3'
  rintro k st h2 hkn ⟨⟨x, y, lv, es, e3, e2, hX, hY, hxl, hyl, hes, hc2, hfr⟩, k5, k4, k0, k3, k2⟩
  have ox := hX.one
  have cx := hX.cells
  have oy := hY.one
  have cy := hY.cells
  by_cases hk2 : k < N
  · repeat' (first | (apply brI <;> intro hb hb2 <;> (try simp [-Int.not_le, -Int.not_lt, -Nat.not_le, -Nat.not_lt, -Nat.add_left_cancel_iff] at hb2)) | simp (maxSteps := 2000000) (disch := first | omega | assumption | simp [*]) [*, -Int.not_le, -Int.not_lt, -Nat.not_le, -Nat.not_lt, -Nat.add_left_cancel_iff, wrap_i64, wrap_u64, k5, k4, k0, k3, k2, e3])
    refine draw_listK [18, 3] [0, 1, 0, 2, 0, 0, 0, 0, 0] (by kernel_rfl) (by kernel_rfl) (by kernel_rfl) (by kernel_rfl) ?_
    repeat' (first | (apply brI <;> intro hb hb2 <;> (try simp [-Int.not_le, -Int.not_lt, -Nat.not_le, -Nat.not_lt, -Nat.add_left_cancel_iff] at hb2)) | simp (maxSteps := 2000000) (disch := first | omega | assumption | simp [*]) [*, -Int.not_le, -Int.not_lt, -Nat.not_le, -Nat.not_lt, -Nat.add_left_cancel_iff, wrap_i64, wrap_u64, k5, k4, k0, k3, k2, e3])
    refine cf_open rfl rfl (l1Below_o hb hl hc2 fun z h3 hz _ hz2 hc3 hf3 => ?_)
    have hz3 := hz2 (by omega)
    refine ⟨fun d hd9 => hf3 _ (by simp only [List.mem_cons, List.not_mem_nil, or_false] at hd9; omega), ?_⟩
    have d3 := (hf3 (off + 3) (by omega)).trans e3
    have d2 := (hf3 (off + 2) (by omega)).trans e2
    have hX3 := hX.keep (hf3 (off + 24) (by omega))
    have hY3 := hY.keep (hf3 (off + 53) (by omega))
    have hfr3 : ∀ z, z < off → z ≠ key → h3 z = h z := fun z z1 z2 => (hf3 z z2).trans (hfr z z1 z2)
    clear hf3 e3 e2 hX hY hfr hc2 hz2
    repeat' (first | (apply brI <;> intro hb hb2 <;> (try simp [-Int.not_le, -Int.not_lt, -Nat.not_le, -Nat.not_lt, -Nat.add_left_cancel_iff] at hb2)) | simp (maxSteps := 2000000) (disch := first | omega | assumption | simp [*]) [*, -Int.not_le, -Int.not_lt, -Nat.not_le, -Nat.not_lt, -Nat.add_left_cancel_iff, wrap_i64, wrap_u64, k5, k4, k0, k3, k2, d3])
    refine wa_push' hX3 (by simp) (by simp) (fun _ => rfl) (by omega) ?_
    intro x4 h4 hX4 hk4
    have ox4 := hX4.one
    have cx4 := hX4.cells
    have f3 := (hk4 (off + 3) (by omega)).trans d3
    have f2 := (hk4 (off + 2) (by omega)).trans d2
    have hY4 := hY3.keep (hk4 (off + 53) (by omega))
    have hc4 := hc3.keep (hk4 key (by omega))
    have hfr4 : ∀ z, z < off → z ≠ key → h4 z = h z := fun z z1 z2 => (hk4 z (by omega)).trans (hfr3 z z1 z2)
    clear hk4 d3 d2 hY3 hc3 hfr3 hX3
    repeat' (first | (apply brI <;> intro hb hb2 <;> (try simp [-Int.not_le, -Int.not_lt, -Nat.not_le, -Nat.not_lt, -Nat.add_left_cancel_iff] at hb2)) | simp (maxSteps := 2000000) (disch := first | omega | assumption | simp [*]) [*, -Int.not_le, -Int.not_lt, -Nat.not_le, -Nat.not_lt, -Nat.add_left_cancel_iff, wrap_i64, wrap_u64, k5, k4, k0, k3, k2, f3])
    exact ⟨x4, y, _, es, by simp [hset], by rw [hset_other _ _ (by omega)]; exact f2, hX4.keep (hset_other _ _ (by omega)), hY4.keep (hset_other _ _ (by omega)), by simp [hxl], hyl, hes, hc4.keep (hset_other _ _ (by omega)), fun z z1 z2 => by rw [hset_other _ _ (by omega)]; exact hfr4 z z1 z2⟩
  · obtain rfl : k = N := by omega
    have hst : TSt h h2 off key g b g2 g3 k 0 := ⟨x, y, lv, es, e3, e2, hX, hY, hxl, hyl, hes, hc2, hfr⟩
    clear e3 e2 hX hY hxl hyl hes hc2 hfr ox cx oy cy
    obtain ⟨_, _, _, _, _, _, _, _, _, _, _, hc2, _⟩ := id hst
    repeat' (first | (apply brI <;> intro hb hb2 <;> (try simp [-Int.not_le, -Int.not_lt, -Nat.not_le, -Nat.not_lt, -Nat.add_left_cancel_iff] at hb2)) | (refine draw_listA (by rfl) (by kernel_rfl) ?_) | (refine draw_listB (by simp [allocsOf, isAlloc]; rfl) (by kernel_rfl) ?_) | simp (maxSteps := 2000000) (disch := first | omega | assumption | simp [*]) [*, -Int.not_le, -Int.not_lt, -Nat.not_le, -Nat.not_lt, -Nat.add_left_cancel_iff, wrap_i64, wrap_u64, k5, k4, k0, k3, k2])
    refine cf_open rfl rfl (l1Below_o hb hl hc2 fun M' h3 hM hM0 hM6 hc3 hf3 => ?_)
    obtain ⟨M, rfl⟩ : ∃ M : Nat, M' = M := ⟨M'.toNat, by omega⟩
    have hM6' : M < 6 := by have := hM6 (by omega); omega
    have hst3 : TSt h h3 off key g b g2 g3 k 0 := by
      obtain ⟨x, y, lv, es, e3, e2, hX, hY, hxl, hyl, hes, _, hfr⟩ := hst
      exact ⟨x, y, lv, es, (hf3 _ (by omega)).trans e3, (hf3 _ (by omega)).trans e2, hX.keep (hf3 _ (by omega)), hY.keep (hf3 _ (by omega)), hxl, hyl, hes, hc3, fun z z1 z2 => (hf3 z z2).trans (hfr z z1 z2)⟩
    clear hst hf3 hc3 hc2 hM hM0 hM6
    repeat' (first | (apply brI <;> intro hb hb2 <;> (try simp [-Int.not_le, -Int.not_lt, -Nat.not_le, -Nat.not_lt, -Nat.add_left_cancel_iff] at hb2)) | (refine draw_listA (by rfl) (by kernel_rfl) ?_) | (refine draw_listB (by simp [allocsOf, isAlloc]; rfl) (by kernel_rfl) ?_) | simp (maxSteps := 2000000) (disch := first | omega | assumption | simp [*]) [*, -Int.not_le, -Int.not_lt, -Nat.not_le, -Nat.not_lt, -Nat.add_left_cancel_iff, wrap_i64, wrap_u64, k5, k4, k0, k3, k2])
    refine W_loopG M (fun m st h' => TSt h h' off key g b g2 g3 k m ∧ st 7 = .int .i64 m ∧ st 6 = .int .i64 M ∧ st 4 = .int .i64 k ∧ st 0 = .vp key g 0 ∧ st 3 = .vp (off + 3) g3 0 ∧ st 2 = .vp (off + 2) g2 0) ?_ ?_
    · simp_all
    clear hst3
    rintro m st4 h4 hm ⟨hst4, q7, q6, q4, q0, q3, q2⟩
    by_cases hm2 : m < M
    · repeat' (first | (apply brI <;> intro hb hb2 <;> (try simp [-Int.not_le, -Int.not_lt, -Nat.not_le, -Nat.not_lt, -Nat.add_left_cancel_iff] at hb2)) | (refine draw_listA (by rfl) (by kernel_rfl) ?_) | (refine draw_listB (by simp [allocsOf, isAlloc]; rfl) (by kernel_rfl) ?_) | simp (maxSteps := 2000000) (disch := first | omega | assumption | simp [*]) [*, -Int.not_le, -Int.not_lt, -Nat.not_le, -Nat.not_lt, -Nat.add_left_cancel_iff, wrap_i64, wrap_u64, q7, q6, q4, q0, q3, q2])
      refine W_loopG k (fun i st h' => TSt h h' off key g b g2 g3 k m ∧ (∃ xs, Buf h' 3 (off + 48) 1 (st 8) xs ∧ xs.length = i) ∧ st 9 = .int .i64 i ∧ st 7 = .int .i64 m ∧ st 6 = .int .i64 M ∧ st 4 = .int .i64 k ∧ st 0 = .vp key g 0 ∧ st 3 = .vp (off + 3) g3 0 ∧ st 2 = .vp (off + 2) g2 0) ?_ ?_
      · refine ⟨hst4, ⟨[], ?_, rfl⟩, by simp, by simp [q7], by simp [q6], by simp [q4], by simp [q0], by simp [q3], by simp [q2]⟩
        exact buf_nil ..
      clear hst4
      rintro i st5 h5 hi ⟨⟨x, y, lv, es, e3, e2, hX, hY, hxl, hyl, hes, hc5, hfr⟩, ⟨xs, hB, hBl⟩, r9, r7, r6, r4, r0, r3, r2⟩
      have ox := hX.one
      have cx := hX.cells
      have oy := hY.one
      have cy := hY.cells
      have ob := hB.one
      have cb := hB.cells
      by_cases hi2 : i < k
      · have hix := fun h' => buf_index (h' := h') hX (i := i) (by omega)
        repeat' (first | (apply brI <;> intro hb hb2 <;> (try simp [-Int.not_le, -Int.not_lt, -Nat.not_le, -Nat.not_lt, -Nat.add_left_cancel_iff] at hb2)) | (refine draw_listA (by rfl) (by kernel_rfl) ?_) | (refine draw_listB (by simp [allocsOf, isAlloc]; rfl) (by kernel_rfl) ?_) | simp (maxSteps := 2000000) (disch := first | omega | assumption | simp [*]) [*, -Int.not_le, -Int.not_lt, -Nat.not_le, -Nat.not_lt, -Nat.add_left_cancel_iff, wrap_i64, wrap_u64, r9, r7, r6, r4, r0, r3, r2, e3, hix])
        refine cf_open rfl rfl (l1Below_o hb hl hc5 fun z h6 hz _ _ hc6 hf6 => ?_)
        have d3 := (hf6 (off + 3) (by omega)).trans e3
        have d2 := (hf6 (off + 2) (by omega)).trans e2
        have hX6 := hX.keep (hf6 (off + 24) (by omega))
        have hY6 := hY.keep (hf6 (off + 53) (by omega))
        have hB6 := hB.keep (hf6 (off + 48) (by omega))
        have hfr6 : ∀ z, z < off → z ≠ key → h6 z = h z := fun z z1 z2 => (hf6 z z2).trans (hfr z z1 z2)
        clear hf6 e3 e2 hX hY hfr hc5 hB hix
        repeat' (first | (apply brI <;> intro hb hb2 <;> (try simp [-Int.not_le, -Int.not_lt, -Nat.not_le, -Nat.not_lt, -Nat.add_left_cancel_iff] at hb2)) | (refine draw_listA (by rfl) (by kernel_rfl) ?_) | (refine draw_listB (by simp [allocsOf, isAlloc]; rfl) (by kernel_rfl) ?_) | simp (maxSteps := 2000000) (disch := first | omega | assumption | simp [*]) [*, -Int.not_le, -Int.not_lt, -Nat.not_le, -Nat.not_lt, -Nat.add_left_cancel_iff, wrap_i64, wrap_u64, r9, r7, r6, r4, r0, r3, r2, d3])
        refine wa_push' hB6 (by simp) (by simp) (fun _ => rfl) (by omega) ?_
        intro w7 h7 hB7 hk7
        have f3 := (hk7 (off + 3) (by omega)).trans d3
        have f2 := (hk7 (off + 2) (by omega)).trans d2
        have hX7 := hX6.keep (hk7 (off + 24) (by omega))
        have hY7 := hY6.keep (hk7 (off + 53) (by omega))
        have hc7 := hc6.keep (hk7 key (by omega))
        have hfr7 : ∀ z, z < off → z ≠ key → h7 z = h z := fun z z1 z2 => (hk7 z (by omega)).trans (hfr6 z z1 z2)
        clear hk7 d3 d2 hX6 hY6 hc6 hfr6 hB6
        repeat' (first | (apply brI <;> intro hb hb2 <;> (try simp [-Int.not_le, -Int.not_lt, -Nat.not_le, -Nat.not_lt, -Nat.add_left_cancel_iff] at hb2)) | (refine draw_listA (by rfl) (by kernel_rfl) ?_) | (refine draw_listB (by simp [allocsOf, isAlloc]; rfl) (by kernel_rfl) ?_) | simp (maxSteps := 2000000) (disch := first | omega | assumption | simp [*]) [*, -Int.not_le, -Int.not_lt, -Nat.not_le, -Nat.not_lt, -Nat.add_left_cancel_iff, wrap_i64, wrap_u64, r9, r7, r6, r4, r0, r3, r2, f3])
        exact ⟨⟨x, y, lv, es, f3, f2, hX7, hY7, hxl, hyl, hes, hc7, hfr7⟩, _, hB7, by simp [hBl]⟩
      · obtain rfl : i = k := by omega
        obtain ⟨hb0, hbs⟩ := buf_low0 hB
        repeat' (first | (apply brI <;> intro hb hb2 <;> (try simp [-Int.not_le, -Int.not_lt, -Nat.not_le, -Nat.not_lt, -Nat.add_left_cancel_iff] at hb2)) | (refine draw_listA (by rfl) (by kernel_rfl) ?_) | (refine draw_listB (by simp [allocsOf, isAlloc]; rfl) (by kernel_rfl) ?_) | simp (maxSteps := 2000000) (disch := first | omega | assumption | simp [*]) [*, -Int.not_le, -Int.not_lt, -Nat.not_le, -Nat.not_lt, -Nat.add_left_cancel_iff, wrap_i64, wrap_u64, r9, r7, r6, r4, r0, r3, r2, e3, hb0, hbs])
        refine wa_pushL hY (by simp) (by simp) (by simp) ⟨by simp, by simp⟩ (fun _ => rfl) (by omega) ?_
        intro y6 h6 hY6 hk6
        have oy6 := hY6.one
        have cy6 := hY6.cells
        have f3 := (hk6 (off + 3) (by omega)).trans e3
        have f2 := (hk6 (off + 2) (by omega)).trans e2
        have hX6 := hX.keep (hk6 (off + 24) (by omega))
        have hc6 := hc5.keep (hk6 key (by omega))
        have hfr6 : ∀ z, z < off → z ≠ key → h6 z = h z := fun z z1 z2 => (hk6 z (by omega)).trans (hfr z z1 z2)
        clear hk6 e3 e2 hX hY hc5 hfr
        repeat' (first | (apply brI <;> intro hb hb2 <;> (try simp [-Int.not_le, -Int.not_lt, -Nat.not_le, -Nat.not_lt, -Nat.add_left_cancel_iff] at hb2)) | (refine draw_listA (by rfl) (by kernel_rfl) ?_) | (refine draw_listB (by simp [allocsOf, isAlloc]; rfl) (by kernel_rfl) ?_) | simp (maxSteps := 2000000) (disch := first | omega | assumption | simp [*]) [*, -Int.not_le, -Int.not_lt, -Nat.not_le, -Nat.not_lt, -Nat.add_left_cancel_iff, wrap_i64, wrap_u64, r9, r7, r6, r4, r0, r3, r2, f3])
        exact ⟨x, y6, lv, es ++ [bufC 1 xs], by simp [hset], by rw [hset_other _ _ (by omega)]; exact f2, hX6.keep (hset_other _ _ (by omega)), hY6.keep (hset_other _ _ (by omega)), hxl, by simp [hyl], fun e he => by
          rcases List.mem_append.mp he with he | he
          · exact hes e he
          · rw [List.mem_singleton] at he; rw [he]; exact isI_bufC (by unfold top63; omega), hc6.keep (hset_other _ _ (by omega)), fun z z1 z2 => by rw [hset_other _ _ (by omega)]; exact hfr6 z z1 z2⟩
    · obtain rfl : m = M := by omega
      obtain ⟨x, y, lv, es, e3, e2, hX, hY, hxl, hyl, hes, hc4, hfr⟩ := hst4
      repeat' (first | (apply brI <;> intro hb hb2 <;> (try simp [-Int.not_le, -Int.not_lt, -Nat.not_le, -Nat.not_lt, -Nat.add_left_cancel_iff] at hb2)) | (refine draw_listA (by rfl) (by kernel_rfl) ?_) | (refine draw_listB (by simp [allocsOf, isAlloc]; rfl) (by kernel_rfl) ?_) | simp (maxSteps := 2000000) (disch := first | omega | assumption | simp [*]) [*, -Int.not_le, -Int.not_lt, -Nat.not_le, -Nat.not_lt, -Nat.add_left_cancel_iff, wrap_i64, wrap_u64, q7, q6, q4, q0, q3, q2])
      refine cf_open rfl rfl (l1Below_o hb hl hc4 fun z h5 hz _ _ hc5 hf5 => ?_)
      have d3 := (hf5 (off + 3) (by omega)).trans e3
      have d2 := (hf5 (off + 2) (by omega)).trans e2
      have hX5 := hX.keep (hf5 (off + 24) (by omega))
      have hY5 := hY.keep (hf5 (off + 53) (by omega))
      have hfr5 : ∀ z, z < off → z ≠ key → h5 z = h z := fun z z1 z2 => (hf5 z z2).trans (hfr z z1 z2)
      have ox := hX5.one
      have cx := hX5.cells
      have oy := hY5.one
      have cy := hY5.cells
      clear hf5 e3 e2 hX hY hfr hc4
      by_cases hz0 : z = 0
      · subst hz0
        have hr : [0, 1, 2] = List.range 3 := rfl
        have hv : IsI (.sl 1 .lit [.int .i64 0, .int .i64 6, .int .i64 2]) := isI_lit1 (xs := [0, 6, 2]) (by decide)
        have hxs : xsOf (.sl 1 .lit [.int .i64 0, .int .i64 6, .int .i64 2]) = [0, 6, 2] := rfl
        repeat' (first | (apply brI <;> intro hb hb2 <;> (try simp [-Int.not_le, -Int.not_lt, -Nat.not_le, -Nat.not_lt, -Nat.add_left_cancel_iff] at hb2)) | simp (maxSteps := 2000000) (disch := first | omega | assumption | simp [*]) [*, -Int.not_le, -Int.not_lt, -Nat.not_le, -Nat.not_lt, -Nat.add_left_cancel_iff, wrap_i64, wrap_u64, q7, q6, q4, q0, q3, q2, d3])
        refine draw_listK [59, 3] [0, 1, 0, 0, 2, 0, 0, 0, 0] (by kernel_rfl) (by kernel_rfl) (by kernel_rfl) (by kernel_rfl) ?_
        repeat' (first | (apply brI <;> intro hb hb2 <;> (try simp [-Int.not_le, -Int.not_lt, -Nat.not_le, -Nat.not_lt, -Nat.add_left_cancel_iff] at hb2)) | simp (maxSteps := 2000000) (disch := first | omega | assumption | simp [*]) [*, -Int.not_le, -Int.not_lt, -Nat.not_le, -Nat.not_lt, -Nat.add_left_cancel_iff, wrap_i64, wrap_u64, q7, q6, q4, q0, q3, q2, d3])
        refine cf_open rfl rfl (l1PickInt_o hb hl hc5 hv (by rw [hxs]; decide) fun j h6 hj hc6 hf6 => ?_)
        rw [hxs]
        refine ⟨fun d hd9 => hf6 _ (by simp only [List.mem_cons, List.not_mem_nil, or_false] at hd9; omega), ?_⟩
        have f3 := (hf6 (off + 3) (by omega)).trans d3
        have f2 := (hf6 (off + 2) (by omega)).trans d2
        have hX6 := (hX5.keep (hf6 (off + 24) (by omega))).rekey (off + 65)
        have hY6 := hY5.keep (hf6 (off + 53) (by omega))
        have hfr6 : ∀ z, z < off → z ≠ key → h6 z = h z := fun z z1 z2 => (hf6 z z2).trans (hfr5 z z1 z2)
        clear hf6 hfr5 hX5 hY5 d3 d2 hv hr hxs hj
        generalize nth [0, 6, 2] j = pz
        repeat' (first | (apply brI <;> intro hb hb2 <;> (try simp [-Int.not_le, -Int.not_lt, -Nat.not_le, -Nat.not_lt, -Nat.add_left_cancel_iff] at hb2)) | simp (maxSteps := 2000000) (disch := first | omega | assumption | simp [*]) [*, -Int.not_le, -Int.not_lt, -Nat.not_le, -Nat.not_lt, -Nat.add_left_cancel_iff, wrap_i64, wrap_u64, q7, q6, q4, q0, q3, q2, f3])
        refine wa_push' hX6 (by simp) (by simp) (fun e => by simp [e]) (by omega) ?_
        intro x7 h7 hX7 hk7
        have ox7 := hX7.one
        have cx7 := hX7.cells
        have g3 := (hk7 (off + 3) (by split <;> omega)).trans f3
        have g2 := (hk7 (off + 2) (by split <;> omega)).trans f2
        have htd := tdr_of hX7 hY6 (by simp; omega) (by omega) hes
        have hend : ∀ h', (∀ z, z ≠ off + 2 → z ≠ off + 3 → h' z = h7 z) → K (.agg [x7, y]) h' := fun h' e => hK _ _ _ htd (hc6.keep ((e _ (by omega) (by omega)).trans (hk7 key (by split <;> omega)))) fun z z1 z2 => ((e _ (by omega) (by omega)).trans (hk7 z (by split <;> omega))).trans (hfr6 z z1 z2)
        clear htd hk7 hX7 hY6 hX6 hfr6 hK hc6
        repeat' (first | (apply brI <;> intro hb hb2 <;> (try simp [-Int.not_le, -Int.not_lt, -Nat.not_le, -Nat.not_lt, -Nat.add_left_cancel_iff] at hb2)) | simp (maxSteps := 2000000) (disch := first | omega | assumption | simp [*]) [*, -Int.not_le, -Int.not_lt, -Nat.not_le, -Nat.not_lt, -Nat.add_left_cancel_iff, wrap_i64, wrap_u64, q7, q6, q4, q0, q3, q2, g3, g2])
        exact hend _ fun z z1 z2 => by rw [hset_other _ _ z1, hset_other _ _ z2]
      · by_cases hz1 : z = 1
        · subst hz1
          repeat' (first | (apply brI <;> intro hb hb2 <;> (try simp [-Int.not_le, -Int.not_lt, -Nat.not_le, -Nat.not_lt, -Nat.add_left_cancel_iff] at hb2)) | simp (maxSteps := 2000000) (disch := first | omega | assumption | simp [*]) [*, -Int.not_le, -Int.not_lt, -Nat.not_le, -Nat.not_lt, -Nat.add_left_cancel_iff, wrap_i64, wrap_u64, q7, q6, q4, q0, q3, q2, d3])
          refine draw_listK [69, 3] [0, 1, 0, 2, 0, 0, 0, 0, 0] (by kernel_rfl) (by kernel_rfl) (by kernel_rfl) (by kernel_rfl) ?_
          repeat' (first | (apply brI <;> intro hb hb2 <;> (try simp [-Int.not_le, -Int.not_lt, -Nat.not_le, -Nat.not_lt, -Nat.add_left_cancel_iff] at hb2)) | simp (maxSteps := 2000000) (disch := first | omega | assumption | simp [*]) [*, -Int.not_le, -Int.not_lt, -Nat.not_le, -Nat.not_lt, -Nat.add_left_cancel_iff, wrap_i64, wrap_u64, q7, q6, q4, q0, q3, q2, d3])
          refine cf_open rfl rfl (l1Below_o hb hl hc5 fun pz h6 _ _ _ hc6 hf6 => ?_)
          refine ⟨fun d hd9 => hf6 _ (by simp only [List.mem_cons, List.not_mem_nil, or_false] at hd9; omega), ?_⟩
          have f3 := (hf6 (off + 3) (by omega)).trans d3
          have f2 := (hf6 (off + 2) (by omega)).trans d2
          have hX6 := hX5.keep (hf6 (off + 24) (by omega))
          have hY6 := bufL_rekey' (hY5.keep (hf6 (off + 53) (by omega))) (off + 75)
          have hfr6 : ∀ z, z < off → z ≠ key → h6 z = h z := fun z z1 z2 => (hf6 z z2).trans (hfr5 z z1 z2)
          clear hf6 hfr5 hX5 hY5 d3 d2
          repeat' (first | (apply brI <;> intro hb hb2 <;> (try simp [-Int.not_le, -Int.not_lt, -Nat.not_le, -Nat.not_lt, -Nat.add_left_cancel_iff] at hb2)) | simp (maxSteps := 2000000) (disch := first | omega | assumption | simp [*]) [*, -Int.not_le, -Int.not_lt, -Nat.not_le, -Nat.not_lt, -Nat.add_left_cancel_iff, wrap_i64, wrap_u64, q7, q6, q4, q0, q3, q2, f3])
          refine wa_pushL hY6 (by simp) (by simp) (by simp) ⟨by simp, by simp⟩ (fun e => by simp [e]) (by omega) ?_
          intro y7 h7 hY7 hk7
          have oy7 := hY7.one
          have cy7 := hY7.cells
          have g3 := (hk7 (off + 3) (by split <;> omega)).trans f3
          have g2 := (hk7 (off + 2) (by split <;> omega)).trans f2
          have htd := tdr_of hX6 hY7 (by omega) (by simp; omega) fun e he => by
            rcases List.mem_append.mp he with he | he
            · exact hes e he
            · rw [List.mem_singleton] at he; rw [he]; exact isI_lit1 (xs := [pz]) (by unfold top63; simp)
          have hend : ∀ h', (∀ z, z ≠ off + 2 → z ≠ off + 3 → h' z = h7 z) → K (.agg [x, y7]) h' := fun h' e => hK _ _ _ htd (hc6.keep ((e _ (by omega) (by omega)).trans (hk7 key (by split <;> omega)))) fun z z1 z2 => ((e _ (by omega) (by omega)).trans (hk7 z (by split <;> omega))).trans (hfr6 z z1 z2)
          clear htd hk7 hX6 hY7 hY6 hfr6 hK hc6
          repeat' (first | (apply brI <;> intro hb hb2 <;> (try simp [-Int.not_le, -Int.not_lt, -Nat.not_le, -Nat.not_lt, -Nat.add_left_cancel_iff] at hb2)) | simp (maxSteps := 2000000) (disch := first | omega | assumption | simp [*]) [*, -Int.not_le, -Int.not_lt, -Nat.not_le, -Nat.not_lt, -Nat.add_left_cancel_iff, wrap_i64, wrap_u64, q7, q6, q4, q0, q3, q2, g3, g2])
          exact hend _ fun z z1 z2 => by rw [hset_other _ _ z1, hset_other _ _ z2]
        · have htd := tdr_of hX5 hY5 (by omega) (by omega) hes
          have hend : ∀ h', (∀ z, z ≠ off + 2 → h' z = h5 z) → K (.agg [x, y]) h' := fun h' e => hK _ _ _ htd (hc5.keep (e _ (by omega))) fun z z1 z2 => (e _ (by omega)).trans (hfr5 z z1 z2)
          clear htd hX5 hY5 hfr5 hK hc5
          repeat' (first | (apply brI <;> intro hb hb2 <;> (try simp [-Int.not_le, -Int.not_lt, -Nat.not_le, -Nat.not_lt, -Nat.add_left_cancel_iff] at hb2)) | simp (maxSteps := 2000000) (disch := first | omega | assumption | simp [*]) [*, -Int.not_le, -Int.not_lt, -Nat.not_le, -Nat.not_lt, -Nat.add_left_cancel_iff, wrap_i64, wrap_u64, q7, q6, q4, q0, q3, q2, d3, d2])
          exact hend _ fun z z1 => by rw [hset_other _ _ z1]
theorem rows_LL {es : List AV} (he : ∀ e ∈ es, IsI e) (hl : es.length ≤ 7) : IsLL (bufLC 0 1 es) ∧ (xssOf (bufLC 0 1 es)).length = es.length := by
  have h1 : esOf (bufLC 0 1 es) = es := by unfold bufLC; split <;> simp [*]
  refine ⟨⟨?_, fun n hn => ?_⟩, by simp [xssOf, h1]⟩
  · refine ⟨by rw [h1]; unfold top63; omega, ?_, fun e h9 => ?_⟩
    · unfold bufLC
      split
      · exact ⟨0, .lit, [], rfl, .inl rfl, rfl⟩
      · exact ⟨1, .no, es, rfl, .inr rfl, rfl⟩
    · rw [h1] at h9
      have h := he e h9
      rw [isI_cells h]
      simp [isI_one h]
  · have hn2 : n < es.length := by simpa [xssOf, h1] using hn
    unfold rowOf
    rw [h1, List.getD_eq_getElem?_getD, List.getElem?_eq_getElem hn2, Option.getD_some]
    exact he _ (List.getElem_mem hn2)
/-- a table that was drawn, handed on -/
def DrTb (r : AV) : Prop := ∃ (u v : AV), noEx r = .agg [u, v] ∧ IsI u ∧ IsLL v ∧ (xsOf u).length ≤ 5 ∧ (xssOf v).length ≤ 7
def DrTq (r : AV) : Prop := ∃ (u v : AV) (a b : Int), noEx r = .tup [.agg [u, v], .int .i64 a, .int .i64 b] ∧ IsI u ∧ IsLL v ∧ (xsOf u).length ≤ 5 ∧ (xssOf v).length ≤ 7
theorem drawNominal_t {b : AV} (hB : IsB b) (hbr : brwOf b = false) (hl : bLen b ≤ 1073741824) : CallsTo env 29 [b] (fun r => DrTb r) := by
  refine callsTo_mk (F := Try.f29) rfl rfl (Nat.le_of_ble_eq_true rfl) ?_
  have hcb := isB_cells hB
  have hob := isB_one hB
  repeat' (first | (apply brI <;> intro hb hb2 <;> (try simp [-Int.not_le, -Int.not_lt, -Nat.not_le, -Nat.not_lt, -Nat.add_left_cancel_iff] at hb2)) | (refine draw_listA (by rfl) (by kernel_rfl) ?_) | (refine draw_listB (by simp [allocsOf, isAlloc]; rfl) (by kernel_rfl) ?_) | simp (maxSteps := 2000000) (disch := first | omega | assumption | simp [*]) [*, -Int.not_le, -Int.not_lt, -Nat.not_le, -Nat.not_lt, -Nat.add_left_cancel_iff, wrap_i64, wrap_u64, Try.f29, isB_low hB])
  refine cf_xp (by simpa [isB_low hB] using l1New_t hB hbr hl) rfl ?_
  rintro r ⟨hh, rfl⟩
  refine ⟨_, _, _, rfl, ?_⟩
  repeat' (first | (apply brI <;> intro hb hb2 <;> (try simp [-Int.not_le, -Int.not_lt, -Nat.not_le, -Nat.not_lt, -Nat.add_left_cancel_iff] at hb2)) | (refine draw_listA (by rfl) (by kernel_rfl) ?_) | (refine draw_listB (by simp [allocsOf, isAlloc]; rfl) (by kernel_rfl) ?_) | simp (maxSteps := 2000000) (disch := first | omega | assumption | simp [*]) [*, -Int.not_le, -Int.not_lt, -Nat.not_le, -Nat.not_lt, -Nat.add_left_cancel_iff, wrap_i64, wrap_u64])
  refine cf_open rfl rfl (l16Draw_o hB hl (g := 0) ⟨0, hh, by omega, by omega, by simp [hset, hnil]⟩ (by simp [farOff]) fun x y h1 ⟨ox, cx, oy, cy, lv, es, ex, ey, l1, l2, he⟩ hc1 hf1 => ?_)
  have f2 : h1 2 = some (.var 0 38 (.agg [.sl 0 .lit [], .sl 0 .lit []])) := by rw [hf1 2 (by simp [farOff]) (by omega)]; simp [hset]
  obtain ⟨hLL, hLl⟩ := rows_LL he l2
  clear hf1
  repeat' (first | (apply brI <;> intro hb hb2 <;> (try simp [-Int.not_le, -Int.not_lt, -Nat.not_le, -Nat.not_lt, -Nat.add_left_cancel_iff] at hb2)) | (refine draw_listA (by rfl) (by kernel_rfl) ?_) | (refine draw_listB (by simp [allocsOf, isAlloc]; rfl) (by kernel_rfl) ?_) | simp (maxSteps := 2000000) (disch := first | omega | assumption | simp [*]) [*, -Int.not_le, -Int.not_lt, -Nat.not_le, -Nat.not_lt, -Nat.add_left_cancel_iff, wrap_i64, wrap_u64, f2])
  exact ⟨bufC 0 lv, bufLC 0 1 es, by simp [noEx, noExs, ex, ey], isI_bufC (by unfold top63; omega), hLL, by simpa using l1, by omega⟩
theorem drawFunctional_t {b : AV} (hB : IsB b) (hbr : brwOf b = false) (hl : bLen b ≤ 1073741824) : CallsTo env 30 [b] (fun r => DrTq r) := by
  refine callsTo_mk (F := Try.f30) rfl rfl (Nat.le_of_ble_eq_true rfl) ?_
  have hcb := isB_cells hB
  have hob := isB_one hB
  repeat' (first | (apply brI <;> intro hb hb2 <;> (try simp [-Int.not_le, -Int.not_lt, -Nat.not_le, -Nat.not_lt, -Nat.add_left_cancel_iff] at hb2)) | (refine draw_listA (by rfl) (by kernel_rfl) ?_) | (refine draw_listB (by simp [allocsOf, isAlloc]; rfl) (by kernel_rfl) ?_) | simp (maxSteps := 2000000) (disch := first | omega | assumption | simp [*]) [*, -Int.not_le, -Int.not_lt, -Nat.not_le, -Nat.not_lt, -Nat.add_left_cancel_iff, wrap_i64, wrap_u64, Try.f30, isB_low hB])
  refine cf_xp (by simpa [isB_low hB] using l1New_t hB hbr hl) rfl ?_
  rintro r ⟨hh, rfl⟩
  refine ⟨_, _, _, rfl, ?_⟩
  repeat' (first | (apply brI <;> intro hb hb2 <;> (try simp [-Int.not_le, -Int.not_lt, -Nat.not_le, -Nat.not_lt, -Nat.add_left_cancel_iff] at hb2)) | (refine draw_listA (by rfl) (by kernel_rfl) ?_) | (refine draw_listB (by simp [allocsOf, isAlloc]; rfl) (by kernel_rfl) ?_) | simp (maxSteps := 2000000) (disch := first | omega | assumption | simp [*]) [*, -Int.not_le, -Int.not_lt, -Nat.not_le, -Nat.not_lt, -Nat.add_left_cancel_iff, wrap_i64, wrap_u64])
  refine cf_open rfl rfl (l16Draw_o hB hl (g := 0) ⟨0, hh, by omega, by omega, by simp [hset, hnil]⟩ (by simp [farOff]) fun x y h1 ⟨ox, cx, oy, cy, lv, es, ex, ey, l1, l2, he⟩ hc1 hf1 => ?_)
  have f2 : h1 2 = some (.var 0 38 (.agg [.sl 0 .lit [], .sl 0 .lit []])) := by rw [hf1 2 (by simp [farOff]) (by omega)]; simp [hset]
  have f6 : h1 6 = none := by rw [hf1 6 (by simp [farOff]) (by omega)]; simp [hset, hnil]
  obtain ⟨hLL, hLl⟩ := rows_LL he l2
  clear hf1
  repeat' (first | (apply brI <;> intro hb hb2 <;> (try simp [-Int.not_le, -Int.not_lt, -Nat.not_le, -Nat.not_lt, -Nat.add_left_cancel_iff] at hb2)) | simp (maxSteps := 2000000) (disch := first | omega | assumption | simp [*]) [*, -Int.not_le, -Int.not_lt, -Nat.not_le, -Nat.not_lt, -Nat.add_left_cancel_iff, wrap_i64, wrap_u64, f2, f6])
  refine cf_open rfl rfl (l1Below_o hB hl (hc1.keep (hset_other _ _ (by omega))) fun a h2 ha _ _ hc2 hf2 => ?_)
  have g2 := ((hf2 2 (by omega)).trans (hset_other _ _ (by omega))).trans f2
  have g6 : h2 6 = some (.var 0 38 (.agg [x, y])) := by rw [hf2 6 (by omega)]; simp [hset, f6, nextG]
  clear hf2 hc1 f2 f6
  repeat' (first | (apply brI <;> intro hb hb2 <;> (try simp [-Int.not_le, -Int.not_lt, -Nat.not_le, -Nat.not_lt, -Nat.add_left_cancel_iff] at hb2)) | simp (maxSteps := 2000000) (disch := first | omega | assumption | simp [*]) [*, -Int.not_le, -Int.not_lt, -Nat.not_le, -Nat.not_lt, -Nat.add_left_cancel_iff, wrap_i64, wrap_u64, g2, g6])
  refine draw_listK [6] [1, 0, 0, 2, 0, 0, 0] (by kernel_rfl) (by kernel_rfl) (by kernel_rfl) (by kernel_rfl) ?_
  repeat' (first | (apply brI <;> intro hb hb2 <;> (try simp [-Int.not_le, -Int.not_lt, -Nat.not_le, -Nat.not_lt, -Nat.add_left_cancel_iff] at hb2)) | simp (maxSteps := 2000000) (disch := first | omega | assumption | simp [*]) [*, -Int.not_le, -Int.not_lt, -Nat.not_le, -Nat.not_lt, -Nat.add_left_cancel_iff, wrap_i64, wrap_u64, g2, g6])
  refine cf_open rfl rfl (l1Below_o hB hl hc2 fun c h3 hcc _ _ hc3 hf3 => ?_)
  refine ⟨kept1' (hf3 6 (by omega)), ?_⟩
  have i2 := (hf3 2 (by omega)).trans g2
  clear hf3 hc2 g2 g6
  repeat' (first | (apply brI <;> intro hb hb2 <;> (try simp [-Int.not_le, -Int.not_lt, -Nat.not_le, -Nat.not_lt, -Nat.add_left_cancel_iff] at hb2)) | simp (maxSteps := 2000000) (disch := first | omega | assumption | simp [*]) [*, -Int.not_le, -Int.not_lt, -Nat.not_le, -Nat.not_lt, -Nat.add_left_cancel_iff, wrap_i64, wrap_u64, i2])
  exact ⟨bufC 0 lv, bufLC 0 1 es, a, c, by simp [noEx, noExs, ex, ey], isI_bufC (by unfold top63; omega), hLL, by simpa using l1, by omega⟩
end Go.Proofs.Ytliecnadoklgoaa
