/- What is drawn for the law of sums. Conditions: none. -/
import Derived.Test.YtliecnadoklgoaaDoorDrawC
namespace Go.Proofs.YtliecnadoklgoaaDoor
open Ev
set_option linter.unusedVariables false
set_option linter.unusedSimpArgs false
set_option maxHeartbeats 4000000

/-- a row that grew, perhaps stale -/
def TokV (v : AV) (xs : List Int) : Prop := (v = .sl 0 .lit [] ∧ xs = []) ∨ (xs ≠ [] ∧ ∃ k g, v = .sl 1 (.tok k g) (ints xs)) ∨ v = .sl 1 .no (ints xs)
theorem buf_tokV {h : Heap} {T key : Nat} {v : AV} {xs : List Int} (hB : Buf h T key 0 v xs) : TokV v xs := by
  rcases hB with ⟨rfl, rfl⟩ | ⟨hx, g, rfl, _⟩
  · exact .inl ⟨rfl, rfl⟩
  · exact .inr (.inl ⟨hx, _, _, rfl⟩)
def RowV (xs : List Int) (w : AV) : Prop := IsI w ∧ xsOf w = xs ∧ stab w = true
theorem TokV.res {v : AV} {xs : List Int} (hv : TokV v xs) (hl : xs.length ≤ top63) (h : Heap) : RowV xs (noEx (expo h v)) := by
  have fin : IsI (AV.sl 1 .no (ints xs)) ∧ xsOf (AV.sl 1 .no (ints xs)) = xs ∧ stab (AV.sl 1 .no (ints xs)) = true := ⟨isI_no hl, by simp, rfl⟩
  rcases hv with ⟨rfl, rfl⟩ | ⟨hx, k, g, rfl⟩ | rfl
  · have e : noEx (expo h (.sl 0 .lit [])) = bufC 0 [] := by simp [expo, noEx, bufC]
    rw [e]
    exact ⟨isI_bufC (by simp [top63]), by simp, rfl⟩
  · have e : noEx (expo h (.sl 1 (.tok k g) (ints xs))) = .sl 1 .no (ints xs) := by
      simp only [expo]
      split
      · split <;> simp [noEx]
      · simp [noEx]
    rw [e]; exact fin
  · have e : noEx (expo h (.sl 1 .no (ints xs))) = .sl 1 .no (ints xs) := by simp [expo, noEx]
    rw [e]; exact fin
theorem TokV.all {v : AV} {xs : List Int} (hv : TokV v xs) : v.one = true ∧ v.cells = [v] ∧ ∀ (E : Env) (t : Nat), slT E t = true → lenV E t v = some (.int .i64 xs.length) := by
  rcases hv with ⟨rfl, rfl⟩ | ⟨hx, k, g, rfl⟩ | rfl
  · exact ⟨rfl, rfl, fun E t ht => by simp only [lenV, slT_ty ht, List.length_nil]⟩
  · exact ⟨rfl, rfl, fun E t ht => by simp only [lenV, slT_ty ht, ints, List.length_map]⟩
  · exact ⟨rfl, rfl, fun E t ht => by simp only [lenV, slT_ty ht, ints, List.length_map]⟩
theorem slice_to {E : Env} {h : Heap} {t k : Nat} {v : AV} {xs : List Int} (hv : TokV v xs) (ht : slT E t = true) (hs : E.size (elT E t) = 1) (hk : k ≤ xs.length) : ∃ u, sliceV E h t v none (some (.int .i64 k)) none = some u ∧ TokV u (xs.take k) := by
  have hz : ¬ E.size (elT E t) = 0 := by rw [hs]; decide
  have h0 : (0 : Int) ≤ (k : Int) := by omega
  rcases hv with ⟨rfl, rfl⟩ | ⟨hx, k2, g, rfl⟩ | rfl
  · have hk0 : k = 0 := by simpa using hk
    subst hk0
    refine ⟨.sl 0 .lit [], ?_, .inl ⟨rfl, rfl⟩⟩
    simp only [sliceV, slT_ty ht, if_neg hz, boundV, Option.bind_some, if_pos h0]
    rfl
  · by_cases he : k = xs.length
    · subst he
      refine ⟨.sl 1 (.tok k2 g) (ints xs), ?_, .inr (.inl ⟨by simpa using hx, k2, g, by simp⟩)⟩
      simp only [sliceV, slT_ty ht, if_neg hz, boundV, Option.bind_some, if_pos h0, Int.toNat_natCast]
      rw [if_pos ⟨Nat.zero_le _, by simp, by trivial, .inr hs.symm⟩]
      simp [List.take_of_length_le]
    · refine ⟨.sl 1 .no (ints (xs.take k)), ?_, .inr (.inr rfl)⟩
      simp only [sliceV, slT_ty ht, if_neg hz, boundV, Option.bind_some, if_pos h0, Int.toNat_natCast]
      rw [if_pos ⟨Nat.zero_le _, by simpa using hk, by trivial, .inr hs.symm⟩]
      simp [he, ints, List.map_take]
  · refine ⟨.sl 1 .no (ints (xs.take k)), ?_, .inr (.inr rfl)⟩
    simp only [sliceV, slT_ty ht, if_neg hz, boundV, Option.bind_some, if_pos h0, Int.toNat_natCast]
    rw [if_pos ⟨Nat.zero_le _, by simpa using hk, by trivial, .inr hs.symm⟩]
    simp [ints, List.map_take]
def TwoC (r : AV) : Prop := ∃ (n m : Int) (v w : AV) (xs ys : List Int), noEx r = .tup [.agg [.int .i64 n, v], .agg [.int .i64 m, w]] ∧ RowV xs v ∧ RowV ys w ∧ xs.length ≤ 9 ∧ ys.length ≤ 9
theorem twoC_mk {n m : Int} {u v : AV} {h : Heap} {xs ys : List Int} (hu : TokV u xs) (hv : TokV v ys) (h1 : xs.length ≤ 9) (h2 : ys.length ≤ 9) : TwoC (.tup [.agg [.int .i64 n, expo h u], .agg [.int .i64 m, expo h v]]) :=
  ⟨n, m, _, _, xs, ys, by simp [noEx, noExs], hu.res (by unfold top63; omega) h, hv.res (by unfold top63; omega) h, h1, h2⟩
def LoSt (h : Heap) (N2 : Int) (k : Nat) : Prop := ∃ (rk : Nat) (v' : AV) (zs : List Int), 6 < rk ∧ h 6 = some (.var 0 26 (.agg [.int .i64 N2, v'])) ∧ Buf h 3 rk 0 v' zs ∧ zs.length ≤ k ∧ k ≤ zs.length
theorem l18Two_t {b : AV} (hB : IsB b) (hbr : brwOf b = false) (hl : bLen b ≤ 1073741824) : CallsTo env 21 [b] (fun r => TwoC r) := by
  refine callsTo_mk (F := Tryd.f21) rfl rfl (Nat.le_of_ble_eq_true rfl) ?_
  have hcb := isB_cells hB
  have hob := isB_one hB
  repeat' (first | (apply brI <;> intro hb hb2 <;> (try simp [-Int.not_le, -Int.not_lt, -Nat.not_le, -Nat.not_lt, -Nat.add_left_cancel_iff] at hb2)) | (refine draw_listA (by rfl) (by kernel_rfl) ?_) | (refine draw_listB (by simp [allocsOf, isAlloc]; rfl) (by kernel_rfl) ?_) | simp (maxSteps := 2000000) (disch := first | omega | assumption | simp [*]) [*, -Int.not_le, -Int.not_lt, -Nat.not_le, -Nat.not_lt, -Nat.add_left_cancel_iff, wrap_i64, wrap_u64, Tryd.f21, isB_low hB])
  refine cf_xp (by simpa [isB_low hB] using l1New_t hB hbr hl) rfl ?_
  rintro r ⟨hh, rfl⟩
  refine ⟨_, _, _, rfl, ?_⟩
  repeat' (first | (apply brI <;> intro hb hb2 <;> (try simp [-Int.not_le, -Int.not_lt, -Nat.not_le, -Nat.not_lt, -Nat.add_left_cancel_iff] at hb2)) | (refine draw_listA (by rfl) (by kernel_rfl) ?_) | (refine draw_listB (by simp [allocsOf, isAlloc]; rfl) (by kernel_rfl) ?_) | simp (maxSteps := 2000000) (disch := first | omega | assumption | simp [*]) [*, -Int.not_le, -Int.not_lt, -Nat.not_le, -Nat.not_lt, -Nat.add_left_cancel_iff, wrap_i64, wrap_u64])
  refine cf_open rfl rfl (l1Below_o hB hl (g := 0) ⟨0, hh, by omega, by omega, by simp [hset, hnil]⟩ fun x1 h1 hx1 _ hy1 hc1 hf1 => ?_)
  have hz1 := hy1 (by omega)
  obtain ⟨N, rfl⟩ : ∃ N : Nat, x1 = N := ⟨x1.toNat, by omega⟩
  have a2 : h1 2 = some (.var 0 26 (.agg [.int .i64 0, .sl 0 .lit []])) := by rw [hf1 2 (by omega)]; simp [hset]
  have a3 : h1 3 = some (.var 0 26 (.agg [.int .i64 0, .sl 0 .lit []])) := by rw [hf1 3 (by omega)]; simp [hset]
  have a5 : h1 5 = none := by rw [hf1 5 (by omega)]; simp [hset, hnil]
  have a6 : h1 6 = none := by rw [hf1 6 (by omega)]; simp [hset, hnil]
  clear hf1 hy1
  repeat' (first | (apply brI <;> intro hb hb2 <;> (try simp [-Int.not_le, -Int.not_lt, -Nat.not_le, -Nat.not_lt, -Nat.add_left_cancel_iff] at hb2)) | (refine draw_listA (by rfl) (by kernel_rfl) ?_) | (refine draw_listB (by simp [allocsOf, isAlloc]; rfl) (by kernel_rfl) ?_) | simp (maxSteps := 2000000) (disch := first | omega | assumption | simp [*]) [*, -Int.not_le, -Int.not_lt, -Nat.not_le, -Nat.not_lt, -Nat.add_left_cancel_iff, wrap_i64, wrap_u64])
  refine cf_open rfl rfl (l3Make_o (M := 4) hB hl (by omega) (by decide) hc1 (by simp [farOff]) fun rk1 k1 u h2 hrk1 hk1 hp1 hc2 hf2 => ?_)
  simp only [farOff] at hrk1 hf2
  obtain ⟨xs, hBx, hxl, _⟩ := id hp1
  have tu := buf_tokV hBx
  obtain ⟨ou, cu, lu⟩ := tu.all
  rw [hxl] at lu
  have b2 := (hf2 2 (by omega) (by omega)).trans a2
  have b3 := (hf2 3 (by omega) (by omega)).trans a3
  have b5 := (hf2 5 (by omega) (by omega)).trans a5
  have b6 := (hf2 6 (by omega) (by omega)).trans a6
  clear hf2 hp1 hBx a2 a3 a5 a6 hc1
  repeat' (first | (apply brI <;> intro hb hb2 <;> (try simp [-Int.not_le, -Int.not_lt, -Nat.not_le, -Nat.not_lt, -Nat.add_left_cancel_iff] at hb2)) | (refine draw_listA (by rfl) (by kernel_rfl) ?_) | (refine draw_listB (by simp [allocsOf, isAlloc]; rfl) (by kernel_rfl) ?_) | simp (maxSteps := 2000000) (disch := first | omega | assumption | simp [*]) [*, -Int.not_le, -Int.not_lt, -Nat.not_le, -Nat.not_lt, -Nat.add_left_cancel_iff, wrap_i64, wrap_u64, b5])
  refine cf_open rfl rfl (l1Below_o hB hl (hc2.keep (hset_other _ _ (by omega))) fun x2 h3 hx2 _ hy2 hc3 hf3 => ?_)
  have hz2 := hy2 (by omega)
  obtain ⟨N2, rfl⟩ : ∃ N2 : Nat, x2 = N2 := ⟨x2.toNat, by omega⟩
  have d2 : h3 2 = _ := ((hf3 2 (by omega)).trans (hset_other _ _ (by omega))).trans b2
  have d3 : h3 3 = _ := ((hf3 3 (by omega)).trans (hset_other _ _ (by omega))).trans b3
  have d5 : h3 5 = some (.var 0 26 (.agg [.int .i64 N, u])) := by rw [hf3 5 (by omega)]; simp [hset, b5]
  have d6 : h3 6 = none := ((hf3 6 (by omega)).trans (hset_other _ _ (by omega))).trans b6
  clear hf3 hy2 b2 b3 b5 b6 hc2
  repeat' (first | (apply brI <;> intro hb hb2 <;> (try simp [-Int.not_le, -Int.not_lt, -Nat.not_le, -Nat.not_lt, -Nat.add_left_cancel_iff] at hb2)) | (refine draw_listA (by rfl) (by kernel_rfl) ?_) | (refine draw_listB (by simp [allocsOf, isAlloc]; rfl) (by kernel_rfl) ?_) | simp (maxSteps := 2000000) (disch := first | omega | assumption | simp [*]) [*, -Int.not_le, -Int.not_lt, -Nat.not_le, -Nat.not_lt, -Nat.add_left_cancel_iff, wrap_i64, wrap_u64, d5])
  refine cf_open rfl rfl (l3Make_o (M := 4) hB hl (by omega) (by decide) hc3 (by simp [farOff]) fun rk2 k2 v h4 hrk2 hk2 hp2 hc4 hf4 => ?_)
  simp only [farOff] at hrk2 hf4
  have ov := hp2.one
  have cv := hp2.cells
  have e2 := (hf4 2 (by omega) (by omega)).trans d2
  have e3 := (hf4 3 (by omega) (by omega)).trans d3
  have e5 := (hf4 5 (by omega) (by omega)).trans d5
  have e6 := (hf4 6 (by omega) (by omega)).trans d6
  clear hf4 d2 d3 d5 d6 hc3
  repeat' (first | (apply brI <;> intro hb hb2 <;> (try simp [-Int.not_le, -Int.not_lt, -Nat.not_le, -Nat.not_lt, -Nat.add_left_cancel_iff] at hb2)) | (refine draw_listA (by rfl) (by kernel_rfl) ?_) | (refine draw_listB (by simp [allocsOf, isAlloc]; rfl) (by kernel_rfl) ?_) | simp (maxSteps := 2000000) (disch := first | omega | assumption | simp [*]) [*, -Int.not_le, -Int.not_lt, -Nat.not_le, -Nat.not_lt, -Nat.add_left_cancel_iff, wrap_i64, wrap_u64, e6])
  refine cf_open rfl rfl (l1Below_o hB hl (hc4.keep (hset_other _ _ (by omega))) fun z h5 hz _ hzz hc5 hf5 => ?_)
  have f2 : h5 2 = _ := ((hf5 2 (by omega)).trans (hset_other _ _ (by omega))).trans e2
  have f3 : h5 3 = _ := ((hf5 3 (by omega)).trans (hset_other _ _ (by omega))).trans e3
  have f5 : h5 5 = _ := ((hf5 5 (by omega)).trans (hset_other _ _ (by omega))).trans e5
  have f6 : h5 6 = some (.var 0 26 (.agg [.int .i64 N2, v])) := by rw [hf5 6 (by omega)]; simp [hset, e6]
  have hp5 := hp2.keep (h' := h5) ((hf5 rk2 (by omega)).trans (hset_other _ _ (by omega)))
  clear hf5 hp2 e2 e3 e5 e6 hc4 hzz
  by_cases hz0 : z = 0
  · subst hz0
    obtain ⟨ys, hBy, hyl, _⟩ := hp5
    repeat' (first | (apply brI <;> intro hb hb2 <;> (try simp [-Int.not_le, -Int.not_lt, -Nat.not_le, -Nat.not_lt, -Nat.add_left_cancel_iff] at hb2)) | simp (maxSteps := 2000000) (disch := first | omega | assumption | simp [*]) [*, -Int.not_le, -Int.not_lt, -Nat.not_le, -Nat.not_lt, -Nat.add_left_cancel_iff, wrap_i64, wrap_u64, f2, f3, f5, f6])
    refine W_loopG (k1 - k2) (fun i s h' => LoSt h' N2 (k2 + i) ∧ s 2 = .vp 2 0 0 ∧ s 3 = .vp 3 0 0 ∧ s 5 = .vp 5 0 0 ∧ s 6 = .vp 6 0 0 ∧
      h' 2 = some (.var 0 26 (.agg [.int .i64 0, .sl 0 .lit []])) ∧ h' 3 = some (.var 0 26 (.agg [.int .i64 0, .sl 0 .lit []])) ∧ h' 5 = some (.var 0 26 (.agg [.int .i64 N, u]))) ?_ ?_
    · refine ⟨⟨rk2, v, ys, by omega, f6, hBy, by omega, by omega⟩, ?_⟩
      simp [*]
    clear hBy f2 f3 f5 f6 hc5
    rintro i s h' hi ⟨⟨rk, v', zs, hrk, e6, hBz, hzl, hzl2⟩, g2, g3, g5, g6, e2, e3, e5⟩
    have oz := hBz.one
    have cz := hBz.cells
    have lz := fun {E : Env} {t : Nat} (ht : slT E t = true) => hBz.len (E := E) (t := t) ht
    by_cases hi2 : k2 + i < k1
    · have hii : (zs.length : Int) < (k1 : Int) := by omega
      repeat' (first | (apply brI <;> intro hb hb2 <;> (try simp [-Int.not_le, -Int.not_lt, -Nat.not_le, -Nat.not_lt, -Nat.add_left_cancel_iff] at hb2)) | simp (maxSteps := 2000000) (disch := first | omega | assumption | simp [*]) [*, -Int.not_le, -Int.not_lt, -Nat.not_le, -Nat.not_lt, -Nat.add_left_cancel_iff, wrap_i64, wrap_u64, g2, g3, g5, g6, e2, e3, e5, e6, lu, lz])
      refine wa_pushS hBz (by simp) (by simp) (by omega) fun key' v2 h2' hk9 hB2 hf2 => ?_
      have hk8 : 6 < key' := by omega
      have o2 := hB2.one
      have c2 := hB2.cells
      have e62 := (hf2 6 (by omega)).trans e6
      have e22 := (hf2 2 (by omega)).trans e2
      have e32 := (hf2 3 (by omega)).trans e3
      have e52 := (hf2 5 (by omega)).trans e5
      have hend : ∀ h9, h9 6 = some (.var 0 26 (.agg [.int .i64 N2, v2])) → (∀ y, y ≠ 6 → h9 y = h2' y) → LoSt h9 N2 (k2 + (i + 1)) := fun h9 a1 a2 => ⟨key', v2, _, hk8, a1, hB2.keep (a2 _ (by omega)), by simp; omega, by simp; omega⟩
      clear hf2 hBz hB2 e6 e2 e3 e5
      repeat' (first | (apply brI <;> intro hb hb2 <;> (try simp [-Int.not_le, -Int.not_lt, -Nat.not_le, -Nat.not_lt, -Nat.add_left_cancel_iff] at hb2)) | simp (maxSteps := 2000000) (disch := first | omega | assumption | simp [*]) [*, -Int.not_le, -Int.not_lt, -Nat.not_le, -Nat.not_lt, -Nat.add_left_cancel_iff, wrap_i64, wrap_u64, g2, g3, g5, g6, e22, e32, e52, e62])
      exact ⟨by omega, hend _ (hset_same ..) fun y hy => hset_other _ _ hy⟩
    · have hii : ¬ ((zs.length : Int) < (k1 : Int)) := by omega
      have tz := buf_tokV hBz
      obtain ⟨u2, hs2, t2⟩ := slice_to (E := env) (h := h') (t := 24) (k := k1) tz (by simp) (by simp) (by omega)
      obtain ⟨o2, c2, _⟩ := t2.all
      have hlen : (zs.take k1).length ≤ 9 := by rw [List.length_take]; omega
      clear hBz tz
      repeat' (first | (apply brI <;> intro hb hb2 <;> (try simp [-Int.not_le, -Int.not_lt, -Nat.not_le, -Nat.not_lt, -Nat.add_left_cancel_iff] at hb2)) | simp (maxSteps := 2000000) (disch := first | omega | assumption | simp [*]) [*, -Int.not_le, -Int.not_lt, -Nat.not_le, -Nat.not_lt, -Nat.add_left_cancel_iff, wrap_i64, wrap_u64, g2, g3, g5, g6, e2, e3, e5, e6, lu, lz, hs2])
      refine draw_listK [6] [0, 1, 2, 0] (by kernel_rfl) (by kernel_rfl) (by kernel_rfl) (by kernel_rfl) ?_
      repeat' (first | (apply brI <;> intro hb hb2 <;> (try simp [-Int.not_le, -Int.not_lt, -Nat.not_le, -Nat.not_lt, -Nat.add_left_cancel_iff] at hb2)) | simp (maxSteps := 2000000) (disch := first | omega | assumption | simp [*]) [*, -Int.not_le, -Int.not_lt, -Nat.not_le, -Nat.not_lt, -Nat.add_left_cancel_iff, wrap_i64, wrap_u64, g2, g3, g5, g6, e2, e3, e5, e6])
      exact ⟨fun d hd => by simp at hd; subst hd; simp [hset], twoC_mk tu t2 (by omega) hlen⟩
  · obtain ⟨ys, hBy, hyl, _⟩ := id hp5
    have tv := buf_tokV hBy
    have hyl9 : ys.length ≤ 9 := by omega
    clear hBy
    by_cases hz1 : z = 1
    · subst hz1
      repeat' (first | (apply brI <;> intro hb hb2 <;> (try simp [-Int.not_le, -Int.not_lt, -Nat.not_le, -Nat.not_lt, -Nat.add_left_cancel_iff] at hb2)) | simp (maxSteps := 2000000) (disch := first | omega | assumption | simp [*]) [*, -Int.not_le, -Int.not_lt, -Nat.not_le, -Nat.not_lt, -Nat.add_left_cancel_iff, wrap_i64, wrap_u64, f2, f3, f5, f6])
      refine cf_open rfl rfl (l3Make_o (M := 4) hB hl (by omega) (by decide) hc5 (by simp [farOff]) fun rk7 k7 w h7 hrk7 hk7 hp7 hc7 hf7 => ?_)
      simp only [farOff] at hrk7 hf7
      have ow := hp7.one
      have cw := hp7.cells
      obtain ⟨zs, hBz, hzl, _⟩ := id hp7
      have tw := buf_tokV hBz
      have hzl9 : zs.length ≤ 9 := by omega
      have m2 := (hf7 2 (by omega) (by omega)).trans f2
      have m3 := (hf7 3 (by omega) (by omega)).trans f3
      have m5 := (hf7 5 (by omega) (by omega)).trans f5
      have m6 := (hf7 6 (by omega) (by omega)).trans f6
      clear hf7 hp7 hBz f2 f3 f5 f6 hc5 hp5
      repeat' (first | (apply brI <;> intro hb hb2 <;> (try simp [-Int.not_le, -Int.not_lt, -Nat.not_le, -Nat.not_lt, -Nat.add_left_cancel_iff] at hb2)) | simp (maxSteps := 2000000) (disch := first | omega | assumption | simp [*]) [*, -Int.not_le, -Int.not_lt, -Nat.not_le, -Nat.not_lt, -Nat.add_left_cancel_iff, wrap_i64, wrap_u64, m2, m3, m5, m6])
      refine draw_listK [6] [0, 1, 2, 0] (by kernel_rfl) (by kernel_rfl) (by kernel_rfl) (by kernel_rfl) ?_
      repeat' (first | (apply brI <;> intro hb hb2 <;> (try simp [-Int.not_le, -Int.not_lt, -Nat.not_le, -Nat.not_lt, -Nat.add_left_cancel_iff] at hb2)) | simp (maxSteps := 2000000) (disch := first | omega | assumption | simp [*]) [*, -Int.not_le, -Int.not_lt, -Nat.not_le, -Nat.not_lt, -Nat.add_left_cancel_iff, wrap_i64, wrap_u64, m2, m3, m5, m6])
      exact ⟨fun d hd => by simp at hd; subst hd; simp [hset], twoC_mk tu tw (by omega) hzl9⟩
    · by_cases hz2' : z = 2
      · subst hz2'
        repeat' (first | (apply brI <;> intro hb hb2 <;> (try simp [-Int.not_le, -Int.not_lt, -Nat.not_le, -Nat.not_lt, -Nat.add_left_cancel_iff] at hb2)) | simp (maxSteps := 2000000) (disch := first | omega | assumption | simp [*]) [*, -Int.not_le, -Int.not_lt, -Nat.not_le, -Nat.not_lt, -Nat.add_left_cancel_iff, wrap_i64, wrap_u64, f2, f3, f5, f6])
        refine cf_open rfl rfl (l1Once_o hB hl hc5 fun c7 h7 hc7 hf7 => ?_)
        have m2 := (hf7 2 (by omega)).trans f2
        have m3 := (hf7 3 (by omega)).trans f3
        have m5 := (hf7 5 (by omega)).trans f5
        have m6 := (hf7 6 (by omega)).trans f6
        clear hf7 f2 f3 f5 f6 hc5 hp5
        cases c7 with
        | true =>
          repeat' (first | (apply brI <;> intro hb hb2 <;> (try simp [-Int.not_le, -Int.not_lt, -Nat.not_le, -Nat.not_lt, -Nat.add_left_cancel_iff] at hb2)) | simp (maxSteps := 2000000) (disch := first | omega | assumption | simp [*]) [*, -Int.not_le, -Int.not_lt, -Nat.not_le, -Nat.not_lt, -Nat.add_left_cancel_iff, wrap_i64, wrap_u64, m2, m3, m5, m6])
          refine cf_open rfl rfl (l3Bent_o hB hl hc7 (by simp [farOff]) fun n8 rk8 w h8 hr81 hr82 hp8 hc8 hf8 => ?_)
          simp only [farOff] at hr81 hr82 hf8
          have ow := hp8.one
          have cw := hp8.cells
          obtain ⟨zs, hBz, hzl9⟩ := id hp8
          have tw := buf_tokV hBz
          have q2 := (hf8 2 (by omega) (by omega)).trans m2
          have q3 := (hf8 3 (by omega) (by omega)).trans m3
          have q5 := (hf8 5 (by omega) (by omega)).trans m5
          have q6 := (hf8 6 (by omega) (by omega)).trans m6
          clear hf8 hp8 hBz m2 m3 m5 m6 hc7
          repeat' (first | (apply brI <;> intro hb hb2 <;> (try simp [-Int.not_le, -Int.not_lt, -Nat.not_le, -Nat.not_lt, -Nat.add_left_cancel_iff] at hb2)) | simp (maxSteps := 2000000) (disch := first | omega | assumption | simp [*]) [*, -Int.not_le, -Int.not_lt, -Nat.not_le, -Nat.not_lt, -Nat.add_left_cancel_iff, wrap_i64, wrap_u64, q2, q3, q5, q6])
          refine draw_listK [6] [0, 1, 2, 0] (by kernel_rfl) (by kernel_rfl) (by kernel_rfl) (by kernel_rfl) ?_
          repeat' (first | (apply brI <;> intro hb hb2 <;> (try simp [-Int.not_le, -Int.not_lt, -Nat.not_le, -Nat.not_lt, -Nat.add_left_cancel_iff] at hb2)) | simp (maxSteps := 2000000) (disch := first | omega | assumption | simp [*]) [*, -Int.not_le, -Int.not_lt, -Nat.not_le, -Nat.not_lt, -Nat.add_left_cancel_iff, wrap_i64, wrap_u64, q2, q3, q5, q6])
          exact ⟨fun d hd => by simp at hd; subst hd; simp [hset], twoC_mk tu tw (by omega) hzl9⟩
        | false =>
          repeat' (first | (apply brI <;> intro hb hb2 <;> (try simp [-Int.not_le, -Int.not_lt, -Nat.not_le, -Nat.not_lt, -Nat.add_left_cancel_iff] at hb2)) | simp (maxSteps := 2000000) (disch := first | omega | assumption | simp [*]) [*, -Int.not_le, -Int.not_lt, -Nat.not_le, -Nat.not_lt, -Nat.add_left_cancel_iff, wrap_i64, wrap_u64, m2, m3, m5, m6])
          refine draw_listK [6] [0, 1, 2, 0] (by kernel_rfl) (by kernel_rfl) (by kernel_rfl) (by kernel_rfl) ?_
          repeat' (first | (apply brI <;> intro hb hb2 <;> (try simp [-Int.not_le, -Int.not_lt, -Nat.not_le, -Nat.not_lt, -Nat.add_left_cancel_iff] at hb2)) | simp (maxSteps := 2000000) (disch := first | omega | assumption | simp [*]) [*, -Int.not_le, -Int.not_lt, -Nat.not_le, -Nat.not_lt, -Nat.add_left_cancel_iff, wrap_i64, wrap_u64, m2, m3, m5, m6])
          exact ⟨fun d hd => by simp at hd; subst hd; simp [hset], twoC_mk tu tv (by omega) hyl9⟩
      · repeat' (first | (apply brI <;> intro hb hb2 <;> (try simp [-Int.not_le, -Int.not_lt, -Nat.not_le, -Nat.not_lt, -Nat.add_left_cancel_iff] at hb2)) | simp (maxSteps := 2000000) (disch := first | omega | assumption | simp [*]) [*, -Int.not_le, -Int.not_lt, -Nat.not_le, -Nat.not_lt, -Nat.add_left_cancel_iff, wrap_i64, wrap_u64, f2, f3, f5, f6])
        refine draw_listK [6] [0, 1, 2, 0] (by kernel_rfl) (by kernel_rfl) (by kernel_rfl) (by kernel_rfl) ?_
        repeat' (first | (apply brI <;> intro hb hb2 <;> (try simp [-Int.not_le, -Int.not_lt, -Nat.not_le, -Nat.not_lt, -Nat.add_left_cancel_iff] at hb2)) | simp (maxSteps := 2000000) (disch := first | omega | assumption | simp [*]) [*, -Int.not_le, -Int.not_lt, -Nat.not_le, -Nat.not_lt, -Nat.add_left_cancel_iff, wrap_i64, wrap_u64, f2, f3, f5, f6])
        exact ⟨fun d hd => by simp at hd; subst hd; simp [hset], twoC_mk tu tv (by omega) hyl9⟩
theorem rowV_expo {xs : List Int} {v : AV} (hv : RowV xs v) (h : Heap) : RowV xs (noEx (expo h v)) := by
  obtain ⟨hI, hx, hs⟩ := hv
  obtain ⟨k, o, es, rfl, hk, ho⟩ := hI.l.ok
  cases o with
  | no =>
    have e : noEx (expo h (.sl k .no es)) = .sl k .no es := by simp [expo, noEx]
    rw [e]; exact ⟨hI, hx, hs⟩
  | lit =>
    have e : noEx (expo h (.sl k .lit es)) = .sl k .lit es := by simp [expo, noEx]
    rw [e]; exact ⟨hI, hx, hs⟩
  | brw =>
    have he : es = [] := by simpa [stab] using hs
    subst he
    have e : noEx (expo h (.sl k .brw [])) = .sl k .no (ints []) := by simp [expo, noEx]
    have hx0 : xs = [] := by rw [← hx]; rfl
    rw [e, hx0]
    exact ⟨isI_sl (.inl rfl) rfl (by simp [top63]), by simp [xsOf], rfl⟩
  | tok => cases ho
  | ex => cases ho
theorem twoC_mk2 {n m : Int} {u v : AV} {h : Heap} {xs ys : List Int} (hu : RowV xs u) (hv : RowV ys v) (h1 : xs.length ≤ 9) (h2 : ys.length ≤ 9) : TwoC (.tup [.agg [.int .i64 n, expo h u], .agg [.int .i64 m, expo h v]]) :=
  ⟨n, m, noEx (expo h u), noEx (expo h v), xs, ys, by simp only [noEx, noExs], rowV_expo hu h, rowV_expo hv h, h1, h2⟩
theorem drawDirectSum_t {b : AV} (hB : IsB b) (hbr : brwOf b = false) (hl : bLen b ≤ 1073741824) : CallsTo env 5 [b] (fun r => TwoC r) := by
  refine callsTo_mk (F := Tryd.f5) rfl rfl (Nat.le_of_ble_eq_true rfl) ?_
  repeat' (first | (apply brI <;> intro hb hb2 <;> (try simp [-Int.not_le, -Int.not_lt, -Nat.not_le, -Nat.not_lt, -Nat.add_left_cancel_iff] at hb2)) | simp (maxSteps := 2000000) (disch := first | omega | assumption | simp [*]) [*, -Int.not_le, -Int.not_lt, -Nat.not_le, -Nat.not_lt, -Nat.add_left_cancel_iff, wrap_i64, wrap_u64, Tryd.f5, isB_low hB])
  refine cw_to (l18Two_t hB hbr hl) ?_
  rintro r ⟨n, m, v, w, xs, ys, hr, rv, rw', h1, h2⟩
  have ov := isI_one rv.1
  have cv := isI_cells rv.1
  have ow := isI_one rw'.1
  have cw := isI_cells rw'.1
  repeat' (first | (apply brI <;> intro hb hb2 <;> (try simp [-Int.not_le, -Int.not_lt, -Nat.not_le, -Nat.not_lt, -Nat.add_left_cancel_iff] at hb2)) | simp (maxSteps := 2000000) (disch := first | omega | assumption | simp [*]) [*, -Int.not_le, -Int.not_lt, -Nat.not_le, -Nat.not_lt, -Nat.add_left_cancel_iff, wrap_i64, wrap_u64, hr])
  refine draw_listK [5] [0, 1, 2, 0] (by kernel_rfl) (by kernel_rfl) (by kernel_rfl) (by kernel_rfl) ?_
  repeat' (first | (apply brI <;> intro hb hb2 <;> (try simp [-Int.not_le, -Int.not_lt, -Nat.not_le, -Nat.not_lt, -Nat.add_left_cancel_iff] at hb2)) | simp (maxSteps := 2000000) (disch := first | omega | assumption | simp [*]) [*, -Int.not_le, -Int.not_lt, -Nat.not_le, -Nat.not_lt, -Nat.add_left_cancel_iff, wrap_i64, wrap_u64])
  exact ⟨fun d hd => by simp at hd; subst hd; simp [hset], twoC_mk2 rv rw' h1 h2⟩
theorem drawCountConcepts_t {b : AV} (hB : IsB b) (hbr : brwOf b = false) (hl : bLen b ≤ 1073741824) : CallsTo env 14 [b] (fun r => DrK r) := by
  refine callsTo_mk (F := Tryd.f14) rfl rfl (Nat.le_of_ble_eq_true rfl) ?_
  have hcb := isB_cells hB
  have hob := isB_one hB
  repeat' (first | (apply brI <;> intro hb hb2 <;> (try simp [-Int.not_le, -Int.not_lt, -Nat.not_le, -Nat.not_lt, -Nat.add_left_cancel_iff] at hb2)) | (refine draw_listA (by rfl) (by kernel_rfl) ?_) | (refine draw_listB (by simp [allocsOf, isAlloc]; rfl) (by kernel_rfl) ?_) | simp (maxSteps := 2000000) (disch := first | omega | assumption | simp [*]) [*, -Int.not_le, -Int.not_lt, -Nat.not_le, -Nat.not_lt, -Nat.add_left_cancel_iff, wrap_i64, wrap_u64, Tryd.f14, isB_low hB])
  refine cf_xp (by simpa [isB_low hB] using l1New_t hB hbr hl) rfl ?_
  rintro r ⟨hh, rfl⟩
  refine ⟨_, _, _, rfl, ?_⟩
  repeat' (first | (apply brI <;> intro hb hb2 <;> (try simp [-Int.not_le, -Int.not_lt, -Nat.not_le, -Nat.not_lt, -Nat.add_left_cancel_iff] at hb2)) | (refine draw_listA (by rfl) (by kernel_rfl) ?_) | (refine draw_listB (by simp [allocsOf, isAlloc]; rfl) (by kernel_rfl) ?_) | simp (maxSteps := 2000000) (disch := first | omega | assumption | simp [*]) [*, -Int.not_le, -Int.not_lt, -Nat.not_le, -Nat.not_lt, -Nat.add_left_cancel_iff, wrap_i64, wrap_u64])
  refine cf_open rfl rfl (l3Bent_o hB hl (g := 0) ⟨0, hh, by omega, by omega, by simp [hset, hnil]⟩ (by simp [farOff]) fun n rk v h1 hr1 hr2 hp hc1 hf1 => ?_)
  simp only [farOff] at hr1 hr2 hf1
  have ov := hp.one
  have cv := hp.cells
  have f2 : h1 2 = some (.var 0 26 (.agg [.int .i64 0, .sl 0 .lit []])) := by rw [hf1 2 (by omega) (by omega)]; simp [hset]
  have hend : ∀ h', h' rk = h1 rk → DrK (.agg [.int .i64 n, expo h' v]) := fun h' e => by
    obtain ⟨rows, e1, e2⟩ := (show CAny h' rk v from .inl (hp.keep e)).res
    exact ⟨n, rows, by simp [noEx, noExs, e1], e2⟩
  clear hf1 hp
  repeat' (first | (apply brI <;> intro hb hb2 <;> (try simp [-Int.not_le, -Int.not_lt, -Nat.not_le, -Nat.not_lt, -Nat.add_left_cancel_iff] at hb2)) | (refine draw_listA (by rfl) (by kernel_rfl) ?_) | (refine draw_listB (by simp [allocsOf, isAlloc]; rfl) (by kernel_rfl) ?_) | simp (maxSteps := 2000000) (disch := first | omega | assumption | simp [*]) [*, -Int.not_le, -Int.not_lt, -Nat.not_le, -Nat.not_lt, -Nat.add_left_cancel_iff, wrap_i64, wrap_u64, f2])
  exact hend _ (by rw [hset_other _ _ (by omega)])
end Go.Proofs.YtliecnadoklgoaaDoor
