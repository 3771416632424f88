/- Scaled tables: the reference's side. Conditions: none. -/
import Derived.Test.YtppfgokonlloaaaScaleB
import Derived.Test.YtppfgokonlloaaaSum2
namespace Go.Proofs.Ytppfgokonlloaaa
open Ev
set_option linter.unusedVariables false
set_option linter.unusedSimpArgs false
set_option maxHeartbeats 8000000

theorem l16Has_c {k : Nat} {x v : Int} (hk : k ≤ 2) : EvC env 62 [.int .i64 k, .int .i64 x, .int .i64 v] (.bool (tst k x v)) := by
  refine evC_of (F := Try.f62) rfl rfl (Nat.le_of_ble_eq_true rfl) ?_
  have h9 : k = 0 ∨ k = 1 ∨ k = 2 := by omega
  rcases h9 with rfl | rfl | rfl
  · repeat' (first | (apply brI <;> intro hb hb2 <;> (try simp [-Int.not_le, -Int.not_lt, -Nat.not_le, -Nat.not_lt, -Nat.add_left_cancel_iff] at hb2)) | (refine draw_listA (by rfl) (by kernel_rfl) ?_) | (refine draw_listB (by simp [allocsOf, isAlloc]; rfl) (by kernel_rfl) ?_) | simp (maxSteps := 2000000) (disch := first | omega | assumption | simp [*]) [*, -Int.not_le, -Int.not_lt, -Nat.not_le, -Nat.not_lt, -Nat.add_left_cancel_iff, wrap_i64, wrap_u64, Try.f62, tst])
  · repeat' (first | (apply brI <;> intro hb hb2 <;> (try simp [-Int.not_le, -Int.not_lt, -Nat.not_le, -Nat.not_lt, -Nat.add_left_cancel_iff] at hb2)) | (refine draw_listA (by rfl) (by kernel_rfl) ?_) | (refine draw_listB (by simp [allocsOf, isAlloc]; rfl) (by kernel_rfl) ?_) | simp (maxSteps := 2000000) (disch := first | omega | assumption | simp [*]) [*, -Int.not_le, -Int.not_lt, -Nat.not_le, -Nat.not_lt, -Nat.add_left_cancel_iff, wrap_i64, wrap_u64, Try.f62, tst])
  · repeat' (first | (apply brI <;> intro hb hb2 <;> (try simp [-Int.not_le, -Int.not_lt, -Nat.not_le, -Nat.not_lt, -Nat.add_left_cancel_iff] at hb2)) | (refine draw_listA (by rfl) (by kernel_rfl) ?_) | (refine draw_listB (by simp [allocsOf, isAlloc]; rfl) (by kernel_rfl) ?_) | simp (maxSteps := 2000000) (disch := first | omega | assumption | simp [*]) [*, -Int.not_le, -Int.not_lt, -Nat.not_le, -Nat.not_lt, -Nat.add_left_cancel_iff, wrap_i64, wrap_u64, Try.f62, tst])
theorem l16Has_s {k : Nat} {x v : Int} (hk : k ≤ 2) {K : AV → Prop} {tg : Tg K} : CW env 62 [.int .i64 k, .int .i64 x, .int .i64 v] K tg ↔ K (.bool (tst k x v)) := callsTo_iff (l16Has_c hk)
attribute [simp] l16Has_s
def enK (s k : Nat) : Bool := if k = 0 then decide (s = 0) else if k = 1 then decide (s ≠ 0) else decide (s = 2)
def nK (k : Nat) (y : Int) : Nat := if k = 0 then y.toNat else (y - 1).toNat
def loK (k : Nat) : Int := if k = 1 then 1 else 0
def colK (s a k : Nat) (y : Int) : List Kol := if enK s k = true then colsQ k a (loK k) (nK k y) else []
def kTo (s a : Nat) (y : Int) : Nat → List Kol
  | 0 => []
  | k + 1 => kTo s a y k ++ colK s a k y
theorem kTo_all {s a : Nat} {y : Int} (hs : s ≤ 2) : kTo s a y 3 = colsA s a y := by
  have h9 : s = 0 ∨ s = 1 ∨ s = 2 := by omega
  rcases h9 with rfl | rfl | rfl <;> simp [kTo, colK, enK, nK, loK, colsA]
theorem nK_le {k : Nat} {y : Int} (h : y ≤ 5) : nK k y ≤ 5 := by unfold nK; split <;> omega
theorem kTo_len {s a : Nat} {y : Int} (h : y ≤ 5) : ∀ k, (kTo s a y k).length ≤ 5 * k
  | 0 => by simp [kTo]
  | k + 1 => by
    have h1 := kTo_len (s := s) (a := a) h k
    have h2 := nK_le (k := k) h
    simp only [kTo, List.length_append, colK]
    split <;> simp <;> omega
def rowP (P : List Kol) (row : List Int) : Int := setOf (hasAt P row) (min P.length 6)
theorem rowP_nil (row : List Int) : rowP [] row = 0 := by simp [rowP, setOf]
theorem hasAt_app (P Q : List Kol) (row : List Int) {j : Nat} (h : j < P.length) : hasAt (P ++ Q) row j = hasAt P row j := by
  unfold hasAt; rw [List.getElem?_append_left h]
theorem hasAt_last (P : List Kol) (c : Kol) (row : List Int) : hasAt (P ++ [c]) row P.length = hasC row c := by simp [hasAt]
theorem rowP_range (P : List Kol) (row : List Int) : 0 ≤ rowP P row ∧ rowP P row < 256 := ⟨(setOf_range _ _).1, setOf_small _ (by omega)⟩
theorem rowP_full {P : List Kol} (c : Kol) (row : List Int) (h : ¬ P.length < 6) : rowP (P ++ [c]) row = rowP P row := by
  unfold rowP
  rw [show min (P ++ [c]).length 6 = 6 by simp; omega, show min P.length 6 = 6 by omega]
  exact setOf_congr fun i hi => hasAt_app _ _ _ (by omega)
theorem rowP_step {P : List Kol} (c : Kol) (row : List Int) (h : P.length < 6) : rowP (P ++ [c]) row = setOf (hasAt (P ++ [c]) row) (P.length + 1) ∧ rowP P row = setOf (hasAt (P ++ [c]) row) P.length := by
  constructor
  · unfold rowP; rw [show min (P ++ [c]).length 6 = P.length + 1 by simp; omega]
  · unfold rowP
    rw [show min P.length 6 = P.length by omega]
    exact setOf_congr fun i hi => (hasAt_app _ _ _ hi).symm
theorem rowP_or {P : List Kol} {c : Kol} {row : List Int} (h : P.length < 6) (hc : hasC row c = true) : (((rowP P row).toNat ||| 2 ^ P.length : Nat) : Int) = rowP (P ++ [c]) row := by
  obtain ⟨h1, h2⟩ := rowP_step c row h
  rw [h1, h2]
  exact setOf_or _ _ (by rw [hasAt_last]; exact hc)
theorem rowP_skip {P : List Kol} {c : Kol} {row : List Int} (h : P.length < 6) (hc : hasC row c = false) : rowP P row = rowP (P ++ [c]) row := by
  obtain ⟨h1, h2⟩ := rowP_step c row h
  rw [h1, h2]
  exact setOf_skip _ _ (by rw [hasAt_last]; exact hc)
/-- the state between columns -/
def ScH (h : Heap) (u v : AV) (P : List Kol) : Prop := h 3 = some (.var 0 38 (.agg [u, v])) ∧ h 6 = some (.var 0 26 (.agg [.int .i64 0, .sl 0 .lit []])) ∧
  h 8 = some (.var 0 26 (.agg [.int .i64 P.length, .ms 22 0 0 (xssOf v).length])) ∧ h 22 = some (.row 0 3 1 (ints (tab (fun r => rowP P (nthL (xssOf v) r)) (xssOf v).length)))
def ScS (st : Nat → AV) (s : Nat) : Prop := st 1 = .bool (decide (s = 0)) ∧ st 2 = .bool (decide (s = 2)) ∧ st 3 = .vp 3 0 0 ∧ st 6 = .vp 6 0 0 ∧ st 8 = .vp 8 0 0
theorem l16Scale_c {u v : AV} {s : Nat} (hu : IsI u) (hv : IsLL v) (hs : s ≤ 2) : EvC env 45 [.agg [u, v], .bool (decide (s = 0)), .bool (decide (s = 2))] (.tup [.agg [.int .i64 (if ScC s (xsOf u) (xssOf v) then ((allC s (xsOf u) (xsOf u).length).length : Nat) else (0 : Nat)), if ScC s (xsOf u) (xssOf v) then rowR 1 3 22 (ints (scR s (xsOf u) (xssOf v))) else .sl 0 .lit []], .bool (decide (ScC s (xsOf u) (xssOf v)))]) := by
  refine evC_of (F := Try.f45) rfl rfl (Nat.le_of_ble_eq_true rfl) ?_
  by_cases hp : PTab (xsOf u) (xssOf v)
  · have hlv : (xsOf u).length ≤ 6 := hp.1
    have hrs : (xssOf v).length ≤ 8 := hp.2.1
    have hal := fun k (hk : k ≤ (xsOf u).length) => allC_len s (lv := xsOf u) k fun i hi => (hp.2.2.1 i (by omega)).2
    repeat' (first | (apply brI <;> intro hb hb2 <;> (try simp [-Int.not_le, -Int.not_lt, -Nat.not_le, -Nat.not_lt, -Nat.add_left_cancel_iff] at hb2)) | (refine draw_listA (by rfl) (by kernel_rfl) ?_) | (refine draw_listB (by simp [allocsOf, isAlloc]; rfl) (by kernel_rfl) ?_) | simp (maxSteps := 2000000) (disch := first | omega | assumption | simp [*]) [*, -Int.not_le, -Int.not_lt, -Nat.not_le, -Nat.not_lt, -Nat.add_left_cancel_iff, wrap_i64, wrap_u64, Try.f45, hp, isI_cells hu, isI_one hu, isI_low hu, isI_len hu, isLL_cells hv, isLL_one hv, isLL_low hv, isLL_len hv])
    refine W_loopG (xsOf u).length (fun i st h => st 9 = .int .i64 i ∧ ScS st s ∧ ScH h u v (allC s (xsOf u) i)) ?_ ?_
    · refine ⟨rfl, ⟨rfl, rfl, rfl, rfl, rfl⟩, by simp [hset], by simp [hset], by simp [hset, allC], ?_⟩
      simp [hset, tab_rep, allC, rowP_nil]
    rintro i st h hi ⟨k9, ⟨k1, k2, k3, k6, k8⟩, e3, e6, e8, e22⟩
    have hali := hal i hi
    by_cases hi2 : i < (xsOf u).length
    · obtain ⟨hy1, hy5⟩ := hp.2.2.1 i hi2
      have hcl := fun k => kTo_len (s := s) (a := i) hy5 k
      have hnk := fun k => nK_le (k := k) hy5
      obtain ⟨P0, hP0⟩ : ∃ P, allC s (xsOf u) i = P := ⟨_, rfl⟩
      have hnext : allC s (xsOf u) (i + 1) = P0 ++ kTo s i (nth (xsOf u) i) 3 := by rw [kTo_all hs, ← hP0]; rfl
      obtain ⟨y, hy⟩ : ∃ y, nth (xsOf u) i = y := ⟨_, rfl⟩
      rw [hP0] at e8 e22 hali
      rw [hy] at hy1 hy5 hcl hnk hnext
      clear hal hP0
      repeat' (first | (apply brI <;> intro hb hb2 <;> (try simp [-Int.not_le, -Int.not_lt, -Nat.not_le, -Nat.not_lt, -Nat.add_left_cancel_iff] at hb2)) | (refine draw_listA (by rfl) (by kernel_rfl) ?_) | (refine draw_listB (by simp [allocsOf, isAlloc]; rfl) (by kernel_rfl) ?_) | simp (maxSteps := 2000000) (disch := first | omega | assumption | simp [*]) [*, -Int.not_le, -Int.not_lt, -Nat.not_le, -Nat.not_lt, -Nat.add_left_cancel_iff, wrap_i64, wrap_u64, k9, k1, k2, k3, k6, k8, e3, e6, e8, isI_len hu])
      refine W_loopG 3 (fun k st h => st 10 = .int .i64 k ∧ st 9 = .int .i64 i ∧ ScS st s ∧ ScH h u v (P0 ++ kTo s i y k)) ?_ ?_
      · refine ⟨rfl, by simp [k9], ⟨by simp [k1], by simp [k2], by simp [k3], by simp [k6], by simp [k8]⟩, e3, e6, by simpa [kTo] using e8, by simpa [kTo] using e22⟩
      rintro k st2 h2 hk ⟨q10, q9, ⟨q1, q2, q3, q6, q8⟩, d3, d6, d8, d22⟩
      by_cases hk2 : k < 3
      · have hclk := hcl k
        have hnkk := hnk k
        obtain ⟨P1, hP1⟩ : ∃ P, P0 ++ kTo s i y k = P := ⟨_, rfl⟩
        have hkn : P0 ++ kTo s i y (k + 1) = P1 ++ colK s i k y := by rw [← hP1, List.append_assoc]; rfl
        have hPl : P1.length ≤ 8 * i + 5 * k := by rw [← hP1]; simp; omega
        rw [hP1] at d8 d22
        rw [hkn]
        clear hcl hnk hP1 hkn hnext hali
        have hs3 : s = 0 ∨ s = 1 ∨ s = 2 := by omega
        have hk3 : k = 0 ∨ k = 1 ∨ k = 2 := by omega
        rcases hs3 with rfl | rfl | rfl <;> rcases hk3 with rfl | rfl | rfl
        · have hck : colK 0 i 0 y = colsQ 0 i 0 y.toNat := by simp [colK, enK, loK, nK]
          rw [hck]
          have hN : nK 0 y = y.toNat := by simp [nK]
          rw [hN] at hnkk
          clear hN hck
          obtain ⟨N, hN⟩ : ∃ N, y.toNat = N := ⟨_, rfl⟩
          have hNy : y - 1 = 0 + (N : Int) - 1 := by omega
          rw [hN] at hnkk
          rw [hN]
          repeat' (first | (apply brI <;> intro hb hb2 <;> (try simp [-Int.not_le, -Int.not_lt, -Nat.not_le, -Nat.not_lt, -Nat.add_left_cancel_iff] at hb2)) | (refine draw_listA (by rfl) (by kernel_rfl) ?_) | (refine draw_listB (by simp [allocsOf, isAlloc]; rfl) (by kernel_rfl) ?_) | simp (maxSteps := 2000000) (disch := first | omega | assumption | simp [*]) [*, -Int.not_le, -Int.not_lt, -Nat.not_le, -Nat.not_lt, -Nat.add_left_cancel_iff, wrap_i64, wrap_u64, q10, q9, q1, q2, q3, q6, q8, d3, d6, d8, isI_index hu, isI_load hu, isI_len hu, hy])
          refine W_loopG N (fun j st h => st 13 = .int .i64 ((j : Int)) ∧ st 12 = .int .i64 ((N : Int) - 1) ∧ st 10 = .int .i64 0 ∧ st 9 = .int .i64 i ∧ ScS st 0 ∧ ScH h u v (P1 ++ colsQ 0 i 0 j)) ?_ ?_
          · refine ⟨by simp, by simp <;> omega, by simp [q10], by simp [q9], ⟨by simp [q1], by simp [q2], by simp [q3], by simp [q6], by simp [q8]⟩, d3, d6, by simpa [colsQ] using d8, by simpa [colsQ] using d22⟩
          rintro j st3 h3 hj ⟨r13, r12, r10, r9, ⟨r1, r2, r3, r6, r8⟩, f3, f6, f8, f22⟩
          by_cases hj2 : j < N
          · have hle : (j : Int) ≤ (N : Int) - 1 := by omega
            obtain ⟨P, hP⟩ : ∃ P, P1 ++ colsQ 0 i 0 j = P := ⟨_, rfl⟩
            have hPl2 : P.length ≤ 8 * 6 + 5 * 3 + 5 := by rw [← hP]; simp; omega
            have hnx : P1 ++ colsQ 0 i 0 (j + 1) = P ++ [⟨i, 0, (j : Int)⟩] := by rw [← hP, colsQ_succ, List.append_assoc]; simp
            rw [hP] at f8 f22
            rw [hnx]
            clear hP hnx
            have hhas : ∀ (x w : Int) (K : AV → Prop) (tg : Tg K), CW env 62 [.int .i64 0, .int .i64 x, .int .i64 w] K tg ↔ K (.bool (tst 0 x w)) := fun x w K tg => callsTo_iff (by simpa using l16Has_c (k := 0) (x := x) (v := w) (by omega))
            repeat' (first | (apply brI <;> intro hb hb2 <;> (try simp [-Int.not_le, -Int.not_lt, -Nat.not_le, -Nat.not_lt, -Nat.add_left_cancel_iff] at hb2)) | (refine draw_listA (by rfl) (by kernel_rfl) ?_) | (refine draw_listB (by simp [allocsOf, isAlloc]; rfl) (by kernel_rfl) ?_) | simp (maxSteps := 2000000) (disch := first | omega | assumption | simp [*]) [*, -Int.not_le, -Int.not_lt, -Nat.not_le, -Nat.not_lt, -Nat.add_left_cancel_iff, wrap_i64, wrap_u64, r13, r12, r10, r9, r1, r2, r3, r6, r8, f3, f6, f8])
            refine W_loopG (xssOf v).length (fun r st h => st 14 = .int .i64 r ∧ st 13 = .int .i64 ((j : Int)) ∧ st 12 = .int .i64 ((N : Int) - 1) ∧ st 10 = .int .i64 0 ∧ st 9 = .int .i64 i ∧ ScS st 0 ∧
              h 3 = some (.var 0 38 (.agg [u, v])) ∧ h 6 = some (.var 0 26 (.agg [.int .i64 0, .sl 0 .lit []])) ∧ h 8 = some (.var 0 26 (.agg [.int .i64 P.length, .ms 22 0 0 (xssOf v).length])) ∧
              h 22 = some (.row 0 3 1 (ints (tab (fun r' => if r' < r then rowP (P ++ [⟨i, 0, (j : Int)⟩]) (nthL (xssOf v) r') else rowP P (nthL (xssOf v) r')) (xssOf v).length)))) ?_ ?_
            · refine ⟨by simp, by simp [r13], by simp [r12], by simp [r10], by simp [r9], ⟨by simp [r1], by simp [r2], by simp [r3], by simp [r6], by simp [r8]⟩, f3, f6, f8, by simpa using f22⟩
            rintro r st4 h4 hr ⟨w14, w13, w12, w10, w9, ⟨w1, w2, w3, w6, w8⟩, g3, g6, g8, g22⟩
            by_cases hc6 : P.length < 6
            · have hc6i : (P.length : Int) < 6 := by omega
              by_cases hr2 : r < (xssOf v).length
              · have hrr := hv.row r hr2
                have hxr := xssOf_row hr2
                have hrl : (xsOf (rowOf v r)).length = (xsOf u).length := by rw [hxr]; exact (hp.2.2.2 r hr2).1
                have hil : i < (xsOf (rowOf v r)).length := by omega
                obtain ⟨b1, b2⟩ := rowP_range P (nthL (xssOf v) r)
                have hpw := pow_small (i := P.length) (by omega)
                have hor := fun h => rowP_or (c := ⟨i, 0, (j : Int)⟩) (row := nthL (xssOf v) r) hc6 h
                have hsk := fun h => rowP_skip (c := ⟨i, 0, (j : Int)⟩) (row := nthL (xssOf v) r) hc6 h
                have hhc : hasC (nthL (xssOf v) r) ⟨i, 0, (j : Int)⟩ = tst 0 (nth (xsOf (rowOf v r)) i) ((j : Int)) := by rw [hxr]; rfl
                rw [hhc] at hor hsk
                obtain ⟨tb, htb⟩ : ∃ tb, tst 0 (nth (xsOf (rowOf v r)) i) ((j : Int)) = tb := ⟨_, rfl⟩
                rw [htb] at hor hsk
                clear hhc hp
                have hpn : ¬ ((2 : Int) ^ P.length < 0) := by omega
                repeat' (first | (apply brI <;> intro hb hb2 <;> (try simp [-Int.not_le, -Int.not_lt, -Nat.not_le, -Nat.not_lt, -Nat.add_left_cancel_iff] at hb2)) | (refine draw_listA (by rfl) (by kernel_rfl) ?_) | (refine draw_listB (by simp [allocsOf, isAlloc]; rfl) (by kernel_rfl) ?_) | simp (maxSteps := 2000000) (disch := first | omega | assumption | simp [*]) [*, -Int.not_le, -Int.not_lt, -Nat.not_le, -Nat.not_lt, -Nat.add_left_cancel_iff, wrap_i64, wrap_u64, w14, w13, w12, w10, w9, w1, w2, w3, w6, w8, g3, g6, g8, g22, hhas, htb, isLL_len hv, isLL_index hv, isLL_load hv, isI_index hrr, isI_load hrr, tab_nth, tab_set, bits_or, pow_toNat])
                · refine ⟨⟨by simp [w1], by simp [w2], by simp [w3], by simp [w6], by simp [w8]⟩, tab_congr fun q hq => ?_⟩
                  by_cases e : q = r
                  · subst e; simp; exact hor (by rw [← htb, hxr]; assumption)
                  · simp only [e, if_false]
                    by_cases e2 : q < r
                    · rw [if_pos e2, if_pos (by omega)]
                    · rw [if_neg e2, if_neg (by omega)]
                · refine ⟨⟨by simp [w1], by simp [w2], by simp [w3], by simp [w6], by simp [w8]⟩, tab_congr fun q hq => ?_⟩
                  by_cases e : q = r
                  · subst e; simp; exact hsk (by rw [← htb, hxr]; assumption)
                  · by_cases e2 : q < r
                    · rw [if_pos e2, if_pos (by omega)]
                    · rw [if_neg e2, if_neg (by omega)]
              · obtain rfl : r = (xssOf v).length := by omega
                have g22' : h4 22 = some (.row 0 3 1 (ints (tab (fun r' => rowP (P ++ [⟨i, 0, (j : Int)⟩]) (nthL (xssOf v) r')) (xssOf v).length))) := by
                  rw [g22, tab_congr (g' := fun r' => rowP (P ++ [⟨i, 0, (j : Int)⟩]) (nthL (xssOf v) r')) fun q hq => by simp [hq]]
                clear g22
                repeat' (first | (apply brI <;> intro hb hb2 <;> (try simp [-Int.not_le, -Int.not_lt, -Nat.not_le, -Nat.not_lt, -Nat.add_left_cancel_iff] at hb2)) | (refine draw_listA (by rfl) (by kernel_rfl) ?_) | (refine draw_listB (by simp [allocsOf, isAlloc]; rfl) (by kernel_rfl) ?_) | simp (maxSteps := 2000000) (disch := first | omega | assumption | simp [*]) [*, -Int.not_le, -Int.not_lt, -Nat.not_le, -Nat.not_lt, -Nat.add_left_cancel_iff, wrap_i64, wrap_u64, w14, w13, w12, w10, w9, w1, w2, w3, w6, w8, g3, g6, g8, isLL_len hv])
                exact ⟨⟨by simp [w1], by simp [w2], by simp [w3], by simp [w6], by simp [w8]⟩, by simp [hset, g3], by simp [hset, g6], by simp [hset], by simp [hset, g22']⟩
            · have hc6i : ¬ (P.length : Int) < 6 := by omega
              have g22' : h4 22 = some (.row 0 3 1 (ints (tab (fun r' => rowP (P ++ [⟨i, 0, (j : Int)⟩]) (nthL (xssOf v) r')) (xssOf v).length))) := by
                rw [g22, tab_congr (g' := fun r' => rowP (P ++ [⟨i, 0, (j : Int)⟩]) (nthL (xssOf v) r')) fun q hq => by
                  split
                  · rfl
                  · exact (rowP_full _ _ hc6).symm]
              clear g22
              repeat' (first | (apply brI <;> intro hb hb2 <;> (try simp [-Int.not_le, -Int.not_lt, -Nat.not_le, -Nat.not_lt, -Nat.add_left_cancel_iff] at hb2)) | (refine draw_listA (by rfl) (by kernel_rfl) ?_) | (refine draw_listB (by simp [allocsOf, isAlloc]; rfl) (by kernel_rfl) ?_) | simp (maxSteps := 2000000) (disch := first | omega | assumption | simp [*]) [*, -Int.not_le, -Int.not_lt, -Nat.not_le, -Nat.not_lt, -Nat.add_left_cancel_iff, wrap_i64, wrap_u64, w14, w13, w12, w10, w9, w1, w2, w3, w6, w8, g3, g6, g8, isLL_len hv])
              all_goals exact ⟨⟨by simp [w1], by simp [w2], by simp [w3], by simp [w6], by simp [w8]⟩, by simp [hset, g3], by simp [hset, g6], by simp [hset], by simp [hset, g22']⟩
          · obtain rfl : j = N := by omega
            have hle : ¬ (j : Int) ≤ (j : Int) - 1 := by omega
            repeat' (first | (apply brI <;> intro hb hb2 <;> (try simp [-Int.not_le, -Int.not_lt, -Nat.not_le, -Nat.not_lt, -Nat.add_left_cancel_iff] at hb2)) | (refine draw_listA (by rfl) (by kernel_rfl) ?_) | (refine draw_listB (by simp [allocsOf, isAlloc]; rfl) (by kernel_rfl) ?_) | simp (maxSteps := 2000000) (disch := first | omega | assumption | simp [*]) [*, -Int.not_le, -Int.not_lt, -Nat.not_le, -Nat.not_lt, -Nat.add_left_cancel_iff, wrap_i64, wrap_u64, r13, r12, r10, r9, r1, r2, r3, r6, r8, f3, f6, f8])
            exact ⟨⟨by simp [*], by simp [*], by simp [*], by simp [*], by simp [*]⟩, f3, f6, f8, f22⟩
        · repeat' (first | (apply brI <;> intro hb hb2 <;> (try simp [-Int.not_le, -Int.not_lt, -Nat.not_le, -Nat.not_lt, -Nat.add_left_cancel_iff] at hb2)) | (refine draw_listA (by rfl) (by kernel_rfl) ?_) | (refine draw_listB (by simp [allocsOf, isAlloc]; rfl) (by kernel_rfl) ?_) | simp (maxSteps := 2000000) (disch := first | omega | assumption | simp [*]) [*, -Int.not_le, -Int.not_lt, -Nat.not_le, -Nat.not_lt, -Nat.add_left_cancel_iff, wrap_i64, wrap_u64, q10, q9, q1, q2, q3, q6, q8, d3, d6, d8])
          exact ⟨⟨by simp [*], by simp [*], by simp [*], by simp [*], by simp [*]⟩, d3, d6, by simpa [colK, enK] using d8, by simpa [colK, enK] using d22⟩
        · repeat' (first | (apply brI <;> intro hb hb2 <;> (try simp [-Int.not_le, -Int.not_lt, -Nat.not_le, -Nat.not_lt, -Nat.add_left_cancel_iff] at hb2)) | (refine draw_listA (by rfl) (by kernel_rfl) ?_) | (refine draw_listB (by simp [allocsOf, isAlloc]; rfl) (by kernel_rfl) ?_) | simp (maxSteps := 2000000) (disch := first | omega | assumption | simp [*]) [*, -Int.not_le, -Int.not_lt, -Nat.not_le, -Nat.not_lt, -Nat.add_left_cancel_iff, wrap_i64, wrap_u64, q10, q9, q1, q2, q3, q6, q8, d3, d6, d8])
          exact ⟨⟨by simp [*], by simp [*], by simp [*], by simp [*], by simp [*]⟩, d3, d6, by simpa [colK, enK] using d8, by simpa [colK, enK] using d22⟩
        · repeat' (first | (apply brI <;> intro hb hb2 <;> (try simp [-Int.not_le, -Int.not_lt, -Nat.not_le, -Nat.not_lt, -Nat.add_left_cancel_iff] at hb2)) | (refine draw_listA (by rfl) (by kernel_rfl) ?_) | (refine draw_listB (by simp [allocsOf, isAlloc]; rfl) (by kernel_rfl) ?_) | simp (maxSteps := 2000000) (disch := first | omega | assumption | simp [*]) [*, -Int.not_le, -Int.not_lt, -Nat.not_le, -Nat.not_lt, -Nat.add_left_cancel_iff, wrap_i64, wrap_u64, q10, q9, q1, q2, q3, q6, q8, d3, d6, d8])
          exact ⟨⟨by simp [*], by simp [*], by simp [*], by simp [*], by simp [*]⟩, d3, d6, by simpa [colK, enK] using d8, by simpa [colK, enK] using d22⟩
        · have hck : colK 1 i 1 y = colsQ 1 i 1 (y - 1).toNat := by simp [colK, enK, loK, nK]
          rw [hck]
          have hN : nK 1 y = (y - 1).toNat := by simp [nK]
          rw [hN] at hnkk
          clear hN hck
          obtain ⟨N, hN⟩ : ∃ N, (y - 1).toNat = N := ⟨_, rfl⟩
          have hNy : y - 1 = 1 + (N : Int) - 1 := by omega
          rw [hN] at hnkk
          rw [hN]
          repeat' (first | (apply brI <;> intro hb hb2 <;> (try simp [-Int.not_le, -Int.not_lt, -Nat.not_le, -Nat.not_lt, -Nat.add_left_cancel_iff] at hb2)) | (refine draw_listA (by rfl) (by kernel_rfl) ?_) | (refine draw_listB (by simp [allocsOf, isAlloc]; rfl) (by kernel_rfl) ?_) | simp (maxSteps := 2000000) (disch := first | omega | assumption | simp [*]) [*, -Int.not_le, -Int.not_lt, -Nat.not_le, -Nat.not_lt, -Nat.add_left_cancel_iff, wrap_i64, wrap_u64, q10, q9, q1, q2, q3, q6, q8, d3, d6, d8, isI_index hu, isI_load hu, isI_len hu, hy])
          refine W_loopG N (fun j st h => st 13 = .int .i64 (1 + (j : Int)) ∧ st 12 = .int .i64 (1 + (N : Int) - 1) ∧ st 10 = .int .i64 1 ∧ st 9 = .int .i64 i ∧ ScS st 1 ∧ ScH h u v (P1 ++ colsQ 1 i 1 j)) ?_ ?_
          · refine ⟨by simp, by simp <;> omega, by simp [q10], by simp [q9], ⟨by simp [q1], by simp [q2], by simp [q3], by simp [q6], by simp [q8]⟩, d3, d6, by simpa [colsQ] using d8, by simpa [colsQ] using d22⟩
          rintro j st3 h3 hj ⟨r13, r12, r10, r9, ⟨r1, r2, r3, r6, r8⟩, f3, f6, f8, f22⟩
          by_cases hj2 : j < N
          · have hle : 1 + (j : Int) ≤ 1 + (N : Int) - 1 := by omega
            obtain ⟨P, hP⟩ : ∃ P, P1 ++ colsQ 1 i 1 j = P := ⟨_, rfl⟩
            have hPl2 : P.length ≤ 8 * 6 + 5 * 3 + 5 := by rw [← hP]; simp; omega
            have hnx : P1 ++ colsQ 1 i 1 (j + 1) = P ++ [⟨i, 1, 1 + (j : Int)⟩] := by rw [← hP, colsQ_succ, List.append_assoc]
            rw [hP] at f8 f22
            rw [hnx]
            clear hP hnx
            have hhas : ∀ (x w : Int) (K : AV → Prop) (tg : Tg K), CW env 62 [.int .i64 1, .int .i64 x, .int .i64 w] K tg ↔ K (.bool (tst 1 x w)) := fun x w K tg => callsTo_iff (by simpa using l16Has_c (k := 1) (x := x) (v := w) (by omega))
            repeat' (first | (apply brI <;> intro hb hb2 <;> (try simp [-Int.not_le, -Int.not_lt, -Nat.not_le, -Nat.not_lt, -Nat.add_left_cancel_iff] at hb2)) | (refine draw_listA (by rfl) (by kernel_rfl) ?_) | (refine draw_listB (by simp [allocsOf, isAlloc]; rfl) (by kernel_rfl) ?_) | simp (maxSteps := 2000000) (disch := first | omega | assumption | simp [*]) [*, -Int.not_le, -Int.not_lt, -Nat.not_le, -Nat.not_lt, -Nat.add_left_cancel_iff, wrap_i64, wrap_u64, r13, r12, r10, r9, r1, r2, r3, r6, r8, f3, f6, f8])
            refine W_loopG (xssOf v).length (fun r st h => st 14 = .int .i64 r ∧ st 13 = .int .i64 (1 + (j : Int)) ∧ st 12 = .int .i64 (1 + (N : Int) - 1) ∧ st 10 = .int .i64 1 ∧ st 9 = .int .i64 i ∧ ScS st 1 ∧
              h 3 = some (.var 0 38 (.agg [u, v])) ∧ h 6 = some (.var 0 26 (.agg [.int .i64 0, .sl 0 .lit []])) ∧ h 8 = some (.var 0 26 (.agg [.int .i64 P.length, .ms 22 0 0 (xssOf v).length])) ∧
              h 22 = some (.row 0 3 1 (ints (tab (fun r' => if r' < r then rowP (P ++ [⟨i, 1, 1 + (j : Int)⟩]) (nthL (xssOf v) r') else rowP P (nthL (xssOf v) r')) (xssOf v).length)))) ?_ ?_
            · refine ⟨by simp, by simp [r13], by simp [r12], by simp [r10], by simp [r9], ⟨by simp [r1], by simp [r2], by simp [r3], by simp [r6], by simp [r8]⟩, f3, f6, f8, by simpa using f22⟩
            rintro r st4 h4 hr ⟨w14, w13, w12, w10, w9, ⟨w1, w2, w3, w6, w8⟩, g3, g6, g8, g22⟩
            by_cases hc6 : P.length < 6
            · have hc6i : (P.length : Int) < 6 := by omega
              by_cases hr2 : r < (xssOf v).length
              · have hrr := hv.row r hr2
                have hxr := xssOf_row hr2
                have hrl : (xsOf (rowOf v r)).length = (xsOf u).length := by rw [hxr]; exact (hp.2.2.2 r hr2).1
                have hil : i < (xsOf (rowOf v r)).length := by omega
                obtain ⟨b1, b2⟩ := rowP_range P (nthL (xssOf v) r)
                have hpw := pow_small (i := P.length) (by omega)
                have hor := fun h => rowP_or (c := ⟨i, 1, 1 + (j : Int)⟩) (row := nthL (xssOf v) r) hc6 h
                have hsk := fun h => rowP_skip (c := ⟨i, 1, 1 + (j : Int)⟩) (row := nthL (xssOf v) r) hc6 h
                have hhc : hasC (nthL (xssOf v) r) ⟨i, 1, 1 + (j : Int)⟩ = tst 1 (nth (xsOf (rowOf v r)) i) (1 + (j : Int)) := by rw [hxr]; rfl
                rw [hhc] at hor hsk
                obtain ⟨tb, htb⟩ : ∃ tb, tst 1 (nth (xsOf (rowOf v r)) i) (1 + (j : Int)) = tb := ⟨_, rfl⟩
                rw [htb] at hor hsk
                clear hhc hp
                have hpn : ¬ ((2 : Int) ^ P.length < 0) := by omega
                repeat' (first | (apply brI <;> intro hb hb2 <;> (try simp [-Int.not_le, -Int.not_lt, -Nat.not_le, -Nat.not_lt, -Nat.add_left_cancel_iff] at hb2)) | (refine draw_listA (by rfl) (by kernel_rfl) ?_) | (refine draw_listB (by simp [allocsOf, isAlloc]; rfl) (by kernel_rfl) ?_) | simp (maxSteps := 2000000) (disch := first | omega | assumption | simp [*]) [*, -Int.not_le, -Int.not_lt, -Nat.not_le, -Nat.not_lt, -Nat.add_left_cancel_iff, wrap_i64, wrap_u64, w14, w13, w12, w10, w9, w1, w2, w3, w6, w8, g3, g6, g8, g22, hhas, htb, isLL_len hv, isLL_index hv, isLL_load hv, isI_index hrr, isI_load hrr, tab_nth, tab_set, bits_or, pow_toNat])
                · refine ⟨⟨by simp [w1], by simp [w2], by simp [w3], by simp [w6], by simp [w8]⟩, tab_congr fun q hq => ?_⟩
                  by_cases e : q = r
                  · subst e; simp; exact hor (by rw [← htb, hxr]; assumption)
                  · simp only [e, if_false]
                    by_cases e2 : q < r
                    · rw [if_pos e2, if_pos (by omega)]
                    · rw [if_neg e2, if_neg (by omega)]
                · refine ⟨⟨by simp [w1], by simp [w2], by simp [w3], by simp [w6], by simp [w8]⟩, tab_congr fun q hq => ?_⟩
                  by_cases e : q = r
                  · subst e; simp; exact hsk (by rw [← htb, hxr]; assumption)
                  · by_cases e2 : q < r
                    · rw [if_pos e2, if_pos (by omega)]
                    · rw [if_neg e2, if_neg (by omega)]
              · obtain rfl : r = (xssOf v).length := by omega
                have g22' : h4 22 = some (.row 0 3 1 (ints (tab (fun r' => rowP (P ++ [⟨i, 1, 1 + (j : Int)⟩]) (nthL (xssOf v) r')) (xssOf v).length))) := by
                  rw [g22, tab_congr (g' := fun r' => rowP (P ++ [⟨i, 1, 1 + (j : Int)⟩]) (nthL (xssOf v) r')) fun q hq => by simp [hq]]
                clear g22
                repeat' (first | (apply brI <;> intro hb hb2 <;> (try simp [-Int.not_le, -Int.not_lt, -Nat.not_le, -Nat.not_lt, -Nat.add_left_cancel_iff] at hb2)) | (refine draw_listA (by rfl) (by kernel_rfl) ?_) | (refine draw_listB (by simp [allocsOf, isAlloc]; rfl) (by kernel_rfl) ?_) | simp (maxSteps := 2000000) (disch := first | omega | assumption | simp [*]) [*, -Int.not_le, -Int.not_lt, -Nat.not_le, -Nat.not_lt, -Nat.add_left_cancel_iff, wrap_i64, wrap_u64, w14, w13, w12, w10, w9, w1, w2, w3, w6, w8, g3, g6, g8, isLL_len hv])
                exact ⟨by omega, ⟨by simp [w1], by simp [w2], by simp [w3], by simp [w6], by simp [w8]⟩, by simp [hset, g3], by simp [hset, g6], by simp [hset], by simp [hset, g22']⟩
            · have hc6i : ¬ (P.length : Int) < 6 := by omega
              have g22' : h4 22 = some (.row 0 3 1 (ints (tab (fun r' => rowP (P ++ [⟨i, 1, 1 + (j : Int)⟩]) (nthL (xssOf v) r')) (xssOf v).length))) := by
                rw [g22, tab_congr (g' := fun r' => rowP (P ++ [⟨i, 1, 1 + (j : Int)⟩]) (nthL (xssOf v) r')) fun q hq => by
                  split
                  · rfl
                  · exact (rowP_full _ _ hc6).symm]
              clear g22
              repeat' (first | (apply brI <;> intro hb hb2 <;> (try simp [-Int.not_le, -Int.not_lt, -Nat.not_le, -Nat.not_lt, -Nat.add_left_cancel_iff] at hb2)) | (refine draw_listA (by rfl) (by kernel_rfl) ?_) | (refine draw_listB (by simp [allocsOf, isAlloc]; rfl) (by kernel_rfl) ?_) | simp (maxSteps := 2000000) (disch := first | omega | assumption | simp [*]) [*, -Int.not_le, -Int.not_lt, -Nat.not_le, -Nat.not_lt, -Nat.add_left_cancel_iff, wrap_i64, wrap_u64, w14, w13, w12, w10, w9, w1, w2, w3, w6, w8, g3, g6, g8, isLL_len hv])
              all_goals exact ⟨by omega, ⟨by simp [w1], by simp [w2], by simp [w3], by simp [w6], by simp [w8]⟩, by simp [hset, g3], by simp [hset, g6], by simp [hset], by simp [hset, g22']⟩
          · obtain rfl : j = N := by omega
            have hle : ¬ 1 + (j : Int) ≤ 1 + (j : Int) - 1 := by omega
            repeat' (first | (apply brI <;> intro hb hb2 <;> (try simp [-Int.not_le, -Int.not_lt, -Nat.not_le, -Nat.not_lt, -Nat.add_left_cancel_iff] at hb2)) | (refine draw_listA (by rfl) (by kernel_rfl) ?_) | (refine draw_listB (by simp [allocsOf, isAlloc]; rfl) (by kernel_rfl) ?_) | simp (maxSteps := 2000000) (disch := first | omega | assumption | simp [*]) [*, -Int.not_le, -Int.not_lt, -Nat.not_le, -Nat.not_lt, -Nat.add_left_cancel_iff, wrap_i64, wrap_u64, r13, r12, r10, r9, r1, r2, r3, r6, r8, f3, f6, f8])
            exact ⟨⟨by simp [*], by simp [*], by simp [*], by simp [*], by simp [*]⟩, f3, f6, f8, f22⟩
        · repeat' (first | (apply brI <;> intro hb hb2 <;> (try simp [-Int.not_le, -Int.not_lt, -Nat.not_le, -Nat.not_lt, -Nat.add_left_cancel_iff] at hb2)) | (refine draw_listA (by rfl) (by kernel_rfl) ?_) | (refine draw_listB (by simp [allocsOf, isAlloc]; rfl) (by kernel_rfl) ?_) | simp (maxSteps := 2000000) (disch := first | omega | assumption | simp [*]) [*, -Int.not_le, -Int.not_lt, -Nat.not_le, -Nat.not_lt, -Nat.add_left_cancel_iff, wrap_i64, wrap_u64, q10, q9, q1, q2, q3, q6, q8, d3, d6, d8])
          exact ⟨⟨by simp [*], by simp [*], by simp [*], by simp [*], by simp [*]⟩, d3, d6, by simpa [colK, enK] using d8, by simpa [colK, enK] using d22⟩
        · repeat' (first | (apply brI <;> intro hb hb2 <;> (try simp [-Int.not_le, -Int.not_lt, -Nat.not_le, -Nat.not_lt, -Nat.add_left_cancel_iff] at hb2)) | (refine draw_listA (by rfl) (by kernel_rfl) ?_) | (refine draw_listB (by simp [allocsOf, isAlloc]; rfl) (by kernel_rfl) ?_) | simp (maxSteps := 2000000) (disch := first | omega | assumption | simp [*]) [*, -Int.not_le, -Int.not_lt, -Nat.not_le, -Nat.not_lt, -Nat.add_left_cancel_iff, wrap_i64, wrap_u64, q10, q9, q1, q2, q3, q6, q8, d3, d6, d8])
          exact ⟨⟨by simp [*], by simp [*], by simp [*], by simp [*], by simp [*]⟩, d3, d6, by simpa [colK, enK] using d8, by simpa [colK, enK] using d22⟩
        · have hck : colK 2 i 1 y = colsQ 1 i 1 (y - 1).toNat := by simp [colK, enK, loK, nK]
          rw [hck]
          have hN : nK 1 y = (y - 1).toNat := by simp [nK]
          rw [hN] at hnkk
          clear hN hck
          obtain ⟨N, hN⟩ : ∃ N, (y - 1).toNat = N := ⟨_, rfl⟩
          have hNy : y - 1 = 1 + (N : Int) - 1 := by omega
          rw [hN] at hnkk
          rw [hN]
          repeat' (first | (apply brI <;> intro hb hb2 <;> (try simp [-Int.not_le, -Int.not_lt, -Nat.not_le, -Nat.not_lt, -Nat.add_left_cancel_iff] at hb2)) | (refine draw_listA (by rfl) (by kernel_rfl) ?_) | (refine draw_listB (by simp [allocsOf, isAlloc]; rfl) (by kernel_rfl) ?_) | simp (maxSteps := 2000000) (disch := first | omega | assumption | simp [*]) [*, -Int.not_le, -Int.not_lt, -Nat.not_le, -Nat.not_lt, -Nat.add_left_cancel_iff, wrap_i64, wrap_u64, q10, q9, q1, q2, q3, q6, q8, d3, d6, d8, isI_index hu, isI_load hu, isI_len hu, hy])
          refine W_loopG N (fun j st h => st 13 = .int .i64 (1 + (j : Int)) ∧ st 12 = .int .i64 (1 + (N : Int) - 1) ∧ st 10 = .int .i64 1 ∧ st 9 = .int .i64 i ∧ ScS st 2 ∧ ScH h u v (P1 ++ colsQ 1 i 1 j)) ?_ ?_
          · refine ⟨by simp, by simp <;> omega, by simp [q10], by simp [q9], ⟨by simp [q1], by simp [q2], by simp [q3], by simp [q6], by simp [q8]⟩, d3, d6, by simpa [colsQ] using d8, by simpa [colsQ] using d22⟩
          rintro j st3 h3 hj ⟨r13, r12, r10, r9, ⟨r1, r2, r3, r6, r8⟩, f3, f6, f8, f22⟩
          by_cases hj2 : j < N
          · have hle : 1 + (j : Int) ≤ 1 + (N : Int) - 1 := by omega
            obtain ⟨P, hP⟩ : ∃ P, P1 ++ colsQ 1 i 1 j = P := ⟨_, rfl⟩
            have hPl2 : P.length ≤ 8 * 6 + 5 * 3 + 5 := by rw [← hP]; simp; omega
            have hnx : P1 ++ colsQ 1 i 1 (j + 1) = P ++ [⟨i, 1, 1 + (j : Int)⟩] := by rw [← hP, colsQ_succ, List.append_assoc]
            rw [hP] at f8 f22
            rw [hnx]
            clear hP hnx
            have hhas : ∀ (x w : Int) (K : AV → Prop) (tg : Tg K), CW env 62 [.int .i64 1, .int .i64 x, .int .i64 w] K tg ↔ K (.bool (tst 1 x w)) := fun x w K tg => callsTo_iff (by simpa using l16Has_c (k := 1) (x := x) (v := w) (by omega))
            repeat' (first | (apply brI <;> intro hb hb2 <;> (try simp [-Int.not_le, -Int.not_lt, -Nat.not_le, -Nat.not_lt, -Nat.add_left_cancel_iff] at hb2)) | (refine draw_listA (by rfl) (by kernel_rfl) ?_) | (refine draw_listB (by simp [allocsOf, isAlloc]; rfl) (by kernel_rfl) ?_) | simp (maxSteps := 2000000) (disch := first | omega | assumption | simp [*]) [*, -Int.not_le, -Int.not_lt, -Nat.not_le, -Nat.not_lt, -Nat.add_left_cancel_iff, wrap_i64, wrap_u64, r13, r12, r10, r9, r1, r2, r3, r6, r8, f3, f6, f8])
            refine W_loopG (xssOf v).length (fun r st h => st 14 = .int .i64 r ∧ st 13 = .int .i64 (1 + (j : Int)) ∧ st 12 = .int .i64 (1 + (N : Int) - 1) ∧ st 10 = .int .i64 1 ∧ st 9 = .int .i64 i ∧ ScS st 2 ∧
              h 3 = some (.var 0 38 (.agg [u, v])) ∧ h 6 = some (.var 0 26 (.agg [.int .i64 0, .sl 0 .lit []])) ∧ h 8 = some (.var 0 26 (.agg [.int .i64 P.length, .ms 22 0 0 (xssOf v).length])) ∧
              h 22 = some (.row 0 3 1 (ints (tab (fun r' => if r' < r then rowP (P ++ [⟨i, 1, 1 + (j : Int)⟩]) (nthL (xssOf v) r') else rowP P (nthL (xssOf v) r')) (xssOf v).length)))) ?_ ?_
            · refine ⟨by simp, by simp [r13], by simp [r12], by simp [r10], by simp [r9], ⟨by simp [r1], by simp [r2], by simp [r3], by simp [r6], by simp [r8]⟩, f3, f6, f8, by simpa using f22⟩
            rintro r st4 h4 hr ⟨w14, w13, w12, w10, w9, ⟨w1, w2, w3, w6, w8⟩, g3, g6, g8, g22⟩
            by_cases hc6 : P.length < 6
            · have hc6i : (P.length : Int) < 6 := by omega
              by_cases hr2 : r < (xssOf v).length
              · have hrr := hv.row r hr2
                have hxr := xssOf_row hr2
                have hrl : (xsOf (rowOf v r)).length = (xsOf u).length := by rw [hxr]; exact (hp.2.2.2 r hr2).1
                have hil : i < (xsOf (rowOf v r)).length := by omega
                obtain ⟨b1, b2⟩ := rowP_range P (nthL (xssOf v) r)
                have hpw := pow_small (i := P.length) (by omega)
                have hor := fun h => rowP_or (c := ⟨i, 1, 1 + (j : Int)⟩) (row := nthL (xssOf v) r) hc6 h
                have hsk := fun h => rowP_skip (c := ⟨i, 1, 1 + (j : Int)⟩) (row := nthL (xssOf v) r) hc6 h
                have hhc : hasC (nthL (xssOf v) r) ⟨i, 1, 1 + (j : Int)⟩ = tst 1 (nth (xsOf (rowOf v r)) i) (1 + (j : Int)) := by rw [hxr]; rfl
                rw [hhc] at hor hsk
                obtain ⟨tb, htb⟩ : ∃ tb, tst 1 (nth (xsOf (rowOf v r)) i) (1 + (j : Int)) = tb := ⟨_, rfl⟩
                rw [htb] at hor hsk
                clear hhc hp
                have hpn : ¬ ((2 : Int) ^ P.length < 0) := by omega
                repeat' (first | (apply brI <;> intro hb hb2 <;> (try simp [-Int.not_le, -Int.not_lt, -Nat.not_le, -Nat.not_lt, -Nat.add_left_cancel_iff] at hb2)) | (refine draw_listA (by rfl) (by kernel_rfl) ?_) | (refine draw_listB (by simp [allocsOf, isAlloc]; rfl) (by kernel_rfl) ?_) | simp (maxSteps := 2000000) (disch := first | omega | assumption | simp [*]) [*, -Int.not_le, -Int.not_lt, -Nat.not_le, -Nat.not_lt, -Nat.add_left_cancel_iff, wrap_i64, wrap_u64, w14, w13, w12, w10, w9, w1, w2, w3, w6, w8, g3, g6, g8, g22, hhas, htb, isLL_len hv, isLL_index hv, isLL_load hv, isI_index hrr, isI_load hrr, tab_nth, tab_set, bits_or, pow_toNat])
                · refine ⟨⟨by simp [w1], by simp [w2], by simp [w3], by simp [w6], by simp [w8]⟩, tab_congr fun q hq => ?_⟩
                  by_cases e : q = r
                  · subst e; simp; exact hor (by rw [← htb, hxr]; assumption)
                  · simp only [e, if_false]
                    by_cases e2 : q < r
                    · rw [if_pos e2, if_pos (by omega)]
                    · rw [if_neg e2, if_neg (by omega)]
                · refine ⟨⟨by simp [w1], by simp [w2], by simp [w3], by simp [w6], by simp [w8]⟩, tab_congr fun q hq => ?_⟩
                  by_cases e : q = r
                  · subst e; simp; exact hsk (by rw [← htb, hxr]; assumption)
                  · by_cases e2 : q < r
                    · rw [if_pos e2, if_pos (by omega)]
                    · rw [if_neg e2, if_neg (by omega)]
              · obtain rfl : r = (xssOf v).length := by omega
                have g22' : h4 22 = some (.row 0 3 1 (ints (tab (fun r' => rowP (P ++ [⟨i, 1, 1 + (j : Int)⟩]) (nthL (xssOf v) r')) (xssOf v).length))) := by
                  rw [g22, tab_congr (g' := fun r' => rowP (P ++ [⟨i, 1, 1 + (j : Int)⟩]) (nthL (xssOf v) r')) fun q hq => by simp [hq]]
                clear g22
                repeat' (first | (apply brI <;> intro hb hb2 <;> (try simp [-Int.not_le, -Int.not_lt, -Nat.not_le, -Nat.not_lt, -Nat.add_left_cancel_iff] at hb2)) | (refine draw_listA (by rfl) (by kernel_rfl) ?_) | (refine draw_listB (by simp [allocsOf, isAlloc]; rfl) (by kernel_rfl) ?_) | simp (maxSteps := 2000000) (disch := first | omega | assumption | simp [*]) [*, -Int.not_le, -Int.not_lt, -Nat.not_le, -Nat.not_lt, -Nat.add_left_cancel_iff, wrap_i64, wrap_u64, w14, w13, w12, w10, w9, w1, w2, w3, w6, w8, g3, g6, g8, isLL_len hv])
                exact ⟨by omega, ⟨by simp [w1], by simp [w2], by simp [w3], by simp [w6], by simp [w8]⟩, by simp [hset, g3], by simp [hset, g6], by simp [hset], by simp [hset, g22']⟩
            · have hc6i : ¬ (P.length : Int) < 6 := by omega
              have g22' : h4 22 = some (.row 0 3 1 (ints (tab (fun r' => rowP (P ++ [⟨i, 1, 1 + (j : Int)⟩]) (nthL (xssOf v) r')) (xssOf v).length))) := by
                rw [g22, tab_congr (g' := fun r' => rowP (P ++ [⟨i, 1, 1 + (j : Int)⟩]) (nthL (xssOf v) r')) fun q hq => by
                  split
                  · rfl
                  · exact (rowP_full _ _ hc6).symm]
              clear g22
              repeat' (first | (apply brI <;> intro hb hb2 <;> (try simp [-Int.not_le, -Int.not_lt, -Nat.not_le, -Nat.not_lt, -Nat.add_left_cancel_iff] at hb2)) | (refine draw_listA (by rfl) (by kernel_rfl) ?_) | (refine draw_listB (by simp [allocsOf, isAlloc]; rfl) (by kernel_rfl) ?_) | simp (maxSteps := 2000000) (disch := first | omega | assumption | simp [*]) [*, -Int.not_le, -Int.not_lt, -Nat.not_le, -Nat.not_lt, -Nat.add_left_cancel_iff, wrap_i64, wrap_u64, w14, w13, w12, w10, w9, w1, w2, w3, w6, w8, g3, g6, g8, isLL_len hv])
              all_goals exact ⟨by omega, ⟨by simp [w1], by simp [w2], by simp [w3], by simp [w6], by simp [w8]⟩, by simp [hset, g3], by simp [hset, g6], by simp [hset], by simp [hset, g22']⟩
          · obtain rfl : j = N := by omega
            have hle : ¬ 1 + (j : Int) ≤ 1 + (j : Int) - 1 := by omega
            repeat' (first | (apply brI <;> intro hb hb2 <;> (try simp [-Int.not_le, -Int.not_lt, -Nat.not_le, -Nat.not_lt, -Nat.add_left_cancel_iff] at hb2)) | (refine draw_listA (by rfl) (by kernel_rfl) ?_) | (refine draw_listB (by simp [allocsOf, isAlloc]; rfl) (by kernel_rfl) ?_) | simp (maxSteps := 2000000) (disch := first | omega | assumption | simp [*]) [*, -Int.not_le, -Int.not_lt, -Nat.not_le, -Nat.not_lt, -Nat.add_left_cancel_iff, wrap_i64, wrap_u64, r13, r12, r10, r9, r1, r2, r3, r6, r8, f3, f6, f8])
            exact ⟨⟨by simp [*], by simp [*], by simp [*], by simp [*], by simp [*]⟩, f3, f6, f8, f22⟩
        · have hck : colK 2 i 2 y = colsQ 2 i 0 (y - 1).toNat := by simp [colK, enK, loK, nK]
          rw [hck]
          have hN : nK 2 y = (y - 1).toNat := by simp [nK]
          rw [hN] at hnkk
          clear hN hck
          obtain ⟨N, hN⟩ : ∃ N, (y - 1).toNat = N := ⟨_, rfl⟩
          have hNy : y - 2 = 0 + (N : Int) - 1 := by omega
          rw [hN] at hnkk
          rw [hN]
          repeat' (first | (apply brI <;> intro hb hb2 <;> (try simp [-Int.not_le, -Int.not_lt, -Nat.not_le, -Nat.not_lt, -Nat.add_left_cancel_iff] at hb2)) | (refine draw_listA (by rfl) (by kernel_rfl) ?_) | (refine draw_listB (by simp [allocsOf, isAlloc]; rfl) (by kernel_rfl) ?_) | simp (maxSteps := 2000000) (disch := first | omega | assumption | simp [*]) [*, -Int.not_le, -Int.not_lt, -Nat.not_le, -Nat.not_lt, -Nat.add_left_cancel_iff, wrap_i64, wrap_u64, q10, q9, q1, q2, q3, q6, q8, d3, d6, d8, isI_index hu, isI_load hu, isI_len hu, hy])
          refine W_loopG N (fun j st h => st 13 = .int .i64 ((j : Int)) ∧ st 12 = .int .i64 ((N : Int) - 1) ∧ st 10 = .int .i64 2 ∧ st 9 = .int .i64 i ∧ ScS st 2 ∧ ScH h u v (P1 ++ colsQ 2 i 0 j)) ?_ ?_
          · refine ⟨by simp, by simp <;> omega, by simp [q10], by simp [q9], ⟨by simp [q1], by simp [q2], by simp [q3], by simp [q6], by simp [q8]⟩, d3, d6, by simpa [colsQ] using d8, by simpa [colsQ] using d22⟩
          rintro j st3 h3 hj ⟨r13, r12, r10, r9, ⟨r1, r2, r3, r6, r8⟩, f3, f6, f8, f22⟩
          by_cases hj2 : j < N
          · have hle : (j : Int) ≤ (N : Int) - 1 := by omega
            obtain ⟨P, hP⟩ : ∃ P, P1 ++ colsQ 2 i 0 j = P := ⟨_, rfl⟩
            have hPl2 : P.length ≤ 8 * 6 + 5 * 3 + 5 := by rw [← hP]; simp; omega
            have hnx : P1 ++ colsQ 2 i 0 (j + 1) = P ++ [⟨i, 2, (j : Int)⟩] := by rw [← hP, colsQ_succ, List.append_assoc]; simp
            rw [hP] at f8 f22
            rw [hnx]
            clear hP hnx
            have hhas : ∀ (x w : Int) (K : AV → Prop) (tg : Tg K), CW env 62 [.int .i64 2, .int .i64 x, .int .i64 w] K tg ↔ K (.bool (tst 2 x w)) := fun x w K tg => callsTo_iff (by simpa using l16Has_c (k := 2) (x := x) (v := w) (by omega))
            repeat' (first | (apply brI <;> intro hb hb2 <;> (try simp [-Int.not_le, -Int.not_lt, -Nat.not_le, -Nat.not_lt, -Nat.add_left_cancel_iff] at hb2)) | (refine draw_listA (by rfl) (by kernel_rfl) ?_) | (refine draw_listB (by simp [allocsOf, isAlloc]; rfl) (by kernel_rfl) ?_) | simp (maxSteps := 2000000) (disch := first | omega | assumption | simp [*]) [*, -Int.not_le, -Int.not_lt, -Nat.not_le, -Nat.not_lt, -Nat.add_left_cancel_iff, wrap_i64, wrap_u64, r13, r12, r10, r9, r1, r2, r3, r6, r8, f3, f6, f8])
            refine W_loopG (xssOf v).length (fun r st h => st 14 = .int .i64 r ∧ st 13 = .int .i64 ((j : Int)) ∧ st 12 = .int .i64 ((N : Int) - 1) ∧ st 10 = .int .i64 2 ∧ st 9 = .int .i64 i ∧ ScS st 2 ∧
              h 3 = some (.var 0 38 (.agg [u, v])) ∧ h 6 = some (.var 0 26 (.agg [.int .i64 0, .sl 0 .lit []])) ∧ h 8 = some (.var 0 26 (.agg [.int .i64 P.length, .ms 22 0 0 (xssOf v).length])) ∧
              h 22 = some (.row 0 3 1 (ints (tab (fun r' => if r' < r then rowP (P ++ [⟨i, 2, (j : Int)⟩]) (nthL (xssOf v) r') else rowP P (nthL (xssOf v) r')) (xssOf v).length)))) ?_ ?_
            · refine ⟨by simp, by simp [r13], by simp [r12], by simp [r10], by simp [r9], ⟨by simp [r1], by simp [r2], by simp [r3], by simp [r6], by simp [r8]⟩, f3, f6, f8, by simpa using f22⟩
            rintro r st4 h4 hr ⟨w14, w13, w12, w10, w9, ⟨w1, w2, w3, w6, w8⟩, g3, g6, g8, g22⟩
            by_cases hc6 : P.length < 6
            · have hc6i : (P.length : Int) < 6 := by omega
              by_cases hr2 : r < (xssOf v).length
              · have hrr := hv.row r hr2
                have hxr := xssOf_row hr2
                have hrl : (xsOf (rowOf v r)).length = (xsOf u).length := by rw [hxr]; exact (hp.2.2.2 r hr2).1
                have hil : i < (xsOf (rowOf v r)).length := by omega
                obtain ⟨b1, b2⟩ := rowP_range P (nthL (xssOf v) r)
                have hpw := pow_small (i := P.length) (by omega)
                have hor := fun h => rowP_or (c := ⟨i, 2, (j : Int)⟩) (row := nthL (xssOf v) r) hc6 h
                have hsk := fun h => rowP_skip (c := ⟨i, 2, (j : Int)⟩) (row := nthL (xssOf v) r) hc6 h
                have hhc : hasC (nthL (xssOf v) r) ⟨i, 2, (j : Int)⟩ = tst 2 (nth (xsOf (rowOf v r)) i) ((j : Int)) := by rw [hxr]; rfl
                rw [hhc] at hor hsk
                obtain ⟨tb, htb⟩ : ∃ tb, tst 2 (nth (xsOf (rowOf v r)) i) ((j : Int)) = tb := ⟨_, rfl⟩
                rw [htb] at hor hsk
                clear hhc hp
                have hpn : ¬ ((2 : Int) ^ P.length < 0) := by omega
                repeat' (first | (apply brI <;> intro hb hb2 <;> (try simp [-Int.not_le, -Int.not_lt, -Nat.not_le, -Nat.not_lt, -Nat.add_left_cancel_iff] at hb2)) | (refine draw_listA (by rfl) (by kernel_rfl) ?_) | (refine draw_listB (by simp [allocsOf, isAlloc]; rfl) (by kernel_rfl) ?_) | simp (maxSteps := 2000000) (disch := first | omega | assumption | simp [*]) [*, -Int.not_le, -Int.not_lt, -Nat.not_le, -Nat.not_lt, -Nat.add_left_cancel_iff, wrap_i64, wrap_u64, w14, w13, w12, w10, w9, w1, w2, w3, w6, w8, g3, g6, g8, g22, hhas, htb, isLL_len hv, isLL_index hv, isLL_load hv, isI_index hrr, isI_load hrr, tab_nth, tab_set, bits_or, pow_toNat])
                · refine ⟨⟨by simp [w1], by simp [w2], by simp [w3], by simp [w6], by simp [w8]⟩, tab_congr fun q hq => ?_⟩
                  by_cases e : q = r
                  · subst e; simp; exact hor (by rw [← htb, hxr]; assumption)
                  · simp only [e, if_false]
                    by_cases e2 : q < r
                    · rw [if_pos e2, if_pos (by omega)]
                    · rw [if_neg e2, if_neg (by omega)]
                · refine ⟨⟨by simp [w1], by simp [w2], by simp [w3], by simp [w6], by simp [w8]⟩, tab_congr fun q hq => ?_⟩
                  by_cases e : q = r
                  · subst e; simp; exact hsk (by rw [← htb, hxr]; assumption)
                  · by_cases e2 : q < r
                    · rw [if_pos e2, if_pos (by omega)]
                    · rw [if_neg e2, if_neg (by omega)]
              · obtain rfl : r = (xssOf v).length := by omega
                have g22' : h4 22 = some (.row 0 3 1 (ints (tab (fun r' => rowP (P ++ [⟨i, 2, (j : Int)⟩]) (nthL (xssOf v) r')) (xssOf v).length))) := by
                  rw [g22, tab_congr (g' := fun r' => rowP (P ++ [⟨i, 2, (j : Int)⟩]) (nthL (xssOf v) r')) fun q hq => by simp [hq]]
                clear g22
                repeat' (first | (apply brI <;> intro hb hb2 <;> (try simp [-Int.not_le, -Int.not_lt, -Nat.not_le, -Nat.not_lt, -Nat.add_left_cancel_iff] at hb2)) | (refine draw_listA (by rfl) (by kernel_rfl) ?_) | (refine draw_listB (by simp [allocsOf, isAlloc]; rfl) (by kernel_rfl) ?_) | simp (maxSteps := 2000000) (disch := first | omega | assumption | simp [*]) [*, -Int.not_le, -Int.not_lt, -Nat.not_le, -Nat.not_lt, -Nat.add_left_cancel_iff, wrap_i64, wrap_u64, w14, w13, w12, w10, w9, w1, w2, w3, w6, w8, g3, g6, g8, isLL_len hv])
                exact ⟨⟨by simp [w1], by simp [w2], by simp [w3], by simp [w6], by simp [w8]⟩, by simp [hset, g3], by simp [hset, g6], by simp [hset], by simp [hset, g22']⟩
            · have hc6i : ¬ (P.length : Int) < 6 := by omega
              have g22' : h4 22 = some (.row 0 3 1 (ints (tab (fun r' => rowP (P ++ [⟨i, 2, (j : Int)⟩]) (nthL (xssOf v) r')) (xssOf v).length))) := by
                rw [g22, tab_congr (g' := fun r' => rowP (P ++ [⟨i, 2, (j : Int)⟩]) (nthL (xssOf v) r')) fun q hq => by
                  split
                  · rfl
                  · exact (rowP_full _ _ hc6).symm]
              clear g22
              repeat' (first | (apply brI <;> intro hb hb2 <;> (try simp [-Int.not_le, -Int.not_lt, -Nat.not_le, -Nat.not_lt, -Nat.add_left_cancel_iff] at hb2)) | (refine draw_listA (by rfl) (by kernel_rfl) ?_) | (refine draw_listB (by simp [allocsOf, isAlloc]; rfl) (by kernel_rfl) ?_) | simp (maxSteps := 2000000) (disch := first | omega | assumption | simp [*]) [*, -Int.not_le, -Int.not_lt, -Nat.not_le, -Nat.not_lt, -Nat.add_left_cancel_iff, wrap_i64, wrap_u64, w14, w13, w12, w10, w9, w1, w2, w3, w6, w8, g3, g6, g8, isLL_len hv])
              all_goals exact ⟨⟨by simp [w1], by simp [w2], by simp [w3], by simp [w6], by simp [w8]⟩, by simp [hset, g3], by simp [hset, g6], by simp [hset], by simp [hset, g22']⟩
          · obtain rfl : j = N := by omega
            have hle : ¬ (j : Int) ≤ (j : Int) - 1 := by omega
            repeat' (first | (apply brI <;> intro hb hb2 <;> (try simp [-Int.not_le, -Int.not_lt, -Nat.not_le, -Nat.not_lt, -Nat.add_left_cancel_iff] at hb2)) | (refine draw_listA (by rfl) (by kernel_rfl) ?_) | (refine draw_listB (by simp [allocsOf, isAlloc]; rfl) (by kernel_rfl) ?_) | simp (maxSteps := 2000000) (disch := first | omega | assumption | simp [*]) [*, -Int.not_le, -Int.not_lt, -Nat.not_le, -Nat.not_lt, -Nat.add_left_cancel_iff, wrap_i64, wrap_u64, r13, r12, r10, r9, r1, r2, r3, r6, r8, f3, f6, f8])
            exact ⟨⟨by simp [*], by simp [*], by simp [*], by simp [*], by simp [*]⟩, f3, f6, f8, f22⟩
      · obtain rfl : k = 3 := by omega
        repeat' (first | (apply brI <;> intro hb hb2 <;> (try simp [-Int.not_le, -Int.not_lt, -Nat.not_le, -Nat.not_lt, -Nat.add_left_cancel_iff] at hb2)) | (refine draw_listA (by rfl) (by kernel_rfl) ?_) | (refine draw_listB (by simp [allocsOf, isAlloc]; rfl) (by kernel_rfl) ?_) | simp (maxSteps := 2000000) (disch := first | omega | assumption | simp [*]) [*, -Int.not_le, -Int.not_lt, -Nat.not_le, -Nat.not_lt, -Nat.add_left_cancel_iff, wrap_i64, wrap_u64, q10, q9, q1, q2, q3, q6, q8, d3, d6, d8])
        exact ⟨⟨by simp [q1], by simp [q2], by simp [q3], by simp [q6], by simp [q8]⟩, d3, d6, d8, d22⟩
    · obtain rfl : i = (xsOf u).length := by omega
      by_cases hc6 : (allC s (xsOf u) (xsOf u).length).length ≤ 6
      · have hS : ScC s (xsOf u) (xssOf v) := ⟨hp, hc6⟩
        have hc7 : ¬ (6 : Int) < (((allC s (xsOf u) (xsOf u).length).length : Nat) : Int) := by omega
        have hrow : tab (fun r => rowP (allC s (xsOf u) (xsOf u).length) (nthL (xssOf v) r)) (xssOf v).length = scR s (xsOf u) (xssOf v) := by
          unfold scR
          refine tab_congr fun q hq => ?_
          unfold rowP
          rw [show min (allC s (xsOf u) (xsOf u).length).length 6 = (allC s (xsOf u) (xsOf u).length).length by omega]
        have hrl : (scR s (xsOf u) (xssOf v)).length = (xssOf v).length := by unfold scR; simp
        rw [hrow] at e22
        clear hrow
        repeat' (first | (apply brI <;> intro hb hb2 <;> (try simp [-Int.not_le, -Int.not_lt, -Nat.not_le, -Nat.not_lt, -Nat.add_left_cancel_iff] at hb2)) | (refine draw_listA (by rfl) (by kernel_rfl) ?_) | (refine draw_listB (by simp [allocsOf, isAlloc]; rfl) (by kernel_rfl) ?_) | simp (maxSteps := 2000000) (disch := first | omega | assumption | simp [*]) [*, -Int.not_le, -Int.not_lt, -Nat.not_le, -Nat.not_lt, -Nat.add_left_cancel_iff, wrap_i64, wrap_u64, k9, k1, k2, k3, k6, k8, e3, e6, e8, isI_len hu])
        rw [expo_row (es := ints (scR s (xsOf u) (xssOf v))) (T := 3) (k := 1) (by simp [hset, e22]) (by simp) (by simp) (by simpa using hrl)]
      · have hS : ¬ ScC s (xsOf u) (xssOf v) := fun h => hc6 h.2
        have hc7 : (6 : Int) < (((allC s (xsOf u) (xsOf u).length).length : Nat) : Int) := by omega
        repeat' (first | (apply brI <;> intro hb hb2 <;> (try simp [-Int.not_le, -Int.not_lt, -Nat.not_le, -Nat.not_lt, -Nat.add_left_cancel_iff] at hb2)) | (refine draw_listA (by rfl) (by kernel_rfl) ?_) | (refine draw_listB (by simp [allocsOf, isAlloc]; rfl) (by kernel_rfl) ?_) | simp (maxSteps := 2000000) (disch := first | omega | assumption | simp [*]) [*, -Int.not_le, -Int.not_lt, -Nat.not_le, -Nat.not_lt, -Nat.add_left_cancel_iff, wrap_i64, wrap_u64, k9, k1, k2, k3, k6, k8, e3, e6, e8, isI_len hu, hS])
  · have hS : ¬ ScC s (xsOf u) (xssOf v) := fun h => hp h.1
    repeat' (first | (apply brI <;> intro hb hb2 <;> (try simp [-Int.not_le, -Int.not_lt, -Nat.not_le, -Nat.not_lt, -Nat.add_left_cancel_iff] at hb2)) | (refine draw_listA (by rfl) (by kernel_rfl) ?_) | (refine draw_listB (by simp [allocsOf, isAlloc]; rfl) (by kernel_rfl) ?_) | simp (maxSteps := 2000000) (disch := first | omega | assumption | simp [*]) [*, -Int.not_le, -Int.not_lt, -Nat.not_le, -Nat.not_lt, -Nat.add_left_cancel_iff, wrap_i64, wrap_u64, Try.f45, hp, hS, isI_cells hu, isI_one hu, isI_low hu, isI_len hu, isLL_cells hv, isLL_one hv, isLL_low hv, isLL_len hv])
theorem l16Scale_s {u v : AV} {s : Nat} (hu : IsI u) (hv : IsLL v) (hs : s ≤ 2) {K : AV → Prop} {tg : Tg K} : CW env 45 [.agg [u, v], .bool (decide (s = 0)), .bool (decide (s = 2))] K tg ↔ K (.tup [.agg [.int .i64 (if ScC s (xsOf u) (xssOf v) then ((allC s (xsOf u) (xsOf u).length).length : Nat) else (0 : Nat)), if ScC s (xsOf u) (xssOf v) then rowR 1 3 22 (ints (scR s (xsOf u) (xssOf v))) else .sl 0 .lit []], .bool (decide (ScC s (xsOf u) (xssOf v)))]) := callsTo_iff (l16Scale_c hu hv hs)
attribute [simp] l16Scale_s
end Go.Proofs.Ytppfgokonlloaaa
