/- The completions of partial contexts. Conditions: none. -/
import Derived.Test.YtkkkgaapkibhkaaPart2
import Derived.Test.YtkkkgaapkibhkaaInt
import Derived.Test.YtkkkgaapkibhkaaAcc
import Derived.Test.YtkkkgaapkibhkaaRec
namespace Go.Proofs.Ytkkkgaapkibhkaa
open Ev
set_option linter.unusedVariables false
set_option linter.unusedSimpArgs false
set_option maxHeartbeats 4000000

@[simp] theorem effx1 : (Eff.pure == Eff.read) = false := _root_.id rfl
@[simp] theorem effx2 : (Eff.write == Eff.read) = false := _root_.id rfl
@[simp] theorem effx3 : (Eff.read == Eff.read) = true := _root_.id rfl
/-- an open pair's number -/
def openIdx (ms : List Int) (g m : Nat) : Nat := opensTo ms g + (elemsTo (nth ms g) m).length
theorem elems_idx {s : Int} : ∀ (n j : Nat) (m : Nat), (elemsTo s n)[j]? = some (m : Int) → m < n ∧ PSet 8 s = true ∧ PHas s m = true ∧ (elemsTo s m).length = j
  | 0, j, m, h => by simp [elemsTo] at h
  | n + 1, j, m, h => by
    rw [elemsTo_succ] at h
    by_cases hj : j < (elemsTo s n).length
    · rw [List.getElem?_append_left hj] at h
      obtain ⟨a, b, c, d⟩ := elems_idx n j m h
      exact ⟨by omega, b, c, d⟩
    · rw [List.getElem?_append_right (by omega)] at h
      split at h
      · rename_i hc
        have hj2 : j - (elemsTo s n).length = 0 := by
          have := (List.getElem?_eq_some_iff.1 h).1; simp at this; omega
        rw [hj2] at h
        have hm : n = m := by have : (n : Int) = (m : Int) := by simpa using h
                              omega
        subst hm
        simp only [Bool.and_eq_true] at hc
        exact ⟨by omega, hc.1, by simpa using hc.2, by omega⟩
      · simp at h
theorem elems_at {s : Int} {m : Nat} (hs : PSet 8 s = true) (hm : PHas s m = true) : ∀ (n : Nat), m < n → (elemsTo s n)[(elemsTo s m).length]? = some (m : Int)
  | 0, h => by omega
  | n + 1, h => by
    rw [elemsTo_succ]
    by_cases e : m = n
    · subst e
      rw [List.getElem?_append_right (Nat.le_refl _)]
      simp [hs, hm]
    · have := elems_at hs hm n (by omega)
      rw [List.getElem?_append_left (List.getElem?_eq_some_iff.1 this).1]
      exact this
theorem pair_of {ms : List Int} : ∀ (G i : Nat), i < (pairsTo ms G).length → ∃ g m : Nat, (pairsTo ms G)[i]? = some (pairV g m) ∧ g < G ∧ m < 8 ∧ PSet 8 (nth ms g) = true ∧ PHas (nth ms g) m = true ∧ openIdx ms g m = i
  | 0, i, h => by simp [pairsTo] at h
  | G + 1, i, h => by
    by_cases hi : i < (pairsTo ms G).length
    · obtain ⟨g, m, h1, h2, h3⟩ := pair_of G i hi
      refine ⟨g, m, ?_, by omega, h3⟩
      simp only [pairsTo]
      rw [List.getElem?_append_left hi]; exact h1
    · simp only [pairsTo, List.length_append, List.length_map] at h
      have hl : i - (pairsTo ms G).length < (elemsTo (nth ms G) 8).length := by omega
      obtain ⟨m, hm, hm8, hs, hp⟩ := mem_elems hl
      have hg : (elemsTo (nth ms G) 8)[i - (pairsTo ms G).length]? = some (m : Int) := by rw [nth_get? hl, hm]
      obtain ⟨_, _, _, hid⟩ := elems_idx _ _ _ hg
      refine ⟨G, m, ?_, by omega, hm8, hs, hp, ?_⟩
      · simp only [pairsTo]
        rw [List.getElem?_append_right (by omega), List.getElem?_map, hg]; rfl
      · unfold openIdx; rw [hid, ← pairsTo_len]; omega
theorem pair_at {ms : List Int} {g m : Nat} (hs : PSet 8 (nth ms g) = true) (hm : PHas (nth ms g) m = true) : ∀ (G : Nat), g < G → (pairsTo ms G)[openIdx ms g m]? = some (pairV g m)
  | 0, h => by omega
  | G + 1, h => by
    have hm8 : m < 8 := by have := phas_lt hs hm; omega
    simp only [pairsTo]
    by_cases e : g = G
    · subst e
      have := elems_at hs hm 8 hm8
      rw [List.getElem?_append_right (by unfold openIdx; rw [pairsTo_len]; omega), List.getElem?_map]
      rw [show openIdx ms g m - (pairsTo ms g).length = (elemsTo (nth ms g) m).length by unfold openIdx; rw [pairsTo_len]; omega, this]; rfl
    · have := pair_at hs hm G (by omega)
      rw [List.getElem?_append_left (List.getElem?_eq_some_iff.1 this).1]; exact this
theorem pairV_inj {g m g' m' : Nat} (h : pairV g m = pairV g' m') : g = g' ∧ m = m' := by
  simp only [pairV, AV.agg.injEq, List.cons.injEq, AV.int.injEq, true_and, and_true] at h
  omega
theorem opensTo_mono (ms : List Int) : ∀ {a b : Nat}, a ≤ b → opensTo ms a ≤ opensTo ms b
  | a, 0, h => by rw [show a = 0 by omega]; exact Nat.le_refl _
  | a, b + 1, h => by
    by_cases e : a = b + 1
    · rw [e]; exact Nat.le_refl _
    · have := opensTo_mono ms (a := a) (b := b) (by omega)
      simp only [opensTo]; omega
theorem elems_mono (s : Int) (a d : Nat) : (elemsTo s a).length ≤ (elemsTo s (a + d)).length := by
  induction d with
  | zero => exact Nat.le_refl _
  | succ d ih =>
    have h := elemsTo_succ s (a + d)
    have h2 := congrArg List.length h
    rw [List.length_append] at h2
    rw [← Nat.add_assoc]; omega
theorem pairs_pr (ms : List Int) (G : Nat) : ∀ e ∈ pairsTo ms G, ∃ a b, e = pr a b := by
  induction G with
  | zero => simp [pairsTo]
  | succ G ih =>
    intro e he
    simp only [pairsTo, List.mem_append, List.mem_map] at he
    rcases he with he | ⟨x, _, rfl⟩
    · exact ih e he
    · exact ⟨_, _, rfl⟩
def compBit (k : Int) (ss ms : List Int) (g m : Nat) : Bool := PHas (nth ss g) m || (PHas (nth ms g) m && PHas k (openIdx ms g m))
def compRow (N : Nat) (k : Int) (ss ms : List Int) (g : Nat) : Int := setOf (compBit k ss ms g) N
def comp (N : Nat) (k : Int) (ss ms : List Int) : List Int := tab (compRow N k ss ms) ss.length
def CompC (n : Int) (ss ms : List Int) (k : Int) : Prop := PPart n ss ms ∧ 0 ≤ k ∧ k < 2 ^ opens ms
noncomputable instance (n : Int) (ss ms : List Int) (k : Int) : Decidable (CompC n ss ms k) := Classical.propDecidable _
noncomputable def compR (n : Int) (ss ms : List Int) (k : Int) : List Int := if CompC n ss ms k then comp n.toNat k ss ms else []
noncomputable def compN (n : Int) (ss ms : List Int) (k : Int) : Int := if CompC n ss ms k then n else 0
theorem comp_ctx {N : Nat} {k : Int} {ss ms : List Int} (h : PPart N ss ms) : PCtx N (comp N k ss ms) := by
  obtain ⟨⟨a, b, c, d⟩, _⟩ := h
  refine ⟨a, b, by simpa [comp] using c, fun i hi => ?_⟩
  simp only [comp, tab_length] at hi
  unfold comp; rw [tab_nth _ hi]
  exact setOf_pset _ (by omega)
theorem setOf_orbit {p : Nat → Bool} {n m : Nat} {b : Int} {c : Bool} (hn : n ≤ 8) (hm : m < n) (hb : b = if c then 1 else 0) : (((setOf p n).toNat ||| (b * 2 ^ m).toNat : Nat) : Int) = setOf (fun i => p i || (decide (i = m) && c)) n := by
  cases c with
  | false =>
    have e : (b * 2 ^ m).toNat = 0 := by rw [hb]; simp
    rw [e, Nat.or_zero, Int.toNat_of_nonneg (setOf_range p n).1]
    exact setOf_congr fun i _ => by simp
  | true =>
    rw [hb]
    have h := setOf_orr p (fun i => PHas (2 ^ m) i) n
    rw [← setOf_self (pset_pow hn hm)] at h
    simp only [if_true, Int.one_mul, h]
    exact setOf_congr fun i _ => by rw [phas_pow]; simp
theorem elems_top {N : Nat} {s : Int} (h : PSet N s = true) : elemsTo s 8 = elemsTo s N := by
  obtain ⟨_, h2, h3, h4⟩ := pset_iff.mp h
  have h0 : s / 2 ^ N = 0 := Int.ediv_eq_zero_of_lt h3 (by simpa using h4)
  have := elemsTo_end (pset8 h) h0 (8 - N)
  rwa [show N + (8 - N) = 8 by omega] at this
theorem k_small {k : Int} {n : Nat} (h0 : 0 ≤ k) (h : k < 2 ^ n) (hn : n ≤ 6) : k < 64 := by
  have : (2 : Int) ^ n ≤ 2 ^ 6 := two_pow_le hn
  omega
theorem open_inj {ms : List Int} {g m g' m' : Nat} (h1 : PSet 8 (nth ms g) = true) (h2 : PHas (nth ms g) m = true) (h3 : PSet 8 (nth ms g') = true) (h4 : PHas (nth ms g') m' = true) (e : openIdx ms g m = openIdx ms g' m') : g = g' ∧ m = m' := by
  have a := pair_at h1 h2 (g + g' + 1) (by omega)
  have b := pair_at h3 h4 (g + g' + 1) (by omega)
  rw [e, b] at a
  have := pairV_inj (Option.some.inj a)
  exact ⟨this.1.symm, this.2.symm⟩
def iBit (k : Int) (ss ms : List Int) (i g m : Nat) : Bool := PHas (nth ss g) m || decide (openIdx ms g m < i) && (PHas (nth ms g) m && PHas k (openIdx ms g m))
def iRow (N : Nat) (k : Int) (ss ms : List Int) (i g : Nat) : Int := setOf (iBit k ss ms i g) N
theorem iRow_0 (N : Nat) (k : Int) (ss ms : List Int) (g : Nat) (h : PSet N (nth ss g) = true) : nth ss g = iRow N k ss ms 0 g := by
  have e : iRow N k ss ms 0 g = setOf (fun m => PHas (nth ss g) m) N := setOf_congr fun m _ => by simp [iBit]
  rw [e, ← setOf_self h]
theorem iRow_skip (N : Nat) {k : Int} (ss ms : List Int) {i : Nat} (g : Nat) (h : PHas k i = false) : iRow N k ss ms (i + 1) g = iRow N k ss ms i g := by
  refine setOf_congr fun m _ => ?_
  unfold iBit
  by_cases e : openIdx ms g m = i
  · rw [e, h]; simp
  · have e2 : openIdx ms g m < i + 1 ↔ openIdx ms g m < i := by omega
    simp [e2]
theorem iRow_other (N : Nat) {k : Int} {ss ms : List Int} {i g m g' : Nat} (hs : PSet 8 (nth ms g) = true) (hm : PHas (nth ms g) m = true) (hi : openIdx ms g m = i) (hs' : PSet 8 (nth ms g') = true) (hne : g' ≠ g) : iRow N k ss ms (i + 1) g' = iRow N k ss ms i g' := by
  refine setOf_congr fun x _ => ?_
  unfold iBit
  cases hp : PHas (nth ms g') x with
  | false => simp
  | true =>
    have e : openIdx ms g' x ≠ i := fun e => hne (open_inj hs' hp hs hm (by omega)).1
    have e2 : openIdx ms g' x < i + 1 ↔ openIdx ms g' x < i := by omega
    simp [e2]
theorem iRow_hit {N : Nat} {k : Int} {ss ms : List Int} {i g m : Nat} (hN : N ≤ 8) (hmN : m < N) (hs : PSet 8 (nth ms g) = true) (hm : PHas (nth ms g) m = true) (hi : openIdx ms g m = i) (hk : PHas k i = true) : (((iRow N k ss ms i g).toNat ||| 2 ^ m : Nat) : Int) = iRow N k ss ms (i + 1) g := by
  have h := setOf_orr (iBit k ss ms i g) (fun x => PHas (2 ^ m) x) N
  rw [← setOf_self (pset_pow hN hmN), pow_toNat] at h
  rw [show iRow N k ss ms i g = setOf (iBit k ss ms i g) N from rfl, h]
  refine setOf_congr fun x _ => ?_
  rw [phas_pow]
  unfold iBit
  by_cases e : x = m
  · subst e; simp [hm, hi, hk]
  · cases hp : PHas (nth ms g) x with
    | false => simp [e]
    | true =>
      have e3 : openIdx ms g x ≠ i := fun e9 => e (open_inj hs hp hs hm (by omega)).2
      have e2 : openIdx ms g x < i + 1 ↔ openIdx ms g x < i := by omega
      simp [e, e2]
theorem iRow_end {N : Nat} {k : Int} {ss ms : List Int} {g : Nat} (hg : g < ms.length) (hs : PSet 8 (nth ms g) = true) : iRow N k ss ms (opens ms) g = compRow N k ss ms g := by
  refine setOf_congr fun x _ => ?_
  unfold iBit compBit
  cases hp : PHas (nth ms g) x with
  | false => simp
  | true =>
    have := pair_at hs hp ms.length hg
    have h2 := (List.getElem?_eq_some_iff.1 this).1
    rw [pairsTo_len] at h2
    have h3 : openIdx ms g x < opens ms := h2
    simp [h3]
theorem arr2_0 {h : Heap} {key g off : Nat} : indexA env h 102 (.vp key g off) (.int .i64 0) = some (.vp key g off) := by simp [indexA]
theorem arr2_1 {h : Heap} {key g off : Nat} : indexA env h 102 (.vp key g off) (.int .i64 1) = some (.vp key g (off + 1)) := by simp [indexA]
theorem sCompletionAt_c {n k : Int} {u v : AV} (hu : IsI u) (hv : IsI v) : EvC env 44 [.agg [.int .i64 n, u, v], .int .i64 k] (.tup [.agg [.int .i64 (compN n (xsOf u) (xsOf v) k), bufR 3 62 0 (compR n (xsOf u) (xsOf v) k)], .bool (decide (CompC n (xsOf u) (xsOf v) k))]) := by
  refine evC_of (F := Try.f44) rfl rfl (Nat.le_of_ble_eq_true rfl) ?_
  have hul := hu.len
  have hvl := hv.len
  by_cases hc : CompC n (xsOf u) (xsOf v) k
  · obtain ⟨hp, k0, k1⟩ := hc
    obtain ⟨N, rfl⟩ : ∃ N : Nat, n = N := ⟨n.toNat, by have := hp.1.1; omega⟩
    have hc : CompC N (xsOf u) (xsOf v) k := ⟨hp, k0, k1⟩
    have hn := hp.1.2.1
    have hN8 : N ≤ 8 := by omega
    have hl := hp.1.2.2.1
    have hll := hp.2.2.1
    have ho6 := hp.2.2.2.1
    have k64 := k_small k0 k1 ho6
    have hpw := pow_small (i := opens (xsOf v)) (by omega)
    have hk9 : k ≤ 2 ^ opens (xsOf v) - 1 := by omega
    have r1 : compR N (xsOf u) (xsOf v) k = comp N k (xsOf u) (xsOf v) := by simp [compR, hc]
    have r2 : compN N (xsOf u) (xsOf v) k = N := by simp [compN, hc]
    rw [r1, r2]
    repeat' (first | (apply br_intro <;> intro hb <;> (have hb2 := hb) <;> (try simp [-Int.not_le, -Int.not_lt, -Nat.not_le, -Nat.not_lt, -Nat.add_left_cancel_iff] at hb2)) | (refine draw_listA (by rfl) (by kernel_rfl) ?_) | (refine draw_listB (by simp [allocsOf, isAlloc]; rfl) (by kernel_rfl) ?_) | simp (maxSteps := 2000000) (disch := first | omega | assumption | simp [*]) [*, -Int.not_le, -Int.not_lt, -Nat.not_le, -Nat.not_lt, -Nat.add_left_cancel_iff, wrap_i64, wrap_u64, Try.f44, isI_cells hu, isI_one hu, isI_low hu, isI_len hu, isI_cells hv, isI_one hv, isI_low hv, isI_len hv])
    refine W_loopG (xsOf u).length (fun g s h => s 8 = .int .i64 g ∧ s 1 = .int .i64 k ∧ s 2 = .vp 2 0 0 ∧ s 4 = .vp 4 0 0 ∧ s 6 = .vp 6 0 0 ∧ s 7 = .int .i64 (opensTo (xsOf v) g) ∧ h 2 = some (.var 0 55 (.agg [.int .i64 N, u, v])) ∧
      h 4 = some (.var 0 26 (.agg [.int .i64 0, .sl 0 .lit []])) ∧ ∃ b, h 6 = some (.var 0 26 (.agg [.int .i64 N, b])) ∧ Buf h 3 62 0 b (tab (compRow N k (xsOf u) (xsOf v)) g)) ?_ ?_
    · simp [opensTo]; exact buf_nil ..
    rintro g s h hg ⟨h8, h1, h2, h4, h6, h7, e2, e4, b, e6, hB⟩
    have ob := hB.one
    have cb := hB.cells
    by_cases hg2 : g < (xsOf u).length
    · have hg3 : g < (xsOf v).length := by omega
      have p1 := pctx_row hp.1 hg2
      have p2 := pctx_row hp.2.1 hg3
      have ps2 := hp.2.1.2.2.2 g hg3
      have hog : opensTo (xsOf v) (g + 1) ≤ opens (xsOf v) := opensTo_mono _ (by omega)
      have hos : opensTo (xsOf v) (g + 1) = opensTo (xsOf v) g + (elemsTo (nth (xsOf v) g) 8).length := rfl
      have htp := elems_top ps2
      repeat' (first | (apply br_intro <;> intro hb <;> (have hb2 := hb) <;> (try simp [-Int.not_le, -Int.not_lt, -Nat.not_le, -Nat.not_lt, -Nat.add_left_cancel_iff] at hb2)) | (refine draw_listA (by rfl) (by kernel_rfl) ?_) | (refine draw_listB (by simp [allocsOf, isAlloc]; rfl) (by kernel_rfl) ?_) | simp (maxSteps := 2000000) (disch := first | omega | assumption | simp [*]) [*, -Int.not_le, -Int.not_lt, -Nat.not_le, -Nat.not_lt, -Nat.add_left_cancel_iff, wrap_i64, wrap_u64, h8, h1, h2, h4, h6, h7, e2, e4, e6, isI_cells hu, isI_one hu, isI_low hu, isI_len hu, isI_index hu, isI_load hu, isI_cells hv, isI_one hv, isI_low hv, isI_len hv])
      refine W_loopG N (fun m s h' => h' = h ∧ s 10 = .int .i64 m ∧ s 9 = .int .i64 (setOf (fun m' => PHas (nth (xsOf u) g) m' || decide (m' < m) && (PHas (nth (xsOf v) g) m' && PHas k (openIdx (xsOf v) g m'))) N) ∧ s 7 = .int .i64 (openIdx (xsOf v) g m) ∧
        s 8 = .int .i64 g ∧ s 1 = .int .i64 k ∧ s 2 = .vp 2 0 0 ∧ s 4 = .vp 4 0 0 ∧ s 6 = .vp 6 0 0) ?_ ?_
      · simp [*, openIdx, elemsTo]
        exact setOf_self (hp.1.2.2.2 g hg2)
      rintro m s3 h3 hm ⟨rfl, q10, q9, q7, q8, q1, q2, q4, q6⟩
      have s1 := setOf_range (fun m' => PHas (nth (xsOf u) g) m' || decide (m' < m) && (PHas (nth (xsOf v) g) m' && PHas k (openIdx (xsOf v) g m'))) N
      have s2 := setOf_small (fun m' => PHas (nth (xsOf u) g) m' || decide (m' < m) && (PHas (nth (xsOf v) g) m' && PHas k (openIdx (xsOf v) g m'))) hN8
      by_cases hm2 : m < N
      · have hel := elemsTo_succ (nth (xsOf v) g) m
        have hle : (elemsTo (nth (xsOf v) g) (m + 1)).length ≤ (elemsTo (nth (xsOf v) g) 8).length := by
          have h9 := elems_mono (nth (xsOf v) g) (m + 1) (8 - (m + 1))
          rwa [show m + 1 + (8 - (m + 1)) = 8 by omega] at h9
        have hpm := pow_small (i := m) (by omega)
        cases hpv : PHas (nth (xsOf v) g) m with
        | false =>
          have hid : openIdx (xsOf v) g (m + 1) = openIdx (xsOf v) g m := by unfold openIdx; rw [hel, hpv]; simp
          clear hel hle
          repeat' (first | (apply br_intro <;> intro hb <;> (have hb2 := hb) <;> (try simp [-Int.not_le, -Int.not_lt, -Nat.not_le, -Nat.not_lt, -Nat.add_left_cancel_iff] at hb2)) | (refine draw_listA (by rfl) (by kernel_rfl) ?_) | (refine draw_listB (by simp [allocsOf, isAlloc]; rfl) (by kernel_rfl) ?_) | simp (maxSteps := 2000000) (disch := first | omega | assumption | simp [*]) [*, -Int.not_le, -Int.not_lt, -Nat.not_le, -Nat.not_lt, -Nat.add_left_cancel_iff, wrap_i64, wrap_u64, q10, q9, q7, q8, q1, q2, q4, q6, e2, e4, e6, isI_cells hu, isI_one hu, isI_low hu, isI_len hu, isI_index hu, isI_load hu, isI_cells hv, isI_one hv, isI_low hv, isI_len hv, isI_index hv, isI_load hv])
          refine setOf_congr fun i _ => ?_
          by_cases e : i = m
          · subst e; simp [hpv]
          · have e9 : i < m + 1 ↔ i < m := by omega
            simp [e9]
        | true =>
          have hid : openIdx (xsOf v) g (m + 1) = openIdx (xsOf v) g m + 1 := by unfold openIdx; rw [hel, hpv, pset8 ps2]; simp; omega
          have hi6 : openIdx (xsOf v) g m < 6 := by unfold openIdx at hid ⊢; omega
          have hbit : 0 ≤ k / 2 ^ openIdx (xsOf v) g m % 2 ∧ k / 2 ^ openIdx (xsOf v) g m % 2 ≤ 1 := by omega
          have hsm := mul_pow_le (y := k / 2 ^ openIdx (xsOf v) g m % 2) (n := m) hbit.1 (by omega) (by omega)
          simp only [Int.toNat_natCast] at hsm
          have hob := setOf_orbit (p := fun m' => PHas (nth (xsOf u) g) m' || decide (m' < m) && (PHas (nth (xsOf v) g) m' && PHas k (openIdx (xsOf v) g m'))) (b := k / 2 ^ openIdx (xsOf v) g m % 2) (c := PHas k (openIdx (xsOf v) g m)) hN8 hm2 (by simp [PHas]; omega)
          clear hel hle
          repeat' (first | (apply br_intro <;> intro hb <;> (have hb2 := hb) <;> (try simp [-Int.not_le, -Int.not_lt, -Nat.not_le, -Nat.not_lt, -Nat.add_left_cancel_iff] at hb2)) | (refine draw_listA (by rfl) (by kernel_rfl) ?_) | (refine draw_listB (by simp [allocsOf, isAlloc]; rfl) (by kernel_rfl) ?_) | simp (maxSteps := 2000000) (disch := first | omega | assumption | simp [*]) [*, -Int.not_le, -Int.not_lt, -Nat.not_le, -Nat.not_lt, -Nat.add_left_cancel_iff, wrap_i64, wrap_u64, q10, q9, q7, q8, q1, q2, q4, q6, e2, e4, e6, bits_or, isI_cells hu, isI_one hu, isI_low hu, isI_len hu, isI_index hu, isI_load hu, isI_cells hv, isI_one hv, isI_low hv, isI_len hv, isI_index hv, isI_load hv])
          refine setOf_congr fun i _ => ?_
          by_cases e : i = m
          · subst e; simp [hpv]
          · have e9 : i < m + 1 ↔ i < m := by omega
            simp [e, e9]
      · obtain rfl : m = N := by omega
        have hrow : setOf (fun m' => PHas (nth (xsOf u) g) m' || decide (m' < m) && (PHas (nth (xsOf v) g) m' && PHas k (openIdx (xsOf v) g m'))) m = compRow m k (xsOf u) (xsOf v) g := setOf_congr fun i hi => by simp [compBit, hi]
        rw [hrow] at q9 s1 s2
        have hid : openIdx (xsOf v) g m = opensTo (xsOf v) (g + 1) := by unfold openIdx; rw [← htp, hos]
        rw [hid] at q7
        repeat' (first | (apply br_intro <;> intro hb <;> (have hb2 := hb) <;> (try simp [-Int.not_le, -Int.not_lt, -Nat.not_le, -Nat.not_lt, -Nat.add_left_cancel_iff] at hb2)) | (refine draw_listA (by rfl) (by kernel_rfl) ?_) | (refine draw_listB (by simp [allocsOf, isAlloc]; rfl) (by kernel_rfl) ?_) | simp (maxSteps := 2000000) (disch := first | omega | assumption | simp [*]) [*, -Int.not_le, -Int.not_lt, -Nat.not_le, -Nat.not_lt, -Nat.add_left_cancel_iff, wrap_i64, wrap_u64, q10, q9, q7, q8, q1, q2, q4, q6, e2, e4, e6, isI_cells hu, isI_one hu, isI_low hu, isI_len hu, isI_cells hv, isI_one hv, isI_low hv, isI_len hv])
        refine wa_push hB (by simp) (by simp) (by simp; omega) ?_
        intro v2 h2' hB2 hk2
        have o2 := hB2.one
        have c2 := hB2.cells
        repeat' (first | (apply br_intro <;> intro hb <;> (have hb2 := hb) <;> (try simp [-Int.not_le, -Int.not_lt, -Nat.not_le, -Nat.not_lt, -Nat.add_left_cancel_iff] at hb2)) | (refine draw_listA (by rfl) (by kernel_rfl) ?_) | (refine draw_listB (by simp [allocsOf, isAlloc]; rfl) (by kernel_rfl) ?_) | simp (maxSteps := 2000000) (disch := first | omega | assumption | simp [*]) [*, -Int.not_le, -Int.not_lt, -Nat.not_le, -Nat.not_lt, -Nat.add_left_cancel_iff, wrap_i64, wrap_u64, q10, q9, q7, q8, q1, q2, q4, q6, e2, e4, e6, isI_cells hu, isI_cells hv])
        rw [tab_succ]; exact hB2.keep (by simp [hset])
    · obtain rfl : g = (xsOf u).length := by omega
      repeat' (first | (apply br_intro <;> intro hb <;> (have hb2 := hb) <;> (try simp [-Int.not_le, -Int.not_lt, -Nat.not_le, -Nat.not_lt, -Nat.add_left_cancel_iff] at hb2)) | (refine draw_listA (by rfl) (by kernel_rfl) ?_) | (refine draw_listB (by simp [allocsOf, isAlloc]; rfl) (by kernel_rfl) ?_) | simp (maxSteps := 2000000) (disch := first | omega | assumption | simp [*]) [*, -Int.not_le, -Int.not_lt, -Nat.not_le, -Nat.not_lt, -Nat.add_left_cancel_iff, wrap_i64, wrap_u64, h8, h1, h2, h4, h6, h7, e2, e4, e6, isI_cells hu, isI_one hu, isI_low hu, isI_len hu, isI_cells hv, isI_one hv, isI_low hv, isI_len hv])
      exact (hB.keep (by simp [hset])).expo
  · have r1 : compR n (xsOf u) (xsOf v) k = [] := by simp [compR, hc]
    have r2 : compN n (xsOf u) (xsOf v) k = 0 := by simp [compN, hc]
    by_cases hp : PPart n (xsOf u) (xsOf v)
    · have hk : ¬ (0 ≤ k ∧ k < 2 ^ opens (xsOf v)) := fun h => hc ⟨hp, h⟩
      have ho6 := hp.2.2.2.1
      have hpw := pow_small (i := opens (xsOf v)) (by omega)
      repeat' (first | (apply br_intro <;> intro hb <;> (have hb2 := hb) <;> (try simp [-Int.not_le, -Int.not_lt, -Nat.not_le, -Nat.not_lt, -Nat.add_left_cancel_iff] at hb2)) | simp (maxSteps := 2000000) (disch := first | omega | assumption | simp [*]) [*, -Int.not_le, -Int.not_lt, -Nat.not_le, -Nat.not_lt, -Nat.add_left_cancel_iff, wrap_i64, wrap_u64, Try.f44, isI_cells hu, isI_one hu, isI_low hu, isI_len hu, isI_cells hv, isI_one hv, isI_low hv, isI_len hv])
      all_goals exact absurd ⟨hb2.1, by omega⟩ hk
    · repeat' (first | (apply br_intro <;> intro hb <;> (have hb2 := hb) <;> (try simp [-Int.not_le, -Int.not_lt, -Nat.not_le, -Nat.not_lt, -Nat.add_left_cancel_iff] at hb2)) | simp (maxSteps := 2000000) (disch := first | omega | assumption | simp [*]) [*, -Int.not_le, -Int.not_lt, -Nat.not_le, -Nat.not_lt, -Nat.add_left_cancel_iff, wrap_i64, wrap_u64, Try.f44, isI_cells hu, isI_one hu, isI_low hu, isI_len hu, isI_cells hv, isI_one hv, isI_low hv, isI_len hv])
      all_goals exact absurd hb2 (by omega)
theorem sCompletionAt_s {n k : Int} {u v : AV} (hu : IsI u) (hv : IsI v) {K : AV → Prop} {tg : Tg K} : CW env 44 [.agg [.int .i64 n, u, v], .int .i64 k] K tg ↔ K (.tup [.agg [.int .i64 (compN n (xsOf u) (xsOf v) k), bufR 3 62 0 (compR n (xsOf u) (xsOf v) k)], .bool (decide (CompC n (xsOf u) (xsOf v) k))]) := callsTo_iff (sCompletionAt_c hu hv)
attribute [simp] sCompletionAt_s
theorem cloneI_c {v : AV} (hv : IsI v) (hne : xsOf v ≠ []) (hl : (xsOf v).length ≤ 1048576) : EvC env 99 [v] (bufR 3 7 1 (xsOf v)) := by
  refine evC_of (F := Try.f99) rfl rfl (Nat.le_of_ble_eq_true rfl) ?_
  repeat' (first | (apply br_intro <;> intro hb <;> (have hb2 := hb) <;> (try simp [-Int.not_le, -Int.not_lt, -Nat.not_le, -Nat.not_lt, -Nat.add_left_cancel_iff] at hb2)) | (refine draw_listA (by rfl) (by kernel_rfl) ?_) | (refine draw_listB (by simp [allocsOf, isAlloc]; rfl) (by kernel_rfl) ?_) | simp (maxSteps := 2000000) (disch := first | omega | assumption | simp [*]) [*, -Int.not_le, -Int.not_lt, -Nat.not_le, -Nat.not_lt, -Nat.add_left_cancel_iff, wrap_i64, wrap_u64, Try.f99, isI_len hv, nilC_I hv])
  obtain ⟨k, o, es, rfl, hk, hos⟩ := hv.l.ok
  have hes : es = ints (xsOf (.sl k o es)) := by have := hv.ints; simpa using this
  have hne2 : es ≠ [] := by intro e; subst e; exact hne (by simp [xsOf])
  refine wa_ints (buf_nil ..) (by simp) (by simp) hes hne (hk.resolve_left hne2) (by rw [List.length_nil]; omega) ?_
  clear hes hne2
  intro v2 h2 hB hk2
  repeat' (first | (apply br_intro <;> intro hb <;> (have hb2 := hb) <;> (try simp [-Int.not_le, -Int.not_lt, -Nat.not_le, -Nat.not_lt, -Nat.add_left_cancel_iff] at hb2)) | (refine draw_listA (by rfl) (by kernel_rfl) ?_) | (refine draw_listB (by simp [allocsOf, isAlloc]; rfl) (by kernel_rfl) ?_) | simp (maxSteps := 2000000) (disch := first | omega | assumption | simp [*]) [*, -Int.not_le, -Int.not_lt, -Nat.not_le, -Nat.not_lt, -Nat.add_left_cancel_iff, wrap_i64, wrap_u64])
  exact hB.expo
theorem cloneI_s {v : AV} (hv : IsI v) (hne : xsOf v ≠ []) (hl : (xsOf v).length ≤ 1048576) {K : AV → Prop} {tg : Tg K} : CW env 99 [v] K tg ↔ K (bufR 3 7 1 (xsOf v)) := callsTo_iff (cloneI_c hv hne hl)
attribute [simp] cloneI_s
noncomputable def compV (T : Nat) (n : Int) (ss ms : List Int) (k : Int) : AV := if CompC n ss ms k then rowX 1 1 T 20 (ints (comp n.toNat k ss ms)) else .sl 0 .lit []
theorem iCompletionAt_c {n k : Int} {u v : AV} (hu : IsI u) (hv : IsI v) : EvC env 43 [.agg [.int .i64 n, u, v], .int .i64 k] (.tup [.agg [.int .i64 (compN n (xsOf u) (xsOf v) k), compV 3 n (xsOf u) (xsOf v) k], .bool (decide (CompC n (xsOf u) (xsOf v) k))]) := by
  refine evC_of (F := Try.f43) rfl rfl (Nat.le_of_ble_eq_true rfl) ?_
  have hul := hu.len
  have hvl := hv.len
  by_cases hc : CompC n (xsOf u) (xsOf v) k
  · obtain ⟨hp, k0, k1⟩ := hc
    obtain ⟨N, rfl⟩ : ∃ N : Nat, n = N := ⟨n.toNat, by have := hp.1.1; omega⟩
    have hc : CompC N (xsOf u) (xsOf v) k := ⟨hp, k0, k1⟩
    have hn := hp.1.2.1
    have hN8 : N ≤ 8 := by omega
    have hl := hp.1.2.2.1
    have hll := hp.2.2.1
    have ho6 := hp.2.2.2.1
    have k64 := k_small k0 k1 ho6
    have hpw := pow_small (i := opens (xsOf v)) (by omega)
    have hk9 : k ≤ 2 ^ opens (xsOf v) - 1 := by omega
    have r1 : compV 3 N (xsOf u) (xsOf v) k = rowX 1 1 3 20 (ints (comp N k (xsOf u) (xsOf v))) := by simp [compV, hc]
    have r2 : compN N (xsOf u) (xsOf v) k = N := by simp [compN, hc]
    rw [r1, r2]
    have hcl : xsOf u ≠ [] → EvC env 99 [u] (bufR 3 7 1 (xsOf u)) := fun hne => cloneI_c hu hne (by omega)
    repeat' (first | (apply br_intro <;> intro hb <;> (have hb2 := hb) <;> (try simp [-Int.not_le, -Int.not_lt, -Nat.not_le, -Nat.not_lt, -Nat.add_left_cancel_iff] at hb2)) | simp (maxSteps := 2000000) (disch := first | omega | assumption | simp [*]) [*, -Int.not_le, -Int.not_lt, -Nat.not_le, -Nat.not_lt, -Nat.add_left_cancel_iff, wrap_i64, wrap_u64, Try.f43, isI_cells hu, isI_one hu, isI_low hu, isI_len hu, isI_cells hv, isI_one hv, isI_low hv, isI_len hv])
    refine draw_listC [20, 6] (by kernel_rfl) (by kernel_rfl) (by kernel_rfl) ?_
    repeat' (first | (apply br_intro <;> intro hb <;> (have hb2 := hb) <;> (try simp [-Int.not_le, -Int.not_lt, -Nat.not_le, -Nat.not_lt, -Nat.add_left_cancel_iff] at hb2)) | simp (maxSteps := 2000000) (disch := first | omega | assumption | simp [*]) [*, -Int.not_le, -Int.not_lt, -Nat.not_le, -Nat.not_lt, -Nat.add_left_cancel_iff, wrap_i64, wrap_u64, isI_cells hu, isI_one hu, isI_low hu, isI_len hu, isI_noKey hu, isI_cells hv, isI_one hv, isI_low hv, isI_len hv, isI_noKey hv])
    refine cf_clone (R := bufR 3 7 1 (xsOf u)) (T := 3) (key := 7) rfl rfl rfl (isI_low hu _) hu hcl (fun hne => ownR_buf ..) ?_
    intro v2 h2 hR hh
    have o2 := hR.one
    have c2 := hR.cells
    have e2 : h2 2 = some (.var 0 55 (.agg [.int .i64 N, u, v])) := by rw [hh 2 (by omega)]; simp [hset]
    have e4 : h2 4 = some (.var 0 26 (.agg [.int .i64 0, .sl 0 .lit []])) := by rw [hh 4 (by omega)]; simp [hset]
    have e6 : h2 6 = none := by rw [hh 6 (by omega)]; simp [hset, hnil]
    have hG := pairsTo_len (xsOf v) (xsOf v).length
    have hG2 : opensTo (xsOf v) (xsOf v).length = opens (xsOf v) := rfl
    have hPP : IsP (bufLC 2 2 (pairsTo (xsOf v) (xsOf v).length)) := isP_bufLC (pairs_pr _ _) (by unfold top63; omega)
    have hPl : (fsts (bufLC 2 2 (pairsTo (xsOf v) (xsOf v).length))).length = opens (xsOf v) := by rw [fsts_bufLC, List.length_map, hG, hG2]
    have hpr : ∀ i, i < opens (xsOf v) → ∃ g m : Nat, nth (fsts (bufLC 2 2 (pairsTo (xsOf v) (xsOf v).length))) i = g ∧ nth (snds (bufLC 2 2 (pairsTo (xsOf v) (xsOf v).length))) i = m ∧ g < (xsOf v).length ∧ m < 8 ∧ PSet 8 (nth (xsOf v) g) = true ∧ PHas (nth (xsOf v) g) m = true ∧ openIdx (xsOf v) g m = i := by
      intro i hi
      obtain ⟨g, m, hgm, hg, hm8, hps, hpm, hid⟩ := pair_of (ms := xsOf v) (xsOf v).length i (by omega)
      exact ⟨g, m, by rw [fsts_bufLC, nth_map_get hgm]; rfl, by rw [snds_bufLC, nth_map_get hgm]; rfl, hg, hm8, hps, hpm, hid⟩
    obtain ⟨PB, hPB⟩ : ∃ PB, bufLC 2 2 (pairsTo (xsOf v) (xsOf v).length) = PB := ⟨_, rfl⟩
    rw [hPB] at hPP hPl hpr
    have hll1 : (xsOf u).length ≤ (xsOf v).length := by omega
    have hll2 : (xsOf v).length ≤ (xsOf u).length := by omega
    clear hh hll hG hG2
    repeat' (first | (apply br_intro <;> intro hb <;> (have hb2 := hb) <;> (try simp [-Int.not_le, -Int.not_lt, -Nat.not_le, -Nat.not_lt, -Nat.add_left_cancel_iff] at hb2)) | simp (maxSteps := 2000000) (disch := first | omega | assumption | simp [*]) [*, -Int.not_le, -Int.not_lt, -Nat.not_le, -Nat.not_lt, -Nat.add_left_cancel_iff, wrap_i64, wrap_u64, nextG, isI_cells hu, isI_one hu, isI_low hu, isI_len hu, isI_cells hv, isI_one hv, isI_low hv, isI_len hv, isP_len hPP])
    refine W_loopG (opens (xsOf v)) (fun i s h => s 25 = .int .i64 i ∧ s 24 = .int .i64 (opens (xsOf v)) ∧ s 23 = PB ∧ s 1 = .int .i64 k ∧ s 4 = .vp 4 0 0 ∧ s 6 = .vp 6 0 0 ∧
      h 4 = some (.var 0 26 (.agg [.int .i64 0, .sl 0 .lit []])) ∧ h 6 = some (.var 0 26 (.agg [.int .i64 N, v2])) ∧
      Row h 20 3 1 1 v2 (ints (tab (iRow N k (xsOf u) (xsOf v) i) (xsOf u).length))) ?_ ?_
    · have e9 : tab (iRow N k (xsOf u) (xsOf v) 0) (xsOf u).length = xsOf u := (tab_eq rfl fun j hj => iRow_0 N k _ _ j (hp.1.2.2.2 j hj)).symm
      rw [e9]
      have hR2 := fun blk => hR.keep (h' := hset h2 6 blk) (by simp [hset])
      clear hR hpr
      simp [*]
    rintro i s h hi ⟨q25, q24, q23, q1, q4, q6, f4, f6, hR3⟩
    clear hR hPB
    by_cases hi2 : i < opens (xsOf v)
    · obtain ⟨g, m, n1, n2, hg, hm8, hps, hpm, hid⟩ := hpr i hi2
      rcases hR3 with ⟨e, _⟩ | ⟨hx, gR, hv2, hgR⟩
      · have h0 : (xsOf u).length = 0 := by simpa using congrArg List.length e
        omega
      rw [ints_length, tab_length] at hv2
      subst hv2
      have hg2 : g < (xsOf u).length := by omega
      have hi7 : (i : Int) ≤ 7 := by omega
      have hmN := phas_lt (hp.2.1.2.2.2 g hg) hpm
      have hpw2 := pow_small (i := m) (by omega)
      have hmN2 : m < N := by omega
      have hhit : PHas k i = true → (((iRow N k (xsOf u) (xsOf v) i g).toNat ||| 2 ^ m : Nat) : Int) = iRow N k (xsOf u) (xsOf v) (i + 1) g := iRow_hit hN8 hmN2 hps hpm hid
      have hoth : ∀ j, j < (xsOf u).length → j ≠ g → iRow N k (xsOf u) (xsOf v) (i + 1) j = iRow N k (xsOf u) (xsOf v) i j := fun j hj hne => iRow_other N hps hpm hid (pset8 (hp.2.1.2.2.2 j (by omega))) hne
      have hskip : PHas k i = false → ∀ j, iRow N k (xsOf u) (xsOf v) (i + 1) j = iRow N k (xsOf u) (xsOf v) i j := fun h9 j => iRow_skip N _ _ j h9
      have k8 : PSet 8 k = true := by rw [pset_iff]; simp; omega
      have rr : 0 ≤ iRow N k (xsOf u) (xsOf v) i g ∧ iRow N k (xsOf u) (xsOf v) i g < 256 := ⟨(setOf_range _ _).1, setOf_small _ hN8⟩
      have hend : ∀ (h' : Heap), h' 20 = some (.row gR 3 1 (ints (tab (iRow N k (xsOf u) (xsOf v) (i + 1)) (xsOf u).length))) → Row h' 20 3 1 1 (.ms 20 gR 0 (xsOf u).length) (ints (tab (iRow N k (xsOf u) (xsOf v) (i + 1)) (xsOf u).length)) := fun h' e => .inr ⟨fun e9 => absurd (show (xsOf u).length = 0 by simpa using congrArg List.length e9) (by omega), gR, by simp, e⟩
      clear hx hpr hid
      cases hki : PHas k i with
      | true =>
        have hhit2 := hhit hki
        have hset2 : ∀ x, x = iRow N k (xsOf u) (xsOf v) (i + 1) g → (tab (iRow N k (xsOf u) (xsOf v) i) (xsOf u).length).set g x = tab (iRow N k (xsOf u) (xsOf v) (i + 1)) (xsOf u).length := by
          intro x hx
          rw [tab_set _ _ hg2]
          refine tab_eq (by simp) fun j hj => ?_
          rw [tab_nth _ (by simpa using hj)]
          by_cases e : j = g
          · subst e; simp [hx]
          · simp [e, hoth j (by simpa using hj) e]
        clear hhit hoth hskip
        repeat' (first | (apply br_intro <;> intro hb <;> (have hb2 := hb) <;> (try simp [-Int.not_le, -Int.not_lt, -Nat.not_le, -Nat.not_lt, -Nat.add_left_cancel_iff] at hb2)) | (refine draw_listA (by rfl) (by kernel_rfl) ?_) | (refine draw_listB (by simp [allocsOf, isAlloc]; rfl) (by kernel_rfl) ?_) | simp (maxSteps := 2000000) (disch := first | omega | assumption | simp [*]) [*, -Int.not_le, -Int.not_lt, -Nat.not_le, -Nat.not_lt, -Nat.add_left_cancel_iff, wrap_i64, wrap_u64, q25, q24, q23, q1, q4, q6, f4, f6, hgR, isP_len hPP, isP_index hPP, tab_nth, bits_or, pow_toNat, arr2_0, arr2_1])
      | false =>
        have hsk := hskip hki
        have hset2 : tab (iRow N k (xsOf u) (xsOf v) (i + 1)) (xsOf u).length = tab (iRow N k (xsOf u) (xsOf v) i) (xsOf u).length := tab_congr fun j _ => hsk j
        rw [← hset2] at hgR
        clear hhit hoth hskip hsk hset2
        repeat' (first | (apply br_intro <;> intro hb <;> (have hb2 := hb) <;> (try simp [-Int.not_le, -Int.not_lt, -Nat.not_le, -Nat.not_lt, -Nat.add_left_cancel_iff] at hb2)) | (refine draw_listA (by rfl) (by kernel_rfl) ?_) | (refine draw_listB (by simp [allocsOf, isAlloc]; rfl) (by kernel_rfl) ?_) | simp (maxSteps := 2000000) (disch := first | omega | assumption | simp [*]) [*, -Int.not_le, -Int.not_lt, -Nat.not_le, -Nat.not_lt, -Nat.add_left_cancel_iff, wrap_i64, wrap_u64, q25, q24, q23, q1, q4, q6, f4, f6, hgR, isP_len hPP, isP_index hPP, arr2_0, arr2_1])
    · obtain rfl : i = opens (xsOf v) := by omega
      have hset2 : tab (iRow N k (xsOf u) (xsOf v) (opens (xsOf v))) (xsOf u).length = comp N k (xsOf u) (xsOf v) := tab_congr fun j hj => iRow_end (by omega) (pset8 (hp.2.1.2.2.2 j (by omega)))
      rw [hset2] at hR3
      clear hset2 hpr
      repeat' (first | (apply br_intro <;> intro hb <;> (have hb2 := hb) <;> (try simp [-Int.not_le, -Int.not_lt, -Nat.not_le, -Nat.not_lt, -Nat.add_left_cancel_iff] at hb2)) | (refine draw_listA (by rfl) (by kernel_rfl) ?_) | (refine draw_listB (by simp [allocsOf, isAlloc]; rfl) (by kernel_rfl) ?_) | simp (maxSteps := 2000000) (disch := first | omega | assumption | simp [*]) [*, -Int.not_le, -Int.not_lt, -Nat.not_le, -Nat.not_lt, -Nat.add_left_cancel_iff, wrap_i64, wrap_u64, q25, q24, q23, q1, q4, q6, f4, f6, isP_len hPP])
      rw [← rowX_row]
      exact (hR3.keep (by simp [hset])).expoI
  · have r1 : compV 3 n (xsOf u) (xsOf v) k = .sl 0 .lit [] := by simp [compV, hc]
    have r2 : compN n (xsOf u) (xsOf v) k = 0 := by simp [compN, hc]
    by_cases hp : PPart n (xsOf u) (xsOf v)
    · have hk : ¬ (0 ≤ k ∧ k < 2 ^ opens (xsOf v)) := fun h => hc ⟨hp, h⟩
      have ho6 := hp.2.2.2.1
      have hpw := pow_small (i := opens (xsOf v)) (by omega)
      repeat' (first | (apply br_intro <;> intro hb <;> (have hb2 := hb) <;> (try simp [-Int.not_le, -Int.not_lt, -Nat.not_le, -Nat.not_lt, -Nat.add_left_cancel_iff] at hb2)) | simp (maxSteps := 2000000) (disch := first | omega | assumption | simp [*]) [*, -Int.not_le, -Int.not_lt, -Nat.not_le, -Nat.not_lt, -Nat.add_left_cancel_iff, wrap_i64, wrap_u64, Try.f43, isI_cells hu, isI_one hu, isI_low hu, isI_len hu, isI_cells hv, isI_one hv, isI_low hv, isI_len hv])
      all_goals exact absurd ⟨hb2.1, by omega⟩ hk
    · repeat' (first | (apply br_intro <;> intro hb <;> (have hb2 := hb) <;> (try simp [-Int.not_le, -Int.not_lt, -Nat.not_le, -Nat.not_lt, -Nat.add_left_cancel_iff] at hb2)) | simp (maxSteps := 2000000) (disch := first | omega | assumption | simp [*]) [*, -Int.not_le, -Int.not_lt, -Nat.not_le, -Nat.not_lt, -Nat.add_left_cancel_iff, wrap_i64, wrap_u64, Try.f43, isI_cells hu, isI_one hu, isI_low hu, isI_len hu, isI_cells hv, isI_one hv, isI_low hv, isI_len hv])
      all_goals exact absurd hb2 (by omega)
theorem iCompletionAt_s {n k : Int} {u v : AV} (hu : IsI u) (hv : IsI v) {K : AV → Prop} {tg : Tg K} : CW env 43 [.agg [.int .i64 n, u, v], .int .i64 k] K tg ↔ K (.tup [.agg [.int .i64 (compN n (xsOf u) (xsOf v) k), compV 3 n (xsOf u) (xsOf v) k], .bool (decide (CompC n (xsOf u) (xsOf v) k))]) := callsTo_iff (iCompletionAt_c hu hv)
attribute [simp] iCompletionAt_s
theorem compV_noEx {T : Nat} {n : Int} {ss ms : List Int} {k : Int} : noEx (compV T n ss ms k) = if CompC n ss ms k then .sl 1 .no (ints (comp n.toNat k ss ms)) else .sl 0 .lit [] := by
  unfold compV; split <;> simp
theorem compR_len (n : Int) (ss ms : List Int) (k : Int) : (compR n ss ms k).length ≤ 8 := by
  unfold compR; split
  · rename_i h; simp [comp]; exact h.1.1.2.2.1
  · simp
end Go.Proofs.Ytkkkgaapkibhkaa
