/- Deciding an open pair of a partial context. Conditions: none. -/
import Derived.Test.YtkkkgaapkibhkaaPart2
import Derived.Test.YtkkkgaapkibhkaaInt
import Derived.Test.YtkkkgaapkibhkaaAcc
import Derived.Test.YtkkkgaapkibhkaaCompl
namespace Go.Proofs.Ytkkkgaapkibhkaa
open Ev
set_option linter.unusedVariables false
set_option linter.unusedSimpArgs false
set_option maxHeartbeats 4000000

theorem setOf_drop (p : Nat → Bool) (m : Nat) : ∀ n : Nat, setOf p n = setOf (fun i => p i && decide (i ≠ m)) n + if m < n ∧ p m = true then 2 ^ m else 0
  | 0 => by simp [setOf]
  | n + 1 => by
    have ih := setOf_drop p m n
    simp only [setOf]
    by_cases e : n = m
    · subst e
      rw [ih]
      by_cases hp : p n = true
      · simp [hp]
      · simp [hp]
    · rw [ih]
      have e2 : m < n + 1 ↔ m < n := by omega
      simp only [e, ne_eq, not_false_eq_true, decide_true, Bool.and_true, e2]
      omega
theorem setOf_one {n m : Nat} (hn : n ≤ 8) (hm : m < n) : setOf (fun i => decide (i = m)) n = 2 ^ m := by
  rw [setOf_self (pset_pow hn hm)]
  exact setOf_congr fun i _ => by rw [phas_pow]
theorem has_diff {n m : Nat} {x : Int} (h : PSet n x = true) (hm : m < n) (hp : PHas x m = true) : ((diff x.toNat (2 ^ m) : Nat) : Int) = x - 2 ^ m := by
  have hn : n ≤ 8 := by have := (pset_iff.mp h).2.1; omega
  have h1 := setOf_diff (fun i => PHas x i) (fun i => decide (i = m)) n
  rw [← setOf_self h, setOf_one hn hm, pow_toNat] at h1
  have h2 := setOf_drop (fun i => PHas x i) m n
  rw [← setOf_self h, if_pos ⟨hm, hp⟩] at h2
  rw [h1]
  have h3 : setOf (fun i => PHas x i && !decide (i = m)) n = setOf (fun i => PHas x i && decide (i ≠ m)) n := setOf_congr fun i _ => by simp
  rw [h3]; omega
theorem not_or {n m : Nat} {x : Int} (h : PSet n x = true) (hm : m < n) (hp : PHas x m = false) : ((x.toNat ||| 2 ^ m : Nat) : Int) = x + 2 ^ m := by
  have hn : n ≤ 8 := by have := (pset_iff.mp h).2.1; omega
  have h1 := setOf_orr (fun i => PHas x i) (fun i => decide (i = m)) n
  rw [← setOf_self h, setOf_one hn hm, pow_toNat] at h1
  have h2 := setOf_drop (fun i => PHas x i || decide (i = m)) m n
  rw [if_pos ⟨hm, by simp⟩] at h2
  rw [h1, h2]
  have h3 : setOf (fun i => (PHas x i || decide (i = m)) && decide (i ≠ m)) n = x := by
    conv => rhs; rw [setOf_self h]
    refine setOf_congr fun i _ => ?_
    by_cases e : i = m
    · subst e; simp [hp]
    · simp [e]
  rw [h3]
def DecC (n : Int) (ss ms : List Int) (g m : Int) : Prop := PPart n ss ms ∧ (0 ≤ g ∧ g < ms.length) ∧ (0 ≤ m ∧ m ≤ 7) ∧ PHas (nth ms g.toNat) m = true
noncomputable instance (n : Int) (ss ms : List Int) (g m : Int) : Decidable (DecC n ss ms g m) := Classical.propDecidable _
def decS (ss : List Int) (g m : Nat) (has : Bool) : List Int := if has then ss.set g (nth ss g + 2 ^ m) else ss
def decM (ms : List Int) (g m : Nat) : List Int := ms.set g (nth ms g - 2 ^ m)
noncomputable def decN (n : Int) (ss ms : List Int) (g m : Int) : Int := if DecC n ss ms g m then n else 0
noncomputable def decVS (T k0 key : Nat) (n : Int) (ss ms : List Int) (g m : Int) (has : Bool) : AV := if DecC n ss ms g m then rowX 1 k0 T key (ints (decS ss g.toNat m.toNat has)) else .sl 0 .lit []
noncomputable def decVM (T k0 key : Nat) (n : Int) (ss ms : List Int) (g m : Int) : AV := if DecC n ss ms g m then rowX 1 k0 T key (ints (decM ms g.toNat m.toNat)) else .sl 0 .lit []
theorem sDecideCell_c {n g m : Int} {has : Bool} {u v : AV} (hu : IsI u) (hv : IsI v) : EvC env 48 [.agg [.int .i64 n, u, v], .int .i64 g, .int .i64 m, .bool has] (.tup [.agg [.int .i64 (decN n (xsOf u) (xsOf v) g m), decVS 3 1 39 n (xsOf u) (xsOf v) g m has, decVM 3 1 43 n (xsOf u) (xsOf v) g m], .bool (decide (DecC n (xsOf u) (xsOf v) g m))]) := by
  refine evC_of (F := Try.f48) rfl rfl (Nat.le_of_ble_eq_true rfl) ?_
  have hul := hu.len
  have hvl := hv.len
  by_cases hc : DecC n (xsOf u) (xsOf v) g m
  · obtain ⟨hp, ⟨hg0, hg1⟩, ⟨hm0, hm1⟩, hph⟩ := hc
    obtain ⟨N, rfl⟩ : ∃ N : Nat, n = N := ⟨n.toNat, by have := hp.1.1; omega⟩
    obtain ⟨G, rfl⟩ : ∃ G : Nat, g = G := ⟨g.toNat, by omega⟩
    obtain ⟨M, rfl⟩ : ∃ M : Nat, m = M := ⟨m.toNat, by omega⟩
    have hc : DecC N (xsOf u) (xsOf v) G M := ⟨hp, ⟨hg0, hg1⟩, ⟨hm0, hm1⟩, hph⟩
    rw [Int.toNat_natCast] at hph
    have r1 : decN N (xsOf u) (xsOf v) G M = N := by simp [decN, hc]
    have r2 : decVS 3 1 39 N (xsOf u) (xsOf v) G M has = rowX 1 1 3 39 (ints (decS (xsOf u) G M has)) := by simp [decVS, hc]
    have r3 : decVM 3 1 43 N (xsOf u) (xsOf v) G M = rowX 1 1 3 43 (ints (decM (xsOf v) G M)) := by simp [decVM, hc]
    rw [r1, r2, r3]
    have hG : G < (xsOf v).length := by omega
    have hG2 : G < (xsOf u).length := by have := hp.2.2.1; omega
    have hl : (xsOf u).length ≤ 8 := hp.1.2.2.1
    have hl2 : (xsOf v).length ≤ 8 := hp.2.1.2.2.1
    have hg9 : (G : Int) ≤ (xsOf v).length - 1 := by omega
    have hms := hp.2.1.2.2.2 G hG
    have hms8 := pset8 hms
    have hss := hp.1.2.2.2 G hG2
    have rm := pset_lt hms
    have rs := pset_lt hss
    have hM := phas_lt hms hph
    have hpw := pow_small (i := M) (by omega)
    clear r1 r2 r3
    repeat' (first | (apply br_intro <;> intro hb <;> (have hb2 := hb) <;> (try simp [-Int.not_le, -Int.not_lt, -Nat.not_le, -Nat.not_lt, -Nat.add_left_cancel_iff] at hb2)) | simp (maxSteps := 2000000) (disch := first | omega | assumption | simp [*]) [*, -Int.not_le, -Int.not_lt, -Nat.not_le, -Nat.not_lt, -Nat.add_left_cancel_iff, wrap_i64, wrap_u64, Try.f48, isI_cells hu, isI_one hu, isI_low hu, isI_len hu, isI_index hu, isI_load hu, isI_cells hv, isI_one hv, isI_low hv, isI_len hv, isI_index hv, isI_load hv])
    refine draw_listC [39, 43, 10] (by kernel_rfl) (by kernel_rfl) (by kernel_rfl) ?_
    repeat' (first | (apply br_intro <;> intro hb <;> (have hb2 := hb) <;> (try simp [-Int.not_le, -Int.not_lt, -Nat.not_le, -Nat.not_lt, -Nat.add_left_cancel_iff] at hb2)) | simp (maxSteps := 2000000) (disch := first | omega | assumption | simp [*]) [*, -Int.not_le, -Int.not_lt, -Nat.not_le, -Nat.not_lt, -Nat.add_left_cancel_iff, wrap_i64, wrap_u64, isI_cells hu, isI_one hu, isI_low hu, isI_len hu, isI_index hu, isI_load hu, isI_noKey hu, isI_cells hv, isI_one hv, isI_low hv, isI_len hv, isI_index hv, isI_load hv, isI_noKey hv])
    refine wr_ints hu rfl rfl (by omega) ?_
    intro v1 h1 hR1 hh1
    have o1 := hR1.one
    have c1 := hR1.cells
    have e14 : h1 4 = some (.var 0 55 (.agg [.int .i64 N, u, v])) := by rw [hh1 4 (by omega)]; simp [hset]
    have e18 : h1 8 = some (.var 0 55 (.agg [.int .i64 0, .sl 0 .lit [], .sl 0 .lit []])) := by rw [hh1 8 (by omega)]; simp [hset]
    have e143 : h1 43 = none := by rw [hh1 43 (by omega)]; simp [hset, hnil]
    have e110 : h1 10 = none := by rw [hh1 10 (by omega)]; simp [hset, hnil]
    clear hh1
    repeat' (first | (apply br_intro <;> intro hb <;> (have hb2 := hb) <;> (try simp [-Int.not_le, -Int.not_lt, -Nat.not_le, -Nat.not_lt, -Nat.add_left_cancel_iff] at hb2)) | simp (maxSteps := 2000000) (disch := first | omega | assumption | simp [*]) [*, -Int.not_le, -Int.not_lt, -Nat.not_le, -Nat.not_lt, -Nat.add_left_cancel_iff, wrap_i64, wrap_u64, isI_cells hu, isI_one hu, isI_low hu, isI_len hu, isI_index hu, isI_load hu, isI_noKey hu, isI_cells hv, isI_one hv, isI_low hv, isI_len hv, isI_index hv, isI_load hv, isI_noKey hv])
    refine wr_ints hv rfl rfl (by omega) ?_
    intro v2 h2 hR2 hh2
    have hR1' := hR1.keep (hh2 39 (by omega))
    have o2 := hR2.one
    have c2 := hR2.cells
    have e24 := (hh2 4 (by omega)).trans e14
    have e28 := (hh2 8 (by omega)).trans e18
    have e210 := (hh2 10 (by omega)).trans e110
    clear hh2 hR1 e14 e18 e143 e110
    repeat' (first | (apply br_intro <;> intro hb <;> (have hb2 := hb) <;> (try simp [-Int.not_le, -Int.not_lt, -Nat.not_le, -Nat.not_lt, -Nat.add_left_cancel_iff] at hb2)) | simp (maxSteps := 2000000) (disch := first | omega | assumption | simp [*]) [*, -Int.not_le, -Int.not_lt, -Nat.not_le, -Nat.not_lt, -Nat.add_left_cancel_iff, wrap_i64, wrap_u64, nextG, isI_cells hu, isI_one hu, isI_low hu, isI_len hu, isI_index hu, isI_load hu, isI_noKey hu, isI_cells hv, isI_one hv, isI_low hv, isI_len hv, isI_index hv, isI_load hv, isI_noKey hv])
    rcases hR1' with ⟨e, _⟩ | ⟨hx1, g1, hv1, hr1⟩
    · have h0 : (xsOf u).length = 0 := by simpa using congrArg List.length e
      omega
    rcases hR2 with ⟨e, _⟩ | ⟨hx2, g2, hv2, hr2⟩
    · have h0 : (xsOf v).length = 0 := by simpa using congrArg List.length e
      omega
    rw [ints_length] at hv1 hv2
    subst hv1 hv2
    have hend1 : ∀ (h' : Heap) (xs : List Int), h' 39 = some (.row g1 3 1 (ints xs)) → xs.length = (xsOf u).length → expo h' (.ms 39 g1 0 (xsOf u).length) = rowR 1 3 39 (ints xs) := fun h' xs e1 e2 => by
      rw [← rowX_row]
      exact Row.expoI (.inr ⟨fun e9 => absurd (show xs.length = 0 by simpa using congrArg List.length e9) (by omega), g1, by simp [e2], e1⟩)
    have hend2 : ∀ (h' : Heap) (xs : List Int), h' 43 = some (.row g2 3 1 (ints xs)) → xs.length = (xsOf v).length → expo h' (.ms 43 g2 0 (xsOf v).length) = rowR 1 3 43 (ints xs) := fun h' xs e1 e2 => by
      rw [← rowX_row]
      exact Row.expoI (.inr ⟨fun e9 => absurd (show xs.length = 0 by simpa using congrArg List.length e9) (by omega), g2, by simp [e2], e1⟩)
    clear hx1 hx2
    cases has with
    | true =>
      repeat' (first | (apply br_intro <;> intro hb <;> (have hb2 := hb) <;> (try simp [-Int.not_le, -Int.not_lt, -Nat.not_le, -Nat.not_lt, -Nat.add_left_cancel_iff] at hb2)) | (refine draw_listA (by rfl) (by kernel_rfl) ?_) | (refine draw_listB (by simp [allocsOf, isAlloc]; rfl) (by kernel_rfl) ?_) | simp (maxSteps := 2000000) (disch := first | omega | assumption | simp [*]) [*, -Int.not_le, -Int.not_lt, -Nat.not_le, -Nat.not_lt, -Nat.add_left_cancel_iff, wrap_i64, wrap_u64, hr1, hr2, isI_cells hu, isI_cells hv])
      refine ⟨hend1 _ _ ?_ ?_, hend2 _ _ ?_ ?_⟩ <;> simp [hset, hr1, hr2, decS, decM]
    | false =>
      repeat' (first | (apply br_intro <;> intro hb <;> (have hb2 := hb) <;> (try simp [-Int.not_le, -Int.not_lt, -Nat.not_le, -Nat.not_lt, -Nat.add_left_cancel_iff] at hb2)) | (refine draw_listA (by rfl) (by kernel_rfl) ?_) | (refine draw_listB (by simp [allocsOf, isAlloc]; rfl) (by kernel_rfl) ?_) | simp (maxSteps := 2000000) (disch := first | omega | assumption | simp [*]) [*, -Int.not_le, -Int.not_lt, -Nat.not_le, -Nat.not_lt, -Nat.add_left_cancel_iff, wrap_i64, wrap_u64, hr1, hr2, isI_cells hu, isI_cells hv])
      refine ⟨hend1 _ _ ?_ ?_, hend2 _ _ ?_ ?_⟩ <;> simp [hset, hr1, hr2, decS, decM]
  · have r1 : decN n (xsOf u) (xsOf v) g m = 0 := by simp [decN, hc]
    have r2 : decVS 3 1 39 n (xsOf u) (xsOf v) g m has = .sl 0 .lit [] := by simp [decVS, hc]
    have r3 : decVM 3 1 43 n (xsOf u) (xsOf v) g m = .sl 0 .lit [] := by simp [decVM, hc]
    rw [r1, r2, r3]
    by_cases hp : PPart n (xsOf u) (xsOf v)
    · by_cases hg : 0 ≤ g ∧ g < (xsOf v).length
      · obtain ⟨hg0, hg1⟩ := hg
        obtain ⟨G, rfl⟩ : ∃ G : Nat, g = G := ⟨g.toNat, by omega⟩
        have hG : G < (xsOf v).length := by omega
        have hg9 : (G : Int) ≤ (xsOf v).length - 1 := by omega
        have hl2 : (xsOf v).length ≤ 8 := hp.2.1.2.2.1
        have hms8 := pset8 (hp.2.1.2.2.2 G hG)
        have hh : (decide (0 ≤ m) && decide (m ≤ 7) && PHas (nth (xsOf v) G) m) = false := by
          cases h9 : (decide (0 ≤ m) && decide (m ≤ 7) && PHas (nth (xsOf v) G) m) with
          | false => rfl
          | true =>
            simp only [Bool.and_eq_true, decide_eq_true_eq] at h9
            exact absurd ⟨hp, ⟨hg0, hg1⟩, h9.1, h9.2⟩ hc
        clear r1 r2 r3
        have hh2 : (PSet 8 (nth (xsOf v) G) && (decide (0 ≤ m) && decide (m ≤ 7)) && PHas (nth (xsOf v) G) m) = false := by rw [hms8]; simpa using hh
        repeat' (first | (apply br_intro <;> intro hb <;> (have hb2 := hb) <;> (try simp [-Int.not_le, -Int.not_lt, -Nat.not_le, -Nat.not_lt, -Nat.add_left_cancel_iff] at hb2)) | simp (maxSteps := 2000000) (disch := first | omega | assumption | simp [*]) [*, -Int.not_le, -Int.not_lt, -Nat.not_le, -Nat.not_lt, -Nat.add_left_cancel_iff, wrap_i64, wrap_u64, Try.f48, isI_cells hu, isI_one hu, isI_low hu, isI_len hu, isI_index hu, isI_load hu, isI_cells hv, isI_one hv, isI_low hv, isI_len hv, isI_index hv, isI_load hv])
      · have hg9 : ¬ (0 ≤ g ∧ g ≤ (xsOf v).length - 1) := by omega
        have hgd : (decide (0 ≤ g) && decide (g ≤ ((xsOf v).length : Int) - 1)) = false := by
          rw [Bool.eq_false_iff]; intro h; simp only [Bool.and_eq_true, decide_eq_true_eq] at h; exact hg9 h
        have hl2 : (xsOf v).length ≤ 8 := hp.2.1.2.2.1
        clear hg hg9 r1 r2 r3
        repeat' (first | (apply br_intro <;> intro hb <;> (have hb2 := hb) <;> (try simp [-Int.not_le, -Int.not_lt, -Nat.not_le, -Nat.not_lt, -Nat.add_left_cancel_iff] at hb2)) | simp (maxSteps := 2000000) (disch := first | omega | assumption | simp [*]) [*, -Int.not_le, -Int.not_lt, -Nat.not_le, -Nat.not_lt, -Nat.add_left_cancel_iff, wrap_i64, wrap_u64, Try.f48, isI_cells hu, isI_one hu, isI_low hu, isI_len hu, isI_index hu, isI_load hu, isI_cells hv, isI_one hv, isI_low hv, isI_len hv, isI_index hv, isI_load hv])
    · clear r1 r2 r3
      repeat' (first | (apply br_intro <;> intro hb <;> (have hb2 := hb) <;> (try simp [-Int.not_le, -Int.not_lt, -Nat.not_le, -Nat.not_lt, -Nat.add_left_cancel_iff] at hb2)) | simp (maxSteps := 2000000) (disch := first | omega | assumption | simp [*]) [*, -Int.not_le, -Int.not_lt, -Nat.not_le, -Nat.not_lt, -Nat.add_left_cancel_iff, wrap_i64, wrap_u64, Try.f48, isI_cells hu, isI_one hu, isI_low hu, isI_len hu, isI_index hu, isI_load hu, isI_cells hv, isI_one hv, isI_low hv, isI_len hv, isI_index hv, isI_load hv])
theorem sDecideCell_s {n g m : Int} {has : Bool} {u v : AV} (hu : IsI u) (hv : IsI v) {K : AV → Prop} {tg : Tg K} : CW env 48 [.agg [.int .i64 n, u, v], .int .i64 g, .int .i64 m, .bool has] K tg ↔ K (.tup [.agg [.int .i64 (decN n (xsOf u) (xsOf v) g m), decVS 3 1 39 n (xsOf u) (xsOf v) g m has, decVM 3 1 43 n (xsOf u) (xsOf v) g m], .bool (decide (DecC n (xsOf u) (xsOf v) g m))]) := callsTo_iff (sDecideCell_c hu hv)
attribute [simp] sDecideCell_s
theorem iDecideCell_c {n g m : Int} {has : Bool} {u v : AV} (hu : IsI u) (hv : IsI v) : EvC env 47 [.agg [.int .i64 n, u, v], .int .i64 g, .int .i64 m, .bool has] (.tup [.agg [.int .i64 (decN n (xsOf u) (xsOf v) g m), decVS 3 1 38 n (xsOf u) (xsOf v) g m has, decVM 3 1 41 n (xsOf u) (xsOf v) g m], .bool (decide (DecC n (xsOf u) (xsOf v) g m))]) := by
  refine evC_of (F := Try.f47) rfl rfl (Nat.le_of_ble_eq_true rfl) ?_
  have hul := hu.len
  have hvl := hv.len
  by_cases hc : DecC n (xsOf u) (xsOf v) g m
  · obtain ⟨hp, ⟨hg0, hg1⟩, ⟨hm0, hm1⟩, hph⟩ := hc
    obtain ⟨N, rfl⟩ : ∃ N : Nat, n = N := ⟨n.toNat, by have := hp.1.1; omega⟩
    obtain ⟨G, rfl⟩ : ∃ G : Nat, g = G := ⟨g.toNat, by omega⟩
    obtain ⟨M, rfl⟩ : ∃ M : Nat, m = M := ⟨m.toNat, by omega⟩
    have hc : DecC N (xsOf u) (xsOf v) G M := ⟨hp, ⟨hg0, hg1⟩, ⟨hm0, hm1⟩, hph⟩
    rw [Int.toNat_natCast] at hph
    have r1 : decN N (xsOf u) (xsOf v) G M = N := by simp [decN, hc]
    have r2 : decVS 3 1 38 N (xsOf u) (xsOf v) G M has = rowX 1 1 3 38 (ints (decS (xsOf u) G M has)) := by simp [decVS, hc]
    have r3 : decVM 3 1 41 N (xsOf u) (xsOf v) G M = rowX 1 1 3 41 (ints (decM (xsOf v) G M)) := by simp [decVM, hc]
    rw [r1, r2, r3]
    have hG : G < (xsOf v).length := by omega
    have hG2 : G < (xsOf u).length := by have := hp.2.2.1; omega
    have hl : (xsOf u).length ≤ 8 := hp.1.2.2.1
    have hl2 : (xsOf v).length ≤ 8 := hp.2.1.2.2.1
    have hg9 : (G : Int) ≤ (xsOf v).length - 1 := by omega
    have hms := hp.2.1.2.2.2 G hG
    have hms8 := pset8 hms
    have hss := hp.1.2.2.2 G hG2
    have rm := pset_lt hms
    have rs := pset_lt hss
    have hM := phas_lt hms hph
    have hpw := pow_small (i := M) (by omega)
    have hclu : xsOf u ≠ [] → EvC env 99 [u] (bufR 3 7 1 (xsOf u)) := fun hne => cloneI_c hu hne (by omega)
    have hclv : xsOf v ≠ [] → EvC env 99 [v] (bufR 3 7 1 (xsOf v)) := fun hne => cloneI_c hv hne (by omega)
    have hdm := has_diff hms (by omega) hph
    have hmN : M < N := by omega
    clear r1 r2 r3
    repeat' (first | (apply br_intro <;> intro hb <;> (have hb2 := hb) <;> (try simp [-Int.not_le, -Int.not_lt, -Nat.not_le, -Nat.not_lt, -Nat.add_left_cancel_iff] at hb2)) | simp (maxSteps := 2000000) (disch := first | omega | assumption | simp [*]) [*, -Int.not_le, -Int.not_lt, -Nat.not_le, -Nat.not_lt, -Nat.add_left_cancel_iff, wrap_i64, wrap_u64, Try.f47, isI_cells hu, isI_one hu, isI_low hu, isI_len hu, isI_index hu, isI_load hu, isI_cells hv, isI_one hv, isI_low hv, isI_len hv, isI_index hv, isI_load hv])
    refine draw_listC [38, 41, 10] (by kernel_rfl) (by kernel_rfl) (by kernel_rfl) ?_
    repeat' (first | (apply br_intro <;> intro hb <;> (have hb2 := hb) <;> (try simp [-Int.not_le, -Int.not_lt, -Nat.not_le, -Nat.not_lt, -Nat.add_left_cancel_iff] at hb2)) | simp (maxSteps := 2000000) (disch := first | omega | assumption | simp [*]) [*, -Int.not_le, -Int.not_lt, -Nat.not_le, -Nat.not_lt, -Nat.add_left_cancel_iff, wrap_i64, wrap_u64, isI_cells hu, isI_one hu, isI_low hu, isI_len hu, isI_index hu, isI_load hu, isI_noKey hu, isI_cells hv, isI_one hv, isI_low hv, isI_len hv, isI_index hv, isI_load hv, isI_noKey hv])
    refine cf_clone (R := bufR 3 7 1 (xsOf u)) (T := 3) (key := 7) rfl rfl rfl (isI_low hu _) hu hclu (fun hne => ownR_buf ..) ?_
    intro v1 h1 hR1 hh1
    have o1 := hR1.one
    have c1 := hR1.cells
    have e14 : h1 4 = some (.var 0 55 (.agg [.int .i64 N, u, v])) := by rw [hh1 4 (by omega)]; simp [hset]
    have e18 : h1 8 = some (.var 0 55 (.agg [.int .i64 0, .sl 0 .lit [], .sl 0 .lit []])) := by rw [hh1 8 (by omega)]; simp [hset]
    have e143 : h1 41 = none := by rw [hh1 41 (by omega)]; simp [hset, hnil]
    have e110 : h1 10 = none := by rw [hh1 10 (by omega)]; simp [hset, hnil]
    clear hh1
    repeat' (first | (apply br_intro <;> intro hb <;> (have hb2 := hb) <;> (try simp [-Int.not_le, -Int.not_lt, -Nat.not_le, -Nat.not_lt, -Nat.add_left_cancel_iff] at hb2)) | simp (maxSteps := 2000000) (disch := first | omega | assumption | simp [*]) [*, -Int.not_le, -Int.not_lt, -Nat.not_le, -Nat.not_lt, -Nat.add_left_cancel_iff, wrap_i64, wrap_u64, isI_cells hu, isI_one hu, isI_low hu, isI_len hu, isI_index hu, isI_load hu, isI_noKey hu, isI_cells hv, isI_one hv, isI_low hv, isI_len hv, isI_index hv, isI_load hv, isI_noKey hv])
    refine cf_clone (R := bufR 3 7 1 (xsOf v)) (T := 3) (key := 7) rfl rfl rfl (isI_low hv _) hv hclv (fun hne => ownR_buf ..) ?_
    intro v2 h2 hR2 hh2
    have hR1' := hR1.keep (hh2 38 (by omega))
    have o2 := hR2.one
    have c2 := hR2.cells
    have e24 := (hh2 4 (by omega)).trans e14
    have e28 := (hh2 8 (by omega)).trans e18
    have e210 := (hh2 10 (by omega)).trans e110
    clear hh2 hR1 e14 e18 e143 e110
    repeat' (first | (apply br_intro <;> intro hb <;> (have hb2 := hb) <;> (try simp [-Int.not_le, -Int.not_lt, -Nat.not_le, -Nat.not_lt, -Nat.add_left_cancel_iff] at hb2)) | simp (maxSteps := 2000000) (disch := first | omega | assumption | simp [*]) [*, -Int.not_le, -Int.not_lt, -Nat.not_le, -Nat.not_lt, -Nat.add_left_cancel_iff, wrap_i64, wrap_u64, nextG, isI_cells hu, isI_one hu, isI_low hu, isI_len hu, isI_index hu, isI_load hu, isI_noKey hu, isI_cells hv, isI_one hv, isI_low hv, isI_len hv, isI_index hv, isI_load hv, isI_noKey hv])
    rcases hR1' with ⟨e, _⟩ | ⟨hx1, g1, hv1, hr1⟩
    · have h0 : (xsOf u).length = 0 := by simpa using congrArg List.length e
      omega
    rcases hR2 with ⟨e, _⟩ | ⟨hx2, g2, hv2, hr2⟩
    · have h0 : (xsOf v).length = 0 := by simpa using congrArg List.length e
      omega
    rw [ints_length] at hv1 hv2
    subst hv1 hv2
    have hend1 : ∀ (h' : Heap) (xs : List Int), h' 38 = some (.row g1 3 1 (ints xs)) → xs.length = (xsOf u).length → expo h' (.ms 38 g1 0 (xsOf u).length) = rowR 1 3 38 (ints xs) := fun h' xs e1 e2 => by
      rw [← rowX_row]
      exact Row.expoI (.inr ⟨fun e9 => absurd (show xs.length = 0 by simpa using congrArg List.length e9) (by omega), g1, by simp [e2], e1⟩)
    have hend2 : ∀ (h' : Heap) (xs : List Int), h' 41 = some (.row g2 3 1 (ints xs)) → xs.length = (xsOf v).length → expo h' (.ms 41 g2 0 (xsOf v).length) = rowR 1 3 41 (ints xs) := fun h' xs e1 e2 => by
      rw [← rowX_row]
      exact Row.expoI (.inr ⟨fun e9 => absurd (show xs.length = 0 by simpa using congrArg List.length e9) (by omega), g2, by simp [e2], e1⟩)
    clear hx1 hx2
    cases has with
    | true =>
      have hph2 : PHas (nth (xsOf u) G) M = false := by
        have h9 := hp.2.2.2.2 G hG2
        cases h8 : PHas (nth (xsOf u) G) M with
        | false => rfl
        | true =>
          rw [phas_nat rs.1] at h8
          rw [phas_nat rm.1] at hph
          have h7 := congrArg (fun x => Nat.testBit x M) h9
          simp [h8, hph] at h7
      have hor := not_or hss hmN hph2
      clear hph2
      repeat' (first | (apply br_intro <;> intro hb <;> (have hb2 := hb) <;> (try simp [-Int.not_le, -Int.not_lt, -Nat.not_le, -Nat.not_lt, -Nat.add_left_cancel_iff] at hb2)) | (refine draw_listA (by rfl) (by kernel_rfl) ?_) | (refine draw_listB (by simp [allocsOf, isAlloc]; rfl) (by kernel_rfl) ?_) | simp (maxSteps := 2000000) (disch := first | omega | assumption | simp [*]) [*, -Int.not_le, -Int.not_lt, -Nat.not_le, -Nat.not_lt, -Nat.add_left_cancel_iff, wrap_i64, wrap_u64, bits_or, bits_andNot, pow_toNat, hr1, hr2, isI_cells hu, isI_cells hv])
      refine ⟨hend1 _ _ ?_ ?_, hend2 _ _ ?_ ?_⟩ <;> simp [hset, hr1, hr2, decS, decM]
    | false =>
      repeat' (first | (apply br_intro <;> intro hb <;> (have hb2 := hb) <;> (try simp [-Int.not_le, -Int.not_lt, -Nat.not_le, -Nat.not_lt, -Nat.add_left_cancel_iff] at hb2)) | (refine draw_listA (by rfl) (by kernel_rfl) ?_) | (refine draw_listB (by simp [allocsOf, isAlloc]; rfl) (by kernel_rfl) ?_) | simp (maxSteps := 2000000) (disch := first | omega | assumption | simp [*]) [*, -Int.not_le, -Int.not_lt, -Nat.not_le, -Nat.not_lt, -Nat.add_left_cancel_iff, wrap_i64, wrap_u64, bits_or, bits_andNot, pow_toNat, hr1, hr2, isI_cells hu, isI_cells hv])
      refine ⟨hend1 _ _ ?_ ?_, hend2 _ _ ?_ ?_⟩ <;> simp [hset, hr1, hr2, decS, decM]
  · have r1 : decN n (xsOf u) (xsOf v) g m = 0 := by simp [decN, hc]
    have r2 : decVS 3 1 38 n (xsOf u) (xsOf v) g m has = .sl 0 .lit [] := by simp [decVS, hc]
    have r3 : decVM 3 1 41 n (xsOf u) (xsOf v) g m = .sl 0 .lit [] := by simp [decVM, hc]
    rw [r1, r2, r3]
    by_cases hp : PPart n (xsOf u) (xsOf v)
    · by_cases hg : 0 ≤ g ∧ g < (xsOf v).length
      · obtain ⟨hg0, hg1⟩ := hg
        obtain ⟨G, rfl⟩ : ∃ G : Nat, g = G := ⟨g.toNat, by omega⟩
        have hG : G < (xsOf v).length := by omega
        have hg9 : (G : Int) ≤ (xsOf v).length - 1 := by omega
        have hl2 : (xsOf v).length ≤ 8 := hp.2.1.2.2.1
        have hms8 := pset8 (hp.2.1.2.2.2 G hG)
        have hh : (decide (0 ≤ m) && decide (m ≤ 7) && PHas (nth (xsOf v) G) m) = false := by
          cases h9 : (decide (0 ≤ m) && decide (m ≤ 7) && PHas (nth (xsOf v) G) m) with
          | false => rfl
          | true =>
            simp only [Bool.and_eq_true, decide_eq_true_eq] at h9
            exact absurd ⟨hp, ⟨hg0, hg1⟩, h9.1, h9.2⟩ hc
        clear r1 r2 r3
        have hh2 : (PSet 8 (nth (xsOf v) G) && (decide (0 ≤ m) && decide (m ≤ 7)) && PHas (nth (xsOf v) G) m) = false := by rw [hms8]; simpa using hh
        repeat' (first | (apply br_intro <;> intro hb <;> (have hb2 := hb) <;> (try simp [-Int.not_le, -Int.not_lt, -Nat.not_le, -Nat.not_lt, -Nat.add_left_cancel_iff] at hb2)) | simp (maxSteps := 2000000) (disch := first | omega | assumption | simp [*]) [*, -Int.not_le, -Int.not_lt, -Nat.not_le, -Nat.not_lt, -Nat.add_left_cancel_iff, wrap_i64, wrap_u64, Try.f47, isI_cells hu, isI_one hu, isI_low hu, isI_len hu, isI_index hu, isI_load hu, isI_cells hv, isI_one hv, isI_low hv, isI_len hv, isI_index hv, isI_load hv])
      · have hg9 : ¬ (0 ≤ g ∧ g ≤ (xsOf v).length - 1) := by omega
        have hgd : (decide (0 ≤ g) && decide (g ≤ ((xsOf v).length : Int) - 1)) = false := by
          rw [Bool.eq_false_iff]; intro h; simp only [Bool.and_eq_true, decide_eq_true_eq] at h; exact hg9 h
        have hl2 : (xsOf v).length ≤ 8 := hp.2.1.2.2.1
        clear hg hg9 r1 r2 r3
        repeat' (first | (apply br_intro <;> intro hb <;> (have hb2 := hb) <;> (try simp [-Int.not_le, -Int.not_lt, -Nat.not_le, -Nat.not_lt, -Nat.add_left_cancel_iff] at hb2)) | simp (maxSteps := 2000000) (disch := first | omega | assumption | simp [*]) [*, -Int.not_le, -Int.not_lt, -Nat.not_le, -Nat.not_lt, -Nat.add_left_cancel_iff, wrap_i64, wrap_u64, Try.f47, isI_cells hu, isI_one hu, isI_low hu, isI_len hu, isI_index hu, isI_load hu, isI_cells hv, isI_one hv, isI_low hv, isI_len hv, isI_index hv, isI_load hv])
    · clear r1 r2 r3
      repeat' (first | (apply br_intro <;> intro hb <;> (have hb2 := hb) <;> (try simp [-Int.not_le, -Int.not_lt, -Nat.not_le, -Nat.not_lt, -Nat.add_left_cancel_iff] at hb2)) | simp (maxSteps := 2000000) (disch := first | omega | assumption | simp [*]) [*, -Int.not_le, -Int.not_lt, -Nat.not_le, -Nat.not_lt, -Nat.add_left_cancel_iff, wrap_i64, wrap_u64, Try.f47, isI_cells hu, isI_one hu, isI_low hu, isI_len hu, isI_index hu, isI_load hu, isI_cells hv, isI_one hv, isI_low hv, isI_len hv, isI_index hv, isI_load hv])
theorem iDecideCell_s {n g m : Int} {has : Bool} {u v : AV} (hu : IsI u) (hv : IsI v) {K : AV → Prop} {tg : Tg K} : CW env 47 [.agg [.int .i64 n, u, v], .int .i64 g, .int .i64 m, .bool has] K tg ↔ K (.tup [.agg [.int .i64 (decN n (xsOf u) (xsOf v) g m), decVS 3 1 38 n (xsOf u) (xsOf v) g m has, decVM 3 1 41 n (xsOf u) (xsOf v) g m], .bool (decide (DecC n (xsOf u) (xsOf v) g m))]) := callsTo_iff (iDecideCell_c hu hv)
attribute [simp] iDecideCell_s
end Go.Proofs.Ytkkkgaapkibhkaa
