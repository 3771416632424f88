/- The scales and the agreements, the program's: the rows are the caller's own. Conditions: none. -/
import Derived.Test.YtppfgokonlloaaaScaleE
import Derived.Test.YtppfgokonlloaaaTableO
namespace Go.Proofs.Ytppfgokonlloaaa
open Ev
set_option linter.unusedVariables false
set_option linter.unusedSimpArgs false
set_option maxHeartbeats 4000000

theorem iNominal_c {u v : AV} (hu : IsI u) (hv : IsLL v) : EvC env 22 [.agg [u, v]] (.tup [.agg [.int .i64 (scM 0 (xsOf u) (xssOf v)), rowX 1 0 3 5 (ints (scX 0 (xsOf u) (xssOf v)))], .bool (decide (ScC 0 (xsOf u) (xssOf v)))]) := by
  refine evC_of (F := Try.f22) rfl rfl (Nat.le_of_ble_eq_true rfl) ?_
  have hM : (if ScC 0 (xsOf u) (xssOf v) then (((allC 0 (xsOf u) (xsOf u).length).length : Nat) : Int) else ((0 : Nat) : Int)) = (scM 0 (xsOf u) (xssOf v) : Int) := by unfold scM; split <;> rfl
  have hX : (if ScC 0 (xsOf u) (xssOf v) then scR 0 (xsOf u) (xssOf v) else []) = scX 0 (xsOf u) (xssOf v) := rfl
  have h1 := iScaled_c hu hv rfl rfl rfl (g := 47) (s := 0) fun a y h1 h2 => iNom1_t h1 h2
  rw [hM, hX] at h1
  obtain ⟨M, hM2⟩ : ∃ M, scM 0 (xsOf u) (xssOf v) = M := ⟨_, rfl⟩
  obtain ⟨X, hX2⟩ : ∃ X, scX 0 (xsOf u) (xssOf v) = X := ⟨_, rfl⟩
  obtain ⟨B, hB2⟩ : ∃ B, decide (ScC 0 (xsOf u) (xssOf v)) = B := ⟨_, rfl⟩
  rw [hM2, hX2, hB2] at h1 ⊢
  clear hM hX hM2 hX2 hB2
  repeat' (first | (apply brI <;> intro hb hb2 <;> (try simp [-Int.not_le, -Int.not_lt, -Nat.not_le, -Nat.not_lt, -Nat.add_left_cancel_iff] at hb2)) | simp (maxSteps := 2000000) (disch := first | omega | assumption | simp [*]) [*, -Int.not_le, -Int.not_lt, -Nat.not_le, -Nat.not_lt, -Nat.add_left_cancel_iff, wrap_i64, wrap_u64, Try.f22, isI_cells hu, isI_one hu, isI_low hu, isI_len hu, isLL_cells hv, isLL_one hv, isLL_low hv, isLL_len hv])
  refine cf_ctxb (by simpa [isI_low hu, isLL_low hv] using h1) (ownR_buf ..) (flat_ints _) rfl ?_
  intro x0 m0 hx0 hm0
  have o0 := hx0.one
  have c0 := hx0.cells
  have k1 := hm0 1 (by decide)
  have k2 := hm0 2 (by decide)
  simp [hset] at k1 k2
  repeat' (first | (apply brI <;> intro hb hb2 <;> (try simp [-Int.not_le, -Int.not_lt, -Nat.not_le, -Nat.not_lt, -Nat.add_left_cancel_iff] at hb2)) | (refine draw_listA (by rfl) (by kernel_rfl) ?_) | (refine draw_listB (by simp [allocsOf, isAlloc]; rfl) (by kernel_rfl) ?_) | simp (maxSteps := 2000000) (disch := first | omega | assumption | simp [*]) [*, -Int.not_le, -Int.not_lt, -Nat.not_le, -Nat.not_lt, -Nat.add_left_cancel_iff, wrap_i64, wrap_u64, isI_cells hu, isI_one hu, isI_low hu, isI_len hu, isLL_cells hv, isLL_one hv, isLL_low hv, isLL_len hv])
  refine (hx0.keep ?_).expoI
  simp [hset]
theorem iNominal_s {u v : AV} (hu : IsI u) (hv : IsLL v) {K : AV → Prop} {tg : Tg K} : CW env 22 [.agg [u, v]] K tg ↔ K (.tup [.agg [.int .i64 (scM 0 (xsOf u) (xssOf v)), rowX 1 0 3 5 (ints (scX 0 (xsOf u) (xssOf v)))], .bool (decide (ScC 0 (xsOf u) (xssOf v)))]) := callsTo_iff (iNominal_c hu hv)
attribute [simp] iNominal_s
theorem iOrdinal_c {u v : AV} (hu : IsI u) (hv : IsLL v) : EvC env 24 [.agg [u, v]] (.tup [.agg [.int .i64 (scM 1 (xsOf u) (xssOf v)), rowX 1 0 3 5 (ints (scX 1 (xsOf u) (xssOf v)))], .bool (decide (ScC 1 (xsOf u) (xssOf v)))]) := by
  refine evC_of (F := Try.f24) rfl rfl (Nat.le_of_ble_eq_true rfl) ?_
  have hM : (if ScC 1 (xsOf u) (xssOf v) then (((allC 1 (xsOf u) (xsOf u).length).length : Nat) : Int) else ((0 : Nat) : Int)) = (scM 1 (xsOf u) (xssOf v) : Int) := by unfold scM; split <;> rfl
  have hX : (if ScC 1 (xsOf u) (xssOf v) then scR 1 (xsOf u) (xssOf v) else []) = scX 1 (xsOf u) (xssOf v) := rfl
  have h1 := iScaled_c hu hv rfl rfl rfl (g := 49) (s := 1) fun a y h1 h2 => iOrd1_t h1 h2
  rw [hM, hX] at h1
  obtain ⟨M, hM2⟩ : ∃ M, scM 1 (xsOf u) (xssOf v) = M := ⟨_, rfl⟩
  obtain ⟨X, hX2⟩ : ∃ X, scX 1 (xsOf u) (xssOf v) = X := ⟨_, rfl⟩
  obtain ⟨B, hB2⟩ : ∃ B, decide (ScC 1 (xsOf u) (xssOf v)) = B := ⟨_, rfl⟩
  rw [hM2, hX2, hB2] at h1 ⊢
  clear hM hX hM2 hX2 hB2
  repeat' (first | (apply brI <;> intro hb hb2 <;> (try simp [-Int.not_le, -Int.not_lt, -Nat.not_le, -Nat.not_lt, -Nat.add_left_cancel_iff] at hb2)) | simp (maxSteps := 2000000) (disch := first | omega | assumption | simp [*]) [*, -Int.not_le, -Int.not_lt, -Nat.not_le, -Nat.not_lt, -Nat.add_left_cancel_iff, wrap_i64, wrap_u64, Try.f24, isI_cells hu, isI_one hu, isI_low hu, isI_len hu, isLL_cells hv, isLL_one hv, isLL_low hv, isLL_len hv])
  refine cf_ctxb (by simpa [isI_low hu, isLL_low hv] using h1) (ownR_buf ..) (flat_ints _) rfl ?_
  intro x0 m0 hx0 hm0
  have o0 := hx0.one
  have c0 := hx0.cells
  have k1 := hm0 1 (by decide)
  have k2 := hm0 2 (by decide)
  simp [hset] at k1 k2
  repeat' (first | (apply brI <;> intro hb hb2 <;> (try simp [-Int.not_le, -Int.not_lt, -Nat.not_le, -Nat.not_lt, -Nat.add_left_cancel_iff] at hb2)) | (refine draw_listA (by rfl) (by kernel_rfl) ?_) | (refine draw_listB (by simp [allocsOf, isAlloc]; rfl) (by kernel_rfl) ?_) | simp (maxSteps := 2000000) (disch := first | omega | assumption | simp [*]) [*, -Int.not_le, -Int.not_lt, -Nat.not_le, -Nat.not_lt, -Nat.add_left_cancel_iff, wrap_i64, wrap_u64, isI_cells hu, isI_one hu, isI_low hu, isI_len hu, isLL_cells hv, isLL_one hv, isLL_low hv, isLL_len hv])
  refine (hx0.keep ?_).expoI
  simp [hset]
theorem iOrdinal_s {u v : AV} (hu : IsI u) (hv : IsLL v) {K : AV → Prop} {tg : Tg K} : CW env 24 [.agg [u, v]] K tg ↔ K (.tup [.agg [.int .i64 (scM 1 (xsOf u) (xssOf v)), rowX 1 0 3 5 (ints (scX 1 (xsOf u) (xssOf v)))], .bool (decide (ScC 1 (xsOf u) (xssOf v)))]) := callsTo_iff (iOrdinal_c hu hv)
attribute [simp] iOrdinal_s
theorem iInterordinal_c {u v : AV} (hu : IsI u) (hv : IsLL v) : EvC env 26 [.agg [u, v]] (.tup [.agg [.int .i64 (scM 2 (xsOf u) (xssOf v)), rowX 1 0 3 5 (ints (scX 2 (xsOf u) (xssOf v)))], .bool (decide (ScC 2 (xsOf u) (xssOf v)))]) := by
  refine evC_of (F := Try.f26) rfl rfl (Nat.le_of_ble_eq_true rfl) ?_
  have hM : (if ScC 2 (xsOf u) (xssOf v) then (((allC 2 (xsOf u) (xsOf u).length).length : Nat) : Int) else ((0 : Nat) : Int)) = (scM 2 (xsOf u) (xssOf v) : Int) := by unfold scM; split <;> rfl
  have hX : (if ScC 2 (xsOf u) (xssOf v) then scR 2 (xsOf u) (xssOf v) else []) = scX 2 (xsOf u) (xssOf v) := rfl
  have h1 := iScaled_c hu hv rfl rfl rfl (g := 51) (s := 2) fun a y h1 h2 => iInt1_t h1 h2
  rw [hM, hX] at h1
  obtain ⟨M, hM2⟩ : ∃ M, scM 2 (xsOf u) (xssOf v) = M := ⟨_, rfl⟩
  obtain ⟨X, hX2⟩ : ∃ X, scX 2 (xsOf u) (xssOf v) = X := ⟨_, rfl⟩
  obtain ⟨B, hB2⟩ : ∃ B, decide (ScC 2 (xsOf u) (xssOf v)) = B := ⟨_, rfl⟩
  rw [hM2, hX2, hB2] at h1 ⊢
  clear hM hX hM2 hX2 hB2
  repeat' (first | (apply brI <;> intro hb hb2 <;> (try simp [-Int.not_le, -Int.not_lt, -Nat.not_le, -Nat.not_lt, -Nat.add_left_cancel_iff] at hb2)) | simp (maxSteps := 2000000) (disch := first | omega | assumption | simp [*]) [*, -Int.not_le, -Int.not_lt, -Nat.not_le, -Nat.not_lt, -Nat.add_left_cancel_iff, wrap_i64, wrap_u64, Try.f26, isI_cells hu, isI_one hu, isI_low hu, isI_len hu, isLL_cells hv, isLL_one hv, isLL_low hv, isLL_len hv])
  refine cf_ctxb (by simpa [isI_low hu, isLL_low hv] using h1) (ownR_buf ..) (flat_ints _) rfl ?_
  intro x0 m0 hx0 hm0
  have o0 := hx0.one
  have c0 := hx0.cells
  have k1 := hm0 1 (by decide)
  have k2 := hm0 2 (by decide)
  simp [hset] at k1 k2
  repeat' (first | (apply brI <;> intro hb hb2 <;> (try simp [-Int.not_le, -Int.not_lt, -Nat.not_le, -Nat.not_lt, -Nat.add_left_cancel_iff] at hb2)) | (refine draw_listA (by rfl) (by kernel_rfl) ?_) | (refine draw_listB (by simp [allocsOf, isAlloc]; rfl) (by kernel_rfl) ?_) | simp (maxSteps := 2000000) (disch := first | omega | assumption | simp [*]) [*, -Int.not_le, -Int.not_lt, -Nat.not_le, -Nat.not_lt, -Nat.add_left_cancel_iff, wrap_i64, wrap_u64, isI_cells hu, isI_one hu, isI_low hu, isI_len hu, isLL_cells hv, isLL_one hv, isLL_low hv, isLL_len hv])
  refine (hx0.keep ?_).expoI
  simp [hset]
theorem iInterordinal_s {u v : AV} (hu : IsI u) (hv : IsLL v) {K : AV → Prop} {tg : Tg K} : CW env 26 [.agg [u, v]] K tg ↔ K (.tup [.agg [.int .i64 (scM 2 (xsOf u) (xssOf v)), rowX 1 0 3 5 (ints (scX 2 (xsOf u) (xssOf v)))], .bool (decide (ScC 2 (xsOf u) (xssOf v)))]) := callsTo_iff (iInterordinal_c hu hv)
attribute [simp] iInterordinal_s
theorem contextOf_o {n : Int} {v : AV} {xs : List Int} {key : Nat} {h : Heap} {off : Nat} {K : AV → Heap → Prop} (hR : Row h key 3 1 1 v (ints xs)) (hl : xs.length ≤ 1048576) (hne : key ≠ off + 6) (hK : ∀ h', (∀ x, x ≠ off + 6 → h' x = h x) → K (.tup [.agg [.int .i64 (if xs.length ≤ 8 then n else 0), if xs.length ≤ 8 then v else .sl 0 .lit []], .bool (decide (xs.length ≤ 8))]) h') : OpenTo env 41 [.int .i64 n, v, .bool true] h off K := by
  refine openTo_of (F := Try.f41) rfl rfl (Nat.le_of_ble_eq_true rfl) ?_
  have o1 := hR.one
  have c1 := hR.cells
  have hln := fun E t ht => hR.len (E := E) (t := t) ht
  by_cases h8 : xs.length ≤ 8
  · have h8i : ¬ (8 : Int) < (xs.length : Int) := by omega
    rw [if_pos h8, if_pos h8, decide_eq_true h8] at hK
    repeat' (first | (apply brI <;> intro hb hb2 <;> (try simp [-Int.not_le, -Int.not_lt, -Nat.not_le, -Nat.not_lt, -Nat.add_left_cancel_iff] at hb2)) | simp (maxSteps := 2000000) (disch := first | omega | assumption | simp [*]) [*, -Int.not_le, -Int.not_lt, -Nat.not_le, -Nat.not_lt, -Nat.add_left_cancel_iff, wrap_i64, wrap_u64, Try.f41, hln])
    exact hK _ fun x hx => hset_other _ _ hx
  · have h8i : (8 : Int) < (xs.length : Int) := by omega
    rw [if_neg h8, if_neg h8, decide_eq_false h8] at hK
    repeat' (first | (apply brI <;> intro hb hb2 <;> (try simp [-Int.not_le, -Int.not_lt, -Nat.not_le, -Nat.not_lt, -Nat.add_left_cancel_iff] at hb2)) | simp (maxSteps := 2000000) (disch := first | omega | assumption | simp [*]) [*, -Int.not_le, -Int.not_lt, -Nat.not_le, -Nat.not_lt, -Nat.add_left_cancel_iff, wrap_i64, wrap_u64, Try.f41, hln])
    exact hK _ fun x hx => hset_other _ _ hx
theorem isLL_noKey {v : AV} (hv : IsLL v) (κ : Nat) : hasKey κ v = false := by
  obtain ⟨k, o, es, rfl, _, _⟩ := hv.l.ok
  simp
noncomputable def agW (lv : List Int) (xss : List (List Int)) : AV := if AgC lv xss then rowX 1 1 3 12 (ints (agTo xss xss.length)) else .sl 0 .lit []
theorem iAgr_c {u v : AV} (hu : IsI u) (hv : IsLL v) : EvC env 18 [.agg [u, v]] (.tup [.agg [.int .i64 (agM (xsOf u) (xssOf v)), agW (xsOf u) (xssOf v)], .bool (decide (AgC (xsOf u) (xssOf v)))]) := by
  refine evC_of (F := Try.f18) rfl rfl (Nat.le_of_ble_eq_true rfl) ?_
  by_cases hp : PTab (xsOf u) (xssOf v)
  · have hal := agTo_len (xssOf v) (xssOf v).length
    have hn8 : (xssOf v).length ≤ 8 := hp.2.1
    have hkk : (xssOf v).length * (xssOf v).length ≤ 8 * 8 := Nat.mul_le_mul hn8 hn8
    have k1 := iAgreements_c hu hv hn8 (fun i hi => (hp.2.2.2 i hi).1) (by have := hp.1; omega)
    obtain ⟨X, hX⟩ : ∃ X, agTo (xssOf v) (xssOf v).length = X := ⟨_, rfl⟩
    have hA : AgC (xsOf u) (xssOf v) ↔ X.length ≤ 8 := by
      unfold AgC; rw [hX]; exact ⟨fun h => h.2, fun h => ⟨hp, h⟩⟩
    have eM : (agM (xsOf u) (xssOf v) : Int) = if X.length ≤ 8 then ((xsOf u).length : Int) else 0 := by
      unfold agM
      by_cases h : X.length ≤ 8
      · rw [if_pos (hA.2 h), if_pos h]
      · rw [if_neg (fun e => h (hA.1 e)), if_neg h]; rfl
    have eW : agW (xsOf u) (xssOf v) = if X.length ≤ 8 then rowX 1 1 3 12 (ints X) else .sl 0 .lit [] := by
      unfold agW
      by_cases h : X.length ≤ 8
      · rw [if_pos (hA.2 h), if_pos h, hX]
      · rw [if_neg (fun e => h (hA.1 e)), if_neg h]
    have eC : decide (AgC (xsOf u) (xssOf v)) = decide (X.length ≤ 8) := by rw [Bool.eq_iff_iff, decide_eq_true_iff, decide_eq_true_iff]; exact hA
    clear hA
    rw [eM, eW, eC]
    rw [hX] at k1 hal
    clear eM eW eC hX
    repeat' (first | (apply brI <;> intro hb hb2 <;> (try simp [-Int.not_le, -Int.not_lt, -Nat.not_le, -Nat.not_lt, -Nat.add_left_cancel_iff] at hb2)) | simp (maxSteps := 2000000) (disch := first | omega | assumption | simp [*]) [*, -Int.not_le, -Int.not_lt, -Nat.not_le, -Nat.not_lt, -Nat.add_left_cancel_iff, wrap_i64, wrap_u64, Try.f18, hp, isI_cells hu, isI_one hu, isI_low hu, isI_len hu, isLL_cells hv, isLL_one hv, isLL_low hv, isLL_len hv])
    refine draw_listC [12] (by kernel_rfl) (by kernel_rfl) (by kernel_rfl) ?_
    repeat' (first | (apply brI <;> intro hb hb2 <;> (try simp [-Int.not_le, -Int.not_lt, -Nat.not_le, -Nat.not_lt, -Nat.add_left_cancel_iff] at hb2)) | simp (maxSteps := 2000000) (disch := first | omega | assumption | simp [*]) [*, -Int.not_le, -Int.not_lt, -Nat.not_le, -Nat.not_lt, -Nat.add_left_cancel_iff, wrap_i64, wrap_u64, hp, isI_cells hu, isI_one hu, isI_low hu, isI_len hu, isLL_cells hv, isLL_one hv, isLL_low hv, isLL_len hv, isI_noKey hu, isLL_noKey hv])
    refine cf_row1 (by simpa [isI_low hu, isLL_low hv] using k1) (ownR_buf ..) (flat_ints _) rfl ?_
    intro x0 m0 hx0 hm0
    have o0 := hx0.one
    have c0 := hx0.cells
    have q1 := hm0 1 (by decide)
    have q2 := hm0 2 (by decide)
    simp [hset] at q1 q2
    repeat' (first | (apply brI <;> intro hb hb2 <;> (try simp [-Int.not_le, -Int.not_lt, -Nat.not_le, -Nat.not_lt, -Nat.add_left_cancel_iff] at hb2)) | simp (maxSteps := 2000000) (disch := first | omega | assumption | simp [*]) [*, -Int.not_le, -Int.not_lt, -Nat.not_le, -Nat.not_lt, -Nat.add_left_cancel_iff, wrap_i64, wrap_u64, hp, isI_cells hu, isI_one hu, isI_low hu, isI_len hu, isLL_cells hv, isLL_one hv, isLL_low hv, isLL_len hv, isI_noKey hu, isLL_noKey hv])
    refine cf_open rfl rfl (contextOf_o (hx0.keep rfl) (by omega) (by simp [farOff]) fun m1 hm1 => ?_)
    have r1 := hm1 1 (by simp [farOff])
    have r2 := hm1 2 (by simp [farOff])
    have hx1 := hx0.keep (hm1 12 (by simp [farOff]))
    rw [q1] at r1
    rw [q2] at r2
    clear hx0 hm0 hm1
    by_cases h8 : X.length ≤ 8
    · have hgo : ∀ h', h' 12 = m1 12 → expo h' x0 = rowX 1 1 3 12 (ints X) := fun h' e => (hx1.keep e).expoI
      simp only [h8, if_true, decide_true]
      repeat' (first | (apply brI <;> intro hb hb2 <;> (try simp [-Int.not_le, -Int.not_lt, -Nat.not_le, -Nat.not_lt, -Nat.add_left_cancel_iff] at hb2)) | simp (maxSteps := 2000000) (disch := first | omega | assumption | simp [*]) [*, -Int.not_le, -Int.not_lt, -Nat.not_le, -Nat.not_lt, -Nat.add_left_cancel_iff, wrap_i64, wrap_u64, hp, isI_cells hu, isI_one hu, isI_low hu, isI_len hu, isLL_cells hv, isLL_one hv, isLL_low hv, isLL_len hv, isI_noKey hu, isLL_noKey hv])
    · simp only [h8, if_false, decide_false]
      repeat' (first | (apply brI <;> intro hb hb2 <;> (try simp [-Int.not_le, -Int.not_lt, -Nat.not_le, -Nat.not_lt, -Nat.add_left_cancel_iff] at hb2)) | simp (maxSteps := 2000000) (disch := first | omega | assumption | simp [*]) [*, -Int.not_le, -Int.not_lt, -Nat.not_le, -Nat.not_lt, -Nat.add_left_cancel_iff, wrap_i64, wrap_u64, hp, isI_cells hu, isI_one hu, isI_low hu, isI_len hu, isLL_cells hv, isLL_one hv, isLL_low hv, isLL_len hv, isI_noKey hu, isLL_noKey hv])
  · have hA : ¬ AgC (xsOf u) (xssOf v) := fun h => hp h.1
    have eM : agM (xsOf u) (xssOf v) = 0 := if_neg hA
    have eV : agW (xsOf u) (xssOf v) = .sl 0 .lit [] := if_neg hA
    rw [eM, eV]
    clear eM eV
    repeat' (first | (apply brI <;> intro hb hb2 <;> (try simp [-Int.not_le, -Int.not_lt, -Nat.not_le, -Nat.not_lt, -Nat.add_left_cancel_iff] at hb2)) | (refine draw_listA (by rfl) (by kernel_rfl) ?_) | (refine draw_listB (by simp [allocsOf, isAlloc]; rfl) (by kernel_rfl) ?_) | simp (maxSteps := 2000000) (disch := first | omega | assumption | simp [*]) [*, -Int.not_le, -Int.not_lt, -Nat.not_le, -Nat.not_lt, -Nat.add_left_cancel_iff, wrap_i64, wrap_u64, Try.f18, hp, hA, isI_cells hu, isI_one hu, isI_low hu, isI_len hu, isLL_cells hv, isLL_one hv, isLL_low hv, isLL_len hv])
theorem iAgr_s {u v : AV} (hu : IsI u) (hv : IsLL v) {K : AV → Prop} {tg : Tg K} : CW env 18 [.agg [u, v]] K tg ↔ K (.tup [.agg [.int .i64 (agM (xsOf u) (xssOf v)), agW (xsOf u) (xssOf v)], .bool (decide (AgC (xsOf u) (xssOf v)))]) := callsTo_iff (iAgr_c hu hv)
attribute [simp] iAgr_s
end Go.Proofs.Ytppfgokonlloaaa
