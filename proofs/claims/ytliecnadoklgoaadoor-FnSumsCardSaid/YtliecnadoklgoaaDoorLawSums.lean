/- The great law of sums. Conditions: none. -/
import Derived.Test.YtliecnadoklgoaaDoorDrawS
import Derived.Test.YtliecnadoklgoaaDoorSumL
import Derived.Test.YtliecnadoklgoaaDoorSubpos
import Derived.Test.YtliecnadoklgoaaDoorClo
import Derived.Test.YtliecnadoklgoaaDoorLawSame
namespace Go.Proofs.YtliecnadoklgoaaDoor
open Ev
set_option linter.unusedVariables false
set_option linter.unusedSimpArgs false
set_option maxHeartbeats 16000000
set_option maxRecDepth 100000

theorem cloF_range (n : Int) (xs : List Int) (s : Int) : 0 ≤ cloF n xs s ∧ cloF n xs s < 256 := by
  unfold cloF
  split
  · rename_i h
    obtain ⟨N, rfl⟩ : ∃ N : Nat, n = N := ⟨n.toNat, by have := h.1.1; omega⟩
    rw [Int.toNat_natCast]
    exact pset_lt (clo_pset h.1 s)
  · omega
theorem oclF_range (n : Int) (xs : List Int) (s : Int) : 0 ≤ oclF n xs s ∧ oclF n xs s < 256 := by
  unfold oclF
  split
  · rename_i h
    exact pset_lt (ext_pset _ _ h.1.2.2.1)
  · omega
theorem spo_clo {n m : Int} {xs ys : List Int} (h : SpoC n xs m ys) {i : Nat} (hi : i < 2 ^ n.toNat) : cloF (spoN n xs m ys) (spoR n xs m ys) i = (((cloF n xs i).toNat &&& (cloF m ys i).toNat : Nat) : Int) := by
  have hN : spoN n xs m ys = n := by unfold spoN; rw [if_pos h]
  have hR : spoR n xs m ys = xs ++ ys := by unfold spoR; rw [if_pos h]
  rw [hN, hR]
  obtain ⟨hx, hy, rfl, hl⟩ := h
  have hu := (spo_ctx hx hy).2 hl
  obtain ⟨N, rfl⟩ : ∃ N : Nat, n = N := ⟨n.toNat, by have := hx.1; omega⟩
  rw [Int.toNat_natCast] at hi
  have hp : PSet N (i : Int) = true := pset_nat (by have := hx.2.1; omega) hi
  unfold cloF
  rw [if_pos ⟨hu, hp⟩, if_pos ⟨hx, hp⟩, if_pos ⟨hy, hp⟩, Int.toNat_natCast]
  exact clo_sub hx hy hu
theorem app_ocl {n m : Int} {xs ys : List Int} (h : AppC n xs m ys) {i : Nat} (hi : i < 2 ^ xs.length) : oclF (n + m) (tab (appG n xs ys) xs.length) i = (((oclF n xs i).toNat &&& (oclF m ys i).toNat : Nat) : Int) := by
  obtain ⟨hx, hy, hl, hnm⟩ := id h
  obtain ⟨N, rfl⟩ : ∃ N : Nat, n = N := ⟨n.toNat, by have := hx.1; omega⟩
  obtain ⟨M, rfl⟩ : ∃ M : Nat, m = M := ⟨m.toNat, by have := hy.1; omega⟩
  have hu := (app_ctx hx hy hl).2 hnm
  have hp : PSet xs.length (i : Int) = true := pset_nat hx.2.2.1 hi
  have hp2 : PSet ys.length (i : Int) = true := by rw [← hl]; exact hp
  have hp3 : PSet ((tab (appG N xs ys) xs.length).length : Nat) (i : Int) = true := by rw [tab_length]; exact hp
  unfold oclF
  rw [if_pos ⟨hu, hp3⟩, if_pos ⟨hx, hp⟩, if_pos ⟨hy, hp2⟩]
  have e1 : ((N : Int) + (M : Int)).toNat = N + M := by omega
  rw [e1, Int.toNat_natCast, Int.toNat_natCast]
  exact oclo_app h
theorem conL_mul (n m : Int) (xs ys : List Int) : 0 ≤ ((conL n xs).length : Int) * ((conL m ys).length : Int) ∧ ((conL n xs).length : Int) * ((conL m ys).length : Int) ≤ 4096 := by
  have h1 := conL_len n xs
  have h2 := conL_len m ys
  have h3 : (conL n xs).length * (conL m ys).length ≤ 64 * 64 := Nat.mul_le_mul h1 h2
  have h4 : (((conL n xs).length * (conL m ys).length : Nat) : Int) = ((conL n xs).length : Int) * ((conL m ys).length : Int) := by simp
  omega
theorem lawSums_c {b : AV} (hB : IsB b) (hbr : brwOf b = false) : EvC env 3 [b] (.bool true) := by
  refine evC_of (F := Tryd.f3) rfl rfl (Nat.le_of_ble_eq_true rfl) ?_
  have hcb := isB_cells hB
  have hob := isB_one hB
  by_cases hbig : 1048576 < bLen b
  · have hbi : (1048576 : Int) < (bLen b : Int) := by omega
    repeat' (first | (apply brI <;> intro hb hb2 <;> (try simp [-Int.not_le, -Int.not_lt, -Nat.not_le, -Nat.not_lt, -Nat.add_left_cancel_iff] at hb2)) | (refine draw_listA (by rfl) (by kernel_rfl) ?_) | (refine draw_listB (by simp [allocsOf, isAlloc]; rfl) (by kernel_rfl) ?_) | simp (maxSteps := 2000000) (disch := first | omega | assumption | simp [*]) [*, -Int.not_le, -Int.not_lt, -Nat.not_le, -Nat.not_lt, -Nat.add_left_cancel_iff, wrap_i64, wrap_u64, Tryd.f3, isB_low hB])
  · have hbi : ¬ ((1048576 : Int) < (bLen b : Int)) := by omega
    have hl : bLen b ≤ 1073741824 := by omega
    repeat' (first | (apply brI <;> intro hb hb2 <;> (try simp [-Int.not_le, -Int.not_lt, -Nat.not_le, -Nat.not_lt, -Nat.add_left_cancel_iff] at hb2)) | (refine draw_listA (by rfl) (by kernel_rfl) ?_) | (refine draw_listB (by simp [allocsOf, isAlloc]; rfl) (by kernel_rfl) ?_) | simp (maxSteps := 2000000) (disch := first | omega | assumption | simp [*]) [*, -Int.not_le, -Int.not_lt, -Nat.not_le, -Nat.not_lt, -Nat.add_left_cancel_iff, wrap_i64, wrap_u64, Tryd.f3, isB_low hB])
    refine cw_to (drawDirectSum_t hB hbr hl) ?_
    rintro r1 ⟨n, m, v, w, xs, ys, hr1, ⟨iv, xv, sv⟩, ⟨iw, xw, sw⟩, lx, ly⟩
    subst xv
    subst xw
    have ov := isI_one iv
    have cv := isI_cells iv
    have ow := isI_one iw
    have cw := isI_cells iw
    -- the values
    have hSum : SumC n (xsOf v) m (xsOf w) → (conL (n + m) (sumR true n m (xsOf v) (xsOf w))).length = (conL n (xsOf v)).length * (conL m (xsOf w)).length := sum_count
    have hmul := conL_mul n m (xsOf v) (xsOf w)
    have hspo : SpoC n (xsOf v) m (xsOf w) → ∀ i : Nat, i < 2 ^ n.toNat → cloF (spoN n (xsOf v) m (xsOf w)) (spoR n (xsOf v) m (xsOf w)) i = (((cloF n (xsOf v) i).toNat &&& (cloF m (xsOf w) i).toNat : Nat) : Int) := fun h i hi => spo_clo h hi
    have happ : AppC n (xsOf v) m (xsOf w) → ∀ i : Nat, i < 2 ^ (xsOf v).length → oclF (n + m) (tab (appG n (xsOf v) (xsOf w)) (xsOf v).length) i = (((oclF n (xsOf v) i).toNat &&& (oclF m (xsOf w) i).toNat : Nat) : Int) := fun h i hi => app_ocl h hi
    have hF1 : SpoC n (xsOf v) m (xsOf w) → 0 ≤ n ∧ n ≤ 6 := fun h => ⟨h.1.1, h.1.2.1⟩
    have hF2 : AppC n (xsOf v) m (xsOf w) → (xsOf v).length ≤ 8 := fun h => h.1.2.2.1
    obtain ⟨F1, eF1⟩ : ∃ F : Nat, (if 0 ≤ n ∧ n ≤ 8 then (2 : Int) ^ n.toNat - 1 else 0) = F := ⟨(if 0 ≤ n ∧ n ≤ 8 then (2 : Int) ^ n.toNat - 1 else 0).toNat, by
      split
      · have := pow_pos2 n.toNat; omega
      · rfl⟩
    obtain ⟨F2, eF2⟩ : ∃ F : Nat, (if 0 ≤ ((xsOf v).length : Int) ∧ ((xsOf v).length : Int) ≤ 8 then (2 : Int) ^ ((xsOf v).length : Int).toNat - 1 else 0) = F := ⟨(if 0 ≤ ((xsOf v).length : Int) ∧ ((xsOf v).length : Int) ≤ 8 then (2 : Int) ^ ((xsOf v).length : Int).toNat - 1 else 0).toNat, by
      split
      · have := pow_pos2 ((xsOf v).length : Int).toNat; omega
      · rfl⟩
    have bF1 : F1 ≤ 255 := by
      split at eF1
      · have := pow8 (show n ≤ 8 by omega); omega
      · omega
    have bF2 : F2 ≤ 255 := by
      split at eF2
      · have := pow8 (show ((xsOf v).length : Int) ≤ 8 by omega); omega
      · omega
    have pF1 : SpoC n (xsOf v) m (xsOf w) → ∀ i : Nat, i ≤ F1 → i < 2 ^ n.toNat := fun h i hi => by
      have h6 := hF1 h
      rw [if_pos ⟨h6.1, by omega⟩] at eF1
      have e : ((2 ^ n.toNat : Nat) : Int) = (2 : Int) ^ n.toNat := by simp
      omega
    have pF2 : AppC n (xsOf v) m (xsOf w) → ∀ i : Nat, i ≤ F2 → i < 2 ^ (xsOf v).length := fun h i hi => by
      have h8 := hF2 h
      rw [if_pos ⟨by omega, by omega⟩, Int.toNat_natCast] at eF2
      have e : ((2 ^ (xsOf v).length : Nat) : Int) = (2 : Int) ^ (xsOf v).length := by simp
      omega
    have kF1 : ∀ (K : AV → Prop) (tg : Tg K), CW env 18 [.int .i64 n] K tg ↔ K (.int .i64 F1) := fun K tg => by rw [← eF1]; exact callsTo_iff sFullSet_c
    have kF2 : ∀ (K : AV → Prop) (tg : Tg K), CW env 18 [.int .i64 (xsOf v).length] K tg ↔ K (.int .i64 F2) := fun K tg => by rw [← eF2]; exact callsTo_iff sFullSet_c
    clear eF1 eF2
    obtain ⟨R1, eR1⟩ : ∃ R, (if SumC n (xsOf v) m (xsOf w) then sumR true n m (xsOf v) (xsOf w) else []) = R := ⟨_, rfl⟩
    obtain ⟨R4, eR4⟩ : ∃ R, (if SumC n (xsOf v) m (xsOf w) then sumR false n m (xsOf v) (xsOf w) else []) = R := ⟨_, rfl⟩
    obtain ⟨R2, eR2⟩ : ∃ R, (if AppC n (xsOf v) m (xsOf w) then tab (appG n (xsOf v) (xsOf w)) (xsOf v).length else []) = R := ⟨_, rfl⟩
    obtain ⟨N1, eN1⟩ : ∃ N : Int, (if SumC n (xsOf v) m (xsOf w) then n + m else 0) = N := ⟨_, rfl⟩
    obtain ⟨N2, eN2⟩ : ∃ N : Int, (if AppC n (xsOf v) m (xsOf w) then n + m else 0) = N := ⟨_, rfl⟩
    have lR1 : R1.length ≤ 18 := by rw [← eR1]; split <;> simp [sumR]; omega
    have lR4 : R4.length ≤ 18 := by rw [← eR4]; split <;> simp [sumR]; omega
    have lR2 : R2.length ≤ 18 := by rw [← eR2]; split <;> simp; omega
    have lR3 : (spoR n (xsOf v) m (xsOf w)).length ≤ 18 := by unfold spoR; split <;> simp; omega
    have hSum2 : SumC n (xsOf v) m (xsOf w) → (conL N1 R1).length = (conL n (xsOf v)).length * (conL m (xsOf w)).length := fun h => by rw [← eN1, ← eR1, if_pos h, if_pos h]; exact hSum h
    have happ2 : AppC n (xsOf v) m (xsOf w) → ∀ i : Nat, i < 2 ^ (xsOf v).length → oclF N2 R2 i = (((oclF n (xsOf v) i).toNat &&& (oclF m (xsOf w) i).toNat : Nat) : Int) := fun h i hi => by rw [← eN2, ← eR2, if_pos h, if_pos h]; exact happ h i hi
    clear hSum happ
    obtain ⟨d1, d2, d3⟩ : (∃ B, decide (SumC n (xsOf v) m (xsOf w)) = B) ∧ (∃ B, decide (AppC n (xsOf v) m (xsOf w)) = B) ∧ (∃ B, decide (SpoC n (xsOf v) m (xsOf w)) = B) := ⟨⟨_, rfl⟩, ⟨_, rfl⟩, ⟨_, rfl⟩⟩
    obtain ⟨dB, eD⟩ := d1
    obtain ⟨aB, eA⟩ := d2
    obtain ⟨sB, eS⟩ := d3
    obtain ⟨N3, eN3⟩ : ∃ N : Int, spoN n (xsOf v) m (xsOf w) = N := ⟨_, rfl⟩
    obtain ⟨X1, eX1⟩ : ∃ W, rowN 1 0 (ints R1) = W := ⟨_, rfl⟩
    obtain ⟨Y1, eY1⟩ : ∃ W, bufC 0 R1 = W := ⟨_, rfl⟩
    obtain ⟨Y2, eY2⟩ : ∃ W, bufC 0 R2 = W := ⟨_, rfl⟩
    obtain ⟨Y3, eY3⟩ : ∃ W, bufC 0 (spoR n (xsOf v) m (xsOf w)) = W := ⟨_, rfl⟩
    obtain ⟨X3, eX3⟩ : ∃ W, noEx (spoV 3 n (xsOf v) m (xsOf w)) = W := ⟨_, rfl⟩
    obtain ⟨X4, eX4⟩ : ∃ W, rowN 1 0 (ints R4) = W := ⟨_, rfl⟩
    obtain ⟨Y4, eY4⟩ : ∃ W, bufC 0 R4 = W := ⟨_, rfl⟩
    have iX1 : IsI X1 := by rw [← eX1]; exact isI_rowN (by unfold top63; omega)
    have iY1 : IsI Y1 := by rw [← eY1]; exact isI_bufC (by unfold top63; omega)
    have iY2 : IsI Y2 := by rw [← eY2]; exact isI_bufC (by unfold top63; omega)
    have iY3 : IsI Y3 := by rw [← eY3]; exact isI_bufC (by unfold top63; omega)
    have iX3 : IsI X3 := by rw [← eX3]; exact (spoV_w ..).1
    have iX4 : IsI X4 := by rw [← eX4]; exact isI_rowN (by unfold top63; omega)
    have iY4 : IsI Y4 := by rw [← eY4]; exact isI_bufC (by unfold top63; omega)
    have xX1 : xsOf X1 = R1 := by rw [← eX1]; simp
    have x11 : xsOf X1 = xsOf Y1 := by rw [xX1, ← eY1]; simp
    have xY2 : xsOf Y2 = R2 := by rw [← eY2]; simp
    have xY3 : xsOf Y3 = spoR n (xsOf v) m (xsOf w) := by rw [← eY3]; simp
    have x33 : xsOf Y3 = xsOf X3 := by rw [xY3, ← eX3]; exact (spoV_w ..).2.symm
    have x44 : xsOf X4 = xsOf Y4 := by rw [← eX4, ← eY4]; simp
    obtain ⟨C1, eC1⟩ : ∃ C : Nat, (conL N1 R1).length = C := ⟨_, rfl⟩
    obtain ⟨Ca, eCa⟩ : ∃ C : Nat, (conL n (xsOf v)).length = C := ⟨_, rfl⟩
    obtain ⟨Cb, eCb⟩ : ∃ C : Nat, (conL m (xsOf w)).length = C := ⟨_, rfl⟩
    rw [eCa, eCb] at hmul
    have fC : dB = true → (C1 : Int) = (Ca : Int) * (Cb : Int) := fun h => by
      rw [← eD, decide_eq_true_eq] at h
      have := hSum2 h
      rw [eC1, eCa, eCb] at this
      rw [this]; simp
    have kC1 : ∀ (K : AV → Prop) (tg : Tg K), CW env 16 [.agg [.int .i64 N1, X1]] K tg ↔ K (.int .i64 C1) := fun K tg => by rw [← eC1, ← xX1]; exact callsTo_iff (iCountConcepts_c iX1)
    have kCa : ∀ (K : AV → Prop) (tg : Tg K), CW env 16 [.agg [.int .i64 n, v]] K tg ↔ K (.int .i64 Ca) := fun K tg => by rw [← eCa]; exact callsTo_iff (iCountConcepts_c iv)
    have kCb : ∀ (K : AV → Prop) (tg : Tg K), CW env 16 [.agg [.int .i64 m, w]] K tg ↔ K (.int .i64 Cb) := fun K tg => by rw [← eCb]; exact callsTo_iff (iCountConcepts_c iw)
    have fspo : sB = true → ∀ i : Nat, i ≤ F1 → cloF N3 (xsOf Y3) i = (((cloF n (xsOf v) i).toNat &&& (cloF m (xsOf w) i).toNat : Nat) : Int) := fun h i hi => by
      rw [← eS, decide_eq_true_eq] at h
      rw [xY3, ← eN3]
      exact hspo h i (pF1 h i hi)
    have fapp : aB = true → ∀ i : Nat, i ≤ F2 → oclF N2 (xsOf Y2) i = (((oclF n (xsOf v) i).toNat &&& (oclF m (xsOf w) i).toNat : Nat) : Int) := fun h i hi => by
      rw [← eA, decide_eq_true_eq] at h
      rw [xY2]
      exact happ2 h i (pF2 h i hi)
    have nX1 := isI_noEx iX1
    have nY1 := isI_noEx iY1
    have nY2 := isI_noEx iY2
    have nY3 := isI_noEx iY3
    have nX3 := isI_noEx iX3
    have nX4 := isI_noEx iX4
    have nY4 := isI_noEx iY4
    have oX1 := isI_one iX1
    have cX1 := isI_cells iX1
    have oY1 := isI_one iY1
    have cY1 := isI_cells iY1
    have oY2 := isI_one iY2
    have cY2 := isI_cells iY2
    have oY3 := isI_one iY3
    have cY3 := isI_cells iY3
    have oX3 := isI_one iX3
    have cX3 := isI_cells iX3
    have oX4 := isI_one iX4
    have cX4 := isI_cells iX4
    have oY4 := isI_one iY4
    have cY4 := isI_cells iY4
    clear hSum2 happ2 hspo hF1 hF2 pF1 pF2 eC1 eCa eCb xX1 xY2 xY3 lR1 lR2 lR3 lR4
    repeat' (first | (apply brI <;> intro hb hb2 <;> (try simp [-Int.not_le, -Int.not_lt, -Nat.not_le, -Nat.not_lt, -Nat.add_left_cancel_iff] at hb2)) | (refine draw_listA (by rfl) (by kernel_rfl) ?_) | (refine draw_listB (by simp [allocsOf, isAlloc]; rfl) (by kernel_rfl) ?_) | simp (maxSteps := 2000000) (disch := first | omega | assumption | simp [*]) [*, -Int.not_le, -Int.not_lt, -Nat.not_le, -Nat.not_lt, -Nat.add_left_cancel_iff, wrap_i64, wrap_u64, hr1, isB_low hB, isI_low iv, isI_low iw, isI_low iX1, isI_low iY1, isI_low iY2, isI_low iY3, isI_low iX3, isI_low iX4, isI_low iY4])
    refine cw_to (drawCountConcepts_t hB hbr hl) ?_
    intro r3 hd3
    obtain ⟨n3, v3, hr3, i3, l3⟩ := hd3.gen
    clear hd3
    have o3 := isI_one i3
    have c3 := isI_cells i3
    cases dB with
    | true =>
      have fC2 := fC rfl
      clear fC
      repeat' (first | (apply brI <;> intro hb hb2 <;> (try simp [-Int.not_le, -Int.not_lt, -Nat.not_le, -Nat.not_lt, -Nat.add_left_cancel_iff] at hb2)) | (refine draw_listA (by rfl) (by kernel_rfl) ?_) | (refine draw_listB (by simp [allocsOf, isAlloc]; rfl) (by kernel_rfl) ?_) | simp (maxSteps := 2000000) (disch := first | omega | assumption | simp [*]) [*, -Int.not_le, -Int.not_lt, -Nat.not_le, -Nat.not_lt, -Nat.add_left_cancel_iff, wrap_i64, wrap_u64, hr3, isB_low hB, isI_low iv, isI_low iw, isI_low iX1, isI_low iY1, isI_low iY2, isI_low iY3, isI_low iX3, isI_low iX4, isI_low iY4, isI_low i3])
      all_goals
        refine W_loopG (F1 + 1) (fun i s h' => s 22 = .int .i64 i ∧ s 14 = .bool sB ∧ s 10 = .bool aB ∧ s 3 = .vp 3 0 0 ∧ s 4 = .vp 4 0 0 ∧ s 9 = .vp 9 0 0 ∧ s 13 = .vp 13 0 0 ∧ h' 3 = some (.var 0 26 (.agg [.int .i64 n, v])) ∧ h' 4 = some (.var 0 26 (.agg [.int .i64 m, w])) ∧ h' 9 = some (.var 0 26 (.agg [.int .i64 N2, Y2])) ∧ h' 13 = some (.var 0 26 (.agg [.int .i64 N3, Y3]))) ?_ ?_
        · clear fspo fapp
          simp [*]
        clear kC1 kCa kCb hr1 hr3 eR1 eR2 eR4 eN1 eN2 eN3 eD eA eS eX1 eY1 eY2 eY3 eX3 eX4 eY4
        rintro i s h' hi ⟨h22, h14, h10, h3, h4, h9, h13, e3, e4, e9, e13⟩
        have hdone : ∀ (s' : Nat → AV) (h9 : Heap), s' 10 = .bool aB → s' 3 = .vp 3 0 0 → s' 4 = .vp 4 0 0 → s' 9 = .vp 9 0 0 → True := fun _ _ _ _ _ _ => trivial
        clear hdone
        by_cases hi2 : i ≤ F1
        · have hii : (i : Int) ≤ (F1 : Int) := by omega
          have hi3 : i < F1 + 1 := by omega
          cases sB with
          | true =>
            have r1 := cloF_range n (xsOf v) i
            have r2 := cloF_range m (xsOf w) i
            have hfi := fspo rfl i hi2
            have q1 : ∀ (K : AV → Prop) (tg : Tg K), CW env 19 [.agg [.int .i64 N3, Y3], .int .i64 i] K tg ↔ K (.int .i64 (((cloF n (xsOf v) i).toNat &&& (cloF m (xsOf w) i).toNat : Nat) : Int)) := fun K tg => by rw [← hfi]; exact callsTo_iff (sClosureOf_c iY3)
            have q2 : ∀ (K : AV → Prop) (tg : Tg K), CW env 19 [.agg [.int .i64 n, v], .int .i64 i] K tg ↔ K (.int .i64 (cloF n (xsOf v) i)) := fun K tg => callsTo_iff (sClosureOf_c iv)
            have q3 : ∀ (K : AV → Prop) (tg : Tg K), CW env 19 [.agg [.int .i64 m, w], .int .i64 i] K tg ↔ K (.int .i64 (cloF m (xsOf w) i)) := fun K tg => callsTo_iff (sClosureOf_c iw)
            clear fspo fapp hfi
            obtain ⟨A, hA⟩ : ∃ A, cloF n (xsOf v) i = A := ⟨_, rfl⟩
            obtain ⟨B, hB9⟩ : ∃ A, cloF m (xsOf w) i = A := ⟨_, rfl⟩
            simp only [hA, hB9] at q1 q2 q3 r1 r2
            obtain ⟨r11, r12⟩ := r1
            obtain ⟨r21, r22⟩ := r2
            clear hA hB9
            repeat' (first | (apply brI <;> intro hb hb2 <;> (try simp [-Int.not_le, -Int.not_lt, -Nat.not_le, -Nat.not_lt, -Nat.add_left_cancel_iff] at hb2)) | (refine draw_listA (by rfl) (by kernel_rfl) ?_) | (refine draw_listB (by simp [allocsOf, isAlloc]; rfl) (by kernel_rfl) ?_) | simp (maxSteps := 2000000) (disch := first | omega | assumption | simp [*]) [*, -Int.not_le, -Int.not_lt, -Nat.not_le, -Nat.not_lt, -Nat.add_left_cancel_iff, wrap_i64, wrap_u64, h22, h14, h10, h3, h4, h9, h13, e3, e4, e9, e13, bits_and, isI_low iv, isI_low iw, isI_low iY2, isI_low iY3])
          | false =>
            repeat' (first | (apply brI <;> intro hb hb2 <;> (try simp [-Int.not_le, -Int.not_lt, -Nat.not_le, -Nat.not_lt, -Nat.add_left_cancel_iff] at hb2)) | (refine draw_listA (by rfl) (by kernel_rfl) ?_) | (refine draw_listB (by simp [allocsOf, isAlloc]; rfl) (by kernel_rfl) ?_) | simp (maxSteps := 2000000) (disch := first | omega | assumption | simp [*]) [*, -Int.not_le, -Int.not_lt, -Nat.not_le, -Nat.not_lt, -Nat.add_left_cancel_iff, wrap_i64, wrap_u64, h22, h14, h10, h3, h4, h9, h13, e3, e4, e9, e13, isI_low iv, isI_low iw, isI_low iY2, isI_low iY3])
            clear fspo hii hi2 h22 h14 h13 e13 iX1 iY1 iY3 iX3 iX4 iY4
            refine W_loopG (F2 + 1) (fun j s h' => s 23 = .int .i64 j ∧ s 10 = .bool aB ∧ s 3 = .vp 3 0 0 ∧ s 4 = .vp 4 0 0 ∧ s 9 = .vp 9 0 0 ∧ h' 3 = some (.var 0 26 (.agg [.int .i64 n, v])) ∧ h' 4 = some (.var 0 26 (.agg [.int .i64 m, w])) ∧ h' 9 = some (.var 0 26 (.agg [.int .i64 N2, Y2]))) ?_ ?_
            · clear fapp
              simp [*]
            clear h10 h3 h4 h9 e3 e4 e9 hi
            rintro i s h' hi ⟨h23, h10, h3, h4, h9, e3, e4, e9⟩
            by_cases hi2 : i ≤ F2
            · have hii : (i : Int) ≤ (F2 : Int) := by omega
              have hi3 : i < F2 + 1 := by omega
              cases aB with
              | true =>
                have r1 := oclF_range n (xsOf v) i
                have r2 := oclF_range m (xsOf w) i
                have hfi := fapp rfl i hi2
                have q1 : ∀ (K : AV → Prop) (tg : Tg K), CW env 20 [.agg [.int .i64 N2, Y2], .int .i64 i] K tg ↔ K (.int .i64 (((oclF n (xsOf v) i).toNat &&& (oclF m (xsOf w) i).toNat : Nat) : Int)) := fun K tg => by rw [← hfi]; exact callsTo_iff (sObjectClosure_c iY2)
                have q2 : ∀ (K : AV → Prop) (tg : Tg K), CW env 20 [.agg [.int .i64 n, v], .int .i64 i] K tg ↔ K (.int .i64 (oclF n (xsOf v) i)) := fun K tg => callsTo_iff (sObjectClosure_c iv)
                have q3 : ∀ (K : AV → Prop) (tg : Tg K), CW env 20 [.agg [.int .i64 m, w], .int .i64 i] K tg ↔ K (.int .i64 (oclF m (xsOf w) i)) := fun K tg => callsTo_iff (sObjectClosure_c iw)
                clear fapp hfi
                obtain ⟨A, hA⟩ : ∃ A, oclF n (xsOf v) i = A := ⟨_, rfl⟩
                obtain ⟨B, hB9⟩ : ∃ A, oclF m (xsOf w) i = A := ⟨_, rfl⟩
                simp only [hA, hB9] at q1 q2 q3 r1 r2
                obtain ⟨r11, r12⟩ := r1
                obtain ⟨r21, r22⟩ := r2
                clear hA hB9
                repeat' (first | (apply brI <;> intro hb hb2 <;> (try simp [-Int.not_le, -Int.not_lt, -Nat.not_le, -Nat.not_lt, -Nat.add_left_cancel_iff] at hb2)) | (refine draw_listA (by rfl) (by kernel_rfl) ?_) | (refine draw_listB (by simp [allocsOf, isAlloc]; rfl) (by kernel_rfl) ?_) | simp (maxSteps := 2000000) (disch := first | omega | assumption | simp [*]) [*, -Int.not_le, -Int.not_lt, -Nat.not_le, -Nat.not_lt, -Nat.add_left_cancel_iff, wrap_i64, wrap_u64, h23, h10, h3, h4, h9, e3, e4, e9, bits_and, isI_low iv, isI_low iw, isI_low iY2, isI_len iv])
              | false =>
                repeat' (first | (apply brI <;> intro hb hb2 <;> (try simp [-Int.not_le, -Int.not_lt, -Nat.not_le, -Nat.not_lt, -Nat.add_left_cancel_iff] at hb2)) | (refine draw_listA (by rfl) (by kernel_rfl) ?_) | (refine draw_listB (by simp [allocsOf, isAlloc]; rfl) (by kernel_rfl) ?_) | simp (maxSteps := 2000000) (disch := first | omega | assumption | simp [*]) [*, -Int.not_le, -Int.not_lt, -Nat.not_le, -Nat.not_lt, -Nat.add_left_cancel_iff, wrap_i64, wrap_u64, h23, h10, h3, h4, h9, e3, e4, e9, isI_low iv, isI_low iw, isI_low iY2, isI_len iv])
            · have hii : ¬ ((i : Int) ≤ (F2 : Int)) := by omega
              repeat' (first | (apply brI <;> intro hb hb2 <;> (try simp [-Int.not_le, -Int.not_lt, -Nat.not_le, -Nat.not_lt, -Nat.add_left_cancel_iff] at hb2)) | (refine draw_listA (by rfl) (by kernel_rfl) ?_) | (refine draw_listB (by simp [allocsOf, isAlloc]; rfl) (by kernel_rfl) ?_) | simp (maxSteps := 2000000) (disch := first | omega | assumption | simp [*]) [*, -Int.not_le, -Int.not_lt, -Nat.not_le, -Nat.not_lt, -Nat.add_left_cancel_iff, wrap_i64, wrap_u64, h23, h10, h3, h4, h9, e3, e4, e9, isI_low iv, isI_low iw, isI_low iY2, isI_len iv])
        · have hii : ¬ ((i : Int) ≤ (F1 : Int)) := by omega
          repeat' (first | (apply brI <;> intro hb hb2 <;> (try simp [-Int.not_le, -Int.not_lt, -Nat.not_le, -Nat.not_lt, -Nat.add_left_cancel_iff] at hb2)) | (refine draw_listA (by rfl) (by kernel_rfl) ?_) | (refine draw_listB (by simp [allocsOf, isAlloc]; rfl) (by kernel_rfl) ?_) | simp (maxSteps := 2000000) (disch := first | omega | assumption | simp [*]) [*, -Int.not_le, -Int.not_lt, -Nat.not_le, -Nat.not_lt, -Nat.add_left_cancel_iff, wrap_i64, wrap_u64, h22, h14, h10, h3, h4, h9, h13, e3, e4, e9, e13, isI_low iv, isI_low iw, isI_low iY2, isI_low iY3])
          clear fspo hii hi2 h22 h14 h13 e13 iX1 iY1 iY3 iX3 iX4 iY4
          refine W_loopG (F2 + 1) (fun j s h' => s 23 = .int .i64 j ∧ s 10 = .bool aB ∧ s 3 = .vp 3 0 0 ∧ s 4 = .vp 4 0 0 ∧ s 9 = .vp 9 0 0 ∧ h' 3 = some (.var 0 26 (.agg [.int .i64 n, v])) ∧ h' 4 = some (.var 0 26 (.agg [.int .i64 m, w])) ∧ h' 9 = some (.var 0 26 (.agg [.int .i64 N2, Y2]))) ?_ ?_
          · clear fapp
            simp [*]
          clear h10 h3 h4 h9 e3 e4 e9 hi
          rintro i s h' hi ⟨h23, h10, h3, h4, h9, e3, e4, e9⟩
          by_cases hi2 : i ≤ F2
          · have hii : (i : Int) ≤ (F2 : Int) := by omega
            have hi3 : i < F2 + 1 := by omega
            cases aB with
            | true =>
              have r1 := oclF_range n (xsOf v) i
              have r2 := oclF_range m (xsOf w) i
              have hfi := fapp rfl i hi2
              have q1 : ∀ (K : AV → Prop) (tg : Tg K), CW env 20 [.agg [.int .i64 N2, Y2], .int .i64 i] K tg ↔ K (.int .i64 (((oclF n (xsOf v) i).toNat &&& (oclF m (xsOf w) i).toNat : Nat) : Int)) := fun K tg => by rw [← hfi]; exact callsTo_iff (sObjectClosure_c iY2)
              have q2 : ∀ (K : AV → Prop) (tg : Tg K), CW env 20 [.agg [.int .i64 n, v], .int .i64 i] K tg ↔ K (.int .i64 (oclF n (xsOf v) i)) := fun K tg => callsTo_iff (sObjectClosure_c iv)
              have q3 : ∀ (K : AV → Prop) (tg : Tg K), CW env 20 [.agg [.int .i64 m, w], .int .i64 i] K tg ↔ K (.int .i64 (oclF m (xsOf w) i)) := fun K tg => callsTo_iff (sObjectClosure_c iw)
              clear fapp hfi
              obtain ⟨A, hA⟩ : ∃ A, oclF n (xsOf v) i = A := ⟨_, rfl⟩
              obtain ⟨B, hB9⟩ : ∃ A, oclF m (xsOf w) i = A := ⟨_, rfl⟩
              simp only [hA, hB9] at q1 q2 q3 r1 r2
              obtain ⟨r11, r12⟩ := r1
              obtain ⟨r21, r22⟩ := r2
              clear hA hB9
              repeat' (first | (apply brI <;> intro hb hb2 <;> (try simp [-Int.not_le, -Int.not_lt, -Nat.not_le, -Nat.not_lt, -Nat.add_left_cancel_iff] at hb2)) | (refine draw_listA (by rfl) (by kernel_rfl) ?_) | (refine draw_listB (by simp [allocsOf, isAlloc]; rfl) (by kernel_rfl) ?_) | simp (maxSteps := 2000000) (disch := first | omega | assumption | simp [*]) [*, -Int.not_le, -Int.not_lt, -Nat.not_le, -Nat.not_lt, -Nat.add_left_cancel_iff, wrap_i64, wrap_u64, h23, h10, h3, h4, h9, e3, e4, e9, bits_and, isI_low iv, isI_low iw, isI_low iY2, isI_len iv])
            | false =>
              repeat' (first | (apply brI <;> intro hb hb2 <;> (try simp [-Int.not_le, -Int.not_lt, -Nat.not_le, -Nat.not_lt, -Nat.add_left_cancel_iff] at hb2)) | (refine draw_listA (by rfl) (by kernel_rfl) ?_) | (refine draw_listB (by simp [allocsOf, isAlloc]; rfl) (by kernel_rfl) ?_) | simp (maxSteps := 2000000) (disch := first | omega | assumption | simp [*]) [*, -Int.not_le, -Int.not_lt, -Nat.not_le, -Nat.not_lt, -Nat.add_left_cancel_iff, wrap_i64, wrap_u64, h23, h10, h3, h4, h9, e3, e4, e9, isI_low iv, isI_low iw, isI_low iY2, isI_len iv])
          · have hii : ¬ ((i : Int) ≤ (F2 : Int)) := by omega
            repeat' (first | (apply brI <;> intro hb hb2 <;> (try simp [-Int.not_le, -Int.not_lt, -Nat.not_le, -Nat.not_lt, -Nat.add_left_cancel_iff] at hb2)) | (refine draw_listA (by rfl) (by kernel_rfl) ?_) | (refine draw_listB (by simp [allocsOf, isAlloc]; rfl) (by kernel_rfl) ?_) | simp (maxSteps := 2000000) (disch := first | omega | assumption | simp [*]) [*, -Int.not_le, -Int.not_lt, -Nat.not_le, -Nat.not_lt, -Nat.add_left_cancel_iff, wrap_i64, wrap_u64, h23, h10, h3, h4, h9, e3, e4, e9, isI_low iv, isI_low iw, isI_low iY2, isI_len iv])
    | false =>
      clear fC
      repeat' (first | (apply brI <;> intro hb hb2 <;> (try simp [-Int.not_le, -Int.not_lt, -Nat.not_le, -Nat.not_lt, -Nat.add_left_cancel_iff] at hb2)) | (refine draw_listA (by rfl) (by kernel_rfl) ?_) | (refine draw_listB (by simp [allocsOf, isAlloc]; rfl) (by kernel_rfl) ?_) | simp (maxSteps := 2000000) (disch := first | omega | assumption | simp [*]) [*, -Int.not_le, -Int.not_lt, -Nat.not_le, -Nat.not_lt, -Nat.add_left_cancel_iff, wrap_i64, wrap_u64, hr3, isB_low hB, isI_low iv, isI_low iw, isI_low iX1, isI_low iY1, isI_low iY2, isI_low iY3, isI_low iX3, isI_low iX4, isI_low iY4, isI_low i3])
      all_goals
        refine W_loopG (F1 + 1) (fun i s h' => s 22 = .int .i64 i ∧ s 14 = .bool sB ∧ s 10 = .bool aB ∧ s 3 = .vp 3 0 0 ∧ s 4 = .vp 4 0 0 ∧ s 9 = .vp 9 0 0 ∧ s 13 = .vp 13 0 0 ∧ h' 3 = some (.var 0 26 (.agg [.int .i64 n, v])) ∧ h' 4 = some (.var 0 26 (.agg [.int .i64 m, w])) ∧ h' 9 = some (.var 0 26 (.agg [.int .i64 N2, Y2])) ∧ h' 13 = some (.var 0 26 (.agg [.int .i64 N3, Y3]))) ?_ ?_
        · clear fspo fapp
          simp [*]
        clear kC1 kCa kCb hr1 hr3 eR1 eR2 eR4 eN1 eN2 eN3 eD eA eS eX1 eY1 eY2 eY3 eX3 eX4 eY4
        rintro i s h' hi ⟨h22, h14, h10, h3, h4, h9, h13, e3, e4, e9, e13⟩
        have hdone : ∀ (s' : Nat → AV) (h9 : Heap), s' 10 = .bool aB → s' 3 = .vp 3 0 0 → s' 4 = .vp 4 0 0 → s' 9 = .vp 9 0 0 → True := fun _ _ _ _ _ _ => trivial
        clear hdone
        by_cases hi2 : i ≤ F1
        · have hii : (i : Int) ≤ (F1 : Int) := by omega
          have hi3 : i < F1 + 1 := by omega
          cases sB with
          | true =>
            have r1 := cloF_range n (xsOf v) i
            have r2 := cloF_range m (xsOf w) i
            have hfi := fspo rfl i hi2
            have q1 : ∀ (K : AV → Prop) (tg : Tg K), CW env 19 [.agg [.int .i64 N3, Y3], .int .i64 i] K tg ↔ K (.int .i64 (((cloF n (xsOf v) i).toNat &&& (cloF m (xsOf w) i).toNat : Nat) : Int)) := fun K tg => by rw [← hfi]; exact callsTo_iff (sClosureOf_c iY3)
            have q2 : ∀ (K : AV → Prop) (tg : Tg K), CW env 19 [.agg [.int .i64 n, v], .int .i64 i] K tg ↔ K (.int .i64 (cloF n (xsOf v) i)) := fun K tg => callsTo_iff (sClosureOf_c iv)
            have q3 : ∀ (K : AV → Prop) (tg : Tg K), CW env 19 [.agg [.int .i64 m, w], .int .i64 i] K tg ↔ K (.int .i64 (cloF m (xsOf w) i)) := fun K tg => callsTo_iff (sClosureOf_c iw)
            clear fspo fapp hfi
            obtain ⟨A, hA⟩ : ∃ A, cloF n (xsOf v) i = A := ⟨_, rfl⟩
            obtain ⟨B, hB9⟩ : ∃ A, cloF m (xsOf w) i = A := ⟨_, rfl⟩
            simp only [hA, hB9] at q1 q2 q3 r1 r2
            obtain ⟨r11, r12⟩ := r1
            obtain ⟨r21, r22⟩ := r2
            clear hA hB9
            repeat' (first | (apply brI <;> intro hb hb2 <;> (try simp [-Int.not_le, -Int.not_lt, -Nat.not_le, -Nat.not_lt, -Nat.add_left_cancel_iff] at hb2)) | (refine draw_listA (by rfl) (by kernel_rfl) ?_) | (refine draw_listB (by simp [allocsOf, isAlloc]; rfl) (by kernel_rfl) ?_) | simp (maxSteps := 2000000) (disch := first | omega | assumption | simp [*]) [*, -Int.not_le, -Int.not_lt, -Nat.not_le, -Nat.not_lt, -Nat.add_left_cancel_iff, wrap_i64, wrap_u64, h22, h14, h10, h3, h4, h9, h13, e3, e4, e9, e13, bits_and, isI_low iv, isI_low iw, isI_low iY2, isI_low iY3])
          | false =>
            repeat' (first | (apply brI <;> intro hb hb2 <;> (try simp [-Int.not_le, -Int.not_lt, -Nat.not_le, -Nat.not_lt, -Nat.add_left_cancel_iff] at hb2)) | (refine draw_listA (by rfl) (by kernel_rfl) ?_) | (refine draw_listB (by simp [allocsOf, isAlloc]; rfl) (by kernel_rfl) ?_) | simp (maxSteps := 2000000) (disch := first | omega | assumption | simp [*]) [*, -Int.not_le, -Int.not_lt, -Nat.not_le, -Nat.not_lt, -Nat.add_left_cancel_iff, wrap_i64, wrap_u64, h22, h14, h10, h3, h4, h9, h13, e3, e4, e9, e13, isI_low iv, isI_low iw, isI_low iY2, isI_low iY3])
            clear fspo hii hi2 h22 h14 h13 e13 iX1 iY1 iY3 iX3 iX4 iY4
            refine W_loopG (F2 + 1) (fun j s h' => s 23 = .int .i64 j ∧ s 10 = .bool aB ∧ s 3 = .vp 3 0 0 ∧ s 4 = .vp 4 0 0 ∧ s 9 = .vp 9 0 0 ∧ h' 3 = some (.var 0 26 (.agg [.int .i64 n, v])) ∧ h' 4 = some (.var 0 26 (.agg [.int .i64 m, w])) ∧ h' 9 = some (.var 0 26 (.agg [.int .i64 N2, Y2]))) ?_ ?_
            · clear fapp
              simp [*]
            clear h10 h3 h4 h9 e3 e4 e9 hi
            rintro i s h' hi ⟨h23, h10, h3, h4, h9, e3, e4, e9⟩
            by_cases hi2 : i ≤ F2
            · have hii : (i : Int) ≤ (F2 : Int) := by omega
              have hi3 : i < F2 + 1 := by omega
              cases aB with
              | true =>
                have r1 := oclF_range n (xsOf v) i
                have r2 := oclF_range m (xsOf w) i
                have hfi := fapp rfl i hi2
                have q1 : ∀ (K : AV → Prop) (tg : Tg K), CW env 20 [.agg [.int .i64 N2, Y2], .int .i64 i] K tg ↔ K (.int .i64 (((oclF n (xsOf v) i).toNat &&& (oclF m (xsOf w) i).toNat : Nat) : Int)) := fun K tg => by rw [← hfi]; exact callsTo_iff (sObjectClosure_c iY2)
                have q2 : ∀ (K : AV → Prop) (tg : Tg K), CW env 20 [.agg [.int .i64 n, v], .int .i64 i] K tg ↔ K (.int .i64 (oclF n (xsOf v) i)) := fun K tg => callsTo_iff (sObjectClosure_c iv)
                have q3 : ∀ (K : AV → Prop) (tg : Tg K), CW env 20 [.agg [.int .i64 m, w], .int .i64 i] K tg ↔ K (.int .i64 (oclF m (xsOf w) i)) := fun K tg => callsTo_iff (sObjectClosure_c iw)
                clear fapp hfi
                obtain ⟨A, hA⟩ : ∃ A, oclF n (xsOf v) i = A := ⟨_, rfl⟩
                obtain ⟨B, hB9⟩ : ∃ A, oclF m (xsOf w) i = A := ⟨_, rfl⟩
                simp only [hA, hB9] at q1 q2 q3 r1 r2
                obtain ⟨r11, r12⟩ := r1
                obtain ⟨r21, r22⟩ := r2
                clear hA hB9
                repeat' (first | (apply brI <;> intro hb hb2 <;> (try simp [-Int.not_le, -Int.not_lt, -Nat.not_le, -Nat.not_lt, -Nat.add_left_cancel_iff] at hb2)) | (refine draw_listA (by rfl) (by kernel_rfl) ?_) | (refine draw_listB (by simp [allocsOf, isAlloc]; rfl) (by kernel_rfl) ?_) | simp (maxSteps := 2000000) (disch := first | omega | assumption | simp [*]) [*, -Int.not_le, -Int.not_lt, -Nat.not_le, -Nat.not_lt, -Nat.add_left_cancel_iff, wrap_i64, wrap_u64, h23, h10, h3, h4, h9, e3, e4, e9, bits_and, isI_low iv, isI_low iw, isI_low iY2, isI_len iv])
              | false =>
                repeat' (first | (apply brI <;> intro hb hb2 <;> (try simp [-Int.not_le, -Int.not_lt, -Nat.not_le, -Nat.not_lt, -Nat.add_left_cancel_iff] at hb2)) | (refine draw_listA (by rfl) (by kernel_rfl) ?_) | (refine draw_listB (by simp [allocsOf, isAlloc]; rfl) (by kernel_rfl) ?_) | simp (maxSteps := 2000000) (disch := first | omega | assumption | simp [*]) [*, -Int.not_le, -Int.not_lt, -Nat.not_le, -Nat.not_lt, -Nat.add_left_cancel_iff, wrap_i64, wrap_u64, h23, h10, h3, h4, h9, e3, e4, e9, isI_low iv, isI_low iw, isI_low iY2, isI_len iv])
            · have hii : ¬ ((i : Int) ≤ (F2 : Int)) := by omega
              repeat' (first | (apply brI <;> intro hb hb2 <;> (try simp [-Int.not_le, -Int.not_lt, -Nat.not_le, -Nat.not_lt, -Nat.add_left_cancel_iff] at hb2)) | (refine draw_listA (by rfl) (by kernel_rfl) ?_) | (refine draw_listB (by simp [allocsOf, isAlloc]; rfl) (by kernel_rfl) ?_) | simp (maxSteps := 2000000) (disch := first | omega | assumption | simp [*]) [*, -Int.not_le, -Int.not_lt, -Nat.not_le, -Nat.not_lt, -Nat.add_left_cancel_iff, wrap_i64, wrap_u64, h23, h10, h3, h4, h9, e3, e4, e9, isI_low iv, isI_low iw, isI_low iY2, isI_len iv])
        · have hii : ¬ ((i : Int) ≤ (F1 : Int)) := by omega
          repeat' (first | (apply brI <;> intro hb hb2 <;> (try simp [-Int.not_le, -Int.not_lt, -Nat.not_le, -Nat.not_lt, -Nat.add_left_cancel_iff] at hb2)) | (refine draw_listA (by rfl) (by kernel_rfl) ?_) | (refine draw_listB (by simp [allocsOf, isAlloc]; rfl) (by kernel_rfl) ?_) | simp (maxSteps := 2000000) (disch := first | omega | assumption | simp [*]) [*, -Int.not_le, -Int.not_lt, -Nat.not_le, -Nat.not_lt, -Nat.add_left_cancel_iff, wrap_i64, wrap_u64, h22, h14, h10, h3, h4, h9, h13, e3, e4, e9, e13, isI_low iv, isI_low iw, isI_low iY2, isI_low iY3])
          clear fspo hii hi2 h22 h14 h13 e13 iX1 iY1 iY3 iX3 iX4 iY4
          refine W_loopG (F2 + 1) (fun j s h' => s 23 = .int .i64 j ∧ s 10 = .bool aB ∧ s 3 = .vp 3 0 0 ∧ s 4 = .vp 4 0 0 ∧ s 9 = .vp 9 0 0 ∧ h' 3 = some (.var 0 26 (.agg [.int .i64 n, v])) ∧ h' 4 = some (.var 0 26 (.agg [.int .i64 m, w])) ∧ h' 9 = some (.var 0 26 (.agg [.int .i64 N2, Y2]))) ?_ ?_
          · clear fapp
            simp [*]
          clear h10 h3 h4 h9 e3 e4 e9 hi
          rintro i s h' hi ⟨h23, h10, h3, h4, h9, e3, e4, e9⟩
          by_cases hi2 : i ≤ F2
          · have hii : (i : Int) ≤ (F2 : Int) := by omega
            have hi3 : i < F2 + 1 := by omega
            cases aB with
            | true =>
              have r1 := oclF_range n (xsOf v) i
              have r2 := oclF_range m (xsOf w) i
              have hfi := fapp rfl i hi2
              have q1 : ∀ (K : AV → Prop) (tg : Tg K), CW env 20 [.agg [.int .i64 N2, Y2], .int .i64 i] K tg ↔ K (.int .i64 (((oclF n (xsOf v) i).toNat &&& (oclF m (xsOf w) i).toNat : Nat) : Int)) := fun K tg => by rw [← hfi]; exact callsTo_iff (sObjectClosure_c iY2)
              have q2 : ∀ (K : AV → Prop) (tg : Tg K), CW env 20 [.agg [.int .i64 n, v], .int .i64 i] K tg ↔ K (.int .i64 (oclF n (xsOf v) i)) := fun K tg => callsTo_iff (sObjectClosure_c iv)
              have q3 : ∀ (K : AV → Prop) (tg : Tg K), CW env 20 [.agg [.int .i64 m, w], .int .i64 i] K tg ↔ K (.int .i64 (oclF m (xsOf w) i)) := fun K tg => callsTo_iff (sObjectClosure_c iw)
              clear fapp hfi
              obtain ⟨A, hA⟩ : ∃ A, oclF n (xsOf v) i = A := ⟨_, rfl⟩
              obtain ⟨B, hB9⟩ : ∃ A, oclF m (xsOf w) i = A := ⟨_, rfl⟩
              simp only [hA, hB9] at q1 q2 q3 r1 r2
              obtain ⟨r11, r12⟩ := r1
              obtain ⟨r21, r22⟩ := r2
              clear hA hB9
              repeat' (first | (apply brI <;> intro hb hb2 <;> (try simp [-Int.not_le, -Int.not_lt, -Nat.not_le, -Nat.not_lt, -Nat.add_left_cancel_iff] at hb2)) | (refine draw_listA (by rfl) (by kernel_rfl) ?_) | (refine draw_listB (by simp [allocsOf, isAlloc]; rfl) (by kernel_rfl) ?_) | simp (maxSteps := 2000000) (disch := first | omega | assumption | simp [*]) [*, -Int.not_le, -Int.not_lt, -Nat.not_le, -Nat.not_lt, -Nat.add_left_cancel_iff, wrap_i64, wrap_u64, h23, h10, h3, h4, h9, e3, e4, e9, bits_and, isI_low iv, isI_low iw, isI_low iY2, isI_len iv])
            | false =>
              repeat' (first | (apply brI <;> intro hb hb2 <;> (try simp [-Int.not_le, -Int.not_lt, -Nat.not_le, -Nat.not_lt, -Nat.add_left_cancel_iff] at hb2)) | (refine draw_listA (by rfl) (by kernel_rfl) ?_) | (refine draw_listB (by simp [allocsOf, isAlloc]; rfl) (by kernel_rfl) ?_) | simp (maxSteps := 2000000) (disch := first | omega | assumption | simp [*]) [*, -Int.not_le, -Int.not_lt, -Nat.not_le, -Nat.not_lt, -Nat.add_left_cancel_iff, wrap_i64, wrap_u64, h23, h10, h3, h4, h9, e3, e4, e9, isI_low iv, isI_low iw, isI_low iY2, isI_len iv])
          · have hii : ¬ ((i : Int) ≤ (F2 : Int)) := by omega
            repeat' (first | (apply brI <;> intro hb hb2 <;> (try simp [-Int.not_le, -Int.not_lt, -Nat.not_le, -Nat.not_lt, -Nat.add_left_cancel_iff] at hb2)) | (refine draw_listA (by rfl) (by kernel_rfl) ?_) | (refine draw_listB (by simp [allocsOf, isAlloc]; rfl) (by kernel_rfl) ?_) | simp (maxSteps := 2000000) (disch := first | omega | assumption | simp [*]) [*, -Int.not_le, -Int.not_lt, -Nat.not_le, -Nat.not_lt, -Nat.add_left_cancel_iff, wrap_i64, wrap_u64, h23, h10, h3, h4, h9, e3, e4, e9, isI_low iv, isI_low iw, isI_low iY2, isI_len iv])
theorem lawSums_s {b : AV} (hB : IsB b) (hbr : brwOf b = false) {K : AV → Prop} {tg : Tg K} : CW env 3 [b] K tg ↔ K (.bool true) := callsTo_iff (lawSums_c hB hbr)
attribute [simp] lawSums_s
end Go.Proofs.YtliecnadoklgoaaDoor
