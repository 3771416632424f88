/- The great law of kinds. Conditions: none. -/
import Derived.Test.YtliecnadoklgoaaGreatDoorRed3
import Derived.Test.YtliecnadoklgoaaGreatDoorRedM
import Derived.Test.YtliecnadoklgoaaGreatDoorDrawK
import Derived.Test.YtliecnadoklgoaaGreatDoorLawSame
import Derived.Test.YtliecnadoklgoaaGreatDoorTab
import Derived.Test.YtliecnadoklgoaaGreatDoorChain
namespace Go.Proofs.YtliecnadoklgoaaGreatDoor
open Ev
set_option linter.unusedVariables false
set_option linter.unusedSimpArgs false
set_option maxHeartbeats 16000000
set_option maxRecDepth 100000

theorem lawKinds_c {b : AV} (hB : IsB b) (hbr : brwOf b = false) : EvC env 3 [b] (.bool true) := by
  refine evC_of (F := Tryz.f3) rfl rfl (Nat.le_of_ble_eq_true rfl) ?_
  have hcb := isB_cells hB
  have hob := isB_one hB
  by_cases hbig : 1048576 < bLen b
  · have hbi : (1048576 : Int) < (bLen b : Int) := by omega
    repeat' (first | (apply brI <;> intro hb hb2 <;> (try simp [-Int.not_le, -Int.not_lt, -Nat.not_le, -Nat.not_lt, -Nat.add_left_cancel_iff] at hb2)) | (refine draw_listA (by rfl) (by kernel_rfl) ?_) | (refine draw_listB (by simp [allocsOf, isAlloc]; rfl) (by kernel_rfl) ?_) | simp (maxSteps := 2000000) (disch := first | omega | assumption | simp [*]) [*, -Int.not_le, -Int.not_lt, -Nat.not_le, -Nat.not_lt, -Nat.add_left_cancel_iff, wrap_i64, wrap_u64, Tryz.f3, isB_low hB])
  · have hbi : ¬ ((1048576 : Int) < (bLen b : Int)) := by omega
    have hl : bLen b ≤ 1073741824 := by omega
    repeat' (first | (apply brI <;> intro hb hb2 <;> (try simp [-Int.not_le, -Int.not_lt, -Nat.not_le, -Nat.not_lt, -Nat.add_left_cancel_iff] at hb2)) | (refine draw_listA (by rfl) (by kernel_rfl) ?_) | (refine draw_listB (by simp [allocsOf, isAlloc]; rfl) (by kernel_rfl) ?_) | simp (maxSteps := 2000000) (disch := first | omega | assumption | simp [*]) [*, -Int.not_le, -Int.not_lt, -Nat.not_le, -Nat.not_lt, -Nat.add_left_cancel_iff, wrap_i64, wrap_u64, Tryz.f3, isB_low hB])
    refine cw_to (drawIsDistributive_t hB hbr hl) ?_
    intro r1 hd1
    obtain ⟨n, v, hr1, iv, lv⟩ := hd1.gen
    clear hd1
    have o1 := isI_one iv
    have c1 := isI_cells iv
    have hred := sReduce_c (n := n) iv
    have hrk : PCtx n (xsOf v) → (rdR (xsOf v) n.toNat).length = (irrL n (xsOf v) false).length ∧ rdN (xsOf v) n.toNat = (irrL n (xsOf v) true).length := fun hc => by
      obtain ⟨N, rfl⟩ : ∃ N : Nat, n = N := ⟨n.toNat, by have := hc.1; omega⟩
      exact ⟨red_rows hc, red_cols hc⟩
    obtain ⟨iJ, xJ⟩ := irr_w 3 n (xsOf v) false
    obtain ⟨iL, xL⟩ := irr_w 3 n (xsOf v) true
    rw [rowR_noEx] at iJ xJ iL xL
    have hlJ := irrL_len n (xsOf v) false
    have hlL := irrL_len n (xsOf v) true
    have iJ2 : IsI (bufC 1 (irrL n (xsOf v) false)) := isI_bufC (by unfold top63; omega)
    have iL2 : IsI (bufC 1 (irrL n (xsOf v) true)) := isI_bufC (by unfold top63; omega)
    have xJ2 : xsOf (bufC 1 (irrL n (xsOf v) false)) = irrL n (xsOf v) false := by simp
    have xL2 : xsOf (bufC 1 (irrL n (xsOf v) true)) = irrL n (xsOf v) true := by simp
    have hone : DistC true n (xsOf v) → ∀ e : Nat, e < (conL n (xsOf v)).length → (cmplL n (xsOf v) e).length ≤ 1 := fun hd e he => comp_one hd he
    have hcl : ∀ (e : Int) {E : Env} {t : Nat}, slT E t = true → lenV E t (noEx (cmplV 3 n (xsOf v) e)) = some (.int .i64 (cmplL n (xsOf v) e).length) := fun e E t ht => by
      have h9 := cmplV_w 3 n (xsOf v) e
      rw [isI_len h9.1 ht, h9.2]
    have hclo : ∀ (e : Int) h, low h (noEx (cmplV 3 n (xsOf v) e)) = noEx (cmplV 3 n (xsOf v) e) := fun e h => isI_low (cmplV_w ..).1 h
    have hbool : DistC true n (xsOf v) → CmpC n (xsOf v) → (conL n (xsOf v)).length = 2 ^ (irrL n (xsOf v) false).length := bool_count
    have hcn := conL_len n (xsOf v)
    have hDM : DistC true n (xsOf v) → DistC false n (xsOf v) := dist_mod
    have hCD : ChnC n (xsOf v) (fsts (conW n (xsOf v))) → DistC true n (xsOf v) := chain_dist
    have k1 : ∀ (K : AV → Prop) (tg : Tg K), CW env 10 [.agg [.int .i64 n, v]] K tg ↔ K (.bool (decide (DistC true n (xsOf v)))) := fun K tg => callsTo_iff (iIsDistributive_c iv)
    have k2 : ∀ (K : AV → Prop) (tg : Tg K), CW env 11 [.agg [.int .i64 n, v]] K tg ↔ K (.bool (decide (DistC false n (xsOf v)))) := fun K tg => callsTo_iff (iIsModular_c iv)
    have k3 : ∀ (K : AV → Prop) (tg : Tg K), CW env 12 [.agg [.int .i64 n, v]] K tg ↔ K (.bool (decide (CmpC n (xsOf v)))) := fun K tg => callsTo_iff (iIsComplemented_c iv)
    have k4 : ∀ (K : AV → Prop) (tg : Tg K), CW env 13 [.agg [.int .i64 n, v]] K tg ↔ K (.bool (decide (DistC true n (xsOf v)) && decide (CmpC n (xsOf v)))) := fun K tg => callsTo_iff (iIsBoolean_c iv)
    have k5 : ∀ (K : AV → Prop) (tg : Tg K), CW env 14 [.agg [.int .i64 n, v]] K tg ↔ K (.bool (decide (ChnC n (xsOf v) (fsts (conW n (xsOf v)))))) := fun K tg => callsTo_iff (iIsChain_c iv)
    have s1 : ∀ (K : AV → Prop) (tg : Tg K), CW env 18 [.agg [.int .i64 n, v]] K tg ↔ K (.bool (decide (DistC true n (xsOf v)))) := fun K tg => callsTo_iff (sIsDistributive_c iv)
    have s2 : ∀ (K : AV → Prop) (tg : Tg K), CW env 19 [.agg [.int .i64 n, v]] K tg ↔ K (.bool (decide (DistC false n (xsOf v)))) := fun K tg => callsTo_iff (sIsModular_c iv)
    have s3 : ∀ (K : AV → Prop) (tg : Tg K), CW env 20 [.agg [.int .i64 n, v]] K tg ↔ K (.bool (decide (CmpC n (xsOf v)))) := fun K tg => callsTo_iff (sIsComplemented_c iv)
    have s5 : ∀ (K : AV → Prop) (tg : Tg K), CW env 21 [.agg [.int .i64 n, v]] K tg ↔ K (.bool (decide (ChnC n (xsOf v) (fsts (conW n (xsOf v)))))) := fun K tg => callsTo_iff (sIsChain_c iv)
    obtain ⟨dB, hdB⟩ : ∃ B, decide (DistC true n (xsOf v)) = B := ⟨_, rfl⟩
    obtain ⟨mB, hmB⟩ : ∃ B, decide (DistC false n (xsOf v)) = B := ⟨_, rfl⟩
    obtain ⟨kB, hkB⟩ : ∃ B, decide (CmpC n (xsOf v)) = B := ⟨_, rfl⟩
    obtain ⟨hB2, hhB⟩ : ∃ B, decide (ChnC n (xsOf v) (fsts (conW n (xsOf v)))) = B := ⟨_, rfl⟩
    have fdm : dB = true → mB = true := fun h => by rw [← hmB, decide_eq_true_eq]; rw [← hdB, decide_eq_true_eq] at h; exact hDM h
    have fcd : hB2 = true → dB = true := fun h => by rw [← hdB, decide_eq_true_eq]; rw [← hhB, decide_eq_true_eq] at h; exact hCD h
    have fone : dB = true → ∀ e : Nat, e < (conL n (xsOf v)).length → (cmplL n (xsOf v) e).length ≤ 1 := fun h => hone (by rw [← hdB, decide_eq_true_eq] at h; exact h)
    have fbool : dB = true → kB = true → ∃ _ : Unit, (conL n (xsOf v)).length = 2 ^ (irrL n (xsOf v) false).length := fun h h' => ⟨(), hbool (by rw [← hdB, decide_eq_true_eq] at h; exact h) (by rw [← hkB, decide_eq_true_eq] at h'; exact h')⟩
    simp only [hdB, hmB, hkB, hhB] at k1 k2 k3 k4 k5 s1 s2 s3 s5
    obtain ⟨J, hJ⟩ : ∃ w, AV.sl 1 .no (ints (irrL n (xsOf v) false)) = w := ⟨_, rfl⟩
    obtain ⟨L, hL⟩ : ∃ w, AV.sl 1 .no (ints (irrL n (xsOf v) true)) = w := ⟨_, rfl⟩
    obtain ⟨J2, hJ2⟩ : ∃ w, bufC 1 (irrL n (xsOf v) false) = w := ⟨_, rfl⟩
    obtain ⟨L2, hL2⟩ : ∃ w, bufC 1 (irrL n (xsOf v) true) = w := ⟨_, rfl⟩
    rw [hJ] at iJ xJ
    rw [hL] at iL xL
    rw [hJ2] at iJ2 xJ2
    rw [hL2] at iL2 xL2
    have xJJ : xsOf J = xsOf J2 := by rw [xJ, xJ2]
    have xLL : xsOf L = xsOf L2 := by rw [xL, xL2]
    have hrk2 : PCtx n (xsOf v) → (rdR (xsOf v) n.toNat).length = (xsOf J).length ∧ rdN (xsOf v) n.toNat = (xsOf L).length := by rw [xJ, xL]; exact hrk
    rw [← xJ] at fbool hlJ
    rw [← xL] at hlL
    obtain ⟨C, hC⟩ : ∃ C, (conL n (xsOf v)).length = C := ⟨_, rfl⟩
    have kc : ∀ (K : AV → Prop) (tg : Tg K), CW env 27 [.agg [.int .i64 n, v]] K tg ↔ K (.int .i64 C) := fun K tg => by rw [← hC]; exact callsTo_iff (sCountConcepts_c iv)
    rw [hC] at fone fbool hcn
    have nJ2 : noEx J2 = J2 := by rw [← hJ2]; simp
    have nL2 : noEx L2 = L2 := by rw [← hL2]; simp
    have oJ := isI_one iJ
    have cJ := isI_cells iJ
    have oL := isI_one iL
    have cL := isI_cells iL
    have oJ2 := isI_one iJ2
    have cJ2 := isI_cells iJ2
    have oL2 := isI_one iL2
    have cL2 := isI_cells iL2
    clear hone hbool hDM hCD hdB hmB hkB hhB hrk xJ xL xJ2 xL2 hC
    repeat' (first | (apply brI <;> intro hb hb2 <;> (try simp [-Int.not_le, -Int.not_lt, -Nat.not_le, -Nat.not_lt, -Nat.add_left_cancel_iff] at hb2)) | (refine draw_listA (by rfl) (by kernel_rfl) ?_) | (refine draw_listB (by simp [allocsOf, isAlloc]; rfl) (by kernel_rfl) ?_) | simp (maxSteps := 2000000) (disch := first | omega | assumption | simp [*]) [*, -Int.not_le, -Int.not_lt, -Nat.not_le, -Nat.not_lt, -Nat.add_left_cancel_iff, wrap_i64, wrap_u64, hr1, isB_low hB, isI_low iv])
    refine cw_to (drawComplementsOf_t hB hbr hl) ?_
    intro r2 hd2
    obtain ⟨n2, v2, xs, hr2, i2, l2, a2, rfl, _, _⟩ := hd2.gen'
    clear hd2
    have o2 := isI_one i2
    have c2 := isI_cells i2
    obtain ⟨iV, xV⟩ := cmplV_w 3 n2 (xsOf v2) a2
    have iW : IsI (bufC 1 (cmplL n2 (xsOf v2) a2)) := isI_bufC (by have := cmplL_len n2 (xsOf v2) a2; unfold top63; omega)
    have xW : xsOf (bufC 1 (cmplL n2 (xsOf v2) a2)) = cmplL n2 (xsOf v2) a2 := by simp
    obtain ⟨V, hV⟩ : ∃ w, noEx (cmplV 3 n2 (xsOf v2) a2) = w := ⟨_, rfl⟩
    obtain ⟨W, hW⟩ : ∃ w, bufC 1 (cmplL n2 (xsOf v2) a2) = w := ⟨_, rfl⟩
    rw [hV] at iV xV
    rw [hW] at iW xW
    have xVW : xsOf V = xsOf W := by rw [xV, xW]
    have nW : noEx W = W := by rw [← hW]; simp
    have oV := isI_one iV
    have cV := isI_cells iV
    have oW := isI_one iW
    have cW := isI_cells iW
    clear xV xW
    have hx : (dB = true ∧ mB = true) ∨ (dB = false ∧ hB2 = false) := by
      cases dB with
      | true => exact .inl ⟨rfl, fdm rfl⟩
      | false => refine .inr ⟨rfl, ?_⟩; cases hB2 with
        | true => exact absurd (fcd rfl) (by simp)
        | false => rfl
    clear fdm fcd
    clear l2 hcb lv
    rcases hx with ⟨e1, e2⟩ | ⟨e1, e2⟩
    · subst e1
      subst e2
      replace fone := fone rfl
      replace fbool := fbool rfl
      repeat' (first | (apply brI <;> intro hb hb2 <;> (try simp [-Int.not_le, -Int.not_lt, -Nat.not_le, -Nat.not_lt, -Nat.add_left_cancel_iff] at hb2)) | (refine draw_listA (by rfl) (by kernel_rfl) ?_) | (refine draw_listB (by simp [allocsOf, isAlloc]; rfl) (by kernel_rfl) ?_) | simp (maxSteps := 2000000) (disch := first | omega | assumption | simp [*]) [*, -Int.not_le, -Int.not_lt, -Nat.not_le, -Nat.not_lt, -Nat.add_left_cancel_iff, wrap_i64, wrap_u64, hr2, isB_low hB, isI_low iv, isI_low i2, isI_low iJ, isI_low iL, isI_low iJ2, isI_low iL2, isI_low iV, isI_low iW, isI_len iJ, isI_len iL])
      all_goals
        refine W_loopG C (fun i s h' => s 14 = .int .i64 i ∧ s 13 = .int .i64 C ∧ s 3 = .vp 3 0 0 ∧ s 4 = .bool true ∧ s 7 = .bool kB ∧ s 11 = J ∧ s 12 = L ∧ h' 3 = some (.var 0 26 (.agg [.int .i64 n, v]))) ?_ ?_
        · clear fone fbool hrk2
          simp [*]
        rintro i s h' hi ⟨h14, h13, h3, h4, h7, h11, h12, e3⟩
        clear nJ2 nL2 nW k1 k2 k3 k4 k5 s1 s2 s3 s5 kc iJ2 iL2 hJ2 hL2 xJJ xLL oJ2 cJ2 oL2 cL2 hr2 i2 o2 c2 iV iW hV hW xVW oV cV oW cW
        by_cases hi2 : i < C
        · have hle := fone i hi2
          have hle2 : ¬ (1 < ((cmplL n (xsOf v) i).length : Int)) := by omega
          have hci : ∀ {E : Env} {t : Nat}, slT E t = true → lenV E t (noEx (cmplV 3 n (xsOf v) i)) = some (.int .i64 (cmplL n (xsOf v) i).length) := fun ht => hcl i ht
          have hli := fun h => hclo i h
          clear fone fbool hrk2 hcl hclo
          repeat' (first | (apply brI <;> intro hb hb2 <;> (try simp [-Int.not_le, -Int.not_lt, -Nat.not_le, -Nat.not_lt, -Nat.add_left_cancel_iff] at hb2)) | (refine draw_listA (by rfl) (by kernel_rfl) ?_) | (refine draw_listB (by simp [allocsOf, isAlloc]; rfl) (by kernel_rfl) ?_) | simp (maxSteps := 2000000) (disch := first | omega | assumption | simp [*]) [*, -Int.not_le, -Int.not_lt, -Nat.not_le, -Nat.not_lt, -Nat.add_left_cancel_iff, wrap_i64, wrap_u64, h14, h13, h3, h4, h7, h11, h12, e3, isI_low iv])
        · obtain rfl : i = C := by omega
          clear fone hcl hclo
          repeat' (first | (apply brI <;> intro hb hb2 <;> (try simp [-Int.not_le, -Int.not_lt, -Nat.not_le, -Nat.not_lt, -Nat.add_left_cancel_iff] at hb2)) | (refine draw_listA (by rfl) (by kernel_rfl) ?_) | (refine draw_listB (by simp [allocsOf, isAlloc]; rfl) (by kernel_rfl) ?_) | simp (maxSteps := 2000000) (disch := first | omega | assumption | simp [*]) [*, -Int.not_le, -Int.not_lt, -Nat.not_le, -Nat.not_lt, -Nat.add_left_cancel_iff, wrap_i64, wrap_u64, h14, h13, h3, h4, h7, h11, h12, e3, isI_low iv])
          refine cw_to hred ?_
          rintro r4 ⟨m4, rows4, ok4, hr4, w0, w6, w8, hok⟩
          have i4 : IsI (bufC 0 rows4) := isI_bufC (by unfold top63; omega)
          have x4 : xsOf (bufC 0 rows4) = rows4 := by simp
          have hne : ok4 = true → rows4.length = (xsOf J).length ∧ m4 = ((xsOf L).length : Int) := fun e1 => by
            obtain ⟨a1, a2, a3⟩ := hok e1
            obtain ⟨b1, b2⟩ := hrk2 a1
            exact ⟨by rw [a3]; exact b1, by rw [a2, b2]⟩
          clear hok hrk2
          rw [← x4] at hne
          obtain ⟨W4, hW4⟩ : ∃ w, bufC 0 rows4 = w := ⟨_, rfl⟩
          rw [hW4] at hr4 i4 x4 hne
          have o4 := isI_one i4
          have c4 := isI_cells i4
          clear x4 w8 hW4
          cases kB with
          | true =>
            obtain ⟨_, hC⟩ := fbool rfl
            have hJ6 : (xsOf J).length ≤ 6 := by
              apply Classical.byContradiction
              intro h9
              have : 2 ^ 7 ≤ 2 ^ (xsOf J).length := Nat.pow_le_pow_right (by decide) (by omega)
              omega
            have hpw := pow_small10 (i := (xsOf J).length) (by omega)
            have hCI : (i : Int) = 2 ^ (xsOf J).length := by rw [hC]; simp
            clear fbool hC
            cases ok4 with
            | true =>
              obtain ⟨q1, q2⟩ := hne rfl
              clear hne
              have q1' : ((xsOf W4).length : Int) = ((xsOf J).length : Int) := by omega
              repeat' (first | (apply brI <;> intro hb hb2 <;> (try simp [-Int.not_le, -Int.not_lt, -Nat.not_le, -Nat.not_lt, -Nat.add_left_cancel_iff] at hb2)) | (refine draw_listA (by rfl) (by kernel_rfl) ?_) | (refine draw_listB (by simp [allocsOf, isAlloc]; rfl) (by kernel_rfl) ?_) | simp (maxSteps := 2000000) (disch := first | omega | assumption | simp [*]) [*, -Int.not_le, -Int.not_lt, -Nat.not_le, -Nat.not_lt, -Nat.add_left_cancel_iff, wrap_i64, wrap_u64, hr4, isI_len i4, isI_len iJ, isI_len iL, isI_low iv, pow_toNat])
            | false =>
              clear hne
              repeat' (first | (apply brI <;> intro hb hb2 <;> (try simp [-Int.not_le, -Int.not_lt, -Nat.not_le, -Nat.not_lt, -Nat.add_left_cancel_iff] at hb2)) | (refine draw_listA (by rfl) (by kernel_rfl) ?_) | (refine draw_listB (by simp [allocsOf, isAlloc]; rfl) (by kernel_rfl) ?_) | simp (maxSteps := 2000000) (disch := first | omega | assumption | simp [*]) [*, -Int.not_le, -Int.not_lt, -Nat.not_le, -Nat.not_lt, -Nat.add_left_cancel_iff, wrap_i64, wrap_u64, hr4, isI_len i4, isI_len iJ, isI_len iL, isI_low iv, pow_toNat])
          | false =>
            clear fbool
            cases ok4 with
            | true =>
              obtain ⟨q1, q2⟩ := hne rfl
              clear hne
              have q1' : ((xsOf W4).length : Int) = ((xsOf J).length : Int) := by omega
              repeat' (first | (apply brI <;> intro hb hb2 <;> (try simp [-Int.not_le, -Int.not_lt, -Nat.not_le, -Nat.not_lt, -Nat.add_left_cancel_iff] at hb2)) | (refine draw_listA (by rfl) (by kernel_rfl) ?_) | (refine draw_listB (by simp [allocsOf, isAlloc]; rfl) (by kernel_rfl) ?_) | simp (maxSteps := 2000000) (disch := first | omega | assumption | simp [*]) [*, -Int.not_le, -Int.not_lt, -Nat.not_le, -Nat.not_lt, -Nat.add_left_cancel_iff, wrap_i64, wrap_u64, hr4, isI_len i4, isI_len iJ, isI_len iL, isI_low iv, pow_toNat])
            | false =>
              clear hne
              repeat' (first | (apply brI <;> intro hb hb2 <;> (try simp [-Int.not_le, -Int.not_lt, -Nat.not_le, -Nat.not_lt, -Nat.add_left_cancel_iff] at hb2)) | (refine draw_listA (by rfl) (by kernel_rfl) ?_) | (refine draw_listB (by simp [allocsOf, isAlloc]; rfl) (by kernel_rfl) ?_) | simp (maxSteps := 2000000) (disch := first | omega | assumption | simp [*]) [*, -Int.not_le, -Int.not_lt, -Nat.not_le, -Nat.not_lt, -Nat.add_left_cancel_iff, wrap_i64, wrap_u64, hr4, isI_len i4, isI_len iJ, isI_len iL, isI_low iv, pow_toNat])
    · subst e1
      subst e2
      clear fone fbool
      repeat' (first | (apply brI <;> intro hb hb2 <;> (try simp [-Int.not_le, -Int.not_lt, -Nat.not_le, -Nat.not_lt, -Nat.add_left_cancel_iff] at hb2)) | (refine draw_listA (by rfl) (by kernel_rfl) ?_) | (refine draw_listB (by simp [allocsOf, isAlloc]; rfl) (by kernel_rfl) ?_) | simp (maxSteps := 2000000) (disch := first | omega | assumption | simp [*]) [*, -Int.not_le, -Int.not_lt, -Nat.not_le, -Nat.not_lt, -Nat.add_left_cancel_iff, wrap_i64, wrap_u64, hr2, isB_low hB, isI_low iv, isI_low i2, isI_low iJ, isI_low iL, isI_low iJ2, isI_low iL2, isI_low iV, isI_low iW, isI_len iJ, isI_len iL])
      all_goals
        refine W_loopG C (fun i s h' => s 14 = .int .i64 i ∧ s 13 = .int .i64 C ∧ s 3 = .vp 3 0 0 ∧ s 4 = .bool false ∧ s 7 = .bool false ∧ s 11 = J ∧ s 12 = L ∧ h' 3 = some (.var 0 26 (.agg [.int .i64 n, v]))) ?_ ?_
        · clear hrk2
          simp [*]
        rintro i s h' hi ⟨h14, h13, h3, h4, h7, h11, h12, e3⟩
        clear nJ2 nL2 nW k1 k2 k3 k4 k5 s1 s2 s3 s5 kc iJ2 iL2 hJ2 hL2 xJJ xLL oJ2 cJ2 oL2 cL2 hr2 i2 o2 c2 iV iW hV hW xVW oV cV oW cW hcl hclo
        repeat' (first | (apply brI <;> intro hb hb2 <;> (try simp [-Int.not_le, -Int.not_lt, -Nat.not_le, -Nat.not_lt, -Nat.add_left_cancel_iff] at hb2)) | (refine draw_listA (by rfl) (by kernel_rfl) ?_) | (refine draw_listB (by simp [allocsOf, isAlloc]; rfl) (by kernel_rfl) ?_) | simp (maxSteps := 2000000) (disch := first | omega | assumption | simp [*]) [*, -Int.not_le, -Int.not_lt, -Nat.not_le, -Nat.not_lt, -Nat.add_left_cancel_iff, wrap_i64, wrap_u64, h14, h13, h3, h4, h7, h11, h12, e3, isI_low iv])
        all_goals
          refine cw_to hred ?_
          rintro r4 ⟨m4, rows4, ok4, hr4, w0, w6, w8, hok⟩
          have i4 : IsI (bufC 0 rows4) := isI_bufC (by unfold top63; omega)
          have x4 : xsOf (bufC 0 rows4) = rows4 := by simp
          have hne : ok4 = true → rows4.length = (xsOf J).length ∧ m4 = ((xsOf L).length : Int) := fun e1 => by
            obtain ⟨a1, a2, a3⟩ := hok e1
            obtain ⟨b1, b2⟩ := hrk2 a1
            exact ⟨by rw [a3]; exact b1, by rw [a2, b2]⟩
          clear hok hrk2
          rw [← x4] at hne
          obtain ⟨W4, hW4⟩ : ∃ w, bufC 0 rows4 = w := ⟨_, rfl⟩
          rw [hW4] at hr4 i4 x4 hne
          have o4 := isI_one i4
          have c4 := isI_cells i4
          clear x4 w8 hW4
          cases ok4 with
          | true =>
            obtain ⟨q1, q2⟩ := hne rfl
            clear hne
            have q1' : ((xsOf W4).length : Int) = ((xsOf J).length : Int) := by omega
            repeat' (first | (apply brI <;> intro hb hb2 <;> (try simp [-Int.not_le, -Int.not_lt, -Nat.not_le, -Nat.not_lt, -Nat.add_left_cancel_iff] at hb2)) | (refine draw_listA (by rfl) (by kernel_rfl) ?_) | (refine draw_listB (by simp [allocsOf, isAlloc]; rfl) (by kernel_rfl) ?_) | simp (maxSteps := 2000000) (disch := first | omega | assumption | simp [*]) [*, -Int.not_le, -Int.not_lt, -Nat.not_le, -Nat.not_lt, -Nat.add_left_cancel_iff, wrap_i64, wrap_u64, hr4, isI_len i4, isI_len iJ, isI_len iL, isI_low iv, pow_toNat])
          | false =>
            clear hne
            repeat' (first | (apply brI <;> intro hb hb2 <;> (try simp [-Int.not_le, -Int.not_lt, -Nat.not_le, -Nat.not_lt, -Nat.add_left_cancel_iff] at hb2)) | (refine draw_listA (by rfl) (by kernel_rfl) ?_) | (refine draw_listB (by simp [allocsOf, isAlloc]; rfl) (by kernel_rfl) ?_) | simp (maxSteps := 2000000) (disch := first | omega | assumption | simp [*]) [*, -Int.not_le, -Int.not_lt, -Nat.not_le, -Nat.not_lt, -Nat.add_left_cancel_iff, wrap_i64, wrap_u64, hr4, isI_len i4, isI_len iJ, isI_len iL, isI_low iv, pow_toNat])
theorem lawKinds_s {b : AV} (hB : IsB b) (hbr : brwOf b = false) {K : AV → Prop} {tg : Tg K} : CW env 3 [b] K tg ↔ K (.bool true) := callsTo_iff (lawKinds_c hB hbr)
attribute [simp] lawKinds_s
end Go.Proofs.YtliecnadoklgoaaGreatDoor
