/- The path that is drawn. Conditions: none. -/
import Derived.Test.YtkkkgaapkibhkaaGreatDoorDrawD
namespace Go.Proofs.YtkkkgaapkibhkaaGreatDoor
open Ev
set_option linter.unusedVariables false
set_option linter.unusedSimpArgs false
set_option maxHeartbeats 4000000

def PaSt (h : Heap) (N rk len k : Nat) (b v : AV) (a7 a8 : AV) : Prop := ∃ (A : Nat) (u : AV) (xs : List Int), a7 = .int .i64 A ∧ A < len ∧ a8 = u ∧ PathB h u xs ∧ xs.length ≤ 1 + k ∧ h 2 = some (.var 0 26 (.agg [.int .i64 0, .sl 0 .lit []])) ∧ h 5 = some (.var 0 26 (.agg [.int .i64 N, v])) ∧ CBt h rk v ∧ Cur h 12 0 b
theorem drawPathConfidence_t {b : AV} (hB : IsB b) (hbr : brwOf b = false) (hl : bLen b ≤ 1073741824) : CallsTo env 92 [b] (fun r => DrC r QPath) := by
  refine callsTo_mk (F := Tryz.f92) rfl rfl (Nat.le_of_ble_eq_true rfl) ?_
  have hcb := isB_cells hB
  have hob := isB_one hB
  repeat' (first | (apply br_intro <;> intro hb <;> (have hb2 := hb) <;> (try simp [-Int.not_le, -Int.not_lt, -Nat.not_le, -Nat.not_lt, -Nat.add_left_cancel_iff] at hb2)) | (refine draw_listA (by rfl) (by kernel_rfl) ?_) | (refine draw_listB (by simp [allocsOf, isAlloc]; rfl) (by kernel_rfl) ?_) | simp (maxSteps := 2000000) (disch := first | omega | assumption | simp [*]) [*, -Int.not_le, -Int.not_lt, -Nat.not_le, -Nat.not_lt, -Nat.add_left_cancel_iff, wrap_i64, wrap_u64, Tryz.f92, isB_low hB])
  refine cf_xp (by simpa [isB_low hB] using l1New_t hB hbr hl) rfl ?_
  rintro r ⟨hh, rfl⟩
  refine ⟨_, _, _, rfl, ?_⟩
  repeat' (first | (apply br_intro <;> intro hb <;> (have hb2 := hb) <;> (try simp [-Int.not_le, -Int.not_lt, -Nat.not_le, -Nat.not_lt, -Nat.add_left_cancel_iff] at hb2)) | (refine draw_listA (by rfl) (by kernel_rfl) ?_) | (refine draw_listB (by simp [allocsOf, isAlloc]; rfl) (by kernel_rfl) ?_) | simp (maxSteps := 2000000) (disch := first | omega | assumption | simp [*]) [*, -Int.not_le, -Int.not_lt, -Nat.not_le, -Nat.not_lt, -Nat.add_left_cancel_iff, wrap_i64, wrap_u64])
  refine cf_open rfl rfl (l3Draw_o hB hl (g := 0) ⟨0, hh, by omega, by omega, by simp [hset, hnil]⟩ (by simp [farOff]) fun rk N k v h1 hrk hN hk hp hc1 hf1 => ?_)
  simp only [farOff] at hrk hf1
  have ov := hp.one
  have cv := hp.cells
  obtain ⟨rows, hBr, hrl, hrx⟩ := hp
  have hpc := pctx_of hN (by omega) hrx
  have hlr := hBr.low
  have hIr : IsI (bufC 0 rows) := isI_bufC (by unfold top63; omega)
  have hD1 : CBt h1 rk v := ⟨rows, hBr, by omega⟩
  have f2 : h1 2 = some (.var 0 26 (.agg [.int .i64 0, .sl 0 .lit []])) := by rw [hf1 2 (by omega) (by omega)]; simp [hset]
  have f5 : h1 5 = none := by rw [hf1 5 (by omega) (by omega)]; simp [hset, hnil]
  have hP := conW_P N rows
  have hw := sCon_noEx N rows 102
  have hfl := conW_len N rows
  have hL := conL_len N rows
  have hF := sets_F N rows
  have hpos := con_pos hpc
  have hcw : ∀ (K : AV → Prop) (tg : Tg K), CW env 104 [.agg [.int .i64 N, bufC 0 rows]] K tg ↔ K (bufLR 102 19 2 2 (conR rows (conL N rows))) := fun K tg => callsTo_iff (by simpa using sConcepts_c (n := (N : Int)) hIr)
  generalize conW N rows = w at *
  obtain ⟨len, hlen⟩ : ∃ len, (conL N rows).length = len := ⟨_, rfl⟩
  rw [hlen] at hfl hL hpos
  have hco : ∀ (a : Nat) (K : AV → Prop) (tg : Tg K), a < len → (CW env 203 [w, .int .i64 a, .bool false] K tg ↔ K (bufR 3 71 1 (nbL (fsts w) false a))) := fun a K tg ha => callsTo_iff (l6Covers_c hP (by omega) (by omega) hF)
  have hnb : ∀ a : Nat, (nbL (fsts w) false a).length ≤ 64 ∧ ∀ j, j < (nbL (fsts w) false a).length → ∃ m : Nat, nth (nbL (fsts w) false a) j = m ∧ m < len := fun a => ⟨by have := nbL_len (fsts w) false a; omega, fun j hj => by
    obtain ⟨m, e1, e2⟩ := nbL_lt j hj
    exact ⟨m, e1, by omega⟩⟩
  clear hf1 hBr hrx hrl hpc hF hlen
  repeat' (first | (apply br_intro <;> intro hb <;> (have hb2 := hb) <;> (try simp [-Int.not_le, -Int.not_lt, -Nat.not_le, -Nat.not_lt, -Nat.add_left_cancel_iff] at hb2)) | (refine draw_listA (by rfl) (by kernel_rfl) ?_) | (refine draw_listB (by simp [allocsOf, isAlloc]; rfl) (by kernel_rfl) ?_) | simp (maxSteps := 2000000) (disch := first | omega | assumption | simp [*]) [*, -Int.not_le, -Int.not_lt, -Nat.not_le, -Nat.not_lt, -Nat.add_left_cancel_iff, wrap_i64, wrap_u64, f5, hlr])
  repeat' (first | (apply br_intro <;> intro hb <;> (have hb2 := hb) <;> (try simp [-Int.not_le, -Int.not_lt, -Nat.not_le, -Nat.not_lt, -Nat.add_left_cancel_iff] at hb2)) | (refine draw_listA (by rfl) (by kernel_rfl) ?_) | (refine draw_listB (by simp [allocsOf, isAlloc]; rfl) (by kernel_rfl) ?_) | simp (maxSteps := 2000000) (disch := first | omega | assumption | simp [*]) [*, -Int.not_le, -Int.not_lt, -Nat.not_le, -Nat.not_lt, -Nat.add_left_cancel_iff, wrap_i64, wrap_u64, f5, hlr, isP_len hP])
  refine cf_open rfl rfl (l1Below_o hB hl (hc1.keep (hset_other _ _ (by omega))) fun x h2 hx _ hy hc2 hf2 => ?_)
  have hz := hy (by omega)
  obtain ⟨A, rfl⟩ : ∃ A : Nat, x = A := ⟨x.toNat, by omega⟩
  have hA : A < len := by omega
  have g2 : h2 2 = _ := ((hf2 2 (by omega)).trans (hset_other _ _ (by omega))).trans f2
  have g5 : h2 5 = some (.var 0 26 (.agg [.int .i64 N, v])) := by rw [hf2 5 (by omega)]; simp [hset, f5]
  have hD2 := hD1.keep (h' := h2) ((hf2 rk (by omega)).trans (hset_other _ _ (by omega)))
  have hst : PaSt h2 N rk len 0 b v (.int .i64 A) (.sl 1 .lit [.int .i64 A]) := ⟨A, _, [(A : Int)], rfl, hA, rfl, ⟨by simp, .inl rfl⟩, by simp, g2, g5, hD2, hc2⟩
  clear hf2 hy f2 f5 hD1 hc1 g2 g5 hD2 hc2 hw hcw hlr hIr
  repeat' (first | (apply br_intro <;> intro hb <;> (have hb2 := hb) <;> (try simp [-Int.not_le, -Int.not_lt, -Nat.not_le, -Nat.not_lt, -Nat.add_left_cancel_iff] at hb2)) | (refine draw_listA (by rfl) (by kernel_rfl) ?_) | (refine draw_listB (by simp [allocsOf, isAlloc]; rfl) (by kernel_rfl) ?_) | simp (maxSteps := 2000000) (disch := first | omega | assumption | simp [*]) [*, -Int.not_le, -Int.not_lt, -Nat.not_le, -Nat.not_lt, -Nat.add_left_cancel_iff, wrap_i64, wrap_u64])
  refine W_loopG 3 (fun i s h' => PaSt h' N rk len i b v (s 7) (s 8) ∧ s 9 = .int .i64 i ∧ s 6 = w ∧ s 5 = .vp 5 0 0 ∧ s 4 = .vp 12 0 0 ∧ s 2 = .vp 2 0 0) ?_ ?_
  · simp [*]
  clear hst
  rintro i s h3 hi ⟨⟨A3, u3, xs3, q7, hA3, q8, hp3, hl3, e2, e5, hD3, hc3⟩, q9, q6, q5, q4, q2⟩
  have ou := hp3.one.1
  have cu := hp3.one.2
  have hrk9 : 100000 ≤ rk := by omega
  clear hrk
  by_cases hi3 : i < 3
  · have hi3i : (i : Int) < 3 := by omega
    obtain ⟨hn64, hnl⟩ := hnb A3
    have hcoA := fun K tg => hco A3 K tg hA3
    obtain ⟨nb, hnbe⟩ : ∃ nb, nbL (fsts w) false A3 = nb := ⟨_, rfl⟩
    rw [hnbe] at hn64 hnl
    simp only [hnbe] at hcoA
    have hIn : IsI (bufC 1 nb) := isI_bufC (by unfold top63; omega)
    have hxn : xsOf (bufC 1 nb) = nb := by simp
    obtain ⟨bw, hbw⟩ : ∃ bw, bufC 1 nb = bw := ⟨_, rfl⟩
    have hnw : noEx (bufR 3 71 1 nb) = bw := by rw [← hbw]; simp
    rw [hbw] at hIn hxn
    have obw := isI_one hIn
    have cbw := isI_cells hIn
    clear hco hnb hnbe hbw
    by_cases hz0 : nb.length = 0
    · have hz0i : (nb.length : Int) = 0 := by omega
      repeat' (first | (apply br_intro <;> intro hb <;> (have hb2 := hb) <;> (try simp [-Int.not_le, -Int.not_lt, -Nat.not_le, -Nat.not_lt, -Nat.add_left_cancel_iff] at hb2)) | (refine draw_listA (by rfl) (by kernel_rfl) ?_) | (refine draw_listB (by simp [allocsOf, isAlloc]; rfl) (by kernel_rfl) ?_) | simp (maxSteps := 2000000) (disch := first | omega | assumption | simp [*]) [*, -Int.not_le, -Int.not_lt, -Nat.not_le, -Nat.not_lt, -Nat.add_left_cancel_iff, wrap_i64, wrap_u64, q7, q9, q4, q5, q6, q2, e5, e2, q8, isI_len hIn, isP_low hP])
      refine cf_open rfl rfl (l1Once_o hB hl hc3 fun cT hT hcT hfT => ?_)
      have t2 := (hfT 2 (by omega)).trans e2
      have t5 := (hfT 5 (by omega)).trans e5
      have tp := hp3.keep (hfT 47 (by omega)) (hfT 58 (by omega))
      have tD := hD3.keep (hfT rk (by omega))
      clear hfT e2 e5 hp3 hD3 hc3
      cases cT with
      | true =>
        repeat' (first | (apply br_intro <;> intro hb <;> (have hb2 := hb) <;> (try simp [-Int.not_le, -Int.not_lt, -Nat.not_le, -Nat.not_lt, -Nat.add_left_cancel_iff] at hb2)) | (refine draw_listA (by rfl) (by kernel_rfl) ?_) | (refine draw_listB (by simp [allocsOf, isAlloc]; rfl) (by kernel_rfl) ?_) | simp (maxSteps := 2000000) (disch := first | omega | assumption | simp [*]) [*, -Int.not_le, -Int.not_lt, -Nat.not_le, -Nat.not_lt, -Nat.add_left_cancel_iff, wrap_i64, wrap_u64, q4, q5, q6, q2, t5, t2, q8, isP_len hP])
        refine cf_open rfl rfl (l1Below_o hB hl hcT fun xT hU hxT _ _ hcU hfU => ?_)
        have u2 := (hfU 2 (by omega)).trans t2
        have u5 := (hfU 5 (by omega)).trans t5
        have up := tp.keep (hfU 47 (by omega)) (hfU 58 (by omega))
        have uD := tD.keep (hfU rk (by omega))
        clear hfU t2 t5 tp tD hcT
        repeat' (first | (apply br_intro <;> intro hb <;> (have hb2 := hb) <;> (try simp [-Int.not_le, -Int.not_lt, -Nat.not_le, -Nat.not_lt, -Nat.add_left_cancel_iff] at hb2)) | (refine draw_listA (by rfl) (by kernel_rfl) ?_) | (refine draw_listB (by simp [allocsOf, isAlloc]; rfl) (by kernel_rfl) ?_) | simp (maxSteps := 2000000) (disch := first | omega | assumption | simp [*]) [*, -Int.not_le, -Int.not_lt, -Nat.not_le, -Nat.not_lt, -Nat.add_left_cancel_iff, wrap_i64, wrap_u64, q4, q5, q6, q2, u5, u2, q8])
        refine wa_path up rfl rfl rfl (.inr rfl) (by omega) ?_
        intro vV hV hpV hkV
        have oV := hpV.one.1
        have cV := hpV.one.2
        have v2 := (hkV 2 (by omega) (by omega)).trans u2
        have v5 := (hkV 5 (by omega) (by omega)).trans u5
        have vD := uD.keep (hkV rk (by omega) (by omega))
        have hend : ∀ h', (∀ y, y ≠ 2 → h' y = hV y) → DrC (.tup [.agg [.int .i64 N, expo h' v], expo h' vV]) QPath := fun h' e => by
          obtain ⟨u, e1, e2, e3⟩ := (hpV.keep (h' := h') (e _ (by omega)) (e _ (by omega))).res (by simp; omega)
          exact drc_mk (ys := [u]) (vD.keep (e _ (by omega))) (by simp [noExs, e1]) ⟨u, rfl, e2, e3⟩
        clear hkV u2 u5 up uD hpV vD hcU
        repeat' (first | (apply br_intro <;> intro hb <;> (have hb2 := hb) <;> (try simp [-Int.not_le, -Int.not_lt, -Nat.not_le, -Nat.not_lt, -Nat.add_left_cancel_iff] at hb2)) | (refine draw_listA (by rfl) (by kernel_rfl) ?_) | (refine draw_listB (by simp [allocsOf, isAlloc]; rfl) (by kernel_rfl) ?_) | simp (maxSteps := 2000000) (disch := first | omega | assumption | simp [*]) [*, -Int.not_le, -Int.not_lt, -Nat.not_le, -Nat.not_lt, -Nat.add_left_cancel_iff, wrap_i64, wrap_u64, q4, q5, q6, q2, v5, v2, q8])
        exact hend _ fun y hy => hset_other _ _ hy
      | false =>
        have hend : ∀ h', (∀ y, y ≠ 2 → h' y = hT y) → DrC (.tup [.agg [.int .i64 N, expo h' v], expo h' u3]) QPath := fun h' e => by
          obtain ⟨u, e1, e2, e3⟩ := (tp.keep (h' := h') (e _ (by omega)) (e _ (by omega))).res (by omega)
          exact drc_mk (ys := [u]) (tD.keep (e _ (by omega))) (by simp [noExs, e1]) ⟨u, rfl, e2, e3⟩
        clear tp tD hcT
        repeat' (first | (apply br_intro <;> intro hb <;> (have hb2 := hb) <;> (try simp [-Int.not_le, -Int.not_lt, -Nat.not_le, -Nat.not_lt, -Nat.add_left_cancel_iff] at hb2)) | (refine draw_listA (by rfl) (by kernel_rfl) ?_) | (refine draw_listB (by simp [allocsOf, isAlloc]; rfl) (by kernel_rfl) ?_) | simp (maxSteps := 2000000) (disch := first | omega | assumption | simp [*]) [*, -Int.not_le, -Int.not_lt, -Nat.not_le, -Nat.not_lt, -Nat.add_left_cancel_iff, wrap_i64, wrap_u64, q4, q5, q6, q2, t5, t2, q8])
        exact hend _ fun y hy => hset_other _ _ hy
    · have hz0i : ¬ (nb.length : Int) = 0 := by omega
      repeat' (first | (apply br_intro <;> intro hb <;> (have hb2 := hb) <;> (try simp [-Int.not_le, -Int.not_lt, -Nat.not_le, -Nat.not_lt, -Nat.add_left_cancel_iff] at hb2)) | (refine draw_listA (by rfl) (by kernel_rfl) ?_) | (refine draw_listB (by simp [allocsOf, isAlloc]; rfl) (by kernel_rfl) ?_) | simp (maxSteps := 2000000) (disch := first | omega | assumption | simp [*]) [*, -Int.not_le, -Int.not_lt, -Nat.not_le, -Nat.not_lt, -Nat.add_left_cancel_iff, wrap_i64, wrap_u64, q7, q9, q4, q5, q6, q2, e5, e2, q8, isI_len hIn, isP_low hP])
      refine cf_open rfl rfl (l1Once_o hB hl hc3 fun c4 h4 hc4 hf4 => ?_)
      have g2 := (hf4 2 (by omega)).trans e2
      have g5 := (hf4 5 (by omega)).trans e5
      have gp := hp3.keep (hf4 47 (by omega)) (hf4 58 (by omega))
      have gD := hD3.keep (hf4 rk (by omega))
      clear hf4 e2 e5 hp3 hD3 hc3
      cases c4 with
      | true =>
        repeat' (first | (apply br_intro <;> intro hb <;> (have hb2 := hb) <;> (try simp [-Int.not_le, -Int.not_lt, -Nat.not_le, -Nat.not_lt, -Nat.add_left_cancel_iff] at hb2)) | (refine draw_listA (by rfl) (by kernel_rfl) ?_) | (refine draw_listB (by simp [allocsOf, isAlloc]; rfl) (by kernel_rfl) ?_) | simp (maxSteps := 2000000) (disch := first | omega | assumption | simp [*]) [*, -Int.not_le, -Int.not_lt, -Nat.not_le, -Nat.not_lt, -Nat.add_left_cancel_iff, wrap_i64, wrap_u64, q4, q5, q6, q2, g5, g2, q8])
        refine cf_open rfl rfl (l1Once_o hB hl hc4 fun cT hT hcT hfT => ?_)
        have t2 := (hfT 2 (by omega)).trans g2
        have t5 := (hfT 5 (by omega)).trans g5
        have tp := gp.keep (hfT 47 (by omega)) (hfT 58 (by omega))
        have tD := gD.keep (hfT rk (by omega))
        clear hfT g2 g5 gp gD hc4
        cases cT with
        | true =>
          repeat' (first | (apply br_intro <;> intro hb <;> (have hb2 := hb) <;> (try simp [-Int.not_le, -Int.not_lt, -Nat.not_le, -Nat.not_lt, -Nat.add_left_cancel_iff] at hb2)) | (refine draw_listA (by rfl) (by kernel_rfl) ?_) | (refine draw_listB (by simp [allocsOf, isAlloc]; rfl) (by kernel_rfl) ?_) | simp (maxSteps := 2000000) (disch := first | omega | assumption | simp [*]) [*, -Int.not_le, -Int.not_lt, -Nat.not_le, -Nat.not_lt, -Nat.add_left_cancel_iff, wrap_i64, wrap_u64, q4, q5, q6, q2, t5, t2, q8, isP_len hP])
          refine cf_open rfl rfl (l1Below_o hB hl hcT fun xT hU hxT _ _ hcU hfU => ?_)
          have u2 := (hfU 2 (by omega)).trans t2
          have u5 := (hfU 5 (by omega)).trans t5
          have up := tp.keep (hfU 47 (by omega)) (hfU 58 (by omega))
          have uD := tD.keep (hfU rk (by omega))
          clear hfU t2 t5 tp tD hcT
          repeat' (first | (apply br_intro <;> intro hb <;> (have hb2 := hb) <;> (try simp [-Int.not_le, -Int.not_lt, -Nat.not_le, -Nat.not_lt, -Nat.add_left_cancel_iff] at hb2)) | (refine draw_listA (by rfl) (by kernel_rfl) ?_) | (refine draw_listB (by simp [allocsOf, isAlloc]; rfl) (by kernel_rfl) ?_) | simp (maxSteps := 2000000) (disch := first | omega | assumption | simp [*]) [*, -Int.not_le, -Int.not_lt, -Nat.not_le, -Nat.not_lt, -Nat.add_left_cancel_iff, wrap_i64, wrap_u64, q4, q5, q6, q2, u5, u2, q8])
          refine wa_path up rfl rfl rfl (.inr rfl) (by omega) ?_
          intro vV hV hpV hkV
          have oV := hpV.one.1
          have cV := hpV.one.2
          have v2 := (hkV 2 (by omega) (by omega)).trans u2
          have v5 := (hkV 5 (by omega) (by omega)).trans u5
          have vD := uD.keep (hkV rk (by omega) (by omega))
          have hend : ∀ h', (∀ y, y ≠ 2 → h' y = hV y) → DrC (.tup [.agg [.int .i64 N, expo h' v], expo h' vV]) QPath := fun h' e => by
            obtain ⟨u, e1, e2, e3⟩ := (hpV.keep (h' := h') (e _ (by omega)) (e _ (by omega))).res (by simp; omega)
            exact drc_mk (ys := [u]) (vD.keep (e _ (by omega))) (by simp [noExs, e1]) ⟨u, rfl, e2, e3⟩
          clear hkV u2 u5 up uD hpV vD hcU
          repeat' (first | (apply br_intro <;> intro hb <;> (have hb2 := hb) <;> (try simp [-Int.not_le, -Int.not_lt, -Nat.not_le, -Nat.not_lt, -Nat.add_left_cancel_iff] at hb2)) | (refine draw_listA (by rfl) (by kernel_rfl) ?_) | (refine draw_listB (by simp [allocsOf, isAlloc]; rfl) (by kernel_rfl) ?_) | simp (maxSteps := 2000000) (disch := first | omega | assumption | simp [*]) [*, -Int.not_le, -Int.not_lt, -Nat.not_le, -Nat.not_lt, -Nat.add_left_cancel_iff, wrap_i64, wrap_u64, q4, q5, q6, q2, v5, v2, q8])
          exact hend _ fun y hy => hset_other _ _ hy
        | false =>
          have hend : ∀ h', (∀ y, y ≠ 2 → h' y = hT y) → DrC (.tup [.agg [.int .i64 N, expo h' v], expo h' u3]) QPath := fun h' e => by
            obtain ⟨u, e1, e2, e3⟩ := (tp.keep (h' := h') (e _ (by omega)) (e _ (by omega))).res (by omega)
            exact drc_mk (ys := [u]) (tD.keep (e _ (by omega))) (by simp [noExs, e1]) ⟨u, rfl, e2, e3⟩
          clear tp tD hcT
          repeat' (first | (apply br_intro <;> intro hb <;> (have hb2 := hb) <;> (try simp [-Int.not_le, -Int.not_lt, -Nat.not_le, -Nat.not_lt, -Nat.add_left_cancel_iff] at hb2)) | (refine draw_listA (by rfl) (by kernel_rfl) ?_) | (refine draw_listB (by simp [allocsOf, isAlloc]; rfl) (by kernel_rfl) ?_) | simp (maxSteps := 2000000) (disch := first | omega | assumption | simp [*]) [*, -Int.not_le, -Int.not_lt, -Nat.not_le, -Nat.not_lt, -Nat.add_left_cancel_iff, wrap_i64, wrap_u64, q4, q5, q6, q2, t5, t2, q8])
          exact hend _ fun y hy => hset_other _ _ hy
      | false =>
        repeat' (first | (apply br_intro <;> intro hb <;> (have hb2 := hb) <;> (try simp [-Int.not_le, -Int.not_lt, -Nat.not_le, -Nat.not_lt, -Nat.add_left_cancel_iff] at hb2)) | (refine draw_listA (by rfl) (by kernel_rfl) ?_) | (refine draw_listB (by simp [allocsOf, isAlloc]; rfl) (by kernel_rfl) ?_) | simp (maxSteps := 2000000) (disch := first | omega | assumption | simp [*]) [*, -Int.not_le, -Int.not_lt, -Nat.not_le, -Nat.not_lt, -Nat.add_left_cancel_iff, wrap_i64, wrap_u64, q7, q9, q4, q5, q6, q2, g5, g2, q8, isI_len hIn, isP_low hP])
        refine cf_open rfl rfl (l1Below_o hB hl hc4 fun x5 h5 hx5 _ hy5 hc5 hf5 => ?_)
        have hz5 := hy5 (by omega)
        obtain ⟨j, rfl⟩ : ∃ j : Nat, x5 = j := ⟨x5.toNat, by omega⟩
        have hj : j < nb.length := by omega
        obtain ⟨m, hm, hml⟩ := hnl j hj
        have i2 := (hf5 2 (by omega)).trans g2
        have i5 := (hf5 5 (by omega)).trans g5
        have ip := gp.keep (hf5 47 (by omega)) (hf5 58 (by omega))
        have iD := gD.keep (hf5 rk (by omega))
        clear hf5 g2 g5 gp gD hc4 hy5 hnl
        repeat' (first | (apply br_intro <;> intro hb <;> (have hb2 := hb) <;> (try simp [-Int.not_le, -Int.not_lt, -Nat.not_le, -Nat.not_lt, -Nat.add_left_cancel_iff] at hb2)) | (refine draw_listA (by rfl) (by kernel_rfl) ?_) | (refine draw_listB (by simp [allocsOf, isAlloc]; rfl) (by kernel_rfl) ?_) | simp (maxSteps := 2000000) (disch := first | omega | assumption | simp [*]) [*, -Int.not_le, -Int.not_lt, -Nat.not_le, -Nat.not_lt, -Nat.add_left_cancel_iff, wrap_i64, wrap_u64, q7, q9, q4, q5, q6, q2, i5, i2, q8, isI_len hIn, isI_index hIn, isI_load hIn])
        refine wa_path ip rfl rfl rfl (.inl rfl) (by omega) ?_
        intro v6 h6 hp6 hk6
        have o6 := hp6.one.1
        have c6 := hp6.one.2
        have hst : PaSt h6 N rk len (i + 1) b v (.int .i64 m) v6 := ⟨m, v6, _, rfl, hml, rfl, hp6, by simp; omega, (hk6 2 (by omega) (by omega)).trans i2, (hk6 5 (by omega) (by omega)).trans i5, iD.keep (hk6 rk (by omega) (by omega)), hc5.keep (hk6 12 (by omega) (by omega))⟩
        clear hk6 i2 i5 ip iD hp6 hc5
        repeat' (first | (apply br_intro <;> intro hb <;> (have hb2 := hb) <;> (try simp [-Int.not_le, -Int.not_lt, -Nat.not_le, -Nat.not_lt, -Nat.add_left_cancel_iff] at hb2)) | (refine draw_listA (by rfl) (by kernel_rfl) ?_) | (refine draw_listB (by simp [allocsOf, isAlloc]; rfl) (by kernel_rfl) ?_) | simp (maxSteps := 2000000) (disch := first | omega | assumption | simp [*]) [*, -Int.not_le, -Int.not_lt, -Nat.not_le, -Nat.not_lt, -Nat.add_left_cancel_iff, wrap_i64, wrap_u64, q7, q9, q4, q5, q6, q2, q8])
  · have hi3i : ¬ (i : Int) < 3 := by omega
    clear hco hnb
    repeat' (first | (apply br_intro <;> intro hb <;> (have hb2 := hb) <;> (try simp [-Int.not_le, -Int.not_lt, -Nat.not_le, -Nat.not_lt, -Nat.add_left_cancel_iff] at hb2)) | (refine draw_listA (by rfl) (by kernel_rfl) ?_) | (refine draw_listB (by simp [allocsOf, isAlloc]; rfl) (by kernel_rfl) ?_) | simp (maxSteps := 2000000) (disch := first | omega | assumption | simp [*]) [*, -Int.not_le, -Int.not_lt, -Nat.not_le, -Nat.not_lt, -Nat.add_left_cancel_iff, wrap_i64, wrap_u64, q7, q9, q4, q5, q6, q2, e5, e2, q8])
    refine cf_open rfl rfl (l1Once_o hB hl hc3 fun cT hT hcT hfT => ?_)
    have t2 := (hfT 2 (by omega)).trans e2
    have t5 := (hfT 5 (by omega)).trans e5
    have tp := hp3.keep (hfT 47 (by omega)) (hfT 58 (by omega))
    have tD := hD3.keep (hfT rk (by omega))
    clear hfT e2 e5 hp3 hD3 hc3
    cases cT with
    | true =>
      repeat' (first | (apply br_intro <;> intro hb <;> (have hb2 := hb) <;> (try simp [-Int.not_le, -Int.not_lt, -Nat.not_le, -Nat.not_lt, -Nat.add_left_cancel_iff] at hb2)) | (refine draw_listA (by rfl) (by kernel_rfl) ?_) | (refine draw_listB (by simp [allocsOf, isAlloc]; rfl) (by kernel_rfl) ?_) | simp (maxSteps := 2000000) (disch := first | omega | assumption | simp [*]) [*, -Int.not_le, -Int.not_lt, -Nat.not_le, -Nat.not_lt, -Nat.add_left_cancel_iff, wrap_i64, wrap_u64, q4, q5, q6, q2, t5, t2, q8, isP_len hP])
      refine cf_open rfl rfl (l1Below_o hB hl hcT fun xT hU hxT _ _ hcU hfU => ?_)
      have u2 := (hfU 2 (by omega)).trans t2
      have u5 := (hfU 5 (by omega)).trans t5
      have up := tp.keep (hfU 47 (by omega)) (hfU 58 (by omega))
      have uD := tD.keep (hfU rk (by omega))
      clear hfU t2 t5 tp tD hcT
      repeat' (first | (apply br_intro <;> intro hb <;> (have hb2 := hb) <;> (try simp [-Int.not_le, -Int.not_lt, -Nat.not_le, -Nat.not_lt, -Nat.add_left_cancel_iff] at hb2)) | (refine draw_listA (by rfl) (by kernel_rfl) ?_) | (refine draw_listB (by simp [allocsOf, isAlloc]; rfl) (by kernel_rfl) ?_) | simp (maxSteps := 2000000) (disch := first | omega | assumption | simp [*]) [*, -Int.not_le, -Int.not_lt, -Nat.not_le, -Nat.not_lt, -Nat.add_left_cancel_iff, wrap_i64, wrap_u64, q4, q5, q6, q2, u5, u2, q8])
      refine wa_path up rfl rfl rfl (.inr rfl) (by omega) ?_
      intro vV hV hpV hkV
      have oV := hpV.one.1
      have cV := hpV.one.2
      have v2 := (hkV 2 (by omega) (by omega)).trans u2
      have v5 := (hkV 5 (by omega) (by omega)).trans u5
      have vD := uD.keep (hkV rk (by omega) (by omega))
      have hend : ∀ h', (∀ y, y ≠ 2 → h' y = hV y) → DrC (.tup [.agg [.int .i64 N, expo h' v], expo h' vV]) QPath := fun h' e => by
        obtain ⟨u, e1, e2, e3⟩ := (hpV.keep (h' := h') (e _ (by omega)) (e _ (by omega))).res (by simp; omega)
        exact drc_mk (ys := [u]) (vD.keep (e _ (by omega))) (by simp [noExs, e1]) ⟨u, rfl, e2, e3⟩
      clear hkV u2 u5 up uD hpV vD hcU
      repeat' (first | (apply br_intro <;> intro hb <;> (have hb2 := hb) <;> (try simp [-Int.not_le, -Int.not_lt, -Nat.not_le, -Nat.not_lt, -Nat.add_left_cancel_iff] at hb2)) | (refine draw_listA (by rfl) (by kernel_rfl) ?_) | (refine draw_listB (by simp [allocsOf, isAlloc]; rfl) (by kernel_rfl) ?_) | simp (maxSteps := 2000000) (disch := first | omega | assumption | simp [*]) [*, -Int.not_le, -Int.not_lt, -Nat.not_le, -Nat.not_lt, -Nat.add_left_cancel_iff, wrap_i64, wrap_u64, q4, q5, q6, q2, v5, v2, q8])
      exact hend _ fun y hy => hset_other _ _ hy
    | false =>
      have hend : ∀ h', (∀ y, y ≠ 2 → h' y = hT y) → DrC (.tup [.agg [.int .i64 N, expo h' v], expo h' u3]) QPath := fun h' e => by
        obtain ⟨u, e1, e2, e3⟩ := (tp.keep (h' := h') (e _ (by omega)) (e _ (by omega))).res (by omega)
        exact drc_mk (ys := [u]) (tD.keep (e _ (by omega))) (by simp [noExs, e1]) ⟨u, rfl, e2, e3⟩
      clear tp tD hcT
      repeat' (first | (apply br_intro <;> intro hb <;> (have hb2 := hb) <;> (try simp [-Int.not_le, -Int.not_lt, -Nat.not_le, -Nat.not_lt, -Nat.add_left_cancel_iff] at hb2)) | (refine draw_listA (by rfl) (by kernel_rfl) ?_) | (refine draw_listB (by simp [allocsOf, isAlloc]; rfl) (by kernel_rfl) ?_) | simp (maxSteps := 2000000) (disch := first | omega | assumption | simp [*]) [*, -Int.not_le, -Int.not_lt, -Nat.not_le, -Nat.not_lt, -Nat.add_left_cancel_iff, wrap_i64, wrap_u64, q4, q5, q6, q2, t5, t2, q8])
      exact hend _ fun y hy => hset_other _ _ hy
end Go.Proofs.YtkkkgaapkibhkaaGreatDoor
