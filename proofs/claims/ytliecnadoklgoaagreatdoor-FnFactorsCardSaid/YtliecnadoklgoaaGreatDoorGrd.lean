/- Greedy factors: both sides. Conditions: none. -/
import Derived.Test.YtliecnadoklgoaaGreatDoorGrdP
import Derived.Test.YtliecnadoklgoaaGreatDoorStrong
namespace Go.Proofs.YtliecnadoklgoaaGreatDoor
open Ev
set_option linter.unusedVariables false
set_option linter.unusedSimpArgs false
set_option maxHeartbeats 4000000

theorem S_64 {n : Int} {xs : List Int} {k : Nat} (h : k < (conL n xs).length) : 0 ≤ nth (snds (conW n xs)) k ∧ nth (snds (conW n xs)) k < 64 := by
  obtain ⟨hc, h1, _⟩ := closed_get h
  rw [nthS h]
  have : (2 : Nat) ^ n.toNat ≤ 2 ^ 6 := Nat.pow_le_pow_right (by decide) (by have := hc.2.1; omega)
  omega
theorem F_rows {n : Int} {xs : List Int} {k : Nat} (h : k < (conL n xs).length) : PSet xs.length (nth (fsts (conW n xs)) k) = true := by
  rw [nthF h]; exact ext_pset _ _ (closed_get h).1.2.2.1
theorem rows_64 {n : Int} {xs : List Int} (hc : PCtx n xs) : In64 (fun g => nth xs g) := fun g => by
  by_cases hg : g < xs.length
  · have h := hc.2.2.2 g hg
    obtain ⟨h1, h2, h3, h4⟩ := pset_iff.mp h
    have : (2 : Int) ^ n.toNat ≤ 2 ^ 6 := two_pow_le (by have := hc.2.1; omega)
    show 0 ≤ nth xs g ∧ nth xs g < 64
    omega
  · show 0 ≤ nth xs g ∧ nth xs g < 64
    unfold nth
    simp [hg]
theorem l20Gain_c {v : AV} {e s : Int} {f : Nat → Int} {G : Nat} (hv : IsI v) (hx : xsOf v = tab f G) (hf : In64 f) (hG : G ≤ 8) (hs : 0 ≤ s ∧ s < 64) : EvC env 177 [v, .agg [.int .i64 e, .int .i64 s]] (.int .i64 (gTo f e s G)) := by
  refine evC_of (F := Tryz.f177) rfl rfl (Nat.le_of_ble_eq_true rfl) ?_
  have hl : (xsOf v).length = G := by rw [hx]; simp
  have hn : ∀ i, i < G → nth (xsOf v) i = f i := fun i hi => by rw [hx, tab_nth _ hi]
  clear hx
  repeat' (first | (apply brI <;> intro hb hb2 <;> (try simp [-Int.not_le, -Int.not_lt, -Nat.not_le, -Nat.not_lt, -Nat.add_left_cancel_iff] at hb2)) | (refine draw_listA (by rfl) (by kernel_rfl) ?_) | (refine draw_listB (by simp [allocsOf, isAlloc]; rfl) (by kernel_rfl) ?_) | simp (maxSteps := 2000000) (disch := first | omega | assumption | simp [*]) [*, -Int.not_le, -Int.not_lt, -Nat.not_le, -Nat.not_lt, -Nat.add_left_cancel_iff, wrap_i64, wrap_u64, Tryz.f177, isI_len hv, isI_low hv])
  refine W_loopG G (fun i st h => st 6 = .int .i64 i ∧ st 5 = .int .i64 (gTo f e s i) ∧ st 0 = v ∧ st 3 = .vp 3 0 0 ∧ h 3 = some (.var 0 101 (.agg [.int .i64 e, .int .i64 s]))) ?_ ?_
  · simp [gTo]
  rintro i st h hi ⟨h6, h5, h0, h3, e3⟩
  by_cases hi2 : i < G
  · have hni := hn i hi2
    have hfi := hf i
    have hr := gTo_range f e s i
    have hiv : i < (xsOf v).length := by omega
    have hsu : gTo f e s (i + 1) = gTo f e s i + if PHas e i = true then cntI (andI (f i) s) else 0 := rfl
    cases hp : PHas e i with
    | true =>
      rw [hp] at hsu
      simp only [if_true] at hsu
      have hcu : cntI (andI (f i) s) = ((elemsTo (((f i).toNat &&& s.toNat : Nat) : Int) 8).length : Int) := rfl
      rw [hcu] at hsu
      have hc8 := elemsTo_len (((f i).toNat &&& s.toNat : Nat) : Int) 8
      clear hf hn hcu
      repeat' (first | (apply brI <;> intro hb hb2 <;> (try simp [-Int.not_le, -Int.not_lt, -Nat.not_le, -Nat.not_lt, -Nat.add_left_cancel_iff] at hb2)) | (refine draw_listA (by rfl) (by kernel_rfl) ?_) | (refine draw_listB (by simp [allocsOf, isAlloc]; rfl) (by kernel_rfl) ?_) | simp (maxSteps := 2000000) (disch := first | omega | assumption | simp [*]) [*, -Int.not_le, -Int.not_lt, -Nat.not_le, -Nat.not_lt, -Nat.add_left_cancel_iff, wrap_i64, wrap_u64, h6, h5, h0, h3, e3, isI_len hv, isI_index hv, isI_load hv, bits_and])
    | false =>
      rw [hp] at hsu
      simp only [Bool.false_eq_true, if_false, Int.add_zero] at hsu
      clear hf hn
      repeat' (first | (apply brI <;> intro hb hb2 <;> (try simp [-Int.not_le, -Int.not_lt, -Nat.not_le, -Nat.not_lt, -Nat.add_left_cancel_iff] at hb2)) | (refine draw_listA (by rfl) (by kernel_rfl) ?_) | (refine draw_listB (by simp [allocsOf, isAlloc]; rfl) (by kernel_rfl) ?_) | simp (maxSteps := 2000000) (disch := first | omega | assumption | simp [*]) [*, -Int.not_le, -Int.not_lt, -Nat.not_le, -Nat.not_lt, -Nat.add_left_cancel_iff, wrap_i64, wrap_u64, h6, h5, h0, h3, e3, isI_len hv, isI_index hv, isI_load hv, bits_and])
  · obtain rfl : i = G := by omega
    clear hf hn
    repeat' (first | (apply brI <;> intro hb hb2 <;> (try simp [-Int.not_le, -Int.not_lt, -Nat.not_le, -Nat.not_lt, -Nat.add_left_cancel_iff] at hb2)) | (refine draw_listA (by rfl) (by kernel_rfl) ?_) | (refine draw_listB (by simp [allocsOf, isAlloc]; rfl) (by kernel_rfl) ?_) | simp (maxSteps := 2000000) (disch := first | omega | assumption | simp [*]) [*, -Int.not_le, -Int.not_lt, -Nat.not_le, -Nat.not_lt, -Nat.add_left_cancel_iff, wrap_i64, wrap_u64, h6, h5, h0, h3, e3, isI_len hv])
theorem l20Gain_s {v : AV} {e s : Int} {f : Nat → Int} {G : Nat} (hv : IsI v) (hx : xsOf v = tab f G) (hf : In64 f) (hG : G ≤ 8) (hs : 0 ≤ s ∧ s < 64) {K : AV → Prop} {tg : Tg K} : CW env 177 [v, .agg [.int .i64 e, .int .i64 s]] K tg ↔ K (.int .i64 (gTo f e s G)) := callsTo_iff (l20Gain_c hv hx hf hG hs)
attribute [simp] l20Gain_s
def GSt (F S : List Int) (G len : Nat) (f0 : Nat → Int) (TC TI kr kb i : Nat) (s3 s5 : AV) (h : Heap) : Prop := ∃ es f, GInv F S G len f0 i es f ∧ BufL h TC kb 2 2 s3 es ∧ Row h kr TI 1 1 s5 (ints (tab f G))
theorem sGreedyFactors_c {n : Int} {v : AV} (hv : IsI v) (hbig : (xsOf v).length ≤ 1048576) : EvC env 81 [.agg [.int .i64 n, v]] (bufLR 101 53 2 2 (grdL n (xsOf v))) := by
  refine evC_of (F := Tryz.f81) rfl rfl (Nat.le_of_ble_eq_true rfl) ?_
  have hP := conW_P n (xsOf v)
  have hw := sCon_noEx n (xsOf v) 101
  have hfl := conW_len n (xsOf v)
  have hL := conL_len n (xsOf v)
  have hvl := hv.len
  by_cases hc : PCtx n (xsOf v)
  · have hV : grdL n (xsOf v) = (grun (fsts (conW n (xsOf v))) (snds (conW n (xsOf v))) (xsOf v).length (conL n (xsOf v)).length (fun g => nth (xsOf v) g) 64).1 := if_pos hc
    rw [hV]
    have hG : (xsOf v).length ≤ 8 := hc.2.2.1
    have h64 := rows_64 hc
    have hpos : 0 < (conL n (xsOf v)).length := by
      obtain ⟨N, rfl⟩ : ∃ N : Nat, n = N := ⟨n.toNat, by have := hc.1; omega⟩
      exact con_pos hc
    have hS := fun (k : Nat) (hk : k < (conL n (xsOf v)).length) => S_64 hk
    have hxt : ∃ _ : Unit, xsOf v = tab (fun g => nth (xsOf v) g) (xsOf v).length := ⟨(), tab_eq rfl fun j hj => rfl⟩
    generalize conW n (xsOf v) = w at *
    obtain ⟨len, hlen⟩ : ∃ len, (conL n (xsOf v)).length = len := ⟨_, rfl⟩
    rw [hlen] at hfl hL hpos hS ⊢
    obtain ⟨G, hGe⟩ : ∃ G, (xsOf v).length = G := ⟨_, rfl⟩
    rw [hGe] at hG hxt ⊢
    obtain ⟨f0, hf0⟩ : ∃ f0, f0 = fun g => nth (xsOf v) g := ⟨_, rfl⟩
    rw [← hf0] at h64 hxt ⊢
    have hl2 : (xsOf v).length ≤ 1073741824 := by omega
    have hend : ∀ i es f, GInv (fsts w) (snds w) G len f0 i es f → i ≤ 64 → gn (fsts w) (snds w) G f (bst (fsts w) (snds w) G f len) = 0 → (grun (fsts w) (snds w) G len f0 64).1 = es := fun i es f h hi hg => ginv_end h hi hg
    have hgz := ginv_zero (F := fsts w) (S := snds w) (len := len) h64 hG
    obtain ⟨R, hR⟩ : ∃ R, (grun (fsts w) (snds w) G len f0 64).1 = R := ⟨_, rfl⟩
    simp only [hR] at hend ⊢
    clear hV hf0 hc hlen hR h64
    repeat' (first | (apply brI <;> intro hb hb2 <;> (try simp [-Int.not_le, -Int.not_lt, -Nat.not_le, -Nat.not_lt, -Nat.add_left_cancel_iff] at hb2)) | (refine draw_listA (by rfl) (by kernel_rfl) ?_) | (refine draw_listB (by simp [allocsOf, isAlloc]; rfl) (by kernel_rfl) ?_) | simp (maxSteps := 2000000) (disch := first | omega | assumption | simp [*]) [*, -Int.not_le, -Int.not_lt, -Nat.not_le, -Nat.not_lt, -Nat.add_left_cancel_iff, wrap_i64, wrap_u64, Tryz.f81, isI_cells hv, isI_one hv, isI_low hv, isI_noKey hv])
    refine wr_ints hv rfl rfl hl2 ?_
    intro v5 h5 hR5 hk5
    have e51 : h5 1 = some (.var 0 26 (.agg [.int .i64 n, v])) := by rw [hk5 1 (by omega)]; simp [hset]
    have o5 := hR5.one
    have c5 := hR5.cells
    obtain ⟨_, hxt⟩ := hxt
    rw [hxt] at hR5
    clear hxt
    clear hk5
    repeat' (first | (apply brI <;> intro hb hb2 <;> (try simp [-Int.not_le, -Int.not_lt, -Nat.not_le, -Nat.not_lt, -Nat.add_left_cancel_iff] at hb2)) | (refine draw_listA (by rfl) (by kernel_rfl) ?_) | (refine draw_listB (by simp [allocsOf, isAlloc]; rfl) (by kernel_rfl) ?_) | simp (maxSteps := 2000000) (disch := first | omega | assumption | simp [*]) [*, -Int.not_le, -Int.not_lt, -Nat.not_le, -Nat.not_lt, -Nat.add_left_cancel_iff, wrap_i64, wrap_u64, isI_cells hv])
    refine W_loopG 64 (fun i s h => GSt (fsts w) (snds w) G len f0 101 3 15 53 i (s 3) (s 5) h ∧ s 4 = w ∧ s 1 = .vp 1 0 0 ∧ h 1 = some (.var 0 26 (.agg [.int .i64 n, v]))) ?_ ?_
    · simp [*]
      exact ⟨_, _, hgz, bufL_nil .., hR5⟩
    clear hR5 hgz e51 o5 c5
    rintro i s h hi ⟨⟨es, f, hg, hB, hRw⟩, h4, h1, e1⟩
    obtain ⟨v5, h5'⟩ : ∃ v5, s 5 = v5 := ⟨_, rfl⟩
    rw [h5'] at hRw
    obtain ⟨v3, h3'⟩ : ∃ v3, s 3 = v3 := ⟨_, rfl⟩
    rw [h3'] at hB
    have o5 := hRw.one
    have c5 := hRw.cells
    have l5 : ∀ h', h' 15 = h 15 → low h' v5 = rowB 1 1 (ints (tab f G)) := fun h' e => (hRw.keep e).lowI
    have hI5 : IsI (rowB 1 1 (ints (tab f G))) := isI_rowB (by simp; unfold top63; omega)
    have hgain : ∀ (k : Nat) (K : AV → Prop) (tg : Tg K), k < len → (CW env 177 [rowB 1 1 (ints (tab f G)), .agg [.int .i64 (nth (fsts w) k), .int .i64 (nth (snds w) k)]] K tg ↔ K (.int .i64 (gn (fsts w) (snds w) G f k))) := fun k K tg hk => callsTo_iff (l20Gain_c hI5 (by simp) hg.2.1 hG (hS k hk))
    have hbl : ∀ k, 0 < k → k ≤ len → bst (fsts w) (snds w) G f k < len := fun k h1 h2 => by have := bst_lt (fsts w) (snds w) G f h1; omega
    have hb1 := bst_one (fsts w) (snds w) G f
    have hlw : ∀ h', h' 15 = h 15 → low h' v5 = rowB 1 1 (ints (tab f G)) := l5
    repeat' (first | (apply brI <;> intro hb hb2 <;> (try simp [-Int.not_le, -Int.not_lt, -Nat.not_le, -Nat.not_lt, -Nat.add_left_cancel_iff] at hb2)) | (refine draw_listA (by rfl) (by kernel_rfl) ?_) | (refine draw_listB (by simp [allocsOf, isAlloc]; rfl) (by kernel_rfl) ?_) | simp (maxSteps := 2000000) (disch := first | omega | assumption | simp [*]) [*, -Int.not_le, -Int.not_lt, -Nat.not_le, -Nat.not_lt, -Nat.add_left_cancel_iff, wrap_i64, wrap_u64, h4, h1, e1, h3', h5', isP_len hP, isP_low hP])
    refine W_loopP (len - 1) (fun j s => s 7 = .int .i64 ((j : Int) + 1) ∧ s 6 = .int .i64 (bst (fsts w) (snds w) G f (j + 1) : Nat) ∧ s 3 = v3 ∧ s 5 = v5 ∧ s 4 = w ∧ s 1 = .vp 1 0 0) rfl ?_ ?_
    · simp [*]
    rintro j s2 hj ⟨k7, k6, k3, k5, k4, k1⟩
    have hbj := hbl (j + 1) (by omega) (by omega)
    by_cases hj2 : j < len - 1
    · have hsu : bst (fsts w) (snds w) G f (j + 1 + 1) = if gn (fsts w) (snds w) G f (bst (fsts w) (snds w) G f (j + 1)) < gn (fsts w) (snds w) G f (j + 1) then j + 1 else bst (fsts w) (snds w) G f (j + 1) := rfl
      have hj3 : j + 1 < len := by omega
      have hj4 : (j : Int) + 1 < len := by omega
      generalize bst (fsts w) (snds w) G f (j + 1) = b at *
      by_cases hlt : gn (fsts w) (snds w) G f b < gn (fsts w) (snds w) G f (j + 1)
      · rw [if_pos hlt] at hsu
        clear hend hS hbl
        repeat' (first | (apply brI <;> intro hb hb2 <;> (try simp [-Int.not_le, -Int.not_lt, -Nat.not_le, -Nat.not_lt, -Nat.add_left_cancel_iff] at hb2)) | (refine draw_listA (by rfl) (by kernel_rfl) ?_) | (refine draw_listB (by simp [allocsOf, isAlloc]; rfl) (by kernel_rfl) ?_) | simp (maxSteps := 2000000) (disch := first | omega | assumption | simp [*]) [*, -Int.not_le, -Int.not_lt, -Nat.not_le, -Nat.not_lt, -Nat.add_left_cancel_iff, wrap_i64, wrap_u64, k7, k6, k3, k5, k4, k1, isP_len hP, isP_index hP, isP_low hP, isP_noKey hP])
      · rw [if_neg hlt] at hsu
        clear hend hS hbl
        repeat' (first | (apply brI <;> intro hb hb2 <;> (try simp [-Int.not_le, -Int.not_lt, -Nat.not_le, -Nat.not_lt, -Nat.add_left_cancel_iff] at hb2)) | (refine draw_listA (by rfl) (by kernel_rfl) ?_) | (refine draw_listB (by simp [allocsOf, isAlloc]; rfl) (by kernel_rfl) ?_) | simp (maxSteps := 2000000) (disch := first | omega | assumption | simp [*]) [*, -Int.not_le, -Int.not_lt, -Nat.not_le, -Nat.not_lt, -Nat.add_left_cancel_iff, wrap_i64, wrap_u64, k7, k6, k3, k5, k4, k1, isP_len hP, isP_index hP, isP_low hP, isP_noKey hP])
    · obtain rfl : j = len - 1 := by omega
      have hjl : len - 1 + 1 = len := by omega
      have hji : ((len - 1 : Nat) : Int) + 1 = len := by omega
      rw [hjl] at k6 hbj
      rw [hji] at k7
      have hendi := hend i es f hg hi
      have hnext := fun hne => ginv_next hg (hS _ hbj) hne
      generalize bst (fsts w) (snds w) G f len = b at *
      have hSb := hS b hbj
      by_cases hz : gn (fsts w) (snds w) G f b = 0
      · have hres := hendi hz
        have hE := hB.expo
        rw [← hres] at hE
        clear hend hS hbl hendi hnext
        repeat' (first | (apply brI <;> intro hb hb2 <;> (try simp [-Int.not_le, -Int.not_lt, -Nat.not_le, -Nat.not_lt, -Nat.add_left_cancel_iff] at hb2)) | (refine draw_listA (by rfl) (by kernel_rfl) ?_) | (refine draw_listB (by simp [allocsOf, isAlloc]; rfl) (by kernel_rfl) ?_) | simp (maxSteps := 2000000) (disch := first | omega | assumption | simp [*]) [*, -Int.not_le, -Int.not_lt, -Nat.not_le, -Nat.not_lt, -Nat.add_left_cancel_iff, wrap_i64, wrap_u64, k7, k6, k3, k5, k4, k1, isP_len hP, isP_index hP, isP_low hP, isP_noKey hP])
      · obtain ⟨hi64, hgi⟩ := hnext hz
        have hlen2 : es.length < 1073741824 := by
          have := grun_len (fsts w) (snds w) G len f0 i
          rw [hg.1] at this
          simp only at this
          omega
        clear hend hbl hendi hnext
        repeat' (first | (apply brI <;> intro hb hb2 <;> (try simp [-Int.not_le, -Int.not_lt, -Nat.not_le, -Nat.not_lt, -Nat.add_left_cancel_iff] at hb2)) | (refine draw_listA (by rfl) (by kernel_rfl) ?_) | (refine draw_listB (by simp [allocsOf, isAlloc]; rfl) (by kernel_rfl) ?_) | simp (maxSteps := 2000000) (disch := first | omega | assumption | simp [*]) [*, -Int.not_le, -Int.not_lt, -Nat.not_le, -Nat.not_lt, -Nat.add_left_cancel_iff, wrap_i64, wrap_u64, k7, k6, k3, k5, k4, k1, isP_len hP, isP_index hP, isP_low hP, isP_noKey hP])
        refine wa_pushL (hB.keep (by first | rfl | simp [hset])) (by simp) (by simp) (by simp) ⟨rfl, rfl⟩ (fun _ => rfl) hlen2 ?_
        intro v32 h32 hB3 hk3
        have e31 := (hk3 1 (by omega)).trans e1
        have hR3 := hRw.keep (hk3 15 (by omega))
        clear hk3
        repeat' (first | (apply brI <;> intro hb hb2 <;> (try simp [-Int.not_le, -Int.not_lt, -Nat.not_le, -Nat.not_lt, -Nat.add_left_cancel_iff] at hb2)) | (refine draw_listA (by rfl) (by kernel_rfl) ?_) | (refine draw_listB (by simp [allocsOf, isAlloc]; rfl) (by kernel_rfl) ?_) | simp (maxSteps := 2000000) (disch := first | omega | assumption | simp [*]) [*, -Int.not_le, -Int.not_lt, -Nat.not_le, -Nat.not_lt, -Nat.add_left_cancel_iff, wrap_i64, wrap_u64, k7, k6, k3, k5, k4, k1])
        refine W_loopG G (fun g s h' => s 8 = .int .i64 g ∧ s 6 = .int .i64 b ∧ s 3 = v32 ∧ s 5 = v5 ∧ s 4 = w ∧ s 1 = .vp 1 0 0 ∧ h' 1 = some (.var 0 26 (.agg [.int .i64 n, v])) ∧ BufL h' 101 53 2 2 v32 (es ++ [.agg [.int .i64 (nth (fsts w) b), .int .i64 (nth (snds w) b)]]) ∧ Row h' 15 3 1 1 v5 (ints (tab (fun j => if j < g then nxtF (nth (fsts w) b) (nth (snds w) b) f j else f j) G))) ?_ ?_
        · simp [*]
          all_goals exact hB3
        rintro g s4 h4' hg4 ⟨q8, q6, q3, q5, q4, q1, f1, hB4, hR4⟩
        have hlen4 := fun E t ht => hR4.len (E := E) (t := t) ht
        simp only [ints_length, tab_length] at hlen4
        by_cases hg2 : g < G
        · rcases hR4 with ⟨e9, _⟩ | ⟨hx4, g4, hv4, hr4⟩
          · have h0 : G = 0 := by simpa using congrArg List.length e9
            omega
          have hfg := hg.2.1 g
          have hds := dif_sub2 hfg hSb
          have hdi : f g - (((f g).toNat &&& (nth (snds w) b).toNat : Nat) : Int) = diI (f g) (nth (snds w) b) := hds.1
          have hr31 := hds.2.1
          have hr32 := hds.2.2
          have hng : nth (tab (fun j => if j < g then nxtF (nth (fsts w) b) (nth (snds w) b) f j else f j) G) g = f g := by rw [tab_nth _ hg2]; simp
          have hkeep : ∀ h', h' 53 = h4' 53 → BufL h' 101 53 2 2 v32 (es ++ [.agg [.int .i64 (nth (fsts w) b), .int .i64 (nth (snds w) b)]]) := fun h' e => hB4.keep e
          simp only [ints_length, tab_length] at hv4
          subst hv4
          have hnx : nxtF (nth (fsts w) b) (nth (snds w) b) f g = if PHas (nth (fsts w) b) g = true then diI (f g) (nth (snds w) b) else f g := rfl
          have hrow : ∀ (h' : Heap) (z : Int), h' 15 = some (.row g4 3 1 (ints ((tab (fun j => if j < g then nxtF (nth (fsts w) b) (nth (snds w) b) f j else f j) G).set g z))) → z = nxtF (nth (fsts w) b) (nth (snds w) b) f g → Row h' 15 3 1 1 (.ms 15 g4 0 G) (ints (tab (fun j => if j < g + 1 then nxtF (nth (fsts w) b) (nth (snds w) b) f j else f j) G)) := fun h' z e1 e2 => by
            rw [tab_set _ _ hg2] at e1
            have e3 : tab (fun j => if j = g then z else if j < g then nxtF (nth (fsts w) b) (nth (snds w) b) f j else f j) G = tab (fun j => if j < g + 1 then nxtF (nth (fsts w) b) (nth (snds w) b) f j else f j) G := tab_congr fun j hj => by
              by_cases e : j = g
              · subst e; simp [e2]
              · by_cases e5 : j < g
                · simp [e, e5, show j < g + 1 by omega]
                · simp [e, e5, show ¬ j < g + 1 by omega]
            rw [e3] at e1
            exact .inr ⟨fun e9 => absurd (show G = 0 by simpa using congrArg List.length e9) (by omega), g4, by simp, e1⟩
          cases hp : PHas (nth (fsts w) b) g with
          | true =>
            rw [hp] at hnx
            simp only [if_true] at hnx
            have hrow2 := fun h' e => hrow h' (diI (f g) (nth (snds w) b)) e hnx.symm
            clear hrow hS hgi hnx hds l5 hlw
            repeat' (first | (apply brI <;> intro hb hb2 <;> (try simp [-Int.not_le, -Int.not_lt, -Nat.not_le, -Nat.not_lt, -Nat.add_left_cancel_iff] at hb2)) | (refine draw_listA (by rfl) (by kernel_rfl) ?_) | (refine draw_listB (by simp [allocsOf, isAlloc]; rfl) (by kernel_rfl) ?_) | simp (maxSteps := 2000000) (disch := first | omega | assumption | simp [*]) [*, -Int.not_le, -Int.not_lt, -Nat.not_le, -Nat.not_lt, -Nat.add_left_cancel_iff, wrap_i64, wrap_u64, q8, q6, q3, q5, q4, q1, f1, hr4, isP_len hP, isP_index hP, isP_low hP, isP_noKey hP, bits_and])
            all_goals first | exact ⟨hkeep _ (by simp [hset]), hrow2 _ (by simp [hset])⟩ | skip
          | false =>
            rw [hp] at hnx
            simp only [Bool.false_eq_true, if_false] at hnx
            have hself : (tab (fun j => if j < g then nxtF (nth (fsts w) b) (nth (snds w) b) f j else f j) G).set g (f g) = tab (fun j => if j < g then nxtF (nth (fsts w) b) (nth (snds w) b) f j else f j) G := by
              rw [tab_set _ _ hg2]
              refine tab_congr fun j hj => ?_
              by_cases e : j = g
              · subst e; simp
              · simp [e]
            have hrow2 := fun h' e => hrow h' (f g) (by rw [hself]; exact e) hnx.symm
            clear hrow hS hgi hnx hds l5 hlw hself
            repeat' (first | (apply brI <;> intro hb hb2 <;> (try simp [-Int.not_le, -Int.not_lt, -Nat.not_le, -Nat.not_lt, -Nat.add_left_cancel_iff] at hb2)) | (refine draw_listA (by rfl) (by kernel_rfl) ?_) | (refine draw_listB (by simp [allocsOf, isAlloc]; rfl) (by kernel_rfl) ?_) | simp (maxSteps := 2000000) (disch := first | omega | assumption | simp [*]) [*, -Int.not_le, -Int.not_lt, -Nat.not_le, -Nat.not_lt, -Nat.add_left_cancel_iff, wrap_i64, wrap_u64, q8, q6, q3, q5, q4, q1, f1, hr4, isP_len hP, isP_index hP, isP_low hP, isP_noKey hP, bits_and])
            all_goals first | exact ⟨hkeep _ (by first | rfl | simp [hset]), hrow2 _ (by first | assumption | simp [hset, hr4])⟩ | skip
        · obtain rfl : g = G := by omega
          have hR6 : tab (fun j => if j < g then nxtF (nth (fsts w) b) (nth (snds w) b) f j else f j) g = tab (nxtF (nth (fsts w) b) (nth (snds w) b) f) g := tab_congr fun j hj => by simp [hj]
          rw [hR6] at hR4
          have hst : GSt (fsts w) (snds w) g len f0 101 3 15 53 (i + 1) v32 v5 h4' := ⟨_, _, hgi, hB4, hR4⟩
          clear hS hgi hB4 hR4 hR6 l5 hlw
          repeat' (first | (apply brI <;> intro hb hb2 <;> (try simp [-Int.not_le, -Int.not_lt, -Nat.not_le, -Nat.not_lt, -Nat.add_left_cancel_iff] at hb2)) | (refine draw_listA (by rfl) (by kernel_rfl) ?_) | (refine draw_listB (by simp [allocsOf, isAlloc]; rfl) (by kernel_rfl) ?_) | simp (maxSteps := 2000000) (disch := first | omega | assumption | simp [*]) [*, -Int.not_le, -Int.not_lt, -Nat.not_le, -Nat.not_lt, -Nat.add_left_cancel_iff, wrap_i64, wrap_u64, q8, q6, q3, q5, q4, q1, f1, isP_len hP])
  · have hV : grdL n (xsOf v) = [] := if_neg hc
    rw [hV]
    have hl0 : (conL n (xsOf v)).length = 0 := by simp [conL, hc]
    rw [hl0] at hfl
    generalize conW n (xsOf v) = w at *
    have hl2 : (xsOf v).length ≤ 1073741824 := by omega
    clear hV hl0 hL hc
    repeat' (first | (apply brI <;> intro hb hb2 <;> (try simp [-Int.not_le, -Int.not_lt, -Nat.not_le, -Nat.not_lt, -Nat.add_left_cancel_iff] at hb2)) | (refine draw_listA (by rfl) (by kernel_rfl) ?_) | (refine draw_listB (by simp [allocsOf, isAlloc]; rfl) (by kernel_rfl) ?_) | simp (maxSteps := 2000000) (disch := first | omega | assumption | simp [*]) [*, -Int.not_le, -Int.not_lt, -Nat.not_le, -Nat.not_lt, -Nat.add_left_cancel_iff, wrap_i64, wrap_u64, Tryz.f81, isI_cells hv, isI_one hv, isI_low hv, isI_noKey hv])
    refine wr_ints hv rfl rfl hl2 ?_
    intro v5 h5 hR5 hk5
    have o5 := hR5.one
    have c5 := hR5.cells
    clear hk5
    repeat' (first | (apply brI <;> intro hb hb2 <;> (try simp [-Int.not_le, -Int.not_lt, -Nat.not_le, -Nat.not_lt, -Nat.add_left_cancel_iff] at hb2)) | (refine draw_listA (by rfl) (by kernel_rfl) ?_) | (refine draw_listB (by simp [allocsOf, isAlloc]; rfl) (by kernel_rfl) ?_) | simp (maxSteps := 2000000) (disch := first | omega | assumption | simp [*]) [*, -Int.not_le, -Int.not_lt, -Nat.not_le, -Nat.not_lt, -Nat.add_left_cancel_iff, wrap_i64, wrap_u64, isI_cells hv])
    refine W_loopG 0 (fun i s h => s 4 = w ∧ s 3 = .sl 2 .lit []) ?_ ?_
    · simp [*]
    rintro i s h hi ⟨h4, h3⟩
    repeat' (first | (apply brI <;> intro hb hb2 <;> (try simp [-Int.not_le, -Int.not_lt, -Nat.not_le, -Nat.not_lt, -Nat.add_left_cancel_iff] at hb2)) | (refine draw_listA (by rfl) (by kernel_rfl) ?_) | (refine draw_listB (by simp [allocsOf, isAlloc]; rfl) (by kernel_rfl) ?_) | simp (maxSteps := 2000000) (disch := first | omega | assumption | simp [*]) [*, -Int.not_le, -Int.not_lt, -Nat.not_le, -Nat.not_lt, -Nat.add_left_cancel_iff, wrap_i64, wrap_u64, h4, h3, isP_len hP, isP_low hP])
    simp [bufLR]
theorem sGreedyFactors_s {n : Int} {v : AV} (hv : IsI v) (hbig : (xsOf v).length ≤ 1048576) {K : AV → Prop} {tg : Tg K} : CW env 81 [.agg [.int .i64 n, v]] K tg ↔ K (bufLR 101 53 2 2 (grdL n (xsOf v))) := callsTo_iff (sGreedyFactors_c hv hbig)
attribute [simp] sGreedyFactors_s
theorem cloneI_c {v : AV} (hv : IsI v) (hne : xsOf v ≠ []) (hl : (xsOf v).length ≤ 1048576) : EvC env 168 [v] (bufR 3 7 1 (xsOf v)) := by
  refine evC_of (F := Tryz.f168) rfl rfl (Nat.le_of_ble_eq_true rfl) ?_
  repeat' (first | (apply brI <;> intro hb hb2 <;> (try simp [-Int.not_le, -Int.not_lt, -Nat.not_le, -Nat.not_lt, -Nat.add_left_cancel_iff] at hb2)) | (refine draw_listA (by rfl) (by kernel_rfl) ?_) | (refine draw_listB (by simp [allocsOf, isAlloc]; rfl) (by kernel_rfl) ?_) | simp (maxSteps := 2000000) (disch := first | omega | assumption | simp [*]) [*, -Int.not_le, -Int.not_lt, -Nat.not_le, -Nat.not_lt, -Nat.add_left_cancel_iff, wrap_i64, wrap_u64, Tryz.f168, isI_len hv, nilC_I hv])
  obtain ⟨k, o, es, rfl, hk, hos⟩ := hv.l.ok
  have hes : es = ints (xsOf (.sl k o es)) := by have := hv.ints; simpa using this
  have hne2 : es ≠ [] := by intro e; subst e; exact hne (by simp [xsOf])
  refine wa_ints (buf_nil ..) (by simp) (by simp) hes hne (hk.resolve_left hne2) (by rw [List.length_nil]; omega) ?_
  clear hes hne2
  intro v2 h2 hB hk2
  repeat' (first | (apply brI <;> intro hb hb2 <;> (try simp [-Int.not_le, -Int.not_lt, -Nat.not_le, -Nat.not_lt, -Nat.add_left_cancel_iff] at hb2)) | (refine draw_listA (by rfl) (by kernel_rfl) ?_) | (refine draw_listB (by simp [allocsOf, isAlloc]; rfl) (by kernel_rfl) ?_) | simp (maxSteps := 2000000) (disch := first | omega | assumption | simp [*]) [*, -Int.not_le, -Int.not_lt, -Nat.not_le, -Nat.not_lt, -Nat.add_left_cancel_iff, wrap_i64, wrap_u64])
  exact hB.expo
theorem cloneI_s {v : AV} (hv : IsI v) (hne : xsOf v ≠ []) (hl : (xsOf v).length ≤ 1048576) {K : AV → Prop} {tg : Tg K} : CW env 168 [v] K tg ↔ K (bufR 3 7 1 (xsOf v)) := callsTo_iff (cloneI_c hv hne hl)
attribute [simp] cloneI_s
/-- the best of the first k, as the program keeps it -/
def mxI (F S : List Int) (G : Nat) (f : Nat → Int) (k : Nat) : Int := if k = 0 then 0 else gn F S G f (bst F S G f k)
def bxI (F S : List Int) (G : Nat) (f : Nat → Int) (k : Nat) : Int := if mxI F S G f k = 0 then 0 else nth F (bst F S G f k)
def byI (F S : List Int) (G : Nat) (f : Nat → Int) (k : Nat) : Int := if mxI F S G f k = 0 then 0 else nth S (bst F S G f k)
theorem mx_take {F S : List Int} {G : Nat} {f : Nat → Int} {k : Nat} (h : mxI F S G f k < gn F S G f k) : mxI F S G f (k + 1) = gn F S G f k ∧ bxI F S G f (k + 1) = nth F k ∧ byI F S G f (k + 1) = nth S k := by
  have h0 : 0 ≤ mxI F S G f k := by
    unfold mxI; split
    · omega
    · exact (gTo_range ..).1
  have hb : bst F S G f (k + 1) = k := by
    by_cases e : k = 0
    · subst e; exact bst_one ..
    · unfold mxI at h
      rw [if_neg e] at h
      unfold bst
      rw [if_pos h]
  have hm : mxI F S G f (k + 1) = gn F S G f k := by unfold mxI; rw [if_neg (by omega), hb]
  have hne : ¬ gn F S G f k = 0 := by omega
  exact ⟨hm, by unfold bxI; rw [hm, if_neg hne, hb], by unfold byI; rw [hm, if_neg hne, hb]⟩
theorem mx_skip {F S : List Int} {G : Nat} {f : Nat → Int} {k : Nat} (h : ¬ mxI F S G f k < gn F S G f k) : mxI F S G f (k + 1) = mxI F S G f k ∧ bxI F S G f (k + 1) = bxI F S G f k ∧ byI F S G f (k + 1) = byI F S G f k := by
  by_cases e : k = 0
  · subst e
    have h1 : mxI F S G f 0 = 0 := by simp [mxI]
    have h2 : 0 ≤ gn F S G f 0 := (gTo_range ..).1
    have h3 : gn F S G f 0 = 0 := by omega
    have h4 : mxI F S G f 1 = 0 := by unfold mxI; rw [if_neg (by omega), bst_one]; exact h3
    refine ⟨by rw [h4, h1], by unfold bxI; rw [h4, h1]; simp, by unfold byI; rw [h4, h1]; simp⟩
  · have hb : bst F S G f (k + 1) = bst F S G f k := by
      unfold mxI at h
      rw [if_neg e] at h
      rw [bst, if_neg h]
    have hm : mxI F S G f (k + 1) = mxI F S G f k := by unfold mxI; rw [if_neg (by omega), if_neg e, hb]
    exact ⟨hm, by unfold bxI; rw [hm, hb], by unfold byI; rw [hm, hb]⟩
theorem mx_end {F S : List Int} {G : Nat} {f : Nat → Int} {k : Nat} (h : 0 < k) : mxI F S G f k = gn F S G f (bst F S G f k) := by unfold mxI; rw [if_neg (by omega)]
noncomputable def grdK (n : Int) (xs : List Int) : Nat := if decide (PCtx n xs) = true then 2 else 0
theorem dif_idem : ∀ x s : Fin 64, diff (diff x.val s.val) s.val = diff x.val s.val := by decide +kernel
theorem dif_idem2 {x s : Int} (hx : 0 ≤ x ∧ x < 64) (hs : 0 ≤ s ∧ s < 64) : diI (diI x s) s = diI x s := by
  have := dif_idem ⟨x.toNat, by omega⟩ ⟨s.toNat, by omega⟩
  unfold diI
  rw [Int.toNat_natCast]
  simp only at this
  rw [this]
theorem cutE_range {f : Nat → Int} {s : Int} (hf : In64 f) (hs : 0 ≤ s ∧ s < 64) (es : List Int) (j m : Nat) : 0 ≤ cutE f s es j m ∧ cutE f s es j m < 64 := by
  unfold cutE; split
  · exact (dif_sub2 (hf m) hs).2
  · exact hf m
theorem cutE_step {f : Nat → Int} {s : Int} (hf : In64 f) (hs : 0 ≤ s ∧ s < 64) {es : List Int} {j m : Nat} (hm : nth es j = m) (hj : j < es.length) : ∀ j', cutE f s es (j + 1) j' = if j' = m then diI (cutE f s es j m) s else cutE f s es j j' := fun j' => by
  have htk : es.take (j + 1) = es.take j ++ [(m : Int)] := by rw [List.take_add_one, nth_get? hj, hm]; rfl
  unfold cutE
  rw [htk]
  by_cases e : j' = m
  · subst e
    rw [if_pos rfl, if_pos (by simp)]
    split
    · exact (dif_idem2 (hf j') hs).symm
    · rfl
  · have e2 : ¬ (j' : Int) = (m : Int) := by omega
    rw [if_neg e]
    simp [e2]
theorem iGreedyFactors_c {n : Int} {v : AV} (hv : IsI v) (hbig : (xsOf v).length ≤ 1048576) : EvC env 72 [.agg [.int .i64 n, v]] (bufLR 101 60 (grdK n (xsOf v)) 2 (grdL n (xsOf v))) := by
  refine evC_of (F := Tryz.f72) rfl rfl (Nat.le_of_ble_eq_true rfl) ?_
  have hP := conW2_P n (xsOf v)
  have hw := iCon_noEx n (xsOf v) 101
  have hfl := conW_len n (xsOf v)
  have hL := conL_len n (xsOf v)
  have hvl := hv.len
  by_cases hc : PCtx n (xsOf v)
  · have hV : grdL n (xsOf v) = (grun (fsts (conW n (xsOf v))) (snds (conW n (xsOf v))) (xsOf v).length (conL n (xsOf v)).length (fun g => nth (xsOf v) g) 64).1 := if_pos hc
    have hK : grdK n (xsOf v) = 2 := if_pos (decide_eq_true hc)
    rw [hV, hK]
    have hdc : decide (PCtx n (xsOf v)) = true := decide_eq_true hc
    have hG : (xsOf v).length ≤ 8 := hc.2.2.1
    have h64 := rows_64 hc
    have hpos : 0 < (conL n (xsOf v)).length := by
      obtain ⟨N, rfl⟩ : ∃ N : Nat, n = N := ⟨n.toNat, by have := hc.1; omega⟩
      exact con_pos hc
    have hS := fun (k : Nat) (hk : k < (conL n (xsOf v)).length) => S_64 hk
    have hFr := fun (k : Nat) (hk : k < (conL n (xsOf v)).length) => F_rows hk
    have hxt : ∃ _ : Unit, xsOf v = tab (fun g => nth (xsOf v) g) (xsOf v).length := ⟨(), tab_eq rfl fun j hj => rfl⟩
    have hclu : xsOf v ≠ [] → EvC env 168 [v] (bufR 3 7 1 (xsOf v)) := fun hne => cloneI_c hv hne (by omega)
    rw [← conW2_fsts] at hfl hFr ⊢
    rw [← conW2_snds] at hS ⊢
    generalize conW2 n (xsOf v) = w at *
    obtain ⟨len, hlen⟩ : ∃ len, (conL n (xsOf v)).length = len := ⟨_, rfl⟩
    rw [hlen] at hfl hL hpos hS hFr ⊢
    obtain ⟨G, hGe⟩ : ∃ G, (xsOf v).length = G := ⟨_, rfl⟩
    rw [hGe] at hG hxt hFr ⊢
    obtain ⟨f0, hf0⟩ : ∃ f0, f0 = fun g => nth (xsOf v) g := ⟨_, rfl⟩
    rw [← hf0] at h64 hxt ⊢
    have hend : ∀ i es f, GInv (fsts w) (snds w) G len f0 i es f → i ≤ 64 → gn (fsts w) (snds w) G f (bst (fsts w) (snds w) G f len) = 0 → (grun (fsts w) (snds w) G len f0 64).1 = es := fun i es f h hi hg => ginv_end h hi hg
    have hgz := ginv_zero (F := fsts w) (S := snds w) (len := len) h64 hG
    obtain ⟨R, hR⟩ : ∃ R, (grun (fsts w) (snds w) G len f0 64).1 = R := ⟨_, rfl⟩
    simp only [hR] at hend ⊢
    clear hV hf0 hc hlen hR h64 hK
    repeat' (first | (apply brI <;> intro hb hb2 <;> (try simp [-Int.not_le, -Int.not_lt, -Nat.not_le, -Nat.not_lt, -Nat.add_left_cancel_iff] at hb2)) | (refine draw_listA (by rfl) (by kernel_rfl) ?_) | (refine draw_listB (by simp [allocsOf, isAlloc]; rfl) (by kernel_rfl) ?_) | simp (maxSteps := 2000000) (disch := first | omega | assumption | simp [*]) [*, -Int.not_le, -Int.not_lt, -Nat.not_le, -Nat.not_lt, -Nat.add_left_cancel_iff, wrap_i64, wrap_u64, Tryz.f72, isI_cells hv, isI_one hv, isI_low hv, isI_noKey hv])
    refine cf_clone (R := bufR 3 7 1 (xsOf v)) (T := 3) (key := 7) rfl rfl rfl (isI_low hv _) hv hclu (fun hne => ownR_buf ..) ?_
    intro v5 h5 hR5 hk5
    have e51 : h5 1 = some (.var 0 26 (.agg [.int .i64 n, v])) := by rw [hk5 1 (by omega)]; simp [hset]
    have o5 := hR5.one
    have c5 := hR5.cells
    obtain ⟨_, hxt⟩ := hxt
    rw [hxt] at hR5
    clear hxt
    clear hk5 hclu
    repeat' (first | (apply brI <;> intro hb hb2 <;> (try simp [-Int.not_le, -Int.not_lt, -Nat.not_le, -Nat.not_lt, -Nat.add_left_cancel_iff] at hb2)) | (refine draw_listA (by rfl) (by kernel_rfl) ?_) | (refine draw_listB (by simp [allocsOf, isAlloc]; rfl) (by kernel_rfl) ?_) | simp (maxSteps := 2000000) (disch := first | omega | assumption | simp [*]) [*, -Int.not_le, -Int.not_lt, -Nat.not_le, -Nat.not_lt, -Nat.add_left_cancel_iff, wrap_i64, wrap_u64, isI_cells hv])
    refine W_loopG 64 (fun i s h => GSt (fsts w) (snds w) G len f0 101 3 20 60 i (s 3) (s 4) h ∧ s 1 = .vp 1 0 0 ∧ h 1 = some (.var 0 26 (.agg [.int .i64 n, v]))) ?_ ?_
    · simp [*]
      exact ⟨_, _, hgz, bufL_nil .., hR5⟩
    clear hR5 hgz e51 o5 c5
    rintro i s h hi ⟨⟨es, f, hg, hB, hRw⟩, h1, e1⟩
    obtain ⟨v5, h4'⟩ : ∃ v5, s 4 = v5 := ⟨_, rfl⟩
    rw [h4'] at hRw
    obtain ⟨v3, h3'⟩ : ∃ v3, s 3 = v3 := ⟨_, rfl⟩
    rw [h3'] at hB
    have o5 := hRw.one
    have c5 := hRw.cells
    have hRk := fun h' (e : h' 20 = h 20) => hRw.keep (h' := h') e
    have hBk := fun h' (e : h' 60 = h 60) => hB.keep (h' := h') e
    have hlen2 : es.length < 1073741824 := by
      have := grun_len (fsts w) (snds w) G len f0 i
      rw [hg.1] at this
      simp only at this
      omega
    have hif := hg.2.1
    have hendi := hend i es f hg hi
    have hnext := fun hS9 hne => ginv_next hg hS9 hne
    have hbl : bst (fsts w) (snds w) G f len < len := bst_lt (fsts w) (snds w) G f hpos
    have hmend := mx_end (F := fsts w) (S := snds w) (G := G) (f := f) hpos
    clear hend hg
    repeat' (first | (apply brI <;> intro hb hb2 <;> (try simp [-Int.not_le, -Int.not_lt, -Nat.not_le, -Nat.not_lt, -Nat.add_left_cancel_iff] at hb2)) | (refine draw_listA (by rfl) (by kernel_rfl) ?_) | (refine draw_listB (by simp [allocsOf, isAlloc]; rfl) (by kernel_rfl) ?_) | simp (maxSteps := 2000000) (disch := first | omega | assumption | simp [*]) [*, -Int.not_le, -Int.not_lt, -Nat.not_le, -Nat.not_lt, -Nat.add_left_cancel_iff, wrap_i64, wrap_u64, h1, e1, h3', h4', isI_cells hv, isI_one hv, isI_low hv, isP_len hP, isP_low hP])
    refine W_loopG len (fun k s h' => s 25 = .int .i64 k ∧ s 24 = .int .i64 len ∧ s 23 = w ∧ s 6 = .int .i64 (mxI (fsts w) (snds w) G f k) ∧ s 3 = v3 ∧ s 4 = v5 ∧ s 1 = .vp 1 0 0 ∧ h' 1 = some (.var 0 26 (.agg [.int .i64 n, v])) ∧ Row h' 20 3 1 1 v5 (ints (tab f G)) ∧ BufL h' 101 60 2 2 v3 es ∧ ∃ g, s 5 = .vp 5 g 0 ∧ h' 5 = some (.var g 101 (.agg [.int .i64 (bxI (fsts w) (snds w) G f k), .int .i64 (byI (fsts w) (snds w) G f k)]))) ?_ ?_
    · have z1 : mxI (fsts w) (snds w) G f 0 = 0 := by simp [mxI]
      have z2 : bxI (fsts w) (snds w) G f 0 = 0 := by simp [bxI, mxI]
      have z3 : byI (fsts w) (snds w) G f 0 = 0 := by simp [byI, mxI]
      clear hendi hnext hmend
      simp [*]
    clear hRk hBk hRw hB e1
    rintro k s2 h2 hk ⟨k25, k24, k23, k6, k3, k4, k1, f1, hR2, hB2, g5, k5, f5⟩
    have hRk := fun h' (e : h' 20 = h2 20) => hR2.keep (h' := h') e
    have hBk := fun h' (e : h' 60 = h2 60) => hB2.keep (h' := h') e
    by_cases hk2 : k < len
    · have hFk := hFr k hk2
      have hSk := hS k hk2
      have hsum := sumE_all (f := f) (s := nth (snds w) k) hG hFk
      have hgk : gn (fsts w) (snds w) G f k = gTo f (nth (fsts w) k) (nth (snds w) k) G := rfl
      rw [← hgk] at hsum
      have htk := fun h9 => mx_take (F := fsts w) (S := snds w) (G := G) (f := f) (k := k) h9
      have hsk := fun h9 => mx_skip (F := fsts w) (S := snds w) (G := G) (f := f) (k := k) h9
      have hE8 : (elemsTo (nth (fsts w) k) 8).length ≤ 8 := elemsTo_len _ 8
      have hE : IsI (bufC 1 (elemsTo (nth (fsts w) k) 8)) := isI_bufC (by unfold top63; omega)
      have hmem : ∀ j, j < (elemsTo (nth (fsts w) k) 8).length → ∃ g : Nat, nth (elemsTo (nth (fsts w) k) 8) j = g ∧ g < G := fun j hj => by
        obtain ⟨g, a, b, c, d⟩ := mem_elems hj
        exact ⟨g, a, by have := phas_lt hFk d; omega⟩
      obtain ⟨el, hel⟩ : ∃ el, elemsTo (nth (fsts w) k) 8 = el := ⟨_, rfl⟩
      simp only [hel] at hsum hE8 hE hmem
      clear hS hFr hendi hnext hmend hgk hR2 hB2
      repeat' (first | (apply brI <;> intro hb hb2 <;> (try simp [-Int.not_le, -Int.not_lt, -Nat.not_le, -Nat.not_lt, -Nat.add_left_cancel_iff] at hb2)) | (refine draw_listA (by rfl) (by kernel_rfl) ?_) | (refine draw_listB (by simp [allocsOf, isAlloc]; rfl) (by kernel_rfl) ?_) | simp (maxSteps := 2000000) (disch := first | omega | assumption | simp [*]) [*, -Int.not_le, -Int.not_lt, -Nat.not_le, -Nat.not_lt, -Nat.add_left_cancel_iff, wrap_i64, wrap_u64, k25, k24, k23, k6, k3, k4, k1, f1, k5, f5, isP_len hP, isP_index hP, isP_low hP, isP_noKey hP, isI_len hE])
      refine W_loopG el.length (fun j s h' => s 33 = .int .i64 j ∧ s 32 = .int .i64 el.length ∧ s 31 = bufC 1 el ∧ s 9 = .int .i64 (sumE f (nth (snds w) k) el j) ∧ s 25 = .int .i64 k ∧ s 24 = .int .i64 len ∧ s 23 = w ∧ s 6 = .int .i64 (mxI (fsts w) (snds w) G f k) ∧ s 3 = v3 ∧ s 4 = v5 ∧ s 1 = .vp 1 0 0 ∧ h' 1 = some (.var 0 26 (.agg [.int .i64 n, v])) ∧ Row h' 20 3 1 1 v5 (ints (tab f G)) ∧ BufL h' 101 60 2 2 v3 es ∧ (∃ g, s 5 = .vp 5 g 0 ∧ h' 5 = some (.var g 101 (.agg [.int .i64 (bxI (fsts w) (snds w) G f k), .int .i64 (byI (fsts w) (snds w) G f k)]))) ∧ ∃ g, s 8 = .vp 8 g 0 ∧ h' 8 = some (.var g 101 (.agg [.int .i64 (nth (fsts w) k), .int .i64 (nth (snds w) k)]))) ?_ ?_
      · simp [*, sumE]
      clear hRk hBk f1 f5
      rintro j s3 h3 hj ⟨q33, q32, q31, q9, q25, q24, q23, q6, q3, q4, q1, p1, hR3, hB3, ⟨ga, q5, p5⟩, gb, q8, p8⟩
      have hRk := fun h' (e : h' 20 = h3 20) => hR3.keep (h' := h') e
      have hBk := fun h' (e : h' 60 = h3 60) => hB3.keep (h' := h') e
      have hsr := sumE_range f (nth (snds w) k) el j
      by_cases hj2 : j < el.length
      · obtain ⟨m, hm, hmG⟩ := hmem j hj2
        rcases hR3 with ⟨e9, _⟩ | ⟨hx4, g4, hv4, hr4⟩
        · have h0 : G = 0 := by simpa using congrArg List.length e9
          omega
        simp only [ints_length, tab_length] at hv4
        subst hv4
        have hng : nth (tab f G) m = f m := tab_nth _ hmG
        have hfm := hif m
        have hsu : sumE f (nth (snds w) k) el (j + 1) = sumE f (nth (snds w) k) el j + ((elemsTo (((f m).toNat &&& (nth (snds w) k).toNat : Nat) : Int) 8).length : Int) := by
          have : (nth el j).toNat = m := by rw [hm]; rfl
          simp only [sumE, this]; rfl
        have hc8 := elemsTo_len (((f m).toNat &&& (nth (snds w) k).toNat : Nat) : Int) 8
        clear hmem hsum htk hsk hif hFk
        repeat' (first | (apply brI <;> intro hb hb2 <;> (try simp [-Int.not_le, -Int.not_lt, -Nat.not_le, -Nat.not_lt, -Nat.add_left_cancel_iff] at hb2)) | (refine draw_listA (by rfl) (by kernel_rfl) ?_) | (refine draw_listB (by simp [allocsOf, isAlloc]; rfl) (by kernel_rfl) ?_) | simp (maxSteps := 2000000) (disch := first | omega | assumption | simp [*]) [*, -Int.not_le, -Int.not_lt, -Nat.not_le, -Nat.not_lt, -Nat.add_left_cancel_iff, wrap_i64, wrap_u64, q33, q32, q31, q9, q25, q24, q23, q6, q3, q4, q1, p1, q5, p5, q8, p8, hr4, isI_len hE, isI_index hE, isI_load hE, bits_and])
        all_goals first | exact ⟨hRk _ (by first | rfl | simp [hset]), hBk _ (by first | rfl | simp [hset])⟩ | skip
      · obtain rfl : j = el.length := by omega
        rw [hsum] at q9
        clear hmem hsum hsr
        by_cases hlt : mxI (fsts w) (snds w) G f k < gn (fsts w) (snds w) G f k
        · obtain ⟨m1, m2, m3⟩ := htk hlt
          clear htk hsk hFk hif
          repeat' (first | (apply brI <;> intro hb hb2 <;> (try simp [-Int.not_le, -Int.not_lt, -Nat.not_le, -Nat.not_lt, -Nat.add_left_cancel_iff] at hb2)) | (refine draw_listA (by rfl) (by kernel_rfl) ?_) | (refine draw_listB (by simp [allocsOf, isAlloc]; rfl) (by kernel_rfl) ?_) | simp (maxSteps := 2000000) (disch := first | omega | assumption | simp [*]) [*, -Int.not_le, -Int.not_lt, -Nat.not_le, -Nat.not_lt, -Nat.add_left_cancel_iff, wrap_i64, wrap_u64, q33, q32, q31, q9, q25, q24, q23, q6, q3, q4, q1, p1, q5, p5, q8, p8, isP_len hP])
          all_goals first | exact ⟨hRk _ (by first | rfl | simp [hset]), hBk _ (by first | rfl | simp [hset])⟩ | skip
        · obtain ⟨m1, m2, m3⟩ := hsk hlt
          clear htk hsk hFk hif
          repeat' (first | (apply brI <;> intro hb hb2 <;> (try simp [-Int.not_le, -Int.not_lt, -Nat.not_le, -Nat.not_lt, -Nat.add_left_cancel_iff] at hb2)) | (refine draw_listA (by rfl) (by kernel_rfl) ?_) | (refine draw_listB (by simp [allocsOf, isAlloc]; rfl) (by kernel_rfl) ?_) | simp (maxSteps := 2000000) (disch := first | omega | assumption | simp [*]) [*, -Int.not_le, -Int.not_lt, -Nat.not_le, -Nat.not_lt, -Nat.add_left_cancel_iff, wrap_i64, wrap_u64, q33, q32, q31, q9, q25, q24, q23, q6, q3, q4, q1, p1, q5, p5, q8, p8, isP_len hP])
          all_goals first | exact ⟨hRk _ (by first | rfl | simp [hset]), hBk _ (by first | rfl | simp [hset])⟩ | skip
    · obtain rfl : k = len := by omega
      have hSb := hS _ hbl
      have hFb := hFr _ hbl
      by_cases hz : gn (fsts w) (snds w) G f (bst (fsts w) (snds w) G f k) = 0
      · have hres := hendi hz
        have hE := hB2.expo
        rw [← hres] at hE
        rw [hmend, hz] at k6
        clear hS hFr hendi hnext hmend hif
        repeat' (first | (apply brI <;> intro hb hb2 <;> (try simp [-Int.not_le, -Int.not_lt, -Nat.not_le, -Nat.not_lt, -Nat.add_left_cancel_iff] at hb2)) | (refine draw_listA (by rfl) (by kernel_rfl) ?_) | (refine draw_listB (by simp [allocsOf, isAlloc]; rfl) (by kernel_rfl) ?_) | simp (maxSteps := 2000000) (disch := first | omega | assumption | simp [*]) [*, -Int.not_le, -Int.not_lt, -Nat.not_le, -Nat.not_lt, -Nat.add_left_cancel_iff, wrap_i64, wrap_u64, k25, k24, k23, k6, k3, k4, k1, f1, k5, f5, isP_len hP])
      · obtain ⟨hi64, hgi⟩ := hnext hSb hz
        have hx1 : bxI (fsts w) (snds w) G f k = nth (fsts w) (bst (fsts w) (snds w) G f k) := by unfold bxI; rw [hmend, if_neg hz]
        have hx2 : byI (fsts w) (snds w) G f k = nth (snds w) (bst (fsts w) (snds w) G f k) := by unfold byI; rw [hmend, if_neg hz]
        rw [hx1, hx2] at f5
        rw [hmend] at k6
        generalize gn (fsts w) (snds w) G f (bst (fsts w) (snds w) G f k) = gnb at *
        generalize bst (fsts w) (snds w) G f k = b at *
        have hE8 : (elemsTo (nth (fsts w) b) 8).length ≤ 8 := elemsTo_len _ 8
        have hE : IsI (bufC 1 (elemsTo (nth (fsts w) b) 8)) := isI_bufC (by unfold top63; omega)
        have hmem : ∀ j, j < (elemsTo (nth (fsts w) b) 8).length → ∃ g : Nat, nth (elemsTo (nth (fsts w) b) 8) j = g ∧ g < G := fun j hj => by
          obtain ⟨g, a, b, c, d⟩ := mem_elems hj
          exact ⟨g, a, by have := phas_lt hFb d; omega⟩
        have hcut := cutE_all (f := f) (s := nth (snds w) b) hFb
        obtain ⟨el, hel⟩ : ∃ el, elemsTo (nth (fsts w) b) 8 = el := ⟨_, rfl⟩
        simp only [hel] at hE8 hE hmem hcut
        clear hS hFr hendi hnext hmend hx1 hx2 hFb hR2 hB2
        repeat' (first | (apply brI <;> intro hb hb2 <;> (try simp [-Int.not_le, -Int.not_lt, -Nat.not_le, -Nat.not_lt, -Nat.add_left_cancel_iff] at hb2)) | (refine draw_listA (by rfl) (by kernel_rfl) ?_) | (refine draw_listB (by simp [allocsOf, isAlloc]; rfl) (by kernel_rfl) ?_) | simp (maxSteps := 2000000) (disch := first | omega | assumption | simp [*]) [*, -Int.not_le, -Int.not_lt, -Nat.not_le, -Nat.not_lt, -Nat.add_left_cancel_iff, wrap_i64, wrap_u64, k25, k24, k23, k6, k3, k4, k1, f1, k5, f5, isP_len hP])
        refine wa_pushL (hBk _ (by first | rfl | simp [hset])) (by simp) (by simp) (by simp) ⟨rfl, rfl⟩ (fun _ => rfl) hlen2 ?_
        intro v32 h32 hB3 hk3
        have e31 := (hk3 1 (by omega)).trans f1
        have e35 := (hk3 5 (by omega)).trans f5
        have hR3 := hRk _ (hk3 20 (by omega))
        clear hk3 hRk hBk
        repeat' (first | (apply brI <;> intro hb hb2 <;> (try simp [-Int.not_le, -Int.not_lt, -Nat.not_le, -Nat.not_lt, -Nat.add_left_cancel_iff] at hb2)) | (refine draw_listA (by rfl) (by kernel_rfl) ?_) | (refine draw_listB (by simp [allocsOf, isAlloc]; rfl) (by kernel_rfl) ?_) | simp (maxSteps := 2000000) (disch := first | omega | assumption | simp [*]) [*, -Int.not_le, -Int.not_lt, -Nat.not_le, -Nat.not_lt, -Nat.add_left_cancel_iff, wrap_i64, wrap_u64, k25, k24, k23, k6, k3, k4, k1, e31, k5, e35, isI_len hE])
        refine W_loopG el.length (fun j s h' => s 65 = .int .i64 j ∧ s 64 = .int .i64 el.length ∧ s 63 = bufC 1 el ∧ s 3 = v32 ∧ s 4 = v5 ∧ s 1 = .vp 1 0 0 ∧ h' 1 = some (.var 0 26 (.agg [.int .i64 n, v])) ∧ Row h' 20 3 1 1 v5 (ints (tab (cutE f (nth (snds w) b) el j) G)) ∧ BufL h' 101 60 2 2 v32 (es ++ [.agg [.int .i64 (nth (fsts w) b), .int .i64 (nth (snds w) b)]]) ∧ ∃ g, s 5 = .vp 5 g 0 ∧ h' 5 = some (.var g 101 (.agg [.int .i64 (nth (fsts w) b), .int .i64 (nth (snds w) b)]))) ?_ ?_
        · have hz0 : cutE f (nth (snds w) b) el 0 = f := by funext g; simp [cutE]
          clear hcut hgi hmem
          simp [*]
          all_goals exact hB3
        rintro j s3 h3 hj ⟨q65, q64, q63, q3, q4, q1, p1, hR4, hB4, g, q5, p5⟩
        have hBk := fun h' (e : h' 60 = h3 60) => hB4.keep (h' := h') e
        by_cases hj2 : j < el.length
        · obtain ⟨m, hm, hmG⟩ := hmem j hj2
          rcases hR4 with ⟨e9, _⟩ | ⟨hx4, g4, hv4, hr4⟩
          · have h0 : G = 0 := by simpa using congrArg List.length e9
            omega
          simp only [ints_length, tab_length] at hv4
          subst hv4
          have hng : nth (tab (cutE f (nth (snds w) b) el j) G) m = cutE f (nth (snds w) b) el j m := tab_nth _ hmG
          have hcr := cutE_range hif hSb el j m
          have hcs := cutE_step hif hSb hm hj2
          have hdd : ((diff (cutE f (nth (snds w) b) el j m).toNat (nth (snds w) b).toNat : Nat) : Int) = diI (cutE f (nth (snds w) b) el j m) (nth (snds w) b) := rfl
          have hrow : ∀ (h' : Heap) (z : Int), h' 20 = some (.row g4 3 1 (ints ((tab (cutE f (nth (snds w) b) el j) G).set m z))) → z = diI (cutE f (nth (snds w) b) el j m) (nth (snds w) b) → Row h' 20 3 1 1 (.ms 20 g4 0 G) (ints (tab (cutE f (nth (snds w) b) el (j + 1)) G)) := fun h' z e1 e2 => by
            rw [tab_set _ _ hmG, e2] at e1
            have e3 : tab (fun j' => if j' = m then diI (cutE f (nth (snds w) b) el j m) (nth (snds w) b) else cutE f (nth (snds w) b) el j j') G = tab (cutE f (nth (snds w) b) el (j + 1)) G := tab_congr fun j' _ => (hcs j').symm
            rw [e3] at e1
            exact .inr ⟨fun e9 => absurd (show G = 0 by simpa using congrArg List.length e9) (by omega), g4, by simp, e1⟩
          have hrow2 := fun h' e => hrow h' _ e rfl
          clear hrow hmem hcut hgi hif hcs
          generalize diI (cutE f (nth (snds w) b) el j m) (nth (snds w) b) = z at *
          generalize cutE f (nth (snds w) b) el j m = y at *
          repeat' (first | (apply brI <;> intro hb hb2 <;> (try simp [-Int.not_le, -Int.not_lt, -Nat.not_le, -Nat.not_lt, -Nat.add_left_cancel_iff] at hb2)) | (refine draw_listA (by rfl) (by kernel_rfl) ?_) | (refine draw_listB (by simp [allocsOf, isAlloc]; rfl) (by kernel_rfl) ?_) | simp (maxSteps := 2000000) (disch := first | omega | assumption | simp [*]) [*, -Int.not_le, -Int.not_lt, -Nat.not_le, -Nat.not_lt, -Nat.add_left_cancel_iff, wrap_i64, wrap_u64, q65, q64, q63, q3, q4, q1, p1, q5, p5, hr4, isI_len hE, isI_index hE, isI_load hE, bits_andNot])
          all_goals first | exact ⟨hrow2 _ (by simp [hset]), hBk _ (by simp [hset])⟩ | skip
        · obtain rfl : j = el.length := by omega
          rw [hcut] at hR4
          have hst : GSt (fsts w) (snds w) G k f0 101 3 20 60 (i + 1) v32 v5 h3 := ⟨_, _, hgi, hB4, hR4⟩
          clear hgi hB4 hR4 hcut hmem hif
          repeat' (first | (apply brI <;> intro hb hb2 <;> (try simp [-Int.not_le, -Int.not_lt, -Nat.not_le, -Nat.not_lt, -Nat.add_left_cancel_iff] at hb2)) | (refine draw_listA (by rfl) (by kernel_rfl) ?_) | (refine draw_listB (by simp [allocsOf, isAlloc]; rfl) (by kernel_rfl) ?_) | simp (maxSteps := 2000000) (disch := first | omega | assumption | simp [*]) [*, -Int.not_le, -Int.not_lt, -Nat.not_le, -Nat.not_lt, -Nat.add_left_cancel_iff, wrap_i64, wrap_u64, q65, q64, q63, q3, q4, q1, p1, q5, p5])
  · have hV : grdL n (xsOf v) = [] := if_neg hc
    have hdc : decide (PCtx n (xsOf v)) = false := decide_eq_false hc
    have hK : grdK n (xsOf v) = 0 := if_neg (by rw [hdc]; simp)
    rw [hV, hK]
    clear hV hK hc
    repeat' (first | (apply brI <;> intro hb hb2 <;> (try simp [-Int.not_le, -Int.not_lt, -Nat.not_le, -Nat.not_lt, -Nat.add_left_cancel_iff] at hb2)) | (refine draw_listA (by rfl) (by kernel_rfl) ?_) | (refine draw_listB (by simp [allocsOf, isAlloc]; rfl) (by kernel_rfl) ?_) | simp (maxSteps := 2000000) (disch := first | omega | assumption | simp [*]) [*, -Int.not_le, -Int.not_lt, -Nat.not_le, -Nat.not_lt, -Nat.add_left_cancel_iff, wrap_i64, wrap_u64, Tryz.f72, isI_cells hv, isI_one hv, isI_low hv, isI_noKey hv])
    simp [bufLR]
theorem iGreedyFactors_s {n : Int} {v : AV} (hv : IsI v) (hbig : (xsOf v).length ≤ 1048576) {K : AV → Prop} {tg : Tg K} : CW env 72 [.agg [.int .i64 n, v]] K tg ↔ K (bufLR 101 60 (grdK n (xsOf v)) 2 (grdL n (xsOf v))) := callsTo_iff (iGreedyFactors_c hv hbig)
attribute [simp] iGreedyFactors_s
end Go.Proofs.YtliecnadoklgoaaGreatDoor
