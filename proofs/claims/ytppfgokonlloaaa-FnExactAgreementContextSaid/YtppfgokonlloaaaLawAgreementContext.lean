/- The law of AgreementContext. Conditions: none. -/
import Derived.Test.YtppfgokonlloaaaLawTab
namespace Go.Proofs.Ytppfgokonlloaaa
open Ev
set_option linter.unusedVariables false
set_option linter.unusedSimpArgs false
set_option maxHeartbeats 4000000

theorem lawAgreementContext_c {u v : AV} (hu : IsI u) (hv : IsLL v) : EvC env 4 [.agg [u, v]] (.bool true) := by
  refine evC_of (F := Try.f4) rfl rfl (Nat.le_of_ble_eq_true rfl) ?_
  have hul := hu.len
  have hvl := hv.len
  obtain ⟨M, hM⟩ : ∃ M : Int, (agM (xsOf u) (xssOf v) : Int) = M := ⟨_, rfl⟩
  obtain ⟨c, hc⟩ : ∃ c, decide (AgC (xsOf u) (xssOf v)) = c := ⟨_, rfl⟩
  have hRl : (agX (xsOf u) (xssOf v)).length ≤ 8 := by
    unfold agX; split
    · rename_i h; exact h.2
    · simp
  have hS : ∀ {u' v' : AV}, IsI u' → IsLL v' → xsOf u' = xsOf u → xssOf v' = xssOf v → (xssOf v).length ≤ 1048576 → EvC env 16 [.agg [u', v']] (.tup [.agg [.int .i64 M, bufR 3 51 0 (agX (xsOf u) (xssOf v))], .bool c]) := fun h1 h2 h3 h4 h5 => by
    have := sAgr_c h1 h2 (by rw [h4]; exact h5)
    rw [h3, h4, hM, hc] at this; exact this
  have hI : ∀ {u' v' : AV}, IsI u' → IsLL v' → xsOf u' = xsOf u → xssOf v' = xssOf v → EvC env 18 [.agg [u', v']] (.tup [.agg [.int .i64 M, agW (xsOf u) (xssOf v)], .bool c]) := fun h1 h2 h3 h4 => by
    have := iAgr_c h1 h2
    rw [h3, h4, hM, hc] at this; exact this
  have hOwn : ∃ k0, OwnR (agW (xsOf u) (xssOf v)) 1 k0 3 12 (ints (agX (xsOf u) (xssOf v))) := by
    unfold agW agX; split
    · exact ⟨1, ownR_rowX ..⟩
    · exact ⟨0, .inl ⟨rfl, .inr rfl⟩⟩
  have hiw : IsI (noEx (agW (xsOf u) (xssOf v))) := by
    unfold agW; split
    · rename_i h; rw [rowX_noEx]; exact isI_rowN (by have := h.2; unfold top63; omega)
    · exact isI_lit
  have hix : xsOf (noEx (agW (xsOf u) (xssOf v))) = agX (xsOf u) (xssOf v) := by
    unfold agW agX; split
    · rw [rowX_noEx]; simp
    · rfl
  obtain ⟨R, hR⟩ : ∃ R, agX (xsOf u) (xssOf v) = R := ⟨_, rfl⟩
  obtain ⟨w, hwn⟩ : ∃ w, noEx (bufR 3 51 0 R) = w := ⟨_, rfl⟩
  obtain ⟨iv, hiv⟩ : ∃ iv, agW (xsOf u) (xssOf v) = iv := ⟨_, rfl⟩
  obtain ⟨iw, hin⟩ : ∃ iw, noEx iv = iw := ⟨_, rfl⟩
  rw [hR] at hRl hS hix hOwn
  rw [hiv] at hI hOwn hiw hix
  rw [hin] at hiw hix
  obtain ⟨k0, hOwn⟩ := hOwn
  have hRt : R.length ≤ top63 := by unfold top63; omega
  have hw : IsI w := by rw [← hwn]; simpa using isI_bufC (k0 := 0) hRt
  have hwx : xsOf w = R := by rw [← hwn]; simp
  clear hM hc hR hiv
  have eI : ∀ {xs : List Int} {xss : List (List Int)}, xs.length ≤ 1048576 → xss.length ≤ 1048576 → (∀ n, n < xss.length → (nthL xss n).length ≤ 1048576) → IsI (rowB 1 1 (ints xs)) ∧ IsLL (.sl 1 .brw (rowsB xss)) := fun a b c =>
    ⟨isI_rowB (by unfold top63; omega), isLL_rowsB (by unfold top63; omega) fun n hn => by have := c n hn; unfold top63; omega⟩
  repeat' (first | (apply brI <;> intro hb hb2 <;> (try simp [-Int.not_le, -Int.not_lt, -Nat.not_le, -Nat.not_lt, -Nat.add_left_cancel_iff] at hb2)) | (refine draw_listA (by rfl) (by kernel_rfl) ?_) | (refine draw_listB (by simp [allocsOf, isAlloc]; rfl) (by kernel_rfl) ?_) | simp (maxSteps := 2000000) (disch := first | omega | assumption | simp [*]) [*, -Int.not_le, -Int.not_lt, -Nat.not_le, -Nat.not_lt, -Nat.add_left_cancel_iff, wrap_i64, wrap_u64, Try.f4, isI_cells hu, isI_one hu, isI_low hu, isLL_cells hv, isLL_one hv, isLL_low hv, isI_cells hw, isI_one hw, isI_low hw, isI_noKey hw, farOff])
  have hsum : (xsOf u).length + szL v ≤ 1048576 := by grind
  clear hb hb2
  have hlu : (xsOf u).length ≤ 1048576 := by omega
  have hlv : szL v ≤ 1048576 := by omega
  have hrow := szL_row hlv
  have hl3 : (xssOf v).length ≤ 1048576 := by unfold szL at hlv; omega
  obtain ⟨iA, iW⟩ := eI hlu hl3 hrow
  have hS0 := hS iA iW (by simp) xssOf_rowsB hl3
  have hI0 := hI iA iW (by simp) xssOf_rowsB
  have hE0 := eqTable_c iA iW iA iW
  clear hS hI eI
  have owW := isI_one hw
  have cwW := isI_cells hw
  refine cf_tab hu hv hlu hlv fun b0 a0 w0 m0 hb0 hT0 hf0 => ?_
  have B0 : 100000 ≤ b0 := by unfold deepFar at hb0; omega
  have B0u : b0 ≤ 22000000000000000000000000 := by unfold deepFar at hb0; omega
  clear hb0
  have a1 := hf0 1 (by omega)
  have a4 := hf0 4 (by omega)
  have a6 := hf0 6 (by omega)
  have a7 := hf0 7 (by omega)
  have a12 := hf0 12 (by omega)
  simp [hset] at a1 a4 a6 a7 a12
  clear hf0
  have oa0 := hT0.1.one
  have ca0 := hT0.1.cells
  have ow0 := hT0.2.one
  have cw0 := hT0.2.cells
  repeat' (first | (apply brI <;> intro hb hb2 <;> (try simp [-Int.not_le, -Int.not_lt, -Nat.not_le, -Nat.not_lt, -Nat.add_left_cancel_iff] at hb2)) | (refine draw_listA (by rfl) (by kernel_rfl) ?_) | (refine draw_listB (by simp [allocsOf, isAlloc]; rfl) (by kernel_rfl) ?_) | simp (maxSteps := 2000000) (disch := first | omega | assumption | simp [*]) [*, -Int.not_le, -Int.not_lt, -Nat.not_le, -Nat.not_lt, -Nat.add_left_cancel_iff, wrap_i64, wrap_u64, isI_cells hu, isI_one hu, isI_low hu, isLL_cells hv, isLL_one hv, isLL_low hv, isI_cells hw, isI_one hw, isI_low hw, isI_noKey hw, farOff])
  refine cf_deep0 rfl rfl hT0 hS0 ?_
  clear hT0 hS0
  repeat' (first | (apply brI <;> intro hb hb2 <;> (try simp [-Int.not_le, -Int.not_lt, -Nat.not_le, -Nat.not_lt, -Nat.add_left_cancel_iff] at hb2)) | (refine draw_listA (by rfl) (by kernel_rfl) ?_) | (refine draw_listB (by simp [allocsOf, isAlloc]; rfl) (by kernel_rfl) ?_) | simp (maxSteps := 2000000) (disch := first | omega | assumption | simp [*]) [*, -Int.not_le, -Int.not_lt, -Nat.not_le, -Nat.not_lt, -Nat.add_left_cancel_iff, wrap_i64, wrap_u64, hwn, isI_cells hu, isI_one hu, isI_low hu, isLL_cells hv, isLL_one hv, isLL_low hv, isI_cells hw, isI_one hw, isI_low hw, isI_noKey hw, farOff])
  refine cf_tab hu hv hlu hlv fun b1 a1' w1 m1 hb1 hT1 hf1 => ?_
  have B1 : 26000000000000000000000000 ≤ b1 := by unfold deepFar at hb1; omega
  have B1u : b1 ≤ 26000000000000000000200000 := by unfold deepFar at hb1; omega
  clear hb1
  have c1 := hf1 1 (by omega)
  have c4 := hf1 4 (by omega)
  have c6 := hf1 6 (by omega)
  have c7 := hf1 7 (by omega)
  have c12 := hf1 12 (by omega)
  simp [hset, a1, a4, a6, a7, a12] at c1 c4 c6 c7 c12
  clear hf1 a1 a4 a6 a7 a12
  have oa1 := hT1.1.one
  have ca1 := hT1.1.cells
  have ow1 := hT1.2.one
  have cw1 := hT1.2.cells
  repeat' (first | (apply brI <;> intro hb hb2 <;> (try simp [-Int.not_le, -Int.not_lt, -Nat.not_le, -Nat.not_lt, -Nat.add_left_cancel_iff] at hb2)) | (refine draw_listA (by rfl) (by kernel_rfl) ?_) | (refine draw_listB (by simp [allocsOf, isAlloc]; rfl) (by kernel_rfl) ?_) | simp (maxSteps := 2000000) (disch := first | omega | assumption | simp [*]) [*, -Int.not_le, -Int.not_lt, -Nat.not_le, -Nat.not_lt, -Nat.add_left_cancel_iff, wrap_i64, wrap_u64, isI_cells hu, isI_one hu, isI_low hu, isLL_cells hv, isLL_one hv, isLL_low hv, isI_cells hw, isI_one hw, isI_low hw, isI_noKey hw, farOff])
  refine cf_deep3 rfl rfl (hT1.keep hl3 fun x hx hx2 => by rw [hset_other _ _ (by omega)]) hI0 hOwn (flat_ints _) ?_
  intro g0 m2 hg0 hm2
  have hT2 := hT1.keep (h' := m2) hl3 fun x hx hx2 => by rw [hm2 x (by omega), hset_other _ _ (by omega)]
  have og := hg0.one
  have cg := hg0.cells
  have d1 := hm2 1 (by decide)
  have d4 := hm2 4 (by decide)
  have d6 := hm2 6 (by decide)
  have d7 := hm2 7 (by decide)
  have d12 := hm2 12 (by decide)
  simp [hset, c1, c4, c6, c7, c12] at d1 d4 d6 d7 d12
  clear hm2 c1 c4 c6 c7 c12 hT1
  have lg : ∀ h', h' 29 = m2 29 → low h' g0 = rowB 1 k0 (ints R) := fun h' e => (hg0.keep e).lowI
  repeat' (first | (apply brI <;> intro hb hb2 <;> (try simp [-Int.not_le, -Int.not_lt, -Nat.not_le, -Nat.not_lt, -Nat.add_left_cancel_iff] at hb2)) | simp (maxSteps := 2000000) (disch := first | omega | assumption | simp [*]) [*, -Int.not_le, -Int.not_lt, -Nat.not_le, -Nat.not_lt, -Nat.add_left_cancel_iff, wrap_i64, wrap_u64, isI_cells hu, isI_one hu, isI_low hu, isLL_cells hv, isLL_one hv, isLL_low hv, isI_cells hw, isI_one hw, isI_low hw, isI_noKey hw, farOff])
  refine draw_listK [6] [1, 0, 2, 0, 0] (by kernel_rfl) (by kernel_rfl) (by kernel_rfl) (by kernel_rfl) ?_
  repeat' (first | (apply brI <;> intro hb hb2 <;> (try simp [-Int.not_le, -Int.not_lt, -Nat.not_le, -Nat.not_lt, -Nat.add_left_cancel_iff] at hb2)) | simp (maxSteps := 2000000) (disch := first | omega | assumption | simp [*]) [*, -Int.not_le, -Int.not_lt, -Nat.not_le, -Nat.not_lt, -Nat.add_left_cancel_iff, wrap_i64, wrap_u64, isI_cells hu, isI_one hu, isI_low hu, isLL_cells hv, isLL_one hv, isLL_low hv, isI_cells hw, isI_one hw, isI_low hw, isI_noKey hw, farOff])
  refine cf_tab hu hv hlu hlv fun b2 a2 w2 m3 hb2 hT3 hf3 => ?_
  have B2 : 43000000000000000000000000 ≤ b2 := by unfold deepFar at hb2; omega
  clear hb2
  have ha2 := hT3.1.one
  have hc2 := hT3.1.cells
  have hw2 := hT3.2.one
  have hv2 := hT3.2.cells
  refine ⟨fun d hd => ?_, ?_⟩
  · obtain rfl := List.mem_singleton.1 hd
    exact hf3 _ (by omega)
  have e1 := hf3 1 (by omega)
  have e4 := hf3 4 (by omega)
  have e6 := hf3 6 (by omega)
  have e7 := hf3 7 (by omega)
  have e12 := hf3 12 (by omega)
  have e29 := hf3 29 (by omega)
  simp [hset, d1, d4, d6, d7, d12] at e1 e4 e6 e7 e12 e29
  have hT4 := hT2.keep (h' := m3) hl3 fun x hx hx2 => by rw [hf3 x (by omega), hset_other _ _ (by omega)]
  have hg1 := hg0.keep (h' := m3) e29
  clear hf3 d1 d4 d6 d7 d12 hT2
  repeat' (first | (apply brI <;> intro hb hb2 <;> (try simp [-Int.not_le, -Int.not_lt, -Nat.not_le, -Nat.not_lt, -Nat.add_left_cancel_iff] at hb2)) | simp (maxSteps := 2000000) (disch := first | omega | assumption | simp [*]) [*, -Int.not_le, -Int.not_lt, -Nat.not_le, -Nat.not_lt, -Nat.add_left_cancel_iff, wrap_i64, wrap_u64, isI_cells hu, isI_one hu, isI_low hu, isLL_cells hv, isLL_one hv, isLL_low hv, isI_cells hw, isI_one hw, isI_low hw, isI_noKey hw, farOff])
  refine cf_deep2 rfl rfl hT4 hT3 (by simpa using hE0) ?_
  clear hT3 hE0
  repeat' (first | (apply brI <;> intro hb hb2 <;> (try simp [-Int.not_le, -Int.not_lt, -Nat.not_le, -Nat.not_lt, -Nat.add_left_cancel_iff] at hb2)) | (refine draw_listA (by rfl) (by kernel_rfl) ?_) | (refine draw_listB (by simp [allocsOf, isAlloc]; rfl) (by kernel_rfl) ?_) | simp (maxSteps := 2000000) (disch := first | omega | assumption | simp [*]) [*, -Int.not_le, -Int.not_lt, -Nat.not_le, -Nat.not_lt, -Nat.add_left_cancel_iff, wrap_i64, wrap_u64, isI_cells hu, isI_one hu, isI_low hu, isLL_cells hv, isLL_one hv, isLL_low hv, isI_cells hw, isI_one hw, isI_low hw, isI_noKey hw, farOff])
  refine cf_open rfl rfl (markTable_o hT4.1 hT4.2 (by simp only [farOff]; omega) (by simp only [farOff]; omega) (by omega) (by decide) (by unfold szL at hsum; omega) hl3 fun m4 hm4 => ?_)
  have f1 := hm4 1 (by omega) (by simp [farOff])
  have f4 := hm4 4 (by omega) (by simp [farOff])
  have f7 := hm4 7 (by omega) (by simp [farOff])
  have f12 := hm4 12 (by omega) (by simp [farOff])
  have f29 := hm4 29 (by omega) (by simp [farOff])
  rw [e1] at f1
  rw [e4] at f4
  rw [e7] at f7
  rw [e12] at f12
  have hg2 := hg1.keep (h' := m4) f29
  have lg3 : ∀ h', h' 29 = m4 29 → low h' g0 = rowB 1 k0 (ints R) := fun h' e => (hg2.keep e).lowI
  have hk0 : ¬ (1 + ((xsOf u).length : Int) + (sumTo (xssOf v) (xssOf v).length : Int) < 0) := by omega
  clear hm4 lg e1 e4 e6 e7 e12 e29 hT4 hg0 f29 hg1
  repeat' (first | (apply brI <;> intro hb hb2 <;> (try simp [-Int.not_le, -Int.not_lt, -Nat.not_le, -Nat.not_lt, -Nat.add_left_cancel_iff] at hb2)) | (refine draw_listA (by rfl) (by kernel_rfl) ?_) | (refine draw_listB (by simp [allocsOf, isAlloc]; rfl) (by kernel_rfl) ?_) | simp (maxSteps := 2000000) (disch := first | omega | assumption | simp [*]) [*, -Int.not_le, -Int.not_lt, -Nat.not_le, -Nat.not_lt, -Nat.add_left_cancel_iff, wrap_i64, wrap_u64, isI_cells hu, isI_one hu, isI_low hu, isLL_cells hv, isLL_one hv, isLL_low hv, isI_cells hw, isI_one hw, isI_low hw, isI_noKey hw, farOff])
  refine cf_open rfl rfl (markContext_o (xs := R) (key := 29) (hg2.keep (by simp)) (by simp [farOff]) (by omega) (by omega) fun m5 hg3 hm5 => ?_)
  have g1 := hm5 1 (by omega) (by simp [farOff])
  have g4 := hm5 4 (by omega) (by simp [farOff])
  have g7 := hm5 7 (by omega) (by simp [farOff])
  have g12 := hm5 12 (by omega) (by simp [farOff])
  rw [f1] at g1
  rw [f4] at g4
  rw [f7] at g7
  rw [f12] at g12
  have hIu : IsI (rowB 1 k0 (ints (upTo 1 R.length))) := isI_rowB (by simpa using hRt)
  have hIl : 1 + (R.length : Int) ≤ 4611686018427387904 := by omega
  have hIp : ¬ (1 + (R.length : Int) < 0) := by omega
  have lg2 : ∀ h', h' 29 = m5 29 → low h' g0 = rowB 1 k0 (ints (upTo 1 R.length)) := fun h' e => (hg3.keep e).lowI
  clear hm5 lg3 f1 f4 f7 f12 hg2
  repeat' (first | (apply brI <;> intro hb hb2 <;> (try simp [-Int.not_le, -Int.not_lt, -Nat.not_le, -Nat.not_lt, -Nat.add_left_cancel_iff] at hb2)) | (refine draw_listA (by rfl) (by kernel_rfl) ?_) | (refine draw_listB (by simp [allocsOf, isAlloc]; rfl) (by kernel_rfl) ?_) | simp (maxSteps := 2000000) (disch := first | omega | assumption | simp [*]) [*, -Int.not_le, -Int.not_lt, -Nat.not_le, -Nat.not_lt, -Nat.add_left_cancel_iff, wrap_i64, wrap_u64, isI_cells hu, isI_one hu, isI_low hu, isLL_cells hv, isLL_one hv, isLL_low hv, isI_cells hw, isI_one hw, isI_low hw, isI_noKey hw, farOff])
  refine cf_tab hu hv hlu hlv fun b3 a3 w3 m6 hb3 hT5 hf6 => ?_
  have B3 : 75000000000000000000000000 ≤ b3 := by unfold deepFar at hb3; omega
  clear hb3
  have ha3 := hT5.1.one
  have hc3 := hT5.1.cells
  have hw3 := hT5.2.one
  have hv3 := hT5.2.cells
  have p1 := hf6 1 (by omega)
  have p4 := hf6 4 (by omega)
  have p7 := hf6 7 (by omega)
  have p12 := hf6 12 (by omega)
  have p29 := hf6 29 (by omega)
  simp [hset, g1, g4, g7, g12] at p1 p4 p7 p12 p29
  have lg4 : ∀ h', h' 29 = m6 29 → low h' g0 = rowB 1 k0 (ints (upTo 1 R.length)) := fun h' e => lg2 h' (e.trans p29)
  clear hf6 g1 g4 g7 g12
  repeat' (first | (apply brI <;> intro hb hb2 <;> (try simp [-Int.not_le, -Int.not_lt, -Nat.not_le, -Nat.not_lt, -Nat.add_left_cancel_iff] at hb2)) | (refine draw_listA (by rfl) (by kernel_rfl) ?_) | (refine draw_listB (by simp [allocsOf, isAlloc]; rfl) (by kernel_rfl) ?_) | simp (maxSteps := 2000000) (disch := first | omega | assumption | simp [*]) [*, -Int.not_le, -Int.not_lt, -Nat.not_le, -Nat.not_lt, -Nat.add_left_cancel_iff, wrap_i64, wrap_u64, isI_cells hu, isI_one hu, isI_low hu, isLL_cells hv, isLL_one hv, isLL_low hv, isI_cells hw, isI_one hw, isI_low hw, isI_noKey hw, farOff])
  refine cf_deep0 rfl rfl hT5 hI0 ?_
  clear hT5 hI0 lg2
  have oiw := isI_one hiw
  have ciw := isI_cells hiw
  repeat' (first | (apply brI <;> intro hb hb2 <;> (try simp [-Int.not_le, -Int.not_lt, -Nat.not_le, -Nat.not_lt, -Nat.add_left_cancel_iff] at hb2)) | (refine draw_listA (by rfl) (by kernel_rfl) ?_) | (refine draw_listB (by simp [allocsOf, isAlloc]; rfl) (by kernel_rfl) ?_) | simp (maxSteps := 2000000) (disch := first | omega | assumption | simp [*]) [*, -Int.not_le, -Int.not_lt, -Nat.not_le, -Nat.not_lt, -Nat.add_left_cancel_iff, wrap_i64, wrap_u64, hin, isI_low hiw, isI_noKey hiw, isI_cells hu, isI_one hu, isI_low hu, isLL_cells hv, isLL_one hv, isLL_low hv, isI_cells hw, isI_one hw, isI_low hw, isI_noKey hw, farOff])
theorem lawAgreementContext_s {u v : AV} (hu : IsI u) (hv : IsLL v) {K : AV → Prop} {tg : Tg K} : CW env 4 [.agg [u, v]] K tg ↔ K (.bool true) := callsTo_iff (lawAgreementContext_c hu hv)
attribute [simp] lawAgreementContext_s
end Go.Proofs.Ytppfgokonlloaaa
