/- Parts of contexts. Conditions: none. -/
import Derived.Test.YtliecnadoklgoaaGreatDoorBitA
import Derived.Test.YtliecnadoklgoaaGreatDoorExtI
namespace Go.Proofs.YtliecnadoklgoaaGreatDoor
open Ev
set_option linter.unusedVariables false
set_option linter.unusedSimpArgs false
set_option maxHeartbeats 4000000

theorem nth_appL {xs : List Int} {x : Int} {k : Nat} (h : k < xs.length) : nth (xs ++ [x]) k = nth xs k := by
  rw [nth_eq (by simp; omega), nth_eq h, List.getElem_append_left h]
theorem nth_appR {xs : List Int} {x : Int} : nth (xs ++ [x]) xs.length = x := by
  rw [nth_eq (by simp)]; simp
/-- a part of a set, numbered anew -/
def packP (s keep : Int) (e k : Nat) : Bool := PHas s (nth (elemsTo keep e) k).toNat
def packTo (s keep : Int) (e : Nat) : Int := setOf (packP s keep e) (elemsTo keep e).length
def Pack (s keep : Int) : Int := packTo s keep 8
theorem pack_no {s keep : Int} {e : Nat} (h : PHas keep e = false) : packTo s keep (e + 1) = packTo s keep e := by
  unfold packTo; rw [show elemsTo keep (e + 1) = elemsTo keep e by rw [elemsTo_succ, h]; simp]
  exact setOf_congr fun k _ => by unfold packP; rw [show elemsTo keep (e + 1) = elemsTo keep e by rw [elemsTo_succ, h]; simp]
theorem pack_yes {s keep : Int} {e : Nat} (hk : PSet 8 keep = true) (h : PHas keep e = true) : (elemsTo keep (e + 1)).length = (elemsTo keep e).length + 1 ∧
    (PHas s e = true → (((packTo s keep e).toNat ||| 2 ^ (elemsTo keep e).length : Nat) : Int) = packTo s keep (e + 1)) ∧ (PHas s e = false → packTo s keep e = packTo s keep (e + 1)) := by
  have e1 : elemsTo keep (e + 1) = elemsTo keep e ++ [(e : Int)] := by rw [elemsTo_succ, hk, h]; rfl
  have e2 : packTo s keep e = setOf (packP s keep (e + 1)) (elemsTo keep e).length := setOf_congr fun k hk => by unfold packP; rw [e1, nth_appL hk]
  have e3 : packTo s keep (e + 1) = setOf (packP s keep (e + 1)) ((elemsTo keep e).length + 1) := by unfold packTo; rw [show (elemsTo keep (e + 1)).length = (elemsTo keep e).length + 1 by rw [e1]; simp]
  have e4 : nth (elemsTo keep (e + 1)) (elemsTo keep e).length = (e : Int) := by rw [e1, nth_appR]
  refine ⟨by rw [e1]; simp, fun hs => ?_, fun hs => ?_⟩
  · rw [e2, e3]
    exact setOf_or _ _ (by unfold packP; rw [e4]; simpa using hs)
  · rw [e2, e3]
    exact setOf_skip _ _ (by unfold packP; rw [e4]; simpa using hs)
theorem pack_range (s keep : Int) (e : Nat) (h : e ≤ 8) : 0 ≤ packTo s keep e ∧ packTo s keep e < 256 := ⟨(setOf_range _ _).1, setOf_small _ (Nat.le_trans (elemsTo_len _ _) h)⟩
theorem l7Pack_c {s keep : Int} (hs : PSet 8 s = true) (hk : PSet 8 keep = true) : EvC env 123 [.int .i64 s, .int .i64 keep] (.int .i64 (Pack s keep)) := by
  refine evC_of (F := Tryz.f123) rfl rfl (Nat.le_of_ble_eq_true rfl) ?_
  have s1 := pset_lt hs
  have k1 := pset_lt hk
  repeat' (first | (apply brI <;> intro hb hb2 <;> (try simp [-Int.not_le, -Int.not_lt, -Nat.not_le, -Nat.not_lt, -Nat.add_left_cancel_iff] at hb2)) | (refine draw_listA (by rfl) (by kernel_rfl) ?_) | (refine draw_listB (by simp [allocsOf, isAlloc]; rfl) (by kernel_rfl) ?_) | simp (maxSteps := 2000000) (disch := first | omega | assumption | simp [*]) [*, -Int.not_le, -Int.not_lt, -Nat.not_le, -Nat.not_lt, -Nat.add_left_cancel_iff, wrap_i64, wrap_u64, Tryz.f123])
  refine W_loopP 8 (fun e st => st 7 = .int .i64 e ∧ st 0 = .int .i64 s ∧ st 1 = .int .i64 keep ∧ st 5 = .int .i64 (packTo s keep e) ∧ st 6 = .int .i64 (elemsTo keep e).length) rfl ?_ ?_
  · simp [packTo, elemsTo, setOf]
  rintro e st he ⟨h7, h0, h1, h5, h6⟩
  have pr := pack_range s keep e he
  have hl := elemsTo_len keep e
  have hpw := pow_small (i := (elemsTo keep e).length) (by omega)
  by_cases he2 : e < 8
  · have he3 : (e : Int) < 8 := by omega
    cases hp : PHas keep e with
    | false =>
      have h9 := pack_no (s := s) hp
      have h10 : elemsTo keep (e + 1) = elemsTo keep e := by rw [elemsTo_succ, hp]; simp
      repeat' (first | (apply brI <;> intro hb hb2 <;> (try simp [-Int.not_le, -Int.not_lt, -Nat.not_le, -Nat.not_lt, -Nat.add_left_cancel_iff] at hb2)) | (refine draw_listA (by rfl) (by kernel_rfl) ?_) | (refine draw_listB (by simp [allocsOf, isAlloc]; rfl) (by kernel_rfl) ?_) | simp (maxSteps := 2000000) (disch := first | omega | assumption | simp [*]) [*, -Int.not_le, -Int.not_lt, -Nat.not_le, -Nat.not_lt, -Nat.add_left_cancel_iff, wrap_i64, wrap_u64, h7, h0, h1, h5, h6])
    | true =>
      obtain ⟨q1, q2, q3⟩ := pack_yes (s := s) hk hp
      cases hq : PHas s e with
      | false =>
        have q3 := q3 hq
        clear q2
        repeat' (first | (apply brI <;> intro hb hb2 <;> (try simp [-Int.not_le, -Int.not_lt, -Nat.not_le, -Nat.not_lt, -Nat.add_left_cancel_iff] at hb2)) | (refine draw_listA (by rfl) (by kernel_rfl) ?_) | (refine draw_listB (by simp [allocsOf, isAlloc]; rfl) (by kernel_rfl) ?_) | simp (maxSteps := 2000000) (disch := first | omega | assumption | simp [*]) [*, -Int.not_le, -Int.not_lt, -Nat.not_le, -Nat.not_lt, -Nat.add_left_cancel_iff, wrap_i64, wrap_u64, h7, h0, h1, h5, h6])
      | true =>
        have q2 := q2 hq
        clear q3
        repeat' (first | (apply brI <;> intro hb hb2 <;> (try simp [-Int.not_le, -Int.not_lt, -Nat.not_le, -Nat.not_lt, -Nat.add_left_cancel_iff] at hb2)) | (refine draw_listA (by rfl) (by kernel_rfl) ?_) | (refine draw_listB (by simp [allocsOf, isAlloc]; rfl) (by kernel_rfl) ?_) | simp (maxSteps := 2000000) (disch := first | omega | assumption | simp [*]) [*, -Int.not_le, -Int.not_lt, -Nat.not_le, -Nat.not_lt, -Nat.add_left_cancel_iff, wrap_i64, wrap_u64, h7, h0, h1, h5, h6, bits_or, pow_toNat])
  · obtain rfl : e = 8 := by omega
    repeat' (first | (apply brI <;> intro hb hb2 <;> (try simp [-Int.not_le, -Int.not_lt, -Nat.not_le, -Nat.not_lt, -Nat.add_left_cancel_iff] at hb2)) | (refine draw_listA (by rfl) (by kernel_rfl) ?_) | (refine draw_listB (by simp [allocsOf, isAlloc]; rfl) (by kernel_rfl) ?_) | simp (maxSteps := 2000000) (disch := first | omega | assumption | simp [*]) [*, -Int.not_le, -Int.not_lt, -Nat.not_le, -Nat.not_lt, -Nat.add_left_cancel_iff, wrap_i64, wrap_u64, h7, h0, h1, h5, h6])
    rfl
theorem l7Pack_s {s keep : Int} (hs : PSet 8 s = true) (hk : PSet 8 keep = true) {K : AV → Prop} {tg : Tg K} : CW env 123 [.int .i64 s, .int .i64 keep] K tg ↔ K (.int .i64 (Pack s keep)) := callsTo_iff (l7Pack_c hs hk)
attribute [simp] l7Pack_s
theorem renumbered_c {s keep : Int} (hs : PSet 8 s = true) (hk : PSet 8 keep = true) : EvC env 114 [.int .i64 s, .int .i64 keep] (.int .i64 (Pack s keep)) := by
  refine evC_of (F := Tryz.f114) rfl rfl (Nat.le_of_ble_eq_true rfl) ?_
  have s1 := pset_lt hs
  have hE : IsI (bufC 1 (elemsTo keep 8)) := isI_bufC (Nat.le_trans (elemsTo_len _ _) (by decide))
  have he := elems_nat keep
  repeat' (first | (apply brI <;> intro hb hb2 <;> (try simp [-Int.not_le, -Int.not_lt, -Nat.not_le, -Nat.not_lt, -Nat.add_left_cancel_iff] at hb2)) | (refine draw_listA (by rfl) (by kernel_rfl) ?_) | (refine draw_listB (by simp [allocsOf, isAlloc]; rfl) (by kernel_rfl) ?_) | simp (maxSteps := 2000000) (disch := first | omega | assumption | simp [*]) [*, -Int.not_le, -Int.not_lt, -Nat.not_le, -Nat.not_lt, -Nat.add_left_cancel_iff, wrap_i64, wrap_u64, Tryz.f114, isI_len hE])
  refine W_loopP (elemsTo keep 8).length (fun k st => st 11 = .int .i64 k ∧ st 10 = .int .i64 (elemsTo keep 8).length ∧ st 9 = bufC 1 (elemsTo keep 8) ∧ st 0 = .int .i64 s ∧ st 5 = .int .i64 (setOf (packP s keep 8) k)) rfl ?_ ?_
  · simp [setOf]
  rintro k st hk2 ⟨h11, h10, h9, h0, h5⟩
  by_cases hk3 : k < (elemsTo keep 8).length
  · obtain ⟨g, hg, hg8, _, hgp⟩ := mem_elems hk3
    have r2 := setOf_range (packP s keep 8) k
    have r3 := setOf_small (packP s keep 8) (n := k) (by omega)
    have hb : 0 ≤ s / 2 ^ g % 2 ∧ s / 2 ^ g % 2 ≤ 1 := by omega
    have hsm := mul_pow_le (y := s / 2 ^ g % 2) (n := k) hb.1 (by omega) (by omega)
    simp only [Int.toNat_natCast] at hsm
    have ho := setOf_or2 (packP s keep 8) k (s / 2 ^ g % 2) (by unfold packP; rw [hg]; simp [PHas]; omega)
    repeat' (first | (apply brI <;> intro hb hb2 <;> (try simp [-Int.not_le, -Int.not_lt, -Nat.not_le, -Nat.not_lt, -Nat.add_left_cancel_iff] at hb2)) | (refine draw_listA (by rfl) (by kernel_rfl) ?_) | (refine draw_listB (by simp [allocsOf, isAlloc]; rfl) (by kernel_rfl) ?_) | simp (maxSteps := 2000000) (disch := first | omega | assumption | simp [*]) [*, -Int.not_le, -Int.not_lt, -Nat.not_le, -Nat.not_lt, -Nat.add_left_cancel_iff, wrap_i64, wrap_u64, h11, h10, h9, h0, h5, bits_or, isI_len hE, isI_index hE, isI_load hE])
  · obtain rfl : k = (elemsTo keep 8).length := by omega
    repeat' (first | (apply brI <;> intro hb hb2 <;> (try simp [-Int.not_le, -Int.not_lt, -Nat.not_le, -Nat.not_lt, -Nat.add_left_cancel_iff] at hb2)) | (refine draw_listA (by rfl) (by kernel_rfl) ?_) | (refine draw_listB (by simp [allocsOf, isAlloc]; rfl) (by kernel_rfl) ?_) | simp (maxSteps := 2000000) (disch := first | omega | assumption | simp [*]) [*, -Int.not_le, -Int.not_lt, -Nat.not_le, -Nat.not_lt, -Nat.add_left_cancel_iff, wrap_i64, wrap_u64, h11, h10, h9, h0, h5])
    rfl
theorem renumbered_s {s keep : Int} (hs : PSet 8 s = true) (hk : PSet 8 keep = true) {K : AV → Prop} {tg : Tg K} : CW env 114 [.int .i64 s, .int .i64 keep] K tg ↔ K (.int .i64 (Pack s keep)) := callsTo_iff (renumbered_c hs hk)
attribute [simp] renumbered_s
def subTo (xs : List Int) (o keep : Int) : Nat → List Int
  | 0 => []
  | k + 1 => subTo xs o keep k ++ if PHas o k = true then [Pack (nth xs k) keep] else []
theorem subTo_len (xs : List Int) (o keep : Int) (k : Nat) : (subTo xs o keep k).length ≤ k := by
  induction k with
  | zero => exact Nat.le_refl _
  | succ k ih => simp only [subTo, List.length_append]; split <;> simp <;> omega
theorem subTo_congr {xs : List Int} {o o' keep : Int} : ∀ (k : Nat), (∀ g, g < k → PHas o g = PHas o' g) → subTo xs o keep k = subTo xs o' keep k
  | 0, _ => rfl
  | k + 1, h => by simp only [subTo]; rw [subTo_congr k fun g hg => h g (by omega), h k (by omega)]
/-- the others of the first N -/
def cmpS (N : Nat) (e : Int) : Int := setOf (fun i => !PHas e i) N
theorem cmp_pset {N : Nat} (e : Int) (h : N ≤ 8) : PSet N (cmpS N e) = true := setOf_pset _ h
theorem cmp_cmp {N : Nat} {e : Int} (he : PSet N e = true) : cmpS N (cmpS N e) = e := by
  have h : cmpS N (cmpS N e) = setOf (fun i => PHas e i) N := setOf_congr fun i hi => by unfold cmpS; rw [setOf_has]; simp [hi]
  rw [h, ← setOf_self he]
theorem cmp_diff {N : Nat} {e : Int} (he : PSet N e = true) : ((diff (((2 : Int) ^ N).toNat - 1) e.toNat : Nat) : Int) = cmpS N e := by
  rw [show ((2 : Int) ^ N).toNat - 1 = ((2 : Int) ^ N - 1).toNat by omega]
  have h := setOf_diff (fun _ => true) (fun i => PHas e i) N
  rw [setOf_full, ← setOf_self he] at h
  rw [h]
  exact setOf_congr fun i _ => by simp
theorem full_range {N : Nat} (h : N ≤ 8) : 0 ≤ (2 : Int) ^ N - 1 ∧ (2 : Int) ^ N - 1 < 256 := by have := pow_small h; omega
def SubC (n : Int) (xs : List Int) (o a : Int) : Prop := PCtx n xs ∧ PSet xs.length o = true ∧ PSet n a = true
noncomputable instance (n : Int) (xs : List Int) (a b : Int) : Decidable (SubC n xs a b) := Classical.propDecidable _
theorem without_c {N : Nat} {d e : Int} {v : AV} (hv : IsI v) (hc : PCtx N (xsOf v)) (hd : PSet (xsOf v).length d = true) (he : PSet N e = true) : EvC env 118 [.agg [.int .i64 N, v], .int .i64 d, .int .i64 e] (.agg [.int .i64 (elemsTo (cmpS N e) 8).length, bufR 3 37 0 (subTo (xsOf v) (cmpS (xsOf v).length d) (cmpS N e) (xsOf v).length)]) := by
  refine evC_of (F := Tryz.f118) rfl rfl (Nat.le_of_ble_eq_true rfl) ?_
  have hl := hc.2.2.1
  have hn := hc.2.1
  have hN8 : N ≤ 8 := by omega
  have hN8' : (N : Int) ≤ 8 := by omega
  have d8 := pset8 hd
  have e1 := pset_lt he
  have fr := full_range hN8
  have hcd := cmp_diff he
  have c8 := pset8 (cmp_pset (N := N) e hN8)
  have c1 := pset_lt c8
  have hel := elems_nat (cmpS N e)
  repeat' (first | (apply brI <;> intro hb hb2 <;> (try simp [-Int.not_le, -Int.not_lt, -Nat.not_le, -Nat.not_lt, -Nat.add_left_cancel_iff] at hb2)) | (refine draw_listA (by rfl) (by kernel_rfl) ?_) | (refine draw_listB (by simp [allocsOf, isAlloc]; rfl) (by kernel_rfl) ?_) | simp (maxSteps := 2000000) (disch := first | omega | assumption | simp [*]) [*, -Int.not_le, -Int.not_lt, -Nat.not_le, -Nat.not_lt, -Nat.add_left_cancel_iff, wrap_i64, wrap_u64, Tryz.f118, bits_andNot, isI_cells hv, isI_one hv, isI_low hv, isI_len hv, isI_index hv, isI_load hv])
  refine W_loopG (xsOf v).length (fun i s h => s 22 = .int .i64 i ∧ s 21 = .int .i64 (xsOf v).length ∧ s 20 = v ∧ s 1 = .int .i64 d ∧ s 7 = .int .i64 (cmpS N e) ∧ s 6 = .vp 6 0 0 ∧ s 8 = .vp 8 0 0 ∧
    h 6 = some (.var 0 26 (.agg [.int .i64 0, .sl 0 .lit []])) ∧
    ∃ b, h 8 = some (.var 0 26 (.agg [.int .i64 (elemsTo (cmpS N e) 8).length, b])) ∧ Buf h 3 37 0 b (subTo (xsOf v) (cmpS (xsOf v).length d) (cmpS N e) i)) ?_ ?_
  · simp; exact buf_nil ..
  rintro i s h hi ⟨h22, h21, h20, h1, h7, h6, h8, e6, b, e8, hB⟩
  have o1 := hB.one
  have cc := hB.cells
  by_cases hi2 : i < (xsOf v).length
  · have hl2 := subTo_len (xsOf v) (cmpS (xsOf v).length d) (cmpS N e) i
    have hp8 := pset8 (hc.2.2.2 i hi2)
    have hi7 : (i : Int) ≤ 7 := by omega
    have hcm : PHas (cmpS (xsOf v).length d) i = !PHas d i := by unfold cmpS; rw [setOf_has]; simp [hi2]
    cases hp : PHas d i with
    | true =>
      have hst : subTo (xsOf v) (cmpS (xsOf v).length d) (cmpS N e) (i + 1) = subTo (xsOf v) (cmpS (xsOf v).length d) (cmpS N e) i := by simp [subTo, hcm, hp]
      repeat' (first | (apply brI <;> intro hb hb2 <;> (try simp [-Int.not_le, -Int.not_lt, -Nat.not_le, -Nat.not_lt, -Nat.add_left_cancel_iff] at hb2)) | (refine draw_listA (by rfl) (by kernel_rfl) ?_) | (refine draw_listB (by simp [allocsOf, isAlloc]; rfl) (by kernel_rfl) ?_) | simp (maxSteps := 2000000) (disch := first | omega | assumption | simp [*]) [*, -Int.not_le, -Int.not_lt, -Nat.not_le, -Nat.not_lt, -Nat.add_left_cancel_iff, wrap_i64, wrap_u64, h22, h21, h20, h1, h7, h6, h8, e6, e8, isI_cells hv, isI_one hv, isI_low hv, isI_len hv, isI_index hv, isI_load hv])
    | false =>
      have hst : subTo (xsOf v) (cmpS (xsOf v).length d) (cmpS N e) (i + 1) = subTo (xsOf v) (cmpS (xsOf v).length d) (cmpS N e) i ++ [Pack (nth (xsOf v) i) (cmpS N e)] := by simp [subTo, hcm, hp]
      have pr := pack_range (nth (xsOf v) i) (cmpS N e) 8 (by omega)
      repeat' (first | (apply brI <;> intro hb hb2 <;> (try simp [-Int.not_le, -Int.not_lt, -Nat.not_le, -Nat.not_lt, -Nat.add_left_cancel_iff] at hb2)) | (refine draw_listA (by rfl) (by kernel_rfl) ?_) | (refine draw_listB (by simp [allocsOf, isAlloc]; rfl) (by kernel_rfl) ?_) | simp (maxSteps := 2000000) (disch := first | omega | assumption | simp [*]) [*, -Int.not_le, -Int.not_lt, -Nat.not_le, -Nat.not_lt, -Nat.add_left_cancel_iff, wrap_i64, wrap_u64, h22, h21, h20, h1, h7, h6, h8, e6, e8, isI_cells hv, isI_one hv, isI_low hv, isI_len hv, isI_index hv, isI_load hv])
      refine wa_push hB (by simp) (by simp) (by omega) ?_
      intro v2 h2' hB2 hk2
      have o2 := hB2.one
      have c2 := hB2.cells
      repeat' (first | (apply brI <;> intro hb hb2 <;> (try simp [-Int.not_le, -Int.not_lt, -Nat.not_le, -Nat.not_lt, -Nat.add_left_cancel_iff] at hb2)) | (refine draw_listA (by rfl) (by kernel_rfl) ?_) | (refine draw_listB (by simp [allocsOf, isAlloc]; rfl) (by kernel_rfl) ?_) | simp (maxSteps := 2000000) (disch := first | omega | assumption | simp [*]) [*, -Int.not_le, -Int.not_lt, -Nat.not_le, -Nat.not_lt, -Nat.add_left_cancel_iff, wrap_i64, wrap_u64, h22, h21, h20, h1, h7, h6, h8, e6, e8, isI_cells hv])
      exact hB2.keep (by simp [hset])
  · obtain rfl : i = (xsOf v).length := by omega
    repeat' (first | (apply brI <;> intro hb hb2 <;> (try simp [-Int.not_le, -Int.not_lt, -Nat.not_le, -Nat.not_lt, -Nat.add_left_cancel_iff] at hb2)) | (refine draw_listA (by rfl) (by kernel_rfl) ?_) | (refine draw_listB (by simp [allocsOf, isAlloc]; rfl) (by kernel_rfl) ?_) | simp (maxSteps := 2000000) (disch := first | omega | assumption | simp [*]) [*, -Int.not_le, -Int.not_lt, -Nat.not_le, -Nat.not_lt, -Nat.add_left_cancel_iff, wrap_i64, wrap_u64, h22, h21, h20, h1, h7, h6, h8, e6, e8, isI_cells hv, isI_one hv, isI_low hv, isI_len hv])
    exact (hB.keep (by simp [hset])).expo
theorem without_s {N : Nat} {d e : Int} {v : AV} (hv : IsI v) (hc : PCtx N (xsOf v)) (hd : PSet (xsOf v).length d = true) (he : PSet N e = true) {K : AV → Prop} {tg : Tg K} : CW env 118 [.agg [.int .i64 N, v], .int .i64 d, .int .i64 e] K tg ↔ K (.agg [.int .i64 (elemsTo (cmpS N e) 8).length, bufR 3 37 0 (subTo (xsOf v) (cmpS (xsOf v).length d) (cmpS N e) (xsOf v).length)]) := callsTo_iff (without_c hv hc hd he)
attribute [simp] without_s
noncomputable def subR (n : Int) (xs : List Int) (o a : Int) : List Int := if SubC n xs o a then subTo xs o a xs.length else []
noncomputable def subN (n : Int) (xs : List Int) (o a : Int) : Int := if SubC n xs o a then (elemsTo a 8).length else 0
theorem subR_len (n : Int) (xs : List Int) (o a : Int) : (subR n xs o a).length ≤ 8 := by
  unfold subR; split
  · rename_i h; exact Nat.le_trans (subTo_len _ _ _ _) h.1.2.2.1
  · simp
theorem sSubContext_c {n o a : Int} {v : AV} (hv : IsI v) : EvC env 33 [.agg [.int .i64 n, v], .int .i64 o, .int .i64 a] (.tup [.agg [.int .i64 (subN n (xsOf v) o a), bufR 3 39 0 (subR n (xsOf v) o a)], .bool (decide (SubC n (xsOf v) o a))]) := by
  refine evC_of (F := Tryz.f33) rfl rfl (Nat.le_of_ble_eq_true rfl) ?_
  by_cases hp : PCtx n (xsOf v)
  · by_cases ho : PSet (xsOf v).length o = true
    · by_cases ha : PSet n a = true
      · obtain ⟨N, rfl⟩ : ∃ N : Nat, n = N := ⟨n.toNat, by have := hp.1; omega⟩
        have hc : SubC N (xsOf v) o a := ⟨hp, ho, ha⟩
        have hl := hp.2.2.1
        have hN8 : N ≤ 8 := by have := hp.2.1; omega
        have o1 := pset_lt ho
        have a8 := pset8 ha
        have hel := elems_nat a
        have r1 : subR N (xsOf v) o a = subTo (xsOf v) o a (xsOf v).length := by simp [subR, hc]
        have r2 : subN N (xsOf v) o a = (elemsTo a 8).length := by simp [subN, hc]
        rw [r1, r2]
        repeat' (first | (apply brI <;> intro hb hb2 <;> (try simp [-Int.not_le, -Int.not_lt, -Nat.not_le, -Nat.not_lt, -Nat.add_left_cancel_iff] at hb2)) | (refine draw_listA (by rfl) (by kernel_rfl) ?_) | (refine draw_listB (by simp [allocsOf, isAlloc]; rfl) (by kernel_rfl) ?_) | simp (maxSteps := 2000000) (disch := first | omega | assumption | simp [*]) [*, -Int.not_le, -Int.not_lt, -Nat.not_le, -Nat.not_lt, -Nat.add_left_cancel_iff, wrap_i64, wrap_u64, Tryz.f33, isI_cells hv, isI_one hv, isI_low hv, isI_len hv])
        refine W_loopG (xsOf v).length (fun i s h => s 9 = .int .i64 i ∧ s 1 = .int .i64 o ∧ s 2 = .int .i64 a ∧ s 3 = .vp 3 0 0 ∧ s 6 = .vp 6 0 0 ∧ s 8 = .vp 8 0 0 ∧ h 3 = some (.var 0 26 (.agg [.int .i64 N, v])) ∧
          h 6 = some (.var 0 26 (.agg [.int .i64 0, .sl 0 .lit []])) ∧
          ∃ b, h 8 = some (.var 0 26 (.agg [.int .i64 (elemsTo a 8).length, b])) ∧ Buf h 3 39 0 b (subTo (xsOf v) o a i)) ?_ ?_
        · simp; exact buf_nil ..
        rintro i s h hi ⟨h9, h1, h2, h3, h6, h8, e3, e6, b, e8, hB⟩
        have ob := hB.one
        have cc := hB.cells
        by_cases hi2 : i < (xsOf v).length
        · have hl2 := subTo_len (xsOf v) o a i
          have hp8 := pset8 (hp.2.2.2 i hi2)
          cases hpi : PHas o i with
          | false =>
            have hst : subTo (xsOf v) o a (i + 1) = subTo (xsOf v) o a i := by simp [subTo, hpi]
            repeat' (first | (apply brI <;> intro hb hb2 <;> (try simp [-Int.not_le, -Int.not_lt, -Nat.not_le, -Nat.not_lt, -Nat.add_left_cancel_iff] at hb2)) | (refine draw_listA (by rfl) (by kernel_rfl) ?_) | (refine draw_listB (by simp [allocsOf, isAlloc]; rfl) (by kernel_rfl) ?_) | simp (maxSteps := 2000000) (disch := first | omega | assumption | simp [*]) [*, -Int.not_le, -Int.not_lt, -Nat.not_le, -Nat.not_lt, -Nat.add_left_cancel_iff, wrap_i64, wrap_u64, h9, h1, h2, h3, h6, h8, e3, e6, e8, isI_cells hv, isI_one hv, isI_low hv, isI_len hv, isI_index hv, isI_load hv])
          | true =>
            have hst : subTo (xsOf v) o a (i + 1) = subTo (xsOf v) o a i ++ [Pack (nth (xsOf v) i) a] := by simp [subTo, hpi]
            have pr := pack_range (nth (xsOf v) i) a 8 (by omega)
            repeat' (first | (apply brI <;> intro hb hb2 <;> (try simp [-Int.not_le, -Int.not_lt, -Nat.not_le, -Nat.not_lt, -Nat.add_left_cancel_iff] at hb2)) | (refine draw_listA (by rfl) (by kernel_rfl) ?_) | (refine draw_listB (by simp [allocsOf, isAlloc]; rfl) (by kernel_rfl) ?_) | simp (maxSteps := 2000000) (disch := first | omega | assumption | simp [*]) [*, -Int.not_le, -Int.not_lt, -Nat.not_le, -Nat.not_lt, -Nat.add_left_cancel_iff, wrap_i64, wrap_u64, h9, h1, h2, h3, h6, h8, e3, e6, e8, isI_cells hv, isI_one hv, isI_low hv, isI_len hv, isI_index hv, isI_load hv])
            refine wa_push hB (by simp) (by simp) (by omega) ?_
            intro v2 h2' hB2 hk2
            have o2 := hB2.one
            have c2 := hB2.cells
            repeat' (first | (apply brI <;> intro hb hb2 <;> (try simp [-Int.not_le, -Int.not_lt, -Nat.not_le, -Nat.not_lt, -Nat.add_left_cancel_iff] at hb2)) | (refine draw_listA (by rfl) (by kernel_rfl) ?_) | (refine draw_listB (by simp [allocsOf, isAlloc]; rfl) (by kernel_rfl) ?_) | simp (maxSteps := 2000000) (disch := first | omega | assumption | simp [*]) [*, -Int.not_le, -Int.not_lt, -Nat.not_le, -Nat.not_lt, -Nat.add_left_cancel_iff, wrap_i64, wrap_u64, h9, h1, h2, h3, h6, h8, e3, e6, e8, isI_cells hv])
            exact hB2.keep (by simp [hset])
        · obtain rfl : i = (xsOf v).length := by omega
          repeat' (first | (apply brI <;> intro hb hb2 <;> (try simp [-Int.not_le, -Int.not_lt, -Nat.not_le, -Nat.not_lt, -Nat.add_left_cancel_iff] at hb2)) | (refine draw_listA (by rfl) (by kernel_rfl) ?_) | (refine draw_listB (by simp [allocsOf, isAlloc]; rfl) (by kernel_rfl) ?_) | simp (maxSteps := 2000000) (disch := first | omega | assumption | simp [*]) [*, -Int.not_le, -Int.not_lt, -Nat.not_le, -Nat.not_lt, -Nat.add_left_cancel_iff, wrap_i64, wrap_u64, h9, h1, h2, h3, h6, h8, e3, e6, e8, isI_cells hv, isI_one hv, isI_low hv, isI_len hv])
          exact (hB.keep (by simp [hset])).expo
      · have hc : ¬ SubC n (xsOf v) o a := fun h => ha h.2.2
        have r1 : subR n (xsOf v) o a = [] := by simp [subR, hc]
        have r2 : subN n (xsOf v) o a = 0 := by simp [subN, hc]
        repeat' (first | (apply brI <;> intro hb hb2 <;> (try simp [-Int.not_le, -Int.not_lt, -Nat.not_le, -Nat.not_lt, -Nat.add_left_cancel_iff] at hb2)) | (refine draw_listA (by rfl) (by kernel_rfl) ?_) | (refine draw_listB (by simp [allocsOf, isAlloc]; rfl) (by kernel_rfl) ?_) | simp (maxSteps := 2000000) (disch := first | omega | assumption | simp [*]) [*, -Int.not_le, -Int.not_lt, -Nat.not_le, -Nat.not_lt, -Nat.add_left_cancel_iff, wrap_i64, wrap_u64, Tryz.f33, isI_cells hv, isI_one hv, isI_low hv, isI_len hv])
    · have hc : ¬ SubC n (xsOf v) o a := fun h => ho h.2.1
      have r1 : subR n (xsOf v) o a = [] := by simp [subR, hc]
      have r2 : subN n (xsOf v) o a = 0 := by simp [subN, hc]
      repeat' (first | (apply brI <;> intro hb hb2 <;> (try simp [-Int.not_le, -Int.not_lt, -Nat.not_le, -Nat.not_lt, -Nat.add_left_cancel_iff] at hb2)) | (refine draw_listA (by rfl) (by kernel_rfl) ?_) | (refine draw_listB (by simp [allocsOf, isAlloc]; rfl) (by kernel_rfl) ?_) | simp (maxSteps := 2000000) (disch := first | omega | assumption | simp [*]) [*, -Int.not_le, -Int.not_lt, -Nat.not_le, -Nat.not_lt, -Nat.add_left_cancel_iff, wrap_i64, wrap_u64, Tryz.f33, isI_cells hv, isI_one hv, isI_low hv, isI_len hv])
  · have hc : ¬ SubC n (xsOf v) o a := fun h => hp h.1
    have r1 : subR n (xsOf v) o a = [] := by simp [subR, hc]
    have r2 : subN n (xsOf v) o a = 0 := by simp [subN, hc]
    repeat' (first | (apply brI <;> intro hb hb2 <;> (try simp [-Int.not_le, -Int.not_lt, -Nat.not_le, -Nat.not_lt, -Nat.add_left_cancel_iff] at hb2)) | (refine draw_listA (by rfl) (by kernel_rfl) ?_) | (refine draw_listB (by simp [allocsOf, isAlloc]; rfl) (by kernel_rfl) ?_) | simp (maxSteps := 2000000) (disch := first | omega | assumption | simp [*]) [*, -Int.not_le, -Int.not_lt, -Nat.not_le, -Nat.not_lt, -Nat.add_left_cancel_iff, wrap_i64, wrap_u64, Tryz.f33, isI_cells hv, isI_one hv, isI_low hv, isI_len hv])
theorem sSubContext_s {n o a : Int} {v : AV} (hv : IsI v) {K : AV → Prop} {tg : Tg K} : CW env 33 [.agg [.int .i64 n, v], .int .i64 o, .int .i64 a] K tg ↔ K (.tup [.agg [.int .i64 (subN n (xsOf v) o a), bufR 3 39 0 (subR n (xsOf v) o a)], .bool (decide (SubC n (xsOf v) o a))]) := callsTo_iff (sSubContext_c hv)
attribute [simp] sSubContext_s
/-- the program's row, where the context is none -/
noncomputable def subV (T : Nat) (n : Int) (xs : List Int) (o a : Int) : AV := if SubC n xs o a then rowX 1 0 T 31 (ints (subTo xs o a xs.length)) else .sl 0 .lit []
theorem iSubContext_c {n o a : Int} {v : AV} (hv : IsI v) : EvC env 32 [.agg [.int .i64 n, v], .int .i64 o, .int .i64 a] (.tup [.agg [.int .i64 (subN n (xsOf v) o a), subV 3 n (xsOf v) o a], .bool (decide (SubC n (xsOf v) o a))]) := by
  refine evC_of (F := Tryz.f32) rfl rfl (Nat.le_of_ble_eq_true rfl) ?_
  by_cases hp : PCtx n (xsOf v)
  · by_cases ho : PSet (xsOf v).length o = true
    · by_cases ha : PSet n a = true
      · obtain ⟨N, rfl⟩ : ∃ N : Nat, n = N := ⟨n.toNat, by have := hp.1; omega⟩
        have hc : SubC N (xsOf v) o a := ⟨hp, ho, ha⟩
        have hl := hp.2.2.1
        have hN8 : N ≤ 8 := by have := hp.2.1; omega
        have hN8' : (N : Int) ≤ 8 := by omega
        have hl' : ((xsOf v).length : Int) ≤ 8 := by omega
        have o1 := pset_lt ho
        have a1 := pset_lt ha
        have r1 : subV 3 N (xsOf v) o a = rowX 1 0 3 31 (ints (subTo (xsOf v) o a (xsOf v).length)) := by simp [subV, hc]
        have r2 : subN N (xsOf v) o a = (elemsTo a 8).length := by simp [subN, hc]
        have f1 := full_range hN8
        have f2 := full_range hl
        have c1 := cmp_diff ho
        have c2 := cmp_diff ha
        have p1 := cmp_pset (N := (xsOf v).length) o hl
        have p2 := cmp_pset (N := N) a hN8
        have hw := without_c (v := v) hv hp p1 p2
        rw [cmp_cmp ho, cmp_cmp ha] at hw
        rw [r1, r2]
        repeat' (first | (apply brI <;> intro hb hb2 <;> (try simp [-Int.not_le, -Int.not_lt, -Nat.not_le, -Nat.not_lt, -Nat.add_left_cancel_iff] at hb2)) | (refine draw_listA (by rfl) (by kernel_rfl) ?_) | (refine draw_listB (by simp [allocsOf, isAlloc]; rfl) (by kernel_rfl) ?_) | simp (maxSteps := 2000000) (disch := first | omega | assumption | simp [*]) [*, -Int.not_le, -Int.not_lt, -Nat.not_le, -Nat.not_lt, -Nat.add_left_cancel_iff, wrap_i64, wrap_u64, Tryz.f32, bits_andNot, isI_cells hv, isI_one hv, isI_low hv, isI_len hv])
        refine cf_ctx (by simpa [isI_low hv] using hw) (ownR_buf ..) (by simp) rfl ?_
        intro v2 h2 hR hh
        have q2 := hR.one
        have q3 := hR.cells
        repeat' (first | (apply brI <;> intro hb hb2 <;> (try simp [-Int.not_le, -Int.not_lt, -Nat.not_le, -Nat.not_lt, -Nat.add_left_cancel_iff] at hb2)) | (refine draw_listA (by rfl) (by kernel_rfl) ?_) | (refine draw_listB (by simp [allocsOf, isAlloc]; rfl) (by kernel_rfl) ?_) | simp (maxSteps := 2000000) (disch := first | omega | assumption | simp [*]) [*, -Int.not_le, -Int.not_lt, -Nat.not_le, -Nat.not_lt, -Nat.add_left_cancel_iff, wrap_i64, wrap_u64, isI_cells hv, isI_one hv, isI_low hv])
        exact (hR.keep (by simp [hset])).expoI
      · have hc : ¬ SubC n (xsOf v) o a := fun h => ha h.2.2
        have r1 : subV 3 n (xsOf v) o a = .sl 0 .lit [] := by simp [subV, hc]
        have r2 : subN n (xsOf v) o a = 0 := by simp [subN, hc]
        repeat' (first | (apply brI <;> intro hb hb2 <;> (try simp [-Int.not_le, -Int.not_lt, -Nat.not_le, -Nat.not_lt, -Nat.add_left_cancel_iff] at hb2)) | (refine draw_listA (by rfl) (by kernel_rfl) ?_) | (refine draw_listB (by simp [allocsOf, isAlloc]; rfl) (by kernel_rfl) ?_) | simp (maxSteps := 2000000) (disch := first | omega | assumption | simp [*]) [*, -Int.not_le, -Int.not_lt, -Nat.not_le, -Nat.not_lt, -Nat.add_left_cancel_iff, wrap_i64, wrap_u64, Tryz.f32, isI_cells hv, isI_one hv, isI_low hv, isI_len hv])
    · have hc : ¬ SubC n (xsOf v) o a := fun h => ho h.2.1
      have r1 : subV 3 n (xsOf v) o a = .sl 0 .lit [] := by simp [subV, hc]
      have r2 : subN n (xsOf v) o a = 0 := by simp [subN, hc]
      repeat' (first | (apply brI <;> intro hb hb2 <;> (try simp [-Int.not_le, -Int.not_lt, -Nat.not_le, -Nat.not_lt, -Nat.add_left_cancel_iff] at hb2)) | (refine draw_listA (by rfl) (by kernel_rfl) ?_) | (refine draw_listB (by simp [allocsOf, isAlloc]; rfl) (by kernel_rfl) ?_) | simp (maxSteps := 2000000) (disch := first | omega | assumption | simp [*]) [*, -Int.not_le, -Int.not_lt, -Nat.not_le, -Nat.not_lt, -Nat.add_left_cancel_iff, wrap_i64, wrap_u64, Tryz.f32, isI_cells hv, isI_one hv, isI_low hv, isI_len hv])
  · have hc : ¬ SubC n (xsOf v) o a := fun h => hp h.1
    have r1 : subV 3 n (xsOf v) o a = .sl 0 .lit [] := by simp [subV, hc]
    have r2 : subN n (xsOf v) o a = 0 := by simp [subN, hc]
    repeat' (first | (apply brI <;> intro hb hb2 <;> (try simp [-Int.not_le, -Int.not_lt, -Nat.not_le, -Nat.not_lt, -Nat.add_left_cancel_iff] at hb2)) | (refine draw_listA (by rfl) (by kernel_rfl) ?_) | (refine draw_listB (by simp [allocsOf, isAlloc]; rfl) (by kernel_rfl) ?_) | simp (maxSteps := 2000000) (disch := first | omega | assumption | simp [*]) [*, -Int.not_le, -Int.not_lt, -Nat.not_le, -Nat.not_lt, -Nat.add_left_cancel_iff, wrap_i64, wrap_u64, Tryz.f32, isI_cells hv, isI_one hv, isI_low hv, isI_len hv])
theorem iSubContext_s {n o a : Int} {v : AV} (hv : IsI v) {K : AV → Prop} {tg : Tg K} : CW env 32 [.agg [.int .i64 n, v], .int .i64 o, .int .i64 a] K tg ↔ K (.tup [.agg [.int .i64 (subN n (xsOf v) o a), subV 3 n (xsOf v) o a], .bool (decide (SubC n (xsOf v) o a))]) := callsTo_iff (iSubContext_c hv)
attribute [simp] iSubContext_s
theorem pack8 (s keep : Int) : 0 ≤ Pack s keep ∧ Pack s keep < 256 := pack_range s keep 8 (by decide)
theorem elems_idx {s : Int} : ∀ (n j : Nat) (m : Nat), (elemsTo s n)[j]? = some (m : Int) → m < n ∧ PSet 8 s = true ∧ PHas s m = true ∧ (elemsTo s m).length = j
  | 0, j, m, h => by simp [elemsTo] at h
  | n + 1, j, m, h => by
    rw [elemsTo_succ] at h
    by_cases hj : j < (elemsTo s n).length
    · rw [List.getElem?_append_left hj] at h
      obtain ⟨a, b, c, d⟩ := elems_idx n j m h
      exact ⟨by omega, b, c, d⟩
    · rw [List.getElem?_append_right (by omega)] at h
      split at h
      · rename_i hc
        have hj2 : j - (elemsTo s n).length = 0 := by
          have := (List.getElem?_eq_some_iff.1 h).1; simp at this; omega
        rw [hj2] at h
        have hm : n = m := by have : (n : Int) = (m : Int) := by simpa using h
                              omega
        subst hm
        simp only [Bool.and_eq_true] at hc
        exact ⟨by omega, hc.1, by simpa using hc.2, by omega⟩
      · simp at h
theorem elems_at {s : Int} {m : Nat} (hs : PSet 8 s = true) (hm : PHas s m = true) : ∀ (n : Nat), m < n → (elemsTo s n)[(elemsTo s m).length]? = some (m : Int)
  | 0, h => by omega
  | n + 1, h => by
    rw [elemsTo_succ]
    by_cases e : m = n
    · subst e
      rw [List.getElem?_append_right (Nat.le_refl _)]
      simp [hs, hm]
    · have := elems_at hs hm n (by omega)
      rw [List.getElem?_append_left (List.getElem?_eq_some_iff.1 this).1]
      exact this
theorem elems_top {N : Nat} {s : Int} (h : PSet N s = true) : elemsTo s 8 = elemsTo s N := by
  obtain ⟨_, h2, h3, h4⟩ := pset_iff.mp h
  have h0 : s / 2 ^ N = 0 := Int.ediv_eq_zero_of_lt h3 (by simpa using h4)
  have := elemsTo_end (pset8 h) h0 (8 - N)
  rwa [show N + (8 - N) = 8 by omega] at this
end Go.Proofs.YtliecnadoklgoaaGreatDoor
