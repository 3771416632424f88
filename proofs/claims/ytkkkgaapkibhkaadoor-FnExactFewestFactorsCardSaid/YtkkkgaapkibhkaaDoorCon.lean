/- The concepts of a context, in their order. Conditions: none. -/
import Derived.Test.YtkkkgaapkibhkaaDoorGal
import Derived.Test.YtkkkgaapkibhkaaDoorRec
namespace Go.Proofs.YtkkkgaapkibhkaaDoor
open Ev
set_option linter.unusedVariables false
set_option linter.unusedSimpArgs false
set_option maxHeartbeats 4000000

def nextV : Option Nat → AV
  | some y => .tup [.int .i64 y, .bool true]
  | none => .tup [.int .i64 0, .bool false]
@[simp] theorem nextV_some (y : Nat) : nextV (some y) = .tup [.int .i64 y, .bool true] := _root_.id rfl
@[simp] theorem nextV_none : nextV none = .tup [.int .i64 0, .bool false] := _root_.id rfl
theorem l5Next_c {N x : Nat} {v : AV} (hv : IsI v) (hc : PCtx N (xsOf v)) (hx : x < 2 ^ N) : EvC env 77 [.agg [.int .i64 N, v], .int .i64 x] (nextV (Lect.nextTo (cloN (xsOf v) N) x N)) := by
  refine evC_of (F := Tryd.f77) rfl rfl (Nat.le_of_ble_eq_true rfl) ?_
  have hn := hc.2.1
  have hN6 : N ≤ 6 := by omega
  have hx64 : x < 64 := Lect.small hN6 hx
  repeat' (first | (apply br_intro <;> intro hb <;> (have hb2 := hb) <;> (try simp [-Int.not_le, -Int.not_lt, -Nat.not_le, -Nat.not_lt, -Nat.add_left_cancel_iff] at hb2)) | (refine draw_listA (by rfl) (by kernel_rfl) ?_) | (refine draw_listB (by simp [allocsOf, isAlloc]; rfl) (by kernel_rfl) ?_) | simp (maxSteps := 2000000) (disch := first | omega | assumption | simp [*]) [*, -Int.not_le, -Int.not_lt, -Nat.not_le, -Nat.not_lt, -Nat.add_left_cancel_iff, wrap_i64, wrap_u64, Tryd.f77, isI_cells hv, isI_one hv, isI_low hv, isI_len hv])
  refine W_loopP N (fun i st => st 6 = .int .i64 ((N : Int) - 1 - i) ∧ st 1 = .int .i64 x ∧ st 2 = .vp 2 0 0 ∧ Lect.nextTo (cloN (xsOf v) N) x N = Lect.nextTo (cloN (xsOf v) N) x (N - i)) rfl ?_ ?_
  · simp
  rintro i st hi ⟨h6, h1, h2, hnx⟩
  by_cases hi2 : i < N
  · obtain ⟨m, hm⟩ : ∃ m, m + 1 + i = N := ⟨N - 1 - i, by omega⟩
    have h6' : st 6 = .int .i64 m := by rw [h6]; congr 1; omega
    have hmi : N - i = m + 1 := by omega
    have hmi2 : N - (i + 1) = m := by omega
    have hm5 : m ≤ 5 := by omega
    have hm5' : (m : Int) ≤ 5 := by omega
    have hst : (m : Int) - 1 = (N : Int) - 1 - (i + 1) := by omega
    rw [hmi] at hnx
    simp only [Lect.nextTo] at hnx
    have hPx : PHas (x : Int) m = x.testBit m := by rw [phas_nat (by omega), Int.toNat_natCast]
    clear h6
    cases hb : x.testBit m with
    | true =>
      rw [hb] at hPx hnx
      simp only [Bool.true_eq_false, false_and, if_false] at hnx
      repeat' (first | (apply br_intro <;> intro hb <;> (have hb2 := hb) <;> (try simp [-Int.not_le, -Int.not_lt, -Nat.not_le, -Nat.not_lt, -Nat.add_left_cancel_iff] at hb2)) | (refine draw_listA (by rfl) (by kernel_rfl) ?_) | (refine draw_listB (by simp [allocsOf, isAlloc]; rfl) (by kernel_rfl) ?_) | simp (maxSteps := 2000000) (disch := first | omega | assumption | simp [*]) [*, -Int.not_le, -Int.not_lt, -Nat.not_le, -Nat.not_lt, -Nat.add_left_cancel_iff, wrap_i64, wrap_u64, h6', h1, h2, isI_cells hv, isI_one hv, isI_low hv, isI_len hv])
    | false =>
      rw [hb] at hPx hnx
      simp only [true_and] at hnx
      have hm8 : (m : Int) ≤ 8 := by omega
      have hpw := pow_small (i := m) (by omega)
      have hpN : (2 ^ m : Nat) ≤ 2 ^ 5 := Nat.pow_le_pow_right (by decide) hm5
      have hlt : x % 2 ^ m < 2 ^ m := Nat.mod_lt _ (Nat.two_pow_pos m)
      have hA0 := Lect.arg_lt (s := x) (m := m) (N := N) (by omega)
      have hor0 : x % 2 ^ m ||| 2 ^ m = x % 2 ^ m + 2 ^ m := by
        rw [Nat.or_comm, Nat.add_comm]
        have := Nat.two_pow_add_eq_or_of_lt hlt 1
        simpa using this.symm
      obtain ⟨B, hB⟩ : ∃ B, B = x % 2 ^ m := ⟨_, rfl⟩
      obtain ⟨A, hA⟩ : ∃ A, A = B + 2 ^ m := ⟨_, rfl⟩
      obtain ⟨C, hC⟩ : ∃ C, C = cloN (xsOf v) N A := ⟨_, rfl⟩
      obtain ⟨D, hD⟩ : ∃ D, D = C % 2 ^ m := ⟨_, rfl⟩
      rw [← hB] at hlt hA0 hor0 hnx
      rw [← hA] at hA0 hor0 hnx
      rw [← hC, ← hD] at hnx
      have hpt := pow_toNat m
      have v1 : ((x &&& (((2 : Int) ^ m).toNat - 1) : Nat) : Int) = B := by rw [hpt, Nat.and_two_pow_sub_one_eq_mod, hB]
      have o1 : ((B ||| ((2 : Int) ^ m).toNat : Nat) : Int) = A := by rw [hpt, hor0]
      have d1 : ((C &&& (((2 : Int) ^ m).toNat - 1) : Nat) : Int) = D := by rw [hpt, Nat.and_two_pow_sub_one_eq_mod, hD]
      have hPA : PSet N (A : Int) = true := pset_nat (by omega) hA0
      have hCl : Clo (xsOf v) N (A : Int) = (C : Int) := by rw [hC, cloN_cast]
      have hC64 : C < 64 := Lect.small hN6 (by rw [hC]; exact (clo_cl hc).lt _ hA0)
      have hA64 : A < 64 := Lect.small hN6 hA0
      have hB64 : B < 64 := by omega
      clear hB hA hC hD hpt hlt hor0
      by_cases hDB : D = B
      · rw [if_pos hDB] at hnx
        subst hDB
        repeat' (first | (apply br_intro <;> intro hb <;> (have hb2 := hb) <;> (try simp [-Int.not_le, -Int.not_lt, -Nat.not_le, -Nat.not_lt, -Nat.add_left_cancel_iff] at hb2)) | (refine draw_listA (by rfl) (by kernel_rfl) ?_) | (refine draw_listB (by simp [allocsOf, isAlloc]; rfl) (by kernel_rfl) ?_) | simp (maxSteps := 2000000) (disch := first | omega | assumption | simp [*]) [*, -Int.not_le, -Int.not_lt, -Nat.not_le, -Nat.not_lt, -Nat.add_left_cancel_iff, wrap_i64, wrap_u64, h6', h1, h2, bits_and, bits_or, isI_cells hv, isI_one hv, isI_low hv, isI_len hv])
      · rw [if_neg hDB] at hnx
        have hDB2 : ¬ (D : Int) = B := by omega
        repeat' (first | (apply br_intro <;> intro hb <;> (have hb2 := hb) <;> (try simp [-Int.not_le, -Int.not_lt, -Nat.not_le, -Nat.not_lt, -Nat.add_left_cancel_iff] at hb2)) | (refine draw_listA (by rfl) (by kernel_rfl) ?_) | (refine draw_listB (by simp [allocsOf, isAlloc]; rfl) (by kernel_rfl) ?_) | simp (maxSteps := 2000000) (disch := first | omega | assumption | simp [*]) [*, -Int.not_le, -Int.not_lt, -Nat.not_le, -Nat.not_lt, -Nat.add_left_cancel_iff, wrap_i64, wrap_u64, h6', h1, h2, bits_and, bits_or, isI_cells hv, isI_one hv, isI_low hv, isI_len hv])
  · obtain rfl : i = N := by omega
    rw [Nat.sub_self] at hnx
    simp only [Lect.nextTo] at hnx
    have h6' : st 6 = .int .i64 (-1) := by rw [h6]; congr 1; omega
    clear h6
    repeat' (first | (apply br_intro <;> intro hb <;> (have hb2 := hb) <;> (try simp [-Int.not_le, -Int.not_lt, -Nat.not_le, -Nat.not_lt, -Nat.add_left_cancel_iff] at hb2)) | (refine draw_listA (by rfl) (by kernel_rfl) ?_) | (refine draw_listB (by simp [allocsOf, isAlloc]; rfl) (by kernel_rfl) ?_) | simp (maxSteps := 2000000) (disch := first | omega | assumption | simp [*]) [*, -Int.not_le, -Int.not_lt, -Nat.not_le, -Nat.not_lt, -Nat.add_left_cancel_iff, wrap_i64, wrap_u64, h6', h1, h2, isI_cells hv, isI_one hv, isI_low hv, isI_len hv])
theorem l5Next_s {N x : Nat} {v : AV} (hv : IsI v) (hc : PCtx N (xsOf v)) (hx : x < 2 ^ N) {K : AV → Prop} {tg : Tg K} : CW env 77 [.agg [.int .i64 N, v], .int .i64 x] K tg ↔ K (nextV (Lect.nextTo (cloN (xsOf v) N) x N)) := callsTo_iff (l5Next_c hv hc hx)
attribute [simp] l5Next_s
theorem l5Concept_c {N x : Nat} {v : AV} (hv : IsI v) (hc : PCtx N (xsOf v)) (hx : x < 2 ^ N) : EvC env 76 [.agg [.int .i64 N, v], .int .i64 x] (.agg [.int .i64 (Ext (xsOf v) x), .int .i64 (Clo (xsOf v) N x)]) := by
  refine evC_of (F := Tryd.f76) rfl rfl (Nat.le_of_ble_eq_true rfl) ?_
  have hs := pset_nat (N := N) (by have := hc.2.1; omega) hx
  have he := ext_pset (xsOf v) x hc.2.2.1
  repeat' (first | (apply br_intro <;> intro hb <;> (have hb2 := hb) <;> (try simp [-Int.not_le, -Int.not_lt, -Nat.not_le, -Nat.not_lt, -Nat.add_left_cancel_iff] at hb2)) | (refine draw_listA (by rfl) (by kernel_rfl) ?_) | (refine draw_listB (by simp [allocsOf, isAlloc]; rfl) (by kernel_rfl) ?_) | simp (maxSteps := 2000000) (disch := first | omega | assumption | simp [*]) [*, -Int.not_le, -Int.not_lt, -Nat.not_le, -Nat.not_lt, -Nat.add_left_cancel_iff, wrap_i64, wrap_u64, Tryd.f76, isI_cells hv, isI_one hv, isI_low hv, isI_len hv])
  rfl
theorem l5Concept_s {N x : Nat} {v : AV} (hv : IsI v) (hc : PCtx N (xsOf v)) (hx : x < 2 ^ N) {K : AV → Prop} {tg : Tg K} : CW env 76 [.agg [.int .i64 N, v], .int .i64 x] K tg ↔ K (.agg [.int .i64 (Ext (xsOf v) x), .int .i64 (Clo (xsOf v) N x)]) := callsTo_iff (l5Concept_c hv hc hx)
attribute [simp] l5Concept_s
/-- the concepts of closed sets -/
def conR (xs : List Int) (l : List Nat) : List AV := l.map fun (s : Nat) => pr (Ext xs (s : Int)) (s : Int)
noncomputable def conL (n : Int) (xs : List Int) : List Nat := if PCtx n xs then Lect.cls n.toNat (cloN xs n.toNat) 64 else []
theorem conL_len (n : Int) (xs : List Int) : (conL n xs).length ≤ 64 := by
  unfold conL; split
  · exact Lect.cls_len _
  · simp
theorem sConcepts_c {n : Int} {v : AV} (hv : IsI v) : EvC env 47 [.agg [.int .i64 n, v]] (bufLR 57 19 2 2 (conR (xsOf v) (conL n (xsOf v)))) := by
  refine evC_of (F := Tryd.f47) rfl rfl (Nat.le_of_ble_eq_true rfl) ?_
  by_cases hc : PCtx n (xsOf v)
  · obtain ⟨N, rfl⟩ : ∃ N : Nat, n = N := ⟨n.toNat, by have := hc.1; omega⟩
    have hn := hc.2.1
    have hN6 : N ≤ 6 := by omega
    have hC := clo_cl hc
    have hL : conL N (xsOf v) = Lect.cls N (cloN (xsOf v) N) 64 := by simp [conL, hc]
    rw [hL]
    have h0 : Clo (xsOf v) N 0 = (cloN (xsOf v) N 0 : Nat) := by rw [cloN_cast]; rfl
    have hs0 : PSet N 0 = true := pset_nat (s := 0) (by omega) (Nat.two_pow_pos N)
    obtain ⟨x0, hx0⟩ : ∃ x0, x0 = cloN (xsOf v) N 0 := ⟨_, rfl⟩
    rw [← hx0] at h0
    have hf0 := Lect.cls_first hC
    have hl0 := hC.lt 0 (Nat.two_pow_pos N)
    have hi0 := hC.idem 0 (Nat.two_pow_pos N)
    rw [← hx0] at hf0 hl0 hi0
    clear hx0
    repeat' (first | (apply br_intro <;> intro hb <;> (have hb2 := hb) <;> (try simp [-Int.not_le, -Int.not_lt, -Nat.not_le, -Nat.not_lt, -Nat.add_left_cancel_iff] at hb2)) | (refine draw_listA (by rfl) (by kernel_rfl) ?_) | (refine draw_listB (by simp [allocsOf, isAlloc]; rfl) (by kernel_rfl) ?_) | simp (maxSteps := 2000000) (disch := first | omega | assumption | simp [*]) [*, -Int.not_le, -Int.not_lt, -Nat.not_le, -Nat.not_lt, -Nat.add_left_cancel_iff, wrap_i64, wrap_u64, Tryd.f47, isI_cells hv, isI_one hv, isI_low hv, isI_len hv])
    refine W_loopG 64 (fun i s h => ∃ x : Nat, x < 2 ^ N ∧ cloN (xsOf v) N x = x ∧ i ≤ Lect.rev6 x ∧ s 4 = .int .i64 x ∧ s 1 = .vp 1 0 0 ∧ h 1 = some (.var 0 27 (.agg [.int .i64 N, v])) ∧
      BufL h 57 19 2 2 (s 3) (conR (xsOf v) (Lect.cls N (cloN (xsOf v) N) (Lect.rev6 x)))) ?_ ?_
    · refine ⟨x0, hl0, hi0, Nat.zero_le _, ?_⟩
      rw [hf0]
      simp [*, conR]
      exact bufL_nil ..
    rintro i s h hi ⟨x, hx, hcx, hix, h4, h1, e1, hB⟩
    have hr64 := (Lect.rev_back (Lect.small hN6 hx)).2
    have hcx2 : Clo (xsOf v) N (x : Int) = (x : Int) := by rw [← cloN_cast, hcx]
    have hat := Lect.cls_at (cl := cloN (xsOf v) N) hN6 hx hcx
    have hlen := Lect.cls_len (N := N) (cl := cloN (xsOf v) N) (Lect.rev6 x)
    have hpush : conR (xsOf v) (Lect.cls N (cloN (xsOf v) N) (Lect.rev6 x + 1)) = conR (xsOf v) (Lect.cls N (cloN (xsOf v) N) (Lect.rev6 x)) ++ [pr (Ext (xsOf v) x) x] := by rw [hat]; simp [conR]
    have hclen : (conR (xsOf v) (Lect.cls N (cloN (xsOf v) N) (Lect.rev6 x))).length < 1073741824 := by simp [conR]; omega
    clear hat hlen h0 hf0 hi0
    cases hnx : Lect.nextTo (cloN (xsOf v) N) x N with
    | none =>
      have hlast := Lect.cls_last hC hx hnx
      repeat' (first | (apply br_intro <;> intro hb <;> (have hb2 := hb) <;> (try simp [-Int.not_le, -Int.not_lt, -Nat.not_le, -Nat.not_lt, -Nat.add_left_cancel_iff] at hb2)) | (refine draw_listA (by rfl) (by kernel_rfl) ?_) | (refine draw_listB (by simp [allocsOf, isAlloc]; rfl) (by kernel_rfl) ?_) | simp (maxSteps := 2000000) (disch := first | omega | assumption | simp [*]) [*, -Int.not_le, -Int.not_lt, -Nat.not_le, -Nat.not_lt, -Nat.add_left_cancel_iff, wrap_i64, wrap_u64, h4, h1, e1, isI_cells hv, isI_one hv, isI_low hv, isI_len hv])
      refine wa_pushL hB (by simp) (by simp) (by simp) ⟨rfl, rfl⟩ (fun _ => rfl) hclen ?_
      intro v2 h2 hB2 hk2
      have e12 := (hk2 1 (by omega)).trans e1
      have hB3 := hB2.expo
      rw [show conR (xsOf v) (Lect.cls N (cloN (xsOf v) N) (Lect.rev6 x)) ++ [.agg [.int .i64 (Ext (xsOf v) x), .int .i64 x]] = conR (xsOf v) (Lect.cls N (cloN (xsOf v) N) (Lect.rev6 x + 1)) from hpush.symm] at hB3
      rw [hlast]
      clear hlast hpush hB2 hk2
      repeat' (first | (apply br_intro <;> intro hb <;> (have hb2 := hb) <;> (try simp [-Int.not_le, -Int.not_lt, -Nat.not_le, -Nat.not_lt, -Nat.add_left_cancel_iff] at hb2)) | (refine draw_listA (by rfl) (by kernel_rfl) ?_) | (refine draw_listB (by simp [allocsOf, isAlloc]; rfl) (by kernel_rfl) ?_) | simp (maxSteps := 2000000) (disch := first | omega | assumption | simp [*]) [*, -Int.not_le, -Int.not_lt, -Nat.not_le, -Nat.not_lt, -Nat.add_left_cancel_iff, wrap_i64, wrap_u64, h4, h1, e12, isI_cells hv, isI_one hv, isI_low hv, isI_len hv])
    | some y =>
      obtain ⟨hy, hcy, hlt, _⟩ := Lect.nextTo_some hC hx (Nat.le_refl _) hnx
      have hnext := Lect.cls_next hC hx hnx
      repeat' (first | (apply br_intro <;> intro hb <;> (have hb2 := hb) <;> (try simp [-Int.not_le, -Int.not_lt, -Nat.not_le, -Nat.not_lt, -Nat.add_left_cancel_iff] at hb2)) | (refine draw_listA (by rfl) (by kernel_rfl) ?_) | (refine draw_listB (by simp [allocsOf, isAlloc]; rfl) (by kernel_rfl) ?_) | simp (maxSteps := 2000000) (disch := first | omega | assumption | simp [*]) [*, -Int.not_le, -Int.not_lt, -Nat.not_le, -Nat.not_lt, -Nat.add_left_cancel_iff, wrap_i64, wrap_u64, h4, h1, e1, isI_cells hv, isI_one hv, isI_low hv, isI_len hv])
      refine wa_pushL hB (by simp) (by simp) (by simp) ⟨rfl, rfl⟩ (fun _ => rfl) hclen ?_
      intro v2 h2 hB2 hk2
      have e12 := (hk2 1 (by omega)).trans e1
      rw [show conR (xsOf v) (Lect.cls N (cloN (xsOf v) N) (Lect.rev6 x)) ++ [.agg [.int .i64 (Ext (xsOf v) x), .int .i64 x]] = conR (xsOf v) (Lect.cls N (cloN (xsOf v) N) (Lect.rev6 x + 1)) from hpush.symm, ← hnext] at hB2
      have hiy : i + 1 ≤ Lect.rev6 y := by omega
      clear hnext hpush hk2
      repeat' (first | (apply br_intro <;> intro hb <;> (have hb2 := hb) <;> (try simp [-Int.not_le, -Int.not_lt, -Nat.not_le, -Nat.not_lt, -Nat.add_left_cancel_iff] at hb2)) | (refine draw_listA (by rfl) (by kernel_rfl) ?_) | (refine draw_listB (by simp [allocsOf, isAlloc]; rfl) (by kernel_rfl) ?_) | simp (maxSteps := 2000000) (disch := first | omega | assumption | simp [*]) [*, -Int.not_le, -Int.not_lt, -Nat.not_le, -Nat.not_lt, -Nat.add_left_cancel_iff, wrap_i64, wrap_u64, h4, h1, e12, isI_cells hv, isI_one hv, isI_low hv, isI_len hv])
      exact ⟨by omega, y, hy, hcy, hiy, rfl, hB2⟩
  · have hL : conL n (xsOf v) = [] := by simp [conL, hc]
    rw [hL]
    repeat' (first | (apply br_intro <;> intro hb <;> (have hb2 := hb) <;> (try simp [-Int.not_le, -Int.not_lt, -Nat.not_le, -Nat.not_lt, -Nat.add_left_cancel_iff] at hb2)) | (refine draw_listA (by rfl) (by kernel_rfl) ?_) | (refine draw_listB (by simp [allocsOf, isAlloc]; rfl) (by kernel_rfl) ?_) | simp (maxSteps := 2000000) (disch := first | omega | assumption | simp [*]) [*, -Int.not_le, -Int.not_lt, -Nat.not_le, -Nat.not_lt, -Nat.add_left_cancel_iff, wrap_i64, wrap_u64, Tryd.f47, isI_cells hv, isI_one hv, isI_low hv, isI_len hv])
    simp [conR, bufLR]
theorem sConcepts_s {n : Int} {v : AV} (hv : IsI v) {K : AV → Prop} {tg : Tg K} : CW env 47 [.agg [.int .i64 n, v]] K tg ↔ K (bufLR 57 19 2 2 (conR (xsOf v) (conL n (xsOf v)))) := callsTo_iff (sConcepts_c hv)
attribute [simp] sConcepts_s
end Go.Proofs.YtkkkgaapkibhkaaDoor
