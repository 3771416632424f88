/- XGal XCon, joined. Conditions: none. -/
import Derived.Test.YtkkkgaapkibhkaaGreatDoorExtI
import Derived.Test.YtkkkgaapkibhkaaGreatDoorBitA
import Derived.Test.YtkkkgaapkibhkaaGreatDoorLect
import Derived.Test.YtkkkgaapkibhkaaGreatDoorRec
/- Derivation as a closure; the closed sets of a context in their order: plain Lean. Conditions: none. -/
namespace Go.Proofs.YtkkkgaapkibhkaaGreatDoor
open Ev
set_option linter.unusedVariables false
set_option linter.unusedSimpArgs false

theorem ext_has (xs : List Int) (s : Int) (k : Nat) : PHas (Ext xs s) k = (decide (k < xs.length) && PSub s (nth xs k)) := setOf_has ..
theorem int_has (xs : List Int) (N : Nat) (o : Int) (m : Nat) : PHas (IntS xs N o) m = true ↔ m < N ∧ ∀ k, k < xs.length → PHas o k = true → PHas (nth xs k) m = true := by
  unfold IntS
  rw [setOf_has]
  simp only [comG, Bool.and_eq_true, decide_eq_true_eq, Bool.true_and, List.all_eq_true, List.mem_range, Bool.or_eq_true, Bool.not_eq_true']
  constructor
  · rintro ⟨h1, h2⟩
    exact ⟨h1, fun k hk ho => by rcases h2 k hk with h | h; · rw [ho] at h; cases h
                                 · exact h⟩
  · rintro ⟨h1, h2⟩
    refine ⟨h1, fun k hk => ?_⟩
    cases ho : PHas o k with
    | false => exact .inl rfl
    | true => exact .inr (h2 k hk ho)
theorem int_nn (xs : List Int) (N : Nat) (o : Int) : 0 ≤ IntS xs N o := (setOf_range _ _).1
theorem clo_nn (xs : List Int) (N : Nat) (s : Int) : 0 ≤ Clo xs N s := (setOf_range _ _).1
theorem ext_nn (xs : List Int) (s : Int) : 0 ≤ Ext xs s := (setOf_range _ _).1
theorem pset_nn {n s : Int} (h : PSet n s = true) : 0 ≤ s := (pset_lt h).1
theorem row_nn {n : Int} {xs : List Int} (hc : PCtx n xs) {k : Nat} (hk : k < xs.length) : 0 ≤ nth xs k := pset_nn (hc.2.2.2 k hk)
/-- a set lies in its closure -/
theorem sub_clo {N : Nat} {xs : List Int} (hc : PCtx N xs) {s : Int} (hs : PSet N s = true) : PSub s (Clo xs N s) = true := by
  rw [psub_all (pset_nn hs) (clo_nn ..)]
  intro i hi
  unfold Clo
  rw [int_has]
  refine ⟨by have := phas_lt hs hi; omega, fun k hk hE => ?_⟩
  rw [ext_has, Bool.and_eq_true] at hE
  exact (psub_all (pset_nn hs) (row_nn hc hk)).1 hE.2 i hi
theorem ext_anti {N : Nat} {xs : List Int} (hc : PCtx N xs) {s t : Int} (hs : PSet N s = true) (ht : PSet N t = true) (h : PSub s t = true) {k : Nat} (hk : PHas (Ext xs t) k = true) : PHas (Ext xs s) k = true := by
  rw [ext_has, Bool.and_eq_true, decide_eq_true_eq] at hk ⊢
  refine ⟨hk.1, ?_⟩
  rw [psub_all (pset_nn hs) (row_nn hc hk.1)]
  intro i hi
  exact (psub_all (pset_nn ht) (row_nn hc hk.1)).1 hk.2 i ((psub_all (pset_nn hs) (pset_nn ht)).1 h i hi)
theorem clo_mono {N : Nat} {xs : List Int} (hc : PCtx N xs) {s t : Int} (hs : PSet N s = true) (ht : PSet N t = true) (h : PSub s t = true) : PSub (Clo xs N s) (Clo xs N t) = true := by
  rw [psub_all (clo_nn ..) (clo_nn ..)]
  intro i hi
  unfold Clo at hi ⊢
  rw [int_has] at hi ⊢
  exact ⟨hi.1, fun k hk hE => hi.2 k hk (ext_anti hc hs ht h hE)⟩
theorem clo_pset {N : Nat} {xs : List Int} (hc : PCtx N xs) (s : Int) : PSet N (Clo xs N s) = true := int_pset _ _ (by have := hc.2.1; omega)
theorem ext_eq {xs : List Int} {s t : Int} (h : ∀ k : Nat, PHas (Ext xs s) k = PHas (Ext xs t) k) : Ext xs s = Ext xs t :=
  int_bits (ext_nn ..) (ext_nn ..) fun i => by rw [← phas_nat (ext_nn ..), ← phas_nat (ext_nn ..)]; exact h i
theorem ext_clo {N : Nat} {xs : List Int} (hc : PCtx N xs) {s : Int} (hs : PSet N s = true) : Ext xs (Clo xs N s) = Ext xs s := by
  refine ext_eq fun k => ?_
  rw [Bool.eq_iff_iff]
  refine ⟨fun h => ext_anti hc hs (clo_pset hc s) (sub_clo hc hs) h, fun h => ?_⟩
  have h2 := h
  rw [ext_has, Bool.and_eq_true, decide_eq_true_eq] at h2 ⊢
  refine ⟨h2.1, ?_⟩
  rw [psub_all (clo_nn ..) (row_nn hc h2.1)]
  intro i hi
  unfold Clo at hi
  rw [int_has] at hi
  exact hi.2 k h2.1 h
theorem clo_idem {N : Nat} {xs : List Int} (hc : PCtx N xs) {s : Int} (hs : PSet N s = true) : Clo xs N (Clo xs N s) = Clo xs N s := by
  show IntS xs N (Ext xs (Clo xs N s)) = _
  rw [ext_clo hc hs]; rfl
/-- the closure as a function of numbers -/
def cloN (xs : List Int) (N : Nat) (s : Nat) : Nat := (Clo xs N s).toNat
theorem pset_nat {N s : Nat} (hN : N ≤ 8) (h : s < 2 ^ N) : PSet N (s : Int) = true := by
  rw [pset_iff]
  have : ((2 ^ N : Nat) : Int) = (2 : Int) ^ N := by simp
  exact ⟨by omega, by omega, by omega, by rw [Int.toNat_natCast]; omega⟩
theorem nat_pset {N : Nat} {s : Int} (h : PSet N s = true) : s.toNat < 2 ^ N ∧ (s.toNat : Int) = s := by
  obtain ⟨_, _, h3, h4⟩ := pset_iff.mp h
  have : ((2 ^ N : Nat) : Int) = (2 : Int) ^ N := by simp
  rw [Int.toNat_natCast] at h4
  omega
theorem cloN_cast {N : Nat} {xs : List Int} (s : Nat) : (cloN xs N s : Int) = Clo xs N s := Int.toNat_of_nonneg (int_nn ..)
theorem clo_cl {N : Nat} {xs : List Int} (hc : PCtx N xs) : Lect.Cl N (cloN xs N) := by
  have hn := hc.2.1
  have hN : N ≤ 8 := by omega
  refine ⟨by omega, fun s hs => (nat_pset (clo_pset hc _)).1, fun s hs => ?_, fun s t hs ht h1 h2 => ?_, fun s hs => ?_⟩
  · have := sub_clo hc (pset_nat hN hs)
    simpa [PSub, cloN] using this
  · have h3 : PSub (s : Int) (t : Int) = true := by simpa [PSub] using h2
    have := clo_mono hc (pset_nat hN hs) (pset_nat hN ht) h3
    have h4 : Clo xs N (t : Int) = t := by rw [← cloN_cast, h1]
    rw [h4] at this
    simpa [PSub, cloN] using this
  · have := clo_idem hc (pset_nat hN hs)
    unfold cloN
    rw [Int.toNat_of_nonneg (show 0 ≤ Clo xs N s from int_nn ..), this]
/-- the intents of a context, in order -/
def conTo (xs : List Int) (N : Nat) (r : Nat) : List Int := (Lect.cls N (cloN xs N) r).map Int.ofNat
def conI (xs : List Int) (N : Nat) : List Int := conTo xs N 64
noncomputable def conN (n : Int) (xs : List Int) : List Int := if PCtx n xs then conI xs n.toNat else []
noncomputable def extN (n : Int) (xs : List Int) : List Int := (conN n xs).map (Ext xs)
theorem conTo_len (xs : List Int) (N r : Nat) : (conTo xs N r).length ≤ r := by
  unfold conTo; rw [List.length_map]; exact Lect.cls_len r
theorem conN_len (n : Int) (xs : List Int) : (conN n xs).length ≤ 64 := by
  unfold conN; split
  · exact conTo_len ..
  · simp
end Go.Proofs.YtkkkgaapkibhkaaGreatDoor
/- The concepts of a context, in their order. Conditions: none. -/
namespace Go.Proofs.YtkkkgaapkibhkaaGreatDoor
open Ev
set_option linter.unusedVariables false
set_option linter.unusedSimpArgs false
set_option maxHeartbeats 4000000

def nextV : Option Nat → AV
  | some y => .tup [.int .i64 y, .bool true]
  | none => .tup [.int .i64 0, .bool false]
@[simp] theorem nextV_some (y : Nat) : nextV (some y) = .tup [.int .i64 y, .bool true] := _root_.id rfl
@[simp] theorem nextV_none : nextV none = .tup [.int .i64 0, .bool false] := _root_.id rfl
theorem l5Next_c {N x : Nat} {v : AV} (hv : IsI v) (hc : PCtx N (xsOf v)) (hx : x < 2 ^ N) : EvC env 209 [.agg [.int .i64 N, v], .int .i64 x] (nextV (Lect.nextTo (cloN (xsOf v) N) x N)) := by
  refine evC_of (F := Tryz.f209) rfl rfl (Nat.le_of_ble_eq_true rfl) ?_
  have hn := hc.2.1
  have hN6 : N ≤ 6 := by omega
  have hx64 : x < 64 := Lect.small hN6 hx
  repeat' (first | (apply br_intro <;> intro hb <;> (have hb2 := hb) <;> (try simp [-Int.not_le, -Int.not_lt, -Nat.not_le, -Nat.not_lt, -Nat.add_left_cancel_iff] at hb2)) | (refine draw_listA (by rfl) (by kernel_rfl) ?_) | (refine draw_listB (by simp [allocsOf, isAlloc]; rfl) (by kernel_rfl) ?_) | simp (maxSteps := 2000000) (disch := first | omega | assumption | simp [*]) [*, -Int.not_le, -Int.not_lt, -Nat.not_le, -Nat.not_lt, -Nat.add_left_cancel_iff, wrap_i64, wrap_u64, Tryz.f209, isI_cells hv, isI_one hv, isI_low hv, isI_len hv])
  refine W_loopP N (fun i st => st 6 = .int .i64 ((N : Int) - 1 - i) ∧ st 1 = .int .i64 x ∧ st 2 = .vp 2 0 0 ∧ Lect.nextTo (cloN (xsOf v) N) x N = Lect.nextTo (cloN (xsOf v) N) x (N - i)) rfl ?_ ?_
  · simp
  rintro i st hi ⟨h6, h1, h2, hnx⟩
  by_cases hi2 : i < N
  · obtain ⟨m, hm⟩ : ∃ m, m + 1 + i = N := ⟨N - 1 - i, by omega⟩
    have h6' : st 6 = .int .i64 m := by rw [h6]; congr 1; omega
    have hmi : N - i = m + 1 := by omega
    have hmi2 : N - (i + 1) = m := by omega
    have hm5 : m ≤ 5 := by omega
    have hm5' : (m : Int) ≤ 5 := by omega
    have hst : (m : Int) - 1 = (N : Int) - 1 - (i + 1) := by omega
    rw [hmi] at hnx
    simp only [Lect.nextTo] at hnx
    have hPx : PHas (x : Int) m = x.testBit m := by rw [phas_nat (by omega), Int.toNat_natCast]
    clear h6
    cases hb : x.testBit m with
    | true =>
      rw [hb] at hPx hnx
      simp only [Bool.true_eq_false, false_and, if_false] at hnx
      repeat' (first | (apply br_intro <;> intro hb <;> (have hb2 := hb) <;> (try simp [-Int.not_le, -Int.not_lt, -Nat.not_le, -Nat.not_lt, -Nat.add_left_cancel_iff] at hb2)) | (refine draw_listA (by rfl) (by kernel_rfl) ?_) | (refine draw_listB (by simp [allocsOf, isAlloc]; rfl) (by kernel_rfl) ?_) | simp (maxSteps := 2000000) (disch := first | omega | assumption | simp [*]) [*, -Int.not_le, -Int.not_lt, -Nat.not_le, -Nat.not_lt, -Nat.add_left_cancel_iff, wrap_i64, wrap_u64, h6', h1, h2, isI_cells hv, isI_one hv, isI_low hv, isI_len hv])
    | false =>
      rw [hb] at hPx hnx
      simp only [true_and] at hnx
      have hm8 : (m : Int) ≤ 8 := by omega
      have hpw := pow_small (i := m) (by omega)
      have hpN : (2 ^ m : Nat) ≤ 2 ^ 5 := Nat.pow_le_pow_right (by decide) hm5
      have hlt : x % 2 ^ m < 2 ^ m := Nat.mod_lt _ (Nat.two_pow_pos m)
      have hA0 := Lect.arg_lt (s := x) (m := m) (N := N) (by omega)
      have hor0 : x % 2 ^ m ||| 2 ^ m = x % 2 ^ m + 2 ^ m := by
        rw [Nat.or_comm, Nat.add_comm]
        have := Nat.two_pow_add_eq_or_of_lt hlt 1
        simpa using this.symm
      obtain ⟨B, hB⟩ : ∃ B, B = x % 2 ^ m := ⟨_, rfl⟩
      obtain ⟨A, hA⟩ : ∃ A, A = B + 2 ^ m := ⟨_, rfl⟩
      obtain ⟨C, hC⟩ : ∃ C, C = cloN (xsOf v) N A := ⟨_, rfl⟩
      obtain ⟨D, hD⟩ : ∃ D, D = C % 2 ^ m := ⟨_, rfl⟩
      rw [← hB] at hlt hA0 hor0 hnx
      rw [← hA] at hA0 hor0 hnx
      rw [← hC, ← hD] at hnx
      have hpt := pow_toNat m
      have v1 : ((x &&& (((2 : Int) ^ m).toNat - 1) : Nat) : Int) = B := by rw [hpt, Nat.and_two_pow_sub_one_eq_mod, hB]
      have o1 : ((B ||| ((2 : Int) ^ m).toNat : Nat) : Int) = A := by rw [hpt, hor0]
      have d1 : ((C &&& (((2 : Int) ^ m).toNat - 1) : Nat) : Int) = D := by rw [hpt, Nat.and_two_pow_sub_one_eq_mod, hD]
      have hPA : PSet N (A : Int) = true := pset_nat (by omega) hA0
      have hCl : Clo (xsOf v) N (A : Int) = (C : Int) := by rw [hC, cloN_cast]
      have hC64 : C < 64 := Lect.small hN6 (by rw [hC]; exact (clo_cl hc).lt _ hA0)
      have hA64 : A < 64 := Lect.small hN6 hA0
      have hB64 : B < 64 := by omega
      clear hB hA hC hD hpt hlt hor0
      by_cases hDB : D = B
      · rw [if_pos hDB] at hnx
        subst hDB
        repeat' (first | (apply br_intro <;> intro hb <;> (have hb2 := hb) <;> (try simp [-Int.not_le, -Int.not_lt, -Nat.not_le, -Nat.not_lt, -Nat.add_left_cancel_iff] at hb2)) | (refine draw_listA (by rfl) (by kernel_rfl) ?_) | (refine draw_listB (by simp [allocsOf, isAlloc]; rfl) (by kernel_rfl) ?_) | simp (maxSteps := 2000000) (disch := first | omega | assumption | simp [*]) [*, -Int.not_le, -Int.not_lt, -Nat.not_le, -Nat.not_lt, -Nat.add_left_cancel_iff, wrap_i64, wrap_u64, h6', h1, h2, bits_and, bits_or, isI_cells hv, isI_one hv, isI_low hv, isI_len hv])
      · rw [if_neg hDB] at hnx
        have hDB2 : ¬ (D : Int) = B := by omega
        repeat' (first | (apply br_intro <;> intro hb <;> (have hb2 := hb) <;> (try simp [-Int.not_le, -Int.not_lt, -Nat.not_le, -Nat.not_lt, -Nat.add_left_cancel_iff] at hb2)) | (refine draw_listA (by rfl) (by kernel_rfl) ?_) | (refine draw_listB (by simp [allocsOf, isAlloc]; rfl) (by kernel_rfl) ?_) | simp (maxSteps := 2000000) (disch := first | omega | assumption | simp [*]) [*, -Int.not_le, -Int.not_lt, -Nat.not_le, -Nat.not_lt, -Nat.add_left_cancel_iff, wrap_i64, wrap_u64, h6', h1, h2, bits_and, bits_or, isI_cells hv, isI_one hv, isI_low hv, isI_len hv])
  · obtain rfl : i = N := by omega
    rw [Nat.sub_self] at hnx
    simp only [Lect.nextTo] at hnx
    have h6' : st 6 = .int .i64 (-1) := by rw [h6]; congr 1; omega
    clear h6
    repeat' (first | (apply br_intro <;> intro hb <;> (have hb2 := hb) <;> (try simp [-Int.not_le, -Int.not_lt, -Nat.not_le, -Nat.not_lt, -Nat.add_left_cancel_iff] at hb2)) | (refine draw_listA (by rfl) (by kernel_rfl) ?_) | (refine draw_listB (by simp [allocsOf, isAlloc]; rfl) (by kernel_rfl) ?_) | simp (maxSteps := 2000000) (disch := first | omega | assumption | simp [*]) [*, -Int.not_le, -Int.not_lt, -Nat.not_le, -Nat.not_lt, -Nat.add_left_cancel_iff, wrap_i64, wrap_u64, h6', h1, h2, isI_cells hv, isI_one hv, isI_low hv, isI_len hv])
theorem l5Next_s {N x : Nat} {v : AV} (hv : IsI v) (hc : PCtx N (xsOf v)) (hx : x < 2 ^ N) {K : AV → Prop} {tg : Tg K} : CW env 209 [.agg [.int .i64 N, v], .int .i64 x] K tg ↔ K (nextV (Lect.nextTo (cloN (xsOf v) N) x N)) := callsTo_iff (l5Next_c hv hc hx)
attribute [simp] l5Next_s
theorem l5Concept_c {N x : Nat} {v : AV} (hv : IsI v) (hc : PCtx N (xsOf v)) (hx : x < 2 ^ N) : EvC env 208 [.agg [.int .i64 N, v], .int .i64 x] (.agg [.int .i64 (Ext (xsOf v) x), .int .i64 (Clo (xsOf v) N x)]) := by
  refine evC_of (F := Tryz.f208) rfl rfl (Nat.le_of_ble_eq_true rfl) ?_
  have hs := pset_nat (N := N) (by have := hc.2.1; omega) hx
  have he := ext_pset (xsOf v) x hc.2.2.1
  repeat' (first | (apply br_intro <;> intro hb <;> (have hb2 := hb) <;> (try simp [-Int.not_le, -Int.not_lt, -Nat.not_le, -Nat.not_lt, -Nat.add_left_cancel_iff] at hb2)) | (refine draw_listA (by rfl) (by kernel_rfl) ?_) | (refine draw_listB (by simp [allocsOf, isAlloc]; rfl) (by kernel_rfl) ?_) | simp (maxSteps := 2000000) (disch := first | omega | assumption | simp [*]) [*, -Int.not_le, -Int.not_lt, -Nat.not_le, -Nat.not_lt, -Nat.add_left_cancel_iff, wrap_i64, wrap_u64, Tryz.f208, isI_cells hv, isI_one hv, isI_low hv, isI_len hv])
  rfl
theorem l5Concept_s {N x : Nat} {v : AV} (hv : IsI v) (hc : PCtx N (xsOf v)) (hx : x < 2 ^ N) {K : AV → Prop} {tg : Tg K} : CW env 208 [.agg [.int .i64 N, v], .int .i64 x] K tg ↔ K (.agg [.int .i64 (Ext (xsOf v) x), .int .i64 (Clo (xsOf v) N x)]) := callsTo_iff (l5Concept_c hv hc hx)
attribute [simp] l5Concept_s
/-- the concepts of closed sets -/
def conR (xs : List Int) (l : List Nat) : List AV := l.map fun (s : Nat) => pr (Ext xs (s : Int)) (s : Int)
noncomputable def conL (n : Int) (xs : List Int) : List Nat := if PCtx n xs then Lect.cls n.toNat (cloN xs n.toNat) 64 else []
theorem conL_len (n : Int) (xs : List Int) : (conL n xs).length ≤ 64 := by
  unfold conL; split
  · exact Lect.cls_len _
  · simp
theorem sConcepts_c {n : Int} {v : AV} (hv : IsI v) : EvC env 104 [.agg [.int .i64 n, v]] (bufLR 102 19 2 2 (conR (xsOf v) (conL n (xsOf v)))) := by
  refine evC_of (F := Tryz.f104) rfl rfl (Nat.le_of_ble_eq_true rfl) ?_
  by_cases hc : PCtx n (xsOf v)
  · obtain ⟨N, rfl⟩ : ∃ N : Nat, n = N := ⟨n.toNat, by have := hc.1; omega⟩
    have hn := hc.2.1
    have hN6 : N ≤ 6 := by omega
    have hC := clo_cl hc
    have hL : conL N (xsOf v) = Lect.cls N (cloN (xsOf v) N) 64 := by simp [conL, hc]
    rw [hL]
    have h0 : Clo (xsOf v) N 0 = (cloN (xsOf v) N 0 : Nat) := by rw [cloN_cast]; rfl
    have hs0 : PSet N 0 = true := pset_nat (s := 0) (by omega) (Nat.two_pow_pos N)
    obtain ⟨x0, hx0⟩ : ∃ x0, x0 = cloN (xsOf v) N 0 := ⟨_, rfl⟩
    rw [← hx0] at h0
    have hf0 := Lect.cls_first hC
    have hl0 := hC.lt 0 (Nat.two_pow_pos N)
    have hi0 := hC.idem 0 (Nat.two_pow_pos N)
    rw [← hx0] at hf0 hl0 hi0
    clear hx0
    repeat' (first | (apply br_intro <;> intro hb <;> (have hb2 := hb) <;> (try simp [-Int.not_le, -Int.not_lt, -Nat.not_le, -Nat.not_lt, -Nat.add_left_cancel_iff] at hb2)) | (refine draw_listA (by rfl) (by kernel_rfl) ?_) | (refine draw_listB (by simp [allocsOf, isAlloc]; rfl) (by kernel_rfl) ?_) | simp (maxSteps := 2000000) (disch := first | omega | assumption | simp [*]) [*, -Int.not_le, -Int.not_lt, -Nat.not_le, -Nat.not_lt, -Nat.add_left_cancel_iff, wrap_i64, wrap_u64, Tryz.f104, isI_cells hv, isI_one hv, isI_low hv, isI_len hv])
    refine W_loopG 64 (fun i s h => ∃ x : Nat, x < 2 ^ N ∧ cloN (xsOf v) N x = x ∧ i ≤ Lect.rev6 x ∧ s 4 = .int .i64 x ∧ s 1 = .vp 1 0 0 ∧ h 1 = some (.var 0 26 (.agg [.int .i64 N, v])) ∧
      BufL h 102 19 2 2 (s 3) (conR (xsOf v) (Lect.cls N (cloN (xsOf v) N) (Lect.rev6 x)))) ?_ ?_
    · refine ⟨x0, hl0, hi0, Nat.zero_le _, ?_⟩
      rw [hf0]
      simp [*, conR]
      exact bufL_nil ..
    rintro i s h hi ⟨x, hx, hcx, hix, h4, h1, e1, hB⟩
    have hr64 := (Lect.rev_back (Lect.small hN6 hx)).2
    have hcx2 : Clo (xsOf v) N (x : Int) = (x : Int) := by rw [← cloN_cast, hcx]
    have hat := Lect.cls_at (cl := cloN (xsOf v) N) hN6 hx hcx
    have hlen := Lect.cls_len (N := N) (cl := cloN (xsOf v) N) (Lect.rev6 x)
    have hpush : conR (xsOf v) (Lect.cls N (cloN (xsOf v) N) (Lect.rev6 x + 1)) = conR (xsOf v) (Lect.cls N (cloN (xsOf v) N) (Lect.rev6 x)) ++ [pr (Ext (xsOf v) x) x] := by rw [hat]; simp [conR]
    have hclen : (conR (xsOf v) (Lect.cls N (cloN (xsOf v) N) (Lect.rev6 x))).length < 1073741824 := by simp [conR]; omega
    clear hat hlen h0 hf0 hi0
    cases hnx : Lect.nextTo (cloN (xsOf v) N) x N with
    | none =>
      have hlast := Lect.cls_last hC hx hnx
      repeat' (first | (apply br_intro <;> intro hb <;> (have hb2 := hb) <;> (try simp [-Int.not_le, -Int.not_lt, -Nat.not_le, -Nat.not_lt, -Nat.add_left_cancel_iff] at hb2)) | (refine draw_listA (by rfl) (by kernel_rfl) ?_) | (refine draw_listB (by simp [allocsOf, isAlloc]; rfl) (by kernel_rfl) ?_) | simp (maxSteps := 2000000) (disch := first | omega | assumption | simp [*]) [*, -Int.not_le, -Int.not_lt, -Nat.not_le, -Nat.not_lt, -Nat.add_left_cancel_iff, wrap_i64, wrap_u64, h4, h1, e1, isI_cells hv, isI_one hv, isI_low hv, isI_len hv])
      refine wa_pushL hB (by simp) (by simp) (by simp) ⟨rfl, rfl⟩ (fun _ => rfl) hclen ?_
      intro v2 h2 hB2 hk2
      have e12 := (hk2 1 (by omega)).trans e1
      have hB3 := hB2.expo
      rw [show conR (xsOf v) (Lect.cls N (cloN (xsOf v) N) (Lect.rev6 x)) ++ [.agg [.int .i64 (Ext (xsOf v) x), .int .i64 x]] = conR (xsOf v) (Lect.cls N (cloN (xsOf v) N) (Lect.rev6 x + 1)) from hpush.symm] at hB3
      rw [hlast]
      clear hlast hpush hB2 hk2
      repeat' (first | (apply br_intro <;> intro hb <;> (have hb2 := hb) <;> (try simp [-Int.not_le, -Int.not_lt, -Nat.not_le, -Nat.not_lt, -Nat.add_left_cancel_iff] at hb2)) | (refine draw_listA (by rfl) (by kernel_rfl) ?_) | (refine draw_listB (by simp [allocsOf, isAlloc]; rfl) (by kernel_rfl) ?_) | simp (maxSteps := 2000000) (disch := first | omega | assumption | simp [*]) [*, -Int.not_le, -Int.not_lt, -Nat.not_le, -Nat.not_lt, -Nat.add_left_cancel_iff, wrap_i64, wrap_u64, h4, h1, e12, isI_cells hv, isI_one hv, isI_low hv, isI_len hv])
    | some y =>
      obtain ⟨hy, hcy, hlt, _⟩ := Lect.nextTo_some hC hx (Nat.le_refl _) hnx
      have hnext := Lect.cls_next hC hx hnx
      repeat' (first | (apply br_intro <;> intro hb <;> (have hb2 := hb) <;> (try simp [-Int.not_le, -Int.not_lt, -Nat.not_le, -Nat.not_lt, -Nat.add_left_cancel_iff] at hb2)) | (refine draw_listA (by rfl) (by kernel_rfl) ?_) | (refine draw_listB (by simp [allocsOf, isAlloc]; rfl) (by kernel_rfl) ?_) | simp (maxSteps := 2000000) (disch := first | omega | assumption | simp [*]) [*, -Int.not_le, -Int.not_lt, -Nat.not_le, -Nat.not_lt, -Nat.add_left_cancel_iff, wrap_i64, wrap_u64, h4, h1, e1, isI_cells hv, isI_one hv, isI_low hv, isI_len hv])
      refine wa_pushL hB (by simp) (by simp) (by simp) ⟨rfl, rfl⟩ (fun _ => rfl) hclen ?_
      intro v2 h2 hB2 hk2
      have e12 := (hk2 1 (by omega)).trans e1
      rw [show conR (xsOf v) (Lect.cls N (cloN (xsOf v) N) (Lect.rev6 x)) ++ [.agg [.int .i64 (Ext (xsOf v) x), .int .i64 x]] = conR (xsOf v) (Lect.cls N (cloN (xsOf v) N) (Lect.rev6 x + 1)) from hpush.symm, ← hnext] at hB2
      have hiy : i + 1 ≤ Lect.rev6 y := by omega
      clear hnext hpush hk2
      repeat' (first | (apply br_intro <;> intro hb <;> (have hb2 := hb) <;> (try simp [-Int.not_le, -Int.not_lt, -Nat.not_le, -Nat.not_lt, -Nat.add_left_cancel_iff] at hb2)) | (refine draw_listA (by rfl) (by kernel_rfl) ?_) | (refine draw_listB (by simp [allocsOf, isAlloc]; rfl) (by kernel_rfl) ?_) | simp (maxSteps := 2000000) (disch := first | omega | assumption | simp [*]) [*, -Int.not_le, -Int.not_lt, -Nat.not_le, -Nat.not_lt, -Nat.add_left_cancel_iff, wrap_i64, wrap_u64, h4, h1, e12, isI_cells hv, isI_one hv, isI_low hv, isI_len hv])
      exact ⟨by omega, y, hy, hcy, hiy, rfl, hB2⟩
  · have hL : conL n (xsOf v) = [] := by simp [conL, hc]
    rw [hL]
    repeat' (first | (apply br_intro <;> intro hb <;> (have hb2 := hb) <;> (try simp [-Int.not_le, -Int.not_lt, -Nat.not_le, -Nat.not_lt, -Nat.add_left_cancel_iff] at hb2)) | (refine draw_listA (by rfl) (by kernel_rfl) ?_) | (refine draw_listB (by simp [allocsOf, isAlloc]; rfl) (by kernel_rfl) ?_) | simp (maxSteps := 2000000) (disch := first | omega | assumption | simp [*]) [*, -Int.not_le, -Int.not_lt, -Nat.not_le, -Nat.not_lt, -Nat.add_left_cancel_iff, wrap_i64, wrap_u64, Tryz.f104, isI_cells hv, isI_one hv, isI_low hv, isI_len hv])
    simp [conR, bufLR]
theorem sConcepts_s {n : Int} {v : AV} (hv : IsI v) {K : AV → Prop} {tg : Tg K} : CW env 104 [.agg [.int .i64 n, v]] K tg ↔ K (bufLR 102 19 2 2 (conR (xsOf v) (conL n (xsOf v)))) := callsTo_iff (sConcepts_c hv)
attribute [simp] sConcepts_s
end Go.Proofs.YtkkkgaapkibhkaaGreatDoor
