/- XConA XCon2, joined. Conditions: none. -/
import Derived.Test.YtliecnadoklgoaaGreatDoorExtI
import Derived.Test.YtliecnadoklgoaaGreatDoorBitA
import Derived.Test.YtliecnadoklgoaaGreatDoorLect
import Derived.Test.YtliecnadoklgoaaGreatDoorRec
import Derived.Test.YtliecnadoklgoaaGreatDoorSortC
/- XGal XCon, joined. Conditions: none. -/
/- Derivation as a closure; the closed sets of a context in their order: plain Lean. Conditions: none. -/
namespace Go.Proofs.YtliecnadoklgoaaGreatDoor
open Ev
set_option linter.unusedVariables false
set_option linter.unusedSimpArgs false

theorem ext_has (xs : List Int) (s : Int) (k : Nat) : PHas (Ext xs s) k = (decide (k < xs.length) && PSub s (nth xs k)) := setOf_has ..
theorem int_has (xs : List Int) (N : Nat) (o : Int) (m : Nat) : PHas (IntS xs N o) m = true ↔ m < N ∧ ∀ k, k < xs.length → PHas o k = true → PHas (nth xs k) m = true := by
  unfold IntS
  rw [setOf_has]
  simp only [comG, Bool.and_eq_true, decide_eq_true_eq, Bool.true_and, List.all_eq_true, List.mem_range, Bool.or_eq_true, Bool.not_eq_true']
  constructor
  · rintro ⟨h1, h2⟩
    exact ⟨h1, fun k hk ho => by rcases h2 k hk with h | h; · rw [ho] at h; cases h
                                 · exact h⟩
  · rintro ⟨h1, h2⟩
    refine ⟨h1, fun k hk => ?_⟩
    cases ho : PHas o k with
    | false => exact .inl rfl
    | true => exact .inr (h2 k hk ho)
theorem int_nn (xs : List Int) (N : Nat) (o : Int) : 0 ≤ IntS xs N o := (setOf_range _ _).1
theorem clo_nn (xs : List Int) (N : Nat) (s : Int) : 0 ≤ Clo xs N s := (setOf_range _ _).1
theorem ext_nn (xs : List Int) (s : Int) : 0 ≤ Ext xs s := (setOf_range _ _).1
theorem pset_nn {n s : Int} (h : PSet n s = true) : 0 ≤ s := (pset_lt h).1
theorem row_nn {n : Int} {xs : List Int} (hc : PCtx n xs) {k : Nat} (hk : k < xs.length) : 0 ≤ nth xs k := pset_nn (hc.2.2.2 k hk)
/-- a set lies in its closure -/
theorem sub_clo {N : Nat} {xs : List Int} (hc : PCtx N xs) {s : Int} (hs : PSet N s = true) : PSub s (Clo xs N s) = true := by
  rw [psub_all (pset_nn hs) (clo_nn ..)]
  intro i hi
  unfold Clo
  rw [int_has]
  refine ⟨by have := phas_lt hs hi; omega, fun k hk hE => ?_⟩
  rw [ext_has, Bool.and_eq_true] at hE
  exact (psub_all (pset_nn hs) (row_nn hc hk)).1 hE.2 i hi
theorem ext_anti {N : Nat} {xs : List Int} (hc : PCtx N xs) {s t : Int} (hs : PSet N s = true) (ht : PSet N t = true) (h : PSub s t = true) {k : Nat} (hk : PHas (Ext xs t) k = true) : PHas (Ext xs s) k = true := by
  rw [ext_has, Bool.and_eq_true, decide_eq_true_eq] at hk ⊢
  refine ⟨hk.1, ?_⟩
  rw [psub_all (pset_nn hs) (row_nn hc hk.1)]
  intro i hi
  exact (psub_all (pset_nn ht) (row_nn hc hk.1)).1 hk.2 i ((psub_all (pset_nn hs) (pset_nn ht)).1 h i hi)
theorem clo_mono {N : Nat} {xs : List Int} (hc : PCtx N xs) {s t : Int} (hs : PSet N s = true) (ht : PSet N t = true) (h : PSub s t = true) : PSub (Clo xs N s) (Clo xs N t) = true := by
  rw [psub_all (clo_nn ..) (clo_nn ..)]
  intro i hi
  unfold Clo at hi ⊢
  rw [int_has] at hi ⊢
  exact ⟨hi.1, fun k hk hE => hi.2 k hk (ext_anti hc hs ht h hE)⟩
theorem clo_pset {N : Nat} {xs : List Int} (hc : PCtx N xs) (s : Int) : PSet N (Clo xs N s) = true := int_pset _ _ (by have := hc.2.1; omega)
theorem ext_eq {xs : List Int} {s t : Int} (h : ∀ k : Nat, PHas (Ext xs s) k = PHas (Ext xs t) k) : Ext xs s = Ext xs t :=
  int_bits (ext_nn ..) (ext_nn ..) fun i => by rw [← phas_nat (ext_nn ..), ← phas_nat (ext_nn ..)]; exact h i
theorem ext_clo {N : Nat} {xs : List Int} (hc : PCtx N xs) {s : Int} (hs : PSet N s = true) : Ext xs (Clo xs N s) = Ext xs s := by
  refine ext_eq fun k => ?_
  rw [Bool.eq_iff_iff]
  refine ⟨fun h => ext_anti hc hs (clo_pset hc s) (sub_clo hc hs) h, fun h => ?_⟩
  have h2 := h
  rw [ext_has, Bool.and_eq_true, decide_eq_true_eq] at h2 ⊢
  refine ⟨h2.1, ?_⟩
  rw [psub_all (clo_nn ..) (row_nn hc h2.1)]
  intro i hi
  unfold Clo at hi
  rw [int_has] at hi
  exact hi.2 k h2.1 h
theorem clo_idem {N : Nat} {xs : List Int} (hc : PCtx N xs) {s : Int} (hs : PSet N s = true) : Clo xs N (Clo xs N s) = Clo xs N s := by
  show IntS xs N (Ext xs (Clo xs N s)) = _
  rw [ext_clo hc hs]; rfl
/-- the closure as a function of numbers -/
def cloN (xs : List Int) (N : Nat) (s : Nat) : Nat := (Clo xs N s).toNat
theorem pset_nat {N s : Nat} (hN : N ≤ 8) (h : s < 2 ^ N) : PSet N (s : Int) = true := by
  rw [pset_iff]
  have : ((2 ^ N : Nat) : Int) = (2 : Int) ^ N := by simp
  exact ⟨by omega, by omega, by omega, by rw [Int.toNat_natCast]; omega⟩
theorem nat_pset {N : Nat} {s : Int} (h : PSet N s = true) : s.toNat < 2 ^ N ∧ (s.toNat : Int) = s := by
  obtain ⟨_, _, h3, h4⟩ := pset_iff.mp h
  have : ((2 ^ N : Nat) : Int) = (2 : Int) ^ N := by simp
  rw [Int.toNat_natCast] at h4
  omega
theorem cloN_cast {N : Nat} {xs : List Int} (s : Nat) : (cloN xs N s : Int) = Clo xs N s := Int.toNat_of_nonneg (int_nn ..)
theorem clo_cl {N : Nat} {xs : List Int} (hc : PCtx N xs) : Lect.Cl N (cloN xs N) := by
  have hn := hc.2.1
  have hN : N ≤ 8 := by omega
  refine ⟨by omega, fun s hs => (nat_pset (clo_pset hc _)).1, fun s hs => ?_, fun s t hs ht h1 h2 => ?_, fun s hs => ?_⟩
  · have := sub_clo hc (pset_nat hN hs)
    simpa [PSub, cloN] using this
  · have h3 : PSub (s : Int) (t : Int) = true := by simpa [PSub] using h2
    have := clo_mono hc (pset_nat hN hs) (pset_nat hN ht) h3
    have h4 : Clo xs N (t : Int) = t := by rw [← cloN_cast, h1]
    rw [h4] at this
    simpa [PSub, cloN] using this
  · have := clo_idem hc (pset_nat hN hs)
    unfold cloN
    rw [Int.toNat_of_nonneg (show 0 ≤ Clo xs N s from int_nn ..), this]
/-- the intents of a context, in order -/
def conTo (xs : List Int) (N : Nat) (r : Nat) : List Int := (Lect.cls N (cloN xs N) r).map Int.ofNat
def conI (xs : List Int) (N : Nat) : List Int := conTo xs N 64
noncomputable def conN (n : Int) (xs : List Int) : List Int := if PCtx n xs then conI xs n.toNat else []
noncomputable def extN (n : Int) (xs : List Int) : List Int := (conN n xs).map (Ext xs)
theorem conTo_len (xs : List Int) (N r : Nat) : (conTo xs N r).length ≤ r := by
  unfold conTo; rw [List.length_map]; exact Lect.cls_len r
theorem conN_len (n : Int) (xs : List Int) : (conN n xs).length ≤ 64 := by
  unfold conN; split
  · exact conTo_len ..
  · simp
end Go.Proofs.YtliecnadoklgoaaGreatDoor
/- The concepts of a context, in their order. Conditions: none. -/
namespace Go.Proofs.YtliecnadoklgoaaGreatDoor
open Ev
set_option linter.unusedVariables false
set_option linter.unusedSimpArgs false
set_option maxHeartbeats 4000000

def nextV : Option Nat → AV
  | some y => .tup [.int .i64 y, .bool true]
  | none => .tup [.int .i64 0, .bool false]
@[simp] theorem nextV_some (y : Nat) : nextV (some y) = .tup [.int .i64 y, .bool true] := _root_.id rfl
@[simp] theorem nextV_none : nextV none = .tup [.int .i64 0, .bool false] := _root_.id rfl
theorem l5Next_c {N x : Nat} {v : AV} (hv : IsI v) (hc : PCtx N (xsOf v)) (hx : x < 2 ^ N) : EvC env 197 [.agg [.int .i64 N, v], .int .i64 x] (nextV (Lect.nextTo (cloN (xsOf v) N) x N)) := by
  refine evC_of (F := Tryz.f197) rfl rfl (Nat.le_of_ble_eq_true rfl) ?_
  have hn := hc.2.1
  have hN6 : N ≤ 6 := by omega
  have hx64 : x < 64 := Lect.small hN6 hx
  repeat' (first | (apply brI <;> intro hb hb2 <;> (try simp [-Int.not_le, -Int.not_lt, -Nat.not_le, -Nat.not_lt, -Nat.add_left_cancel_iff] at hb2)) | (refine draw_listA (by rfl) (by kernel_rfl) ?_) | (refine draw_listB (by simp [allocsOf, isAlloc]; rfl) (by kernel_rfl) ?_) | simp (maxSteps := 2000000) (disch := first | omega | assumption | simp [*]) [*, -Int.not_le, -Int.not_lt, -Nat.not_le, -Nat.not_lt, -Nat.add_left_cancel_iff, wrap_i64, wrap_u64, Tryz.f197, isI_cells hv, isI_one hv, isI_low hv, isI_len hv])
  refine W_loopP N (fun i st => st 6 = .int .i64 ((N : Int) - 1 - i) ∧ st 1 = .int .i64 x ∧ st 2 = .vp 2 0 0 ∧ Lect.nextTo (cloN (xsOf v) N) x N = Lect.nextTo (cloN (xsOf v) N) x (N - i)) rfl ?_ ?_
  · simp
  rintro i st hi ⟨h6, h1, h2, hnx⟩
  by_cases hi2 : i < N
  · obtain ⟨m, hm⟩ : ∃ m, m + 1 + i = N := ⟨N - 1 - i, by omega⟩
    have h6' : st 6 = .int .i64 m := by rw [h6]; congr 1; omega
    have hmi : N - i = m + 1 := by omega
    have hmi2 : N - (i + 1) = m := by omega
    have hm5 : m ≤ 5 := by omega
    have hm5' : (m : Int) ≤ 5 := by omega
    have hst : (m : Int) - 1 = (N : Int) - 1 - (i + 1) := by omega
    rw [hmi] at hnx
    simp only [Lect.nextTo] at hnx
    have hPx : PHas (x : Int) m = x.testBit m := by rw [phas_nat (by omega), Int.toNat_natCast]
    clear h6
    cases hb : x.testBit m with
    | true =>
      rw [hb] at hPx hnx
      simp only [Bool.true_eq_false, false_and, if_false] at hnx
      repeat' (first | (apply brI <;> intro hb hb2 <;> (try simp [-Int.not_le, -Int.not_lt, -Nat.not_le, -Nat.not_lt, -Nat.add_left_cancel_iff] at hb2)) | (refine draw_listA (by rfl) (by kernel_rfl) ?_) | (refine draw_listB (by simp [allocsOf, isAlloc]; rfl) (by kernel_rfl) ?_) | simp (maxSteps := 2000000) (disch := first | omega | assumption | simp [*]) [*, -Int.not_le, -Int.not_lt, -Nat.not_le, -Nat.not_lt, -Nat.add_left_cancel_iff, wrap_i64, wrap_u64, h6', h1, h2, isI_cells hv, isI_one hv, isI_low hv, isI_len hv])
    | false =>
      rw [hb] at hPx hnx
      simp only [true_and] at hnx
      have hm8 : (m : Int) ≤ 8 := by omega
      have hpw := pow_small (i := m) (by omega)
      have hpN : (2 ^ m : Nat) ≤ 2 ^ 5 := Nat.pow_le_pow_right (by decide) hm5
      have hlt : x % 2 ^ m < 2 ^ m := Nat.mod_lt _ (Nat.two_pow_pos m)
      have hA0 := Lect.arg_lt (s := x) (m := m) (N := N) (by omega)
      have hor0 : x % 2 ^ m ||| 2 ^ m = x % 2 ^ m + 2 ^ m := by
        rw [Nat.or_comm, Nat.add_comm]
        have := Nat.two_pow_add_eq_or_of_lt hlt 1
        simpa using this.symm
      obtain ⟨B, hB⟩ : ∃ B, B = x % 2 ^ m := ⟨_, rfl⟩
      obtain ⟨A, hA⟩ : ∃ A, A = B + 2 ^ m := ⟨_, rfl⟩
      obtain ⟨C, hC⟩ : ∃ C, C = cloN (xsOf v) N A := ⟨_, rfl⟩
      obtain ⟨D, hD⟩ : ∃ D, D = C % 2 ^ m := ⟨_, rfl⟩
      rw [← hB] at hlt hA0 hor0 hnx
      rw [← hA] at hA0 hor0 hnx
      rw [← hC, ← hD] at hnx
      have hpt := pow_toNat m
      have v1 : ((x &&& (((2 : Int) ^ m).toNat - 1) : Nat) : Int) = B := by rw [hpt, Nat.and_two_pow_sub_one_eq_mod, hB]
      have o1 : ((B ||| ((2 : Int) ^ m).toNat : Nat) : Int) = A := by rw [hpt, hor0]
      have d1 : ((C &&& (((2 : Int) ^ m).toNat - 1) : Nat) : Int) = D := by rw [hpt, Nat.and_two_pow_sub_one_eq_mod, hD]
      have hPA : PSet N (A : Int) = true := pset_nat (by omega) hA0
      have hCl : Clo (xsOf v) N (A : Int) = (C : Int) := by rw [hC, cloN_cast]
      have hC64 : C < 64 := Lect.small hN6 (by rw [hC]; exact (clo_cl hc).lt _ hA0)
      have hA64 : A < 64 := Lect.small hN6 hA0
      have hB64 : B < 64 := by omega
      clear hB hA hC hD hpt hlt hor0
      by_cases hDB : D = B
      · rw [if_pos hDB] at hnx
        subst hDB
        repeat' (first | (apply brI <;> intro hb hb2 <;> (try simp [-Int.not_le, -Int.not_lt, -Nat.not_le, -Nat.not_lt, -Nat.add_left_cancel_iff] at hb2)) | (refine draw_listA (by rfl) (by kernel_rfl) ?_) | (refine draw_listB (by simp [allocsOf, isAlloc]; rfl) (by kernel_rfl) ?_) | simp (maxSteps := 2000000) (disch := first | omega | assumption | simp [*]) [*, -Int.not_le, -Int.not_lt, -Nat.not_le, -Nat.not_lt, -Nat.add_left_cancel_iff, wrap_i64, wrap_u64, h6', h1, h2, bits_and, bits_or, isI_cells hv, isI_one hv, isI_low hv, isI_len hv])
      · rw [if_neg hDB] at hnx
        have hDB2 : ¬ (D : Int) = B := by omega
        repeat' (first | (apply brI <;> intro hb hb2 <;> (try simp [-Int.not_le, -Int.not_lt, -Nat.not_le, -Nat.not_lt, -Nat.add_left_cancel_iff] at hb2)) | (refine draw_listA (by rfl) (by kernel_rfl) ?_) | (refine draw_listB (by simp [allocsOf, isAlloc]; rfl) (by kernel_rfl) ?_) | simp (maxSteps := 2000000) (disch := first | omega | assumption | simp [*]) [*, -Int.not_le, -Int.not_lt, -Nat.not_le, -Nat.not_lt, -Nat.add_left_cancel_iff, wrap_i64, wrap_u64, h6', h1, h2, bits_and, bits_or, isI_cells hv, isI_one hv, isI_low hv, isI_len hv])
  · obtain rfl : i = N := by omega
    rw [Nat.sub_self] at hnx
    simp only [Lect.nextTo] at hnx
    have h6' : st 6 = .int .i64 (-1) := by rw [h6]; congr 1; omega
    clear h6
    repeat' (first | (apply brI <;> intro hb hb2 <;> (try simp [-Int.not_le, -Int.not_lt, -Nat.not_le, -Nat.not_lt, -Nat.add_left_cancel_iff] at hb2)) | (refine draw_listA (by rfl) (by kernel_rfl) ?_) | (refine draw_listB (by simp [allocsOf, isAlloc]; rfl) (by kernel_rfl) ?_) | simp (maxSteps := 2000000) (disch := first | omega | assumption | simp [*]) [*, -Int.not_le, -Int.not_lt, -Nat.not_le, -Nat.not_lt, -Nat.add_left_cancel_iff, wrap_i64, wrap_u64, h6', h1, h2, isI_cells hv, isI_one hv, isI_low hv, isI_len hv])
theorem l5Next_s {N x : Nat} {v : AV} (hv : IsI v) (hc : PCtx N (xsOf v)) (hx : x < 2 ^ N) {K : AV → Prop} {tg : Tg K} : CW env 197 [.agg [.int .i64 N, v], .int .i64 x] K tg ↔ K (nextV (Lect.nextTo (cloN (xsOf v) N) x N)) := callsTo_iff (l5Next_c hv hc hx)
attribute [simp] l5Next_s
theorem l5Concept_c {N x : Nat} {v : AV} (hv : IsI v) (hc : PCtx N (xsOf v)) (hx : x < 2 ^ N) : EvC env 196 [.agg [.int .i64 N, v], .int .i64 x] (.agg [.int .i64 (Ext (xsOf v) x), .int .i64 (Clo (xsOf v) N x)]) := by
  refine evC_of (F := Tryz.f196) rfl rfl (Nat.le_of_ble_eq_true rfl) ?_
  have hs := pset_nat (N := N) (by have := hc.2.1; omega) hx
  have he := ext_pset (xsOf v) x hc.2.2.1
  repeat' (first | (apply brI <;> intro hb hb2 <;> (try simp [-Int.not_le, -Int.not_lt, -Nat.not_le, -Nat.not_lt, -Nat.add_left_cancel_iff] at hb2)) | (refine draw_listA (by rfl) (by kernel_rfl) ?_) | (refine draw_listB (by simp [allocsOf, isAlloc]; rfl) (by kernel_rfl) ?_) | simp (maxSteps := 2000000) (disch := first | omega | assumption | simp [*]) [*, -Int.not_le, -Int.not_lt, -Nat.not_le, -Nat.not_lt, -Nat.add_left_cancel_iff, wrap_i64, wrap_u64, Tryz.f196, isI_cells hv, isI_one hv, isI_low hv, isI_len hv])
  rfl
theorem l5Concept_s {N x : Nat} {v : AV} (hv : IsI v) (hc : PCtx N (xsOf v)) (hx : x < 2 ^ N) {K : AV → Prop} {tg : Tg K} : CW env 196 [.agg [.int .i64 N, v], .int .i64 x] K tg ↔ K (.agg [.int .i64 (Ext (xsOf v) x), .int .i64 (Clo (xsOf v) N x)]) := callsTo_iff (l5Concept_c hv hc hx)
attribute [simp] l5Concept_s
/-- the concepts of closed sets -/
def conR (xs : List Int) (l : List Nat) : List AV := l.map fun (s : Nat) => pr (Ext xs (s : Int)) (s : Int)
noncomputable def conL (n : Int) (xs : List Int) : List Nat := if PCtx n xs then Lect.cls n.toNat (cloN xs n.toNat) 64 else []
theorem conL_len (n : Int) (xs : List Int) : (conL n xs).length ≤ 64 := by
  unfold conL; split
  · exact Lect.cls_len _
  · simp
theorem sConcepts_c {n : Int} {v : AV} (hv : IsI v) : EvC env 100 [.agg [.int .i64 n, v]] (bufLR 101 19 2 2 (conR (xsOf v) (conL n (xsOf v)))) := by
  refine evC_of (F := Tryz.f100) rfl rfl (Nat.le_of_ble_eq_true rfl) ?_
  by_cases hc : PCtx n (xsOf v)
  · obtain ⟨N, rfl⟩ : ∃ N : Nat, n = N := ⟨n.toNat, by have := hc.1; omega⟩
    have hn := hc.2.1
    have hN6 : N ≤ 6 := by omega
    have hC := clo_cl hc
    have hL : conL N (xsOf v) = Lect.cls N (cloN (xsOf v) N) 64 := by simp [conL, hc]
    rw [hL]
    have h0 : Clo (xsOf v) N 0 = (cloN (xsOf v) N 0 : Nat) := by rw [cloN_cast]; rfl
    have hs0 : PSet N 0 = true := pset_nat (s := 0) (by omega) (Nat.two_pow_pos N)
    obtain ⟨x0, hx0⟩ : ∃ x0, x0 = cloN (xsOf v) N 0 := ⟨_, rfl⟩
    rw [← hx0] at h0
    have hf0 := Lect.cls_first hC
    have hl0 := hC.lt 0 (Nat.two_pow_pos N)
    have hi0 := hC.idem 0 (Nat.two_pow_pos N)
    rw [← hx0] at hf0 hl0 hi0
    clear hx0
    repeat' (first | (apply brI <;> intro hb hb2 <;> (try simp [-Int.not_le, -Int.not_lt, -Nat.not_le, -Nat.not_lt, -Nat.add_left_cancel_iff] at hb2)) | (refine draw_listA (by rfl) (by kernel_rfl) ?_) | (refine draw_listB (by simp [allocsOf, isAlloc]; rfl) (by kernel_rfl) ?_) | simp (maxSteps := 2000000) (disch := first | omega | assumption | simp [*]) [*, -Int.not_le, -Int.not_lt, -Nat.not_le, -Nat.not_lt, -Nat.add_left_cancel_iff, wrap_i64, wrap_u64, Tryz.f100, isI_cells hv, isI_one hv, isI_low hv, isI_len hv])
    refine W_loopG 64 (fun i s h => ∃ x : Nat, x < 2 ^ N ∧ cloN (xsOf v) N x = x ∧ i ≤ Lect.rev6 x ∧ s 4 = .int .i64 x ∧ s 1 = .vp 1 0 0 ∧ h 1 = some (.var 0 26 (.agg [.int .i64 N, v])) ∧
      BufL h 101 19 2 2 (s 3) (conR (xsOf v) (Lect.cls N (cloN (xsOf v) N) (Lect.rev6 x)))) ?_ ?_
    · refine ⟨x0, hl0, hi0, Nat.zero_le _, ?_⟩
      rw [hf0]
      simp [*, conR]
      exact bufL_nil ..
    rintro i s h hi ⟨x, hx, hcx, hix, h4, h1, e1, hB⟩
    have hr64 := (Lect.rev_back (Lect.small hN6 hx)).2
    have hcx2 : Clo (xsOf v) N (x : Int) = (x : Int) := by rw [← cloN_cast, hcx]
    have hat := Lect.cls_at (cl := cloN (xsOf v) N) hN6 hx hcx
    have hlen := Lect.cls_len (N := N) (cl := cloN (xsOf v) N) (Lect.rev6 x)
    have hpush : conR (xsOf v) (Lect.cls N (cloN (xsOf v) N) (Lect.rev6 x + 1)) = conR (xsOf v) (Lect.cls N (cloN (xsOf v) N) (Lect.rev6 x)) ++ [pr (Ext (xsOf v) x) x] := by rw [hat]; simp [conR]
    have hclen : (conR (xsOf v) (Lect.cls N (cloN (xsOf v) N) (Lect.rev6 x))).length < 1073741824 := by simp [conR]; omega
    clear hat hlen h0 hf0 hi0
    cases hnx : Lect.nextTo (cloN (xsOf v) N) x N with
    | none =>
      have hlast := Lect.cls_last hC hx hnx
      repeat' (first | (apply brI <;> intro hb hb2 <;> (try simp [-Int.not_le, -Int.not_lt, -Nat.not_le, -Nat.not_lt, -Nat.add_left_cancel_iff] at hb2)) | (refine draw_listA (by rfl) (by kernel_rfl) ?_) | (refine draw_listB (by simp [allocsOf, isAlloc]; rfl) (by kernel_rfl) ?_) | simp (maxSteps := 2000000) (disch := first | omega | assumption | simp [*]) [*, -Int.not_le, -Int.not_lt, -Nat.not_le, -Nat.not_lt, -Nat.add_left_cancel_iff, wrap_i64, wrap_u64, h4, h1, e1, isI_cells hv, isI_one hv, isI_low hv, isI_len hv])
      refine wa_pushL hB (by simp) (by simp) (by simp) ⟨rfl, rfl⟩ (fun _ => rfl) hclen ?_
      intro v2 h2 hB2 hk2
      have e12 := (hk2 1 (by omega)).trans e1
      have hB3 := hB2.expo
      rw [show conR (xsOf v) (Lect.cls N (cloN (xsOf v) N) (Lect.rev6 x)) ++ [.agg [.int .i64 (Ext (xsOf v) x), .int .i64 x]] = conR (xsOf v) (Lect.cls N (cloN (xsOf v) N) (Lect.rev6 x + 1)) from hpush.symm] at hB3
      rw [hlast]
      clear hlast hpush hB2 hk2
      repeat' (first | (apply brI <;> intro hb hb2 <;> (try simp [-Int.not_le, -Int.not_lt, -Nat.not_le, -Nat.not_lt, -Nat.add_left_cancel_iff] at hb2)) | (refine draw_listA (by rfl) (by kernel_rfl) ?_) | (refine draw_listB (by simp [allocsOf, isAlloc]; rfl) (by kernel_rfl) ?_) | simp (maxSteps := 2000000) (disch := first | omega | assumption | simp [*]) [*, -Int.not_le, -Int.not_lt, -Nat.not_le, -Nat.not_lt, -Nat.add_left_cancel_iff, wrap_i64, wrap_u64, h4, h1, e12, isI_cells hv, isI_one hv, isI_low hv, isI_len hv])
    | some y =>
      obtain ⟨hy, hcy, hlt, _⟩ := Lect.nextTo_some hC hx (Nat.le_refl _) hnx
      have hnext := Lect.cls_next hC hx hnx
      repeat' (first | (apply brI <;> intro hb hb2 <;> (try simp [-Int.not_le, -Int.not_lt, -Nat.not_le, -Nat.not_lt, -Nat.add_left_cancel_iff] at hb2)) | (refine draw_listA (by rfl) (by kernel_rfl) ?_) | (refine draw_listB (by simp [allocsOf, isAlloc]; rfl) (by kernel_rfl) ?_) | simp (maxSteps := 2000000) (disch := first | omega | assumption | simp [*]) [*, -Int.not_le, -Int.not_lt, -Nat.not_le, -Nat.not_lt, -Nat.add_left_cancel_iff, wrap_i64, wrap_u64, h4, h1, e1, isI_cells hv, isI_one hv, isI_low hv, isI_len hv])
      refine wa_pushL hB (by simp) (by simp) (by simp) ⟨rfl, rfl⟩ (fun _ => rfl) hclen ?_
      intro v2 h2 hB2 hk2
      have e12 := (hk2 1 (by omega)).trans e1
      rw [show conR (xsOf v) (Lect.cls N (cloN (xsOf v) N) (Lect.rev6 x)) ++ [.agg [.int .i64 (Ext (xsOf v) x), .int .i64 x]] = conR (xsOf v) (Lect.cls N (cloN (xsOf v) N) (Lect.rev6 x + 1)) from hpush.symm, ← hnext] at hB2
      have hiy : i + 1 ≤ Lect.rev6 y := by omega
      clear hnext hpush hk2
      repeat' (first | (apply brI <;> intro hb hb2 <;> (try simp [-Int.not_le, -Int.not_lt, -Nat.not_le, -Nat.not_lt, -Nat.add_left_cancel_iff] at hb2)) | (refine draw_listA (by rfl) (by kernel_rfl) ?_) | (refine draw_listB (by simp [allocsOf, isAlloc]; rfl) (by kernel_rfl) ?_) | simp (maxSteps := 2000000) (disch := first | omega | assumption | simp [*]) [*, -Int.not_le, -Int.not_lt, -Nat.not_le, -Nat.not_lt, -Nat.add_left_cancel_iff, wrap_i64, wrap_u64, h4, h1, e12, isI_cells hv, isI_one hv, isI_low hv, isI_len hv])
      exact ⟨by omega, y, hy, hcy, hiy, rfl, hB2⟩
  · have hL : conL n (xsOf v) = [] := by simp [conL, hc]
    rw [hL]
    repeat' (first | (apply brI <;> intro hb hb2 <;> (try simp [-Int.not_le, -Int.not_lt, -Nat.not_le, -Nat.not_lt, -Nat.add_left_cancel_iff] at hb2)) | (refine draw_listA (by rfl) (by kernel_rfl) ?_) | (refine draw_listB (by simp [allocsOf, isAlloc]; rfl) (by kernel_rfl) ?_) | simp (maxSteps := 2000000) (disch := first | omega | assumption | simp [*]) [*, -Int.not_le, -Int.not_lt, -Nat.not_le, -Nat.not_lt, -Nat.add_left_cancel_iff, wrap_i64, wrap_u64, Tryz.f100, isI_cells hv, isI_one hv, isI_low hv, isI_len hv])
    simp [conR, bufLR]
theorem sConcepts_s {n : Int} {v : AV} (hv : IsI v) {K : AV → Prop} {tg : Tg K} : CW env 100 [.agg [.int .i64 n, v]] K tg ↔ K (bufLR 101 19 2 2 (conR (xsOf v) (conL n (xsOf v)))) := callsTo_iff (sConcepts_c hv)
attribute [simp] sConcepts_s
end Go.Proofs.YtliecnadoklgoaaGreatDoor
/- The program's list of concepts; how many there are. Conditions: none. -/
namespace Go.Proofs.YtliecnadoklgoaaGreatDoor
open Ev
set_option linter.unusedVariables false
set_option linter.unusedSimpArgs false
set_option maxHeartbeats 4000000

theorem cf_ext {E : Env} {fid g : Nat} {dst : Option Nat} {args : List AV} {s : Nat → AV} {h : Heap} {off nt : Nat} {K : AV → Heap → Prop} {tg : Tg ((⟨s, h, off, nt⟩ : St), K)} {r : AV} {F : List AV → Option AV} (he : E.ext g = some F) (hr : F (lows h args) = some r) (hK : K r h) (hw : E.own g = false := by rfl) : CF E fid dst g args ⟨s, h, off, nt⟩ K tg := by
  unfold CF
  rw [WF_ext (r := r) (by simp only [extV, he, Option.bind_some, hr]) hw]
  exact hK
def upI (n : Nat) : List Int := (List.range n).map Int.ofNat
theorem upI_succ (n : Nat) : upI (n + 1) = upI n ++ [(n : Int)] := by simp [upI, List.range_succ]
theorem upI_len (n : Nat) : (upI n).length = n := by simp [upI]
theorem upI_sets : ∀ N : Fin 7, upI (2 ^ N.val) = intsF (setsF N.val) := by decide +kernel
/-- all sets of N elements in their order -/
def lecL (N : Nat) : List Int := intsF (lecF N)
theorem lecL_len {N : Nat} (h : N ≤ 6) : (lecL N).length = 2 ^ N := by unfold lecL; rw [intsF_len, lecF_len h]
def lecN (N : Nat) : List Nat := (lecF N).map Fin.val
theorem lecN_eq : ∀ N : Fin 7, lecN N.val = ((List.range 64).map Lect.rev6).filter (fun s => decide (s < 2 ^ N.val)) := by decide +kernel
theorem lecL_map (N : Nat) : lecL N = (lecN N).map Int.ofNat := by simp [lecL, intsF, lecN, Function.comp_def]
theorem lecN_lt {N : Nat} (h : N ≤ 6) {s : Nat} (hs : s ∈ lecN N) : s < 2 ^ N := by
  have e := lecN_eq ⟨N, by omega⟩
  simp only at e
  rw [e, List.mem_filter] at hs
  simpa using hs.2
theorem lecN_len {N : Nat} (h : N ≤ 6) : (lecN N).length = 2 ^ N := by unfold lecN; rw [List.length_map, lecF_len h]
theorem lecN_cls {N : Nat} (h : N ≤ 6) (cl : Nat → Nat) : (lecN N).filter (fun s => decide (cl s = s)) = Lect.cls N cl 64 := by
  have e := lecN_eq ⟨N, by omega⟩
  simp only at e
  rw [e, List.filter_filter]
  unfold Lect.cls
  congr 1
  funext s
  rw [Bool.and_comm]
theorem allSets_c {N : Nat} (hN : N ≤ 6) : EvC env 183 [.int .i64 N] (.sl 1 .no (ints (lecL N))) := by
  refine evC_of (F := Tryz.f183) rfl rfl (Nat.le_of_ble_eq_true rfl) ?_
  have hp : 2 ^ N ≤ 64 := by have : 2 ^ N ≤ 2 ^ 6 := Nat.pow_le_pow_right (by decide) hN; omega
  have hpp := Nat.two_pow_pos N
  have hpi : ((2 : Int) ^ N) = ((2 ^ N : Nat) : Int) := by simp
  have hpw := pow_small (i := N) (by omega)
  obtain ⟨P, hP⟩ : ∃ P, P = 2 ^ N := ⟨_, rfl⟩
  rw [← hP] at hp hpp hpi
  have hP1 : P ≤ 2 ^ N := by omega
  have hP2 : 2 ^ N ≤ P := by omega
  clear hP
  repeat' (first | (apply brI <;> intro hb hb2 <;> (try simp [-Int.not_le, -Int.not_lt, -Nat.not_le, -Nat.not_lt, -Nat.add_left_cancel_iff] at hb2)) | (refine draw_listA (by rfl) (by kernel_rfl) ?_) | (refine draw_listB (by simp [allocsOf, isAlloc]; rfl) (by kernel_rfl) ?_) | simp (maxSteps := 2000000) (disch := first | omega | assumption | simp [*]) [*, -Int.not_le, -Int.not_lt, -Nat.not_le, -Nat.not_lt, -Nat.add_left_cancel_iff, wrap_i64, wrap_u64, Tryz.f183])
  refine W_loopG P (fun i s h => s 8 = .int .i64 i ∧ s 7 = .int .i64 P ∧ Buf h 3 14 1 (s 3) (upI i)) ?_ ?_
  · simp [hpi, upI]; exact buf_nil ..
  rintro i s h hi ⟨h8, h7, hB⟩
  by_cases hi2 : i < P
  · repeat' (first | (apply brI <;> intro hb hb2 <;> (try simp [-Int.not_le, -Int.not_lt, -Nat.not_le, -Nat.not_lt, -Nat.add_left_cancel_iff] at hb2)) | (refine draw_listA (by rfl) (by kernel_rfl) ?_) | (refine draw_listB (by simp [allocsOf, isAlloc]; rfl) (by kernel_rfl) ?_) | simp (maxSteps := 2000000) (disch := first | omega | assumption | simp [*]) [*, -Int.not_le, -Int.not_lt, -Nat.not_le, -Nat.not_lt, -Nat.add_left_cancel_iff, wrap_i64, wrap_u64, h8, h7])
    refine wa_push hB (by simp) (by simp) (by rw [upI_len]; omega) ?_
    intro v2 h2 hB2 hk2
    repeat' (first | (apply brI <;> intro hb hb2 <;> (try simp [-Int.not_le, -Int.not_lt, -Nat.not_le, -Nat.not_lt, -Nat.add_left_cancel_iff] at hb2)) | (refine draw_listA (by rfl) (by kernel_rfl) ?_) | (refine draw_listB (by simp [allocsOf, isAlloc]; rfl) (by kernel_rfl) ?_) | simp (maxSteps := 2000000) (disch := first | omega | assumption | simp [*]) [*, -Int.not_le, -Int.not_lt, -Nat.not_le, -Nat.not_lt, -Nat.add_left_cancel_iff, wrap_i64, wrap_u64, h8, h7])
    rw [upI_succ]; exact hB2
  · obtain rfl : i = P := by omega
    have hlow := hB.low
    have hne : upI i ≠ [] := fun e => by have := congrArg List.length e; rw [upI_len] at this; simp at this; omega
    have hbc : bufC 1 (upI i) = .sl 1 .no (ints (upI i)) := by unfold bufC; rw [if_neg hne]
    repeat' (first | (apply brI <;> intro hb hb2 <;> (try simp [-Int.not_le, -Int.not_lt, -Nat.not_le, -Nat.not_lt, -Nat.add_left_cancel_iff] at hb2)) | (refine draw_listA (by rfl) (by kernel_rfl) ?_) | (refine draw_listB (by simp [allocsOf, isAlloc]; rfl) (by kernel_rfl) ?_) | simp (maxSteps := 2000000) (disch := first | omega | assumption | simp [*]) [*, -Int.not_le, -Int.not_lt, -Nat.not_le, -Nat.not_lt, -Nat.add_left_cancel_iff, wrap_i64, wrap_u64, h8, h7])
    refine cf_ext rfl (r := .sl 1 .no (ints (lecL N))) ?_ ?_
    · have hP : i = 2 ^ N := by omega
      have hus : upI (2 ^ N) = intsF (setsF N) := upI_sets ⟨N, by omega⟩
      simp only [lows, hlow, hbc]
      rw [hP, hus]
      exact sortF_eq hN (o := .no) rfl
    repeat' (first | (apply brI <;> intro hb hb2 <;> (try simp [-Int.not_le, -Int.not_lt, -Nat.not_le, -Nat.not_lt, -Nat.add_left_cancel_iff] at hb2)) | (refine draw_listA (by rfl) (by kernel_rfl) ?_) | (refine draw_listB (by simp [allocsOf, isAlloc]; rfl) (by kernel_rfl) ?_) | simp (maxSteps := 2000000) (disch := first | omega | assumption | simp [*]) [*, -Int.not_le, -Int.not_lt, -Nat.not_le, -Nat.not_lt, -Nat.add_left_cancel_iff, wrap_i64, wrap_u64])
theorem allSets_s {N : Nat} (hN : N ≤ 6) {K : AV → Prop} {tg : Tg K} : CW env 183 [.int .i64 N] K tg ↔ K (.sl 1 .no (ints (lecL N))) := callsTo_iff (allSets_c hN)
attribute [simp] allSets_s
theorem iIsClosed_c {N x : Nat} {v : AV} (hv : IsI v) (hc : PCtx N (xsOf v)) (hx : x < 2 ^ N) : EvC env 184 [.agg [.int .i64 N, v], .int .i64 x] (.bool (decide (cloN (xsOf v) N x = x))) := by
  refine evC_of (F := Tryz.f184) rfl rfl (Nat.le_of_ble_eq_true rfl) ?_
  have hs := pset_nat (N := N) (by have := hc.2.1; omega) hx
  have hcl : Clo (xsOf v) N (x : Int) = (cloN (xsOf v) N x : Nat) := by rw [cloN_cast]
  repeat' (first | (apply brI <;> intro hb hb2 <;> (try simp [-Int.not_le, -Int.not_lt, -Nat.not_le, -Nat.not_lt, -Nat.add_left_cancel_iff] at hb2)) | (refine draw_listA (by rfl) (by kernel_rfl) ?_) | (refine draw_listB (by simp [allocsOf, isAlloc]; rfl) (by kernel_rfl) ?_) | simp (maxSteps := 2000000) (disch := first | omega | assumption | simp [*]) [*, -Int.not_le, -Int.not_lt, -Nat.not_le, -Nat.not_lt, -Nat.add_left_cancel_iff, wrap_i64, wrap_u64, Tryz.f184, isI_cells hv, isI_one hv, isI_low hv, isI_len hv])
  constructor <;> intro h <;> omega
theorem iIsClosed_s {N x : Nat} {v : AV} (hv : IsI v) (hc : PCtx N (xsOf v)) (hx : x < 2 ^ N) {K : AV → Prop} {tg : Tg K} : CW env 184 [.agg [.int .i64 N, v], .int .i64 x] K tg ↔ K (.bool (decide (cloN (xsOf v) N x = x))) := callsTo_iff (iIsClosed_c hv hc hx)
attribute [simp] iIsClosed_s
/-- the first sets that are closed -/
def clTo (xs : List Int) (N i : Nat) : List Nat := ((lecN N).take i).filter fun s => decide (cloN xs N s = s)
theorem clTo_succ {xs : List Int} {N i x : Nat} (h : (lecN N)[i]? = some x) : clTo xs N (i + 1) = clTo xs N i ++ if cloN xs N x = x then [x] else [] := by
  unfold clTo
  rw [List.take_add_one, h, List.filter_append]
  congr 1
  by_cases e : cloN xs N x = x <;> simp [e]
theorem clTo_len (xs : List Int) (N i : Nat) : (clTo xs N i).length ≤ i := Nat.le_trans (List.length_filter_le _ _) (by simp; omega)
noncomputable def conV (T : Nat) (n : Int) (xs : List Int) : AV := if PCtx n xs then bufLR T 28 2 2 (conR xs (conL n xs)) else .sl 0 .lit []
theorem iConcepts_c {n : Int} {v : AV} (hv : IsI v) : EvC env 88 [.agg [.int .i64 n, v]] (conV 101 n (xsOf v)) := by
  refine evC_of (F := Tryz.f88) rfl rfl (Nat.le_of_ble_eq_true rfl) ?_
  by_cases hc : PCtx n (xsOf v)
  · obtain ⟨N, rfl⟩ : ∃ N : Nat, n = N := ⟨n.toNat, by have := hc.1; omega⟩
    have hn := hc.2.1
    have hN6 : N ≤ 6 := by omega
    have hV : conV 101 N (xsOf v) = bufLR 101 28 2 2 (conR (xsOf v) (Lect.cls N (cloN (xsOf v) N) 64)) := by simp [conV, conL, hc]
    rw [hV, ← lecN_cls hN6 (cloN (xsOf v) N)]
    have hl := lecL_len hN6
    have hp : 2 ^ N ≤ 64 := by have : 2 ^ N ≤ 2 ^ 6 := Nat.pow_le_pow_right (by decide) hN6; omega
    have hI : IsI (.sl 1 .no (ints (lecL N))) := isI_no (by unfold top63; omega)
    have hxI : xsOf (.sl 1 .no (ints (lecL N))) = lecL N := by simp
    obtain ⟨w, hw⟩ : ∃ w, AV.sl 1 .no (ints (lecL N)) = w := ⟨_, rfl⟩
    rw [hw] at hI hxI
    have hall : ∀ (K : AV → Prop) (tg : Tg K), CW env 183 [.int .i64 N] K tg ↔ K w := fun K tg => callsTo_iff (by rw [← hw]; exact allSets_c hN6)
    have hxl : (xsOf w).length = (lecN N).length := by rw [hxI, hl, lecN_len hN6]
    have hnw : noEx w = w := by rw [← hw]; simp
    have hnth : ∀ i, i < (lecN N).length → ∃ x : Nat, (lecN N)[i]? = some x ∧ nth (xsOf w) i = x ∧ x < 2 ^ N := by
      intro i hi
      refine ⟨(lecN N)[i], by simp [hi], ?_, lecN_lt hN6 (List.getElem_mem hi)⟩
      rw [hxI, lecL_map, nth]
      simp [hi]
    have hl64 : (lecN N).length ≤ 64 := by rw [lecN_len hN6]; exact hp
    clear hV hl hxI hw
    repeat' (first | (apply brI <;> intro hb hb2 <;> (try simp [-Int.not_le, -Int.not_lt, -Nat.not_le, -Nat.not_lt, -Nat.add_left_cancel_iff] at hb2)) | (refine draw_listA (by rfl) (by kernel_rfl) ?_) | (refine draw_listB (by simp [allocsOf, isAlloc]; rfl) (by kernel_rfl) ?_) | simp (maxSteps := 2000000) (disch := first | omega | assumption | simp [*]) [*, -Int.not_le, -Int.not_lt, -Nat.not_le, -Nat.not_lt, -Nat.add_left_cancel_iff, wrap_i64, wrap_u64, Tryz.f88, isI_cells hv, isI_one hv, isI_low hv, isI_len hv, isI_cells hI, isI_one hI, isI_low hI, isI_len hI, isI_noEx hI])
    refine W_loopG (lecN N).length (fun i s h => s 14 = .int .i64 i ∧ s 13 = .int .i64 (lecN N).length ∧ s 12 = w ∧ s 1 = .vp 1 0 0 ∧ h 1 = some (.var 0 26 (.agg [.int .i64 N, v])) ∧
      BufL h 101 28 2 2 (s 3) (conR (xsOf v) (clTo (xsOf v) N i))) ?_ ?_
    · simp [*, clTo, conR]
      exact bufL_nil ..
    rintro i s h hi ⟨h14, h13, h12, h1, e1, hB⟩
    by_cases hi2 : i < (lecN N).length
    · obtain ⟨x, hx1, hx2, hx⟩ := hnth i hi2
      have hiw : i < (xsOf w).length := by omega
      have hcl := clTo_len (xsOf v) N i
      have hsu := clTo_succ (xs := xsOf v) hx1
      have hps := pset_nat (N := N) (by omega) hx
      have hclen : (conR (xsOf v) (clTo (xsOf v) N i)).length < 1073741824 := by simp [conR]; omega
      clear hx1 hnth hcl
      by_cases hcx : cloN (xsOf v) N x = x
      · rw [if_pos hcx] at hsu
        repeat' (first | (apply brI <;> intro hb hb2 <;> (try simp [-Int.not_le, -Int.not_lt, -Nat.not_le, -Nat.not_lt, -Nat.add_left_cancel_iff] at hb2)) | (refine draw_listA (by rfl) (by kernel_rfl) ?_) | (refine draw_listB (by simp [allocsOf, isAlloc]; rfl) (by kernel_rfl) ?_) | simp (maxSteps := 2000000) (disch := first | omega | assumption | simp [*]) [*, -Int.not_le, -Int.not_lt, -Nat.not_le, -Nat.not_lt, -Nat.add_left_cancel_iff, wrap_i64, wrap_u64, h14, h13, h12, h1, e1, isI_cells hv, isI_one hv, isI_low hv, isI_len hv, isI_len hI, isI_index hI, isI_load hI])
        refine wa_pushL hB (by simp) (by simp) (by simp) ⟨rfl, rfl⟩ (fun _ => rfl) hclen ?_
        intro v2 h2 hB2 hk2
        have e12 := (hk2 1 (by omega)).trans e1
        have hpush : conR (xsOf v) (clTo (xsOf v) N (i + 1)) = conR (xsOf v) (clTo (xsOf v) N i) ++ [.agg [.int .i64 (Ext (xsOf v) x), .int .i64 x]] := by rw [hsu]; simp [conR, pr]
        rw [← hpush] at hB2
        clear hpush hsu hk2
        repeat' (first | (apply brI <;> intro hb hb2 <;> (try simp [-Int.not_le, -Int.not_lt, -Nat.not_le, -Nat.not_lt, -Nat.add_left_cancel_iff] at hb2)) | (refine draw_listA (by rfl) (by kernel_rfl) ?_) | (refine draw_listB (by simp [allocsOf, isAlloc]; rfl) (by kernel_rfl) ?_) | simp (maxSteps := 2000000) (disch := first | omega | assumption | simp [*]) [*, -Int.not_le, -Int.not_lt, -Nat.not_le, -Nat.not_lt, -Nat.add_left_cancel_iff, wrap_i64, wrap_u64, h14, h13, h12, h1, e12, isI_cells hv, isI_one hv, isI_low hv, isI_len hv])
        exact hB2
      · rw [if_neg hcx, List.append_nil] at hsu
        rw [← hsu] at hB
        clear hsu
        repeat' (first | (apply brI <;> intro hb hb2 <;> (try simp [-Int.not_le, -Int.not_lt, -Nat.not_le, -Nat.not_lt, -Nat.add_left_cancel_iff] at hb2)) | (refine draw_listA (by rfl) (by kernel_rfl) ?_) | (refine draw_listB (by simp [allocsOf, isAlloc]; rfl) (by kernel_rfl) ?_) | simp (maxSteps := 2000000) (disch := first | omega | assumption | simp [*]) [*, -Int.not_le, -Int.not_lt, -Nat.not_le, -Nat.not_lt, -Nat.add_left_cancel_iff, wrap_i64, wrap_u64, h14, h13, h12, h1, e1, isI_cells hv, isI_one hv, isI_low hv, isI_len hv, isI_len hI, isI_index hI, isI_load hI])
    · obtain rfl : i = (lecN N).length := by omega
      have hE := hB.expo
      have hful : clTo (xsOf v) N (lecN N).length = (lecN N).filter fun s => decide (cloN (xsOf v) N s = s) := by unfold clTo; rw [List.take_of_length_le (Nat.le_refl _)]
      rw [hful] at hE
      clear hful hnth hB
      repeat' (first | (apply brI <;> intro hb hb2 <;> (try simp [-Int.not_le, -Int.not_lt, -Nat.not_le, -Nat.not_lt, -Nat.add_left_cancel_iff] at hb2)) | (refine draw_listA (by rfl) (by kernel_rfl) ?_) | (refine draw_listB (by simp [allocsOf, isAlloc]; rfl) (by kernel_rfl) ?_) | simp (maxSteps := 2000000) (disch := first | omega | assumption | simp [*]) [*, -Int.not_le, -Int.not_lt, -Nat.not_le, -Nat.not_lt, -Nat.add_left_cancel_iff, wrap_i64, wrap_u64, h14, h13, h12, h1, e1, isI_cells hv, isI_one hv, isI_low hv, isI_len hv, isI_len hI])
  · have hV : conV 101 n (xsOf v) = .sl 0 .lit [] := by simp [conV, hc]
    rw [hV]
    repeat' (first | (apply brI <;> intro hb hb2 <;> (try simp [-Int.not_le, -Int.not_lt, -Nat.not_le, -Nat.not_lt, -Nat.add_left_cancel_iff] at hb2)) | (refine draw_listA (by rfl) (by kernel_rfl) ?_) | (refine draw_listB (by simp [allocsOf, isAlloc]; rfl) (by kernel_rfl) ?_) | simp (maxSteps := 2000000) (disch := first | omega | assumption | simp [*]) [*, -Int.not_le, -Int.not_lt, -Nat.not_le, -Nat.not_lt, -Nat.add_left_cancel_iff, wrap_i64, wrap_u64, Tryz.f88, isI_cells hv, isI_one hv, isI_low hv, isI_len hv])
theorem iConcepts_s {n : Int} {v : AV} (hv : IsI v) {K : AV → Prop} {tg : Tg K} : CW env 88 [.agg [.int .i64 n, v]] K tg ↔ K (conV 101 n (xsOf v)) := callsTo_iff (iConcepts_c hv)
attribute [simp] iConcepts_s
theorem conR_len (xs : List Int) (l : List Nat) : (conR xs l).length = l.length := by simp [conR]
theorem conR_pr (xs : List Int) (l : List Nat) : ∀ e ∈ conR xs l, ∃ a b, e = pr a b := by
  intro e he
  simp only [conR, List.mem_map] at he
  obtain ⟨s, _, rfl⟩ := he
  exact ⟨_, _, rfl⟩
/-- the list, as a value that is read -/
noncomputable def conW (n : Int) (xs : List Int) : AV := bufLC 2 2 (conR xs (conL n xs))
theorem conW_P (n : Int) (xs : List Int) : IsP (conW n xs) := isP_bufLC (conR_pr _ _) (by rw [conR_len]; have := conL_len n xs; unfold top63; omega)
theorem conW_fsts (n : Int) (xs : List Int) : fsts (conW n xs) = (conL n xs).map fun (s : Nat) => Ext xs (s : Int) := by
  unfold conW; rw [fsts_bufLC]; simp [conR, Function.comp_def]
theorem conW_snds (n : Int) (xs : List Int) : snds (conW n xs) = (conL n xs).map fun (s : Nat) => (s : Int) := by
  unfold conW; rw [snds_bufLC]; simp [conR, Function.comp_def]
theorem conW_len (n : Int) (xs : List Int) : (fsts (conW n xs)).length = (conL n xs).length := by rw [conW_fsts]; simp
noncomputable def conW2 (n : Int) (xs : List Int) : AV := if PCtx n xs then conW n xs else .sl 0 .lit []
theorem conW2_P (n : Int) (xs : List Int) : IsP (conW2 n xs) := by
  unfold conW2; split
  · exact conW_P ..
  · exact isP_lit
theorem conW2_fsts (n : Int) (xs : List Int) : fsts (conW2 n xs) = fsts (conW n xs) := by
  unfold conW2; split
  · rfl
  · rename_i h; rw [conW_fsts, conL, if_neg h]; rfl
theorem conW2_snds (n : Int) (xs : List Int) : snds (conW2 n xs) = snds (conW n xs) := by
  unfold conW2; split
  · rfl
  · rename_i h; rw [conW_snds, conL, if_neg h]; rfl
theorem noEx_bufLR (T key k0 sz : Nat) (es : List AV) : noEx (bufLR T key k0 sz es) = bufLC k0 sz es := by
  unfold bufLR bufLC; split <;> simp
theorem sCon_noEx (n : Int) (xs : List Int) (T : Nat) : noEx (bufLR T 19 2 2 (conR xs (conL n xs))) = conW n xs := noEx_bufLR ..
theorem iCon_noEx (n : Int) (xs : List Int) (T : Nat) : noEx (conV T n xs) = conW2 n xs := by
  unfold conV conW2; split
  · exact noEx_bufLR ..
  · simp
theorem sCountConcepts_c {n : Int} {v : AV} (hv : IsI v) : EvC env 27 [.agg [.int .i64 n, v]] (.int .i64 (conL n (xsOf v)).length) := by
  refine evC_of (F := Tryz.f27) rfl rfl (Nat.le_of_ble_eq_true rfl) ?_
  have hP := conW_P n (xsOf v)
  have hl := conW_len n (xsOf v)
  have hw := sCon_noEx n (xsOf v) 101
  obtain ⟨w, hww⟩ : ∃ w, conW n (xsOf v) = w := ⟨_, rfl⟩
  rw [hww] at hP hl hw
  clear hww
  repeat' (first | (apply brI <;> intro hb hb2 <;> (try simp [-Int.not_le, -Int.not_lt, -Nat.not_le, -Nat.not_lt, -Nat.add_left_cancel_iff] at hb2)) | (refine draw_listA (by rfl) (by kernel_rfl) ?_) | (refine draw_listB (by simp [allocsOf, isAlloc]; rfl) (by kernel_rfl) ?_) | simp (maxSteps := 2000000) (disch := first | omega | assumption | simp [*]) [*, -Int.not_le, -Int.not_lt, -Nat.not_le, -Nat.not_lt, -Nat.add_left_cancel_iff, wrap_i64, wrap_u64, Tryz.f27, isI_cells hv, isI_one hv, isI_low hv, isI_len hv, isP_len hP])
theorem sCountConcepts_s {n : Int} {v : AV} (hv : IsI v) {K : AV → Prop} {tg : Tg K} : CW env 27 [.agg [.int .i64 n, v]] K tg ↔ K (.int .i64 (conL n (xsOf v)).length) := callsTo_iff (sCountConcepts_c hv)
attribute [simp] sCountConcepts_s
end Go.Proofs.YtliecnadoklgoaaGreatDoor
