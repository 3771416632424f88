/- Derivation as a closure; the closed sets of a context in their order: plain Lean. Conditions: none. -/
import Derived.Test.YtkkkgaapkibhkaaDoorInt
import Derived.Test.YtkkkgaapkibhkaaDoorAcc
import Derived.Test.YtkkkgaapkibhkaaDoorLect
namespace Go.Proofs.YtkkkgaapkibhkaaDoor
open Ev
set_option linter.unusedVariables false
set_option linter.unusedSimpArgs false

theorem ext_has (xs : List Int) (s : Int) (k : Nat) : PHas (Ext xs s) k = (decide (k < xs.length) && PSub s (nth xs k)) := setOf_has ..
theorem int_has (xs : List Int) (N : Nat) (o : Int) (m : Nat) : PHas (IntS xs N o) m = true ↔ m < N ∧ ∀ k, k < xs.length → PHas o k = true → PHas (nth xs k) m = true := by
  unfold IntS
  rw [setOf_has]
  simp only [comG, Bool.and_eq_true, decide_eq_true_eq, Bool.true_and, List.all_eq_true, List.mem_range, Bool.or_eq_true, Bool.not_eq_true']
  constructor
  · rintro ⟨h1, h2⟩
    exact ⟨h1, fun k hk ho => by rcases h2 k hk with h | h; · rw [ho] at h; cases h
                                 · exact h⟩
  · rintro ⟨h1, h2⟩
    refine ⟨h1, fun k hk => ?_⟩
    cases ho : PHas o k with
    | false => exact .inl rfl
    | true => exact .inr (h2 k hk ho)
theorem int_nn (xs : List Int) (N : Nat) (o : Int) : 0 ≤ IntS xs N o := (setOf_range _ _).1
theorem clo_nn (xs : List Int) (N : Nat) (s : Int) : 0 ≤ Clo xs N s := (setOf_range _ _).1
theorem ext_nn (xs : List Int) (s : Int) : 0 ≤ Ext xs s := (setOf_range _ _).1
theorem pset_nn {n s : Int} (h : PSet n s = true) : 0 ≤ s := (pset_lt h).1
theorem row_nn {n : Int} {xs : List Int} (hc : PCtx n xs) {k : Nat} (hk : k < xs.length) : 0 ≤ nth xs k := pset_nn (hc.2.2.2 k hk)
/-- a set lies in its closure -/
theorem sub_clo {N : Nat} {xs : List Int} (hc : PCtx N xs) {s : Int} (hs : PSet N s = true) : PSub s (Clo xs N s) = true := by
  rw [psub_all (pset_nn hs) (clo_nn ..)]
  intro i hi
  unfold Clo
  rw [int_has]
  refine ⟨by have := phas_lt hs hi; omega, fun k hk hE => ?_⟩
  rw [ext_has, Bool.and_eq_true] at hE
  exact (psub_all (pset_nn hs) (row_nn hc hk)).1 hE.2 i hi
theorem ext_anti {N : Nat} {xs : List Int} (hc : PCtx N xs) {s t : Int} (hs : PSet N s = true) (ht : PSet N t = true) (h : PSub s t = true) {k : Nat} (hk : PHas (Ext xs t) k = true) : PHas (Ext xs s) k = true := by
  rw [ext_has, Bool.and_eq_true, decide_eq_true_eq] at hk ⊢
  refine ⟨hk.1, ?_⟩
  rw [psub_all (pset_nn hs) (row_nn hc hk.1)]
  intro i hi
  exact (psub_all (pset_nn ht) (row_nn hc hk.1)).1 hk.2 i ((psub_all (pset_nn hs) (pset_nn ht)).1 h i hi)
theorem clo_mono {N : Nat} {xs : List Int} (hc : PCtx N xs) {s t : Int} (hs : PSet N s = true) (ht : PSet N t = true) (h : PSub s t = true) : PSub (Clo xs N s) (Clo xs N t) = true := by
  rw [psub_all (clo_nn ..) (clo_nn ..)]
  intro i hi
  unfold Clo at hi ⊢
  rw [int_has] at hi ⊢
  exact ⟨hi.1, fun k hk hE => hi.2 k hk (ext_anti hc hs ht h hE)⟩
theorem clo_pset {N : Nat} {xs : List Int} (hc : PCtx N xs) (s : Int) : PSet N (Clo xs N s) = true := int_pset _ _ (by have := hc.2.1; omega)
theorem ext_eq {xs : List Int} {s t : Int} (h : ∀ k : Nat, PHas (Ext xs s) k = PHas (Ext xs t) k) : Ext xs s = Ext xs t :=
  int_bits (ext_nn ..) (ext_nn ..) fun i => by rw [← phas_nat (ext_nn ..), ← phas_nat (ext_nn ..)]; exact h i
theorem ext_clo {N : Nat} {xs : List Int} (hc : PCtx N xs) {s : Int} (hs : PSet N s = true) : Ext xs (Clo xs N s) = Ext xs s := by
  refine ext_eq fun k => ?_
  rw [Bool.eq_iff_iff]
  refine ⟨fun h => ext_anti hc hs (clo_pset hc s) (sub_clo hc hs) h, fun h => ?_⟩
  have h2 := h
  rw [ext_has, Bool.and_eq_true, decide_eq_true_eq] at h2 ⊢
  refine ⟨h2.1, ?_⟩
  rw [psub_all (clo_nn ..) (row_nn hc h2.1)]
  intro i hi
  unfold Clo at hi
  rw [int_has] at hi
  exact hi.2 k h2.1 h
theorem clo_idem {N : Nat} {xs : List Int} (hc : PCtx N xs) {s : Int} (hs : PSet N s = true) : Clo xs N (Clo xs N s) = Clo xs N s := by
  show IntS xs N (Ext xs (Clo xs N s)) = _
  rw [ext_clo hc hs]; rfl
/-- the closure as a function of numbers -/
def cloN (xs : List Int) (N : Nat) (s : Nat) : Nat := (Clo xs N s).toNat
theorem pset_nat {N s : Nat} (hN : N ≤ 8) (h : s < 2 ^ N) : PSet N (s : Int) = true := by
  rw [pset_iff]
  have : ((2 ^ N : Nat) : Int) = (2 : Int) ^ N := by simp
  exact ⟨by omega, by omega, by omega, by rw [Int.toNat_natCast]; omega⟩
theorem nat_pset {N : Nat} {s : Int} (h : PSet N s = true) : s.toNat < 2 ^ N ∧ (s.toNat : Int) = s := by
  obtain ⟨_, _, h3, h4⟩ := pset_iff.mp h
  have : ((2 ^ N : Nat) : Int) = (2 : Int) ^ N := by simp
  rw [Int.toNat_natCast] at h4
  omega
theorem cloN_cast {N : Nat} {xs : List Int} (s : Nat) : (cloN xs N s : Int) = Clo xs N s := Int.toNat_of_nonneg (int_nn ..)
theorem clo_cl {N : Nat} {xs : List Int} (hc : PCtx N xs) : Lect.Cl N (cloN xs N) := by
  have hn := hc.2.1
  have hN : N ≤ 8 := by omega
  refine ⟨by omega, fun s hs => (nat_pset (clo_pset hc _)).1, fun s hs => ?_, fun s t hs ht h1 h2 => ?_, fun s hs => ?_⟩
  · have := sub_clo hc (pset_nat hN hs)
    simpa [PSub, cloN] using this
  · have h3 : PSub (s : Int) (t : Int) = true := by simpa [PSub] using h2
    have := clo_mono hc (pset_nat hN hs) (pset_nat hN ht) h3
    have h4 : Clo xs N (t : Int) = t := by rw [← cloN_cast, h1]
    rw [h4] at this
    simpa [PSub, cloN] using this
  · have := clo_idem hc (pset_nat hN hs)
    unfold cloN
    rw [Int.toNat_of_nonneg (show 0 ≤ Clo xs N s from int_nn ..), this]
/-- the intents of a context, in order -/
def conTo (xs : List Int) (N : Nat) (r : Nat) : List Int := (Lect.cls N (cloN xs N) r).map Int.ofNat
def conI (xs : List Int) (N : Nat) : List Int := conTo xs N 64
noncomputable def conN (n : Int) (xs : List Int) : List Int := if PCtx n xs then conI xs n.toNat else []
noncomputable def extN (n : Int) (xs : List Int) : List Int := (conN n xs).map (Ext xs)
theorem conTo_len (xs : List Int) (N r : Nat) : (conTo xs N r).length ≤ r := by
  unfold conTo; rw [List.length_map]; exact Lect.cls_len r
theorem conN_len (n : Int) (xs : List Int) : (conN n xs).length ≤ 64 := by
  unfold conN; split
  · exact conTo_len ..
  · simp
end Go.Proofs.YtkkkgaapkibhkaaDoor
