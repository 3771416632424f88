/- XConA XCon2, joined. Conditions: none. -/
import Derived.Test.YtlglhokpaplifaaGreatDoorExtI
import Derived.Test.YtlglhokpaplifaaGreatDoorBitA
import Derived.Test.YtlglhokpaplifaaGreatDoorLect
import Derived.Test.YtlglhokpaplifaaGreatDoorRec
import Derived.Test.YtlglhokpaplifaaGreatDoorSortC
/- XGal XCon, joined. Conditions: none. -/
/- Derivation as a closure; the closed sets of a context in their order: plain Lean. Conditions: none. -/
namespace Go.Proofs.YtlglhokpaplifaaGreatDoor
open Ev
set_option linter.unusedVariables false
set_option linter.unusedSimpArgs false

theorem ext_has (xs : List Int) (s : Int) (k : Nat) : PHas (Ext xs s) k = (decide (k < xs.length) && PSub s (nth xs k)) := setOf_has ..
theorem int_has (xs : List Int) (N : Nat) (o : Int) (m : Nat) : PHas (IntS xs N o) m = true ↔ m < N ∧ ∀ k, k < xs.length → PHas o k = true → PHas (nth xs k) m = true := by
  unfold IntS
  rw [setOf_has]
  simp only [comG, Bool.and_eq_true, decide_eq_true_eq, Bool.true_and, List.all_eq_true, List.mem_range, Bool.or_eq_true, Bool.not_eq_true']
  constructor
  · rintro ⟨h1, h2⟩
    exact ⟨h1, fun k hk ho => by rcases h2 k hk with h | h; · rw [ho] at h; cases h
                                 · exact h⟩
  · rintro ⟨h1, h2⟩
    refine ⟨h1, fun k hk => ?_⟩
    cases ho : PHas o k with
    | false => exact .inl rfl
    | true => exact .inr (h2 k hk ho)
theorem int_nn (xs : List Int) (N : Nat) (o : Int) : 0 ≤ IntS xs N o := (setOf_range _ _).1
theorem clo_nn (xs : List Int) (N : Nat) (s : Int) : 0 ≤ Clo xs N s := (setOf_range _ _).1
theorem ext_nn (xs : List Int) (s : Int) : 0 ≤ Ext xs s := (setOf_range _ _).1
theorem pset_nn {n s : Int} (h : PSet n s = true) : 0 ≤ s := (pset_lt h).1
theorem row_nn {n : Int} {xs : List Int} (hc : PCtx n xs) {k : Nat} (hk : k < xs.length) : 0 ≤ nth xs k := pset_nn (hc.2.2.2 k hk)
/-- a set lies in its closure -/
theorem sub_clo {N : Nat} {xs : List Int} (hc : PCtx N xs) {s : Int} (hs : PSet N s = true) : PSub s (Clo xs N s) = true := by
  rw [psub_all (pset_nn hs) (clo_nn ..)]
  intro i hi
  unfold Clo
  rw [int_has]
  refine ⟨by have := phas_lt hs hi; omega, fun k hk hE => ?_⟩
  rw [ext_has, Bool.and_eq_true] at hE
  exact (psub_all (pset_nn hs) (row_nn hc hk)).1 hE.2 i hi
theorem ext_anti {N : Nat} {xs : List Int} (hc : PCtx N xs) {s t : Int} (hs : PSet N s = true) (ht : PSet N t = true) (h : PSub s t = true) {k : Nat} (hk : PHas (Ext xs t) k = true) : PHas (Ext xs s) k = true := by
  rw [ext_has, Bool.and_eq_true, decide_eq_true_eq] at hk ⊢
  refine ⟨hk.1, ?_⟩
  rw [psub_all (pset_nn hs) (row_nn hc hk.1)]
  intro i hi
  exact (psub_all (pset_nn ht) (row_nn hc hk.1)).1 hk.2 i ((psub_all (pset_nn hs) (pset_nn ht)).1 h i hi)
theorem clo_mono {N : Nat} {xs : List Int} (hc : PCtx N xs) {s t : Int} (hs : PSet N s = true) (ht : PSet N t = true) (h : PSub s t = true) : PSub (Clo xs N s) (Clo xs N t) = true := by
  rw [psub_all (clo_nn ..) (clo_nn ..)]
  intro i hi
  unfold Clo at hi ⊢
  rw [int_has] at hi ⊢
  exact ⟨hi.1, fun k hk hE => hi.2 k hk (ext_anti hc hs ht h hE)⟩
theorem clo_pset {N : Nat} {xs : List Int} (hc : PCtx N xs) (s : Int) : PSet N (Clo xs N s) = true := int_pset _ _ (by have := hc.2.1; omega)
theorem ext_eq {xs : List Int} {s t : Int} (h : ∀ k : Nat, PHas (Ext xs s) k = PHas (Ext xs t) k) : Ext xs s = Ext xs t :=
  int_bits (ext_nn ..) (ext_nn ..) fun i => by rw [← phas_nat (ext_nn ..), ← phas_nat (ext_nn ..)]; exact h i
theorem ext_clo {N : Nat} {xs : List Int} (hc : PCtx N xs) {s : Int} (hs : PSet N s = true) : Ext xs (Clo xs N s) = Ext xs s := by
  refine ext_eq fun k => ?_
  rw [Bool.eq_iff_iff]
  refine ⟨fun h => ext_anti hc hs (clo_pset hc s) (sub_clo hc hs) h, fun h => ?_⟩
  have h2 := h
  rw [ext_has, Bool.and_eq_true, decide_eq_true_eq] at h2 ⊢
  refine ⟨h2.1, ?_⟩
  rw [psub_all (clo_nn ..) (row_nn hc h2.1)]
  intro i hi
  unfold Clo at hi
  rw [int_has] at hi
  exact hi.2 k h2.1 h
theorem clo_idem {N : Nat} {xs : List Int} (hc : PCtx N xs) {s : Int} (hs : PSet N s = true) : Clo xs N (Clo xs N s) = Clo xs N s := by
  show IntS xs N (Ext xs (Clo xs N s)) = _
  rw [ext_clo hc hs]; rfl
/-- the closure as a function of numbers -/
def cloN (xs : List Int) (N : Nat) (s : Nat) : Nat := (Clo xs N s).toNat
theorem pset_nat {N s : Nat} (hN : N ≤ 8) (h : s < 2 ^ N) : PSet N (s : Int) = true := by
  rw [pset_iff]
  have : ((2 ^ N : Nat) : Int) = (2 : Int) ^ N := by simp
  exact ⟨by omega, by omega, by omega, by rw [Int.toNat_natCast]; omega⟩
theorem nat_pset {N : Nat} {s : Int} (h : PSet N s = true) : s.toNat < 2 ^ N ∧ (s.toNat : Int) = s := by
  obtain ⟨_, _, h3, h4⟩ := pset_iff.mp h
  have : ((2 ^ N : Nat) : Int) = (2 : Int) ^ N := by simp
  rw [Int.toNat_natCast] at h4
  omega
theorem cloN_cast {N : Nat} {xs : List Int} (s : Nat) : (cloN xs N s : Int) = Clo xs N s := Int.toNat_of_nonneg (int_nn ..)
theorem clo_cl {N : Nat} {xs : List Int} (hc : PCtx N xs) : Lect.Cl N (cloN xs N) := by
  have hn := hc.2.1
  have hN : N ≤ 8 := by omega
  refine ⟨by omega, fun s hs => (nat_pset (clo_pset hc _)).1, fun s hs => ?_, fun s t hs ht h1 h2 => ?_, fun s hs => ?_⟩
  · have := sub_clo hc (pset_nat hN hs)
    simpa [PSub, cloN] using this
  · have h3 : PSub (s : Int) (t : Int) = true := by simpa [PSub] using h2
    have := clo_mono hc (pset_nat hN hs) (pset_nat hN ht) h3
    have h4 : Clo xs N (t : Int) = t := by rw [← cloN_cast, h1]
    rw [h4] at this
    simpa [PSub, cloN] using this
  · have := clo_idem hc (pset_nat hN hs)
    unfold cloN
    rw [Int.toNat_of_nonneg (show 0 ≤ Clo xs N s from int_nn ..), this]
/-- the intents of a context, in order -/
def conTo (xs : List Int) (N : Nat) (r : Nat) : List Int := (Lect.cls N (cloN xs N) r).map Int.ofNat
def conI (xs : List Int) (N : Nat) : List Int := conTo xs N 64
noncomputable def conN (n : Int) (xs : List Int) : List Int := if PCtx n xs then conI xs n.toNat else []
noncomputable def extN (n : Int) (xs : List Int) : List Int := (conN n xs).map (Ext xs)
theorem conTo_len (xs : List Int) (N r : Nat) : (conTo xs N r).length ≤ r := by
  unfold conTo; rw [List.length_map]; exact Lect.cls_len r
theorem conN_len (n : Int) (xs : List Int) : (conN n xs).length ≤ 64 := by
  unfold conN; split
  · exact conTo_len ..
  · simp
end Go.Proofs.YtlglhokpaplifaaGreatDoor
/- The concepts of a context, in their order. Conditions: none. -/
namespace Go.Proofs.YtlglhokpaplifaaGreatDoor
open Ev
set_option linter.unusedVariables false
set_option linter.unusedSimpArgs false
set_option maxHeartbeats 4000000

def nextV : Option Nat → AV
  | some y => .tup [.int .i64 y, .bool true]
  | none => .tup [.int .i64 0, .bool false]
@[simp] theorem nextV_some (y : Nat) : nextV (some y) = .tup [.int .i64 y, .bool true] := _root_.id rfl
@[simp] theorem nextV_none : nextV none = .tup [.int .i64 0, .bool false] := _root_.id rfl
/-- the concepts of closed sets -/
def conR (xs : List Int) (l : List Nat) : List AV := l.map fun (s : Nat) => pr (Ext xs (s : Int)) (s : Int)
noncomputable def conL (n : Int) (xs : List Int) : List Nat := if PCtx n xs then Lect.cls n.toNat (cloN xs n.toNat) 64 else []
theorem conL_len (n : Int) (xs : List Int) : (conL n xs).length ≤ 64 := by
  unfold conL; split
  · exact Lect.cls_len _
  · simp
end Go.Proofs.YtlglhokpaplifaaGreatDoor
/- The program's list of concepts; how many there are. Conditions: none. -/
namespace Go.Proofs.YtlglhokpaplifaaGreatDoor
open Ev
set_option linter.unusedVariables false
set_option linter.unusedSimpArgs false
set_option maxHeartbeats 4000000

theorem cf_ext {E : Env} {fid g : Nat} {dst : Option Nat} {args : List AV} {s : Nat → AV} {h : Heap} {off nt : Nat} {K : AV → Heap → Prop} {tg : Tg ((⟨s, h, off, nt⟩ : St), K)} {r : AV} {F : List AV → Option AV} (he : E.ext g = some F) (hr : F (lows h args) = some r) (hK : K r h) (hw : E.own g = false := by rfl) (hdp : E.deep g = false := by rfl) : CF E fid dst g args ⟨s, h, off, nt⟩ K tg := by
  unfold CF
  rw [WF_ext (r := r) (by simp only [extV, he, Option.bind_some, hr]) hw hdp]
  exact hK
def upI (n : Nat) : List Int := (List.range n).map Int.ofNat
theorem upI_succ (n : Nat) : upI (n + 1) = upI n ++ [(n : Int)] := by simp [upI, List.range_succ]
theorem upI_len (n : Nat) : (upI n).length = n := by simp [upI]
theorem upI_sets : ∀ N : Fin 7, upI (2 ^ N.val) = intsF (setsF N.val) := by decide +kernel
/-- all sets of N elements in their order -/
def lecL (N : Nat) : List Int := intsF (lecF N)
theorem lecL_len {N : Nat} (h : N ≤ 6) : (lecL N).length = 2 ^ N := by unfold lecL; rw [intsF_len, lecF_len h]
def lecN (N : Nat) : List Nat := (lecF N).map Fin.val
theorem lecN_eq : ∀ N : Fin 7, lecN N.val = ((List.range 64).map Lect.rev6).filter (fun s => decide (s < 2 ^ N.val)) := by decide +kernel
theorem lecL_map (N : Nat) : lecL N = (lecN N).map Int.ofNat := by simp [lecL, intsF, lecN, Function.comp_def]
theorem lecN_lt {N : Nat} (h : N ≤ 6) {s : Nat} (hs : s ∈ lecN N) : s < 2 ^ N := by
  have e := lecN_eq ⟨N, by omega⟩
  simp only at e
  rw [e, List.mem_filter] at hs
  simpa using hs.2
theorem lecN_len {N : Nat} (h : N ≤ 6) : (lecN N).length = 2 ^ N := by unfold lecN; rw [List.length_map, lecF_len h]
theorem lecN_cls {N : Nat} (h : N ≤ 6) (cl : Nat → Nat) : (lecN N).filter (fun s => decide (cl s = s)) = Lect.cls N cl 64 := by
  have e := lecN_eq ⟨N, by omega⟩
  simp only at e
  rw [e, List.filter_filter]
  unfold Lect.cls
  congr 1
  funext s
  rw [Bool.and_comm]
theorem allSets_c {N : Nat} (hN : N ≤ 6) : EvC env 86 [.int .i64 N] (.sl 1 .no (ints (lecL N))) := by
  refine evC_of (F := Tryz.f86) rfl rfl (Nat.le_of_ble_eq_true rfl) ?_
  have hp : 2 ^ N ≤ 64 := by have : 2 ^ N ≤ 2 ^ 6 := Nat.pow_le_pow_right (by decide) hN; omega
  have hpp := Nat.two_pow_pos N
  have hpi : ((2 : Int) ^ N) = ((2 ^ N : Nat) : Int) := by simp
  have hpw := pow_small (i := N) (by omega)
  obtain ⟨P, hP⟩ : ∃ P, P = 2 ^ N := ⟨_, rfl⟩
  rw [← hP] at hp hpp hpi
  have hP1 : P ≤ 2 ^ N := by omega
  have hP2 : 2 ^ N ≤ P := by omega
  clear hP
  repeat' (first | (apply brI <;> intro hb hb2 <;> (try simp [-Int.not_le, -Int.not_lt, -Nat.not_le, -Nat.not_lt, -Nat.add_left_cancel_iff] at hb2)) | (refine draw_listA (by rfl) (by kernel_rfl) ?_) | (refine draw_listB (by simp [allocsOf, isAlloc]; rfl) (by kernel_rfl) ?_) | simp (maxSteps := 2000000) (disch := first | omega | assumption | simp [*]) [*, -Int.not_le, -Int.not_lt, -Nat.not_le, -Nat.not_lt, -Nat.add_left_cancel_iff, wrap_i64, wrap_u64, Tryz.f86])
  refine W_loopG P (fun i s h => s 8 = .int .i64 i ∧ s 7 = .int .i64 P ∧ Buf h 3 14 1 (s 3) (upI i)) ?_ ?_
  · simp [hpi, upI]; exact buf_nil ..
  rintro i s h hi ⟨h8, h7, hB⟩
  by_cases hi2 : i < P
  · repeat' (first | (apply brI <;> intro hb hb2 <;> (try simp [-Int.not_le, -Int.not_lt, -Nat.not_le, -Nat.not_lt, -Nat.add_left_cancel_iff] at hb2)) | (refine draw_listA (by rfl) (by kernel_rfl) ?_) | (refine draw_listB (by simp [allocsOf, isAlloc]; rfl) (by kernel_rfl) ?_) | simp (maxSteps := 2000000) (disch := first | omega | assumption | simp [*]) [*, -Int.not_le, -Int.not_lt, -Nat.not_le, -Nat.not_lt, -Nat.add_left_cancel_iff, wrap_i64, wrap_u64, h8, h7])
    refine wa_push hB (by simp) (by simp) (by rw [upI_len]; omega) ?_
    intro v2 h2 hB2 hk2
    repeat' (first | (apply brI <;> intro hb hb2 <;> (try simp [-Int.not_le, -Int.not_lt, -Nat.not_le, -Nat.not_lt, -Nat.add_left_cancel_iff] at hb2)) | (refine draw_listA (by rfl) (by kernel_rfl) ?_) | (refine draw_listB (by simp [allocsOf, isAlloc]; rfl) (by kernel_rfl) ?_) | simp (maxSteps := 2000000) (disch := first | omega | assumption | simp [*]) [*, -Int.not_le, -Int.not_lt, -Nat.not_le, -Nat.not_lt, -Nat.add_left_cancel_iff, wrap_i64, wrap_u64, h8, h7])
    rw [upI_succ]; exact hB2
  · obtain rfl : i = P := by omega
    have hlow := hB.low
    have hne : upI i ≠ [] := fun e => by have := congrArg List.length e; rw [upI_len] at this; simp at this; omega
    have hbc : bufC 1 (upI i) = .sl 1 .no (ints (upI i)) := by unfold bufC; rw [if_neg hne]
    repeat' (first | (apply brI <;> intro hb hb2 <;> (try simp [-Int.not_le, -Int.not_lt, -Nat.not_le, -Nat.not_lt, -Nat.add_left_cancel_iff] at hb2)) | (refine draw_listA (by rfl) (by kernel_rfl) ?_) | (refine draw_listB (by simp [allocsOf, isAlloc]; rfl) (by kernel_rfl) ?_) | simp (maxSteps := 2000000) (disch := first | omega | assumption | simp [*]) [*, -Int.not_le, -Int.not_lt, -Nat.not_le, -Nat.not_lt, -Nat.add_left_cancel_iff, wrap_i64, wrap_u64, h8, h7])
    refine cf_ext rfl (r := .sl 1 .no (ints (lecL N))) ?_ ?_
    · have hP : i = 2 ^ N := by omega
      have hus : upI (2 ^ N) = intsF (setsF N) := upI_sets ⟨N, by omega⟩
      simp only [lows, hlow, hbc]
      rw [hP, hus]
      exact sortF_eq hN (o := .no) rfl
    repeat' (first | (apply brI <;> intro hb hb2 <;> (try simp [-Int.not_le, -Int.not_lt, -Nat.not_le, -Nat.not_lt, -Nat.add_left_cancel_iff] at hb2)) | (refine draw_listA (by rfl) (by kernel_rfl) ?_) | (refine draw_listB (by simp [allocsOf, isAlloc]; rfl) (by kernel_rfl) ?_) | simp (maxSteps := 2000000) (disch := first | omega | assumption | simp [*]) [*, -Int.not_le, -Int.not_lt, -Nat.not_le, -Nat.not_lt, -Nat.add_left_cancel_iff, wrap_i64, wrap_u64])
theorem allSets_s {N : Nat} (hN : N ≤ 6) {K : AV → Prop} {tg : Tg K} : CW env 86 [.int .i64 N] K tg ↔ K (.sl 1 .no (ints (lecL N))) := callsTo_iff (allSets_c hN)
attribute [simp] allSets_s
/-- the first sets that are closed -/
def clTo (xs : List Int) (N i : Nat) : List Nat := ((lecN N).take i).filter fun s => decide (cloN xs N s = s)
theorem clTo_succ {xs : List Int} {N i x : Nat} (h : (lecN N)[i]? = some x) : clTo xs N (i + 1) = clTo xs N i ++ if cloN xs N x = x then [x] else [] := by
  unfold clTo
  rw [List.take_add_one, h, List.filter_append]
  congr 1
  by_cases e : cloN xs N x = x <;> simp [e]
theorem clTo_len (xs : List Int) (N i : Nat) : (clTo xs N i).length ≤ i := Nat.le_trans (List.length_filter_le _ _) (by simp; omega)
noncomputable def conV (T : Nat) (n : Int) (xs : List Int) : AV := if PCtx n xs then bufLR T 28 2 2 (conR xs (conL n xs)) else .sl 0 .lit []
theorem conR_len (xs : List Int) (l : List Nat) : (conR xs l).length = l.length := by simp [conR]
theorem conR_pr (xs : List Int) (l : List Nat) : ∀ e ∈ conR xs l, ∃ a b, e = pr a b := by
  intro e he
  simp only [conR, List.mem_map] at he
  obtain ⟨s, _, rfl⟩ := he
  exact ⟨_, _, rfl⟩
/-- the list, as a value that is read -/
noncomputable def conW (n : Int) (xs : List Int) : AV := bufLC 2 2 (conR xs (conL n xs))
theorem conW_P (n : Int) (xs : List Int) : IsP (conW n xs) := isP_bufLC (conR_pr _ _) (by rw [conR_len]; have := conL_len n xs; unfold top63; omega)
theorem conW_fsts (n : Int) (xs : List Int) : fsts (conW n xs) = (conL n xs).map fun (s : Nat) => Ext xs (s : Int) := by
  unfold conW; rw [fsts_bufLC]; simp [conR, Function.comp_def]
theorem conW_snds (n : Int) (xs : List Int) : snds (conW n xs) = (conL n xs).map fun (s : Nat) => (s : Int) := by
  unfold conW; rw [snds_bufLC]; simp [conR, Function.comp_def]
theorem conW_len (n : Int) (xs : List Int) : (fsts (conW n xs)).length = (conL n xs).length := by rw [conW_fsts]; simp
noncomputable def conW2 (n : Int) (xs : List Int) : AV := if PCtx n xs then conW n xs else .sl 0 .lit []
theorem conW2_P (n : Int) (xs : List Int) : IsP (conW2 n xs) := by
  unfold conW2; split
  · exact conW_P ..
  · exact isP_lit
theorem conW2_fsts (n : Int) (xs : List Int) : fsts (conW2 n xs) = fsts (conW n xs) := by
  unfold conW2; split
  · rfl
  · rename_i h; rw [conW_fsts, conL, if_neg h]; rfl
theorem conW2_snds (n : Int) (xs : List Int) : snds (conW2 n xs) = snds (conW n xs) := by
  unfold conW2; split
  · rfl
  · rename_i h; rw [conW_snds, conL, if_neg h]; rfl
theorem noEx_bufLR (T key k0 sz : Nat) (es : List AV) : noEx (bufLR T key k0 sz es) = bufLC k0 sz es := by
  unfold bufLR bufLC; split <;> simp
theorem sCon_noEx (n : Int) (xs : List Int) (T : Nat) : noEx (bufLR T 19 2 2 (conR xs (conL n xs))) = conW n xs := noEx_bufLR ..
theorem iCon_noEx (n : Int) (xs : List Int) (T : Nat) : noEx (conV T n xs) = conW2 n xs := by
  unfold conV conW2; split
  · exact noEx_bufLR ..
  · simp
end Go.Proofs.YtlglhokpaplifaaGreatDoor
