/- The program's list of concepts; how many there are. Conditions: none. -/
import Derived.Test.YtkkkgaapkibhkaaGreatDoorConA
import Derived.Test.YtkkkgaapkibhkaaGreatDoorSortC
namespace Go.Proofs.YtkkkgaapkibhkaaGreatDoor
open Ev
set_option linter.unusedVariables false
set_option linter.unusedSimpArgs false
set_option maxHeartbeats 4000000

theorem cf_ext {E : Env} {fid g : Nat} {dst : Option Nat} {args : List AV} {s : Nat → AV} {h : Heap} {off nt : Nat} {K : AV → Heap → Prop} {tg : Tg ((⟨s, h, off, nt⟩ : St), K)} {r : AV} {F : List AV → Option AV} (he : E.ext g = some F) (hr : F (lows h args) = some r) (hK : K r h) : CF E fid dst g args ⟨s, h, off, nt⟩ K tg := by
  unfold CF
  rw [WF_ext (r := r) (by simp only [extV, he, Option.bind_some, hr])]
  exact hK
def upI (n : Nat) : List Int := (List.range n).map Int.ofNat
theorem upI_succ (n : Nat) : upI (n + 1) = upI n ++ [(n : Int)] := by simp [upI, List.range_succ]
theorem upI_len (n : Nat) : (upI n).length = n := by simp [upI]
theorem upI_sets : ∀ N : Fin 7, upI (2 ^ N.val) = intsF (setsF N.val) := by decide +kernel
/-- all sets of N elements in their order -/
def lecL (N : Nat) : List Int := intsF (lecF N)
theorem lecL_len {N : Nat} (h : N ≤ 6) : (lecL N).length = 2 ^ N := by unfold lecL; rw [intsF_len, lecF_len h]
def lecN (N : Nat) : List Nat := (lecF N).map Fin.val
theorem lecN_eq : ∀ N : Fin 7, lecN N.val = ((List.range 64).map Lect.rev6).filter (fun s => decide (s < 2 ^ N.val)) := by decide +kernel
theorem lecL_map (N : Nat) : lecL N = (lecN N).map Int.ofNat := by simp [lecL, intsF, lecN, Function.comp_def]
theorem lecN_lt {N : Nat} (h : N ≤ 6) {s : Nat} (hs : s ∈ lecN N) : s < 2 ^ N := by
  have e := lecN_eq ⟨N, by omega⟩
  simp only at e
  rw [e, List.mem_filter] at hs
  simpa using hs.2
theorem lecN_len {N : Nat} (h : N ≤ 6) : (lecN N).length = 2 ^ N := by unfold lecN; rw [List.length_map, lecF_len h]
theorem lecN_cls {N : Nat} (h : N ≤ 6) (cl : Nat → Nat) : (lecN N).filter (fun s => decide (cl s = s)) = Lect.cls N cl 64 := by
  have e := lecN_eq ⟨N, by omega⟩
  simp only at e
  rw [e, List.filter_filter]
  unfold Lect.cls
  congr 1
  funext s
  rw [Bool.and_comm]
theorem allSets_c {N : Nat} (hN : N ≤ 6) : EvC env 212 [.int .i64 N] (.sl 1 .no (ints (lecL N))) := by
  refine evC_of (F := Tryz.f212) rfl rfl (Nat.le_of_ble_eq_true rfl) ?_
  have hp : 2 ^ N ≤ 64 := by have : 2 ^ N ≤ 2 ^ 6 := Nat.pow_le_pow_right (by decide) hN; omega
  have hpp := Nat.two_pow_pos N
  have hpi : ((2 : Int) ^ N) = ((2 ^ N : Nat) : Int) := by simp
  have hpw := pow_small (i := N) (by omega)
  obtain ⟨P, hP⟩ : ∃ P, P = 2 ^ N := ⟨_, rfl⟩
  rw [← hP] at hp hpp hpi
  have hP1 : P ≤ 2 ^ N := by omega
  have hP2 : 2 ^ N ≤ P := by omega
  clear hP
  repeat' (first | (apply br_intro <;> intro hb <;> (have hb2 := hb) <;> (try simp [-Int.not_le, -Int.not_lt, -Nat.not_le, -Nat.not_lt, -Nat.add_left_cancel_iff] at hb2)) | (refine draw_listA (by rfl) (by kernel_rfl) ?_) | (refine draw_listB (by simp [allocsOf, isAlloc]; rfl) (by kernel_rfl) ?_) | simp (maxSteps := 2000000) (disch := first | omega | assumption | simp [*]) [*, -Int.not_le, -Int.not_lt, -Nat.not_le, -Nat.not_lt, -Nat.add_left_cancel_iff, wrap_i64, wrap_u64, Tryz.f212])
  refine W_loopG P (fun i s h => s 8 = .int .i64 i ∧ s 7 = .int .i64 P ∧ Buf h 3 14 1 (s 3) (upI i)) ?_ ?_
  · simp [hpi, upI]; exact buf_nil ..
  rintro i s h hi ⟨h8, h7, hB⟩
  by_cases hi2 : i < P
  · repeat' (first | (apply br_intro <;> intro hb <;> (have hb2 := hb) <;> (try simp [-Int.not_le, -Int.not_lt, -Nat.not_le, -Nat.not_lt, -Nat.add_left_cancel_iff] at hb2)) | (refine draw_listA (by rfl) (by kernel_rfl) ?_) | (refine draw_listB (by simp [allocsOf, isAlloc]; rfl) (by kernel_rfl) ?_) | simp (maxSteps := 2000000) (disch := first | omega | assumption | simp [*]) [*, -Int.not_le, -Int.not_lt, -Nat.not_le, -Nat.not_lt, -Nat.add_left_cancel_iff, wrap_i64, wrap_u64, h8, h7])
    refine wa_push hB (by simp) (by simp) (by rw [upI_len]; omega) ?_
    intro v2 h2 hB2 hk2
    repeat' (first | (apply br_intro <;> intro hb <;> (have hb2 := hb) <;> (try simp [-Int.not_le, -Int.not_lt, -Nat.not_le, -Nat.not_lt, -Nat.add_left_cancel_iff] at hb2)) | (refine draw_listA (by rfl) (by kernel_rfl) ?_) | (refine draw_listB (by simp [allocsOf, isAlloc]; rfl) (by kernel_rfl) ?_) | simp (maxSteps := 2000000) (disch := first | omega | assumption | simp [*]) [*, -Int.not_le, -Int.not_lt, -Nat.not_le, -Nat.not_lt, -Nat.add_left_cancel_iff, wrap_i64, wrap_u64, h8, h7])
    rw [upI_succ]; exact hB2
  · obtain rfl : i = P := by omega
    have hlow := hB.low
    have hne : upI i ≠ [] := fun e => by have := congrArg List.length e; rw [upI_len] at this; simp at this; omega
    have hbc : bufC 1 (upI i) = .sl 1 .no (ints (upI i)) := by unfold bufC; rw [if_neg hne]
    repeat' (first | (apply br_intro <;> intro hb <;> (have hb2 := hb) <;> (try simp [-Int.not_le, -Int.not_lt, -Nat.not_le, -Nat.not_lt, -Nat.add_left_cancel_iff] at hb2)) | (refine draw_listA (by rfl) (by kernel_rfl) ?_) | (refine draw_listB (by simp [allocsOf, isAlloc]; rfl) (by kernel_rfl) ?_) | simp (maxSteps := 2000000) (disch := first | omega | assumption | simp [*]) [*, -Int.not_le, -Int.not_lt, -Nat.not_le, -Nat.not_lt, -Nat.add_left_cancel_iff, wrap_i64, wrap_u64, h8, h7])
    refine cf_ext rfl (r := .sl 1 .no (ints (lecL N))) ?_ ?_
    · have hP : i = 2 ^ N := by omega
      have hus : upI (2 ^ N) = intsF (setsF N) := upI_sets ⟨N, by omega⟩
      simp only [lows, hlow, hbc]
      rw [hP, hus]
      exact sortF_eq hN (o := .no) rfl
    repeat' (first | (apply br_intro <;> intro hb <;> (have hb2 := hb) <;> (try simp [-Int.not_le, -Int.not_lt, -Nat.not_le, -Nat.not_lt, -Nat.add_left_cancel_iff] at hb2)) | (refine draw_listA (by rfl) (by kernel_rfl) ?_) | (refine draw_listB (by simp [allocsOf, isAlloc]; rfl) (by kernel_rfl) ?_) | simp (maxSteps := 2000000) (disch := first | omega | assumption | simp [*]) [*, -Int.not_le, -Int.not_lt, -Nat.not_le, -Nat.not_lt, -Nat.add_left_cancel_iff, wrap_i64, wrap_u64])
theorem allSets_s {N : Nat} (hN : N ≤ 6) {K : AV → Prop} {tg : Tg K} : CW env 212 [.int .i64 N] K tg ↔ K (.sl 1 .no (ints (lecL N))) := callsTo_iff (allSets_c hN)
attribute [simp] allSets_s
theorem iIsClosed_c {N x : Nat} {v : AV} (hv : IsI v) (hc : PCtx N (xsOf v)) (hx : x < 2 ^ N) : EvC env 213 [.agg [.int .i64 N, v], .int .i64 x] (.bool (decide (cloN (xsOf v) N x = x))) := by
  refine evC_of (F := Tryz.f213) rfl rfl (Nat.le_of_ble_eq_true rfl) ?_
  have hs := pset_nat (N := N) (by have := hc.2.1; omega) hx
  have hcl : Clo (xsOf v) N (x : Int) = (cloN (xsOf v) N x : Nat) := by rw [cloN_cast]
  repeat' (first | (apply br_intro <;> intro hb <;> (have hb2 := hb) <;> (try simp [-Int.not_le, -Int.not_lt, -Nat.not_le, -Nat.not_lt, -Nat.add_left_cancel_iff] at hb2)) | (refine draw_listA (by rfl) (by kernel_rfl) ?_) | (refine draw_listB (by simp [allocsOf, isAlloc]; rfl) (by kernel_rfl) ?_) | simp (maxSteps := 2000000) (disch := first | omega | assumption | simp [*]) [*, -Int.not_le, -Int.not_lt, -Nat.not_le, -Nat.not_lt, -Nat.add_left_cancel_iff, wrap_i64, wrap_u64, Tryz.f213, isI_cells hv, isI_one hv, isI_low hv, isI_len hv])
  constructor <;> intro h <;> omega
theorem iIsClosed_s {N x : Nat} {v : AV} (hv : IsI v) (hc : PCtx N (xsOf v)) (hx : x < 2 ^ N) {K : AV → Prop} {tg : Tg K} : CW env 213 [.agg [.int .i64 N, v], .int .i64 x] K tg ↔ K (.bool (decide (cloN (xsOf v) N x = x))) := callsTo_iff (iIsClosed_c hv hc hx)
attribute [simp] iIsClosed_s
/-- the first sets that are closed -/
def clTo (xs : List Int) (N i : Nat) : List Nat := ((lecN N).take i).filter fun s => decide (cloN xs N s = s)
theorem clTo_succ {xs : List Int} {N i x : Nat} (h : (lecN N)[i]? = some x) : clTo xs N (i + 1) = clTo xs N i ++ if cloN xs N x = x then [x] else [] := by
  unfold clTo
  rw [List.take_add_one, h, List.filter_append]
  congr 1
  by_cases e : cloN xs N x = x <;> simp [e]
theorem clTo_len (xs : List Int) (N i : Nat) : (clTo xs N i).length ≤ i := Nat.le_trans (List.length_filter_le _ _) (by simp; omega)
noncomputable def conV (T : Nat) (n : Int) (xs : List Int) : AV := if PCtx n xs then bufLR T 28 2 2 (conR xs (conL n xs)) else .sl 0 .lit []
theorem iConcepts_c {n : Int} {v : AV} (hv : IsI v) : EvC env 108 [.agg [.int .i64 n, v]] (conV 102 n (xsOf v)) := by
  refine evC_of (F := Tryz.f108) rfl rfl (Nat.le_of_ble_eq_true rfl) ?_
  by_cases hc : PCtx n (xsOf v)
  · obtain ⟨N, rfl⟩ : ∃ N : Nat, n = N := ⟨n.toNat, by have := hc.1; omega⟩
    have hn := hc.2.1
    have hN6 : N ≤ 6 := by omega
    have hV : conV 102 N (xsOf v) = bufLR 102 28 2 2 (conR (xsOf v) (Lect.cls N (cloN (xsOf v) N) 64)) := by simp [conV, conL, hc]
    rw [hV, ← lecN_cls hN6 (cloN (xsOf v) N)]
    have hl := lecL_len hN6
    have hp : 2 ^ N ≤ 64 := by have : 2 ^ N ≤ 2 ^ 6 := Nat.pow_le_pow_right (by decide) hN6; omega
    have hI : IsI (.sl 1 .no (ints (lecL N))) := isI_no (by unfold top63; omega)
    have hxI : xsOf (.sl 1 .no (ints (lecL N))) = lecL N := by simp
    obtain ⟨w, hw⟩ : ∃ w, AV.sl 1 .no (ints (lecL N)) = w := ⟨_, rfl⟩
    rw [hw] at hI hxI
    have hall : ∀ (K : AV → Prop) (tg : Tg K), CW env 212 [.int .i64 N] K tg ↔ K w := fun K tg => callsTo_iff (by rw [← hw]; exact allSets_c hN6)
    have hxl : (xsOf w).length = (lecN N).length := by rw [hxI, hl, lecN_len hN6]
    have hnw : noEx w = w := by rw [← hw]; simp
    have hnth : ∀ i, i < (lecN N).length → ∃ x : Nat, (lecN N)[i]? = some x ∧ nth (xsOf w) i = x ∧ x < 2 ^ N := by
      intro i hi
      refine ⟨(lecN N)[i], by simp [hi], ?_, lecN_lt hN6 (List.getElem_mem hi)⟩
      rw [hxI, lecL_map, nth]
      simp [hi]
    have hl64 : (lecN N).length ≤ 64 := by rw [lecN_len hN6]; exact hp
    clear hV hl hxI hw
    repeat' (first | (apply br_intro <;> intro hb <;> (have hb2 := hb) <;> (try simp [-Int.not_le, -Int.not_lt, -Nat.not_le, -Nat.not_lt, -Nat.add_left_cancel_iff] at hb2)) | (refine draw_listA (by rfl) (by kernel_rfl) ?_) | (refine draw_listB (by simp [allocsOf, isAlloc]; rfl) (by kernel_rfl) ?_) | simp (maxSteps := 2000000) (disch := first | omega | assumption | simp [*]) [*, -Int.not_le, -Int.not_lt, -Nat.not_le, -Nat.not_lt, -Nat.add_left_cancel_iff, wrap_i64, wrap_u64, Tryz.f108, isI_cells hv, isI_one hv, isI_low hv, isI_len hv, isI_cells hI, isI_one hI, isI_low hI, isI_len hI, isI_noEx hI])
    refine W_loopG (lecN N).length (fun i s h => s 14 = .int .i64 i ∧ s 13 = .int .i64 (lecN N).length ∧ s 12 = w ∧ s 1 = .vp 1 0 0 ∧ h 1 = some (.var 0 26 (.agg [.int .i64 N, v])) ∧
      BufL h 102 28 2 2 (s 3) (conR (xsOf v) (clTo (xsOf v) N i))) ?_ ?_
    · simp [*, clTo, conR]
      exact bufL_nil ..
    rintro i s h hi ⟨h14, h13, h12, h1, e1, hB⟩
    by_cases hi2 : i < (lecN N).length
    · obtain ⟨x, hx1, hx2, hx⟩ := hnth i hi2
      have hiw : i < (xsOf w).length := by omega
      have hcl := clTo_len (xsOf v) N i
      have hsu := clTo_succ (xs := xsOf v) hx1
      have hps := pset_nat (N := N) (by omega) hx
      have hclen : (conR (xsOf v) (clTo (xsOf v) N i)).length < 1073741824 := by simp [conR]; omega
      clear hx1 hnth hcl
      by_cases hcx : cloN (xsOf v) N x = x
      · rw [if_pos hcx] at hsu
        repeat' (first | (apply br_intro <;> intro hb <;> (have hb2 := hb) <;> (try simp [-Int.not_le, -Int.not_lt, -Nat.not_le, -Nat.not_lt, -Nat.add_left_cancel_iff] at hb2)) | (refine draw_listA (by rfl) (by kernel_rfl) ?_) | (refine draw_listB (by simp [allocsOf, isAlloc]; rfl) (by kernel_rfl) ?_) | simp (maxSteps := 2000000) (disch := first | omega | assumption | simp [*]) [*, -Int.not_le, -Int.not_lt, -Nat.not_le, -Nat.not_lt, -Nat.add_left_cancel_iff, wrap_i64, wrap_u64, h14, h13, h12, h1, e1, isI_cells hv, isI_one hv, isI_low hv, isI_len hv, isI_len hI, isI_index hI, isI_load hI])
        refine wa_pushL hB (by simp) (by simp) (by simp) ⟨rfl, rfl⟩ (fun _ => rfl) hclen ?_
        intro v2 h2 hB2 hk2
        have e12 := (hk2 1 (by omega)).trans e1
        have hpush : conR (xsOf v) (clTo (xsOf v) N (i + 1)) = conR (xsOf v) (clTo (xsOf v) N i) ++ [.agg [.int .i64 (Ext (xsOf v) x), .int .i64 x]] := by rw [hsu]; simp [conR, pr]
        rw [← hpush] at hB2
        clear hpush hsu hk2
        repeat' (first | (apply br_intro <;> intro hb <;> (have hb2 := hb) <;> (try simp [-Int.not_le, -Int.not_lt, -Nat.not_le, -Nat.not_lt, -Nat.add_left_cancel_iff] at hb2)) | (refine draw_listA (by rfl) (by kernel_rfl) ?_) | (refine draw_listB (by simp [allocsOf, isAlloc]; rfl) (by kernel_rfl) ?_) | simp (maxSteps := 2000000) (disch := first | omega | assumption | simp [*]) [*, -Int.not_le, -Int.not_lt, -Nat.not_le, -Nat.not_lt, -Nat.add_left_cancel_iff, wrap_i64, wrap_u64, h14, h13, h12, h1, e12, isI_cells hv, isI_one hv, isI_low hv, isI_len hv])
        exact hB2
      · rw [if_neg hcx, List.append_nil] at hsu
        rw [← hsu] at hB
        clear hsu
        repeat' (first | (apply br_intro <;> intro hb <;> (have hb2 := hb) <;> (try simp [-Int.not_le, -Int.not_lt, -Nat.not_le, -Nat.not_lt, -Nat.add_left_cancel_iff] at hb2)) | (refine draw_listA (by rfl) (by kernel_rfl) ?_) | (refine draw_listB (by simp [allocsOf, isAlloc]; rfl) (by kernel_rfl) ?_) | simp (maxSteps := 2000000) (disch := first | omega | assumption | simp [*]) [*, -Int.not_le, -Int.not_lt, -Nat.not_le, -Nat.not_lt, -Nat.add_left_cancel_iff, wrap_i64, wrap_u64, h14, h13, h12, h1, e1, isI_cells hv, isI_one hv, isI_low hv, isI_len hv, isI_len hI, isI_index hI, isI_load hI])
    · obtain rfl : i = (lecN N).length := by omega
      have hE := hB.expo
      have hful : clTo (xsOf v) N (lecN N).length = (lecN N).filter fun s => decide (cloN (xsOf v) N s = s) := by unfold clTo; rw [List.take_of_length_le (Nat.le_refl _)]
      rw [hful] at hE
      clear hful hnth hB
      repeat' (first | (apply br_intro <;> intro hb <;> (have hb2 := hb) <;> (try simp [-Int.not_le, -Int.not_lt, -Nat.not_le, -Nat.not_lt, -Nat.add_left_cancel_iff] at hb2)) | (refine draw_listA (by rfl) (by kernel_rfl) ?_) | (refine draw_listB (by simp [allocsOf, isAlloc]; rfl) (by kernel_rfl) ?_) | simp (maxSteps := 2000000) (disch := first | omega | assumption | simp [*]) [*, -Int.not_le, -Int.not_lt, -Nat.not_le, -Nat.not_lt, -Nat.add_left_cancel_iff, wrap_i64, wrap_u64, h14, h13, h12, h1, e1, isI_cells hv, isI_one hv, isI_low hv, isI_len hv, isI_len hI])
  · have hV : conV 102 n (xsOf v) = .sl 0 .lit [] := by simp [conV, hc]
    rw [hV]
    repeat' (first | (apply br_intro <;> intro hb <;> (have hb2 := hb) <;> (try simp [-Int.not_le, -Int.not_lt, -Nat.not_le, -Nat.not_lt, -Nat.add_left_cancel_iff] at hb2)) | (refine draw_listA (by rfl) (by kernel_rfl) ?_) | (refine draw_listB (by simp [allocsOf, isAlloc]; rfl) (by kernel_rfl) ?_) | simp (maxSteps := 2000000) (disch := first | omega | assumption | simp [*]) [*, -Int.not_le, -Int.not_lt, -Nat.not_le, -Nat.not_lt, -Nat.add_left_cancel_iff, wrap_i64, wrap_u64, Tryz.f108, isI_cells hv, isI_one hv, isI_low hv, isI_len hv])
theorem iConcepts_s {n : Int} {v : AV} (hv : IsI v) {K : AV → Prop} {tg : Tg K} : CW env 108 [.agg [.int .i64 n, v]] K tg ↔ K (conV 102 n (xsOf v)) := callsTo_iff (iConcepts_c hv)
attribute [simp] iConcepts_s
theorem conR_len (xs : List Int) (l : List Nat) : (conR xs l).length = l.length := by simp [conR]
theorem conR_pr (xs : List Int) (l : List Nat) : ∀ e ∈ conR xs l, ∃ a b, e = pr a b := by
  intro e he
  simp only [conR, List.mem_map] at he
  obtain ⟨s, _, rfl⟩ := he
  exact ⟨_, _, rfl⟩
/-- the list, as a value that is read -/
noncomputable def conW (n : Int) (xs : List Int) : AV := bufLC 2 2 (conR xs (conL n xs))
theorem conW_P (n : Int) (xs : List Int) : IsP (conW n xs) := isP_bufLC (conR_pr _ _) (by rw [conR_len]; have := conL_len n xs; unfold top63; omega)
theorem conW_fsts (n : Int) (xs : List Int) : fsts (conW n xs) = (conL n xs).map fun (s : Nat) => Ext xs (s : Int) := by
  unfold conW; rw [fsts_bufLC]; simp [conR, Function.comp_def]
theorem conW_snds (n : Int) (xs : List Int) : snds (conW n xs) = (conL n xs).map fun (s : Nat) => (s : Int) := by
  unfold conW; rw [snds_bufLC]; simp [conR, Function.comp_def]
theorem conW_len (n : Int) (xs : List Int) : (fsts (conW n xs)).length = (conL n xs).length := by rw [conW_fsts]; simp
noncomputable def conW2 (n : Int) (xs : List Int) : AV := if PCtx n xs then conW n xs else .sl 0 .lit []
theorem conW2_P (n : Int) (xs : List Int) : IsP (conW2 n xs) := by
  unfold conW2; split
  · exact conW_P ..
  · exact isP_lit
theorem conW2_fsts (n : Int) (xs : List Int) : fsts (conW2 n xs) = fsts (conW n xs) := by
  unfold conW2; split
  · rfl
  · rename_i h; rw [conW_fsts, conL, if_neg h]; rfl
theorem conW2_snds (n : Int) (xs : List Int) : snds (conW2 n xs) = snds (conW n xs) := by
  unfold conW2; split
  · rfl
  · rename_i h; rw [conW_snds, conL, if_neg h]; rfl
theorem noEx_bufLR (T key k0 sz : Nat) (es : List AV) : noEx (bufLR T key k0 sz es) = bufLC k0 sz es := by
  unfold bufLR bufLC; split <;> simp
theorem sCon_noEx (n : Int) (xs : List Int) (T : Nat) : noEx (bufLR T 19 2 2 (conR xs (conL n xs))) = conW n xs := noEx_bufLR ..
theorem iCon_noEx (n : Int) (xs : List Int) (T : Nat) : noEx (conV T n xs) = conW2 n xs := by
  unfold conV conW2; split
  · exact noEx_bufLR ..
  · simp
theorem sCountConcepts_c {n : Int} {v : AV} (hv : IsI v) : EvC env 28 [.agg [.int .i64 n, v]] (.int .i64 (conL n (xsOf v)).length) := by
  refine evC_of (F := Tryz.f28) rfl rfl (Nat.le_of_ble_eq_true rfl) ?_
  have hP := conW_P n (xsOf v)
  have hl := conW_len n (xsOf v)
  have hw := sCon_noEx n (xsOf v) 102
  obtain ⟨w, hww⟩ : ∃ w, conW n (xsOf v) = w := ⟨_, rfl⟩
  rw [hww] at hP hl hw
  clear hww
  repeat' (first | (apply br_intro <;> intro hb <;> (have hb2 := hb) <;> (try simp [-Int.not_le, -Int.not_lt, -Nat.not_le, -Nat.not_lt, -Nat.add_left_cancel_iff] at hb2)) | (refine draw_listA (by rfl) (by kernel_rfl) ?_) | (refine draw_listB (by simp [allocsOf, isAlloc]; rfl) (by kernel_rfl) ?_) | simp (maxSteps := 2000000) (disch := first | omega | assumption | simp [*]) [*, -Int.not_le, -Int.not_lt, -Nat.not_le, -Nat.not_lt, -Nat.add_left_cancel_iff, wrap_i64, wrap_u64, Tryz.f28, isI_cells hv, isI_one hv, isI_low hv, isI_len hv, isP_len hP])
theorem sCountConcepts_s {n : Int} {v : AV} (hv : IsI v) {K : AV → Prop} {tg : Tg K} : CW env 28 [.agg [.int .i64 n, v]] K tg ↔ K (.int .i64 (conL n (xsOf v)).length) := callsTo_iff (sCountConcepts_c hv)
attribute [simp] sCountConcepts_s
end Go.Proofs.YtkkkgaapkibhkaaGreatDoor
