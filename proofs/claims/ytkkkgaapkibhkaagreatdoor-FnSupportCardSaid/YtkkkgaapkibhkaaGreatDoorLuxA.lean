/- XMeas XLux, joined. Conditions: none. -/
import Derived.Test.YtkkkgaapkibhkaaGreatDoorStrong
import Derived.Test.YtkkkgaapkibhkaaGreatDoorIrrA
/- Lists of records of four numbers: values, laws' functions. Conditions: none. -/
namespace Go.Proofs.YtkkkgaapkibhkaaGreatDoor
open Ev
set_option linter.unusedVariables false
set_option linter.unusedSimpArgs false
set_option maxHeartbeats 4000000

def qr (a b c d : Int) : AV := .agg [.int .i64 a, .int .i64 b, .int .i64 c, .int .i64 d]
def qA (e : AV) : Int := match e with | .agg [.int _ a, _, _, _] => a | _ => 0
def qB (e : AV) : Int := match e with | .agg [_, .int _ b, _, _] => b | _ => 0
def qC (e : AV) : Int := match e with | .agg [_, _, .int _ c, _] => c | _ => 0
def qD (e : AV) : Int := match e with | .agg [_, _, _, .int _ d] => d | _ => 0
theorem qr_parts (a b c d : Int) : qA (qr a b c d) = a ∧ qB (qr a b c d) = b ∧ qC (qr a b c d) = c ∧ qD (qr a b c d) = d := ⟨rfl, rfl, rfl, rfl⟩
def atQ (es : List AV) (i : Nat) : AV := es.getD i .un
def IsQ (es : List AV) : Prop := ∀ e ∈ es, ∃ a b c d, e = qr a b c d
structure IsM (v : AV) : Prop where
  l : IsL 4 v
  el : IsQ (esOf v)
def mA (v : AV) (i : Nat) : Int := qA (atQ (esOf v) i)
def mB (v : AV) (i : Nat) : Int := qB (atQ (esOf v) i)
def mC (v : AV) (i : Nat) : Int := qC (atQ (esOf v) i)
def mD (v : AV) (i : Nat) : Int := qD (atQ (esOf v) i)
theorem IsM.len {v : AV} (hv : IsM v) : (esOf v).length ≤ top63 := hv.l.len
theorem isM_low {v : AV} (hv : IsM v) (h : Heap) : low h v = v := isL_low hv.l h
theorem isM_low0 {v : AV} (hv : IsM v) : low0 v = v := isL_low0 hv.l
theorem isM_cells {v : AV} (hv : IsM v) : v.cells = [v] := (isL_cells hv.l).1
theorem isM_one {v : AV} (hv : IsM v) : v.one = true := (isL_cells hv.l).2
theorem isM_noKey {v : AV} (hv : IsM v) (κ : Nat) : hasKey κ v = false := by
  obtain ⟨k, o, es, rfl, _, _⟩ := hv.l.ok
  simp
theorem isM_len {E : Env} {t : Nat} {v : AV} (hv : IsM v) (ht : slT E t = true) : lenV E t v = some (.int .i64 (esOf v).length) := isL_len hv.l ht
theorem isQ_at {es : List AV} (h : IsQ es) {i : Nat} (hi : i < es.length) : atQ es i = qr (qA (atQ es i)) (qB (atQ es i)) (qC (atQ es i)) (qD (atQ es i)) := by
  obtain ⟨a, b, c, d, e⟩ := h es[i] (List.getElem_mem hi)
  have e2 : atQ es i = qr a b c d := by simp [atQ, hi, e]
  rw [e2]; rfl
theorem isM_index {E : Env} {h : Heap} {t : Nat} {v : AV} {kd : IntKind} {n : Int} (hv : IsM v) (ht : slT E t = true) (hs : E.size (elT E t) = 4) (h0 : 0 ≤ n) (h1 : n < (esOf v).length) :
    indexA E h t v (.int kd n) = some (.cp (brwOf v) [.int .i64 (mA v n.toNat), .int .i64 (mB v n.toNat), .int .i64 (mC v n.toNat), .int .i64 (mD v n.toNat)] 0) := by
  rw [isL_index hv.l ht hs (by decide) h0 h1]
  have hg := isQ_at hv.el (i := n.toNat) (by omega)
  obtain ⟨k, o, es, rfl, _, _⟩ := hv.l.ok
  simp only [esOf_sl, atQ] at hg
  simp only [elP, brwOf, mA, mB, mC, mD, atQ, esOf_sl]
  rw [hg]
  rfl
theorem isM_mk {k : Nat} {o : Own} {es : List AV} (hk : es = [] ∨ k = 4) (ho : o.safe = true) (hl : es.length ≤ top63) (hq : IsQ es) : IsM (.sl k o es) where
  l := { len := hl, ok := ⟨k, o, _, rfl, hk, ho⟩, cells := fun e he => by
          obtain ⟨a, b, c, d, rfl⟩ := hq e he
          exact ⟨rfl, rfl⟩ }
  el := hq
theorem isQ_flat {es : List AV} (h : IsQ es) : es.all flat = true := by
  rw [List.all_eq_true]; intro e he
  obtain ⟨a, b, c, d, rfl⟩ := h e he
  rfl
theorem isQ_stabs {es : List AV} (h : IsQ es) : stabs es = true := by
  rw [stabs_iff]; intro e he
  obtain ⟨a, b, c, d, rfl⟩ := h e he
  rfl
theorem isQ_low0s : ∀ {es : List AV}, IsQ es → low0s es = es
  | [], _ => by simp
  | e :: es, h => by
    rw [low0s_cons, isQ_low0s fun x hx => h x (List.mem_cons_of_mem _ hx)]
    obtain ⟨a, b, c, d, rfl⟩ := h e (List.mem_cons_self ..)
    rfl
theorem isM_rowB {k0 : Nat} {es : List AV} (hq : IsQ es) (hl : es.length ≤ top63) : IsM (rowB 4 k0 es) := by
  unfold rowB; split
  · exact isM_mk (.inl rfl) rfl (Nat.zero_le _) (fun e he => by simp at he)
  · exact isM_mk (.inr rfl) rfl hl hq
theorem esOf_rowB {k k0 : Nat} {es : List AV} : esOf (rowB k k0 es) = es := by
  unfold rowB; split
  · rename_i h; rw [h]; rfl
  · rfl
theorem isM_bufLC {k0 : Nat} {es : List AV} (hq : IsQ es) (hl : es.length ≤ top63) : IsM (bufLC k0 4 es) := by
  unfold bufLC; split
  · exact isM_mk (.inl rfl) rfl (Nat.zero_le _) (fun e he => by simp at he)
  · exact isM_mk (.inr rfl) rfl hl hq
theorem esOf_bufLC {k k0 : Nat} {es : List AV} : esOf (bufLC k0 k es) = es := by
  unfold bufLC; split
  · rename_i h; rw [h]; rfl
  · rfl
theorem lowQ {h : Heap} {key T k k0 : Nat} {v : AV} {es : List AV} (hR : Row h key T k k0 v es) (hq : IsQ es) : Ev.low h v = rowB k k0 es := hR.low (isQ_stabs hq) (isQ_low0s hq)
/-- a list of records, told by four functions -/
def qrs (A B C D : Nat → Int) (n : Nat) : List AV := (List.range n).map fun i => qr (A i) (B i) (C i) (D i)
@[simp] theorem qrs_length (A B C D : Nat → Int) (n : Nat) : (qrs A B C D n).length = n := by simp [qrs]
@[simp] theorem qrs_getElem (A B C D : Nat → Int) (n i : Nat) (h : i < (qrs A B C D n).length) : (qrs A B C D n)[i] = .agg [.int .i64 (A i), .int .i64 (B i), .int .i64 (C i), .int .i64 (D i)] := by simp [qrs, qr]
theorem qrs_of {es : List AV} (h : IsQ es) : es = qrs (fun i => qA (atQ es i)) (fun i => qB (atQ es i)) (fun i => qC (atQ es i)) (fun i => qD (atQ es i)) es.length := by
  apply List.ext_getElem (by simp)
  intro i h1 h2
  have := isQ_at h h1
  rw [qrs_getElem]
  have e : es[i] = atQ es i := by simp [atQ, h1]
  rw [e]; exact this
theorem qrs_isQ (A B C D : Nat → Int) (n : Nat) : IsQ (qrs A B C D n) := fun e he => by
  simp only [qrs, List.mem_map] at he
  obtain ⟨i, _, rfl⟩ := he
  exact ⟨_, _, _, _, rfl⟩
theorem qrs_congr {A B C D A' B' C' D' : Nat → Int} {n : Nat} (h : ∀ i, i < n → A i = A' i ∧ B i = B' i ∧ C i = C' i ∧ D i = D' i) : qrs A B C D n = qrs A' B' C' D' n := by
  unfold qrs
  apply List.map_congr_left
  intro i hi
  obtain ⟨a, b, c, d⟩ := h i (List.mem_range.1 hi)
  rw [a, b, c, d]
def updI (f : Nat → Int) (i : Nat) (x : Int) : Nat → Int := fun j => if j = i then x else f j
@[simp] theorem updI_same (f : Nat → Int) (i : Nat) (x : Int) : updI f i x i = x := by simp [updI]
theorem qrs_set {A B C D : Nat → Int} {n i : Nat} {a b c d : Int} : (qrs A B C D n).set i (.agg [.int .i64 a, .int .i64 b, .int .i64 c, .int .i64 d]) = qrs (updI A i a) (updI B i b) (updI C i c) (updI D i d) n := by
  apply List.ext_getElem (by simp)
  intro j h1 h2
  rw [List.getElem_set]
  by_cases e : i = j
  · subst e; simp
  · rw [if_neg e, qrs_getElem, qrs_getElem]
    simp [updI, Ne.symm e]
def mkQ (k : Int) (n : Nat) : List AV := qrs (fun i => k + 4 * i) (fun i => k + 4 * i + 1) (fun i => k + 4 * i + 2) (fun i => k + 4 * i + 3) n
@[simp] theorem mkQ_length (k : Int) (n : Nat) : (mkQ k n).length = n := by simp [mkQ]
theorem mkQ_isQ (k : Int) (n : Nat) : IsQ (mkQ k n) := qrs_isQ _ _ _ _ n
theorem atQ_qrs {A B C D : Nat → Int} {n i : Nat} (h : i < n) : atQ (qrs A B C D n) i = qr (A i) (B i) (C i) (D i) := by
  simp [atQ, h]; rfl
end Go.Proofs.YtkkkgaapkibhkaaGreatDoor
/- The base of Luxenburger: both sides, law. Conditions: none. -/
namespace Go.Proofs.YtkkkgaapkibhkaaGreatDoor
open Ev
set_option linter.unusedVariables false
set_option linter.unusedSimpArgs false
set_option maxHeartbeats 4000000

theorem cnt_zero : cntI 0 = 0 := by unfold cntI elemsTo; decide +kernel
theorem cnt_pos {s : Int} (h : PSet 8 s = true) : 0 < cntI s ↔ s ≠ 0 := by
  constructor
  · intro h1 e; subst e; rw [cnt_zero] at h1; omega
  · intro h1
    have h0 : PSet 8 (0 : Int) = true := by decide +kernel
    have := cnt_strict h0 h (by rw [psub_all (by decide) (pset_nn h)]; intro i hi; rw [phas_nat (by decide)] at hi; simp at hi) (Ne.symm h1)
    rw [cnt_zero] at this; exact this
theorem selTo_mem {p : Nat → Bool} {n j : Nat} (h : j < (selTo p n).length) : ∃ m : Nat, nth (selTo p n) j = m ∧ m < n := by
  rw [nth_eq h]
  have := List.getElem_mem h
  generalize (selTo p n)[j] = x at *
  simp only [selTo, List.mem_map, List.mem_filter, List.mem_range] at this
  obtain ⟨m, ⟨hm, _⟩, rfl⟩ := this
  exact ⟨m, rfl, hm⟩
def luxP (F S : List Int) (least : Int) (nb : List Int) (a : Nat) : Nat → List AV
  | 0 => []
  | j + 1 => luxP F S least nb a j ++ if least ≤ cntI (nth F (nth nb j).toNat) then [qr (nth S a) (nth S (nth nb j).toNat) (cntI (nth F (nth nb j).toNat)) (cntI (nth F a))] else []
theorem luxP_len (F S : List Int) (least : Int) (nb : List Int) (a j : Nat) : (luxP F S least nb a j).length ≤ j := by
  induction j with
  | zero => simp [luxP]
  | succ j ih => simp only [luxP, List.length_append]; split <;> simp <;> omega
theorem isQ_nil : IsQ [] := fun e he => by simp at he
theorem isQ_append {xs ys : List AV} (h1 : IsQ xs) (h2 : IsQ ys) : IsQ (xs ++ ys) := fun e he => by
  rw [List.mem_append] at he
  rcases he with h | h
  · exact h1 e h
  · exact h2 e h
theorem luxP_q (F S : List Int) (least : Int) (nb : List Int) (a j : Nat) : IsQ (luxP F S least nb a j) := by
  induction j with
  | zero => exact isQ_nil
  | succ j ih =>
    refine isQ_append ih ?_
    split
    · intro e he; simp at he; exact ⟨_, _, _, _, he⟩
    · exact isQ_nil
def luxR (F S : List Int) (least : Int) (a : Nat) : List AV := if nth F a = 0 then [] else luxP F S least (nbL F false a) a (nbL F false a).length
def luxA (F S : List Int) (least : Int) : Nat → List AV
  | 0 => []
  | a + 1 => luxA F S least a ++ luxR F S least a
theorem luxR_len (F S : List Int) (least : Int) (a : Nat) : (luxR F S least a).length ≤ F.length := by
  unfold luxR; split
  · simp
  · exact Nat.le_trans (luxP_len ..) (nbL_len ..)
theorem luxA_len (F S : List Int) (least : Int) (a : Nat) : (luxA F S least a).length ≤ F.length * a := by
  induction a with
  | zero => simp [luxA]
  | succ a ih => have := luxR_len F S least a; simp only [luxA, List.length_append, Nat.mul_succ]; omega
theorem luxA_q (F S : List Int) (least : Int) (a : Nat) : IsQ (luxA F S least a) := by
  induction a with
  | zero => exact isQ_nil
  | succ a ih =>
    refine isQ_append ih ?_
    unfold luxR; split
    · exact isQ_nil
    · exact luxP_q _ _ _ _ _ _
noncomputable def luxL (n : Int) (xs : List Int) (least : Int) : List AV := luxA (fsts (conW n xs)) (snds (conW n xs)) least (conL n xs).length
theorem luxL_len (n : Int) (xs : List Int) (least : Int) : (luxL n xs least).length ≤ 4096 := by
  have h1 := luxA_len (fsts (conW n xs)) (snds (conW n xs)) least (conL n xs).length
  have h2 := conL_len n xs
  rw [conW_len] at h1
  have h3 : (conL n xs).length * (conL n xs).length ≤ 64 * 64 := Nat.mul_le_mul h2 h2
  unfold luxL; omega
theorem sLuxenburgerBase_c {n least : Int} {v : AV} (hv : IsI v) : EvC env 102 [.agg [.int .i64 n, v], .int .i64 least] (bufLR 100 67 4 4 (luxL n (xsOf v) least)) := by
  refine evC_of (F := Tryz.f102) rfl rfl (Nat.le_of_ble_eq_true rfl) ?_
  have hP := conW_P n (xsOf v)
  have hw := sCon_noEx n (xsOf v) 102
  have hfl := conW_len n (xsOf v)
  have hL := conL_len n (xsOf v)
  have hF := sets_F n (xsOf v)
  have hF8 := fun (k : Nat) (hk : k < (conL n (xsOf v)).length) => cnt_pos (F_set8 hk)
  unfold luxL
  generalize conW n (xsOf v) = w at *
  generalize (conL n (xsOf v)).length = len at *
  have hco : ∀ (a : Nat) (K : AV → Prop) (tg : Tg K), a < len → (CW env 203 [w, .int .i64 a, .bool false] K tg ↔ K (bufR 3 71 1 (nbL (fsts w) false a))) := fun a K tg ha => callsTo_iff (l6Covers_c hP (by omega) (by omega) hF)
  have hII : ∀ a, IsI (bufC 1 (nbL (fsts w) false a)) := fun a => isI_bufC (by have := nbL_len (fsts w) false a; unfold top63; omega)
  have hF2 : ∀ k, k < len → 0 ≤ nth (fsts w) k ∧ nth (fsts w) k < 256 := fun k hk => hF k (by omega)
  clear hF
  repeat' (first | (apply br_intro <;> intro hb <;> (have hb2 := hb) <;> (try simp [-Int.not_le, -Int.not_lt, -Nat.not_le, -Nat.not_lt, -Nat.add_left_cancel_iff] at hb2)) | (refine draw_listA (by rfl) (by kernel_rfl) ?_) | (refine draw_listB (by simp [allocsOf, isAlloc]; rfl) (by kernel_rfl) ?_) | simp (maxSteps := 2000000) (disch := first | omega | assumption | simp [*]) [*, -Int.not_le, -Int.not_lt, -Nat.not_le, -Nat.not_lt, -Nat.add_left_cancel_iff, wrap_i64, wrap_u64, Tryz.f102, isI_cells hv, isI_one hv, isI_low hv, isI_len hv, isP_len hP])
  refine W_loopG len (fun a s h => s 7 = .int .i64 a ∧ s 6 = w ∧ s 1 = .int .i64 least ∧ BufL h 100 67 4 4 (s 5) (luxA (fsts w) (snds w) least a)) ?_ ?_
  · simp [*, luxA]
    exact bufL_nil ..
  rintro a s h ha ⟨h7, h6, h1, hB⟩
  by_cases ha2 : a < len
  · have hI := hII a
    have hcp := hF8 a ha2
    have hsl := luxA_len (fsts w) (snds w) least a
    have hll : (fsts w).length * a ≤ 64 * 64 := Nat.mul_le_mul (by omega) (by omega)
    have hnl := nbL_len (fsts w) false a
    have hmem : ∀ j, j < (nbL (fsts w) false a).length → ∃ m : Nat, nth (nbL (fsts w) false a) j = m ∧ m < len := fun j hj => by
      obtain ⟨m, h1, h2⟩ := selTo_mem hj; exact ⟨m, h1, by omega⟩
    have hsu : luxA (fsts w) (snds w) least (a + 1) = luxA (fsts w) (snds w) least a ++ luxR (fsts w) (snds w) least a := rfl
    obtain ⟨ca, hca⟩ : ∃ ca, (elemsTo (nth (fsts w) a) 8).length = ca := ⟨_, rfl⟩
    have hcc : cntI (nth (fsts w) a) = (ca : Int) := by rw [← hca]; rfl
    rw [hcc] at hcp
    by_cases hz : nth (fsts w) a = 0
    · have hlr : luxR (fsts w) (snds w) least a = [] := by unfold luxR; rw [if_pos hz]
      rw [hlr, List.append_nil] at hsu
      have hca0 : ca = 0 := by
        have : ¬ (0 : Int) < ca := fun h9 => hcp.1 h9 hz
        omega
      subst hca0
      clear hcp hlr hcc hF8 hII hmem hz
      repeat' (first | (apply br_intro <;> intro hb <;> (have hb2 := hb) <;> (try simp [-Int.not_le, -Int.not_lt, -Nat.not_le, -Nat.not_lt, -Nat.add_left_cancel_iff] at hb2)) | (refine draw_listA (by rfl) (by kernel_rfl) ?_) | (refine draw_listB (by simp [allocsOf, isAlloc]; rfl) (by kernel_rfl) ?_) | simp (maxSteps := 2000000) (disch := first | omega | assumption | simp [*]) [*, -Int.not_le, -Int.not_lt, -Nat.not_le, -Nat.not_lt, -Nat.add_left_cancel_iff, wrap_i64, wrap_u64, h7, h6, h1, isP_len hP, isP_index hP, isP_low hP, isP_noKey hP, isI_len hI])
      refine W_loopG 0 (fun j s h => s 10 = .int .i64 0 ∧ s 9 = bufC 1 (nbL (fsts w) false a) ∧ s 8 = .int .i64 0 ∧ s 7 = .int .i64 a ∧ s 6 = w ∧ s 1 = .int .i64 least ∧ BufL h 100 67 4 4 (s 5) (luxA (fsts w) (snds w) least a)) ?_ ?_
      · simp [*]
      rintro j s3 h3 hj ⟨k10, k9, k8, k7, k6, k1, hB2⟩
      repeat' (first | (apply br_intro <;> intro hb <;> (have hb2 := hb) <;> (try simp [-Int.not_le, -Int.not_lt, -Nat.not_le, -Nat.not_lt, -Nat.add_left_cancel_iff] at hb2)) | (refine draw_listA (by rfl) (by kernel_rfl) ?_) | (refine draw_listB (by simp [allocsOf, isAlloc]; rfl) (by kernel_rfl) ?_) | simp (maxSteps := 2000000) (disch := first | omega | assumption | simp [*]) [*, -Int.not_le, -Int.not_lt, -Nat.not_le, -Nat.not_lt, -Nat.add_left_cancel_iff, wrap_i64, wrap_u64, k10, k9, k8, k7, k6, k1, isP_len hP, isI_len hI])
    · have hlr : luxR (fsts w) (snds w) least a = luxP (fsts w) (snds w) least (nbL (fsts w) false a) a (nbL (fsts w) false a).length := by unfold luxR; rw [if_neg hz]
      rw [hlr] at hsu
      have hca0 : 0 < ca := by have := hcp.2 hz; omega
      clear hcp hlr hF8 hII hz
      repeat' (first | (apply br_intro <;> intro hb <;> (have hb2 := hb) <;> (try simp [-Int.not_le, -Int.not_lt, -Nat.not_le, -Nat.not_lt, -Nat.add_left_cancel_iff] at hb2)) | (refine draw_listA (by rfl) (by kernel_rfl) ?_) | (refine draw_listB (by simp [allocsOf, isAlloc]; rfl) (by kernel_rfl) ?_) | simp (maxSteps := 2000000) (disch := first | omega | assumption | simp [*]) [*, -Int.not_le, -Int.not_lt, -Nat.not_le, -Nat.not_lt, -Nat.add_left_cancel_iff, wrap_i64, wrap_u64, h7, h6, h1, isP_len hP, isP_index hP, isP_low hP, isP_noKey hP, isI_len hI])
      refine W_loopG (nbL (fsts w) false a).length (fun j s h => s 10 = .int .i64 j ∧ s 9 = bufC 1 (nbL (fsts w) false a) ∧ s 8 = .int .i64 ca ∧ s 7 = .int .i64 a ∧ s 6 = w ∧ s 1 = .int .i64 least ∧ BufL h 100 67 4 4 (s 5) (luxA (fsts w) (snds w) least a ++ luxP (fsts w) (snds w) least (nbL (fsts w) false a) a j)) ?_ ?_
      · simp [*, luxP]
      rintro j s3 h3 hj ⟨k10, k9, k8, k7, k6, k1, hB2⟩
      by_cases hj2 : j < (nbL (fsts w) false a).length
      · obtain ⟨m, hm, hml⟩ := hmem j hj2
        have hsr := luxP_len (fsts w) (snds w) least (nbL (fsts w) false a) a j
        have hpu : luxP (fsts w) (snds w) least (nbL (fsts w) false a) a (j + 1) = luxP (fsts w) (snds w) least (nbL (fsts w) false a) a j ++ if least ≤ cntI (nth (fsts w) m) then [qr (nth (snds w) a) (nth (snds w) m) (cntI (nth (fsts w) m)) (cntI (nth (fsts w) a))] else [] := by
          have : (nth (nbL (fsts w) false a) j).toNat = m := by rw [hm]; rfl
          simp only [luxP, this]
        obtain ⟨cb, hcb⟩ : ∃ cb, (elemsTo (nth (fsts w) m) 8).length = cb := ⟨_, rfl⟩
        have hcb2 : cntI (nth (fsts w) m) = (cb : Int) := by rw [← hcb]; rfl
        rw [hcb2, hcc] at hpu
        have hki := fun h' (e : h' 67 = h3 67) => hB2.keep (h' := h') e
        clear hmem hsu hcc hcb2
        by_cases hc : least ≤ (cb : Int)
        · rw [if_pos hc] at hpu
          have hpu2 : luxA (fsts w) (snds w) least a ++ luxP (fsts w) (snds w) least (nbL (fsts w) false a) a (j + 1) = (luxA (fsts w) (snds w) least a ++ luxP (fsts w) (snds w) least (nbL (fsts w) false a) a j) ++ [.agg [.int .i64 (nth (snds w) a), .int .i64 (nth (snds w) m), .int .i64 cb, .int .i64 ca]] := by rw [hpu, List.append_assoc]; rfl
          have hlen2 : (luxA (fsts w) (snds w) least a ++ luxP (fsts w) (snds w) least (nbL (fsts w) false a) a j).length < 1073741824 := by rw [List.length_append]; omega
          clear hpu hsl hll hsr hB hB2
          repeat' (first | (apply br_intro <;> intro hb <;> (have hb2 := hb) <;> (try simp [-Int.not_le, -Int.not_lt, -Nat.not_le, -Nat.not_lt, -Nat.add_left_cancel_iff] at hb2)) | (refine draw_listA (by rfl) (by kernel_rfl) ?_) | (refine draw_listB (by simp [allocsOf, isAlloc]; rfl) (by kernel_rfl) ?_) | simp (maxSteps := 2000000) (disch := first | omega | assumption | simp [*]) [*, -Int.not_le, -Int.not_lt, -Nat.not_le, -Nat.not_lt, -Nat.add_left_cancel_iff, wrap_i64, wrap_u64, k10, k9, k8, k7, k6, k1, isP_len hP, isP_index hP, isP_low hP, isP_noKey hP, isI_len hI, isI_index hI, isI_load hI])
          refine wa_pushL (hki _ (by first | rfl | simp [hset])) (by simp) (by simp) (by simp) ⟨rfl, rfl⟩ (fun _ => rfl) hlen2 ?_
          intro v2 h4 hB3 hk2
          rw [← hpu2] at hB3
          clear hpu2 hk2 hlen2 hki
          repeat' (first | (apply br_intro <;> intro hb <;> (have hb2 := hb) <;> (try simp [-Int.not_le, -Int.not_lt, -Nat.not_le, -Nat.not_lt, -Nat.add_left_cancel_iff] at hb2)) | (refine draw_listA (by rfl) (by kernel_rfl) ?_) | (refine draw_listB (by simp [allocsOf, isAlloc]; rfl) (by kernel_rfl) ?_) | simp (maxSteps := 2000000) (disch := first | omega | assumption | simp [*]) [*, -Int.not_le, -Int.not_lt, -Nat.not_le, -Nat.not_lt, -Nat.add_left_cancel_iff, wrap_i64, wrap_u64, k10, k9, k8, k7, k6, k1])
          exact hB3
        · rw [if_neg hc, List.append_nil] at hpu
          rw [← hpu] at hki
          clear hpu hsl hll hsr hB hB2
          repeat' (first | (apply br_intro <;> intro hb <;> (have hb2 := hb) <;> (try simp [-Int.not_le, -Int.not_lt, -Nat.not_le, -Nat.not_lt, -Nat.add_left_cancel_iff] at hb2)) | (refine draw_listA (by rfl) (by kernel_rfl) ?_) | (refine draw_listB (by simp [allocsOf, isAlloc]; rfl) (by kernel_rfl) ?_) | simp (maxSteps := 2000000) (disch := first | omega | assumption | simp [*]) [*, -Int.not_le, -Int.not_lt, -Nat.not_le, -Nat.not_lt, -Nat.add_left_cancel_iff, wrap_i64, wrap_u64, k10, k9, k8, k7, k6, k1, isP_len hP, isP_index hP, isP_low hP, isP_noKey hP, isI_len hI, isI_index hI, isI_load hI])
      · obtain rfl : j = (nbL (fsts w) false a).length := by omega
        rw [← hsu] at hB2
        clear hsu hmem hB
        repeat' (first | (apply br_intro <;> intro hb <;> (have hb2 := hb) <;> (try simp [-Int.not_le, -Int.not_lt, -Nat.not_le, -Nat.not_lt, -Nat.add_left_cancel_iff] at hb2)) | (refine draw_listA (by rfl) (by kernel_rfl) ?_) | (refine draw_listB (by simp [allocsOf, isAlloc]; rfl) (by kernel_rfl) ?_) | simp (maxSteps := 2000000) (disch := first | omega | assumption | simp [*]) [*, -Int.not_le, -Int.not_lt, -Nat.not_le, -Nat.not_lt, -Nat.add_left_cancel_iff, wrap_i64, wrap_u64, k10, k9, k8, k7, k6, k1, isP_len hP, isI_len hI])
  · obtain rfl : a = len := by omega
    clear hF8 hII hF2
    repeat' (first | (apply br_intro <;> intro hb <;> (have hb2 := hb) <;> (try simp [-Int.not_le, -Int.not_lt, -Nat.not_le, -Nat.not_lt, -Nat.add_left_cancel_iff] at hb2)) | (refine draw_listA (by rfl) (by kernel_rfl) ?_) | (refine draw_listB (by simp [allocsOf, isAlloc]; rfl) (by kernel_rfl) ?_) | simp (maxSteps := 2000000) (disch := first | omega | assumption | simp [*]) [*, -Int.not_le, -Int.not_lt, -Nat.not_le, -Nat.not_lt, -Nat.add_left_cancel_iff, wrap_i64, wrap_u64, h7, h6, h1, isP_len hP])
    exact hB.expo
theorem sLuxenburgerBase_s {n least : Int} {v : AV} (hv : IsI v) {K : AV → Prop} {tg : Tg K} : CW env 102 [.agg [.int .i64 n, v], .int .i64 least] K tg ↔ K (bufLR 100 67 4 4 (luxL n (xsOf v) least)) := callsTo_iff (sLuxenburgerBase_c hv)
attribute [simp] sLuxenburgerBase_s
theorem iLuxenburgerBase_c {n least : Int} {v : AV} (hv : IsI v) : EvC env 91 [.agg [.int .i64 n, v], .int .i64 least] (bufLR 100 59 4 4 (luxL n (xsOf v) least)) := by
  refine evC_of (F := Tryz.f91) rfl rfl (Nat.le_of_ble_eq_true rfl) ?_
  have hP := conW2_P n (xsOf v)
  have hw := iCon_noEx n (xsOf v) 102
  have hfl := conW_len n (xsOf v)
  have hL := conL_len n (xsOf v)
  have hF := sets_F n (xsOf v)
  unfold luxL
  rw [← conW2_fsts] at hfl hF ⊢
  rw [← conW2_snds]
  generalize conW2 n (xsOf v) = w at *
  generalize (conL n (xsOf v)).length = len at *
  have hco : ∀ (a : Nat) (K : AV → Prop) (tg : Tg K), a < len → (CW env 116 [w, .int .i64 a] K tg ↔ K (bufC 1 (nbL (fsts w) false a))) := fun a K tg ha => callsTo_iff (lower_c hP (by omega) (by omega) hF)
  have hII : ∀ a, IsI (bufC 1 (nbL (fsts w) false a)) := fun a => isI_bufC (by have := nbL_len (fsts w) false a; unfold top63; omega)
  clear hF
  repeat' (first | (apply br_intro <;> intro hb <;> (have hb2 := hb) <;> (try simp [-Int.not_le, -Int.not_lt, -Nat.not_le, -Nat.not_lt, -Nat.add_left_cancel_iff] at hb2)) | (refine draw_listA (by rfl) (by kernel_rfl) ?_) | (refine draw_listB (by simp [allocsOf, isAlloc]; rfl) (by kernel_rfl) ?_) | simp (maxSteps := 2000000) (disch := first | omega | assumption | simp [*]) [*, -Int.not_le, -Int.not_lt, -Nat.not_le, -Nat.not_lt, -Nat.add_left_cancel_iff, wrap_i64, wrap_u64, Tryz.f91, isI_cells hv, isI_one hv, isI_low hv, isI_len hv, isP_len hP, isP_low hP])
  refine W_loopG len (fun a s h => s 17 = .int .i64 a ∧ s 16 = .int .i64 len ∧ s 15 = w ∧ s 5 = w ∧ s 1 = .int .i64 least ∧ BufL h 100 59 4 4 (s 6) (luxA (fsts w) (snds w) least a)) ?_ ?_
  · simp [*, luxA]
    exact bufL_nil ..
  rintro a s h ha ⟨h17, h16, h15, h5, h1, hB⟩
  by_cases ha2 : a < len
  · have hI := hII a
    have hsl := luxA_len (fsts w) (snds w) least a
    have hll : (fsts w).length * a ≤ 64 * 64 := Nat.mul_le_mul (by omega) (by omega)
    have hnl := nbL_len (fsts w) false a
    have hmem : ∀ j, j < (nbL (fsts w) false a).length → ∃ m : Nat, nth (nbL (fsts w) false a) j = m ∧ m < len := fun j hj => by
      obtain ⟨m, h1, h2⟩ := selTo_mem hj; exact ⟨m, h1, by omega⟩
    have hsu : luxA (fsts w) (snds w) least (a + 1) = luxA (fsts w) (snds w) least a ++ luxR (fsts w) (snds w) least a := rfl
    obtain ⟨ca, hca⟩ : ∃ ca, (elemsTo (nth (fsts w) a) 8).length = ca := ⟨_, rfl⟩
    have hcc : cntI (nth (fsts w) a) = (ca : Int) := by rw [← hca]; rfl
    have hB1 := fun h' (e : h' 59 = h 59) => hB.keep (h' := h') e
    by_cases hz : nth (fsts w) a = 0
    · have hlr : luxR (fsts w) (snds w) least a = [] := by unfold luxR; rw [if_pos hz]
      rw [hlr, List.append_nil] at hsu
      clear hlr hcc hII
      repeat' (first | (apply br_intro <;> intro hb <;> (have hb2 := hb) <;> (try simp [-Int.not_le, -Int.not_lt, -Nat.not_le, -Nat.not_lt, -Nat.add_left_cancel_iff] at hb2)) | (refine draw_listA (by rfl) (by kernel_rfl) ?_) | (refine draw_listB (by simp [allocsOf, isAlloc]; rfl) (by kernel_rfl) ?_) | simp (maxSteps := 2000000) (disch := first | omega | assumption | simp [*]) [*, -Int.not_le, -Int.not_lt, -Nat.not_le, -Nat.not_lt, -Nat.add_left_cancel_iff, wrap_i64, wrap_u64, h17, h16, h15, h5, h1, isP_len hP, isP_index hP, isP_low hP, isP_noKey hP, isI_len hI])
      refine W_loopG (nbL (fsts w) false a).length (fun j s h => s 26 = .int .i64 j ∧ s 25 = .int .i64 (nbL (fsts w) false a).length ∧ s 24 = bufC 1 (nbL (fsts w) false a) ∧ s 17 = .int .i64 a ∧ s 16 = .int .i64 len ∧ s 15 = w ∧ s 5 = w ∧ s 1 = .int .i64 least ∧ BufL h 100 59 4 4 (s 6) (luxA (fsts w) (snds w) least a) ∧ ∃ g, s 8 = .vp 8 g 0 ∧ h 8 = some (.var g 102 (.agg [.int .i64 0, .int .i64 (nth (snds w) a)]))) ?_ ?_
      · simp [*]
      rintro j s3 h3 hj ⟨k26, k25, k24, k17, k16, k15, k5, k1, hB2, g, k8, f8⟩
      have hki := fun h' (e : h' 59 = h3 59) => hB2.keep (h' := h') e
      clear hB hB1
      by_cases hj2 : j < (nbL (fsts w) false a).length
      · obtain ⟨m, hm, hml⟩ := hmem j hj2
        clear hmem hsu
        repeat' (first | (apply br_intro <;> intro hb <;> (have hb2 := hb) <;> (try simp [-Int.not_le, -Int.not_lt, -Nat.not_le, -Nat.not_lt, -Nat.add_left_cancel_iff] at hb2)) | (refine draw_listA (by rfl) (by kernel_rfl) ?_) | (refine draw_listB (by simp [allocsOf, isAlloc]; rfl) (by kernel_rfl) ?_) | simp (maxSteps := 2000000) (disch := first | omega | assumption | simp [*]) [*, -Int.not_le, -Int.not_lt, -Nat.not_le, -Nat.not_lt, -Nat.add_left_cancel_iff, wrap_i64, wrap_u64, k26, k25, k24, k17, k16, k15, k5, k1, k8, f8, isP_len hP, isP_index hP, isP_low hP, isP_noKey hP, isI_len hI, isI_index hI, isI_load hI])
      · obtain rfl : j = (nbL (fsts w) false a).length := by omega
        rw [← hsu] at hB2
        clear hsu hmem hki
        repeat' (first | (apply br_intro <;> intro hb <;> (have hb2 := hb) <;> (try simp [-Int.not_le, -Int.not_lt, -Nat.not_le, -Nat.not_lt, -Nat.add_left_cancel_iff] at hb2)) | (refine draw_listA (by rfl) (by kernel_rfl) ?_) | (refine draw_listB (by simp [allocsOf, isAlloc]; rfl) (by kernel_rfl) ?_) | simp (maxSteps := 2000000) (disch := first | omega | assumption | simp [*]) [*, -Int.not_le, -Int.not_lt, -Nat.not_le, -Nat.not_lt, -Nat.add_left_cancel_iff, wrap_i64, wrap_u64, k26, k25, k24, k17, k16, k15, k5, k1, k8, f8, isP_len hP, isI_len hI])
    · have hlr : luxR (fsts w) (snds w) least a = luxP (fsts w) (snds w) least (nbL (fsts w) false a) a (nbL (fsts w) false a).length := by unfold luxR; rw [if_neg hz]
      rw [hlr] at hsu
      clear hlr hII
      repeat' (first | (apply br_intro <;> intro hb <;> (have hb2 := hb) <;> (try simp [-Int.not_le, -Int.not_lt, -Nat.not_le, -Nat.not_lt, -Nat.add_left_cancel_iff] at hb2)) | (refine draw_listA (by rfl) (by kernel_rfl) ?_) | (refine draw_listB (by simp [allocsOf, isAlloc]; rfl) (by kernel_rfl) ?_) | simp (maxSteps := 2000000) (disch := first | omega | assumption | simp [*]) [*, -Int.not_le, -Int.not_lt, -Nat.not_le, -Nat.not_lt, -Nat.add_left_cancel_iff, wrap_i64, wrap_u64, h17, h16, h15, h5, h1, isP_len hP, isP_index hP, isP_low hP, isP_noKey hP, isI_len hI])
      refine W_loopG (nbL (fsts w) false a).length (fun j s h => s 26 = .int .i64 j ∧ s 25 = .int .i64 (nbL (fsts w) false a).length ∧ s 24 = bufC 1 (nbL (fsts w) false a) ∧ s 17 = .int .i64 a ∧ s 16 = .int .i64 len ∧ s 15 = w ∧ s 5 = w ∧ s 1 = .int .i64 least ∧ BufL h 100 59 4 4 (s 6) (luxA (fsts w) (snds w) least a ++ luxP (fsts w) (snds w) least (nbL (fsts w) false a) a j) ∧ ∃ g, s 8 = .vp 8 g 0 ∧ h 8 = some (.var g 102 (.agg [.int .i64 (nth (fsts w) a), .int .i64 (nth (snds w) a)]))) ?_ ?_
      · simp [*, luxP]
      rintro j s3 h3 hj ⟨k26, k25, k24, k17, k16, k15, k5, k1, hB2, g, k8, f8⟩
      have hki := fun h' (e : h' 59 = h3 59) => hB2.keep (h' := h') e
      clear hB hB1
      by_cases hj2 : j < (nbL (fsts w) false a).length
      · obtain ⟨m, hm, hml⟩ := hmem j hj2
        have hsr := luxP_len (fsts w) (snds w) least (nbL (fsts w) false a) a j
        have hpu : luxP (fsts w) (snds w) least (nbL (fsts w) false a) a (j + 1) = luxP (fsts w) (snds w) least (nbL (fsts w) false a) a j ++ if least ≤ cntI (nth (fsts w) m) then [qr (nth (snds w) a) (nth (snds w) m) (cntI (nth (fsts w) m)) (cntI (nth (fsts w) a))] else [] := by
          have : (nth (nbL (fsts w) false a) j).toNat = m := by rw [hm]; rfl
          simp only [luxP, this]
        obtain ⟨cb, hcb⟩ : ∃ cb, (elemsTo (nth (fsts w) m) 8).length = cb := ⟨_, rfl⟩
        have hcb2 : cntI (nth (fsts w) m) = (cb : Int) := by rw [← hcb]; rfl
        rw [hcb2, hcc] at hpu
        clear hmem hsu hcc hcb2
        by_cases hc : least ≤ (cb : Int)
        · rw [if_pos hc] at hpu
          have hpu2 : luxA (fsts w) (snds w) least a ++ luxP (fsts w) (snds w) least (nbL (fsts w) false a) a (j + 1) = (luxA (fsts w) (snds w) least a ++ luxP (fsts w) (snds w) least (nbL (fsts w) false a) a j) ++ [.agg [.int .i64 (nth (snds w) a), .int .i64 (nth (snds w) m), .int .i64 cb, .int .i64 ca]] := by rw [hpu, List.append_assoc]; rfl
          have hlen2 : (luxA (fsts w) (snds w) least a ++ luxP (fsts w) (snds w) least (nbL (fsts w) false a) a j).length < 1073741824 := by rw [List.length_append]; omega
          clear hpu hsl hll hsr hB2
          repeat' (first | (apply br_intro <;> intro hb <;> (have hb2 := hb) <;> (try simp [-Int.not_le, -Int.not_lt, -Nat.not_le, -Nat.not_lt, -Nat.add_left_cancel_iff] at hb2)) | (refine draw_listA (by rfl) (by kernel_rfl) ?_) | (refine draw_listB (by simp [allocsOf, isAlloc]; rfl) (by kernel_rfl) ?_) | simp (maxSteps := 2000000) (disch := first | omega | assumption | simp [*]) [*, -Int.not_le, -Int.not_lt, -Nat.not_le, -Nat.not_lt, -Nat.add_left_cancel_iff, wrap_i64, wrap_u64, k26, k25, k24, k17, k16, k15, k5, k1, k8, f8, isP_len hP, isP_index hP, isP_low hP, isP_noKey hP, isI_len hI, isI_index hI, isI_load hI])
          refine wa_pushL (hki _ (by first | rfl | simp [hset])) (by simp) (by simp) (by simp) ⟨rfl, rfl⟩ (fun _ => rfl) hlen2 ?_
          intro v2 h4 hB3 hk2
          rw [← hpu2] at hB3
          have f82 := (hk2 8 (by omega)).trans f8
          clear hpu2 hk2 hlen2 hki
          repeat' (first | (apply br_intro <;> intro hb <;> (have hb2 := hb) <;> (try simp [-Int.not_le, -Int.not_lt, -Nat.not_le, -Nat.not_lt, -Nat.add_left_cancel_iff] at hb2)) | (refine draw_listA (by rfl) (by kernel_rfl) ?_) | (refine draw_listB (by simp [allocsOf, isAlloc]; rfl) (by kernel_rfl) ?_) | simp (maxSteps := 2000000) (disch := first | omega | assumption | simp [*]) [*, -Int.not_le, -Int.not_lt, -Nat.not_le, -Nat.not_lt, -Nat.add_left_cancel_iff, wrap_i64, wrap_u64, k26, k25, k24, k17, k16, k15, k5, k1, k8, f82])
          exact hB3
        · rw [if_neg hc, List.append_nil] at hpu
          rw [← hpu] at hki hB2
          clear hpu hsl hll hsr
          repeat' (first | (apply br_intro <;> intro hb <;> (have hb2 := hb) <;> (try simp [-Int.not_le, -Int.not_lt, -Nat.not_le, -Nat.not_lt, -Nat.add_left_cancel_iff] at hb2)) | (refine draw_listA (by rfl) (by kernel_rfl) ?_) | (refine draw_listB (by simp [allocsOf, isAlloc]; rfl) (by kernel_rfl) ?_) | simp (maxSteps := 2000000) (disch := first | omega | assumption | simp [*]) [*, -Int.not_le, -Int.not_lt, -Nat.not_le, -Nat.not_lt, -Nat.add_left_cancel_iff, wrap_i64, wrap_u64, k26, k25, k24, k17, k16, k15, k5, k1, k8, f8, isP_len hP, isP_index hP, isP_low hP, isP_noKey hP, isI_len hI, isI_index hI, isI_load hI])
      · obtain rfl : j = (nbL (fsts w) false a).length := by omega
        rw [← hsu] at hB2
        clear hsu hmem hki
        repeat' (first | (apply br_intro <;> intro hb <;> (have hb2 := hb) <;> (try simp [-Int.not_le, -Int.not_lt, -Nat.not_le, -Nat.not_lt, -Nat.add_left_cancel_iff] at hb2)) | (refine draw_listA (by rfl) (by kernel_rfl) ?_) | (refine draw_listB (by simp [allocsOf, isAlloc]; rfl) (by kernel_rfl) ?_) | simp (maxSteps := 2000000) (disch := first | omega | assumption | simp [*]) [*, -Int.not_le, -Int.not_lt, -Nat.not_le, -Nat.not_lt, -Nat.add_left_cancel_iff, wrap_i64, wrap_u64, k26, k25, k24, k17, k16, k15, k5, k1, k8, f8, isP_len hP, isI_len hI])
  · obtain rfl : a = len := by omega
    clear hII
    repeat' (first | (apply br_intro <;> intro hb <;> (have hb2 := hb) <;> (try simp [-Int.not_le, -Int.not_lt, -Nat.not_le, -Nat.not_lt, -Nat.add_left_cancel_iff] at hb2)) | (refine draw_listA (by rfl) (by kernel_rfl) ?_) | (refine draw_listB (by simp [allocsOf, isAlloc]; rfl) (by kernel_rfl) ?_) | simp (maxSteps := 2000000) (disch := first | omega | assumption | simp [*]) [*, -Int.not_le, -Int.not_lt, -Nat.not_le, -Nat.not_lt, -Nat.add_left_cancel_iff, wrap_i64, wrap_u64, h17, h16, h15, h5, h1, isP_len hP, isP_low hP])
    exact hB.expo
theorem iLuxenburgerBase_s {n least : Int} {v : AV} (hv : IsI v) {K : AV → Prop} {tg : Tg K} : CW env 91 [.agg [.int .i64 n, v], .int .i64 least] K tg ↔ K (bufLR 100 59 4 4 (luxL n (xsOf v) least)) := callsTo_iff (iLuxenburgerBase_c hv)
attribute [simp] iLuxenburgerBase_s
end Go.Proofs.YtkkkgaapkibhkaaGreatDoor
