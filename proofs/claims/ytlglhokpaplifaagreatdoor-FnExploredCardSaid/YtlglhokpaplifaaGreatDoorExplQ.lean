/- Lists of questions of an exploration: values, laws' functions. Conditions: none. -/
import Derived.Test.YtlglhokpaplifaaGreatDoorRul
namespace Go.Proofs.YtlglhokpaplifaaGreatDoor
open Ev
set_option linter.unusedVariables false
set_option linter.unusedSimpArgs false
set_option maxHeartbeats 4000000

def qr (a b : Int) (c : Bool) (d : Int) : AV := .agg [.int .i64 a, .int .i64 b, .bool c, .int .i64 d]
def qA (e : AV) : Int := match e with | .agg [.int _ a, _, _, _] => a | _ => 0
def qB (e : AV) : Int := match e with | .agg [_, .int _ b, _, _] => b | _ => 0
def qC (e : AV) : Bool := match e with | .agg [_, _, .bool c, _] => c | _ => false
def qD (e : AV) : Int := match e with | .agg [_, _, _, .int _ d] => d | _ => 0
theorem qr_parts (a b : Int) (c : Bool) (d : Int) : qA (qr a b c d) = a ∧ qB (qr a b c d) = b ∧ qC (qr a b c d) = c ∧ qD (qr a b c d) = d := ⟨rfl, rfl, rfl, rfl⟩
def atQ (es : List AV) (i : Nat) : AV := es.getD i .un
def IsQ (es : List AV) : Prop := ∀ e ∈ es, ∃ a b c d, e = qr a b c d
structure IsM (v : AV) : Prop where
  l : IsL 4 v
  el : IsQ (esOf v)
def mA (v : AV) (i : Nat) : Int := qA (atQ (esOf v) i)
def mB (v : AV) (i : Nat) : Int := qB (atQ (esOf v) i)
def mC (v : AV) (i : Nat) : Bool := qC (atQ (esOf v) i)
def mD (v : AV) (i : Nat) : Int := qD (atQ (esOf v) i)
theorem IsM.len {v : AV} (hv : IsM v) : (esOf v).length ≤ top63 := hv.l.len
theorem isM_low {v : AV} (hv : IsM v) (h : Heap) : low h v = v := isL_low hv.l h
theorem isM_low0 {v : AV} (hv : IsM v) : low0 v = v := isL_low0 hv.l
theorem isM_cells {v : AV} (hv : IsM v) : v.cells = [v] := (isL_cells hv.l).1
theorem isM_one {v : AV} (hv : IsM v) : v.one = true := (isL_cells hv.l).2
theorem isM_noKey {v : AV} (hv : IsM v) (κ : Nat) : hasKey κ v = false := by
  obtain ⟨k, o, es, rfl, _, _⟩ := hv.l.ok
  simp
theorem isM_len {E : Env} {t : Nat} {v : AV} (hv : IsM v) (ht : slT E t = true) : lenV E t v = some (.int .i64 (esOf v).length) := isL_len hv.l ht
theorem isQ_at {es : List AV} (h : IsQ es) {i : Nat} (hi : i < es.length) : atQ es i = qr (qA (atQ es i)) (qB (atQ es i)) (qC (atQ es i)) (qD (atQ es i)) := by
  obtain ⟨a, b, c, d, e⟩ := h es[i] (List.getElem_mem hi)
  have e2 : atQ es i = qr a b c d := by simp [atQ, hi, e]
  rw [e2]; rfl
theorem isM_index {E : Env} {h : Heap} {t : Nat} {v : AV} {kd : IntKind} {n : Int} (hv : IsM v) (ht : slT E t = true) (hs : E.size (elT E t) = 4) (h0 : 0 ≤ n) (h1 : n < (esOf v).length) :
    indexA E h t v (.int kd n) = some (.cp (brwOf v) [.int .i64 (mA v n.toNat), .int .i64 (mB v n.toNat), .bool (mC v n.toNat), .int .i64 (mD v n.toNat)] 0) := by
  rw [isL_index hv.l ht hs (by decide) h0 h1]
  have hg := isQ_at hv.el (i := n.toNat) (by omega)
  obtain ⟨k, o, es, rfl, _, _⟩ := hv.l.ok
  simp only [esOf_sl, atQ] at hg
  simp only [elP, brwOf, mA, mB, mC, mD, atQ, esOf_sl]
  rw [hg]
  rfl
theorem isM_mk {k : Nat} {o : Own} {es : List AV} (hk : es = [] ∨ k = 4) (ho : o.safe = true) (hl : es.length ≤ top63) (hq : IsQ es) : IsM (.sl k o es) where
  l := { len := hl, ok := ⟨k, o, _, rfl, hk, ho⟩, cells := fun e he => by
          obtain ⟨a, b, c, d, rfl⟩ := hq e he
          exact ⟨rfl, rfl⟩ }
  el := hq
theorem isQ_flat {es : List AV} (h : IsQ es) : es.all flat = true := by
  rw [List.all_eq_true]; intro e he
  obtain ⟨a, b, c, d, rfl⟩ := h e he
  rfl
theorem isQ_stabs {es : List AV} (h : IsQ es) : stabs es = true := by
  rw [stabs_iff]; intro e he
  obtain ⟨a, b, c, d, rfl⟩ := h e he
  rfl
theorem isQ_low0s : ∀ {es : List AV}, IsQ es → low0s es = es
  | [], _ => by simp
  | e :: es, h => by
    rw [low0s_cons, isQ_low0s fun x hx => h x (List.mem_cons_of_mem _ hx)]
    obtain ⟨a, b, c, d, rfl⟩ := h e (List.mem_cons_self ..)
    rfl
theorem isM_rowB {k0 : Nat} {es : List AV} (hq : IsQ es) (hl : es.length ≤ top63) : IsM (rowB 4 k0 es) := by
  unfold rowB; split
  · exact isM_mk (.inl rfl) rfl (Nat.zero_le _) (fun e he => by simp at he)
  · exact isM_mk (.inr rfl) rfl hl hq
theorem esOf_rowB {k k0 : Nat} {es : List AV} : esOf (rowB k k0 es) = es := by
  unfold rowB; split
  · rename_i h; rw [h]; rfl
  · rfl
theorem isM_bufLC {k0 : Nat} {es : List AV} (hq : IsQ es) (hl : es.length ≤ top63) : IsM (bufLC k0 4 es) := by
  unfold bufLC; split
  · exact isM_mk (.inl rfl) rfl (Nat.zero_le _) (fun e he => by simp at he)
  · exact isM_mk (.inr rfl) rfl hl hq
theorem esOf_bufLC {k k0 : Nat} {es : List AV} : esOf (bufLC k0 k es) = es := by
  unfold bufLC; split
  · rename_i h; rw [h]; rfl
  · rfl
theorem lowQ {h : Heap} {key T k k0 : Nat} {v : AV} {es : List AV} (hR : Row h key T k k0 v es) (hq : IsQ es) : Ev.low h v = rowB k k0 es := hR.low (isQ_stabs hq) (isQ_low0s hq)
/-- a list of records, told by four functions -/
def qrs (A B : Nat → Int) (C : Nat → Bool) (D : Nat → Int) (n : Nat) : List AV := (List.range n).map fun i => qr (A i) (B i) (C i) (D i)
@[simp] theorem qrs_length (A B : Nat → Int) (C : Nat → Bool) (D : Nat → Int) (n : Nat) : (qrs A B C D n).length = n := by simp [qrs]
@[simp] theorem qrs_getElem (A B : Nat → Int) (C : Nat → Bool) (D : Nat → Int) (n i : Nat) (h : i < (qrs A B C D n).length) : (qrs A B C D n)[i] = .agg [.int .i64 (A i), .int .i64 (B i), .bool (C i), .int .i64 (D i)] := by simp [qrs, qr]
theorem qrs_of {es : List AV} (h : IsQ es) : es = qrs (fun i => qA (atQ es i)) (fun i => qB (atQ es i)) (fun i => qC (atQ es i)) (fun i => qD (atQ es i)) es.length := by
  apply List.ext_getElem (by simp)
  intro i h1 h2
  have := isQ_at h h1
  rw [qrs_getElem]
  have e : es[i] = atQ es i := by simp [atQ, h1]
  rw [e]; exact this
theorem qrs_isQ (A B : Nat → Int) (C : Nat → Bool) (D : Nat → Int) (n : Nat) : IsQ (qrs A B C D n) := fun e he => by
  simp only [qrs, List.mem_map] at he
  obtain ⟨i, _, rfl⟩ := he
  exact ⟨_, _, _, _, rfl⟩
theorem qrs_congr {A B A' B' D D' : Nat → Int} {C C' : Nat → Bool} {n : Nat} (h : ∀ i, i < n → A i = A' i ∧ B i = B' i ∧ C i = C' i ∧ D i = D' i) : qrs A B C D n = qrs A' B' C' D' n := by
  unfold qrs
  apply List.map_congr_left
  intro i hi
  obtain ⟨a, b, c, d⟩ := h i (List.mem_range.1 hi)
  rw [a, b, c, d]
def updI {α : Type} (f : Nat → α) (i : Nat) (x : α) : Nat → α := fun j => if j = i then x else f j
@[simp] theorem updI_same {α : Type} (f : Nat → α) (i : Nat) (x : α) : updI f i x i = x := by simp [updI]
theorem qrs_set {A B D : Nat → Int} {C : Nat → Bool} {n i : Nat} {a b d : Int} {c : Bool} : (qrs A B C D n).set i (.agg [.int .i64 a, .int .i64 b, .bool c, .int .i64 d]) = qrs (updI A i a) (updI B i b) (updI C i c) (updI D i d) n := by
  apply List.ext_getElem (by simp)
  intro j h1 h2
  rw [List.getElem_set]
  by_cases e : i = j
  · subst e; simp
  · rw [if_neg e, qrs_getElem, qrs_getElem]
    simp [updI, Ne.symm e]
def mod3 (k : Int) : Bool := decide (k.tmod 3 = 0)
def mkQ (k : Int) (n : Nat) : List AV := qrs (fun i => k + 4 * i) (fun i => k + 4 * i + 1) (fun i => mod3 (k + 4 * i + 2)) (fun i => k + 4 * i + 3) n
@[simp] theorem mkQ_length (k : Int) (n : Nat) : (mkQ k n).length = n := by simp [mkQ]
theorem mkQ_isQ (k : Int) (n : Nat) : IsQ (mkQ k n) := qrs_isQ _ _ _ _ n
theorem atQ_qrs {A B D : Nat → Int} {C : Nat → Bool} {n i : Nat} (h : i < n) : atQ (qrs A B C D n) i = qr (A i) (B i) (C i) (D i) := by
  simp [atQ, h]; rfl
theorem eqQuestion_c {a b d a2 b2 d2 : Int} {c c2 : Bool} (h1 : a = a2) (h2 : b = b2) (h3 : c = c2) (h4 : d = d2) : EvC env 103 [.agg [.int .i64 a, .int .i64 b, .bool c, .int .i64 d], .agg [.int .i64 a2, .int .i64 b2, .bool c2, .int .i64 d2]] (.bool true) := by
  refine evC_of (F := Tryz.f103) rfl rfl (Nat.le_of_ble_eq_true rfl) ?_
  repeat' (first | (apply brI <;> intro hb hb2 <;> (try simp [-Int.not_le, -Int.not_lt, -Nat.not_le, -Nat.not_lt, -Nat.add_left_cancel_iff] at hb2)) | (refine draw_listA (by rfl) (by kernel_rfl) ?_) | (refine draw_listB (by simp [allocsOf, isAlloc]; rfl) (by kernel_rfl) ?_) | simp (maxSteps := 2000000) (disch := first | omega | assumption | simp [*]) [*, -Int.not_le, -Int.not_lt, -Nat.not_le, -Nat.not_lt, -Nat.add_left_cancel_iff, wrap_i64, wrap_u64, Tryz.f103])
theorem eqQuestion_s {a b d a2 b2 d2 : Int} {c c2 : Bool} (h1 : a = a2) (h2 : b = b2) (h3 : c = c2) (h4 : d = d2) {K : AV → Prop} {tg : Tg K} : CW env 103 [.agg [.int .i64 a, .int .i64 b, .bool c, .int .i64 d], .agg [.int .i64 a2, .int .i64 b2, .bool c2, .int .i64 d2]] K tg ↔ K (.bool true) := callsTo_iff (eqQuestion_c h1 h2 h3 h4)
attribute [simp] eqQuestion_s
theorem eqQuestionS_c {u v : AV} (hu : IsM u) (hv : IsM v) (he : esOf u = esOf v) : EvC env 70 [u, v] (.bool true) := by
  refine evC_of (F := Tryz.f70) rfl rfl (Nat.le_of_ble_eq_true rfl) ?_
  have := hu.len
  have := hv.len
  have hl : (esOf v).length = (esOf u).length := by rw [he]
  have ha : ∀ i, mA u i = mA v i := fun i => by unfold mA; rw [he]
  have hb : ∀ i, mB u i = mB v i := fun i => by unfold mB; rw [he]
  have hc : ∀ i, mC u i = mC v i := fun i => by unfold mC; rw [he]
  have hd : ∀ i, mD u i = mD v i := fun i => by unfold mD; rw [he]
  clear he
  repeat' (first | (apply brI <;> intro hb hb2 <;> (try simp [-Int.not_le, -Int.not_lt, -Nat.not_le, -Nat.not_lt, -Nat.add_left_cancel_iff] at hb2)) | (refine draw_listA (by rfl) (by kernel_rfl) ?_) | (refine draw_listB (by simp [allocsOf, isAlloc]; rfl) (by kernel_rfl) ?_) | simp (maxSteps := 2000000) (disch := first | omega | assumption | simp [*]) [*, -Int.not_le, -Int.not_lt, -Nat.not_le, -Nat.not_lt, -Nat.add_left_cancel_iff, wrap_i64, wrap_u64, Tryz.f70, isM_len hu, isM_low hu, isM_len hv, isM_low hv])
  refine W_loopP (esOf u).length (fun i s => s 5 = .int .i64 i ∧ s 0 = u ∧ s 1 = v) rfl ?_ ?_
  · simp
  rintro i s hi ⟨h5, h0, h1⟩
  by_cases hi2 : i < (esOf u).length
  · have hi3 : i < (esOf v).length := by omega
    repeat' (first | (apply brI <;> intro hb hb2 <;> (try simp [-Int.not_le, -Int.not_lt, -Nat.not_le, -Nat.not_lt, -Nat.add_left_cancel_iff] at hb2)) | (refine draw_listA (by rfl) (by kernel_rfl) ?_) | (refine draw_listB (by simp [allocsOf, isAlloc]; rfl) (by kernel_rfl) ?_) | simp (maxSteps := 2000000) (disch := first | omega | assumption | simp [*]) [*, -Int.not_le, -Int.not_lt, -Nat.not_le, -Nat.not_lt, -Nat.add_left_cancel_iff, wrap_i64, wrap_u64, h5, h0, h1, isM_len hu, isM_low hu, isM_index hu, isM_len hv, isM_low hv, isM_index hv])
  · obtain rfl : i = (esOf u).length := by omega
    repeat' (first | (apply brI <;> intro hb hb2 <;> (try simp [-Int.not_le, -Int.not_lt, -Nat.not_le, -Nat.not_lt, -Nat.add_left_cancel_iff] at hb2)) | (refine draw_listA (by rfl) (by kernel_rfl) ?_) | (refine draw_listB (by simp [allocsOf, isAlloc]; rfl) (by kernel_rfl) ?_) | simp (maxSteps := 2000000) (disch := first | omega | assumption | simp [*]) [*, -Int.not_le, -Int.not_lt, -Nat.not_le, -Nat.not_lt, -Nat.add_left_cancel_iff, wrap_i64, wrap_u64, h5, h0, h1, isM_len hu])
theorem eqQuestionS_s {u v : AV} (hu : IsM u) (hv : IsM v) (he : esOf u = esOf v) {K : AV → Prop} {tg : Tg K} : CW env 70 [u, v] K tg ↔ K (.bool true) := callsTo_iff (eqQuestionS_c hu hv he)
attribute [simp] eqQuestionS_s
theorem markQuestionS_o {v : AV} {key T k0 : Nat} {es : List AV} {k : Int} {h : Heap} {off : Nat} {K : AV → Heap → Prop} (hR : Row h key T 4 k0 v es) (hq : IsQ es) (h0 : 0 ≤ k) (h1 : k + 4 * es.length ≤ 4611686018427387904) (hK : ∀ h', Row h' key T 4 k0 v (mkQ k es.length) → (∀ x, x ≠ key → h' x = h x) → K (.int .i64 (k + 4 * es.length)) h') : OpenTo env 72 [v, .int .i64 k] h off K := by
  refine openTo_of (F := Tryz.f72) rfl rfl (Nat.le_of_ble_eq_true rfl) ?_
  obtain ⟨n, hn⟩ : ∃ n, es.length = n := ⟨_, rfl⟩
  have hes := qrs_of hq
  rw [hn] at hes h1 hK
  rw [hes] at hR
  clear hq
  repeat' (first | (apply brI <;> intro hb hb2 <;> (try simp [-Int.not_le, -Int.not_lt, -Nat.not_le, -Nat.not_lt, -Nat.add_left_cancel_iff] at hb2)) | (refine draw_listA (by rfl) (by kernel_rfl) ?_) | (refine draw_listB (by simp [allocsOf, isAlloc]; rfl) (by kernel_rfl) ?_) | simp (maxSteps := 2000000) (disch := first | omega | assumption | simp [*]) [*, -Int.not_le, -Int.not_lt, -Nat.not_le, -Nat.not_lt, -Nat.add_left_cancel_iff, wrap_i64, wrap_u64, Tryz.f72])
  refine W_loopG n (fun i s h' => s 5 = .int .i64 i ∧ s 0 = v ∧ s 1 = .int .i64 (k + 4 * i) ∧ (∀ x, x ≠ key → h' x = h x) ∧ ∃ A B C D, Row h' key T 4 k0 v (qrs A B C D n) ∧ ∀ j, j < i → A j = k + 4 * j ∧ B j = k + 4 * j + 1 ∧ C j = mod3 (k + 4 * j + 2) ∧ D j = k + 4 * j + 3) ?_ ?_
  · simp; exact ⟨_, _, _, _, hR⟩
  rintro i s h2 hi ⟨h5, h0, h1, hh, A, B, C, D, hR2, hj⟩
  have hlen := fun E t ht => hR2.len (E := E) (t := t) ht
  by_cases hi2 : i < n
  · rcases hR2 with ⟨e, _⟩ | ⟨hx, g, rfl, hg⟩
    · have := congrArg List.length e; simp only [qrs_length, List.length_nil] at this; omega
    clear hes hR
    repeat' (first | (apply brI <;> intro hb hb2 <;> (try simp [-Int.not_le, -Int.not_lt, -Nat.not_le, -Nat.not_lt, -Nat.add_left_cancel_iff] at hb2)) | (refine draw_listA (by rfl) (by kernel_rfl) ?_) | (refine draw_listB (by simp [allocsOf, isAlloc]; rfl) (by kernel_rfl) ?_) | simp (maxSteps := 2000000) (disch := first | omega | assumption | simp [*]) [*, -Int.not_le, -Int.not_lt, -Nat.not_le, -Nat.not_lt, -Nat.add_left_cancel_iff, wrap_i64, wrap_u64, h5, h0, h1, qrs_set])
    refine ⟨by omega, fun x a b => absurd b a, _, _, _, _, .inr ⟨fun e => ?_, g, by simp, by simp [hset]; rfl⟩, fun j hj2 => ?_⟩
    · have := congrArg List.length e
      simp at this
      omega
    · by_cases e : j = i
      · subst e; simp [updI]; exact ⟨by unfold mod3; rw [show k + 4 * (j : Int) + 1 + 1 = k + 4 * (j : Int) + 2 by omega], by omega⟩
      · simp only [updI, e, if_false]; exact hj j (by omega)
  · obtain rfl : i = n := by omega
    clear hes hR
    repeat' (first | (apply brI <;> intro hb hb2 <;> (try simp [-Int.not_le, -Int.not_lt, -Nat.not_le, -Nat.not_lt, -Nat.add_left_cancel_iff] at hb2)) | (refine draw_listA (by rfl) (by kernel_rfl) ?_) | (refine draw_listB (by simp [allocsOf, isAlloc]; rfl) (by kernel_rfl) ?_) | simp (maxSteps := 2000000) (disch := first | omega | assumption | simp [*]) [*, -Int.not_le, -Int.not_lt, -Nat.not_le, -Nat.not_lt, -Nat.add_left_cancel_iff, wrap_i64, wrap_u64, h5, h0, h1])
    have e1 : qrs A B C D i = mkQ k i := qrs_congr hj
    rw [e1] at hR2
    exact hK _ hR2 hh
theorem heldQuestionS_c {v : AV} {k : Int} (hv : IsM v) (h0 : 0 ≤ k) (h1 : k + 4 * (esOf v).length ≤ 4611686018427387904) (he : esOf v = mkQ k (esOf v).length) : EvC env 74 [v, .int .i64 k] (.int .i64 (k + 4 * (esOf v).length)) := by
  refine evC_of (F := Tryz.f74) rfl rfl (Nat.le_of_ble_eq_true rfl) ?_
  have := hv.len
  have hat : ∀ i, i < (esOf v).length → mA v i = k + 4 * i ∧ mB v i = k + 4 * i + 1 ∧ mC v i = mod3 (k + 4 * i + 2) ∧ mD v i = k + 4 * i + 3 := fun i hi => by
    have e : atQ (esOf v) i = qr (k + 4 * i) (k + 4 * i + 1) (mod3 (k + 4 * i + 2)) (k + 4 * i + 3) := by
      rw [he]; exact atQ_qrs hi
    unfold mA mB mC mD
    rw [e]; exact ⟨rfl, rfl, rfl, rfl⟩
  clear he
  repeat' (first | (apply brI <;> intro hb hb2 <;> (try simp [-Int.not_le, -Int.not_lt, -Nat.not_le, -Nat.not_lt, -Nat.add_left_cancel_iff] at hb2)) | (refine draw_listA (by rfl) (by kernel_rfl) ?_) | (refine draw_listB (by simp [allocsOf, isAlloc]; rfl) (by kernel_rfl) ?_) | simp (maxSteps := 2000000) (disch := first | omega | assumption | simp [*]) [*, -Int.not_le, -Int.not_lt, -Nat.not_le, -Nat.not_lt, -Nat.add_left_cancel_iff, wrap_i64, wrap_u64, Tryz.f74, isM_len hv, isM_low hv])
  refine W_loopP (esOf v).length (fun i s => s 5 = .int .i64 i ∧ s 0 = v ∧ s 1 = .int .i64 (k + 4 * i)) rfl ?_ ?_
  · simp
  rintro i s hi ⟨h5, h0, h1⟩
  by_cases hi2 : i < (esOf v).length
  · obtain ⟨ea, eb, ec, ed⟩ := hat i hi2
    clear hat
    repeat' (first | (apply brI <;> intro hb hb2 <;> (try simp [-Int.not_le, -Int.not_lt, -Nat.not_le, -Nat.not_lt, -Nat.add_left_cancel_iff] at hb2)) | (refine draw_listA (by rfl) (by kernel_rfl) ?_) | (refine draw_listB (by simp [allocsOf, isAlloc]; rfl) (by kernel_rfl) ?_) | simp (maxSteps := 2000000) (disch := first | omega | assumption | simp [*]) [*, -Int.not_le, -Int.not_lt, -Nat.not_le, -Nat.not_lt, -Nat.add_left_cancel_iff, wrap_i64, wrap_u64, h5, h0, h1, isM_len hv, isM_low hv, isM_index hv])
    all_goals first | omega | exact absurd (by unfold mod3; rw [show k + 4 * (i : Int) + 1 + 1 = k + 4 * (i : Int) + 2 by omega]) hb2
  · obtain rfl : i = (esOf v).length := by omega
    clear hat
    repeat' (first | (apply brI <;> intro hb hb2 <;> (try simp [-Int.not_le, -Int.not_lt, -Nat.not_le, -Nat.not_lt, -Nat.add_left_cancel_iff] at hb2)) | (refine draw_listA (by rfl) (by kernel_rfl) ?_) | (refine draw_listB (by simp [allocsOf, isAlloc]; rfl) (by kernel_rfl) ?_) | simp (maxSteps := 2000000) (disch := first | omega | assumption | simp [*]) [*, -Int.not_le, -Int.not_lt, -Nat.not_le, -Nat.not_lt, -Nat.add_left_cancel_iff, wrap_i64, wrap_u64, h5, h0, h1, isM_len hv])
theorem heldQuestionS_s {v : AV} {k : Int} (hv : IsM v) (h0 : 0 ≤ k) (h1 : k + 4 * (esOf v).length ≤ 4611686018427387904) (he : esOf v = mkQ k (esOf v).length) {K : AV → Prop} {tg : Tg K} : CW env 74 [v, .int .i64 k] K tg ↔ K (.int .i64 (k + 4 * (esOf v).length)) := callsTo_iff (heldQuestionS_c hv h0 h1 he)
attribute [simp] heldQuestionS_s
end Go.Proofs.YtlglhokpaplifaaGreatDoor
