/- New blocks (variables, rows, append): what the evaluator says is what the machine does. Conditions: none. -/
import Derived.Test.YthdeaenleimbeaaDoorEvOps3
namespace Go.Proofs.YthdeaenleimbeaaDoor.Ev
open Go.RowKit
set_option linter.unusedVariables false
set_option linter.unusedSimpArgs false
set_option linter.unusedSectionVars false

/-- An operation: its value, and the memory behind it. -/
def Does (P : Program) (B : Nat → Nat → Prop) (w0 w : World) (h : Heap) (M : Mp) (s : Sem Value) (v : AV) (h' : Heap) : Prop :=
  ∃ rv w' M', s.run P w = .ok rv w' ∧ HR B w0 w' h' M' ∧ Gr (cx B w0.heap.size w h M) (cx B w0.heap.size w' h' M') ∧ VR v (cx B w0.heap.size w' h' M') rv

theorem Gives.does {P : Program} {B : Nat → Nat → Prop} {w0 w : World} {h : Heap} {M : Mp} {s : Sem Value} {v : AV} (H : HR B w0 w h M) (hg : Gives P w (cx B w0.heap.size w h M) s v) : Does P B w0 w h M s v h := by
  obtain ⟨rv, h1, h2⟩ := hg
  exact ⟨rv, w, M, h1, H, Gr.refl _, h2⟩

theorem stabs_iff {vs : List AV} : stabs vs = true ↔ ∀ v ∈ vs, stab v = true := by
  induction vs with
  | nil => simp [stabs]
  | cons x xs ih => simp [stabs, ih]

mutual
theorem VR.low0 {B : Nat → Nat → Prop} {n0 : Nat} {w : World} {h : Heap} {M : Mp} : ∀ (v : AV) {rv : Value}, VR v (cx B n0 w h M) rv → stab v = true → VR (low0 v) (cx B n0 w h M).el rv
  | .un, _, _, _ => by simp [Ev.low0, VR]
  | .int .., _, hv, _ => by simpa only [Ev.low0, VR] using hv
  | .bool .., _, hv, _ => by simpa only [Ev.low0, VR] using hv
  | .str .., _, hv, _ => by simpa only [Ev.low0, VR] using hv
  | .nilf, _, hv, _ => by simpa only [Ev.low0, VR] using hv
  | .ud, _, hv, _ => by simpa only [Ev.low0, VR] using hv
  | .agg cs, _, hv, hs => by
    simp only [stab] at hs
    simp only [Ev.low0, VR] at hv ⊢
    obtain ⟨rc, h1, h2⟩ := hv
    exact ⟨rc, h1, VRl.low0 cs h2 hs⟩
  | .tup cs, _, hv, hs => by
    simp only [stab] at hs
    simp only [Ev.low0, VR] at hv ⊢
    obtain ⟨rc, h1, h2⟩ := hv
    exact ⟨rc, h1, VRl.low0 cs h2 hs⟩
  | .sl k o es, _, hv, hs => by
    cases o with
    | ex T key => simp only [VR] at hv; exact hv.elim
    | brw =>
      simp only [stab] at hs
      have he : es = [] := by simpa using hs
      subst he
      simp only [Ev.low0, VR] at hv ⊢
      obtain ⟨a, cap, h1, h2, h3, h4, _, h6⟩ := hv
      exact ⟨a, cap, h1, h2, h3, h4, fun hne => (hne rfl).elim, h6⟩
    | tok key g =>
      simp only [Ev.low0, VR] at hv ⊢
      obtain ⟨a, cap, h1, h2, h3, h4, h5, h6⟩ := hv
      exact ⟨a, cap, h1, h2, h3, h4, h5, trivial⟩
    | no =>
      simp only [Ev.low0, VR] at hv ⊢
      exact hv
    | lit =>
      simp only [Ev.low0, VR] at hv ⊢
      exact hv
  | .ms .., _, _, _ => by simp [Ev.low0, VR]
  | .vp .., _, _, _ => by simp [Ev.low0, VR]
  | .rp .., _, _, _ => by simp [Ev.low0, VR]
  | .cp br cs off, _, hv, hs => by
    simp only [stab, Bool.not_eq_true'] at hs
    subst hs
    simp only [Ev.low0, VR] at hv ⊢
    exact hv
  | .xp .., _, _, _ => by simp [Ev.low0, VR]
  | .fn f caps, _, hv, hs => by
    simp only [stab] at hs
    simp only [Ev.low0, VR] at hv ⊢
    obtain ⟨rc, h1, h2⟩ := hv
    exact ⟨rc, h1, VRl.low0 caps h2 hs⟩
theorem VRl.low0 {B : Nat → Nat → Prop} {n0 : Nat} {w : World} {h : Heap} {M : Mp} : ∀ (vs : List AV) {rs : List Value}, VRl vs (cx B n0 w h M) rs → stabs vs = true → VRl (low0s vs) (cx B n0 w h M).el rs
  | [], _, hv, _ => by simpa only [Ev.low0s, VRl] using hv
  | x :: xs, _, hv, hs => by
    simp only [stabs, Bool.and_eq_true] at hs
    simp only [Ev.low0s, VRl] at hv ⊢
    obtain ⟨v, ws, h1, h2, h3⟩ := hv
    exact ⟨v, ws, h1, VR.low0 x h2 hs.1, VRl.low0 xs h3 hs.2⟩
end

mutual
theorem VR.low1 {B : Nat → Nat → Prop} {n0 : Nat} {w : World} {h : Heap} {M : Mp} : ∀ (v : AV) {rv : Value}, VR v (cx B n0 w h M) rv → VR (Ev.low0 v) (cx B n0 w h M).ela rv
  | .un, _, _ => by simp [Ev.low0, VR]
  | .int .., _, hv => by simpa only [Ev.low0, VR] using hv
  | .bool .., _, hv => by simpa only [Ev.low0, VR] using hv
  | .str .., _, hv => by simpa only [Ev.low0, VR] using hv
  | .nilf, _, hv => by simpa only [Ev.low0, VR] using hv
  | .ud, _, hv => by simpa only [Ev.low0, VR] using hv
  | .agg cs, _, hv => by
    simp only [Ev.low0, VR] at hv ⊢
    obtain ⟨rc, h1, h2⟩ := hv
    exact ⟨rc, h1, VRl.low1 cs h2⟩
  | .tup cs, _, hv => by
    simp only [Ev.low0, VR] at hv ⊢
    obtain ⟨rc, h1, h2⟩ := hv
    exact ⟨rc, h1, VRl.low1 cs h2⟩
  | .sl k o es, _, hv => by
    cases o with
    | ex T key => simp only [VR] at hv; exact hv.elim
    | tok key g =>
      simp only [Ev.low0, VR] at hv ⊢
      obtain ⟨a, cap, h1, h2, h3, h4, h5, h6⟩ := hv
      exact ⟨a, cap, h1, h2, h3, h4, h5, trivial⟩
    | _ =>
      simp only [Ev.low0, VR] at hv ⊢
      exact hv
  | .ms .., _, _ => by simp [Ev.low0, VR]
  | .vp .., _, _ => by simp [Ev.low0, VR]
  | .rp .., _, _ => by simp [Ev.low0, VR]
  | .cp br cs off, _, hv => by
    simp only [Ev.low0, VR] at hv ⊢
    obtain ⟨b, o, rc, h1, h2, h3⟩ := hv
    refine ⟨b, o, rc, h1, ?_, h3⟩
    cases br <;> exact h2
  | .xp .., _, _ => by simp [Ev.low0, VR]
  | .fn f caps, _, hv => by
    simp only [Ev.low0, VR] at hv ⊢
    obtain ⟨rc, h1, h2⟩ := hv
    exact ⟨rc, h1, VRl.low1 caps h2⟩
theorem VRl.low1 {B : Nat → Nat → Prop} {n0 : Nat} {w : World} {h : Heap} {M : Mp} : ∀ (vs : List AV) {rs : List Value}, VRl vs (cx B n0 w h M) rs → VRl (Ev.low0s vs) (cx B n0 w h M).ela rs
  | [], _, hv => by simpa only [Ev.low0s, VRl] using hv
  | x :: xs, _, hv => by
    simp only [Ev.low0s, VRl] at hv ⊢
    obtain ⟨v, ws, h1, h2, h3⟩ := hv
    exact ⟨v, ws, h1, VR.low1 x h2, VRl.low1 xs h3⟩
end

theorem low0s_length (vs : List AV) : (low0s vs).length = vs.length := by
  induction vs with
  | nil => rfl
  | cons x xs ih => simp [low0s, ih]
theorem low0s_map (vs : List AV) : low0s vs = vs.map low0 := by
  induction vs with
  | nil => rfl
  | cons x xs ih => simp [low0s, ih]

/-- a store of parts: 'setIfInBounds' one after the other -/
theorem foldl_set {α : Type} (off : Nat) : ∀ (l : List α) (j : Nat) (cs : Array α), off + j + l.length ≤ cs.size →
    ((l.zipIdx j).foldl (fun cs (p : α × Nat) => cs.setIfInBounds (off + p.2) p.1) cs).toList = cs.toList.take (off + j) ++ l ++ cs.toList.drop (off + j + l.length)
  | [], j, cs, _ => by simp
  | x :: l, j, cs, h => by
    simp only [List.zipIdx_cons, List.foldl_cons]
    have hlt : off + j < cs.size := by simp at h; omega
    rw [foldl_set off l (j + 1) (cs.setIfInBounds (off + j) x) (by simp at h ⊢; omega)]
    rw [Array.toList_setIfInBounds]
    apply List.ext_getElem?
    intro i
    have hl : cs.toList.length = cs.size := by simp
    simp only [List.getElem?_append, List.getElem?_take, List.getElem?_drop, List.getElem?_set, List.length_append, List.length_take, List.length_set, List.length_cons, hl]
    have e1 : min (off + (j + 1)) cs.size = off + j + 1 := by simp at h; omega
    have e2 : min (off + j) cs.size = off + j := by omega
    rw [e1, e2]
    by_cases h1 : i < off + j
    · have : i < off + j + 1 := by omega
      have h3 : ¬ off + j = i := by omega
      simp [h1, this, h3, show i < off + (j + 1) by omega, show i < off + j + 1 + l.length by omega, show i < off + j + (l.length + 1) by omega]
    · by_cases h2 : i = off + j
      · subst h2
        simp [show off + j < off + j + 1 + l.length by omega, hlt, show off + j < off + (j + 1) by omega]
      · have h3 : ¬ i < off + j + 1 := by omega
        have h4 : ¬ off + j = i := by omega
        by_cases h5 : i < off + j + 1 + l.length
        · have : i - (off + j) = (i - (off + j + 1)) + 1 := by omega
          simp [h1, h3, h5, this, show i < off + j + (l.length + 1) by omega]
        · have e5 : off + (j + 1) + l.length + (i - (off + j + 1 + l.length)) = i := by omega
          have e6 : off + j + (l.length + 1) + (i - (off + j + (l.length + 1))) = i := by omega
          simp [h5, show ¬ i < off + j + (l.length + 1) by omega, e5, e6, h4]

section
variable {P : Program} {E : Env} (hE : EnvOk E P) {B : Nat → Nat → Prop} {w0 w : World} {h : Heap} {M : Mp} (H : HR B w0 w h M)
include hE H

theorem below_alloc0 (w : World) (o : Obj) : Below w.heap.size w (w.alloc o) := (Below.refl _ _).alloc (Nat.le_refl _) o

theorem does_newVar {key T : Nat} {v r : AV} {h' : Heap} {rv : Value} (hl : newVarV h key T v = some (r, h')) (hv : VR v (cx B w0.heap.size w h M) rv) :
    ∃ w' M', Below w.heap.size w w' ∧ w' = w.alloc (.cells rv.cells T) ∧ HR B w0 w' h' M' ∧ Gr (cx B w0.heap.size w h M) (cx B w0.heap.size w' h' M') ∧ VR r (cx B w0.heap.size w' h' M') (.pointer (some ⟨w.heap.size, 0, none⟩)) := by
  unfold newVarV at hl
  split at hl
  · rename_i hone
    obtain ⟨rfl, rfl⟩ := Prod.mk.inj (Option.some.inj hl)
    have hb := below_alloc0 hE H w (.cells rv.cells T)
    refine ⟨_, mset M key (w.heap.size, 0), hb, rfl, H.newkey hb (Nat.le_refl _) rfl ⟨hone, rv, hv, heap_alloc_new w _⟩, gr_newkey H hb (Nat.le_refl _) rfl, ?_⟩
    simp only [VR]
    exact ⟨_, rfl, ⟨false, nextG h key, 0, 0, w.heap.size, 0⟩, by simp [cx, Lof, hset, mset, Blk.isTok, Blk.g, Blk.u, Blk.k], Nat.le_refl _, fun _ => ⟨rfl, rfl⟩⟩
  · cases hl

theorem does_box {key T : Nat} {v r : AV} {h' : Heap} {rv : Value} (hl : newVarV h key T v = some (r, h')) (hv : VR v (cx B w0.heap.size w h M) rv) : Does P B w0 w h M (Instr.box T rv) r h' := by
  obtain ⟨w', M', _, e, h1, h2, h3⟩ := does_newVar hE H hl hv
  exact ⟨_, w', M', by subst e; simp [Instr.box, newVar, newRow], h1, h2, h3⟩

theorem does_alloc {key T : Nat} {r : AV} {h' : Heap} (hz : E.size T ≠ 0) (hl : newVarV h key T (E.zero T) = some (r, h')) : Does P B w0 w h M (Instr.alloc T true (.tuple #[])) r h' := by
  obtain ⟨i, z, hi, _, _, hzz, hzv, _⟩ := hE.size T hz
  obtain ⟨w', M', _, e, h1, h2, h3⟩ := does_newVar hE H hl (hzv _)
  exact ⟨_, w', M', by subst e; simp [Instr.alloc, zeroValue, typeInfo, hi, hzz, newVar, newRow], h1, h2, h3⟩

theorem does_make {key t : Nat} {l c r : AV} {h' : Heap} {rl rc : Value} (hl : makeV E h key t l c = some (r, h')) (hv : VR l (cx B w0.heap.size w h M) rl) (hvc : VR c (cx B w0.heap.size w h M) rc) :
    Does P B w0 w h M (Instr.makeSlice t rl rc) r h' := by
  unfold makeV at hl
  cases hs : E.ty t <;> rw [hs] at hl <;> try (cases hl; done)
  rename_i e
  cases l <;> try (cases hl; done)
  rename_i kl n
  cases kl <;> try (cases hl; done)
  cases c <;> try (cases hl; done)
  rename_i kc m
  cases kc <;> try (cases hl; done)
  simp only at hl
  split at hl
  case isFalse => cases hl
  rename_i hc
  obtain ⟨h0, rfl, h2, h3, h4⟩ := hc
  obtain ⟨rfl, rfl⟩ := Prod.mk.inj (Option.some.inj hl)
  simp only [VR] at hv hvc
  subst hv; subst hvc
  obtain ⟨i, z, hi, hsz, hby, hzz, hzv, hzl, hzo⟩ := hE.size e (by omega)
  have hmr : n ≤ 1073741824 := by simpa [maxRow] using h2
  have hn : ((n.toNat : Nat) : Int) = n := Int.toNat_of_nonneg h0
  have hr := run_make (P := P) w t e i z (ty_sl hE hs) hi hzz .i64 .i64 n n h0 (Int.le_refl _) (by
      have a1 : (i.bytes : Int) ≤ 131072 := by omega
      have := Int.mul_le_mul a1 hmr h0 (by decide)
      omega) (by omega)
  have hzc : z.cells.size = E.size e := by
    have := (VR.cells_one (cx_x B w0.heap.size w h M) (hzv (cx B w0.heap.size w h M)) hzo).length
    rw [Array.length_toList] at this
    omega
  have hcells : (madeCells z.cells (n.toNat * i.size)).toList = flatC (List.replicate n.toNat z) := by
    rw [hsz]
    apply List.ext_getElem?
    intro j
    have hfl : (flatC (List.replicate n.toNat z)).length = n.toNat * E.size e := by
      rw [flatC_length (k := E.size e) fun r hr => by rw [List.eq_of_mem_replicate hr]; exact hzc, List.length_replicate]
    by_cases hj : j < n.toNat * E.size e
    · have hq : j / E.size e < n.toNat := Nat.div_lt_of_lt_mul (by rw [Nat.mul_comm]; exact hj)
      have hm : j % E.size e < E.size e := Nat.mod_lt _ h3
      have hg := flatC_get (rvs := List.replicate n.toNat z) (k := E.size e) (fun r hr => by rw [List.eq_of_mem_replicate hr]; exact hzc) (i := j / E.size e) (r := z) (by simp [hq]) (j := j % E.size e) (x := z.cells[j % E.size e]'(by omega)) (by simp [hzc, hm]) []
      rw [List.append_nil, Nat.mul_comm, Nat.div_add_mod] at hg
      rw [hg]
      simp [madeCells, hj, hzc, hm]
    · rw [List.getElem?_eq_none (by simp [madeCells]; omega), List.getElem?_eq_none (by omega)]
  have hb := below_alloc0 hE H w (.cells (madeCells z.cells (n.toNat * i.size)) e)
  refine ⟨_, _, mset M key (w.heap.size, n.toNat), hr, H.newkey hb (Nat.le_refl _) rfl ⟨h3, ?_, List.replicate n.toNat z, [], ?_, ?_, ?_, by simp only [maxLen]; omega⟩, gr_newkey H hb (Nat.le_refl _) rfl, ?_⟩
  · intro x hx
    rw [List.eq_of_mem_replicate hx]
    exact ⟨hzl, hzo⟩
  · refine VRl.mk (by simp) fun j a r ha hr => ?_
    rw [List.eq_of_mem_replicate (List.mem_of_getElem? ha), List.eq_of_mem_replicate (List.mem_of_getElem? hr)]
    exact hzv _
  · rw [List.append_nil, ← hcells, Array.toArray_toList]
    exact heap_alloc_new w _
  · rw [List.append_nil, flatC_length (k := E.size e) fun r hr => by rw [List.eq_of_mem_replicate hr]; exact hzc, List.length_replicate]
  · simp only [VR]
    refine ⟨_, _, rfl, ⟨false, nextG h key, 0, E.size e, w.heap.size, n.toNat⟩, by simp [cx, Lof, hset, mset, Blk.isTok, Blk.g, Blk.u, Blk.k], Nat.le_refl _, fun _ => ⟨rfl, fun _ => by simp, Nat.le_refl _, ?_, by simp⟩⟩
    simp only [maxLen]; omega
end

end Go.Proofs.YthdeaenleimbeaaDoor.Ev
