/- The evaluator's memory against the machine's: how it goes on when a block is made, written, or grows. Conditions: none. -/
import Derived.Test.YthdeaenleimbeaaDoorEvRel
import Derived.Laws.Rows
import Derived.Laws.Tables
namespace Go.Proofs.YthdeaenleimbeaaDoor.Ev
open Go.RowKit
set_option linter.unusedVariables false
set_option linter.unusedSimpArgs false
set_option linter.unusedSectionVars false

def Blk.isTok : Blk → Bool | .tok .. => true | _ => false
def Blk.u : Blk → Nat | .tok _ _ _ u => u | _ => 0
def Blk.k : Blk → Nat | .row _ _ k _ => k | .tok _ _ k _ => k | .var .. => 0
def Blk.mutAt (i : Nat) : Blk → Prop | .tok _ _ k u => u * k ≤ i | _ => True

abbrev Mp := Nat → Nat × Nat
def Mut (h : Heap) (M : Mp) (b i : Nat) : Prop := ∃ key blk, h key = some blk ∧ (M key).1 = b ∧ blk.mutAt i
def Lof (h : Heap) (M : Mp) : Lv := fun key => (h key).map fun blk => ⟨blk.isTok, blk.g, blk.u, blk.k, (M key).1, (M key).2⟩
def cx (B : Nat → Nat → Prop) (n0 : Nat) (w : World) (h : Heap) (M : Mp) : Cx where
  s b i x := w.cell? ⟨b, i, none⟩ = some x ∧ ¬ Mut h M b i ∧ (n0 ≤ b ∨ B b i)
  a b i x := w.cell? ⟨b, i, none⟩ = some x ∧ ¬ Mut h M b i
  l := Lof h M
  x := fun _ _ => False

def flatC (rvs : List Value) : List Value := (rvs.map fun r => r.cells.toList).flatten

def BlkOk (c : Cx) (w : World) (p : Nat × Nat) : Blk → Prop
  | .var _ T v => v.cells.all AV.one = true ∧ ∃ rv, VR v c rv ∧ w.heap[p.1]? = some (.cells rv.cells T (0, 0))
  | .row _ T k es => 0 < k ∧ (∀ e ∈ es, e.cells.length = k ∧ e.cells.all AV.one = true) ∧
      ∃ rvs rest, VRl es c rvs ∧ w.heap[p.1]? = some (.cells (flatC rvs ++ rest).toArray T (0, 0)) ∧ (flatC rvs ++ rest).length = p.2 * k ∧ p.2 ≤ maxLen
  | .tok _ T k u => 0 < k ∧ u ≤ p.2 ∧ p.2 ≤ maxLen ∧ ∃ cur : Array Value, w.heap[p.1]? = some (.cells cur T (0, 0)) ∧ cur.size = p.2 * k

theorem BlkOk.mono {c c' : Cx} (hg : Gr c c') {w w' : World} {p : Nat × Nat} (hh : w'.heap[p.1]? = w.heap[p.1]?) {blk : Blk} (h : BlkOk c w p blk) : BlkOk c' w' p blk := by
  cases blk with
  | var g T v => obtain ⟨h0, rv, h1, h2⟩ := h; exact ⟨h0, rv, VR.mono hg v h1, hh.trans h2⟩
  | row g T k es => obtain ⟨h0, h00, rvs, rest, h1, h2, h3⟩ := h; exact ⟨h0, h00, rvs, rest, VRl.mono hg es h1, hh.trans h2, h3⟩
  | tok g T k u => obtain ⟨h0, h1, h2, cur, h3, h4⟩ := h; exact ⟨h0, h1, h2, cur, hh.trans h3, h4⟩

structure HR (B : Nat → Nat → Prop) (w0 w : World) (h : Heap) (M : Mp) : Prop where
  below : Below w0.heap.size w0 w
  old : ∀ key blk, h key = some blk → w0.heap.size ≤ (M key).1
  inj : ∀ k1 k2 b1 b2, h k1 = some b1 → h k2 = some b2 → (M k1).1 = (M k2).1 → k1 = k2
  ok : ∀ key blk, h key = some blk → BlkOk (cx B w0.heap.size w h M) w (M key) blk

theorem BlkOk.cells {c : Cx} {w : World} {p : Nat × Nat} {blk : Blk} (h : BlkOk c w p blk) : ∃ cs T, w.heap[p.1]? = some (.cells cs T (0, 0)) := by
  cases blk with
  | var g T v => obtain ⟨_, rv, _, h2⟩ := h; exact ⟨_, _, h2⟩
  | row g T k es => obtain ⟨_, _, rvs, rest, _, h2, _⟩ := h; exact ⟨_, _, h2⟩
  | tok g T k u => obtain ⟨_, _, _, cur, h3, _⟩ := h; exact ⟨_, _, h3⟩

theorem HR.lt {B : Nat → Nat → Prop} {w0 w : World} {h : Heap} {M : Mp} (H : HR B w0 w h M) {key : Nat} {blk : Blk} (hk : h key = some blk) : (M key).1 < w.heap.size := by
  obtain ⟨cs, T, hc⟩ := (H.ok key blk hk).cells
  exact (Array.getElem?_eq_some_iff.1 hc).1

theorem gr_of {B : Nat → Nat → Prop} {n0 : Nat} {w w' : World} {h h' : Heap} {M M' : Mp}
    (hcell : ∀ b i x, w.cell? ⟨b, i, none⟩ = some x → ¬ Mut h M b i → w'.cell? ⟨b, i, none⟩ = some x ∧ ¬ Mut h' M' b i)
    (hl : ∀ key blk, h key = some blk → ∃ blk', h' key = some blk' ∧ blk.g ≤ blk'.g ∧ (blk.g = blk'.g → blk.isTok = blk'.isTok ∧ blk.k = blk'.k ∧ blk.u ≤ blk'.u ∧ (blk.u = blk'.u → M key = M' key) ∧ (blk.isTok = false → blk.u = blk'.u))) :
    Gr (cx B n0 w h M) (cx B n0 w' h' M') where
  s b i x hx := ⟨(hcell b i x hx.1 hx.2.1).1, (hcell b i x hx.1 hx.2.1).2, hx.2.2⟩
  a b i x hx := hcell b i x hx.1 hx.2
  l key q hq := by
    simp only [cx, Lof, Option.map_eq_some_iff] at hq ⊢
    obtain ⟨blk, hk, rfl⟩ := hq
    obtain ⟨blk', h1, h2, h3⟩ := hl key blk hk
    refine ⟨_, ⟨blk', h1, rfl⟩, h2, fun e => ?_⟩
    obtain ⟨a1, a2, a3, a4, a5⟩ := h3 e
    exact ⟨a1, a2, a3, fun eu => by rw [a4 eu]; exact ⟨rfl, rfl⟩, a5⟩
  x y v hx := hx

def mset (M : Mp) (key : Nat) (p : Nat × Nat) : Mp := fun x => if x = key then p else M x

theorem nextG_lt {h : Heap} {key : Nat} {blk : Blk} (hk : h key = some blk) : blk.g < nextG h key := by simp [nextG, hk]

theorem gr_newkey {B : Nat → Nat → Prop} {w0 w w' : World} {h : Heap} {M : Mp} (H : HR B w0 w h M) (hb : Below w.heap.size w w') {key : Nat} {p : Nat × Nat} (hp : w.heap.size ≤ p.1) {blk : Blk} (hg : blk.g = nextG h key) :
    Gr (cx B w0.heap.size w h M) (cx B w0.heap.size w' (hset h key blk) (mset M key p)) := by
  refine gr_of (fun b i x hx hm => ?_) fun k2 b2 hk2 => ?_
  · have hlt : b < w.heap.size := World.block_lt_of_cell? w ⟨b, i, none⟩ hx
    refine ⟨(hb.cell (p := ⟨b, i, none⟩) hlt).trans hx, ?_⟩
    rintro ⟨k3, b3, h3, h4, h5⟩
    simp only [hset, mset] at h3 h4
    by_cases e : k3 = key
    · rw [if_pos e] at h4; omega
    · rw [if_neg e] at h3 h4; exact hm ⟨k3, b3, h3, h4, h5⟩
  · by_cases e : k2 = key
    · subst e
      have := nextG_lt hk2
      exact ⟨blk, by simp [hset], by omega, fun e => by omega⟩
    · exact ⟨b2, by simp [hset, e, hk2], Nat.le_refl _, fun _ => ⟨rfl, rfl, Nat.le_refl _, fun _ => by simp [mset, e], fun _ => rfl⟩⟩

/-- A new block at a key. -/
theorem HR.newkey' {B : Nat → Nat → Prop} {w0 w w' : World} {h : Heap} {M : Mp} (H : HR B w0 w h M) (hb : Below w.heap.size w w') {key : Nat} {p : Nat × Nat} (hp : w.heap.size ≤ p.1) {blk : Blk} (hg : blk.g = nextG h key)
    (hok : BlkOk (cx B w0.heap.size w' (hset h key blk) (mset M key p)) w' p blk) : HR B w0 w' (hset h key blk) (mset M key p) := by
  have hgr := gr_newkey (B := B) H hb (key := key) hp hg
  have hsz := H.below.size
  refine ⟨H.below.trans (hb.mono hsz), fun k2 b2 hk2 => ?_, fun k1 k2 b1 b2 h1 h2 he => ?_, fun k2 b2 hk2 => ?_⟩
  · simp only [hset, mset] at hk2 ⊢
    by_cases e : k2 = key
    · rw [if_pos e]; omega
    · rw [if_neg e] at hk2 ⊢; exact H.old _ _ hk2
  · simp only [hset, mset] at h1 h2 he
    by_cases e1 : k1 = key <;> by_cases e2 : k2 = key
    · rw [e1, e2]
    · rw [if_pos e1, if_neg e2] at he; rw [if_neg e2] at h2; have := H.lt h2; omega
    · rw [if_neg e1, if_pos e2] at he; rw [if_neg e1] at h1; have := H.lt h1; omega
    · rw [if_neg e1] at he h1; rw [if_neg e2] at he h2; exact H.inj _ _ _ _ h1 h2 he
  · by_cases e : k2 = key
    · subst e
      have : blk = b2 := by simpa [hset] using hk2
      subst this
      rw [show mset M k2 p k2 = p by simp [mset]]
      exact hok
    · have hk3 : h k2 = some b2 := by simpa [hset, e] using hk2
      rw [show mset M key p k2 = M k2 by simp [mset, e]]
      exact (H.ok _ _ hk3).mono hgr (hb.block _ (H.lt hk3))

theorem HR.newkey {B : Nat → Nat → Prop} {w0 w w' : World} {h : Heap} {M : Mp} (H : HR B w0 w h M) (hb : Below w.heap.size w w') {key : Nat} {p : Nat × Nat} (hp : w.heap.size ≤ p.1) {blk : Blk} (hg : blk.g = nextG h key)
    (hok : BlkOk (cx B w0.heap.size w h M) w' p blk) : HR B w0 w' (hset h key blk) (mset M key p) :=
  H.newkey' hb hp hg (hok.mono (gr_newkey H hb hp hg) rfl)

/-- A variable or row is written. -/
theorem gr_put {B : Nat → Nat → Prop} {w0 w w' : World} {h : Heap} {M : Mp} (H : HR B w0 w h M) {key : Nat} {blk blk' : Blk} (hk : h key = some blk) (ht : blk.isTok = false) (ht' : blk'.isTok = false)
    (hg : blk.g = blk'.g) (hkk : blk.k = blk'.k) (hb : ∀ b, b ≠ (M key).1 → w'.heap[b]? = w.heap[b]?) :
    Gr (cx B w0.heap.size w h M) (cx B w0.heap.size w' (hset h key blk') M) := by
  have hmu : ∀ b : Blk, b.isTok = false → ∀ i, b.mutAt i := by
    intro b hb i; cases b <;> simp_all [Blk.mutAt, Blk.isTok]
  have huu : ∀ b : Blk, b.isTok = false → b.u = 0 := by
    intro b hb; cases b <;> simp_all [Blk.u, Blk.isTok]
  refine gr_of (fun b i x hx hm => ?_) fun k2 b2 hk2 => ?_
  · have hne : b ≠ (M key).1 := fun e => hm ⟨key, blk, hk, e.symm, hmu _ ht i⟩
    refine ⟨by rw [← hx]; exact World.cell?_of_block (a := ⟨b, i, none⟩) (hb b hne), ?_⟩
    rintro ⟨k3, b3, h3, h4, h5⟩
    by_cases e : k3 = key
    · subst e; exact hne h4.symm
    · exact hm ⟨k3, b3, by simpa [hset, e] using h3, h4, h5⟩
  · by_cases e : k2 = key
    · subst e
      have : b2 = blk := by rw [hk] at hk2; exact (Option.some.inj hk2).symm
      subst this
      exact ⟨blk', by simp [hset], by omega, fun _ => ⟨by rw [ht, ht'], hkk, by rw [huu _ ht, huu _ ht']; exact Nat.le_refl _, fun _ => rfl, fun _ => by rw [huu _ ht, huu _ ht']⟩⟩
    · exact ⟨b2, by simp [hset, e, hk2], Nat.le_refl _, fun _ => ⟨rfl, rfl, Nat.le_refl _, fun _ => rfl, fun _ => rfl⟩⟩

theorem HR.put {B : Nat → Nat → Prop} {w0 w w' : World} {h : Heap} {M : Mp} (H : HR B w0 w h M) {key : Nat} {blk blk' : Blk} (hk : h key = some blk) (ht : blk.isTok = false) (ht' : blk'.isTok = false)
    (hg : blk.g = blk'.g) (hkk : blk.k = blk'.k) (hb : ∀ b, b ≠ (M key).1 → w'.heap[b]? = w.heap[b]?) (hos : w'.os = w.os) (htp : w'.tape = w.tape) (hou : w'.output = w.output) (hsz : w.heap.size ≤ w'.heap.size)
    (hok : BlkOk (cx B w0.heap.size w h M) w' (M key) blk') : HR B w0 w' (hset h key blk') M := by
  have hgr := gr_put (B := B) H hk ht ht' hg hkk hb
  have ho := H.old _ _ hk
  refine ⟨H.below.trans ⟨hos, htp, hou, hsz, fun k hk' => hb k (by omega)⟩, fun k2 b2 hk2 => ?_, fun k1 k2 b1 b2 h1 h2 he => ?_, fun k2 b2 hk2 => ?_⟩
  · by_cases e : k2 = key
    · subst e; exact ho
    · exact H.old _ _ (by simpa [hset, e] using hk2)
  · have f : ∀ k b, hset h key blk' k = some b → ∃ b', h k = some b' := by
      intro k b hh
      by_cases e : k = key
      · exact ⟨blk, e ▸ hk⟩
      · exact ⟨b, by simpa [hset, e] using hh⟩
    obtain ⟨_, g1⟩ := f _ _ h1
    obtain ⟨_, g2⟩ := f _ _ h2
    exact H.inj _ _ _ _ g1 g2 he
  · by_cases e : k2 = key
    · subst e
      have : blk' = b2 := by simpa [hset] using hk2
      subst this
      exact hok.mono hgr rfl
    · have hk3 : h k2 = some b2 := by simpa [hset, e] using hk2
      exact (H.ok _ _ hk3).mono hgr (hb _ fun e2 => e (H.inj _ _ _ _ hk3 hk e2))

/-- A row that grows by append. -/
theorem gr_tok {B : Nat → Nat → Prop} {w0 w w' : World} {h : Heap} {M : Mp} (H : HR B w0 w h M) {key g T k u u' : Nat} (hk : h key = some (.tok g T k u)) (hu : u < u')
    (hb : ∀ b, b < w.heap.size → b ≠ (M key).1 → w'.heap[b]? = w.heap[b]?) {p : Nat × Nat} (hp : p.1 = (M key).1 ∨ w.heap.size ≤ p.1)
    (hc : ∀ i x, i < u * k → w.cell? ⟨(M key).1, i, none⟩ = some x → w'.cell? ⟨(M key).1, i, none⟩ = some x) :
    Gr (cx B w0.heap.size w h M) (cx B w0.heap.size w' (hset h key (.tok g T k u')) (mset M key p)) := by
  refine gr_of (fun b i x hx hm => ?_) fun k2 b2 hk2 => ?_
  · have hlt : b < w.heap.size := World.block_lt_of_cell? w ⟨b, i, none⟩ hx
    by_cases hbe : b = (M key).1
    · have hi : i < u * k := by
        rcases Nat.lt_or_ge i (u * k) with h1 | h1
        · exact h1
        · exact (hm ⟨key, _, hk, hbe.symm, h1⟩).elim
      refine ⟨by rw [hbe] at hx ⊢; exact hc i x hi hx, ?_⟩
      rintro ⟨k3, b3, h3, h4, h5⟩
      by_cases e : k3 = key
      · subst e
        have : Blk.tok g T k u' = b3 := by simpa [hset] using h3
        subst this
        have : u * k ≤ u' * k := Nat.mul_le_mul_right _ (by omega)
        simp only [Blk.mutAt] at h5
        omega
      · exact hm ⟨k3, b3, by simpa [hset, e] using h3, by simpa [mset, e] using h4, h5⟩
    · refine ⟨by rw [← hx]; exact World.cell?_of_block (a := ⟨b, i, none⟩) (hb b hlt hbe), ?_⟩
      rintro ⟨k3, b3, h3, h4, h5⟩
      by_cases e : k3 = key
      · subst e
        simp only [mset, if_true] at h4
        rcases hp with hp | hp <;> omega
      · exact hm ⟨k3, b3, by simpa [hset, e] using h3, by simpa [mset, e] using h4, h5⟩
  · by_cases e : k2 = key
    · subst e
      have : b2 = .tok g T k u := by rw [hk] at hk2; exact (Option.some.inj hk2).symm
      subst this
      exact ⟨.tok g T k u', by simp [hset], Nat.le_refl _, fun _ => ⟨rfl, rfl, by simp only [Blk.u]; omega, fun e => by simp only [Blk.u] at e; omega, fun e => by simp [Blk.isTok] at e⟩⟩
    · exact ⟨b2, by simp [hset, e, hk2], Nat.le_refl _, fun _ => ⟨rfl, rfl, Nat.le_refl _, fun _ => by simp [mset, e], fun _ => rfl⟩⟩

theorem HR.tok {B : Nat → Nat → Prop} {w0 w w' : World} {h : Heap} {M : Mp} (H : HR B w0 w h M) {key g T k u u' : Nat} (hk : h key = some (.tok g T k u)) (hu : u < u')
    (hb : ∀ b, b < w.heap.size → b ≠ (M key).1 → w'.heap[b]? = w.heap[b]?) {p : Nat × Nat} (hp : p.1 = (M key).1 ∨ w.heap.size ≤ p.1)
    (hc : ∀ i x, i < u * k → w.cell? ⟨(M key).1, i, none⟩ = some x → w'.cell? ⟨(M key).1, i, none⟩ = some x)
    (hos : w'.os = w.os) (htp : w'.tape = w.tape) (hou : w'.output = w.output) (hsz : w.heap.size ≤ w'.heap.size)
    (hok : BlkOk (cx B w0.heap.size w h M) w' p (.tok g T k u')) : HR B w0 w' (hset h key (.tok g T k u')) (mset M key p) := by
  have hgr := gr_tok (B := B) H hk hu hb hp hc
  have ho := H.old _ _ hk
  have hs0 := H.below.size
  refine ⟨H.below.trans ⟨hos, htp, hou, hsz, fun k hk' => hb k (by omega) (by omega)⟩, fun k2 b2 hk2 => ?_, fun k1 k2 b1 b2 h1 h2 he => ?_, fun k2 b2 hk2 => ?_⟩
  · by_cases e : k2 = key
    · subst e; simp only [mset, if_true]; rcases hp with hp | hp <;> omega
    · simp only [mset, if_neg e]; exact H.old _ _ (by simpa [hset, e] using hk2)
  · by_cases e1 : k1 = key <;> by_cases e2 : k2 = key
    · rw [e1, e2]
    · have g2 : h k2 = some b2 := by simpa [hset, e2] using h2
      have := H.lt g2
      simp only [mset, if_pos e1, if_neg e2] at he
      rcases hp with hp | hp
      · exact e1.trans (H.inj _ _ _ _ hk g2 (hp ▸ he))
      · omega
    · have g1 : h k1 = some b1 := by simpa [hset, e1] using h1
      have := H.lt g1
      simp only [mset, if_neg e1, if_pos e2] at he
      rcases hp with hp | hp
      · exact (H.inj _ _ _ _ g1 hk (hp ▸ he)).trans e2.symm
      · omega
    · simp only [mset, if_neg e1, if_neg e2] at he
      exact H.inj _ _ _ _ (by simpa [hset, e1] using h1) (by simpa [hset, e2] using h2) he
  · by_cases e : k2 = key
    · subst e
      have : Blk.tok g T k u' = b2 := by simpa [hset] using hk2
      subst this
      rw [show mset M k2 p k2 = p by simp [mset]]
      exact hok.mono hgr rfl
    · have hk3 : h k2 = some b2 := by simpa [hset, e] using hk2
      rw [show mset M key p k2 = M k2 by simp [mset, e]]
      exact (H.ok _ _ hk3).mono hgr (hb _ (H.lt hk3) fun e2 => e (H.inj _ _ _ _ hk3 hk e2))

/-- The world has grown; nothing that was there has turned. -/
theorem gr_world {B : Nat → Nat → Prop} {n0 : Nat} {w w' : World} {h : Heap} {M : Mp} (hb : Below w.heap.size w w') : Gr (cx B n0 w h M) (cx B n0 w' h M) := by
  refine gr_of (fun b i x hx hm => ⟨(hb.cell (p := ⟨b, i, none⟩) (World.block_lt_of_cell? w ⟨b, i, none⟩ hx)).trans hx, hm⟩) fun k2 b2 hk2 => ?_
  exact ⟨b2, hk2, Nat.le_refl _, fun _ => ⟨rfl, rfl, Nat.le_refl _, fun _ => rfl, fun _ => rfl⟩⟩
theorem HR.world {B : Nat → Nat → Prop} {w0 w w' : World} {h : Heap} {M : Mp} (H : HR B w0 w h M) (hb : Below w.heap.size w w') : HR B w0 w' h M :=
  ⟨H.below.trans (hb.mono H.below.size), H.old, H.inj, fun k2 b2 hk2 => (H.ok _ _ hk2).mono (gr_world hb) (hb.block _ (H.lt hk2))⟩

theorem HR.start (B : Nat → Nat → Prop) (w : World) (M : Mp) : HR B w w hnil M :=
  ⟨Below.refl _ _, fun _ _ h => by simp [hnil] at h, fun _ _ _ _ h => by simp [hnil] at h, fun _ _ h => by simp [hnil] at h⟩

end Go.Proofs.YthdeaenleimbeaaDoor.Ev
