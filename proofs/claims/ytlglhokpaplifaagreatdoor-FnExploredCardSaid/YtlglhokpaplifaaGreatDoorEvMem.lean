/- XEvRel XEvState XEvMem, joined. Conditions: none. -/
import Derived.Test.YtlglhokpaplifaaGreatDoorEvRun
import Derived.Laws.AppendOwn
import Derived.Laws.Rows
import Derived.Laws.Tables
import Derived.Laws.CopyRow
import Derived.Laws.Slices
import Derived.Laws.Cells
import Derived.Laws.MakeOwn
import Derived.Laws.Small
import Derived.Laws.StructEq
/- What the evaluator's values say of the machine's values and memory; how long it holds. Conditions: none. -/
namespace Go.Proofs.YtlglhokpaplifaaGreatDoor.Ev
open Go.RowKit
set_option linter.unusedVariables false
set_option linter.unusedSimpArgs false
set_option linter.unusedSectionVars false

structure LB where
  t : Bool
  g : Nat
  u : Nat
  k : Nat
  b : Nat
  c : Nat

abbrev CellP := Nat → Nat → Value → Prop
abbrev Lv := Nat → Option LB

structure Cx where
  s : CellP
  a : CellP
  l : Lv
  x : AV → Value → Prop
def Cx.el (c : Cx) : Cx := ⟨c.s, c.s, fun _ => none, fun _ _ => False⟩
/-- behind a borrowed place: what is borrowed may stand there -/
def Cx.ela (c : Cx) : Cx := ⟨c.s, c.a, fun _ => none, fun _ _ => False⟩
def Cx.elb (c : Cx) (br : Bool) : Cx := if br then c.ela else c.el
theorem Cx.elb_true (c : Cx) : c.elb true = c.ela := rfl
theorem Cx.elb_false (c : Cx) : c.elb false = c.el := rfl

def CellsAt (C : CellP) (b o : Nat) (rv : Value) : Prop := ∀ j x, rv.cells.toList[j]? = some x → C b (o + j) x

def OwnOk (l : Lv) (a : Option Addr) (len cap : Nat) : Own → Prop
  | .no => True
  | .brw => True
  | .lit => cap = len
  | .tok key g => ∃ q, l key = some q ∧ g ≤ q.g ∧ (g = q.g → q.t = true ∧ len ≤ q.u ∧ (len = q.u → a = some ⟨q.b, 0, none⟩ ∧ cap = q.c))
  | .ex _ _ => False

def Cx.of (c : Cx) : Own → CellP
  | .brw => c.a
  | _ => c.s

mutual
def VR : AV → Cx → Value → Prop
  | .un, _, _ => True
  | .int k n, _, v => v = .int k n
  | .bool b, _, v => v = .bool b
  | .str s, _, v => v = .string s
  | .agg cs, c, v => ∃ rc : List Value, v = .agg rc.toArray ∧ VRl cs c rc
  | .tup vs, c, v => ∃ rc : List Value, v = .tuple rc.toArray ∧ VRl vs c rc
  | .sl k (.ex T key) es, c, v => c.x (.sl k (.ex T key) es) v
  | .sl k o es, c, v => ∃ a cap, v = .slice a es.length cap ∧ es.length ≤ cap ∧ cap ≤ maxLen ∧ (a = none → cap = 0) ∧
      (es ≠ [] → ∃ b ofs, a = some ⟨b, ofs, none⟩ ∧ VRm es (c.elb (o == .brw)) (c.of o) b ofs k) ∧ OwnOk c.l a es.length cap o
  | .ms key g off len, c, v => ∃ (a : Addr) (cap : Nat), v = .slice (some a) len cap ∧ ∃ q, c.l key = some q ∧ g ≤ q.g ∧ (g = q.g → q.t = false ∧ (cap ≠ 0 → a = ⟨q.b, off * q.k, none⟩) ∧ len ≤ cap ∧ cap ≤ maxLen ∧ cap = q.c - off)
  | .vp key g off, c, v => ∃ a : Addr, v = .pointer (some a) ∧ ∃ q, c.l key = some q ∧ g ≤ q.g ∧ (g = q.g → q.t = false ∧ a = ⟨q.b, off, none⟩)
  | .rp key g i off, c, v => ∃ a : Addr, v = .pointer (some a) ∧ ∃ q, c.l key = some q ∧ g ≤ q.g ∧ (g = q.g → q.t = false ∧ a = ⟨q.b, i * q.k + off, none⟩)
  | .cp br cs off, c, v => ∃ b o, ∃ rc : List Value, v = .pointer (some ⟨b, o + off, none⟩) ∧ VRl cs (c.elb br) rc ∧ ∀ j x, rc[j]? = some x → (if br then c.a else c.s) b (o + j) x
  | .xp T key w, c, v => c.x (.xp T key w) v
  | .fn f caps, c, v => ∃ rc : List Value, v = .func (.func f) #[] rc.toArray ∧ VRl caps c rc
  | .nilf, _, v => v = .nilFunc
  | .ud, _, v => v = undef
def VRl : List AV → Cx → List Value → Prop
  | [], _, vs => vs = []
  | x :: xs, c, vs => ∃ v ws, vs = v :: ws ∧ VR x c v ∧ VRl xs c ws
def VRm : List AV → Cx → CellP → Nat → Nat → Nat → Prop
  | [], _, _, _, _, _ => True
  | e :: es, c, C, b, o, k => (∃ rv, VR e c rv ∧ rv.cells.size = k ∧ CellsAt C b o rv) ∧ VRm es c C b (o + k) k
end

/-- From one moment to a later one. -/
structure Gr (c c' : Cx) : Prop where
  s : ∀ b i x, c.s b i x → c'.s b i x
  a : ∀ b i x, c.a b i x → c'.a b i x
  l : ∀ key q, c.l key = some q → ∃ q', c'.l key = some q' ∧ q.g ≤ q'.g ∧ (q.g = q'.g → q.t = q'.t ∧ q.k = q'.k ∧ q.u ≤ q'.u ∧ (q.u = q'.u → q.b = q'.b ∧ q.c = q'.c) ∧ (q.t = false → q.u = q'.u))
  x : ∀ y v, c.x y v → c'.x y v

theorem Gr.refl (c : Cx) : Gr c c := ⟨fun _ _ _ h => h, fun _ _ _ h => h, fun key q h => ⟨q, h, Nat.le_refl _, fun _ => ⟨rfl, rfl, Nat.le_refl _, fun _ => ⟨rfl, rfl⟩, fun _ => rfl⟩⟩, fun _ _ h => h⟩
theorem Gr.trans {a b c : Cx} (h : Gr a b) (k : Gr b c) : Gr a c where
  s := fun _ _ _ x => k.s _ _ _ (h.s _ _ _ x)
  a := fun _ _ _ x => k.a _ _ _ (h.a _ _ _ x)
  l := fun key q hq => by
    obtain ⟨q', h1, h2, h3⟩ := h.l key q hq
    obtain ⟨q'', k1, k2, k3⟩ := k.l key q' h1
    refine ⟨q'', k1, Nat.le_trans h2 k2, fun e => ?_⟩
    have e1 : q.g = q'.g := by omega
    have e2 : q'.g = q''.g := by omega
    obtain ⟨a1, a2, a3, a4, a5⟩ := h3 e1
    obtain ⟨b1, b2, b3, b4, b5⟩ := k3 e2
    refine ⟨a1.trans b1, a2.trans b2, Nat.le_trans a3 b3, fun eu => ?_, fun ht => (a5 ht).trans (b5 (a1 ▸ ht))⟩
    obtain ⟨x1, x2⟩ := a4 (by omega)
    obtain ⟨y1, y2⟩ := b4 (by omega)
    exact ⟨x1.trans y1, x2.trans y2⟩
  x := fun _ _ y => k.x _ _ (h.x _ _ y)
theorem Gr.el {c c' : Cx} (h : Gr c c') : Gr c.el c'.el := ⟨h.s, h.s, fun _ _ hq => by simp [Cx.el] at hq, fun _ _ hx => hx.elim⟩
theorem Gr.ela {c c' : Cx} (h : Gr c c') : Gr c.ela c'.ela := ⟨h.s, h.a, fun _ _ hq => by simp [Cx.ela] at hq, fun _ _ hx => hx.elim⟩
theorem Gr.elb {c c' : Cx} (h : Gr c c') (br : Bool) : Gr (c.elb br) (c'.elb br) := by
  cases br with
  | false => exact h.el
  | true => exact h.ela
theorem Gr.of {c c' : Cx} (h : Gr c c') (o : Own) : ∀ b i x, c.of o b i x → c'.of o b i x := by
  cases o <;> first | exact h.s | exact h.a

theorem OwnOk.mono {c c' : Cx} (h : Gr c c') {a : Option Addr} {len cap : Nat} {o : Own} (ho : OwnOk c.l a len cap o) : OwnOk c'.l a len cap o := by
  cases o with
  | no => trivial
  | brw => trivial
  | lit => exact ho
  | ex => exact ho
  | tok key g =>
    obtain ⟨q, h1, h2, h3⟩ := ho
    obtain ⟨q', k1, k2, k3⟩ := h.l key q h1
    refine ⟨q', k1, Nat.le_trans h2 k2, fun e => ?_⟩
    have e1 : g = q.g := by omega
    have e2 : q.g = q'.g := by omega
    obtain ⟨a1, a2, a3⟩ := h3 e1
    obtain ⟨b1, _, b3, b4, _⟩ := k3 e2
    refine ⟨b1 ▸ a1, Nat.le_trans a2 b3, fun el => ?_⟩
    obtain ⟨x1, x2⟩ := a3 (by omega)
    obtain ⟨y1, y2⟩ := b4 (by omega)
    rw [← y1, ← y2]
    exact ⟨x1, x2⟩

mutual
theorem VR.mono {c c' : Cx} (h : Gr c c') : ∀ (v : AV) {rv : Value}, VR v c rv → VR v c' rv
  | .un, _, _ => by simp [VR]
  | .int .., _, hv => by simpa only [VR] using hv
  | .bool .., _, hv => by simpa only [VR] using hv
  | .str .., _, hv => by simpa only [VR] using hv
  | .nilf, _, hv => by simpa only [VR] using hv
  | .ud, _, hv => by simpa only [VR] using hv
  | .agg cs, _, hv => by
    simp only [VR] at hv ⊢
    obtain ⟨rc, h1, h2⟩ := hv
    exact ⟨rc, h1, VRl.mono h cs h2⟩
  | .tup cs, _, hv => by
    simp only [VR] at hv ⊢
    obtain ⟨rc, h1, h2⟩ := hv
    exact ⟨rc, h1, VRl.mono h cs h2⟩
  | .sl k o es, _, hv => by
    cases o with
    | ex T key => simp only [VR] at hv ⊢; exact h.x _ _ hv
    | _ =>
      simp only [VR] at hv ⊢
      obtain ⟨a, cap, h1, h2, h3, h4, h5, h6⟩ := hv
      refine ⟨a, cap, h1, h2, h3, h4, fun hne => ?_, h6.mono h⟩
      obtain ⟨b, ofs, e, hm⟩ := h5 hne
      exact ⟨b, ofs, e, VRm.mono (h.elb _) (h.of _) es hm⟩
  | .ms key g off len, _, hv => by
    simp only [VR] at hv ⊢
    obtain ⟨a, cap, e0, q, h1, h2, h3⟩ := hv
    obtain ⟨q', k1, k2, k3⟩ := h.l key q h1
    refine ⟨a, cap, e0, q', k1, Nat.le_trans h2 k2, fun e => ?_⟩
    obtain ⟨a1, a2⟩ := h3 (by omega)
    obtain ⟨b1, b2, _, b4, b5⟩ := k3 (by omega)
    have hb := (b4 (b5 a1)).1
    have hc := (b4 (b5 a1)).2
    rw [← hb, ← b2, ← b1, ← hc]
    exact ⟨a1, a2⟩
  | .vp key g off, _, hv => by
    simp only [VR] at hv ⊢
    obtain ⟨a, e0, q, h1, h2, h3⟩ := hv
    obtain ⟨q', k1, k2, k3⟩ := h.l key q h1
    refine ⟨a, e0, q', k1, Nat.le_trans h2 k2, fun e => ?_⟩
    obtain ⟨a1, a2⟩ := h3 (by omega)
    obtain ⟨b1, b2, _, b4, b5⟩ := k3 (by omega)
    have hb := (b4 (b5 a1)).1
    rw [← hb, ← b1]
    exact ⟨a1, a2⟩
  | .rp key g i off, _, hv => by
    simp only [VR] at hv ⊢
    obtain ⟨a, e0, q, h1, h2, h3⟩ := hv
    obtain ⟨q', k1, k2, k3⟩ := h.l key q h1
    refine ⟨a, e0, q', k1, Nat.le_trans h2 k2, fun e => ?_⟩
    obtain ⟨a1, a2⟩ := h3 (by omega)
    obtain ⟨b1, b2, _, b4, b5⟩ := k3 (by omega)
    have hb := (b4 (b5 a1)).1
    rw [← hb, ← b2, ← b1]
    exact ⟨a1, a2⟩
  | .cp br cs off, _, hv => by
    simp only [VR] at hv ⊢
    obtain ⟨b, o, rc, h1, h2, h3⟩ := hv
    refine ⟨b, o, rc, h1, VRl.mono (h.elb br) cs h2, fun j x hx => ?_⟩
    have := h3 j x hx
    cases br
    · exact h.s _ _ _ this
    · exact h.a _ _ _ this
  | .xp T key w, _, hv => by simp only [VR] at hv ⊢; exact h.x _ _ hv
  | .fn f caps, _, hv => by
    simp only [VR] at hv ⊢
    obtain ⟨rc, h1, h2⟩ := hv
    exact ⟨rc, h1, VRl.mono h caps h2⟩
theorem VRl.mono {c c' : Cx} (h : Gr c c') : ∀ (vs : List AV) {rs : List Value}, VRl vs c rs → VRl vs c' rs
  | [], _, hv => by simpa only [VRl] using hv
  | x :: xs, _, hv => by
    simp only [VRl] at hv ⊢
    obtain ⟨v, ws, h1, h2, h3⟩ := hv
    exact ⟨v, ws, h1, VR.mono h x h2, VRl.mono h xs h3⟩
theorem VRm.mono {c c' : Cx} (h : Gr c c') {C C' : CellP} (hC : ∀ b i x, C b i x → C' b i x) : ∀ (vs : List AV) {b o k : Nat}, VRm vs c C b o k → VRm vs c' C' b o k
  | [], _, _, _, _ => by simp [VRm]
  | x :: xs, _, _, _, hv => by
    simp only [VRm] at hv ⊢
    obtain ⟨⟨rv, h1, h2, h3⟩, h4⟩ := hv
    exact ⟨⟨rv, VR.mono h x h1, h2, fun j y hy => hC _ _ _ (h3 j y hy)⟩, VRm.mono h hC xs h4⟩
end

mutual
theorem stab_el {c : Cx} : ∀ (v : AV) {rv : Value}, stab v = true → VR v c.ela rv → VR v c.el rv
  | .un, _, _, _ => by simp [VR]
  | .int .., _, _, hv => by simpa only [VR] using hv
  | .bool .., _, _, hv => by simpa only [VR] using hv
  | .str .., _, _, hv => by simpa only [VR] using hv
  | .nilf, _, _, hv => by simpa only [VR] using hv
  | .ud, _, _, hv => by simpa only [VR] using hv
  | .agg cs, _, hs, hv => by
    simp only [VR] at hv ⊢
    obtain ⟨rc, h1, h2⟩ := hv
    exact ⟨rc, h1, stab_ell cs (by simpa [stab] using hs) h2⟩
  | .tup cs, _, hs, hv => by
    simp only [VR] at hv ⊢
    obtain ⟨rc, h1, h2⟩ := hv
    exact ⟨rc, h1, stab_ell cs (by simpa [stab] using hs) h2⟩
  | .sl k o es, _, hs, hv => by
    cases o with
    | ex T key => simp only [VR] at hv; exact hv.elim
    | brw =>
      simp only [VR] at hv ⊢
      have he : es = [] := by simpa [stab] using hs
      subst he
      obtain ⟨a, cap, h1, h2, h3, h4, _, h6⟩ := hv
      exact ⟨a, cap, h1, h2, h3, h4, fun h => absurd rfl h, h6⟩
    | _ =>
      simp only [VR] at hv ⊢
      exact hv
  | .ms key g off len, _, _, hv => by
    simp only [VR] at hv
    obtain ⟨a, cap, _, q, h1, _⟩ := hv
    cases h1
  | .vp key g off, _, _, hv => by
    simp only [VR] at hv
    obtain ⟨a, _, q, h1, _⟩ := hv
    cases h1
  | .rp key g i off, _, _, hv => by
    simp only [VR] at hv
    obtain ⟨a, _, q, h1, _⟩ := hv
    cases h1
  | .cp br cs off, _, hs, hv => by
    cases br with
    | true => simp [stab] at hs
    | false => simp only [VR] at hv ⊢; exact hv
  | .xp T key w, _, _, hv => by simp only [VR] at hv; exact hv.elim
  | .fn f caps, _, hs, hv => by
    simp only [VR] at hv ⊢
    obtain ⟨rc, h1, h2⟩ := hv
    exact ⟨rc, h1, stab_ell caps (by simpa [stab] using hs) h2⟩
theorem stab_ell {c : Cx} : ∀ (vs : List AV) {rs : List Value}, stabs vs = true → VRl vs c.ela rs → VRl vs c.el rs
  | [], _, _, hv => by simpa only [VRl] using hv
  | x :: xs, _, hs, hv => by
    simp only [VRl] at hv ⊢
    simp only [stabs, Bool.and_eq_true] at hs
    obtain ⟨v, ws, h1, h2, h3⟩ := hv
    exact ⟨v, ws, h1, stab_el x hs.1 h2, stab_ell xs hs.2 h3⟩
end
theorem stab_elm {c : Cx} {C : CellP} : ∀ (vs : List AV) {b o k : Nat}, stabs vs = true → VRm vs c.ela C b o k → VRm vs c.el C b o k
  | [], _, _, _, _, _ => by simp [VRm]
  | x :: xs, _, _, _, hs, hv => by
    simp only [VRm] at hv ⊢
    simp only [stabs, Bool.and_eq_true] at hs
    obtain ⟨⟨rv, h1, h2, h3⟩, h4⟩ := hv
    exact ⟨⟨rv, stab_el x hs.1 h1, h2, h3⟩, stab_elm xs hs.2 h4⟩
theorem VRl.length {c : Cx} : ∀ {vs : List AV} {rs : List Value}, VRl vs c rs → rs.length = vs.length
  | [], _, h => by simp only [VRl] at h; simp [h]
  | x :: xs, _, h => by
    simp only [VRl] at h
    obtain ⟨v, ws, rfl, _, h2⟩ := h
    simp [VRl.length h2]
theorem VRl.get {c : Cx} : ∀ {vs : List AV} {rs : List Value}, VRl vs c rs → ∀ (i : Nat) (v : AV), vs[i]? = some v → ∃ r, rs[i]? = some r ∧ VR v c r
  | [], _, h, i, v, hi => by simp at hi
  | x :: xs, _, h, i, v, hi => by
    simp only [VRl] at h
    obtain ⟨w, ws, rfl, h1, h2⟩ := h
    cases i with
    | zero => simp at hi; subst hi; exact ⟨w, by simp, h1⟩
    | succ i =>
      simp only [List.getElem?_cons_succ] at hi
      obtain ⟨r, hr, hv⟩ := VRl.get h2 i v hi
      exact ⟨r, by simpa using hr, hv⟩
theorem VRl.mk {c : Cx} : ∀ {vs : List AV} {rs : List Value}, rs.length = vs.length → (∀ (i : Nat) (v : AV) (r : Value), vs[i]? = some v → rs[i]? = some r → VR v c r) → VRl vs c rs
  | [], [], _, _ => by simp [VRl]
  | [], _ :: _, h, _ => by simp at h
  | _ :: _, [], h, _ => by simp at h
  | x :: xs, r :: rs, h, hh => by
    simp only [VRl]
    exact ⟨r, rs, rfl, hh 0 x r (by simp) (by simp), VRl.mk (by simpa using h) fun i v r' hi hr => hh (i + 1) v r' (by simpa using hi) (by simpa using hr)⟩
theorem VRl.append {c : Cx} {vs ws : List AV} {rs ss : List Value} (h : VRl vs c rs) (k : VRl ws c ss) : VRl (vs ++ ws) c (rs ++ ss) := by
  induction vs generalizing rs with
  | nil => simp only [VRl] at h; subst h; simpa using k
  | cons x xs ih =>
    simp only [VRl] at h
    obtain ⟨v, us, rfl, h1, h2⟩ := h
    simp only [List.cons_append, VRl]
    exact ⟨v, us ++ ss, rfl, h1, ih h2⟩
theorem VRl.take {c : Cx} {vs : List AV} {rs : List Value} (h : VRl vs c rs) (n : Nat) : VRl (vs.take n) c (rs.take n) := by
  induction vs generalizing rs n with
  | nil => simp only [VRl] at h; subst h; simp [VRl]
  | cons x xs ih =>
    simp only [VRl] at h
    obtain ⟨v, us, rfl, h1, h2⟩ := h
    cases n with
    | zero => simp [VRl]
    | succ n => simp only [List.take_succ_cons, VRl]; exact ⟨v, us.take n, rfl, h1, ih h2 n⟩
theorem VRl.drop {c : Cx} {vs : List AV} {rs : List Value} (h : VRl vs c rs) (n : Nat) : VRl (vs.drop n) c (rs.drop n) := by
  induction vs generalizing rs n with
  | nil => simp only [VRl] at h; subst h; simp [VRl]
  | cons x xs ih =>
    simp only [VRl] at h
    obtain ⟨v, us, rfl, h1, h2⟩ := h
    cases n with
    | zero => simp only [List.drop_zero, VRl]; exact ⟨v, us, rfl, h1, h2⟩
    | succ n => simp only [List.drop_succ_cons]; exact ih h2 n
theorem VRl.nil_iff {c : Cx} {rs : List Value} : VRl [] c rs ↔ rs = [] := by simp [VRl]
theorem VRl.cons_iff {c : Cx} {x : AV} {xs : List AV} {rs : List Value} : VRl (x :: xs) c rs ↔ ∃ v ws, rs = v :: ws ∧ VR x c v ∧ VRl xs c ws := by simp [VRl]

/-- A value that is no aggregate stands in one cell. -/
theorem VR.one {c : Cx} (hx : ∀ y v, ¬ c.x y v) {v : AV} {rv : Value} (h : VR v c rv) (ho : v.one = true) : rv.oneCell' = true ∧ rv.cells = #[rv] := by
  cases v with
  | un => simp [AV.one] at ho
  | ud => simp [AV.one] at ho
  | agg => simp [AV.one] at ho
  | tup => simp [AV.one] at ho
  | int k n => simp only [VR] at h; subst h; exact ⟨rfl, rfl⟩
  | bool => simp only [VR] at h; subst h; exact ⟨rfl, rfl⟩
  | str => simp only [VR] at h; subst h; exact ⟨rfl, rfl⟩
  | nilf => simp only [VR] at h; subst h; exact ⟨rfl, rfl⟩
  | sl k o es =>
    cases o with
    | ex => simp only [VR] at h; exact (hx _ _ h).elim
    | _ => simp only [VR] at h; obtain ⟨a, cap, rfl, _⟩ := h; exact ⟨rfl, rfl⟩
  | xp => simp only [VR] at h; exact (hx _ _ h).elim
  | fn => simp only [VR] at h; obtain ⟨a, rfl, _⟩ := h; exact ⟨rfl, rfl⟩
  | cp => simp only [VR] at h; obtain ⟨a, _, _, rfl, _⟩ := h; exact ⟨rfl, rfl⟩
  | ms => simp only [VR] at h; obtain ⟨a, _, rfl, _⟩ := h; exact ⟨rfl, rfl⟩
  | vp => simp only [VR] at h; obtain ⟨a, rfl, _⟩ := h; exact ⟨rfl, rfl⟩
  | rp => simp only [VR] at h; obtain ⟨a, rfl, _⟩ := h; exact ⟨rfl, rfl⟩

end Go.Proofs.YtlglhokpaplifaaGreatDoor.Ev
/- The evaluator's memory against the machine's: how it goes on when a block is made, written, or grows. Conditions: none. -/
namespace Go.Proofs.YtlglhokpaplifaaGreatDoor.Ev
open Go.RowKit
set_option linter.unusedVariables false
set_option linter.unusedSimpArgs false
set_option linter.unusedSectionVars false

def Blk.isTok : Blk → Bool | .tok .. => true | _ => false
def Blk.u : Blk → Nat | .tok _ _ _ u => u | _ => 0
def Blk.k : Blk → Nat | .row _ _ k _ => k | .tok _ _ k _ => k | .var .. => 0 | .fz .. => 0
def Blk.mutAt (i : Nat) : Blk → Prop | .tok _ _ k u => u * k ≤ i | .fz .. => False | _ => True

abbrev Mp := Nat → Nat × Nat
def Mut (h : Heap) (M : Mp) (b i : Nat) : Prop := ∃ key blk, h key = some blk ∧ (M key).1 = b ∧ blk.mutAt i
def Lof (h : Heap) (M : Mp) : Lv := fun key => (h key).map fun blk => ⟨blk.isTok, blk.g, blk.u, blk.k, (M key).1, (M key).2⟩
def cx (B : Nat → Nat → Prop) (n0 : Nat) (w : World) (h : Heap) (M : Mp) : Cx where
  s b i x := w.cell? ⟨b, i, none⟩ = some x ∧ ¬ Mut h M b i ∧ (n0 ≤ b ∨ B b i)
  a b i x := w.cell? ⟨b, i, none⟩ = some x ∧ ¬ Mut h M b i
  l := Lof h M
  x := fun _ _ => False

def flatC (rvs : List Value) : List Value := (rvs.map fun r => r.cells.toList).flatten

def BlkOk (c : Cx) (w : World) (p : Nat × Nat) : Blk → Prop
  | .var _ T v => v.cells.all AV.one = true ∧ ∃ rv, VR v c rv ∧ w.heap[p.1]? = some (.cells rv.cells T (0, 0))
  | .row _ T k es => 0 < k ∧ (∀ e ∈ es, e.cells.length = k ∧ e.cells.all AV.one = true) ∧
      ∃ rvs rest, VRl es c rvs ∧ w.heap[p.1]? = some (.cells (flatC rvs ++ rest).toArray T (0, 0)) ∧ (flatC rvs ++ rest).length = p.2 * k ∧ p.2 ≤ maxLen
  | .fz _ T v => v.cells.all AV.one = true ∧ ∃ rv, VR v c rv ∧ w.heap[p.1]? = some (.cells rv.cells T (0, 0))
  | .tok _ T k u => 0 < k ∧ p.2 ≤ maxLen ∧ ∃ cur : Array Value, w.heap[p.1]? = some (.cells cur T (0, 0)) ∧ cur.size = p.2 * k

theorem BlkOk.mono {c c' : Cx} (hg : Gr c c') {w w' : World} {p : Nat × Nat} (hh : w'.heap[p.1]? = w.heap[p.1]?) {blk : Blk} (h : BlkOk c w p blk) : BlkOk c' w' p blk := by
  cases blk with
  | var g T v => obtain ⟨h0, rv, h1, h2⟩ := h; exact ⟨h0, rv, VR.mono hg v h1, hh.trans h2⟩
  | fz g T v => obtain ⟨h0, rv, h1, h2⟩ := h; exact ⟨h0, rv, VR.mono hg v h1, hh.trans h2⟩
  | row g T k es => obtain ⟨h0, h00, rvs, rest, h1, h2, h3⟩ := h; exact ⟨h0, h00, rvs, rest, VRl.mono hg es h1, hh.trans h2, h3⟩
  | tok g T k u => obtain ⟨h0, h2, cur, h3, h4⟩ := h; exact ⟨h0, h2, cur, hh.trans h3, h4⟩

structure HR (B : Nat → Nat → Prop) (w0 w : World) (h : Heap) (M : Mp) : Prop where
  below : Below w0.heap.size w0 w
  old : ∀ key blk, h key = some blk → w0.heap.size ≤ (M key).1
  inj : ∀ k1 k2 b1 b2, h k1 = some b1 → h k2 = some b2 → (M k1).1 = (M k2).1 → k1 = k2
  ok : ∀ key blk, h key = some blk → BlkOk (cx B w0.heap.size w h M) w (M key) blk

theorem BlkOk.cells {c : Cx} {w : World} {p : Nat × Nat} {blk : Blk} (h : BlkOk c w p blk) : ∃ cs T, w.heap[p.1]? = some (.cells cs T (0, 0)) := by
  cases blk with
  | var g T v => obtain ⟨_, rv, _, h2⟩ := h; exact ⟨_, _, h2⟩
  | fz g T v => obtain ⟨_, rv, _, h2⟩ := h; exact ⟨_, _, h2⟩
  | row g T k es => obtain ⟨_, _, rvs, rest, _, h2, _⟩ := h; exact ⟨_, _, h2⟩
  | tok g T k u => obtain ⟨_, _, cur, h3, _⟩ := h; exact ⟨_, _, h3⟩

theorem HR.lt {B : Nat → Nat → Prop} {w0 w : World} {h : Heap} {M : Mp} (H : HR B w0 w h M) {key : Nat} {blk : Blk} (hk : h key = some blk) : (M key).1 < w.heap.size := by
  obtain ⟨cs, T, hc⟩ := (H.ok key blk hk).cells
  exact (Array.getElem?_eq_some_iff.1 hc).1

theorem gr_of {B : Nat → Nat → Prop} {n0 : Nat} {w w' : World} {h h' : Heap} {M M' : Mp}
    (hcell : ∀ b i x, w.cell? ⟨b, i, none⟩ = some x → ¬ Mut h M b i → w'.cell? ⟨b, i, none⟩ = some x ∧ ¬ Mut h' M' b i)
    (hl : ∀ key blk, h key = some blk → ∃ blk', h' key = some blk' ∧ blk.g ≤ blk'.g ∧ (blk.g = blk'.g → blk.isTok = blk'.isTok ∧ blk.k = blk'.k ∧ blk.u ≤ blk'.u ∧ (blk.u = blk'.u → M key = M' key) ∧ (blk.isTok = false → blk.u = blk'.u))) :
    Gr (cx B n0 w h M) (cx B n0 w' h' M') where
  s b i x hx := ⟨(hcell b i x hx.1 hx.2.1).1, (hcell b i x hx.1 hx.2.1).2, hx.2.2⟩
  a b i x hx := hcell b i x hx.1 hx.2
  l key q hq := by
    simp only [cx, Lof, Option.map_eq_some_iff] at hq ⊢
    obtain ⟨blk, hk, rfl⟩ := hq
    obtain ⟨blk', h1, h2, h3⟩ := hl key blk hk
    refine ⟨_, ⟨blk', h1, rfl⟩, h2, fun e => ?_⟩
    obtain ⟨a1, a2, a3, a4, a5⟩ := h3 e
    exact ⟨a1, a2, a3, fun eu => by rw [a4 eu]; exact ⟨rfl, rfl⟩, a5⟩
  x y v hx := hx

def mset (M : Mp) (key : Nat) (p : Nat × Nat) : Mp := fun x => if x = key then p else M x

theorem nextG_lt {h : Heap} {key : Nat} {blk : Blk} (hk : h key = some blk) : blk.g < nextG h key := by simp [nextG, hk]

theorem gr_newkey {B : Nat → Nat → Prop} {w0 w w' : World} {h : Heap} {M : Mp} (H : HR B w0 w h M) (hb : Below w.heap.size w w') {key : Nat} {p : Nat × Nat} (hp : w.heap.size ≤ p.1) {blk : Blk} (hg : blk.g = nextG h key) :
    Gr (cx B w0.heap.size w h M) (cx B w0.heap.size w' (hset h key blk) (mset M key p)) := by
  refine gr_of (fun b i x hx hm => ?_) fun k2 b2 hk2 => ?_
  · have hlt : b < w.heap.size := World.block_lt_of_cell? w ⟨b, i, none⟩ hx
    refine ⟨(hb.cell (p := ⟨b, i, none⟩) hlt).trans hx, ?_⟩
    rintro ⟨k3, b3, h3, h4, h5⟩
    simp only [hset, mset] at h3 h4
    by_cases e : k3 = key
    · rw [if_pos e] at h4; omega
    · rw [if_neg e] at h3 h4; exact hm ⟨k3, b3, h3, h4, h5⟩
  · by_cases e : k2 = key
    · subst e
      have := nextG_lt hk2
      exact ⟨blk, by simp [hset], by omega, fun e => by omega⟩
    · exact ⟨b2, by simp [hset, e, hk2], Nat.le_refl _, fun _ => ⟨rfl, rfl, Nat.le_refl _, fun _ => by simp [mset, e], fun _ => rfl⟩⟩

/-- A new block at a key. -/
theorem HR.newkey' {B : Nat → Nat → Prop} {w0 w w' : World} {h : Heap} {M : Mp} (H : HR B w0 w h M) (hb : Below w.heap.size w w') {key : Nat} {p : Nat × Nat} (hp : w.heap.size ≤ p.1) {blk : Blk} (hg : blk.g = nextG h key)
    (hok : BlkOk (cx B w0.heap.size w' (hset h key blk) (mset M key p)) w' p blk) : HR B w0 w' (hset h key blk) (mset M key p) := by
  have hgr := gr_newkey (B := B) H hb (key := key) hp hg
  have hsz := H.below.size
  refine ⟨H.below.trans (hb.mono hsz), fun k2 b2 hk2 => ?_, fun k1 k2 b1 b2 h1 h2 he => ?_, fun k2 b2 hk2 => ?_⟩
  · simp only [hset, mset] at hk2 ⊢
    by_cases e : k2 = key
    · rw [if_pos e]; omega
    · rw [if_neg e] at hk2 ⊢; exact H.old _ _ hk2
  · simp only [hset, mset] at h1 h2 he
    by_cases e1 : k1 = key <;> by_cases e2 : k2 = key
    · rw [e1, e2]
    · rw [if_pos e1, if_neg e2] at he; rw [if_neg e2] at h2; have := H.lt h2; omega
    · rw [if_neg e1, if_pos e2] at he; rw [if_neg e1] at h1; have := H.lt h1; omega
    · rw [if_neg e1] at he h1; rw [if_neg e2] at he h2; exact H.inj _ _ _ _ h1 h2 he
  · by_cases e : k2 = key
    · subst e
      have : blk = b2 := by simpa [hset] using hk2
      subst this
      rw [show mset M k2 p k2 = p by simp [mset]]
      exact hok
    · have hk3 : h k2 = some b2 := by simpa [hset, e] using hk2
      rw [show mset M key p k2 = M k2 by simp [mset, e]]
      exact (H.ok _ _ hk3).mono hgr (hb.block _ (H.lt hk3))

theorem HR.newkey {B : Nat → Nat → Prop} {w0 w w' : World} {h : Heap} {M : Mp} (H : HR B w0 w h M) (hb : Below w.heap.size w w') {key : Nat} {p : Nat × Nat} (hp : w.heap.size ≤ p.1) {blk : Blk} (hg : blk.g = nextG h key)
    (hok : BlkOk (cx B w0.heap.size w h M) w' p blk) : HR B w0 w' (hset h key blk) (mset M key p) :=
  H.newkey' hb hp hg (hok.mono (gr_newkey H hb hp hg) rfl)

/-- A variable or row is written. -/
theorem gr_put {B : Nat → Nat → Prop} {w0 w w' : World} {h : Heap} {M : Mp} (H : HR B w0 w h M) {key : Nat} {blk blk' : Blk} (hk : h key = some blk) (ht : blk.isTok = false) (ht' : blk'.isTok = false)
    (hg : blk.g = blk'.g) (hkk : blk.k = blk'.k) (hb : ∀ b, b ≠ (M key).1 → w'.heap[b]? = w.heap[b]?) (hmu : ∀ i, blk.mutAt i := by intro i; trivial) :
    Gr (cx B w0.heap.size w h M) (cx B w0.heap.size w' (hset h key blk') M) := by
  have huu : ∀ b : Blk, b.isTok = false → b.u = 0 := by
    intro b hb; cases b <;> simp_all [Blk.u, Blk.isTok]
  refine gr_of (fun b i x hx hm => ?_) fun k2 b2 hk2 => ?_
  · have hne : b ≠ (M key).1 := fun e => hm ⟨key, blk, hk, e.symm, hmu i⟩
    refine ⟨by rw [← hx]; exact World.cell?_of_block (a := ⟨b, i, none⟩) (hb b hne), ?_⟩
    rintro ⟨k3, b3, h3, h4, h5⟩
    by_cases e : k3 = key
    · subst e; exact hne h4.symm
    · exact hm ⟨k3, b3, by simpa [hset, e] using h3, h4, h5⟩
  · by_cases e : k2 = key
    · subst e
      have : b2 = blk := by rw [hk] at hk2; exact (Option.some.inj hk2).symm
      subst this
      exact ⟨blk', by simp [hset], by omega, fun _ => ⟨by rw [ht, ht'], hkk, by rw [huu _ ht, huu _ ht']; exact Nat.le_refl _, fun _ => rfl, fun _ => by rw [huu _ ht, huu _ ht']⟩⟩
    · exact ⟨b2, by simp [hset, e, hk2], Nat.le_refl _, fun _ => ⟨rfl, rfl, Nat.le_refl _, fun _ => rfl, fun _ => rfl⟩⟩

theorem HR.put {B : Nat → Nat → Prop} {w0 w w' : World} {h : Heap} {M : Mp} (H : HR B w0 w h M) {key : Nat} {blk blk' : Blk} (hk : h key = some blk) (ht : blk.isTok = false) (ht' : blk'.isTok = false)
    (hg : blk.g = blk'.g) (hkk : blk.k = blk'.k) (hb : ∀ b, b ≠ (M key).1 → w'.heap[b]? = w.heap[b]?) (hos : w'.os = w.os) (htp : w'.tape = w.tape) (hou : w'.output = w.output) (hsz : w.heap.size ≤ w'.heap.size)
    (hok : BlkOk (cx B w0.heap.size w h M) w' (M key) blk') (hmu : ∀ i, blk.mutAt i := by intro i; trivial) : HR B w0 w' (hset h key blk') M := by
  have hgr := gr_put (B := B) H hk ht ht' hg hkk hb hmu
  have ho := H.old _ _ hk
  refine ⟨H.below.trans ⟨hos, htp, hou, hsz, fun k hk' => hb k (by omega)⟩, fun k2 b2 hk2 => ?_, fun k1 k2 b1 b2 h1 h2 he => ?_, fun k2 b2 hk2 => ?_⟩
  · by_cases e : k2 = key
    · subst e; exact ho
    · exact H.old _ _ (by simpa [hset, e] using hk2)
  · have f : ∀ k b, hset h key blk' k = some b → ∃ b', h k = some b' := by
      intro k b hh
      by_cases e : k = key
      · exact ⟨blk, e ▸ hk⟩
      · exact ⟨b, by simpa [hset, e] using hh⟩
    obtain ⟨_, g1⟩ := f _ _ h1
    obtain ⟨_, g2⟩ := f _ _ h2
    exact H.inj _ _ _ _ g1 g2 he
  · by_cases e : k2 = key
    · subst e
      have : blk' = b2 := by simpa [hset] using hk2
      subst this
      exact hok.mono hgr rfl
    · have hk3 : h k2 = some b2 := by simpa [hset, e] using hk2
      exact (H.ok _ _ hk3).mono hgr (hb _ fun e2 => e (H.inj _ _ _ _ hk3 hk e2))

/-- A variable that is not written any more. -/
theorem gr_fz {B : Nat → Nat → Prop} {w0 w : World} {h : Heap} {M : Mp} {key g T : Nat} {v : AV} (hk : h key = some (.var g T v)) :
    Gr (cx B w0.heap.size w h M) (cx B w0.heap.size w (hset h key (.fz g T v)) M) := by
  refine gr_of (fun b i x hx hm => ⟨hx, ?_⟩) fun k2 b2 hk2 => ?_
  · rintro ⟨k3, b3, h3, h4, h5⟩
    by_cases e : k3 = key
    · subst e
      have : Blk.fz g T v = b3 := by simpa [hset] using h3
      subst this
      exact h5
    · exact hm ⟨k3, b3, by simpa [hset, e] using h3, h4, h5⟩
  · by_cases e : k2 = key
    · subst e
      have : b2 = .var g T v := by rw [hk] at hk2; exact (Option.some.inj hk2).symm
      subst this
      exact ⟨.fz g T v, by simp [hset], Nat.le_refl _, fun _ => ⟨rfl, rfl, Nat.le_refl _, fun _ => rfl, fun _ => rfl⟩⟩
    · exact ⟨b2, by simp [hset, e, hk2], Nat.le_refl _, fun _ => ⟨rfl, rfl, Nat.le_refl _, fun _ => rfl, fun _ => rfl⟩⟩
theorem HR.fz {B : Nat → Nat → Prop} {w0 w : World} {h : Heap} {M : Mp} (H : HR B w0 w h M) {key g T : Nat} {v : AV} (hk : h key = some (.var g T v)) : HR B w0 w (hset h key (.fz g T v)) M := by
  have hgr := gr_fz (B := B) (w0 := w0) (w := w) (M := M) hk
  refine ⟨H.below, fun k2 b2 hk2 => ?_, fun k1 k2 b1 b2 h1 h2 he => ?_, fun k2 b2 hk2 => ?_⟩
  · by_cases e : k2 = key
    · subst e; exact H.old _ _ hk
    · exact H.old _ _ (by simpa [hset, e] using hk2)
  · have f : ∀ k b, hset h key (.fz g T v) k = some b → ∃ b', h k = some b' := by
      intro k b hh
      by_cases e : k = key
      · exact ⟨_, e ▸ hk⟩
      · exact ⟨b, by simpa [hset, e] using hh⟩
    obtain ⟨_, g1⟩ := f _ _ h1
    obtain ⟨_, g2⟩ := f _ _ h2
    exact H.inj _ _ _ _ g1 g2 he
  · by_cases e : k2 = key
    · subst e
      have : Blk.fz g T v = b2 := by simpa [hset] using hk2
      subst this
      have h9 := H.ok _ _ hk
      exact BlkOk.mono (blk := .fz g T v) hgr rfl h9
    · have hk3 : h k2 = some b2 := by simpa [hset, e] using hk2
      exact (H.ok _ _ hk3).mono hgr rfl

/-- A row that grows by append. -/
theorem gr_tok {B : Nat → Nat → Prop} {w0 w w' : World} {h : Heap} {M : Mp} (H : HR B w0 w h M) {key g T k u u' : Nat} (hk : h key = some (.tok g T k u)) (hu : u < u')
    (hb : ∀ b, b < w.heap.size → b ≠ (M key).1 → w'.heap[b]? = w.heap[b]?) {p : Nat × Nat} (hp : p.1 = (M key).1 ∨ w.heap.size ≤ p.1)
    (hc : ∀ i x, i < u * k → w.cell? ⟨(M key).1, i, none⟩ = some x → w'.cell? ⟨(M key).1, i, none⟩ = some x) :
    Gr (cx B w0.heap.size w h M) (cx B w0.heap.size w' (hset h key (.tok g T k u')) (mset M key p)) := by
  refine gr_of (fun b i x hx hm => ?_) fun k2 b2 hk2 => ?_
  · have hlt : b < w.heap.size := World.block_lt_of_cell? w ⟨b, i, none⟩ hx
    by_cases hbe : b = (M key).1
    · have hi : i < u * k := by
        rcases Nat.lt_or_ge i (u * k) with h1 | h1
        · exact h1
        · exact (hm ⟨key, _, hk, hbe.symm, h1⟩).elim
      refine ⟨by rw [hbe] at hx ⊢; exact hc i x hi hx, ?_⟩
      rintro ⟨k3, b3, h3, h4, h5⟩
      by_cases e : k3 = key
      · subst e
        have : Blk.tok g T k u' = b3 := by simpa [hset] using h3
        subst this
        have : u * k ≤ u' * k := Nat.mul_le_mul_right _ (by omega)
        simp only [Blk.mutAt] at h5
        omega
      · exact hm ⟨k3, b3, by simpa [hset, e] using h3, by simpa [mset, e] using h4, h5⟩
    · refine ⟨by rw [← hx]; exact World.cell?_of_block (a := ⟨b, i, none⟩) (hb b hlt hbe), ?_⟩
      rintro ⟨k3, b3, h3, h4, h5⟩
      by_cases e : k3 = key
      · subst e
        simp only [mset, if_true] at h4
        rcases hp with hp | hp <;> omega
      · exact hm ⟨k3, b3, by simpa [hset, e] using h3, by simpa [mset, e] using h4, h5⟩
  · by_cases e : k2 = key
    · subst e
      have : b2 = .tok g T k u := by rw [hk] at hk2; exact (Option.some.inj hk2).symm
      subst this
      exact ⟨.tok g T k u', by simp [hset], Nat.le_refl _, fun _ => ⟨rfl, rfl, by simp only [Blk.u]; omega, fun e => by simp only [Blk.u] at e; omega, fun e => by simp [Blk.isTok] at e⟩⟩
    · exact ⟨b2, by simp [hset, e, hk2], Nat.le_refl _, fun _ => ⟨rfl, rfl, Nat.le_refl _, fun _ => by simp [mset, e], fun _ => rfl⟩⟩

theorem HR.tok {B : Nat → Nat → Prop} {w0 w w' : World} {h : Heap} {M : Mp} (H : HR B w0 w h M) {key g T k u u' : Nat} (hk : h key = some (.tok g T k u)) (hu : u < u')
    (hb : ∀ b, b < w.heap.size → b ≠ (M key).1 → w'.heap[b]? = w.heap[b]?) {p : Nat × Nat} (hp : p.1 = (M key).1 ∨ w.heap.size ≤ p.1)
    (hc : ∀ i x, i < u * k → w.cell? ⟨(M key).1, i, none⟩ = some x → w'.cell? ⟨(M key).1, i, none⟩ = some x)
    (hos : w'.os = w.os) (htp : w'.tape = w.tape) (hou : w'.output = w.output) (hsz : w.heap.size ≤ w'.heap.size)
    (hok : BlkOk (cx B w0.heap.size w h M) w' p (.tok g T k u')) : HR B w0 w' (hset h key (.tok g T k u')) (mset M key p) := by
  have hgr := gr_tok (B := B) H hk hu hb hp hc
  have ho := H.old _ _ hk
  have hs0 := H.below.size
  refine ⟨H.below.trans ⟨hos, htp, hou, hsz, fun k hk' => hb k (by omega) (by omega)⟩, fun k2 b2 hk2 => ?_, fun k1 k2 b1 b2 h1 h2 he => ?_, fun k2 b2 hk2 => ?_⟩
  · by_cases e : k2 = key
    · subst e; simp only [mset, if_true]; rcases hp with hp | hp <;> omega
    · simp only [mset, if_neg e]; exact H.old _ _ (by simpa [hset, e] using hk2)
  · by_cases e1 : k1 = key <;> by_cases e2 : k2 = key
    · rw [e1, e2]
    · have g2 : h k2 = some b2 := by simpa [hset, e2] using h2
      have := H.lt g2
      simp only [mset, if_pos e1, if_neg e2] at he
      rcases hp with hp | hp
      · exact e1.trans (H.inj _ _ _ _ hk g2 (hp ▸ he))
      · omega
    · have g1 : h k1 = some b1 := by simpa [hset, e1] using h1
      have := H.lt g1
      simp only [mset, if_neg e1, if_pos e2] at he
      rcases hp with hp | hp
      · exact (H.inj _ _ _ _ g1 hk (hp ▸ he)).trans e2.symm
      · omega
    · simp only [mset, if_neg e1, if_neg e2] at he
      exact H.inj _ _ _ _ (by simpa [hset, e1] using h1) (by simpa [hset, e2] using h2) he
  · by_cases e : k2 = key
    · subst e
      have : Blk.tok g T k u' = b2 := by simpa [hset] using hk2
      subst this
      rw [show mset M k2 p k2 = p by simp [mset]]
      exact hok.mono hgr rfl
    · have hk3 : h k2 = some b2 := by simpa [hset, e] using hk2
      rw [show mset M key p k2 = M k2 by simp [mset, e]]
      exact (H.ok _ _ hk3).mono hgr (hb _ (H.lt hk3) fun e2 => e (H.inj _ _ _ _ hk3 hk e2))

/-- A row that is given up: only what its block holds below the mark stays. -/
theorem gr_up {B : Nat → Nat → Prop} {w0 w w' : World} {h : Heap} {M : Mp} (H : HR B w0 w h M) {key : Nat} {blk blk' : Blk} (hk : h key = some blk) (ht : ∀ i, blk.mutAt i) (hg : blk.g < blk'.g)
    (hb : ∀ b, b < w.heap.size → b ≠ (M key).1 → w'.heap[b]? = w.heap[b]?) {p : Nat × Nat} (hp : p.1 = (M key).1 ∨ w.heap.size ≤ p.1) :
    Gr (cx B w0.heap.size w h M) (cx B w0.heap.size w' (hset h key blk') (mset M key p)) := by
  refine gr_of (fun b i x hx hm => ?_) fun k2 b2 hk2 => ?_
  · have hlt : b < w.heap.size := World.block_lt_of_cell? w ⟨b, i, none⟩ hx
    have hne : b ≠ (M key).1 := fun e => hm ⟨key, blk, hk, e.symm, ht i⟩
    refine ⟨by rw [← hx]; exact World.cell?_of_block (a := ⟨b, i, none⟩) (hb b hlt hne), ?_⟩
    rintro ⟨k3, b3, h3, h4, h5⟩
    by_cases e : k3 = key
    · subst e
      simp only [mset, if_true] at h4
      rcases hp with hp | hp <;> omega
    · exact hm ⟨k3, b3, by simpa [hset, e] using h3, by simpa [mset, e] using h4, h5⟩
  · by_cases e : k2 = key
    · subst e
      have : b2 = blk := by rw [hk] at hk2; exact (Option.some.inj hk2).symm
      subst this
      exact ⟨blk', by simp [hset], by omega, fun e => by omega⟩
    · exact ⟨b2, by simp [hset, e, hk2], Nat.le_refl _, fun _ => ⟨rfl, rfl, Nat.le_refl _, fun _ => by simp [mset, e], fun _ => rfl⟩⟩

theorem HR.up {B : Nat → Nat → Prop} {w0 w w' : World} {h : Heap} {M : Mp} (H : HR B w0 w h M) {key : Nat} {blk blk' : Blk} (hk : h key = some blk) (ht : ∀ i, blk.mutAt i) (hg : blk.g < blk'.g)
    (hb : ∀ b, b < w.heap.size → b ≠ (M key).1 → w'.heap[b]? = w.heap[b]?) {p : Nat × Nat} (hp : p.1 = (M key).1 ∨ w.heap.size ≤ p.1)
    (hos : w'.os = w.os) (htp : w'.tape = w.tape) (hou : w'.output = w.output) (hsz : w.heap.size ≤ w'.heap.size)
    (hok : BlkOk (cx B w0.heap.size w h M) w' p blk') : HR B w0 w' (hset h key blk') (mset M key p) := by
  have hgr := gr_up (B := B) H hk ht hg hb hp
  have ho := H.old _ _ hk
  have hs0 := H.below.size
  refine ⟨H.below.trans ⟨hos, htp, hou, hsz, fun k hk' => hb k (by omega) (by omega)⟩, fun k2 b2 hk2 => ?_, fun k1 k2 b1 b2 h1 h2 he => ?_, fun k2 b2 hk2 => ?_⟩
  · by_cases e : k2 = key
    · subst e; simp only [mset, if_true]; rcases hp with hp | hp <;> omega
    · simp only [mset, if_neg e]; exact H.old _ _ (by simpa [hset, e] using hk2)
  · by_cases e1 : k1 = key <;> by_cases e2 : k2 = key
    · rw [e1, e2]
    · have g2 : h k2 = some b2 := by simpa [hset, e2] using h2
      have := H.lt g2
      simp only [mset, if_pos e1, if_neg e2] at he
      rcases hp with hp | hp
      · exact e1.trans (H.inj _ _ _ _ hk g2 (hp ▸ he))
      · omega
    · have g1 : h k1 = some b1 := by simpa [hset, e1] using h1
      have := H.lt g1
      simp only [mset, if_neg e1, if_pos e2] at he
      rcases hp with hp | hp
      · exact (H.inj _ _ _ _ g1 hk (hp ▸ he)).trans e2.symm
      · omega
    · simp only [mset, if_neg e1, if_neg e2] at he
      exact H.inj _ _ _ _ (by simpa [hset, e1] using h1) (by simpa [hset, e2] using h2) he
  · by_cases e : k2 = key
    · subst e
      have : blk' = b2 := by simpa [hset] using hk2
      subst this
      rw [show mset M k2 p k2 = p by simp [mset]]
      exact hok.mono hgr rfl
    · have hk3 : h k2 = some b2 := by simpa [hset, e] using hk2
      rw [show mset M key p k2 = M k2 by simp [mset, e]]
      exact (H.ok _ _ hk3).mono hgr (hb _ (H.lt hk3) fun e2 => e (H.inj _ _ _ _ hk3 hk e2))

/-- The world has grown; nothing that was there has turned. -/
theorem gr_world {B : Nat → Nat → Prop} {n0 : Nat} {w w' : World} {h : Heap} {M : Mp} (hb : Below w.heap.size w w') : Gr (cx B n0 w h M) (cx B n0 w' h M) := by
  refine gr_of (fun b i x hx hm => ⟨(hb.cell (p := ⟨b, i, none⟩) (World.block_lt_of_cell? w ⟨b, i, none⟩ hx)).trans hx, hm⟩) fun k2 b2 hk2 => ?_
  exact ⟨b2, hk2, Nat.le_refl _, fun _ => ⟨rfl, rfl, Nat.le_refl _, fun _ => rfl, fun _ => rfl⟩⟩
theorem HR.world {B : Nat → Nat → Prop} {w0 w w' : World} {h : Heap} {M : Mp} (H : HR B w0 w h M) (hb : Below w.heap.size w w') : HR B w0 w' h M :=
  ⟨H.below.trans (hb.mono H.below.size), H.old, H.inj, fun k2 b2 hk2 => (H.ok _ _ hk2).mono (gr_world hb) (hb.block _ (H.lt hk2))⟩

theorem HR.start (B : Nat → Nat → Prop) (w : World) (M : Mp) : HR B w w hnil M :=
  ⟨Below.refl _ _, fun _ _ h => by simp [hnil] at h, fun _ _ _ _ h => by simp [hnil] at h, fun _ _ h => by simp [hnil] at h⟩

end Go.Proofs.YtlglhokpaplifaaGreatDoor.Ev
/- Reading, writing and addresses: what the evaluator says is what the machine does. Conditions: none. -/
namespace Go.Proofs.YtlglhokpaplifaaGreatDoor.Ev
open Go.RowKit
set_option linter.unusedVariables false
set_option linter.unusedSimpArgs false
set_option linter.unusedSectionVars false

structure EnvOk (E : Env) (P : Program) : Prop where
  ty : ∀ t, E.ty t ≠ .other → ∃ d, P.underlying t = some d ∧ TD.of d = E.ty t
  size : ∀ t, E.size t ≠ 0 → ∃ i z, P.info? t = some i ∧ i.size = E.size t ∧ i.bytes ≤ 131072 ∧ i.zero = some z ∧ (∀ c, VR (E.zero t) c z) ∧
    (E.zero t).cells.length = E.size t ∧ (E.zero t).cells.all AV.one = true
  cmp : ∀ t, E.cmp t = true → P.stoodInHeld t = false ∧ P.eqGuardType P.depth t = false ∧ ∀ f ∈ (P.fieldsOf t).toList, f.name ≠ "_"

theorem gr_ela (B : Nat → Nat → Prop) (n0 : Nat) (w : World) (h : Heap) (M : Mp) : Gr (cx B n0 w h M).ela (cx B n0 w h M) :=
  ⟨fun _ _ _ x => x, fun _ _ _ x => x, fun _ _ hq => by simp [Cx.ela] at hq, fun _ _ hx => hx.elim⟩
theorem gr_el_ela (B : Nat → Nat → Prop) (n0 : Nat) (w : World) (h : Heap) (M : Mp) : Gr (cx B n0 w h M).el (cx B n0 w h M).ela :=
  ⟨fun _ _ _ x => x, fun _ _ _ x => ⟨x.1, x.2.1⟩, fun _ _ hq => by simp [Cx.el] at hq, fun _ _ hx => hx.elim⟩
theorem gr_el (B : Nat → Nat → Prop) (n0 : Nat) (w : World) (h : Heap) (M : Mp) : Gr (cx B n0 w h M).el (cx B n0 w h M) :=
  ⟨fun _ _ _ x => x, fun _ _ _ x => ⟨x.1, x.2.1⟩, fun _ _ hq => by simp [Cx.el] at hq, fun _ _ hx => hx.elim⟩
theorem gr_elb (B : Nat → Nat → Prop) (n0 : Nat) (w : World) (h : Heap) (M : Mp) (br : Bool) : Gr ((cx B n0 w h M).elb br) (cx B n0 w h M) := by
  cases br
  · exact gr_el ..
  · exact gr_ela ..
theorem gr_el_elb (B : Nat → Nat → Prop) (n0 : Nat) (w : World) (h : Heap) (M : Mp) (br : Bool) : Gr (cx B n0 w h M).el ((cx B n0 w h M).elb br) := by
  cases br
  · exact Gr.refl _
  · exact gr_el_ela ..

theorem elb_x (B : Nat → Nat → Prop) (n0 : Nat) (w : World) (h : Heap) (M : Mp) (br : Bool) : ∀ y v, ¬ ((cx B n0 w h M).elb br).x y v := by cases br <;> exact fun _ _ hx => hx
theorem VR.cells_of {c : Cx} (hx : ∀ y v, ¬ c.x y v) {v : AV} {rv : Value} (h : VR v c rv) (hl : rv.cells.size = v.cells.length) : VRl v.cells c rv.cells.toList := by
  cases v with
  | agg cs =>
    simp only [VR] at h
    obtain ⟨rc, rfl, h2⟩ := h
    simpa [AV.cells, Value.cells] using h2
  | un =>
    simp only [AV.cells, List.length_cons, List.length_nil] at hl ⊢
    have : ∃ x, rv.cells.toList = [x] := List.length_eq_one_iff.1 (by simpa using hl)
    obtain ⟨x, hx⟩ := this
    rw [hx]
    simp [VRl, VR]
  | tup vs =>
    have h' := h
    simp only [VR] at h
    obtain ⟨rc, rfl, h2⟩ := h
    simp only [AV.cells, Value.cells, VRl]
    exact ⟨_, [], rfl, h', rfl⟩
  | ud =>
    have h' := h
    simp only [VR] at h
    subst h
    simp only [AV.cells, undef, Value.cells, VRl]
    exact ⟨_, [], rfl, h', rfl⟩
  | _ =>
    have := (VR.one hx h rfl).2
    rw [this]
    simp only [AV.cells, VRl]
    exact ⟨_, [], rfl, h, rfl⟩

theorem VR.cells_one {c : Cx} (hx : ∀ y v, ¬ c.x y v) {v : AV} {rv : Value} (h : VR v c rv) (ho : v.cells.all AV.one = true) : VRl v.cells c rv.cells.toList := by
  refine VR.cells_of hx h ?_
  cases v with
  | agg cs =>
    simp only [VR] at h
    obtain ⟨rc, rfl, h2⟩ := h
    simpa [AV.cells, Value.cells] using h2.length
  | un => simp [AV.cells, AV.one] at ho
  | tup => simp [AV.cells, AV.one] at ho
  | ud => simp [AV.cells, AV.one] at ho
  | _ => rw [(VR.one hx h rfl).2]; rfl

theorem VRl.all_one {c : Cx} (hx : ∀ y v, ¬ c.x y v) : ∀ {vs : List AV} {rs : List Value}, VRl vs c rs → vs.all AV.one = true → ∀ r ∈ rs, r.oneCell' = true
  | [], _, h, _, r, hr => by simp only [VRl] at h; subst h; simp at hr
  | x :: xs, _, h, ho, r, hr => by
    simp only [VRl] at h
    obtain ⟨v, ws, rfl, h1, h2⟩ := h
    simp only [List.all_cons, Bool.and_eq_true] at ho
    rcases List.mem_cons.1 hr with e | e
    · subst e; exact (VR.one hx h1 ho.1).1
    · exact VRl.all_one hx h2 ho.2 r e

theorem td_agg {d : TypeDesc} {b : Bool} (h : (TD.of d).agg? = some b) : (match d with | .struct _ => true | .array _ _ => true | _ => false) = b := by
  cases d <;> cases b <;> first | rfl | (simp [TD.of, TD.agg?] at h)

section
variable {P : Program} {E : Env} (hE : EnvOk E P)
include hE

theorem run_isAgg (w : World) {t : Nat} {b : Bool} (h : (E.ty t).agg? = some b) : (isAgg t).run P w = .ok b w := by
  obtain ⟨d, h1, h2⟩ := hE.ty t (by intro e; rw [e] at h; simp [TD.agg?] at h)
  rw [← h2] at h
  have := td_agg h
  simp only [isAgg, Sem.run_bind, run_underlying h1, Result.andThen_ok]
  cases d <;> simp_all

theorem run_sizeOf (w : World) {t : Nat} (h : E.size t ≠ 0) : (sizeOf t).run P w = .ok (E.size t) w := by
  obtain ⟨i, z, h1, h2, _⟩ := hE.size t h
  simp [sizeOf, typeInfo, h1, h2]

theorem run_part (w : World) {c : Cx} {t : Nat} {cs : List AV} {off : Nat} {v : AV} {rcs : List Value} (hp : partOf E t cs off = some v) (hv : VRl cs c rcs)
    {b o : Nat} (hc : ∀ j x, rcs[j]? = some x → w.cell? ⟨b, o + j, none⟩ = some x) : ∃ rv, (loadVar t ⟨b, o + off, none⟩).run P w = .ok rv w ∧ VR v c rv := by
  unfold partOf at hp
  cases ha : (E.ty t).agg? with
  | none => rw [ha] at hp; cases hp
  | some ag =>
    rw [ha] at hp
    cases ag with
    | true =>
      simp only at hp
      split at hp
      · rename_i hs
        obtain rfl := Option.some.inj hp
        have hlen : ((rcs.drop off).take (E.size t)).length = E.size t := by rw [List.length_take, List.length_drop, hv.length]; omega
        have hl := run_loadCells_list (P := P) w ⟨b, o + off, none⟩ ((rcs.drop off).take (E.size t)) (fun j x hx => by
          rw [Addr.add_lit]
          rw [List.getElem?_take] at hx
          split at hx
          · rw [List.getElem?_drop] at hx
            rw [Nat.add_assoc]
            exact hc _ _ hx
          · cases hx)
        rw [hlen] at hl
        refine ⟨.agg ((rcs.drop off).take (E.size t)).toArray, ?_, ?_⟩
        · simp only [loadVar, Sem.run_bind, run_isAgg hE w ha, Result.andThen_ok, if_true, run_sizeOf hE w hs.1, hl, Sem.run_pure]
        · simp only [VR]; exact ⟨_, rfl, (hv.drop off).take _⟩
      · cases hp
    | false =>
      simp only at hp
      obtain ⟨r, hr, hvr⟩ := hv.get off v hp
      refine ⟨r, ?_, hvr⟩
      simp only [loadVar, Sem.run_bind, run_isAgg hE w ha, Result.andThen_ok, Bool.false_eq_true, if_false]
      have := hc _ _ hr
      simp [run_load, this]
end

theorem cx_x (B : Nat → Nat → Prop) (n0 : Nat) (w : World) (h : Heap) (M : Mp) : ∀ y v, ¬ (cx B n0 w h M).x y v := fun _ _ hx => hx
theorem cx_l {B : Nat → Nat → Prop} {n0 : Nat} {w : World} {h : Heap} {M : Mp} {key : Nat} {blk : Blk} (hk : h key = some blk) {q : LB} (hq : (cx B n0 w h M).l key = some q) :
    q = ⟨blk.isTok, blk.g, blk.u, blk.k, (M key).1, (M key).2⟩ := by
  simp only [cx, Lof, hk, Option.map_some, Option.some.injEq] at hq
  exact hq.symm

theorem splice_list {α : Type} (X R Y xs : List α) (off : Nat) (h : off + xs.length ≤ R.length) :
    (X ++ R ++ Y).take (X.length + off) ++ xs ++ (X ++ R ++ Y).drop (X.length + off + xs.length) = X ++ (R.take off ++ xs ++ R.drop (off + xs.length)) ++ Y := by
  have h1 : (X ++ R ++ Y).take (X.length + off) = X ++ R.take off := by
    rw [List.append_assoc, List.take_append, List.take_append]
    have a : X.take (X.length + off) = X := List.take_of_length_le (by omega)
    have b : X.length + off - X.length = off := by omega
    have c : off - R.length = 0 := by omega
    rw [a, b, c]
    simp
  have h2 : (X ++ R ++ Y).drop (X.length + off + xs.length) = R.drop (off + xs.length) ++ Y := by
    rw [List.append_assoc, List.drop_append, List.drop_append]
    have a : X.drop (X.length + off + xs.length) = [] := List.drop_of_length_le (by omega)
    have b : X.length + off + xs.length - X.length = off + xs.length := by omega
    have c : off + xs.length - R.length = 0 := by omega
    rw [a, b, c]
    simp
  rw [h1, h2]
  simp [List.append_assoc]

theorem one_cells {x : AV} (h : x.one = true) : x.cells = [x] := by
  cases x <;> first | rfl | (simp [AV.one] at h)

theorem putCells_ok {c : Cx} (hx : ∀ y v, ¬ c.x y v) {old x v' : AV} {off : Nat} (hp : putCells old off x = some v') (ho : old.cells.all AV.one = true) {r0 rx : Value} (h0 : VR old c r0) (h1 : VR x c rx) :
    ∃ rv', VR v' c rv' ∧ rv'.cells.toList = r0.cells.toList.take off ++ rx.cells.toList ++ r0.cells.toList.drop (off + rx.cells.toList.length) ∧ off + rx.cells.toList.length ≤ r0.cells.toList.length ∧
      v'.cells.all AV.one = true ∧ v'.cells.length = old.cells.length ∧ rx.cells.toList.length = x.cells.length ∧ (∀ r ∈ rx.cells.toList, r.oneCell' = true) := by
  unfold putCells at hp
  split at hp
  · rename_i hone
    have hxc := VR.cells_one hx h1 hone
    have h0c := VR.cells_one hx h0 ho
    have hxl := hxc.length
    have h0l := h0c.length
    have hall := VRl.all_one hx hxc hone
    cases old with
    | agg cs =>
      simp only at hp
      split at hp
      · rename_i hle
        obtain rfl := Option.some.inj hp
        simp only [AV.cells] at h0c h0l ho
        refine ⟨.agg (r0.cells.toList.take off ++ rx.cells.toList ++ r0.cells.toList.drop (off + rx.cells.toList.length)).toArray, ?_, by simp [Value.cells], by omega, ?_, ?_, hxl, hall⟩
        · simp only [VR]
          refine ⟨_, rfl, ?_⟩
          rw [hxl]
          exact ((h0c.take off).append hxc).append (h0c.drop _)
        · simp only [AV.cells, List.all_append, Bool.and_eq_true]
          refine ⟨⟨?_, hone⟩, ?_⟩
          · rw [List.all_eq_true] at ho ⊢; exact fun y hy => ho y (List.mem_of_mem_take hy)
          · rw [List.all_eq_true] at ho ⊢; exact fun y hy => ho y (List.mem_of_mem_drop hy)
        · show List.length (_ ++ _ ++ _) = cs.length
          simp only [List.length_append, List.length_take, List.length_drop]; omega
      · cases hp
    | _ =>
      simp only at hp
      split at hp
      · rename_i hc
        obtain rfl := Option.some.inj hp
        have hr0 := (VR.one hx h0 hc.1).2
        have hrx := (VR.one hx h1 hc.2.2).2
        have hco := one_cells hc.2.2
        refine ⟨rx, h1, ?_, ?_, hone, ?_, hxl, hall⟩
        · rw [hr0, hrx, hc.2.1]; rfl
        · rw [hr0, hrx, hc.2.1]; simp
        · rw [hco]; rfl
      · cases hp
  · cases hp

theorem flatC_length {rvs : List Value} {k : Nat} (h : ∀ r ∈ rvs, r.cells.size = k) : (flatC rvs).length = rvs.length * k := by
  induction rvs with
  | nil => simp [flatC]
  | cons r rs ih =>
    have h1 : (flatC (r :: rs)) = r.cells.toList ++ flatC rs := rfl
    rw [h1, List.length_append, ih fun x hx => h x (by simp [hx]), List.length_cons, Array.length_toList, h r (by simp), Nat.add_mul]
    omega
theorem flatC_append (A C : List Value) : flatC (A ++ C) = flatC A ++ flatC C := by simp [flatC]
theorem flatC_get {rvs : List Value} {k : Nat} (h : ∀ r ∈ rvs, r.cells.size = k) {i : Nat} {r : Value} (hi : rvs[i]? = some r) {j : Nat} {x : Value} (hj : r.cells.toList[j]? = some x) (rest : List Value) :
    (flatC rvs ++ rest)[i * k + j]? = some x := by
  obtain ⟨hlt, rfl⟩ := List.getElem?_eq_some_iff.1 hi
  have hsp : rvs = rvs.take i ++ rvs[i] :: rvs.drop (i + 1) := by simp
  have hl : (flatC (rvs.take i)).length = i * k := by
    rw [flatC_length (k := k) fun r hr => h r (List.mem_of_mem_take hr), List.length_take, Nat.min_eq_left (by omega)]
  have hjl : j < rvs[i].cells.toList.length := (List.getElem?_eq_some_iff.1 hj).1
  have e : flatC rvs = flatC (rvs.take i) ++ (rvs[i].cells.toList ++ flatC (rvs.drop (i + 1))) := by
    conv => lhs; rw [hsp]
    rw [flatC_append]; rfl
  rw [e, List.append_assoc, List.getElem?_append_right (by omega), List.append_assoc, List.getElem?_append_left (by omega), hl, Nat.add_sub_cancel_left]
  exact hj

theorem VRl.sizes {c : Cx} (hx : ∀ y v, ¬ c.x y v) {k : Nat} : ∀ {es : List AV} {rvs : List Value}, VRl es c rvs → (∀ e ∈ es, e.cells.length = k ∧ e.cells.all AV.one = true) → ∀ r ∈ rvs, r.cells.size = k
  | [], _, h, _, r, hr => by simp only [VRl] at h; subst h; simp at hr
  | e :: es, _, h, he, r, hr => by
    simp only [VRl] at h
    obtain ⟨v, ws, rfl, h1, h2⟩ := h
    rcases List.mem_cons.1 hr with q | q
    · subst q
      have := (VR.cells_one hx h1 (he e (by simp)).2).length
      rw [Array.length_toList] at this
      rw [this]
      exact (he e (by simp)).1
    · exact VRl.sizes hx h2 (fun e' h' => he e' (by simp [h'])) r q

section
variable {P : Program} {E : Env} (hE : EnvOk E P) {B : Nat → Nat → Prop} {w0 w : World} {h : Heap} {M : Mp} (H : HR B w0 w h M)
include hE H

theorem run_loadV {t : Nat} {p v : AV} {rp : Value} (hl : loadV E h t p = some v) (hp : VR p (cx B w0.heap.size w h M) rp) :
    ∃ rv, (Instr.loadAt t rp).run P w = .ok rv w ∧ VR v (cx B w0.heap.size w h M) rv := by
  have hx := cx_x B w0.heap.size w h M
  unfold loadV at hl
  cases p with
  | vp key g off =>
    simp only at hl
    cases hk : h key with
    | none => rw [hk] at hl; cases hl
    | some blk =>
      rw [hk] at hl
      cases blk with
      | var g' T v0 =>
        simp only at hl
        split at hl
        · rename_i hg
          simp only [VR] at hp
          obtain ⟨a, rfl, q, hq, _, h3⟩ := hp
          have hq' := cx_l hk hq
          subst hq'
          obtain ⟨_, rfl⟩ := h3 hg
          obtain ⟨hone, rv, hv, hh⟩ := H.ok _ _ hk
          obtain ⟨r, hr, hvr⟩ := run_part hE w hl (VR.cells_one hx hv hone) (b := (M key).1) (o := 0) (fun j x hj => by
            rw [cell_of_row w _ _ _ _ _ hh]
            simpa using hj)
          rw [Nat.zero_add] at hr
          exact ⟨r, by simp [Instr.loadAt, Instr.sureAddr, hr], hvr⟩
        · cases hl
      | row => cases hl
      | tok => cases hl
      | fz g' T v0 =>
        simp only at hl
        split at hl
        · rename_i hg
          simp only [VR] at hp
          obtain ⟨a, rfl, q, hq, _, h3⟩ := hp
          have hq' := cx_l hk hq
          subst hq'
          obtain ⟨_, rfl⟩ := h3 hg
          obtain ⟨hone, rv, hv, hh⟩ := H.ok _ _ hk
          obtain ⟨r, hr, hvr⟩ := run_part hE w hl (VR.cells_one hx hv hone) (b := (M key).1) (o := 0) (fun j x hj => by
            rw [cell_of_row w _ _ _ _ _ hh]
            simpa using hj)
          rw [Nat.zero_add] at hr
          exact ⟨r, by simp [Instr.loadAt, Instr.sureAddr, hr], hvr⟩
        · cases hl
  | rp key g i off =>
    simp only at hl
    cases hk : h key with
    | none => rw [hk] at hl; cases hl
    | some blk =>
      rw [hk] at hl
      cases blk with
      | row g' T k es =>
        simp only at hl
        split at hl
        · rename_i hg
          rw [Option.bind_eq_some_iff] at hl
          obtain ⟨e, he, hl⟩ := hl
          simp only [VR] at hp
          obtain ⟨a, rfl, q, hq, _, h3⟩ := hp
          have hq' := cx_l hk hq
          subst hq'
          obtain ⟨_, rfl⟩ := h3 hg
          obtain ⟨hk0, hall, rvs, rest, hv, hh, hlenk, hmaxk⟩ := H.ok _ _ hk
          obtain ⟨re, hre, hve⟩ := hv.get i e he
          have hsz := VRl.sizes hx hv hall
          obtain ⟨r, hr, hvr⟩ := run_part hE w hl (VR.cells_one hx hve (hall e (List.mem_of_getElem? he)).2) (b := (M key).1) (o := i * k) (fun j x hj => by
            rw [cell_of_row w _ _ _ _ _ hh]
            simpa using flatC_get hsz hre hj rest)
          exact ⟨r, by simpa [Instr.loadAt, Instr.sureAddr, Blk.k] using hr, hvr⟩
        · cases hl
      | var => cases hl
      | tok => cases hl
      | fz => cases hl
  | cp br cs off =>
    simp only at hl
    simp only [VR] at hp
    obtain ⟨b, o, rc, rfl, hv, hc⟩ := hp
    obtain ⟨r, hr, hvr⟩ := run_part hE w hl hv (b := b) (o := o) (fun j x hj => by
      have := hc j x hj
      cases br <;> exact this.1)
    exact ⟨r, by simp [Instr.loadAt, Instr.sureAddr, hr], VR.mono (gr_elb ..) _ hvr⟩
  | _ => cases hl

theorem run_storeV {t : Nat} {p x : AV} {h' : Heap} {rp rx : Value} (hl : storeV E h t p x = some h') (hp : VR p (cx B w0.heap.size w h M) rp) (hvx : VR x (cx B w0.heap.size w h M) rx) :
    ∃ w', (Instr.storeAt t rp rx).run P w = .ok () w' ∧ HR B w0 w' h' M ∧ Gr (cx B w0.heap.size w h M) (cx B w0.heap.size w' h' M) := by
  have hx := cx_x B w0.heap.size w h M
  unfold storeV at hl
  split at hl
  case isFalse => cases hl
  rename_i hsz
  cases p with
  | vp key g off =>
    simp only at hl
    cases hk : h key with
    | none => rw [hk] at hl; cases hl
    | some blk =>
      rw [hk] at hl
      cases blk with
      | var g' T v0 =>
        simp only at hl
        split at hl
        · rename_i hg
          rw [Option.map_eq_some_iff] at hl
          obtain ⟨v', hput, rfl⟩ := hl
          simp only [VR] at hp
          obtain ⟨a, rfl, q, hq, _, h3⟩ := hp
          have hq' := cx_l hk hq
          subst hq'
          obtain ⟨_, rfl⟩ := h3 hg
          obtain ⟨hone, rv, hv, hh⟩ := H.ok _ _ hk
          obtain ⟨rv', hv', hcells, hle, hone', _, hxl, hxo⟩ := putCells_ok hx hput hone hv hvx
          have hst := run_storeCells_at P (M key).1 off T rx.cells.toList 0 rv.cells w hh (by simpa using hle) hxo
          rw [Nat.add_zero, ← hcells, Array.toArray_toList] at hst
          refine ⟨w.setRow (M key).1 rv'.cells, ?_, H.put hk rfl rfl rfl rfl (fun b hb => setRow_other w _ b _ hb) rfl rfl rfl (by simp) ⟨hone', rv', hv', setRow_heap w _ _ _ T (0, 0) hh⟩, gr_put H hk rfl rfl rfl rfl (fun b hb => setRow_other w _ b _ hb)⟩
          · simp only [Instr.storeAt, Instr.sureAddr, storeVar, Sem.run_bind, Sem.run_pure, Result.andThen_ok, run_sizeOf hE w hsz.2]
            have : rx.cells.size = E.size t := by rw [← Array.length_toList, hxl, hsz.1]
            simp only [this, ne_eq, not_true_eq_false, if_false, Sem.run_bind, Sem.run_pure, Result.andThen_ok]
            exact hst
        · cases hl
      | row => cases hl
      | tok => cases hl
      | fz => cases hl
  | rp key g i off =>
    simp only at hl
    cases hk : h key with
    | none => rw [hk] at hl; cases hl
    | some blk =>
      rw [hk] at hl
      cases blk with
      | row g' T k es =>
        simp only at hl
        split at hl
        · rename_i hg
          rw [Option.bind_eq_some_iff] at hl
          obtain ⟨e, he, hl⟩ := hl
          rw [Option.map_eq_some_iff] at hl
          obtain ⟨v', hput, rfl⟩ := hl
          simp only [VR] at hp
          obtain ⟨a, rfl, q, hq, _, h3⟩ := hp
          have hq' := cx_l hk hq
          subst hq'
          obtain ⟨_, rfl⟩ := h3 hg
          obtain ⟨hk0, hall, rvs, rest, hv, hh, hlenk, hmaxk⟩ := H.ok _ _ hk
          obtain ⟨re, hre, hve⟩ := hv.get i e he
          have hsizes := VRl.sizes hx hv hall
          have hmem := List.mem_of_getElem? he
          obtain ⟨rv', hv', hcells, hle, hone', hlen', hxl, hxo⟩ := putCells_ok hx hput (hall e hmem).2 hve hvx
          have hilt : i < rvs.length := (List.getElem?_eq_some_iff.1 hre).1
          have hsp : rvs = rvs.take i ++ re :: rvs.drop (i + 1) := by
            obtain ⟨hlt, e1⟩ := List.getElem?_eq_some_iff.1 hre
            rw [← e1]; simp
          have hXl : (flatC (rvs.take i)).length = i * k := by
            rw [flatC_length (k := k) fun r hr => hsizes r (List.mem_of_mem_take hr), List.length_take, Nat.min_eq_left (by omega)]
          have eF : flatC rvs ++ rest = flatC (rvs.take i) ++ re.cells.toList ++ (flatC (rvs.drop (i + 1)) ++ rest) := by
            conv => lhs; rw [hsp]
            rw [flatC_append]
            have : flatC (re :: rvs.drop (i + 1)) = re.cells.toList ++ flatC (rvs.drop (i + 1)) := rfl
            rw [this]
            simp [List.append_assoc]
          have hfit : i * k + off + 0 + rx.cells.toList.length ≤ (flatC rvs ++ rest).toArray.size := by
            rw [List.size_toArray, eF]
            simp only [List.length_append, hXl]
            omega
          have hst := run_storeCells_at P (M key).1 (i * k + off) T rx.cells.toList 0 (flatC rvs ++ rest).toArray w hh hfit hxo
          have hset : rvs.set i rv' = rvs.take i ++ rv' :: rvs.drop (i + 1) := by
            rw [List.set_eq_take_append_cons_drop, if_pos hilt]
          have hnew : (flatC rvs ++ rest).take (i * k + off) ++ rx.cells.toList ++ (flatC rvs ++ rest).drop (i * k + off + rx.cells.toList.length) = flatC (rvs.set i rv') ++ rest := by
            rw [eF, ← hXl, splice_list _ _ _ _ _ (by simpa using hle), ← hcells, hset, flatC_append]
            have : flatC (rv' :: rvs.drop (i + 1)) = rv'.cells.toList ++ flatC (rvs.drop (i + 1)) := rfl
            rw [this]
            simp [List.append_assoc]
          have hgput := gr_put (B := B) (w' := w.setRow (M key).1 (flatC (rvs.set i rv') ++ rest).toArray) (blk' := .row g' T k (es.set i v')) H hk rfl rfl rfl rfl (fun b hb => setRow_other w _ b _ hb)
          refine ⟨w.setRow (M key).1 (flatC (rvs.set i rv') ++ rest).toArray, ?_, H.put hk rfl rfl rfl rfl (fun b hb => setRow_other w _ b _ hb) rfl rfl rfl (by simp) ⟨hk0, fun e' he' => ?_, rvs.set i rv', rest, ?_, ?_, ?_, hmaxk⟩, hgput⟩
          · simp only [Instr.storeAt, Instr.sureAddr, storeVar, Sem.run_bind, Sem.run_pure, Result.andThen_ok, run_sizeOf hE w hsz.2]
            have : rx.cells.size = E.size t := by rw [← Array.length_toList, hxl, hsz.1]
            simp only [this, ne_eq, not_true_eq_false, if_false, Sem.run_bind, Sem.run_pure, Result.andThen_ok]
            simp only [Nat.add_zero] at hst
            rw [hnew] at hst
            simpa [Blk.k] using hst
          · rcases List.mem_or_eq_of_mem_set he' with h1 | h1
            · exact hall e' h1
            · rw [h1]; exact ⟨hlen'.trans (hall e hmem).1, hone'⟩
          · refine VRl.mk (by simp [hv.length]) fun j a r ha hr => ?_
            rw [List.getElem?_set] at ha hr
            by_cases e : i = j
            · subst e
              rw [if_pos rfl] at ha hr
              have hesl : i < es.length := (List.getElem?_eq_some_iff.1 he).1
              rw [if_pos hesl] at ha
              rw [if_pos hilt] at hr
              obtain rfl := Option.some.inj ha
              obtain rfl := Option.some.inj hr
              exact hv'
            · rw [if_neg e] at ha hr
              obtain ⟨r2, hr2, h2⟩ := hv.get j a ha
              rw [hr] at hr2
              obtain rfl := Option.some.inj hr2
              exact h2
          · exact setRow_heap w _ _ _ T (0, 0) hh
          · rw [← hlenk, ← hnew]
            rw [List.size_toArray, List.length_append] at hfit
            simp only [List.length_append, List.length_take, List.length_drop]
            omega
        · cases hl
      | var => cases hl
      | tok => cases hl
      | fz => cases hl
  | _ => cases hl
end

end Go.Proofs.YtlglhokpaplifaaGreatDoor.Ev
