/- What the evaluator's values say of the machine's values and memory; how long it holds. Conditions: none. -/
import Derived.Test.YthdeaenleimbeaaDoorEvRun
import Derived.Laws.AppendOwn
namespace Go.Proofs.YthdeaenleimbeaaDoor.Ev
open Go.RowKit
set_option linter.unusedVariables false
set_option linter.unusedSimpArgs false
set_option linter.unusedSectionVars false

structure LB where
  t : Bool
  g : Nat
  u : Nat
  k : Nat
  b : Nat
  c : Nat

abbrev CellP := Nat → Nat → Value → Prop
abbrev Lv := Nat → Option LB

structure Cx where
  s : CellP
  a : CellP
  l : Lv
  x : AV → Value → Prop
def Cx.el (c : Cx) : Cx := ⟨c.s, c.s, fun _ => none, fun _ _ => False⟩
/-- behind a borrowed place: what is borrowed may stand there -/
def Cx.ela (c : Cx) : Cx := ⟨c.s, c.a, fun _ => none, fun _ _ => False⟩
def Cx.elb (c : Cx) (br : Bool) : Cx := if br then c.ela else c.el
theorem Cx.elb_true (c : Cx) : c.elb true = c.ela := rfl
theorem Cx.elb_false (c : Cx) : c.elb false = c.el := rfl

def CellsAt (C : CellP) (b o : Nat) (rv : Value) : Prop := ∀ j x, rv.cells.toList[j]? = some x → C b (o + j) x

def OwnOk (l : Lv) (a : Option Addr) (len cap : Nat) : Own → Prop
  | .no => True
  | .brw => True
  | .lit => cap = len
  | .tok key g => ∃ q, l key = some q ∧ g ≤ q.g ∧ (g = q.g → q.t = true ∧ len ≤ q.u ∧ (len = q.u → a = some ⟨q.b, 0, none⟩ ∧ cap = q.c))
  | .ex _ _ => False

def Cx.of (c : Cx) : Own → CellP
  | .brw => c.a
  | _ => c.s

mutual
def VR : AV → Cx → Value → Prop
  | .un, _, _ => True
  | .int k n, _, v => v = .int k n
  | .bool b, _, v => v = .bool b
  | .str s, _, v => v = .string s
  | .agg cs, c, v => ∃ rc : List Value, v = .agg rc.toArray ∧ VRl cs c rc
  | .tup vs, c, v => ∃ rc : List Value, v = .tuple rc.toArray ∧ VRl vs c rc
  | .sl k (.ex T key) es, c, v => c.x (.sl k (.ex T key) es) v
  | .sl k o es, c, v => ∃ a cap, v = .slice a es.length cap ∧ es.length ≤ cap ∧ cap ≤ maxLen ∧ (a = none → cap = 0) ∧
      (es ≠ [] → ∃ b ofs, a = some ⟨b, ofs, none⟩ ∧ VRm es c.el (c.of o) b ofs k) ∧ OwnOk c.l a es.length cap o
  | .ms key g off len, c, v => ∃ (a : Addr) (cap : Nat), v = .slice (some a) len cap ∧ ∃ q, c.l key = some q ∧ g ≤ q.g ∧ (g = q.g → q.t = false ∧ (len ≠ 0 → a = ⟨q.b, off * q.k, none⟩) ∧ len ≤ cap ∧ cap ≤ maxLen ∧ cap = q.c - off)
  | .vp key g off, c, v => ∃ a : Addr, v = .pointer (some a) ∧ ∃ q, c.l key = some q ∧ g ≤ q.g ∧ (g = q.g → q.t = false ∧ a = ⟨q.b, off, none⟩)
  | .rp key g i off, c, v => ∃ a : Addr, v = .pointer (some a) ∧ ∃ q, c.l key = some q ∧ g ≤ q.g ∧ (g = q.g → q.t = false ∧ a = ⟨q.b, i * q.k + off, none⟩)
  | .cp br cs off, c, v => ∃ b o, ∃ rc : List Value, v = .pointer (some ⟨b, o + off, none⟩) ∧ VRl cs (c.elb br) rc ∧ ∀ j x, rc[j]? = some x → (if br then c.a else c.s) b (o + j) x
  | .xp T key w, c, v => c.x (.xp T key w) v
  | .fn f caps, c, v => ∃ rc : List Value, v = .func (.func f) #[] rc.toArray ∧ VRl caps c rc
  | .nilf, _, v => v = .nilFunc
  | .ud, _, v => v = undef
def VRl : List AV → Cx → List Value → Prop
  | [], _, vs => vs = []
  | x :: xs, c, vs => ∃ v ws, vs = v :: ws ∧ VR x c v ∧ VRl xs c ws
def VRm : List AV → Cx → CellP → Nat → Nat → Nat → Prop
  | [], _, _, _, _, _ => True
  | e :: es, c, C, b, o, k => (∃ rv, VR e c rv ∧ rv.cells.size = k ∧ CellsAt C b o rv) ∧ VRm es c C b (o + k) k
end

/-- From one moment to a later one. -/
structure Gr (c c' : Cx) : Prop where
  s : ∀ b i x, c.s b i x → c'.s b i x
  a : ∀ b i x, c.a b i x → c'.a b i x
  l : ∀ key q, c.l key = some q → ∃ q', c'.l key = some q' ∧ q.g ≤ q'.g ∧ (q.g = q'.g → q.t = q'.t ∧ q.k = q'.k ∧ q.u ≤ q'.u ∧ (q.u = q'.u → q.b = q'.b ∧ q.c = q'.c) ∧ (q.t = false → q.u = q'.u))
  x : ∀ y v, c.x y v → c'.x y v

theorem Gr.refl (c : Cx) : Gr c c := ⟨fun _ _ _ h => h, fun _ _ _ h => h, fun key q h => ⟨q, h, Nat.le_refl _, fun _ => ⟨rfl, rfl, Nat.le_refl _, fun _ => ⟨rfl, rfl⟩, fun _ => rfl⟩⟩, fun _ _ h => h⟩
theorem Gr.trans {a b c : Cx} (h : Gr a b) (k : Gr b c) : Gr a c where
  s := fun _ _ _ x => k.s _ _ _ (h.s _ _ _ x)
  a := fun _ _ _ x => k.a _ _ _ (h.a _ _ _ x)
  l := fun key q hq => by
    obtain ⟨q', h1, h2, h3⟩ := h.l key q hq
    obtain ⟨q'', k1, k2, k3⟩ := k.l key q' h1
    refine ⟨q'', k1, Nat.le_trans h2 k2, fun e => ?_⟩
    have e1 : q.g = q'.g := by omega
    have e2 : q'.g = q''.g := by omega
    obtain ⟨a1, a2, a3, a4, a5⟩ := h3 e1
    obtain ⟨b1, b2, b3, b4, b5⟩ := k3 e2
    refine ⟨a1.trans b1, a2.trans b2, Nat.le_trans a3 b3, fun eu => ?_, fun ht => (a5 ht).trans (b5 (a1 ▸ ht))⟩
    obtain ⟨x1, x2⟩ := a4 (by omega)
    obtain ⟨y1, y2⟩ := b4 (by omega)
    exact ⟨x1.trans y1, x2.trans y2⟩
  x := fun _ _ y => k.x _ _ (h.x _ _ y)
theorem Gr.el {c c' : Cx} (h : Gr c c') : Gr c.el c'.el := ⟨h.s, h.s, fun _ _ hq => by simp [Cx.el] at hq, fun _ _ hx => hx.elim⟩
theorem Gr.ela {c c' : Cx} (h : Gr c c') : Gr c.ela c'.ela := ⟨h.s, h.a, fun _ _ hq => by simp [Cx.ela] at hq, fun _ _ hx => hx.elim⟩
theorem Gr.elb {c c' : Cx} (h : Gr c c') (br : Bool) : Gr (c.elb br) (c'.elb br) := by
  cases br with
  | false => exact h.el
  | true => exact h.ela
theorem Gr.of {c c' : Cx} (h : Gr c c') (o : Own) : ∀ b i x, c.of o b i x → c'.of o b i x := by
  cases o <;> first | exact h.s | exact h.a

theorem OwnOk.mono {c c' : Cx} (h : Gr c c') {a : Option Addr} {len cap : Nat} {o : Own} (ho : OwnOk c.l a len cap o) : OwnOk c'.l a len cap o := by
  cases o with
  | no => trivial
  | brw => trivial
  | lit => exact ho
  | ex => exact ho
  | tok key g =>
    obtain ⟨q, h1, h2, h3⟩ := ho
    obtain ⟨q', k1, k2, k3⟩ := h.l key q h1
    refine ⟨q', k1, Nat.le_trans h2 k2, fun e => ?_⟩
    have e1 : g = q.g := by omega
    have e2 : q.g = q'.g := by omega
    obtain ⟨a1, a2, a3⟩ := h3 e1
    obtain ⟨b1, _, b3, b4, _⟩ := k3 e2
    refine ⟨b1 ▸ a1, Nat.le_trans a2 b3, fun el => ?_⟩
    obtain ⟨x1, x2⟩ := a3 (by omega)
    obtain ⟨y1, y2⟩ := b4 (by omega)
    rw [← y1, ← y2]
    exact ⟨x1, x2⟩

mutual
theorem VR.mono {c c' : Cx} (h : Gr c c') : ∀ (v : AV) {rv : Value}, VR v c rv → VR v c' rv
  | .un, _, _ => by simp [VR]
  | .int .., _, hv => by simpa only [VR] using hv
  | .bool .., _, hv => by simpa only [VR] using hv
  | .str .., _, hv => by simpa only [VR] using hv
  | .nilf, _, hv => by simpa only [VR] using hv
  | .ud, _, hv => by simpa only [VR] using hv
  | .agg cs, _, hv => by
    simp only [VR] at hv ⊢
    obtain ⟨rc, h1, h2⟩ := hv
    exact ⟨rc, h1, VRl.mono h cs h2⟩
  | .tup cs, _, hv => by
    simp only [VR] at hv ⊢
    obtain ⟨rc, h1, h2⟩ := hv
    exact ⟨rc, h1, VRl.mono h cs h2⟩
  | .sl k o es, _, hv => by
    cases o with
    | ex T key => simp only [VR] at hv ⊢; exact h.x _ _ hv
    | _ =>
      simp only [VR] at hv ⊢
      obtain ⟨a, cap, h1, h2, h3, h4, h5, h6⟩ := hv
      refine ⟨a, cap, h1, h2, h3, h4, fun hne => ?_, h6.mono h⟩
      obtain ⟨b, ofs, e, hm⟩ := h5 hne
      exact ⟨b, ofs, e, VRm.mono h.el (h.of _) es hm⟩
  | .ms key g off len, _, hv => by
    simp only [VR] at hv ⊢
    obtain ⟨a, cap, e0, q, h1, h2, h3⟩ := hv
    obtain ⟨q', k1, k2, k3⟩ := h.l key q h1
    refine ⟨a, cap, e0, q', k1, Nat.le_trans h2 k2, fun e => ?_⟩
    obtain ⟨a1, a2⟩ := h3 (by omega)
    obtain ⟨b1, b2, _, b4, b5⟩ := k3 (by omega)
    have hb := (b4 (b5 a1)).1
    have hc := (b4 (b5 a1)).2
    rw [← hb, ← b2, ← b1, ← hc]
    exact ⟨a1, a2⟩
  | .vp key g off, _, hv => by
    simp only [VR] at hv ⊢
    obtain ⟨a, e0, q, h1, h2, h3⟩ := hv
    obtain ⟨q', k1, k2, k3⟩ := h.l key q h1
    refine ⟨a, e0, q', k1, Nat.le_trans h2 k2, fun e => ?_⟩
    obtain ⟨a1, a2⟩ := h3 (by omega)
    obtain ⟨b1, b2, _, b4, b5⟩ := k3 (by omega)
    have hb := (b4 (b5 a1)).1
    rw [← hb, ← b1]
    exact ⟨a1, a2⟩
  | .rp key g i off, _, hv => by
    simp only [VR] at hv ⊢
    obtain ⟨a, e0, q, h1, h2, h3⟩ := hv
    obtain ⟨q', k1, k2, k3⟩ := h.l key q h1
    refine ⟨a, e0, q', k1, Nat.le_trans h2 k2, fun e => ?_⟩
    obtain ⟨a1, a2⟩ := h3 (by omega)
    obtain ⟨b1, b2, _, b4, b5⟩ := k3 (by omega)
    have hb := (b4 (b5 a1)).1
    rw [← hb, ← b2, ← b1]
    exact ⟨a1, a2⟩
  | .cp br cs off, _, hv => by
    simp only [VR] at hv ⊢
    obtain ⟨b, o, rc, h1, h2, h3⟩ := hv
    refine ⟨b, o, rc, h1, VRl.mono (h.elb br) cs h2, fun j x hx => ?_⟩
    have := h3 j x hx
    cases br
    · exact h.s _ _ _ this
    · exact h.a _ _ _ this
  | .xp T key w, _, hv => by simp only [VR] at hv ⊢; exact h.x _ _ hv
  | .fn f caps, _, hv => by
    simp only [VR] at hv ⊢
    obtain ⟨rc, h1, h2⟩ := hv
    exact ⟨rc, h1, VRl.mono h caps h2⟩
theorem VRl.mono {c c' : Cx} (h : Gr c c') : ∀ (vs : List AV) {rs : List Value}, VRl vs c rs → VRl vs c' rs
  | [], _, hv => by simpa only [VRl] using hv
  | x :: xs, _, hv => by
    simp only [VRl] at hv ⊢
    obtain ⟨v, ws, h1, h2, h3⟩ := hv
    exact ⟨v, ws, h1, VR.mono h x h2, VRl.mono h xs h3⟩
theorem VRm.mono {c c' : Cx} (h : Gr c c') {C C' : CellP} (hC : ∀ b i x, C b i x → C' b i x) : ∀ (vs : List AV) {b o k : Nat}, VRm vs c C b o k → VRm vs c' C' b o k
  | [], _, _, _, _ => by simp [VRm]
  | x :: xs, _, _, _, hv => by
    simp only [VRm] at hv ⊢
    obtain ⟨⟨rv, h1, h2, h3⟩, h4⟩ := hv
    exact ⟨⟨rv, VR.mono h x h1, h2, fun j y hy => hC _ _ _ (h3 j y hy)⟩, VRm.mono h hC xs h4⟩
end

theorem VRl.length {c : Cx} : ∀ {vs : List AV} {rs : List Value}, VRl vs c rs → rs.length = vs.length
  | [], _, h => by simp only [VRl] at h; simp [h]
  | x :: xs, _, h => by
    simp only [VRl] at h
    obtain ⟨v, ws, rfl, _, h2⟩ := h
    simp [VRl.length h2]
theorem VRl.get {c : Cx} : ∀ {vs : List AV} {rs : List Value}, VRl vs c rs → ∀ (i : Nat) (v : AV), vs[i]? = some v → ∃ r, rs[i]? = some r ∧ VR v c r
  | [], _, h, i, v, hi => by simp at hi
  | x :: xs, _, h, i, v, hi => by
    simp only [VRl] at h
    obtain ⟨w, ws, rfl, h1, h2⟩ := h
    cases i with
    | zero => simp at hi; subst hi; exact ⟨w, by simp, h1⟩
    | succ i =>
      simp only [List.getElem?_cons_succ] at hi
      obtain ⟨r, hr, hv⟩ := VRl.get h2 i v hi
      exact ⟨r, by simpa using hr, hv⟩
theorem VRl.mk {c : Cx} : ∀ {vs : List AV} {rs : List Value}, rs.length = vs.length → (∀ (i : Nat) (v : AV) (r : Value), vs[i]? = some v → rs[i]? = some r → VR v c r) → VRl vs c rs
  | [], [], _, _ => by simp [VRl]
  | [], _ :: _, h, _ => by simp at h
  | _ :: _, [], h, _ => by simp at h
  | x :: xs, r :: rs, h, hh => by
    simp only [VRl]
    exact ⟨r, rs, rfl, hh 0 x r (by simp) (by simp), VRl.mk (by simpa using h) fun i v r' hi hr => hh (i + 1) v r' (by simpa using hi) (by simpa using hr)⟩
theorem VRl.append {c : Cx} {vs ws : List AV} {rs ss : List Value} (h : VRl vs c rs) (k : VRl ws c ss) : VRl (vs ++ ws) c (rs ++ ss) := by
  induction vs generalizing rs with
  | nil => simp only [VRl] at h; subst h; simpa using k
  | cons x xs ih =>
    simp only [VRl] at h
    obtain ⟨v, us, rfl, h1, h2⟩ := h
    simp only [List.cons_append, VRl]
    exact ⟨v, us ++ ss, rfl, h1, ih h2⟩
theorem VRl.take {c : Cx} {vs : List AV} {rs : List Value} (h : VRl vs c rs) (n : Nat) : VRl (vs.take n) c (rs.take n) := by
  induction vs generalizing rs n with
  | nil => simp only [VRl] at h; subst h; simp [VRl]
  | cons x xs ih =>
    simp only [VRl] at h
    obtain ⟨v, us, rfl, h1, h2⟩ := h
    cases n with
    | zero => simp [VRl]
    | succ n => simp only [List.take_succ_cons, VRl]; exact ⟨v, us.take n, rfl, h1, ih h2 n⟩
theorem VRl.drop {c : Cx} {vs : List AV} {rs : List Value} (h : VRl vs c rs) (n : Nat) : VRl (vs.drop n) c (rs.drop n) := by
  induction vs generalizing rs n with
  | nil => simp only [VRl] at h; subst h; simp [VRl]
  | cons x xs ih =>
    simp only [VRl] at h
    obtain ⟨v, us, rfl, h1, h2⟩ := h
    cases n with
    | zero => simp only [List.drop_zero, VRl]; exact ⟨v, us, rfl, h1, h2⟩
    | succ n => simp only [List.drop_succ_cons]; exact ih h2 n
theorem VRl.nil_iff {c : Cx} {rs : List Value} : VRl [] c rs ↔ rs = [] := by simp [VRl]
theorem VRl.cons_iff {c : Cx} {x : AV} {xs : List AV} {rs : List Value} : VRl (x :: xs) c rs ↔ ∃ v ws, rs = v :: ws ∧ VR x c v ∧ VRl xs c ws := by simp [VRl]

/-- A value that is no aggregate stands in one cell. -/
theorem VR.one {c : Cx} (hx : ∀ y v, ¬ c.x y v) {v : AV} {rv : Value} (h : VR v c rv) (ho : v.one = true) : rv.oneCell' = true ∧ rv.cells = #[rv] := by
  cases v with
  | un => simp [AV.one] at ho
  | ud => simp [AV.one] at ho
  | agg => simp [AV.one] at ho
  | tup => simp [AV.one] at ho
  | int k n => simp only [VR] at h; subst h; exact ⟨rfl, rfl⟩
  | bool => simp only [VR] at h; subst h; exact ⟨rfl, rfl⟩
  | str => simp only [VR] at h; subst h; exact ⟨rfl, rfl⟩
  | nilf => simp only [VR] at h; subst h; exact ⟨rfl, rfl⟩
  | sl k o es =>
    cases o with
    | ex => simp only [VR] at h; exact (hx _ _ h).elim
    | _ => simp only [VR] at h; obtain ⟨a, cap, rfl, _⟩ := h; exact ⟨rfl, rfl⟩
  | xp => simp only [VR] at h; exact (hx _ _ h).elim
  | fn => simp only [VR] at h; obtain ⟨a, rfl, _⟩ := h; exact ⟨rfl, rfl⟩
  | cp => simp only [VR] at h; obtain ⟨a, _, _, rfl, _⟩ := h; exact ⟨rfl, rfl⟩
  | ms => simp only [VR] at h; obtain ⟨a, _, rfl, _⟩ := h; exact ⟨rfl, rfl⟩
  | vp => simp only [VR] at h; obtain ⟨a, rfl, _⟩ := h; exact ⟨rfl, rfl⟩
  | rp => simp only [VR] at h; obtain ⟨a, rfl, _⟩ := h; exact ⟨rfl, rfl⟩

end Go.Proofs.YthdeaenleimbeaaDoor.Ev
