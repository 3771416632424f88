/- Rows of one's own that come from a call, and calls that write the caller's rows. Conditions: none. -/
import Derived.Test.YthdeaenleimbeaaDoorEvData
namespace Go.Proofs.YthdeaenleimbeaaDoor.Ev
set_option linter.unusedVariables false
set_option linter.unusedSimpArgs false
set_option linter.unusedSectionVars false

@[simp] theorem eff_wrn : (Eff.write != Eff.read) = true := _root_.id rfl
@[simp] theorem eff_prn : (Eff.pure != Eff.read) = true := _root_.id rfl
@[simp] theorem eff_rrn : (Eff.read != Eff.read) = false := _root_.id rfl
/-- a row of one's own, of elements es -/
def Row (h : Heap) (key T k k0 : Nat) (v : AV) (es : List AV) : Prop :=
  (es = [] ∧ v = .sl k0 .no []) ∨ (es ≠ [] ∧ ∃ g, v = .ms key g 0 es.length ∧ h key = some (.row g T k es))
theorem Row.keep {h h' : Heap} {key T k k0 : Nat} {v : AV} {es : List AV} (hR : Row h key T k k0 v es) (hk : h' key = h key) : Row h' key T k k0 v es := by
  rcases hR with ⟨rfl, rfl⟩ | ⟨hx, g, rfl, hg⟩
  · exact .inl ⟨rfl, rfl⟩
  · exact .inr ⟨hx, g, rfl, hk.trans hg⟩
theorem Row.len {E : Env} {h : Heap} {key T k k0 t : Nat} {v : AV} {es : List AV} (hR : Row h key T k k0 v es) (ht : slT E t = true) : lenV E t v = some (.int .i64 es.length) := by
  rcases hR with ⟨rfl, rfl⟩ | ⟨hx, g, rfl, hg⟩
  · rw [len_sl _ _ ht]
  · rw [len_ms _ _ ht]
theorem Row.one {h : Heap} {key T k k0 : Nat} {v : AV} {es : List AV} (hR : Row h key T k k0 v es) : v.one = true := by
  rcases hR with ⟨rfl, rfl⟩ | ⟨hx, g, rfl, hg⟩ <;> rfl
theorem Row.cells {h : Heap} {key T k k0 : Nat} {v : AV} {es : List AV} (hR : Row h key T k k0 v es) : v.cells = [v] := by
  rcases hR with ⟨rfl, rfl⟩ | ⟨hx, g, rfl, hg⟩ <;> rfl
/-- such a row, handed on -/
def rowB (k k0 : Nat) (es : List AV) : AV := if es = [] then .sl k0 .no [] else .sl k .brw es
theorem Row.low {h : Heap} {key T k k0 : Nat} {v : AV} {es : List AV} (hR : Row h key T k k0 v es) (hs : stabs es = true) (hl : low0s es = es) : Ev.low h v = rowB k k0 es := by
  rcases hR with ⟨rfl, rfl⟩ | ⟨hx, g, rfl, hg⟩
  · simp [rowB]
  · simp only [Ev.low, hg, Nat.zero_add, Nat.le_refl, true_and, hs, and_self, if_true, List.drop_zero, List.take_length, hl, rowB, hx, if_false]
theorem Row.lowI {h : Heap} {key T k k0 : Nat} {v : AV} {xs : List Int} (hR : Row h key T k k0 v (ints xs)) : Ev.low h v = rowB k k0 (ints xs) := hR.low (by simp) (by simp)
@[simp] theorem isI_rowB {k0 : Nat} {xs : List Int} (hl : xs.length ≤ top63) : IsI (rowB 1 k0 (ints xs)) := by
  unfold rowB; split
  · exact isI_sl (xs := []) (.inl rfl) rfl (Nat.zero_le _)
  · exact isI_sl (.inr rfl) rfl hl
@[simp] theorem xsOf_rowB {k k0 : Nat} {xs : List Int} : xsOf (rowB k k0 (ints xs)) = xs := by
  unfold rowB; split
  · rename_i h; rw [show xs = [] by simpa using h]; rfl
  · simp
/-- such a row, handed back -/
def rowX (k k0 T key : Nat) (es : List AV) : AV := if es = [] then .sl k0 .no [] else .sl k (.ex T key) es
@[simp] theorem rowX_row (k T key : Nat) (es : List AV) : rowX k k T key es = rowR k T key es := by
  unfold rowX rowR; split <;> rfl
/-- such a row, by value -/
def rowN (k k0 : Nat) (es : List AV) : AV := if es = [] then .sl k0 .no [] else .sl k .no es
@[simp] theorem rowX_noEx (k k0 T key : Nat) (es : List AV) : noEx (rowX k k0 T key es) = rowN k k0 es := by
  unfold rowX rowN; split <;> simp [noEx]
@[simp] theorem isI_rowN {k0 : Nat} {xs : List Int} (hl : xs.length ≤ top63) : IsI (rowN 1 k0 (ints xs)) := by
  unfold rowN; split
  · exact isI_sl (xs := []) (.inl rfl) rfl (Nat.zero_le _)
  · exact isI_sl (.inr rfl) rfl hl
@[simp] theorem xsOf_rowN {k k0 : Nat} {xs : List Int} : xsOf (rowN k k0 (ints xs)) = xs := by
  unfold rowN; split
  · rename_i h; rw [show xs = [] by simpa using h]; rfl
  · simp
@[simp] theorem one_rowN (k k0 : Nat) (es : List AV) : (rowN k k0 es).one = true := by unfold rowN; split <;> rfl
@[simp] theorem cells_rowN (k k0 : Nat) (es : List AV) : (rowN k k0 es).cells = [rowN k k0 es] := by unfold rowN; split <;> rfl
@[simp] theorem low_rowN (h : Heap) (k k0 : Nat) (es : List AV) : Ev.low h (rowN k k0 es) = rowN k k0 es := by unfold rowN; split <;> simp
@[simp] theorem noEx_rowN (k k0 : Nat) (es : List AV) : noEx (rowN k k0 es) = rowN k k0 es := by unfold rowN; split <;> simp
@[simp] theorem expo_rowN (h : Heap) (k k0 : Nat) (es : List AV) : Ev.expo h (rowN k k0 es) = rowN k k0 es := by unfold rowN; split <;> simp
@[simp] theorem hasKey_rowN (κ k k0 : Nat) (es : List AV) : hasKey κ (rowN k k0 es) = false := by unfold rowN; split <;> simp
theorem Row.expo {h : Heap} {key T k k0 : Nat} {v : AV} {es : List AV} (hR : Row h key T k k0 v es) (hs : stabs es = true) (hl : low0s es = es) : Ev.expo h v = rowX k k0 T key es := by
  rcases hR with ⟨rfl, rfl⟩ | ⟨hx, g, rfl, hg⟩
  · simp [rowX]
  · simp only [Ev.expo, hg, Nat.zero_add, Nat.le_refl, and_self, if_true, true_and, hs, ne_eq, hx, not_false_eq_true, hl, rowX, if_false]
theorem Row.expoI {h : Heap} {key T k k0 : Nat} {v : AV} {xs : List Int} (hR : Row h key T k k0 v (ints xs)) : Ev.expo h v = rowX k k0 T key (ints xs) := hR.expo (by simp) (by simp)

/-! taking rows over -/
/-- a row that a call hands back: made there, or grown there -/
def OwnR (R : AV) (k k0 T key : Nat) (es : List AV) : Prop := (es = [] ∧ (R = .sl k0 .no [] ∨ R = .sl k0 .lit [])) ∨ (es ≠ [] ∧ R = .sl k (.ex T key) es)
theorem ownR_row (k T key : Nat) (es : List AV) : OwnR (rowR k T key es) k k T key es := by
  unfold rowR OwnR; split
  · rename_i h; exact .inl ⟨h, .inl rfl⟩
  · rename_i h; exact .inr ⟨h, rfl⟩
theorem ownR_rowX (k k0 T key : Nat) (es : List AV) : OwnR (rowX k k0 T key es) k k0 T key es := by
  unfold rowX OwnR; split
  · rename_i h; exact .inl ⟨h, .inl rfl⟩
  · rename_i h; exact .inr ⟨h, rfl⟩
theorem ownR_buf (T key k0 : Nat) (xs : List Int) : OwnR (bufR T key k0 xs) 1 k0 T key (ints xs) := by
  unfold bufR OwnR; split
  · rename_i h; exact .inl ⟨by simp [h], .inr rfl⟩
  · rename_i h; exact .inr ⟨by simpa using h, rfl⟩
theorem ownR_nil (k k0 T key : Nat) : OwnR (.sl k0 .lit []) k k0 T key [] := .inl ⟨rfl, .inr rfl⟩
theorem ownR_nil2 (k k0 T key : Nat) : OwnR (.sl k0 .no []) k k0 T key [] := .inl ⟨rfl, .inl rfl⟩

/-- what a part comes to: a value, blocks -/
def RowL (base n key T k k0 : Nat) (g : Nat) (v : AV) (L : List (Nat × Nat × Blk)) (es : List AV) : Prop :=
  (es = [] ∧ v = .sl k0 .no [] ∧ L = []) ∨ (es ≠ [] ∧ v = .ms (base + 1000 * n) g 0 es.length ∧ L = [(base + 1000 * n, key, .row g T k es)])
theorem matG_row {base n : Nat} {h : Heap} {R : AV} {k k0 T key : Nat} {es : List AV} (hR : OwnR R k k0 T key es) (hf : es.all flat = true) :
    ∃ v L, matG base h R n = some (v, L, n + 1) ∧ RowL base n key T k k0 (nextG h (base + 1000 * n)) v L es := by
  rcases hR with ⟨rfl, rfl | rfl⟩ | ⟨hx, rfl⟩
  · exact ⟨.sl k0 .no [], [], by simp only [matG, List.isEmpty_nil, if_true], .inl ⟨rfl, rfl, rfl⟩⟩
  · exact ⟨.sl k0 .no [], [], by simp only [matG, List.isEmpty_nil, if_true], .inl ⟨rfl, rfl, rfl⟩⟩
  · exact ⟨_, _, by simp only [matG, hf, if_true], .inr ⟨hx, rfl, rfl⟩⟩
theorem RowL.row {base n key T k k0 g : Nat} {v : AV} {L : List (Nat × Nat × Blk)} {es : List AV} (hL : RowL base n key T k k0 g v L es) {h : Heap} (hh : ∀ p ∈ L, h p.1 = some p.2.2) :
    Row h (base + 1000 * n) T k k0 v es := by
  rcases hL with ⟨rfl, rfl, rfl⟩ | ⟨hx, rfl, rfl⟩
  · exact .inl ⟨rfl, rfl⟩
  · exact .inr ⟨hx, _, rfl, hh _ (List.mem_singleton.2 rfl)⟩

theorem hsets_at : ∀ {L : List (Nat × Nat × Blk)} {h : Heap}, (L.map fun p => p.1).Nodup → ∀ p ∈ L, hsets h L p.1 = some p.2.2
  | [], _, _, p, hp => by cases hp
  | q :: L, h, hn, p, hp => by
    simp only [List.map_cons, List.nodup_cons] at hn
    rcases List.mem_cons.1 hp with rfl | hp
    · simp [hsets, hset]
    · have hne : p.1 ≠ q.1 := fun e => hn.1 (List.mem_map.2 ⟨p, hp, e⟩)
      simpa [hsets, hset, hne] using hsets_at hn.2 p hp
theorem hsets_off : ∀ {L : List (Nat × Nat × Blk)} {h : Heap} {x : Nat}, (∀ p ∈ L, p.1 ≠ x) → hsets h L x = h x
  | [], _, _, _ => rfl
  | q :: L, h, x, hx => by
    have hne : x ≠ q.1 := fun e => hx q (List.mem_cons_self ..) e.symm
    simpa [hsets, hset, hne] using hsets_off (L := L) (h := h) (x := x) fun p hp => hx p (List.mem_cons_of_mem _ hp)

/-- one row, two rows -/
theorem mat3_one {base : Nat} {h : Heap} {r : AV} {v : AV} {C : AV → AV} {R : AV} {k k0 T key n' : Nat} {es : List AV} (hR : OwnR R k k0 T key es) (hf : es.all flat = true)
    (hC : ∀ v L, matG base h R 0 = some (v, L, 1) → matG base h r 0 = some (C v, L, 1)) :
    ∃ v' h', mat3 base h r = some (C v', h') ∧ Row h' base T k k0 v' es ∧ ∀ x, x ≠ base → h' x = h x := by
  obtain ⟨v, L, h1, h2⟩ := matG_row (base := base) (h := h) (n := 0) hR hf
  refine ⟨v, hsets h L, ?_, ?_, ?_⟩
  · unfold mat3
    rw [hC v L h1]
    rcases h2 with ⟨_, _, rfl⟩ | ⟨_, _, rfl⟩ <;> simp
  · refine (h2.row (h := hsets h L) (hsets_at ?_))
    rcases h2 with ⟨_, _, rfl⟩ | ⟨_, _, rfl⟩ <;> simp
  · intro x hx
    refine hsets_off fun p hp => ?_
    rcases h2 with ⟨_, _, rfl⟩ | ⟨_, _, rfl⟩
    · cases hp
    · obtain rfl := List.mem_singleton.1 hp
      exact fun e => hx e.symm
theorem mat3_two {base : Nat} {h : Heap} {r : AV} {C : AV → AV → AV} {R R2 : AV} {k k0 T key k2 k02 T2 key2 : Nat} {es es2 : List AV} (hR : OwnR R k k0 T key es) (hf : es.all flat = true) (hR2 : OwnR R2 k2 k02 T2 key2 es2) (hf2 : es2.all flat = true) (hne : key ≠ key2)
    (hC : ∀ v L v2 L2, matG base h R 0 = some (v, L, 1) → matG base h R2 1 = some (v2, L2, 2) → matG base h r 0 = some (C v v2, L ++ L2, 2)) :
    ∃ v' v2' h', mat3 base h r = some (C v' v2', h') ∧ Row h' base T k k0 v' es ∧ Row h' (base + 1000) T2 k2 k02 v2' es2 ∧ ∀ x, x ≠ base → x ≠ base + 1000 → h' x = h x := by
  obtain ⟨v, L, h1, h2⟩ := matG_row (base := base) (h := h) (n := 0) hR hf
  obtain ⟨v2, L2, g1, g2⟩ := matG_row (base := base) (h := h) (n := 1) hR2 hf2
  have hnd : ((L ++ L2).map fun p => p.1).Nodup := by
    rcases h2 with ⟨_, _, rfl⟩ | ⟨_, _, rfl⟩ <;> rcases g2 with ⟨_, _, rfl⟩ | ⟨_, _, rfl⟩ <;> simp
  refine ⟨v, v2, hsets h (L ++ L2), ?_, ?_, ?_, ?_⟩
  · unfold mat3
    rw [hC v L v2 L2 h1 g1]
    rcases h2 with ⟨_, _, rfl⟩ | ⟨_, _, rfl⟩ <;> rcases g2 with ⟨_, _, rfl⟩ | ⟨_, _, rfl⟩ <;> simp [hne]
  · exact h2.row (h := hsets h (L ++ L2)) fun p hp => hsets_at hnd p (List.mem_append_left _ hp)
  · exact g2.row (h := hsets h (L ++ L2)) fun p hp => hsets_at hnd p (List.mem_append_right _ hp)
  · intro x hx hx2
    refine hsets_off fun p hp => ?_
    rcases List.mem_append.1 hp with hp | hp
    · rcases h2 with ⟨_, _, rfl⟩ | ⟨_, _, rfl⟩
      · cases hp
      · obtain rfl := List.mem_singleton.1 hp
        exact fun e => hx e.symm
    · rcases g2 with ⟨_, _, rfl⟩ | ⟨_, _, rfl⟩
      · cases hp
      · obtain rfl := List.mem_singleton.1 hp
        exact fun e => hx2 e.symm

/-! the calls -/
def mat3B (E : Env) (fid d g : Nat) : Bool := (E.ext g).isNone && !E.open_ g && E.mat fid d == 3
theorem cf_mat3 {E : Env} {fid d g : Nat} {args : List AV} {s : Nat → AV} {h : Heap} {off nt : Nat} {K : AV → Heap → Prop} {tg : Tg ((⟨s, h, off, nt⟩ : St), K)} {r : AV} (he : mat3B E fid d g = true) (hc : EvC E g (lows h args) r)
    (hK : Is (mat3 (off + d) h r) K) : CF E fid (some d) g args ⟨s, h, off, nt⟩ K tg := by
  simp only [mat3B, Bool.and_eq_true, Bool.not_eq_true', beq_iff_eq, Option.isNone_iff_eq_none] at he
  unfold CF
  rw [WF_mat (ext_none he.1.1 _) he.1.2]
  refine ⟨r, hc, ?_⟩
  simpa only [mat, he.2] using hK
theorem cf_open {E : Env} {fid g : Nat} {dst : Option Nat} {args : List AV} {s : Nat → AV} {h : Heap} {off nt : Nat} {K : AV → Heap → Prop} {tg : Tg ((⟨s, h, off, nt⟩ : St), K)} (he : E.ext g = none) (ho : E.open_ g = true)
    (hK : OpenTo E g args h (off + farOff) K) : CF E fid dst g args ⟨s, h, off, nt⟩ K tg := by
  unfold CF
  rw [WF_open he ho]
  exact hK

/-- a row that was made there -/
theorem cf_row {E : Env} {fid d g : Nat} {args : List AV} {s : Nat → AV} {h : Heap} {off nt : Nat} {K : AV → Heap → Prop} {tg : Tg ((⟨s, h, off, nt⟩ : St), K)} {R : AV} {k k0 T key : Nat} {es : List AV}
    (hc : EvC E g (lows h args) R) (hR : OwnR R k k0 T key es) (hf : es.all flat = true) (he : mat3B E fid d g = true)
    (hK : ∀ v' h', Row h' (off + d) T k k0 v' es → (∀ x, x ≠ off + d → h' x = h x) → K v' h') : CF E fid (some d) g args ⟨s, h, off, nt⟩ K tg := by
  refine cf_mat3 he hc ?_
  obtain ⟨v', h', h1, h2, h3⟩ := mat3_one (base := off + d) (h := h) (r := R) (v := .un) (C := fun v => v) (n' := 0) hR hf fun v L hm => hm
  exact ⟨_, _, h1, hK _ _ h2 h3⟩
def mat1B (E : Env) (fid d g : Nat) : Bool := (E.ext g).isNone && !E.open_ g && E.mat fid d == 1
/-- a row that was made there, beside other operations -/
theorem cf_row1 {E : Env} {fid d g : Nat} {args : List AV} {s : Nat → AV} {h : Heap} {off nt : Nat} {K : AV → Heap → Prop} {tg : Tg ((⟨s, h, off, nt⟩ : St), K)} {R : AV} {k k0 T key : Nat} {es : List AV}
    (hc : EvC E g (lows h args) R) (hR : OwnR R k k0 T key es) (hf : es.all flat = true) (he : mat1B E fid d g = true)
    (hK : ∀ v' h', Row h' (off + d) T k k0 v' es → (∀ x, x ≠ off + d → h' x = h x) → K v' h') : CF E fid (some d) g args ⟨s, h, off, nt⟩ K tg := by
  simp only [mat1B, Bool.and_eq_true, Bool.not_eq_true', beq_iff_eq, Option.isNone_iff_eq_none] at he
  unfold CF
  rw [WF_mat (ext_none he.1.1 _) he.1.2]
  refine ⟨R, hc, ?_⟩
  rcases hR with ⟨rfl, rfl | rfl⟩ | ⟨hx, rfl⟩
  · exact ⟨.sl k0 .no [], h, by simp only [mat, he.2], hK _ _ (.inl ⟨rfl, rfl⟩) fun _ _ => rfl⟩
  · exact ⟨.sl k0 .no [], h, by simp only [mat, he.2], hK _ _ (.inl ⟨rfl, rfl⟩) fun _ _ => rfl⟩
  · refine ⟨.ms (off + d) (nextG h (off + d)) 0 es.length, hset h (off + d) (.row (nextG h (off + d)) T k es), ?_, hK _ _ (.inr ⟨hx, _, rfl, by simp [hset]⟩) (fun x hxx => by simp [hset, hxx])⟩
    simp only [mat, he.2]
    rw [if_pos ⟨hf, hx⟩]
/-- a copy: of nothing, by what is told of it; else by its body -/
def cloneF : List AV → Option AV
  | [.sl _ _ []] => some (.sl 1 .no [])
  | _ => none
theorem nilC_I {E : Env} {t : Nat} {v : AV} (hv : IsI v) (ht : slT E t = true) (hne : xsOf v ≠ []) (op : BinOp) : nilC E op t v = nilV op := by
  obtain ⟨k, o, es, rfl, hk, ho⟩ := hv.l.ok
  have hes : es ≠ [] := by
    intro e; subst e; exact hne (by simp [xsOf])
  have hx : isEx o = false := by cases o <;> first | rfl | cases ho
  simp only [nilC, slT_ty ht]
  simp [hes, hx]
@[simp] theorem nilV_eql : nilV .eql = some (.bool false) := _root_.id rfl
theorem cf_clone {E : Env} {fid d g : Nat} {a u : AV} {s : Nat → AV} {h : Heap} {off nt : Nat} {K : AV → Heap → Prop} {tg : Tg ((⟨s, h, off, nt⟩ : St), K)} {R : AV} {T key : Nat} (he : E.ext g = some cloneF) (ho : E.open_ g = false) (hm : E.mat fid d = 1)
    (hl : low h a = u) (hu : IsI u) (hc : xsOf u ≠ [] → EvC E g [u] R) (hR : xsOf u ≠ [] → OwnR R 1 1 T key (ints (xsOf u)))
    (hK : ∀ v' h', Row h' (off + d) T 1 1 v' (ints (xsOf u)) → (∀ x, x ≠ off + d → h' x = h x) → K v' h') : CF E fid (some d) g [a] ⟨s, h, off, nt⟩ K tg := by
  have hls : lows h [a] = [u] := by simp [lows, hl]
  unfold CF
  by_cases hne : xsOf u = []
  · obtain ⟨k, o, es, rfl, hk, hos⟩ := hu.l.ok
    have hes : es = ints (xsOf (.sl k o es)) := by have := hu.ints; simpa using this
    rw [hne] at hes
    obtain rfl : es = [] := hes
    rw [WF_ext (r := .sl 1 .no []) (by simp only [extV, he, Option.bind_some, hls, cloneF])]
    refine hK _ _ (.inl ⟨by rw [hne]; rfl, rfl⟩) fun _ _ => rfl
  · have hno : cloneF [u] = none := by
      obtain ⟨k, o, es, rfl, hk, hos⟩ := hu.l.ok
      cases es with
      | nil => exact (hne (by simp [xsOf])).elim
      | cons x xs => rfl
    rw [WF_mat (by simp only [extV, he, Option.bind_some, hls, hno]) ho]
    refine ⟨R, by rw [hls]; exact hc hne, ?_⟩
    rcases hR hne with ⟨e, _⟩ | ⟨hx, rfl⟩
    · exact (hne (by simpa using e)).elim
    · refine ⟨.ms (off + d) (nextG h (off + d)) 0 (ints (xsOf u)).length, hset h (off + d) (.row (nextG h (off + d)) T 1 (ints (xsOf u))), ?_, hK _ _ (.inr ⟨hx, _, rfl, by simp [hset]⟩) (fun x hxx => by simp [hset, hxx])⟩
      have hfl : (ints (xsOf u)).all flat = true := by
        rw [List.all_eq_true]; intro y hyy
        simp only [ints, List.mem_map] at hyy
        obtain ⟨n, _, rfl⟩ := hyy
        rfl
      simp only [mat, hm]
      rw [if_pos ⟨hfl, hx⟩]
/-- append to nothing -/
theorem wr_ints {E : Env} {h : Heap} {key t k0 : Nat} {v : AV} {K : AV → Heap → Prop} (hv : IsI v) (ht : slT E t = true) (hs : E.size (elT E t) = 1) (hl : (xsOf v).length ≤ 1073741824)
    (hK : ∀ v' h', Row h' key (elT E t) 1 k0 v' (ints (xsOf v)) → (∀ k, k ≠ key → h' k = h k) → K v' h') : WR E h key t (.sl k0 .lit []) v K ⟨⟩ := by
  obtain ⟨k, o, es, rfl, hk, ho⟩ := hv.l.ok
  have hes : es = ints (xsOf (.sl k o es)) := by have := hv.ints; simpa using this
  generalize xsOf (.sl k o es) = ys at *
  subst hes
  unfold WR
  by_cases hy : ys = []
  · subst hy
    refine ⟨.sl k0 .no [], h, ?_, hK _ _ (.inl ⟨rfl, rfl⟩) fun _ _ => rfl⟩
    simp only [appendR, slT_ty ht, elemsOf, hs]
    rw [if_neg (by decide), if_pos (by simp)]
  · have hne : ints ys ≠ [] := by simpa using hy
    have hk1 : k = 1 := by rcases hk with hk | hk; exact absurd hk hne; exact hk
    have hall : ((ints ys).all fun y => y.cells.length == 1 && y.cells.all AV.one) = true := by
      rw [List.all_eq_true]; intro y hyy
      simp only [ints, List.mem_map] at hyy
      obtain ⟨n, _, rfl⟩ := hyy
      rfl
    have hfl : (ints ys).all flat = true := by
      rw [List.all_eq_true]; intro y hyy
      simp only [ints, List.mem_map] at hyy
      obtain ⟨n, _, rfl⟩ := hyy
      rfl
    refine ⟨.ms key (nextG h key) 0 (ints ys).length, hset h key (.row (nextG h key) (elT E t) 1 (ints ys)), ?_, hK _ _ (.inr ⟨hne, _, rfl, by simp [hset]⟩) (fun x hxx => by simp [hset, hxx])⟩
    simp only [appendR, slT_ty ht, elemsOf, hs]
    rw [if_neg (by decide), if_neg (by simpa using hne), if_pos ⟨hk1, by simpa [maxRow] using hl, hfl, hall⟩]
/-- a struct of a number and a row; with a flag -/
theorem cf_ctx {E : Env} {fid d g : Nat} {args : List AV} {s : Nat → AV} {h : Heap} {off nt : Nat} {K : AV → Heap → Prop} {tg : Tg ((⟨s, h, off, nt⟩ : St), K)} {kd : IntKind} {a : Int} {R : AV} {k k0 T key : Nat} {es : List AV}
    (hc : EvC E g (lows h args) (.agg [.int kd a, R])) (hR : OwnR R k k0 T key es) (hf : es.all flat = true) (he : mat3B E fid d g = true)
    (hK : ∀ v' h', Row h' (off + d) T k k0 v' es → (∀ x, x ≠ off + d → h' x = h x) → K (.agg [.int kd a, v']) h') : CF E fid (some d) g args ⟨s, h, off, nt⟩ K tg := by
  refine cf_mat3 he hc ?_
  obtain ⟨v', h', h1, h2, h3⟩ := mat3_one (base := off + d) (h := h) (r := .agg [.int kd a, R]) (v := .un) (C := fun v => .agg [.int kd a, v]) (n' := 0) hR hf fun v L hm => by
    simp [matG, matGs, flat1, hm]
  exact ⟨_, _, h1, hK _ _ h2 h3⟩
theorem cf_ctxb {E : Env} {fid d g : Nat} {args : List AV} {s : Nat → AV} {h : Heap} {off nt : Nat} {K : AV → Heap → Prop} {tg : Tg ((⟨s, h, off, nt⟩ : St), K)} {kd : IntKind} {a : Int} {b : Bool} {R : AV} {k k0 T key : Nat} {es : List AV}
    (hc : EvC E g (lows h args) (.tup [.agg [.int kd a, R], .bool b])) (hR : OwnR R k k0 T key es) (hf : es.all flat = true) (he : mat3B E fid d g = true)
    (hK : ∀ v' h', Row h' (off + d) T k k0 v' es → (∀ x, x ≠ off + d → h' x = h x) → K (.tup [.agg [.int kd a, v'], .bool b]) h') : CF E fid (some d) g args ⟨s, h, off, nt⟩ K tg := by
  refine cf_mat3 he hc ?_
  obtain ⟨v', h', h1, h2, h3⟩ := mat3_one (base := off + d) (h := h) (r := .tup [.agg [.int kd a, R], .bool b]) (v := .un) (C := fun v => .tup [.agg [.int kd a, v], .bool b]) (n' := 0) hR hf fun v L hm => by
    simp [matG, matGs, flat1, hm]
  exact ⟨_, _, h1, hK _ _ h2 h3⟩
theorem cf_part {E : Env} {fid d g : Nat} {args : List AV} {s : Nat → AV} {h : Heap} {off nt : Nat} {K : AV → Heap → Prop} {tg : Tg ((⟨s, h, off, nt⟩ : St), K)} {kd : IntKind} {a : Int} {R R2 : AV} {k k0 T key k2 k02 T2 key2 : Nat} {es es2 : List AV}
    (hc : EvC E g (lows h args) (.agg [.int kd a, R, R2])) (hR : OwnR R k k0 T key es) (hf : es.all flat = true) (hR2 : OwnR R2 k2 k02 T2 key2 es2) (hf2 : es2.all flat = true) (hne : key ≠ key2) (he : mat3B E fid d g = true)
    (hK : ∀ v' v2' h', Row h' (off + d) T k k0 v' es → Row h' (off + d + 1000) T2 k2 k02 v2' es2 → (∀ x, x ≠ off + d → x ≠ off + d + 1000 → h' x = h x) → K (.agg [.int kd a, v', v2']) h') : CF E fid (some d) g args ⟨s, h, off, nt⟩ K tg := by
  refine cf_mat3 he hc ?_
  obtain ⟨v', v2', h', h1, h2, h3, h4⟩ := mat3_two (base := off + d) (h := h) (r := .agg [.int kd a, R, R2]) (C := fun v v2 => .agg [.int kd a, v, v2]) hR hf hR2 hf2 hne fun v L v2 L2 hm hm2 => by
    simp [matG, matGs, flat1, hm, hm2]
  exact ⟨_, _, h1, hK _ _ _ h2 h3 h4⟩
theorem cf_partb {E : Env} {fid d g : Nat} {args : List AV} {s : Nat → AV} {h : Heap} {off nt : Nat} {K : AV → Heap → Prop} {tg : Tg ((⟨s, h, off, nt⟩ : St), K)} {kd : IntKind} {a : Int} {b : Bool} {R R2 : AV} {k k0 T key k2 k02 T2 key2 : Nat} {es es2 : List AV}
    (hc : EvC E g (lows h args) (.tup [.agg [.int kd a, R, R2], .bool b])) (hR : OwnR R k k0 T key es) (hf : es.all flat = true) (hR2 : OwnR R2 k2 k02 T2 key2 es2) (hf2 : es2.all flat = true) (hne : key ≠ key2) (he : mat3B E fid d g = true)
    (hK : ∀ v' v2' h', Row h' (off + d) T k k0 v' es → Row h' (off + d + 1000) T2 k2 k02 v2' es2 → (∀ x, x ≠ off + d → x ≠ off + d + 1000 → h' x = h x) → K (.tup [.agg [.int kd a, v', v2'], .bool b]) h') : CF E fid (some d) g args ⟨s, h, off, nt⟩ K tg := by
  refine cf_mat3 he hc ?_
  obtain ⟨v', v2', h', h1, h2, h3, h4⟩ := mat3_two (base := off + d) (h := h) (r := .tup [.agg [.int kd a, R, R2], .bool b]) (C := fun v v2 => .tup [.agg [.int kd a, v, v2], .bool b]) hR hf hR2 hf2 hne fun v L v2 L2 hm hm2 => by
    simp [matG, matGs, flat1, hm, hm2]
  exact ⟨_, _, h1, hK _ _ _ h2 h3 h4⟩

/-! rows of any elements that grow -/
def BufL (h : Heap) (T key k0 sz : Nat) (v : AV) (es : List AV) : Prop :=
  (es = [] ∧ v = .sl k0 .lit []) ∨ (es ≠ [] ∧ ∃ g, v = .sl sz (.tok key g) es ∧ h key = some (.tok g T sz es.length))
def bufLR (T key k0 sz : Nat) (es : List AV) : AV := if es = [] then .sl k0 .lit [] else .sl sz (.ex T key) es
def bufLC (k0 sz : Nat) (es : List AV) : AV := if es = [] then .sl k0 .lit [] else .sl sz .no es
theorem bufL_nil (h : Heap) (T key k0 sz : Nat) : BufL h T key k0 sz (.sl k0 .lit []) [] := .inl ⟨rfl, rfl⟩
theorem BufL.expo {h : Heap} {T key k0 sz : Nat} {v : AV} {es : List AV} (hB : BufL h T key k0 sz v es) : Ev.expo h v = bufLR T key k0 sz es := by
  rcases hB with ⟨rfl, rfl⟩ | ⟨hx, g, rfl, hk⟩
  · simp [bufLR]
  · simp [bufLR, hx, Ev.expo, hk]
@[simp] theorem bufLR_noEx (T key k0 sz : Nat) (es : List AV) : noEx (bufLR T key k0 sz es) = bufLC k0 sz es := by
  unfold bufLR bufLC; split <;> simp
theorem BufL.len {E : Env} {h : Heap} {T key k0 sz t : Nat} {v : AV} {es : List AV} (hB : BufL h T key k0 sz v es) (ht : slT E t = true) : lenV E t v = some (.int .i64 es.length) := by
  rcases hB with ⟨rfl, rfl⟩ | ⟨hx, g, rfl, hk⟩
  · rw [len_sl _ _ ht]
  · rw [len_sl _ _ ht]
theorem bufLC_len {E : Env} {k0 sz t : Nat} {es : List AV} (ht : slT E t = true) : lenV E t (bufLC k0 sz es) = some (.int .i64 es.length) := by
  unfold bufLC; split
  · rename_i h; rw [len_sl _ _ ht, h]
  · rw [len_sl _ _ ht]
theorem BufL.keep {h h' : Heap} {T key k0 sz : Nat} {v : AV} {es : List AV} (hB : BufL h T key k0 sz v es) (hk : h' key = h key) : BufL h' T key k0 sz v es := by
  rcases hB with ⟨rfl, rfl⟩ | ⟨hx, g, rfl, hg⟩
  · exact .inl ⟨rfl, rfl⟩
  · exact .inr ⟨hx, g, rfl, hk.trans hg⟩
theorem BufL.one {h : Heap} {T key k0 sz : Nat} {v : AV} {es : List AV} (hB : BufL h T key k0 sz v es) : v.one = true := by
  rcases hB with ⟨rfl, rfl⟩ | ⟨hx, g, rfl, hk⟩ <;> rfl
theorem BufL.cells {h : Heap} {T key k0 sz : Nat} {v : AV} {es : List AV} (hB : BufL h T key k0 sz v es) : v.cells = [v] := by
  rcases hB with ⟨rfl, rfl⟩ | ⟨hx, g, rfl, hk⟩ <;> rfl
theorem BufL.low {h : Heap} {T key k0 sz : Nat} {v : AV} {es : List AV} (hB : BufL h T key k0 sz v es) : ∀ h', Ev.low h' v = bufLC k0 sz es := by
  intro h'
  rcases hB with ⟨rfl, rfl⟩ | ⟨hx, g, rfl, hk⟩
  · simp [bufLC]
  · simp [bufLC, hx]
theorem ownR_bufL (T key k0 sz : Nat) (es : List AV) : OwnR (bufLR T key k0 sz es) sz k0 T key es := by
  unfold bufLR OwnR; split
  · rename_i h; exact .inl ⟨h, .inr rfl⟩
  · rename_i h; exact .inr ⟨h, rfl⟩
theorem wa_pushL {E : Env} {h : Heap} {ko key k0 t sz : Nat} {v : AV} {o : Own} {e : AV} {es : List AV} {K : AV → Heap → Prop} (hB : BufL h (elT E t) key k0 sz v es) (ht : slT E t = true) (hs : E.size (elT E t) = sz) (hz : sz ≠ 0)
    (he : e.cells.length = sz ∧ e.cells.all AV.one = true) (hko : es = [] → ko = key) (hl : es.length < 1073741824)
    (hK : ∀ v' h', BufL h' (elT E t) key k0 sz v' (es ++ [e]) → (∀ k, k ≠ key → h' k = h k) → K v' h') : WA E h ko t v (.sl sz o [e]) K ⟨⟩ := by
  have hall : (([e] : List AV).all fun y => y.cells.length == sz && y.cells.all AV.one) = true := by simp [he.1, he.2]
  unfold WA
  rcases hB with ⟨rfl, rfl⟩ | ⟨hx, g, rfl, hg⟩
  · obtain rfl := hko rfl
    refine ⟨.sl sz (.tok ko (nextG h ko)) [e], hset h ko (.tok (nextG h ko) (elT E t) sz 1), ?_, hK _ _ (.inr ⟨by simp, _, rfl, by simp [hset]⟩) (fun k hk => by simp [hset, hk])⟩
    simp only [appendV, slT_ty ht, elemsOf, hs]
    rw [if_neg hz, if_neg (by simp), if_pos ⟨.inl (by trivial), by trivial, by simp [maxRow], hall⟩]
    simp
  · refine ⟨.sl sz (.tok key g) (es ++ [e]), hset h key (.tok g (elT E t) sz (es ++ [e]).length), ?_, hK _ _ (.inr ⟨by simp, _, rfl, by simp [hset]⟩) (fun k hk => by simp [hset, hk])⟩
    simp only [appendV, slT_ty ht, elemsOf, hs]
    rw [if_neg hz, if_neg (by simp), if_pos ⟨.inr (by trivial), by trivial, by simp [maxRow]; omega, hall⟩]
    simp [hg]
/-- a row that grows, handed on -/
theorem Buf.low {h : Heap} {T key k0 : Nat} {v : AV} {xs : List Int} (hB : Buf h T key k0 v xs) : ∀ h', Ev.low h' v = bufC k0 xs := by
  intro h'
  rcases hB with ⟨rfl, rfl⟩ | ⟨hx, g, rfl, hk⟩
  · simp [bufC]
  · simp [bufC, hx]
theorem Buf.one {h : Heap} {T key k0 : Nat} {v : AV} {xs : List Int} (hB : Buf h T key k0 v xs) : v.one = true := by
  rcases hB with ⟨rfl, rfl⟩ | ⟨hx, g, rfl, hk⟩ <;> rfl
theorem Buf.cells {h : Heap} {T key k0 : Nat} {v : AV} {xs : List Int} (hB : Buf h T key k0 v xs) : v.cells = [v] := by
  rcases hB with ⟨rfl, rfl⟩ | ⟨hx, g, rfl, hk⟩ <;> rfl
@[simp] theorem noEx_bufC (k0 : Nat) (xs : List Int) : noEx (bufC k0 xs) = bufC k0 xs := by unfold bufC; split <;> simp
@[simp] theorem expo_bufC (h : Heap) (k0 : Nat) (xs : List Int) : Ev.expo h (bufC k0 xs) = bufC k0 xs := by unfold bufC; split <;> simp
@[simp] theorem low_bufC (h : Heap) (k0 : Nat) (xs : List Int) : Ev.low h (bufC k0 xs) = bufC k0 xs := by unfold bufC; split <;> simp
@[simp] theorem one_bufC (k0 : Nat) (xs : List Int) : (bufC k0 xs).one = true := by unfold bufC; split <;> rfl
@[simp] theorem cells_bufC (k0 : Nat) (xs : List Int) : (bufC k0 xs).cells = [bufC k0 xs] := by unfold bufC; split <;> rfl
@[simp] theorem hasKey_bufC (κ k0 : Nat) (xs : List Int) : hasKey κ (bufC k0 xs) = false := by unfold bufC; split <;> simp
theorem isI_noKey {v : AV} (hv : IsI v) (κ : Nat) : hasKey κ v = false := by
  obtain ⟨k, o, es, rfl, _, _⟩ := hv.l.ok
  simp
/-- the row's place, where it may be empty yet -/
theorem Buf.rekey {h : Heap} {T key k0 : Nat} {v : AV} {xs : List Int} (hB : Buf h T key k0 v xs) (key' : Nat) : Buf h T (if xs.length = 0 then key' else key) k0 v xs := by
  rcases hB with ⟨rfl, rfl⟩ | ⟨hx, g, rfl, hk⟩
  · exact .inl ⟨rfl, rfl⟩
  · have : xs.length ≠ 0 := fun e => hx (List.eq_nil_of_length_eq_zero e)
    rw [if_neg this]; exact .inr ⟨hx, g, rfl, hk⟩
/-- the marks -/
def upTo (k : Int) (n : Nat) : List Int := (List.range n).map fun (j : Nat) => k + (j : Int)
@[simp] theorem upTo_length (k : Int) (n : Nat) : (upTo k n).length = n := by simp [upTo]
theorem upTo_get (k : Int) {n j : Nat} (h : j < n) : (upTo k n)[j]? = some (k + j) := by simp [upTo, h]
theorem upTo_nth (k : Int) {n j : Nat} (h : j < n) : nth (upTo k n) j = k + j := by rw [nth_eq (by simpa using h)]; simp [upTo]
theorem upTo_ext {k : Int} {ys : List Int} {n : Nat} (hl : ys.length = n) (h : ∀ j, j < n → ys[j]? = some (k + j)) : ys = upTo k n := by
  apply List.ext_getElem?
  intro j
  by_cases hj : j < n
  · rw [h j hj, upTo_get k hj]
  · rw [List.getElem?_eq_none (by omega), List.getElem?_eq_none (by simp; omega)]
end Go.Proofs.YthdeaenleimbeaaDoor.Ev
