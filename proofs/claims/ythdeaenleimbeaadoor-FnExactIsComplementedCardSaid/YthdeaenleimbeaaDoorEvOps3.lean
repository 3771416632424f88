/- Slicing, and new blocks: what the evaluator says is what the machine does. Conditions: none. -/
import Derived.Test.YthdeaenleimbeaaDoorEvOps2
namespace Go.Proofs.YthdeaenleimbeaaDoor.Ev
open Go.RowKit
set_option linter.unusedVariables false
set_option linter.unusedSimpArgs false
set_option linter.unusedSectionVars false

/-- an operand that may lack -/
def VRo (c : Cx) : Option AV → Option Value → Prop
  | none, none => True
  | some x, some v => VR x c v
  | _, _ => False

theorem run_boundV {P : Program} {w : World} {c : Cx} {x : AV} {rx : Value} {d n y : Nat} {code : BoundsCode} (h : boundV (some x) d = some n) (hx : VR x c rx) (hy : n ≤ y) :
    (Instr.sliceBound rx y code).run P w = .ok n w := by
  unfold boundV at h
  cases x <;> try (cases h; done)
  rename_i k i
  simp only at h
  split at h
  · rename_i h0
    obtain rfl := Option.some.inj h
    simp only [VR] at hx
    subst hx
    have : i ≤ (y : Int) := by omega
    simp [Instr.sliceBound, asIntOf, h0, this]
  · cases h

theorem run_bounds {P : Program} {w : World} {c : Cx} {sl : Bool} {len cap a b m : Nat} {lo hi mx : Option AV} {rlo rhi rmx : Option Value}
    (h1 : boundV hi len = some b) (h2 : boundV lo 0 = some a) (h3 : boundV mx b = some m) (hm : m = b) (hab : a ≤ b) (hbl : b ≤ len) (hlc : len ≤ cap) (hhi : mx.isSome = true → hi.isSome = true)
    (v1 : VRo c hi rhi) (v2 : VRo c lo rlo) (v3 : VRo c mx rmx) :
    (Instr.sliceBounds sl len cap rlo rhi rmx).run P w = .ok (a, b, if mx.isSome then b else cap) w := by
  have ehi : ∀ y code, b ≤ y → ∀ x rx, hi = some x → rhi = some rx → (Instr.sliceBound rx y code).run P w = .ok b w := by
    intro y code hy x rx e1 e2
    subst e1; subst e2
    exact run_boundV h1 v1 hy
  have elo : ∀ y code, a ≤ y → ∀ x rx, lo = some x → rlo = some rx → (Instr.sliceBound rx y code).run P w = .ok a w := by
    intro y code hy x rx e1 e2
    subst e1; subst e2
    exact run_boundV h2 v2 hy
  have emx : ∀ y code, b ≤ y → ∀ x rx, mx = some x → rmx = some rx → (Instr.sliceBound rx y code).run P w = .ok b w := by
    intro y code hy x rx e1 e2
    subst e1; subst e2
    exact run_boundV (hm ▸ h3) v3 hy
  cases mx with
  | none =>
    cases rmx with
    | some _ => exact v3.elim
    | none =>
      cases hi with
      | none =>
        cases rhi with
        | some _ => exact v1.elim
        | none =>
          have hb : len = b := by simpa [boundV] using h1
          subst hb
          cases lo with
          | none =>
            cases rlo with
            | some _ => exact v2.elim
            | none =>
              have : 0 = a := by simpa [boundV] using h2
              subst this
              simp [Instr.sliceBounds]
          | some x =>
            cases rlo with
            | none => exact v2.elim
            | some rx => simp [Instr.sliceBounds, elo len .sliceB hab x rx rfl rfl]
      | some xh =>
        cases rhi with
        | none => exact v1.elim
        | some rh =>
          have e1 : ∀ code, (Instr.sliceBound rh cap code).run P w = .ok b w := fun code => ehi cap code (by omega) xh rh rfl rfl
          cases lo with
          | none =>
            cases rlo with
            | some _ => exact v2.elim
            | none =>
              have : 0 = a := by simpa [boundV] using h2
              subst this
              simp [Instr.sliceBounds, e1]
          | some x =>
            cases rlo with
            | none => exact v2.elim
            | some rx => simp [Instr.sliceBounds, e1, elo b .sliceB hab x rx rfl rfl]
  | some xm =>
    cases rmx with
    | none => exact v3.elim
    | some rm =>
      have e0 : ∀ code, (Instr.sliceBound rm cap code).run P w = .ok b w := fun code => emx cap code (by omega) xm rm rfl rfl
      cases hi with
      | none => simp at hhi
      | some xh =>
        cases rhi with
        | none => exact v1.elim
        | some rh =>
          have e1 : ∀ code, (Instr.sliceBound rh b code).run P w = .ok b w := fun code => ehi b code (by omega) xh rh rfl rfl
          cases lo with
          | none =>
            cases rlo with
            | some _ => exact v2.elim
            | none =>
              have : 0 = a := by simpa [boundV] using h2
              subst this
              simp [Instr.sliceBounds, e0, e1]
          | some x =>
            cases rlo with
            | none => exact v2.elim
            | some rx => simp [Instr.sliceBounds, e0, e1, elo b .slice3C hab x rx rfl rfl]

section
variable {P : Program} {E : Env} (hE : EnvOk E P) {B : Nat → Nat → Prop} {w0 w : World} {h : Heap} {M : Mp} (H : HR B w0 w h M)
include hE H

theorem run_sliceV {t : Nat} {x v : AV} {rx : Value} {lo hi mx : Option AV} {rlo rhi rmx : Option Value} (hl : sliceV E h t x lo hi mx = some v) (hx : VR x (cx B w0.heap.size w h M) rx)
    (v1 : VRo (cx B w0.heap.size w h M) hi rhi) (v2 : VRo (cx B w0.heap.size w h M) lo rlo) (v3 : VRo (cx B w0.heap.size w h M) mx rmx) (hhi : mx.isSome = true → hi.isSome = true) :
    Gives P w (cx B w0.heap.size w h M) (Instr.sliceAt t rx rlo rhi rmx) v := by
  have hcx := cx_x B w0.heap.size w h M
  unfold sliceV at hl
  cases hs : E.ty t <;> rw [hs] at hl <;> try (cases hl; done)
  · cases x <;> try (cases hl; done)
    rename_i s
    simp only [Option.bind_eq_some_iff] at hl
    obtain ⟨b, hb, a, ha, hl⟩ := hl
    split at hl
    · rename_i hc
      obtain rfl := Option.some.inj hl
      simp only [VR] at hx
      subst hx
      have hmn : mx = none := by simpa using hc.2.2
      subst hmn
      cases rmx with
      | some _ => exact v3.elim
      | none =>
        have hb' := run_bounds (P := P) (w := w) (sl := false) (cap := s.size) (mx := none) hb ha (by simp [boundV]) rfl hc.1 hc.2.1 (Nat.le_refl _) (by simp) v1 v2 (rmx := none) trivial
        refine ⟨.string (s.extract a b), ?_, by simp [VR]⟩
        have hu := ty_str hE hs
        simp [Instr.sliceAt, run_underlying hu, Instr.slice, hb']
    · cases hl
  · rename_i e
    simp only at hl
    split at hl
    · cases hl
    rename_i hsz
    have hu := ty_sl hE hs
    have run : ∀ (p : Option Addr) (len cap a b : Nat), boundV hi len = some b → boundV lo 0 = some a → boundV mx b = some b → a ≤ b → b ≤ len → len ≤ cap →
        (Instr.sliceAt t (.slice p len cap) rlo rhi rmx).run P w = .ok (.slice (if (if mx.isSome then b else cap) = a then p else p.map (·.add (a * E.size e))) (b - a) ((if mx.isSome then b else cap) - a)) w := by
      intro p len cap a b h1 h2 h3 hab hbl hlc
      have hb' := run_bounds (P := P) (w := w) (sl := true) h1 h2 h3 rfl hab hbl hlc hhi v1 v2 v3
      simp [Instr.sliceAt, run_underlying hu, Instr.slice, hb', run_sizeOf hE w hsz]
    cases x <;> try (cases hl; done)
    · rename_i k o es
      simp only [Option.bind_eq_some_iff] at hl
      obtain ⟨b, hb, a, ha, m, hm, hl⟩ := hl
      split at hl
      case isFalse => cases hl
      rename_i hc
      obtain ⟨hab, hbl, rfl, hk⟩ := hc
      obtain rfl := Option.some.inj hl
      have fin : ∀ (o' : Own) (p : Option Addr) (cap : Nat), o' ≠ .brw ∨ o = .brw → (∀ T key, o' ≠ .ex T key) → (∀ T key, o ≠ .ex T key) → es.length ≤ cap → cap ≤ maxLen → (p = none → cap = 0) →
          (es ≠ [] → ∃ b ofs, p = some ⟨b, ofs, none⟩ ∧ VRm es (cx B w0.heap.size w h M).el ((cx B w0.heap.size w h M).of o) b ofs k) →
          (o = .brw → o' = .brw) →
          OwnOk (cx B w0.heap.size w h M).l (if (if mx.isSome then m else cap) = a then p else p.map (·.add (a * E.size e))) (m - a) ((if mx.isSome then m else cap) - a) o' →
          Gives P w (cx B w0.heap.size w h M) (Instr.sliceAt t (.slice p es.length cap) rlo rhi rmx) (.sl k o' ((es.drop a).take (m - a))) := by
        intro o' p cap hbrw hex hex2 h1 h2 h3 h4 hbr2 h5
        refine ⟨_, run p es.length cap a m hb ha hm hab hbl h1, ?_⟩
        have hlen : ((es.drop a).take (m - a)).length = m - a := by rw [List.length_take, List.length_drop]; omega
        have hcap : m - a ≤ (if mx.isSome then m else cap) - a := by split <;> omega
        have hV : VR (.sl k o' ((es.drop a).take (m - a))) (cx B w0.heap.size w h M) (.slice (if (if mx.isSome then m else cap) = a then p else p.map (·.add (a * E.size e))) (m - a) ((if mx.isSome then m else cap) - a)) ↔
            ∃ a' cap', (Value.slice (if (if mx.isSome then m else cap) = a then p else p.map (·.add (a * E.size e))) (m - a) ((if mx.isSome then m else cap) - a)) = .slice a' ((es.drop a).take (m - a)).length cap' ∧ ((es.drop a).take (m - a)).length ≤ cap' ∧ cap' ≤ maxLen ∧ (a' = none → cap' = 0) ∧
              ((es.drop a).take (m - a) ≠ [] → ∃ b ofs, a' = some ⟨b, ofs, none⟩ ∧ VRm ((es.drop a).take (m - a)) (cx B w0.heap.size w h M).el ((cx B w0.heap.size w h M).of o') b ofs k) ∧ OwnOk (cx B w0.heap.size w h M).l a' ((es.drop a).take (m - a)).length cap' o' := by
          cases o' with
          | ex T key => exact (hex T key rfl).elim
          | _ => simp only [VR]
        rw [hV, hlen]
        refine ⟨_, _, rfl, hcap, ?_, ?_, ?_, h5⟩
        · split <;> omega
        · intro hp
          by_cases e1 : (if mx.isSome then m else cap) = a
          · omega
          · rw [if_neg e1] at hp
            cases p with
            | none => have := h3 rfl; have : (if mx.isSome then m else cap) = 0 := by split <;> omega
                      omega
            | some _ => simp at hp
        · intro hne
          have hlt : a < m := by
            rcases Nat.lt_or_ge a m with h | h
            · exact h
            · exact (hne (by rw [Nat.sub_eq_zero_of_le h]; simp)).elim
          have hes : es ≠ [] := by intro e0; rw [e0] at hbl; simp at hbl; omega
          obtain ⟨b, ofs, rfl, hmm⟩ := h4 hes
          have hk' : k = E.size e := hk.resolve_left hes
          have hne2 : (if mx.isSome then m else cap) ≠ a := by split <;> omega
          rw [if_neg hne2]
          refine ⟨b, ofs + a * k, by rw [Option.map_some, Addr.add_lit, hk'], ?_⟩
          have hof : ∀ b i x, (cx B w0.heap.size w h M).of o b i x → (cx B w0.heap.size w h M).of o' b i x := by
            intro b i x hx
            rcases hbrw with hb1 | hb1
            · cases o with
              | brw => exact (hb1 (hbr2 rfl)).elim
              | _ => cases o' <;> first | exact hx | exact ⟨hx.1, hx.2.1⟩
            · subst hb1; rw [hbr2 rfl]; exact hx
          exact VRm.mono (Gr.refl _) hof _ ((hmm.drop a).take (m - a))
      have fin2 : ∀ (p : Option Addr) (cap : Nat), (∀ T key, o ≠ .ex T key) → es.length ≤ cap → cap ≤ maxLen → (p = none → cap = 0) →
          (es ≠ [] → ∃ b ofs, p = some ⟨b, ofs, none⟩ ∧ VRm es (cx B w0.heap.size w h M).el ((cx B w0.heap.size w h M).of o) b ofs k) → OwnOk (cx B w0.heap.size w h M).l p es.length cap o →
          Gives P w (cx B w0.heap.size w h M) (Instr.sliceAt t (.slice p es.length cap) rlo rhi rmx) (.sl k (if o = .brw then .brw else if mx.isSome then .lit else if a = 0 ∧ m = es.length then o else .no) ((es.drop a).take (m - a))) := by
        intro p cap h0 h1 h2 h3 h4 h5
        by_cases hob : o = .brw
        · subst hob
          rw [if_pos rfl]
          exact fin .brw p cap (.inr rfl) (by simp) (by simp) h1 h2 h3 h4 (fun _ => rfl) trivial
        · rw [if_neg hob]
          by_cases hms : mx.isSome = true
          · rw [if_pos hms]
            exact fin .lit p cap (.inl (by simp)) (by simp) h0 h1 h2 h3 h4 (fun e => (hob e).elim) (by simp [OwnOk, hms])
          · rw [if_neg hms]
            by_cases hfull : a = 0 ∧ m = es.length
            · rw [if_pos hfull]
              obtain ⟨rfl, rfl⟩ := hfull
              refine fin o p cap (.inl hob) h0 h0 h1 h2 h3 h4 (fun e => e) ?_
              have hmf : mx.isSome = false := by simpa using hms
              simp only [hmf, Bool.false_eq_true, if_false, Nat.zero_mul, Addr.add_zero', Option.map_id', id_eq, Nat.sub_zero, ite_self]
              exact h5
            · rw [if_neg hfull]
              exact fin .no p cap (.inl (by simp)) (by simp) h0 h1 h2 h3 h4 (fun e => (hob e).elim) trivial
      cases o with
      | ex => simp only [VR] at hx; exact (hcx _ _ hx).elim
      | _ =>
        simp only [VR] at hx
        obtain ⟨p, cap, rfl, h1, h2, h3, h4, h5⟩ := hx
        exact fin2 p cap (by simp) h1 h2 h3 h4 h5
    · rename_i key g off len
      simp only at hl
      cases hk : h key with
      | none => rw [hk] at hl; cases hl
      | some blk =>
        rw [hk] at hl
        cases blk with
        | row g' T k es =>
          simp only [Option.bind_eq_some_iff] at hl
          obtain ⟨b, hb, a, ha, hl⟩ := hl
          split at hl
          case isFalse => cases hl
          rename_i hc
          obtain ⟨hg, hkk, hab, hbl, hmx⟩ := hc
          obtain rfl := Option.some.inj hl
          have hmn : mx = none := by simpa using hmx
          subst hmn
          simp only [VR] at hx
          obtain ⟨p, cap, rfl, q, hq, h2, h3⟩ := hx
          have hq' := cx_l hk hq
          subst hq'
          obtain ⟨h4, hp, h5, h6, h7⟩ := h3 hg
          refine ⟨.slice (some (if cap = a then p else p.add (a * E.size e))) (b - a) (cap - a), ?_, ?_⟩
          · rw [run _ len cap a b hb ha (by simp [boundV]) hab hbl h5]
            by_cases hca : cap = a <;> simp [hca]
          simp only [VR]
          refine ⟨_, cap - a, rfl, _, hq, h2, fun e0 => ⟨h4, fun hne => ?_, by omega, by omega, by omega⟩⟩
          obtain rfl := hp (by omega)
          rw [if_neg (by omega), Addr.add_lit, ← hkk]
          simp only [Blk.k]
          rw [Nat.add_mul]
        | var => cases hl
        | tok => cases hl
end

end Go.Proofs.YthdeaenleimbeaaDoor.Ev
