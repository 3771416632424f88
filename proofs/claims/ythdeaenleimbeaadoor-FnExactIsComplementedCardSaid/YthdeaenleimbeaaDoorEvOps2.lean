/- Addresses, slices, new blocks: what the evaluator says is what the machine does. Conditions: none. -/
import Derived.Test.YthdeaenleimbeaaDoorEvOps
namespace Go.Proofs.YthdeaenleimbeaaDoor.Ev
open Go.RowKit
set_option linter.unusedVariables false
set_option linter.unusedSimpArgs false
set_option linter.unusedSectionVars false

theorem VRm.get {c : Cx} {C : CellP} : ∀ {es : List AV} {b o k : Nat}, VRm es c C b o k → ∀ {i : Nat} {e : AV}, es[i]? = some e → ∃ rv, VR e c rv ∧ rv.cells.size = k ∧ CellsAt C b (o + i * k) rv
  | [], _, _, _, _, i, e, hi => by simp at hi
  | x :: xs, b, o, k, h, i, e, hi => by
    simp only [VRm] at h
    cases i with
    | zero => simp at hi; subst hi; simpa using h.1
    | succ i =>
      simp only [List.getElem?_cons_succ] at hi
      obtain ⟨rv, h1, h2, h3⟩ := VRm.get h.2 hi
      refine ⟨rv, h1, h2, ?_⟩
      have e : o + (i + 1) * k = o + k + i * k := by rw [Nat.add_mul]; omega
      rw [e]; exact h3

theorem VRm.flat {c : Cx} {C : CellP} : ∀ {es : List AV} {b o k : Nat}, VRm es c C b o k → ∃ rvs, VRl es c rvs ∧ (∀ r ∈ rvs, r.cells.size = k) ∧ ∀ j x, (flatC rvs)[j]? = some x → C b (o + j) x
  | [], _, _, _, _ => ⟨[], by simp [VRl], by simp, by simp [flatC]⟩
  | x :: xs, b, o, k, h => by
    simp only [VRm] at h
    obtain ⟨⟨rv, h1, h2, h3⟩, h4⟩ := h
    obtain ⟨rvs, k1, k2, k3⟩ := VRm.flat h4
    refine ⟨rv :: rvs, by simp only [VRl]; exact ⟨rv, rvs, rfl, h1, k1⟩, fun r hr => ?_, fun j y hj => ?_⟩
    · rcases List.mem_cons.1 hr with e | e
      · rw [e]; exact h2
      · exact k2 r e
    · have e : flatC (rv :: rvs) = rv.cells.toList ++ flatC rvs := rfl
      have hl : rv.cells.toList.length = k := by simpa using h2
      rw [e] at hj
      by_cases hjk : j < k
      · rw [List.getElem?_append_left (by omega)] at hj
        exact h3 j y hj
      · rw [List.getElem?_append_right (by omega), hl] at hj
        have := k3 _ y hj
        have e2 : o + k + (j - k) = o + j := by omega
        rwa [e2] at this

theorem VRm.mk {c : Cx} {C : CellP} : ∀ {es : List AV} {b o k : Nat} {rvs : List Value}, VRl es c rvs → (∀ r ∈ rvs, r.cells.size = k) → (∀ j x, (flatC rvs)[j]? = some x → C b (o + j) x) → VRm es c C b o k
  | [], _, _, _, _, _, _, _ => by simp [VRm]
  | x :: xs, b, o, k, rvs, h, hs, hc => by
    simp only [VRl] at h
    obtain ⟨v, ws, rfl, h1, h2⟩ := h
    have hl : v.cells.toList.length = k := by simpa using hs v (by simp)
    have e : flatC (v :: ws) = v.cells.toList ++ flatC ws := rfl
    simp only [VRm]
    refine ⟨⟨v, h1, hs v (by simp), fun j y hj => hc j y ?_⟩, VRm.mk h2 (fun r hr => hs r (by simp [hr])) fun j y hj => ?_⟩
    · rw [e, List.getElem?_append_left (List.getElem?_eq_some_iff.1 hj).1]; exact hj
    · have := hc (k + j) y (by rw [e, List.getElem?_append_right (by omega), hl, Nat.add_sub_cancel_left]; exact hj)
      rwa [← Nat.add_assoc] at this

theorem VRm.drop {c : Cx} {C : CellP} {es : List AV} {b o k : Nat} (h : VRm es c C b o k) (n : Nat) : VRm (es.drop n) c C b (o + n * k) k := by
  induction n generalizing es o with
  | zero => simpa using h
  | succ n ih =>
    cases es with
    | nil => simp [VRm]
    | cons x xs =>
      simp only [VRm] at h
      have := ih h.2
      have e : o + (n + 1) * k = o + k + n * k := by rw [Nat.add_mul]; omega
      rw [e]; simpa using this
theorem VRm.take {c : Cx} {C : CellP} {es : List AV} {b o k : Nat} (h : VRm es c C b o k) (n : Nat) : VRm (es.take n) c C b o k := by
  induction n generalizing es o with
  | zero => simp [VRm]
  | succ n ih =>
    cases es with
    | nil => simp [VRm]
    | cons x xs =>
      simp only [VRm] at h
      simp only [List.take_succ_cons, VRm]
      exact ⟨h.1, ih h.2⟩

theorem getElem?_of_map {α β : Type} {f : α → β} {l : List α} {i : Nat} {y : β} (h : (l.map f)[i]? = some y) : ∃ x, l[i]? = some x ∧ f x = y := by
  simpa [Option.map_eq_some_iff] using h

section
variable {P : Program} {E : Env} (hE : EnvOk E P) {w : World} {c : Cx}
include hE

theorem run_fieldA {s f : Nat} {x v : AV} {rx : Value} (h : fieldA E s x f = some v) (hx : VR x c rx) : Gives P w c (Instr.fieldAt s rx f) v := by
  unfold fieldA at h
  cases hs : E.ty s <;> rw [hs] at h <;> try (cases h; done)
  rename_i fs
  simp only at h
  cases hf : fs[f]? with
  | none => rw [hf] at h; cases h
  | some p =>
    obtain ⟨o, t⟩ := p
    rw [hf] at h
    simp only at h
    split at h
    · cases h
    rename_i hsz
    obtain ⟨fields, hu, rfl⟩ := ty_st hE hs
    obtain ⟨fd, hfd, he⟩ := getElem?_of_map hf
    have ho : fd.offset = o := congrArg Prod.fst he
    have htt : fd.type = t := congrArg Prod.snd he
    have hfd' : fields[f]? = some fd := by simpa using hfd
    have hs2 : (sizeOf fd.type).run P w = .ok (E.size t) w := by rw [htt]; exact run_sizeOf hE w hsz
    have key : ∀ a : Addr, (Instr.fieldAt s (.pointer (some a)) f).run P w = .ok (.pointer (some (a.add o))) w := by
      intro a
      simp [Instr.fieldAt, run_underlying hu, hfd', Instr.sureAddr, fieldPlace, hs2, hsz, ho]
    cases x <;> try (cases h; done)
    · obtain rfl := Option.some.inj h
      simp only [VR] at hx
      obtain ⟨a, rfl, q, hq, h2, h3⟩ := hx
      refine ⟨_, key a, ?_⟩
      simp only [VR]
      exact ⟨_, rfl, q, hq, h2, fun e => ⟨(h3 e).1, by rw [(h3 e).2, Addr.add_lit]⟩⟩
    · obtain rfl := Option.some.inj h
      simp only [VR] at hx
      obtain ⟨a, rfl, q, hq, h2, h3⟩ := hx
      refine ⟨_, key a, ?_⟩
      simp only [VR]
      exact ⟨_, rfl, q, hq, h2, fun e => ⟨(h3 e).1, by rw [(h3 e).2, Addr.add_lit, Nat.add_assoc]⟩⟩
    · obtain rfl := Option.some.inj h
      simp only [VR] at hx
      obtain ⟨b, o', rc, rfl, h2, h3⟩ := hx
      refine ⟨_, key _, ?_⟩
      simp only [VR]
      exact ⟨b, o', rc, by rw [Addr.add_lit, Nat.add_assoc], h2, h3⟩
end

theorem cx_el_el (c : Cx) : c.el.el = c.el := rfl

section
variable {P : Program} {E : Env} (hE : EnvOk E P) {B : Nat → Nat → Prop} {w0 w : World} {h : Heap} {M : Mp} (H : HR B w0 w h M)
include hE H

theorem run_indexA {t : Nat} {x i v : AV} {rx ri : Value} (hl : indexA E h t x i = some v) (hx : VR x (cx B w0.heap.size w h M) rx) (hi : VR i (cx B w0.heap.size w h M) ri) :
    Gives P w (cx B w0.heap.size w h M) (Instr.indexAt t rx ri) v := by
  have hcx := cx_x B w0.heap.size w h M
  unfold indexA at hl
  cases i <;> try (cases hl; done)
  rename_i ki n
  simp only [VR] at hi
  subst hi
  simp only at hl
  split at hl
  case isFalse => cases hl
  rename_i hn
  cases hs : E.ty t <;> rw [hs] at hl <;> try (cases hl; done)
  · rename_i e
    simp only at hl
    split at hl
    · cases hl
    rename_i hsz
    have hpe : P.elem t = e := by simp [Program.elem, ty_sl hE hs]
    have hu : P.underlying t = some (.slice (P.elem t)) := by rw [hpe]; exact ty_sl hE hs
    have run : ∀ (a : Addr) (len cap : Nat), n < len → (Instr.indexAt t (.slice (some a) len cap) (.int ki n)).run P w = .ok (.pointer (some (a.add (n.toNat * E.size e)))) w := by
      intro a len cap hlen
      rw [run_indexAt_slice w t a len cap ki n hu, if_pos ⟨hn, hlen⟩, hpe, run_sizeOf hE w hsz]
      rfl
    cases x <;> try (cases hl; done)
    · rename_i k o es
      simp only at hl
      cases he : es[n.toNat]? with
      | none => rw [he] at hl; cases hl
      | some el =>
        rw [he] at hl
        simp only at hl
        split at hl
        · rename_i hk
          obtain rfl := Option.some.inj hl
          have hlt : n.toNat < es.length := (List.getElem?_eq_some_iff.1 he).1
          have fin : ∀ (a : Option Addr) (cap : Nat) (C : CellP), (es ≠ [] → ∃ b ofs, a = some ⟨b, ofs, none⟩ ∧ VRm es (cx B w0.heap.size w h M).el C b ofs k) →
              (∀ b i x, C b i x → (if (o == Own.brw) = true then (cx B w0.heap.size w h M).a else (cx B w0.heap.size w h M).s) b i x) →
              Gives P w (cx B w0.heap.size w h M) (Instr.indexAt t (.slice a es.length cap) (.int ki n)) (.cp (o == .brw) el.cells 0) := by
            intro a cap C hm hC
            obtain ⟨b, ofs, rfl, hmm⟩ := hm (by intro e0; rw [e0] at hlt; simp at hlt)
            obtain ⟨rv, h1, h2, h3⟩ := hmm.get he
            refine ⟨_, run _ _ _ (by omega), ?_⟩
            simp only [VR]
            refine ⟨b, ofs + n.toNat * k, rv.cells.toList, ?_, VRl.mono (gr_el_elb ..) _ (VR.cells_of (fun _ _ hx => hx) h1 (by rw [h2, hk.2, hk.1])), fun j y hj => hC _ _ _ (h3 j y hj)⟩
            rw [Addr.add_lit, hk.1, Nat.add_zero]
          cases o with
          | ex => simp only [VR] at hx; exact (hcx _ _ hx).elim
          | brw =>
            simp only [VR] at hx
            obtain ⟨a, cap, rfl, _, _, _, hm, _⟩ := hx
            exact fin a cap _ hm (fun _ _ _ hc => hc)
          | _ =>
            simp only [VR] at hx
            obtain ⟨a, cap, rfl, _, _, _, hm, _⟩ := hx
            exact fin a cap _ hm (fun _ _ _ hc => hc)
        · cases hl
    · rename_i key g off len
      simp only at hl
      cases hk : h key with
      | none => rw [hk] at hl; cases hl
      | some blk =>
        rw [hk] at hl
        cases blk with
        | row g' T k es =>
          simp only at hl
          split at hl
          · rename_i hg
            obtain rfl := Option.some.inj hl
            simp only [VR] at hx
            obtain ⟨a, cap, rfl, q, hq, h2, h3⟩ := hx
            have hq' := cx_l hk hq
            subst hq'
            obtain ⟨_, ha, _⟩ := h3 hg.1
            have hlt := hg.2.2
            obtain rfl := ha (by intro e0; rw [e0] at hlt; omega)
            refine ⟨_, run _ _ _ hg.2.2, ?_⟩
            simp only [VR]
            refine ⟨_, rfl, _, hq, h2, fun e0 => ⟨rfl, ?_⟩⟩
            rw [Addr.add_lit, ← hg.2.1, Nat.add_zero]
            simp only [Blk.k]
            rw [Nat.add_mul]
          · cases hl
        | var => cases hl
        | tok => cases hl
  · rename_i m e
    simp only at hl
    split at hl
    · cases hl
    rename_i hsz
    split at hl
    case isFalse => cases hl
    rename_i hm
    have run : ∀ a : Addr, (Instr.indexAt t (.pointer (some a)) (.int ki n)).run P w = .ok (.pointer (some (a.add (n.toNat * E.size e)))) w := by
      intro a
      have hpe : P.elem t = e := by simp [Program.elem, ty_arr hE hs]
      have hpl : P.arrayLen t = m := by simp [Program.arrayLen, ty_arr hE hs]
      rw [run_indexAt_array w t a ki n (by rw [hpe, hpl]; exact ty_arr hE hs), if_pos ⟨hn, by rw [hpl]; exact hm⟩, hpe, run_sizeOf hE w hsz]
      rfl
    cases x <;> try (cases hl; done)
    · obtain rfl := Option.some.inj hl
      simp only [VR] at hx
      obtain ⟨a, rfl, q, hq, h2, h3⟩ := hx
      refine ⟨_, run a, ?_⟩
      simp only [VR]
      exact ⟨_, rfl, q, hq, h2, fun e => ⟨(h3 e).1, by rw [(h3 e).2, Addr.add_lit]⟩⟩
    · obtain rfl := Option.some.inj hl
      simp only [VR] at hx
      obtain ⟨b, o', rc, rfl, h2, h3⟩ := hx
      refine ⟨_, run _, ?_⟩
      simp only [VR]
      exact ⟨b, o', rc, by rw [Addr.add_lit, Nat.add_assoc], h2, h3⟩
end

end Go.Proofs.YthdeaenleimbeaaDoor.Ev
