/- Single operations: what the evaluator says is what the machine does. Conditions: none. -/
import Derived.Test.YthdeaenleimbeaaDoorEvMem
import Derived.Lib.LazyBuf
namespace Go.Proofs.YthdeaenleimbeaaDoor.Ev
open Go.RowKit
set_option linter.unusedVariables false
set_option linter.unusedSimpArgs false
set_option linter.unusedSectionVars false

theorem td_int {d : TypeDesc} {k : IntKind} (h : TD.of d = .int k) : d = .int k := by cases d <;> simp_all [TD.of]
theorem td_str {d : TypeDesc} (h : TD.of d = .str) : d = .string := by cases d <;> simp_all [TD.of]
theorem td_sl {d : TypeDesc} {e : Nat} (h : TD.of d = .sl e) : d = .slice e := by cases d <;> simp_all [TD.of]
theorem td_arr {d : TypeDesc} {n e : Nat} (h : TD.of d = .arr n e) : d = .array n e := by cases d <;> simp_all [TD.of]
theorem td_st {d : TypeDesc} {fs : List (Nat × Nat)} (h : TD.of d = .st fs) : ∃ fields, d = .struct fields ∧ fields.toList.map (fun f => (f.offset, f.type)) = fs := by
  cases d <;> simp_all [TD.of]

section
variable {P : Program} {E : Env} (hE : EnvOk E P)
include hE
theorem ty_int {t : Nat} {k : IntKind} (h : E.ty t = .int k) : P.underlying t = some (.int k) := by
  obtain ⟨d, h1, h2⟩ := hE.ty t (by rw [h]; simp); rw [h1, td_int (h2.trans h)]
theorem ty_str {t : Nat} (h : E.ty t = .str) : P.underlying t = some .string := by
  obtain ⟨d, h1, h2⟩ := hE.ty t (by rw [h]; simp); rw [h1, td_str (h2.trans h)]
theorem ty_sl {t e : Nat} (h : E.ty t = .sl e) : P.underlying t = some (.slice e) := by
  obtain ⟨d, h1, h2⟩ := hE.ty t (by rw [h]; simp); rw [h1, td_sl (h2.trans h)]
theorem ty_arr {t n e : Nat} (h : E.ty t = .arr n e) : P.underlying t = some (.array n e) := by
  obtain ⟨d, h1, h2⟩ := hE.ty t (by rw [h]; simp); rw [h1, td_arr (h2.trans h)]
theorem ty_st {t : Nat} {fs : List (Nat × Nat)} (h : E.ty t = .st fs) : ∃ fields, P.underlying t = some (.struct fields) ∧ fields.toList.map (fun f => (f.offset, f.type)) = fs := by
  obtain ⟨d, h1, h2⟩ := hE.ty t (by rw [h]; simp)
  obtain ⟨f, h3, h4⟩ := td_st (h2.trans h)
  exact ⟨f, by rw [h1, h3], h4⟩
end

/-- An operation that leaves the memory alone. -/
def Gives (P : Program) (w : World) (c : Cx) (s : Sem Value) (v : AV) : Prop := ∃ rv, s.run P w = .ok rv w ∧ VR v c rv

section
variable {P : Program} {w : World} {c : Cx}

theorem run_intBin {op : BinOp} {t : Nat} {k : IntKind} {a b : Int} {v : AV} (h : intBin op k a b = some v) : Gives P w c (binOp op t (.int k a) (.int k b)) v := by
  cases op with
  | add => obtain rfl := Option.some.inj h; exact ⟨_, by rw [binOp_add]; rfl, by simp [VR]⟩
  | sub => obtain rfl := Option.some.inj h; exact ⟨_, by rw [binOp_sub]; rfl, by simp [VR]⟩
  | mul => obtain rfl := Option.some.inj h; exact ⟨_, by rw [binOp_mul]; rfl, by simp [VR]⟩
  | and => obtain rfl := Option.some.inj h; exact ⟨.int k (Go.bits .and k a b), by rw [binOp_and, intBits_and]; rfl, by simp only [VR]⟩
  | or => obtain rfl := Option.some.inj h; exact ⟨.int k (Go.bits .or k a b), by rw [binOp_or, intBits_or]; rfl, by simp only [VR]⟩
  | xor => obtain rfl := Option.some.inj h; exact ⟨.int k (Go.bits .xor k a b), by rw [binOp_xor, intBits_xor]; rfl, by simp only [VR]⟩
  | andNot => obtain rfl := Option.some.inj h; exact ⟨.int k (Go.bits .andNot k a b), by rw [binOp_andNot, intBits_andNot]; rfl, by simp only [VR]⟩
  | eql => obtain rfl := Option.some.inj h; exact ⟨_, by rw [binOp_eql]; rfl, by simp [VR]⟩
  | neq => obtain rfl := Option.some.inj h; exact ⟨_, by rw [binOp_neq]; rfl, by simp [VR]⟩
  | lss => obtain rfl := Option.some.inj h; exact ⟨_, by rw [binOp_lss]; rfl, by simp [VR]⟩
  | leq => obtain rfl := Option.some.inj h; exact ⟨_, by rw [binOp_leq]; rfl, by simp [VR]⟩
  | gtr => obtain rfl := Option.some.inj h; exact ⟨_, by rw [binOp_gtr]; rfl, by simp [VR]⟩
  | geq => obtain rfl := Option.some.inj h; exact ⟨_, by rw [binOp_geq]; rfl, by simp [VR]⟩
  | quo =>
    simp only [intBin] at h
    split at h
    · cases h
    · rename_i hz
      obtain rfl := Option.some.inj h
      exact ⟨_, by rw [binOp_quo]; simp only [Op.intDiv, if_neg hz]; rfl, by simp [VR]⟩
  | rem =>
    simp only [intBin] at h
    split at h
    · cases h
    · rename_i hz
      obtain rfl := Option.some.inj h
      exact ⟨_, by rw [binOp_rem]; simp only [Op.intDiv, if_neg hz]; rfl, by simp [VR]⟩
  | _ => cases h

theorem run_shift {op : BinOp} {k yk : IntKind} {a b : Int} {v : AV} (hz : ¬ b < 0)
    (h : (op = .shl ∧ v = .int k (k.wrap (a * 2 ^ min b.toNat k.bits))) ∨ (op = .shr ∧ v = .int k (a.fdiv (2 ^ min b.toNat k.bits)))) : Gives P w c (Op.shift op k a yk b) v := by
  rcases h with ⟨rfl, rfl⟩ | ⟨rfl, rfl⟩
  · exact ⟨_, by simp only [Op.shift, if_neg hz]; rfl, by simp [VR]⟩
  · exact ⟨_, by simp only [Op.shift, if_neg hz]; rfl, by simp [VR]⟩

theorem Gives.guard {s : Sem Value} {v : AV} {g : Sem Unit} (hg : g = pure ()) (h : Gives P w c s v) : Gives P w c (do g; s) v := by
  subst hg
  obtain ⟨rv, h1, h2⟩ := h
  exact ⟨rv, by simp [h1], h2⟩

theorem run_binV {op : BinOp} {t : Nat} {ox oy : Operand} {x y v : AV} {rx ry : Value} (h : binV op x y = some v) (hx : VR x c rx) (hy : VR y c ry) :
    Gives P w c (do eqGuard op t ox oy rx ry; binOp op t rx ry) v := by
  unfold binV at h
  cases x with
  | int k a =>
    cases y with
    | int k' b =>
      simp only [VR] at hx hy
      subst hx; subst hy
      refine Gives.guard (eqGuard_at_int ..) ?_
      simp only at h
      split at h
      · split at h
        · cases h
        · rename_i hz
          obtain rfl := Option.some.inj h
          rw [binOp_shl]
          exact run_shift hz (.inl ⟨rfl, rfl⟩)
      · split at h
        · cases h
        · rename_i hz
          obtain rfl := Option.some.inj h
          rw [binOp_shr]
          exact run_shift hz (.inr ⟨rfl, rfl⟩)
      · split at h
        · rename_i hk
          subst hk
          exact run_intBin h
        · cases h
    | _ => cases h
  | str a =>
    cases y with
    | str b =>
      simp only [VR] at hx hy
      subst hx; subst hy
      refine Gives.guard (eqGuard_at_string ..) ?_
      simp only at h
      split at h
      · obtain rfl := Option.some.inj h
        exact ⟨_, by simp [binOp, Op.stringOp]; rfl, by simp [VR]⟩
      · obtain rfl := Option.some.inj h
        exact ⟨_, by simp [binOp, Op.stringOp]; rfl, by simp [VR]⟩
      · split at h
        · rename_i hs
          obtain rfl := Option.some.inj h
          have : ¬ ((9223372036854775807 : Int) < (a.size : Int) + (b.size : Int)) := by omega
          exact ⟨_, by simp [binOp, Op.stringOp, this]; rfl, by simp [VR]⟩
        · cases h
      · cases h
    | _ => cases h
  | _ => cases h

theorem run_binT {E : Env} (hE : EnvOk E P) {op : BinOp} {t : Nat} {ox oy : Operand} {x y v : AV} {rx ry : Value} (h : binT E op t x y = some v) (hx : VR x c rx) (hy : VR y c ry) :
    Gives P w c (do eqGuard op t ox oy rx ry; binOp op t rx ry) v := by
  unfold binT at h
  split at h
  · rename_i a b
    simp only [VR] at hx hy
    subst hx; subst hy
    refine Gives.guard (eqGuard_at_bool ..) ?_
    have key : E.ty t = .bool → P.underlying t = some .bool := fun ht => by
      obtain ⟨d, h1, h2⟩ := hE.ty t (by rw [ht]; exact fun h => by cases h)
      rw [ht] at h2
      cases d <;> first | (cases h2; done) | exact h1
    split at h
    · rename_i ht
      obtain rfl := Option.some.inj h
      exact ⟨.bool (a == b), run_eql_bool w t a b (key ht), by simp [VR]⟩
    · rename_i ht
      obtain rfl := Option.some.inj h
      exact ⟨.bool (!(a == b)), run_neq_bool w t a b (key ht), by simp [VR]⟩
    · cases h
  · exact run_binV h hx hy

theorem run_binO {E : Env} (hE : EnvOk E P) {op : BinOp} {t : Nat} {ox oy : Operand} {x y v : AV} {rx ry : Value} (hcx : ∀ y v, ¬ c.x y v) (h : binO E op t oy x y = some v) (hx : VR x c rx) (hy : VR y c ry) (hoy : isNilC oy = true → ry = .slice none 0 0) :
    Gives P w c (do eqGuard op t ox oy rx ry; binOp op t rx ry) v := by
  unfold binO at h
  split at h
  · rename_i hn
    obtain rfl := hoy hn
    unfold nilC at h
    split at h
    · rename_i e k o es ht
      by_cases hc : (es.isEmpty || isEx o) = true
      · rw [if_pos hc] at h; cases h
      rw [if_neg hc] at h
      unfold nilV at h
      have hc1 : es ≠ [] := by intro e0; subst e0; exact hc (by simp)
      have key : P.underlying t = some (.slice e) := by
        obtain ⟨d, h1, h2⟩ := hE.ty t (by rw [ht]; exact fun h => by cases h)
        rw [ht] at h2
        rw [td_sl h2] at h1; exact h1
      have hs : ∃ a n cp, rx = .slice (some a) n cp := by
        cases o <;> simp only [VR] at hx <;> first | (exact (hcx _ _ hx).elim) | skip
        all_goals
          obtain ⟨a, cp, rfl, _, _, h3, h4, _⟩ := hx
          obtain ⟨b, ofs, rfl, _⟩ := h4 hc1
          exact ⟨_, _, _, rfl⟩
      obtain ⟨a, n, cp, rfl⟩ := hs
      have hg : eqGuard op t ox oy (.slice (some a) n cp) (.slice none 0 0) = pure () := by cases op <;> rfl
      refine Gives.guard hg ?_
      cases op <;> simp only at h <;> first | (cases h; done) | skip
      · obtain rfl := Option.some.inj h
        exact ⟨.bool false, by rw [Go.run_eql_slice_nil w t e _ n cp key]; rfl, by simp [VR]⟩
      · obtain rfl := Option.some.inj h
        exact ⟨.bool true, by rw [Go.run_neq_slice_nil w t e _ n cp key]; rfl, by simp [VR]⟩
    · cases h
  · exact run_binT hE h hx hy

theorem run_unV {op : UnOp} {x v : AV} {rx : Value} (h : unV op x = some v) (hx : VR x c rx) : Gives P w c (Op.unary op rx) v := by
  unfold unV at h
  cases x <;> cases op <;> first
    | (cases h; done)
    | (simp only [VR] at hx
       subst hx
       obtain rfl := Option.some.inj h
       exact ⟨_, by simp [Op.unary, Op.intArith]; rfl, by simp [VR]⟩)

theorem run_pickV {co a b v : AV} {rc ra rb : Value} (h : pickV co a b = some v) (hc : VR co c rc) (ha : VR a c ra) (hb : VR b c rb) :
    Gives P w c (do pure (if ← asBool rc then ra else rb)) v := by
  unfold pickV at h
  cases co with
  | bool t =>
    simp only [VR] at hc
    subst hc
    obtain rfl := Option.some.inj h
    refine ⟨if t then ra else rb, by simp [asBool], ?_⟩
    cases t <;> simpa
  | _ => cases h

theorem run_extractV {x v : AV} {rx : Value} {i : Nat} (h : extractV x i = some v) (hx : VR x c rx) : Gives P w c (Instr.extract rx i) v := by
  unfold extractV at h
  cases x with
  | tup vs =>
    simp only [VR] at hx
    obtain ⟨rc, rfl, hl⟩ := hx
    obtain ⟨r, hr, hv⟩ := hl.get i v h
    exact ⟨r, by simp [Instr.extract, hr], hv⟩
  | _ => cases h

variable {E : Env} (hE : EnvOk E P)
include hE

theorem run_convV {src dst : Nat} {x v : AV} {rx : Value} (h : convV E src dst x = some v) (hx : VR x c rx) : Gives P w c (convert src dst rx) v := by
  unfold convV at h
  cases hs : E.ty src <;> rw [hs] at h <;> try (cases h; done)
  cases hd : E.ty dst <;> rw [hd] at h <;> try (cases h; done)
  cases x <;> first
    | (cases h; done)
    | (simp only [VR] at hx
       subst hx
       obtain rfl := Option.some.inj h
       exact ⟨_, by simp [convert, run_underlying (ty_int hE hs), run_underlying (ty_int hE hd), Conv.intToInt]; rfl, by simp [VR]⟩)

theorem run_lenV {t : Nat} {ty : TypeId} {x v : AV} {rx : Value} (h : lenV E t x = some v) (hx : VR x c rx) (hcx : ∀ y v, ¬ c.x y v) : Gives P w c (Builtin.len_ #[t] ty #[rx]) v := by
  unfold lenV at h
  cases hs : E.ty t <;> rw [hs] at h <;> try (cases h; done)
  · cases x <;> first
      | (cases h; done)
      | (simp only [VR] at hx
         subst hx
         obtain rfl := Option.some.inj h
         exact ⟨_, by simp [Builtin.len_, run_underlying (ty_str hE hs), goInt]; rfl, by simp [VR]⟩)
  · cases x with
    | sl k o es =>
      obtain rfl := Option.some.inj h
      cases o with
      | ex => simp only [VR] at hx; exact (hcx _ _ hx).elim
      | _ =>
        simp only [VR] at hx
        obtain ⟨a, cap, rfl, _⟩ := hx
        exact ⟨_, by simp [Builtin.len_, run_underlying (ty_sl hE hs), goInt]; rfl, by simp [VR]⟩
    | ms key g off len =>
      obtain rfl := Option.some.inj h
      simp only [VR] at hx
      obtain ⟨a, cap, rfl, _⟩ := hx
      exact ⟨_, by simp [Builtin.len_, run_underlying (ty_sl hE hs), goInt]; rfl, by simp [VR]⟩
    | _ => cases h

theorem run_partV {cs : List AV} {rcs : List Value} {t off : Nat} {v : AV} (h : partOf E t cs off = some v) (hv : VRl cs c rcs) : Gives P w c (part t rcs.toArray off) v := by
  unfold partOf at h
  cases ha : (E.ty t).agg? with
  | none => rw [ha] at h; cases h
  | some ag =>
    rw [ha] at h
    cases ag with
    | true =>
      simp only at h
      split at h
      · rename_i hs
        obtain rfl := Option.some.inj h
        refine ⟨.agg ((rcs.drop off).take (E.size t)).toArray, ?_, ?_⟩
        · simp only [part, Sem.run_bind, run_isAgg hE w ha, Result.andThen_ok, if_true, run_sizeOf hE w hs.1, Sem.run_pure]
          congr 2
          apply Array.ext'
          simp [List.extract_eq_take_drop]
        · simp only [VR]; exact ⟨_, rfl, (hv.drop off).take _⟩
      · cases h
    | false =>
      simp only at h
      obtain ⟨r, hr, hvr⟩ := hv.get off v h
      refine ⟨r, ?_, hvr⟩
      simp only [part, Sem.run_bind, run_isAgg hE w ha, Result.andThen_ok, Bool.false_eq_true, if_false]
      simp [hr]

theorem run_fieldV {t f : Nat} {x v : AV} {rx : Value} (h : fieldV E t x f = some v) (hx : VR x c rx) : Gives P w c (Instr.field t rx f) v := by
  unfold fieldV at h
  cases hs : E.ty t <;> rw [hs] at h <;> try (cases h; done)
  rename_i fs
  cases x <;> try (cases h; done)
  rename_i cs
  simp only [Option.bind_eq_some_iff] at h
  obtain ⟨p, hp, hv⟩ := h
  obtain ⟨fields, hu, rfl⟩ := ty_st hE hs
  simp only [VR] at hx
  obtain ⟨rc, rfl, hl⟩ := hx
  simp only [List.getElem?_map, Option.map_eq_some_iff] at hp
  obtain ⟨fd, hfd, rfl⟩ := hp
  obtain ⟨r, hr, hvr⟩ := run_partV (w := w) hE hv hl
  refine ⟨r, ?_, hvr⟩
  have hfd' : fields[f]? = some fd := by simpa using hfd
  simp [Instr.field, run_underlying hu, hfd', asAgg, hr]

theorem run_indexV {t : Nat} {x i v : AV} {rx ri : Value} (h : indexV E t x i = some v) (hx : VR x c rx) (hi : VR i c ri) : Gives P w c (Instr.index t rx ri) v := by
  unfold indexV at h
  cases i <;> try (cases h; done)
  rename_i ki n
  simp only [VR] at hi
  subst hi
  simp only at h
  split at h
  · rename_i hn
    cases hs : E.ty t <;> rw [hs] at h <;> try (cases h; done)
    · cases x <;> try (cases h; done)
      rename_i s
      simp only [VR] at hx
      subst hx
      simp only [Option.map_eq_some_iff] at h
      obtain ⟨b, hb, rfl⟩ := h
      exact ⟨.int .u8 b.toNat, by simp [Instr.index, asIntOf, run_underlying (ty_str hE hs), hn, hb], by simp [VR]⟩
    · cases x <;> try (cases h; done)
      rename_i m e cs
      simp only at h
      split at h
      · rename_i hm
        simp only [VR] at hx
        obtain ⟨rc, rfl, hl⟩ := hx
        obtain ⟨r, hr, hvr⟩ := run_partV (w := w) hE h hl
        exact ⟨r, by simp [Instr.index, asIntOf, run_underlying (ty_arr hE hs), hn, hm.1, run_sizeOf hE w hm.2, hr], hvr⟩
      · cases h
  · cases h
end

end Go.Proofs.YthdeaenleimbeaaDoor.Ev
