/- XEvOps XEvOps2 XEvOps3 XEvOps4, joined. Conditions: none. -/
import Derived.Test.YtlglhokpaplifaaGreatDoorEvMem
import Derived.Lib.LazyBuf
import Derived.Laws.IdiomStrings
/- Single operations: what the evaluator says is what the machine does. Conditions: none. -/
namespace Go.Proofs.YtlglhokpaplifaaGreatDoor.Ev
open Go.RowKit
set_option linter.unusedVariables false
set_option linter.unusedSimpArgs false
set_option linter.unusedSectionVars false

theorem td_int {d : TypeDesc} {k : IntKind} (h : TD.of d = .int k) : d = .int k := by cases d <;> simp_all [TD.of]
theorem td_str {d : TypeDesc} (h : TD.of d = .str) : d = .string := by cases d <;> simp_all [TD.of]
theorem td_bool {d : TypeDesc} (h : TD.of d = .bool) : d = .bool := by cases d <;> simp_all [TD.of]
theorem td_sl {d : TypeDesc} {e : Nat} (h : TD.of d = .sl e) : d = .slice e := by cases d <;> simp_all [TD.of]
theorem td_arr {d : TypeDesc} {n e : Nat} (h : TD.of d = .arr n e) : d = .array n e := by cases d <;> simp_all [TD.of]
theorem td_st {d : TypeDesc} {fs : List (Nat × Nat)} (h : TD.of d = .st fs) : ∃ fields, d = .struct fields ∧ fields.toList.map (fun f => (f.offset, f.type)) = fs := by
  cases d <;> simp_all [TD.of]

section
variable {P : Program} {E : Env} (hE : EnvOk E P)
include hE
theorem ty_int {t : Nat} {k : IntKind} (h : E.ty t = .int k) : P.underlying t = some (.int k) := by
  obtain ⟨d, h1, h2⟩ := hE.ty t (by rw [h]; simp); rw [h1, td_int (h2.trans h)]
theorem ty_str {t : Nat} (h : E.ty t = .str) : P.underlying t = some .string := by
  obtain ⟨d, h1, h2⟩ := hE.ty t (by rw [h]; simp); rw [h1, td_str (h2.trans h)]
theorem ty_sl {t e : Nat} (h : E.ty t = .sl e) : P.underlying t = some (.slice e) := by
  obtain ⟨d, h1, h2⟩ := hE.ty t (by rw [h]; simp); rw [h1, td_sl (h2.trans h)]
theorem ty_arr {t n e : Nat} (h : E.ty t = .arr n e) : P.underlying t = some (.array n e) := by
  obtain ⟨d, h1, h2⟩ := hE.ty t (by rw [h]; simp); rw [h1, td_arr (h2.trans h)]
theorem ty_st {t : Nat} {fs : List (Nat × Nat)} (h : E.ty t = .st fs) : ∃ fields, P.underlying t = some (.struct fields) ∧ fields.toList.map (fun f => (f.offset, f.type)) = fs := by
  obtain ⟨d, h1, h2⟩ := hE.ty t (by rw [h]; simp)
  obtain ⟨f, h3, h4⟩ := td_st (h2.trans h)
  exact ⟨f, by rw [h1, h3], h4⟩
end

/-- An operation that leaves the memory alone. -/
def Gives (P : Program) (w : World) (c : Cx) (s : Sem Value) (v : AV) : Prop := ∃ rv, s.run P w = .ok rv w ∧ VR v c rv

section
variable {P : Program} {w : World} {c : Cx}

theorem run_intBin {op : BinOp} {t : Nat} {k : IntKind} {a b : Int} {v : AV} (h : intBin op k a b = some v) : Gives P w c (binOp op t (.int k a) (.int k b)) v := by
  cases op with
  | add => obtain rfl := Option.some.inj h; exact ⟨_, by rw [binOp_add]; rfl, by simp [VR]⟩
  | sub => obtain rfl := Option.some.inj h; exact ⟨_, by rw [binOp_sub]; rfl, by simp [VR]⟩
  | mul => obtain rfl := Option.some.inj h; exact ⟨_, by rw [binOp_mul]; rfl, by simp [VR]⟩
  | and => obtain rfl := Option.some.inj h; exact ⟨.int k (Go.bits .and k a b), by rw [binOp_and, intBits_and]; rfl, by simp only [VR]⟩
  | or => obtain rfl := Option.some.inj h; exact ⟨.int k (Go.bits .or k a b), by rw [binOp_or, intBits_or]; rfl, by simp only [VR]⟩
  | xor => obtain rfl := Option.some.inj h; exact ⟨.int k (Go.bits .xor k a b), by rw [binOp_xor, intBits_xor]; rfl, by simp only [VR]⟩
  | andNot => obtain rfl := Option.some.inj h; exact ⟨.int k (Go.bits .andNot k a b), by rw [binOp_andNot, intBits_andNot]; rfl, by simp only [VR]⟩
  | eql => obtain rfl := Option.some.inj h; exact ⟨_, by rw [binOp_eql]; rfl, by simp [VR]⟩
  | neq => obtain rfl := Option.some.inj h; exact ⟨_, by rw [binOp_neq]; rfl, by simp [VR]⟩
  | lss => obtain rfl := Option.some.inj h; exact ⟨_, by rw [binOp_lss]; rfl, by simp [VR]⟩
  | leq => obtain rfl := Option.some.inj h; exact ⟨_, by rw [binOp_leq]; rfl, by simp [VR]⟩
  | gtr => obtain rfl := Option.some.inj h; exact ⟨_, by rw [binOp_gtr]; rfl, by simp [VR]⟩
  | geq => obtain rfl := Option.some.inj h; exact ⟨_, by rw [binOp_geq]; rfl, by simp [VR]⟩
  | quo =>
    simp only [intBin] at h
    split at h
    · cases h
    · rename_i hz
      obtain rfl := Option.some.inj h
      exact ⟨_, by rw [binOp_quo]; simp only [Op.intDiv, if_neg hz]; rfl, by simp [VR]⟩
  | rem =>
    simp only [intBin] at h
    split at h
    · cases h
    · rename_i hz
      obtain rfl := Option.some.inj h
      exact ⟨_, by rw [binOp_rem]; simp only [Op.intDiv, if_neg hz]; rfl, by simp [VR]⟩
  | _ => cases h

theorem run_shift {op : BinOp} {k yk : IntKind} {a b : Int} {v : AV} (hz : ¬ b < 0)
    (h : (op = .shl ∧ v = .int k (k.wrap (a * 2 ^ min b.toNat k.bits))) ∨ (op = .shr ∧ v = .int k (a.fdiv (2 ^ min b.toNat k.bits)))) : Gives P w c (Op.shift op k a yk b) v := by
  rcases h with ⟨rfl, rfl⟩ | ⟨rfl, rfl⟩
  · exact ⟨_, by simp only [Op.shift, if_neg hz]; rfl, by simp [VR]⟩
  · exact ⟨_, by simp only [Op.shift, if_neg hz]; rfl, by simp [VR]⟩

theorem Gives.guard {s : Sem Value} {v : AV} {g : Sem Unit} (hg : g = pure ()) (h : Gives P w c s v) : Gives P w c (do g; s) v := by
  subst hg
  obtain ⟨rv, h1, h2⟩ := h
  exact ⟨rv, by simp [h1], h2⟩

theorem run_binV {op : BinOp} {t : Nat} {ox oy : Operand} {x y v : AV} {rx ry : Value} (h : binV op x y = some v) (hx : VR x c rx) (hy : VR y c ry) :
    Gives P w c (do eqGuard op t ox oy rx ry; binOp op t rx ry) v := by
  unfold binV at h
  cases x with
  | int k a =>
    cases y with
    | int k' b =>
      simp only [VR] at hx hy
      subst hx; subst hy
      refine Gives.guard (eqGuard_at_int ..) ?_
      simp only at h
      split at h
      · split at h
        · cases h
        · rename_i hz
          obtain rfl := Option.some.inj h
          rw [binOp_shl]
          exact run_shift hz (.inl ⟨rfl, rfl⟩)
      · split at h
        · cases h
        · rename_i hz
          obtain rfl := Option.some.inj h
          rw [binOp_shr]
          exact run_shift hz (.inr ⟨rfl, rfl⟩)
      · split at h
        · rename_i hk
          subst hk
          exact run_intBin h
        · cases h
    | _ => cases h
  | str a =>
    cases y with
    | str b =>
      simp only [VR] at hx hy
      subst hx; subst hy
      refine Gives.guard (eqGuard_at_string ..) ?_
      simp only at h
      split at h
      · obtain rfl := Option.some.inj h
        exact ⟨_, by simp [binOp, Op.stringOp]; rfl, by simp [VR]⟩
      · obtain rfl := Option.some.inj h
        exact ⟨_, by simp [binOp, Op.stringOp]; rfl, by simp [VR]⟩
      · split at h
        · rename_i hs
          obtain rfl := Option.some.inj h
          have : ¬ ((9223372036854775807 : Int) < (a.size : Int) + (b.size : Int)) := by omega
          exact ⟨_, by simp [binOp, Op.stringOp, this]; rfl, by simp [VR]⟩
        · cases h
      · cases h
    | _ => cases h
  | _ => cases h

theorem run_partV0 {E : Env} (hE : EnvOk E P) {cs : List AV} {rcs : List Value} {t off : Nat} {v : AV} (h : partOf E t cs off = some v) (hv : VRl cs c rcs) : Gives P w c (part t rcs.toArray off) v := by
  unfold partOf at h
  cases ha : (E.ty t).agg? with
  | none => rw [ha] at h; cases h
  | some ag =>
    rw [ha] at h
    cases ag with
    | true =>
      simp only at h
      split at h
      · rename_i hs
        obtain rfl := Option.some.inj h
        refine ⟨.agg ((rcs.drop off).take (E.size t)).toArray, ?_, ?_⟩
        · simp only [part, Sem.run_bind, run_isAgg hE w ha, Result.andThen_ok, if_true, run_sizeOf hE w hs.1, Sem.run_pure]
          congr 2
          apply Array.ext'
          simp [List.extract_eq_take_drop]
        · simp only [VR]; exact ⟨_, rfl, (hv.drop off).take _⟩
      · cases h
    | false =>
      simp only at h
      obtain ⟨r, hr, hvr⟩ := hv.get off v h
      refine ⟨r, ?_, hvr⟩
      simp only [part, Sem.run_bind, run_isAgg hE w ha, Result.andThen_ok, Bool.false_eq_true, if_false]
      simp [hr]
theorem run_eqT {E : Env} (hE : EnvOk E P) : ∀ (d D t : Nat) (x y : AV) (b : Bool) (rx ry : Value), eqT E d t x y = some b → d ≤ D → VR x c rx → VR y c ry → (Op.equalIn D t rx ry).run P w = .ok b w
  | 0, D, t, x, y, b, rx, ry, h, _, _, _ => by simp [eqT] at h
  | d + 1, D, t, x, y, b, rx, ry, h, hD, hx, hy => by
    obtain ⟨D, rfl⟩ : ∃ D', D = D' + 1 := ⟨D - 1, by omega⟩
    unfold eqT at h
    split at h
    · rename_i k0 k a k' b' hty
      split at h
      · rename_i hk
        subst hk
        obtain rfl := Option.some.inj h
        simp only [VR] at hx hy
        subst hx; subst hy
        obtain ⟨dd, h1, h2⟩ := hE.ty t (by rw [hty]; exact fun h => by cases h)
        rw [hty] at h2
        rw [td_int h2] at h1
        exact Go.run_equalIn_int w D t k k0 a b' h1
      · cases h
    · rename_i a b' hty
      obtain rfl := Option.some.inj h
      simp only [VR] at hx hy
      subst hx; subst hy
      obtain ⟨dd, h1, h2⟩ := hE.ty t (by rw [hty]; exact fun h => by cases h)
      rw [hty] at h2
      rw [td_bool h2] at h1
      exact Go.run_equalIn_bool' w D t a b' h1
    · rename_i fs as bs hty
      split at h
      · rename_i hc
        obtain ⟨hs, _, hn⟩ := hE.cmp t hc
        obtain ⟨dd, h1, h2⟩ := hE.ty t (by rw [hty]; exact fun h => by cases h)
        rw [hty] at h2
        obtain ⟨fields, rfl, rfl⟩ := td_st h2
        have hf : P.fieldsOf t = fields := by simp [Program.fieldsOf, h1]
        simp only [VR] at hx hy
        obtain ⟨rxc, rfl, hx⟩ := hx
        obtain ⟨ryc, rfl, hy⟩ := hy
        rw [Go.run_equalIn_agg w D t _ _ (by rw [hf]; exact h1) hs]
        rw [hf] at hn ⊢
        clear h1 h2 hf hs hty
        generalize fields.toList = fl at *
        induction fl with
        | nil =>
          simp only [List.map_nil, eqFs, Option.some.injEq] at h
          subst h
          simp [Op.eqFields]
        | cons f fl ih =>
          simp only [List.map_cons, eqFs] at h
          split at h
          · rename_i a a2 ea ea2
            obtain ⟨ra, hra, va⟩ := run_partV0 (w := w) hE ea hx
            obtain ⟨ra2, hra2, va2⟩ := run_partV0 (w := w) hE ea2 hy
            have hnf := hn f (List.mem_cons_self ..)
            split at h
            · rename_i eq
              have hr := run_eqT hE d D f.type a a2 true ra ra2 eq (by omega) va va2
              have hi := ih (fun f' hf' => hn f' (List.mem_cons_of_mem _ hf')) h
              simp only [Op.eqFields, ne_eq, hnf, not_false_eq_true, if_true, Sem.run_bind, hra, hra2, Result.andThen_ok, hr, Bool.not_true, Bool.false_eq_true, if_false]
              exact hi
            · rename_i eq
              obtain rfl := Option.some.inj h
              have hr := run_eqT hE d D f.type a a2 false ra ra2 eq (by omega) va va2
              simp only [Op.eqFields, ne_eq, hnf, not_false_eq_true, if_true, Sem.run_bind, hra, hra2, Result.andThen_ok, hr, Bool.not_false, Sem.run_pure]
            · cases h
          · cases h
      · cases h
    · cases h
theorem run_binT {E : Env} (hE : EnvOk E P) {op : BinOp} {t : Nat} {ox oy : Operand} {x y v : AV} {rx ry : Value} (h : binT E op t x y = some v) (hx : VR x c rx) (hy : VR y c ry) :
    Gives P w c (do eqGuard op t ox oy rx ry; binOp op t rx ry) v := by
  unfold binT at h
  split at h
  · rename_i as bs
    split at h
    · rename_i hc
      simp only [Option.bind_eq_some_iff] at h
      obtain ⟨b, h1, h2⟩ := h
      have hr := run_eqT (w := w) hE 9 10000 t _ _ b rx ry h1 (by decide) hx hy
      simp only [VR] at hx hy
      obtain ⟨rxc, rfl, hx⟩ := hx
      obtain ⟨ryc, rfl, hy⟩ := hy
      have hg := Go.run_eqGuard_agg (P := P) w op t ox oy rxc.toArray ryc.toArray (hE.cmp t hc).2.1
      unfold eqR at h2
      split at h2
      · obtain rfl := Option.some.inj h2
        refine ⟨.bool b, ?_, by simp [VR]⟩
        simp only [Sem.run_bind, hg, Result.andThen_ok, Go.run_eql_struct, hr]
      · obtain rfl := Option.some.inj h2
        refine ⟨.bool (!b), ?_, by simp [VR]⟩
        simp only [Sem.run_bind, hg, Result.andThen_ok, Go.run_neq_struct, hr]
      · cases h2
    · cases h
  · rename_i a b
    simp only [VR] at hx hy
    subst hx; subst hy
    refine Gives.guard (eqGuard_at_bool ..) ?_
    have key : E.ty t = .bool → P.underlying t = some .bool := fun ht => by
      obtain ⟨d, h1, h2⟩ := hE.ty t (by rw [ht]; exact fun h => by cases h)
      rw [ht] at h2
      cases d <;> first | (cases h2; done) | exact h1
    split at h
    · rename_i ht
      obtain rfl := Option.some.inj h
      exact ⟨.bool (a == b), run_eql_bool w t a b (key ht), by simp [VR]⟩
    · rename_i ht
      obtain rfl := Option.some.inj h
      exact ⟨.bool (!(a == b)), run_neq_bool w t a b (key ht), by simp [VR]⟩
    · cases h
  · exact run_binV h hx hy

theorem run_binO {E : Env} (hE : EnvOk E P) {op : BinOp} {t : Nat} {ox oy : Operand} {x y v : AV} {rx ry : Value} (hcx : ∀ y v, ¬ c.x y v) (h : binO E op t oy x y = some v) (hx : VR x c rx) (hy : VR y c ry) (hoy : isNilC oy = true → ry = .slice none 0 0) :
    Gives P w c (do eqGuard op t ox oy rx ry; binOp op t rx ry) v := by
  unfold binO at h
  split at h
  · rename_i hn
    obtain rfl := hoy hn
    unfold nilC at h
    split at h
    · rename_i e k o es ht
      by_cases hc : (es.isEmpty || isEx o) = true
      · rw [if_pos hc] at h; cases h
      rw [if_neg hc] at h
      unfold nilV at h
      have hc1 : es ≠ [] := by intro e0; subst e0; exact hc (by simp)
      have key : P.underlying t = some (.slice e) := by
        obtain ⟨d, h1, h2⟩ := hE.ty t (by rw [ht]; exact fun h => by cases h)
        rw [ht] at h2
        rw [td_sl h2] at h1; exact h1
      have hs : ∃ a n cp, rx = .slice (some a) n cp := by
        cases o <;> simp only [VR] at hx <;> first | (exact (hcx _ _ hx).elim) | skip
        all_goals
          obtain ⟨a, cp, rfl, _, _, h3, h4, _⟩ := hx
          obtain ⟨b, ofs, rfl, _⟩ := h4 hc1
          exact ⟨_, _, _, rfl⟩
      obtain ⟨a, n, cp, rfl⟩ := hs
      have hg : eqGuard op t ox oy (.slice (some a) n cp) (.slice none 0 0) = pure () := by cases op <;> rfl
      refine Gives.guard hg ?_
      cases op <;> simp only at h <;> first | (cases h; done) | skip
      · obtain rfl := Option.some.inj h
        exact ⟨.bool false, by rw [Go.run_eql_slice_nil w t e _ n cp key]; rfl, by simp [VR]⟩
      · obtain rfl := Option.some.inj h
        exact ⟨.bool true, by rw [Go.run_neq_slice_nil w t e _ n cp key]; rfl, by simp [VR]⟩
    · cases h
  · exact run_binT hE h hx hy

theorem run_unV {op : UnOp} {x v : AV} {rx : Value} (h : unV op x = some v) (hx : VR x c rx) : Gives P w c (Op.unary op rx) v := by
  unfold unV at h
  cases x <;> cases op <;> first
    | (cases h; done)
    | (simp only [VR] at hx
       subst hx
       obtain rfl := Option.some.inj h
       exact ⟨_, by simp [Op.unary, Op.intArith]; rfl, by simp [VR]⟩)

theorem run_pickV {co a b v : AV} {rc ra rb : Value} (h : pickV co a b = some v) (hc : VR co c rc) (ha : VR a c ra) (hb : VR b c rb) :
    Gives P w c (do pure (if ← asBool rc then ra else rb)) v := by
  unfold pickV at h
  cases co with
  | bool t =>
    simp only [VR] at hc
    subst hc
    obtain rfl := Option.some.inj h
    refine ⟨if t then ra else rb, by simp [asBool], ?_⟩
    cases t <;> simpa
  | _ => cases h

theorem run_extractV {x v : AV} {rx : Value} {i : Nat} (h : extractV x i = some v) (hx : VR x c rx) : Gives P w c (Instr.extract rx i) v := by
  unfold extractV at h
  cases x with
  | tup vs =>
    simp only [VR] at hx
    obtain ⟨rc, rfl, hl⟩ := hx
    obtain ⟨r, hr, hv⟩ := hl.get i v h
    exact ⟨r, by simp [Instr.extract, hr], hv⟩
  | _ => cases h

variable {E : Env} (hE : EnvOk E P)
include hE

theorem run_convV {src dst : Nat} {x v : AV} {rx : Value} (h : convV E src dst x = some v) (hx : VR x c rx) (hcx : ∀ y v, ¬ c.x y v) (hsw : ∀ b i x, c.s b i x → w.cell? ⟨b, i, none⟩ = some x) (haw : ∀ b i x, c.a b i x → w.cell? ⟨b, i, none⟩ = some x) : Gives P w c (convert src dst rx) v := by
  unfold convV at h
  split at h
  · rename_i k0 k k1 n hs hd
    simp only [VR] at hx
    subst hx
    obtain rfl := Option.some.inj h
    exact ⟨_, by simp [convert, run_underlying (ty_int hE hs), run_underlying (ty_int hE hd), Conv.intToInt]; rfl, by simp [VR]⟩
  · rename_i e o n hs hd
    split at h
    · rename_i he
      split at h
      · rename_i hn
        obtain rfl := Option.some.inj h
        have hof : ∀ b i x, c.of o b i x → w.cell? ⟨b, i, none⟩ = some x := fun b i x hx => by
          unfold Cx.of at hx
          split at hx
          · exact haw b i x hx
          · exact hsw b i x hx
        have hsl : ∃ a cap, rx = .slice (some a) 1 cap ∧ w.cell? (a.add 0) = some (.int .u8 n) := by
          have key : ∀ (a : Option Addr), (([AV.int .u8 n] : List AV) ≠ [] → ∃ b ofs, a = some ⟨b, ofs, none⟩ ∧ VRm [AV.int .u8 n] (c.elb (o == .brw)) (c.of o) b ofs 1) → ∃ a', a = some a' ∧ w.cell? (a'.add 0) = some (.int .u8 n) := fun a hm => by
            obtain ⟨b, ofs, rfl, hm2⟩ := hm (by simp)
            simp only [VRm, VR] at hm2
            obtain ⟨⟨rv, rfl, _, hc⟩, _⟩ := hm2
            have := hof b (ofs + 0) (.int .u8 n) (hc 0 (.int .u8 n) rfl)
            exact ⟨_, rfl, by simpa [Addr.add] using this⟩
          cases o with
          | ex T key => simp only [VR] at hx; exact (hcx _ _ hx).elim
          | no => simp only [VR] at hx; obtain ⟨a, cap, rfl, _, _, _, hm, _⟩ := hx; obtain ⟨a', rfl, h9⟩ := key a hm; exact ⟨a', cap, rfl, h9⟩
          | lit => simp only [VR] at hx; obtain ⟨a, cap, rfl, _, _, _, hm, _⟩ := hx; obtain ⟨a', rfl, h9⟩ := key a hm; exact ⟨a', cap, rfl, h9⟩
          | brw => simp only [VR] at hx; obtain ⟨a, cap, rfl, _, _, _, hm, _⟩ := hx; obtain ⟨a', rfl, h9⟩ := key a hm; exact ⟨a', cap, rfl, h9⟩
          | tok key g => simp only [VR] at hx; obtain ⟨a, cap, rfl, _, _, _, hm, _⟩ := hx; obtain ⟨a', rfl, h9⟩ := key a hm; exact ⟨a', cap, rfl, h9⟩
        obtain ⟨a, cap, rfl, hc⟩ := hsl
        have hr := run_convert_bytes_back (P := P) w src dst e a cap [UInt8.ofNat n.toNat] (ty_sl hE hs) (ty_int hE he) (ty_str hE hd) (fun j hj => by
          obtain rfl : j = 0 := by simpa using hj
          rw [hc]
          have : ((UInt8.ofNat n.toNat).toNat : Int) = n := by
            rw [UInt8.toNat_ofNat']
            have : n.toNat % 2 ^ 8 = n.toNat := Nat.mod_eq_of_lt (by omega)
            omega
          exact congrArg (fun z => some (Value.int .u8 z)) this.symm)
        exact ⟨_, hr, by simp [VR]⟩
      · cases h
    · cases h
  · cases h

theorem run_lenV {t : Nat} {ty : TypeId} {x v : AV} {rx : Value} (h : lenV E t x = some v) (hx : VR x c rx) (hcx : ∀ y v, ¬ c.x y v) : Gives P w c (Builtin.len_ #[t] ty #[rx]) v := by
  unfold lenV at h
  cases hs : E.ty t <;> rw [hs] at h <;> try (cases h; done)
  · cases x <;> first
      | (cases h; done)
      | (simp only [VR] at hx
         subst hx
         obtain rfl := Option.some.inj h
         exact ⟨_, by simp [Builtin.len_, run_underlying (ty_str hE hs), goInt]; rfl, by simp [VR]⟩)
  · cases x with
    | sl k o es =>
      obtain rfl := Option.some.inj h
      cases o with
      | ex => simp only [VR] at hx; exact (hcx _ _ hx).elim
      | _ =>
        simp only [VR] at hx
        obtain ⟨a, cap, rfl, _⟩ := hx
        exact ⟨_, by simp [Builtin.len_, run_underlying (ty_sl hE hs), goInt]; rfl, by simp [VR]⟩
    | ms key g off len =>
      obtain rfl := Option.some.inj h
      simp only [VR] at hx
      obtain ⟨a, cap, rfl, _⟩ := hx
      exact ⟨_, by simp [Builtin.len_, run_underlying (ty_sl hE hs), goInt]; rfl, by simp [VR]⟩
    | _ => cases h

theorem run_partV {cs : List AV} {rcs : List Value} {t off : Nat} {v : AV} (h : partOf E t cs off = some v) (hv : VRl cs c rcs) : Gives P w c (part t rcs.toArray off) v := by
  unfold partOf at h
  cases ha : (E.ty t).agg? with
  | none => rw [ha] at h; cases h
  | some ag =>
    rw [ha] at h
    cases ag with
    | true =>
      simp only at h
      split at h
      · rename_i hs
        obtain rfl := Option.some.inj h
        refine ⟨.agg ((rcs.drop off).take (E.size t)).toArray, ?_, ?_⟩
        · simp only [part, Sem.run_bind, run_isAgg hE w ha, Result.andThen_ok, if_true, run_sizeOf hE w hs.1, Sem.run_pure]
          congr 2
          apply Array.ext'
          simp [List.extract_eq_take_drop]
        · simp only [VR]; exact ⟨_, rfl, (hv.drop off).take _⟩
      · cases h
    | false =>
      simp only at h
      obtain ⟨r, hr, hvr⟩ := hv.get off v h
      refine ⟨r, ?_, hvr⟩
      simp only [part, Sem.run_bind, run_isAgg hE w ha, Result.andThen_ok, Bool.false_eq_true, if_false]
      simp [hr]

theorem run_fieldV {t f : Nat} {x v : AV} {rx : Value} (h : fieldV E t x f = some v) (hx : VR x c rx) : Gives P w c (Instr.field t rx f) v := by
  unfold fieldV at h
  cases hs : E.ty t <;> rw [hs] at h <;> try (cases h; done)
  rename_i fs
  cases x <;> try (cases h; done)
  rename_i cs
  simp only [Option.bind_eq_some_iff] at h
  obtain ⟨p, hp, hv⟩ := h
  obtain ⟨fields, hu, rfl⟩ := ty_st hE hs
  simp only [VR] at hx
  obtain ⟨rc, rfl, hl⟩ := hx
  simp only [List.getElem?_map, Option.map_eq_some_iff] at hp
  obtain ⟨fd, hfd, rfl⟩ := hp
  obtain ⟨r, hr, hvr⟩ := run_partV (w := w) hE hv hl
  refine ⟨r, ?_, hvr⟩
  have hfd' : fields[f]? = some fd := by simpa using hfd
  simp [Instr.field, run_underlying hu, hfd', asAgg, hr]

theorem run_indexV {t : Nat} {x i v : AV} {rx ri : Value} (h : indexV E t x i = some v) (hx : VR x c rx) (hi : VR i c ri) : Gives P w c (Instr.index t rx ri) v := by
  unfold indexV at h
  cases i <;> try (cases h; done)
  rename_i ki n
  simp only [VR] at hi
  subst hi
  simp only at h
  split at h
  · rename_i hn
    cases hs : E.ty t <;> rw [hs] at h <;> try (cases h; done)
    · cases x <;> try (cases h; done)
      rename_i s
      simp only [VR] at hx
      subst hx
      simp only [Option.map_eq_some_iff] at h
      obtain ⟨b, hb, rfl⟩ := h
      exact ⟨.int .u8 b.toNat, by simp [Instr.index, asIntOf, run_underlying (ty_str hE hs), hn, hb], by simp [VR]⟩
    · cases x <;> try (cases h; done)
      rename_i m e cs
      simp only at h
      split at h
      · rename_i hm
        simp only [VR] at hx
        obtain ⟨rc, rfl, hl⟩ := hx
        obtain ⟨r, hr, hvr⟩ := run_partV (w := w) hE h hl
        exact ⟨r, by simp [Instr.index, asIntOf, run_underlying (ty_arr hE hs), hn, hm.1, run_sizeOf hE w hm.2, hr], hvr⟩
      · cases h
  · cases h
end

end Go.Proofs.YtlglhokpaplifaaGreatDoor.Ev
/- Addresses, slices, new blocks: what the evaluator says is what the machine does. Conditions: none. -/
namespace Go.Proofs.YtlglhokpaplifaaGreatDoor.Ev
open Go.RowKit
set_option linter.unusedVariables false
set_option linter.unusedSimpArgs false
set_option linter.unusedSectionVars false

theorem VRm.get {c : Cx} {C : CellP} : ∀ {es : List AV} {b o k : Nat}, VRm es c C b o k → ∀ {i : Nat} {e : AV}, es[i]? = some e → ∃ rv, VR e c rv ∧ rv.cells.size = k ∧ CellsAt C b (o + i * k) rv
  | [], _, _, _, _, i, e, hi => by simp at hi
  | x :: xs, b, o, k, h, i, e, hi => by
    simp only [VRm] at h
    cases i with
    | zero => simp at hi; subst hi; simpa using h.1
    | succ i =>
      simp only [List.getElem?_cons_succ] at hi
      obtain ⟨rv, h1, h2, h3⟩ := VRm.get h.2 hi
      refine ⟨rv, h1, h2, ?_⟩
      have e : o + (i + 1) * k = o + k + i * k := by rw [Nat.add_mul]; omega
      rw [e]; exact h3

theorem VRm.flat {c : Cx} {C : CellP} : ∀ {es : List AV} {b o k : Nat}, VRm es c C b o k → ∃ rvs, VRl es c rvs ∧ (∀ r ∈ rvs, r.cells.size = k) ∧ ∀ j x, (flatC rvs)[j]? = some x → C b (o + j) x
  | [], _, _, _, _ => ⟨[], by simp [VRl], by simp, by simp [flatC]⟩
  | x :: xs, b, o, k, h => by
    simp only [VRm] at h
    obtain ⟨⟨rv, h1, h2, h3⟩, h4⟩ := h
    obtain ⟨rvs, k1, k2, k3⟩ := VRm.flat h4
    refine ⟨rv :: rvs, by simp only [VRl]; exact ⟨rv, rvs, rfl, h1, k1⟩, fun r hr => ?_, fun j y hj => ?_⟩
    · rcases List.mem_cons.1 hr with e | e
      · rw [e]; exact h2
      · exact k2 r e
    · have e : flatC (rv :: rvs) = rv.cells.toList ++ flatC rvs := rfl
      have hl : rv.cells.toList.length = k := by simpa using h2
      rw [e] at hj
      by_cases hjk : j < k
      · rw [List.getElem?_append_left (by omega)] at hj
        exact h3 j y hj
      · rw [List.getElem?_append_right (by omega), hl] at hj
        have := k3 _ y hj
        have e2 : o + k + (j - k) = o + j := by omega
        rwa [e2] at this

theorem VRm.mk {c : Cx} {C : CellP} : ∀ {es : List AV} {b o k : Nat} {rvs : List Value}, VRl es c rvs → (∀ r ∈ rvs, r.cells.size = k) → (∀ j x, (flatC rvs)[j]? = some x → C b (o + j) x) → VRm es c C b o k
  | [], _, _, _, _, _, _, _ => by simp [VRm]
  | x :: xs, b, o, k, rvs, h, hs, hc => by
    simp only [VRl] at h
    obtain ⟨v, ws, rfl, h1, h2⟩ := h
    have hl : v.cells.toList.length = k := by simpa using hs v (by simp)
    have e : flatC (v :: ws) = v.cells.toList ++ flatC ws := rfl
    simp only [VRm]
    refine ⟨⟨v, h1, hs v (by simp), fun j y hj => hc j y ?_⟩, VRm.mk h2 (fun r hr => hs r (by simp [hr])) fun j y hj => ?_⟩
    · rw [e, List.getElem?_append_left (List.getElem?_eq_some_iff.1 hj).1]; exact hj
    · have := hc (k + j) y (by rw [e, List.getElem?_append_right (by omega), hl, Nat.add_sub_cancel_left]; exact hj)
      rwa [← Nat.add_assoc] at this

theorem VRm.drop {c : Cx} {C : CellP} {es : List AV} {b o k : Nat} (h : VRm es c C b o k) (n : Nat) : VRm (es.drop n) c C b (o + n * k) k := by
  induction n generalizing es o with
  | zero => simpa using h
  | succ n ih =>
    cases es with
    | nil => simp [VRm]
    | cons x xs =>
      simp only [VRm] at h
      have := ih h.2
      have e : o + (n + 1) * k = o + k + n * k := by rw [Nat.add_mul]; omega
      rw [e]; simpa using this
theorem VRm.take {c : Cx} {C : CellP} {es : List AV} {b o k : Nat} (h : VRm es c C b o k) (n : Nat) : VRm (es.take n) c C b o k := by
  induction n generalizing es o with
  | zero => simp [VRm]
  | succ n ih =>
    cases es with
    | nil => simp [VRm]
    | cons x xs =>
      simp only [VRm] at h
      simp only [List.take_succ_cons, VRm]
      exact ⟨h.1, ih h.2⟩

theorem getElem?_of_map {α β : Type} {f : α → β} {l : List α} {i : Nat} {y : β} (h : (l.map f)[i]? = some y) : ∃ x, l[i]? = some x ∧ f x = y := by
  simpa [Option.map_eq_some_iff] using h

section
variable {P : Program} {E : Env} (hE : EnvOk E P) {w : World} {c : Cx}
include hE

theorem run_fieldA {s f : Nat} {x v : AV} {rx : Value} (h : fieldA E s x f = some v) (hx : VR x c rx) : Gives P w c (Instr.fieldAt s rx f) v := by
  unfold fieldA at h
  cases hs : E.ty s <;> rw [hs] at h <;> try (cases h; done)
  rename_i fs
  simp only at h
  cases hf : fs[f]? with
  | none => rw [hf] at h; cases h
  | some p =>
    obtain ⟨o, t⟩ := p
    rw [hf] at h
    simp only at h
    split at h
    · cases h
    rename_i hsz
    obtain ⟨fields, hu, rfl⟩ := ty_st hE hs
    obtain ⟨fd, hfd, he⟩ := getElem?_of_map hf
    have ho : fd.offset = o := congrArg Prod.fst he
    have htt : fd.type = t := congrArg Prod.snd he
    have hfd' : fields[f]? = some fd := by simpa using hfd
    have hs2 : (sizeOf fd.type).run P w = .ok (E.size t) w := by rw [htt]; exact run_sizeOf hE w hsz
    have key : ∀ a : Addr, (Instr.fieldAt s (.pointer (some a)) f).run P w = .ok (.pointer (some (a.add o))) w := by
      intro a
      simp [Instr.fieldAt, run_underlying hu, hfd', Instr.sureAddr, fieldPlace, hs2, hsz, ho]
    cases x <;> try (cases h; done)
    · obtain rfl := Option.some.inj h
      simp only [VR] at hx
      obtain ⟨a, rfl, q, hq, h2, h3⟩ := hx
      refine ⟨_, key a, ?_⟩
      simp only [VR]
      exact ⟨_, rfl, q, hq, h2, fun e => ⟨(h3 e).1, by rw [(h3 e).2, Addr.add_lit]⟩⟩
    · obtain rfl := Option.some.inj h
      simp only [VR] at hx
      obtain ⟨a, rfl, q, hq, h2, h3⟩ := hx
      refine ⟨_, key a, ?_⟩
      simp only [VR]
      exact ⟨_, rfl, q, hq, h2, fun e => ⟨(h3 e).1, by rw [(h3 e).2, Addr.add_lit, Nat.add_assoc]⟩⟩
    · obtain rfl := Option.some.inj h
      simp only [VR] at hx
      obtain ⟨b, o', rc, rfl, h2, h3⟩ := hx
      refine ⟨_, key _, ?_⟩
      simp only [VR]
      exact ⟨b, o', rc, by rw [Addr.add_lit, Nat.add_assoc], h2, h3⟩
end

theorem cx_el_el (c : Cx) : c.el.el = c.el := rfl

section
variable {P : Program} {E : Env} (hE : EnvOk E P) {B : Nat → Nat → Prop} {w0 w : World} {h : Heap} {M : Mp} (H : HR B w0 w h M)
include hE H

theorem run_indexA {t : Nat} {x i v : AV} {rx ri : Value} (hl : indexA E h t x i = some v) (hx : VR x (cx B w0.heap.size w h M) rx) (hi : VR i (cx B w0.heap.size w h M) ri) :
    Gives P w (cx B w0.heap.size w h M) (Instr.indexAt t rx ri) v := by
  have hcx := cx_x B w0.heap.size w h M
  unfold indexA at hl
  cases i <;> try (cases hl; done)
  rename_i ki n
  simp only [VR] at hi
  subst hi
  simp only at hl
  split at hl
  case isFalse => cases hl
  rename_i hn
  cases hs : E.ty t <;> rw [hs] at hl <;> try (cases hl; done)
  · rename_i e
    simp only at hl
    split at hl
    · cases hl
    rename_i hsz
    have hpe : P.elem t = e := by simp [Program.elem, ty_sl hE hs]
    have hu : P.underlying t = some (.slice (P.elem t)) := by rw [hpe]; exact ty_sl hE hs
    have run : ∀ (a : Addr) (len cap : Nat), n < len → (Instr.indexAt t (.slice (some a) len cap) (.int ki n)).run P w = .ok (.pointer (some (a.add (n.toNat * E.size e)))) w := by
      intro a len cap hlen
      rw [run_indexAt_slice w t a len cap ki n hu, if_pos ⟨hn, hlen⟩, hpe, run_sizeOf hE w hsz]
      rfl
    cases x <;> try (cases hl; done)
    · rename_i k o es
      simp only at hl
      cases he : es[n.toNat]? with
      | none => rw [he] at hl; cases hl
      | some el =>
        rw [he] at hl
        simp only at hl
        split at hl
        · rename_i hk
          obtain rfl := Option.some.inj hl
          have hlt : n.toNat < es.length := (List.getElem?_eq_some_iff.1 he).1
          have fin : ∀ (a : Option Addr) (cap : Nat) (C : CellP), (es ≠ [] → ∃ b ofs, a = some ⟨b, ofs, none⟩ ∧ VRm es ((cx B w0.heap.size w h M).elb (o == .brw)) C b ofs k) →
              (∀ b i x, C b i x → (if (o == Own.brw) = true then (cx B w0.heap.size w h M).a else (cx B w0.heap.size w h M).s) b i x) →
              Gives P w (cx B w0.heap.size w h M) (Instr.indexAt t (.slice a es.length cap) (.int ki n)) (.cp (o == .brw) el.cells 0) := by
            intro a cap C hm hC
            obtain ⟨b, ofs, rfl, hmm⟩ := hm (by intro e0; rw [e0] at hlt; simp at hlt)
            obtain ⟨rv, h1, h2, h3⟩ := hmm.get he
            refine ⟨_, run _ _ _ (by omega), ?_⟩
            simp only [VR]
            refine ⟨b, ofs + n.toNat * k, rv.cells.toList, ?_, VR.cells_of (elb_x B w0.heap.size w h M _) h1 (by rw [h2, hk.2, hk.1]), fun j y hj => hC _ _ _ (h3 j y hj)⟩
            rw [Addr.add_lit, hk.1, Nat.add_zero]
          cases o with
          | ex => simp only [VR] at hx; exact (hcx _ _ hx).elim
          | brw =>
            simp only [VR] at hx
            obtain ⟨a, cap, rfl, _, _, _, hm, _⟩ := hx
            exact fin a cap _ hm (fun _ _ _ hc => hc)
          | _ =>
            simp only [VR] at hx
            obtain ⟨a, cap, rfl, _, _, _, hm, _⟩ := hx
            exact fin a cap _ hm (fun _ _ _ hc => hc)
        · cases hl
    · rename_i key g off len
      simp only at hl
      cases hk : h key with
      | none => rw [hk] at hl; cases hl
      | some blk =>
        rw [hk] at hl
        cases blk with
        | row g' T k es =>
          simp only at hl
          split at hl
          · rename_i hg
            obtain rfl := Option.some.inj hl
            simp only [VR] at hx
            obtain ⟨a, cap, rfl, q, hq, h2, h3⟩ := hx
            have hq' := cx_l hk hq
            subst hq'
            obtain ⟨_, ha, hlc, _⟩ := h3 hg.1
            have hlt := hg.2.2
            obtain rfl := ha (by omega)
            refine ⟨_, run _ _ _ hg.2.2, ?_⟩
            simp only [VR]
            refine ⟨_, rfl, _, hq, h2, fun e0 => ⟨rfl, ?_⟩⟩
            rw [Addr.add_lit, ← hg.2.1, Nat.add_zero]
            simp only [Blk.k]
            rw [Nat.add_mul]
          · cases hl
        | var => cases hl
        | tok => cases hl
        | fz => cases hl
  · rename_i m e
    simp only at hl
    split at hl
    · cases hl
    rename_i hsz
    split at hl
    case isFalse => cases hl
    rename_i hm
    have run : ∀ a : Addr, (Instr.indexAt t (.pointer (some a)) (.int ki n)).run P w = .ok (.pointer (some (a.add (n.toNat * E.size e)))) w := by
      intro a
      have hpe : P.elem t = e := by simp [Program.elem, ty_arr hE hs]
      have hpl : P.arrayLen t = m := by simp [Program.arrayLen, ty_arr hE hs]
      rw [run_indexAt_array w t a ki n (by rw [hpe, hpl]; exact ty_arr hE hs), if_pos ⟨hn, by rw [hpl]; exact hm⟩, hpe, run_sizeOf hE w hsz]
      rfl
    cases x <;> try (cases hl; done)
    · obtain rfl := Option.some.inj hl
      simp only [VR] at hx
      obtain ⟨a, rfl, q, hq, h2, h3⟩ := hx
      refine ⟨_, run a, ?_⟩
      simp only [VR]
      exact ⟨_, rfl, q, hq, h2, fun e => ⟨(h3 e).1, by rw [(h3 e).2, Addr.add_lit]⟩⟩
    · obtain rfl := Option.some.inj hl
      simp only [VR] at hx
      obtain ⟨b, o', rc, rfl, h2, h3⟩ := hx
      refine ⟨_, run _, ?_⟩
      simp only [VR]
      exact ⟨b, o', rc, by rw [Addr.add_lit, Nat.add_assoc], h2, h3⟩
end

end Go.Proofs.YtlglhokpaplifaaGreatDoor.Ev
/- Slicing, and new blocks: what the evaluator says is what the machine does. Conditions: none. -/
namespace Go.Proofs.YtlglhokpaplifaaGreatDoor.Ev
open Go.RowKit
set_option linter.unusedVariables false
set_option linter.unusedSimpArgs false
set_option linter.unusedSectionVars false

/-- an operand that may lack -/
def VRo (c : Cx) : Option AV → Option Value → Prop
  | none, none => True
  | some x, some v => VR x c v
  | _, _ => False

theorem run_boundV {P : Program} {w : World} {c : Cx} {x : AV} {rx : Value} {d n y : Nat} {code : BoundsCode} (h : boundV (some x) d = some n) (hx : VR x c rx) (hy : n ≤ y) :
    (Instr.sliceBound rx y code).run P w = .ok n w := by
  unfold boundV at h
  cases x <;> try (cases h; done)
  rename_i k i
  simp only at h
  split at h
  · rename_i h0
    obtain rfl := Option.some.inj h
    simp only [VR] at hx
    subst hx
    have : i ≤ (y : Int) := by omega
    simp [Instr.sliceBound, asIntOf, h0, this]
  · cases h

theorem run_bounds {P : Program} {w : World} {c : Cx} {sl : Bool} {len cap a b m : Nat} {lo hi mx : Option AV} {rlo rhi rmx : Option Value}
    (h1 : boundV hi len = some b) (h2 : boundV lo 0 = some a) (h3 : boundV mx b = some m) (hm : m = b) (hab : a ≤ b) (hbl : b ≤ len) (hlc : len ≤ cap) (hhi : mx.isSome = true → hi.isSome = true)
    (v1 : VRo c hi rhi) (v2 : VRo c lo rlo) (v3 : VRo c mx rmx) :
    (Instr.sliceBounds sl len cap rlo rhi rmx).run P w = .ok (a, b, if mx.isSome then b else cap) w := by
  have ehi : ∀ y code, b ≤ y → ∀ x rx, hi = some x → rhi = some rx → (Instr.sliceBound rx y code).run P w = .ok b w := by
    intro y code hy x rx e1 e2
    subst e1; subst e2
    exact run_boundV h1 v1 hy
  have elo : ∀ y code, a ≤ y → ∀ x rx, lo = some x → rlo = some rx → (Instr.sliceBound rx y code).run P w = .ok a w := by
    intro y code hy x rx e1 e2
    subst e1; subst e2
    exact run_boundV h2 v2 hy
  have emx : ∀ y code, b ≤ y → ∀ x rx, mx = some x → rmx = some rx → (Instr.sliceBound rx y code).run P w = .ok b w := by
    intro y code hy x rx e1 e2
    subst e1; subst e2
    exact run_boundV (hm ▸ h3) v3 hy
  cases mx with
  | none =>
    cases rmx with
    | some _ => exact v3.elim
    | none =>
      cases hi with
      | none =>
        cases rhi with
        | some _ => exact v1.elim
        | none =>
          have hb : len = b := by simpa [boundV] using h1
          subst hb
          cases lo with
          | none =>
            cases rlo with
            | some _ => exact v2.elim
            | none =>
              have : 0 = a := by simpa [boundV] using h2
              subst this
              simp [Instr.sliceBounds]
          | some x =>
            cases rlo with
            | none => exact v2.elim
            | some rx => simp [Instr.sliceBounds, elo len .sliceB hab x rx rfl rfl]
      | some xh =>
        cases rhi with
        | none => exact v1.elim
        | some rh =>
          have e1 : ∀ code, (Instr.sliceBound rh cap code).run P w = .ok b w := fun code => ehi cap code (by omega) xh rh rfl rfl
          cases lo with
          | none =>
            cases rlo with
            | some _ => exact v2.elim
            | none =>
              have : 0 = a := by simpa [boundV] using h2
              subst this
              simp [Instr.sliceBounds, e1]
          | some x =>
            cases rlo with
            | none => exact v2.elim
            | some rx => simp [Instr.sliceBounds, e1, elo b .sliceB hab x rx rfl rfl]
  | some xm =>
    cases rmx with
    | none => exact v3.elim
    | some rm =>
      have e0 : ∀ code, (Instr.sliceBound rm cap code).run P w = .ok b w := fun code => emx cap code (by omega) xm rm rfl rfl
      cases hi with
      | none => simp at hhi
      | some xh =>
        cases rhi with
        | none => exact v1.elim
        | some rh =>
          have e1 : ∀ code, (Instr.sliceBound rh b code).run P w = .ok b w := fun code => ehi b code (by omega) xh rh rfl rfl
          cases lo with
          | none =>
            cases rlo with
            | some _ => exact v2.elim
            | none =>
              have : 0 = a := by simpa [boundV] using h2
              subst this
              simp [Instr.sliceBounds, e0, e1]
          | some x =>
            cases rlo with
            | none => exact v2.elim
            | some rx => simp [Instr.sliceBounds, e0, e1, elo b .slice3C hab x rx rfl rfl]

section
variable {P : Program} {E : Env} (hE : EnvOk E P) {B : Nat → Nat → Prop} {w0 w : World} {h : Heap} {M : Mp} (H : HR B w0 w h M)
include hE H

theorem run_sliceV {t : Nat} {x v : AV} {rx : Value} {lo hi mx : Option AV} {rlo rhi rmx : Option Value} (hl : sliceV E h t x lo hi mx = some v) (hx : VR x (cx B w0.heap.size w h M) rx)
    (v1 : VRo (cx B w0.heap.size w h M) hi rhi) (v2 : VRo (cx B w0.heap.size w h M) lo rlo) (v3 : VRo (cx B w0.heap.size w h M) mx rmx) (hhi : mx.isSome = true → hi.isSome = true) :
    Gives P w (cx B w0.heap.size w h M) (Instr.sliceAt t rx rlo rhi rmx) v := by
  have hcx := cx_x B w0.heap.size w h M
  unfold sliceV at hl
  cases hs : E.ty t <;> rw [hs] at hl <;> try (cases hl; done)
  · cases x <;> try (cases hl; done)
    rename_i s
    simp only [Option.bind_eq_some_iff] at hl
    obtain ⟨b, hb, a, ha, hl⟩ := hl
    split at hl
    · rename_i hc
      obtain rfl := Option.some.inj hl
      simp only [VR] at hx
      subst hx
      have hmn : mx = none := by simpa using hc.2.2
      subst hmn
      cases rmx with
      | some _ => exact v3.elim
      | none =>
        have hb' := run_bounds (P := P) (w := w) (sl := false) (cap := s.size) (mx := none) hb ha (by simp [boundV]) rfl hc.1 hc.2.1 (Nat.le_refl _) (by simp) v1 v2 (rmx := none) trivial
        refine ⟨.string (s.extract a b), ?_, by simp [VR]⟩
        have hu := ty_str hE hs
        simp [Instr.sliceAt, run_underlying hu, Instr.slice, hb']
    · cases hl
  · rename_i e
    simp only at hl
    split at hl
    · cases hl
    rename_i hsz
    have hu := ty_sl hE hs
    have run : ∀ (p : Option Addr) (len cap a b : Nat), boundV hi len = some b → boundV lo 0 = some a → boundV mx b = some b → a ≤ b → b ≤ len → len ≤ cap →
        (Instr.sliceAt t (.slice p len cap) rlo rhi rmx).run P w = .ok (.slice (if (if mx.isSome then b else cap) = a then p else p.map (·.add (a * E.size e))) (b - a) ((if mx.isSome then b else cap) - a)) w := by
      intro p len cap a b h1 h2 h3 hab hbl hlc
      have hb' := run_bounds (P := P) (w := w) (sl := true) h1 h2 h3 rfl hab hbl hlc hhi v1 v2 v3
      simp [Instr.sliceAt, run_underlying hu, Instr.slice, hb', run_sizeOf hE w hsz]
    cases x <;> try (cases hl; done)
    · rename_i k o es
      simp only [Option.bind_eq_some_iff] at hl
      obtain ⟨b, hb, a, ha, m, hm, hl⟩ := hl
      split at hl
      case isFalse => cases hl
      rename_i hc
      obtain ⟨hab, hbl, rfl, hk⟩ := hc
      obtain rfl := Option.some.inj hl
      have fin : ∀ (o' : Own) (p : Option Addr) (cap : Nat), o' ≠ .brw ∨ o = .brw → (∀ T key, o' ≠ .ex T key) → (∀ T key, o ≠ .ex T key) → es.length ≤ cap → cap ≤ maxLen → (p = none → cap = 0) →
          (es ≠ [] → ∃ b ofs, p = some ⟨b, ofs, none⟩ ∧ VRm es ((cx B w0.heap.size w h M).elb (o == .brw)) ((cx B w0.heap.size w h M).of o) b ofs k) →
          (o = .brw → o' = .brw) →
          OwnOk (cx B w0.heap.size w h M).l (if (if mx.isSome then m else cap) = a then p else p.map (·.add (a * E.size e))) (m - a) ((if mx.isSome then m else cap) - a) o' →
          Gives P w (cx B w0.heap.size w h M) (Instr.sliceAt t (.slice p es.length cap) rlo rhi rmx) (.sl k o' ((es.drop a).take (m - a))) := by
        intro o' p cap hbrw hex hex2 h1 h2 h3 h4 hbr2 h5
        refine ⟨_, run p es.length cap a m hb ha hm hab hbl h1, ?_⟩
        have hlen : ((es.drop a).take (m - a)).length = m - a := by rw [List.length_take, List.length_drop]; omega
        have hcap : m - a ≤ (if mx.isSome then m else cap) - a := by split <;> omega
        have hV : VR (.sl k o' ((es.drop a).take (m - a))) (cx B w0.heap.size w h M) (.slice (if (if mx.isSome then m else cap) = a then p else p.map (·.add (a * E.size e))) (m - a) ((if mx.isSome then m else cap) - a)) ↔
            ∃ a' cap', (Value.slice (if (if mx.isSome then m else cap) = a then p else p.map (·.add (a * E.size e))) (m - a) ((if mx.isSome then m else cap) - a)) = .slice a' ((es.drop a).take (m - a)).length cap' ∧ ((es.drop a).take (m - a)).length ≤ cap' ∧ cap' ≤ maxLen ∧ (a' = none → cap' = 0) ∧
              ((es.drop a).take (m - a) ≠ [] → ∃ b ofs, a' = some ⟨b, ofs, none⟩ ∧ VRm ((es.drop a).take (m - a)) ((cx B w0.heap.size w h M).elb (o' == .brw)) ((cx B w0.heap.size w h M).of o') b ofs k) ∧ OwnOk (cx B w0.heap.size w h M).l a' ((es.drop a).take (m - a)).length cap' o' := by
          cases o' with
          | ex T key => exact (hex T key rfl).elim
          | _ => simp only [VR]
        rw [hV, hlen]
        refine ⟨_, _, rfl, hcap, ?_, ?_, ?_, h5⟩
        · split <;> omega
        · intro hp
          by_cases e1 : (if mx.isSome then m else cap) = a
          · omega
          · rw [if_neg e1] at hp
            cases p with
            | none => have := h3 rfl; have : (if mx.isSome then m else cap) = 0 := by split <;> omega
                      omega
            | some _ => simp at hp
        · intro hne
          have hlt : a < m := by
            rcases Nat.lt_or_ge a m with h | h
            · exact h
            · exact (hne (by rw [Nat.sub_eq_zero_of_le h]; simp)).elim
          have hes : es ≠ [] := by intro e0; rw [e0] at hbl; simp at hbl; omega
          obtain ⟨b, ofs, rfl, hmm⟩ := h4 hes
          have hk' : k = E.size e := hk.resolve_left hes
          have hne2 : (if mx.isSome then m else cap) ≠ a := by split <;> omega
          rw [if_neg hne2]
          refine ⟨b, ofs + a * k, by rw [Option.map_some, Addr.add_lit, hk'], ?_⟩
          have hof : ∀ b i x, (cx B w0.heap.size w h M).of o b i x → (cx B w0.heap.size w h M).of o' b i x := by
            intro b i x hx
            rcases hbrw with hb1 | hb1
            · cases o with
              | brw => exact (hb1 (hbr2 rfl)).elim
              | _ => cases o' <;> first | exact hx | exact ⟨hx.1, hx.2.1⟩
            · subst hb1; rw [hbr2 rfl]; exact hx
          have heq : (o == Own.brw) = (o' == Own.brw) := by
            by_cases e1 : o = .brw
            · rw [e1, hbr2 e1]
            · have e2 : o' ≠ .brw := hbrw.resolve_right e1
              rw [beq_false_of_ne e1, beq_false_of_ne e2]
          rw [heq] at hmm
          exact VRm.mono (Gr.refl _) hof _ ((hmm.drop a).take (m - a))
      have fin2 : ∀ (p : Option Addr) (cap : Nat), (∀ T key, o ≠ .ex T key) → es.length ≤ cap → cap ≤ maxLen → (p = none → cap = 0) →
          (es ≠ [] → ∃ b ofs, p = some ⟨b, ofs, none⟩ ∧ VRm es ((cx B w0.heap.size w h M).elb (o == .brw)) ((cx B w0.heap.size w h M).of o) b ofs k) → OwnOk (cx B w0.heap.size w h M).l p es.length cap o →
          Gives P w (cx B w0.heap.size w h M) (Instr.sliceAt t (.slice p es.length cap) rlo rhi rmx) (.sl k (if o = .brw then .brw else if mx.isSome then .lit else if a = 0 ∧ m = es.length then o else .no) ((es.drop a).take (m - a))) := by
        intro p cap h0 h1 h2 h3 h4 h5
        by_cases hob : o = .brw
        · subst hob
          rw [if_pos rfl]
          exact fin .brw p cap (.inr rfl) (by simp) (by simp) h1 h2 h3 h4 (fun _ => rfl) trivial
        · rw [if_neg hob]
          by_cases hms : mx.isSome = true
          · rw [if_pos hms]
            exact fin .lit p cap (.inl (by simp)) (by simp) h0 h1 h2 h3 h4 (fun e => (hob e).elim) (by simp [OwnOk, hms])
          · rw [if_neg hms]
            by_cases hfull : a = 0 ∧ m = es.length
            · rw [if_pos hfull]
              obtain ⟨rfl, rfl⟩ := hfull
              refine fin o p cap (.inl hob) h0 h0 h1 h2 h3 h4 (fun e => e) ?_
              have hmf : mx.isSome = false := by simpa using hms
              simp only [hmf, Bool.false_eq_true, if_false, Nat.zero_mul, Addr.add_zero', Option.map_id', id_eq, Nat.sub_zero, ite_self]
              exact h5
            · rw [if_neg hfull]
              exact fin .no p cap (.inl (by simp)) (by simp) h0 h1 h2 h3 h4 (fun e => (hob e).elim) trivial
      cases o with
      | ex => simp only [VR] at hx; exact (hcx _ _ hx).elim
      | _ =>
        simp only [VR] at hx
        obtain ⟨p, cap, rfl, h1, h2, h3, h4, h5⟩ := hx
        exact fin2 p cap (by simp) h1 h2 h3 h4 h5
    · rename_i key g off len
      simp only at hl
      cases hk : h key with
      | none => rw [hk] at hl; cases hl
      | some blk =>
        rw [hk] at hl
        cases blk with
        | row g' T k es =>
          simp only [Option.bind_eq_some_iff] at hl
          obtain ⟨b, hb, a, ha, hl⟩ := hl
          split at hl
          case isFalse => cases hl
          rename_i hc
          obtain ⟨hg, hkk, hab, hbl, hmx⟩ := hc
          obtain rfl := Option.some.inj hl
          have hmn : mx = none := by simpa using hmx
          subst hmn
          simp only [VR] at hx
          obtain ⟨p, cap, rfl, q, hq, h2, h3⟩ := hx
          have hq' := cx_l hk hq
          subst hq'
          obtain ⟨h4, hp, h5, h6, h7⟩ := h3 hg
          refine ⟨.slice (some (if cap = a then p else p.add (a * E.size e))) (b - a) (cap - a), ?_, ?_⟩
          · rw [run _ len cap a b hb ha (by simp [boundV]) hab hbl h5]
            by_cases hca : cap = a <;> simp [hca]
          simp only [VR]
          refine ⟨_, cap - a, rfl, _, hq, h2, fun e0 => ⟨h4, fun hne => ?_, by omega, by omega, by omega⟩⟩
          obtain rfl := hp (by omega)
          rw [if_neg (by omega), Addr.add_lit, ← hkk]
          simp only [Blk.k]
          rw [Nat.add_mul]
        | var => cases hl
        | tok => cases hl
        | fz => cases hl
end

end Go.Proofs.YtlglhokpaplifaaGreatDoor.Ev
/- New blocks (variables, rows, append): what the evaluator says is what the machine does. Conditions: none. -/
namespace Go.Proofs.YtlglhokpaplifaaGreatDoor.Ev
open Go.RowKit
set_option linter.unusedVariables false
set_option linter.unusedSimpArgs false
set_option linter.unusedSectionVars false

/-- An operation: its value, and the memory behind it. -/
def Does (P : Program) (B : Nat → Nat → Prop) (w0 w : World) (h : Heap) (M : Mp) (s : Sem Value) (v : AV) (h' : Heap) : Prop :=
  ∃ rv w' M', s.run P w = .ok rv w' ∧ HR B w0 w' h' M' ∧ Gr (cx B w0.heap.size w h M) (cx B w0.heap.size w' h' M') ∧ VR v (cx B w0.heap.size w' h' M') rv

theorem Gives.does {P : Program} {B : Nat → Nat → Prop} {w0 w : World} {h : Heap} {M : Mp} {s : Sem Value} {v : AV} (H : HR B w0 w h M) (hg : Gives P w (cx B w0.heap.size w h M) s v) : Does P B w0 w h M s v h := by
  obtain ⟨rv, h1, h2⟩ := hg
  exact ⟨rv, w, M, h1, H, Gr.refl _, h2⟩

theorem stabs_iff {vs : List AV} : stabs vs = true ↔ ∀ v ∈ vs, stab v = true := by
  induction vs with
  | nil => simp [stabs]
  | cons x xs ih => simp [stabs, ih]

mutual
theorem VR.low0 {B : Nat → Nat → Prop} {n0 : Nat} {w : World} {h : Heap} {M : Mp} : ∀ (v : AV) {rv : Value}, VR v (cx B n0 w h M) rv → stab v = true → VR (low0 v) (cx B n0 w h M).el rv
  | .un, _, _, _ => by simp [Ev.low0, VR]
  | .int .., _, hv, _ => by simpa only [Ev.low0, VR] using hv
  | .bool .., _, hv, _ => by simpa only [Ev.low0, VR] using hv
  | .str .., _, hv, _ => by simpa only [Ev.low0, VR] using hv
  | .nilf, _, hv, _ => by simpa only [Ev.low0, VR] using hv
  | .ud, _, hv, _ => by simpa only [Ev.low0, VR] using hv
  | .agg cs, _, hv, hs => by
    simp only [stab] at hs
    simp only [Ev.low0, VR] at hv ⊢
    obtain ⟨rc, h1, h2⟩ := hv
    exact ⟨rc, h1, VRl.low0 cs h2 hs⟩
  | .tup cs, _, hv, hs => by
    simp only [stab] at hs
    simp only [Ev.low0, VR] at hv ⊢
    obtain ⟨rc, h1, h2⟩ := hv
    exact ⟨rc, h1, VRl.low0 cs h2 hs⟩
  | .sl k o es, _, hv, hs => by
    cases o with
    | ex T key => simp only [VR] at hv; exact hv.elim
    | brw =>
      simp only [stab] at hs
      have he : es = [] := by simpa using hs
      subst he
      simp only [Ev.low0, VR] at hv ⊢
      obtain ⟨a, cap, h1, h2, h3, h4, _, h6⟩ := hv
      exact ⟨a, cap, h1, h2, h3, h4, fun hne => (hne rfl).elim, h6⟩
    | tok key g =>
      simp only [Ev.low0, VR] at hv ⊢
      obtain ⟨a, cap, h1, h2, h3, h4, h5, h6⟩ := hv
      exact ⟨a, cap, h1, h2, h3, h4, h5, trivial⟩
    | no =>
      simp only [Ev.low0, VR] at hv ⊢
      exact hv
    | lit =>
      simp only [Ev.low0, VR] at hv ⊢
      exact hv
  | .ms .., _, _, _ => by simp [Ev.low0, VR]
  | .vp .., _, _, _ => by simp [Ev.low0, VR]
  | .rp .., _, _, _ => by simp [Ev.low0, VR]
  | .cp br cs off, _, hv, hs => by
    simp only [stab, Bool.not_eq_true'] at hs
    subst hs
    simp only [Ev.low0, VR] at hv ⊢
    exact hv
  | .xp .., _, _, _ => by simp [Ev.low0, VR]
  | .fn f caps, _, hv, hs => by
    simp only [stab] at hs
    simp only [Ev.low0, VR] at hv ⊢
    obtain ⟨rc, h1, h2⟩ := hv
    exact ⟨rc, h1, VRl.low0 caps h2 hs⟩
theorem VRl.low0 {B : Nat → Nat → Prop} {n0 : Nat} {w : World} {h : Heap} {M : Mp} : ∀ (vs : List AV) {rs : List Value}, VRl vs (cx B n0 w h M) rs → stabs vs = true → VRl (low0s vs) (cx B n0 w h M).el rs
  | [], _, hv, _ => by simpa only [Ev.low0s, VRl] using hv
  | x :: xs, _, hv, hs => by
    simp only [stabs, Bool.and_eq_true] at hs
    simp only [Ev.low0s, VRl] at hv ⊢
    obtain ⟨v, ws, h1, h2, h3⟩ := hv
    exact ⟨v, ws, h1, VR.low0 x h2 hs.1, VRl.low0 xs h3 hs.2⟩
end

mutual
theorem VR.low1 {B : Nat → Nat → Prop} {n0 : Nat} {w : World} {h : Heap} {M : Mp} : ∀ (v : AV) {rv : Value}, VR v (cx B n0 w h M) rv → VR (Ev.low0 v) (cx B n0 w h M).ela rv
  | .un, _, _ => by simp [Ev.low0, VR]
  | .int .., _, hv => by simpa only [Ev.low0, VR] using hv
  | .bool .., _, hv => by simpa only [Ev.low0, VR] using hv
  | .str .., _, hv => by simpa only [Ev.low0, VR] using hv
  | .nilf, _, hv => by simpa only [Ev.low0, VR] using hv
  | .ud, _, hv => by simpa only [Ev.low0, VR] using hv
  | .agg cs, _, hv => by
    simp only [Ev.low0, VR] at hv ⊢
    obtain ⟨rc, h1, h2⟩ := hv
    exact ⟨rc, h1, VRl.low1 cs h2⟩
  | .tup cs, _, hv => by
    simp only [Ev.low0, VR] at hv ⊢
    obtain ⟨rc, h1, h2⟩ := hv
    exact ⟨rc, h1, VRl.low1 cs h2⟩
  | .sl k o es, _, hv => by
    cases o with
    | ex T key => simp only [VR] at hv; exact hv.elim
    | tok key g =>
      simp only [Ev.low0, VR] at hv ⊢
      obtain ⟨a, cap, h1, h2, h3, h4, h5, h6⟩ := hv
      exact ⟨a, cap, h1, h2, h3, h4, h5, trivial⟩
    | _ =>
      simp only [Ev.low0, VR] at hv ⊢
      exact hv
  | .ms .., _, _ => by simp [Ev.low0, VR]
  | .vp .., _, _ => by simp [Ev.low0, VR]
  | .rp .., _, _ => by simp [Ev.low0, VR]
  | .cp br cs off, _, hv => by
    simp only [Ev.low0, VR] at hv ⊢
    obtain ⟨b, o, rc, h1, h2, h3⟩ := hv
    refine ⟨b, o, rc, h1, ?_, h3⟩
    cases br <;> exact h2
  | .xp .., _, _ => by simp [Ev.low0, VR]
  | .fn f caps, _, hv => by
    simp only [Ev.low0, VR] at hv ⊢
    obtain ⟨rc, h1, h2⟩ := hv
    exact ⟨rc, h1, VRl.low1 caps h2⟩
theorem VRl.low1 {B : Nat → Nat → Prop} {n0 : Nat} {w : World} {h : Heap} {M : Mp} : ∀ (vs : List AV) {rs : List Value}, VRl vs (cx B n0 w h M) rs → VRl (Ev.low0s vs) (cx B n0 w h M).ela rs
  | [], _, hv => by simpa only [Ev.low0s, VRl] using hv
  | x :: xs, _, hv => by
    simp only [Ev.low0s, VRl] at hv ⊢
    obtain ⟨v, ws, h1, h2, h3⟩ := hv
    exact ⟨v, ws, h1, VR.low1 x h2, VRl.low1 xs h3⟩
end

theorem low0s_length (vs : List AV) : (low0s vs).length = vs.length := by
  induction vs with
  | nil => rfl
  | cons x xs ih => simp [low0s, ih]
theorem low0s_map (vs : List AV) : low0s vs = vs.map low0 := by
  induction vs with
  | nil => rfl
  | cons x xs ih => simp [low0s, ih]

/-- a store of parts: 'setIfInBounds' one after the other -/
theorem foldl_set {α : Type} (off : Nat) : ∀ (l : List α) (j : Nat) (cs : Array α), off + j + l.length ≤ cs.size →
    ((l.zipIdx j).foldl (fun cs (p : α × Nat) => cs.setIfInBounds (off + p.2) p.1) cs).toList = cs.toList.take (off + j) ++ l ++ cs.toList.drop (off + j + l.length)
  | [], j, cs, _ => by simp
  | x :: l, j, cs, h => by
    simp only [List.zipIdx_cons, List.foldl_cons]
    have hlt : off + j < cs.size := by simp at h; omega
    rw [foldl_set off l (j + 1) (cs.setIfInBounds (off + j) x) (by simp at h ⊢; omega)]
    rw [Array.toList_setIfInBounds]
    apply List.ext_getElem?
    intro i
    have hl : cs.toList.length = cs.size := by simp
    simp only [List.getElem?_append, List.getElem?_take, List.getElem?_drop, List.getElem?_set, List.length_append, List.length_take, List.length_set, List.length_cons, hl]
    have e1 : min (off + (j + 1)) cs.size = off + j + 1 := by simp at h; omega
    have e2 : min (off + j) cs.size = off + j := by omega
    rw [e1, e2]
    by_cases h1 : i < off + j
    · have : i < off + j + 1 := by omega
      have h3 : ¬ off + j = i := by omega
      simp [h1, this, h3, show i < off + (j + 1) by omega, show i < off + j + 1 + l.length by omega, show i < off + j + (l.length + 1) by omega]
    · by_cases h2 : i = off + j
      · subst h2
        simp [show off + j < off + j + 1 + l.length by omega, hlt, show off + j < off + (j + 1) by omega]
      · have h3 : ¬ i < off + j + 1 := by omega
        have h4 : ¬ off + j = i := by omega
        by_cases h5 : i < off + j + 1 + l.length
        · have : i - (off + j) = (i - (off + j + 1)) + 1 := by omega
          simp [h1, h3, h5, this, show i < off + j + (l.length + 1) by omega]
        · have e5 : off + (j + 1) + l.length + (i - (off + j + 1 + l.length)) = i := by omega
          have e6 : off + j + (l.length + 1) + (i - (off + j + (l.length + 1))) = i := by omega
          simp [h5, show ¬ i < off + j + (l.length + 1) by omega, e5, e6, h4]

section
variable {P : Program} {E : Env} (hE : EnvOk E P) {B : Nat → Nat → Prop} {w0 w : World} {h : Heap} {M : Mp} (H : HR B w0 w h M)
include hE H

theorem below_alloc0 (w : World) (o : Obj) : Below w.heap.size w (w.alloc o) := (Below.refl _ _).alloc (Nat.le_refl _) o

theorem does_newVar {key T : Nat} {v r : AV} {h' : Heap} {rv : Value} (hl : newVarV h key T v = some (r, h')) (hv : VR v (cx B w0.heap.size w h M) rv) :
    ∃ w' M', Below w.heap.size w w' ∧ w' = w.alloc (.cells rv.cells T) ∧ HR B w0 w' h' M' ∧ Gr (cx B w0.heap.size w h M) (cx B w0.heap.size w' h' M') ∧ VR r (cx B w0.heap.size w' h' M') (.pointer (some ⟨w.heap.size, 0, none⟩)) := by
  unfold newVarV at hl
  split at hl
  · rename_i hone
    obtain ⟨rfl, rfl⟩ := Prod.mk.inj (Option.some.inj hl)
    have hb := below_alloc0 hE H w (.cells rv.cells T)
    refine ⟨_, mset M key (w.heap.size, 0), hb, rfl, H.newkey hb (Nat.le_refl _) rfl ⟨hone, rv, hv, heap_alloc_new w _⟩, gr_newkey H hb (Nat.le_refl _) rfl, ?_⟩
    simp only [VR]
    exact ⟨_, rfl, ⟨false, nextG h key, 0, 0, w.heap.size, 0⟩, by simp [cx, Lof, hset, mset, Blk.isTok, Blk.g, Blk.u, Blk.k], Nat.le_refl _, fun _ => ⟨rfl, rfl⟩⟩
  · cases hl

theorem does_box {key T : Nat} {v r : AV} {h' : Heap} {rv : Value} (hl : newVarV h key T v = some (r, h')) (hv : VR v (cx B w0.heap.size w h M) rv) : Does P B w0 w h M (Instr.box T rv) r h' := by
  obtain ⟨w', M', _, e, h1, h2, h3⟩ := does_newVar hE H hl hv
  exact ⟨_, w', M', by subst e; simp [Instr.box, newVar, newRow], h1, h2, h3⟩

theorem does_alloc {key T : Nat} {r : AV} {h' : Heap} (hz : E.size T ≠ 0) (hl : newVarV h key T (E.zero T) = some (r, h')) : Does P B w0 w h M (Instr.alloc T true (.tuple #[])) r h' := by
  obtain ⟨i, z, hi, _, _, hzz, hzv, _⟩ := hE.size T hz
  obtain ⟨w', M', _, e, h1, h2, h3⟩ := does_newVar hE H hl (hzv _)
  exact ⟨_, w', M', by subst e; simp [Instr.alloc, zeroValue, typeInfo, hi, hzz, newVar, newRow], h1, h2, h3⟩

theorem does_make {key t : Nat} {l c r : AV} {h' : Heap} {rl rc : Value} (hl : makeV E h key t l c = some (r, h')) (hv : VR l (cx B w0.heap.size w h M) rl) (hvc : VR c (cx B w0.heap.size w h M) rc) :
    Does P B w0 w h M (Instr.makeSlice t rl rc) r h' := by
  unfold makeV at hl
  cases hs : E.ty t <;> rw [hs] at hl <;> try (cases hl; done)
  rename_i e
  cases l <;> try (cases hl; done)
  rename_i kl n
  cases kl <;> try (cases hl; done)
  cases c <;> try (cases hl; done)
  rename_i kc m
  cases kc <;> try (cases hl; done)
  simp only at hl
  split at hl
  case isFalse => cases hl
  rename_i hc
  obtain ⟨h0, rfl, h2, h3, h4⟩ := hc
  obtain ⟨rfl, rfl⟩ := Prod.mk.inj (Option.some.inj hl)
  simp only [VR] at hv hvc
  subst hv; subst hvc
  obtain ⟨i, z, hi, hsz, hby, hzz, hzv, hzl, hzo⟩ := hE.size e (by omega)
  have hmr : n ≤ 1073741824 := by simpa [maxRow] using h2
  have hn : ((n.toNat : Nat) : Int) = n := Int.toNat_of_nonneg h0
  have hr := run_make (P := P) w t e i z (ty_sl hE hs) hi hzz .i64 .i64 n n h0 (Int.le_refl _) (by
      have a1 : (i.bytes : Int) ≤ 131072 := by omega
      have := Int.mul_le_mul a1 hmr h0 (by decide)
      omega) (by omega)
  have hzc : z.cells.size = E.size e := by
    have := (VR.cells_one (cx_x B w0.heap.size w h M) (hzv (cx B w0.heap.size w h M)) hzo).length
    rw [Array.length_toList] at this
    omega
  have hcells : (madeCells z.cells (n.toNat * i.size)).toList = flatC (List.replicate n.toNat z) := by
    rw [hsz]
    apply List.ext_getElem?
    intro j
    have hfl : (flatC (List.replicate n.toNat z)).length = n.toNat * E.size e := by
      rw [flatC_length (k := E.size e) fun r hr => by rw [List.eq_of_mem_replicate hr]; exact hzc, List.length_replicate]
    by_cases hj : j < n.toNat * E.size e
    · have hq : j / E.size e < n.toNat := Nat.div_lt_of_lt_mul (by rw [Nat.mul_comm]; exact hj)
      have hm : j % E.size e < E.size e := Nat.mod_lt _ h3
      have hg := flatC_get (rvs := List.replicate n.toNat z) (k := E.size e) (fun r hr => by rw [List.eq_of_mem_replicate hr]; exact hzc) (i := j / E.size e) (r := z) (by simp [hq]) (j := j % E.size e) (x := z.cells[j % E.size e]'(by omega)) (by simp [hzc, hm]) []
      rw [List.append_nil, Nat.mul_comm, Nat.div_add_mod] at hg
      rw [hg]
      simp [madeCells, hj, hzc, hm]
    · rw [List.getElem?_eq_none (by simp [madeCells]; omega), List.getElem?_eq_none (by omega)]
  have hb := below_alloc0 hE H w (.cells (madeCells z.cells (n.toNat * i.size)) e)
  refine ⟨_, _, mset M key (w.heap.size, n.toNat), hr, H.newkey hb (Nat.le_refl _) rfl ⟨h3, ?_, List.replicate n.toNat z, [], ?_, ?_, ?_, by simp only [maxLen]; omega⟩, gr_newkey H hb (Nat.le_refl _) rfl, ?_⟩
  · intro x hx
    rw [List.eq_of_mem_replicate hx]
    exact ⟨hzl, hzo⟩
  · refine VRl.mk (by simp) fun j a r ha hr => ?_
    rw [List.eq_of_mem_replicate (List.mem_of_getElem? ha), List.eq_of_mem_replicate (List.mem_of_getElem? hr)]
    exact hzv _
  · rw [List.append_nil, ← hcells, Array.toArray_toList]
    exact heap_alloc_new w _
  · rw [List.append_nil, flatC_length (k := E.size e) fun r hr => by rw [List.eq_of_mem_replicate hr]; exact hzc, List.length_replicate]
  · simp only [VR]
    refine ⟨_, _, rfl, ⟨false, nextG h key, 0, E.size e, w.heap.size, n.toNat⟩, by simp [cx, Lof, hset, mset, Blk.isTok, Blk.g, Blk.u, Blk.k], Nat.le_refl _, fun _ => ⟨rfl, fun _ => by simp, Nat.le_refl _, ?_, by simp⟩⟩
    simp only [maxLen]; omega
end

end Go.Proofs.YtlglhokpaplifaaGreatDoor.Ev
