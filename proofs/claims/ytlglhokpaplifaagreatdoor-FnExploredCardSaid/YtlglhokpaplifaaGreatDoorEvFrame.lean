/- XEvW XEvSimp XEvFrame, joined. Conditions: none. -/
import Derived.Test.YtlglhokpaplifaaGreatDoorEvSound2
/- Stepping through code with the evaluator: equations for each construct. Conditions: none. -/
namespace Go.Proofs.YtlglhokpaplifaaGreatDoor.Ev
set_option linter.unusedVariables false
set_option linter.unusedSimpArgs false
set_option linter.unusedSectionVars false

/-- A closed call comes to r. -/
def EvC (E : Env) (f : Nat) (args : List AV) (r : AV) : Prop := ∃ k r0 h', evOpen E k f args hnil 0 = some (r0, h') ∧ expo h' r0 = r
/-- A closed call comes to something of which K holds. -/
def CallsTo (E : Env) (f : Nat) (args : List AV) (K : AV → Prop) : Prop := ∃ r, EvC E f args r ∧ K r
/-- An open call. -/
def OpenTo (E : Env) (f : Nat) (args : List AV) (h : Heap) (off : Nat) (K : AV → Heap → Prop) : Prop := ∃ k r h', evOpen E k f args h off = some (r, h') ∧ K r h'
/-- Code. -/
def W (E : Env) (fid : Nat) (c : Code) (st : St) (Q : Ex → St → Prop) : Prop := ∃ k e st', evCode E k fid c st = some (e, st') ∧ Q e st'
/-- Operations. -/
def WO (E : Env) (fid : Nat) (ops : Array Oper) (l : List Oper) (st : St) (Q : St → Prop) : Prop := ∃ k st', runOps E (evOpen E k) fid ops l st = some st' ∧ Q st'
/-- One operation. -/
def WV (E : Env) (fid : Nat) (st : St) (o : Oper) (K : AV → Heap → Prop) : Prop := ∃ k v h', evOp E (evOpen E k) fid st o = some (v, h') ∧ K v h'
/-- A call. -/
def WF (E : Env) (fid : Nat) (dst : Option Nat) (g : Nat) (args : List AV) (st : St) (K : AV → Heap → Prop) : Prop := ∃ k v h', callFn E (evOpen E k) fid dst g args st = some (v, h') ∧ K v h'
/-- a known result -/
def Is (x : Option (AV × Heap)) (K : AV → Heap → Prop) : Prop := ∃ v h', x = some (v, h') ∧ K v h'

theorem evC_det {E : Env} {f : Nat} {args : List AV} {r r' : AV} (h : EvC E f args r) (h' : EvC E f args r') : r = r' := by
  obtain ⟨k, a, b, h1, rfl⟩ := h
  obtain ⟨k', a', b', h2, rfl⟩ := h'
  have e1 := evOpen_mono E (Nat.le_max_left k k') _ _ _ _ _ h1
  have e2 := evOpen_mono E (Nat.le_max_right k k') _ _ _ _ _ h2
  rw [e1] at e2
  obtain ⟨rfl, rfl⟩ := Prod.mk.inj (Option.some.inj e2)
  rfl

theorem callsTo_iff {E : Env} {f : Nat} {args : List AV} {r : AV} (h : EvC E f args r) {K : AV → Prop} : CallsTo E f args K ↔ K r :=
  ⟨fun ⟨r', h1, h2⟩ => evC_det h h1 ▸ h2, fun hk => ⟨r, h, hk⟩⟩

theorem W_det {E : Env} {fid : Nat} {c : Code} {st : St} {k e st' k2 e2 st2} (h : evCode E k fid c st = some (e, st')) (h2 : evCode E k2 fid c st = some (e2, st2)) : e = e2 ∧ st' = st2 := by
  have e1 := evCode_mono E (Nat.le_max_left k k2) h
  have e3 := evCode_mono E (Nat.le_max_right k k2) h2
  rw [e1] at e3
  exact Prod.mk.inj (Option.some.inj e3)

theorem W_skip {E : Env} {fid : Nat} {st : St} {Q : Ex → St → Prop} : W E fid .skip st Q ↔ Q .normal st :=
  ⟨fun ⟨k, e, st', h, hq⟩ => by
    cases k with
    | zero => simp [evCode] at h
    | succ k => simp only [evCode, Option.some.injEq] at h; obtain ⟨rfl, rfl⟩ := Prod.mk.inj h; exact hq,
   fun hq => ⟨1, .normal, st, by simp [evCode], hq⟩⟩
theorem W_ret {E : Env} {fid : Nat} {st : St} {Q : Ex → St → Prop} : W E fid .ret st Q ↔ Q .ret st :=
  ⟨fun ⟨k, e, st', h, hq⟩ => by
    cases k with
    | zero => simp [evCode] at h
    | succ k => simp only [evCode, Option.some.injEq] at h; obtain ⟨rfl, rfl⟩ := Prod.mk.inj h; exact hq,
   fun hq => ⟨1, .ret, st, by simp [evCode], hq⟩⟩
theorem W_exit {E : Env} {fid : Nat} {id : Nat} {st : St} {Q : Ex → St → Prop} : W E fid (.exit id) st Q ↔ Q (.exit id) st :=
  ⟨fun ⟨k, e, st', h, hq⟩ => by
    cases k with
    | zero => simp [evCode] at h
    | succ k => simp only [evCode, Option.some.injEq] at h; obtain ⟨rfl, rfl⟩ := Prod.mk.inj h; exact hq,
   fun hq => ⟨1, .exit id, st, by simp [evCode], hq⟩⟩

def thenQ (N : St → Prop) (Q : Ex → St → Prop) : Ex → St → Prop
  | .normal, s => N s
  | e, s => Q e s
@[simp] theorem thenQ_normal (N : St → Prop) (Q : Ex → St → Prop) (s : St) : thenQ N Q .normal s = N s := _root_.id rfl
@[simp] theorem thenQ_ret (N : St → Prop) (Q : Ex → St → Prop) (s : St) : thenQ N Q .ret s = Q .ret s := _root_.id rfl
@[simp] theorem thenQ_exit (N : St → Prop) (Q : Ex → St → Prop) (id : Nat) (s : St) : thenQ N Q (.exit id) s = Q (.exit id) s := _root_.id rfl

theorem W_seq {E : Env} {fid : Nat} {a b : Code} {st : St} {Q : Ex → St → Prop} : W E fid (.seq a b) st Q ↔ W E fid a st (thenQ (fun s => W E fid b s Q) Q) := by
  constructor
  · rintro ⟨k, e, st', h, hq⟩
    cases k with
    | zero => simp [evCode] at h
    | succ k =>
      rw [evCode] at h
      cases ha : evCode E k fid a st with
      | none => rw [ha] at h; cases h
      | some p =>
        obtain ⟨e1, s1⟩ := p
        rw [ha] at h
        refine ⟨k, e1, s1, ha, ?_⟩
        cases e1 with
        | normal => exact ⟨k, e, st', h, hq⟩
        | ret => obtain ⟨rfl, rfl⟩ := Prod.mk.inj (Option.some.inj h); exact hq
        | exit i => obtain ⟨rfl, rfl⟩ := Prod.mk.inj (Option.some.inj h); exact hq
  · rintro ⟨k, e, st', h, hq⟩
    cases e with
    | normal =>
      obtain ⟨k2, e2, s2, h2, hq2⟩ := hq
      refine ⟨max k k2 + 1, e2, s2, ?_, hq2⟩
      rw [evCode, evCode_mono E (Nat.le_max_left k k2) h]
      exact evCode_mono E (Nat.le_max_right k k2) h2
    | ret => exact ⟨k + 1, _, _, by rw [evCode, h], hq⟩
    | exit i => exact ⟨k + 1, _, _, by rw [evCode, h], hq⟩

/-- both ways of a test -/
def condW (v : AV) (A B : Prop) : Prop := match v with | .bool t => if t = true then A else B | _ => False
theorem condW_bool (t : Bool) (A B : Prop) : condW (.bool t) A B = if t = true then A else B := rfl

theorem W_cond {E : Env} {fid : Nat} {c : Operand} {a b : Code} {st : St} {Q : Ex → St → Prop} : W E fid (.cond c a b) st Q ↔ condW (st.ev c) (W E fid a st Q) (W E fid b st Q) := by
  constructor
  · rintro ⟨k, e, st', h, hq⟩
    cases k with
    | zero => simp [evCode] at h
    | succ k =>
      rw [evCode] at h
      cases hx : st.ev c <;> rw [hx] at h <;> first | (cases h; done) | skip
      rename_i t
      cases t
      · exact ⟨k, e, st', h, hq⟩
      · exact ⟨k, e, st', h, hq⟩
  · intro h
    cases hx : st.ev c <;> rw [hx] at h <;> first | (exact h.elim) | skip
    rename_i t
    cases t
    · obtain ⟨k, e, st', h, hq⟩ := h; exact ⟨k + 1, e, st', by rw [evCode, hx]; exact h, hq⟩
    · obtain ⟨k, e, st', h, hq⟩ := h; exact ⟨k + 1, e, st', by rw [evCode, hx]; exact h, hq⟩

def blockQ (id : Nat) (Q : Ex → St → Prop) : Ex → St → Prop
  | .exit i, s => if i = id then Q .normal s else Q (.exit i) s
  | e, s => Q e s
@[simp] theorem blockQ_normal (id : Nat) (Q : Ex → St → Prop) (s : St) : blockQ id Q .normal s = Q .normal s := _root_.id rfl
@[simp] theorem blockQ_ret (id : Nat) (Q : Ex → St → Prop) (s : St) : blockQ id Q .ret s = Q .ret s := _root_.id rfl
@[simp] theorem blockQ_exit (id i : Nat) (Q : Ex → St → Prop) (s : St) : blockQ id Q (.exit i) s = if i = id then Q .normal s else Q (.exit i) s := _root_.id rfl

theorem W_block {E : Env} {fid : Nat} {id : Nat} {c : Code} {st : St} {Q : Ex → St → Prop} : W E fid (.block id c) st Q ↔ W E fid c st (blockQ id Q) := by
  constructor
  · rintro ⟨k, e, st', h, hq⟩
    cases k with
    | zero => simp [evCode] at h
    | succ k =>
      rw [evCode] at h
      cases ha : evCode E k fid c st with
      | none => rw [ha] at h; cases h
      | some p =>
        obtain ⟨e1, s1⟩ := p
        rw [ha] at h
        refine ⟨k, e1, s1, ha, ?_⟩
        cases e1 with
        | normal => obtain ⟨rfl, rfl⟩ := Prod.mk.inj (Option.some.inj h); exact hq
        | ret => obtain ⟨rfl, rfl⟩ := Prod.mk.inj (Option.some.inj h); exact hq
        | exit i =>
          simp only [blockQ_exit] at h ⊢
          split at h
          · rename_i e0; rw [if_pos e0]; obtain ⟨rfl, rfl⟩ := Prod.mk.inj (Option.some.inj h); exact hq
          · rename_i e0; rw [if_neg e0]; obtain ⟨rfl, rfl⟩ := Prod.mk.inj (Option.some.inj h); exact hq
  · rintro ⟨k, e, st', h, hq⟩
    cases e with
    | normal => exact ⟨k + 1, _, _, by rw [evCode, h], hq⟩
    | ret => exact ⟨k + 1, _, _, by rw [evCode, h], hq⟩
    | exit i =>
      simp only [blockQ_exit] at hq
      split at hq
      · rename_i e0; exact ⟨k + 1, .normal, st', by rw [evCode, h]; simp [e0], hq⟩
      · rename_i e0; exact ⟨k + 1, .exit i, st', by rw [evCode, h]; simp [e0], hq⟩

theorem W_region {E : Env} {fid : Nat} {id : Nat} {ops : Array Oper} {st : St} {Q : Ex → St → Prop} : W E fid (.region id ops false) st Q ↔ WO E fid ops ops.toList st (Q .normal) := by
  constructor
  · rintro ⟨k, e, st', h, hq⟩
    cases k with
    | zero => simp [evCode] at h
    | succ k =>
      rw [evCode] at h
      simp only [runReg, Bool.false_and, Bool.false_eq_true, if_false, Option.map_eq_some_iff] at h
      obtain ⟨s, h1, h2⟩ := h
      obtain ⟨rfl, rfl⟩ := Prod.mk.inj h2
      exact ⟨k, s, h1, hq⟩
  · rintro ⟨k, st', h, hq⟩
    exact ⟨k + 1, .normal, st', by rw [evCode]; simp [runReg, h], hq⟩

theorem W_draw {E : Env} {fid : Nat} {id : Nat} {ops : Array Oper} {st : St} {Q : Ex → St → Prop} (hd : drawOk E fid ops = true) : W E fid (.region id ops true) st Q ↔ WO E fid ops ops.toList st (Q .normal) := by
  constructor
  · rintro ⟨k, e, st', h, hq⟩
    cases k with
    | zero => simp [evCode] at h
    | succ k =>
      rw [evCode] at h
      simp only [runReg, hd, Bool.not_true, Bool.and_false, Bool.false_eq_true, if_false, Option.map_eq_some_iff] at h
      obtain ⟨s, h1, h2⟩ := h
      obtain ⟨rfl, rfl⟩ := Prod.mk.inj h2
      exact ⟨k, s, h1, hq⟩
  · rintro ⟨k, st', h, hq⟩
    exact ⟨k + 1, .normal, st', by rw [evCode]; simp [runReg, h, hd], hq⟩
/-- operations, the reads of which must not lead to what is made beside them -/
def WOD (E : Env) (fid : Nat) (ops : Array Oper) (D : List Nat) (l : List Oper) (st : St) (Q : St → Prop) : Prop := ∃ k st', runD E (evOpen E k) fid ops D l st = some st' ∧ Q st'
theorem W_draw2 {E : Env} {fid : Nat} {id : Nat} {ops : Array Oper} {st : St} {Q : Ex → St → Prop} (hd : drawOk E fid ops = false) (hd2 : drawOk2 E fid ops = true) (h : WOD E fid ops (allocsOf ops) ops.toList st (Q .normal)) : W E fid (.region id ops true) st Q := by
  obtain ⟨k, st', h, hq⟩ := h
  exact ⟨k + 1, .normal, st', by rw [evCode]; simp [runReg, h, hd, hd2], hq⟩
theorem W_draw3 {E : Env} {fid : Nat} {id : Nat} {ops : Array Oper} {st : St} {Q : Ex → St → Prop} (hd : drawOk E fid ops = false) (hd2 : drawOk2 E fid ops = false) (hd3 : drawOk3 E fid ops = true) (h : WOD E fid ops (freshs E fid ops) ops.toList st (Q .normal)) : W E fid (.region id ops true) st Q := by
  obtain ⟨k, st', h, hq⟩ := h
  exact ⟨k + 1, .normal, st', by rw [evCode]; simp [runReg, h, hd, hd2, hd3], hq⟩
/-- operations, some of which leave alone what others read -/
def WK (E : Env) (fid : Nat) (ops : Array Oper) (D : List Nat) (cs : List Nat) (l : List Oper) (st : St) (Q : St → Prop) : Prop := ∃ k st', runK E (evOpen E k) fid ops D cs l st = some st' ∧ Q st'
theorem W_draw4 {E : Env} {fid : Nat} {id : Nat} {ops : Array Oper} {st : St} {Q : Ex → St → Prop} (hd : drawOk E fid ops = false) (hd2 : drawOk2 E fid ops = false) (hd3 : drawOk3 E fid ops = false) (hd4 : drawOk4 E fid ops = true) (h : WK E fid ops (keepD E fid ops) (codesOf E fid ops) ops.toList st (Q .normal)) : W E fid (.region id ops true) st Q := by
  obtain ⟨k, st', h, hq⟩ := h
  exact ⟨k + 1, .normal, st', by rw [evCode]; simp [runReg, h, hd, hd2, hd3, hd4], hq⟩
/-- each step: as ever, and the check -/
theorem WOD_of {E : Env} {fid : Nat} {ops : Array Oper} {D : List Nat} {o : Oper} {l : List Oper} {st : St} {Q : St → Prop} (hc : (!readish E fid o || keysFree st D o) = true) (h : ∃ k s1, stepOp E (evOpen E k) fid ops st o = some s1 ∧ WOD E fid ops D l s1 Q) : WOD E fid ops D (o :: l) st Q := by
  obtain ⟨k, s1, h1, k2, st', h2, hq⟩ := h
  refine ⟨max k k2, st', ?_, hq⟩
  simp only [runD, Option.bind_eq_some_iff]
  refine ⟨s1, ?_, runD_le (evOpen_mono E (Nat.le_max_right k k2)) _ h2⟩
  unfold stepD
  rw [if_pos hc]
  exact stepOp_le (evOpen_mono E (Nat.le_max_left k k2)) h1

theorem WO_nil {E : Env} {fid : Nat} {ops : Array Oper} {st : St} {Q : St → Prop} : WO E fid ops [] st Q ↔ Q st :=
  ⟨fun ⟨k, st', h, hq⟩ => by simp only [runOps, Option.some.injEq] at h; exact h ▸ hq, fun hq => ⟨0, st, rfl, hq⟩⟩

/-- a guard -/
def guardW (g : Option Bool) (A B : Prop) : Prop := match g with | some true => A | some false => B | none => False
@[simp] theorem guardW_true (A B : Prop) : guardW (some true) A B = A := _root_.id rfl
@[simp] theorem guardW_false (A B : Prop) : guardW (some false) A B = B := _root_.id rfl
theorem guardW_some (b : Bool) (A B : Prop) : guardW (some b) A B = if b = true then A else B := by cases b <;> rfl

theorem WO_cons {E : Env} {fid : Nat} {ops : Array Oper} {o : Oper} {l : List Oper} {st : St} {Q : St → Prop} :
    WO E fid ops (o :: l) st Q ↔ dstOk st o = true ∧ guardW (wantedV ops st o) (WV E fid st o fun v h => WO E fid ops l (st.put o.dst v h) Q) (WO E fid ops l (st.put o.dst .ud st.h) Q) := by
  constructor
  · rintro ⟨k, st', h, hq⟩
    simp only [runOps, Option.bind_eq_some_iff] at h
    obtain ⟨s1, h1, h2⟩ := h
    unfold stepOp at h1
    split at h1
    case isFalse => cases h1
    rename_i hd
    refine ⟨hd, ?_⟩
    cases hw : wantedV ops st o with
    | none => rw [hw] at h1; cases h1
    | some b =>
      rw [hw] at h1
      cases b with
      | true =>
        simp only [Option.map_eq_some_iff] at h1
        obtain ⟨p, hp, rfl⟩ := h1
        exact ⟨k, p.1, p.2, hp, k, st', h2, hq⟩
      | false =>
        simp only [Option.some.injEq] at h1
        subst h1
        exact ⟨k, st', h2, hq⟩
  · rintro ⟨hd, h⟩
    cases hw : wantedV ops st o with
    | none => rw [hw] at h; exact h.elim
    | some b =>
      rw [hw] at h
      cases b with
      | true =>
        obtain ⟨k, v, h', h1, k2, st', h2, hq⟩ := h
        refine ⟨max k k2, st', ?_, hq⟩
        simp only [runOps, Option.bind_eq_some_iff]
        refine ⟨_, ?_, runOps_le (evOpen_mono E (Nat.le_max_right k k2)) _ h2⟩
        unfold stepOp
        rw [if_pos hd, hw]
        simp only [evOp_le (evOpen_mono E (Nat.le_max_left k k2)) h1, Option.map_some]
      | false =>
        obtain ⟨k2, st', h2, hq⟩ := h
        refine ⟨k2, st', ?_, hq⟩
        simp only [runOps, Option.bind_eq_some_iff]
        refine ⟨_, ?_, h2⟩
        unfold stepOp
        rw [if_pos hd, hw]

theorem WK_nil {E : Env} {fid : Nat} {ops : Array Oper} {D cs : List Nat} {st : St} {Q : St → Prop} : WK E fid ops D cs [] st Q ↔ Q st :=
  ⟨fun ⟨k, st', h, hq⟩ => by cases cs <;> simp only [runK, Option.some.injEq] at h <;> exact h ▸ hq, fun hq => ⟨0, st, by cases cs <;> rfl, hq⟩⟩
theorem WK_of {E : Env} {fid : Nat} {ops : Array Oper} {D cs : List Nat} {c : Nat} {o : Oper} {l : List Oper} {st : St} {Q : St → Prop} : WK E fid ops D (c :: cs) (o :: l) st Q ↔ ∃ k s1, stepK E (evOpen E k) fid ops D c st o = some s1 ∧ WK E fid ops D cs l s1 Q := by
  constructor
  · rintro ⟨k, st', h, hq⟩
    simp only [runK, Option.bind_eq_some_iff] at h
    obtain ⟨s1, h1, h2⟩ := h
    exact ⟨k, s1, h1, k, st', h2, hq⟩
  · rintro ⟨k, s1, h1, k2, st', h2, hq⟩
    refine ⟨max k k2, st', ?_, hq⟩
    simp only [runK, Option.bind_eq_some_iff]
    refine ⟨s1, ?_, runK_le (evOpen_mono E (Nat.le_max_right k k2)) _ _ h2⟩
    have h3 : runK E (evOpen E k) fid ops D [c] [o] st = some s1 := by simp [runK, h1]
    have h4 := runK_le (evOpen_mono E (Nat.le_max_left k k2)) _ _ h3
    simpa [runK] using h4
theorem step_WV {E : Env} {fid : Nat} {ops : Array Oper} {o : Oper} {st : St} {P : St → Prop} : (∃ k s1, stepOp E (evOpen E k) fid ops st o = some s1 ∧ P s1) ↔ dstOk st o = true ∧ guardW (wantedV ops st o) (WV E fid st o fun v h => P (st.put o.dst v h)) (P (st.put o.dst .ud st.h)) := by
  constructor
  · rintro ⟨k, s1, h1, hq⟩
    unfold stepOp at h1
    split at h1
    case isFalse => cases h1
    rename_i hd
    refine ⟨hd, ?_⟩
    cases hw : wantedV ops st o with
    | none => rw [hw] at h1; cases h1
    | some b =>
      rw [hw] at h1
      cases b with
      | true =>
        simp only [Option.map_eq_some_iff] at h1
        obtain ⟨p, hp, rfl⟩ := h1
        exact ⟨k, p.1, p.2, hp, hq⟩
      | false =>
        simp only [Option.some.injEq] at h1
        subst h1
        exact hq
  · rintro ⟨hd, h⟩
    cases hw : wantedV ops st o with
    | none => rw [hw] at h; exact h.elim
    | some b =>
      rw [hw] at h
      cases b with
      | true =>
        obtain ⟨k, v, h', h1, h2⟩ := h
        exact ⟨k, _, by unfold stepOp; rw [if_pos hd, hw]; simp only [h1, Option.map_some], h2⟩
      | false => exact ⟨0, _, by unfold stepOp; rw [if_pos hd, hw], h⟩
theorem WK_cons0 {E : Env} {fid : Nat} {ops : Array Oper} {D cs : List Nat} {o : Oper} {l : List Oper} {st : St} {Q : St → Prop} :
    WK E fid ops D (0 :: cs) (o :: l) st Q ↔ dstOk st o = true ∧ guardW (wantedV ops st o) (WV E fid st o fun v h => WK E fid ops D cs l (st.put o.dst v h) Q) (WK E fid ops D cs l (st.put o.dst .ud st.h) Q) := by
  rw [WK_of, ← step_WV (P := fun s => WK E fid ops D cs l s Q)]; rfl
theorem WK_cons1 {E : Env} {fid : Nat} {ops : Array Oper} {D cs : List Nat} {o : Oper} {l : List Oper} {st : St} {Q : St → Prop} :
    WK E fid ops D (1 :: cs) (o :: l) st Q ↔ keysIn st D o = true ∧ dstOk st o = true ∧ guardW (wantedV ops st o) (WV E fid st o fun v h => WK E fid ops D cs l (st.put o.dst v h) Q) (WK E fid ops D cs l (st.put o.dst .ud st.h) Q) := by
  rw [WK_of, ← step_WV (P := fun s => WK E fid ops D cs l s Q)]
  constructor
  · rintro ⟨k, s1, h1, h2⟩
    simp only [stepK] at h1
    split at h1
    · rename_i hk; exact ⟨hk, k, s1, h1, h2⟩
    · cases h1
  · rintro ⟨hk, k, s1, h1, h2⟩
    exact ⟨k, s1, by simp only [stepK]; rw [if_pos hk]; exact h1, h2⟩
/-- what is read is left alone -/
def Kept (D : List Nat) (off : Nat) (h h' : Heap) : Prop := ∀ d ∈ D, h' (off + d) = h (off + d)
theorem WK_cons2 {E : Env} {fid : Nat} {ops : Array Oper} {D cs : List Nat} {o : Oper} {l : List Oper} {st : St} {Q : St → Prop} :
    WK E fid ops D (2 :: cs) (o :: l) st Q ↔ dstOk st o = true ∧ guardW (wantedV ops st o) (WV E fid st o fun v h => Kept D st.off st.h h ∧ WK E fid ops D cs l (st.put o.dst v h) Q) (WK E fid ops D cs l (st.put o.dst .ud st.h) Q) := by
  have e : ∀ A B A' B' : Prop, ∀ g : Option Bool, (A ↔ A') → (B ↔ B') → (guardW g A B ↔ guardW g A' B') := by
    intro A B A' B' g h1 h2; rcases g with _ | _ | _ <;> simp [guardW, h1, h2]
  have h0 : (dstOk st o = true ∧ guardW (wantedV ops st o) (WV E fid st o fun v h => Kept D st.off st.h h ∧ WK E fid ops D cs l (st.put o.dst v h) Q) (WK E fid ops D cs l (st.put o.dst .ud st.h) Q)) ↔
      ∃ k s1, stepOp E (evOpen E k) fid ops st o = some s1 ∧ (Kept D st.off st.h s1.h ∧ WK E fid ops D cs l s1 Q) := by
    rw [step_WV (P := fun s => Kept D st.off st.h s.h ∧ WK E fid ops D cs l s Q)]
    refine and_congr Iff.rfl (e _ _ _ _ _ ?_ ?_)
    · simp only [put_h]
    · simp only [put_h]
      exact ⟨fun h => ⟨fun _ _ => rfl, h⟩, fun h => h.2⟩
  rw [WK_of, h0]
  constructor
  · rintro ⟨k, s1, h1, h2⟩
    simp only [stepK, Option.bind_eq_some_iff] at h1
    obtain ⟨s2, h3, h4⟩ := h1
    split at h4
    · rename_i hk
      obtain rfl := Option.some.inj h4
      exact ⟨k, s2, h3, hk, h2⟩
    · cases h4
  · rintro ⟨k, s1, h1, hk, h2⟩
    refine ⟨k, s1, ?_, h2⟩
    simp only [stepK, Option.bind_eq_some_iff]
    exact ⟨s1, h1, by rw [if_pos (show ∀ d ∈ D, s1.h (st.off + d) = st.h (st.off + d) from hk)]⟩
theorem WOD_nil {E : Env} {fid : Nat} {ops : Array Oper} {D : List Nat} {st : St} {Q : St → Prop} : WOD E fid ops D [] st Q ↔ Q st :=
  ⟨fun ⟨k, st', h, hq⟩ => by simp only [runD, Option.some.injEq] at h; exact h ▸ hq, fun hq => ⟨0, st, rfl, hq⟩⟩
theorem WOD_cons {E : Env} {fid : Nat} {ops : Array Oper} {D : List Nat} {o : Oper} {l : List Oper} {st : St} {Q : St → Prop} :
    WOD E fid ops D (o :: l) st Q ↔ (!readish E fid o || keysFree st D o) = true ∧ dstOk st o = true ∧ guardW (wantedV ops st o) (WV E fid st o fun v h => WOD E fid ops D l (st.put o.dst v h) Q) (WOD E fid ops D l (st.put o.dst .ud st.h) Q) := by
  constructor
  · rintro ⟨k, st', h, hq⟩
    simp only [runD, Option.bind_eq_some_iff] at h
    obtain ⟨s1, h1, h2⟩ := h
    unfold stepD at h1
    split at h1
    case isFalse => cases h1
    rename_i hc
    refine ⟨hc, ?_⟩
    unfold stepOp at h1
    split at h1
    case isFalse => cases h1
    rename_i hd
    refine ⟨hd, ?_⟩
    cases hw : wantedV ops st o with
    | none => rw [hw] at h1; cases h1
    | some b =>
      rw [hw] at h1
      cases b with
      | true =>
        simp only [Option.map_eq_some_iff] at h1
        obtain ⟨p, hp, rfl⟩ := h1
        exact ⟨k, p.1, p.2, hp, k, st', h2, hq⟩
      | false =>
        simp only [Option.some.injEq] at h1
        subst h1
        exact ⟨k, st', h2, hq⟩
  · rintro ⟨hc, hd, h⟩
    cases hw : wantedV ops st o with
    | none => rw [hw] at h; exact h.elim
    | some b =>
      rw [hw] at h
      cases b with
      | true =>
        obtain ⟨k, v, h', h1, h2⟩ := h
        refine WOD_of hc ⟨k, _, ?_, h2⟩
        unfold stepOp
        rw [if_pos hd, hw]
        simp only [h1, Option.map_some]
      | false =>
        refine WOD_of hc ⟨0, _, ?_, h⟩
        unfold stepOp
        rw [if_pos hd, hw]
theorem WOD_of_WO {E : Env} {fid : Nat} {ops : Array Oper} {l : List Oper} {st : St} {Q : St → Prop} (h : WO E fid ops l st Q) : WOD E fid ops [] l st Q := by
  obtain ⟨k, st', h, hq⟩ := h
  refine ⟨k, st', ?_, hq⟩
  clear hq
  induction l generalizing st with
  | nil => exact h
  | cons o l ih =>
    simp only [runOps, runD, Option.bind_eq_some_iff] at h ⊢
    obtain ⟨s1, h1, h2⟩ := h
    refine ⟨s1, ?_, ih h2⟩
    unfold stepD
    rw [if_pos (by simp [keysFree])]
    exact h1
theorem W_drawX {E : Env} {fid : Nat} {id : Nat} {ops : Array Oper} {st : St} {Q : Ex → St → Prop} (hd : (drawOk E fid ops || drawOk2 E fid ops) = true) (h : WOD E fid ops (allocsOf ops) ops.toList st (Q .normal)) : W E fid (.region id ops true) st Q := by
  cases h1 : drawOk E fid ops with
  | true =>
    rw [W_draw h1]
    obtain ⟨k, st', h, hq⟩ := h
    exact ⟨k, st', runD_runOps _ h, hq⟩
  | false =>
    rw [h1, Bool.false_or] at hd
    exact W_draw2 h1 hd h

/-- what an operation that calls no function comes to -/
def evPlain (E : Env) (fid : Nat) (st : St) (o : Oper) : Option (AV × Heap) := evOp E (fun _ _ _ _ => none) fid st o

theorem ext_none {E : Env} {g : Nat} (he : E.ext g = none) (as : List AV) : extV E g as = none := by simp [extV, he]
theorem WF_closed {E : Env} {fid : Nat} {d g : Nat} {args : List AV} {st : St} {K : AV → Heap → Prop} (he : extV E g (lows st.h args) = none) (ho : E.open_ g = false) (hm : E.mat fid d = 0) (hdp : E.deep g = false := by rfl) :
    WF E fid (some d) g args st K ↔ CallsTo E g (lows st.h args) fun r => K (noEx r) st.h := by
  constructor
  · rintro ⟨k, v, h', h, hk⟩
    unfold callFn at h
    simp only [hdp, Bool.false_eq_true, if_false] at h
    simp only [he, ho, Bool.false_eq_true, if_false, Option.bind_eq_some_iff, mat, hm] at h
    obtain ⟨p, hp, h2⟩ := h
    obtain ⟨rfl, rfl⟩ := Prod.mk.inj (Option.some.inj h2)
    exact ⟨_, ⟨k, p.1, p.2, hp, rfl⟩, hk⟩
  · rintro ⟨r, ⟨k, r0, h', h, rfl⟩, hk⟩
    refine ⟨k, _, _, ?_, hk⟩
    unfold callFn
    simp only [hdp, Bool.false_eq_true, if_false]
    simp only [he, ho, Bool.false_eq_true, if_false, mat, hm, h, Option.bind_some]

theorem WF_mat {E : Env} {fid : Nat} {d g : Nat} {args : List AV} {st : St} {K : AV → Heap → Prop} (he : extV E g (lows st.h args) = none) (ho : E.open_ g = false) (hdp : E.deep g = false := by rfl) :
    WF E fid (some d) g args st K ↔ CallsTo E g (lows st.h args) fun r => Is (mat E fid st (some d) r) K := by
  constructor
  · rintro ⟨k, v, h', h, hk⟩
    unfold callFn at h
    simp only [hdp, Bool.false_eq_true, if_false] at h
    simp only [he, ho, Bool.false_eq_true, if_false, Option.bind_eq_some_iff] at h
    obtain ⟨p, hp, h2⟩ := h
    exact ⟨_, ⟨k, p.1, p.2, hp, rfl⟩, v, h', h2, hk⟩
  · rintro ⟨r, ⟨k, r0, h', h, rfl⟩, v, h2, hm, hk⟩
    refine ⟨k, v, h2, ?_, hk⟩
    unfold callFn
    simp only [hdp, Bool.false_eq_true, if_false]
    simp only [he, ho, Bool.false_eq_true, if_false, h, Option.bind_some, hm]

theorem WF_open {E : Env} {fid : Nat} {dst : Option Nat} {g : Nat} {args : List AV} {st : St} {K : AV → Heap → Prop} (he : E.ext g = none) (ho : E.open_ g = true) (hdp : E.deep g = false := by rfl) :
    WF E fid dst g args st K ↔ OpenTo E g args st.h (st.off + farOff + E.far g * dst.getD 0) K := by
  constructor
  · rintro ⟨k, v, h', h, hk⟩
    unfold callFn at h
    simp only [hdp, Bool.false_eq_true, if_false] at h
    simp only [ext_none he, ho, if_true] at h
    exact ⟨k, v, h', h, hk⟩
  · rintro ⟨k, v, h', h, hk⟩
    refine ⟨k, v, h', ?_, hk⟩
    unfold callFn
    simp only [hdp, Bool.false_eq_true, if_false]
    simp only [ext_none he, ho, if_true, h]

theorem WF_ext {E : Env} {fid : Nat} {dst : Option Nat} {g : Nat} {args : List AV} {st : St} {K : AV → Heap → Prop} {r : AV} (he : extV E g (lows st.h args) = some r) (hw : E.own g = false := by rfl)  (hdp : E.deep g = false := by rfl) :
    WF E fid dst g args st K ↔ K r st.h := by
  constructor
  · rintro ⟨k, v, h', h, hk⟩
    unfold callFn at h
    simp only [hdp, Bool.false_eq_true, if_false] at h
    rw [he] at h
    simp only [extR, hw, Bool.false_eq_true, if_false] at h
    obtain ⟨rfl, rfl⟩ := Prod.mk.inj (Option.some.inj h)
    exact hk
  · intro hk
    refine ⟨0, _, st.h, ?_, hk⟩
    unfold callFn
    simp only [hdp, Bool.false_eq_true, if_false]
    rw [he]
    simp only [extR, hw, Bool.false_eq_true, if_false]
/-- what is told apart and may be grown -/
theorem WF_own {E : Env} {fid d : Nat} {g : Nat} {args : List AV} {st : St} {K : AV → Heap → Prop} {r : AV} (he : extV E g (lows st.h args) = some r) (hw : E.own g = true)  (hdp : E.deep g = false := by rfl) :
    WF E fid (some d) g args st K ↔ Is (mat2 (st.off + d) st.h r) K := by
  constructor
  · rintro ⟨k, v, h', h, hk⟩
    unfold callFn at h
    simp only [hdp, Bool.false_eq_true, if_false] at h
    rw [he] at h
    simp only [extR, hw, if_true] at h
    exact ⟨v, h', h, hk⟩
  · rintro ⟨v, h', h, hk⟩
    refine ⟨0, v, h', ?_, hk⟩
    unfold callFn
    simp only [hdp, Bool.false_eq_true, if_false]
    rw [he]
    simp only [extR, hw, if_true]
    exact h
theorem WF_deep {E : Env} {fid : Nat} {d g : Nat} {args : List AV} {st : St} {K : AV → Heap → Prop} (hdp : E.deep g = true) :
    WF E fid (some d) g args st K ↔ CallsTo E g (args.map (lowD st.h)) fun r => Is (mat E fid st (some d) r) K := by
  constructor
  · rintro ⟨k, v, h', h, hk⟩
    unfold callFn at h
    rw [if_pos hdp, Option.bind_eq_some_iff] at h
    obtain ⟨p, hp, h2⟩ := h
    exact ⟨_, ⟨k, p.1, p.2, hp, rfl⟩, v, h', h2, hk⟩
  · rintro ⟨r, ⟨k, r0, h', h, rfl⟩, v, h2, hm, hk⟩
    refine ⟨k, v, h2, ?_, hk⟩
    unfold callFn
    rw [if_pos hdp, h]
    exact hm
theorem WV_is {E : Env} {fid : Nat} {st : St} {o : Oper} {K : AV → Heap → Prop} {x : Option (AV × Heap)} (hx : ∀ call, evOp E call fid st o = x) : WV E fid st o K ↔ Is x K :=
  ⟨fun ⟨k, v, h', h, hk⟩ => ⟨v, h', by rw [← hx]; exact h, hk⟩, fun ⟨v, h', h, hk⟩ => ⟨0, v, h', by rw [hx]; exact h, hk⟩⟩

/-- the value of a plain operation, the memory as it was -/
def IsV (x : Option AV) (h : Heap) (K : AV → Heap → Prop) : Prop := match x with | some v => K v h | none => False
@[simp] theorem isV_some (v : AV) (h : Heap) (K : AV → Heap → Prop) : IsV (some v) h K = K v h := _root_.id rfl
theorem is_map {x : Option AV} {h : Heap} {K : AV → Heap → Prop} : Is (x.map fun y => (y, h)) K ↔ IsV x h K := by
  cases x with
  | none => exact ⟨fun ⟨_, _, e, _⟩ => by simp at e, fun e => e.elim⟩
  | some v => exact ⟨fun ⟨_, _, e, hk⟩ => by simp at e; obtain ⟨rfl, rfl⟩ := e; exact hk, fun hk => ⟨v, h, rfl, hk⟩⟩
theorem is_some {v : AV} {h : Heap} {K : AV → Heap → Prop} : Is (some (v, h)) K ↔ K v h := ⟨fun ⟨_, _, e, hk⟩ => by simp at e; obtain ⟨rfl, rfl⟩ := e; exact hk, fun hk => ⟨v, h, rfl, hk⟩⟩
theorem is_ite {c : Prop} [Decidable c] {x y : Option (AV × Heap)} {K : AV → Heap → Prop} : Is (if c then x else y) K ↔ if c then Is x K else Is y K := by split <;> rfl

section
variable {E : Env} {fid : Nat} {st : St} {K : AV → Heap → Prop} {dst : Option Nat} {ty : Nat} {pos : String} {af : Array Edge} {gd : Option (Nat × Bool)}
theorem WV_move {x : Operand} : WV E fid st ⟨dst, .move x, ty, pos, af, gd⟩ K ↔ K (st.ev x) st.h := (WV_is fun _ => rfl).trans is_some
theorem WV_assign {x : Operand} : WV E fid st ⟨dst, .assign x, ty, pos, af, gd⟩ K ↔ K (st.ev x) st.h := (WV_is fun _ => rfl).trans is_some
theorem WV_pick {c a b : Operand} : WV E fid st ⟨dst, .pick c a b, ty, pos, af, gd⟩ K ↔ IsV (pickV (st.ev c) (st.ev a) (st.ev b)) st.h K := (WV_is fun _ => rfl).trans is_map
theorem WV_alloc {T : Nat} : WV E fid st ⟨dst, .alloc T, ty, pos, af, gd⟩ K ↔ Is (if E.size T = 0 then none else newVarV st.h (st.off + dst.getD 0) T (E.zero T)) K := WV_is fun _ => rfl
theorem WV_box {T : Nat} {x : Operand} : WV E fid st ⟨dst, .box T x, ty, pos, af, gd⟩ K ↔ Is (newVarV st.h (st.off + dst.getD 0) T (st.ev x)) K := WV_is fun _ => rfl
theorem WV_build {t : Nat} {ps : Array (Nat × Operand)} : WV E fid st ⟨dst, .build t ps, ty, pos, af, gd⟩ K ↔ IsV (buildV E t (ps.toList.map fun p => (p.1, st.ev p.2))) st.h K := (WV_is fun _ => rfl).trans is_map
theorem WV_buildSlice {t n : Nat} {ps : Array (Nat × Operand)} : WV E fid st ⟨dst, .buildSlice t n ps, ty, pos, af, gd⟩ K ↔ IsV (buildS E t n (ps.toList.map fun p => (p.1, st.ev p.2))) st.h K := (WV_is fun _ => rfl).trans is_map
theorem WV_load {t : Nat} {a : Operand} : WV E fid st ⟨dst, .load t a, ty, pos, af, gd⟩ K ↔ IsV (loadV E st.h t (st.ev a)) st.h K := (WV_is fun _ => rfl).trans is_map
theorem WV_store {t : Nat} {a x : Operand} : WV E fid st ⟨dst, .store t a x, ty, pos, af, gd⟩ K ↔ Is ((storeV E st.h t (st.ev a) (st.ev x)).map fun h => (.un, h)) K := WV_is fun _ => rfl
theorem WV_binOp {op : BinOp} {t u : Nat} {x y : Operand} : WV E fid st ⟨dst, .binOp op t x y u, ty, pos, af, gd⟩ K ↔ IsV (binO E op t y (st.ev x) (st.ev y)) st.h K := (WV_is fun _ => rfl).trans is_map
theorem WV_unOp {op : UnOp} {t : Nat} {x : Operand} : WV E fid st ⟨dst, .unOp op t x, ty, pos, af, gd⟩ K ↔ IsV (unV op (st.ev x)) st.h K := (WV_is fun _ => rfl).trans is_map
theorem WV_convert {s d : Nat} {x : Operand} : WV E fid st ⟨dst, .convert s d x, ty, pos, af, gd⟩ K ↔ IsV (convV E s d (st.ev x)) st.h K := (WV_is fun _ => rfl).trans is_map
theorem WV_makeFunc {f d : Nat} {caps : Array Operand} (hm : E.mat fid d ≠ 8) : WV E fid st ⟨some d, .makeFunc (.func f) #[] caps, ty, pos, af, gd⟩ K ↔ K (.fn f (caps.toList.map st.ev)) st.h := (WV_is fun _ => by simp [evOp, frz, hm]).trans is_some
theorem WV_makeFuncZ {f d : Nat} {caps : Array Operand} (hm : E.mat fid d = 8) : WV E fid st ⟨some d, .makeFunc (.func f) #[] caps, ty, pos, af, gd⟩ K ↔ Is (freezeV st.h f (caps.toList.map st.ev)) K := WV_is fun _ => by simp [evOp, frz, hm]
theorem WV_makeSlice {t : Nat} {l c : Operand} : WV E fid st ⟨dst, .makeSlice t l c, ty, pos, af, gd⟩ K ↔ Is (makeV E st.h (st.off + dst.getD 0) t (st.ev l) (st.ev c)) K := WV_is fun _ => rfl
theorem WV_slice {t : Nat} {x : Operand} {lo hi mx : Option Operand} : WV E fid st ⟨dst, .slice t x lo hi mx, ty, pos, af, gd⟩ K ↔
    if mx.isSome = true ∧ hi.isSome = false then False else IsV (sliceV E st.h t (st.ev x) (lo.map st.ev) (hi.map st.ev) (mx.map st.ev)) st.h K := by
  refine (WV_is fun _ => rfl).trans (is_ite.trans ?_)
  split
  · exact ⟨fun ⟨_, _, e, _⟩ => by simp at e, fun e => e.elim⟩
  · exact is_map
theorem WV_fieldAddr {s f : Nat} {x : Operand} : WV E fid st ⟨dst, .fieldAddr s x f, ty, pos, af, gd⟩ K ↔ IsV (fieldA E s (st.ev x) f) st.h K := (WV_is fun _ => rfl).trans is_map
theorem WV_field {s f : Nat} {x : Operand} : WV E fid st ⟨dst, .field s x f, ty, pos, af, gd⟩ K ↔ IsV (fieldV E s (st.ev x) f) st.h K := (WV_is fun _ => rfl).trans is_map
theorem WV_indexAddr {t : Nat} {x i : Operand} : WV E fid st ⟨dst, .indexAddr t x i, ty, pos, af, gd⟩ K ↔ IsV (indexA E st.h t (st.ev x) (st.ev i)) st.h K := (WV_is fun _ => rfl).trans is_map
theorem WV_index {t : Nat} {x i : Operand} : WV E fid st ⟨dst, .index t x i, ty, pos, af, gd⟩ K ↔ IsV (indexV E t (st.ev x) (st.ev i)) st.h K := (WV_is fun _ => rfl).trans is_map
theorem WV_extract {x : Operand} {i : Nat} : WV E fid st ⟨dst, .extract x i, ty, pos, af, gd⟩ K ↔ IsV (extractV (st.ev x) i) st.h K := (WV_is fun _ => rfl).trans is_map
theorem WV_nilCheck {x : Operand} : WV E fid st ⟨dst, .nilCheck x, ty, pos, af, gd⟩ K ↔ IsV (chkV (st.ev x)) st.h K := (WV_is fun _ => rfl).trans is_map
theorem WV_len {x : Operand} {t : Nat} : WV E fid st ⟨dst, .call ⟨.builtin .len, #[x], #[t]⟩, ty, pos, af, gd⟩ K ↔ IsV (lenV E t (st.ev x)) st.h K := (WV_is fun _ => rfl).trans is_map
theorem WV_append {x y : Operand} {t : Nat} {d : Nat} (hm : E.mat fid d ≠ 4) (hm2 : E.mat fid d ≠ 6) : WV E fid st ⟨some d, .call ⟨.builtin .append, #[x, y], #[t, t]⟩, ty, pos, af, gd⟩ K ↔ Is (appendV E st.h (st.off + d) t (st.ev x) (st.ev y)) K :=
  WV_is fun _ => by simp [evOp, evCall, builtinV, appArgs, ownB, ownO, hm, hm2]
theorem WV_appendR {x y : Operand} {t : Nat} {d : Nat} (hm : E.mat fid d = 4) : WV E fid st ⟨some d, .call ⟨.builtin .append, #[x, y], #[t, t]⟩, ty, pos, af, gd⟩ K ↔ Is (appendR E st.h (st.off + d) t (st.ev x) (st.ev y)) K :=
  WV_is fun _ => by simp [evOp, evCall, appArgsR, ownB, hm]
theorem WV_appendO {x y : Operand} {t : Nat} {d : Nat} (hm : E.mat fid d = 6) : WV E fid st ⟨some d, .call ⟨.builtin .append, #[x, y], #[t, t]⟩, ty, pos, af, gd⟩ K ↔ Is (appendO E st.h (st.off + d) t (st.ev x) (st.ev y)) K :=
  WV_is fun _ => by simp [evOp, evCall, appArgsO, ownB, ownO, hm]
theorem WV_call {g : Nat} {as : Array Operand} {ts : Array Nat} : WV E fid st ⟨dst, .call ⟨.value (.func g), as, ts⟩, ty, pos, af, gd⟩ K ↔ WF E fid dst g (as.toList.map st.ev) st K := by
  have : ∀ call, evOp E call fid st ⟨dst, .call ⟨.value (.func g), as, ts⟩, ty, pos, af, gd⟩ = callFn E call fid dst g (as.toList.map st.ev) st := fun call => by
    simp only [evOp, evCall, St.ev, List.append_nil]
  constructor
  · rintro ⟨k, v, h', h, hk⟩; exact ⟨k, v, h', by rw [← this]; exact h, hk⟩
  · rintro ⟨k, v, h', h, hk⟩; exact ⟨k, v, h', by rw [this]; exact h, hk⟩
theorem WV_callV {t : Nat} {as : Array Operand} {ts : Array Nat} {g : Nat} {caps : List AV} (hs : st.s t = .fn g caps) : WV E fid st ⟨dst, .call ⟨.value (.tmp t), as, ts⟩, ty, pos, af, gd⟩ K ↔ WF E fid dst g (as.toList.map st.ev ++ caps) st K := by
  have : ∀ call, evOp E call fid st ⟨dst, .call ⟨.value (.tmp t), as, ts⟩, ty, pos, af, gd⟩ = callFn E call fid dst g (as.toList.map st.ev ++ caps) st := fun call => by
    simp only [evOp, evCall, St.ev, hs]
  constructor
  · rintro ⟨k, v, h', h, hk⟩; exact ⟨k, v, h', by rw [← this]; exact h, hk⟩
  · rintro ⟨k, v, h', h, hk⟩; exact ⟨k, v, h', by rw [this]; exact h, hk⟩
end

/- loops -/
theorem W_loop_step {E : Env} {fid : Nat} {c : Code} {st : St} {Q : Ex → St → Prop} (h : W E fid c st (thenQ (fun s => W E fid (.loop c) s Q) Q)) : W E fid (.loop c) st Q := by
  obtain ⟨k, e, st', h1, hq⟩ := h
  cases e with
  | normal =>
    obtain ⟨k2, e2, s2, h2, hq2⟩ := hq
    refine ⟨max k k2 + 1, e2, s2, ?_, hq2⟩
    rw [evCode, evCode_mono E (Nat.le_max_left k k2) h1]
    exact evCode_mono E (Nat.le_max_right k k2) h2
  | ret => exact ⟨k + 1, _, _, by rw [evCode, h1], hq⟩
  | exit i => exact ⟨k + 1, _, _, by rw [evCode, h1], hq⟩

theorem W.mono {E : Env} {fid : Nat} {c : Code} {st : St} {Q Q' : Ex → St → Prop} (h : W E fid c st Q) (hq : ∀ e s, Q e s → Q' e s) : W E fid c st Q' := by
  obtain ⟨k, e, st', h1, h2⟩ := h
  exact ⟨k, e, st', h1, hq _ _ h2⟩

/-- a loop with a measure -/
theorem W_loop {E : Env} {fid : Nat} {c : Code} {Q : Ex → St → Prop} (J : Nat → St → Prop)
    (hround : ∀ m st, J m st → W E fid c st (thenQ (fun s => ∃ m', m' < m ∧ J m' s) Q)) {m : Nat} {st : St} (h0 : J m st) : W E fid (.loop c) st Q := by
  induction m using Nat.strongRecOn generalizing st with
  | _ m ih =>
    refine W_loop_step ((hround m st h0).mono fun e s hs => ?_)
    cases e with
    | normal => obtain ⟨m', h1, h2⟩ := hs; exact ih m' h1 h2
    | ret => exact hs
    | exit i => exact hs

/-- a counting loop: J i holds at the head with i rounds done, at most n -/
theorem W_for {E : Env} {fid : Nat} {c : Code} {Q : Ex → St → Prop} (n : Nat) (J : Nat → St → Prop)
    (hround : ∀ i st, i ≤ n → J i st → W E fid c st (thenQ (fun s => i < n ∧ J (i + 1) s) Q)) {st : St} {i : Nat} (hi : i ≤ n) (h0 : J i st) : W E fid (.loop c) st Q := by
  refine W_loop (fun m s => ∃ i, i ≤ n ∧ m = n - i ∧ J i s) (fun m s ⟨i, h1, h2, h3⟩ => (hround i s h1 h3).mono fun e s' hs => ?_) ⟨i, hi, rfl, h0⟩
  cases e with
  | normal => exact ⟨n - (i + 1), by have := hs.1; omega, i + 1, by have := hs.1; omega, rfl, hs.2⟩
  | ret => exact hs
  | exit i => exact hs

/-- the result of a body -/
def resW (E : Env) (rs : List ResultVar) (R : AV → Heap → Prop) : Ex → St → Prop
  | .normal, st => match resOf E st rs with | some v => R v st.h | none => False
  | .ret, st => match resOf E st rs with | some v => R v st.h | none => False
  | .exit _, _ => False

theorem openTo_of {E : Env} {f : Nat} {args : List AV} {h : Heap} {off : Nat} {K : AV → Heap → Prop} {F : Func} {c : Code} (hf : E.fn f = some F) (hb : F.body = some c) (hl : args.length ≤ F.ntmps)
    (hw : W E f c ⟨argSlots args, h, off, F.ntmps⟩ (resW E F.results.toList K)) : OpenTo E f args h off K := by
  obtain ⟨k, e, st, h1, h2⟩ := hw
  cases e with
  | exit i => exact h2.elim
  | normal =>
    simp only [resW] at h2
    cases hr : resOf E st F.results.toList with
    | none => rw [hr] at h2; exact h2.elim
    | some v => rw [hr] at h2; exact ⟨k + 1, v, st.h, by rw [evOpen, hf]; simp only [hb, hl, if_true, h1, hr, Option.map_some], h2⟩
  | ret =>
    simp only [resW] at h2
    cases hr : resOf E st F.results.toList with
    | none => rw [hr] at h2; exact h2.elim
    | some v => rw [hr] at h2; exact ⟨k + 1, v, st.h, by rw [evOpen, hf]; simp only [hb, hl, if_true, h1, hr, Option.map_some], h2⟩

theorem evC_of {E : Env} {f : Nat} {args : List AV} {r : AV} {F : Func} {c : Code} (hf : E.fn f = some F) (hb : F.body = some c) (hl : args.length ≤ F.ntmps)
    (hw : W E f c ⟨argSlots args, hnil, 0, F.ntmps⟩ (resW E F.results.toList fun v h => expo h v = r)) : EvC E f args r := by
  obtain ⟨k, v, h', h1, h2⟩ := openTo_of hf hb hl hw
  exact ⟨k, v, h', h1, h2⟩

end Go.Proofs.YtlglhokpaplifaaGreatDoor.Ev
/- The simplifier's set for stepping, and small facts of the evaluator's values. Conditions: none. -/
namespace Go.Proofs.YtlglhokpaplifaaGreatDoor.Ev
set_option linter.unusedVariables false
set_option linter.unusedSimpArgs false
set_option linter.unusedSectionVars false

/-- What is yet to be computed. Its removal is a step with a proof of its own: so a congruence counts it as a change. -/
def opq {α : Type} (x : α) : α := x
@[simp] theorem opq_eq {α : Type} (x : α) : opq x = x := _root_.id rfl
/-- What stands under it is not looked into. -/
structure Tg {α : Type} (a : α) : Type where
/- The heads at which stepping may come to a stand: what goes on behind them is not looked into. -/
def IV (x : Option AV) (h : Heap) (K : AV → Heap → Prop) (tg : Tg (h, K)) : Prop := IsV x h K
def IS (x : Option (AV × Heap)) (K : AV → Heap → Prop) (tg : Tg K) : Prop := Is x K
def CW (E : Env) (f : Nat) (args : List AV) (K : AV → Prop) (tg : Tg K) : Prop := CallsTo E f args K
def CF (E : Env) (fid : Nat) (dst : Option Nat) (g : Nat) (args : List AV) (st : St) (K : AV → Heap → Prop) (tg : Tg (st, K)) : Prop := WF E fid dst g args st K
@[congr] theorem CF_congr {E : Env} {fid g : Nat} {dst : Option Nat} {args args' : List AV} {st : St} {K : AV → Heap → Prop} {tg : Tg (st, K)} (e : args = args') : CF E fid dst g args st K tg = CF E fid dst g args' st K tg := by rw [e]
def GW (g : Option Bool) (A B : Prop) (tg : Tg (A, B)) : Prop := guardW g A B
def CD (v : AV) (A B : Prop) (tg : Tg (A, B)) : Prop := condW v A B
@[congr] theorem IV_congr {x x' : Option AV} {h : Heap} {K : AV → Heap → Prop} {tg : Tg (h, K)} (e : x = x') : IV x h K tg = IV x' h K tg := by rw [e]
@[congr] theorem IS_congr {x x' : Option (AV × Heap)} {K : AV → Heap → Prop} {tg : Tg K} (e : x = x') : IS x K tg = IS x' K tg := by rw [e]
@[congr] theorem CW_congr {E : Env} {f : Nat} {args args' : List AV} {K : AV → Prop} {tg : Tg K} (e : args = args') : CW E f args K tg = CW E f args' K tg := by rw [e]
@[congr] theorem GW_congr {g g' : Option Bool} {A B : Prop} {tg : Tg (A, B)} (e : g = g') : GW g A B tg = GW g' A B tg := by rw [e]
@[congr] theorem CD_congr {g g' : AV} {A B : Prop} {tg : Tg (A, B)} (e : g = g') : CD g A B tg = CD g' A B tg := by rw [e]
@[simp] theorem IV_some {v : AV} {h : Heap} {K : AV → Heap → Prop} {tg : Tg (h, K)} : IV (some v) h K tg = K v h := _root_.id rfl
@[simp] theorem IV_none {h : Heap} {K : AV → Heap → Prop} {tg : Tg (h, K)} : IV none h K tg = False := _root_.id rfl
@[simp] theorem IS_some {v : AV} {h : Heap} {K : AV → Heap → Prop} {tg : Tg K} : IS (some (v, h)) K tg ↔ K v h := is_some
/- The continuations are not looked into before they are reached. -/
/-- a test that must hold -/
def condD (b : Bool) (A : Prop) : Prop := b = true ∧ A
@[simp ↓] theorem condD_true (A : Prop) : condD true A = A := by simp [condD]
@[congr] theorem condD_congr {b b' : Bool} {A : Prop} (h : b = b') : condD b A = condD b' A := by rw [h]
@[congr] theorem condW_congr {v v' : AV} {A B : Prop} (h : v = v') : condW v A B = condW v' A B := by rw [h]
@[congr] theorem guardW_congr {v v' : Option Bool} {A B : Prop} (h : v = v') : guardW v A B = guardW v' A B := by rw [h]
@[congr] theorem isV_congr {x x' : Option AV} {h : Heap} {K : AV → Heap → Prop} (e : x = x') : IsV x h K = IsV x' h K := by rw [e]
@[congr] theorem is_congr {x x' : Option (AV × Heap)} {K : AV → Heap → Prop} (e : x = x') : Is x K = Is x' K := by rw [e]
@[congr] theorem W_congr {E : Env} {fid : Nat} {c : Code} {st : St} {Q : Ex → St → Prop} : W E fid c st Q = W E fid c st Q := rfl
@[congr] theorem WV_congr {E : Env} {fid : Nat} {o : Oper} {st : St} {K : AV → Heap → Prop} : WV E fid st o K = WV E fid st o K := rfl
@[congr] theorem WF_congr {E : Env} {fid g : Nat} {dst : Option Nat} {args args' : List AV} {st : St} {K : AV → Heap → Prop} (e : args = args') : WF E fid dst g args st K = WF E fid dst g args' st K := by rw [e]
@[congr] theorem callsTo_congr {E : Env} {f : Nat} {args args' : List AV} {K : AV → Prop} (e : args = args') : CallsTo E f args K = CallsTo E f args' K := by rw [e]
@[congr] theorem openTo_congr {E : Env} {f : Nat} {args args' : List AV} {h : Heap} {off : Nat} {K : AV → Heap → Prop} (e : args = args') : OpenTo E f args h off K = OpenTo E f args' h off K := by rw [e]

section
variable {E : Env} {fid : Nat} {K : AV → Heap → Prop} {ty : Nat} {pos : String} {af : Array Edge} {s : Nat → AV} {h : Heap} {off nt : Nat} {ops : Array Oper} {l : List Oper} {op : Op} {Q : St → Prop}
@[simp ↓] theorem WO_op {d : Nat} : WO E fid ops (⟨some d, op, ty, pos, af, none⟩ :: l) ⟨s, h, off, nt⟩ Q ↔
    condD (opq (decide (d < nt) && decide (d < 1000))) (WV E fid ⟨s, h, off, nt⟩ ⟨some d, op, ty, pos, af, none⟩ fun v h => WO E fid ops l ⟨upd s d v, h, off, nt⟩ Q) := by
  rw [WO_cons]; exact Iff.rfl
@[simp ↓] theorem WO_op0 : WO E fid ops (⟨none, op, ty, pos, af, none⟩ :: l) ⟨s, h, off, nt⟩ Q ↔
    (WV E fid ⟨s, h, off, nt⟩ ⟨none, op, ty, pos, af, none⟩ fun v h => WO E fid ops l ⟨s, h, off, nt⟩ Q) := by
  rw [WO_cons]; exact ⟨fun h => h.2, fun h => ⟨rfl, h⟩⟩
/-- a guard's answer -/
def guardV (x : AV) (want : Bool) : Option Bool := match x with | .bool b => some (b == want) | .ud => some false | _ => none
@[simp] theorem guardV_bool (b want : Bool) : guardV (.bool b) want = some (b == want) := _root_.id rfl
@[simp] theorem guardV_ud (want : Bool) : guardV .ud want = some false := _root_.id rfl
def guardAt (ops : Array Oper) (s : Nat → AV) (j : Nat) (want : Bool) : Option Bool := match (ops[j]?).bind Oper.dst with | some d => guardV (s d) want | none => none
theorem wanted_at {j : Nat} {want : Bool} {o : Oper} {st : St} (hg : o.guard = some (j, want)) : wantedV ops st o = guardAt ops st.s j want := by
  unfold wantedV guardAt
  rw [hg]
  dsimp only
  cases ops[j]? with
  | none => rfl
  | some oj =>
    dsimp only [Option.bind_some]
    cases oj.dst with
    | none => rfl
    | some d => dsimp only; cases st.s d <;> rfl
@[simp ↓] theorem WO_gop {d j : Nat} {want : Bool} : WO E fid ops (⟨some d, op, ty, pos, af, some (j, want)⟩ :: l) ⟨s, h, off, nt⟩ Q ↔
    condD (opq (decide (d < nt) && decide (d < 1000))) (GW (opq (guardAt ops s j want)) (WV E fid ⟨s, h, off, nt⟩ ⟨some d, op, ty, pos, af, some (j, want)⟩ fun v h => WO E fid ops l ⟨upd s d v, h, off, nt⟩ Q)
      (WO E fid ops l ⟨upd s d .ud, h, off, nt⟩ Q) ⟨⟩) := by
  rw [WO_cons, wanted_at rfl]; exact Iff.rfl
@[simp ↓] theorem WO_gop0 {j : Nat} {want : Bool} : WO E fid ops (⟨none, op, ty, pos, af, some (j, want)⟩ :: l) ⟨s, h, off, nt⟩ Q ↔
    GW (opq (guardAt ops s j want)) (WV E fid ⟨s, h, off, nt⟩ ⟨none, op, ty, pos, af, some (j, want)⟩ fun v h => WO E fid ops l ⟨s, h, off, nt⟩ Q)
      (WO E fid ops l ⟨s, h, off, nt⟩ Q) ⟨⟩ := by
  rw [WO_cons, wanted_at rfl]; exact ⟨fun h => h.2, fun h => ⟨rfl, h⟩⟩
end
/-- the check of a read beside new variables -/
def chkB (E : Env) (fid : Nat) (D : List Nat) (st : St) (o : Oper) : Bool := !readish E fid o || keysFree st D o
section
variable {E : Env} {fid : Nat} {K : AV → Heap → Prop} {ty : Nat} {pos : String} {af : Array Edge} {s : Nat → AV} {h : Heap} {off nt : Nat} {ops : Array Oper} {D : List Nat} {l : List Oper} {op : Op} {Q : St → Prop}
@[simp ↓] theorem WOD_op {d : Nat} : WOD E fid ops D (⟨some d, op, ty, pos, af, none⟩ :: l) ⟨s, h, off, nt⟩ Q ↔
    condD (opq (chkB E fid D ⟨s, h, off, nt⟩ ⟨some d, op, ty, pos, af, none⟩)) (condD (opq (decide (d < nt) && decide (d < 1000))) (WV E fid ⟨s, h, off, nt⟩ ⟨some d, op, ty, pos, af, none⟩ fun v h => WOD E fid ops D l ⟨upd s d v, h, off, nt⟩ Q)) := by
  rw [WOD_cons]; exact Iff.rfl
@[simp ↓] theorem WOD_op0 : WOD E fid ops D (⟨none, op, ty, pos, af, none⟩ :: l) ⟨s, h, off, nt⟩ Q ↔
    condD (opq (chkB E fid D ⟨s, h, off, nt⟩ ⟨none, op, ty, pos, af, none⟩)) (WV E fid ⟨s, h, off, nt⟩ ⟨none, op, ty, pos, af, none⟩ fun v h => WOD E fid ops D l ⟨s, h, off, nt⟩ Q) := by
  rw [WOD_cons]; exact ⟨fun h => ⟨h.1, h.2.2⟩, fun h => ⟨h.1, rfl, h.2⟩⟩
@[simp ↓] theorem WK_op_0 {d : Nat} {D cs : List Nat} : WK E fid ops D (0 :: cs) (⟨some d, op, ty, pos, af, none⟩ :: l) ⟨s, h, off, nt⟩ Q ↔
    condD (opq (decide (d < nt) && decide (d < 1000))) (WV E fid ⟨s, h, off, nt⟩ ⟨some d, op, ty, pos, af, none⟩ fun v h => WK E fid ops D cs l ⟨upd s d v, h, off, nt⟩ Q) := by
  rw [WK_cons0]; exact Iff.rfl
@[simp ↓] theorem WK_op0_0 {D cs : List Nat} : WK E fid ops D (0 :: cs) (⟨none, op, ty, pos, af, none⟩ :: l) ⟨s, h, off, nt⟩ Q ↔
    (WV E fid ⟨s, h, off, nt⟩ ⟨none, op, ty, pos, af, none⟩ fun v h => WK E fid ops D cs l ⟨s, h, off, nt⟩ Q) := by
  rw [WK_cons0]; exact ⟨fun h => h.2, fun h => ⟨rfl, h⟩⟩
@[simp ↓] theorem WK_op_1 {d : Nat} {D cs : List Nat} : WK E fid ops D (1 :: cs) (⟨some d, op, ty, pos, af, none⟩ :: l) ⟨s, h, off, nt⟩ Q ↔
    condD (opq (keysIn ⟨s, h, off, nt⟩ D ⟨some d, op, ty, pos, af, none⟩)) (condD (opq (decide (d < nt) && decide (d < 1000))) (WV E fid ⟨s, h, off, nt⟩ ⟨some d, op, ty, pos, af, none⟩ fun v h => WK E fid ops D cs l ⟨upd s d v, h, off, nt⟩ Q)) := by
  rw [WK_cons1]; exact Iff.rfl
@[simp ↓] theorem WK_op_2 {d : Nat} {D cs : List Nat} : WK E fid ops D (2 :: cs) (⟨some d, op, ty, pos, af, none⟩ :: l) ⟨s, h, off, nt⟩ Q ↔
    condD (opq (decide (d < nt) && decide (d < 1000))) (WV E fid ⟨s, h, off, nt⟩ ⟨some d, op, ty, pos, af, none⟩ fun v h' => Kept D off h h' ∧ WK E fid ops D cs l ⟨upd s d v, h', off, nt⟩ Q) := by
  rw [WK_cons2]; exact Iff.rfl
@[simp ↓] theorem WK_op0_2 {D cs : List Nat} : WK E fid ops D (2 :: cs) (⟨none, op, ty, pos, af, none⟩ :: l) ⟨s, h, off, nt⟩ Q ↔
    (WV E fid ⟨s, h, off, nt⟩ ⟨none, op, ty, pos, af, none⟩ fun v h' => Kept D off h h' ∧ WK E fid ops D cs l ⟨s, h', off, nt⟩ Q) := by
  rw [WK_cons2]; exact ⟨fun h => h.2, fun h => ⟨rfl, h⟩⟩
end
/-- an operand's value -/
def evS (s : Nat → AV) : Operand → AV
  | .tmp t => s t
  | .const v => ofConst v
  | .func f => .fn f []
  | .global _ => .un
theorem evS_eq (s : Nat → AV) (h : Heap) (off nt : Nat) : St.ev ⟨s, h, off, nt⟩ = evS s := by funext x; cases x <;> rfl
theorem ev_evS (s : Nat → AV) (h : Heap) (off nt : Nat) (x : Operand) : St.ev ⟨s, h, off, nt⟩ x = evS s x := by cases x <;> rfl
/-- a loop that waits for its invariant; nothing in it is looked into -/
def WL (E : Env) (fid : Nat) (c : Code) (st : St) (Q : Ex → St → Prop) (t : Tg (c, st, Q)) : Prop := W E fid (.loop c) st Q
@[simp ↓] theorem W_loopS {E : Env} {fid : Nat} {c : Code} {st : St} {Q : Ex → St → Prop} : W E fid (.loop c) st Q ↔ WL E fid c st Q ⟨⟩ := Iff.rfl
/-- a region that draws its order; waits for the proof that the order does not matter -/
def WD (E : Env) (fid id : Nat) (ops : Array Oper) (st : St) (Q : Ex → St → Prop) (t : Tg (ops, st, Q)) : Prop := W E fid (.region id ops true) st Q
@[simp ↓] theorem W_drawS {E : Env} {fid id : Nat} {ops : Array Oper} {st : St} {Q : Ex → St → Prop} : W E fid (.region id ops true) st Q ↔ WD E fid id ops st Q ⟨⟩ := Iff.rfl
theorem draw_intro {E : Env} {fid id : Nat} {ops : Array Oper} {st : St} {Q : Ex → St → Prop} (hd : drawOk E fid ops = true) (h : WO E fid ops ops.toList st (Q .normal)) : WD E fid id ops st Q ⟨⟩ := (W_draw hd).mpr h
attribute [simp ↓] W_skip W_ret W_exit W_seq W_block WO_nil
attribute [simp ↓] is_map is_ite guardW_true guardW_false thenQ_normal thenQ_ret thenQ_exit blockQ_normal blockQ_ret blockQ_exit
attribute [simp] isV_some is_some

/-- two ways on; not looked into before the way is known -/
def Br (b : Bool) (A B : Prop) (t : Tg (A, B)) : Prop := (b = true → A) ∧ (b = false → B)
theorem br_intro {b : Bool} {A B : Prop} {t : Tg (A, B)} (hA : b = true → A) (hB : b = false → B) : Br b A B t := ⟨hA, hB⟩
theorem brI {b : Bool} {A B : Prop} {t : Tg (A, B)} (hA : b = true → b = true → A) (hB : b = false → b = false → B) : Br b A B t := ⟨fun h => hA h h, fun h => hB h h⟩
@[simp ↓] theorem br_true {A B : Prop} {t : Tg (A, B)} : Br true A B t = A := by simp [Br]
@[simp ↓] theorem br_false {A B : Prop} {t : Tg (A, B)} : Br false A B t = B := by simp [Br]
@[simp] theorem br_true' {A B : Prop} {t : Tg (A, B)} : Br true A B t = A := by simp [Br]
@[simp] theorem br_false' {A B : Prop} {t : Tg (A, B)} : Br false A B t = B := by simp [Br]
theorem guardW_both {b : Bool} {A B : Prop} : guardW (some b) A B ↔ Br b A B ⟨⟩ := by cases b <;> simp [Br]
theorem condW_both {b : Bool} {A B : Prop} : condW (.bool b) A B ↔ Br b A B ⟨⟩ := by cases b <;> simp [condW, Br]
@[simp ↓] theorem condW_true {A B : Prop} : condW (.bool true) A B = A := _root_.id rfl
@[simp ↓] theorem condW_false {A B : Prop} : condW (.bool false) A B = B := by simp [condW]
@[simp] theorem condW_true' {A B : Prop} : condW (.bool true) A B = A := _root_.id rfl
@[simp] theorem condW_false' {A B : Prop} : condW (.bool false) A B = B := by simp [condW]
@[simp] theorem guardW_true' {A B : Prop} : guardW (some true) A B = A := _root_.id rfl
@[simp] theorem guardW_false' {A B : Prop} : guardW (some false) A B = B := _root_.id rfl
theorem GW_both {b : Bool} {A B : Prop} {tg : Tg (A, B)} : GW (some b) A B tg ↔ Br b A B ⟨⟩ := guardW_both
theorem CD_both {b : Bool} {A B : Prop} {tg : Tg (A, B)} : CD (.bool b) A B tg ↔ Br b A B ⟨⟩ := condW_both
@[simp] theorem GW_true {A B : Prop} {tg : Tg (A, B)} : GW (some true) A B tg = A := _root_.id rfl
@[simp] theorem GW_false {A B : Prop} {tg : Tg (A, B)} : GW (some false) A B tg = B := _root_.id rfl
@[simp] theorem CD_true {A B : Prop} {tg : Tg (A, B)} : CD (.bool true) A B tg = A := _root_.id rfl
@[simp] theorem CD_false {A B : Prop} {tg : Tg (A, B)} : CD (.bool false) A B tg = B := by simp [CD, condW]
attribute [simp low] GW_both CD_both
section
variable {E : Env} {fid : Nat} {s : Nat → AV} {h : Heap} {off nt : Nat} {K : AV → Heap → Prop} {dst : Option Nat} {ty : Nat} {pos : String} {af : Array Edge} {gd : Option (Nat × Bool)}
@[simp ↓] theorem W_cond' {c : Operand} {a b : Code} {Q : Ex → St → Prop} : W E fid (.cond c a b) ⟨s, h, off, nt⟩ Q ↔ CD (opq (evS s c)) (W E fid a ⟨s, h, off, nt⟩ Q) (W E fid b ⟨s, h, off, nt⟩ Q) ⟨⟩ := by simp only [opq_eq]; rw [W_cond, ev_evS]; exact Iff.rfl
@[simp ↓] theorem WV_move' {x : Operand} : WV E fid ⟨s, h, off, nt⟩ ⟨dst, .move x, ty, pos, af, gd⟩ K ↔ IV (opq (some (evS s x))) h K ⟨⟩ := by simp only [opq_eq]; rw [WV_move, ev_evS]; exact Iff.rfl
@[simp ↓] theorem WV_assign' {x : Operand} : WV E fid ⟨s, h, off, nt⟩ ⟨dst, .assign x, ty, pos, af, gd⟩ K ↔ IV (opq (some (evS s x))) h K ⟨⟩ := by simp only [opq_eq]; rw [WV_assign, ev_evS]; exact Iff.rfl
@[simp ↓] theorem WV_pick' {c a b : Operand} : WV E fid ⟨s, h, off, nt⟩ ⟨dst, .pick c a b, ty, pos, af, gd⟩ K ↔ IV (opq (pickV (evS s c) (evS s a) (evS s b))) h K ⟨⟩ := by simp only [opq_eq]; rw [WV_pick, evS_eq]; exact Iff.rfl
@[simp ↓] theorem WV_alloc' {T : Nat} : WV E fid ⟨s, h, off, nt⟩ ⟨dst, .alloc T, ty, pos, af, gd⟩ K ↔ IS (opq (if E.size T = 0 then none else newVarV h (off + dst.getD 0) T (E.zero T))) K ⟨⟩ := by rw [opq_eq]; exact WV_alloc
@[simp ↓] theorem WV_box' {T : Nat} {x : Operand} : WV E fid ⟨s, h, off, nt⟩ ⟨dst, .box T x, ty, pos, af, gd⟩ K ↔ IS (opq (newVarV h (off + dst.getD 0) T (evS s x))) K ⟨⟩ := by simp only [opq_eq]; rw [WV_box, evS_eq]; exact Iff.rfl
@[simp ↓] theorem WV_build' {t : Nat} {ps : Array (Nat × Operand)} : WV E fid ⟨s, h, off, nt⟩ ⟨dst, .build t ps, ty, pos, af, gd⟩ K ↔ IV (opq (buildV E t (ps.toList.map fun p => (p.1, evS s p.2)))) h K ⟨⟩ := by simp only [opq_eq]; rw [WV_build, evS_eq]; exact Iff.rfl
@[simp ↓] theorem WV_buildSlice' {t n : Nat} {ps : Array (Nat × Operand)} : WV E fid ⟨s, h, off, nt⟩ ⟨dst, .buildSlice t n ps, ty, pos, af, gd⟩ K ↔ IV (opq (buildS E t n (ps.toList.map fun p => (p.1, evS s p.2)))) h K ⟨⟩ := by simp only [opq_eq]; rw [WV_buildSlice, evS_eq]; exact Iff.rfl
@[simp ↓] theorem WV_load' {t : Nat} {a : Operand} : WV E fid ⟨s, h, off, nt⟩ ⟨dst, .load t a, ty, pos, af, gd⟩ K ↔ IV (opq (loadV E h t (evS s a))) h K ⟨⟩ := by simp only [opq_eq]; rw [WV_load, evS_eq]; exact Iff.rfl
@[simp ↓] theorem WV_store' {t : Nat} {a x : Operand} : WV E fid ⟨s, h, off, nt⟩ ⟨dst, .store t a x, ty, pos, af, gd⟩ K ↔ IS (opq ((storeV E h t (evS s a) (evS s x)).map fun h => (.un, h))) K ⟨⟩ := by simp only [opq_eq]; rw [WV_store, evS_eq]; exact Iff.rfl
@[simp ↓] theorem WV_binOp' {op : BinOp} {t u : Nat} {x y : Operand} : WV E fid ⟨s, h, off, nt⟩ ⟨dst, .binOp op t x y u, ty, pos, af, gd⟩ K ↔ IV (opq (binO E op t y (evS s x) (evS s y))) h K ⟨⟩ := by simp only [opq_eq]; rw [WV_binOp, evS_eq]; exact Iff.rfl
@[simp ↓] theorem WV_unOp' {op : UnOp} {t : Nat} {x : Operand} : WV E fid ⟨s, h, off, nt⟩ ⟨dst, .unOp op t x, ty, pos, af, gd⟩ K ↔ IV (opq (unV op (evS s x))) h K ⟨⟩ := by simp only [opq_eq]; rw [WV_unOp, evS_eq]; exact Iff.rfl
@[simp ↓] theorem WV_convert' {a d : Nat} {x : Operand} : WV E fid ⟨s, h, off, nt⟩ ⟨dst, .convert a d x, ty, pos, af, gd⟩ K ↔ IV (opq (convV E a d (evS s x))) h K ⟨⟩ := by simp only [opq_eq]; rw [WV_convert, evS_eq]; exact Iff.rfl
@[simp ↓] theorem WV_makeSlice' {t : Nat} {l c : Operand} : WV E fid ⟨s, h, off, nt⟩ ⟨dst, .makeSlice t l c, ty, pos, af, gd⟩ K ↔ IS (opq (makeV E h (off + dst.getD 0) t (evS s l) (evS s c))) K ⟨⟩ := by simp only [opq_eq]; rw [WV_makeSlice, evS_eq]; exact Iff.rfl
@[simp ↓] theorem WV_slice' {t : Nat} {x : Operand} {lo hi mx : Option Operand} : WV E fid ⟨s, h, off, nt⟩ ⟨dst, .slice t x lo hi mx, ty, pos, af, gd⟩ K ↔
    IV (opq (if mx.isSome = true ∧ hi.isSome = false then none else sliceV E h t (evS s x) (lo.map (evS s)) (hi.map (evS s)) (mx.map (evS s)))) h K ⟨⟩ := by
  rw [opq_eq]
  rw [WV_slice, evS_eq]; split <;> exact Iff.rfl
@[simp ↓] theorem WV_fieldAddr' {u f : Nat} {x : Operand} : WV E fid ⟨s, h, off, nt⟩ ⟨dst, .fieldAddr u x f, ty, pos, af, gd⟩ K ↔ IV (opq (fieldA E u (evS s x) f)) h K ⟨⟩ := by simp only [opq_eq]; rw [WV_fieldAddr, evS_eq]; exact Iff.rfl
@[simp ↓] theorem WV_field' {u f : Nat} {x : Operand} : WV E fid ⟨s, h, off, nt⟩ ⟨dst, .field u x f, ty, pos, af, gd⟩ K ↔ IV (opq (fieldV E u (evS s x) f)) h K ⟨⟩ := by simp only [opq_eq]; rw [WV_field, evS_eq]; exact Iff.rfl
@[simp ↓] theorem WV_indexAddr' {t : Nat} {x i : Operand} : WV E fid ⟨s, h, off, nt⟩ ⟨dst, .indexAddr t x i, ty, pos, af, gd⟩ K ↔ IV (opq (indexA E h t (evS s x) (evS s i))) h K ⟨⟩ := by simp only [opq_eq]; rw [WV_indexAddr, evS_eq]; exact Iff.rfl
@[simp ↓] theorem WV_index' {t : Nat} {x i : Operand} : WV E fid ⟨s, h, off, nt⟩ ⟨dst, .index t x i, ty, pos, af, gd⟩ K ↔ IV (opq (indexV E t (evS s x) (evS s i))) h K ⟨⟩ := by simp only [opq_eq]; rw [WV_index, evS_eq]; exact Iff.rfl
@[simp ↓] theorem WV_extract' {x : Operand} {i : Nat} : WV E fid ⟨s, h, off, nt⟩ ⟨dst, .extract x i, ty, pos, af, gd⟩ K ↔ IV (opq (extractV (evS s x) i)) h K ⟨⟩ := by simp only [opq_eq]; rw [WV_extract, evS_eq]; exact Iff.rfl
@[simp ↓] theorem WV_nilCheck' {x : Operand} : WV E fid ⟨s, h, off, nt⟩ ⟨dst, .nilCheck x, ty, pos, af, gd⟩ K ↔ IV (opq (chkV (evS s x))) h K ⟨⟩ := by simp only [opq_eq]; rw [WV_nilCheck, evS_eq]; exact Iff.rfl
@[simp ↓] theorem WV_len' {x : Operand} {t : Nat} : WV E fid ⟨s, h, off, nt⟩ ⟨dst, .call ⟨.builtin .len, #[x], #[t]⟩, ty, pos, af, gd⟩ K ↔ IV (opq (lenV E t (evS s x))) h K ⟨⟩ := by simp only [opq_eq]; rw [WV_len, evS_eq]; exact Iff.rfl
/-- an append that waits for what is known of its row -/
def WA (E : Env) (h : Heap) (key t : Nat) (x y : AV) (K : AV → Heap → Prop) (tg : Tg (h, K)) : Prop := Is (appendV E h key t x y) K
/-- the same, the row the caller's own -/
def WR (E : Env) (h : Heap) (key t : Nat) (x y : AV) (K : AV → Heap → Prop) (tg : Tg (h, K)) : Prop := Is (appendR E h key t x y) K
/-- the same, to a start of an own row -/
def WP (E : Env) (h : Heap) (key t : Nat) (x y : AV) (K : AV → Heap → Prop) (tg : Tg (h, K)) : Prop := Is (appendO E h key t x y) K
/-- which of the two -/
def WX (b : Bool) (A B : Prop) (tg : Tg (A, B)) : Prop := if b = true then A else B
@[congr] theorem WX_congr {b b' : Bool} {A B : Prop} {tg : Tg (A, B)} (e : b = b') : WX b A B tg = WX b' A B tg := by rw [e]
@[simp] theorem WX_true {A B : Prop} {tg : Tg (A, B)} : WX true A B tg = A := _root_.id rfl
@[simp] theorem WX_false {A B : Prop} {tg : Tg (A, B)} : WX false A B tg = B := by simp [WX]
@[simp ↓] theorem WV_append' {x y : Operand} {t : Nat} {d : Nat} : WV E fid ⟨s, h, off, nt⟩ ⟨some d, .call ⟨.builtin .append, #[x, y], #[t, t]⟩, ty, pos, af, gd⟩ K ↔ WX (E.mat fid d == 4) (WR E h (off + d) t (evS s x) (evS s y) K ⟨⟩) (WX (E.mat fid d == 6) (WP E h (off + d) t (evS s x) (evS s y) K ⟨⟩) (WA E h (off + d) t (evS s x) (evS s y) K ⟨⟩) ⟨⟩) ⟨⟩ := by
  unfold WX
  by_cases hm : E.mat fid d = 4
  · rw [WV_appendR hm, evS_eq]; simp [hm]; exact Iff.rfl
  · by_cases hm2 : E.mat fid d = 6
    · rw [WV_appendO hm2, evS_eq]; simp [hm2]; exact Iff.rfl
    · rw [WV_append hm hm2, evS_eq]; simp [hm, hm2]; exact Iff.rfl
@[simp ↓] theorem WV_makeFunc' {f d : Nat} {caps : Array Operand} : WV E fid ⟨s, h, off, nt⟩ ⟨some d, .makeFunc (.func f) #[] caps, ty, pos, af, gd⟩ K ↔ WX (E.mat fid d == 8) (IS (opq (freezeV h f (caps.toList.map (evS s)))) K ⟨⟩) (IV (opq (some (.fn f (caps.toList.map (evS s))))) h K ⟨⟩) ⟨⟩ := by
  unfold WX
  simp only [opq_eq]
  by_cases hm : E.mat fid d = 8
  · rw [WV_makeFuncZ hm, evS_eq]; simp [hm]; try exact Iff.rfl
  · rw [WV_makeFunc hm, evS_eq]; simp [hm]; try exact Iff.rfl
@[simp ↓] theorem WV_call' {g : Nat} {as : Array Operand} {ts : Array Nat} : WV E fid ⟨s, h, off, nt⟩ ⟨dst, .call ⟨.value (.func g), as, ts⟩, ty, pos, af, gd⟩ K ↔ CF E fid dst g (opq (as.toList.map (evS s))) ⟨s, h, off, nt⟩ K ⟨⟩ := by simp only [opq_eq]; rw [WV_call, evS_eq]; exact Iff.rfl
/-- a call of a function value -/
def CV (E : Env) (fid : Nat) (dst : Option Nat) (f : AV) (args : List AV) (st : St) (K : AV → Heap → Prop) (tg : Tg (st, K)) : Prop := match f with | .fn g caps => WF E fid dst g (args ++ caps) st K | _ => False
@[congr] theorem CV_congr {E : Env} {fid : Nat} {dst : Option Nat} {f f' : AV} {args args' : List AV} {st : St} {K : AV → Heap → Prop} {tg : Tg (st, K)} (e1 : f = f') (e : args = args') : CV E fid dst f args st K tg = CV E fid dst f' args' st K tg := by rw [e, e1]
@[simp] theorem CV_fn {E : Env} {fid g : Nat} {dst : Option Nat} {args caps : List AV} {st : St} {K : AV → Heap → Prop} {tg : Tg (st, K)} : CV E fid dst (.fn g caps) args st K tg ↔ CF E fid dst g (opq (args ++ caps)) st K ⟨⟩ := Iff.rfl
@[simp ↓] theorem WV_callV' {t : Nat} {as : Array Operand} {ts : Array Nat} : WV E fid ⟨s, h, off, nt⟩ ⟨dst, .call ⟨.value (.tmp t), as, ts⟩, ty, pos, af, gd⟩ K ↔ CV E fid dst (opq (s t)) (opq (as.toList.map (evS s))) ⟨s, h, off, nt⟩ K ⟨⟩ := by
  simp only [opq_eq]
  have e : ∀ call, evOp E call fid ⟨s, h, off, nt⟩ ⟨dst, .call ⟨.value (.tmp t), as, ts⟩, ty, pos, af, gd⟩ = match s t with | .fn g caps => callFn E call fid dst g (as.toList.map (evS s) ++ caps) ⟨s, h, off, nt⟩ | _ => none := fun call => by
    simp only [evOp, evCall, St.ev, evS_eq]
    cases s t <;> rfl
  unfold CV
  constructor
  · rintro ⟨k, v, h', h1, hk⟩
    rw [e] at h1
    cases hs : s t <;> rw [hs] at h1 <;> first | (cases h1; done) | exact ⟨k, v, h', h1, hk⟩
  · intro h1
    cases hs : s t <;> rw [hs] at h1 <;> first | exact h1.elim | skip
    obtain ⟨k, v, h', h1, hk⟩ := h1
    exact ⟨k, v, h', by rw [e, hs]; exact h1, hk⟩
@[simp ↓] theorem binO_tmp (E : Env) (op : BinOp) (t n : Nat) (vx vy : AV) : binO E op t (.tmp n) vx vy = binT E op t vx vy := by simp [binO, isNilC]
@[simp ↓] theorem binO_int (E : Env) (op : BinOp) (t : Nat) (k : IntKind) (n : Int) (vx vy : AV) : binO E op t (.const (.int k n)) vx vy = binT E op t vx vy := by simp [binO, isNilC]
@[simp ↓] theorem binO_bool (E : Env) (op : BinOp) (t : Nat) (b : Bool) (vx vy : AV) : binO E op t (.const (.bool b)) vx vy = binT E op t vx vy := by simp [binO, isNilC]
@[simp ↓] theorem binO_str (E : Env) (op : BinOp) (t : Nat) (b : ByteArray) (vx vy : AV) : binO E op t (.const (.string b)) vx vy = binT E op t vx vy := by simp [binO, isNilC]
@[simp ↓] theorem binO_nil (E : Env) (op : BinOp) (t : Nat) (vx vy : AV) : binO E op t (.const (.slice none 0 0)) vx vy = nilC E op t vx := by simp [binO, isNilC]
/-- a closed call whose result comes by value -/
def closedB (E : Env) (fid d g : Nat) : Bool := (E.ext g).isNone && !E.open_ g && E.mat fid d == 0 && !E.deep g
theorem WF_closedB {d g : Nat} {args : List AV} (he : closedB E fid d g = true) :
    CF E fid (some d) g args ⟨s, h, off, nt⟩ K ⟨⟩ ↔ CW E g (opq (lows h args)) (fun r => IV (opq (some (noEx r))) h K ⟨⟩) ⟨⟩ := by
  simp only [closedB, Bool.and_eq_true, Bool.not_eq_true', beq_iff_eq, Option.isNone_iff_eq_none] at he
  exact WF_closed (ext_none he.1.1.1 _) he.1.1.2 he.1.2 he.2
attribute [simp] WF_closedB closedB
end
@[simp ↓] theorem evS_tmp (s : Nat → AV) (t : Nat) : evS s (.tmp t) = s t := _root_.id rfl
@[simp ↓] theorem evS_const (s : Nat → AV) (v : Value) : evS s (.const v) = ofConst v := _root_.id rfl
@[simp ↓] theorem evS_func (s : Nat → AV) (f : Nat) : evS s (.func f) = .fn f [] := _root_.id rfl
def dstAt : List Oper → Nat → Option Nat
  | [], _ => none
  | o :: l, 0 => o.dst
  | o :: l, j + 1 => dstAt l j
theorem dstAt_eq (l : List Oper) (j : Nat) : dstAt l j = (l[j]?).bind Oper.dst := by
  induction l generalizing j with
  | nil => simp [dstAt]
  | cons o l ih => cases j <;> simp [dstAt, ih]
theorem guardAt_eq (ops : Array Oper) (s : Nat → AV) (j : Nat) (want : Bool) : guardAt ops s j want = match dstAt ops.toList j with | some d => guardV (s d) want | none => none := by
  rw [dstAt_eq, Array.getElem?_toList]; rfl
@[simp ↓] theorem dstAt_zero (d : Option Nat) (op : Op) (ty : Nat) (pos : String) (af : Array Edge) (gd : Option (Nat × Bool)) (l : List Oper) : dstAt (⟨d, op, ty, pos, af, gd⟩ :: l) 0 = d := _root_.id rfl
@[simp ↓] theorem dstAt_succ (o : Oper) (l : List Oper) (j : Nat) : dstAt (o :: l) (j + 1) = dstAt l j := _root_.id rfl
/-- a guard's answer, at a slot -/
def guardO (d : Option Nat) (s : Nat → AV) (want : Bool) : Option Bool := match d with | some d => guardV (s d) want | none => none
@[simp ↓] theorem guardO_some (d : Nat) (s : Nat → AV) (want : Bool) : guardO (some d) s want = guardV (s d) want := _root_.id rfl
@[simp ↓] theorem guardAt_list (l : List Oper) (s : Nat → AV) (j : Nat) (want : Bool) : guardAt l.toArray s j want = guardO (dstAt l j) s want := by
  rw [guardAt_eq]; rfl
@[simp ↓] theorem W_region' {E : Env} {fid id : Nat} {l : List Oper} {st : St} {Q : Ex → St → Prop} : W E fid (.region id l.toArray false) st Q ↔ WO E fid l.toArray l st (Q .normal) := by
  rw [W_region]
theorem draw_list {E : Env} {fid id : Nat} {l : List Oper} {st : St} {Q : Ex → St → Prop} (hd : drawOk E fid l.toArray = true) (h : WO E fid l.toArray l st (Q .normal)) : WD E fid id l.toArray st Q ⟨⟩ := draw_intro hd h
theorem draw_listA {E : Env} {fid id : Nat} {l : List Oper} {st : St} {Q : Ex → St → Prop} (ha : allocsOf l.toArray = []) (hd : (drawOk E fid l.toArray || drawOk2 E fid l.toArray) = true) (h : WO E fid l.toArray l st (Q .normal)) : WD E fid id l.toArray st Q ⟨⟩ := by
  refine W_drawX hd ?_
  rw [ha]
  exact WOD_of_WO h
theorem draw_listB {E : Env} {fid id : Nat} {l : List Oper} {D : List Nat} {st : St} {Q : Ex → St → Prop} (ha : allocsOf l.toArray = D) (hd : (drawOk E fid l.toArray || drawOk2 E fid l.toArray) = true) (h : WOD E fid l.toArray D l st (Q .normal)) : WD E fid id l.toArray st Q ⟨⟩ := by
  subst ha
  exact W_drawX hd h
theorem draw_listC {E : Env} {fid id : Nat} {l : List Oper} {st : St} {Q : Ex → St → Prop} (D : List Nat) (ha : freshs E fid l.toArray = D) (hd : (drawOk E fid l.toArray || drawOk2 E fid l.toArray) = false) (hd3 : drawOk3 E fid l.toArray = true) (h : WOD E fid l.toArray D l st (Q .normal)) : WD E fid id l.toArray st Q ⟨⟩ := by
  subst ha
  simp only [Bool.or_eq_false_iff] at hd
  exact W_draw3 hd.1 hd.2 hd3 h
theorem draw_listK {E : Env} {fid id : Nat} {l : List Oper} {st : St} {Q : Ex → St → Prop} (D cs : List Nat) (ha : keepD E fid l.toArray = D) (hc : codesOf E fid l.toArray = cs) (hd : (drawOk E fid l.toArray || drawOk2 E fid l.toArray || drawOk3 E fid l.toArray) = false) (hd4 : drawOk4 E fid l.toArray = true) (h : WK E fid l.toArray D cs l st (Q .normal)) : WD E fid id l.toArray st Q ⟨⟩ := by
  subst ha hc
  simp only [Bool.or_eq_false_iff] at hd
  exact W_draw4 hd.1.1 hd.1.2 hd.2 hd4 h
attribute [simp ↓] WOD_nil WK_nil
attribute [simp] keysIn keysB keysBs
@[simp] theorem eff_pr : (Eff.pure == Eff.read) = false := _root_.id rfl
@[simp] theorem eff_wr : (Eff.write == Eff.read) = false := _root_.id rfl
@[simp] theorem eff_rr : (Eff.read == Eff.read) = true := _root_.id rfl
attribute [simp] chkB readish freshCall keysFree effOf byVal hasKey hasKeys Op.operands Call.operands
theorem st_ev (s : Nat → AV) (h : Heap) (off nt : Nat) (x : Operand) : St.ev ⟨s, h, off, nt⟩ x = evS s x := ev_evS s h off nt x
attribute [simp] st_ev

@[simp] theorem is_none {K : AV → Heap → Prop} : Is none K ↔ False := ⟨fun ⟨_, _, e, _⟩ => (by cases e), False.elim⟩
@[simp] theorem isV_none {h : Heap} {K : AV → Heap → Prop} : IsV none h K ↔ False := Iff.rfl
@[simp ↓] theorem st_h (s : Nat → AV) (h : Heap) (off nt : Nat) : St.h ⟨s, h, off, nt⟩ = h := _root_.id rfl
@[simp ↓] theorem st_s (s : Nat → AV) (h : Heap) (off nt : Nat) : St.s ⟨s, h, off, nt⟩ = s := _root_.id rfl
@[simp ↓] theorem st_off (s : Nat → AV) (h : Heap) (off nt : Nat) : St.off ⟨s, h, off, nt⟩ = off := _root_.id rfl
@[simp] theorem ofConst_int (k : IntKind) (n : Int) : ofConst (.int k n) = .int k n := _root_.id rfl
@[simp] theorem ofConst_bool (b : Bool) : ofConst (.bool b) = .bool b := _root_.id rfl
@[simp] theorem ofConst_str (s : ByteArray) : ofConst (.string s) = .str s := _root_.id rfl
@[simp] theorem ofConst_nil : ofConst (.slice none 0 0) = .sl 0 .lit [] := _root_.id rfl
@[simp] theorem ofConst_nilFunc : ofConst .nilFunc = .nilf := _root_.id rfl
@[simp ↓] theorem upd_apply (s : Nat → AV) (d : Nat) (v : AV) (t : Nat) : upd s d v t = if t = d then v else s t := _root_.id rfl
@[simp ↓] theorem hset_apply (h : Heap) (d : Nat) (v : Blk) (t : Nat) : hset h d v t = if t = d then some v else h t := _root_.id rfl
@[simp] theorem hnil_apply (t : Nat) : hnil t = none := _root_.id rfl
@[simp ↓] theorem argSlots_apply (args : List AV) (t : Nat) : argSlots args t = args.getD t .un := _root_.id rfl
@[simp] theorem low_int (h : Heap) (k : IntKind) (n : Int) : low h (.int k n) = .int k n := by simp [low]
@[simp] theorem low_bool (h : Heap) (b : Bool) : low h (.bool b) = .bool b := by simp [low]
@[simp] theorem low_str (h : Heap) (b : ByteArray) : low h (.str b) = .str b := by simp [low]
@[simp] theorem low_agg (h : Heap) (cs : List AV) : low h (.agg cs) = .agg (lows h cs) := by simp [low]
@[simp] theorem low_fn (h : Heap) (f : Nat) (cs : List AV) : low h (.fn f cs) = .fn f (lows h cs) := by simp [low]
@[simp] theorem low_no (h : Heap) (k : Nat) (es : List AV) : low h (.sl k .no es) = .sl k .no es := by simp [low]
@[simp] theorem low_lit (h : Heap) (k : Nat) (es : List AV) : low h (.sl k .lit es) = .sl k .lit es := by simp [low]
@[simp] theorem low_brw (h : Heap) (k : Nat) (es : List AV) : low h (.sl k .brw es) = .sl k .brw es := by simp [low]
@[simp] theorem low_tok (h : Heap) (k key g : Nat) (es : List AV) : low h (.sl k (.tok key g) es) = .sl k .no es := by simp [low]
@[simp] theorem low_ex (h : Heap) (k key g : Nat) (es : List AV) : low h (.sl k (.ex key g) es) = .sl k .no es := by simp [low]
@[simp] theorem low_cp (h : Heap) (b : Bool) (cs : List AV) (off : Nat) : low h (.cp b cs off) = .cp b cs off := by simp [low]
@[simp] theorem low_vp (h : Heap) (key g off : Nat) : low h (.vp key g off) = match h key with | some (.var g' _ v) => if g = g' then .cp true (low0s v.cells) off else .un | _ => .un := by
  rw [low]
  cases h key with
  | none => rfl
  | some b => cases b <;> rfl
@[simp] theorem lows_append (h : Heap) : ∀ (a b : List AV), lows h (a ++ b) = lows h a ++ lows h b
  | [], b => by simp [lows]
  | x :: a, b => by simp [lows, lows_append h a b]
@[simp] theorem low0_cp (b : Bool) (cs : List AV) (off : Nat) : low0 (.cp b cs off) = .cp b cs off := by simp [low0]
@[simp] theorem low0_fn (f : Nat) (cs : List AV) : low0 (.fn f cs) = .fn f (low0s cs) := by simp [low0]
@[simp] theorem low_ud (h : Heap) : low h .ud = .ud := by simp [low]
@[simp] theorem low_nilf (h : Heap) : low h .nilf = .nilf := by simp [low]
@[simp] theorem lows_nil (h : Heap) : lows h [] = [] := by simp [lows]
@[simp] theorem lows_cons (h : Heap) (v : AV) (vs : List AV) : lows h (v :: vs) = low h v :: lows h vs := by simp [lows]
@[simp] theorem noEx_int (k : IntKind) (n : Int) : noEx (.int k n) = .int k n := by simp [noEx]
@[simp] theorem noEx_bool (b : Bool) : noEx (.bool b) = .bool b := by simp [noEx]
@[simp] theorem noEx_str (b : ByteArray) : noEx (.str b) = .str b := by simp [noEx]
@[simp] theorem noEx_agg (cs : List AV) : noEx (.agg cs) = .agg (noExs cs) := by simp [noEx]
@[simp] theorem noEx_tup (cs : List AV) : noEx (.tup cs) = .tup (noExs cs) := by simp [noEx]
@[simp] theorem noExs_nil : noExs [] = [] := by simp [noExs]
@[simp] theorem noExs_cons (v : AV) (vs : List AV) : noExs (v :: vs) = noEx v :: noExs vs := by simp [noExs]
@[simp] theorem expo_int (h : Heap) (k : IntKind) (n : Int) : expo h (.int k n) = .int k n := by simp [expo]
@[simp] theorem expo_bool (h : Heap) (b : Bool) : expo h (.bool b) = .bool b := by simp [expo]
@[simp] theorem expo_str (h : Heap) (b : ByteArray) : expo h (.str b) = .str b := by simp [expo]
@[simp] theorem expo_agg (h : Heap) (cs : List AV) : expo h (.agg cs) = .agg (expos h cs) := by simp [expo]
@[simp] theorem expo_tup (h : Heap) (cs : List AV) : expo h (.tup cs) = .tup (expos h cs) := by simp [expo]
@[simp] theorem expos_nil (h : Heap) : expos h [] = [] := by simp [expos]
@[simp] theorem expos_cons (h : Heap) (v : AV) (vs : List AV) : expos h (v :: vs) = expo h v :: expos h vs := by simp [expos]
@[simp] theorem expo_no (h : Heap) (k : Nat) (es : List AV) : expo h (.sl k .no es) = .sl k .no es := by simp [expo]
@[simp] theorem expo_lit (h : Heap) (k : Nat) (es : List AV) : expo h (.sl k .lit es) = .sl k .lit es := by simp [expo]
@[simp] theorem noEx_no (k : Nat) (es : List AV) : noEx (.sl k .no es) = .sl k .no es := by simp [noEx]
@[simp] theorem noEx_lit (k : Nat) (es : List AV) : noEx (.sl k .lit es) = .sl k .lit es := by simp [noEx]
@[simp] theorem noEx_ex (k T key : Nat) (es : List AV) : noEx (.sl k (.ex T key) es) = .sl k .no es := by simp [noEx]
@[simp] theorem stab_int (k : IntKind) (n : Int) : stab (.int k n) = true := by simp [stab]
@[simp] theorem stab_bool (n : Bool) : stab (.bool n) = true := by simp [stab]
@[simp] theorem stab_str (n : ByteArray) : stab (.str n) = true := by simp [stab]
@[simp] theorem stab_no (k : Nat) (es : List AV) : stab (.sl k .no es) = true := by simp [stab]
@[simp] theorem stab_lit (k : Nat) (es : List AV) : stab (.sl k .lit es) = true := by simp [stab]
@[simp] theorem stab_agg (cs : List AV) : stab (.agg cs) = stabs cs := by simp [stab]
@[simp] theorem stabs_nil : stabs [] = true := by simp [stabs]
@[simp] theorem stabs_cons (v : AV) (vs : List AV) : stabs (v :: vs) = (stab v && stabs vs) := by simp [stabs]
@[simp] theorem low0_int (k : IntKind) (n : Int) : low0 (.int k n) = .int k n := by simp [low0]
@[simp] theorem low0_bool (n : Bool) : low0 (.bool n) = .bool n := by simp [low0]
@[simp] theorem low0_str (n : ByteArray) : low0 (.str n) = .str n := by simp [low0]
@[simp] theorem low0_no (k : Nat) (es : List AV) : low0 (.sl k .no es) = .sl k .no es := by simp [low0]
@[simp] theorem low0_lit (k : Nat) (es : List AV) : low0 (.sl k .lit es) = .sl k .lit es := by simp [low0]
@[simp] theorem low0_tok (k key g : Nat) (es : List AV) : low0 (.sl k (.tok key g) es) = .sl k .no es := by simp [low0]
@[simp] theorem low0_agg (cs : List AV) : low0 (.agg cs) = .agg (low0s cs) := by simp [low0]
@[simp] theorem low0s_nil : low0s [] = [] := by simp [low0s]
@[simp] theorem low0s_cons (v : AV) (vs : List AV) : low0s (v :: vs) = low0 v :: low0s vs := by simp [low0s]
@[simp] theorem cells_int (k : IntKind) (n : Int) : (AV.int k n).cells = [.int k n] := _root_.id rfl
@[simp] theorem cells_bool (b : Bool) : (AV.bool b).cells = [.bool b] := _root_.id rfl
@[simp] theorem cells_str (b : ByteArray) : (AV.str b).cells = [.str b] := _root_.id rfl
@[simp] theorem cells_agg (cs : List AV) : (AV.agg cs).cells = cs := _root_.id rfl
@[simp] theorem cells_sl (k : Nat) (o : Own) (es : List AV) : (AV.sl k o es).cells = [.sl k o es] := _root_.id rfl
@[simp] theorem cells_fn (k : Nat) (es : List AV) : (AV.fn k es).cells = [.fn k es] := _root_.id rfl
@[simp] theorem cells_ms (a b c d : Nat) : (AV.ms a b c d).cells = [.ms a b c d] := _root_.id rfl
@[simp] theorem one_int (k : IntKind) (n : Int) : (AV.int k n).one = true := _root_.id rfl
@[simp] theorem one_bool (b : Bool) : (AV.bool b).one = true := _root_.id rfl
@[simp] theorem one_str (b : ByteArray) : (AV.str b).one = true := _root_.id rfl
@[simp] theorem one_sl (k : Nat) (o : Own) (es : List AV) : (AV.sl k o es).one = true := _root_.id rfl
@[simp] theorem one_ms (a b c d : Nat) : (AV.ms a b c d).one = true := _root_.id rfl
attribute [simp] storeV fieldA indexV boundV buildV fillV buildS unV convV fieldV extractV chkV pickV newVarV partOf TD.agg? resW resOf resVal resVals nextG Blk.g
/-- a slice's type; its elements' type -/
def slT (E : Env) (t : Nat) : Bool := match E.ty t with | .sl _ => true | _ => false
def elT (E : Env) (t : Nat) : Nat := match E.ty t with | .sl e => e | _ => 0
theorem slT_ty {E : Env} {t : Nat} (h : slT E t = true) : E.ty t = .sl (elT E t) := by
  unfold slT at h; unfold elT; split at h <;> first | (rename_i e; rw [e]) | cases h
attribute [simp] slT elT
section
variable (E : Env) (h : Heap) (t : Nat)
@[simp] theorem load_vp (key g off : Nat) : loadV E h t (.vp key g off) = match h key with | some (.var g' _ v) => if g = g' then partOf E t v.cells off else none | some (.fz g' _ v) => if g = g' then partOf E t v.cells off else none | _ => none := _root_.id rfl
@[simp] theorem freeze_vp (f key g off : Nat) : freezeV h f [.vp key g off] = match h key with | some (.var g' T v) => if g = g' ∧ flat v = true then some (.fn f [.cp false v.cells off], hset h key (.fz g' T v)) else none | _ => none := _root_.id rfl
@[simp] theorem flat_int (k : IntKind) (n : Int) : flat (.int k n) = true := _root_.id rfl
@[simp] theorem load_rp (key g i off : Nat) : loadV E h t (.rp key g i off) = match h key with | some (.row g' _ _ es) => if g = g' then (es[i]?).bind fun e => partOf E t e.cells off else none | _ => none := _root_.id rfl
@[simp] theorem load_cp (b : Bool) (cs : List AV) (off : Nat) : loadV E h t (.cp b cs off) = partOf E t cs off := _root_.id rfl
@[simp] theorem len_sl {k : Nat} {o : Own} {es : List AV} (ht : slT E t = true) : lenV E t (.sl k o es) = some (.int .i64 es.length) := by simp only [lenV, slT_ty ht]
@[simp] theorem len_ms {key g off len : Nat} (ht : slT E t = true) : lenV E t (.ms key g off len) = some (.int .i64 len) := by simp only [lenV, slT_ty ht]
@[simp] theorem len_str {s : ByteArray} (ht : E.ty t = .str) : lenV E t (.str s) = some (.int .i64 s.size) := by simp only [lenV, ht]
theorem index_ms {key g off len g' T k : Nat} {es : List AV} {kd : IntKind} {n : Int} (ht : slT E t = true) (hs : E.size (elT E t) ≠ 0) (h0 : 0 ≤ n) (h1 : n < len) (hk : h key = some (.row g' T k es)) (hg : g = g') (hk2 : k = E.size (elT E t)) :
    indexA E h t (.ms key g off len) (.int kd n) = some (.rp key g (off + n.toNat) 0) := by
  simp only [indexA, h0, if_true, slT_ty ht, hs, if_false, hk]
  rw [if_pos ⟨hg, hk2, h1⟩]
/-- a row that may be indexed -/
def rowOk (E : Env) (h : Heap) (t key g : Nat) : Bool := match h key with | some (.row g' _ k _) => decide (g = g') && decide (k = E.size (elT E t)) | _ => false
@[simp] theorem index_ms' {key g off len : Nat} {kd : IntKind} {n : Int} (ht : slT E t = true) (hs : E.size (elT E t) ≠ 0) (h0 : 0 ≤ n) (h1 : n < len) (hk : rowOk E h t key g = true) :
    indexA E h t (.ms key g off len) (.int kd n) = some (.rp key g (off + n.toNat) 0) := by
  unfold rowOk at hk
  split at hk
  · rename_i he
    simp only [Bool.and_eq_true, decide_eq_true_eq] at hk
    exact index_ms E h t ht hs h0 h1 he hk.1 hk.2
  · cases hk
@[simp] theorem rowOk_eq (key g : Nat) : rowOk E h t key g = match h key with | some (.row g' _ k _) => decide (g = g') && decide (k = E.size (elT E t)) | _ => false := _root_.id rfl
@[simp] theorem make_sl {key : Nat} {n : Int} (ht : slT E t = true) (h0 : 0 ≤ n) (h1 : n ≤ 1073741824) (hs : 0 < E.size (elT E t)) (hs2 : E.size (elT E t) < 4096) :
    makeV E h key t (.int .i64 n) (.int .i64 n) = some (.ms key (nextG h key) 0 n.toNat, hset h key (.row (nextG h key) (elT E t) (E.size (elT E t)) (List.replicate n.toNat (E.zero (elT E t))))) := by
  simp only [makeV, slT_ty ht]
  rw [if_pos ⟨h0, trivial, h1, hs, hs2⟩]
end

@[simp] theorem hset_hset (h : Heap) (k : Nat) (a b : Blk) : hset (hset h k a) k b = hset h k b := by
  funext x; simp only [hset]; split <;> rfl
theorem put_one {old x : AV} (ho : old.one = true) (hx : x.one = true) : putCells old 0 x = some x := by
  have hc : x.cells.all AV.one = true := by cases x <;> simp_all [AV.one, AV.cells]
  unfold putCells
  rw [if_pos hc]
  cases old <;> first | (simp [AV.one] at ho; done) | (simp only [ho, hx, and_self, if_true])
@[simp] theorem put_int (k : IntKind) (n : Int) (x : AV) (hx : x.one = true) : putCells (.int k n) 0 x = some x := put_one rfl hx
@[simp] theorem put_bool (n : Bool) (x : AV) (hx : x.one = true) : putCells (.bool n) 0 x = some x := put_one rfl hx
@[simp] theorem put_str (n : ByteArray) (x : AV) (hx : x.one = true) : putCells (.str n) 0 x = some x := put_one rfl hx
@[simp] theorem put_sl (k : Nat) (o : Own) (es : List AV) (x : AV) (hx : x.one = true) : putCells (.sl k o es) 0 x = some x := put_one rfl hx
@[simp] theorem put_agg (cs : List AV) (off : Nat) (x : AV) (hx : x.cells.all AV.one = true) (hl : off + x.cells.length ≤ cs.length) :
    putCells (.agg cs) off x = some (.agg (cs.take off ++ x.cells ++ cs.drop (off + x.cells.length))) := by
  unfold putCells
  rw [if_pos hx]
  exact if_pos hl

/- operations on numbers -/
@[simp] theorem bin_add (k : IntKind) (a b : Int) : binV .add (.int k a) (.int k b) = some (.int k (k.wrap (a + b))) := by simp [binV, intBin]
@[simp] theorem bin_sub (k : IntKind) (a b : Int) : binV .sub (.int k a) (.int k b) = some (.int k (k.wrap (a - b))) := by simp [binV, intBin]
@[simp] theorem bin_mul (k : IntKind) (a b : Int) : binV .mul (.int k a) (.int k b) = some (.int k (k.wrap (a * b))) := by simp [binV, intBin]
@[simp] theorem bin_quo (k : IntKind) (a b : Int) (h : b ≠ 0) : binV .quo (.int k a) (.int k b) = some (.int k (k.wrap (a.tdiv b))) := by simp [binV, intBin, h]
@[simp] theorem bin_rem (k : IntKind) (a b : Int) (h : b ≠ 0) : binV .rem (.int k a) (.int k b) = some (.int k (a.tmod b)) := by simp [binV, intBin, h]
@[simp] theorem bin_and (k : IntKind) (a b : Int) : binV .and (.int k a) (.int k b) = some (.int k (Go.bits .and k a b)) := by simp [binV, intBin]
@[simp] theorem bin_or (k : IntKind) (a b : Int) : binV .or (.int k a) (.int k b) = some (.int k (Go.bits .or k a b)) := by simp [binV, intBin]
@[simp] theorem bin_xor (k : IntKind) (a b : Int) : binV .xor (.int k a) (.int k b) = some (.int k (Go.bits .xor k a b)) := by simp [binV, intBin]
@[simp] theorem bin_andNot (k : IntKind) (a b : Int) : binV .andNot (.int k a) (.int k b) = some (.int k (Go.bits .andNot k a b)) := by simp [binV, intBin]
@[simp] theorem bin_eql (k : IntKind) (a b : Int) : binV .eql (.int k a) (.int k b) = some (.bool (decide (a = b))) := by simp [binV, intBin]; rw [Bool.eq_iff_iff]; simp
@[simp] theorem bin_neq (k : IntKind) (a b : Int) : binV .neq (.int k a) (.int k b) = some (.bool (!decide (a = b))) := by simp [binV, intBin, bne]; rw [Bool.eq_iff_iff]; simp
@[simp] theorem bin_lss (k : IntKind) (a b : Int) : binV .lss (.int k a) (.int k b) = some (.bool (decide (a < b))) := by simp [binV, intBin]
@[simp] theorem bin_leq (k : IntKind) (a b : Int) : binV .leq (.int k a) (.int k b) = some (.bool (decide (a ≤ b))) := by simp [binV, intBin]
@[simp] theorem bin_gtr (k : IntKind) (a b : Int) : binV .gtr (.int k a) (.int k b) = some (.bool (decide (b < a))) := by simp [binV, intBin]
@[simp] theorem bin_geq (k : IntKind) (a b : Int) : binV .geq (.int k a) (.int k b) = some (.bool (decide (b ≤ a))) := by simp [binV, intBin]
theorem bin_shl (k k' : IntKind) (a b : Int) (h : 0 ≤ b) : binV .shl (.int k a) (.int k' b) = some (.int k (k.wrap (a * 2 ^ min b.toNat k.bits))) := by
  simp only [binV]; rw [if_neg (by omega)]
theorem bin_shr (k k' : IntKind) (a b : Int) (h : 0 ≤ b) : binV .shr (.int k a) (.int k' b) = some (.int k (a.fdiv (2 ^ min b.toNat k.bits))) := by
  simp only [binV]; rw [if_neg (by omega)]
@[simp] theorem binT_int (E : Env) (op : BinOp) (t : Nat) (k k' : IntKind) (a b : Int) : binT E op t (.int k a) (.int k' b) = binV op (.int k a) (.int k' b) := _root_.id rfl
@[simp] theorem binT_str (E : Env) (op : BinOp) (t : Nat) (a b : ByteArray) : binT E op t (.str a) (.str b) = binV op (.str a) (.str b) := _root_.id rfl
@[simp] theorem bin_beql (E : Env) (t : Nat) (a b : Bool) (h : E.ty t = .bool) : binT E .eql t (.bool a) (.bool b) = some (.bool (a == b)) := by simp [binT, h]
@[simp] theorem bin_bneq (E : Env) (t : Nat) (a b : Bool) (h : E.ty t = .bool) : binT E .neq t (.bool a) (.bool b) = some (.bool (!(a == b))) := by simp [binT, h]
@[simp] theorem bin_seql (a b : ByteArray) : binV .eql (.str a) (.str b) = some (.bool (a.toList == b.toList)) := by simp [binV]
@[simp] theorem bin_sneq (a b : ByteArray) : binV .neq (.str a) (.str b) = some (.bool (!(a.toList == b.toList))) := by simp [binV]

end Go.Proofs.YtlglhokpaplifaaGreatDoor.Ev
/- What a stretch of code leaves as it was; loops with such frames. Conditions: none. -/
namespace Go.Proofs.YtlglhokpaplifaaGreatDoor.Ev
set_option linter.unusedVariables false
set_option linter.unusedSimpArgs false
set_option linter.unusedSectionVars false

def writesOf : Code → List Nat
  | .region _ ops _ => ops.toList.filterMap Oper.dst
  | .seq a b => writesOf a ++ writesOf b
  | .cond _ a b => writesOf a ++ writesOf b
  | .block _ c => writesOf c
  | .loop c => writesOf c
  | _ => []
def pureC (E : Env) (fid : Nat) : Code → Bool
  | .region _ ops _ => ops.toList.all fun o => effOf E fid o != .write
  | .seq a b => pureC E fid a && pureC E fid b
  | .cond _ a b => pureC E fid a && pureC E fid b
  | .block _ c => pureC E fid c
  | .loop c => pureC E fid c
  | _ => true

/-- From st to st', only what D names is written. -/
structure Fr (D : List Nat) (p : Bool) (st st' : St) : Prop where
  off : st'.off = st.off
  nt : st'.nt = st.nt
  s : ∀ t, t ∉ D → st'.s t = st.s t
  h : p = true → st'.h = st.h
theorem Fr.refl {D : List Nat} {p : Bool} {st : St} : Fr D p st st := ⟨rfl, rfl, fun _ _ => rfl, fun _ => rfl⟩
theorem Fr.trans {D : List Nat} {p : Bool} {a b c : St} (x : Fr D p a b) (y : Fr D p b c) : Fr D p a c :=
  ⟨y.off.trans x.off, y.nt.trans x.nt, fun t h => (y.s t h).trans (x.s t h), fun h => (y.h h).trans (x.h h)⟩
theorem Fr.weak {D D' : List Nat} {p p' : Bool} {a b : St} (x : Fr D p a b) (hD : ∀ t ∈ D, t ∈ D') (hp : p' = true → p = true) : Fr D' p' a b :=
  ⟨x.off, x.nt, fun t h => x.s t (fun hx => h (hD t hx)), fun h => x.h (hp h)⟩

theorem runOps_fr {E : Env} {call : CallT} {fid : Nat} {ops : Array Oper} : ∀ (l : List Oper) {st st' : St}, runOps E call fid ops l st = some st' →
    Fr (l.filterMap Oper.dst) (l.all fun o => effOf E fid o != .write) st st'
  | [], st, st', h => by simp only [runOps, Option.some.injEq] at h; subst h; exact Fr.refl
  | o :: l, st, st', h => by
    simp only [runOps, Option.bind_eq_some_iff] at h
    obtain ⟨s1, h1, h2⟩ := h
    have ih := runOps_fr l h2
    have h0 : Fr (o.dst.toList ++ l.filterMap Oper.dst) (effOf E fid o != .write) st s1 := by
      have key : ∀ v hh, (effOf E fid o ≠ .write → hh = st.h) → Fr (o.dst.toList ++ l.filterMap Oper.dst) (effOf E fid o != .write) st (st.put o.dst v hh) := fun v hh hk =>
        ⟨put_off, put_nt, fun t ht => put_s fun x hx e => ht (List.mem_append.mpr (.inl (e ▸ hx))), fun hp => by rw [put_h]; exact hk (by simpa using hp)⟩
      unfold stepOp at h1
      split at h1
      · split at h1
        · rw [Option.map_eq_some_iff] at h1
          obtain ⟨p, hp, rfl⟩ := h1
          exact key _ _ fun he => evOp_keeps he hp
        · simp only [Option.some.injEq] at h1; subst h1
          exact key _ _ fun _ => rfl
        · cases h1
      · cases h1
    refine (h0.weak (fun t ht => ?_) (fun hp => ?_)).trans (ih.weak (fun t ht => ?_) (fun hp => ?_))
    · cases hd : o.dst with
      | none => simpa [hd] using ht
      | some d => simpa [hd] using ht
    · simp only [List.all_cons, Bool.and_eq_true] at hp; exact hp.1
    · cases hd : o.dst with
      | none => simpa [hd] using ht
      | some d => simp [hd] at ht ⊢; exact .inr ht
    · simp only [List.all_cons, Bool.and_eq_true] at hp; exact hp.2

theorem evCode_fr {E : Env} {fid : Nat} : ∀ (k : Nat) {c : Code} {st : St} {e : Ex} {st' : St}, evCode E k fid c st = some (e, st') → Fr (writesOf c) (pureC E fid c) st st'
  | 0, _, _, _, _, h => by simp [evCode] at h
  | k + 1, c, st, e, st', h => by
    cases c with
    | skip => simp only [evCode, Option.some.injEq] at h; obtain ⟨rfl, rfl⟩ := Prod.mk.inj h; exact Fr.refl
    | ret => simp only [evCode, Option.some.injEq] at h; obtain ⟨rfl, rfl⟩ := Prod.mk.inj h; exact Fr.refl
    | exit i => simp only [evCode, Option.some.injEq] at h; obtain ⟨rfl, rfl⟩ := Prod.mk.inj h; exact Fr.refl
    | region id ops draw =>
      rw [evCode, Option.map_eq_some_iff] at h
      obtain ⟨p, hp, hr⟩ := h
      obtain ⟨rfl, rfl⟩ := Prod.mk.inj hr
      unfold runReg at hp
      split at hp
      · split at hp
        · exact runOps_fr _ (runD_runOps _ hp)
        · split at hp
          · exact runOps_fr _ (runD_runOps _ hp)
          · split at hp
            · exact runOps_fr _ (runK_runOps _ _ hp)
            · cases hp
      · exact runOps_fr _ hp
    | seq a b =>
      rw [evCode] at h
      cases ha : evCode E k fid a st with
      | none => rw [ha] at h; cases h
      | some p =>
        obtain ⟨e1, s1⟩ := p
        have h1 := (evCode_fr k ha).weak (D' := writesOf (.seq a b)) (p' := pureC E fid (.seq a b)) (fun t ht => List.mem_append.mpr (.inl ht)) (fun hp => by simp only [pureC, Bool.and_eq_true] at hp; exact hp.1)
        rw [ha] at h
        cases e1 with
        | normal => exact h1.trans ((evCode_fr k h).weak (fun t ht => List.mem_append.mpr (.inr ht)) (fun hp => by simp only [pureC, Bool.and_eq_true] at hp; exact hp.2))
        | ret => obtain ⟨rfl, rfl⟩ := Prod.mk.inj (Option.some.inj h); exact h1
        | exit i => obtain ⟨rfl, rfl⟩ := Prod.mk.inj (Option.some.inj h); exact h1
    | cond x a b =>
      rw [evCode] at h
      cases hx : st.ev x <;> rw [hx] at h <;> first | (cases h; done) | skip
      rename_i t
      cases t
      · exact (evCode_fr k h).weak (fun t ht => List.mem_append.mpr (.inr ht)) (fun hp => by simp only [pureC, Bool.and_eq_true] at hp; exact hp.2)
      · exact (evCode_fr k h).weak (fun t ht => List.mem_append.mpr (.inl ht)) (fun hp => by simp only [pureC, Bool.and_eq_true] at hp; exact hp.1)
    | block id c =>
      rw [evCode] at h
      cases ha : evCode E k fid c st with
      | none => rw [ha] at h; cases h
      | some p =>
        obtain ⟨e1, s1⟩ := p
        have h1 := evCode_fr k ha
        rw [ha] at h
        cases e1 with
        | normal => obtain ⟨rfl, rfl⟩ := Prod.mk.inj (Option.some.inj h); exact h1
        | ret => obtain ⟨rfl, rfl⟩ := Prod.mk.inj (Option.some.inj h); exact h1
        | exit i =>
          dsimp only at h
          split at h
          · obtain ⟨rfl, rfl⟩ := Prod.mk.inj (Option.some.inj h); exact h1
          · obtain ⟨rfl, rfl⟩ := Prod.mk.inj (Option.some.inj h); exact h1
    | loop c =>
      rw [evCode] at h
      cases ha : evCode E k fid c st with
      | none => rw [ha] at h; cases h
      | some p =>
        obtain ⟨e1, s1⟩ := p
        have h1 := evCode_fr k ha
        rw [ha] at h
        cases e1 with
        | normal =>
          have h2 : evCode E k fid (.loop c) s1 = some (e, st') := h
          exact h1.trans (evCode_fr k (c := .loop c) h2)
        | ret => obtain ⟨rfl, rfl⟩ := Prod.mk.inj (Option.some.inj h); exact h1
        | exit i => obtain ⟨rfl, rfl⟩ := Prod.mk.inj (Option.some.inj h); exact h1
    | rangeFunc f p a b => simp [evCode] at h
    | scope b => simp [evCode] at h
    | label l => simp [evCode] at h
    | goto l => simp [evCode] at h
    | refuse w => simp [evCode] at h

theorem W.frame {E : Env} {fid : Nat} {c : Code} {st : St} {Q : Ex → St → Prop} (h : W E fid c st Q) : W E fid c st fun e s => Q e s ∧ Fr (writesOf c) (pureC E fid c) st s := by
  obtain ⟨k, e, st', h1, h2⟩ := h
  exact ⟨k, e, st', h1, h2, evCode_fr k h1⟩

/-- A counting loop that leaves the memory as it was: J speaks of the slots that the loop writes (D); the others are as they were. -/
theorem W_loopF {E : Env} {fid : Nat} {c : Code} {Q : Ex → St → Prop} {s0 : Nat → AV} {h : Heap} {off nt : Nat} (D : List Nat) (n : Nat) (J : Nat → (Nat → AV) → Prop) {i0 : Nat}
    (hD : ∀ t ∈ writesOf c, t ∈ D) (hp : pureC E fid c = true) (hi : i0 ≤ n) (h0 : J i0 s0)
    (hround : ∀ i s, i ≤ n → (∀ t, t ∉ D → s t = s0 t) → J i s → W E fid c ⟨s, h, off, nt⟩ (thenQ (fun s' => i < n ∧ J (i + 1) s'.s) Q)) :
    WL E fid c ⟨s0, h, off, nt⟩ Q ⟨⟩ := by
  refine W_for n (fun i s => J i s.s ∧ Fr D true ⟨s0, h, off, nt⟩ s) (fun i st hle ⟨hJ, hf⟩ => ?_) hi ⟨h0, Fr.refl⟩
  obtain ⟨s, h', off', nt'⟩ := st
  have e1 : off' = off := hf.off
  have e2 : nt' = nt := hf.nt
  have e3 : h' = h := hf.h rfl
  have hs : ∀ t, t ∉ D → s t = s0 t := hf.s
  clear hf
  subst e1 e2 e3
  refine (hround i s hle (fun t ht => hs t ht) hJ).frame.mono fun e s' hq => ?_
  obtain ⟨hq, hfr⟩ := hq
  have hfr := hfr.weak (p' := true) hD (fun _ => hp)
  cases e with
  | normal => exact ⟨hq.1, hq.2, Fr.trans (b := ⟨s, h', off', nt'⟩) ⟨rfl, rfl, hs, fun _ => rfl⟩ hfr⟩
  | ret => exact hq
  | exit i => exact hq

/-- A counting loop that writes memory. -/
theorem W_loopH {E : Env} {fid : Nat} {c : Code} {Q : Ex → St → Prop} {s0 : Nat → AV} {h : Heap} {off nt : Nat} (D : List Nat) (n : Nat) (J : Nat → (Nat → AV) → Heap → Prop) {i0 : Nat}
    (hD : ∀ t ∈ writesOf c, t ∈ D) (hi : i0 ≤ n) (h0 : J i0 s0 h)
    (hround : ∀ i s h, i ≤ n → (∀ t, t ∉ D → s t = s0 t) → J i s h → W E fid c ⟨s, h, off, nt⟩ (thenQ (fun s' => i < n ∧ J (i + 1) s'.s s'.h) Q)) :
    WL E fid c ⟨s0, h, off, nt⟩ Q ⟨⟩ := by
  refine W_for n (fun i s => J i s.s s.h ∧ Fr D false ⟨s0, h, off, nt⟩ s) (fun i st hle ⟨hJ, hf⟩ => ?_) hi ⟨h0, Fr.refl⟩
  obtain ⟨s, h', off', nt'⟩ := st
  have e1 : off' = off := hf.off
  have e2 : nt' = nt := hf.nt
  have hs : ∀ t, t ∉ D → s t = s0 t := hf.s
  clear hf
  subst e1 e2
  refine (hround i s h' hle (fun t ht => hs t ht) hJ).frame.mono fun e s' hq => ?_
  obtain ⟨hq, hfr⟩ := hq
  have hfr := hfr.weak (p' := false) hD (fun h => by cases h)
  cases e with
  | normal => exact ⟨hq.1, hq.2, Fr.trans (b := ⟨s, h', off', nt'⟩) ⟨rfl, rfl, hs, fun h => by cases h⟩ hfr⟩
  | ret => exact hq
  | exit i => exact hq

/-- A counting loop that leaves the memory as it was. -/
theorem W_loopP {E : Env} {fid : Nat} {c : Code} {Q : Ex → St → Prop} {s0 : Nat → AV} {h : Heap} {off nt : Nat} (n : Nat) (J : Nat → (Nat → AV) → Prop)
    (hp : pureC E fid c = true) (h0 : J 0 s0)
    (hround : ∀ i s, i ≤ n → J i s → W E fid c ⟨s, h, off, nt⟩ (thenQ (fun s' => i < n ∧ J (i + 1) s'.s) Q)) :
    WL E fid c ⟨s0, h, off, nt⟩ Q ⟨⟩ := W_loopF (writesOf c) n J (fun _ h => h) hp (Nat.zero_le _) h0 fun i s hi _ hj => hround i s hi hj
/-- A counting loop that writes memory. -/
theorem W_loopG {E : Env} {fid : Nat} {c : Code} {Q : Ex → St → Prop} {s0 : Nat → AV} {h : Heap} {off nt : Nat} (n : Nat) (J : Nat → (Nat → AV) → Heap → Prop)
    (h0 : J 0 s0 h)
    (hround : ∀ i s h, i ≤ n → J i s h → W E fid c ⟨s, h, off, nt⟩ (thenQ (fun s' => i < n ∧ J (i + 1) s'.s s'.h) Q)) :
    WL E fid c ⟨s0, h, off, nt⟩ Q ⟨⟩ := W_loopH (writesOf c) n J (fun _ h => h) (Nat.zero_le _) h0 fun i s h hi _ hj => hround i s h hi hj

end Go.Proofs.YtlglhokpaplifaaGreatDoor.Ev
