/- Stepping through code with the evaluator: equations for each construct. Conditions: none. -/
import Derived.Test.YthdeaenleimbeaaDoorEvSound2
namespace Go.Proofs.YthdeaenleimbeaaDoor.Ev
set_option linter.unusedVariables false
set_option linter.unusedSimpArgs false
set_option linter.unusedSectionVars false

/-- A closed call comes to r. -/
def EvC (E : Env) (f : Nat) (args : List AV) (r : AV) : Prop := ∃ k r0 h', evOpen E k f args hnil 0 = some (r0, h') ∧ expo h' r0 = r
/-- A closed call comes to something of which K holds. -/
def CallsTo (E : Env) (f : Nat) (args : List AV) (K : AV → Prop) : Prop := ∃ r, EvC E f args r ∧ K r
/-- An open call. -/
def OpenTo (E : Env) (f : Nat) (args : List AV) (h : Heap) (off : Nat) (K : AV → Heap → Prop) : Prop := ∃ k r h', evOpen E k f args h off = some (r, h') ∧ K r h'
/-- Code. -/
def W (E : Env) (fid : Nat) (c : Code) (st : St) (Q : Ex → St → Prop) : Prop := ∃ k e st', evCode E k fid c st = some (e, st') ∧ Q e st'
/-- Operations. -/
def WO (E : Env) (fid : Nat) (ops : Array Oper) (l : List Oper) (st : St) (Q : St → Prop) : Prop := ∃ k st', runOps E (evOpen E k) fid ops l st = some st' ∧ Q st'
/-- One operation. -/
def WV (E : Env) (fid : Nat) (st : St) (o : Oper) (K : AV → Heap → Prop) : Prop := ∃ k v h', evOp E (evOpen E k) fid st o = some (v, h') ∧ K v h'
/-- A call. -/
def WF (E : Env) (fid : Nat) (dst : Option Nat) (g : Nat) (args : List AV) (st : St) (K : AV → Heap → Prop) : Prop := ∃ k v h', callFn E (evOpen E k) fid dst g args st = some (v, h') ∧ K v h'
/-- a known result -/
def Is (x : Option (AV × Heap)) (K : AV → Heap → Prop) : Prop := ∃ v h', x = some (v, h') ∧ K v h'

theorem evC_det {E : Env} {f : Nat} {args : List AV} {r r' : AV} (h : EvC E f args r) (h' : EvC E f args r') : r = r' := by
  obtain ⟨k, a, b, h1, rfl⟩ := h
  obtain ⟨k', a', b', h2, rfl⟩ := h'
  have e1 := evOpen_mono E (Nat.le_max_left k k') _ _ _ _ _ h1
  have e2 := evOpen_mono E (Nat.le_max_right k k') _ _ _ _ _ h2
  rw [e1] at e2
  obtain ⟨rfl, rfl⟩ := Prod.mk.inj (Option.some.inj e2)
  rfl

theorem callsTo_iff {E : Env} {f : Nat} {args : List AV} {r : AV} (h : EvC E f args r) {K : AV → Prop} : CallsTo E f args K ↔ K r :=
  ⟨fun ⟨r', h1, h2⟩ => evC_det h h1 ▸ h2, fun hk => ⟨r, h, hk⟩⟩

theorem W_det {E : Env} {fid : Nat} {c : Code} {st : St} {k e st' k2 e2 st2} (h : evCode E k fid c st = some (e, st')) (h2 : evCode E k2 fid c st = some (e2, st2)) : e = e2 ∧ st' = st2 := by
  have e1 := evCode_mono E (Nat.le_max_left k k2) h
  have e3 := evCode_mono E (Nat.le_max_right k k2) h2
  rw [e1] at e3
  exact Prod.mk.inj (Option.some.inj e3)

theorem W_skip {E : Env} {fid : Nat} {st : St} {Q : Ex → St → Prop} : W E fid .skip st Q ↔ Q .normal st :=
  ⟨fun ⟨k, e, st', h, hq⟩ => by
    cases k with
    | zero => simp [evCode] at h
    | succ k => simp only [evCode, Option.some.injEq] at h; obtain ⟨rfl, rfl⟩ := Prod.mk.inj h; exact hq,
   fun hq => ⟨1, .normal, st, by simp [evCode], hq⟩⟩
theorem W_ret {E : Env} {fid : Nat} {st : St} {Q : Ex → St → Prop} : W E fid .ret st Q ↔ Q .ret st :=
  ⟨fun ⟨k, e, st', h, hq⟩ => by
    cases k with
    | zero => simp [evCode] at h
    | succ k => simp only [evCode, Option.some.injEq] at h; obtain ⟨rfl, rfl⟩ := Prod.mk.inj h; exact hq,
   fun hq => ⟨1, .ret, st, by simp [evCode], hq⟩⟩
theorem W_exit {E : Env} {fid : Nat} {id : Nat} {st : St} {Q : Ex → St → Prop} : W E fid (.exit id) st Q ↔ Q (.exit id) st :=
  ⟨fun ⟨k, e, st', h, hq⟩ => by
    cases k with
    | zero => simp [evCode] at h
    | succ k => simp only [evCode, Option.some.injEq] at h; obtain ⟨rfl, rfl⟩ := Prod.mk.inj h; exact hq,
   fun hq => ⟨1, .exit id, st, by simp [evCode], hq⟩⟩

def thenQ (N : St → Prop) (Q : Ex → St → Prop) : Ex → St → Prop
  | .normal, s => N s
  | e, s => Q e s
@[simp] theorem thenQ_normal (N : St → Prop) (Q : Ex → St → Prop) (s : St) : thenQ N Q .normal s = N s := _root_.id rfl
@[simp] theorem thenQ_ret (N : St → Prop) (Q : Ex → St → Prop) (s : St) : thenQ N Q .ret s = Q .ret s := _root_.id rfl
@[simp] theorem thenQ_exit (N : St → Prop) (Q : Ex → St → Prop) (id : Nat) (s : St) : thenQ N Q (.exit id) s = Q (.exit id) s := _root_.id rfl

theorem W_seq {E : Env} {fid : Nat} {a b : Code} {st : St} {Q : Ex → St → Prop} : W E fid (.seq a b) st Q ↔ W E fid a st (thenQ (fun s => W E fid b s Q) Q) := by
  constructor
  · rintro ⟨k, e, st', h, hq⟩
    cases k with
    | zero => simp [evCode] at h
    | succ k =>
      rw [evCode] at h
      cases ha : evCode E k fid a st with
      | none => rw [ha] at h; cases h
      | some p =>
        obtain ⟨e1, s1⟩ := p
        rw [ha] at h
        refine ⟨k, e1, s1, ha, ?_⟩
        cases e1 with
        | normal => exact ⟨k, e, st', h, hq⟩
        | ret => obtain ⟨rfl, rfl⟩ := Prod.mk.inj (Option.some.inj h); exact hq
        | exit i => obtain ⟨rfl, rfl⟩ := Prod.mk.inj (Option.some.inj h); exact hq
  · rintro ⟨k, e, st', h, hq⟩
    cases e with
    | normal =>
      obtain ⟨k2, e2, s2, h2, hq2⟩ := hq
      refine ⟨max k k2 + 1, e2, s2, ?_, hq2⟩
      rw [evCode, evCode_mono E (Nat.le_max_left k k2) h]
      exact evCode_mono E (Nat.le_max_right k k2) h2
    | ret => exact ⟨k + 1, _, _, by rw [evCode, h], hq⟩
    | exit i => exact ⟨k + 1, _, _, by rw [evCode, h], hq⟩

/-- both ways of a test -/
def condW (v : AV) (A B : Prop) : Prop := match v with | .bool t => if t = true then A else B | _ => False
theorem condW_bool (t : Bool) (A B : Prop) : condW (.bool t) A B = if t = true then A else B := rfl

theorem W_cond {E : Env} {fid : Nat} {c : Operand} {a b : Code} {st : St} {Q : Ex → St → Prop} : W E fid (.cond c a b) st Q ↔ condW (st.ev c) (W E fid a st Q) (W E fid b st Q) := by
  constructor
  · rintro ⟨k, e, st', h, hq⟩
    cases k with
    | zero => simp [evCode] at h
    | succ k =>
      rw [evCode] at h
      cases hx : st.ev c <;> rw [hx] at h <;> first | (cases h; done) | skip
      rename_i t
      cases t
      · exact ⟨k, e, st', h, hq⟩
      · exact ⟨k, e, st', h, hq⟩
  · intro h
    cases hx : st.ev c <;> rw [hx] at h <;> first | (exact h.elim) | skip
    rename_i t
    cases t
    · obtain ⟨k, e, st', h, hq⟩ := h; exact ⟨k + 1, e, st', by rw [evCode, hx]; exact h, hq⟩
    · obtain ⟨k, e, st', h, hq⟩ := h; exact ⟨k + 1, e, st', by rw [evCode, hx]; exact h, hq⟩

def blockQ (id : Nat) (Q : Ex → St → Prop) : Ex → St → Prop
  | .exit i, s => if i = id then Q .normal s else Q (.exit i) s
  | e, s => Q e s
@[simp] theorem blockQ_normal (id : Nat) (Q : Ex → St → Prop) (s : St) : blockQ id Q .normal s = Q .normal s := _root_.id rfl
@[simp] theorem blockQ_ret (id : Nat) (Q : Ex → St → Prop) (s : St) : blockQ id Q .ret s = Q .ret s := _root_.id rfl
@[simp] theorem blockQ_exit (id i : Nat) (Q : Ex → St → Prop) (s : St) : blockQ id Q (.exit i) s = if i = id then Q .normal s else Q (.exit i) s := _root_.id rfl

theorem W_block {E : Env} {fid : Nat} {id : Nat} {c : Code} {st : St} {Q : Ex → St → Prop} : W E fid (.block id c) st Q ↔ W E fid c st (blockQ id Q) := by
  constructor
  · rintro ⟨k, e, st', h, hq⟩
    cases k with
    | zero => simp [evCode] at h
    | succ k =>
      rw [evCode] at h
      cases ha : evCode E k fid c st with
      | none => rw [ha] at h; cases h
      | some p =>
        obtain ⟨e1, s1⟩ := p
        rw [ha] at h
        refine ⟨k, e1, s1, ha, ?_⟩
        cases e1 with
        | normal => obtain ⟨rfl, rfl⟩ := Prod.mk.inj (Option.some.inj h); exact hq
        | ret => obtain ⟨rfl, rfl⟩ := Prod.mk.inj (Option.some.inj h); exact hq
        | exit i =>
          simp only [blockQ_exit] at h ⊢
          split at h
          · rename_i e0; rw [if_pos e0]; obtain ⟨rfl, rfl⟩ := Prod.mk.inj (Option.some.inj h); exact hq
          · rename_i e0; rw [if_neg e0]; obtain ⟨rfl, rfl⟩ := Prod.mk.inj (Option.some.inj h); exact hq
  · rintro ⟨k, e, st', h, hq⟩
    cases e with
    | normal => exact ⟨k + 1, _, _, by rw [evCode, h], hq⟩
    | ret => exact ⟨k + 1, _, _, by rw [evCode, h], hq⟩
    | exit i =>
      simp only [blockQ_exit] at hq
      split at hq
      · rename_i e0; exact ⟨k + 1, .normal, st', by rw [evCode, h]; simp [e0], hq⟩
      · rename_i e0; exact ⟨k + 1, .exit i, st', by rw [evCode, h]; simp [e0], hq⟩

theorem W_region {E : Env} {fid : Nat} {id : Nat} {ops : Array Oper} {st : St} {Q : Ex → St → Prop} : W E fid (.region id ops false) st Q ↔ WO E fid ops ops.toList st (Q .normal) := by
  constructor
  · rintro ⟨k, e, st', h, hq⟩
    cases k with
    | zero => simp [evCode] at h
    | succ k =>
      rw [evCode] at h
      simp only [runReg, Bool.false_and, Bool.false_eq_true, if_false, Option.map_eq_some_iff] at h
      obtain ⟨s, h1, h2⟩ := h
      obtain ⟨rfl, rfl⟩ := Prod.mk.inj h2
      exact ⟨k, s, h1, hq⟩
  · rintro ⟨k, st', h, hq⟩
    exact ⟨k + 1, .normal, st', by rw [evCode]; simp [runReg, h], hq⟩

theorem W_draw {E : Env} {fid : Nat} {id : Nat} {ops : Array Oper} {st : St} {Q : Ex → St → Prop} (hd : drawOk E fid ops = true) : W E fid (.region id ops true) st Q ↔ WO E fid ops ops.toList st (Q .normal) := by
  constructor
  · rintro ⟨k, e, st', h, hq⟩
    cases k with
    | zero => simp [evCode] at h
    | succ k =>
      rw [evCode] at h
      simp only [runReg, hd, Bool.not_true, Bool.and_false, Bool.false_eq_true, if_false, Option.map_eq_some_iff] at h
      obtain ⟨s, h1, h2⟩ := h
      obtain ⟨rfl, rfl⟩ := Prod.mk.inj h2
      exact ⟨k, s, h1, hq⟩
  · rintro ⟨k, st', h, hq⟩
    exact ⟨k + 1, .normal, st', by rw [evCode]; simp [runReg, h, hd], hq⟩
/-- operations, the reads of which must not lead to what is made beside them -/
def WOD (E : Env) (fid : Nat) (ops : Array Oper) (D : List Nat) (l : List Oper) (st : St) (Q : St → Prop) : Prop := ∃ k st', runD E (evOpen E k) fid ops D l st = some st' ∧ Q st'
theorem W_draw2 {E : Env} {fid : Nat} {id : Nat} {ops : Array Oper} {st : St} {Q : Ex → St → Prop} (hd : drawOk E fid ops = false) (hd2 : drawOk2 E fid ops = true) (h : WOD E fid ops (allocsOf ops) ops.toList st (Q .normal)) : W E fid (.region id ops true) st Q := by
  obtain ⟨k, st', h, hq⟩ := h
  exact ⟨k + 1, .normal, st', by rw [evCode]; simp [runReg, h, hd, hd2], hq⟩
theorem W_draw3 {E : Env} {fid : Nat} {id : Nat} {ops : Array Oper} {st : St} {Q : Ex → St → Prop} (hd : drawOk E fid ops = false) (hd2 : drawOk2 E fid ops = false) (hd3 : drawOk3 E fid ops = true) (h : WOD E fid ops (freshs E fid ops) ops.toList st (Q .normal)) : W E fid (.region id ops true) st Q := by
  obtain ⟨k, st', h, hq⟩ := h
  exact ⟨k + 1, .normal, st', by rw [evCode]; simp [runReg, h, hd, hd2, hd3], hq⟩
/-- each step: as ever, and the check -/
theorem WOD_of {E : Env} {fid : Nat} {ops : Array Oper} {D : List Nat} {o : Oper} {l : List Oper} {st : St} {Q : St → Prop} (hc : (!readish E fid o || keysFree st D o) = true) (h : ∃ k s1, stepOp E (evOpen E k) fid ops st o = some s1 ∧ WOD E fid ops D l s1 Q) : WOD E fid ops D (o :: l) st Q := by
  obtain ⟨k, s1, h1, k2, st', h2, hq⟩ := h
  refine ⟨max k k2, st', ?_, hq⟩
  simp only [runD, Option.bind_eq_some_iff]
  refine ⟨s1, ?_, runD_le (evOpen_mono E (Nat.le_max_right k k2)) _ h2⟩
  unfold stepD
  rw [if_pos hc]
  exact stepOp_le (evOpen_mono E (Nat.le_max_left k k2)) h1

theorem WO_nil {E : Env} {fid : Nat} {ops : Array Oper} {st : St} {Q : St → Prop} : WO E fid ops [] st Q ↔ Q st :=
  ⟨fun ⟨k, st', h, hq⟩ => by simp only [runOps, Option.some.injEq] at h; exact h ▸ hq, fun hq => ⟨0, st, rfl, hq⟩⟩

/-- a guard -/
def guardW (g : Option Bool) (A B : Prop) : Prop := match g with | some true => A | some false => B | none => False
@[simp] theorem guardW_true (A B : Prop) : guardW (some true) A B = A := _root_.id rfl
@[simp] theorem guardW_false (A B : Prop) : guardW (some false) A B = B := _root_.id rfl
theorem guardW_some (b : Bool) (A B : Prop) : guardW (some b) A B = if b = true then A else B := by cases b <;> rfl

theorem WO_cons {E : Env} {fid : Nat} {ops : Array Oper} {o : Oper} {l : List Oper} {st : St} {Q : St → Prop} :
    WO E fid ops (o :: l) st Q ↔ dstOk st o = true ∧ guardW (wantedV ops st o) (WV E fid st o fun v h => WO E fid ops l (st.put o.dst v h) Q) (WO E fid ops l (st.put o.dst .ud st.h) Q) := by
  constructor
  · rintro ⟨k, st', h, hq⟩
    simp only [runOps, Option.bind_eq_some_iff] at h
    obtain ⟨s1, h1, h2⟩ := h
    unfold stepOp at h1
    split at h1
    case isFalse => cases h1
    rename_i hd
    refine ⟨hd, ?_⟩
    cases hw : wantedV ops st o with
    | none => rw [hw] at h1; cases h1
    | some b =>
      rw [hw] at h1
      cases b with
      | true =>
        simp only [Option.map_eq_some_iff] at h1
        obtain ⟨p, hp, rfl⟩ := h1
        exact ⟨k, p.1, p.2, hp, k, st', h2, hq⟩
      | false =>
        simp only [Option.some.injEq] at h1
        subst h1
        exact ⟨k, st', h2, hq⟩
  · rintro ⟨hd, h⟩
    cases hw : wantedV ops st o with
    | none => rw [hw] at h; exact h.elim
    | some b =>
      rw [hw] at h
      cases b with
      | true =>
        obtain ⟨k, v, h', h1, k2, st', h2, hq⟩ := h
        refine ⟨max k k2, st', ?_, hq⟩
        simp only [runOps, Option.bind_eq_some_iff]
        refine ⟨_, ?_, runOps_le (evOpen_mono E (Nat.le_max_right k k2)) _ h2⟩
        unfold stepOp
        rw [if_pos hd, hw]
        simp only [evOp_le (evOpen_mono E (Nat.le_max_left k k2)) h1, Option.map_some]
      | false =>
        obtain ⟨k2, st', h2, hq⟩ := h
        refine ⟨k2, st', ?_, hq⟩
        simp only [runOps, Option.bind_eq_some_iff]
        refine ⟨_, ?_, h2⟩
        unfold stepOp
        rw [if_pos hd, hw]

theorem WOD_nil {E : Env} {fid : Nat} {ops : Array Oper} {D : List Nat} {st : St} {Q : St → Prop} : WOD E fid ops D [] st Q ↔ Q st :=
  ⟨fun ⟨k, st', h, hq⟩ => by simp only [runD, Option.some.injEq] at h; exact h ▸ hq, fun hq => ⟨0, st, rfl, hq⟩⟩
theorem WOD_cons {E : Env} {fid : Nat} {ops : Array Oper} {D : List Nat} {o : Oper} {l : List Oper} {st : St} {Q : St → Prop} :
    WOD E fid ops D (o :: l) st Q ↔ (!readish E fid o || keysFree st D o) = true ∧ dstOk st o = true ∧ guardW (wantedV ops st o) (WV E fid st o fun v h => WOD E fid ops D l (st.put o.dst v h) Q) (WOD E fid ops D l (st.put o.dst .ud st.h) Q) := by
  constructor
  · rintro ⟨k, st', h, hq⟩
    simp only [runD, Option.bind_eq_some_iff] at h
    obtain ⟨s1, h1, h2⟩ := h
    unfold stepD at h1
    split at h1
    case isFalse => cases h1
    rename_i hc
    refine ⟨hc, ?_⟩
    unfold stepOp at h1
    split at h1
    case isFalse => cases h1
    rename_i hd
    refine ⟨hd, ?_⟩
    cases hw : wantedV ops st o with
    | none => rw [hw] at h1; cases h1
    | some b =>
      rw [hw] at h1
      cases b with
      | true =>
        simp only [Option.map_eq_some_iff] at h1
        obtain ⟨p, hp, rfl⟩ := h1
        exact ⟨k, p.1, p.2, hp, k, st', h2, hq⟩
      | false =>
        simp only [Option.some.injEq] at h1
        subst h1
        exact ⟨k, st', h2, hq⟩
  · rintro ⟨hc, hd, h⟩
    cases hw : wantedV ops st o with
    | none => rw [hw] at h; exact h.elim
    | some b =>
      rw [hw] at h
      cases b with
      | true =>
        obtain ⟨k, v, h', h1, h2⟩ := h
        refine WOD_of hc ⟨k, _, ?_, h2⟩
        unfold stepOp
        rw [if_pos hd, hw]
        simp only [h1, Option.map_some]
      | false =>
        refine WOD_of hc ⟨0, _, ?_, h⟩
        unfold stepOp
        rw [if_pos hd, hw]
theorem WOD_of_WO {E : Env} {fid : Nat} {ops : Array Oper} {l : List Oper} {st : St} {Q : St → Prop} (h : WO E fid ops l st Q) : WOD E fid ops [] l st Q := by
  obtain ⟨k, st', h, hq⟩ := h
  refine ⟨k, st', ?_, hq⟩
  clear hq
  induction l generalizing st with
  | nil => exact h
  | cons o l ih =>
    simp only [runOps, runD, Option.bind_eq_some_iff] at h ⊢
    obtain ⟨s1, h1, h2⟩ := h
    refine ⟨s1, ?_, ih h2⟩
    unfold stepD
    rw [if_pos (by simp [keysFree])]
    exact h1
theorem W_drawX {E : Env} {fid : Nat} {id : Nat} {ops : Array Oper} {st : St} {Q : Ex → St → Prop} (hd : (drawOk E fid ops || drawOk2 E fid ops) = true) (h : WOD E fid ops (allocsOf ops) ops.toList st (Q .normal)) : W E fid (.region id ops true) st Q := by
  cases h1 : drawOk E fid ops with
  | true =>
    rw [W_draw h1]
    obtain ⟨k, st', h, hq⟩ := h
    exact ⟨k, st', runD_runOps _ h, hq⟩
  | false =>
    rw [h1, Bool.false_or] at hd
    exact W_draw2 h1 hd h

/-- what an operation that calls no function comes to -/
def evPlain (E : Env) (fid : Nat) (st : St) (o : Oper) : Option (AV × Heap) := evOp E (fun _ _ _ _ => none) fid st o

theorem ext_none {E : Env} {g : Nat} (he : E.ext g = none) (as : List AV) : extV E g as = none := by simp [extV, he]
theorem WF_closed {E : Env} {fid : Nat} {d g : Nat} {args : List AV} {st : St} {K : AV → Heap → Prop} (he : extV E g (lows st.h args) = none) (ho : E.open_ g = false) (hm : E.mat fid d = 0) :
    WF E fid (some d) g args st K ↔ CallsTo E g (lows st.h args) fun r => K (noEx r) st.h := by
  constructor
  · rintro ⟨k, v, h', h, hk⟩
    unfold callFn at h
    simp only [he, ho, Bool.false_eq_true, if_false, Option.bind_eq_some_iff, mat, hm] at h
    obtain ⟨p, hp, h2⟩ := h
    obtain ⟨rfl, rfl⟩ := Prod.mk.inj (Option.some.inj h2)
    exact ⟨_, ⟨k, p.1, p.2, hp, rfl⟩, hk⟩
  · rintro ⟨r, ⟨k, r0, h', h, rfl⟩, hk⟩
    refine ⟨k, _, _, ?_, hk⟩
    unfold callFn
    simp only [he, ho, Bool.false_eq_true, if_false, mat, hm, h, Option.bind_some]

theorem WF_mat {E : Env} {fid : Nat} {d g : Nat} {args : List AV} {st : St} {K : AV → Heap → Prop} (he : extV E g (lows st.h args) = none) (ho : E.open_ g = false) :
    WF E fid (some d) g args st K ↔ CallsTo E g (lows st.h args) fun r => Is (mat E fid st (some d) r) K := by
  constructor
  · rintro ⟨k, v, h', h, hk⟩
    unfold callFn at h
    simp only [he, ho, Bool.false_eq_true, if_false, Option.bind_eq_some_iff] at h
    obtain ⟨p, hp, h2⟩ := h
    exact ⟨_, ⟨k, p.1, p.2, hp, rfl⟩, v, h', h2, hk⟩
  · rintro ⟨r, ⟨k, r0, h', h, rfl⟩, v, h2, hm, hk⟩
    refine ⟨k, v, h2, ?_, hk⟩
    unfold callFn
    simp only [he, ho, Bool.false_eq_true, if_false, h, Option.bind_some, hm]

theorem WF_open {E : Env} {fid : Nat} {dst : Option Nat} {g : Nat} {args : List AV} {st : St} {K : AV → Heap → Prop} (he : E.ext g = none) (ho : E.open_ g = true) :
    WF E fid dst g args st K ↔ OpenTo E g args st.h (st.off + farOff) K := by
  constructor
  · rintro ⟨k, v, h', h, hk⟩
    unfold callFn at h
    simp only [ext_none he, ho, if_true] at h
    exact ⟨k, v, h', h, hk⟩
  · rintro ⟨k, v, h', h, hk⟩
    refine ⟨k, v, h', ?_, hk⟩
    unfold callFn
    simp only [ext_none he, ho, if_true, h]

theorem WF_ext {E : Env} {fid : Nat} {dst : Option Nat} {g : Nat} {args : List AV} {st : St} {K : AV → Heap → Prop} {r : AV} (he : extV E g (lows st.h args) = some r) :
    WF E fid dst g args st K ↔ K r st.h := by
  constructor
  · rintro ⟨k, v, h', h, hk⟩
    unfold callFn at h
    rw [he] at h
    obtain ⟨rfl, rfl⟩ := Prod.mk.inj (Option.some.inj h)
    exact hk
  · intro hk
    refine ⟨0, _, st.h, ?_, hk⟩
    unfold callFn
    rw [he]
theorem WV_is {E : Env} {fid : Nat} {st : St} {o : Oper} {K : AV → Heap → Prop} {x : Option (AV × Heap)} (hx : ∀ call, evOp E call fid st o = x) : WV E fid st o K ↔ Is x K :=
  ⟨fun ⟨k, v, h', h, hk⟩ => ⟨v, h', by rw [← hx]; exact h, hk⟩, fun ⟨v, h', h, hk⟩ => ⟨0, v, h', by rw [hx]; exact h, hk⟩⟩

/-- the value of a plain operation, the memory as it was -/
def IsV (x : Option AV) (h : Heap) (K : AV → Heap → Prop) : Prop := match x with | some v => K v h | none => False
@[simp] theorem isV_some (v : AV) (h : Heap) (K : AV → Heap → Prop) : IsV (some v) h K = K v h := _root_.id rfl
theorem is_map {x : Option AV} {h : Heap} {K : AV → Heap → Prop} : Is (x.map fun y => (y, h)) K ↔ IsV x h K := by
  cases x with
  | none => exact ⟨fun ⟨_, _, e, _⟩ => by simp at e, fun e => e.elim⟩
  | some v => exact ⟨fun ⟨_, _, e, hk⟩ => by simp at e; obtain ⟨rfl, rfl⟩ := e; exact hk, fun hk => ⟨v, h, rfl, hk⟩⟩
theorem is_some {v : AV} {h : Heap} {K : AV → Heap → Prop} : Is (some (v, h)) K ↔ K v h := ⟨fun ⟨_, _, e, hk⟩ => by simp at e; obtain ⟨rfl, rfl⟩ := e; exact hk, fun hk => ⟨v, h, rfl, hk⟩⟩
theorem is_ite {c : Prop} [Decidable c] {x y : Option (AV × Heap)} {K : AV → Heap → Prop} : Is (if c then x else y) K ↔ if c then Is x K else Is y K := by split <;> rfl

section
variable {E : Env} {fid : Nat} {st : St} {K : AV → Heap → Prop} {dst : Option Nat} {ty : Nat} {pos : String} {af : Array Edge} {gd : Option (Nat × Bool)}
theorem WV_move {x : Operand} : WV E fid st ⟨dst, .move x, ty, pos, af, gd⟩ K ↔ K (st.ev x) st.h := (WV_is fun _ => rfl).trans is_some
theorem WV_assign {x : Operand} : WV E fid st ⟨dst, .assign x, ty, pos, af, gd⟩ K ↔ K (st.ev x) st.h := (WV_is fun _ => rfl).trans is_some
theorem WV_pick {c a b : Operand} : WV E fid st ⟨dst, .pick c a b, ty, pos, af, gd⟩ K ↔ IsV (pickV (st.ev c) (st.ev a) (st.ev b)) st.h K := (WV_is fun _ => rfl).trans is_map
theorem WV_alloc {T : Nat} : WV E fid st ⟨dst, .alloc T, ty, pos, af, gd⟩ K ↔ Is (if E.size T = 0 then none else newVarV st.h (st.off + dst.getD 0) T (E.zero T)) K := WV_is fun _ => rfl
theorem WV_box {T : Nat} {x : Operand} : WV E fid st ⟨dst, .box T x, ty, pos, af, gd⟩ K ↔ Is (newVarV st.h (st.off + dst.getD 0) T (st.ev x)) K := WV_is fun _ => rfl
theorem WV_build {t : Nat} {ps : Array (Nat × Operand)} : WV E fid st ⟨dst, .build t ps, ty, pos, af, gd⟩ K ↔ IsV (buildV E t (ps.toList.map fun p => (p.1, st.ev p.2))) st.h K := (WV_is fun _ => rfl).trans is_map
theorem WV_buildSlice {t n : Nat} {ps : Array (Nat × Operand)} : WV E fid st ⟨dst, .buildSlice t n ps, ty, pos, af, gd⟩ K ↔ IsV (buildS E t n (ps.toList.map fun p => (p.1, st.ev p.2))) st.h K := (WV_is fun _ => rfl).trans is_map
theorem WV_load {t : Nat} {a : Operand} : WV E fid st ⟨dst, .load t a, ty, pos, af, gd⟩ K ↔ IsV (loadV E st.h t (st.ev a)) st.h K := (WV_is fun _ => rfl).trans is_map
theorem WV_store {t : Nat} {a x : Operand} : WV E fid st ⟨dst, .store t a x, ty, pos, af, gd⟩ K ↔ Is ((storeV E st.h t (st.ev a) (st.ev x)).map fun h => (.un, h)) K := WV_is fun _ => rfl
theorem WV_binOp {op : BinOp} {t u : Nat} {x y : Operand} : WV E fid st ⟨dst, .binOp op t x y u, ty, pos, af, gd⟩ K ↔ IsV (binO E op t y (st.ev x) (st.ev y)) st.h K := (WV_is fun _ => rfl).trans is_map
theorem WV_unOp {op : UnOp} {t : Nat} {x : Operand} : WV E fid st ⟨dst, .unOp op t x, ty, pos, af, gd⟩ K ↔ IsV (unV op (st.ev x)) st.h K := (WV_is fun _ => rfl).trans is_map
theorem WV_convert {s d : Nat} {x : Operand} : WV E fid st ⟨dst, .convert s d x, ty, pos, af, gd⟩ K ↔ IsV (convV E s d (st.ev x)) st.h K := (WV_is fun _ => rfl).trans is_map
theorem WV_makeFunc {f : Nat} {caps : Array Operand} : WV E fid st ⟨dst, .makeFunc (.func f) #[] caps, ty, pos, af, gd⟩ K ↔ K (.fn f (caps.toList.map st.ev)) st.h := (WV_is fun _ => rfl).trans is_some
theorem WV_makeSlice {t : Nat} {l c : Operand} : WV E fid st ⟨dst, .makeSlice t l c, ty, pos, af, gd⟩ K ↔ Is (makeV E st.h (st.off + dst.getD 0) t (st.ev l) (st.ev c)) K := WV_is fun _ => rfl
theorem WV_slice {t : Nat} {x : Operand} {lo hi mx : Option Operand} : WV E fid st ⟨dst, .slice t x lo hi mx, ty, pos, af, gd⟩ K ↔
    if mx.isSome = true ∧ hi.isSome = false then False else IsV (sliceV E st.h t (st.ev x) (lo.map st.ev) (hi.map st.ev) (mx.map st.ev)) st.h K := by
  refine (WV_is fun _ => rfl).trans (is_ite.trans ?_)
  split
  · exact ⟨fun ⟨_, _, e, _⟩ => by simp at e, fun e => e.elim⟩
  · exact is_map
theorem WV_fieldAddr {s f : Nat} {x : Operand} : WV E fid st ⟨dst, .fieldAddr s x f, ty, pos, af, gd⟩ K ↔ IsV (fieldA E s (st.ev x) f) st.h K := (WV_is fun _ => rfl).trans is_map
theorem WV_field {s f : Nat} {x : Operand} : WV E fid st ⟨dst, .field s x f, ty, pos, af, gd⟩ K ↔ IsV (fieldV E s (st.ev x) f) st.h K := (WV_is fun _ => rfl).trans is_map
theorem WV_indexAddr {t : Nat} {x i : Operand} : WV E fid st ⟨dst, .indexAddr t x i, ty, pos, af, gd⟩ K ↔ IsV (indexA E st.h t (st.ev x) (st.ev i)) st.h K := (WV_is fun _ => rfl).trans is_map
theorem WV_index {t : Nat} {x i : Operand} : WV E fid st ⟨dst, .index t x i, ty, pos, af, gd⟩ K ↔ IsV (indexV E t (st.ev x) (st.ev i)) st.h K := (WV_is fun _ => rfl).trans is_map
theorem WV_extract {x : Operand} {i : Nat} : WV E fid st ⟨dst, .extract x i, ty, pos, af, gd⟩ K ↔ IsV (extractV (st.ev x) i) st.h K := (WV_is fun _ => rfl).trans is_map
theorem WV_len {x : Operand} {t : Nat} : WV E fid st ⟨dst, .call ⟨.builtin .len, #[x], #[t]⟩, ty, pos, af, gd⟩ K ↔ IsV (lenV E t (st.ev x)) st.h K := (WV_is fun _ => rfl).trans is_map
theorem WV_append {x y : Operand} {t : Nat} {d : Nat} (hm : E.mat fid d ≠ 4) : WV E fid st ⟨some d, .call ⟨.builtin .append, #[x, y], #[t, t]⟩, ty, pos, af, gd⟩ K ↔ Is (appendV E st.h (st.off + d) t (st.ev x) (st.ev y)) K :=
  WV_is fun _ => by simp [evOp, evCall, builtinV, appArgs, ownB, hm]
theorem WV_appendR {x y : Operand} {t : Nat} {d : Nat} (hm : E.mat fid d = 4) : WV E fid st ⟨some d, .call ⟨.builtin .append, #[x, y], #[t, t]⟩, ty, pos, af, gd⟩ K ↔ Is (appendR E st.h (st.off + d) t (st.ev x) (st.ev y)) K :=
  WV_is fun _ => by simp [evOp, evCall, appArgsR, ownB, hm]
theorem WV_call {g : Nat} {as : Array Operand} {ts : Array Nat} : WV E fid st ⟨dst, .call ⟨.value (.func g), as, ts⟩, ty, pos, af, gd⟩ K ↔ WF E fid dst g (as.toList.map st.ev) st K := by
  have : ∀ call, evOp E call fid st ⟨dst, .call ⟨.value (.func g), as, ts⟩, ty, pos, af, gd⟩ = callFn E call fid dst g (as.toList.map st.ev) st := fun call => by
    simp only [evOp, evCall, St.ev, List.append_nil]
  constructor
  · rintro ⟨k, v, h', h, hk⟩; exact ⟨k, v, h', by rw [← this]; exact h, hk⟩
  · rintro ⟨k, v, h', h, hk⟩; exact ⟨k, v, h', by rw [this]; exact h, hk⟩
theorem WV_callV {t : Nat} {as : Array Operand} {ts : Array Nat} {g : Nat} {caps : List AV} (hs : st.s t = .fn g caps) : WV E fid st ⟨dst, .call ⟨.value (.tmp t), as, ts⟩, ty, pos, af, gd⟩ K ↔ WF E fid dst g (as.toList.map st.ev ++ caps) st K := by
  have : ∀ call, evOp E call fid st ⟨dst, .call ⟨.value (.tmp t), as, ts⟩, ty, pos, af, gd⟩ = callFn E call fid dst g (as.toList.map st.ev ++ caps) st := fun call => by
    simp only [evOp, evCall, St.ev, hs]
  constructor
  · rintro ⟨k, v, h', h, hk⟩; exact ⟨k, v, h', by rw [← this]; exact h, hk⟩
  · rintro ⟨k, v, h', h, hk⟩; exact ⟨k, v, h', by rw [this]; exact h, hk⟩
end

/-! loops -/
theorem W_loop_step {E : Env} {fid : Nat} {c : Code} {st : St} {Q : Ex → St → Prop} (h : W E fid c st (thenQ (fun s => W E fid (.loop c) s Q) Q)) : W E fid (.loop c) st Q := by
  obtain ⟨k, e, st', h1, hq⟩ := h
  cases e with
  | normal =>
    obtain ⟨k2, e2, s2, h2, hq2⟩ := hq
    refine ⟨max k k2 + 1, e2, s2, ?_, hq2⟩
    rw [evCode, evCode_mono E (Nat.le_max_left k k2) h1]
    exact evCode_mono E (Nat.le_max_right k k2) h2
  | ret => exact ⟨k + 1, _, _, by rw [evCode, h1], hq⟩
  | exit i => exact ⟨k + 1, _, _, by rw [evCode, h1], hq⟩

theorem W.mono {E : Env} {fid : Nat} {c : Code} {st : St} {Q Q' : Ex → St → Prop} (h : W E fid c st Q) (hq : ∀ e s, Q e s → Q' e s) : W E fid c st Q' := by
  obtain ⟨k, e, st', h1, h2⟩ := h
  exact ⟨k, e, st', h1, hq _ _ h2⟩

/-- a loop with a measure -/
theorem W_loop {E : Env} {fid : Nat} {c : Code} {Q : Ex → St → Prop} (J : Nat → St → Prop)
    (hround : ∀ m st, J m st → W E fid c st (thenQ (fun s => ∃ m', m' < m ∧ J m' s) Q)) {m : Nat} {st : St} (h0 : J m st) : W E fid (.loop c) st Q := by
  induction m using Nat.strongRecOn generalizing st with
  | _ m ih =>
    refine W_loop_step ((hround m st h0).mono fun e s hs => ?_)
    cases e with
    | normal => obtain ⟨m', h1, h2⟩ := hs; exact ih m' h1 h2
    | ret => exact hs
    | exit i => exact hs

/-- a counting loop: J i holds at the head with i rounds done, at most n -/
theorem W_for {E : Env} {fid : Nat} {c : Code} {Q : Ex → St → Prop} (n : Nat) (J : Nat → St → Prop)
    (hround : ∀ i st, i ≤ n → J i st → W E fid c st (thenQ (fun s => i < n ∧ J (i + 1) s) Q)) {st : St} {i : Nat} (hi : i ≤ n) (h0 : J i st) : W E fid (.loop c) st Q := by
  refine W_loop (fun m s => ∃ i, i ≤ n ∧ m = n - i ∧ J i s) (fun m s ⟨i, h1, h2, h3⟩ => (hround i s h1 h3).mono fun e s' hs => ?_) ⟨i, hi, rfl, h0⟩
  cases e with
  | normal => exact ⟨n - (i + 1), by have := hs.1; omega, i + 1, by have := hs.1; omega, rfl, hs.2⟩
  | ret => exact hs
  | exit i => exact hs

/-- the result of a body -/
def resW (E : Env) (rs : List ResultVar) (R : AV → Heap → Prop) : Ex → St → Prop
  | .normal, st => match resOf E st rs with | some v => R v st.h | none => False
  | .ret, st => match resOf E st rs with | some v => R v st.h | none => False
  | .exit _, _ => False

theorem openTo_of {E : Env} {f : Nat} {args : List AV} {h : Heap} {off : Nat} {K : AV → Heap → Prop} {F : Func} {c : Code} (hf : E.fn f = some F) (hb : F.body = some c) (hl : args.length ≤ F.ntmps)
    (hw : W E f c ⟨argSlots args, h, off, F.ntmps⟩ (resW E F.results.toList K)) : OpenTo E f args h off K := by
  obtain ⟨k, e, st, h1, h2⟩ := hw
  cases e with
  | exit i => exact h2.elim
  | normal =>
    simp only [resW] at h2
    cases hr : resOf E st F.results.toList with
    | none => rw [hr] at h2; exact h2.elim
    | some v => rw [hr] at h2; exact ⟨k + 1, v, st.h, by rw [evOpen, hf]; simp only [hb, hl, if_true, h1, hr, Option.map_some], h2⟩
  | ret =>
    simp only [resW] at h2
    cases hr : resOf E st F.results.toList with
    | none => rw [hr] at h2; exact h2.elim
    | some v => rw [hr] at h2; exact ⟨k + 1, v, st.h, by rw [evOpen, hf]; simp only [hb, hl, if_true, h1, hr, Option.map_some], h2⟩

theorem evC_of {E : Env} {f : Nat} {args : List AV} {r : AV} {F : Func} {c : Code} (hf : E.fn f = some F) (hb : F.body = some c) (hl : args.length ≤ F.ntmps)
    (hw : W E f c ⟨argSlots args, hnil, 0, F.ntmps⟩ (resW E F.results.toList fun v h => expo h v = r)) : EvC E f args r := by
  obtain ⟨k, v, h', h1, h2⟩ := openTo_of hf hb hl hw
  exact ⟨k, v, h', h1, h2⟩

end Go.Proofs.YthdeaenleimbeaaDoor.Ev
