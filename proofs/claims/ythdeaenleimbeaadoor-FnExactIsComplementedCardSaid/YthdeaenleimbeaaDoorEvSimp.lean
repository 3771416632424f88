/- The simplifier's set for stepping, and small facts of the evaluator's values. Conditions: none. -/
import Derived.Test.YthdeaenleimbeaaDoorEvW
namespace Go.Proofs.YthdeaenleimbeaaDoor.Ev
set_option linter.unusedVariables false
set_option linter.unusedSimpArgs false
set_option linter.unusedSectionVars false

/-- What is yet to be computed. Its removal is a step with a proof of its own: so a congruence counts it as a change. -/
def opq {α : Type} (x : α) : α := x
@[simp] theorem opq_eq {α : Type} (x : α) : opq x = x := _root_.id rfl
/-- What stands under it is not looked into. -/
structure Tg {α : Type} (a : α) : Type where
/-! The heads at which stepping may come to a stand: what goes on behind them is not looked into. -/
def IV (x : Option AV) (h : Heap) (K : AV → Heap → Prop) (tg : Tg (h, K)) : Prop := IsV x h K
def IS (x : Option (AV × Heap)) (K : AV → Heap → Prop) (tg : Tg K) : Prop := Is x K
def CW (E : Env) (f : Nat) (args : List AV) (K : AV → Prop) (tg : Tg K) : Prop := CallsTo E f args K
def CF (E : Env) (fid : Nat) (dst : Option Nat) (g : Nat) (args : List AV) (st : St) (K : AV → Heap → Prop) (tg : Tg (st, K)) : Prop := WF E fid dst g args st K
@[congr] theorem CF_congr {E : Env} {fid g : Nat} {dst : Option Nat} {args args' : List AV} {st : St} {K : AV → Heap → Prop} {tg : Tg (st, K)} (e : args = args') : CF E fid dst g args st K tg = CF E fid dst g args' st K tg := by rw [e]
def GW (g : Option Bool) (A B : Prop) (tg : Tg (A, B)) : Prop := guardW g A B
def CD (v : AV) (A B : Prop) (tg : Tg (A, B)) : Prop := condW v A B
@[congr] theorem IV_congr {x x' : Option AV} {h : Heap} {K : AV → Heap → Prop} {tg : Tg (h, K)} (e : x = x') : IV x h K tg = IV x' h K tg := by rw [e]
@[congr] theorem IS_congr {x x' : Option (AV × Heap)} {K : AV → Heap → Prop} {tg : Tg K} (e : x = x') : IS x K tg = IS x' K tg := by rw [e]
@[congr] theorem CW_congr {E : Env} {f : Nat} {args args' : List AV} {K : AV → Prop} {tg : Tg K} (e : args = args') : CW E f args K tg = CW E f args' K tg := by rw [e]
@[congr] theorem GW_congr {g g' : Option Bool} {A B : Prop} {tg : Tg (A, B)} (e : g = g') : GW g A B tg = GW g' A B tg := by rw [e]
@[congr] theorem CD_congr {g g' : AV} {A B : Prop} {tg : Tg (A, B)} (e : g = g') : CD g A B tg = CD g' A B tg := by rw [e]
@[simp] theorem IV_some {v : AV} {h : Heap} {K : AV → Heap → Prop} {tg : Tg (h, K)} : IV (some v) h K tg = K v h := _root_.id rfl
@[simp] theorem IV_none {h : Heap} {K : AV → Heap → Prop} {tg : Tg (h, K)} : IV none h K tg = False := _root_.id rfl
@[simp] theorem IS_some {v : AV} {h : Heap} {K : AV → Heap → Prop} {tg : Tg K} : IS (some (v, h)) K tg ↔ K v h := is_some
/-! The continuations are not looked into before they are reached. -/
/-- a test that must hold -/
def condD (b : Bool) (A : Prop) : Prop := b = true ∧ A
@[simp ↓] theorem condD_true (A : Prop) : condD true A = A := by simp [condD]
@[congr] theorem condD_congr {b b' : Bool} {A : Prop} (h : b = b') : condD b A = condD b' A := by rw [h]
@[congr] theorem condW_congr {v v' : AV} {A B : Prop} (h : v = v') : condW v A B = condW v' A B := by rw [h]
@[congr] theorem guardW_congr {v v' : Option Bool} {A B : Prop} (h : v = v') : guardW v A B = guardW v' A B := by rw [h]
@[congr] theorem isV_congr {x x' : Option AV} {h : Heap} {K : AV → Heap → Prop} (e : x = x') : IsV x h K = IsV x' h K := by rw [e]
@[congr] theorem is_congr {x x' : Option (AV × Heap)} {K : AV → Heap → Prop} (e : x = x') : Is x K = Is x' K := by rw [e]
@[congr] theorem W_congr {E : Env} {fid : Nat} {c : Code} {st : St} {Q : Ex → St → Prop} : W E fid c st Q = W E fid c st Q := rfl
@[congr] theorem WV_congr {E : Env} {fid : Nat} {o : Oper} {st : St} {K : AV → Heap → Prop} : WV E fid st o K = WV E fid st o K := rfl
@[congr] theorem WF_congr {E : Env} {fid g : Nat} {dst : Option Nat} {args args' : List AV} {st : St} {K : AV → Heap → Prop} (e : args = args') : WF E fid dst g args st K = WF E fid dst g args' st K := by rw [e]
@[congr] theorem callsTo_congr {E : Env} {f : Nat} {args args' : List AV} {K : AV → Prop} (e : args = args') : CallsTo E f args K = CallsTo E f args' K := by rw [e]
@[congr] theorem openTo_congr {E : Env} {f : Nat} {args args' : List AV} {h : Heap} {off : Nat} {K : AV → Heap → Prop} (e : args = args') : OpenTo E f args h off K = OpenTo E f args' h off K := by rw [e]

section
variable {E : Env} {fid : Nat} {K : AV → Heap → Prop} {ty : Nat} {pos : String} {af : Array Edge} {s : Nat → AV} {h : Heap} {off nt : Nat} {ops : Array Oper} {l : List Oper} {op : Op} {Q : St → Prop}
@[simp ↓] theorem WO_op {d : Nat} : WO E fid ops (⟨some d, op, ty, pos, af, none⟩ :: l) ⟨s, h, off, nt⟩ Q ↔
    condD (opq (decide (d < nt) && decide (d < 1000))) (WV E fid ⟨s, h, off, nt⟩ ⟨some d, op, ty, pos, af, none⟩ fun v h => WO E fid ops l ⟨upd s d v, h, off, nt⟩ Q) := by
  rw [WO_cons]; exact Iff.rfl
@[simp ↓] theorem WO_op0 : WO E fid ops (⟨none, op, ty, pos, af, none⟩ :: l) ⟨s, h, off, nt⟩ Q ↔
    (WV E fid ⟨s, h, off, nt⟩ ⟨none, op, ty, pos, af, none⟩ fun v h => WO E fid ops l ⟨s, h, off, nt⟩ Q) := by
  rw [WO_cons]; exact ⟨fun h => h.2, fun h => ⟨rfl, h⟩⟩
/-- a guard's answer -/
def guardV (x : AV) (want : Bool) : Option Bool := match x with | .bool b => some (b == want) | .ud => some false | _ => none
@[simp] theorem guardV_bool (b want : Bool) : guardV (.bool b) want = some (b == want) := _root_.id rfl
@[simp] theorem guardV_ud (want : Bool) : guardV .ud want = some false := _root_.id rfl
def guardAt (ops : Array Oper) (s : Nat → AV) (j : Nat) (want : Bool) : Option Bool := match (ops[j]?).bind Oper.dst with | some d => guardV (s d) want | none => none
theorem wanted_at {j : Nat} {want : Bool} {o : Oper} {st : St} (hg : o.guard = some (j, want)) : wantedV ops st o = guardAt ops st.s j want := by
  unfold wantedV guardAt
  rw [hg]
  dsimp only
  cases ops[j]? with
  | none => rfl
  | some oj =>
    dsimp only [Option.bind_some]
    cases oj.dst with
    | none => rfl
    | some d => dsimp only; cases st.s d <;> rfl
@[simp ↓] theorem WO_gop {d j : Nat} {want : Bool} : WO E fid ops (⟨some d, op, ty, pos, af, some (j, want)⟩ :: l) ⟨s, h, off, nt⟩ Q ↔
    condD (opq (decide (d < nt) && decide (d < 1000))) (GW (opq (guardAt ops s j want)) (WV E fid ⟨s, h, off, nt⟩ ⟨some d, op, ty, pos, af, some (j, want)⟩ fun v h => WO E fid ops l ⟨upd s d v, h, off, nt⟩ Q)
      (WO E fid ops l ⟨upd s d .ud, h, off, nt⟩ Q) ⟨⟩) := by
  rw [WO_cons, wanted_at rfl]; exact Iff.rfl
@[simp ↓] theorem WO_gop0 {j : Nat} {want : Bool} : WO E fid ops (⟨none, op, ty, pos, af, some (j, want)⟩ :: l) ⟨s, h, off, nt⟩ Q ↔
    GW (opq (guardAt ops s j want)) (WV E fid ⟨s, h, off, nt⟩ ⟨none, op, ty, pos, af, some (j, want)⟩ fun v h => WO E fid ops l ⟨s, h, off, nt⟩ Q)
      (WO E fid ops l ⟨s, h, off, nt⟩ Q) ⟨⟩ := by
  rw [WO_cons, wanted_at rfl]; exact ⟨fun h => h.2, fun h => ⟨rfl, h⟩⟩
end
/-- the check of a read beside new variables -/
def chkB (E : Env) (fid : Nat) (D : List Nat) (st : St) (o : Oper) : Bool := !readish E fid o || keysFree st D o
section
variable {E : Env} {fid : Nat} {K : AV → Heap → Prop} {ty : Nat} {pos : String} {af : Array Edge} {s : Nat → AV} {h : Heap} {off nt : Nat} {ops : Array Oper} {D : List Nat} {l : List Oper} {op : Op} {Q : St → Prop}
@[simp ↓] theorem WOD_op {d : Nat} : WOD E fid ops D (⟨some d, op, ty, pos, af, none⟩ :: l) ⟨s, h, off, nt⟩ Q ↔
    condD (opq (chkB E fid D ⟨s, h, off, nt⟩ ⟨some d, op, ty, pos, af, none⟩)) (condD (opq (decide (d < nt) && decide (d < 1000))) (WV E fid ⟨s, h, off, nt⟩ ⟨some d, op, ty, pos, af, none⟩ fun v h => WOD E fid ops D l ⟨upd s d v, h, off, nt⟩ Q)) := by
  rw [WOD_cons]; exact Iff.rfl
@[simp ↓] theorem WOD_op0 : WOD E fid ops D (⟨none, op, ty, pos, af, none⟩ :: l) ⟨s, h, off, nt⟩ Q ↔
    condD (opq (chkB E fid D ⟨s, h, off, nt⟩ ⟨none, op, ty, pos, af, none⟩)) (WV E fid ⟨s, h, off, nt⟩ ⟨none, op, ty, pos, af, none⟩ fun v h => WOD E fid ops D l ⟨s, h, off, nt⟩ Q) := by
  rw [WOD_cons]; exact ⟨fun h => ⟨h.1, h.2.2⟩, fun h => ⟨h.1, rfl, h.2⟩⟩
end
/-- an operand's value -/
def evS (s : Nat → AV) : Operand → AV
  | .tmp t => s t
  | .const v => ofConst v
  | .func f => .fn f []
  | .global _ => .un
theorem evS_eq (s : Nat → AV) (h : Heap) (off nt : Nat) : St.ev ⟨s, h, off, nt⟩ = evS s := by funext x; cases x <;> rfl
theorem ev_evS (s : Nat → AV) (h : Heap) (off nt : Nat) (x : Operand) : St.ev ⟨s, h, off, nt⟩ x = evS s x := by cases x <;> rfl
/-- a loop that waits for its invariant; nothing in it is looked into -/
def WL (E : Env) (fid : Nat) (c : Code) (st : St) (Q : Ex → St → Prop) (t : Tg (c, st, Q)) : Prop := W E fid (.loop c) st Q
@[simp ↓] theorem W_loopS {E : Env} {fid : Nat} {c : Code} {st : St} {Q : Ex → St → Prop} : W E fid (.loop c) st Q ↔ WL E fid c st Q ⟨⟩ := Iff.rfl
/-- a region that draws its order; waits for the proof that the order does not matter -/
def WD (E : Env) (fid id : Nat) (ops : Array Oper) (st : St) (Q : Ex → St → Prop) (t : Tg (ops, st, Q)) : Prop := W E fid (.region id ops true) st Q
@[simp ↓] theorem W_drawS {E : Env} {fid id : Nat} {ops : Array Oper} {st : St} {Q : Ex → St → Prop} : W E fid (.region id ops true) st Q ↔ WD E fid id ops st Q ⟨⟩ := Iff.rfl
theorem draw_intro {E : Env} {fid id : Nat} {ops : Array Oper} {st : St} {Q : Ex → St → Prop} (hd : drawOk E fid ops = true) (h : WO E fid ops ops.toList st (Q .normal)) : WD E fid id ops st Q ⟨⟩ := (W_draw hd).mpr h
attribute [simp ↓] W_skip W_ret W_exit W_seq W_block WO_nil
attribute [simp ↓] is_map is_ite guardW_true guardW_false thenQ_normal thenQ_ret thenQ_exit blockQ_normal blockQ_ret blockQ_exit
attribute [simp] isV_some is_some

/-- two ways on; not looked into before the way is known -/
def Br (b : Bool) (A B : Prop) (t : Tg (A, B)) : Prop := (b = true → A) ∧ (b = false → B)
theorem br_intro {b : Bool} {A B : Prop} {t : Tg (A, B)} (hA : b = true → A) (hB : b = false → B) : Br b A B t := ⟨hA, hB⟩
@[simp ↓] theorem br_true {A B : Prop} {t : Tg (A, B)} : Br true A B t = A := by simp [Br]
@[simp ↓] theorem br_false {A B : Prop} {t : Tg (A, B)} : Br false A B t = B := by simp [Br]
@[simp] theorem br_true' {A B : Prop} {t : Tg (A, B)} : Br true A B t = A := by simp [Br]
@[simp] theorem br_false' {A B : Prop} {t : Tg (A, B)} : Br false A B t = B := by simp [Br]
theorem guardW_both {b : Bool} {A B : Prop} : guardW (some b) A B ↔ Br b A B ⟨⟩ := by cases b <;> simp [Br]
theorem condW_both {b : Bool} {A B : Prop} : condW (.bool b) A B ↔ Br b A B ⟨⟩ := by cases b <;> simp [condW, Br]
@[simp ↓] theorem condW_true {A B : Prop} : condW (.bool true) A B = A := _root_.id rfl
@[simp ↓] theorem condW_false {A B : Prop} : condW (.bool false) A B = B := by simp [condW]
@[simp] theorem condW_true' {A B : Prop} : condW (.bool true) A B = A := _root_.id rfl
@[simp] theorem condW_false' {A B : Prop} : condW (.bool false) A B = B := by simp [condW]
@[simp] theorem guardW_true' {A B : Prop} : guardW (some true) A B = A := _root_.id rfl
@[simp] theorem guardW_false' {A B : Prop} : guardW (some false) A B = B := _root_.id rfl
theorem GW_both {b : Bool} {A B : Prop} {tg : Tg (A, B)} : GW (some b) A B tg ↔ Br b A B ⟨⟩ := guardW_both
theorem CD_both {b : Bool} {A B : Prop} {tg : Tg (A, B)} : CD (.bool b) A B tg ↔ Br b A B ⟨⟩ := condW_both
@[simp] theorem GW_true {A B : Prop} {tg : Tg (A, B)} : GW (some true) A B tg = A := _root_.id rfl
@[simp] theorem GW_false {A B : Prop} {tg : Tg (A, B)} : GW (some false) A B tg = B := _root_.id rfl
@[simp] theorem CD_true {A B : Prop} {tg : Tg (A, B)} : CD (.bool true) A B tg = A := _root_.id rfl
@[simp] theorem CD_false {A B : Prop} {tg : Tg (A, B)} : CD (.bool false) A B tg = B := by simp [CD, condW]
attribute [simp low] GW_both CD_both
section
variable {E : Env} {fid : Nat} {s : Nat → AV} {h : Heap} {off nt : Nat} {K : AV → Heap → Prop} {dst : Option Nat} {ty : Nat} {pos : String} {af : Array Edge} {gd : Option (Nat × Bool)}
@[simp ↓] theorem W_cond' {c : Operand} {a b : Code} {Q : Ex → St → Prop} : W E fid (.cond c a b) ⟨s, h, off, nt⟩ Q ↔ CD (opq (evS s c)) (W E fid a ⟨s, h, off, nt⟩ Q) (W E fid b ⟨s, h, off, nt⟩ Q) ⟨⟩ := by simp only [opq_eq]; rw [W_cond, ev_evS]; exact Iff.rfl
@[simp ↓] theorem WV_move' {x : Operand} : WV E fid ⟨s, h, off, nt⟩ ⟨dst, .move x, ty, pos, af, gd⟩ K ↔ IV (opq (some (evS s x))) h K ⟨⟩ := by simp only [opq_eq]; rw [WV_move, ev_evS]; exact Iff.rfl
@[simp ↓] theorem WV_assign' {x : Operand} : WV E fid ⟨s, h, off, nt⟩ ⟨dst, .assign x, ty, pos, af, gd⟩ K ↔ IV (opq (some (evS s x))) h K ⟨⟩ := by simp only [opq_eq]; rw [WV_assign, ev_evS]; exact Iff.rfl
@[simp ↓] theorem WV_pick' {c a b : Operand} : WV E fid ⟨s, h, off, nt⟩ ⟨dst, .pick c a b, ty, pos, af, gd⟩ K ↔ IV (opq (pickV (evS s c) (evS s a) (evS s b))) h K ⟨⟩ := by simp only [opq_eq]; rw [WV_pick, evS_eq]; exact Iff.rfl
@[simp ↓] theorem WV_alloc' {T : Nat} : WV E fid ⟨s, h, off, nt⟩ ⟨dst, .alloc T, ty, pos, af, gd⟩ K ↔ IS (opq (if E.size T = 0 then none else newVarV h (off + dst.getD 0) T (E.zero T))) K ⟨⟩ := by rw [opq_eq]; exact WV_alloc
@[simp ↓] theorem WV_box' {T : Nat} {x : Operand} : WV E fid ⟨s, h, off, nt⟩ ⟨dst, .box T x, ty, pos, af, gd⟩ K ↔ IS (opq (newVarV h (off + dst.getD 0) T (evS s x))) K ⟨⟩ := by simp only [opq_eq]; rw [WV_box, evS_eq]; exact Iff.rfl
@[simp ↓] theorem WV_build' {t : Nat} {ps : Array (Nat × Operand)} : WV E fid ⟨s, h, off, nt⟩ ⟨dst, .build t ps, ty, pos, af, gd⟩ K ↔ IV (opq (buildV E t (ps.toList.map fun p => (p.1, evS s p.2)))) h K ⟨⟩ := by simp only [opq_eq]; rw [WV_build, evS_eq]; exact Iff.rfl
@[simp ↓] theorem WV_buildSlice' {t n : Nat} {ps : Array (Nat × Operand)} : WV E fid ⟨s, h, off, nt⟩ ⟨dst, .buildSlice t n ps, ty, pos, af, gd⟩ K ↔ IV (opq (buildS E t n (ps.toList.map fun p => (p.1, evS s p.2)))) h K ⟨⟩ := by simp only [opq_eq]; rw [WV_buildSlice, evS_eq]; exact Iff.rfl
@[simp ↓] theorem WV_load' {t : Nat} {a : Operand} : WV E fid ⟨s, h, off, nt⟩ ⟨dst, .load t a, ty, pos, af, gd⟩ K ↔ IV (opq (loadV E h t (evS s a))) h K ⟨⟩ := by simp only [opq_eq]; rw [WV_load, evS_eq]; exact Iff.rfl
@[simp ↓] theorem WV_store' {t : Nat} {a x : Operand} : WV E fid ⟨s, h, off, nt⟩ ⟨dst, .store t a x, ty, pos, af, gd⟩ K ↔ IS (opq ((storeV E h t (evS s a) (evS s x)).map fun h => (.un, h))) K ⟨⟩ := by simp only [opq_eq]; rw [WV_store, evS_eq]; exact Iff.rfl
@[simp ↓] theorem WV_binOp' {op : BinOp} {t u : Nat} {x y : Operand} : WV E fid ⟨s, h, off, nt⟩ ⟨dst, .binOp op t x y u, ty, pos, af, gd⟩ K ↔ IV (opq (binO E op t y (evS s x) (evS s y))) h K ⟨⟩ := by simp only [opq_eq]; rw [WV_binOp, evS_eq]; exact Iff.rfl
@[simp ↓] theorem WV_unOp' {op : UnOp} {t : Nat} {x : Operand} : WV E fid ⟨s, h, off, nt⟩ ⟨dst, .unOp op t x, ty, pos, af, gd⟩ K ↔ IV (opq (unV op (evS s x))) h K ⟨⟩ := by simp only [opq_eq]; rw [WV_unOp, evS_eq]; exact Iff.rfl
@[simp ↓] theorem WV_convert' {a d : Nat} {x : Operand} : WV E fid ⟨s, h, off, nt⟩ ⟨dst, .convert a d x, ty, pos, af, gd⟩ K ↔ IV (opq (convV E a d (evS s x))) h K ⟨⟩ := by simp only [opq_eq]; rw [WV_convert, evS_eq]; exact Iff.rfl
@[simp ↓] theorem WV_makeFunc' {f : Nat} {caps : Array Operand} : WV E fid ⟨s, h, off, nt⟩ ⟨dst, .makeFunc (.func f) #[] caps, ty, pos, af, gd⟩ K ↔ IV (opq (some (.fn f (caps.toList.map (evS s))))) h K ⟨⟩ := by simp only [opq_eq]; rw [WV_makeFunc, evS_eq]; exact Iff.rfl
@[simp ↓] theorem WV_makeSlice' {t : Nat} {l c : Operand} : WV E fid ⟨s, h, off, nt⟩ ⟨dst, .makeSlice t l c, ty, pos, af, gd⟩ K ↔ IS (opq (makeV E h (off + dst.getD 0) t (evS s l) (evS s c))) K ⟨⟩ := by simp only [opq_eq]; rw [WV_makeSlice, evS_eq]; exact Iff.rfl
@[simp ↓] theorem WV_slice' {t : Nat} {x : Operand} {lo hi mx : Option Operand} : WV E fid ⟨s, h, off, nt⟩ ⟨dst, .slice t x lo hi mx, ty, pos, af, gd⟩ K ↔
    IV (opq (if mx.isSome = true ∧ hi.isSome = false then none else sliceV E h t (evS s x) (lo.map (evS s)) (hi.map (evS s)) (mx.map (evS s)))) h K ⟨⟩ := by
  rw [opq_eq]
  rw [WV_slice, evS_eq]; split <;> exact Iff.rfl
@[simp ↓] theorem WV_fieldAddr' {u f : Nat} {x : Operand} : WV E fid ⟨s, h, off, nt⟩ ⟨dst, .fieldAddr u x f, ty, pos, af, gd⟩ K ↔ IV (opq (fieldA E u (evS s x) f)) h K ⟨⟩ := by simp only [opq_eq]; rw [WV_fieldAddr, evS_eq]; exact Iff.rfl
@[simp ↓] theorem WV_field' {u f : Nat} {x : Operand} : WV E fid ⟨s, h, off, nt⟩ ⟨dst, .field u x f, ty, pos, af, gd⟩ K ↔ IV (opq (fieldV E u (evS s x) f)) h K ⟨⟩ := by simp only [opq_eq]; rw [WV_field, evS_eq]; exact Iff.rfl
@[simp ↓] theorem WV_indexAddr' {t : Nat} {x i : Operand} : WV E fid ⟨s, h, off, nt⟩ ⟨dst, .indexAddr t x i, ty, pos, af, gd⟩ K ↔ IV (opq (indexA E h t (evS s x) (evS s i))) h K ⟨⟩ := by simp only [opq_eq]; rw [WV_indexAddr, evS_eq]; exact Iff.rfl
@[simp ↓] theorem WV_index' {t : Nat} {x i : Operand} : WV E fid ⟨s, h, off, nt⟩ ⟨dst, .index t x i, ty, pos, af, gd⟩ K ↔ IV (opq (indexV E t (evS s x) (evS s i))) h K ⟨⟩ := by simp only [opq_eq]; rw [WV_index, evS_eq]; exact Iff.rfl
@[simp ↓] theorem WV_extract' {x : Operand} {i : Nat} : WV E fid ⟨s, h, off, nt⟩ ⟨dst, .extract x i, ty, pos, af, gd⟩ K ↔ IV (opq (extractV (evS s x) i)) h K ⟨⟩ := by simp only [opq_eq]; rw [WV_extract, evS_eq]; exact Iff.rfl
@[simp ↓] theorem WV_len' {x : Operand} {t : Nat} : WV E fid ⟨s, h, off, nt⟩ ⟨dst, .call ⟨.builtin .len, #[x], #[t]⟩, ty, pos, af, gd⟩ K ↔ IV (opq (lenV E t (evS s x))) h K ⟨⟩ := by simp only [opq_eq]; rw [WV_len, evS_eq]; exact Iff.rfl
/-- an append that waits for what is known of its row -/
def WA (E : Env) (h : Heap) (key t : Nat) (x y : AV) (K : AV → Heap → Prop) (tg : Tg (h, K)) : Prop := Is (appendV E h key t x y) K
/-- the same, the row the caller's own -/
def WR (E : Env) (h : Heap) (key t : Nat) (x y : AV) (K : AV → Heap → Prop) (tg : Tg (h, K)) : Prop := Is (appendR E h key t x y) K
/-- which of the two -/
def WX (b : Bool) (A B : Prop) (tg : Tg (A, B)) : Prop := if b = true then A else B
@[congr] theorem WX_congr {b b' : Bool} {A B : Prop} {tg : Tg (A, B)} (e : b = b') : WX b A B tg = WX b' A B tg := by rw [e]
@[simp] theorem WX_true {A B : Prop} {tg : Tg (A, B)} : WX true A B tg = A := _root_.id rfl
@[simp] theorem WX_false {A B : Prop} {tg : Tg (A, B)} : WX false A B tg = B := by simp [WX]
@[simp ↓] theorem WV_append' {x y : Operand} {t : Nat} {d : Nat} : WV E fid ⟨s, h, off, nt⟩ ⟨some d, .call ⟨.builtin .append, #[x, y], #[t, t]⟩, ty, pos, af, gd⟩ K ↔ WX (E.mat fid d == 4) (WR E h (off + d) t (evS s x) (evS s y) K ⟨⟩) (WA E h (off + d) t (evS s x) (evS s y) K ⟨⟩) ⟨⟩ := by
  unfold WX
  by_cases hm : E.mat fid d = 4
  · rw [WV_appendR hm, evS_eq]; simp [hm]; exact Iff.rfl
  · rw [WV_append hm, evS_eq]; simp [hm]; exact Iff.rfl
@[simp ↓] theorem WV_call' {g : Nat} {as : Array Operand} {ts : Array Nat} : WV E fid ⟨s, h, off, nt⟩ ⟨dst, .call ⟨.value (.func g), as, ts⟩, ty, pos, af, gd⟩ K ↔ CF E fid dst g (opq (as.toList.map (evS s))) ⟨s, h, off, nt⟩ K ⟨⟩ := by simp only [opq_eq]; rw [WV_call, evS_eq]; exact Iff.rfl
/-- a call of a function value -/
def CV (E : Env) (fid : Nat) (dst : Option Nat) (f : AV) (args : List AV) (st : St) (K : AV → Heap → Prop) (tg : Tg (st, K)) : Prop := match f with | .fn g caps => WF E fid dst g (args ++ caps) st K | _ => False
@[congr] theorem CV_congr {E : Env} {fid : Nat} {dst : Option Nat} {f f' : AV} {args args' : List AV} {st : St} {K : AV → Heap → Prop} {tg : Tg (st, K)} (e1 : f = f') (e : args = args') : CV E fid dst f args st K tg = CV E fid dst f' args' st K tg := by rw [e, e1]
@[simp] theorem CV_fn {E : Env} {fid g : Nat} {dst : Option Nat} {args caps : List AV} {st : St} {K : AV → Heap → Prop} {tg : Tg (st, K)} : CV E fid dst (.fn g caps) args st K tg ↔ CF E fid dst g (opq (args ++ caps)) st K ⟨⟩ := Iff.rfl
@[simp ↓] theorem WV_callV' {t : Nat} {as : Array Operand} {ts : Array Nat} : WV E fid ⟨s, h, off, nt⟩ ⟨dst, .call ⟨.value (.tmp t), as, ts⟩, ty, pos, af, gd⟩ K ↔ CV E fid dst (opq (s t)) (opq (as.toList.map (evS s))) ⟨s, h, off, nt⟩ K ⟨⟩ := by
  simp only [opq_eq]
  have e : ∀ call, evOp E call fid ⟨s, h, off, nt⟩ ⟨dst, .call ⟨.value (.tmp t), as, ts⟩, ty, pos, af, gd⟩ = match s t with | .fn g caps => callFn E call fid dst g (as.toList.map (evS s) ++ caps) ⟨s, h, off, nt⟩ | _ => none := fun call => by
    simp only [evOp, evCall, St.ev, evS_eq]
    cases s t <;> rfl
  unfold CV
  constructor
  · rintro ⟨k, v, h', h1, hk⟩
    rw [e] at h1
    cases hs : s t <;> rw [hs] at h1 <;> first | (cases h1; done) | exact ⟨k, v, h', h1, hk⟩
  · intro h1
    cases hs : s t <;> rw [hs] at h1 <;> first | exact h1.elim | skip
    obtain ⟨k, v, h', h1, hk⟩ := h1
    exact ⟨k, v, h', by rw [e, hs]; exact h1, hk⟩
@[simp ↓] theorem binO_tmp (E : Env) (op : BinOp) (t n : Nat) (vx vy : AV) : binO E op t (.tmp n) vx vy = binT E op t vx vy := by simp [binO, isNilC]
@[simp ↓] theorem binO_int (E : Env) (op : BinOp) (t : Nat) (k : IntKind) (n : Int) (vx vy : AV) : binO E op t (.const (.int k n)) vx vy = binT E op t vx vy := by simp [binO, isNilC]
@[simp ↓] theorem binO_bool (E : Env) (op : BinOp) (t : Nat) (b : Bool) (vx vy : AV) : binO E op t (.const (.bool b)) vx vy = binT E op t vx vy := by simp [binO, isNilC]
@[simp ↓] theorem binO_str (E : Env) (op : BinOp) (t : Nat) (b : ByteArray) (vx vy : AV) : binO E op t (.const (.string b)) vx vy = binT E op t vx vy := by simp [binO, isNilC]
@[simp ↓] theorem binO_nil (E : Env) (op : BinOp) (t : Nat) (vx vy : AV) : binO E op t (.const (.slice none 0 0)) vx vy = nilC E op t vx := by simp [binO, isNilC]
/-- a closed call whose result comes by value -/
def closedB (E : Env) (fid d g : Nat) : Bool := (E.ext g).isNone && !E.open_ g && E.mat fid d == 0
theorem WF_closedB {d g : Nat} {args : List AV} (he : closedB E fid d g = true) :
    CF E fid (some d) g args ⟨s, h, off, nt⟩ K ⟨⟩ ↔ CW E g (opq (lows h args)) (fun r => IV (opq (some (noEx r))) h K ⟨⟩) ⟨⟩ := by
  simp only [closedB, Bool.and_eq_true, Bool.not_eq_true', beq_iff_eq, Option.isNone_iff_eq_none] at he
  exact WF_closed (ext_none he.1.1 _) he.1.2 he.2
attribute [simp] WF_closedB closedB
end
@[simp ↓] theorem evS_tmp (s : Nat → AV) (t : Nat) : evS s (.tmp t) = s t := _root_.id rfl
@[simp ↓] theorem evS_const (s : Nat → AV) (v : Value) : evS s (.const v) = ofConst v := _root_.id rfl
@[simp ↓] theorem evS_func (s : Nat → AV) (f : Nat) : evS s (.func f) = .fn f [] := _root_.id rfl
def dstAt : List Oper → Nat → Option Nat
  | [], _ => none
  | o :: l, 0 => o.dst
  | o :: l, j + 1 => dstAt l j
theorem dstAt_eq (l : List Oper) (j : Nat) : dstAt l j = (l[j]?).bind Oper.dst := by
  induction l generalizing j with
  | nil => simp [dstAt]
  | cons o l ih => cases j <;> simp [dstAt, ih]
theorem guardAt_eq (ops : Array Oper) (s : Nat → AV) (j : Nat) (want : Bool) : guardAt ops s j want = match dstAt ops.toList j with | some d => guardV (s d) want | none => none := by
  rw [dstAt_eq, Array.getElem?_toList]; rfl
@[simp ↓] theorem dstAt_zero (d : Option Nat) (op : Op) (ty : Nat) (pos : String) (af : Array Edge) (gd : Option (Nat × Bool)) (l : List Oper) : dstAt (⟨d, op, ty, pos, af, gd⟩ :: l) 0 = d := _root_.id rfl
@[simp ↓] theorem dstAt_succ (o : Oper) (l : List Oper) (j : Nat) : dstAt (o :: l) (j + 1) = dstAt l j := _root_.id rfl
/-- a guard's answer, at a slot -/
def guardO (d : Option Nat) (s : Nat → AV) (want : Bool) : Option Bool := match d with | some d => guardV (s d) want | none => none
@[simp ↓] theorem guardO_some (d : Nat) (s : Nat → AV) (want : Bool) : guardO (some d) s want = guardV (s d) want := _root_.id rfl
@[simp ↓] theorem guardAt_list (l : List Oper) (s : Nat → AV) (j : Nat) (want : Bool) : guardAt l.toArray s j want = guardO (dstAt l j) s want := by
  rw [guardAt_eq]; rfl
@[simp ↓] theorem W_region' {E : Env} {fid id : Nat} {l : List Oper} {st : St} {Q : Ex → St → Prop} : W E fid (.region id l.toArray false) st Q ↔ WO E fid l.toArray l st (Q .normal) := by
  rw [W_region]
theorem draw_list {E : Env} {fid id : Nat} {l : List Oper} {st : St} {Q : Ex → St → Prop} (hd : drawOk E fid l.toArray = true) (h : WO E fid l.toArray l st (Q .normal)) : WD E fid id l.toArray st Q ⟨⟩ := draw_intro hd h
theorem draw_listA {E : Env} {fid id : Nat} {l : List Oper} {st : St} {Q : Ex → St → Prop} (ha : allocsOf l.toArray = []) (hd : (drawOk E fid l.toArray || drawOk2 E fid l.toArray) = true) (h : WO E fid l.toArray l st (Q .normal)) : WD E fid id l.toArray st Q ⟨⟩ := by
  refine W_drawX hd ?_
  rw [ha]
  exact WOD_of_WO h
theorem draw_listB {E : Env} {fid id : Nat} {l : List Oper} {D : List Nat} {st : St} {Q : Ex → St → Prop} (ha : allocsOf l.toArray = D) (hd : (drawOk E fid l.toArray || drawOk2 E fid l.toArray) = true) (h : WOD E fid l.toArray D l st (Q .normal)) : WD E fid id l.toArray st Q ⟨⟩ := by
  subst ha
  exact W_drawX hd h
theorem draw_listC {E : Env} {fid id : Nat} {l : List Oper} {st : St} {Q : Ex → St → Prop} (D : List Nat) (ha : freshs E fid l.toArray = D) (hd : (drawOk E fid l.toArray || drawOk2 E fid l.toArray) = false) (hd3 : drawOk3 E fid l.toArray = true) (h : WOD E fid l.toArray D l st (Q .normal)) : WD E fid id l.toArray st Q ⟨⟩ := by
  subst ha
  simp only [Bool.or_eq_false_iff] at hd
  exact W_draw3 hd.1 hd.2 hd3 h
attribute [simp ↓] WOD_nil
@[simp] theorem eff_pr : (Eff.pure == Eff.read) = false := _root_.id rfl
@[simp] theorem eff_wr : (Eff.write == Eff.read) = false := _root_.id rfl
@[simp] theorem eff_rr : (Eff.read == Eff.read) = true := _root_.id rfl
attribute [simp] chkB readish freshCall keysFree effOf byVal hasKey hasKeys Op.operands Call.operands
theorem st_ev (s : Nat → AV) (h : Heap) (off nt : Nat) (x : Operand) : St.ev ⟨s, h, off, nt⟩ x = evS s x := ev_evS s h off nt x
attribute [simp] st_ev

@[simp] theorem is_none {K : AV → Heap → Prop} : Is none K ↔ False := ⟨fun ⟨_, _, e, _⟩ => (by cases e), False.elim⟩
@[simp] theorem isV_none {h : Heap} {K : AV → Heap → Prop} : IsV none h K ↔ False := Iff.rfl
@[simp ↓] theorem st_h (s : Nat → AV) (h : Heap) (off nt : Nat) : St.h ⟨s, h, off, nt⟩ = h := _root_.id rfl
@[simp ↓] theorem st_s (s : Nat → AV) (h : Heap) (off nt : Nat) : St.s ⟨s, h, off, nt⟩ = s := _root_.id rfl
@[simp ↓] theorem st_off (s : Nat → AV) (h : Heap) (off nt : Nat) : St.off ⟨s, h, off, nt⟩ = off := _root_.id rfl
@[simp] theorem ofConst_int (k : IntKind) (n : Int) : ofConst (.int k n) = .int k n := _root_.id rfl
@[simp] theorem ofConst_bool (b : Bool) : ofConst (.bool b) = .bool b := _root_.id rfl
@[simp] theorem ofConst_str (s : ByteArray) : ofConst (.string s) = .str s := _root_.id rfl
@[simp] theorem ofConst_nil : ofConst (.slice none 0 0) = .sl 0 .lit [] := _root_.id rfl
@[simp] theorem ofConst_nilFunc : ofConst .nilFunc = .nilf := _root_.id rfl
@[simp ↓] theorem upd_apply (s : Nat → AV) (d : Nat) (v : AV) (t : Nat) : upd s d v t = if t = d then v else s t := _root_.id rfl
@[simp ↓] theorem hset_apply (h : Heap) (d : Nat) (v : Blk) (t : Nat) : hset h d v t = if t = d then some v else h t := _root_.id rfl
@[simp] theorem hnil_apply (t : Nat) : hnil t = none := _root_.id rfl
@[simp ↓] theorem argSlots_apply (args : List AV) (t : Nat) : argSlots args t = args.getD t .un := _root_.id rfl
@[simp] theorem low_int (h : Heap) (k : IntKind) (n : Int) : low h (.int k n) = .int k n := by simp [low]
@[simp] theorem low_bool (h : Heap) (b : Bool) : low h (.bool b) = .bool b := by simp [low]
@[simp] theorem low_str (h : Heap) (b : ByteArray) : low h (.str b) = .str b := by simp [low]
@[simp] theorem low_agg (h : Heap) (cs : List AV) : low h (.agg cs) = .agg (lows h cs) := by simp [low]
@[simp] theorem low_fn (h : Heap) (f : Nat) (cs : List AV) : low h (.fn f cs) = .fn f (lows h cs) := by simp [low]
@[simp] theorem low_no (h : Heap) (k : Nat) (es : List AV) : low h (.sl k .no es) = .sl k .no es := by simp [low]
@[simp] theorem low_lit (h : Heap) (k : Nat) (es : List AV) : low h (.sl k .lit es) = .sl k .lit es := by simp [low]
@[simp] theorem low_brw (h : Heap) (k : Nat) (es : List AV) : low h (.sl k .brw es) = .sl k .brw es := by simp [low]
@[simp] theorem low_tok (h : Heap) (k key g : Nat) (es : List AV) : low h (.sl k (.tok key g) es) = .sl k .no es := by simp [low]
@[simp] theorem low_ex (h : Heap) (k key g : Nat) (es : List AV) : low h (.sl k (.ex key g) es) = .sl k .no es := by simp [low]
@[simp] theorem low_cp (h : Heap) (b : Bool) (cs : List AV) (off : Nat) : low h (.cp b cs off) = .cp b cs off := by simp [low]
@[simp] theorem low_vp (h : Heap) (key g off : Nat) : low h (.vp key g off) = match h key with | some (.var g' _ v) => if g = g' then .cp true (low0s v.cells) off else .un | _ => .un := by
  rw [low]
  cases h key with
  | none => rfl
  | some b => cases b <;> rfl
@[simp] theorem lows_append (h : Heap) : ∀ (a b : List AV), lows h (a ++ b) = lows h a ++ lows h b
  | [], b => by simp [lows]
  | x :: a, b => by simp [lows, lows_append h a b]
@[simp] theorem low0_cp (b : Bool) (cs : List AV) (off : Nat) : low0 (.cp b cs off) = .cp b cs off := by simp [low0]
@[simp] theorem low0_fn (f : Nat) (cs : List AV) : low0 (.fn f cs) = .fn f (low0s cs) := by simp [low0]
@[simp] theorem low_ud (h : Heap) : low h .ud = .ud := by simp [low]
@[simp] theorem low_nilf (h : Heap) : low h .nilf = .nilf := by simp [low]
@[simp] theorem lows_nil (h : Heap) : lows h [] = [] := by simp [lows]
@[simp] theorem lows_cons (h : Heap) (v : AV) (vs : List AV) : lows h (v :: vs) = low h v :: lows h vs := by simp [lows]
@[simp] theorem noEx_int (k : IntKind) (n : Int) : noEx (.int k n) = .int k n := by simp [noEx]
@[simp] theorem noEx_bool (b : Bool) : noEx (.bool b) = .bool b := by simp [noEx]
@[simp] theorem noEx_str (b : ByteArray) : noEx (.str b) = .str b := by simp [noEx]
@[simp] theorem noEx_agg (cs : List AV) : noEx (.agg cs) = .agg (noExs cs) := by simp [noEx]
@[simp] theorem noEx_tup (cs : List AV) : noEx (.tup cs) = .tup (noExs cs) := by simp [noEx]
@[simp] theorem noExs_nil : noExs [] = [] := by simp [noExs]
@[simp] theorem noExs_cons (v : AV) (vs : List AV) : noExs (v :: vs) = noEx v :: noExs vs := by simp [noExs]
@[simp] theorem expo_int (h : Heap) (k : IntKind) (n : Int) : expo h (.int k n) = .int k n := by simp [expo]
@[simp] theorem expo_bool (h : Heap) (b : Bool) : expo h (.bool b) = .bool b := by simp [expo]
@[simp] theorem expo_str (h : Heap) (b : ByteArray) : expo h (.str b) = .str b := by simp [expo]
@[simp] theorem expo_agg (h : Heap) (cs : List AV) : expo h (.agg cs) = .agg (expos h cs) := by simp [expo]
@[simp] theorem expo_tup (h : Heap) (cs : List AV) : expo h (.tup cs) = .tup (expos h cs) := by simp [expo]
@[simp] theorem expos_nil (h : Heap) : expos h [] = [] := by simp [expos]
@[simp] theorem expos_cons (h : Heap) (v : AV) (vs : List AV) : expos h (v :: vs) = expo h v :: expos h vs := by simp [expos]
@[simp] theorem expo_no (h : Heap) (k : Nat) (es : List AV) : expo h (.sl k .no es) = .sl k .no es := by simp [expo]
@[simp] theorem expo_lit (h : Heap) (k : Nat) (es : List AV) : expo h (.sl k .lit es) = .sl k .lit es := by simp [expo]
@[simp] theorem noEx_no (k : Nat) (es : List AV) : noEx (.sl k .no es) = .sl k .no es := by simp [noEx]
@[simp] theorem noEx_lit (k : Nat) (es : List AV) : noEx (.sl k .lit es) = .sl k .lit es := by simp [noEx]
@[simp] theorem noEx_ex (k T key : Nat) (es : List AV) : noEx (.sl k (.ex T key) es) = .sl k .no es := by simp [noEx]
@[simp] theorem stab_int (k : IntKind) (n : Int) : stab (.int k n) = true := by simp [stab]
@[simp] theorem stab_bool (n : Bool) : stab (.bool n) = true := by simp [stab]
@[simp] theorem stab_str (n : ByteArray) : stab (.str n) = true := by simp [stab]
@[simp] theorem stab_no (k : Nat) (es : List AV) : stab (.sl k .no es) = true := by simp [stab]
@[simp] theorem stab_lit (k : Nat) (es : List AV) : stab (.sl k .lit es) = true := by simp [stab]
@[simp] theorem stab_agg (cs : List AV) : stab (.agg cs) = stabs cs := by simp [stab]
@[simp] theorem stabs_nil : stabs [] = true := by simp [stabs]
@[simp] theorem stabs_cons (v : AV) (vs : List AV) : stabs (v :: vs) = (stab v && stabs vs) := by simp [stabs]
@[simp] theorem low0_int (k : IntKind) (n : Int) : low0 (.int k n) = .int k n := by simp [low0]
@[simp] theorem low0_bool (n : Bool) : low0 (.bool n) = .bool n := by simp [low0]
@[simp] theorem low0_str (n : ByteArray) : low0 (.str n) = .str n := by simp [low0]
@[simp] theorem low0_no (k : Nat) (es : List AV) : low0 (.sl k .no es) = .sl k .no es := by simp [low0]
@[simp] theorem low0_lit (k : Nat) (es : List AV) : low0 (.sl k .lit es) = .sl k .lit es := by simp [low0]
@[simp] theorem low0_tok (k key g : Nat) (es : List AV) : low0 (.sl k (.tok key g) es) = .sl k .no es := by simp [low0]
@[simp] theorem low0_agg (cs : List AV) : low0 (.agg cs) = .agg (low0s cs) := by simp [low0]
@[simp] theorem low0s_nil : low0s [] = [] := by simp [low0s]
@[simp] theorem low0s_cons (v : AV) (vs : List AV) : low0s (v :: vs) = low0 v :: low0s vs := by simp [low0s]
@[simp] theorem cells_int (k : IntKind) (n : Int) : (AV.int k n).cells = [.int k n] := _root_.id rfl
@[simp] theorem cells_bool (b : Bool) : (AV.bool b).cells = [.bool b] := _root_.id rfl
@[simp] theorem cells_str (b : ByteArray) : (AV.str b).cells = [.str b] := _root_.id rfl
@[simp] theorem cells_agg (cs : List AV) : (AV.agg cs).cells = cs := _root_.id rfl
@[simp] theorem cells_sl (k : Nat) (o : Own) (es : List AV) : (AV.sl k o es).cells = [.sl k o es] := _root_.id rfl
@[simp] theorem cells_fn (k : Nat) (es : List AV) : (AV.fn k es).cells = [.fn k es] := _root_.id rfl
@[simp] theorem cells_ms (a b c d : Nat) : (AV.ms a b c d).cells = [.ms a b c d] := _root_.id rfl
@[simp] theorem one_int (k : IntKind) (n : Int) : (AV.int k n).one = true := _root_.id rfl
@[simp] theorem one_bool (b : Bool) : (AV.bool b).one = true := _root_.id rfl
@[simp] theorem one_str (b : ByteArray) : (AV.str b).one = true := _root_.id rfl
@[simp] theorem one_sl (k : Nat) (o : Own) (es : List AV) : (AV.sl k o es).one = true := _root_.id rfl
@[simp] theorem one_ms (a b c d : Nat) : (AV.ms a b c d).one = true := _root_.id rfl
attribute [simp] storeV fieldA indexV boundV buildV fillV buildS unV convV fieldV extractV pickV newVarV partOf TD.agg? resW resOf resVal resVals nextG Blk.g
/-- a slice's type; its elements' type -/
def slT (E : Env) (t : Nat) : Bool := match E.ty t with | .sl _ => true | _ => false
def elT (E : Env) (t : Nat) : Nat := match E.ty t with | .sl e => e | _ => 0
theorem slT_ty {E : Env} {t : Nat} (h : slT E t = true) : E.ty t = .sl (elT E t) := by
  unfold slT at h; unfold elT; split at h <;> first | (rename_i e; rw [e]) | cases h
attribute [simp] slT elT
section
variable (E : Env) (h : Heap) (t : Nat)
@[simp] theorem load_vp (key g off : Nat) : loadV E h t (.vp key g off) = match h key with | some (.var g' _ v) => if g = g' then partOf E t v.cells off else none | _ => none := _root_.id rfl
@[simp] theorem load_rp (key g i off : Nat) : loadV E h t (.rp key g i off) = match h key with | some (.row g' _ _ es) => if g = g' then (es[i]?).bind fun e => partOf E t e.cells off else none | _ => none := _root_.id rfl
@[simp] theorem load_cp (b : Bool) (cs : List AV) (off : Nat) : loadV E h t (.cp b cs off) = partOf E t cs off := _root_.id rfl
@[simp] theorem len_sl {k : Nat} {o : Own} {es : List AV} (ht : slT E t = true) : lenV E t (.sl k o es) = some (.int .i64 es.length) := by simp only [lenV, slT_ty ht]
@[simp] theorem len_ms {key g off len : Nat} (ht : slT E t = true) : lenV E t (.ms key g off len) = some (.int .i64 len) := by simp only [lenV, slT_ty ht]
@[simp] theorem len_str {s : ByteArray} (ht : E.ty t = .str) : lenV E t (.str s) = some (.int .i64 s.size) := by simp only [lenV, ht]
theorem index_ms {key g off len g' T k : Nat} {es : List AV} {kd : IntKind} {n : Int} (ht : slT E t = true) (hs : E.size (elT E t) ≠ 0) (h0 : 0 ≤ n) (h1 : n < len) (hk : h key = some (.row g' T k es)) (hg : g = g') (hk2 : k = E.size (elT E t)) :
    indexA E h t (.ms key g off len) (.int kd n) = some (.rp key g (off + n.toNat) 0) := by
  simp only [indexA, h0, if_true, slT_ty ht, hs, if_false, hk]
  rw [if_pos ⟨hg, hk2, h1⟩]
/-- a row that may be indexed -/
def rowOk (E : Env) (h : Heap) (t key g : Nat) : Bool := match h key with | some (.row g' _ k _) => decide (g = g') && decide (k = E.size (elT E t)) | _ => false
@[simp] theorem index_ms' {key g off len : Nat} {kd : IntKind} {n : Int} (ht : slT E t = true) (hs : E.size (elT E t) ≠ 0) (h0 : 0 ≤ n) (h1 : n < len) (hk : rowOk E h t key g = true) :
    indexA E h t (.ms key g off len) (.int kd n) = some (.rp key g (off + n.toNat) 0) := by
  unfold rowOk at hk
  split at hk
  · rename_i he
    simp only [Bool.and_eq_true, decide_eq_true_eq] at hk
    exact index_ms E h t ht hs h0 h1 he hk.1 hk.2
  · cases hk
@[simp] theorem rowOk_eq (key g : Nat) : rowOk E h t key g = match h key with | some (.row g' _ k _) => decide (g = g') && decide (k = E.size (elT E t)) | _ => false := _root_.id rfl
@[simp] theorem make_sl {key : Nat} {n : Int} (ht : slT E t = true) (h0 : 0 ≤ n) (h1 : n ≤ 1073741824) (hs : 0 < E.size (elT E t)) (hs2 : E.size (elT E t) < 4096) :
    makeV E h key t (.int .i64 n) (.int .i64 n) = some (.ms key (nextG h key) 0 n.toNat, hset h key (.row (nextG h key) (elT E t) (E.size (elT E t)) (List.replicate n.toNat (E.zero (elT E t))))) := by
  simp only [makeV, slT_ty ht]
  rw [if_pos ⟨h0, trivial, h1, hs, hs2⟩]
end

@[simp] theorem hset_hset (h : Heap) (k : Nat) (a b : Blk) : hset (hset h k a) k b = hset h k b := by
  funext x; simp only [hset]; split <;> rfl
theorem put_one {old x : AV} (ho : old.one = true) (hx : x.one = true) : putCells old 0 x = some x := by
  have hc : x.cells.all AV.one = true := by cases x <;> simp_all [AV.one, AV.cells]
  unfold putCells
  rw [if_pos hc]
  cases old <;> first | (simp [AV.one] at ho; done) | (simp only [ho, hx, and_self, if_true])
@[simp] theorem put_int (k : IntKind) (n : Int) (x : AV) (hx : x.one = true) : putCells (.int k n) 0 x = some x := put_one rfl hx
@[simp] theorem put_bool (n : Bool) (x : AV) (hx : x.one = true) : putCells (.bool n) 0 x = some x := put_one rfl hx
@[simp] theorem put_str (n : ByteArray) (x : AV) (hx : x.one = true) : putCells (.str n) 0 x = some x := put_one rfl hx
@[simp] theorem put_sl (k : Nat) (o : Own) (es : List AV) (x : AV) (hx : x.one = true) : putCells (.sl k o es) 0 x = some x := put_one rfl hx
@[simp] theorem put_agg (cs : List AV) (off : Nat) (x : AV) (hx : x.cells.all AV.one = true) (hl : off + x.cells.length ≤ cs.length) :
    putCells (.agg cs) off x = some (.agg (cs.take off ++ x.cells ++ cs.drop (off + x.cells.length))) := by
  unfold putCells
  rw [if_pos hx]
  exact if_pos hl

/-! operations on numbers -/
@[simp] theorem bin_add (k : IntKind) (a b : Int) : binV .add (.int k a) (.int k b) = some (.int k (k.wrap (a + b))) := by simp [binV, intBin]
@[simp] theorem bin_sub (k : IntKind) (a b : Int) : binV .sub (.int k a) (.int k b) = some (.int k (k.wrap (a - b))) := by simp [binV, intBin]
@[simp] theorem bin_mul (k : IntKind) (a b : Int) : binV .mul (.int k a) (.int k b) = some (.int k (k.wrap (a * b))) := by simp [binV, intBin]
@[simp] theorem bin_quo (k : IntKind) (a b : Int) (h : b ≠ 0) : binV .quo (.int k a) (.int k b) = some (.int k (k.wrap (a.tdiv b))) := by simp [binV, intBin, h]
@[simp] theorem bin_rem (k : IntKind) (a b : Int) (h : b ≠ 0) : binV .rem (.int k a) (.int k b) = some (.int k (a.tmod b)) := by simp [binV, intBin, h]
@[simp] theorem bin_and (k : IntKind) (a b : Int) : binV .and (.int k a) (.int k b) = some (.int k (Go.bits .and k a b)) := by simp [binV, intBin]
@[simp] theorem bin_or (k : IntKind) (a b : Int) : binV .or (.int k a) (.int k b) = some (.int k (Go.bits .or k a b)) := by simp [binV, intBin]
@[simp] theorem bin_xor (k : IntKind) (a b : Int) : binV .xor (.int k a) (.int k b) = some (.int k (Go.bits .xor k a b)) := by simp [binV, intBin]
@[simp] theorem bin_andNot (k : IntKind) (a b : Int) : binV .andNot (.int k a) (.int k b) = some (.int k (Go.bits .andNot k a b)) := by simp [binV, intBin]
@[simp] theorem bin_eql (k : IntKind) (a b : Int) : binV .eql (.int k a) (.int k b) = some (.bool (decide (a = b))) := by simp [binV, intBin]; rw [Bool.eq_iff_iff]; simp
@[simp] theorem bin_neq (k : IntKind) (a b : Int) : binV .neq (.int k a) (.int k b) = some (.bool (!decide (a = b))) := by simp [binV, intBin, bne]; rw [Bool.eq_iff_iff]; simp
@[simp] theorem bin_lss (k : IntKind) (a b : Int) : binV .lss (.int k a) (.int k b) = some (.bool (decide (a < b))) := by simp [binV, intBin]
@[simp] theorem bin_leq (k : IntKind) (a b : Int) : binV .leq (.int k a) (.int k b) = some (.bool (decide (a ≤ b))) := by simp [binV, intBin]
@[simp] theorem bin_gtr (k : IntKind) (a b : Int) : binV .gtr (.int k a) (.int k b) = some (.bool (decide (b < a))) := by simp [binV, intBin]
@[simp] theorem bin_geq (k : IntKind) (a b : Int) : binV .geq (.int k a) (.int k b) = some (.bool (decide (b ≤ a))) := by simp [binV, intBin]
theorem bin_shl (k k' : IntKind) (a b : Int) (h : 0 ≤ b) : binV .shl (.int k a) (.int k' b) = some (.int k (k.wrap (a * 2 ^ min b.toNat k.bits))) := by
  simp only [binV]; rw [if_neg (by omega)]
theorem bin_shr (k k' : IntKind) (a b : Int) (h : 0 ≤ b) : binV .shr (.int k a) (.int k' b) = some (.int k (a.fdiv (2 ^ min b.toNat k.bits))) := by
  simp only [binV]; rw [if_neg (by omega)]
@[simp] theorem binT_int (E : Env) (op : BinOp) (t : Nat) (k k' : IntKind) (a b : Int) : binT E op t (.int k a) (.int k' b) = binV op (.int k a) (.int k' b) := _root_.id rfl
@[simp] theorem binT_str (E : Env) (op : BinOp) (t : Nat) (a b : ByteArray) : binT E op t (.str a) (.str b) = binV op (.str a) (.str b) := _root_.id rfl
@[simp] theorem bin_beql (E : Env) (t : Nat) (a b : Bool) (h : E.ty t = .bool) : binT E .eql t (.bool a) (.bool b) = some (.bool (a == b)) := by simp [binT, h]
@[simp] theorem bin_bneq (E : Env) (t : Nat) (a b : Bool) (h : E.ty t = .bool) : binT E .neq t (.bool a) (.bool b) = some (.bool (!(a == b))) := by simp [binT, h]
@[simp] theorem bin_seql (a b : ByteArray) : binV .eql (.str a) (.str b) = some (.bool (a.toList == b.toList)) := by simp [binV]
@[simp] theorem bin_sneq (a b : ByteArray) : binV .neq (.str a) (.str b) = some (.bool (!(a.toList == b.toList))) := by simp [binV]

end Go.Proofs.YthdeaenleimbeaaDoor.Ev
