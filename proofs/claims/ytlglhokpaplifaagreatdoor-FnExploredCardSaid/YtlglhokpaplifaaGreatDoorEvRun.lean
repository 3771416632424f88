/- The evaluator of whole bodies, with fuel; more fuel tells the same. Conditions: none. -/
import Derived.Test.YtlglhokpaplifaaGreatDoorEvCore
namespace Go.Proofs.YtlglhokpaplifaaGreatDoor.Ev
set_option linter.unusedVariables false
set_option linter.unusedSimpArgs false
set_option linter.unusedSectionVars false

inductive Ex where
  | normal | ret | exit (id : Nat)

/-! What a region that draws its order must meet. -/
def tmpsOf (xs : List Operand) : List Nat := xs.filterMap fun | .tmp t => some t | _ => none
def readsOf (ops : Array Oper) (o : Oper) : List Nat :=
  (match o.guard with | some (j, _) => (match ops[j]? with | some oj => oj.dst.toList | none => []) | none => []) ++ tmpsOf o.op.operands.toList

inductive Eff where
  | pure | read | write
  deriving DecidableEq

/-- a call whose result comes by value -/
def byVal (E : Env) (fid g : Nat) (dst : Option Nat) : Bool := !E.deep g && !E.own g && !E.open_ g && (match dst with | some d => E.mat fid d == 0 | none => true)

def effOf (E : Env) (fid : Nat) (o : Oper) : Eff :=
  match o.op with
  | .move _ | .assign _ | .pick .. | .build .. | .buildSlice .. | .binOp .. | .unOp .. | .convert .. | .fieldAddr ..
  | .field .. | .index .. | .extract .. | .nilCheck .. => .pure
  | .makeFunc .. => if frz E fid o.dst = true then .write else .pure
  | .load .. | .slice .. | .indexAddr .. => .read
  | .call c => match c.callee with
    | .builtin .len => .pure
    | .value (.func g) => if byVal E fid g o.dst = true then .read else .write
    | _ => .write
  | _ => .write

def effIndep : Eff → Eff → Bool
  | .write, .write | .write, .read | .read, .write => false
  | _, _ => true

def indep (E : Env) (fid : Nat) (ops : Array Oper) (a b : Oper) : Bool :=
  effIndep (effOf E fid a) (effOf E fid b) &&
  (a.dst.toList.all fun d => !(b.dst.toList ++ readsOf ops b).contains d) &&
  (b.dst.toList.all fun d => !(readsOf ops a).contains d)

def plainEdge (e : Edge) : Bool := match e.ground with | .textOnly _ | .gcOnly _ => false | _ => true
def maskOf (acc : List Nat) (o : Oper) : Nat := (o.after.toList.filter plainEdge).foldl (fun s e => s ||| (2 ^ e.on ||| acc.getD e.on 0)) 0
def masksFrom (acc : List Nat) : List Oper → List Nat
  | [] => acc
  | o :: l => masksFrom (acc ++ [maskOf acc o]) l

/-- where the two orders depart: each of them goes through -/
def modesOk (ops : Array Oper) : Bool := !Region.departs ops || ((Region.linearise .text ops 0).length == ops.size && (Region.linearise .gc ops 0).length == ops.size)

def drawOk (E : Env) (fid : Nat) (ops : Array Oper) : Bool :=
  let ms := masksFrom [] ops.toList
  (ops.toList.zipIdx.all fun p => p.1.after.toList.all fun e => !plainEdge e || decide (e.on < p.2)) &&
  (ops.toList.zipIdx.all fun p => ops.toList.zipIdx.all fun q => decide (q.2 ≤ p.2) || (ms.getD q.2 0).testBit p.2 || indep E fid ops p.1 q.1) && modesOk ops

/-! a variable that is made beside reads: the reads must not lead to it -/
mutual
def hasKey (κ : Nat) : AV → Bool
  | .ms key .. => key == κ
  | .vp key .. => key == κ
  | .rp key .. => key == κ
  | .agg cs => hasKeys κ cs
  | .tup cs => hasKeys κ cs
  | .fn _ cs => hasKeys κ cs
  | _ => false
def hasKeys (κ : Nat) : List AV → Bool
  | [] => false
  | v :: vs => hasKey κ v || hasKeys κ vs
end
def isAlloc (o : Oper) : Bool := match o.op with | .alloc _ => true | _ => false
def allocsOf (ops : Array Oper) : List Nat := ops.toList.filterMap fun o => if isAlloc o then o.dst else none
def keysFree (st : St) (D : List Nat) (o : Oper) : Bool := D.all fun d => o.op.operands.toList.all fun x => !hasKey (st.off + d) (st.ev x)
/-- a call, one row of which becomes the caller's own -/
def freshCall (E : Env) (fid : Nat) (o : Oper) : Bool :=
  match o.op with
  | .call c => (match c.callee with | .value (.func g) => !E.deep g && !E.own g && !E.open_ g && (match o.dst with | some d => E.mat fid d == 1 | none => false) | .builtin b => ownB E fid o.dst b | _ => false)
  | _ => false
def readish (E : Env) (fid : Nat) (o : Oper) : Bool := effOf E fid o == .read || freshCall E fid o
def stepD (E : Env) (call : CallT) (fid : Nat) (ops : Array Oper) (D : List Nat) (st : St) (o : Oper) : Option St :=
  if !readish E fid o || keysFree st D o then stepOp E call fid ops st o else none
def runD (E : Env) (call : CallT) (fid : Nat) (ops : Array Oper) (D : List Nat) : List Oper → St → Option St
  | [], st => some st
  | o :: l, st => (stepD E call fid ops D st o).bind (runD E call fid ops D l)
def allocRead (E : Env) (fid : Nat) (ops : Array Oper) (a b : Oper) : Bool :=
  isAlloc a && a.dst.isSome && effOf E fid b == .read && (a.dst.toList.all fun d => !(b.dst.toList ++ readsOf ops b).contains d) && (b.dst.toList.all fun d => !(readsOf ops a).contains d)
def indep2 (E : Env) (fid : Nat) (ops : Array Oper) (a b : Oper) : Bool :=
  indep E fid ops a b || allocRead E fid ops a b || allocRead E fid ops b a
def drawOk2 (E : Env) (fid : Nat) (ops : Array Oper) : Bool :=
  let ms := masksFrom [] ops.toList
  (ops.toList.zipIdx.all fun p => p.1.after.toList.all fun e => !plainEdge e || decide (e.on < p.2)) &&
  (ops.toList.zipIdx.all fun p => ops.toList.zipIdx.all fun q => decide (q.2 ≤ p.2) || (ms.getD q.2 0).testBit p.2 || indep2 E fid ops p.1 q.1) && modesOk ops
/-! rows that are taken over beside reads -/
def isMake (o : Oper) : Bool := match o.op with | .makeSlice .. => true | _ => false
def isFresh (E : Env) (fid : Nat) (o : Oper) : Bool := isAlloc o || isMake o || freshCall E fid o
def freshs (E : Env) (fid : Nat) (ops : Array Oper) : List Nat := ops.toList.filterMap fun o => if isFresh E fid o then o.dst else none
def freshRead (E : Env) (fid : Nat) (ops : Array Oper) (a b : Oper) : Bool :=
  isFresh E fid a && a.dst.isSome && (effOf E fid b == .read || isFresh E fid b && b.dst.isSome) && (a.dst.toList.all fun d => !(b.dst.toList ++ readsOf ops b).contains d) && (b.dst.toList.all fun d => !(readsOf ops a).contains d)
def indep3 (E : Env) (fid : Nat) (ops : Array Oper) (a b : Oper) : Bool :=
  indep E fid ops a b || freshRead E fid ops a b || freshRead E fid ops b a
def drawOk3 (E : Env) (fid : Nat) (ops : Array Oper) : Bool :=
  let ms := masksFrom [] ops.toList
  (ops.toList.zipIdx.all fun p => p.1.after.toList.all fun e => !plainEdge e || decide (e.on < p.2)) &&
  (ops.toList.zipIdx.all fun p => ops.toList.zipIdx.all fun q => decide (q.2 ≤ p.2) || (ms.getD q.2 0).testBit p.2 || indep3 E fid ops p.1 q.1) && modesOk ops
/-! reads beside writes that leave alone what is read -/
def linkOf (o : Oper) : Bool := match o.op with | .fieldAddr .. | .move _ | .assign _ => true | _ => false
def tmpsUp (ops : Array Oper) (r : List Nat) : List Nat := r ++ ops.toList.flatMap fun p => if (p.dst.toList.any fun d => r.contains d) && linkOf p then tmpsOf p.op.operands.toList else []
def basesOf (ops : Array Oper) (o : Oper) : List Nat := tmpsUp ops (tmpsUp ops (tmpsOf o.op.operands.toList))
def unordAt (ms : List Nat) (i j : Nat) : Bool := (decide (i < j) && !(ms.getD j 0).testBit i) || (decide (j < i) && !(ms.getD i 0).testBit j)
def codeAt (E : Env) (fid : Nat) (ops : Array Oper) (i : Nat) (o : Oper) : Nat :=
  if ops.toList.zipIdx.any fun q => unordAt (masksFrom [] ops.toList) i q.2 && !effIndep (effOf E fid o) (effOf E fid q.1) then (match effOf E fid o with | .read => 1 | .write => 2 | .pure => 0) else 0
def codesOf (E : Env) (fid : Nat) (ops : Array Oper) : List Nat := ops.toList.zipIdx.map fun p => codeAt E fid ops p.2 p.1
def keepD (E : Env) (fid : Nat) (ops : Array Oper) : List Nat := (ops.toList.zipIdx.flatMap fun p => if codeAt E fid ops p.2 p.1 == 1 then basesOf ops p.1 else []).eraseDups
mutual
def keysB (p : Nat → Bool) : AV → Bool
  | .ms key .. => p key
  | .vp key .. => p key
  | .rp key .. => p key
  | .agg cs => keysBs p cs
  | .tup cs => keysBs p cs
  | .fn _ cs => keysBs p cs
  | _ => true
def keysBs (p : Nat → Bool) : List AV → Bool
  | [] => true
  | v :: vs => keysB p v && keysBs p vs
end
def keysIn (st : St) (D : List Nat) (o : Oper) : Bool := o.op.operands.toList.all fun x => keysB (fun κ => D.any fun d => κ == st.off + d) (st.ev x)
noncomputable def stepK (E : Env) (call : CallT) (fid : Nat) (ops : Array Oper) (D : List Nat) (c : Nat) (st : St) (o : Oper) : Option St :=
  match c with
  | 1 => if keysIn st D o then stepOp E call fid ops st o else none
  | 2 => (stepOp E call fid ops st o).bind fun s' => @ite _ (∀ d ∈ D, s'.h (st.off + d) = st.h (st.off + d)) (Classical.propDecidable _) (some s') none
  | _ => stepOp E call fid ops st o
noncomputable def runK (E : Env) (call : CallT) (fid : Nat) (ops : Array Oper) (D : List Nat) : List Nat → List Oper → St → Option St
  | _, [], st => some st
  | [], _ :: _, _ => none
  | c :: cs, o :: l, st => (stepK E call fid ops D c st o).bind (runK E call fid ops D cs l)
def readWrite (E : Env) (fid : Nat) (ops : Array Oper) (a b : Oper) : Bool :=
  effOf E fid a == .write && effOf E fid b == .read && (a.dst.toList.all fun d => !(b.dst.toList ++ readsOf ops b).contains d) && (b.dst.toList.all fun d => !(readsOf ops a).contains d)
def indep4 (E : Env) (fid : Nat) (ops : Array Oper) (a b : Oper) : Bool :=
  indep E fid ops a b || readWrite E fid ops a b || readWrite E fid ops b a
def drawOk4 (E : Env) (fid : Nat) (ops : Array Oper) : Bool :=
  let ms := masksFrom [] ops.toList
  (ops.toList.zipIdx.all fun p => p.1.after.toList.all fun e => !plainEdge e || decide (e.on < p.2)) &&
  (ops.toList.zipIdx.all fun p => ops.toList.zipIdx.all fun q => decide (q.2 ≤ p.2) || (ms.getD q.2 0).testBit p.2 || indep4 E fid ops p.1 q.1) && modesOk ops
noncomputable def runReg (E : Env) (call : CallT) (fid : Nat) (ops : Array Oper) (draw : Bool) (st : St) : Option St :=
  if draw && !drawOk E fid ops then (if drawOk2 E fid ops then runD E call fid ops (allocsOf ops) ops.toList st else if drawOk3 E fid ops then runD E call fid ops (freshs E fid ops) ops.toList st
    else if drawOk4 E fid ops then runK E call fid ops (keepD E fid ops) (codesOf E fid ops) ops.toList st else none) else runOps E call fid ops ops.toList st

def resVal (E : Env) (st : St) : ResultVar → Option AV
  | .tmp t => some (st.s t)
  | .cell a t => loadV E st.h t (st.s a)
def resVals (E : Env) (st : St) : List ResultVar → Option (List AV)
  | [] => some []
  | r :: rs => (resVal E st r).bind fun v => (resVals E st rs).map fun vs => v :: vs
def resOf (E : Env) (st : St) (rs : List ResultVar) : Option AV :=
  match rs with
  | [r] => resVal E st r
  | rs => (resVals E st rs).map .tup

def argSlots (args : List AV) : Nat → AV := fun t => args.getD t .un

mutual
noncomputable def evCode (E : Env) : Nat → Nat → Code → St → Option (Ex × St)
  | 0, _, _, _ => none
  | k + 1, fid, c, st =>
    match c with
    | .skip => some (.normal, st)
    | .region _ ops draw => (runReg E (evOpen E k) fid ops draw st).map fun st' => (.normal, st')
    | .seq a b => match evCode E k fid a st with
      | some (.normal, st') => evCode E k fid b st'
      | r => r
    | .cond c a b => match st.ev c with
      | .bool t => evCode E k fid (if t then a else b) st
      | _ => none
    | .block id c => match evCode E k fid c st with
      | some (.exit i, st') => if i = id then some (.normal, st') else some (.exit i, st')
      | r => r
    | .loop c => match evCode E k fid c st with
      | some (.normal, st') => evCode E k fid (.loop c) st'
      | r => r
    | .exit id => some (.exit id, st)
    | .ret => some (.ret, st)
    | _ => none
noncomputable def evOpen (E : Env) : Nat → CallT
  | 0, _, _, _, _ => none
  | k + 1, f, args, h, off =>
    match E.fn f with
    | some F => match F.body with
      | some c =>
        if args.length ≤ F.ntmps then
          match evCode E k f c { s := argSlots args, h := h, off := off, nt := F.ntmps } with
          | some (.normal, st) => (resOf E st F.results.toList).map fun v => (v, st.h)
          | some (.ret, st) => (resOf E st F.results.toList).map fun v => (v, st.h)
          | _ => none
        else none
      | none => none
    | none => none
end

/-! more fuel tells the same -/
def CallLe (c c' : CallT) : Prop := ∀ f args h off r, c f args h off = some r → c' f args h off = some r

theorem callFn_le {E : Env} {c c' : CallT} (hc : CallLe c c') {fid : Nat} {dst : Option Nat} {f : Nat} {args : List AV} {st : St} {r : AV × Heap}
    (h : callFn E c fid dst f args st = some r) : callFn E c' fid dst f args st = some r := by
  unfold callFn at h ⊢
  by_cases hdp : E.deep f = true
  · rw [if_pos hdp] at h ⊢
    rw [Option.bind_eq_some_iff] at h ⊢
    obtain ⟨p, hp, hr⟩ := h
    exact ⟨p, hc _ _ _ _ _ hp, hr⟩
  rw [if_neg hdp] at h ⊢
  cases he : extV E f (lows st.h args) with
  | some F => rw [he] at h; exact h
  | none =>
    rw [he] at h
    dsimp only at h ⊢
    by_cases ho : E.open_ f = true
    · rw [if_pos ho] at h ⊢
      exact hc _ _ _ _ _ h
    · rw [if_neg ho] at h ⊢
      rw [Option.bind_eq_some_iff] at h ⊢
      obtain ⟨p, hp, hr⟩ := h
      exact ⟨p, hc _ _ _ _ _ hp, hr⟩

theorem evCall_le {E : Env} {c c' : CallT} (hc : CallLe c c') {fid : Nat} {st : St} {dst : Option Nat} {cl : Call} {r : AV × Heap}
    (h : evCall E c fid st dst cl = some r) : evCall E c' fid st dst cl = some r := by
  unfold evCall at h ⊢
  cases hcl : cl.callee with
  | builtin b => rw [hcl] at h; exact h
  | value f =>
    rw [hcl] at h
    dsimp only at h ⊢
    cases hv : st.ev f <;> rw [hv] at h <;> first | exact callFn_le hc h | cases h
  | invoke a b => rw [hcl] at h; cases h

theorem evOp_le {E : Env} {c c' : CallT} (hc : CallLe c c') {fid : Nat} {st : St} {o : Oper} {r : AV × Heap}
    (h : evOp E c fid st o = some r) : evOp E c' fid st o = some r := by
  unfold evOp at h ⊢
  dsimp only at h ⊢
  cases ho : o.op <;> rw [ho] at h <;> first | exact evCall_le hc h | exact h

theorem stepOp_le {E : Env} {c c' : CallT} (hc : CallLe c c') {fid : Nat} {ops : Array Oper} {st : St} {o : Oper} {r : St}
    (h : stepOp E c fid ops st o = some r) : stepOp E c' fid ops st o = some r := by
  unfold stepOp at h ⊢
  split at h
  · rename_i hd
    rw [if_pos hd]
    split at h
    · rename_i hw
      rw [Option.map_eq_some_iff] at h
      obtain ⟨p, hp, hr⟩ := h
      simp only [evOp_le hc hp, Option.map_some, hr]
    · rename_i hw
      simpa using h
    · exact h
  · cases h

theorem runOps_le {E : Env} {c c' : CallT} (hc : CallLe c c') {fid : Nat} {ops : Array Oper} (l : List Oper) : ∀ {st r : St},
    runOps E c fid ops l st = some r → runOps E c' fid ops l st = some r := by
  induction l with
  | nil => exact fun h => h
  | cons o l ih =>
    intro st r h
    simp only [runOps, Option.bind_eq_some_iff] at h ⊢
    obtain ⟨s1, h1, h2⟩ := h
    exact ⟨s1, stepOp_le hc h1, ih h2⟩

theorem runD_le {E : Env} {c c' : CallT} (hc : CallLe c c') {fid : Nat} {ops : Array Oper} {D : List Nat} (l : List Oper) : ∀ {st r : St},
    runD E c fid ops D l st = some r → runD E c' fid ops D l st = some r := by
  induction l with
  | nil => exact fun h => h
  | cons o l ih =>
    intro st r h
    simp only [runD, Option.bind_eq_some_iff] at h ⊢
    obtain ⟨s1, h1, h2⟩ := h
    refine ⟨s1, ?_, ih h2⟩
    unfold stepD at h1 ⊢
    split at h1
    · rename_i hc1; rw [if_pos hc1]; exact stepOp_le hc h1
    · cases h1
theorem runK_le {E : Env} {c c' : CallT} (hc : CallLe c c') {fid : Nat} {ops : Array Oper} {D : List Nat} (l : List Oper) : ∀ (cs : List Nat) {st r : St},
    runK E c fid ops D cs l st = some r → runK E c' fid ops D cs l st = some r := by
  induction l with
  | nil => intro cs st r h; cases cs <;> exact h
  | cons o l ih =>
    intro cs st r h
    cases cs with
    | nil => simp [runK] at h
    | cons k cs =>
      simp only [runK, Option.bind_eq_some_iff] at h ⊢
      obtain ⟨s1, h1, h2⟩ := h
      refine ⟨s1, ?_, ih cs h2⟩
      unfold stepK at h1 ⊢
      split at h1
      · split at h1
        · rename_i hk; simp only [hk, if_true]; exact stepOp_le hc h1
        · cases h1
      · rw [Option.bind_eq_some_iff] at h1 ⊢
        obtain ⟨s2, h3, h4⟩ := h1
        exact ⟨s2, stepOp_le hc h3, h4⟩
      · exact stepOp_le hc h1
theorem runReg_le {E : Env} {c c' : CallT} (hc : CallLe c c') {fid : Nat} {ops : Array Oper} {draw : Bool} {st r : St} (h : runReg E c fid ops draw st = some r) : runReg E c' fid ops draw st = some r := by
  unfold runReg at h ⊢
  split at h
  · rename_i h1
    rw [if_pos h1]
    split at h
    · rename_i h2; rw [if_pos h2]; exact runD_le hc _ h
    · rename_i h2
      rw [if_neg h2]
      split at h
      · rename_i h3; rw [if_pos h3]; exact runD_le hc _ h
      · rename_i h3
        rw [if_neg h3]
        split at h
        · rename_i h4; rw [if_pos h4]; exact runK_le hc _ _ h
        · cases h
  · rename_i h1; rw [if_neg h1]; exact runOps_le hc _ h

theorem ev_le (E : Env) : ∀ k, (∀ fid c st r, evCode E k fid c st = some r → evCode E (k + 1) fid c st = some r) ∧ CallLe (evOpen E k) (evOpen E (k + 1))
  | 0 => ⟨fun _ _ _ _ h => by simp [evCode] at h, fun _ _ _ _ _ h => by simp [evOpen] at h⟩
  | k + 1 => by
    obtain ⟨ih1, ih2⟩ := ev_le E k
    constructor
    · intro fid c st r h
      cases c with
      | skip => exact h
      | region id ops draw =>
        rw [evCode] at h ⊢
        rw [Option.map_eq_some_iff] at h ⊢
        obtain ⟨p, hp, hr⟩ := h
        exact ⟨p, runReg_le ih2 hp, hr⟩
      | seq a b =>
        rw [evCode] at h ⊢
        cases ha : evCode E k fid a st with
        | none => rw [ha] at h; cases h
        | some p =>
          obtain ⟨e, st'⟩ := p
          rw [ih1 _ _ _ _ ha]
          rw [ha] at h
          cases e with
          | normal => exact ih1 _ _ _ _ h
          | ret => exact h
          | exit i => exact h
      | cond c a b =>
        rw [evCode] at h ⊢
        cases ht : st.ev c <;> rw [ht] at h <;> first | exact ih1 _ _ _ _ h | cases h
      | block id c =>
        rw [evCode] at h ⊢
        cases ha : evCode E k fid c st with
        | none => rw [ha] at h; cases h
        | some p =>
          obtain ⟨e, st'⟩ := p
          rw [ih1 _ _ _ _ ha]
          rw [ha] at h
          exact h
      | loop c =>
        rw [evCode] at h ⊢
        cases ha : evCode E k fid c st with
        | none => rw [ha] at h; cases h
        | some p =>
          obtain ⟨e, st'⟩ := p
          rw [ih1 _ _ _ _ ha]
          rw [ha] at h
          cases e with
          | normal => exact ih1 _ _ _ _ h
          | ret => exact h
          | exit i => exact h
      | exit id => exact h
      | ret => exact h
      | rangeFunc f p a b => simp [evCode] at h
      | scope b => simp [evCode] at h
      | label l => simp [evCode] at h
      | goto l => simp [evCode] at h
      | refuse w => simp [evCode] at h
    · intro f args h off r hr
      rw [evOpen] at hr ⊢
      cases hf : E.fn f with
      | none => rw [hf] at hr; cases hr
      | some F =>
        rw [hf] at hr
        dsimp only at hr ⊢
        cases hb : F.body with
        | none => rw [hb] at hr; cases hr
        | some c =>
          rw [hb] at hr
          dsimp only at hr ⊢
          split at hr
          · rename_i hl
            rw [if_pos hl]
            cases ha : evCode E k f c { s := argSlots args, h := h, off := off, nt := F.ntmps } with
            | none => rw [ha] at hr; cases hr
            | some p =>
              obtain ⟨e, st'⟩ := p
              rw [ih1 _ _ _ _ ha]
              rw [ha] at hr
              exact hr
          · cases hr

theorem evCode_mono (E : Env) {k k' : Nat} (hk : k ≤ k') {fid : Nat} {c : Code} {st : St} {r : Ex × St} (h : evCode E k fid c st = some r) : evCode E k' fid c st = some r := by
  induction hk with
  | refl => exact h
  | step _ ih => exact (ev_le E _).1 _ _ _ _ ih
theorem evOpen_mono (E : Env) {k k' : Nat} (hk : k ≤ k') : CallLe (evOpen E k) (evOpen E k') := by
  induction hk with
  | refl => exact fun _ _ _ _ _ h => h
  | step _ ih => exact fun _ _ _ _ _ h => (ev_le E _).2 _ _ _ _ _ (ih _ _ _ _ _ h)

end Go.Proofs.YtlglhokpaplifaaGreatDoor.Ev
