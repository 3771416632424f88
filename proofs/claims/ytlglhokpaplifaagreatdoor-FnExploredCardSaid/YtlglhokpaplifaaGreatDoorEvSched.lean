/- XEvOrder XEvSched, joined. Conditions: none. -/
import Derived.Test.YtlglhokpaplifaaGreatDoorEvRun
/- A region whose order is drawn: every order tells the same. Conditions: none. -/
namespace Go.Proofs.YtlglhokpaplifaaGreatDoor.Ev
set_option linter.unusedVariables false
set_option linter.unusedSimpArgs false
set_option linter.unusedSectionVars false

section
variable {E : Env} {call : CallT} {fid : Nat} {ops : Array Oper}

def stepI (E : Env) (call : CallT) (fid : Nat) (ops : Array Oper) (i : Nat) (st : St) : Option St :=
  match ops[i]? with
  | some o => stepOp E call fid ops st o
  | none => some st
def runI (E : Env) (call : CallT) (fid : Nat) (ops : Array Oper) : List Nat → St → Option St
  | [], st => some st
  | i :: l, st => (stepI E call fid ops i st).bind (runI E call fid ops l)

theorem runI_append (l m : List Nat) (st : St) : runI E call fid ops (l ++ m) st = (runI E call fid ops l st).bind (runI E call fid ops m) := by
  induction l generalizing st with
  | nil => rfl
  | cons i l ih =>
    simp only [List.cons_append, runI, Option.bind_assoc]
    congr 1; funext s; exact ih s

/-- moving an operation to the front of those with which it commutes -/
theorem runI_front {m : Nat} (l : List Nat) (hc : ∀ x ∈ l, ∀ st, (stepI E call fid ops x st).bind (stepI E call fid ops m) = (stepI E call fid ops m st).bind (stepI E call fid ops x)) (r : List Nat) (st : St) :
    runI E call fid ops (l ++ m :: r) st = runI E call fid ops (m :: (l ++ r)) st := by
  induction l generalizing st with
  | nil => rfl
  | cons x l ih =>
    have ih' := fun s => ih (fun y hy => hc y (by simp [hy])) s
    have h1 : runI E call fid ops (x :: l ++ m :: r) st = ((stepI E call fid ops x st).bind (stepI E call fid ops m)).bind (runI E call fid ops (l ++ r)) := by
      rw [List.cons_append, runI, Option.bind_assoc]
      congr 1; funext s; rw [ih' s]; rfl
    rw [h1, hc x (by simp) st, Option.bind_assoc]
    rfl

/-- any order that keeps what depends apart is as good as the text's -/
theorem runI_perm (dep : Nat → Nat → Prop) (hcomm : ∀ i j, i < j → ¬ dep i j → ∀ st, (stepI E call fid ops j st).bind (stepI E call fid ops i) = (stepI E call fid ops i st).bind (stepI E call fid ops j)) :
    ∀ (s l : List Nat), s.Pairwise (· < ·) → l.Perm s → l.Pairwise (fun x y => ¬ dep y x) → ∀ st, runI E call fid ops l st = runI E call fid ops s st
  | [], l, _, hp, _, st => by rw [List.Perm.eq_nil hp]
  | m :: s, l, hs, hp, hl, st => by
    have hm : m ∈ l := hp.symm.mem_iff.1 (by simp)
    obtain ⟨l1, l2, rfl⟩ := List.append_of_mem hm
    have hs' := List.pairwise_cons.1 hs
    have hperm : (l1 ++ l2).Perm s := by
      have h1 : (l1 ++ m :: l2).Perm (m :: (l1 ++ l2)) := List.perm_middle
      exact (List.perm_cons m).1 (h1.symm.trans hp)
    have hlt : ∀ x ∈ l1, m < x := fun x hx => hs'.1 x (hperm.mem_iff.1 (by simp [hx]))
    have hpw := List.pairwise_append.1 hl
    have hcm : ∀ x ∈ l1, ∀ st, (stepI E call fid ops x st).bind (stepI E call fid ops m) = (stepI E call fid ops m st).bind (stepI E call fid ops x) :=
      fun x hx st => hcomm m x (hlt x hx) (hpw.2.2 x hx m (by simp)) st
    rw [runI_front l1 hcm]
    simp only [runI]
    congr 1; funext s1
    refine runI_perm dep hcomm s (l1 ++ l2) hs'.2 hperm ?_ s1
    exact List.pairwise_append.2 ⟨hpw.1, (List.pairwise_cons.1 hpw.2.1).2, fun a ha b hb => hpw.2.2 a ha b (by simp [hb])⟩
termination_by s => s.length
end

/- the same for any steps -/
def runG (F : Nat → St → Option St) : List Nat → St → Option St
  | [], st => some st
  | i :: l, st => (F i st).bind (runG F l)
theorem runG_front {F : Nat → St → Option St} {m : Nat} (l : List Nat) (hc : ∀ x ∈ l, ∀ st, (F x st).bind (F m) = (F m st).bind (F x)) (r : List Nat) (st : St) :
    runG F (l ++ m :: r) st = runG F (m :: (l ++ r)) st := by
  induction l generalizing st with
  | nil => rfl
  | cons x l ih =>
    have ih' := fun s => ih (fun y hy => hc y (by simp [hy])) s
    have h1 : runG F (x :: l ++ m :: r) st = ((F x st).bind (F m)).bind (runG F (l ++ r)) := by
      rw [List.cons_append, runG, Option.bind_assoc]
      congr 1; funext s; rw [ih' s]; rfl
    rw [h1, hc x (by simp) st, Option.bind_assoc]
    rfl
theorem runG_perm {F : Nat → St → Option St} (dep : Nat → Nat → Prop) (hcomm : ∀ i j, i < j → ¬ dep i j → ∀ st, (F j st).bind (F i) = (F i st).bind (F j)) :
    ∀ (s l : List Nat), s.Pairwise (· < ·) → l.Perm s → l.Pairwise (fun x y => ¬ dep y x) → ∀ st, runG F l st = runG F s st
  | [], l, _, hp, _, st => by rw [List.Perm.eq_nil hp]
  | m :: s, l, hs, hp, hl, st => by
    have hm : m ∈ l := hp.symm.mem_iff.1 (by simp)
    obtain ⟨l1, l2, rfl⟩ := List.append_of_mem hm
    have hs' := List.pairwise_cons.1 hs
    have hperm : (l1 ++ l2).Perm s := by
      have h1 : (l1 ++ m :: l2).Perm (m :: (l1 ++ l2)) := List.perm_middle
      exact (List.perm_cons m).1 (h1.symm.trans hp)
    have hlt : ∀ x ∈ l1, m < x := fun x hx => hs'.1 x (hperm.mem_iff.1 (by simp [hx]))
    have hpw := List.pairwise_append.1 hl
    have hcm : ∀ x ∈ l1, ∀ st, (F x st).bind (F m) = (F m st).bind (F x) :=
      fun x hx st => hcomm m x (hlt x hx) (hpw.2.2 x hx m (by simp)) st
    rw [runG_front l1 hcm]
    simp only [runG]
    congr 1; funext s1
    refine runG_perm dep hcomm s (l1 ++ l2) hs'.2 hperm ?_ s1
    exact List.pairwise_append.2 ⟨hpw.1, (List.pairwise_cons.1 hpw.2.1).2, fun a ha b hb => hpw.2.2 a ha b (by simp [hb])⟩
termination_by s => s.length

/- operations that do not touch each other commute -/
def act (E : Env) (call : CallT) (fid : Nat) (ops : Array Oper) (st : St) (o : Oper) : Option (AV × Heap) :=
  if dstOk st o then
    match wantedV ops st o with
    | some true => evOp E call fid st o
    | some false => some (.ud, st.h)
    | none => none
  else none

theorem stepOp_act {E : Env} {call : CallT} {fid : Nat} {ops : Array Oper} {st : St} {o : Oper} : stepOp E call fid ops st o = (act E call fid ops st o).map fun p => st.put o.dst p.1 p.2 := by
  unfold stepOp act
  split
  · cases wantedV ops st o with
    | none => rfl
    | some b => cases b <;> rfl
  · rfl

def Agree (s1 s2 : St) (xs : List Operand) : Prop := ∀ x ∈ xs, s1.ev x = s2.ev x

theorem agree_of {s1 s2 : St} {xs : List Operand} (h : ∀ t ∈ tmpsOf xs, s1.s t = s2.s t) : Agree s1 s2 xs := by
  intro x hx
  cases x with
  | tmp t => exact h t (List.mem_filterMap.2 ⟨_, hx, rfl⟩)
  | _ => rfl

theorem agree_map {s1 s2 : St} {xs ys : List Operand} (h : Agree s1 s2 xs) (hs : ∀ y ∈ ys, y ∈ xs) : ys.map s1.ev = ys.map s2.ev :=
  List.map_congr_left fun y hy => h y (hs y hy)

theorem callFn_reads {E : Env} {call : CallT} {fid : Nat} {dst : Option Nat} {g : Nat} {args : List AV} {s1 s2 : St} (ho : s1.off = s2.off) (hh : s1.h = s2.h) :
    callFn E call fid dst g args s1 = callFn E call fid dst g args s2 := by
  unfold callFn extR
  simp only [ho, hh, mat]

theorem evOp_reads {E : Env} {call : CallT} {fid : Nat} {s1 s2 : St} {o : Oper} (ho : s1.off = s2.off) (hh : s1.h = s2.h) (ha : Agree s1 s2 o.op.operands.toList) :
    evOp E call fid s1 o = evOp E call fid s2 o := by
  unfold evOp
  cases hop : o.op with
  | build t ps =>
    rw [hop] at ha
    have : (ps.toList.map fun p => (p.1, s1.ev p.2)) = ps.toList.map fun p => (p.1, s2.ev p.2) :=
      List.map_congr_left fun p hp => by rw [ha p.2 (by simp [Op.operands]; exact ⟨p.1, by simpa using hp⟩)]
    simp only [this, hh]
  | buildSlice t n ps =>
    rw [hop] at ha
    have : (ps.toList.map fun p => (p.1, s1.ev p.2)) = ps.toList.map fun p => (p.1, s2.ev p.2) :=
      List.map_congr_left fun p hp => by rw [ha p.2 (by simp [Op.operands]; exact ⟨p.1, by simpa using hp⟩)]
    simp only [this, hh]
  | makeFunc fn first caps =>
    rw [hop] at ha
    have : caps.toList.map s1.ev = caps.toList.map s2.ev := agree_map ha fun y hy => by simp [Op.operands]; exact .inr (by simpa using hy)
    simp only [this, hh]
  | slice t x lo hi mx =>
    rw [hop] at ha
    have hx : s1.ev x = s2.ev x := ha x (by simp [Op.operands])
    have h1 : lo.map s1.ev = lo.map s2.ev := by cases lo with | none => rfl | some y => simp [ha y (by simp [Op.operands])]
    have h2 : hi.map s1.ev = hi.map s2.ev := by cases hi with | none => rfl | some y => simp [ha y (by simp [Op.operands])]
    have h3 : mx.map s1.ev = mx.map s2.ev := by cases mx with | none => rfl | some y => simp [ha y (by simp [Op.operands])]
    simp only [hx, h1, h2, h3, hh]
  | call c =>
    rw [hop] at ha
    have hargs : c.args.toList.map s1.ev = c.args.toList.map s2.ev := agree_map ha fun y hy => by simp [Op.operands, Call.operands]; exact .inr (by simpa using hy)
    simp only [evCall]
    cases hc : c.callee with
    | builtin b => simp only [hargs, ho, hh]
    | invoke r m => rfl
    | value f =>
      have hf : s1.ev f = s2.ev f := ha f (by simp [Op.operands, Call.operands, hc])
      simp only [hf, hargs]
      cases s2.ev f <;> first | rfl | exact callFn_reads ho hh
  | move x => rw [hop] at ha; simp only [ha x (by simp [Op.operands]), hh]
  | assign x => rw [hop] at ha; simp only [ha x (by simp [Op.operands]), hh]
  | pick c a b => rw [hop] at ha; simp only [ha c (by simp [Op.operands]), ha a (by simp [Op.operands]), ha b (by simp [Op.operands]), hh]
  | alloc T => simp only [ho, hh]
  | box T x => rw [hop] at ha; simp only [ha x (by simp [Op.operands]), ho, hh]
  | load t x => rw [hop] at ha; simp only [ha x (by simp [Op.operands]), hh]
  | store t a x => rw [hop] at ha; simp only [ha a (by simp [Op.operands]), ha x (by simp [Op.operands]), hh]
  | binOp op t x y u => rw [hop] at ha; simp only [ha x (by simp [Op.operands]), ha y (by simp [Op.operands]), hh]
  | unOp op t x => rw [hop] at ha; simp only [ha x (by simp [Op.operands]), hh]
  | convert a b x => rw [hop] at ha; simp only [ha x (by simp [Op.operands]), hh]
  | makeSlice t l c => rw [hop] at ha; simp only [ha l (by simp [Op.operands]), ha c (by simp [Op.operands]), ho, hh]
  | fieldAddr s x f => rw [hop] at ha; simp only [ha x (by simp [Op.operands]), hh]
  | field s x f => rw [hop] at ha; simp only [ha x (by simp [Op.operands]), hh]
  | indexAddr t x i => rw [hop] at ha; simp only [ha x (by simp [Op.operands]), ha i (by simp [Op.operands]), hh]
  | index t x i => rw [hop] at ha; simp only [ha x (by simp [Op.operands]), ha i (by simp [Op.operands]), hh]
  | extract x i => rw [hop] at ha; simp only [ha x (by simp [Op.operands]), hh]
  | nilCheck x => rw [hop] at ha; simp only [ha x (by simp [Op.operands]), hh]
  | _ => rfl

theorem wanted_reads {ops : Array Oper} {s1 s2 : St} {o : Oper} (h : ∀ t ∈ readsOf ops o, s1.s t = s2.s t) : wantedV ops s1 o = wantedV ops s2 o := by
  unfold wantedV
  cases hg : o.guard with
  | none => rfl
  | some p =>
    obtain ⟨j, want⟩ := p
    simp only
    cases hj : ops[j]? with
    | none => rfl
    | some oj =>
      simp only
      cases hd : oj.dst with
      | none => rfl
      | some d =>
        simp only
        rw [h d (by simp [readsOf, hg, hj, hd])]

theorem act_reads {E : Env} {call : CallT} {fid : Nat} {ops : Array Oper} {s1 s2 : St} {o : Oper} (hn : s1.nt = s2.nt) (ho : s1.off = s2.off) (hh : s1.h = s2.h) (h : ∀ t ∈ readsOf ops o, s1.s t = s2.s t) :
    act E call fid ops s1 o = act E call fid ops s2 o := by
  unfold act
  rw [wanted_reads h, evOp_reads ho hh (agree_of fun t ht => h t (by simp [readsOf, ht]))]
  have : dstOk s1 o = dstOk s2 o := by unfold dstOk; rw [hn]
  rw [this, hh]

theorem evOp_keeps {E : Env} {call : CallT} {fid : Nat} {st : St} {o : Oper} (he : effOf E fid o ≠ .write) {p : AV × Heap} (h : evOp E call fid st o = some p) : p.2 = st.h := by
  unfold evOp at h
  unfold effOf at he
  have hm : ∀ {x : Option AV}, (x.map fun y => (y, st.h)) = some p → p.2 = st.h := by
    intro x hx
    rw [Option.map_eq_some_iff] at hx
    obtain ⟨y, _, rfl⟩ := hx
    rfl
  cases hop : o.op <;> rw [hop] at h he <;> simp only at h he <;> first
    | exact hm h
    | (exact (he rfl).elim)
    | (obtain rfl := Option.some.inj h; rfl)
    | (cases h; done)
    | skip
  case makeFunc fn first caps =>
    by_cases hz : frz E fid o.dst = true
    · rw [if_pos hz] at he; exact (he rfl).elim
    cases fn <;> simp only at h <;> first | (cases h; done) | skip
    split at h
    · obtain rfl := Option.some.inj h; rfl
    · cases h
  case slice =>
    split at h
    · cases h
    · exact hm h
  case call c =>
    unfold evCall at h
    cases hc : c.callee with
    | builtin b =>
      rw [hc] at h he
      cases b <;> simp only at he <;> first | (exact (he rfl).elim) | skip
      exact hm h
    | invoke r m => rw [hc] at h; cases h
    | value f =>
      rw [hc] at h he
      cases f <;> simp only at he <;> first | (exact (he rfl).elim) | skip
      rename_i g
      by_cases hcond : byVal E fid g o.dst = true
      case neg => rw [if_neg hcond] at he; exact (he rfl).elim
      simp only [St.ev] at h
      unfold callFn at h
      have hdp : E.deep g = false := by simp only [byVal, Bool.and_eq_true, Bool.not_eq_true'] at hcond; exact hcond.1.1.1
      simp only [hdp, Bool.false_eq_true, if_false] at h
      cases hx : extV E g (lows st.h (c.args.toList.map st.ev ++ [])) with
      | some F =>
        rw [hx] at h
        simp only [byVal, Bool.and_eq_true, Bool.not_eq_true'] at hcond
        simp only [extR, hcond.1.1.2, Bool.false_eq_true, if_false] at h
        obtain rfl := Option.some.inj h
        rfl
      | none =>
        rw [hx] at h
        simp only [byVal, Bool.and_eq_true, Bool.not_eq_true'] at hcond
        simp only [hcond.1.2, Bool.false_eq_true, if_false, Option.bind_eq_some_iff] at h
        obtain ⟨q, _, hq⟩ := h
        unfold mat at hq
        cases hd : o.dst with
        | none => rw [hd] at hq; simp only [Option.some.injEq] at hq; subst hq; rfl
        | some d =>
          rw [hd] at hq hcond
          have : E.mat fid d = 0 := by simpa using hcond.2
          simp only [this, Option.some.injEq] at hq
          subst hq; rfl

theorem evOp_pure {E : Env} {call : CallT} {fid : Nat} {s1 s2 : St} {o : Oper} (he : effOf E fid o = .pure) (ho : s1.off = s2.off) (hs : s1.s = s2.s) :
    evOp E call fid s1 o = (evOp E call fid s2 o).map fun p => (p.1, s1.h) := by
  have hev : s1.ev = s2.ev := by funext x; cases x <;> simp [St.ev, hs]
  have hm : ∀ (x : Option AV), (x.map fun y => (y, s1.h)) = (x.map fun y => (y, s2.h)).map fun p => (p.1, s1.h) := by
    intro x; cases x <;> rfl
  unfold evOp
  unfold effOf at he
  cases hop : o.op <;> rw [hop] at he <;> simp only at he <;> first
    | (cases he; done)
    | (simp only [hev]; first | exact hm _ | rfl)
    | skip
  case makeFunc fn first caps =>
    by_cases hz : frz E fid o.dst = true
    · rw [if_pos hz] at he; cases he
    cases fn <;> simp only [hev] <;> first | rfl | skip
    split <;> rfl
  case call c =>
    simp only [evCall]
    cases hc : c.callee with
    | builtin b =>
      rw [hc] at he
      cases b <;> simp only at he <;> first | (cases he; done) | skip
      simp only [hev]
      exact hm _
    | invoke r m => rfl
    | value f =>
      rw [hc] at he
      cases f <;> simp only at he <;> first | (cases he; done) | skip
      rename_i g
      by_cases hcond : byVal E fid g o.dst = true
      · rw [if_pos hcond] at he; cases he
      · rw [if_neg hcond] at he; cases he

theorem act_keeps {E : Env} {call : CallT} {fid : Nat} {ops : Array Oper} {st : St} {o : Oper} (he : effOf E fid o ≠ .write) {p : AV × Heap} (h : act E call fid ops st o = some p) : p.2 = st.h := by
  unfold act at h
  split at h
  · split at h
    · exact evOp_keeps he h
    · obtain rfl := Option.some.inj h; rfl
    · cases h
  · cases h

theorem act_pure {E : Env} {call : CallT} {fid : Nat} {ops : Array Oper} {s1 s2 : St} {o : Oper} (he : effOf E fid o = .pure) (hn : s1.nt = s2.nt) (ho : s1.off = s2.off) (hs : s1.s = s2.s) :
    act E call fid ops s1 o = (act E call fid ops s2 o).map fun p => (p.1, s1.h) := by
  unfold act
  have h1 : dstOk s1 o = dstOk s2 o := by unfold dstOk; rw [hn]
  have h2 : wantedV ops s1 o = wantedV ops s2 o := wanted_reads fun t _ => by rw [hs]
  rw [h1, h2]
  split
  · split
    · exact evOp_pure he ho hs
    · rfl
    · rfl
  · rfl

theorem put_s {st : St} {d : Option Nat} {v : AV} {h : Heap} {t : Nat} (ht : ∀ x ∈ d.toList, x ≠ t) : (st.put d v h).s t = st.s t := by
  cases d with
  | none => rfl
  | some d => simp only [St.put, upd]; rw [if_neg]; intro e; exact ht d (by simp) e.symm
theorem put_off {st : St} {d : Option Nat} {v : AV} {h : Heap} : (st.put d v h).off = st.off := by cases d <;> rfl
theorem put_nt {st : St} {d : Option Nat} {v : AV} {h : Heap} : (st.put d v h).nt = st.nt := by cases d <;> rfl
theorem put_h {st : St} {d : Option Nat} {v : AV} {h : Heap} : (st.put d v h).h = h := by cases d <;> rfl
theorem put_comm {st : St} {a b : Option Nat} {va vb : AV} {h1 h2 h3 h4 : Heap} (hab : ∀ x ∈ a.toList, ∀ y ∈ b.toList, x ≠ y) (hh : h2 = h4) :
    (st.put a va h1).put b vb h2 = (st.put b vb h3).put a va h4 := by
  subst hh
  cases a with
  | none => cases b <;> rfl
  | some a =>
    cases b with
    | none => rfl
    | some b =>
      have : a ≠ b := hab a (by simp) b (by simp)
      simp only [St.put, St.mk.injEq, and_true, true_and]
      funext t
      simp only [upd]
      by_cases e1 : t = a
      · subst e1
        rw [if_neg this, if_pos rfl, if_pos rfl]
      · by_cases e2 : t = b
        · subst e2
          rw [if_pos rfl, if_neg e1, if_pos rfl]
        · rw [if_neg e2, if_neg e1, if_neg e1, if_neg e2]

theorem step_comm {E : Env} {call : CallT} {fid : Nat} {ops : Array Oper} {a b : Oper} (hi : indep E fid ops a b = true) (st : St) :
    (stepOp E call fid ops st b).bind (stepOp E call fid ops · a) = (stepOp E call fid ops st a).bind (stepOp E call fid ops · b) := by
  simp only [indep, Bool.and_eq_true] at hi
  obtain ⟨⟨heff, hd1⟩, hd2⟩ := hi
  have hda : ∀ x ∈ a.dst.toList, ∀ y ∈ b.dst.toList, x ≠ y := by
    intro x hx y hy e
    subst e
    have := List.all_eq_true.1 hd1 x hx
    simp only [List.contains_eq_mem, List.mem_append, Bool.not_eq_true', decide_eq_false_iff_not, not_or] at this
    exact this.1 hy
  have hra : ∀ x ∈ a.dst.toList, ∀ t ∈ readsOf ops b, x ≠ t := by
    intro x hx t ht e
    subst e
    have := List.all_eq_true.1 hd1 x hx
    simp only [List.contains_eq_mem, List.mem_append, Bool.not_eq_true', decide_eq_false_iff_not, not_or] at this
    exact this.2 ht
  have hrb : ∀ x ∈ b.dst.toList, ∀ t ∈ readsOf ops a, x ≠ t := by
    intro x hx t ht e
    subst e
    have := List.all_eq_true.1 hd2 x hx
    simp only [List.contains_eq_mem, Bool.not_eq_true', decide_eq_false_iff_not] at this
    exact this ht
  simp only [stepOp_act]
  -- b read behind a
  have rb : ∀ va, act E call fid ops (st.put a.dst va st.h) b = act E call fid ops st b := fun va =>
    act_reads put_nt put_off put_h fun t ht => put_s fun x hx => hra x hx t ht
  have ra : ∀ vb, act E call fid ops (st.put b.dst vb st.h) a = act E call fid ops st a := fun vb =>
    act_reads put_nt put_off put_h fun t ht => put_s fun x hx => hrb x hx t ht
  have rb' : ∀ va h', effOf E fid b = .pure → act E call fid ops (st.put a.dst va h') b = (act E call fid ops st b).map fun p => (p.1, h') := by
    intro va h' hp
    have h1 := act_pure (E := E) (call := call) (fid := fid) (ops := ops) (s1 := st.put a.dst va h') (s2 := st.put a.dst va st.h) hp (by rw [put_nt, put_nt]) (by rw [put_off, put_off]) (by cases a.dst <;> rfl)
    rw [h1, rb va, put_h]
  have ra' : ∀ vb h', effOf E fid a = .pure → act E call fid ops (st.put b.dst vb h') a = (act E call fid ops st a).map fun p => (p.1, h') := by
    intro vb h' hp
    have h1 := act_pure (E := E) (call := call) (fid := fid) (ops := ops) (s1 := st.put b.dst vb h') (s2 := st.put b.dst vb st.h) hp (by rw [put_nt, put_nt]) (by rw [put_off, put_off]) (by cases b.dst <;> rfl)
    rw [h1, ra vb, put_h]
  have kb := fun p => act_keeps (E := E) (call := call) (fid := fid) (ops := ops) (st := st) (o := b) (p := p)
  have ka := fun p => act_keeps (E := E) (call := call) (fid := fid) (ops := ops) (st := st) (o := a) (p := p)
  cases hA : act E call fid ops st a with
  | none =>
    cases hB : act E call fid ops st b with
    | none => rfl
    | some q =>
      simp only [Option.map_some, Option.map_none, Option.bind_some, Option.bind_none]
      by_cases hwb : effOf E fid b = .write
      · have hpa : effOf E fid a = .pure := by rw [hwb] at heff; cases h0 : effOf E fid a <;> rw [h0] at heff <;> first | rfl | cases heff
        rw [ra' _ _ hpa, hA]; rfl
      · rw [kb q hwb hB, ra, hA]; rfl
  | some p =>
    cases hB : act E call fid ops st b with
    | none =>
      simp only [Option.map_some, Option.map_none, Option.bind_some, Option.bind_none]
      by_cases hwa : effOf E fid a = .write
      · have hpb : effOf E fid b = .pure := by rw [hwa] at heff; cases h0 : effOf E fid b <;> rw [h0] at heff <;> first | rfl | cases heff
        rw [rb' _ _ hpb, hB]; rfl
      · rw [ka p hwa hA, rb, hB]; rfl
    | some q =>
      simp only [Option.map_some, Option.bind_some]
      by_cases hwb : effOf E fid b = .write
      · have hpa : effOf E fid a = .pure := by rw [hwb] at heff; cases h0 : effOf E fid a <;> rw [h0] at heff <;> first | rfl | cases heff
        have e1 := ka p (by rw [hpa]; simp) hA
        rw [ra' _ _ hpa, hA, e1, rb, hB]
        simp only [Option.map_some]
        rw [put_comm (fun x hx y hy => hda x hx y hy) rfl]
      · have e2 := kb q hwb hB
        by_cases hwa : effOf E fid a = .write
        · have hpb : effOf E fid b = .pure := by rw [hwa] at heff; cases h0 : effOf E fid b <;> rw [h0] at heff <;> first | rfl | cases heff
          rw [rb' _ _ hpb, hB, e2, ra, hA]
          simp only [Option.map_some]
          rw [put_comm (fun x hx y hy => hda x hx y hy) rfl]
        · have e1 := ka p hwa hA
          rw [e1, e2, ra, rb, hA, hB]
          simp only [Option.map_some, e1, e2]
          rw [put_comm (fun x hx y hy => hda x hx y hy) rfl]

/- a variable made beside reads -/
theorem runD_runOps {E : Env} {call : CallT} {fid : Nat} {ops : Array Oper} {D : List Nat} (l : List Oper) : ∀ {st r : St}, runD E call fid ops D l st = some r → runOps E call fid ops l st = some r := by
  induction l with
  | nil => exact fun h => h
  | cons o l ih =>
    intro st r h
    simp only [runD, runOps, Option.bind_eq_some_iff] at h ⊢
    obtain ⟨s1, h1, h2⟩ := h
    refine ⟨s1, ?_, ih h2⟩
    unfold stepD at h1
    split at h1
    · exact h1
    · cases h1
theorem hset_ne {h : Heap} {κ key : Nat} {blk : Blk} (hk : (key == κ) = false) : hset h κ blk key = h key := by
  have : key ≠ κ := by simpa using hk
  simp [hset, this]
mutual
theorem low_fr {h : Heap} {κ : Nat} {blk : Blk} : ∀ (v : AV), hasKey κ v = false → low (hset h κ blk) v = low h v
  | .ms key g off len, hv => by simp only [hasKey] at hv; simp only [low, hset_ne hv]
  | .vp key g off, hv => by simp only [hasKey] at hv; simp only [low, hset_ne hv]
  | .rp .., _ => by simp only [low]
  | .agg cs, hv => by simp only [hasKey] at hv; simp only [low, lows_fr cs hv]
  | .tup cs, hv => by simp only [hasKey] at hv; simp only [low, lows_fr cs hv]
  | .fn f cs, hv => by simp only [hasKey] at hv; simp only [low, lows_fr cs hv]
  | .sl k o es, _ => by cases o <;> simp only [low]
  | .un, _ => by simp only [low]
  | .int .., _ => by simp only [low]
  | .bool .., _ => by simp only [low]
  | .str .., _ => by simp only [low]
  | .cp .., _ => by simp only [low]
  | .xp .., _ => by simp only [low]
  | .nilf, _ => by simp only [low]
  | .ud, _ => by simp only [low]
theorem lows_fr {h : Heap} {κ : Nat} {blk : Blk} : ∀ (vs : List AV), hasKeys κ vs = false → lows (hset h κ blk) vs = lows h vs
  | [], _ => by simp only [lows]
  | v :: vs, hv => by
    simp only [hasKeys, Bool.or_eq_false_iff] at hv
    simp only [lows, low_fr v hv.1, lows_fr vs hv.2]
end
theorem hasKeys_append {κ : Nat} : ∀ (a b : List AV), hasKeys κ (a ++ b) = (hasKeys κ a || hasKeys κ b)
  | [], b => by simp [hasKeys]
  | x :: a, b => by simp [hasKeys, hasKeys_append a b, Bool.or_assoc]
theorem hasKeys_map {κ : Nat} {f : Operand → AV} : ∀ (l : List Operand), (∀ x ∈ l, hasKey κ (f x) = false) → hasKeys κ (l.map f) = false
  | [], _ => by simp [hasKeys]
  | x :: l, h => by simp [hasKeys, h x (by simp), hasKeys_map l fun y hy => h y (by simp [hy])]
theorem loadV_fr {E : Env} {h : Heap} {κ t : Nat} {blk : Blk} {p : AV} (hp : hasKey κ p = false) : loadV E (hset h κ blk) t p = loadV E h t p := by
  cases p <;> simp only [hasKey] at hp <;> simp only [loadV] <;> rw [hset_ne hp]
theorem sliceV_fr {E : Env} {h : Heap} {κ t : Nat} {blk : Blk} {x : AV} {lo hi mx : Option AV} (hp : hasKey κ x = false) : sliceV E (hset h κ blk) t x lo hi mx = sliceV E h t x lo hi mx := by
  cases x <;> simp only [hasKey] at hp <;> simp only [sliceV] <;> rw [hset_ne hp]
theorem indexA_fr {E : Env} {h : Heap} {κ t : Nat} {blk : Blk} {x i : AV} (hp : hasKey κ x = false) : indexA E (hset h κ blk) t x i = indexA E h t x i := by
  cases x <;> simp only [hasKey] at hp <;> simp only [indexA] <;> first | rfl | rw [hset_ne hp]
theorem evOp_fr {E : Env} {call : CallT} {fid : Nat} {st : St} {κ : Nat} {blk : Blk} {o : Oper} (he : effOf E fid o = .read) (hk : ∀ x ∈ o.op.operands.toList, hasKey κ (st.ev x) = false) :
    evOp E call fid { st with h := hset st.h κ blk } o = (evOp E call fid st o).map fun p => (p.1, hset st.h κ blk) := by
  have hev : ({ st with h := hset st.h κ blk } : St).ev = st.ev := by funext x; cases x <;> rfl
  have hm : ∀ (x : Option AV) (h1 h2 : Heap), (x.map fun y => (y, h1)) = (x.map fun y => (y, h2)).map fun p => (p.1, h1) := by
    intro x h1 h2; cases x <;> rfl
  unfold evOp
  unfold effOf at he
  cases hop : o.op <;> rw [hop] at he hk <;> simp only at he <;> first | (cases he; done) | skip
  case makeFunc => split at he <;> cases he
  case load t x =>
    simp only [hev]
    rw [loadV_fr (hk x (by simp [Op.operands]))]
    exact hm _ _ _
  case slice t x lo hi mx =>
    simp only [hev]
    rw [sliceV_fr (hk x (by simp [Op.operands]))]
    split
    · rfl
    · exact hm _ _ _
  case indexAddr t x i =>
    simp only [hev]
    rw [indexA_fr (hk x (by simp [Op.operands]))]
    exact hm _ _ _
  case call c =>
    simp only [evCall]
    cases hc : c.callee with
    | builtin b => rw [hc] at he; cases b <;> simp only at he <;> cases he
    | invoke r m => rw [hc] at he; cases he
    | value f =>
      rw [hc] at he
      cases f <;> simp only at he <;> first | (cases he; done) | skip
      rename_i g
      by_cases hcond : byVal E fid g o.dst = true
      case neg => rw [if_neg hcond] at he; cases he
      simp only [St.ev, List.append_nil]
      have hargs : hasKeys κ (c.args.toList.map st.ev) = false := hasKeys_map _ fun x hx => hk x (by simp [Op.operands, Call.operands]; exact .inr (by simpa using hx))
      have hev2 : c.args.toList.map ({ st with h := hset st.h κ blk } : St).ev = c.args.toList.map st.ev := by rw [hev]
      have hev3 : (St.ev { s := st.s, h := hset st.h κ blk, off := st.off, nt := st.nt }) = st.ev := hev
      simp only [hev3]
      unfold callFn
      have hdp : E.deep g = false := by simp only [byVal, Bool.and_eq_true, Bool.not_eq_true'] at hcond; exact hcond.1.1.1
      simp only [hdp, Bool.false_eq_true, if_false]
      simp only [lows_fr _ hargs]
      cases hx : extV E g (lows st.h (c.args.toList.map st.ev)) with
      | some F =>
        simp only [byVal, Bool.and_eq_true, Bool.not_eq_true'] at hcond
        simp only [extR, hcond.1.1.2, Bool.false_eq_true, if_false]
        rfl
      | none =>
        simp only [byVal, Bool.and_eq_true, Bool.not_eq_true'] at hcond
        simp only [hcond.1.2, Bool.false_eq_true, if_false]
        cases call g (lows st.h (c.args.toList.map st.ev)) hnil 0 with
        | none => rfl
        | some p =>
          simp only [Option.bind_some]
          unfold mat
          cases hd : o.dst with
          | none => rfl
          | some d =>
            rw [hd] at hcond
            have : E.mat fid d = 0 := by simpa using hcond.2
            simp only [this]
            rfl
theorem keysFree_reads {s1 s2 : St} {D : List Nat} {o : Oper} (ho : s1.off = s2.off) (h : ∀ t ∈ tmpsOf o.op.operands.toList, s1.s t = s2.s t) : keysFree s1 D o = keysFree s2 D o := by
  unfold keysFree
  have ha := agree_of h
  have : ∀ d, (o.op.operands.toList.all fun x => !hasKey (s1.off + d) (s1.ev x)) = (o.op.operands.toList.all fun x => !hasKey (s2.off + d) (s2.ev x)) := by
    intro d
    rw [Bool.eq_iff_iff, List.all_eq_true, List.all_eq_true, ho]
    constructor
    · intro hh x hx; rw [← ha x hx]; exact hh x hx
    · intro hh x hx; rw [ha x hx]; exact hh x hx
  simp only [this]
theorem keysFree_step {E : Env} {call : CallT} {fid : Nat} {ops : Array Oper} {st s' : St} {a b : Oper} {D : List Nat} (hra : ∀ x ∈ a.dst.toList, ∀ t ∈ readsOf ops b, x ≠ t) (h : stepOp E call fid ops st a = some s') : keysFree s' D b = keysFree st D b := by
  rw [stepOp_act, Option.map_eq_some_iff] at h
  obtain ⟨p, _, rfl⟩ := h
  exact keysFree_reads put_off fun t ht => put_s fun x hx => hra x hx t (by simp [readsOf, ht])

theorem alloc_act {E : Env} {call : CallT} {fid : Nat} {ops : Array Oper} {st : St} {a : Oper} (ha : isAlloc a = true) {p : AV × Heap} (h : act E call fid ops st a = some p) : p.2 = st.h ∨ ∃ blk, p.2 = hset st.h (st.off + a.dst.getD 0) blk := by
  unfold act at h
  split at h
  · split at h
    · unfold isAlloc at ha
      unfold evOp at h
      cases hop : a.op <;> rw [hop] at ha h <;> simp only at ha <;> first | (cases ha; done) | skip
      simp only at h
      split at h
      · cases h
      · unfold newVarV at h
        split at h
        · obtain rfl := Option.some.inj h; exact .inr ⟨_, rfl⟩
        · cases h
    · obtain rfl := Option.some.inj h; exact .inl rfl
    · cases h
  · cases h

theorem comm_alloc {E : Env} {call : CallT} {fid : Nat} {ops : Array Oper} {a b : Oper} {D : List Nat} {st : St} (hi : allocRead E fid ops a b = true) (hD : ∀ d, a.dst = some d → d ∈ D) (hk : keysFree st D b = true) :
    (stepOp E call fid ops st b).bind (stepOp E call fid ops · a) = (stepOp E call fid ops st a).bind (stepOp E call fid ops · b) := by
  simp only [allocRead, Bool.and_eq_true, beq_iff_eq] at hi
  obtain ⟨⟨⟨⟨haa, hsome⟩, heb⟩, hd1⟩, hd2⟩ := hi
  obtain ⟨d, hd⟩ := Option.isSome_iff_exists.1 hsome
  have hda : ∀ x ∈ a.dst.toList, ∀ y ∈ b.dst.toList, x ≠ y := by
    intro x hx y hy e
    subst e
    have := List.all_eq_true.1 hd1 x hx
    simp only [List.contains_eq_mem, List.mem_append, Bool.not_eq_true', decide_eq_false_iff_not, not_or] at this
    exact this.1 hy
  have hra : ∀ x ∈ a.dst.toList, ∀ t ∈ readsOf ops b, x ≠ t := by
    intro x hx t ht e
    subst e
    have := List.all_eq_true.1 hd1 x hx
    simp only [List.contains_eq_mem, List.mem_append, Bool.not_eq_true', decide_eq_false_iff_not, not_or] at this
    exact this.2 ht
  have hrb : ∀ x ∈ b.dst.toList, ∀ t ∈ readsOf ops a, x ≠ t := by
    intro x hx t ht e
    subst e
    have := List.all_eq_true.1 hd2 x hx
    simp only [List.contains_eq_mem, Bool.not_eq_true', decide_eq_false_iff_not] at this
    exact this ht
  have hkd : ∀ x ∈ b.op.operands.toList, hasKey (st.off + d) (st.ev x) = false := by
    intro x hx
    have := List.all_eq_true.1 hk d (hD d hd)
    simpa using List.all_eq_true.1 this x hx
  simp only [stepOp_act]
  have ra : ∀ vb, act E call fid ops (st.put b.dst vb st.h) a = act E call fid ops st a := fun vb =>
    act_reads put_nt put_off put_h fun t ht => put_s fun x hx => hrb x hx t ht
  -- b behind a: the same, in the new memory
  have rb : ∀ va blk, act E call fid ops (st.put a.dst va (hset st.h (st.off + d) blk)) b = (act E call fid ops st b).map fun p => (p.1, hset st.h (st.off + d) blk) := by
    intro va blk
    have h1 : act E call fid ops (st.put a.dst va (hset st.h (st.off + d) blk)) b = act E call fid ops { st with h := hset st.h (st.off + d) blk } b :=
      act_reads put_nt put_off put_h fun t ht => put_s fun x hx => hra x hx t ht
    rw [h1]
    unfold act
    have h2 : dstOk { st with h := hset st.h (st.off + d) blk } b = dstOk st b := rfl
    have h3 : wantedV ops { st with h := hset st.h (st.off + d) blk } b = wantedV ops st b := rfl
    rw [h2, h3]
    split
    · split
      · exact evOp_fr heb hkd
      · rfl
      · rfl
    · rfl
  have rb0 : ∀ va, act E call fid ops (st.put a.dst va st.h) b = act E call fid ops st b := fun va =>
    act_reads put_nt put_off put_h fun t ht => put_s fun x hx => hra x hx t ht
  have kb := fun p => act_keeps (E := E) (call := call) (fid := fid) (ops := ops) (st := st) (o := b) (p := p) (by rw [heb]; simp)
  cases hA : act E call fid ops st a with
  | none =>
    cases hB : act E call fid ops st b with
    | none => rfl
    | some q =>
      simp only [Option.map_some, Option.map_none, Option.bind_some, Option.bind_none]
      rw [kb q hB, ra, hA]; rfl
  | some p =>
    cases hB : act E call fid ops st b with
    | none =>
      simp only [Option.map_some, Option.map_none, Option.bind_some, Option.bind_none]
      rcases alloc_act haa hA with h1 | ⟨blk, h1⟩
      · rw [h1, rb0, hB]; rfl
      · rw [h1, hd, Option.getD_some, ← hd, rb, hB]; rfl
    | some q =>
      simp only [Option.map_some, Option.bind_some]
      rw [kb q hB, ra, hA]
      rcases alloc_act haa hA with h1 | ⟨blk, h1⟩
      · rw [h1, rb0, hB]
        simp only [Option.map_some, h1, kb q hB]
        rw [put_comm (fun x hx y hy => hda x hx y hy) rfl]
      · rw [h1, hd, Option.getD_some, ← hd, rb, hB]
        simp only [Option.map_some, h1, hd, Option.getD_some]
        rw [← hd, put_comm (fun x hx y hy => hda x hx y hy) rfl]

theorem stepD_comm {E : Env} {call : CallT} {fid : Nat} {ops : Array Oper} {a b : Oper} {D : List Nat} (hDa : ∀ d, isAlloc a = true → a.dst = some d → d ∈ D) (hDb : ∀ d, isAlloc b = true → b.dst = some d → d ∈ D) (hi : indep2 E fid ops a b = true) (st : St) :
    (stepD E call fid ops D st b).bind (stepD E call fid ops D · a) = (stepD E call fid ops D st a).bind (stepD E call fid ops D · b) := by
  have hdis : (∀ x ∈ a.dst.toList, ∀ t ∈ readsOf ops b, x ≠ t) ∧ (∀ x ∈ b.dst.toList, ∀ t ∈ readsOf ops a, x ≠ t) := by
    have key : ∀ a b : Oper, (a.dst.toList.all fun d => !(b.dst.toList ++ readsOf ops b).contains d) = true → (b.dst.toList.all fun d => !(readsOf ops a).contains d) = true → (∀ x ∈ a.dst.toList, ∀ t ∈ readsOf ops b, x ≠ t) ∧ (∀ x ∈ b.dst.toList, ∀ t ∈ readsOf ops a, x ≠ t) := by
      intro a b h1 h2
      constructor
      · intro x hx t ht e
        subst e
        have := List.all_eq_true.1 h1 x hx
        simp only [List.contains_eq_mem, List.mem_append, Bool.not_eq_true', decide_eq_false_iff_not, not_or] at this
        exact this.2 ht
      · intro x hx t ht e
        subst e
        have := List.all_eq_true.1 h2 x hx
        simp only [List.contains_eq_mem, Bool.not_eq_true', decide_eq_false_iff_not] at this
        exact this ht
    simp only [indep2, Bool.or_eq_true] at hi
    rcases hi with (h | h) | h
    · simp only [indep, Bool.and_eq_true] at h; exact key a b h.1.2 h.2
    · simp only [allocRead, Bool.and_eq_true] at h; exact key a b h.1.2 h.2
    · simp only [allocRead, Bool.and_eq_true] at h; exact ⟨(key b a h.1.2 h.2).2, (key b a h.1.2 h.2).1⟩
  have e1 : (stepD E call fid ops D st b).bind (stepD E call fid ops D · a) = if (!readish E fid a || keysFree st D a) && (!readish E fid b || keysFree st D b) then (stepOp E call fid ops st b).bind (stepOp E call fid ops · a) else none := by
    unfold stepD
    by_cases hb : (!readish E fid b || keysFree st D b) = true
    · rw [if_pos hb, hb, Bool.and_true]
      cases hs : stepOp E call fid ops st b with
      | none => simp
      | some s' =>
        simp only [Option.bind_some]
        rw [keysFree_step hdis.2 hs]
    · rw [if_neg hb]
      have : (!readish E fid b || keysFree st D b) = false := by simpa using hb
      rw [this]; simp
  have e2 : (stepD E call fid ops D st a).bind (stepD E call fid ops D · b) = if (!readish E fid a || keysFree st D a) && (!readish E fid b || keysFree st D b) then (stepOp E call fid ops st a).bind (stepOp E call fid ops · b) else none := by
    unfold stepD
    by_cases ha : (!readish E fid a || keysFree st D a) = true
    · rw [if_pos ha, ha, Bool.true_and]
      cases hs : stepOp E call fid ops st a with
      | none => simp
      | some s' =>
        simp only [Option.bind_some]
        rw [keysFree_step hdis.1 hs]
    · rw [if_neg ha]
      have : (!readish E fid a || keysFree st D a) = false := by simpa using ha
      rw [this]; simp
  rw [e1, e2]
  split
  · rename_i hc
    simp only [Bool.and_eq_true] at hc
    simp only [indep2, Bool.or_eq_true] at hi
    rcases hi with (h | h) | h
    · exact step_comm h st
    · have hb : keysFree st D b = true := by
        have he : effOf E fid b = .read := by simp only [allocRead, Bool.and_eq_true, beq_iff_eq] at h; exact h.1.1.2
        have := hc.2; simpa [readish, he] using this
      have haa : isAlloc a = true := by simp only [allocRead, Bool.and_eq_true] at h; exact h.1.1.1.1
      exact comm_alloc h (fun d hd => hDa d haa hd) hb
    · have ha : keysFree st D a = true := by
        have he : effOf E fid a = .read := by simp only [allocRead, Bool.and_eq_true, beq_iff_eq] at h; exact h.1.1.2
        have := hc.1; simpa [readish, he] using this
      have hbb : isAlloc b = true := by simp only [allocRead, Bool.and_eq_true] at h; exact h.1.1.1.1
      exact (comm_alloc h (fun d hd => hDb d hbb hd) ha).symm
  · rfl

/- rows that are taken over beside reads -/
theorem hset_comm {h : Heap} {a b : Nat} {x y : Blk} (hab : a ≠ b) : hset (hset h a x) b y = hset (hset h b y) a x := by
  funext k
  simp only [hset]
  by_cases h1 : k = a
  · subst h1; simp [hab]
  · simp [h1]
theorem nextG_ne {h : Heap} {κ key : Nat} {blk : Blk} (hk : key ≠ κ) : nextG (hset h κ blk) key = nextG h key := by simp [nextG, hset, hk]
theorem elemsOf_fr {h : Heap} {κ : Nat} {blk : Blk} {y : AV} (hy : hasKey κ y = false) : elemsOf (hset h κ blk) y = elemsOf h y := by
  cases y with
  | sl k o es => cases o <;> rfl
  | ms key g off len =>
    simp only [hasKey, beq_eq_false_iff_ne] at hy
    simp [elemsOf, hset, hy]
  | _ => rfl
theorem appendR_fr {E : Env} {h : Heap} {key κ t : Nat} {blk : Blk} {x y : AV} (hκ : key ≠ κ) (hy : hasKey κ y = false) :
    (appendR E (hset h κ blk) key t x y = (appendR E h key t x y).map fun p => (p.1, hset p.2 κ blk)) ∧ ∀ p, appendR E h key t x y = some p → p.2 = h ∨ ∃ b, p.2 = hset h key b := by
  unfold appendR
  rw [elemsOf_fr hy, nextG_ne hκ]
  split
  · split
    · split
      · exact ⟨rfl, fun p hp => by cases hp⟩
      · split
        · exact ⟨rfl, fun p hp => by cases hp⟩
        · split
          · exact ⟨rfl, fun p hp => by obtain rfl := Option.some.inj hp; exact .inl rfl⟩
          · split
            · exact ⟨by simp only [Option.map_some]; rw [hset_comm hκ.symm], fun p hp => by obtain rfl := Option.some.inj hp; exact .inr ⟨_, rfl⟩⟩
            · exact ⟨rfl, fun p hp => by cases hp⟩
    · exact ⟨rfl, fun p hp => by cases hp⟩
  · exact ⟨rfl, fun p hp => by cases hp⟩
theorem appArgsR_fr {E : Env} {h : Heap} {key κ : Nat} {blk : Blk} {args : List AV} {ts : List Nat} (hκ : key ≠ κ) (hy : hasKeys κ args = false) :
    (appArgsR E (hset h κ blk) key args ts = (appArgsR E h key args ts).map fun p => (p.1, hset p.2 κ blk)) ∧ ∀ p, appArgsR E h key args ts = some p → p.2 = h ∨ ∃ b, p.2 = hset h key b := by
  unfold appArgsR
  split
  · simp only [hasKeys, Bool.or_eq_false_iff] at hy
    split
    · exact appendR_fr hκ hy.2.1
    · exact ⟨rfl, fun p hp => by cases hp⟩
  · exact ⟨rfl, fun p hp => by cases hp⟩
/-- what is fresh writes its own key, whatever else is there -/
theorem evOp_fr3 {E : Env} {call : CallT} {fid : Nat} {st : St} {κ : Nat} {blk : Blk} {o : Oper} {d : Nat} (hd : o.dst = some d) (hκ : st.off + d ≠ κ) (he : isFresh E fid o = true) (hk : freshCall E fid o = true → ∀ x ∈ o.op.operands.toList, hasKey κ (st.ev x) = false) :
    (evOp E call fid { st with h := hset st.h κ blk } o = (evOp E call fid st o).map fun p => (p.1, hset p.2 κ blk)) ∧ ∀ p, evOp E call fid st o = some p → p.2 = st.h ∨ ∃ b, p.2 = hset st.h (st.off + d) b := by
  have hev : ({ st with h := hset st.h κ blk } : St).ev = st.ev := by funext x; cases x <;> rfl
  unfold isFresh at he
  unfold evOp
  cases hop : o.op <;> simp only [isAlloc, isMake, freshCall, hop, Bool.or_eq_true, Bool.false_eq_true, or_self, or_false, false_or] at he hk <;> first | (cases he; done) | skip
  case makeSlice t l c =>
    have hev3 : (St.ev { s := st.s, h := hset st.h κ blk, off := st.off, nt := st.nt }) = st.ev := hev
    simp only [hd, Option.getD_some, hev3]
    unfold makeV
    rw [nextG_ne hκ]
    split
    · split
      · simp only [Option.map_some]
        exact ⟨by rw [hset_comm hκ.symm], fun p hp => by obtain rfl := Option.some.inj hp; exact .inr ⟨_, rfl⟩⟩
      · exact ⟨rfl, fun p hp => by cases hp⟩
    · exact ⟨rfl, fun p hp => by cases hp⟩
  case alloc T =>
    simp only [hd, Option.getD_some]
    by_cases hz : E.size T = 0
    · simp [hz]
    · simp only [hz, if_false]
      unfold newVarV
      rw [nextG_ne hκ]
      by_cases hc : (E.zero T).cells.all AV.one = true
      · simp only [hc, if_true, Option.map_some]
        exact ⟨by rw [hset_comm hκ.symm], fun p hp => by obtain rfl := Option.some.inj hp; exact .inr ⟨_, rfl⟩⟩
      · simp [hc]
  case call c =>
    simp only [evCall]
    cases hc : c.callee with
    | builtin b =>
      rw [hc] at he hk
      simp only at he hk
      have hk := hk he
      rw [hd] at he
      have hargs : hasKeys κ (c.args.toList.map st.ev) = false := hasKeys_map _ fun x hx => hk x (by simp [Op.operands, Call.operands, hc]; simpa using hx)
      have hev3 : (St.ev { s := st.s, h := hset st.h κ blk, off := st.off, nt := st.nt }) = st.ev := hev
      simp only [hev3, if_pos he, hd, Option.getD_some]
      exact appArgsR_fr hκ hargs
    | invoke r m => rw [hc] at he; cases he
    | value f =>
      rw [hc] at he hk
      cases f <;> simp only at he hk <;> first | (cases he; done) | skip
      rename_i g
      have hk := hk he
      simp only [hd, Bool.and_eq_true, Bool.not_eq_true', beq_iff_eq] at he
      obtain ⟨⟨⟨hdp, hw⟩, ho⟩, hm⟩ := he
      simp only [St.ev, List.append_nil]
      have hargs : hasKeys κ (c.args.toList.map st.ev) = false := hasKeys_map _ fun x hx => hk x (by simp [Op.operands, Call.operands]; exact .inr (by simpa using hx))
      have hev3 : (St.ev { s := st.s, h := hset st.h κ blk, off := st.off, nt := st.nt }) = st.ev := hev
      simp only [hev3]
      unfold callFn
      simp only [hdp, Bool.false_eq_true, if_false]
      simp only [lows_fr _ hargs]
      cases hx : extV E g (lows st.h (c.args.toList.map st.ev)) with
      | some F =>
        simp only [extR, hw, Bool.false_eq_true, if_false]
        exact ⟨rfl, fun p hp => by obtain rfl := Option.some.inj hp; exact .inl rfl⟩
      | none =>
      simp only [ho, Bool.false_eq_true, if_false]
      cases call g (lows st.h (c.args.toList.map st.ev)) hnil 0 with
      | none => exact ⟨rfl, fun p hp => by cases hp⟩
      | some p =>
        simp only [Option.bind_some]
        unfold mat
        simp only [hd, hm, nextG_ne hκ]
        cases expo p.2 p.1 with
        | sl k ow es =>
          cases ow with
          | ex T key =>
            cases es with
            | nil => simp
            | cons e0 es0 =>
              simp only
              by_cases hf : (e0 :: es0).all flat = true ∧ (e0 :: es0) ≠ []
              · simp only [if_pos hf, Option.map_some]
                exact ⟨by rw [hset_comm hκ.symm], fun p hp => by obtain rfl := Option.some.inj hp; exact .inr ⟨_, rfl⟩⟩
              · simp only [if_neg hf, Option.map_none]
                exact ⟨trivial, fun p hp => by cases hp⟩
          | _ =>
            cases es with
            | nil => simp
            | cons e0 es0 => simp
        | xp T key v =>
          simp only [Option.map_some]
          exact ⟨by rw [hset_comm hκ.symm], fun p hp => by obtain rfl := Option.some.inj hp; exact .inr ⟨_, rfl⟩⟩
        | _ => simp

theorem act_fr3 {E : Env} {call : CallT} {fid : Nat} {ops : Array Oper} {st : St} {κ : Nat} {blk : Blk} {o : Oper} (hd : o.dst.isSome = true) (hκ : ∀ d ∈ o.dst.toList, st.off + d ≠ κ) (he : effOf E fid o = .read ∨ isFresh E fid o = true) (hk : readish E fid o = true → ∀ x ∈ o.op.operands.toList, hasKey κ (st.ev x) = false) :
    act E call fid ops { st with h := hset st.h κ blk } o = (act E call fid ops st o).map fun p => (p.1, hset p.2 κ blk) := by
  unfold act
  have h2 : dstOk { st with h := hset st.h κ blk } o = dstOk st o := rfl
  have h3 : wantedV ops { st with h := hset st.h κ blk } o = wantedV ops st o := rfl
  rw [h2, h3]
  obtain ⟨d, hd'⟩ := Option.isSome_iff_exists.1 hd
  split
  · split
    · rcases he with he | he
      · rw [evOp_fr he (hk (by simp [readish, he]))]
        cases hv : evOp E call fid st o with
        | none => rfl
        | some p =>
          have := evOp_keeps (E := E) (call := call) (fid := fid) (st := st) (o := o) (by rw [he]; simp) hv
          simp [this]
      · exact (evOp_fr3 hd' (hκ d (by simp [hd'])) he fun hf => hk (by simp [readish, hf])).1
    · rfl
    · rfl
  · rfl
theorem act_keeps3 {E : Env} {call : CallT} {fid : Nat} {ops : Array Oper} {st : St} {o : Oper} {d : Nat} (hd : o.dst = some d) (he : isFresh E fid o = true) {p : AV × Heap} (h : act E call fid ops st o = some p) : p.2 = st.h ∨ ∃ b, p.2 = hset st.h (st.off + d) b := by
  unfold act at h
  split at h
  · split at h
    · -- the key is no matter: any other key, beside which nothing is read
      unfold isFresh at he
      unfold evOp at h
      cases hop : o.op <;> simp only [isAlloc, isMake, freshCall, hop, Bool.or_eq_true, Bool.false_eq_true, or_self, or_false, false_or] at he h <;> first | (cases he; done) | skip
      case makeSlice t l c =>
        simp only [hd, Option.getD_some] at h
        unfold makeV at h
        split at h
        · split at h
          · obtain rfl := Option.some.inj h; exact .inr ⟨_, rfl⟩
          · cases h
        · cases h
      case alloc T =>
        simp only [hd, Option.getD_some] at h
        split at h
        · cases h
        · unfold newVarV at h
          split at h
          · obtain rfl := Option.some.inj h; exact .inr ⟨_, rfl⟩
          · cases h
      case call c =>
        simp only [evCall] at h
        cases hc : c.callee with
        | builtin b =>
          rw [hc] at he h
          simp only at he h
          rw [hd] at he h
          simp only [if_pos he, Option.getD_some] at h
          unfold appArgsR at h
          split at h
          · split at h
            · unfold appendR at h
              repeat' split at h
              all_goals first | (cases h; done) | (obtain rfl := Option.some.inj h; first | exact .inl rfl | exact .inr ⟨_, rfl⟩)
            · cases h
          · cases h
        | invoke r m => rw [hc] at he; cases he
        | value f =>
          rw [hc] at he h
          cases f <;> simp only at he <;> first | (cases he; done) | skip
          rename_i g
          simp only [hd, Bool.and_eq_true, Bool.not_eq_true', beq_iff_eq] at he
          obtain ⟨⟨⟨hdp, hw⟩, ho⟩, hm⟩ := he
          simp only [St.ev, List.append_nil] at h
          unfold callFn at h
          simp only [hdp, Bool.false_eq_true, if_false] at h
          cases hx : extV E g (lows st.h (c.args.toList.map st.ev)) with
          | some F => rw [hx] at h; simp only [extR, hw, Bool.false_eq_true, if_false] at h; obtain rfl := Option.some.inj h; exact .inl rfl
          | none =>
          rw [hx] at h
          simp only [ho, Bool.false_eq_true, if_false, Option.bind_eq_some_iff] at h
          obtain ⟨q, _, h⟩ := h
          unfold mat at h
          simp only [hd, hm] at h
          cases hr : expo q.2 q.1 <;> rw [hr] at h <;> (try simp only at h) <;> first | (cases h; done) | skip
          · rename_i k ow es
            cases ow <;> cases es <;> (try simp only at h) <;> first | (cases h; done) | (obtain rfl := Option.some.inj h; exact .inl rfl) | skip
            split at h
            · obtain rfl := Option.some.inj h; exact .inr ⟨_, rfl⟩
            · cases h
          · obtain rfl := Option.some.inj h; exact .inr ⟨_, rfl⟩
    · obtain rfl := Option.some.inj h; exact .inl rfl
    · cases h
  · cases h

theorem comm_fresh {E : Env} {call : CallT} {fid : Nat} {ops : Array Oper} {a b : Oper} {D : List Nat} {st : St} (hi : freshRead E fid ops a b = true) (hDa : ∀ d, a.dst = some d → d ∈ D) (hDb : isFresh E fid b = true → ∀ d, b.dst = some d → d ∈ D)
    (hka : readish E fid a = true → keysFree st D a = true) (hk : readish E fid b = true → keysFree st D b = true) :
    (stepOp E call fid ops st b).bind (stepOp E call fid ops · a) = (stepOp E call fid ops st a).bind (stepOp E call fid ops · b) := by
  simp only [freshRead, Bool.and_eq_true, Bool.or_eq_true, beq_iff_eq] at hi
  obtain ⟨⟨⟨⟨haa, hsome⟩, heb⟩, hd1⟩, hd2⟩ := hi
  obtain ⟨d, hd⟩ := Option.isSome_iff_exists.1 hsome
  have hda : ∀ x ∈ a.dst.toList, ∀ y ∈ b.dst.toList, x ≠ y := by
    intro x hx y hy e
    subst e
    have := List.all_eq_true.1 hd1 x hx
    simp only [List.contains_eq_mem, List.mem_append, Bool.not_eq_true', decide_eq_false_iff_not, not_or] at this
    exact this.1 hy
  have hra : ∀ x ∈ a.dst.toList, ∀ t ∈ readsOf ops b, x ≠ t := by
    intro x hx t ht e
    subst e
    have := List.all_eq_true.1 hd1 x hx
    simp only [List.contains_eq_mem, List.mem_append, Bool.not_eq_true', decide_eq_false_iff_not, not_or] at this
    exact this.2 ht
  have hrb : ∀ x ∈ b.dst.toList, ∀ t ∈ readsOf ops a, x ≠ t := by
    intro x hx t ht e
    subst e
    have := List.all_eq_true.1 hd2 x hx
    simp only [List.contains_eq_mem, Bool.not_eq_true', decide_eq_false_iff_not] at this
    exact this ht
  have free : ∀ (o : Oper) (d : Nat), d ∈ D → (readish E fid o = true → keysFree st D o = true) → readish E fid o = true → ∀ x ∈ o.op.operands.toList, hasKey (st.off + d) (st.ev x) = false := by
    intro o d hd hk hr x hx
    have := List.all_eq_true.1 (hk hr) d hd
    simpa using List.all_eq_true.1 this x hx
  simp only [stepOp_act]
  have ra0 : ∀ vb, act E call fid ops (st.put b.dst vb st.h) a = act E call fid ops st a := fun vb =>
    act_reads put_nt put_off put_h fun t ht => put_s fun x hx => hrb x hx t ht
  have rb0 : ∀ va, act E call fid ops (st.put a.dst va st.h) b = act E call fid ops st b := fun va =>
    act_reads put_nt put_off put_h fun t ht => put_s fun x hx => hra x hx t ht
  by_cases hbs : b.dst.isSome = true
  case neg =>
    -- b has no place of its own: it reads, or is not there
    have hbr : effOf E fid b = .read := by rcases heb with h | h; exact h; exact (hbs h.2).elim
    have kb := fun p => act_keeps (E := E) (call := call) (fid := fid) (ops := ops) (st := st) (o := b) (p := p) (by rw [hbr]; simp)
    have hkd := free b d (hDa d hd) hk (by simp [readish, hbr])
    have rb : ∀ va blk, act E call fid ops (st.put a.dst va (hset st.h (st.off + d) blk)) b = (act E call fid ops st b).map fun p => (p.1, hset st.h (st.off + d) blk) := by
      intro va blk
      have h1 : act E call fid ops (st.put a.dst va (hset st.h (st.off + d) blk)) b = act E call fid ops { st with h := hset st.h (st.off + d) blk } b :=
        act_reads put_nt put_off put_h fun t ht => put_s fun x hx => hra x hx t ht
      rw [h1]
      unfold act
      have h2 : dstOk { st with h := hset st.h (st.off + d) blk } b = dstOk st b := rfl
      have h3 : wantedV ops { st with h := hset st.h (st.off + d) blk } b = wantedV ops st b := rfl
      rw [h2, h3]
      split
      · split
        · exact evOp_fr hbr hkd
        · rfl
        · rfl
      · rfl
    cases hA : act E call fid ops st a with
    | none =>
      cases hB : act E call fid ops st b with
      | none => rfl
      | some q => simp only [Option.map_some, Option.map_none, Option.bind_some, Option.bind_none]; rw [kb q hB, ra0, hA]; rfl
    | some p =>
      cases hB : act E call fid ops st b with
      | none =>
        simp only [Option.map_some, Option.map_none, Option.bind_some, Option.bind_none]
        rcases act_keeps3 hd haa hA with h1 | ⟨blk, h1⟩
        · rw [h1, rb0, hB]; rfl
        · rw [h1, rb, hB]; rfl
      | some q =>
        simp only [Option.map_some, Option.bind_some]
        rw [kb q hB, ra0, hA]
        rcases act_keeps3 hd haa hA with h1 | ⟨blk, h1⟩
        · rw [h1, rb0, hB]
          simp only [Option.map_some, h1, kb q hB]
          rw [put_comm (fun x hx y hy => hda x hx y hy) rfl]
        · rw [h1, rb, hB]
          simp only [Option.map_some, h1]
          rw [put_comm (fun x hx y hy => hda x hx y hy) rfl]
  obtain ⟨d2, hd2'⟩ := Option.isSome_iff_exists.1 hbs
  have hdd : d ≠ d2 := hda d (by simp [hd]) d2 (by simp [hd2'])
  have heb' : effOf E fid b = .read ∨ isFresh E fid b = true := heb.imp_right (·.1)
  have rb : ∀ va blk, act E call fid ops (st.put a.dst va (hset st.h (st.off + d) blk)) b = (act E call fid ops st b).map fun p => (p.1, hset p.2 (st.off + d) blk) := by
    intro va blk
    have h1 : act E call fid ops (st.put a.dst va (hset st.h (st.off + d) blk)) b = act E call fid ops { st with h := hset st.h (st.off + d) blk } b :=
      act_reads put_nt put_off put_h fun t ht => put_s fun x hx => hra x hx t ht
    rw [h1]
    exact act_fr3 hbs (fun x hx e => hdd (by simp [hd2'] at hx; subst hx; exact (Nat.add_left_cancel e).symm)) heb' (free b d (hDa d hd) hk)
  have ra : isFresh E fid b = true → ∀ vb blk, act E call fid ops (st.put b.dst vb (hset st.h (st.off + d2) blk)) a = (act E call fid ops st a).map fun p => (p.1, hset p.2 (st.off + d2) blk) := by
    intro hfb vb blk
    have h1 : act E call fid ops (st.put b.dst vb (hset st.h (st.off + d2) blk)) a = act E call fid ops { st with h := hset st.h (st.off + d2) blk } a :=
      act_reads put_nt put_off put_h fun t ht => put_s fun x hx => hrb x hx t ht
    rw [h1]
    exact act_fr3 hsome (fun x hx e => hdd (by simp [hd] at hx; subst hx; exact Nat.add_left_cancel e)) (.inr haa) (free a d2 (hDb hfb d2 hd2') hka)
  -- what b leaves
  have kb : ∀ q, act E call fid ops st b = some q → q.2 = st.h ∨ (isFresh E fid b = true ∧ ∃ blk, q.2 = hset st.h (st.off + d2) blk) := by
    intro q hB
    rcases heb' with h | h
    · exact .inl (act_keeps (by rw [h]; simp) hB)
    · exact (act_keeps3 hd2' h hB).imp_right fun hx => ⟨h, hx⟩
  have hne : st.off + d ≠ st.off + d2 := fun e => hdd (Nat.add_left_cancel e)
  cases hA : act E call fid ops st a with
  | none =>
    cases hB : act E call fid ops st b with
    | none => rfl
    | some q =>
      simp only [Option.map_some, Option.map_none, Option.bind_some, Option.bind_none]
      rcases kb q hB with h1 | ⟨hf, blk, h1⟩
      · rw [h1, ra0, hA]; rfl
      · rw [h1, ra hf, hA]; rfl
  | some p =>
    cases hB : act E call fid ops st b with
    | none =>
      simp only [Option.map_some, Option.map_none, Option.bind_some, Option.bind_none]
      rcases act_keeps3 hd haa hA with h1 | ⟨blk, h1⟩
      · rw [h1, rb0, hB]; rfl
      · rw [h1, rb, hB]; rfl
    | some q =>
      simp only [Option.map_some, Option.bind_some]
      rcases act_keeps3 hd haa hA with h1 | ⟨blk, h1⟩ <;> rcases kb q hB with h2 | ⟨hf, blk2, h2⟩
      · rw [h1, h2, rb0, ra0, hA, hB]
        simp only [Option.map_some, h1, h2]
        rw [put_comm (fun x hx y hy => hda x hx y hy) rfl]
      · rw [h1, h2, rb0, ra hf, hA, hB]
        simp only [Option.map_some, h1, h2]
        rw [put_comm (fun x hx y hy => hda x hx y hy) rfl]
      · rw [h1, h2, rb, ra0, hA, hB]
        simp only [Option.map_some, h1, h2]
        rw [put_comm (fun x hx y hy => hda x hx y hy) rfl]
      · rw [h1, h2, rb, ra hf, hA, hB]
        simp only [Option.map_some, h1, h2]
        exact congrArg some (put_comm (fun x hx y hy => (hda y hy x hx).symm) (hset_comm hne))

theorem stepD_comm3 {E : Env} {call : CallT} {fid : Nat} {ops : Array Oper} {a b : Oper} {D : List Nat} (hDa : ∀ d, isFresh E fid a = true → a.dst = some d → d ∈ D) (hDb : ∀ d, isFresh E fid b = true → b.dst = some d → d ∈ D) (hi : indep3 E fid ops a b = true) (st : St) :
    (stepD E call fid ops D st b).bind (stepD E call fid ops D · a) = (stepD E call fid ops D st a).bind (stepD E call fid ops D · b) := by
  have hdis : (∀ x ∈ a.dst.toList, ∀ t ∈ readsOf ops b, x ≠ t) ∧ (∀ x ∈ b.dst.toList, ∀ t ∈ readsOf ops a, x ≠ t) := by
    have key : ∀ a b : Oper, (a.dst.toList.all fun d => !(b.dst.toList ++ readsOf ops b).contains d) = true → (b.dst.toList.all fun d => !(readsOf ops a).contains d) = true → (∀ x ∈ a.dst.toList, ∀ t ∈ readsOf ops b, x ≠ t) ∧ (∀ x ∈ b.dst.toList, ∀ t ∈ readsOf ops a, x ≠ t) := by
      intro a b h1 h2
      constructor
      · intro x hx t ht e
        subst e
        have := List.all_eq_true.1 h1 x hx
        simp only [List.contains_eq_mem, List.mem_append, Bool.not_eq_true', decide_eq_false_iff_not, not_or] at this
        exact this.2 ht
      · intro x hx t ht e
        subst e
        have := List.all_eq_true.1 h2 x hx
        simp only [List.contains_eq_mem, Bool.not_eq_true', decide_eq_false_iff_not] at this
        exact this ht
    simp only [indep3, Bool.or_eq_true] at hi
    rcases hi with (h | h) | h
    · simp only [indep, Bool.and_eq_true] at h; exact key a b h.1.2 h.2
    · simp only [freshRead, Bool.and_eq_true] at h; exact key a b h.1.2 h.2
    · simp only [freshRead, Bool.and_eq_true] at h; exact ⟨(key b a h.1.2 h.2).2, (key b a h.1.2 h.2).1⟩
  have e1 : (stepD E call fid ops D st b).bind (stepD E call fid ops D · a) = if (!readish E fid a || keysFree st D a) && (!readish E fid b || keysFree st D b) then (stepOp E call fid ops st b).bind (stepOp E call fid ops · a) else none := by
    unfold stepD
    by_cases hb : (!readish E fid b || keysFree st D b) = true
    · rw [if_pos hb, hb, Bool.and_true]
      cases hs : stepOp E call fid ops st b with
      | none => simp
      | some s' =>
        simp only [Option.bind_some]
        rw [keysFree_step hdis.2 hs]
    · rw [if_neg hb]
      have : (!readish E fid b || keysFree st D b) = false := by simpa using hb
      rw [this]; simp
  have e2 : (stepD E call fid ops D st a).bind (stepD E call fid ops D · b) = if (!readish E fid a || keysFree st D a) && (!readish E fid b || keysFree st D b) then (stepOp E call fid ops st a).bind (stepOp E call fid ops · b) else none := by
    unfold stepD
    by_cases ha : (!readish E fid a || keysFree st D a) = true
    · rw [if_pos ha, ha, Bool.true_and]
      cases hs : stepOp E call fid ops st a with
      | none => simp
      | some s' =>
        simp only [Option.bind_some]
        rw [keysFree_step hdis.1 hs]
    · rw [if_neg ha]
      have : (!readish E fid a || keysFree st D a) = false := by simpa using ha
      rw [this]; simp
  rw [e1, e2]
  split
  · rename_i hc
    simp only [Bool.and_eq_true] at hc
    have ka : readish E fid a = true → keysFree st D a = true := fun h => by have := hc.1; simpa [h] using this
    have kb : readish E fid b = true → keysFree st D b = true := fun h => by have := hc.2; simpa [h] using this
    simp only [indep3, Bool.or_eq_true] at hi
    rcases hi with (h | h) | h
    · exact step_comm h st
    · have haa : isFresh E fid a = true := by simp only [freshRead, Bool.and_eq_true] at h; exact h.1.1.1.1
      exact comm_fresh h (fun d hd => hDa d haa hd) (fun hf d hd => hDb d hf hd) ka kb
    · have hbb : isFresh E fid b = true := by simp only [freshRead, Bool.and_eq_true] at h; exact h.1.1.1.1
      exact (comm_fresh h (fun d hd => hDb d hbb hd) (fun hf d hd => hDa d hf hd) kb ka).symm
  · rfl

/- reads beside writes that leave alone what is read -/
mutual
theorem low_ag {h h' : Heap} {p : Nat → Bool} (hp : ∀ κ, p κ = true → h' κ = h κ) : ∀ (v : AV), keysB p v = true → low h' v = low h v
  | .ms key g off len, hv => by simp only [keysB] at hv; simp only [low, hp _ hv]
  | .vp key g off, hv => by simp only [keysB] at hv; simp only [low, hp _ hv]
  | .rp .., _ => by simp only [low]
  | .agg cs, hv => by simp only [keysB] at hv; simp only [low, lows_ag hp cs hv]
  | .tup cs, hv => by simp only [keysB] at hv; simp only [low, lows_ag hp cs hv]
  | .fn f cs, hv => by simp only [keysB] at hv; simp only [low, lows_ag hp cs hv]
  | .sl k o es, _ => by cases o <;> simp only [low]
  | .un, _ => by simp only [low]
  | .int .., _ => by simp only [low]
  | .bool .., _ => by simp only [low]
  | .str .., _ => by simp only [low]
  | .cp .., _ => by simp only [low]
  | .xp .., _ => by simp only [low]
  | .nilf, _ => by simp only [low]
  | .ud, _ => by simp only [low]
theorem lows_ag {h h' : Heap} {p : Nat → Bool} (hp : ∀ κ, p κ = true → h' κ = h κ) : ∀ (vs : List AV), keysBs p vs = true → lows h' vs = lows h vs
  | [], _ => by simp only [lows]
  | v :: vs, hv => by
    simp only [keysBs, Bool.and_eq_true] at hv
    simp only [lows, low_ag hp v hv.1, lows_ag hp vs hv.2]
end
theorem keysBs_map {p : Nat → Bool} {f : Operand → AV} : ∀ (l : List Operand), (∀ x ∈ l, keysB p (f x) = true) → keysBs p (l.map f) = true
  | [], _ => by simp [keysBs]
  | x :: l, h => by simp [keysBs, h x (by simp), keysBs_map l fun y hy => h y (by simp [hy])]
theorem evOp_ag {E : Env} {call : CallT} {fid : Nat} {st : St} {h' : Heap} {p : Nat → Bool} (hp : ∀ κ, p κ = true → h' κ = st.h κ) {o : Oper} (he : effOf E fid o = .read) (hk : ∀ x ∈ o.op.operands.toList, keysB p (st.ev x) = true) :
    evOp E call fid { st with h := h' } o = (evOp E call fid st o).map fun q => (q.1, h') := by
  have hev : ({ st with h := h' } : St).ev = st.ev := by funext x; cases x <;> rfl
  have hm : ∀ (x : Option AV) (h1 h2 : Heap), (x.map fun y => (y, h1)) = (x.map fun y => (y, h2)).map fun p => (p.1, h1) := by
    intro x h1 h2; cases x <;> rfl
  unfold evOp
  unfold effOf at he
  cases hop : o.op <;> rw [hop] at he hk <;> simp only at he <;> first | (cases he; done) | skip
  case makeFunc => split at he <;> cases he
  case load t x =>
    simp only [hev]
    have hx := hk x (by simp [Op.operands])
    have e : loadV E h' t (st.ev x) = loadV E st.h t (st.ev x) := by
      cases hxx : st.ev x <;> rw [hxx] at hx <;> simp only [keysB] at hx <;> simp only [loadV] <;> rw [hp _ hx]
    rw [e]
    exact hm _ _ _
  case slice t x lo hi mx =>
    simp only [hev]
    have hx := hk x (by simp [Op.operands])
    have e : ∀ a b c, sliceV E h' t (st.ev x) a b c = sliceV E st.h t (st.ev x) a b c := fun a b c => by
      cases hxx : st.ev x <;> rw [hxx] at hx <;> simp only [keysB] at hx <;> simp only [sliceV] <;> rw [hp _ hx]
    rw [e]
    split
    · rfl
    · exact hm _ _ _
  case indexAddr t x i =>
    simp only [hev]
    have hx := hk x (by simp [Op.operands])
    have e : indexA E h' t (st.ev x) (st.ev i) = indexA E st.h t (st.ev x) (st.ev i) := by
      cases hxx : st.ev x <;> rw [hxx] at hx <;> simp only [keysB] at hx <;> simp only [indexA] <;> first | rfl | rw [hp _ hx]
    rw [e]
    exact hm _ _ _
  case call c =>
    simp only [evCall]
    cases hc : c.callee with
    | builtin b => rw [hc] at he; cases b <;> simp only at he <;> cases he
    | invoke r m => rw [hc] at he; cases he
    | value f =>
      rw [hc] at he
      cases f <;> simp only at he <;> first | (cases he; done) | skip
      rename_i g
      by_cases hcond : byVal E fid g o.dst = true
      case neg => rw [if_neg hcond] at he; cases he
      simp only [St.ev, List.append_nil]
      have hargs : keysBs p (c.args.toList.map st.ev) = true := keysBs_map _ fun x hx => hk x (by simp [Op.operands, Call.operands]; exact .inr (by simpa using hx))
      have hev3 : (St.ev { s := st.s, h := h', off := st.off, nt := st.nt }) = st.ev := hev
      simp only [hev3]
      unfold callFn
      have hdp : E.deep g = false := by simp only [byVal, Bool.and_eq_true, Bool.not_eq_true'] at hcond; exact hcond.1.1.1
      simp only [hdp, Bool.false_eq_true, if_false]
      simp only [lows_ag hp _ hargs]
      cases hx : extV E g (lows st.h (c.args.toList.map st.ev)) with
      | some F =>
        simp only [byVal, Bool.and_eq_true, Bool.not_eq_true'] at hcond
        simp only [extR, hcond.1.1.2, Bool.false_eq_true, if_false]
        rfl
      | none =>
        simp only [byVal, Bool.and_eq_true, Bool.not_eq_true'] at hcond
        simp only [hcond.1.2, Bool.false_eq_true, if_false]
        cases call g (lows st.h (c.args.toList.map st.ev)) hnil 0 with
        | none => rfl
        | some q =>
          simp only [Option.bind_some]
          unfold mat
          cases hd : o.dst with
          | none => rfl
          | some d =>
            rw [hd] at hcond
            have : E.mat fid d = 0 := by simpa using hcond.2
            simp only [this]
            rfl
theorem act_ag {E : Env} {call : CallT} {fid : Nat} {ops : Array Oper} {st : St} {h' : Heap} {D : List Nat} (hp : ∀ d ∈ D, h' (st.off + d) = st.h (st.off + d)) {o : Oper} (he : effOf E fid o = .read) (hk : keysIn st D o = true) :
    act E call fid ops { st with h := h' } o = (act E call fid ops st o).map fun q => (q.1, h') := by
  unfold act
  have h2 : dstOk { st with h := h' } o = dstOk st o := rfl
  have h3 : wantedV ops { st with h := h' } o = wantedV ops st o := rfl
  rw [h2, h3]
  split
  · split
    · refine evOp_ag (p := fun κ => D.any fun d => κ == st.off + d) (fun κ hκ => ?_) he fun x hx => List.all_eq_true.1 hk x hx
      simp only [List.any_eq_true, beq_iff_eq] at hκ
      obtain ⟨d, hd, rfl⟩ := hκ
      exact hp d hd
    · rfl
    · rfl
  · rfl
theorem keysIn_reads {s1 s2 : St} {D : List Nat} {o : Oper} (ho : s1.off = s2.off) (h : ∀ t ∈ tmpsOf o.op.operands.toList, s1.s t = s2.s t) : keysIn s1 D o = keysIn s2 D o := by
  unfold keysIn
  have ha := agree_of h
  rw [Bool.eq_iff_iff, List.all_eq_true, List.all_eq_true, ho]
  constructor
  · intro hh x hx; rw [← ha x hx]; exact hh x hx
  · intro hh x hx; rw [ha x hx]; exact hh x hx
theorem put_eq {st : St} {d : Option Nat} {v : AV} {h h2 : Heap} : { (st.put d v h) with h := h2 } = st.put d v h2 := by cases d <;> rfl
/-- a write and what is no write, beside each other -/
theorem commK_wr {E : Env} {call : CallT} {fid : Nat} {ops : Array Oper} {a b : Oper} {D : List Nat} {ca cb : Nat} (hwa : effOf E fid a = .write) (hwb : effOf E fid b ≠ .write)
    (hca : ca = 0 ∨ ca = 2) (hcb : cb = 0 ∨ cb = 1) (hb : effOf E fid b = .pure ∨ (effOf E fid b = .read ∧ cb = 1 ∧ ca = 2))
    (hda : ∀ x ∈ a.dst.toList, ∀ y ∈ b.dst.toList, x ≠ y) (hra : ∀ x ∈ a.dst.toList, ∀ t ∈ readsOf ops b, x ≠ t) (hrb : ∀ x ∈ b.dst.toList, ∀ t ∈ readsOf ops a, x ≠ t) (st : St) :
    (stepK E call fid ops D cb st b).bind (stepK E call fid ops D ca · a) = (stepK E call fid ops D ca st a).bind (stepK E call fid ops D cb · b) := by
  -- a reads the same behind b
  have ra : ∀ vb, act E call fid ops (st.put b.dst vb st.h) a = act E call fid ops st a := fun vb =>
    act_reads put_nt put_off put_h fun t ht => put_s fun x hx => hrb x hx t ht
  have kb := fun p => act_keeps (E := E) (call := call) (fid := fid) (ops := ops) (st := st) (o := b) (p := p) hwb
  have rb0 : ∀ va, act E call fid ops (st.put a.dst va st.h) b = act E call fid ops st b := fun va =>
    act_reads put_nt put_off put_h fun t ht => put_s fun x hx => hra x hx t ht
  have kin : ∀ va h', keysIn (st.put a.dst va h') D b = keysIn st D b := fun va h' => keysIn_reads put_off fun t ht => put_s fun x hx => hra x hx t (by simp [readsOf, ht])
  -- b reads the same behind a, where it may
  have rb : ∀ va h', (ca = 2 → ∀ d ∈ D, h' (st.off + d) = st.h (st.off + d)) → (cb = 1 → keysIn st D b = true) → act E call fid ops (st.put a.dst va h') b = (act E call fid ops st b).map fun q => (q.1, h') := by
    intro va h' h1 h2
    rcases hb with hp | ⟨hp, h3, h4⟩
    · have h5 := act_pure (E := E) (call := call) (fid := fid) (ops := ops) (s1 := st.put a.dst va h') (s2 := st.put a.dst va st.h) hp (by rw [put_nt, put_nt]) (by rw [put_off, put_off]) (by cases a.dst <;> rfl)
      rw [h5, rb0 va, put_h]
    · have h5 := act_ag (E := E) (call := call) (fid := fid) (ops := ops) (st := st.put a.dst va st.h) (h' := h') (D := D) (o := b) (by rw [put_off, put_h]; exact h1 h4) hp (by rw [kin]; exact h2 h3)
      rw [put_eq] at h5
      rw [h5, rb0 va]
  have sA : ∀ s : St, stepK E call fid ops D ca s a = (act E call fid ops s a).bind fun p => @ite _ (ca = 2 → ∀ d ∈ D, p.2 (s.off + d) = s.h (s.off + d)) (Classical.propDecidable _) (some (s.put a.dst p.1 p.2)) none := by
    intro s
    rcases hca with rfl | rfl
    · simp only [stepK, stepOp_act]
      cases act E call fid ops s a with
      | none => rfl
      | some p => simp
    · simp only [stepK, stepOp_act]
      cases act E call fid ops s a with
      | none => rfl
      | some p =>
        simp only [Option.map_some, Option.bind_some]
        by_cases h9 : ∀ d ∈ D, p.2 (s.off + d) = s.h (s.off + d)
        · rw [if_pos (by rw [put_h]; exact h9), if_pos (fun _ => h9)]
        · rw [if_neg (by rw [put_h]; exact h9), if_neg (fun h => h9 (h rfl))]
  have sB : ∀ s : St, stepK E call fid ops D cb s b = @ite _ (cb = 1 → keysIn s D b = true) (Classical.propDecidable _) ((act E call fid ops s b).map fun q => s.put b.dst q.1 q.2) none := by
    intro s
    rcases hcb with rfl | rfl
    · simp only [stepK, stepOp_act]; rw [if_pos (fun h => by cases h)]
    · simp only [stepK, stepOp_act]
      by_cases hk : keysIn s D b = true
      · rw [if_pos hk, if_pos (fun _ => hk)]
      · rw [if_neg hk, if_neg (fun h => hk (h (by trivial)))]
  simp only [sA, sB]
  by_cases hk : cb = 1 → keysIn st D b = true
  case neg =>
    rw [if_neg hk]
    cases act E call fid ops st a with
    | none => rfl
    | some p =>
      simp only [Option.bind_some, Option.bind_none]
      by_cases h1 : ca = 2 → ∀ d ∈ D, p.2 (st.off + d) = st.h (st.off + d)
      · rw [if_pos h1]
        simp only [Option.bind_some]
        rw [if_neg (by rw [kin]; exact hk)]
      · rw [if_neg h1]; rfl
  rw [if_pos hk]
  cases hA : act E call fid ops st a with
  | none =>
    cases hB : act E call fid ops st b with
    | none => rfl
    | some q =>
      simp only [Option.map_some, Option.bind_some, Option.bind_none]
      rw [kb q hB, ra, hA]; rfl
  | some p =>
    simp only [Option.bind_some]
    by_cases h1 : ca = 2 → ∀ d ∈ D, p.2 (st.off + d) = st.h (st.off + d)
    · rw [if_pos h1]
      simp only [Option.bind_some]
      rw [if_pos (by rw [kin]; exact hk), rb _ _ h1 hk]
      cases hB : act E call fid ops st b with
      | none => rfl
      | some q =>
        simp only [Option.map_some, Option.bind_some]
        rw [kb q hB, ra, hA]
        simp only [Option.bind_some]
        rw [if_pos (show ca = 2 → ∀ d ∈ D, p.2 ((st.put b.dst q.1 st.h).off + d) = (st.put b.dst q.1 st.h).h ((st.put b.dst q.1 st.h).off + d) by rw [put_off, put_h]; exact h1), put_comm (fun x hx y hy => hda x hx y hy) rfl]
    · rw [if_neg h1]
      cases hB : act E call fid ops st b with
      | none => rfl
      | some q =>
        simp only [Option.map_some, Option.bind_some, Option.bind_none]
        rw [kb q hB, ra, hA]
        simp only [Option.bind_some]
        rw [if_neg (show ¬ (ca = 2 → ∀ d ∈ D, p.2 ((st.put b.dst q.1 st.h).off + d) = (st.put b.dst q.1 st.h).h ((st.put b.dst q.1 st.h).off + d)) by rw [put_off, put_h]; exact h1)]
/-- neither of them writes -/
theorem commK_rr {E : Env} {call : CallT} {fid : Nat} {ops : Array Oper} {a b : Oper} {D : List Nat} {ca cb : Nat} (hi : indep E fid ops a b = true) (hca : ca = 0 ∨ ca = 1) (hcb : cb = 0 ∨ cb = 1)
    (hra : ∀ x ∈ a.dst.toList, ∀ t ∈ readsOf ops b, x ≠ t) (hrb : ∀ x ∈ b.dst.toList, ∀ t ∈ readsOf ops a, x ≠ t) (st : St) :
    (stepK E call fid ops D cb st b).bind (stepK E call fid ops D ca · a) = (stepK E call fid ops D ca st a).bind (stepK E call fid ops D cb · b) := by
  have s1 : ∀ (c : Nat) (o : Oper) (s : St), (c = 0 ∨ c = 1) → stepK E call fid ops D c s o = if (!(c == 1) || keysIn s D o) = true then stepOp E call fid ops s o else none := by
    intro c o s hc
    rcases hc with rfl | rfl
    · simp [stepK]
    · simp [stepK]
  have kA : ∀ s s' : St, stepOp E call fid ops s b = some s' → keysIn s' D a = keysIn s D a := fun s s' h => by
    rw [stepOp_act, Option.map_eq_some_iff] at h
    obtain ⟨p, _, rfl⟩ := h
    exact keysIn_reads put_off fun t ht => put_s fun x hx => hrb x hx t (by simp [readsOf, ht])
  have kB : ∀ s s' : St, stepOp E call fid ops s a = some s' → keysIn s' D b = keysIn s D b := fun s s' h => by
    rw [stepOp_act, Option.map_eq_some_iff] at h
    obtain ⟨p, _, rfl⟩ := h
    exact keysIn_reads put_off fun t ht => put_s fun x hx => hra x hx t (by simp [readsOf, ht])
  have e1 : (stepK E call fid ops D cb st b).bind (stepK E call fid ops D ca · a) = if ((!(ca == 1) || keysIn st D a) && (!(cb == 1) || keysIn st D b)) = true then (stepOp E call fid ops st b).bind (stepOp E call fid ops · a) else none := by
    rw [s1 cb b st hcb]
    by_cases hb : (!(cb == 1) || keysIn st D b) = true
    · rw [if_pos hb, hb, Bool.and_true]
      cases hs : stepOp E call fid ops st b with
      | none => simp
      | some s' =>
        simp only [Option.bind_some]
        rw [s1 ca a s' hca, kA st s' hs]
    · have : (!(cb == 1) || keysIn st D b) = false := by simpa using hb
      rw [if_neg hb, this, Bool.and_false]; simp
  have e2 : (stepK E call fid ops D ca st a).bind (stepK E call fid ops D cb · b) = if ((!(ca == 1) || keysIn st D a) && (!(cb == 1) || keysIn st D b)) = true then (stepOp E call fid ops st a).bind (stepOp E call fid ops · b) else none := by
    rw [s1 ca a st hca]
    by_cases ha : (!(ca == 1) || keysIn st D a) = true
    · rw [if_pos ha, ha, Bool.true_and]
      cases hs : stepOp E call fid ops st a with
      | none => simp
      | some s' =>
        simp only [Option.bind_some]
        rw [s1 cb b s' hcb, kB st s' hs]
    · have : (!(ca == 1) || keysIn st D a) = false := by simpa using ha
      rw [if_neg ha, this, Bool.false_and]; simp
  rw [e1, e2, step_comm hi st]
theorem code_cases (E : Env) (fid : Nat) (ops : Array Oper) (i : Nat) (o : Oper) : (effOf E fid o = .write → codeAt E fid ops i o = 0 ∨ codeAt E fid ops i o = 2) ∧ (effOf E fid o ≠ .write → codeAt E fid ops i o = 0 ∨ codeAt E fid ops i o = 1) := by
  unfold codeAt
  constructor
  · intro h; rw [h]; split <;> simp
  · intro h
    split
    · cases he : effOf E fid o with
      | pure => simp
      | read => simp
      | write => exact absurd he h
    · simp
theorem code_of {E : Env} {fid : Nat} {ops : Array Oper} {i j : Nat} {a b : Oper} (ha : ops[i]? = some a) (hb : ops[j]? = some b) (hu : unordAt (masksFrom [] ops.toList) i j = true) (he : effIndep (effOf E fid a) (effOf E fid b) = false) :
    codeAt E fid ops i a = match effOf E fid a with | .read => 1 | .write => 2 | .pure => 0 := by
  have h9 : (ops.toList.zipIdx.any fun q => unordAt (masksFrom [] ops.toList) i q.2 && !effIndep (effOf E fid a) (effOf E fid q.1)) = true := by
    rw [List.any_eq_true]
    exact ⟨(b, j), by rw [List.mem_zipIdx_iff_getElem?]; simpa using hb, by simp [hu, he]⟩
  unfold codeAt
  rw [if_pos h9]
  cases effOf E fid a <;> rfl
theorem stepK_comm {E : Env} {call : CallT} {fid : Nat} {ops : Array Oper} {D : List Nat} {i j : Nat} {a b : Oper} (ha : ops[i]? = some a) (hb : ops[j]? = some b) (hij : i < j) (hu : ((masksFrom [] ops.toList).getD j 0).testBit i = false) (hi : indep4 E fid ops a b = true) (st : St) :
    (stepK E call fid ops D (codeAt E fid ops j b) st b).bind (stepK E call fid ops D (codeAt E fid ops i a) · a) = (stepK E call fid ops D (codeAt E fid ops i a) st a).bind (stepK E call fid ops D (codeAt E fid ops j b) · b) := by
  have key : ∀ a b : Oper, (a.dst.toList.all fun d => !(b.dst.toList ++ readsOf ops b).contains d) = true → (b.dst.toList.all fun d => !(readsOf ops a).contains d) = true → (∀ x ∈ a.dst.toList, ∀ y ∈ b.dst.toList, x ≠ y) ∧ (∀ x ∈ a.dst.toList, ∀ t ∈ readsOf ops b, x ≠ t) ∧ (∀ x ∈ b.dst.toList, ∀ t ∈ readsOf ops a, x ≠ t) := by
    intro a b h1 h2
    refine ⟨?_, ?_, ?_⟩
    · intro x hx t ht e
      subst e
      have := List.all_eq_true.1 h1 x hx
      simp only [List.contains_eq_mem, List.mem_append, Bool.not_eq_true', decide_eq_false_iff_not, not_or] at this
      exact this.1 ht
    · intro x hx t ht e
      subst e
      have := List.all_eq_true.1 h1 x hx
      simp only [List.contains_eq_mem, List.mem_append, Bool.not_eq_true', decide_eq_false_iff_not, not_or] at this
      exact this.2 ht
    · intro x hx t ht e
      subst e
      have := List.all_eq_true.1 h2 x hx
      simp only [List.contains_eq_mem, Bool.not_eq_true', decide_eq_false_iff_not] at this
      exact this ht
  have hu1 : unordAt (masksFrom [] ops.toList) i j = true := by unfold unordAt; rw [hu]; simp [hij]
  have hu2 : unordAt (masksFrom [] ops.toList) j i = true := by unfold unordAt; rw [hu]; simp [hij]
  obtain ⟨a1, a2⟩ := code_cases E fid ops i a
  obtain ⟨b1, b2⟩ := code_cases E fid ops j b
  simp only [indep4, Bool.or_eq_true] at hi
  rcases hi with (h | h) | h
  · have h0 := h
    simp only [indep, Bool.and_eq_true] at h
    obtain ⟨k1, k2, k3⟩ := key a b h.1.2 h.2
    have heff := h.1.1
    by_cases hwa : effOf E fid a = .write
    · have hpb : effOf E fid b = .pure := by rw [hwa] at heff; cases h9 : effOf E fid b <;> rw [h9] at heff <;> first | rfl | cases heff
      exact commK_wr hwa (by rw [hpb]; simp) (a1 hwa) (b2 (by rw [hpb]; simp)) (.inl hpb) k1 k2 k3 st
    · by_cases hwb : effOf E fid b = .write
      · have hpa : effOf E fid a = .pure := by rw [hwb] at heff; cases h9 : effOf E fid a <;> rw [h9] at heff <;> first | rfl | cases heff
        exact (commK_wr hwb (by rw [hpa]; simp) (b1 hwb) (a2 (by rw [hpa]; simp)) (.inl hpa) (fun x hx y hy e => k1 y hy x hx e.symm) k3 k2 st).symm
      · exact commK_rr h0 (a2 hwa) (b2 hwb) k2 k3 st
  · simp only [readWrite, Bool.and_eq_true, beq_iff_eq] at h
    obtain ⟨k1, k2, k3⟩ := key a b h.1.2 h.2
    obtain ⟨hwa, hrb⟩ := h.1.1
    have ca := code_of (E := E) (fid := fid) ha hb hu1 (by rw [hwa, hrb]; rfl)
    have cb := code_of (E := E) (fid := fid) hb ha hu2 (by rw [hwa, hrb]; rfl)
    rw [hwa] at ca
    rw [hrb] at cb
    exact commK_wr hwa (by rw [hrb]; simp) (a1 hwa) (b2 (by rw [hrb]; simp)) (.inr ⟨hrb, cb, ca⟩) k1 k2 k3 st
  · simp only [readWrite, Bool.and_eq_true, beq_iff_eq] at h
    obtain ⟨k1, k2, k3⟩ := key b a h.1.2 h.2
    obtain ⟨hwb, hra⟩ := h.1.1
    have ca := code_of (E := E) (fid := fid) ha hb hu1 (by rw [hwb, hra]; rfl)
    have cb := code_of (E := E) (fid := fid) hb ha hu2 (by rw [hwb, hra]; rfl)
    rw [hra] at ca
    rw [hwb] at cb
    exact (commK_wr hwb (by rw [hra]; simp) (b1 hwb) (a2 (by rw [hra]; simp)) (.inr ⟨hra, ca, cb⟩) k1 k2 k3 st).symm
theorem stepK_step {E : Env} {call : CallT} {fid : Nat} {ops : Array Oper} {D : List Nat} {c : Nat} {st r : St} {o : Oper} (h : stepK E call fid ops D c st o = some r) : stepOp E call fid ops st o = some r := by
  unfold stepK at h
  split at h
  · split at h
    · exact h
    · cases h
  · rw [Option.bind_eq_some_iff] at h
    obtain ⟨s, h1, h2⟩ := h
    split at h2
    · rw [h1]; exact h2
    · cases h2
  · exact h
theorem runK_runOps {E : Env} {call : CallT} {fid : Nat} {ops : Array Oper} {D : List Nat} : ∀ (l : List Oper) (cs : List Nat) {st r : St}, runK E call fid ops D cs l st = some r → runOps E call fid ops l st = some r
  | [], cs, st, r, h => by cases cs <;> exact h
  | o :: l, [], st, r, h => by simp [runK] at h
  | o :: l, c :: cs, st, r, h => by
    simp only [runK, runOps, Option.bind_eq_some_iff] at h ⊢
    obtain ⟨s1, h1, h2⟩ := h
    exact ⟨s1, stepK_step h1, runK_runOps l cs h2⟩
noncomputable def stepKI (E : Env) (call : CallT) (fid : Nat) (ops : Array Oper) (D : List Nat) (i : Nat) (st : St) : Option St :=
  match ops[i]? with
  | some o => stepK E call fid ops D (codeAt E fid ops i o) st o
  | none => some st
end Go.Proofs.YtlglhokpaplifaaGreatDoor.Ev
/- The drawn orders of a region: each keeps the edges; so each tells the same as the text's order. Conditions: none. -/
namespace Go.Proofs.YtlglhokpaplifaaGreatDoor.Ev
set_option linter.unusedVariables false
set_option linter.unusedSimpArgs false
set_option linter.unusedSectionVars false

def Resp (ops : Array Oper) (l : List Nat) : Prop := ∀ l1 x l2, l = l1 ++ x :: l2 → ∀ o, ops[x]? = some o → ∀ e ∈ o.after.toList, plainEdge e = true → e.on ∈ l1

theorem fold_or_bit (f : Edge → Nat) (i : Nat) : ∀ (es : List Edge) (s : Nat), (es.foldl (fun s e => s ||| f e) s).testBit i = true → s.testBit i = true ∨ ∃ e ∈ es, (f e).testBit i = true
  | [], s, h => .inl h
  | e :: es, s, h => by
    simp only [List.foldl_cons] at h
    rcases fold_or_bit f i es _ h with h1 | ⟨e', h1, h2⟩
    · rw [Nat.testBit_or, Bool.or_eq_true] at h1
      rcases h1 with h1 | h1
      · exact .inl h1
      · exact .inr ⟨e, by simp, h1⟩
    · exact .inr ⟨e', by simp [h1], h2⟩

theorem maskOf_bit {acc : List Nat} {o : Oper} {i : Nat} (h : (maskOf acc o).testBit i = true) : ∃ e ∈ o.after.toList, plainEdge e = true ∧ (e.on = i ∨ (acc.getD e.on 0).testBit i = true) := by
  unfold maskOf at h
  rcases fold_or_bit (fun e => 2 ^ e.on ||| acc.getD e.on 0) i _ 0 h with h1 | ⟨e, h1, h2⟩
  · simp at h1
  · rw [List.mem_filter] at h1
    refine ⟨e, h1.1, h1.2, ?_⟩
    rw [Nat.testBit_or, Bool.or_eq_true] at h2
    rcases h2 with h2 | h2
    · rw [Nat.testBit_two_pow] at h2; exact .inl (by simpa using h2)
    · exact .inr h2

theorem masksFrom_spec : ∀ (l : List Oper) (acc : List Nat), (masksFrom acc l).take acc.length = acc ∧ ∀ k o, l[k]? = some o → (masksFrom acc l).getD (acc.length + k) 0 = maskOf ((masksFrom acc l).take (acc.length + k)) o
  | [], acc => by simp [masksFrom]
  | o :: l, acc => by
    obtain ⟨h1, h2⟩ := masksFrom_spec l (acc ++ [maskOf acc o])
    simp only [masksFrom]
    have hl : (acc ++ [maskOf acc o]).length = acc.length + 1 := by simp
    have h3 : (masksFrom (acc ++ [maskOf acc o]) l).take acc.length = acc := by
      have := congrArg (List.take acc.length) h1
      rw [List.take_take, hl, Nat.min_eq_left (by omega)] at this
      rw [this]; simp
    refine ⟨h3, fun k p hk => ?_⟩
    cases k with
    | zero =>
      simp only [List.getElem?_cons_zero, Option.some.injEq] at hk
      subst hk
      rw [Nat.add_zero, h3]
      have := congrArg (fun x => x.getD acc.length 0) h1
      simp only [hl] at this
      rw [List.getD_eq_getElem?_getD, List.getElem?_take, if_pos (by omega), ← List.getD_eq_getElem?_getD] at this
      rw [this]; simp
    | succ k =>
      have := h2 k p (by simpa using hk)
      rw [hl, show acc.length + 1 + k = acc.length + (k + 1) by omega] at this
      exact this

theorem dep_bit {ops : Array Oper} {j : Nat} {o : Oper} (hj : ops[j]? = some o) {i : Nat} (h : ((masksFrom [] ops.toList).getD j 0).testBit i = true) (hon : ∀ e ∈ o.after.toList, plainEdge e = true → e.on < j) :
    ∃ e ∈ o.after.toList, plainEdge e = true ∧ (e.on = i ∨ ((masksFrom [] ops.toList).getD e.on 0).testBit i = true) := by
  have := (masksFrom_spec ops.toList []).2 j o (by simpa using hj)
  simp only [List.length_nil, Nat.zero_add] at this
  rw [this] at h
  obtain ⟨e, h1, hp, h2⟩ := maskOf_bit h
  refine ⟨e, h1, hp, h2.imp id fun h3 => ?_⟩
  rw [List.getD_eq_getElem?_getD, List.getElem?_take, if_pos (hon e h1 hp), ← List.getD_eq_getElem?_getD] at h3
  exact h3

theorem resp_dep {ops : Array Oper} (hon : ∀ (j : Nat) (o : Oper), ops[j]? = some o → ∀ e ∈ o.after.toList, plainEdge e = true → e.on < j) {l : List Nat} (hr : Resp ops l) (hlt : ∀ x ∈ l, x < ops.size) :
    ∀ (x : Nat) (l1 l2 : List Nat), l = l1 ++ x :: l2 → ∀ i, ((masksFrom [] ops.toList).getD x 0).testBit i = true → i ∈ l1 := by
  intro x
  induction x using Nat.strongRecOn with
  | _ x ih =>
    intro l1 l2 hl i hi
    have hx : x < ops.size := hlt x (by rw [hl]; simp)
    obtain ⟨e, he, hp, h1⟩ := dep_bit (Array.getElem?_eq_getElem hx) hi (hon x _ (Array.getElem?_eq_getElem hx))
    have hin := hr l1 x l2 hl _ (Array.getElem?_eq_getElem hx) e he hp
    rcases h1 with h1 | h1
    · exact h1 ▸ hin
    · obtain ⟨a, b, rfl⟩ := List.append_of_mem hin
      have := ih e.on (hon x _ (Array.getElem?_eq_getElem hx) e he hp) a (b ++ x :: l2) (by rw [hl]; simp) i h1
      simp [this]

theorem pairwise_of_resp {ops : Array Oper} (hon : ∀ (j : Nat) (o : Oper), ops[j]? = some o → ∀ e ∈ o.after.toList, plainEdge e = true → e.on < j) {l : List Nat} (hr : Resp ops l) (hlt : ∀ x ∈ l, x < ops.size) (hn : l.Nodup) :
    l.Pairwise (fun x y => ¬ ((masksFrom [] ops.toList).getD x 0).testBit y = true) := by
  suffices h : ∀ (l2 l1 : List Nat), l = l1 ++ l2 → l2.Pairwise (fun x y => ¬ ((masksFrom [] ops.toList).getD x 0).testBit y = true) from h l [] rfl
  intro l2
  induction l2 with
  | nil => simp
  | cons x l2 ih =>
    intro l1 hl
    refine List.pairwise_cons.2 ⟨fun y hy hb => ?_, ih (l1 ++ [x]) (by rw [hl]; simp)⟩
    have h1 := resp_dep hon hr hlt x l1 l2 hl y hb
    rw [hl] at hn
    exact (List.nodup_append.1 hn).2.2 y h1 y (by simp [hy]) rfl

theorem binds_plain {m : Region.Mode} {e : Edge} (h : plainEdge e = true) : Region.binds m e = true := by
  unfold plainEdge at h
  unfold Region.binds
  cases hg : e.ground <;> rw [hg] at h <;> first | rfl | (cases h)

theorem plain_any {e : Edge} (h : Region.binds .any e = true) : plainEdge e = true := by
  unfold Region.binds at h
  unfold plainEdge
  cases hg : e.ground <;> rw [hg] at h <;> first | rfl | (simp at h)

def RespM (m : Region.Mode) (ops : Array Oper) (l : List Nat) : Prop := ∀ l1 x l2, l = l1 ++ x :: l2 → ∀ o, ops[x]? = some o → ∀ e ∈ o.after.toList, Region.binds m e = true → e.on ∈ l1
/-- as long as not all are listed, one is ready -/
def Ready (m : Region.Mode) (ops : Array Oper) : Prop := ∀ acc : List Nat, (∃ i, i < ops.size ∧ i ∉ acc) → ∃ i, i < ops.size ∧ i ∉ acc ∧ ∀ o, ops[i]? = some o → ∀ e ∈ o.after.toList, Region.binds m e = true → e.on ∈ acc

theorem lin_go {m : Region.Mode} {ops : Array Oper} :
    ∀ (fuel t : Nat) (listed : Array Bool) (acc : List Nat), fuel + acc.length = ops.size → listed.size = ops.size → acc.Nodup → (∀ i, i < ops.size → (listed.getD i true = true ↔ i ∈ acc)) → (∀ x ∈ acc, x < ops.size) → RespM m ops acc.reverse →
      ∃ l, Region.linearise.go m ops fuel t listed acc = l ∧ l.Nodup ∧ (∀ x ∈ l, x < ops.size) ∧ RespM m ops l ∧ (Ready m ops → l.length = ops.size)
  | 0, t, listed, acc, h1, h2, h3, h4, h5, h6 => by
    refine ⟨acc.reverse, rfl, ?_, ?_, h6, fun _ => ?_⟩
    · exact (List.reverse_perm acc).nodup_iff.2 h3
    · intro x hx; exact h5 x (List.mem_reverse.1 hx)
    · rw [List.length_reverse]; omega
  | fuel + 1, t, listed, acc, h1, h2, h3, h4, h5, h6 => by
    simp only [Region.linearise.go]
    generalize hrs : ((List.range ops.size).filter fun i => !listed.getD i true && ((ops[i]?).map (·.after.all fun e => !Region.binds m e || listed.getD e.on false)).getD false) = rs
    have hex : ∃ i, i < ops.size ∧ i ∉ acc := by
      rcases Classical.em (∃ i, i < ops.size ∧ i ∉ acc) with h | h
      · exact h
      · exfalso
        have hsub : ∀ x ∈ List.range ops.size, x ∈ acc := by
          intro x hx
          rcases Classical.em (x ∈ acc) with h0 | h0
          · exact h0
          · exact (h ⟨x, by simpa using hx, h0⟩).elim
        have := (List.nodup_range (n := ops.size)).length_le_of_subset hsub
        simp at this; omega
    have hlisted : ∀ i, i < ops.size → listed.getD i false = listed.getD i true := by
      intro i hi
      simp [Array.getD, h2, hi]
    have hout : ∀ i, listed.getD i false = true → i < ops.size := by
      intro i hi
      rcases Nat.lt_or_ge i ops.size with h | h
      · exact h
      · exfalso; simp [Array.getD, h2, Nat.not_lt.2 h] at hi
    have hmem : ∀ i, i ∈ rs ↔ i < ops.size ∧ i ∉ acc ∧ ∀ o, ops[i]? = some o → ∀ e ∈ o.after.toList, Region.binds m e = true → e.on ∈ acc := by
      intro i
      rw [← hrs, List.mem_filter, List.mem_range]
      constructor
      · rintro ⟨hi, hb⟩
        simp only [Bool.and_eq_true, Bool.not_eq_true'] at hb
        refine ⟨hi, fun hc => ?_, fun o ho e he hbd => ?_⟩
        · rw [(h4 i hi).2 hc] at hb; simp at hb
        · rw [ho] at hb
          simp only [Option.map_some, Option.getD_some, Array.all_eq_true_iff_forall_mem] at hb
          have h7 := hb.2 e (by simpa using he)
          rw [hbd] at h7
          simp only [Bool.not_true, Bool.false_or] at h7
          have hlt := hout _ h7
          rw [hlisted _ hlt] at h7
          exact (h4 _ hlt).1 h7
      · rintro ⟨hi, hc, hb⟩
        refine ⟨hi, ?_⟩
        have hl0 : listed.getD i true = false := by
          cases hv : listed.getD i true with
          | false => rfl
          | true => exact (hc ((h4 i hi).1 hv)).elim
        rw [hl0, Array.getElem?_eq_getElem hi]
        simp only [Bool.not_false, Bool.true_and, Option.map_some, Option.getD_some, Array.all_eq_true_iff_forall_mem]
        intro e he
        cases hbd : Region.binds m e with
        | false => simp
        | true =>
          have h9 := hb _ (Array.getElem?_eq_getElem hi) e (by simpa using he) hbd
          have hlt := h5 _ h9
          rw [hlisted _ hlt, (h4 _ hlt).2 h9]
          simp
    cases hg : rs[t % rs.length]? with
    | none =>
      refine ⟨acc.reverse, rfl, (List.reverse_perm acc).nodup_iff.2 h3, fun x hx => h5 x (List.mem_reverse.1 hx), h6, fun hr => ?_⟩
      exfalso
      obtain ⟨i, hi1, hi2, hi3⟩ := hr acc hex
      have hi := (hmem i).2 ⟨hi1, hi2, hi3⟩
      have hlen : 0 < rs.length := List.length_pos_iff.2 (fun e => by rw [e] at hi; cases hi)
      have hidx : t % rs.length < rs.length := Nat.mod_lt _ hlen
      rw [List.getElem?_eq_getElem hidx] at hg
      cases hg
    | some i =>
      simp only
      have hin := (hmem _).1 (List.mem_of_getElem? hg)
      refine lin_go fuel (t / rs.length) (listed.setIfInBounds i true) (i :: acc) (by simp; omega) (by simp [h2]) (List.nodup_cons.2 ⟨hin.2.1, h3⟩) (fun j hj => ?_) (fun x hx => ?_) ?_
      · by_cases e : i = j
        · subst e; simp [Array.getD, h2, hj]
        · have : (listed.setIfInBounds i true).getD j true = listed.getD j true := by
            simp [Array.getD, h2, hj, Array.getElem_setIfInBounds, e]
          rw [this, h4 j hj]
          simp [Ne.symm e]
      · rcases List.mem_cons.1 hx with h | h
        · rw [h]; exact hin.1
        · exact h5 x h
      · intro l1 x l2 hl o ho e he hbd
        rw [List.reverse_cons] at hl
        rcases List.eq_nil_or_concat l2 with h | ⟨l3, y, h⟩
        · subst h
          have := List.append_inj' hl rfl
          obtain ⟨h7, h8⟩ := this
          have : i = x := by simpa using h8
          subst this
          rw [← h7]
          exact List.mem_reverse.2 (hin.2.2 o ho e he hbd)
        · rw [List.concat_eq_append] at h
          subst h
          rw [show l1 ++ x :: (l3 ++ [y]) = (l1 ++ x :: l3) ++ [y] by simp] at hl
          obtain ⟨h7, h8⟩ := List.append_inj' hl rfl
          exact h6 l1 x l3 h7 o ho e he hbd

theorem lin_all (m : Region.Mode) (ops : Array Oper) (t : Nat) : (Region.linearise m ops t).Nodup ∧ (∀ x ∈ Region.linearise m ops t, x < ops.size) ∧ RespM m ops (Region.linearise m ops t) ∧ (Ready m ops → (Region.linearise m ops t).length = ops.size) := by
  obtain ⟨l, h1, h2, h4, h5, h6⟩ := lin_go (m := m) (ops := ops) ops.size t (Array.replicate ops.size false) [] (by simp) (by simp) (by simp) (fun i hi => by simp [Array.getD, hi]) (by simp) (by intro l1 x l2 h; simp at h)
  unfold Region.linearise
  rw [h1]
  exact ⟨h2, h4, h5, h6⟩
theorem perm_of {n : Nat} {l : List Nat} (h2 : l.Nodup) (h4 : ∀ x ∈ l, x < n) (h3 : l.length = n) : l.Perm (List.range n) := by
  refine (List.perm_ext_iff_of_nodup h2 List.nodup_range).2 fun x => ⟨fun hx => by simpa using h4 x hx, fun hx => ?_⟩
  rcases Classical.em (x ∈ l) with h | h
  · exact h
  · exfalso
    have hsub : ∀ y ∈ (x :: l), y ∈ List.range n := by
      intro y hy
      rcases List.mem_cons.1 hy with e | e
      · rw [e]; exact hx
      · simpa using h4 y e
    have := (List.nodup_cons.2 ⟨h, h2⟩).length_le_of_subset hsub
    simp at this; omega
/-- an order that goes through shows that one is always ready -/
theorem ready_of {m : Region.Mode} {ops : Array Oper} (h : (Region.linearise m ops 0).length = ops.size) : Ready m ops := by
  obtain ⟨h1, h2, h3, _⟩ := lin_all m ops 0
  have hp := perm_of h1 h2 h
  intro acc ⟨i, hi, hn⟩
  have hin : i ∈ Region.linearise m ops 0 := hp.mem_iff.2 (by simpa using hi)
  generalize Region.linearise m ops 0 = l at *
  have key : ∀ (l2 l1 : List Nat), l = l1 ++ l2 → (∀ x ∈ l1, x ∈ acc) → i ∈ l2 → ∃ i, i < ops.size ∧ i ∉ acc ∧ ∀ o, ops[i]? = some o → ∀ e ∈ o.after.toList, Region.binds m e = true → e.on ∈ acc := by
    intro l2
    induction l2 with
    | nil => intro l1 _ _ h; cases h
    | cons x l2 ih =>
      intro l1 hl hacc hm
      rcases Classical.em (x ∈ acc) with hx | hx
      · refine ih (l1 ++ [x]) (by rw [hl]; simp) (fun y hy => ?_) ?_
        · rcases List.mem_append.1 hy with h | h
          · exact hacc y h
          · rw [List.mem_singleton.1 h]; exact hx
        · rcases List.mem_cons.1 hm with e | h
          · exact (hn (e ▸ hx)).elim
          · exact h
      · exact ⟨x, h2 x (by rw [hl]; simp), hx, fun o ho e he hb => hacc _ (h3 l1 x l2 hl o ho e he hb)⟩
  exact key l [] rfl (fun _ h => by cases h) hin
theorem ready_any {ops : Array Oper} (hpl : ∀ (j : Nat) (o : Oper), ops[j]? = some o → ∀ e ∈ o.after.toList, plainEdge e = true → e.on < j) : Ready .any ops := by
  intro acc hex
  have hmin : ∃ i, i < ops.size ∧ i ∉ acc ∧ ∀ j, j < i → j ∈ acc := by
    obtain ⟨i, hi⟩ := hex
    induction i using Nat.strongRecOn with
    | _ i ih =>
      rcases Classical.em (∀ j, j < i → j ∈ acc) with h | h
      · exact ⟨i, hi.1, hi.2, h⟩
      · rcases Classical.not_forall.1 h with ⟨j, hj⟩
        rcases Classical.not_imp.1 hj with ⟨hj1, hj2⟩
        exact ih j hj1 ⟨by omega, hj2⟩
  obtain ⟨i0, hi0, hn0, hm0⟩ := hmin
  exact ⟨i0, hi0, hn0, fun o ho e he hb => hm0 _ (hpl i0 o ho e he (plain_any hb))⟩
theorem linearise_spec {m : Region.Mode} {ops : Array Oper} (hr : Ready m ops) (t : Nat) :
    (Region.linearise m ops t).Perm (List.range ops.size) ∧ Resp ops (Region.linearise m ops t) := by
  obtain ⟨h1, h2, h3, h4⟩ := lin_all m ops t
  exact ⟨perm_of h1 h2 (h4 hr), fun l1 x l2 hl o ho e he hp => h3 l1 x l2 hl o ho e he (binds_plain hp)⟩

theorem schedule_spec {mixed : Bool} {ops : Array Oper} (hpl : ∀ (j : Nat) (o : Oper), ops[j]? = some o → ∀ e ∈ o.after.toList, plainEdge e = true → e.on < j) (hm : modesOk ops = true) (t : Nat) :
    (Region.schedule mixed ops t).Perm (List.range ops.size) ∧ Resp ops (Region.schedule mixed ops t) := by
  unfold Region.schedule
  split
  · exact linearise_spec (ready_any hpl) t
  · rename_i hc
    simp only [Bool.or_eq_true, Bool.not_eq_true', not_or, Bool.not_eq_true] at hc
    have hd : Region.departs ops = true := by simpa using hc.2
    simp only [modesOk, hd, Bool.not_true, Bool.false_or, Bool.and_eq_true, beq_iff_eq] at hm
    split
    · exact linearise_spec (ready_of hm.1) _
    · exact linearise_spec (ready_of hm.2) _

theorem drawOk_edges {E : Env} {fid : Nat} {ops : Array Oper} (h : drawOk E fid ops = true) : ∀ (j : Nat) (o : Oper), ops[j]? = some o → ∀ e ∈ o.after.toList, plainEdge e = true → e.on < j := by
  intro j o ho e he hp
  simp only [drawOk, Bool.and_eq_true] at h
  have := List.all_eq_true.1 h.1.1 (o, j) (by rw [List.mem_zipIdx_iff_getElem?]; simpa using ho)
  have := List.all_eq_true.1 this e he
  simpa [hp] using this

theorem drawOk_modes {E : Env} {fid : Nat} {ops : Array Oper} (h : drawOk E fid ops = true) : modesOk ops = true := by
  simp only [drawOk, Bool.and_eq_true] at h
  exact h.2

theorem drawOk_indep {E : Env} {fid : Nat} {ops : Array Oper} (h : drawOk E fid ops = true) {i j : Nat} (hij : i < j) {a b : Oper} (ha : ops[i]? = some a) (hb : ops[j]? = some b)
    (hd : ¬ ((masksFrom [] ops.toList).getD j 0).testBit i = true) : indep E fid ops a b = true := by
  simp only [drawOk, Bool.and_eq_true] at h
  have := List.all_eq_true.1 h.1.2 (a, i) (by rw [List.mem_zipIdx_iff_getElem?]; simpa using ha)
  have := List.all_eq_true.1 this (b, j) (by rw [List.mem_zipIdx_iff_getElem?]; simpa using hb)
  simp only [Bool.or_eq_true, decide_eq_true_eq] at this
  rcases this with (h1 | h1) | h1
  · omega
  · exact (hd h1).elim
  · exact h1

theorem runI_range {E : Env} {call : CallT} {fid : Nat} {ops : Array Oper} : ∀ (l : List Oper) (k : Nat) (st : St), (∀ j, l[j]? = ops[k + j]?) → runI E call fid ops (List.range' k l.length) st = runOps E call fid ops l st
  | [], k, st, _ => rfl
  | o :: l, k, st, h => by
    have h0 : ops[k]? = some o := by simpa using (h 0).symm
    simp only [List.length_cons, List.range'_succ, runI, runOps, stepI, h0]
    congr 1; funext s
    exact runI_range l (k + 1) s fun j => by have := h (j + 1); simpa [Nat.add_assoc, Nat.add_comm 1 j] using this

/-- Every drawn order tells what the text's order tells. -/
theorem run_schedule {E : Env} {call : CallT} {fid : Nat} {ops : Array Oper} (h : drawOk E fid ops = true) (mixed : Bool) (t : Nat) (st : St) :
    runI E call fid ops (Region.schedule mixed ops t) st = runOps E call fid ops ops.toList st := by
  have hpl := drawOk_edges h
  obtain ⟨h1, h2⟩ := schedule_spec (mixed := mixed) hpl (drawOk_modes h) t
  have hlt : ∀ x ∈ Region.schedule mixed ops t, x < ops.size := fun x hx => by simpa using h1.mem_iff.1 hx
  have hpw := pairwise_of_resp hpl h2 hlt (h1.nodup_iff.2 List.nodup_range)
  rw [runI_perm (fun i j => ((masksFrom [] ops.toList).getD j 0).testBit i = true) (fun i j hij hd s => ?_) (List.range ops.size) _ List.pairwise_lt_range h1 (hpw.imp fun hx => hx) st]
  · rw [List.range_eq_range', ← Array.length_toList]
    exact runI_range ops.toList 0 st (by simp)
  · cases ha : ops[i]? with
    | none =>
      have ei : stepI E call fid ops i = fun s => some s := by funext s; simp [stepI, ha]
      rw [ei]
      simp
    | some a =>
      have ei : stepI E call fid ops i = fun s => stepOp E call fid ops s a := by funext s; simp [stepI, ha]
      cases hb : ops[j]? with
      | none =>
        have ej : stepI E call fid ops j = fun s => some s := by funext s; simp [stepI, hb]
        rw [ei, ej]
        simp
      | some b =>
        have ej : stepI E call fid ops j = fun s => stepOp E call fid ops s b := by funext s; simp [stepI, hb]
        rw [ei, ej]
        exact step_comm (drawOk_indep h hij ha hb hd) s

/- a variable made beside reads -/
def stepDI (E : Env) (call : CallT) (fid : Nat) (ops : Array Oper) (D : List Nat) (i : Nat) (st : St) : Option St :=
  match ops[i]? with
  | some o => stepD E call fid ops D st o
  | none => some st
theorem runG_range {E : Env} {call : CallT} {fid : Nat} {ops : Array Oper} {D : List Nat} : ∀ (l : List Oper) (k : Nat) (st : St), (∀ j, l[j]? = ops[k + j]?) → runG (stepDI E call fid ops D) (List.range' k l.length) st = runD E call fid ops D l st
  | [], k, st, _ => rfl
  | o :: l, k, st, h => by
    have h0 : ops[k]? = some o := by simpa using (h 0).symm
    simp only [List.length_cons, List.range'_succ, runG, runD, stepDI, h0]
    congr 1; funext s
    exact runG_range l (k + 1) s fun j => by have := h (j + 1); simpa [Nat.add_assoc, Nat.add_comm 1 j] using this
theorem runG_runI {E : Env} {call : CallT} {fid : Nat} {ops : Array Oper} {D : List Nat} : ∀ (l : List Nat) (st r : St), runG (stepDI E call fid ops D) l st = some r → runI E call fid ops l st = some r
  | [], st, r, h => h
  | i :: l, st, r, h => by
    simp only [runG, runI, Option.bind_eq_some_iff] at h ⊢
    obtain ⟨s1, h1, h2⟩ := h
    refine ⟨s1, ?_, runG_runI l s1 r h2⟩
    unfold stepDI at h1
    unfold stepI
    cases ho : ops[i]? with
    | none => rw [ho] at h1; exact h1
    | some o =>
      rw [ho] at h1
      simp only at h1 ⊢
      unfold stepD at h1
      split at h1
      · exact h1
      · cases h1
theorem mem_allocs {ops : Array Oper} {i : Nat} {o : Oper} (ho : ops[i]? = some o) {d : Nat} (ha : isAlloc o = true) (hd : o.dst = some d) : d ∈ allocsOf ops := by
  unfold allocsOf
  refine List.mem_filterMap.2 ⟨o, ?_, by simp [ha, hd]⟩
  exact List.mem_of_getElem? (by simpa using ho : ops.toList[i]? = some o)
/-- Every drawn order tells what the text's order tells. -/
theorem run_schedule2 {E : Env} {call : CallT} {fid : Nat} {ops : Array Oper} (h : drawOk2 E fid ops = true) (mixed : Bool) (t : Nat) {st r : St} (hr : runD E call fid ops (allocsOf ops) ops.toList st = some r) :
    runI E call fid ops (Region.schedule mixed ops t) st = some r := by
  simp only [drawOk2, Bool.and_eq_true] at h
  have hpl : ∀ (j : Nat) (o : Oper), ops[j]? = some o → ∀ e ∈ o.after.toList, plainEdge e = true → e.on < j := by
    intro j o ho e he hp
    have := List.all_eq_true.1 h.1.1 (o, j) (by rw [List.mem_zipIdx_iff_getElem?]; simpa using ho)
    have := List.all_eq_true.1 this e he
    simpa [hp] using this
  have hin : ∀ {i j : Nat}, i < j → ∀ {a b : Oper}, ops[i]? = some a → ops[j]? = some b → ¬ ((masksFrom [] ops.toList).getD j 0).testBit i = true → indep2 E fid ops a b = true := by
    intro i j hij a b ha hb hd
    have := List.all_eq_true.1 h.1.2 (a, i) (by rw [List.mem_zipIdx_iff_getElem?]; simpa using ha)
    have := List.all_eq_true.1 this (b, j) (by rw [List.mem_zipIdx_iff_getElem?]; simpa using hb)
    simp only [Bool.or_eq_true, decide_eq_true_eq] at this
    rcases this with (h1 | h1) | h1
    · omega
    · exact (hd h1).elim
    · exact h1
  obtain ⟨h1, h2⟩ := schedule_spec (mixed := mixed) hpl h.2 t
  have hlt : ∀ x ∈ Region.schedule mixed ops t, x < ops.size := fun x hx => by simpa using h1.mem_iff.1 hx
  have hpw := pairwise_of_resp hpl h2 hlt (h1.nodup_iff.2 List.nodup_range)
  refine runG_runI (D := allocsOf ops) _ _ _ ?_
  rw [runG_perm (fun i j => ((masksFrom [] ops.toList).getD j 0).testBit i = true) (fun i j hij hd s => ?_) (List.range ops.size) _ List.pairwise_lt_range h1 (hpw.imp fun hx => hx) st]
  · rw [List.range_eq_range', ← Array.length_toList, runG_range ops.toList 0 st (by simp)]
    exact hr
  · cases ha : ops[i]? with
    | none =>
      have ei : stepDI E call fid ops (allocsOf ops) i = fun s => some s := by funext s; simp [stepDI, ha]
      rw [ei]
      simp
    | some a =>
      have ei : stepDI E call fid ops (allocsOf ops) i = fun s => stepD E call fid ops (allocsOf ops) s a := by funext s; simp [stepDI, ha]
      cases hb : ops[j]? with
      | none =>
        have ej : stepDI E call fid ops (allocsOf ops) j = fun s => some s := by funext s; simp [stepDI, hb]
        rw [ei, ej]
        simp
      | some b =>
        have ej : stepDI E call fid ops (allocsOf ops) j = fun s => stepD E call fid ops (allocsOf ops) s b := by funext s; simp [stepDI, hb]
        rw [ei, ej]
        exact stepD_comm (fun d h1 h2 => mem_allocs ha h1 h2) (fun d h1 h2 => mem_allocs hb h1 h2) (hin hij ha hb hd) s

theorem mem_freshs {E : Env} {fid : Nat} {ops : Array Oper} {i : Nat} {o : Oper} (ho : ops[i]? = some o) {d : Nat} (ha : isFresh E fid o = true) (hd : o.dst = some d) : d ∈ freshs E fid ops := by
  unfold freshs
  refine List.mem_filterMap.2 ⟨o, ?_, by simp [ha, hd]⟩
  exact List.mem_of_getElem? (by simpa using ho : ops.toList[i]? = some o)
theorem run_schedule3 {E : Env} {call : CallT} {fid : Nat} {ops : Array Oper} (h : drawOk3 E fid ops = true) (mixed : Bool) (t : Nat) {st r : St} (hr : runD E call fid ops (freshs E fid ops) ops.toList st = some r) :
    runI E call fid ops (Region.schedule mixed ops t) st = some r := by
  simp only [drawOk3, Bool.and_eq_true] at h
  have hpl : ∀ (j : Nat) (o : Oper), ops[j]? = some o → ∀ e ∈ o.after.toList, plainEdge e = true → e.on < j := by
    intro j o ho e he hp
    have := List.all_eq_true.1 h.1.1 (o, j) (by rw [List.mem_zipIdx_iff_getElem?]; simpa using ho)
    have := List.all_eq_true.1 this e he
    simpa [hp] using this
  have hin : ∀ {i j : Nat}, i < j → ∀ {a b : Oper}, ops[i]? = some a → ops[j]? = some b → ¬ ((masksFrom [] ops.toList).getD j 0).testBit i = true → indep3 E fid ops a b = true := by
    intro i j hij a b ha hb hd
    have := List.all_eq_true.1 h.1.2 (a, i) (by rw [List.mem_zipIdx_iff_getElem?]; simpa using ha)
    have := List.all_eq_true.1 this (b, j) (by rw [List.mem_zipIdx_iff_getElem?]; simpa using hb)
    simp only [Bool.or_eq_true, decide_eq_true_eq] at this
    rcases this with (h1 | h1) | h1
    · omega
    · exact (hd h1).elim
    · exact h1
  obtain ⟨h1, h2⟩ := schedule_spec (mixed := mixed) hpl h.2 t
  have hlt : ∀ x ∈ Region.schedule mixed ops t, x < ops.size := fun x hx => by simpa using h1.mem_iff.1 hx
  have hpw := pairwise_of_resp hpl h2 hlt (h1.nodup_iff.2 List.nodup_range)
  refine runG_runI (D := freshs E fid ops) _ _ _ ?_
  rw [runG_perm (fun i j => ((masksFrom [] ops.toList).getD j 0).testBit i = true) (fun i j hij hd s => ?_) (List.range ops.size) _ List.pairwise_lt_range h1 (hpw.imp fun hx => hx) st]
  · rw [List.range_eq_range', ← Array.length_toList, runG_range ops.toList 0 st (by simp)]
    exact hr
  · cases ha : ops[i]? with
    | none =>
      have ei : stepDI E call fid ops (freshs E fid ops) i = fun s => some s := by funext s; simp [stepDI, ha]
      rw [ei]
      simp
    | some a =>
      have ei : stepDI E call fid ops (freshs E fid ops) i = fun s => stepD E call fid ops (freshs E fid ops) s a := by funext s; simp [stepDI, ha]
      cases hb : ops[j]? with
      | none =>
        have ej : stepDI E call fid ops (freshs E fid ops) j = fun s => some s := by funext s; simp [stepDI, hb]
        rw [ei, ej]
        simp
      | some b =>
        have ej : stepDI E call fid ops (freshs E fid ops) j = fun s => stepD E call fid ops (freshs E fid ops) s b := by funext s; simp [stepDI, hb]
        rw [ei, ej]
        exact stepD_comm3 (fun d h1 h2 => mem_freshs ha h1 h2) (fun d h1 h2 => mem_freshs hb h1 h2) (hin hij ha hb hd) s

theorem runK_range {E : Env} {call : CallT} {fid : Nat} {ops : Array Oper} {D : List Nat} : ∀ (l : List Oper) (k : Nat) (st : St), (∀ j, l[j]? = ops[k + j]?) → runG (stepKI E call fid ops D) (List.range' k l.length) st = runK E call fid ops D ((l.zipIdx k).map fun p => codeAt E fid ops p.2 p.1) l st
  | [], k, st, _ => rfl
  | o :: l, k, st, h => by
    have h0 : ops[k]? = some o := by simpa using (h 0).symm
    simp only [List.length_cons, List.range'_succ, runG, List.zipIdx_cons, List.map_cons, runK, stepKI, h0]
    congr 1; funext s
    exact runK_range l (k + 1) s fun j => by have := h (j + 1); simpa [Nat.add_assoc, Nat.add_comm 1 j] using this
theorem runK_runI {E : Env} {call : CallT} {fid : Nat} {ops : Array Oper} {D : List Nat} : ∀ (l : List Nat) (st r : St), runG (stepKI E call fid ops D) l st = some r → runI E call fid ops l st = some r
  | [], st, r, h => h
  | i :: l, st, r, h => by
    simp only [runG, runI, Option.bind_eq_some_iff] at h ⊢
    obtain ⟨s1, h1, h2⟩ := h
    refine ⟨s1, ?_, runK_runI l s1 r h2⟩
    unfold stepKI at h1
    unfold stepI
    cases ho : ops[i]? with
    | none => rw [ho] at h1; exact h1
    | some o =>
      rw [ho] at h1
      exact stepK_step h1
theorem run_schedule4 {E : Env} {call : CallT} {fid : Nat} {ops : Array Oper} (h : drawOk4 E fid ops = true) (mixed : Bool) (t : Nat) {st r : St} (hr : runK E call fid ops (keepD E fid ops) (codesOf E fid ops) ops.toList st = some r) :
    runI E call fid ops (Region.schedule mixed ops t) st = some r := by
  simp only [drawOk4, Bool.and_eq_true] at h
  have hpl : ∀ (j : Nat) (o : Oper), ops[j]? = some o → ∀ e ∈ o.after.toList, plainEdge e = true → e.on < j := by
    intro j o ho e he hp
    have := List.all_eq_true.1 h.1.1 (o, j) (by rw [List.mem_zipIdx_iff_getElem?]; simpa using ho)
    have := List.all_eq_true.1 this e he
    simpa [hp] using this
  have hin : ∀ {i j : Nat}, i < j → ∀ {a b : Oper}, ops[i]? = some a → ops[j]? = some b → ¬ ((masksFrom [] ops.toList).getD j 0).testBit i = true → indep4 E fid ops a b = true := by
    intro i j hij a b ha hb hd
    have := List.all_eq_true.1 h.1.2 (a, i) (by rw [List.mem_zipIdx_iff_getElem?]; simpa using ha)
    have := List.all_eq_true.1 this (b, j) (by rw [List.mem_zipIdx_iff_getElem?]; simpa using hb)
    simp only [Bool.or_eq_true, decide_eq_true_eq] at this
    rcases this with (h1 | h1) | h1
    · omega
    · exact (hd h1).elim
    · exact h1
  obtain ⟨h1, h2⟩ := schedule_spec (mixed := mixed) hpl h.2 t
  have hlt : ∀ x ∈ Region.schedule mixed ops t, x < ops.size := fun x hx => by simpa using h1.mem_iff.1 hx
  have hpw := pairwise_of_resp hpl h2 hlt (h1.nodup_iff.2 List.nodup_range)
  refine runK_runI (D := keepD E fid ops) _ _ _ ?_
  rw [runG_perm (fun i j => ((masksFrom [] ops.toList).getD j 0).testBit i = true) (fun i j hij hd s => ?_) (List.range ops.size) _ List.pairwise_lt_range h1 (hpw.imp fun hx => hx) st]
  · rw [List.range_eq_range', ← Array.length_toList, runK_range ops.toList 0 st (by simp)]
    exact hr
  · cases ha : ops[i]? with
    | none =>
      have ei : stepKI E call fid ops (keepD E fid ops) i = fun s => some s := by funext s; simp [stepKI, ha]
      rw [ei]
      simp
    | some a =>
      have ei : stepKI E call fid ops (keepD E fid ops) i = fun s => stepK E call fid ops (keepD E fid ops) (codeAt E fid ops i a) s a := by funext s; simp [stepKI, ha]
      cases hb : ops[j]? with
      | none =>
        have ej : stepKI E call fid ops (keepD E fid ops) j = fun s => some s := by funext s; simp [stepKI, hb]
        rw [ei, ej]
        simp
      | some b =>
        have ej : stepKI E call fid ops (keepD E fid ops) j = fun s => stepK E call fid ops (keepD E fid ops) (codeAt E fid ops j b) s b := by funext s; simp [stepKI, hb]
        rw [ei, ej]
        exact stepK_comm ha hb hij (by simpa using hd) (hin hij ha hb hd) s

end Go.Proofs.YtlglhokpaplifaaGreatDoor.Ev
