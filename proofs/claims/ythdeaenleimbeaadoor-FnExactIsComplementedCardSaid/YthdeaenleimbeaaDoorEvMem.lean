/- Reading, writing and addresses: what the evaluator says is what the machine does. Conditions: none. -/
import Derived.Test.YthdeaenleimbeaaDoorEvState
import Derived.Laws.CopyRow
import Derived.Laws.Slices
import Derived.Laws.Cells
import Derived.Laws.MakeOwn
import Derived.Laws.Small
namespace Go.Proofs.YthdeaenleimbeaaDoor.Ev
open Go.RowKit
set_option linter.unusedVariables false
set_option linter.unusedSimpArgs false
set_option linter.unusedSectionVars false

structure EnvOk (E : Env) (P : Program) : Prop where
  ty : ∀ t, E.ty t ≠ .other → ∃ d, P.underlying t = some d ∧ TD.of d = E.ty t
  size : ∀ t, E.size t ≠ 0 → ∃ i z, P.info? t = some i ∧ i.size = E.size t ∧ i.bytes ≤ 131072 ∧ i.zero = some z ∧ (∀ c, VR (E.zero t) c z) ∧
    (E.zero t).cells.length = E.size t ∧ (E.zero t).cells.all AV.one = true

theorem gr_ela (B : Nat → Nat → Prop) (n0 : Nat) (w : World) (h : Heap) (M : Mp) : Gr (cx B n0 w h M).ela (cx B n0 w h M) :=
  ⟨fun _ _ _ x => x, fun _ _ _ x => x, fun _ _ hq => by simp [Cx.ela] at hq, fun _ _ hx => hx.elim⟩
theorem gr_el_ela (B : Nat → Nat → Prop) (n0 : Nat) (w : World) (h : Heap) (M : Mp) : Gr (cx B n0 w h M).el (cx B n0 w h M).ela :=
  ⟨fun _ _ _ x => x, fun _ _ _ x => ⟨x.1, x.2.1⟩, fun _ _ hq => by simp [Cx.el] at hq, fun _ _ hx => hx.elim⟩
theorem gr_el (B : Nat → Nat → Prop) (n0 : Nat) (w : World) (h : Heap) (M : Mp) : Gr (cx B n0 w h M).el (cx B n0 w h M) :=
  ⟨fun _ _ _ x => x, fun _ _ _ x => ⟨x.1, x.2.1⟩, fun _ _ hq => by simp [Cx.el] at hq, fun _ _ hx => hx.elim⟩
theorem gr_elb (B : Nat → Nat → Prop) (n0 : Nat) (w : World) (h : Heap) (M : Mp) (br : Bool) : Gr ((cx B n0 w h M).elb br) (cx B n0 w h M) := by
  cases br
  · exact gr_el ..
  · exact gr_ela ..
theorem gr_el_elb (B : Nat → Nat → Prop) (n0 : Nat) (w : World) (h : Heap) (M : Mp) (br : Bool) : Gr (cx B n0 w h M).el ((cx B n0 w h M).elb br) := by
  cases br
  · exact Gr.refl _
  · exact gr_el_ela ..

theorem VR.cells_of {c : Cx} (hx : ∀ y v, ¬ c.x y v) {v : AV} {rv : Value} (h : VR v c rv) (hl : rv.cells.size = v.cells.length) : VRl v.cells c rv.cells.toList := by
  cases v with
  | agg cs =>
    simp only [VR] at h
    obtain ⟨rc, rfl, h2⟩ := h
    simpa [AV.cells, Value.cells] using h2
  | un =>
    simp only [AV.cells, List.length_cons, List.length_nil] at hl ⊢
    have : ∃ x, rv.cells.toList = [x] := List.length_eq_one_iff.1 (by simpa using hl)
    obtain ⟨x, hx⟩ := this
    rw [hx]
    simp [VRl, VR]
  | tup vs =>
    have h' := h
    simp only [VR] at h
    obtain ⟨rc, rfl, h2⟩ := h
    simp only [AV.cells, Value.cells, VRl]
    exact ⟨_, [], rfl, h', rfl⟩
  | ud =>
    have h' := h
    simp only [VR] at h
    subst h
    simp only [AV.cells, undef, Value.cells, VRl]
    exact ⟨_, [], rfl, h', rfl⟩
  | _ =>
    have := (VR.one hx h rfl).2
    rw [this]
    simp only [AV.cells, VRl]
    exact ⟨_, [], rfl, h, rfl⟩

theorem VR.cells_one {c : Cx} (hx : ∀ y v, ¬ c.x y v) {v : AV} {rv : Value} (h : VR v c rv) (ho : v.cells.all AV.one = true) : VRl v.cells c rv.cells.toList := by
  refine VR.cells_of hx h ?_
  cases v with
  | agg cs =>
    simp only [VR] at h
    obtain ⟨rc, rfl, h2⟩ := h
    simpa [AV.cells, Value.cells] using h2.length
  | un => simp [AV.cells, AV.one] at ho
  | tup => simp [AV.cells, AV.one] at ho
  | ud => simp [AV.cells, AV.one] at ho
  | _ => rw [(VR.one hx h rfl).2]; rfl

theorem VRl.all_one {c : Cx} (hx : ∀ y v, ¬ c.x y v) : ∀ {vs : List AV} {rs : List Value}, VRl vs c rs → vs.all AV.one = true → ∀ r ∈ rs, r.oneCell' = true
  | [], _, h, _, r, hr => by simp only [VRl] at h; subst h; simp at hr
  | x :: xs, _, h, ho, r, hr => by
    simp only [VRl] at h
    obtain ⟨v, ws, rfl, h1, h2⟩ := h
    simp only [List.all_cons, Bool.and_eq_true] at ho
    rcases List.mem_cons.1 hr with e | e
    · subst e; exact (VR.one hx h1 ho.1).1
    · exact VRl.all_one hx h2 ho.2 r e

theorem td_agg {d : TypeDesc} {b : Bool} (h : (TD.of d).agg? = some b) : (match d with | .struct _ => true | .array _ _ => true | _ => false) = b := by
  cases d <;> cases b <;> first | rfl | (simp [TD.of, TD.agg?] at h)

section
variable {P : Program} {E : Env} (hE : EnvOk E P)
include hE

theorem run_isAgg (w : World) {t : Nat} {b : Bool} (h : (E.ty t).agg? = some b) : (isAgg t).run P w = .ok b w := by
  obtain ⟨d, h1, h2⟩ := hE.ty t (by intro e; rw [e] at h; simp [TD.agg?] at h)
  rw [← h2] at h
  have := td_agg h
  simp only [isAgg, Sem.run_bind, run_underlying h1, Result.andThen_ok]
  cases d <;> simp_all

theorem run_sizeOf (w : World) {t : Nat} (h : E.size t ≠ 0) : (sizeOf t).run P w = .ok (E.size t) w := by
  obtain ⟨i, z, h1, h2, _⟩ := hE.size t h
  simp [sizeOf, typeInfo, h1, h2]

theorem run_part (w : World) {c : Cx} {t : Nat} {cs : List AV} {off : Nat} {v : AV} {rcs : List Value} (hp : partOf E t cs off = some v) (hv : VRl cs c rcs)
    {b o : Nat} (hc : ∀ j x, rcs[j]? = some x → w.cell? ⟨b, o + j, none⟩ = some x) : ∃ rv, (loadVar t ⟨b, o + off, none⟩).run P w = .ok rv w ∧ VR v c rv := by
  unfold partOf at hp
  cases ha : (E.ty t).agg? with
  | none => rw [ha] at hp; cases hp
  | some ag =>
    rw [ha] at hp
    cases ag with
    | true =>
      simp only at hp
      split at hp
      · rename_i hs
        obtain rfl := Option.some.inj hp
        have hlen : ((rcs.drop off).take (E.size t)).length = E.size t := by rw [List.length_take, List.length_drop, hv.length]; omega
        have hl := run_loadCells_list (P := P) w ⟨b, o + off, none⟩ ((rcs.drop off).take (E.size t)) (fun j x hx => by
          rw [Addr.add_lit]
          rw [List.getElem?_take] at hx
          split at hx
          · rw [List.getElem?_drop] at hx
            rw [Nat.add_assoc]
            exact hc _ _ hx
          · cases hx)
        rw [hlen] at hl
        refine ⟨.agg ((rcs.drop off).take (E.size t)).toArray, ?_, ?_⟩
        · simp only [loadVar, Sem.run_bind, run_isAgg hE w ha, Result.andThen_ok, if_true, run_sizeOf hE w hs.1, hl, Sem.run_pure]
        · simp only [VR]; exact ⟨_, rfl, (hv.drop off).take _⟩
      · cases hp
    | false =>
      simp only at hp
      obtain ⟨r, hr, hvr⟩ := hv.get off v hp
      refine ⟨r, ?_, hvr⟩
      simp only [loadVar, Sem.run_bind, run_isAgg hE w ha, Result.andThen_ok, Bool.false_eq_true, if_false]
      have := hc _ _ hr
      simp [run_load, this]
end

theorem cx_x (B : Nat → Nat → Prop) (n0 : Nat) (w : World) (h : Heap) (M : Mp) : ∀ y v, ¬ (cx B n0 w h M).x y v := fun _ _ hx => hx
theorem cx_l {B : Nat → Nat → Prop} {n0 : Nat} {w : World} {h : Heap} {M : Mp} {key : Nat} {blk : Blk} (hk : h key = some blk) {q : LB} (hq : (cx B n0 w h M).l key = some q) :
    q = ⟨blk.isTok, blk.g, blk.u, blk.k, (M key).1, (M key).2⟩ := by
  simp only [cx, Lof, hk, Option.map_some, Option.some.injEq] at hq
  exact hq.symm

theorem splice_list {α : Type} (X R Y xs : List α) (off : Nat) (h : off + xs.length ≤ R.length) :
    (X ++ R ++ Y).take (X.length + off) ++ xs ++ (X ++ R ++ Y).drop (X.length + off + xs.length) = X ++ (R.take off ++ xs ++ R.drop (off + xs.length)) ++ Y := by
  have h1 : (X ++ R ++ Y).take (X.length + off) = X ++ R.take off := by
    rw [List.append_assoc, List.take_append, List.take_append]
    have a : X.take (X.length + off) = X := List.take_of_length_le (by omega)
    have b : X.length + off - X.length = off := by omega
    have c : off - R.length = 0 := by omega
    rw [a, b, c]
    simp
  have h2 : (X ++ R ++ Y).drop (X.length + off + xs.length) = R.drop (off + xs.length) ++ Y := by
    rw [List.append_assoc, List.drop_append, List.drop_append]
    have a : X.drop (X.length + off + xs.length) = [] := List.drop_of_length_le (by omega)
    have b : X.length + off + xs.length - X.length = off + xs.length := by omega
    have c : off + xs.length - R.length = 0 := by omega
    rw [a, b, c]
    simp
  rw [h1, h2]
  simp [List.append_assoc]

theorem one_cells {x : AV} (h : x.one = true) : x.cells = [x] := by
  cases x <;> first | rfl | (simp [AV.one] at h)

theorem putCells_ok {c : Cx} (hx : ∀ y v, ¬ c.x y v) {old x v' : AV} {off : Nat} (hp : putCells old off x = some v') (ho : old.cells.all AV.one = true) {r0 rx : Value} (h0 : VR old c r0) (h1 : VR x c rx) :
    ∃ rv', VR v' c rv' ∧ rv'.cells.toList = r0.cells.toList.take off ++ rx.cells.toList ++ r0.cells.toList.drop (off + rx.cells.toList.length) ∧ off + rx.cells.toList.length ≤ r0.cells.toList.length ∧
      v'.cells.all AV.one = true ∧ v'.cells.length = old.cells.length ∧ rx.cells.toList.length = x.cells.length ∧ (∀ r ∈ rx.cells.toList, r.oneCell' = true) := by
  unfold putCells at hp
  split at hp
  · rename_i hone
    have hxc := VR.cells_one hx h1 hone
    have h0c := VR.cells_one hx h0 ho
    have hxl := hxc.length
    have h0l := h0c.length
    have hall := VRl.all_one hx hxc hone
    cases old with
    | agg cs =>
      simp only at hp
      split at hp
      · rename_i hle
        obtain rfl := Option.some.inj hp
        simp only [AV.cells] at h0c h0l ho
        refine ⟨.agg (r0.cells.toList.take off ++ rx.cells.toList ++ r0.cells.toList.drop (off + rx.cells.toList.length)).toArray, ?_, by simp [Value.cells], by omega, ?_, ?_, hxl, hall⟩
        · simp only [VR]
          refine ⟨_, rfl, ?_⟩
          rw [hxl]
          exact ((h0c.take off).append hxc).append (h0c.drop _)
        · simp only [AV.cells, List.all_append, Bool.and_eq_true]
          refine ⟨⟨?_, hone⟩, ?_⟩
          · rw [List.all_eq_true] at ho ⊢; exact fun y hy => ho y (List.mem_of_mem_take hy)
          · rw [List.all_eq_true] at ho ⊢; exact fun y hy => ho y (List.mem_of_mem_drop hy)
        · show List.length (_ ++ _ ++ _) = cs.length
          simp only [List.length_append, List.length_take, List.length_drop]; omega
      · cases hp
    | _ =>
      simp only at hp
      split at hp
      · rename_i hc
        obtain rfl := Option.some.inj hp
        have hr0 := (VR.one hx h0 hc.1).2
        have hrx := (VR.one hx h1 hc.2.2).2
        have hco := one_cells hc.2.2
        refine ⟨rx, h1, ?_, ?_, hone, ?_, hxl, hall⟩
        · rw [hr0, hrx, hc.2.1]; rfl
        · rw [hr0, hrx, hc.2.1]; simp
        · rw [hco]; rfl
      · cases hp
  · cases hp

theorem flatC_length {rvs : List Value} {k : Nat} (h : ∀ r ∈ rvs, r.cells.size = k) : (flatC rvs).length = rvs.length * k := by
  induction rvs with
  | nil => simp [flatC]
  | cons r rs ih =>
    have h1 : (flatC (r :: rs)) = r.cells.toList ++ flatC rs := rfl
    rw [h1, List.length_append, ih fun x hx => h x (by simp [hx]), List.length_cons, Array.length_toList, h r (by simp), Nat.add_mul]
    omega
theorem flatC_append (A C : List Value) : flatC (A ++ C) = flatC A ++ flatC C := by simp [flatC]
theorem flatC_get {rvs : List Value} {k : Nat} (h : ∀ r ∈ rvs, r.cells.size = k) {i : Nat} {r : Value} (hi : rvs[i]? = some r) {j : Nat} {x : Value} (hj : r.cells.toList[j]? = some x) (rest : List Value) :
    (flatC rvs ++ rest)[i * k + j]? = some x := by
  obtain ⟨hlt, rfl⟩ := List.getElem?_eq_some_iff.1 hi
  have hsp : rvs = rvs.take i ++ rvs[i] :: rvs.drop (i + 1) := by simp
  have hl : (flatC (rvs.take i)).length = i * k := by
    rw [flatC_length (k := k) fun r hr => h r (List.mem_of_mem_take hr), List.length_take, Nat.min_eq_left (by omega)]
  have hjl : j < rvs[i].cells.toList.length := (List.getElem?_eq_some_iff.1 hj).1
  have e : flatC rvs = flatC (rvs.take i) ++ (rvs[i].cells.toList ++ flatC (rvs.drop (i + 1))) := by
    conv => lhs; rw [hsp]
    rw [flatC_append]; rfl
  rw [e, List.append_assoc, List.getElem?_append_right (by omega), List.append_assoc, List.getElem?_append_left (by omega), hl, Nat.add_sub_cancel_left]
  exact hj

theorem VRl.sizes {c : Cx} (hx : ∀ y v, ¬ c.x y v) {k : Nat} : ∀ {es : List AV} {rvs : List Value}, VRl es c rvs → (∀ e ∈ es, e.cells.length = k ∧ e.cells.all AV.one = true) → ∀ r ∈ rvs, r.cells.size = k
  | [], _, h, _, r, hr => by simp only [VRl] at h; subst h; simp at hr
  | e :: es, _, h, he, r, hr => by
    simp only [VRl] at h
    obtain ⟨v, ws, rfl, h1, h2⟩ := h
    rcases List.mem_cons.1 hr with q | q
    · subst q
      have := (VR.cells_one hx h1 (he e (by simp)).2).length
      rw [Array.length_toList] at this
      rw [this]
      exact (he e (by simp)).1
    · exact VRl.sizes hx h2 (fun e' h' => he e' (by simp [h'])) r q

section
variable {P : Program} {E : Env} (hE : EnvOk E P) {B : Nat → Nat → Prop} {w0 w : World} {h : Heap} {M : Mp} (H : HR B w0 w h M)
include hE H

theorem run_loadV {t : Nat} {p v : AV} {rp : Value} (hl : loadV E h t p = some v) (hp : VR p (cx B w0.heap.size w h M) rp) :
    ∃ rv, (Instr.loadAt t rp).run P w = .ok rv w ∧ VR v (cx B w0.heap.size w h M) rv := by
  have hx := cx_x B w0.heap.size w h M
  unfold loadV at hl
  cases p with
  | vp key g off =>
    simp only at hl
    cases hk : h key with
    | none => rw [hk] at hl; cases hl
    | some blk =>
      rw [hk] at hl
      cases blk with
      | var g' T v0 =>
        simp only at hl
        split at hl
        · rename_i hg
          simp only [VR] at hp
          obtain ⟨a, rfl, q, hq, _, h3⟩ := hp
          have hq' := cx_l hk hq
          subst hq'
          obtain ⟨_, rfl⟩ := h3 hg
          obtain ⟨hone, rv, hv, hh⟩ := H.ok _ _ hk
          obtain ⟨r, hr, hvr⟩ := run_part hE w hl (VR.cells_one hx hv hone) (b := (M key).1) (o := 0) (fun j x hj => by
            rw [cell_of_row w _ _ _ _ _ hh]
            simpa using hj)
          rw [Nat.zero_add] at hr
          exact ⟨r, by simp [Instr.loadAt, Instr.sureAddr, hr], hvr⟩
        · cases hl
      | row => cases hl
      | tok => cases hl
  | rp key g i off =>
    simp only at hl
    cases hk : h key with
    | none => rw [hk] at hl; cases hl
    | some blk =>
      rw [hk] at hl
      cases blk with
      | row g' T k es =>
        simp only at hl
        split at hl
        · rename_i hg
          rw [Option.bind_eq_some_iff] at hl
          obtain ⟨e, he, hl⟩ := hl
          simp only [VR] at hp
          obtain ⟨a, rfl, q, hq, _, h3⟩ := hp
          have hq' := cx_l hk hq
          subst hq'
          obtain ⟨_, rfl⟩ := h3 hg
          obtain ⟨hk0, hall, rvs, rest, hv, hh, hlenk, hmaxk⟩ := H.ok _ _ hk
          obtain ⟨re, hre, hve⟩ := hv.get i e he
          have hsz := VRl.sizes hx hv hall
          obtain ⟨r, hr, hvr⟩ := run_part hE w hl (VR.cells_one hx hve (hall e (List.mem_of_getElem? he)).2) (b := (M key).1) (o := i * k) (fun j x hj => by
            rw [cell_of_row w _ _ _ _ _ hh]
            simpa using flatC_get hsz hre hj rest)
          exact ⟨r, by simpa [Instr.loadAt, Instr.sureAddr, Blk.k] using hr, hvr⟩
        · cases hl
      | var => cases hl
      | tok => cases hl
  | cp br cs off =>
    simp only at hl
    simp only [VR] at hp
    obtain ⟨b, o, rc, rfl, hv, hc⟩ := hp
    obtain ⟨r, hr, hvr⟩ := run_part hE w hl hv (b := b) (o := o) (fun j x hj => by
      have := hc j x hj
      cases br <;> exact this.1)
    exact ⟨r, by simp [Instr.loadAt, Instr.sureAddr, hr], VR.mono (gr_elb ..) _ hvr⟩
  | _ => cases hl

theorem run_storeV {t : Nat} {p x : AV} {h' : Heap} {rp rx : Value} (hl : storeV E h t p x = some h') (hp : VR p (cx B w0.heap.size w h M) rp) (hvx : VR x (cx B w0.heap.size w h M) rx) :
    ∃ w', (Instr.storeAt t rp rx).run P w = .ok () w' ∧ HR B w0 w' h' M ∧ Gr (cx B w0.heap.size w h M) (cx B w0.heap.size w' h' M) := by
  have hx := cx_x B w0.heap.size w h M
  unfold storeV at hl
  split at hl
  case isFalse => cases hl
  rename_i hsz
  cases p with
  | vp key g off =>
    simp only at hl
    cases hk : h key with
    | none => rw [hk] at hl; cases hl
    | some blk =>
      rw [hk] at hl
      cases blk with
      | var g' T v0 =>
        simp only at hl
        split at hl
        · rename_i hg
          rw [Option.map_eq_some_iff] at hl
          obtain ⟨v', hput, rfl⟩ := hl
          simp only [VR] at hp
          obtain ⟨a, rfl, q, hq, _, h3⟩ := hp
          have hq' := cx_l hk hq
          subst hq'
          obtain ⟨_, rfl⟩ := h3 hg
          obtain ⟨hone, rv, hv, hh⟩ := H.ok _ _ hk
          obtain ⟨rv', hv', hcells, hle, hone', _, hxl, hxo⟩ := putCells_ok hx hput hone hv hvx
          have hst := run_storeCells_at P (M key).1 off T rx.cells.toList 0 rv.cells w hh (by simpa using hle) hxo
          rw [Nat.add_zero, ← hcells, Array.toArray_toList] at hst
          refine ⟨w.setRow (M key).1 rv'.cells, ?_, H.put hk rfl rfl rfl rfl (fun b hb => setRow_other w _ b _ hb) rfl rfl rfl (by simp) ⟨hone', rv', hv', setRow_heap w _ _ _ T (0, 0) hh⟩, gr_put H hk rfl rfl rfl rfl (fun b hb => setRow_other w _ b _ hb)⟩
          · simp only [Instr.storeAt, Instr.sureAddr, storeVar, Sem.run_bind, Sem.run_pure, Result.andThen_ok, run_sizeOf hE w hsz.2]
            have : rx.cells.size = E.size t := by rw [← Array.length_toList, hxl, hsz.1]
            simp only [this, ne_eq, not_true_eq_false, if_false, Sem.run_bind, Sem.run_pure, Result.andThen_ok]
            exact hst
        · cases hl
      | row => cases hl
      | tok => cases hl
  | rp key g i off =>
    simp only at hl
    cases hk : h key with
    | none => rw [hk] at hl; cases hl
    | some blk =>
      rw [hk] at hl
      cases blk with
      | row g' T k es =>
        simp only at hl
        split at hl
        · rename_i hg
          rw [Option.bind_eq_some_iff] at hl
          obtain ⟨e, he, hl⟩ := hl
          rw [Option.map_eq_some_iff] at hl
          obtain ⟨v', hput, rfl⟩ := hl
          simp only [VR] at hp
          obtain ⟨a, rfl, q, hq, _, h3⟩ := hp
          have hq' := cx_l hk hq
          subst hq'
          obtain ⟨_, rfl⟩ := h3 hg
          obtain ⟨hk0, hall, rvs, rest, hv, hh, hlenk, hmaxk⟩ := H.ok _ _ hk
          obtain ⟨re, hre, hve⟩ := hv.get i e he
          have hsizes := VRl.sizes hx hv hall
          have hmem := List.mem_of_getElem? he
          obtain ⟨rv', hv', hcells, hle, hone', hlen', hxl, hxo⟩ := putCells_ok hx hput (hall e hmem).2 hve hvx
          have hilt : i < rvs.length := (List.getElem?_eq_some_iff.1 hre).1
          have hsp : rvs = rvs.take i ++ re :: rvs.drop (i + 1) := by
            obtain ⟨hlt, e1⟩ := List.getElem?_eq_some_iff.1 hre
            rw [← e1]; simp
          have hXl : (flatC (rvs.take i)).length = i * k := by
            rw [flatC_length (k := k) fun r hr => hsizes r (List.mem_of_mem_take hr), List.length_take, Nat.min_eq_left (by omega)]
          have eF : flatC rvs ++ rest = flatC (rvs.take i) ++ re.cells.toList ++ (flatC (rvs.drop (i + 1)) ++ rest) := by
            conv => lhs; rw [hsp]
            rw [flatC_append]
            have : flatC (re :: rvs.drop (i + 1)) = re.cells.toList ++ flatC (rvs.drop (i + 1)) := rfl
            rw [this]
            simp [List.append_assoc]
          have hfit : i * k + off + 0 + rx.cells.toList.length ≤ (flatC rvs ++ rest).toArray.size := by
            rw [List.size_toArray, eF]
            simp only [List.length_append, hXl]
            omega
          have hst := run_storeCells_at P (M key).1 (i * k + off) T rx.cells.toList 0 (flatC rvs ++ rest).toArray w hh hfit hxo
          have hset : rvs.set i rv' = rvs.take i ++ rv' :: rvs.drop (i + 1) := by
            rw [List.set_eq_take_append_cons_drop, if_pos hilt]
          have hnew : (flatC rvs ++ rest).take (i * k + off) ++ rx.cells.toList ++ (flatC rvs ++ rest).drop (i * k + off + rx.cells.toList.length) = flatC (rvs.set i rv') ++ rest := by
            rw [eF, ← hXl, splice_list _ _ _ _ _ (by simpa using hle), ← hcells, hset, flatC_append]
            have : flatC (rv' :: rvs.drop (i + 1)) = rv'.cells.toList ++ flatC (rvs.drop (i + 1)) := rfl
            rw [this]
            simp [List.append_assoc]
          have hgput := gr_put (B := B) (w' := w.setRow (M key).1 (flatC (rvs.set i rv') ++ rest).toArray) (blk' := .row g' T k (es.set i v')) H hk rfl rfl rfl rfl (fun b hb => setRow_other w _ b _ hb)
          refine ⟨w.setRow (M key).1 (flatC (rvs.set i rv') ++ rest).toArray, ?_, H.put hk rfl rfl rfl rfl (fun b hb => setRow_other w _ b _ hb) rfl rfl rfl (by simp) ⟨hk0, fun e' he' => ?_, rvs.set i rv', rest, ?_, ?_, ?_, hmaxk⟩, hgput⟩
          · simp only [Instr.storeAt, Instr.sureAddr, storeVar, Sem.run_bind, Sem.run_pure, Result.andThen_ok, run_sizeOf hE w hsz.2]
            have : rx.cells.size = E.size t := by rw [← Array.length_toList, hxl, hsz.1]
            simp only [this, ne_eq, not_true_eq_false, if_false, Sem.run_bind, Sem.run_pure, Result.andThen_ok]
            simp only [Nat.add_zero] at hst
            rw [hnew] at hst
            simpa [Blk.k] using hst
          · rcases List.mem_or_eq_of_mem_set he' with h1 | h1
            · exact hall e' h1
            · rw [h1]; exact ⟨hlen'.trans (hall e hmem).1, hone'⟩
          · refine VRl.mk (by simp [hv.length]) fun j a r ha hr => ?_
            rw [List.getElem?_set] at ha hr
            by_cases e : i = j
            · subst e
              rw [if_pos rfl] at ha hr
              have hesl : i < es.length := (List.getElem?_eq_some_iff.1 he).1
              rw [if_pos hesl] at ha
              rw [if_pos hilt] at hr
              obtain rfl := Option.some.inj ha
              obtain rfl := Option.some.inj hr
              exact hv'
            · rw [if_neg e] at ha hr
              obtain ⟨r2, hr2, h2⟩ := hv.get j a ha
              rw [hr] at hr2
              obtain rfl := Option.some.inj hr2
              exact h2
          · exact setRow_heap w _ _ _ T (0, 0) hh
          · rw [← hlenk, ← hnew]
            rw [List.size_toArray, List.length_append] at hfit
            simp only [List.length_append, List.length_take, List.length_drop]
            omega
        · cases hl
      | var => cases hl
      | tok => cases hl
  | _ => cases hl
end

end Go.Proofs.YthdeaenleimbeaaDoor.Ev
