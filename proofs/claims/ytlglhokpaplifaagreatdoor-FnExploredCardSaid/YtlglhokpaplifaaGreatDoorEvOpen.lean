/- From the data of a row to the evaluator's values: numbers, flags, slices and structs of them. Conditions: none. -/
import Derived.Test.YtlglhokpaplifaaGreatDoorEvData2
import Derived.ProofKit
import Derived.WalkKit
import Derived.Below
import Derived.ChangeSlices
import Derived.ChangeArms
import Derived.Carry
import Derived.OpenShut
import Derived.SizedLaws
namespace Go.Proofs.YtlglhokpaplifaaGreatDoor.Ev
open Go.RowKit Go.ChangeShapes Go.WideShapes Go.ChangeAt
set_option linter.unusedVariables false
set_option linter.unusedSimpArgs false
set_option linter.unusedSectionVars false

/-- a type's shape -/
inductive Sh where
  | int (t : Nat) (k : IntKind)
  | bool (t : Nat)
  | sl (t : Nat) (e : Sh)
  | st (t : Nat) (fs : List Sh)
def Sh.ty : Sh → Nat
  | .int t _ => t | .bool t => t | .sl t _ => t | .st t _ => t
def Sh.isSt : Sh → Bool | .st .. => true | _ => false
mutual
def Sh.size : Sh → Nat
  | .int .. => 1
  | .bool _ => 1
  | .sl .. => 1
  | .st _ fs => shSizes fs
def shSizes : List Sh → Nat
  | [] => 0
  | s :: l => s.size + shSizes l
end
def shOffs (o : Nat) : List Sh → List (Nat × Nat)
  | [] => []
  | s :: l => (o, s.ty) :: shOffs (o + s.size) l
def isInt (d : Option TypeDesc) (k : IntKind) : Bool := match d with | some (.int k') => decide (k' = k) | _ => false
def isBool (d : Option TypeDesc) : Bool := match d with | some .bool => true | _ => false
def isSlice (d : Option TypeDesc) (e : Nat) : Bool := match d with | some (.slice t) => decide (t = e) | _ => false
def isStruct (d : Option TypeDesc) (l : List (Nat × Nat)) : Bool := match d with | some (.struct F) => decide ((F.toList.map fun f => (f.offset, f.type)) = l) | _ => false
mutual
def shB (P : Program) : Sh → Bool
  | .int t k => isInt (P.underlying t) k
  | .bool t => isBool (P.underlying t)
  | .sl t e => isSlice (P.underlying t) e.ty && P.cellsOf e.ty == e.size && !(e.size == 0) && shB P e
  | .st t fs => isStruct (P.underlying t) (shOffs 0 fs) && P.cellsOf t == shSizes fs && shBs P fs
def shBs (P : Program) : List Sh → Bool
  | [] => true
  | s :: l => P.cellsOf s.ty == s.size && shB P s && shBs P l
end
theorem isInt_eq {d : Option TypeDesc} {k : IntKind} (h : isInt d k = true) : d = some (.int k) := by
  unfold isInt at h; split at h
  · rw [of_decide_eq_true h]
  · cases h
theorem isBool_eq {d : Option TypeDesc} (h : isBool d = true) : d = some .bool := by
  unfold isBool at h; split at h
  · rfl
  · cases h
theorem isSlice_eq {d : Option TypeDesc} {e : Nat} (h : isSlice d e = true) : d = some (.slice e) := by
  unfold isSlice at h; split at h
  · rw [of_decide_eq_true h]
  · cases h
theorem isStruct_eq {d : Option TypeDesc} {l : List (Nat × Nat)} (h : isStruct d l = true) : ∃ F, d = some (.struct F) ∧ (F.toList.map fun f => (f.offset, f.type)) = l := by
  unfold isStruct at h; split at h
  · exact ⟨_, rfl, of_decide_eq_true h⟩
  · cases h

mutual
/-- a value of a shape -/
def FitV : Sh → AV → Prop
  | .int _ k, x => ∃ n, x = .int k n
  | .bool _, x => ∃ b, x = .bool b
  | .sl _ e, x => x = .sl 0 .lit [] ∨ ∃ es, x = .sl e.size .no es ∧ es.length ≤ top63 ∧ ∀ y ∈ es, FitV e y ∧ y.cells.length = e.size
  | .st _ fs, x => ∃ cs, x = .agg cs ∧ Fits fs cs
def Fits : List Sh → List AV → Prop
  | [], cs => cs = []
  | s :: l, cs => ∃ y b, cs = y.cells ++ b ∧ FitV s y ∧ Fits l b
end

theorem fit_one : ∀ {s : Sh} {y : AV}, s.isSt = false → FitV s y → y.one = true ∧ y.cells = [y]
  | .int .., _, _, h => by simp only [FitV] at h; obtain ⟨n, rfl⟩ := h; exact ⟨rfl, rfl⟩
  | .bool .., _, _, h => by simp only [FitV] at h; obtain ⟨n, rfl⟩ := h; exact ⟨rfl, rfl⟩
  | .sl .., _, _, h => by simp only [FitV] at h; rcases h with rfl | ⟨es, rfl, _⟩ <;> exact ⟨rfl, rfl⟩
  | .st .., _, hs, _ => by simp [Sh.isSt] at hs

/-- reads what is there -/
def Reads (w : World) (c : Cx) : Prop := ∀ b i x, w.cell? ⟨b, i, none⟩ = some x → c.s b i x
theorem Reads.el {w : World} {c : Cx} (h : Reads w c) : Reads w c.el := h

theorem vrm_mk {c : Cx} {C : CellP} {b k : Nat} : ∀ {es : List AV} {rvs : List Value} {o : Nat}, VRl es c rvs → (∀ r ∈ rvs, r.cells.size = k) → (∀ (i : Nat) r, rvs[i]? = some r → CellsAt C b (o + i * k) r) → VRm es c C b o k
  | [], _, _, _, _, _ => by simp [VRm]
  | e :: es, rvs, o, h, hs, hc => by
    simp only [VRl] at h
    obtain ⟨r, rs, rfl, h1, h2⟩ := h
    simp only [VRm]
    refine ⟨⟨r, h1, hs r (by simp), by have := hc 0 r (by simp); simpa using this⟩, vrm_mk h2 (fun r hr => hs r (by simp [hr])) fun i r hr => ?_⟩
    have := hc (i + 1) r (by simpa using hr)
    rw [show o + k + i * k = o + (i + 1) * k by rw [Nat.add_mul]; omega]
    exact this

section
variable {H : Type} {enc : TypeId × Value → H} {P : Program} {w : World} {held : Bool}

/-- an opened value -/
def Opened (w : World) (sh : Sh) (cs : List Value) : Prop := ∃ (v : AV) (rv : Value), rv.cells.toList = cs ∧ (sh.isSt = true → rv = .agg cs.toArray) ∧ (sh.isSt = false → cs = [rv]) ∧ FitV sh v ∧ v.cells.length = sh.size ∧ cs.length = sh.size ∧ ∀ c, Reads w c → VR v c rv

theorem opened_cells {sh : Sh} {cs : List Value} (h : Opened w sh cs) : ∃ v : AV, FitV sh v ∧ v.cells.length = sh.size ∧ cs.length = sh.size ∧ ∀ c, Reads w c → VRl v.cells c cs := by
  obtain ⟨v, rv, h1, h2, h3, h4, h5, h6, h7⟩ := h
  refine ⟨v, h4, h5, h6, fun c hc => ?_⟩
  have hv := h7 c hc
  cases hs : sh.isSt with
  | true =>
    obtain rfl := h2 hs
    cases sh with
    | st t fs =>
      simp only [FitV] at h4
      obtain ⟨us, rfl, _⟩ := h4
      simp only [VR] at hv
      obtain ⟨rc, e, hv⟩ := hv
      simp only [Value.agg.injEq] at e
      have e2 : cs = rc := by simpa using congrArg Array.toList e
      rw [e2]; exact hv
    | _ => simp [Sh.isSt] at hs
  | false =>
    obtain rfl := h3 hs
    rw [(fit_one hs h4).2]
    simp only [VRl]
    exact ⟨rv, [], rfl, hv, rfl⟩

mutual
theorem opened : ∀ (sh : Sh) {fuel : Nat} {cs : List Value} {x : DataW H × List MemPlace}, shB P sh = true → DataW.trod enc P w 0 (fun _ => true) held fuel sh.ty cs = some x → Opened w sh cs
  | .int t k, fuel, cs, x, hb, h => by
    simp only [shB] at hb
    obtain ⟨n, rfl, _, _⟩ := DataW.trod_int (isInt_eq hb) h
    exact ⟨.int k n, .int k n, rfl, fun h => (by simp [Sh.isSt] at h), fun _ => rfl, by simp only [FitV]; exact ⟨n, rfl⟩, rfl, rfl, fun c _ => by simp only [VR]⟩
  | .bool t, fuel, cs, x, hb, h => by
    simp only [shB] at hb
    obtain ⟨n, rfl, _⟩ := DataW.trod_bool (isBool_eq hb) h
    exact ⟨.bool n, .bool n, rfl, fun h => (by simp [Sh.isSt] at h), fun _ => rfl, by simp only [FitV]; exact ⟨n, rfl⟩, rfl, rfl, fun c _ => by simp only [VR]⟩
  | .st t fs, fuel, cs, x, hb, h => by
    simp only [shB, Bool.and_eq_true, beq_iff_eq] at hb
    obtain ⟨⟨h1, h2⟩, h3⟩ := hb
    obtain ⟨F, hF, hoff⟩ := isStruct_eq h1
    obtain ⟨xs, n, _, _, hl, hlen, hfd⟩ := DataW.trod_struct hF h
    have hl2 : cs.length = shSizes fs := hl.trans h2
    obtain ⟨us, hu1, hu2, hu3⟩ := openeds fs (o := 0) (cs := cs) (n := n) h3 (by omega) fun i o s hi => by
      have hh : (F.toList.map fun f => (f.offset, f.type))[i]? = some (o, s) := by rw [hoff]; exact hi
      rw [List.getElem?_map] at hh
      cases hf : F.toList[i]? with
      | none => rw [hf] at hh; simp at hh
      | some f =>
        rw [hf] at hh
        simp only [Option.map_some, Option.some.injEq, Prod.mk.injEq] at hh
        have hf2 : F[i]? = some f := by simpa using hf
        have := hfd i f hf2
        rw [hh.1, hh.2] at this
        have hi2 : i < xs.length := by
          rw [hlen]
          have := (Array.getElem?_eq_some_iff.1 hf2).1
          exact this
        exact ⟨xs[i], by rw [this]; simp [hi2]⟩
    refine ⟨.agg us, .agg cs.toArray, rfl, fun _ => rfl, fun h => (by simp [Sh.isSt] at h), by simp only [FitV]; exact ⟨us, rfl, hu1⟩, hu2, hl2, fun c hc => ?_⟩
    simp only [VR]
    refine ⟨cs, rfl, ?_⟩
    have := hu3 c hc
    rw [List.drop_zero] at this
    rw [List.take_of_length_le (by omega)] at this
    exact this
  | .sl t e, fuel, cs, x, hb, h => by
    simp only [shB, Bool.and_eq_true, beq_iff_eq] at hb
    obtain ⟨⟨⟨h1, h2⟩, h0⟩, h3⟩ := hb
    have h0 : e.size ≠ 0 := by simpa using h0
    rcases DataW.trod_slice (isSlice_eq h1) h with ⟨rfl, _⟩ | ⟨a, len, cap, elems, rest, n, _, rfl, _, _, hl, hm, hlen, hel, _, _⟩
    · exact ⟨.sl 0 .lit [], _, rfl, fun h => (by simp [Sh.isSt] at h), fun _ => rfl, by simp [FitV], rfl, rfl, fun c _ => by simp only [VR]; exact ⟨none, 0, rfl, Nat.le_refl _, Nat.zero_le _, fun _ => rfl, fun h => (h rfl).elim, rfl⟩⟩
    · have each : ∀ i, i < len → ∃ y : AV × Value, FitV e y.1 ∧ y.1.cells.length = e.size ∧ (∀ c, Reads w c → VR y.1 c y.2) ∧ y.2.cells.size = e.size ∧ ∀ (j : Nat) x, y.2.cells.toList[j]? = some x → w.cell? ((a.add (i * e.size)).add j) = some x := by
        intro i hi
        have hex : ∃ y, (w.cells? 0 (a.add (i * e.size)) e.size).bind (DataW.trod enc P w 0 (fun _ => true) held n e.ty) = some y := by
          have := hel i hi
          rw [h2] at this
          have hi3 : i < elems.length := by omega
          exact ⟨elems[i], by rw [this]; simp [hi3]⟩
        obtain ⟨y, hy⟩ := hex
        rw [Option.bind_eq_some_iff] at hy
        obtain ⟨cs', hcs, hy'⟩ := hy
        obtain ⟨v, rv, q1, q2, q3, q4, q5, q6, q7⟩ := opened e h3 hy'
        obtain ⟨_, g2, g3⟩ := World.cells?_some hcs
        refine ⟨(v, rv), q4, q5, q7, ?_, fun j x hj => ?_⟩
        · rw [← Array.length_toList, q1]; exact q6
        · rw [q1] at hj
          have hj2 : j < e.size := by rw [← g2]; exact (List.getElem?_eq_some_iff.1 hj).1
          rw [g3 j hj2]; exact hj
      have each2 : ∀ i, ∃ y : AV × Value, i < len → FitV e y.1 ∧ y.1.cells.length = e.size ∧ (∀ c, Reads w c → VR y.1 c y.2) ∧ y.2.cells.size = e.size ∧ ∀ (j : Nat) x, y.2.cells.toList[j]? = some x → w.cell? ((a.add (i * e.size)).add j) = some x := fun i =>
        if hi : i < len then (each i hi).imp fun y hy _ => hy else ⟨(.un, .nilFunc), fun h => absurd h hi⟩
      obtain ⟨y, hy⟩ := Classical.axiomOfChoice each2
      have hlen2 : ((List.range len).map fun i => (y i).1).length = len := by simp
      refine ⟨.sl e.size .no ((List.range len).map fun i => (y i).1), _, rfl, fun h => (by simp [Sh.isSt] at h), fun _ => rfl, ?_, rfl, rfl, fun c hc => ?_⟩
      · simp only [FitV]
        refine .inr ⟨_, rfl, by rw [hlen2]; unfold top63; simp only [maxLen] at hm; omega, fun z hz => ?_⟩
        obtain ⟨i, hi, rfl⟩ := List.mem_map.1 hz
        have := hy i (List.mem_range.1 hi)
        exact ⟨this.1, this.2.1⟩
      · simp only [VR]
        refine ⟨some a, cap, by rw [hlen2], by rw [hlen2]; exact hl, hm, fun h => (by cases h), fun hne => ?_, trivial⟩
        have hpos : 0 < len := by
          rcases Nat.eq_zero_or_pos len with h9 | h9
          · exact (hne (by simp [h9])).elim
          · exact h9
        have hsp : a.spot = none := by
          obtain ⟨_, _, _, q4, q5⟩ := hy 0 hpos
          have hj : 0 < (y 0).2.cells.toList.length := by rw [Array.length_toList, q4]; omega
          have := q5 0 _ (List.getElem?_eq_getElem hj)
          rw [Nat.zero_mul] at this
          simp only [Addr.add, if_true] at this
          unfold World.cell? at this
          split at this
          · split at this
            · cases this
            · rename_i hs; simpa using hs
          · cases this
        obtain ⟨ab, ao, asp⟩ := a
        simp only at hsp
        subst hsp
        refine ⟨ab, ao, rfl, vrm_mk (rvs := (List.range len).map fun i => (y i).2) (VRl.mk (by simp) fun i v r hv hr => ?_) (fun r hr => ?_) fun i r hr j x hj => ?_⟩
        · simp only [List.getElem?_map, Option.map_eq_some_iff] at hv hr
          obtain ⟨i1, hi1, rfl⟩ := hv
          obtain ⟨i2, hi2, rfl⟩ := hr
          rw [hi1] at hi2
          obtain rfl := Option.some.inj hi2
          have hlt : i1 < len := List.mem_range.1 (List.mem_of_getElem? hi1)
          exact (hy i1 hlt).2.2.1 _ hc.el
        · obtain ⟨i, hi, rfl⟩ := List.mem_map.1 hr
          exact (hy i (List.mem_range.1 hi)).2.2.2.1
        · simp only [List.getElem?_map, Option.map_eq_some_iff] at hr
          obtain ⟨i1, hi1, rfl⟩ := hr
          have hlt : i1 < len := List.mem_range.1 (List.mem_of_getElem? hi1)
          have hie : i1 = i := by
            have h8 := (List.getElem?_eq_some_iff.1 hi1)
            obtain ⟨h9, h10⟩ := h8
            simpa using h10.symm
          subst hie
          have := (hy i1 hlt).2.2.2.2 j x hj
          have e9 : (({ block := ab, off := ao } : Addr).add (i1 * e.size)).add j = ⟨ab, ao + i1 * e.size + j, none⟩ := by
            unfold Addr.add
            split <;> split <;> simp_all <;> omega
          rw [e9] at this
          exact hc _ _ _ this
theorem openeds : ∀ (fs : List Sh) {o n : Nat} {cs : List Value}, shBs P fs = true → o + shSizes fs ≤ cs.length →
    (∀ (i o' s : Nat), (shOffs o fs)[i]? = some (o', s) → ∃ y, DataW.trod enc P w 0 (fun _ => true) held n s ((cs.drop o').take (P.cellsOf s)) = some y) →
    ∃ us, Fits fs us ∧ us.length = shSizes fs ∧ ∀ c, Reads w c → VRl us c ((cs.drop o).take (shSizes fs))
  | [], o, n, cs, hb, hl, h => ⟨[], by simp [Fits], rfl, fun c _ => by simp [shSizes, VRl]⟩
  | s :: fs, o, n, cs, hb, hl, h => by
    simp only [shBs, Bool.and_eq_true, beq_iff_eq] at hb
    obtain ⟨⟨h1, h2⟩, h3⟩ := hb
    simp only [shSizes] at hl
    obtain ⟨y, hy⟩ := h 0 o s.ty (by simp [shOffs])
    rw [h1] at hy
    obtain ⟨v, q1, q2, q3, q4⟩ := opened_cells (opened s h2 hy)
    obtain ⟨us, g1, g2, g3⟩ := openeds fs (o := o + s.size) (cs := cs) (n := n) h3 (by omega) fun i o' s' hi => h (i + 1) o' s' (by simpa [shOffs] using hi)
    refine ⟨v.cells ++ us, by simp only [Fits]; exact ⟨v, us, rfl, q1, g1⟩, by simp only [List.length_append, shSizes]; omega, fun c hc => ?_⟩
    have := (q4 c hc).append (g3 c hc)
    simp only [shSizes]
    rw [List.take_add, List.drop_drop]
    exact this
end

/-- What a row's argument is read by: no memory of the caller is written. -/
def cxR (w : World) : Cx := cx (fun _ _ => True) w.heap.size w hnil (fun _ => (0, 0))
theorem reads_cxR (w : World) : Reads w (cxR w) := fun b i x h => ⟨h, fun ⟨_, _, hk, _⟩ => (by cases hk), .inr trivial⟩

theorem open_arg {sh : Sh} {base : Nat} {v0 : Value} {d0 : DataW H} {p0 : List MemPlace} (hb : shB P sh = true) (hval : Value.okWide P w .any base sh.ty v0) (h0 : DataW.Trod enc P w 0 (fun _ => true) held sh.ty v0 d0 p0) :
    ∃ v, FitV sh v ∧ VR v (cxR w) v0 := by
  obtain ⟨fuel, hf⟩ := h0
  obtain ⟨v, rv, h1, h2, h3, h4, _, _, h7⟩ := opened sh hb hf
  have hv := h7 _ (reads_cxR w)
  refine ⟨v, h4, ?_⟩
  have one : ∀ u : Value, u.cells = #[u] → v0 = u → sh.isSt = false → v0 = rv := by
    rintro u hu rfl hs
    have := h3 hs
    rw [hu] at this
    simpa using this
  have : v0 = rv := by
    cases sh with
    | int t k =>
      simp only [shB] at hb
      obtain ⟨n, e⟩ := okWide_int (isInt_eq hb) hval
      exact one _ rfl e rfl
    | bool t =>
      simp only [shB] at hb
      obtain ⟨n, e⟩ := okWide_bool (isBool_eq hb) hval
      exact one _ rfl e rfl
    | sl t e =>
      simp only [shB, Bool.and_eq_true] at hb
      obtain ⟨a, l, c, e⟩ := okWide_slice (isSlice_eq hb.1.1.1) hval
      exact one _ rfl e rfl
    | st t fs =>
      simp only [shB, Bool.and_eq_true] at hb
      obtain ⟨F, hF, _⟩ := isStruct_eq hb.1.1
      obtain ⟨cs, rfl, _⟩ := okWide_struct hF hval
      rw [h2 rfl]
      simp [Value.cells]
  rw [this]; exact hv
end

theorem fitV_st {t : Nat} {fs : List Sh} {x : AV} : FitV (.st t fs) x ↔ ∃ cs, x = .agg cs ∧ Fits fs cs := by simp only [FitV]
theorem fitV_int {t : Nat} {k : IntKind} {x : AV} : FitV (.int t k) x ↔ ∃ n, x = .int k n := by simp only [FitV]
theorem fitV_bool {t : Nat} {x : AV} : FitV (.bool t) x ↔ ∃ n, x = .bool n := by simp only [FitV]
theorem fits_nil {x : List AV} : Fits [] x ↔ x = [] := by simp only [Fits]
theorem fits_cons {s : Sh} {l : List Sh} {x : List AV} : Fits (s :: l) x ↔ ∃ y b, x = y.cells ++ b ∧ FitV s y ∧ Fits l b := by simp only [Fits]
theorem fit_ints {t u : Nat} {v : AV} (h : FitV (.sl t (.int u .i64)) v) : IsI v := by
  simp only [FitV] at h
  rcases h with rfl | ⟨es, rfl, hl, he⟩
  · exact isI_lit
  · have : ∃ xs, es = ints xs := by
      refine ⟨es.map toI, ?_⟩
      simp only [ints, List.map_map]
      symm
      rw [List.map_congr_left (g := _root_.id), List.map_id]
      intro y hy
      obtain ⟨⟨n, rfl⟩, _⟩ := he y hy
      rfl
    obtain ⟨xs, rfl⟩ := this
    exact isI_no (by simpa using hl)
theorem fit_rows {t u z : Nat} {v : AV} (h : FitV (.sl t (.sl u (.int z .i64))) v) : IsLL v := by
  have hf := h
  simp only [FitV] at h
  rcases h with rfl | ⟨es, rfl, hl, he⟩
  · exact ⟨{ len := by simp, ok := ⟨0, .lit, [], rfl, .inl rfl, rfl⟩, cells := fun e he => by simp at he }, fun n hn => by simp [xssOf] at hn⟩
  · have hI : ∀ y ∈ es, IsI y := fun y hy => fit_ints (t := u) (u := z) (by simp only [FitV]; exact (he y hy).1)
    refine ⟨{ len := by simpa using hl, ok := ⟨1, .no, es, rfl, .inr rfl, rfl⟩, cells := fun e he => ?_ }, fun n hn => ?_⟩
    · have := hI e (by simpa using he)
      rw [isI_cells this]
      simp [isI_one this]
    · have hn2 : n < es.length := by simpa [xssOf] using hn
      simp only [rowOf, esOf_sl, List.getD_eq_getElem?_getD, List.getElem?_eq_getElem hn2, Option.getD_some]
      exact hI _ (List.getElem_mem hn2)

theorem fit_recs {t u a b : Nat} {v : AV} (h : FitV (.sl t (.st u [.int a .i64, .int b .i64])) v) : IsP v := by
  simp only [FitV] at h
  rcases h with rfl | ⟨es, rfl, hl, he⟩
  · exact ⟨{ len := by simp, ok := ⟨0, .lit, [], rfl, .inl rfl, rfl⟩, cells := fun e he => by simp at he }, fun e he => by simp at he⟩
  · have hp : ∀ y ∈ es, ∃ a b, y = pr a b := fun y hy => by
      obtain ⟨⟨cs, rfl, hf⟩, _⟩ := he y hy
      simp only [Fits, FitV] at hf
      obtain ⟨y1, b1, rfl, ⟨n1, rfl⟩, y2, b2, rfl, ⟨n2, rfl⟩, rfl⟩ := hf
      exact ⟨n1, n2, rfl⟩
    have hs : (Sh.st u [.int a .i64, .int b .i64]).size = 2 := by simp [Sh.size, shSizes]
    refine ⟨{ len := by simpa using hl, ok := ⟨_, .no, es, by rw [hs], .inr rfl, rfl⟩, cells := fun e he => ?_ }, fun e he => hp e (by simpa using he)⟩
    obtain ⟨a, b, rfl⟩ := hp e (by simpa using he)
    exact ⟨rfl, rfl⟩
theorem expo_bool_inv {h : Heap} {v : AV} {b : Bool} (e : Ev.expo h v = .bool b) : v = .bool b := by
  cases v with
  | bool c => simpa [Ev.expo] using e
  | sl k o es =>
    cases o <;> simp only [Ev.expo] at e
    all_goals (repeat' split at e) <;> cases e
  | _ =>
    simp only [Ev.expo] at e
    all_goals (repeat' split at e) <;> cases e
theorem calls_bool {E : Env} {P : Program} (hp : ProgOk E P (fun _ => True)) {f : Nat} {args : List AV} {b : Bool} (hc : EvC E f args (.bool b)) {W : World} {rs : List Value} (hvr : VRl args (cxR W) rs) {arr : Array Value} (ha : rs.toArray = arr) :
    Calls P f arr W fun e W' => e = .returned (.bool b) ∧ Below W.heap.size W W' := by
  subst ha
  obtain ⟨k, r1, h', hk, hr⟩ := hc
  have hC := ((sound hp k).2 _ _ _ _ _ _ hk).2 (fun _ _ => True) W W (fun _ => (0, 0)) rs trivial (HR.start _ _ _) hvr
  refine hC.mono fun e W' ⟨rv, M', he, hHR, _, hres⟩ => ?_
  rw [expo_bool_inv hr] at hres
  simp only [VR] at hres
  subst hres
  exact ⟨he, hHR.below⟩
theorem calls_boolI {E : Env} {P : Program} {inv : World → Prop} (hp : ProgOk E P inv) {f : Nat} {args : List AV} {b : Bool} (hc : EvC E f args (.bool b)) {W : World} (hi : inv W) {rs : List Value} (hvr : VRl args (cxR W) rs) {arr : Array Value} (ha : rs.toArray = arr) :
    Calls P f arr W fun e W' => e = .returned (.bool b) ∧ Below W.heap.size W W' := by
  subst ha
  obtain ⟨k, r1, h', hk, hr⟩ := hc
  have hC := ((sound hp k).2 _ _ _ _ _ _ hk).2 (fun _ _ => True) W W (fun _ => (0, 0)) rs hi (HR.start _ _ _) hvr
  refine hC.mono fun e W' ⟨rv, M', he, hHR, _, hres⟩ => ?_
  rw [expo_bool_inv hr] at hres
  simp only [VR] at hres
  subst hres
  exact ⟨he, hHR.below⟩
theorem vrl1 {c : Cx} {a : AV} {v : Value} (h : VR a c v) : VRl [a] c [v] := by simp only [VRl]; exact ⟨_, _, rfl, h, rfl⟩
theorem vrl_cons {c : Cx} {a : AV} {as : List AV} {v : Value} {vs : List Value} (h : VR a c v) (t : VRl as c vs) : VRl (a :: as) c (v :: vs) := by simp only [VRl]; exact ⟨_, _, rfl, h, t⟩

end Go.Proofs.YtlglhokpaplifaaGreatDoor.Ev
