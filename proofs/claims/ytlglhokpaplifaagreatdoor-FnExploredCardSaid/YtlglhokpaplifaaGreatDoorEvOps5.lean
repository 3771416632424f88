/- Composite values and append: what the evaluator says is what the machine does. Conditions: none. -/
import Derived.Test.YtlglhokpaplifaaGreatDoorEvOps4
namespace Go.Proofs.YtlglhokpaplifaaGreatDoor.Ev
open Go.RowKit
set_option linter.unusedVariables false
set_option linter.unusedSimpArgs false
set_option linter.unusedSectionVars false

theorem vr_flat1 {y : AV} {r : Value} (c c' : Cx) (hy : flat1 y = true) (hv : VR y c r) : VR y c' r := by
  cases y <;> simp only [flat1] at hy <;> first | (cases hy; done) | simpa only [VR] using hv
theorem vr_flat {x : AV} {r : Value} (c c' : Cx) (hf : flat x = true) (hv' : VR x c r) : VR x c' r := by
  cases x <;> simp only [flat] at hf <;> first
    | exact vr_flat1 _ _ hf hv'
    | (simp only [VR] at hv' ⊢
       obtain ⟨rc, h8, h9⟩ := hv'
       refine ⟨rc, h8, VRl.mk h9.length fun i x r hx hr => ?_⟩
       obtain ⟨r', hr', hv'⟩ := h9.get i x hx
       rw [hr] at hr'
       obtain rfl := Option.some.inj hr'
       exact vr_flat1 _ _ (List.all_eq_true.1 hf x (List.mem_of_getElem? hx)) hv')
def VRp (c : Cx) : List (Nat × AV) → List (Nat × Value) → Prop
  | [], rs => rs = []
  | (i, x) :: xs, rs => ∃ v ws, rs = (i, v) :: ws ∧ VR x c v ∧ VRp c xs ws

theorem fill_ok {E : Env} {c : Cx} (hcx : ∀ y v, ¬ c.x y v) {fs : List (Nat × Nat)} {place : Nat → Option (Nat × Nat)} (hp : ∀ i o t, fs[i]? = some (o, t) → place i = some (o, E.size t)) :
    ∀ {parts : List (Nat × AV)} {cs cs' : List AV} {rcs : Array Value} {rparts : List (Nat × Value)}, fillV fs E cs parts = some cs' → VRl cs c rcs.toList → VRp c parts rparts →
      ∃ rcs', Instr.fill place rcs rparts = some rcs' ∧ VRl cs' c rcs'.toList
  | [], cs, cs', rcs, rparts, hf, hv, hr => by
    simp only [fillV, Option.some.injEq] at hf
    subst hf
    simp only [VRp] at hr
    subst hr
    exact ⟨rcs, rfl, hv⟩
  | (i, x) :: parts, cs, cs', rcs, rparts, hf, hv, hr => by
    simp only [VRp] at hr
    obtain ⟨rv, ws, rfl, hx, hws⟩ := hr
    simp only [fillV] at hf
    cases hfi : fs[i]? with
    | none => rw [hfi] at hf; cases hf
    | some p =>
      obtain ⟨o, t⟩ := p
      rw [hfi] at hf
      simp only at hf
      split at hf
      case isFalse => cases hf
      rename_i hc
      obtain ⟨h1, h2, h3⟩ := hc
      have hxc := VR.cells_one hcx hx h3
      have hxl := hxc.length
      have hcl := hv.length
      have hset := foldl_set o rv.cells.toList 0 rcs (by rw [Nat.add_zero, hxl]; simp at hcl; omega)
      have hnew : VRl (cs.take o ++ x.cells ++ cs.drop (o + x.cells.length)) c ((rv.cells.toList.zipIdx 0).foldl (fun cs (p : Value × Nat) => cs.setIfInBounds (o + p.2) p.1) rcs).toList := by
        rw [hset, Nat.add_zero, hxl]
        exact ((hv.take o).append hxc).append (hv.drop _)
      obtain ⟨rcs', h4, h5⟩ := fill_ok hcx hp hf hnew hws
      refine ⟨rcs', ?_, h5⟩
      simp only [Instr.fill, hp i o t hfi]
      have hsz : rv.cells.size = E.size t := by rw [← Array.length_toList, hxl, h1]
      have hle : ¬ (o + rv.cells.size > rcs.size) := by
        have : rv.cells.size = x.cells.length := by rw [← Array.length_toList, hxl]
        simp at hcl; omega
      rw [if_neg (by simp only [hsz, ne_eq, not_true_eq_false, decide_false, Bool.false_or, decide_eq_true_eq]; omega)]
      rw [← h4]
      congr 1
      rw [← Array.foldl_toList, Array.toList_zipIdx]

section
variable {P : Program} {E : Env} (hE : EnvOk E P) {B : Nat → Nat → Prop} {w0 w : World} {h : Heap} {M : Mp} (H : HR B w0 w h M)
include hE H

theorem run_buildV {t : Nat} {parts : List (Nat × AV)} {rparts : Array (Nat × Value)} {v : AV} (hl : buildV E t parts = some v) (hp : VRp (cx B w0.heap.size w h M) parts rparts.toList) :
    Gives P w (cx B w0.heap.size w h M) (Instr.build t rparts) v := by
  have hcx := cx_x B w0.heap.size w h M
  unfold buildV at hl
  cases hs : E.ty t <;> rw [hs] at hl <;> try (cases hl; done)
  · rename_i fs
    simp only at hl
    split at hl
    case isFalse => cases hl
    rename_i hc
    rw [Option.map_eq_some_iff] at hl
    obtain ⟨cs', hf, rfl⟩ := hl
    obtain ⟨i, z, hi, hsz, _, hzz, hzv, hzl, hzo⟩ := hE.size t hc.1
    obtain ⟨fields, hu, rfl⟩ := ty_st hE hs
    have hzc := VR.cells_one hcx (hzv (cx B w0.heap.size w h M)) hzo
    have hfs : ∀ f ∈ fields.toList, (P.info? f.type).map (fun i => (f.offset, i.size)) = some (f.offset, E.size f.type) := by
      intro f hf
      have := hc.2
      rw [List.all_eq_true] at this
      have h1 := this (f.offset, f.type) (List.mem_map.2 ⟨f, hf, rfl⟩)
      obtain ⟨i2, z2, hi2, hsz2, _⟩ := hE.size f.type (by simpa using h1)
      simp [hi2, hsz2]
    have hpl : fields.toList.mapM (fun f => (P.info? f.type).map fun i => (f.offset, i.size)) = some (fields.toList.map fun f => (f.offset, E.size f.type)) := by
      generalize fields.toList = l at hfs
      induction l with
      | nil => rfl
      | cons f l ih =>
        rw [List.mapM_cons, hfs f (by simp), ih fun g hg => hfs g (by simp [hg])]
        rfl
    obtain ⟨rcs', h4, h5⟩ := fill_ok (E := E) hcx (place := ((fields.toList.map fun f => (f.offset, E.size f.type)).toArray[·]?)) (fun j o t' hj => by
      obtain ⟨f, hf, he⟩ := getElem?_of_map hj
      have e1 : f.offset = o := congrArg Prod.fst he
      have e2 : f.type = t' := congrArg Prod.snd he
      have hf' : fields[j]? = some f := by simpa using hf
      simp [hf', e1, e2]) hf hzc hp
    refine ⟨.agg rcs', ?_, ?_⟩
    · refine run_build w t rparts rcs' ?_
      simp only [Program.built, hi, hu, hzz, hpl]
      exact h4
    · simp only [VR]; exact ⟨rcs'.toList, by simp, h5⟩
  · rename_i n e
    simp only at hl
    split at hl
    case isFalse => cases hl
    rename_i hc
    rw [Option.map_eq_some_iff] at hl
    obtain ⟨cs', hf, rfl⟩ := hl
    obtain ⟨i, z, hi, hsz, _, hzz, hzv, hzl, hzo⟩ := hE.size t hc.1
    obtain ⟨i2, z2, hi2, hsz2, _⟩ := hE.size e hc.2
    have hu := ty_arr hE hs
    have hzc := VR.cells_one hcx (hzv (cx B w0.heap.size w h M)) hzo
    obtain ⟨rcs', h4, h5⟩ := fill_ok (E := E) hcx (place := fun i => some (i * i2.size, i2.size)) (fun j o t' hj => by
      obtain ⟨x, hx, he⟩ := getElem?_of_map hj
      have hxj : x = j := by
        have := List.getElem?_range (i := j) (n := n) (by have := (List.getElem?_eq_some_iff.1 hx).1; simpa using this)
        rw [this] at hx; exact (Option.some.inj hx).symm
      have e1 : x * E.size e = o := congrArg Prod.fst he
      have e2 : e = t' := congrArg Prod.snd he
      subst e2
      rw [← e1, hsz2, hxj]) hf hzc hp
    refine ⟨.agg rcs', ?_, ?_⟩
    · refine run_build w t rparts rcs' ?_
      simp only [Program.built, hi, hu, hzz, hi2]
      exact h4
    · simp only [VR]; exact ⟨rcs'.toList, by simp, h5⟩

/-- filling a row in order -/
theorem fill_row {size : Nat} (hs : 0 < size) : ∀ (vals : List Value) (j : Nat) (cs : Array Value), (∀ r ∈ vals, r.cells.size = size) → cs.size = (j + vals.length) * size →
    ∃ cs', Instr.fill (fun i => some (i * size, size)) cs ((List.range' j vals.length).zip vals) = some cs' ∧ cs'.toList = cs.toList.take (j * size) ++ flatC vals
  | [], j, cs, _, hsz => by
    refine ⟨cs, rfl, ?_⟩
    simp only [flatC, List.map_nil, List.flatten_nil, List.append_nil, List.length_nil, Nat.add_zero] at hsz ⊢
    rw [List.take_of_length_le (by simp; omega)]
  | v :: vals, j, cs, hv, hsz => by
    have h1 : v.cells.size = size := hv v (by simp)
    have hle : j * size + size ≤ cs.size := by
      rw [hsz, List.length_cons, ← Nat.add_one_mul]
      exact Nat.mul_le_mul_right _ (by omega)
    have hset := foldl_set (j * size) v.cells.toList 0 cs (by simp [h1]; omega)
    obtain ⟨cs', h4, h5⟩ := fill_row hs vals (j + 1) ((v.cells.toList.zipIdx 0).foldl (fun cs (p : Value × Nat) => cs.setIfInBounds (j * size + p.2) p.1) cs) (fun r hr => hv r (by simp [hr])) (by
      have : ∀ (l : List (Value × Nat)) (a : Array Value), (l.foldl (fun cs (p : Value × Nat) => cs.setIfInBounds (j * size + p.2) p.1) a).size = a.size := by
        intro l
        induction l with
        | nil => simp
        | cons p l ih => intro a; simp [ih]
      rw [this, hsz, List.length_cons]; congr 1; omega)
    refine ⟨cs', ?_, ?_⟩
    · simp only [List.length_cons, List.range'_succ, List.zip_cons_cons, Instr.fill]
      rw [if_neg (by simp only [h1, ne_eq, not_true_eq_false, decide_false, Bool.false_or, decide_eq_true_eq]; omega)]
      rw [← h4]
      congr 1
      rw [← Array.foldl_toList, Array.toList_zipIdx]
    · rw [h5, hset]
      simp only [Nat.add_zero]
      have e : flatC (v :: vals) = v.cells.toList ++ flatC vals := rfl
      have hl : v.cells.toList.length = size := by simpa using h1
      have hl2 : (cs.toList.take (j * size)).length = j * size := by rw [List.length_take]; simp; omega
      rw [e, ← List.append_assoc, List.take_append_of_le_length (by rw [List.length_append, hl2, hl, Nat.add_one_mul]; omega), List.take_of_length_le (by rw [List.length_append, hl2, hl, Nat.add_one_mul]; omega)]

theorem vrp_split {c : Cx} : ∀ {parts : List (Nat × AV)} {rs : List (Nat × Value)}, VRp c parts rs → rs = (parts.map (·.1)).zip (rs.map (·.2)) ∧ VRl (parts.map (·.2)) c (rs.map (·.2))
  | [], rs, hr => by simp only [VRp] at hr; subst hr; simp [VRl]
  | (i, x) :: parts, rs, hr => by
    simp only [VRp] at hr
    obtain ⟨v, ws, rfl, h1, h2⟩ := hr
    obtain ⟨h3, h4⟩ := vrp_split h2
    refine ⟨by simp only [List.map_cons, List.zip_cons_cons]; rw [← h3], ?_⟩
    simp only [List.map_cons, VRl]
    exact ⟨v, _, rfl, h1, h4⟩

theorem does_buildS {t len : Nat} {parts : List (Nat × AV)} {rparts : Array (Nat × Value)} {v : AV} (hl : buildS E t len parts = some v) (hp : VRp (cx B w0.heap.size w h M) parts rparts.toList) :
    Does P B w0 w h M (Instr.buildSlice t len rparts) v h := by
  have hcx := cx_x B w0.heap.size w h M
  unfold buildS at hl
  cases hs : E.ty t <;> rw [hs] at hl <;> try (cases hl; done)
  rename_i e
  simp only at hl
  split at hl
  case isFalse => cases hl
  rename_i hc
  obtain ⟨h1, h2, h3, h3', h4⟩ := hc
  obtain rfl := Option.some.inj hl
  rw [List.all_eq_true] at h4
  have h4' : ∀ p ∈ parts, p.2.cells.length = E.size e ∧ p.2.cells.all AV.one = true := by
    intro p hp; have := h4 p hp; simp only [Bool.and_eq_true, beq_iff_eq] at this; exact this
  obtain ⟨hsp, hvl⟩ := vrp_split hE H hp
  obtain ⟨i, z, hi, hsz, _, hzz, hzv, hzl, hzo⟩ := hE.size e (by omega)
  have hzc : z.cells.size = E.size e := by
    have := (VR.cells_one hcx (hzv (cx B w0.heap.size w h M)) hzo).length
    rw [Array.length_toList] at this
    omega
  have hsizes := VRl.sizes hcx hvl (k := E.size e) (fun x hx => by
    obtain ⟨p, hp1, rfl⟩ := List.mem_map.1 hx
    exact h4' p hp1)
  have hvlen : (rparts.toList.map (·.2)).length = len := by
    rw [hvl.length, List.length_map]
    have := congrArg List.length h1
    simpa using this
  have hlowA : VRl (parts.map fun p => low0 p.2) (cx B w0.heap.size w h M).ela (rparts.toList.map (·.2)) := by
    have := VRl.low1 _ hvl
    rw [low0s_map, List.map_map] at this
    exact this
  have hlenp : parts.length = len := by have := congrArg List.length h1; simpa using this
  obtain ⟨cs', hf, hcs⟩ := fill_row hE H h3 (rparts.toList.map (·.2)) 0 ((Array.range (len * E.size e)).map ((if len * E.size e = 0 then #[] else z.cells)[· % (if len * E.size e = 0 then (#[] : Array Value) else z.cells).size]!)) hsizes (by simp only [Array.size_map, Array.size_range, Nat.zero_add, hvlen])
  have hzip : (List.range' 0 (rparts.toList.map (·.2)).length).zip (rparts.toList.map (·.2)) = rparts.toList := by
    rw [hvlen, ← List.range_eq_range', ← h1]; exact hsp.symm
  rw [hzip] at hf
  have hu := ty_sl hE hs
  have hb := below_alloc0 hE H w (.cells cs' e)
  have hrun : (Instr.buildSlice t len rparts).run P w = .ok (.slice (some ⟨w.heap.size, 0, none⟩) len len) (w.alloc (.cells cs' e)) := by
    have hbig : ¬ (len * E.size e > 2 ^ 24) := by
      have h5 : len * E.size e ≤ 65536 * 256 := Nat.mul_le_mul h2 (by omega)
      omega
    by_cases hz0 : len * E.size e = 0
    · simp only [hz0, if_true, Array.range_zero', Array.map_empty] at hf
      simp [Instr.buildSlice, run_underlying hu, run_sizeOf hE w (by omega : E.size e ≠ 0), hz0, hf, newRow, Array.range_zero', Array.map_empty]
    · simp only [hz0, if_false] at hf
      simp [Instr.buildSlice, run_underlying hu, run_sizeOf hE w (by omega : E.size e ≠ 0), hz0, hf, newRow, zeroValue, typeInfo, hi, hzz]
      omega
  refine ⟨_, _, M, hrun, H.world hb, gr_world hb, ?_⟩
  have hcell : ∀ j x, (flatC (rparts.toList.map (·.2)))[j]? = some x → (w.alloc (.cells cs' e)).cell? ⟨w.heap.size, 0 + j, none⟩ = some x ∧ ¬ ∃ k3 b3, h k3 = some b3 ∧ (M k3).1 = w.heap.size ∧ b3.mutAt (0 + j) := by
    intro j x hj
    refine ⟨?_, ?_⟩
    · rw [cell_of_row _ _ _ _ _ _ (heap_alloc_new w _), ← Array.getElem?_toList, hcs, Nat.zero_mul, List.take_zero, List.nil_append, Nat.zero_add]
      exact hj
    · rintro ⟨k3, b3, q1, q2, q3⟩
      have := H.lt q1
      omega
  by_cases hst : (parts.all fun p => stab p.2) = true
  · rw [if_pos hst]
    have hlow : VRl (parts.map fun p => low0 p.2) (cx B w0.heap.size w h M).el (rparts.toList.map (·.2)) := by
      have := VRl.low0 _ hvl (stabs_iff.2 fun x hx => by
        obtain ⟨p, hp1, rfl⟩ := List.mem_map.1 hx
        exact List.all_eq_true.1 hst p hp1)
      rw [low0s_map, List.map_map] at this
      exact this
    simp only [VR]
    refine ⟨_, _, by rw [List.length_map, hlenp], by rw [List.length_map, hlenp]; exact Nat.le_refl _, by simp only [maxLen]; omega, by simp, fun hne => ⟨w.heap.size, 0, rfl, ?_⟩, by simp only [OwnOk, List.length_map, hlenp]⟩
    refine VRm.mk (VRl.mono (gr_world hb).el _ hlow) hsizes fun j x hj => ?_
    exact ⟨(hcell j x hj).1, (hcell j x hj).2, .inl H.below.size⟩
  · rw [if_neg hst]
    simp only [VR]
    refine ⟨_, _, by rw [List.length_map, hlenp], by rw [List.length_map, hlenp]; exact Nat.le_refl _, by simp only [maxLen]; omega, by simp, fun hne => ⟨w.heap.size, 0, rfl, ?_⟩, trivial⟩
    refine VRm.mk (VRl.mono (gr_world hb).ela _ hlowA) hsizes fun j x hj => ?_
    exact hcell j x hj

theorem elemsOf_ok {k : Nat} {y : AV} {ys : List AV} {ry : Value} (hl : elemsOf h y = some (k, ys)) (hv : VR y (cx B w0.heap.size w h M) ry) :
    ∃ p n cap, ry = .slice p n cap ∧ n = ys.length ∧ n ≤ cap ∧
      (ys ≠ [] → ∃ b ofs rvs, p = some ⟨b, ofs, none⟩ ∧ VRl ys (cx B w0.heap.size w h M).el rvs ∧ (∀ r ∈ rvs, r.cells.size = k) ∧ ∀ j x, (flatC rvs)[j]? = some x → w.cell? ⟨b, ofs + j, none⟩ = some x) := by
  have hcx := cx_x B w0.heap.size w h M
  unfold elemsOf at hl
  cases y <;> try (cases hl; done)
  · rename_i k' o es
    have hl2 : k' = k ∧ es = ys ∧ (o = .brw → stabs es = true) := by
      cases o <;> simp only at hl <;> first
        | (obtain ⟨rfl, rfl⟩ := Prod.mk.inj (Option.some.inj hl); exact ⟨rfl, rfl, fun e => by cases e⟩)
        | (split at hl
           · rename_i hst; obtain ⟨rfl, rfl⟩ := Prod.mk.inj (Option.some.inj hl); exact ⟨rfl, rfl, fun _ => hst⟩
           · cases hl)
    obtain ⟨rfl, rfl, hstb⟩ := hl2
    have fin : ∀ (C : CellP) (p : Option Addr) (cap : Nat), (∀ b i x, C b i x → w.cell? ⟨b, i, none⟩ = some x) → es.length ≤ cap → (p = none → cap = 0) → (es ≠ [] → ∃ b ofs, p = some ⟨b, ofs, none⟩ ∧ VRm es (cx B w0.heap.size w h M).el C b ofs k') →
        ∃ p' n cap', Value.slice p es.length cap = .slice p' n cap' ∧ n = es.length ∧ n ≤ cap' ∧
      (es ≠ [] → ∃ b ofs rvs, p' = some ⟨b, ofs, none⟩ ∧ VRl es (cx B w0.heap.size w h M).el rvs ∧ (∀ r ∈ rvs, r.cells.size = k') ∧ ∀ j x, (flatC rvs)[j]? = some x → w.cell? ⟨b, ofs + j, none⟩ = some x) := by
      intro C p cap hC h1 h2 h3
      refine ⟨p, _, cap, rfl, rfl, h1, fun hne => ?_⟩
      obtain ⟨b, ofs, e, hm⟩ := h3 hne
      obtain ⟨rvs, g1, g2, g3⟩ := hm.flat
      exact ⟨b, ofs, rvs, e, g1, g2, fun j x hj => hC _ _ _ (g3 j x hj)⟩
    cases o with
    | ex => simp only [VR] at hv; exact (hcx _ _ hv).elim
    | brw =>
      simp only [VR] at hv
      obtain ⟨p, cap, rfl, h1, _, h3, h4, _⟩ := hv
      refine fin (cx B w0.heap.size w h M).a p cap (fun _ _ _ hc => hc.1) h1 h3 fun hne => ?_
      obtain ⟨b, ofs, e, hm⟩ := h4 hne
      exact ⟨b, ofs, e, stab_elm es (hstb rfl) hm⟩
    | _ =>
      simp only [VR] at hv
      obtain ⟨p, cap, rfl, h1, _, h3, h4, _⟩ := hv
      exact fin _ p cap (fun _ _ _ hc => hc.1) h1 h3 h4
  · rename_i key g off len
    simp only at hl
    cases hk : h key with
    | none => rw [hk] at hl; cases hl
    | some blk =>
      rw [hk] at hl
      cases blk with
      | row g' T k' es =>
        simp only at hl
        split at hl
        case isFalse => cases hl
        rename_i hc
        obtain ⟨rfl, rfl⟩ := Prod.mk.inj (Option.some.inj hl)
        simp only [VR] at hv
        obtain ⟨p, cap, rfl, q, hq, h2, h3⟩ := hv
        have hq' := cx_l hk hq
        subst hq'
        obtain ⟨_, hp, h5, h6, h7⟩ := h3 hc.1
        have hlen : (low0s ((es.drop off).take len)).length = len := by rw [low0s_length, List.length_take, List.length_drop]; omega
        refine ⟨some p, len, cap, rfl, hlen.symm, h5, fun hne => ?_⟩
        · have hl0 : len ≠ 0 := by intro e0; exact hne (List.eq_nil_of_length_eq_zero (hlen.trans e0))
          obtain ⟨hk0, hall, rvs, rest, hvl, hh, _⟩ := H.ok _ _ hk
          have hsz := VRl.sizes hcx hvl hall
          refine ⟨_, _, (rvs.drop off).take len, congrArg some (hp (by omega)), VRl.low0 _ ((hvl.drop off).take len) ?_, fun r hr => hsz r (List.mem_of_mem_drop (List.mem_of_mem_take hr)), fun j x hj => ?_⟩
          · rw [stabs_iff] at hc ⊢
            exact fun v hv => hc.2.2 v (List.mem_of_mem_drop (List.mem_of_mem_take hv))
          · rw [cell_of_row w _ _ _ _ _ hh]
            have hsp : flatC rvs = flatC (rvs.take off) ++ (flatC ((rvs.drop off).take len) ++ flatC ((rvs.drop off).drop len)) := by
              rw [← flatC_append, List.take_append_drop, ← flatC_append, List.take_append_drop]
            have hol : (flatC (rvs.take off)).length = off * k' := by
              rw [flatC_length (k := k') fun r hr => hsz r (List.mem_of_mem_take hr), List.length_take, hvl.length, Nat.min_eq_left (by omega)]
            simp only [Blk.k, List.getElem?_toArray]
            rw [hsp, List.append_assoc, List.getElem?_append_right (by omega), hol, Nat.add_sub_cancel_left, List.append_assoc, List.getElem?_append_left (List.getElem?_eq_some_iff.1 hj).1]
            exact hj
      | var => cases hl
      | fz => cases hl
      | tok => cases hl

omit hE H in
theorem run_append_room_at (t ty e : TypeId) (i : TypeInfo) (ht : P.underlying t = some (.slice e)) (hi : P.info? e = some i)
    (g o sLen sCap : Nat) (cur : Array Value) (hg : w.heap[g]? = some (.cells cur e (0, 0)))
    (a : Addr) (m c : Nat) (news : List Value) (hl : news.length = m * i.size) (hnews : ∀ j u, news[j]? = some u → w.cell? (a.add j) = some u) (h1 : ∀ u ∈ news, u.oneCell' = true)
    (hroom : sLen + m ≤ sCap) (hfit : o + sLen * i.size + news.length ≤ cur.size) :
    (Builtin.append_ #[t, t] ty #[.slice (some ⟨g, o, none⟩) sLen sCap, .slice (some a) m c]).run P w =
      .ok (.slice (some ⟨g, o, none⟩) (sLen + m) sCap) (w.setRow g (cur.toList.take (o + sLen * i.size) ++ news ++ cur.toList.drop (o + sLen * i.size + news.length)).toArray) := by
  have hf := run_firstCells_some (P := P) w i.size m a m c news hl hnews
  have hst := run_storeCells_at P g (o + sLen * i.size) e news 0 cur w hg (by simpa using hfit) h1
  simp only [Nat.add_zero] at hst
  simp [Builtin.append_, run_underlying ht, sizeOf, typeInfo, hi, Builtin.lenOf, hroom, hf, Addr.add_lit, hst]

theorem does_appendM {t e key' g off len : Nat} {ty : TypeId} {y v : AV} {h' : Heap} {rx ry : Value} (hs : E.ty t = .sl e) (hl : appendM E h e key' g off len y = some (v, h')) (hvx : VR (.ms key' g off len) (cx B w0.heap.size w h M) rx)
    (hvy : VR y (cx B w0.heap.size w h M) ry) : Does P B w0 w h M (Builtin.append_ #[t, t] ty #[rx, ry]) v h' := by
  have hcx := cx_x B w0.heap.size w h M
  unfold appendM at hl
  cases hk : h key' with
  | none => simp only [hk] at hl; cases hl
  | some blk =>
    cases blk with
    | var => simp only [hk] at hl; cases hl
    | fz => simp only [hk] at hl; cases hl
    | tok => simp only [hk] at hl; cases hl
    | row g' T k es =>
      cases hy : elemsOf h y with
      | none => simp only [hk, hy] at hl; cases hl
      | some p =>
        obtain ⟨k', ys⟩ := p
        simp only [hk, hy] at hl
        split at hl
        case isFalse => cases hl
        rename_i hc
        obtain ⟨hsz, hyne, hg1, hT1, hkk, hk', hlen0, hoff, hst, hbig, hall⟩ := hc
        subst hg1
        subst hT1
        subst hkk
        subst hk'
        obtain ⟨rfl, rfl⟩ := Prod.mk.inj (Option.some.inj hl)
        obtain ⟨i, z, hi, hisz, hby, hzz, hzv, hzl, hzo⟩ := hE.size T hsz
        have hu := ty_sl hE hs
        obtain ⟨p, n, cap, rfl, rfl, hncap, hys⟩ := elemsOf_ok hE H hy hvy
        obtain ⟨b, ofs, rvs, rfl, g1, g2, g3⟩ := hys hyne
        have hxe : elemsOf h (.ms key' g off len) = some (E.size T, low0s ((es.drop off).take len)) := by
          simp only [elemsOf, hk]; rw [if_pos ⟨trivial, by omega, hst⟩]
        have hXl : (low0s ((es.drop off).take len)).length = len := by rw [low0s_length, List.length_take, List.length_drop]; omega
        obtain ⟨p0, n0, c0, e0, en, _, hxs⟩ := elemsOf_ok hE H hxe hvx
        obtain ⟨b1, f1, olds, rfl, o1, o2, o3⟩ := hxs (fun e => by rw [e] at hXl; simp at hXl; omega)
        simp only [VR] at hvx
        obtain ⟨a, c, rfl, q, hq, h2, h3⟩ := hvx
        have hq' := cx_l hk hq
        subst hq'
        obtain ⟨_, hp, h5, h6, h7⟩ := h3 rfl
        obtain rfl := hp (by omega)
        simp only [Blk.k] at e0 h7 ⊢
        have e9 : b1 = (M key').1 ∧ f1 = off * E.size T := by
          injection e0 with q1 q2 q3
          have := Option.some.inj q1
          injection this with a1 a2
          exact ⟨a1.symm, a2.symm⟩
        obtain ⟨rfl, rfl⟩ := e9
        rw [List.all_eq_true] at hall
        have hall' : ∀ a ∈ ys, a.cells.length = E.size T ∧ a.cells.all AV.one = true := by
          intro a ha; have := hall a ha; simpa using this
        have hnl : (flatC rvs).length = ys.length * i.size := by rw [flatC_length g2, g1.length, hisz]
        have hol : (flatC olds).length = len * i.size := by rw [flatC_length o2, o1.length, hXl, hisz]
        have hnews : ∀ j v, (flatC rvs)[j]? = some v → w.cell? ((⟨b, ofs, none⟩ : Addr).add j) = some v := by
          intro j v hj; rw [Addr.add_lit]; exact g3 j v hj
        have hone : ∀ u ∈ flatC rvs, u.oneCell' = true := by
          intro u hu'
          obtain ⟨l, hl1, hl2⟩ := List.mem_flatten.1 hu'
          obtain ⟨r, hr, rfl⟩ := List.mem_map.1 hl1
          obtain ⟨ix, hix⟩ := List.mem_iff_getElem?.1 hr
          have hlt : ix < ys.length := by have := (List.getElem?_eq_some_iff.1 hix).1; rw [g1.length] at this; exact this
          obtain ⟨r2, hr2, hv2⟩ := g1.get ix ys[ix] (List.getElem?_eq_getElem hlt)
          rw [hix] at hr2
          obtain rfl := Option.some.inj hr2
          have hm := hall' ys[ix] (List.getElem_mem hlt)
          exact VRl.all_one (fun _ _ hx => hx) (VR.cells_one (fun _ _ hx => hx) hv2 hm.2) hm.2 u hl2
        have hpos : 0 < ys.length := List.length_pos_iff.2 hyne
        have hmr : len + ys.length ≤ 1073741824 := by simpa [maxRow] using hbig
        have hfitb : (len + ys.length) * i.bytes ≤ 140737488355328 := by
          have := Nat.mul_le_mul hmr hby
          omega
        have hsz0 := H.below.size
        obtain ⟨hk0, hallE, rvsE, rest, hvl, hh, hlk, hmx⟩ := H.ok _ _ hk
        have hsz0' := H.old _ _ hk
        have hlt0 := H.lt hk
        have r2 : ∀ r ∈ olds ++ rvs, r.cells.size = E.size T := fun r hr => (List.mem_append.1 hr).elim (o2 r) (g2 r)
        have hresl : (low0s ((es.drop off).take len) ++ ys).length = len + ys.length := by rw [List.length_append, hXl]
        have hmul : (off + len + ys.length) * E.size T = off * E.size T + (len + ys.length) * E.size T := by rw [Nat.add_assoc, Nat.add_mul]
        have hmul2 : (len + ys.length) * E.size T = len * E.size T + ys.length * E.size T := Nat.add_mul ..
        have hmul3 : (off + len) * E.size T = off * E.size T + len * E.size T := Nat.add_mul ..
        by_cases hroom : len + ys.length ≤ c
        · -- in place
          obtain ⟨cur, hcur⟩ : ∃ cur : Array Value, cur = (flatC rvsE ++ rest).toArray := ⟨_, rfl⟩
          rw [← hcur] at hh
          have hcs : cur.size = (M key').2 * E.size T := by rw [hcur]; simpa using hlk
          have hfit : off * E.size T + len * i.size + (flatC rvs).length ≤ cur.size := by
            have := Nat.mul_le_mul_right (E.size T) (show off + len + ys.length ≤ (M key').2 by omega)
            rw [hnl, hcs, hisz]; omega
          have hrun := run_append_room_at (P := P) (w := w) t ty T i hu hi (M key').1 (off * E.size T) len c cur hh ⟨b, ofs, none⟩ ys.length cap (flatC rvs) hnl hnews hone hroom hfit
          obtain ⟨w2, hw2⟩ : ∃ w2, w2 = w.setRow (M key').1 (cur.toList.take (off * E.size T + len * i.size) ++ flatC rvs ++ cur.toList.drop (off * E.size T + len * i.size + (flatC rvs).length)).toArray := ⟨_, rfl⟩
          have hnew : w2.heap[(M key').1]? = some (.cells (cur.toList.take (off * E.size T + len * i.size) ++ flatC rvs ++ cur.toList.drop (off * E.size T + len * i.size + (flatC rvs).length)).toArray T (0, 0)) := by rw [hw2]; exact setRow_heap w _ _ _ T (0, 0) hh
          have hoth : ∀ b, b < w.heap.size → b ≠ (M key').1 → w2.heap[b]? = w.heap[b]? := fun b _ hb => by rw [hw2]; exact setRow_other w _ b _ hb
          rw [← hw2] at hrun
          have hX : (cur.toList.take (off * E.size T + len * i.size)).length = off * E.size T + len * i.size := by
            rw [List.length_take, Array.length_toList]; exact Nat.min_eq_left (by omega)
          have hgr := gr_up (B := B) (w' := w2) (p := M key') (blk' := .tok (g + 1) T (E.size T) (es.length + ys.length)) H hk (fun i => trivial) (Nat.lt_succ_self g) hoth (.inl rfl)
          refine ⟨_, _, mset M key' (M key'), hrun, H.up (blk' := .tok (g + 1) T (E.size T) (es.length + ys.length)) hk (fun i => trivial) (Nat.lt_succ_self g) hoth (.inl rfl) (by rw [hw2]; rfl) (by rw [hw2]; rfl) (by rw [hw2]; rfl) (by rw [hw2]; simp) ⟨hk0, hmx, _, hnew, ?_⟩, hgr, ?_⟩
          · rw [← hcs]
            simp only [List.size_toArray, List.length_append, List.length_take, List.length_drop, Array.length_toList]
            omega
          · simp only [VR]
            refine ⟨_, _, by rw [hresl], by rw [hresl]; exact hroom, h6, by simp, fun _ => ⟨_, _, rfl, ?_⟩, trivial⟩
            refine VRm.mk (VRl.mono hgr.el _ (o1.append g1)) r2 fun j x hj => ⟨?_, ?_, .inl hsz0'⟩
            · rw [flatC_append] at hj
              rw [cell_of_row _ _ _ _ _ _ hnew, List.getElem?_toArray, List.append_assoc]
              by_cases hjl : j < len * i.size
              · rw [List.getElem?_append_left (by omega)] at hj
                have h9 := o3 j x hj
                rw [cell_of_row _ _ _ _ _ _ hh] at h9
                rw [List.getElem?_append_left (by rw [hX]; omega), List.getElem?_take, if_pos (by omega)]
                simpa using h9
              · rw [List.getElem?_append_right (by omega), hol] at hj
                rw [List.getElem?_append_right (by rw [hX]; omega), hX, show off * E.size T + j - (off * E.size T + len * i.size) = j - len * i.size by omega, List.getElem?_append_left (List.getElem?_eq_some_iff.1 hj).1]
                exact hj
            · rintro ⟨k3, b3, p1, p2, p3⟩
              have hj2 := (List.getElem?_eq_some_iff.1 hj).1
              rw [flatC_length r2, (o1.append g1).length, hresl] at hj2
              by_cases e3 : k3 = key'
              · subst e3
                have : Blk.tok (g + 1) T (E.size T) (es.length + ys.length) = b3 := by simpa [hset] using p1
                subst this
                simp only [Blk.mutAt] at p3
                rw [← hoff] at p3
                omega
              · simp only [mset, if_neg e3] at p2
                exact e3 (H.inj _ _ _ _ (by simpa [hset, e3] using p1) hk p2)
        · -- a new block
          have hlt : c < len + ys.length := by omega
          have hge := grownCap_ge w (len + ys.length) c T
          have hcm := grownCap_le_maxLen w (len + ys.length) c T (by simp only [maxLen]; omega)
          have hzc : z.cells.size = E.size T := by
            have := (VR.cells_one hcx (hzv (cx B w0.heap.size w h M)) hzo).length
            rw [Array.length_toList] at this
            omega
          have hrun := run_append_grow (P := P) w t ty T i z hu hi hzz ⟨(M key').1, off * E.size T, none⟩ len c (flatC olds) hol (fun j x hj => by rw [Addr.add_lit]; exact o3 j x hj) ⟨b, ofs, none⟩ ys.length cap (flatC rvs) hnl hnews hlt (by omega) (growslice_fits hlt hfitb)
          obtain ⟨cur, hcur⟩ : ∃ cur, cur = ((flatC olds).toArray ++ (flatC rvs).toArray ++ Builtin.zeroCells z.cells (grownCap w (len + ys.length) c T - (len + ys.length))) := ⟨_, rfl⟩
          rw [← hcur] at hrun
          have hcs : cur.size = grownCap w (len + ys.length) c T * E.size T := by
            rw [hcur]
            simp only [Array.size_append, List.size_toArray, hol, hnl, size_zeroCells, hzc, hisz, ← Nat.add_mul]
            congr 1; omega
          have gb : Below w.heap.size w (w.drew.alloc (.cells cur T)) := (Below.refl _ _).drew.alloc (Nat.le_refl _) _
          have hnew : (w.drew.alloc (.cells cur T)).heap[w.heap.size]? = some (.cells cur T) := heap_alloc_new w.drew _
          have hgr := gr_up (B := B) (w' := w.drew.alloc (.cells cur T)) (p := (w.heap.size, grownCap w (len + ys.length) c T)) (blk' := .tok (g + 1) T (E.size T) (es.length + ys.length)) H hk (fun i => trivial) (Nat.lt_succ_self g) (fun b hb _ => gb.block b hb) (.inr (Nat.le_refl _))
          refine ⟨_, _, mset M key' (w.heap.size, grownCap w (len + ys.length) c T), hrun, H.up (blk' := .tok (g + 1) T (E.size T) (es.length + ys.length)) hk (fun i => trivial) (Nat.lt_succ_self g) (fun b hb _ => gb.block b hb) (.inr (Nat.le_refl _)) rfl rfl rfl gb.size ⟨hk0, hcm, cur, hnew, hcs⟩, hgr, ?_⟩
          simp only [VR]
          refine ⟨_, _, by rw [hresl], by rw [hresl]; exact hge, hcm, by simp, fun _ => ⟨_, 0, rfl, ?_⟩, trivial⟩
          refine VRm.mk (VRl.mono hgr.el _ (o1.append g1)) r2 fun j x hj => ⟨?_, ?_, .inl hsz0⟩
          · have hj2 := (List.getElem?_eq_some_iff.1 hj).1
            rw [Nat.zero_add, cell_of_row _ _ _ _ _ _ hnew, hcur, ← Array.getElem?_toList]
            rw [flatC_append] at hj hj2
            simp only [Array.toList_append]
            rw [List.getElem?_append_left (by simpa using hj2)]
            exact hj
          · rintro ⟨k3, b3, p1, p2, p3⟩
            have hj2 := (List.getElem?_eq_some_iff.1 hj).1
            rw [flatC_length r2, (o1.append g1).length, hresl] at hj2
            by_cases e3 : k3 = key'
            · subst e3
              have : Blk.tok (g + 1) T (E.size T) (es.length + ys.length) = b3 := by simpa [hset] using p1
              subst this
              simp only [Blk.mutAt] at p3
              rw [← hoff] at p3
              omega
            · have := H.lt (key := k3) (blk := b3) (by simpa [hset, e3] using p1)
              simp only [mset, if_neg e3] at p2
              omega

theorem does_appendOM {t e key' g len : Nat} {ty : TypeId} {y v : AV} {h' : Heap} {rx ry : Value} (hs : E.ty t = .sl e) (hl : appendOM E h e key' g len y = some (v, h')) (hvx : VR (.ms key' g 0 len) (cx B w0.heap.size w h M) rx)
    (hvy : VR y (cx B w0.heap.size w h M) ry) : Does P B w0 w h M (Builtin.append_ #[t, t] ty #[rx, ry]) v h' := by
  have hcx := cx_x B w0.heap.size w h M
  unfold appendOM at hl
  cases hk : h key' with
  | none => simp only [hk] at hl; cases hl
  | some blk =>
    cases blk with
    | var => simp only [hk] at hl; cases hl
    | fz => simp only [hk] at hl; cases hl
    | tok => simp only [hk] at hl; cases hl
    | row g' T k es =>
      cases hy : elemsOf h y with
      | none => simp only [hk, hy] at hl; cases hl
      | some p =>
        obtain ⟨k', ys⟩ := p
        simp only [hk, hy] at hl
        split at hl
        case isFalse => cases hl
        rename_i hc
        obtain ⟨hsz, hg1, hT1, hkk, hlen, hst, hfe, hbig⟩ := hc
        subst hg1
        subst hT1
        subst hkk
        obtain ⟨i, z, hi, hisz, hby, hzz, hzv, hzl, hzo⟩ := hE.size T hsz
        have hu := ty_sl hE hs
        obtain ⟨p, n, cap, rfl, rfl, hncap, hys⟩ := elemsOf_ok hE H hy hvy
        have hvx0 := hvx
        simp only [VR] at hvx
        obtain ⟨a, c, rfl, q, hq, h2, h3⟩ := hvx
        have hq' := cx_l hk hq
        subst hq'
        obtain ⟨_, hp, h5, h6, h7⟩ := h3 rfl
        simp only [Blk.k, Nat.zero_mul, Nat.sub_zero] at hp h7
        split at hl
        · -- nothing comes
          rename_i hemp
          obtain ⟨rfl, rfl⟩ := Prod.mk.inj (Option.some.inj hl)
          have hy0 : ys = [] := by simpa using hemp
          subst hy0
          refine ⟨_, w, M, ?_, H, Gr.refl _, hvx0⟩
          have hf0 : (Builtin.firstCells i.size 0 (.slice p 0 cap)).run P w = .ok #[] w := by
            cases p with
            | none => simp [Builtin.firstCells]
            | some a => simp [Builtin.firstCells, loadCells, loadCellsFrom]
          simp [Builtin.append_, run_underlying hu, sizeOf, typeInfo, hi, Builtin.lenOf, h5, hf0, storeCells]
        rename_i hemp
        have hyne : ys ≠ [] := by intro e0; exact hemp (by simp [e0])
        split at hl
        case isFalse => cases hl
        rename_i hc
        obtain ⟨hk', hfy, hall⟩ := hc
        subst hk'
        obtain ⟨rfl, rfl⟩ := Prod.mk.inj (Option.some.inj hl)
        obtain ⟨b, ofs, rvs, rfl, g1, g2, g3⟩ := hys hyne
        have hXl : (low0s (es.take len)).length = len := by rw [low0s_length, List.length_take]; omega
        obtain ⟨hk0, hallE, rvsE, rest, hvl, hh, hlk, hmx⟩ := H.ok _ _ hk
        have hszE := VRl.sizes hcx hvl hallE
        have hol0 : ∃ olds, VRl (low0s (es.take len)) (cx B w0.heap.size w h M).el olds ∧ (∀ r ∈ olds, r.cells.size = E.size T) ∧ ∀ j x, (flatC olds)[j]? = some x → w.cell? (a.add j) = some x := by
          by_cases hl0 : len = 0
          · subst hl0; exact ⟨[], by simp [low0s, VRl], by simp, by simp [flatC]⟩
          · have hxe : elemsOf h (.ms key' g 0 len) = some (E.size T, low0s ((es.drop 0).take len)) := by
              simp only [elemsOf, hk]; rw [if_pos ⟨trivial, by omega, hst⟩]
            obtain ⟨p0, n0, c0, e0, en, _, hxs⟩ := elemsOf_ok hE H hxe hvx0
            rw [List.drop_zero] at hxs
            obtain ⟨b1, f1, olds, rfl, o1, o2, o3⟩ := hxs (fun e => by rw [e] at hXl; simp at hXl; omega)
            refine ⟨olds, o1, o2, fun j x hj => ?_⟩
            have e9 : a = ⟨b1, f1, none⟩ := by
              injection e0 with q1 q2 q3
              exact Option.some.inj q1
            rw [e9, Addr.add_lit]
            exact o3 j x hj
        obtain ⟨olds, o1, o2, o3⟩ := hol0
        rw [List.all_eq_true] at hall
        have hall' : ∀ a ∈ ys, a.cells.length = E.size T ∧ a.cells.all AV.one = true := by
          intro a ha; have := hall a ha; simpa using this
        have hallX : ∀ e ∈ low0s (es.take len) ++ ys, e.cells.length = E.size T ∧ e.cells.all AV.one = true := by
          intro e he
          rcases List.mem_append.1 he with he | he
          · rw [low0s_map] at he
            obtain ⟨x, hx, rfl⟩ := List.mem_map.1 he
            have hx2 := List.mem_of_mem_take hx
            have hfx := List.all_eq_true.1 hfe x hx2
            have e0 : low0 x = x := by
              have one : ∀ y : AV, flat1 y = true → low0 y = y := by
                intro y hy; cases y <;> simp only [flat1] at hy <;> first | (cases hy; done) | simp [low0]
              have ones : ∀ cs : List AV, cs.all flat1 = true → low0s cs = cs := by
                intro cs hcs
                rw [low0s_map]
                rw [List.map_congr_left (g := _root_.id) (fun y hy => one y (List.all_eq_true.1 hcs y hy)), List.map_id]
              cases x <;> simp only [flat] at hfx <;> first | exact one _ hfx | simp only [low0, ones _ hfx]
            rw [e0]; exact hallE x hx2
          · exact hall' e he
        have hnl : (flatC rvs).length = ys.length * i.size := by rw [flatC_length g2, g1.length, hisz]
        have hol : (flatC olds).length = len * i.size := by rw [flatC_length o2, o1.length, hXl, hisz]
        have hnews : ∀ j v, (flatC rvs)[j]? = some v → w.cell? ((⟨b, ofs, none⟩ : Addr).add j) = some v := by
          intro j v hj; rw [Addr.add_lit]; exact g3 j v hj
        have hone : ∀ u ∈ flatC rvs, u.oneCell' = true := by
          intro u hu'
          obtain ⟨l, hl1, hl2⟩ := List.mem_flatten.1 hu'
          obtain ⟨r, hr, rfl⟩ := List.mem_map.1 hl1
          obtain ⟨ix, hix⟩ := List.mem_iff_getElem?.1 hr
          have hlt : ix < ys.length := by have := (List.getElem?_eq_some_iff.1 hix).1; rw [g1.length] at this; exact this
          obtain ⟨r2, hr2, hv2⟩ := g1.get ix ys[ix] (List.getElem?_eq_getElem hlt)
          rw [hix] at hr2
          obtain rfl := Option.some.inj hr2
          have hm := hall' ys[ix] (List.getElem_mem hlt)
          exact VRl.all_one (fun _ _ hx => hx) (VR.cells_one (fun _ _ hx => hx) hv2 hm.2) hm.2 u hl2
        have hpos : 0 < ys.length := List.length_pos_iff.2 hyne
        have hmr : len + ys.length ≤ 1073741824 := by simpa [maxRow] using hbig
        have hfitb : (len + ys.length) * i.bytes ≤ 140737488355328 := by
          have := Nat.mul_le_mul hmr hby
          omega
        have hsz0 := H.below.size
        have hsz0' := H.old _ _ hk
        have hlt0 := H.lt hk
        have r2 : ∀ r ∈ olds ++ rvs, r.cells.size = E.size T := fun r hr => (List.mem_append.1 hr).elim (o2 r) (g2 r)
        have hmul2 : (len + ys.length) * E.size T = len * E.size T + ys.length * E.size T := Nat.add_mul ..
        have hflat : flatC (olds ++ rvs) = flatC olds ++ flatC rvs := flatC_append _ _
        have hvX : VRl (low0s (es.take len) ++ ys) (cx B w0.heap.size w h M) (olds ++ rvs) := VRl.mono (gr_el ..) _ (o1.append g1)
        by_cases hroom : len + ys.length ≤ c
        · -- in place
          obtain rfl := hp (by omega)
          obtain ⟨cur, hcur⟩ : ∃ cur : Array Value, cur = (flatC rvsE ++ rest).toArray := ⟨_, rfl⟩
          rw [← hcur] at hh
          have hcs : cur.size = (M key').2 * E.size T := by rw [hcur]; simpa using hlk
          have hfit : 0 + len * i.size + (flatC rvs).length ≤ cur.size := by
            have := Nat.mul_le_mul_right (E.size T) (show len + ys.length ≤ (M key').2 by omega)
            rw [hnl, hcs, hisz]; omega
          have hrun := run_append_room_at (P := P) (w := w) t ty T i hu hi (M key').1 0 len c cur hh ⟨b, ofs, none⟩ ys.length cap (flatC rvs) hnl hnews hone hroom hfit
          obtain ⟨w2, hw2⟩ : ∃ w2, w2 = w.setRow (M key').1 (cur.toList.take (0 + len * i.size) ++ flatC rvs ++ cur.toList.drop (0 + len * i.size + (flatC rvs).length)).toArray := ⟨_, rfl⟩
          have hnew : w2.heap[(M key').1]? = some (.cells (cur.toList.take (0 + len * i.size) ++ flatC rvs ++ cur.toList.drop (0 + len * i.size + (flatC rvs).length)).toArray T (0, 0)) := by rw [hw2]; exact setRow_heap w _ _ _ T (0, 0) hh
          have hoth : ∀ b, b < w.heap.size → b ≠ (M key').1 → w2.heap[b]? = w.heap[b]? := fun b _ hb => by rw [hw2]; exact setRow_other w _ b _ hb
          rw [← hw2] at hrun
          have htk : cur.toList.take (0 + len * i.size) = flatC olds := by
            apply List.ext_getElem?
            intro j
            by_cases hj : j < len * i.size
            · rw [List.getElem?_take, if_pos (by omega)]
              have hjo : j < (flatC olds).length := by omega
              have h9 := o3 j _ (List.getElem?_eq_getElem hjo)
              rw [Addr.add_lit, Nat.zero_add, cell_of_row _ _ _ _ _ _ hh] at h9
              rw [List.getElem?_eq_getElem hjo, ← h9]; simp
            · rw [List.getElem?_eq_none (by rw [List.length_take]; omega), List.getElem?_eq_none (by omega)]
          have hgr := gr_up (B := B) (w' := w2) (p := M key') (blk' := .row (g + 1) T (E.size T) (low0s (es.take len) ++ ys)) H hk (fun i => trivial) (Nat.lt_succ_self g) hoth (.inl rfl)
          refine ⟨_, _, mset M key' (M key'), hrun, H.up (blk' := .row (g + 1) T (E.size T) (low0s (es.take len) ++ ys)) hk (fun i => trivial) (Nat.lt_succ_self g) hoth (.inl rfl) (by rw [hw2]; rfl) (by rw [hw2]; rfl) (by rw [hw2]; rfl) (by rw [hw2]; simp) ⟨hk0, hallX, olds ++ rvs, cur.toList.drop (0 + len * i.size + (flatC rvs).length), hvX, ?_, ?_, hmx⟩, hgr, ?_⟩
          · rw [hnew, htk, hflat]
          · rw [hflat, ← hcs]
            simp only [List.length_append, List.length_drop, Array.length_toList]
            omega
          · simp only [VR]
            refine ⟨_, _, rfl, ⟨false, g + 1, 0, E.size T, (M key').1, (M key').2⟩, by simp [cx, Lof, hset, mset, Blk.isTok, Blk.g, Blk.u, Blk.k], Nat.le_refl _, fun _ => ⟨rfl, fun _ => by simp, hroom, h6, by simpa using h7⟩⟩
        · -- a new block
          have hlt : c < len + ys.length := by omega
          have hge := grownCap_ge w (len + ys.length) c T
          have hcm := grownCap_le_maxLen w (len + ys.length) c T (by simp only [maxLen]; omega)
          have hzc : z.cells.size = E.size T := by
            have := (VR.cells_one hcx (hzv (cx B w0.heap.size w h M)) hzo).length
            rw [Array.length_toList] at this
            omega
          have hrun := run_append_grow (P := P) w t ty T i z hu hi hzz a len c (flatC olds) hol (fun j x hj => o3 j x hj) ⟨b, ofs, none⟩ ys.length cap (flatC rvs) hnl hnews hlt (by omega) (growslice_fits hlt hfitb)
          obtain ⟨cur, hcur⟩ : ∃ cur, cur = ((flatC olds).toArray ++ (flatC rvs).toArray ++ Builtin.zeroCells z.cells (grownCap w (len + ys.length) c T - (len + ys.length))) := ⟨_, rfl⟩
          rw [← hcur] at hrun
          have hcs : cur.size = grownCap w (len + ys.length) c T * E.size T := by
            rw [hcur]
            simp only [Array.size_append, List.size_toArray, hol, hnl, size_zeroCells, hzc, hisz, ← Nat.add_mul]
            congr 1; omega
          have gb : Below w.heap.size w (w.drew.alloc (.cells cur T)) := (Below.refl _ _).drew.alloc (Nat.le_refl _) _
          have hnew : (w.drew.alloc (.cells cur T)).heap[w.heap.size]? = some (.cells cur T) := heap_alloc_new w.drew _
          have hgr := gr_up (B := B) (w' := w.drew.alloc (.cells cur T)) (p := (w.heap.size, grownCap w (len + ys.length) c T)) (blk' := .row (g + 1) T (E.size T) (low0s (es.take len) ++ ys)) H hk (fun i => trivial) (Nat.lt_succ_self g) (fun b hb _ => gb.block b hb) (.inr (Nat.le_refl _))
          refine ⟨_, _, mset M key' (w.heap.size, grownCap w (len + ys.length) c T), hrun, H.up (blk' := .row (g + 1) T (E.size T) (low0s (es.take len) ++ ys)) hk (fun i => trivial) (Nat.lt_succ_self g) (fun b hb _ => gb.block b hb) (.inr (Nat.le_refl _)) rfl rfl rfl gb.size ⟨hk0, hallX, olds ++ rvs, (Builtin.zeroCells z.cells (grownCap w (len + ys.length) c T - (len + ys.length))).toList, hvX, ?_, ?_, hcm⟩, hgr, ?_⟩
          · rw [hnew, hcur, hflat]
            congr 2
            apply Array.ext'
            simp
          · rw [← hcs, hcur, hflat]
            simp
            omega
          · simp only [VR]
            refine ⟨_, _, rfl, ⟨false, g + 1, 0, E.size T, w.heap.size, grownCap w (len + ys.length) c T⟩, by simp [cx, Lof, hset, mset, Blk.isTok, Blk.g, Blk.u, Blk.k], Nat.le_refl _, fun _ => ⟨rfl, fun _ => by simp, hge, hcm, by simp⟩⟩
theorem does_append {key t : Nat} {ty : TypeId} {x y v : AV} {h' : Heap} {rx ry : Value} (hl : appendV E h key t x y = some (v, h')) (hvx : VR x (cx B w0.heap.size w h M) rx) (hvy : VR y (cx B w0.heap.size w h M) ry) :
    Does P B w0 w h M (Builtin.append_ #[t, t] ty #[rx, ry]) v h' := by
  have hcx := cx_x B w0.heap.size w h M
  unfold appendV at hl
  cases hs : E.ty t <;> rw [hs] at hl <;> try (cases hl; done)
  rename_i e
  simp only at hl
  cases x <;> try (cases hl; done)
  rotate_left
  · exact does_appendM hE H hs hl hvx hvy
  rename_i k o es
  simp only at hl
  cases hy : elemsOf h y with
  | none => rw [hy] at hl; cases hl
  | some p =>
    obtain ⟨k', ys⟩ := p
    rw [hy] at hl
    simp only at hl
    split at hl
    · cases hl
    rename_i hsz
    obtain ⟨i, z, hi, hisz, hby, hzz, hzv, hzl, hzo⟩ := hE.size e hsz
    have hu := ty_sl hE hs
    obtain ⟨p, n, cap, rfl, rfl, hncap, hys⟩ := elemsOf_ok hE H hy hvy
    split at hl
    · rename_i hemp
      obtain ⟨rfl, rfl⟩ := Prod.mk.inj (Option.some.inj hl)
      have hy0 : ys = [] := by simpa using hemp
      subst hy0
      refine ⟨rx, w, M, ?_, H, Gr.refl _, hvx⟩
      have hf0 : (Builtin.firstCells i.size 0 (.slice p 0 cap)).run P w = .ok #[] w := by
        cases p with
        | none => simp [Builtin.firstCells]
        | some a => simp [Builtin.firstCells, loadCells, loadCellsFrom]
      have fin : ∀ (a : Option Addr) (len c : Nat), len ≤ c → (Builtin.append_ #[t, t] ty #[.slice a len c, .slice p 0 cap]).run P w = .ok (.slice a len c) w := by
        intro a len c hlc
        cases a with
        | none => simp [Builtin.append_, run_underlying hu, sizeOf, typeInfo, hi, Builtin.lenOf, hlc, hf0]
        | some a => simp [Builtin.append_, run_underlying hu, sizeOf, typeInfo, hi, Builtin.lenOf, hlc, hf0, storeCells]
      cases o with
      | ex => simp only [VR] at hvx; exact (hcx _ _ hvx).elim
      | _ =>
        simp only [VR] at hvx
        obtain ⟨a, c, rfl, h1, _⟩ := hvx
        exact fin a _ c h1
    · rename_i hemp
      have hyne : ys ≠ [] := by intro e0; exact hemp (by simp [e0])
      split at hl
      case isFalse => cases hl
      rename_i hc
      obtain ⟨hk, hk', hbig, hall⟩ := hc
      subst hk'
      obtain ⟨b, ofs, rvs, rfl, g1, g2, g3⟩ := hys hyne
      rw [List.all_eq_true] at hall
      have hall' : ∀ a ∈ ys, a.cells.length = E.size e ∧ a.cells.all AV.one = true := by
        intro a ha; have := hall a ha; simpa using this
      have hnl : (flatC rvs).length = ys.length * i.size := by rw [flatC_length g2, g1.length, hisz]
      have hnews : ∀ j v, (flatC rvs)[j]? = some v → w.cell? ((⟨b, ofs, none⟩ : Addr).add j) = some v := by
        intro j v hj; rw [Addr.add_lit]; exact g3 j v hj
      have hone : ∀ u ∈ flatC rvs, u.oneCell' = true := by
        intro u hu'
        obtain ⟨l, hl1, hl2⟩ := List.mem_flatten.1 hu'
        obtain ⟨r, hr, rfl⟩ := List.mem_map.1 hl1
        obtain ⟨ix, hix⟩ := List.mem_iff_getElem?.1 hr
        have hlt : ix < ys.length := by have := (List.getElem?_eq_some_iff.1 hix).1; rw [g1.length] at this; exact this
        obtain ⟨r2, hr2, hv2⟩ := g1.get ix ys[ix] (List.getElem?_eq_getElem hlt)
        rw [hix] at hr2
        obtain rfl := Option.some.inj hr2
        have hm := hall' ys[ix] (List.getElem_mem hlt)
        exact VRl.all_one (fun _ _ hx => hx) (VR.cells_one (fun _ _ hx => hx) hv2 hm.2) hm.2 u hl2
      have hpos : 0 < ys.length := List.length_pos_iff.2 hyne
      have hmr : es.length + ys.length ≤ 1073741824 := by simpa [maxRow] using hbig
      have hfitb : (es.length + ys.length) * i.bytes ≤ 140737488355328 := by
        have := Nat.mul_le_mul hmr hby
        omega
      have hsz0 := H.below.size
      -- growing: a new block
      have grow : ∀ (a : Option Addr) (c : Nat), c < es.length + ys.length → (a = none → c = 0 ∧ es = []) →
          (es ≠ [] → ∃ b ofs, a = some ⟨b, ofs, none⟩ ∧ VRm es (cx B w0.heap.size w h M).el (cx B w0.heap.size w h M).s b ofs k) → es.length ≤ c →
          ∃ cur c', (Builtin.append_ #[t, t] ty #[.slice a es.length c, .slice (some ⟨b, ofs, none⟩) ys.length cap]).run P w = .ok (.slice (some ⟨w.heap.size, 0, none⟩) (es.length + ys.length) c') (w.drew.alloc (.cells cur e)) ∧
            cur.size = c' * E.size e ∧ es.length + ys.length ≤ c' ∧ c' ≤ maxLen ∧ ∃ all, VRl (es ++ ys) (cx B w0.heap.size w h M).el all ∧ (∀ r ∈ all, r.cells.size = E.size e) ∧ ∃ rest, cur.toList = flatC all ++ rest := by
        intro a c hlt hnone hes hlc
        have hold : ∃ olds, VRl es (cx B w0.heap.size w h M).el olds ∧ (∀ r ∈ olds, r.cells.size = E.size e) ∧ (es ≠ [] → ∃ b ofs, a = some ⟨b, ofs, none⟩ ∧ ∀ j x, (flatC olds)[j]? = some x → w.cell? ⟨b, ofs + j, none⟩ = some x) := by
          by_cases he : es = []
          · exact ⟨[], by simp [he, VRl], by simp, fun h => (h he).elim⟩
          · obtain ⟨b1, o1, e1, hm⟩ := hes he
            obtain ⟨olds, q1, q2, q3⟩ := hm.flat
            exact ⟨olds, q1, fun r hr => (q2 r hr).trans (hk.resolve_left he), fun _ => ⟨b1, o1, e1, fun j x hj => (q3 j x hj).1⟩⟩
        obtain ⟨olds, q1, q2, q3⟩ := hold
        have hol : (flatC olds).length = es.length * i.size := by rw [flatC_length q2, q1.length, hisz]
        have hge := grownCap_ge w (es.length + ys.length) c e
        have hcm := grownCap_le_maxLen w (es.length + ys.length) c e (by simp only [maxLen]; omega)
        have hzc : z.cells.size = E.size e := by
          have := (VR.cells_one hcx (hzv (cx B w0.heap.size w h M)) hzo).length
          rw [Array.length_toList] at this
          omega
        have hrun : (Builtin.append_ #[t, t] ty #[.slice a es.length c, .slice (some ⟨b, ofs, none⟩) ys.length cap]).run P w = .ok (.slice (some ⟨w.heap.size, 0, none⟩) (es.length + ys.length) (grownCap w (es.length + ys.length) c e))
            (w.drew.alloc (.cells ((flatC olds).toArray ++ (flatC rvs).toArray ++ Builtin.zeroCells z.cells (grownCap w (es.length + ys.length) c e - (es.length + ys.length))) e)) := by
          cases a with
          | none =>
            obtain ⟨rfl, rfl⟩ := hnone rfl
            have ho0 : olds = [] := by simpa [VRl] using q1
            subst ho0
            have := run_append_nil (P := P) w t ty e i z hu hi hzz ⟨b, ofs, none⟩ ys.length cap (flatC rvs) hnl hnews hpos (by omega) (by simp at hfitb; omega)
            simpa [flatC] using this
          | some ad =>
            refine run_append_grow (P := P) w t ty e i z hu hi hzz ad es.length c (flatC olds) hol ?_ ⟨b, ofs, none⟩ ys.length cap (flatC rvs) hnl hnews hlt (by omega) (growslice_fits hlt hfitb)
            intro j x hj
            by_cases he : es = []
            · have ho0 : olds = [] := by rw [he] at q1; simpa [VRl] using q1
              rw [ho0] at hj; simp [flatC] at hj
            · obtain ⟨b1, o1, e1, hm⟩ := q3 he
              obtain rfl := Option.some.inj e1
              rw [Addr.add_lit]; exact hm j x hj
        refine ⟨_, _, hrun, ?_, hge, hcm, olds ++ rvs, q1.append g1, fun r hr => ?_, (Builtin.zeroCells z.cells (grownCap w (es.length + ys.length) c e - (es.length + ys.length))).toList, ?_⟩
        · simp only [Array.size_append, List.size_toArray, hol, hnl, size_zeroCells, hzc, hisz, ← Nat.add_mul]
          congr 1; omega
        · rcases List.mem_append.1 hr with q | q
          · exact q2 r q
          · exact g2 r q
        · simp [flatC_append]
      have gb : ∀ cur : Array Value, Below w.heap.size w (w.drew.alloc (.cells cur e)) := fun cur => (Below.refl _ _).drew.alloc (Nat.le_refl _) _
      have hnewcell : ∀ (cur : Array Value) (all rest : List Value), cur.toList = flatC all ++ rest → ∀ j x, (flatC all)[j]? = some x → (w.drew.alloc (.cells cur e)).cell? ⟨w.heap.size, j, none⟩ = some x := by
        intro cur all rest hcur j x hj
        have hh : (w.drew.alloc (.cells cur e)).heap[w.heap.size]? = some (.cells cur e) := heap_alloc_new w.drew _
        rw [cell_of_row _ _ _ _ _ _ hh, ← Array.getElem?_toList, hcur, List.getElem?_append_left (List.getElem?_eq_some_iff.1 hj).1]
        exact hj
      cases o with
      | lit =>
        obtain ⟨rfl, rfl⟩ := Prod.mk.inj (Option.some.inj hl)
        simp only [VR] at hvx
        obtain ⟨a, c, rfl, h1, h2, h3, h4, h5⟩ := hvx
        simp only [OwnOk] at h5
        subst h5
        obtain ⟨cur, c', hrun, hcs, hcc, hcm, all, r1, r2, rest, r3⟩ := grow a es.length (by omega) (fun e0 => ⟨h3 e0, List.eq_nil_of_length_eq_zero (h3 e0)⟩) h4 (Nat.le_refl _)
        have hpp : 0 < E.size e := Nat.pos_of_ne_zero hsz
        have hgr := gr_newkey (B := B) H (gb cur) (key := key) (p := (w.heap.size, c')) (blk := .tok (nextG h key) e (E.size e) (es.length + ys.length)) (Nat.le_refl _) rfl
        refine ⟨_, _, mset M key (w.heap.size, c'), hrun, H.newkey (gb cur) (Nat.le_refl _) rfl ⟨hpp, hcm, cur, heap_alloc_new w.drew _, hcs⟩, hgr, ?_⟩
        simp only [VR]
        refine ⟨_, _, by rw [List.length_append], by rw [List.length_append]; exact hcc, hcm, by simp, fun _ => ⟨_, 0, rfl, ?_⟩, ?_⟩
        · refine VRm.mk (VRl.mono hgr.el _ r1) r2 fun j x hj => ⟨by rw [Nat.zero_add]; exact hnewcell cur all rest r3 j x hj, ?_, .inl hsz0⟩
          rintro ⟨k3, b3, q1, q2, q3⟩
          by_cases e3 : k3 = key
          · subst e3
            have : Blk.tok (nextG h k3) e (E.size e) (es.length + ys.length) = b3 := by simpa [hset] using q1
            subst this
            simp only [Blk.mutAt] at q3
            have := (List.getElem?_eq_some_iff.1 hj).1
            rw [flatC_length r2, r1.length, List.length_append] at this
            omega
          · have := H.lt (key := k3) (blk := b3) (by simpa [hset, e3] using q1)
            simp only [mset, if_neg e3] at q2
            omega
        · exact ⟨⟨true, nextG h key, es.length + ys.length, E.size e, w.heap.size, c'⟩, by simp [cx, Lof, hset, mset, Blk.isTok, Blk.g, Blk.u, Blk.k], Nat.le_refl _, fun _ => ⟨rfl, by rw [List.length_append]; exact Nat.le_refl _, fun _ => ⟨rfl, rfl⟩⟩⟩
      | tok key' g =>
        simp only at hl
        cases hkk : h key' with
        | none => rw [hkk] at hl; cases hl
        | some blk =>
          rw [hkk] at hl
          cases blk with
          | tok g' T k2 u =>
            simp only at hl
            split at hl
            case isFalse => cases hl
            rename_i hcond
            obtain ⟨hg1, hT1, hk1, hu1⟩ := hcond
            obtain rfl : g = g' := hg1
            obtain rfl : e = T := hT1.symm
            subst hk1
            subst hu1
            obtain ⟨rfl, rfl⟩ := Prod.mk.inj (Option.some.inj hl)
            simp only [VR] at hvx
            obtain ⟨a, c, rfl, h1, h2, h3, h4, q, hq, h5, h6⟩ := hvx
            have hq' := cx_l hkk hq
            subst hq'
            obtain ⟨_, _, h7⟩ := h6 rfl
            obtain ⟨rfl, rfl⟩ := h7 rfl
            obtain ⟨hk0, hu2, cur, hh, hcs⟩ := H.ok _ _ hkk
            simp only at h1 h2 h4
            have hsz0' := H.old _ _ hkk
            have hlt0 := H.lt hkk
            have hLc : es.length * E.size e ≤ cur.size := by rw [hcs]; exact Nat.mul_le_mul_right _ h1
            have hX : (cur.toList.take (es.length * i.size)).length = es.length * E.size e := by
              rw [List.length_take, Array.length_toList, hisz]; exact Nat.min_eq_left hLc
            by_cases hroom : es.length + ys.length ≤ (M key').2
            · -- in place
              have hfit : es.length * i.size + (flatC rvs).length ≤ cur.size := by
                rw [hnl, hcs, hisz, ← Nat.add_mul]; exact Nat.mul_le_mul_right _ hroom
              have hrun := run_append_room (P := P) w t ty e i hu hi (M key').1 es.length (M key').2 cur hh ⟨b, ofs, none⟩ ys.length cap (flatC rvs) hnl hnews hone hroom hfit
              have hkeep : ∀ ix x, ix < es.length * E.size e → w.cell? ⟨(M key').1, ix, none⟩ = some x → (w.setRow (M key').1 (cur.toList.take (es.length * i.size) ++ flatC rvs ++ cur.toList.drop (es.length * i.size + (flatC rvs).length)).toArray).cell? ⟨(M key').1, ix, none⟩ = some x := by
                intro ix x hix hx
                rw [cell_of_row _ _ _ _ _ _ (setRow_heap w _ _ _ e (0, 0) hh)]
                rw [cell_of_row _ _ _ _ _ _ hh] at hx
                rw [List.getElem?_toArray, List.append_assoc, List.getElem?_append_left (by rw [hX]; exact hix), List.getElem?_take, if_pos (by rw [hisz]; exact hix)]
                simpa using hx
              have hgr := gr_tok (B := B) (w' := w.setRow (M key').1 (cur.toList.take (es.length * i.size) ++ flatC rvs ++ cur.toList.drop (es.length * i.size + (flatC rvs).length)).toArray) (p := M key') H hkk (u' := es.length + ys.length) (by omega) (fun b _ hb => setRow_other w _ b _ hb) (.inl rfl) hkeep
              refine ⟨_, _, mset M key' (M key'), hrun, H.tok hkk (by omega) (fun b _ hb => setRow_other w _ b _ hb) (.inl rfl) hkeep rfl rfl rfl (by simp) ⟨hk0, hu2, _, setRow_heap w _ _ _ e (0, 0) hh, ?_⟩, hgr, ?_⟩
              · rw [← hcs]
                simp only [List.size_toArray, List.length_append, List.length_take, List.length_drop, Array.length_toList]
                omega
              · simp only [VR]
                refine ⟨_, _, by rw [List.length_append], by rw [List.length_append]; exact hroom, hu2, by simp, fun _ => ⟨_, 0, rfl, ?_⟩, ?_⟩
                · have hold : ∃ olds, VRl es (cx B w0.heap.size w h M).el olds ∧ (∀ r ∈ olds, r.cells.size = E.size e) ∧ ∀ j x, (flatC olds)[j]? = some x → w.cell? ⟨(M key').1, j, none⟩ = some x := by
                    by_cases he : es = []
                    · exact ⟨[], by simp [he, VRl], by simp, by simp [flatC]⟩
                    · obtain ⟨b1, o1, e1, hm⟩ := h4 he
                      obtain ⟨olds, q1, q2, q3⟩ := hm.flat
                      have e2 : b1 = (M key').1 ∧ o1 = 0 := by
                        have := Option.some.inj e1
                        injection this with a1 a2
                        exact ⟨a1.symm, a2.symm⟩
                      refine ⟨olds, q1, fun r hr => (q2 r hr).trans (hk.resolve_left he), fun j x hj => ?_⟩
                      have := (q3 j x hj).1
                      rw [e2.1, e2.2, Nat.zero_add] at this
                      exact this
                  obtain ⟨olds, q1, q2, q3⟩ := hold
                  have hol : (flatC olds).length = es.length * E.size e := by rw [flatC_length q2, q1.length]
                  have r2 : ∀ r ∈ olds ++ rvs, r.cells.size = E.size e := fun r hr => (List.mem_append.1 hr).elim (q2 r) (g2 r)
                  refine VRm.mk (VRl.mono hgr.el _ (q1.append g1)) r2 fun j x hj => ⟨?_, ?_, .inl hsz0'⟩
                  · rw [Nat.zero_add]
                    rw [flatC_append] at hj
                    by_cases hjl : j < es.length * E.size e
                    · rw [List.getElem?_append_left (by omega)] at hj
                      exact hkeep j x hjl (q3 j x hj)
                    · rw [List.getElem?_append_right (by omega), hol] at hj
                      rw [cell_of_row _ _ _ _ _ _ (setRow_heap w _ _ _ e (0, 0) hh), List.getElem?_toArray, List.append_assoc]
                      rw [List.getElem?_append_right (by omega), hX, List.getElem?_append_left (List.getElem?_eq_some_iff.1 hj).1]
                      exact hj
                  · rintro ⟨k3, b3, p1, p2, p3⟩
                    have hj2 := (List.getElem?_eq_some_iff.1 hj).1
                    rw [flatC_length r2, (q1.append g1).length, List.length_append] at hj2
                    by_cases e3 : k3 = key'
                    · subst e3
                      have : Blk.tok g e (E.size e) (es.length + ys.length) = b3 := by simpa [hset] using p1
                      subst this
                      simp only [Blk.mutAt] at p3
                      omega
                    · simp only [mset, if_neg e3] at p2
                      exact e3 (H.inj _ _ _ _ (by simpa [hset, e3] using p1) hkk p2)
                · exact ⟨⟨true, g, es.length + ys.length, E.size e, (M key').1, (M key').2⟩, by simp [cx, Lof, hset, mset, Blk.isTok, Blk.g, Blk.u, Blk.k], Nat.le_refl _, fun _ => ⟨rfl, by rw [List.length_append]; exact Nat.le_refl _, fun _ => ⟨rfl, rfl⟩⟩⟩
            · -- a new block
              obtain ⟨cur', c', hrun, hcs', hcc, hcm, all, r1, r2, rest, r3⟩ := grow (some ⟨(M key').1, 0, none⟩) (M key').2 (by omega) (by simp) h4 h1
              have hkeep : ∀ ix x, ix < es.length * E.size e → w.cell? ⟨(M key').1, ix, none⟩ = some x → (w.drew.alloc (.cells cur' e)).cell? ⟨(M key').1, ix, none⟩ = some x := by
                intro ix x _ hx
                exact ((gb cur').cell (p := ⟨(M key').1, ix, none⟩) hlt0).trans hx
              have hgr := gr_tok (B := B) (w' := w.drew.alloc (.cells cur' e)) (p := (w.heap.size, c')) H hkk (u' := es.length + ys.length) (by omega) (fun b hb _ => (gb cur').block b hb) (.inr (Nat.le_refl _)) hkeep
              refine ⟨_, _, mset M key' (w.heap.size, c'), hrun, H.tok hkk (by omega) (fun b hb _ => (gb cur').block b hb) (.inr (Nat.le_refl _)) hkeep rfl rfl rfl (gb cur').size ⟨hk0, hcm, cur', heap_alloc_new w.drew _, hcs'⟩, hgr, ?_⟩
              simp only [VR]
              refine ⟨_, _, by rw [List.length_append], by rw [List.length_append]; exact hcc, hcm, by simp, fun _ => ⟨_, 0, rfl, ?_⟩, ?_⟩
              · refine VRm.mk (VRl.mono hgr.el _ r1) r2 fun j x hj => ⟨by rw [Nat.zero_add]; exact hnewcell cur' all rest r3 j x hj, ?_, .inl hsz0⟩
                rintro ⟨k3, b3, p1, p2, p3⟩
                by_cases e3 : k3 = key'
                · subst e3
                  have : Blk.tok g e (E.size e) (es.length + ys.length) = b3 := by simpa [hset] using p1
                  subst this
                  simp only [Blk.mutAt] at p3
                  have := (List.getElem?_eq_some_iff.1 hj).1
                  rw [flatC_length r2, r1.length, List.length_append] at this
                  omega
                · have := H.lt (key := k3) (blk := b3) (by simpa [hset, e3] using p1)
                  simp only [mset, if_neg e3] at p2
                  omega
              · exact ⟨⟨true, g, es.length + ys.length, E.size e, w.heap.size, c'⟩, by simp [cx, Lof, hset, mset, Blk.isTok, Blk.g, Blk.u, Blk.k], Nat.le_refl _, fun _ => ⟨rfl, by rw [List.length_append]; exact Nat.le_refl _, fun _ => ⟨rfl, rfl⟩⟩⟩
          | var => cases hl
          | fz => cases hl
          | row => cases hl
      | no => cases hl
      | brw => cases hl
      | ex => cases hl

theorem does_appendR {key t : Nat} {ty : TypeId} {x y v : AV} {h' : Heap} {rx ry : Value} (hl : appendR E h key t x y = some (v, h')) (hvx : VR x (cx B w0.heap.size w h M) rx) (hvy : VR y (cx B w0.heap.size w h M) ry) :
    Does P B w0 w h M (Builtin.append_ #[t, t] ty #[rx, ry]) v h' := by
  have hcx := cx_x B w0.heap.size w h M
  unfold appendR at hl
  cases hs : E.ty t <;> rw [hs] at hl <;> try (cases hl; done)
  rename_i e
  simp only at hl
  cases x <;> try (cases hl; done)
  rename_i k o es
  cases o <;> cases es <;> simp only at hl <;> try (cases hl; done)
  obtain ⟨es, hes0⟩ : ∃ es : List AV, es = [] := ⟨_, rfl⟩
  obtain ⟨o, ho0⟩ : ∃ o : Own, o = .lit := ⟨_, rfl⟩
  rw [← hes0, ← ho0] at hvx
  cases hy : elemsOf h y with
  | none => rw [hy] at hl; cases hl
  | some p =>
    obtain ⟨k', ys⟩ := p
    rw [hy] at hl
    simp only at hl
    split at hl
    · cases hl
    rename_i hsz
    obtain ⟨i, z, hi, hisz, hby, hzz, hzv, hzl, hzo⟩ := hE.size e hsz
    have hu := ty_sl hE hs
    obtain ⟨p, n, cap, rfl, rfl, hncap, hys⟩ := elemsOf_ok hE H hy hvy
    split at hl
    · rename_i hemp
      obtain ⟨rfl, rfl⟩ := Prod.mk.inj (Option.some.inj hl)
      have hy0 : ys = [] := by simpa using hemp
      subst hy0 hes0 ho0
      refine ⟨rx, w, M, ?_, H, Gr.refl _, ?_⟩
      · have hf0 : (Builtin.firstCells i.size 0 (.slice p 0 cap)).run P w = .ok #[] w := by
          cases p with
          | none => simp [Builtin.firstCells]
          | some a => simp [Builtin.firstCells, loadCells, loadCellsFrom]
        simp only [VR] at hvx
        obtain ⟨a, c, rfl, h1, _⟩ := hvx
        cases a with
        | none => simp [Builtin.append_, run_underlying hu, sizeOf, typeInfo, hi, Builtin.lenOf, h1, hf0]
        | some a => simp [Builtin.append_, run_underlying hu, sizeOf, typeInfo, hi, Builtin.lenOf, h1, hf0, storeCells]
      · simp only [VR] at hvx ⊢
        obtain ⟨a, c, q1, q2, q3, q4, _⟩ := hvx
        exact ⟨a, c, q1, q2, q3, q4, fun hne => (hne rfl).elim, trivial⟩
    · rename_i hemp
      have hyne : ys ≠ [] := by intro e0; exact hemp (by simp [e0])
      split at hl
      case isFalse => cases hl
      rename_i hc
      obtain ⟨hk', hbig, hfl, hall⟩ := hc
      subst hk'
      have hk : es = [] ∨ k = E.size e := .inl hes0
      obtain ⟨b, ofs, rvs, rfl, g1, g2, g3⟩ := hys hyne
      rw [List.all_eq_true] at hall
      have hall' : ∀ a ∈ ys, a.cells.length = E.size e ∧ a.cells.all AV.one = true := by
        intro a ha; have := hall a ha; simpa using this
      have hnl : (flatC rvs).length = ys.length * i.size := by rw [flatC_length g2, g1.length, hisz]
      have hnews : ∀ j v, (flatC rvs)[j]? = some v → w.cell? ((⟨b, ofs, none⟩ : Addr).add j) = some v := by
        intro j v hj; rw [Addr.add_lit]; exact g3 j v hj
      have hone : ∀ u ∈ flatC rvs, u.oneCell' = true := by
        intro u hu'
        obtain ⟨l, hl1, hl2⟩ := List.mem_flatten.1 hu'
        obtain ⟨r, hr, rfl⟩ := List.mem_map.1 hl1
        obtain ⟨ix, hix⟩ := List.mem_iff_getElem?.1 hr
        have hlt : ix < ys.length := by have := (List.getElem?_eq_some_iff.1 hix).1; rw [g1.length] at this; exact this
        obtain ⟨r2, hr2, hv2⟩ := g1.get ix ys[ix] (List.getElem?_eq_getElem hlt)
        rw [hix] at hr2
        obtain rfl := Option.some.inj hr2
        have hm := hall' ys[ix] (List.getElem_mem hlt)
        exact VRl.all_one (fun _ _ hx => hx) (VR.cells_one (fun _ _ hx => hx) hv2 hm.2) hm.2 u hl2
      have hpos : 0 < ys.length := List.length_pos_iff.2 hyne
      have hmr : es.length + ys.length ≤ 1073741824 := by subst hes0; simpa [maxRow] using hbig
      have hfitb : (es.length + ys.length) * i.bytes ≤ 140737488355328 := by
        have := Nat.mul_le_mul hmr hby
        omega
      have hsz0 := H.below.size
      -- growing: a new block
      have grow : ∀ (a : Option Addr) (c : Nat), c < es.length + ys.length → (a = none → c = 0 ∧ es = []) →
          (es ≠ [] → ∃ b ofs, a = some ⟨b, ofs, none⟩ ∧ VRm es (cx B w0.heap.size w h M).el (cx B w0.heap.size w h M).s b ofs k) → es.length ≤ c →
          ∃ cur c', (Builtin.append_ #[t, t] ty #[.slice a es.length c, .slice (some ⟨b, ofs, none⟩) ys.length cap]).run P w = .ok (.slice (some ⟨w.heap.size, 0, none⟩) (es.length + ys.length) c') (w.drew.alloc (.cells cur e)) ∧
            cur.size = c' * E.size e ∧ es.length + ys.length ≤ c' ∧ c' ≤ maxLen ∧ ∃ all, VRl (es ++ ys) (cx B w0.heap.size w h M).el all ∧ (∀ r ∈ all, r.cells.size = E.size e) ∧ ∃ rest, cur.toList = flatC all ++ rest := by
        intro a c hlt hnone hes hlc
        have hold : ∃ olds, VRl es (cx B w0.heap.size w h M).el olds ∧ (∀ r ∈ olds, r.cells.size = E.size e) ∧ (es ≠ [] → ∃ b ofs, a = some ⟨b, ofs, none⟩ ∧ ∀ j x, (flatC olds)[j]? = some x → w.cell? ⟨b, ofs + j, none⟩ = some x) := by
          by_cases he : es = []
          · exact ⟨[], by simp [he, VRl], by simp, fun h => (h he).elim⟩
          · obtain ⟨b1, o1, e1, hm⟩ := hes he
            obtain ⟨olds, q1, q2, q3⟩ := hm.flat
            exact ⟨olds, q1, fun r hr => (q2 r hr).trans (hk.resolve_left he), fun _ => ⟨b1, o1, e1, fun j x hj => (q3 j x hj).1⟩⟩
        obtain ⟨olds, q1, q2, q3⟩ := hold
        have hol : (flatC olds).length = es.length * i.size := by rw [flatC_length q2, q1.length, hisz]
        have hge := grownCap_ge w (es.length + ys.length) c e
        have hcm := grownCap_le_maxLen w (es.length + ys.length) c e (by simp only [maxLen]; omega)
        have hzc : z.cells.size = E.size e := by
          have := (VR.cells_one hcx (hzv (cx B w0.heap.size w h M)) hzo).length
          rw [Array.length_toList] at this
          omega
        have hrun : (Builtin.append_ #[t, t] ty #[.slice a es.length c, .slice (some ⟨b, ofs, none⟩) ys.length cap]).run P w = .ok (.slice (some ⟨w.heap.size, 0, none⟩) (es.length + ys.length) (grownCap w (es.length + ys.length) c e))
            (w.drew.alloc (.cells ((flatC olds).toArray ++ (flatC rvs).toArray ++ Builtin.zeroCells z.cells (grownCap w (es.length + ys.length) c e - (es.length + ys.length))) e)) := by
          cases a with
          | none =>
            obtain ⟨rfl, rfl⟩ := hnone rfl
            have ho0 : olds = [] := by simpa [VRl] using q1
            subst ho0
            have := run_append_nil (P := P) w t ty e i z hu hi hzz ⟨b, ofs, none⟩ ys.length cap (flatC rvs) hnl hnews hpos (by omega) (by simp at hfitb; omega)
            simpa [flatC] using this
          | some ad =>
            refine run_append_grow (P := P) w t ty e i z hu hi hzz ad es.length c (flatC olds) hol ?_ ⟨b, ofs, none⟩ ys.length cap (flatC rvs) hnl hnews hlt (by omega) (growslice_fits hlt hfitb)
            intro j x hj
            by_cases he : es = []
            · have ho0 : olds = [] := by rw [he] at q1; simpa [VRl] using q1
              rw [ho0] at hj; simp [flatC] at hj
            · obtain ⟨b1, o1, e1, hm⟩ := q3 he
              obtain rfl := Option.some.inj e1
              rw [Addr.add_lit]; exact hm j x hj
        refine ⟨_, _, hrun, ?_, hge, hcm, olds ++ rvs, q1.append g1, fun r hr => ?_, (Builtin.zeroCells z.cells (grownCap w (es.length + ys.length) c e - (es.length + ys.length))).toList, ?_⟩
        · simp only [Array.size_append, List.size_toArray, hol, hnl, size_zeroCells, hzc, hisz, ← Nat.add_mul]
          congr 1; omega
        · rcases List.mem_append.1 hr with q | q
          · exact q2 r q
          · exact g2 r q
        · simp [flatC_append]
      have gb : ∀ cur : Array Value, Below w.heap.size w (w.drew.alloc (.cells cur e)) := fun cur => (Below.refl _ _).drew.alloc (Nat.le_refl _) _
      have hnewcell : ∀ (cur : Array Value) (all rest : List Value), cur.toList = flatC all ++ rest → ∀ j x, (flatC all)[j]? = some x → (w.drew.alloc (.cells cur e)).cell? ⟨w.heap.size, j, none⟩ = some x := by
        intro cur all rest hcur j x hj
        have hh : (w.drew.alloc (.cells cur e)).heap[w.heap.size]? = some (.cells cur e) := heap_alloc_new w.drew _
        rw [cell_of_row _ _ _ _ _ _ hh, ← Array.getElem?_toList, hcur, List.getElem?_append_left (List.getElem?_eq_some_iff.1 hj).1]
        exact hj
      obtain ⟨rfl, rfl⟩ := Prod.mk.inj (Option.some.inj hl)
      subst hes0 ho0
      simp only [VR] at hvx
      obtain ⟨a, c, rfl, h1, h2, h3, h4, h5⟩ := hvx
      simp only [OwnOk] at h5
      subst h5
      obtain ⟨cur, c', hrun, hcs, hcc, hcm, all, r1, r2, rest, r3⟩ := grow a 0 (by simpa using hpos) (fun e0 => ⟨rfl, rfl⟩) h4 (Nat.le_refl _)
      simp only [List.nil_append, List.length_nil, Nat.zero_add] at hrun hcc r1
      have hpp : 0 < E.size e := Nat.pos_of_ne_zero hsz
      have hh : (w.drew.alloc (.cells cur e)).heap[w.heap.size]? = some (.cells cur e) := heap_alloc_new w.drew _
      have hgr := gr_newkey (B := B) H (gb cur) (key := key) (p := (w.heap.size, c')) (blk := .row (nextG h key) e (E.size e) ys) (Nat.le_refl _) rfl
      refine ⟨_, _, mset M key (w.heap.size, c'), hrun, H.newkey (gb cur) (Nat.le_refl _) rfl ⟨hpp, hall', all, rest, ?_, by rw [hh]; congr 2; apply Array.ext'; simpa using r3, ?_, hcm⟩, hgr, ?_⟩
      · refine VRl.mk r1.length fun i x r hx hr => ?_
        obtain ⟨r', hr', hv'⟩ := r1.get i x hx
        rw [hr] at hr'
        obtain rfl := Option.some.inj hr'
        exact vr_flat _ _ (List.all_eq_true.1 hfl x (List.mem_of_getElem? hx)) hv'
      · rw [← hcs, ← Array.length_toList, r3]
      · simp only [VR]
        exact ⟨_, _, rfl, ⟨false, nextG h key, 0, E.size e, w.heap.size, c'⟩, by simp [cx, Lof, hset, mset, Blk.isTok, Blk.g, Blk.u, Blk.k], Nat.le_refl _, fun _ => ⟨rfl, fun _ => by simp, hcc, hcm, by simp⟩⟩

theorem does_appendO {key t : Nat} {ty : TypeId} {x y v : AV} {h' : Heap} {rx ry : Value} (hl : appendO E h key t x y = some (v, h')) (hvx : VR x (cx B w0.heap.size w h M) rx) (hvy : VR y (cx B w0.heap.size w h M) ry) :
    Does P B w0 w h M (Builtin.append_ #[t, t] ty #[rx, ry]) v h' := by
  unfold appendO at hl
  split at hl
  · split at hl
    · rename_i hs; exact does_appendOM hE H hs hl hvx hvy
    · cases hl
  · exact does_appendR hE H hl hvx hvy

end

end Go.Proofs.YtlglhokpaplifaaGreatDoor.Ev
