/- The evaluator is sound: what it says of a call, the machine does. Conditions: none. -/
import Derived.Test.YthdeaenleimbeaaDoorEvCall2
import Derived.Test.YthdeaenleimbeaaDoorEvSched
namespace Go.Proofs.YthdeaenleimbeaaDoor.Ev
open Go.RowKit
set_option linter.unusedVariables false
set_option linter.unusedSimpArgs false
set_option linter.unusedSectionVars false

/-- behind a call: what lay in the world w as B tells, and all that is new -/
def extCx (B : Nat → Nat → Prop) (w w' : World) : Cx where
  s b i x := w'.cell? ⟨b, i, none⟩ = some x ∧ (w.heap.size ≤ b ∨ B b i)
  a b i x := w'.cell? ⟨b, i, none⟩ = some x ∧ (w.heap.size ≤ b ∨ B b i)
  l := fun _ => none
  x := fun _ _ => False

/-- What is known of the program and its world, for all calls. -/
structure ProgOk (E : Env) (P : Program) (inv : World → Prop) : Prop where
  env : EnvOk E P
  fn : ∀ f F, E.fn f = some F → P.funcs[f]? = some F ∧ F.name ≠ "runtime.NumGoroutine"
  keep : ∀ w w', inv w → Below w.heap.size w w' → inv w'
  ext : ∀ f F, E.ext f = some F → (∃ fn, P.funcs[f]? = some fn ∧ fn.name ≠ "runtime.NumGoroutine" ∧ fn.body.isSome = true) ∧ ∀ args res, F args = some res → ∀ (w : World) (B : Nat → Nat → Prop) (M : Mp) (rargs : List Value),
    inv w → VRl args (cx B w.heap.size w hnil M) rargs → Calls P f rargs.toArray w fun e w' => ∃ rv, e = .returned rv ∧ Below w.heap.size w w' ∧ VR res (extCx B w w') rv

theorem flat_one {e : AV} (hf : flat e = true) : e.cells.all AV.one = true := by
  cases e <;> simp only [flat, flat1] at hf <;> first | (cases hf; done) | rfl | skip
  rename_i cs
  rw [List.all_eq_true] at hf ⊢
  intro y hy
  have := hf y hy
  cases y <;> simp only [flat1] at this <;> first | (cases this; done) | rfl

/-! taking a result by value -/
section
variable {B B' : Nat → Nat → Prop} {w0 w w2 : World} {h : Heap} {M : Mp} (H : HR B w0 w h M) (hb : Below w.heap.size w w2)
include H hb

theorem to_caller {b i : Nat} {x : Value} (hx : w2.cell? ⟨b, i, none⟩ = some x) (hs : w.heap.size ≤ b ∨ stableOf (cx B w0.heap.size w h M) b i) : (cx B w0.heap.size w2 h M).s b i x := by
  have h0 := H.below.size
  refine ⟨hx, ?_, ?_⟩
  · rintro ⟨k3, b3, q1, q2, q3⟩
    rcases hs with hs | ⟨y, hy⟩
    · have := H.lt q1; omega
    · exact hy.2.1 ⟨k3, b3, q1, q2, q3⟩
  · rcases hs with hs | ⟨y, hy⟩
    · exact .inl (by omega)
    · exact hy.2.2

variable {hc : Heap} {Mc : Mp}
theorem gr_ret_el : Gr (xcx (stableOf (cx B w0.heap.size w h M)) w w2 hc Mc).el (cx B w0.heap.size w2 h M).el :=
  ⟨fun b i x hx => to_caller H hb hx.1 hx.2, fun b i x hx => to_caller H hb hx.1 hx.2, fun _ _ hq => by simp [Cx.el] at hq, fun _ _ hx => hx.elim⟩

theorem gr_ret_elb (br : Bool) : Gr ((xcx (stableOf (cx B w0.heap.size w h M)) w w2 hc Mc).elb br) ((cx B w0.heap.size w2 h M).elb br) := by
  cases br with
  | false => exact gr_ret_el H hb
  | true => exact ⟨fun b i x hx => to_caller H hb hx.1 hx.2, fun b i x hx => ⟨(to_caller H hb hx.1 hx.2).1, (to_caller H hb hx.1 hx.2).2.1⟩, fun _ _ hq => by simp [Cx.elb_true, Cx.ela] at hq, fun _ _ hx => hx.elim⟩

mutual
theorem VR.noEx : ∀ (v : AV) {rv : Value}, VR v (xcx (stableOf (cx B w0.heap.size w h M)) w w2 hc Mc) rv → VR (noEx v) (cx B w0.heap.size w2 h M) rv
  | .un, _, _ => by simp [Ev.noEx, VR]
  | .int .., _, hv => by simpa only [Ev.noEx, VR] using hv
  | .bool .., _, hv => by simpa only [Ev.noEx, VR] using hv
  | .str .., _, hv => by simpa only [Ev.noEx, VR] using hv
  | .nilf, _, hv => by simpa only [Ev.noEx, VR] using hv
  | .ud, _, hv => by simpa only [Ev.noEx, VR] using hv
  | .agg cs, _, hv => by
    simp only [Ev.noEx, VR] at hv ⊢
    obtain ⟨rc, h1, h2⟩ := hv
    exact ⟨rc, h1, VRl.noEx cs h2⟩
  | .tup cs, _, hv => by
    simp only [Ev.noEx, VR] at hv ⊢
    obtain ⟨rc, h1, h2⟩ := hv
    exact ⟨rc, h1, VRl.noEx cs h2⟩
  | .sl k o es, rv, hv => by
    have el := gr_ret_el (hc := hc) (Mc := Mc) H hb
    cases o with
    | ex T key =>
      simp only [VR, xcx, ExOk] at hv
      obtain ⟨rfl, h2, h3, h4, h5, _, rvs, rest, r1, r2, r3, r4⟩ := hv
      simp only [Ev.noEx, VR]
      refine ⟨_, _, rfl, h2, h3, by simp, fun hne => ⟨_, 0, rfl, ?_⟩, trivial⟩
      have e2 : Gr (cx (stableOf (cx B w0.heap.size w h M)) w.heap.size w2 hc Mc).el (cx B w0.heap.size w2 h M).el := gr_xcx_el.trans el
      refine VRm.mk (VRl.mono e2 _ r1) r2 fun j x hj => to_caller H hb ?_ (.inl h5)
      rw [cell_of_row _ _ _ _ _ _ r3, Nat.zero_add, List.getElem?_toArray, List.getElem?_append_left (List.getElem?_eq_some_iff.1 hj).1]
      exact hj
    | tok key g =>
      simp only [VR, xcx] at hv
      obtain ⟨a, cap, _, _, _, _, _, q, hq, _⟩ := hv
      cases hq
    | brw =>
      simp only [Ev.noEx, VR] at hv ⊢
      obtain ⟨a, cap, h1, h2, h3, h4, h5, h6⟩ := hv
      refine ⟨a, cap, h1, h2, h3, h4, fun hne => ?_, trivial⟩
      obtain ⟨b, ofs, e, hm⟩ := h5 hne
      exact ⟨b, ofs, e, VRm.mono el (fun b i x hx => ⟨(to_caller H hb hx.1 hx.2).1, (to_caller H hb hx.1 hx.2).2.1⟩) es hm⟩
    | no =>
      simp only [Ev.noEx, VR] at hv ⊢
      obtain ⟨a, cap, h1, h2, h3, h4, h5, h6⟩ := hv
      refine ⟨a, cap, h1, h2, h3, h4, fun hne => ?_, trivial⟩
      obtain ⟨b, ofs, e, hm⟩ := h5 hne
      exact ⟨b, ofs, e, VRm.mono el (fun b i x hx => to_caller H hb hx.1 hx.2) es hm⟩
    | lit =>
      simp only [Ev.noEx, VR] at hv ⊢
      obtain ⟨a, cap, h1, h2, h3, h4, h5, h6⟩ := hv
      refine ⟨a, cap, h1, h2, h3, h4, fun hne => ?_, h6⟩
      obtain ⟨b, ofs, e, hm⟩ := h5 hne
      exact ⟨b, ofs, e, VRm.mono el (fun b i x hx => to_caller H hb hx.1 hx.2) es hm⟩
  | .ms .., _, hv => by simp only [VR, xcx] at hv; obtain ⟨a, cap, _, q, hq, _⟩ := hv; cases hq
  | .vp .., _, hv => by simp only [VR, xcx] at hv; obtain ⟨a, _, q, hq, _⟩ := hv; cases hq
  | .rp .., _, hv => by simp only [VR, xcx] at hv; obtain ⟨a, _, q, hq, _⟩ := hv; cases hq
  | .xp .., _, _ => by simp [Ev.noEx, VR]
  | .cp br cs off, rv, hv => by
    have el := gr_ret_el (hc := hc) (Mc := Mc) H hb
    simp only [Ev.noEx, VR] at hv ⊢
    obtain ⟨b, o, rc, h1, h2, h3⟩ := hv
    refine ⟨b, o, rc, h1, VRl.mono (gr_ret_elb (hc := hc) (Mc := Mc) H hb br) _ h2, fun j x hj => ?_⟩
    have := h3 j x hj
    cases br with
    | true => simp only [if_true] at this ⊢; exact ⟨(to_caller H hb this.1 this.2).1, (to_caller H hb this.1 this.2).2.1⟩
    | false => simp only [Bool.false_eq_true, if_false] at this ⊢; exact to_caller H hb this.1 this.2
  | .fn f caps, _, hv => by
    simp only [Ev.noEx, VR] at hv ⊢
    obtain ⟨rc, h1, h2⟩ := hv
    exact ⟨rc, h1, VRl.noEx caps h2⟩
theorem VRl.noEx : ∀ (vs : List AV) {rs : List Value}, VRl vs (xcx (stableOf (cx B w0.heap.size w h M)) w w2 hc Mc) rs → VRl (noExs vs) (cx B w0.heap.size w2 h M) rs
  | [], _, hv => by simpa only [Ev.noExs, VRl] using hv
  | x :: xs, _, hv => by
    simp only [Ev.noExs, VRl] at hv ⊢
    obtain ⟨v, ws, h1, h2, h3⟩ := hv
    exact ⟨v, ws, h1, VR.noEx x h2, VRl.noEx xs h3⟩
end

theorem gr_adopt {key k2 : Nat} {blk : Blk} (hA : ∀ i, blk.mutAt i → Mut hc Mc (Mc key).1 i) :
    Gr (cx (stableOf (cx B w0.heap.size w h M)) w.heap.size w2 hc Mc).el (cx B w0.heap.size w2 (hset h k2 blk) (mset M k2 (Mc key))).el := by
  have hs : ∀ b i x, (cx (stableOf (cx B w0.heap.size w h M)) w.heap.size w2 hc Mc).s b i x → (cx B w0.heap.size w2 (hset h k2 blk) (mset M k2 (Mc key))).s b i x := by
    intro b i x hx
    have h1 := to_caller H hb hx.1 hx.2.2
    refine ⟨h1.1, ?_, h1.2.2⟩
    rintro ⟨k3, b3, q1, q2, q3⟩
    by_cases e : k3 = k2
    · subst e
      have : blk = b3 := by simpa [hset] using q1
      subst this
      simp only [mset, if_true] at q2
      exact hx.2.1 (q2 ▸ hA i q3)
    · exact h1.2.1 ⟨k3, b3, by simpa [hset, e] using q1, by simpa [mset, e] using q2, q3⟩
  exact ⟨hs, hs, fun _ _ hq => by simp [Cx.el] at hq, fun _ _ hx => hx.elim⟩

/-! all rows of a result become the caller's own -/
/-- a block that is taken over -/
def NewOk (w w2 : World) (h hc : Heap) (Mc : Mp) (p : Nat × Nat × Blk) : Prop :=
  p.2.2.g = nextG h p.1 ∧ w.heap.size ≤ (Mc p.2.1).1 ∧ (∃ blk, hc p.2.1 = some blk) ∧ ∀ c, BlkOk c w2 (Mc p.2.1) p.2.2

mutual
theorem matG_ok {base : Nat} : ∀ (r : AV) {n : Nat} {v : AV} {L : List (Nat × Nat × Blk)} {n' : Nat} {rv : Value}, matG base h r n = some (v, L, n') →
    VR r (xcx (stableOf (cx B w0.heap.size w h M)) w w2 hc Mc) rv →
    n ≤ n' ∧ (∀ p ∈ L, base + 1000 * n ≤ p.1 ∧ p.1 < base + 1000 * n' ∧ NewOk w w2 h hc Mc p) ∧ (L.map fun p => p.1).Nodup ∧
    ∀ h' M', (∀ p ∈ L, h' p.1 = some p.2.2 ∧ M' p.1 = Mc p.2.1) → VR v (cx B w0.heap.size w2 h' M') rv
  | .sl k o es, n, v, L, n', rv, hm, hv => by
    have hnil : es = [] → (o = .no ∨ o = .lit ∨ o = .brw) → v = .sl k .no [] → L = [] → n' = n + 1 → n ≤ n' ∧ (∀ p ∈ L, base + 1000 * n ≤ p.1 ∧ p.1 < base + 1000 * n' ∧ NewOk w w2 h hc Mc p) ∧ (L.map fun p => p.1).Nodup ∧
        ∀ h' M', (∀ p ∈ L, h' p.1 = some p.2.2 ∧ M' p.1 = Mc p.2.1) → VR v (cx B w0.heap.size w2 h' M') rv := by
      rintro rfl ho rfl rfl rfl
      refine ⟨by omega, by simp, by simp, fun h' M' _ => ?_⟩
      have : ∃ a cap, rv = .slice a 0 cap ∧ 0 ≤ cap ∧ cap ≤ maxLen ∧ (a = none → cap = 0) := by
        rcases ho with rfl | rfl | rfl <;> (simp only [VR] at hv; obtain ⟨a, cap, q1, q2, q3, q4, _⟩ := hv; exact ⟨a, cap, q1, q2, q3, q4⟩)
      obtain ⟨a, cap, q1, q2, q3, q4⟩ := this
      simp only [VR]
      exact ⟨a, cap, q1, q2, q3, q4, fun hne => (hne rfl).elim, trivial⟩
    cases o with
    | ex T key =>
      simp only [matG] at hm
      split at hm
      case isFalse => cases hm
      rename_i hfl
      obtain ⟨rfl, hm9⟩ := Prod.mk.inj (Option.some.inj hm)
      obtain ⟨rfl, rfl⟩ := Prod.mk.inj hm9
      simp only [VR, xcx, ExOk] at hv
      obtain ⟨rfl, h2, h3, h4, h5, ⟨blk, hbk, _⟩, rvs, rest, r1, r2, r3, r4⟩ := hv
      have hall : ∀ e ∈ es, e.cells.length = k ∧ e.cells.all AV.one = true := by
        intro e he
        have hf := List.all_eq_true.1 hfl e he
        obtain ⟨ix, hix⟩ := List.mem_iff_getElem?.1 he
        obtain ⟨re, hre, hve⟩ := r1.get ix e hix
        refine ⟨?_, flat_one hf⟩
        rw [← (VR.cells_one (fun _ _ hx => hx) hve (flat_one hf)).length, Array.length_toList]
        exact r2 re (List.mem_of_getElem? hre)
      refine ⟨by omega, fun p hp => ?_, by simp, fun h' M' hh => ?_⟩
      · obtain rfl := List.mem_singleton.1 hp
        refine ⟨Nat.le_refl _, by simp only; omega, rfl, h5, ⟨blk, hbk⟩, fun c => ⟨h4, hall, rvs, rest, ?_, r3, r4, h3⟩⟩
        refine VRl.mk r1.length fun i x r hx hr => ?_
        obtain ⟨r', hr', hv'⟩ := r1.get i x hx
        rw [hr] at hr'
        obtain rfl := Option.some.inj hr'
        exact vr_flat _ _ (List.all_eq_true.1 hfl x (List.mem_of_getElem? hx)) hv'
      · obtain ⟨e1, e2⟩ := hh _ (List.mem_singleton.2 rfl)
        simp only at e1 e2
        simp only [VR]
        exact ⟨_, _, rfl, ⟨false, nextG h (base + 1000 * n), 0, k, (Mc key).1, (Mc key).2⟩, by simp [cx, Lof, e1, e2, Blk.isTok, Blk.g, Blk.u, Blk.k], Nat.le_refl _, fun _ => ⟨rfl, fun _ => by simp, h2, h3, by simp⟩⟩
    | tok kk gg =>
      simp only [VR, xcx] at hv
      obtain ⟨a, cap, _, _, _, _, _, q, hq, _⟩ := hv
      cases hq
    | no =>
      simp only [matG] at hm
      split at hm
      case isFalse => cases hm
      rename_i he
      obtain ⟨e1, hm⟩ := Prod.mk.inj (Option.some.inj hm)
      obtain ⟨e2, e3⟩ := Prod.mk.inj hm
      exact hnil (by simpa using he) (.inl rfl) e1.symm e2.symm e3.symm
    | lit =>
      simp only [matG] at hm
      split at hm
      case isFalse => cases hm
      rename_i he
      obtain ⟨e1, hm⟩ := Prod.mk.inj (Option.some.inj hm)
      obtain ⟨e2, e3⟩ := Prod.mk.inj hm
      exact hnil (by simpa using he) (.inr (.inl rfl)) e1.symm e2.symm e3.symm
    | brw =>
      simp only [matG] at hm
      split at hm
      case isFalse => cases hm
      rename_i he
      obtain ⟨e1, hm⟩ := Prod.mk.inj (Option.some.inj hm)
      obtain ⟨e2, e3⟩ := Prod.mk.inj hm
      exact hnil (by simpa using he) (.inr (.inr rfl)) e1.symm e2.symm e3.symm
  | .agg cs, n, v, L, n', rv, hm, hv => by
    simp only [matG, Option.map_eq_some_iff] at hm
    obtain ⟨⟨p, p2⟩, hp, e⟩ := hm
    obtain ⟨rfl, rfl⟩ := Prod.mk.inj e
    simp only [VR] at hv
    obtain ⟨rc, rfl, hrc⟩ := hv
    obtain ⟨q1, q2, q3, q4⟩ := matGs_ok cs hp hrc
    exact ⟨q1, q2, q3, fun h' M' hh => by simp only [VR]; exact ⟨rc, rfl, q4 h' M' hh⟩⟩
  | .tup cs, n, v, L, n', rv, hm, hv => by
    simp only [matG, Option.map_eq_some_iff] at hm
    obtain ⟨⟨p, p2⟩, hp, e⟩ := hm
    obtain ⟨rfl, rfl⟩ := Prod.mk.inj e
    simp only [VR] at hv
    obtain ⟨rc, rfl, hrc⟩ := hv
    obtain ⟨q1, q2, q3, q4⟩ := matGs_ok cs hp hrc
    exact ⟨q1, q2, q3, fun h' M' hh => by simp only [VR]; exact ⟨rc, rfl, q4 h' M' hh⟩⟩
  | .int k x, n, v, L, n', rv, hm, hv => by
    simp only [matG, flat1, if_true] at hm
    obtain ⟨rfl, hm9⟩ := Prod.mk.inj (Option.some.inj hm)
    obtain ⟨rfl, rfl⟩ := Prod.mk.inj hm9
    exact ⟨Nat.le_refl _, by simp, by simp, fun _ _ _ => by simpa only [VR] using hv⟩
  | .bool x, n, v, L, n', rv, hm, hv => by
    simp only [matG, flat1, if_true] at hm
    obtain ⟨rfl, hm9⟩ := Prod.mk.inj (Option.some.inj hm)
    obtain ⟨rfl, rfl⟩ := Prod.mk.inj hm9
    exact ⟨Nat.le_refl _, by simp, by simp, fun _ _ _ => by simpa only [VR] using hv⟩
  | .str x, n, v, L, n', rv, hm, hv => by
    simp only [matG, flat1, if_true] at hm
    obtain ⟨rfl, hm9⟩ := Prod.mk.inj (Option.some.inj hm)
    obtain ⟨rfl, rfl⟩ := Prod.mk.inj hm9
    exact ⟨Nat.le_refl _, by simp, by simp, fun _ _ _ => by simpa only [VR] using hv⟩
  | .un, _, _, _, _, _, hm, _ => by simp [matG, flat1] at hm
  | .ud, _, _, _, _, _, hm, _ => by simp [matG, flat1] at hm
  | .nilf, _, _, _, _, _, hm, _ => by simp [matG, flat1] at hm
  | .ms .., _, _, _, _, _, hm, _ => by simp [matG, flat1] at hm
  | .vp .., _, _, _, _, _, hm, _ => by simp [matG, flat1] at hm
  | .rp .., _, _, _, _, _, hm, _ => by simp [matG, flat1] at hm
  | .cp .., _, _, _, _, _, hm, _ => by simp [matG, flat1] at hm
  | .xp .., _, _, _, _, _, hm, _ => by simp [matG, flat1] at hm
  | .fn .., _, _, _, _, _, hm, _ => by simp [matG, flat1] at hm
theorem matGs_ok {base : Nat} : ∀ (rs : List AV) {n : Nat} {vs : List AV} {L : List (Nat × Nat × Blk)} {n' : Nat} {rvs : List Value}, matGs base h rs n = some (vs, L, n') →
    VRl rs (xcx (stableOf (cx B w0.heap.size w h M)) w w2 hc Mc) rvs →
    n ≤ n' ∧ (∀ p ∈ L, base + 1000 * n ≤ p.1 ∧ p.1 < base + 1000 * n' ∧ NewOk w w2 h hc Mc p) ∧ (L.map fun p => p.1).Nodup ∧
    ∀ h' M', (∀ p ∈ L, h' p.1 = some p.2.2 ∧ M' p.1 = Mc p.2.1) → VRl vs (cx B w0.heap.size w2 h' M') rvs
  | [], n, vs, L, n', rvs, hm, hv => by
    simp only [matGs] at hm
    obtain ⟨rfl, hm9⟩ := Prod.mk.inj (Option.some.inj hm)
    obtain ⟨rfl, rfl⟩ := Prod.mk.inj hm9
    exact ⟨Nat.le_refl _, by simp, by simp, fun _ _ _ => by simpa only [VRl] using hv⟩
  | x :: xs, n, vs, L, n', rvs, hm, hv => by
    simp only [matGs, Option.bind_eq_some_iff, Option.map_eq_some_iff] at hm
    obtain ⟨⟨v1, L1, n1⟩, hp, ⟨vs2, L2, n2⟩, hq, e⟩ := hm
    obtain ⟨rfl, e9⟩ := Prod.mk.inj e
    obtain ⟨rfl, rfl⟩ := Prod.mk.inj e9
    simp only [VRl] at hv
    obtain ⟨u, us, rfl, hu, hus⟩ := hv
    obtain ⟨a1, a2, a3, a4⟩ := matG_ok x hp hu
    obtain ⟨b1, b2, b3, b4⟩ := matGs_ok xs hq hus
    dsimp only at hq b1 b2 ⊢
    refine ⟨by omega, fun p hp => ?_, ?_, fun h' M' hh => ?_⟩
    · rcases List.mem_append.1 hp with hp | hp
      · have := a2 p hp; exact ⟨this.1, by have := this.2.1; omega, this.2.2⟩
      · have := b2 p hp; exact ⟨by have := this.1; omega, this.2.1, this.2.2⟩
    · rw [List.map_append, List.nodup_append]
      refine ⟨a3, b3, fun y hy z hz => ?_⟩
      obtain ⟨p, hp, rfl⟩ := List.mem_map.1 hy
      obtain ⟨q, hq, rfl⟩ := List.mem_map.1 hz
      have h1 := (a2 p hp).2.1
      have h2 := (b2 q hq).1
      omega
    · simp only [VRl]
      exact ⟨u, us, rfl, a4 h' M' fun p hp => hh p (List.mem_append_left _ hp), b4 h' M' fun p hp => hh p (List.mem_append_right _ hp)⟩
end

def msets (M Mc : Mp) : List (Nat × Nat × Blk) → Mp
  | [] => M
  | p :: L => mset (msets M Mc L) p.1 (Mc p.2.1)
omit H hb in
theorem hsets_in : ∀ {L : List (Nat × Nat × Blk)}, (L.map fun p => p.1).Nodup → ∀ p ∈ L, hsets h L p.1 = some p.2.2 ∧ msets M Mc L p.1 = Mc p.2.1
  | [], _, p, hp => by cases hp
  | q :: L, hn, p, hp => by
    simp only [List.map_cons, List.nodup_cons] at hn
    rcases List.mem_cons.1 hp with rfl | hp
    · exact ⟨by simp [hsets, hset], by simp [msets, mset]⟩
    · have hne : p.1 ≠ q.1 := fun e => hn.1 (List.mem_map.2 ⟨p, hp, e⟩)
      obtain ⟨h1, h2⟩ := hsets_in hn.2 p hp
      exact ⟨by simpa [hsets, hset, hne] using h1, by simpa [msets, mset, hne] using h2⟩
omit H hb in
theorem hsets_out : ∀ {L : List (Nat × Nat × Blk)} {x : Nat}, (∀ p ∈ L, p.1 ≠ x) → hsets h L x = h x ∧ msets M Mc L x = M x
  | [], _, _ => ⟨rfl, rfl⟩
  | q :: L, x, hx => by
    have hne : x ≠ q.1 := fun e => hx q (List.mem_cons_self ..) e.symm
    obtain ⟨h1, h2⟩ := hsets_out (L := L) (x := x) fun p hp => hx p (List.mem_cons_of_mem _ hp)
    exact ⟨by simpa [hsets, hset, hne] using h1, by simpa [msets, mset, hne] using h2⟩

omit H hb in
theorem nodup_key : ∀ {L : List (Nat × Nat × Blk)}, (L.map fun p => p.2.1).Nodup → ∀ p ∈ L, ∀ q ∈ L, p.2.1 = q.2.1 → p = q
  | [], _, p, hp, _, _, _ => by cases hp
  | a :: L, hk, p, hp, q, hq, e => by
    simp only [List.map_cons, List.nodup_cons] at hk
    rcases List.mem_cons.1 hp with e1 | hp2 <;> rcases List.mem_cons.1 hq with e2 | hq2
    · rw [e1, e2]
    · exact (hk.1 (List.mem_map.2 ⟨q, hq2, by rw [← e, e1]⟩)).elim
    · exact (hk.1 (List.mem_map.2 ⟨p, hp2, by rw [e, e2]⟩)).elim
    · exact nodup_key hk.2 p hp2 q hq2 e
theorem news_ok {L : List (Nat × Nat × Blk)} (Hc : HR (stableOf (cx B w0.heap.size w h M)) w w2 hc Mc) (hn : (L.map fun p => p.1).Nodup) (hk : (L.map fun p => p.2.1).Nodup) (hL : ∀ p ∈ L, NewOk w w2 h hc Mc p) :
    HR B w0 w2 (hsets h L) (msets M Mc L) ∧ Gr (cx B w0.heap.size w h M) (cx B w0.heap.size w2 (hsets h L) (msets M Mc L)) := by
  have hsz := H.below.size
  have hcase : ∀ x blk, hsets h L x = some blk → (h x = some blk ∧ msets M Mc L x = M x) ∨ ∃ p ∈ L, p.1 = x ∧ p.2.2 = blk ∧ msets M Mc L x = Mc p.2.1 := by
    intro x blk hx
    by_cases e : ∃ p ∈ L, p.1 = x
    · obtain ⟨p, hp, rfl⟩ := e
      obtain ⟨h1, h2⟩ := hsets_in (h := h) (M := M) (Mc := Mc) hn p hp
      rw [h1] at hx
      exact .inr ⟨p, hp, rfl, Option.some.inj hx, h2⟩
    · obtain ⟨h1, h2⟩ := hsets_out (h := h) (M := M) (Mc := Mc) (L := L) (x := x) fun p hp e2 => e ⟨p, hp, e2⟩
      exact .inl ⟨h1 ▸ hx, h2⟩
  have hgr : Gr (cx B w0.heap.size w h M) (cx B w0.heap.size w2 (hsets h L) (msets M Mc L)) := by
    refine gr_of (fun b i x hx hm => ?_) fun k2 b2 hk2 => ?_
    · have hlt : b < w.heap.size := World.block_lt_of_cell? w ⟨b, i, none⟩ hx
      refine ⟨(hb.cell (p := ⟨b, i, none⟩) hlt).trans hx, ?_⟩
      rintro ⟨k3, b3, h3, h4, h5⟩
      rcases hcase _ _ h3 with ⟨e1, e2⟩ | ⟨p, hp, _, _, e2⟩
      · exact hm ⟨k3, b3, e1, e2 ▸ h4, h5⟩
      · have := (hL p hp).2.1
        rw [e2] at h4; omega
    · by_cases e : ∃ p ∈ L, p.1 = k2
      · obtain ⟨p, hp, rfl⟩ := e
        obtain ⟨h1, h2⟩ := hsets_in (h := h) (M := M) (Mc := Mc) hn p hp
        have h3 := nextG_lt hk2
        have h4 := (hL p hp).1
        exact ⟨p.2.2, h1, by omega, fun e => by omega⟩
      · obtain ⟨h1, h2⟩ := hsets_out (h := h) (M := M) (Mc := Mc) (L := L) (x := k2) fun p hp e2 => e ⟨p, hp, e2⟩
        exact ⟨b2, h1.trans hk2, Nat.le_refl _, fun _ => ⟨rfl, rfl, Nat.le_refl _, fun _ => h2.symm, fun _ => rfl⟩⟩
  refine ⟨⟨H.below.trans (hb.mono hsz), fun k2 b2 hk2 => ?_, fun k1 k2 b1 b2 h1 h2 he => ?_, fun k2 b2 hk2 => ?_⟩, hgr⟩
  · rcases hcase _ _ hk2 with ⟨e1, e2⟩ | ⟨p, hp, _, _, e2⟩
    · rw [e2]; exact H.old _ _ e1
    · rw [e2]; have := (hL p hp).2.1; omega
  · rcases hcase _ _ h1 with ⟨e1, e2⟩ | ⟨p, hp, e3, _, e2⟩ <;> rcases hcase _ _ h2 with ⟨f1, f2⟩ | ⟨q, hq, f3, _, f2⟩
    · rw [e2, f2] at he; exact H.inj _ _ _ _ e1 f1 he
    · rw [e2, f2] at he; have := H.lt e1; have := (hL q hq).2.1; omega
    · rw [e2, f2] at he; have := H.lt f1; have := (hL p hp).2.1; omega
    · rw [e2, f2] at he
      obtain ⟨x, hx⟩ := (hL p hp).2.2.1
      obtain ⟨y, hy⟩ := (hL q hq).2.2.1
      have hkk := Hc.inj _ _ _ _ hx hy he
      have : p = q := nodup_key hk p hp q hq hkk
      rw [← e3, ← f3, this]
  · rcases hcase _ _ hk2 with ⟨e1, e2⟩ | ⟨p, hp, _, rfl, e2⟩
    · rw [e2]; exact (H.ok _ _ e1).mono hgr (hb.block _ (H.lt e1))
    · rw [e2]; exact (hL p hp).2.2.2 _

theorem mat3_ok {base : Nat} {r v : AV} {h' : Heap} {rv : Value} (hm : mat3 base h r = some (v, h'))
    (Hc : HR (stableOf (cx B w0.heap.size w h M)) w w2 hc Mc) (hv : VR r (xcx (stableOf (cx B w0.heap.size w h M)) w w2 hc Mc) rv) :
    ∃ M', HR B w0 w2 h' M' ∧ Gr (cx B w0.heap.size w h M) (cx B w0.heap.size w2 h' M') ∧ VR v (cx B w0.heap.size w2 h' M') rv := by
  unfold mat3 at hm
  split at hm
  case h_2 => cases hm
  rename_i v1 L n1 hg
  split at hm
  case isFalse => cases hm
  rename_i hk
  obtain ⟨rfl, rfl⟩ := Prod.mk.inj (Option.some.inj hm)
  obtain ⟨_, q2, q3, q4⟩ := matG_ok H hb r hg hv
  obtain ⟨n1, n2⟩ := news_ok H hb Hc q3 hk fun p hp => (q2 p hp).2.2
  exact ⟨_, n1, n2, q4 _ _ fun p hp => hsets_in q3 p hp⟩

def mat2 (key : Nat) (h : Heap) (r : AV) : Option (AV × Heap) := match r with
  | .sl k (.ex T _) es => some (.sl k (.tok key (nextG h key)) es, hset h key (.tok (nextG h key) T k es.length))
  | .sl k .lit [] => some (.sl k .lit [], h)
  | _ => none
theorem mat_ok {E : Env} {fid : Nat} {st : St} {dst : Option Nat} {r v : AV} {h' : Heap} {rv : Value} (hst : st.h = h) (hm : mat E fid st dst r = some (v, h'))
    (Hc : HR (stableOf (cx B w0.heap.size w h M)) w w2 hc Mc) (hv : VR r (xcx (stableOf (cx B w0.heap.size w h M)) w w2 hc Mc) rv) :
    ∃ M', HR B w0 w2 h' M' ∧ Gr (cx B w0.heap.size w h M) (cx B w0.heap.size w2 h' M') ∧ VR v (cx B w0.heap.size w2 h' M') rv := by
  subst hst
  have hsz0 := H.below.size
  have el := gr_ret_el (hc := hc) (Mc := Mc) H hb
  have e2 : Gr (cx (stableOf (cx B w0.heap.size w st.h M)) w.heap.size w2 hc Mc).el (cx B w0.heap.size w2 st.h M).el := gr_xcx_el.trans el
  have plain : v = noEx r → h' = st.h → ∃ M', HR B w0 w2 h' M' ∧ Gr (cx B w0.heap.size w st.h M) (cx B w0.heap.size w2 h' M') ∧ VR v (cx B w0.heap.size w2 h' M') rv := by
    rintro rfl rfl
    exact ⟨M, H.world hb, gr_world hb, VR.noEx H hb _ hv⟩
  unfold mat at hm
  cases dst with
  | none =>
    obtain ⟨e1, e3⟩ := Prod.mk.inj (Option.some.inj hm)
    exact plain e1.symm e3.symm
  | some d =>
    simp only at hm
    cases hmode : E.mat fid d with
    | zero =>
      rw [hmode] at hm
      obtain ⟨e1, e3⟩ := Prod.mk.inj (Option.some.inj hm)
      exact plain e1.symm e3.symm
    | succ n =>
      rw [hmode] at hm
      have hlit : ∀ k, r = .sl k .lit [] → v = .sl k .lit [] → h' = st.h → ∃ M', HR B w0 w2 h' M' ∧ Gr (cx B w0.heap.size w st.h M) (cx B w0.heap.size w2 h' M') ∧ VR v (cx B w0.heap.size w2 h' M') rv := by
        rintro k rfl rfl rfl
        refine ⟨M, H.world hb, gr_world hb, ?_⟩
        have := VR.noEx (hc := hc) (Mc := Mc) H hb _ hv
        simpa only [noEx] using this
      cases n with
      | zero =>
        cases r <;> simp only at hm <;> try (cases hm; done)
        · rename_i k o es
          cases o with
          | ex T key =>
            cases es with
            | nil => simp at hm
            | cons e0 es0 =>
              simp only at hm
              split at hm
              case isFalse => cases hm
              rename_i hfl
              obtain ⟨rfl, rfl⟩ := Prod.mk.inj (Option.some.inj hm)
              simp only [VR, xcx, ExOk] at hv
              obtain ⟨rfl, h2, h3, h4, h5, _, rvs, rest, r1, r2, r3, r4⟩ := hv
              have hall : ∀ e ∈ (e0 :: es0), e.cells.length = k ∧ e.cells.all AV.one = true := by
                intro e he
                have hf := List.all_eq_true.1 hfl.1 e he
                obtain ⟨ix, hix⟩ := List.mem_iff_getElem?.1 he
                obtain ⟨re, hre, hve⟩ := r1.get ix e hix
                have hone : e.cells.all AV.one = true := by
                  cases e <;> simp only [flat, flat1] at hf <;> first | (cases hf; done) | rfl | skip
                  rename_i cs
                  rw [List.all_eq_true] at hf ⊢
                  intro y hy
                  have := hf y hy
                  cases y <;> simp only [flat1] at this <;> first | (cases this; done) | rfl
                refine ⟨?_, hone⟩
                rw [← (VR.cells_one (fun _ _ hx => hx) hve hone).length, Array.length_toList]
                exact r2 re (List.mem_of_getElem? hre)
              have hgr := gr_newkey (B := B) (blk := .row (nextG st.h (st.off + d)) T k (e0 :: es0)) (p := Mc key) (key := st.off + d) H hb h5 rfl
              refine ⟨mset M (st.off + d) (Mc key), H.newkey hb h5 rfl ⟨h4, hall, rvs, rest, ?_, r3, r4, h3⟩, hgr, ?_⟩
              · -- the elements are flat
                refine VRl.mk r1.length fun i x r hx hr => ?_
                obtain ⟨r', hr', hv'⟩ := r1.get i x hx
                rw [hr] at hr'
                obtain rfl := Option.some.inj hr'
                have hf := List.all_eq_true.1 hfl.1 x (List.mem_of_getElem? hx)
                have one : ∀ (y : AV) (r : Value) (c c' : Cx), flat1 y = true → VR y c r → VR y c' r := by
                  intro y r c c' hy hv
                  cases y <;> simp only [flat1] at hy <;> first | (cases hy; done) | simpa only [VR] using hv
                cases x <;> simp only [flat] at hf <;> first
                  | exact one _ _ _ _ hf hv'
                  | (simp only [VR] at hv' ⊢
                     obtain ⟨rc, h8, h9⟩ := hv'
                     refine ⟨rc, h8, VRl.mk h9.length fun i x r hx hr => ?_⟩
                     obtain ⟨r', hr', hv'⟩ := h9.get i x hx
                     rw [hr] at hr'
                     obtain rfl := Option.some.inj hr'
                     exact one _ _ _ _ (List.all_eq_true.1 hf x (List.mem_of_getElem? hx)) hv')
              · simp only [VR]
                exact ⟨_, _, rfl, ⟨false, nextG st.h (st.off + d), 0, k, (Mc key).1, (Mc key).2⟩, by simp [cx, Lof, hset, mset, Blk.isTok, Blk.g, Blk.u, Blk.k], Nat.le_refl _, fun _ => ⟨rfl, fun _ => by simp, h2, h3, by simp⟩⟩
          | lit =>
            cases es with
            | nil =>
              obtain ⟨rfl, rfl⟩ := Prod.mk.inj (Option.some.inj hm)
              have := VR.noEx (hc := hc) (Mc := Mc) H hb _ hv
              simp only [noEx, VR] at this
              obtain ⟨a, cap, q1, q2, q3, q4, _, _⟩ := this
              exact ⟨M, H.world hb, gr_world hb, by simp only [VR]; exact ⟨a, cap, q1, q2, q3, q4, fun hne => (hne rfl).elim, trivial⟩⟩
            | cons => simp at hm
          | no =>
            cases es with
            | nil =>
              obtain ⟨rfl, rfl⟩ := Prod.mk.inj (Option.some.inj hm)
              have := VR.noEx (hc := hc) (Mc := Mc) H hb _ hv
              simp only [noEx] at this
              exact ⟨M, H.world hb, gr_world hb, this⟩
            | cons => simp at hm
          | brw =>
            cases es with
            | nil =>
              obtain ⟨rfl, rfl⟩ := Prod.mk.inj (Option.some.inj hm)
              have := VR.noEx (hc := hc) (Mc := Mc) H hb _ hv
              simp only [noEx, VR] at this
              obtain ⟨a, cap, q1, q2, q3, q4, _, _⟩ := this
              exact ⟨M, H.world hb, gr_world hb, by simp only [VR]; exact ⟨a, cap, q1, q2, q3, q4, fun hne => (hne rfl).elim, trivial⟩⟩
            | cons => simp at hm
          | tok kk gg =>
            simp only [VR, xcx] at hv
            obtain ⟨a, cap, _, _, _, _, _, q, hq, _⟩ := hv
            cases hq
        · rename_i T key y
          obtain ⟨rfl, rfl⟩ := Prod.mk.inj (Option.some.inj hm)
          simp only [VR, xcx, ExOk] at hv
          obtain ⟨rfl, h2, ⟨blk, hbk, hbm⟩, h3, ry, r1, r2⟩ := hv
          have hgr := gr_newkey (B := B) (blk := .var (nextG st.h (st.off + d)) T y) (p := Mc key) (key := st.off + d) H hb h2 rfl
          have e3 := gr_adopt (hc := hc) (Mc := Mc) H hb (key := key) (k2 := st.off + d) (blk := .var (nextG st.h (st.off + d)) T y) fun i _ => ⟨key, blk, hbk, rfl, hbm i⟩
          refine ⟨mset M (st.off + d) (Mc key), H.newkey' hb h2 rfl ⟨h3, ry, VR.mono (gr_el ..) _ (VR.mono e3 _ r1), r2⟩, hgr, ?_⟩
          simp only [VR]
          exact ⟨_, rfl, ⟨false, nextG st.h (st.off + d), 0, 0, (Mc key).1, (Mc key).2⟩, by simp [cx, Lof, hset, mset, Blk.isTok, Blk.g, Blk.u, Blk.k], Nat.le_refl _, fun _ => ⟨rfl, rfl⟩⟩
      | succ n =>
        by_cases h3 : n = 1
        · subst h3
          exact mat3_ok H hb hm Hc hv
        replace hm : mat2 (st.off + d) st.h r = some (v, h') := by
          match n, h3, hm with
          | 0, _, hm => exact hm
          | n + 2, _, hm => exact hm
        cases r <;> simp only [mat2] at hm <;> try (cases hm; done)
        rename_i k o es
        cases o with
        | ex T key =>
          have hm : some (AV.sl k (.tok (st.off + d) (nextG st.h (st.off + d))) es, hset st.h (st.off + d) (.tok (nextG st.h (st.off + d)) T k es.length)) = some (v, h') := by cases es <;> exact hm
          obtain ⟨rfl, rfl⟩ := Prod.mk.inj (Option.some.inj hm)
          simp only [VR, xcx, ExOk] at hv
          obtain ⟨rfl, h2, h3, h4, h5, ⟨blk, hbk, hbm⟩, rvs, rest, r1, r2, r3, r4⟩ := hv
          have hgr := gr_newkey (B := B) (blk := .tok (nextG st.h (st.off + d)) T k es.length) (p := Mc key) (key := st.off + d) H hb h5 rfl
          have e3 := gr_adopt (hc := hc) (Mc := Mc) H hb (key := key) (k2 := st.off + d) (blk := .tok (nextG st.h (st.off + d)) T k es.length) fun i hi => ⟨key, blk, hbk, rfl, hbm i hi⟩
          refine ⟨mset M (st.off + d) (Mc key), H.newkey' hb h5 rfl ⟨h4, h2, h3, _, r3, by simpa using r4⟩, hgr, ?_⟩
          simp only [VR]
          refine ⟨_, _, rfl, h2, h3, by simp, fun hne => ⟨_, 0, rfl, VRm.mk (VRl.mono e3 _ r1) r2 fun j x hj => ⟨?_, ?_, .inl (by omega)⟩⟩, ?_⟩
          · rw [cell_of_row _ _ _ _ _ _ r3, Nat.zero_add, List.getElem?_toArray, List.getElem?_append_left (List.getElem?_eq_some_iff.1 hj).1]
            exact hj
          · rintro ⟨k3, b3, q1, q2, q3⟩
            by_cases e : k3 = st.off + d
            · subst e
              have : Blk.tok (nextG st.h (st.off + d)) T k es.length = b3 := by simpa [hset] using q1
              subst this
              simp only [Blk.mutAt] at q3
              have := (List.getElem?_eq_some_iff.1 hj).1
              rw [flatC_length r2, r1.length] at this
              omega
            · have := H.lt (key := k3) (blk := b3) (by simpa [hset, e] using q1)
              simp only [mset, if_neg e] at q2
              omega
          · exact ⟨⟨true, nextG st.h (st.off + d), es.length, k, (Mc key).1, (Mc key).2⟩, by simp [cx, Lof, hset, mset, Blk.isTok, Blk.g, Blk.u, Blk.k], Nat.le_refl _, fun _ => ⟨rfl, Nat.le_refl _, fun _ => ⟨rfl, rfl⟩⟩⟩
        | lit =>
          cases es with
          | nil =>
            obtain ⟨e1, e3⟩ := Prod.mk.inj (Option.some.inj hm)
            exact hlit k rfl e1.symm e3.symm
          | cons => simp at hm
        | _ => cases es <;> simp at hm
end

end Go.Proofs.YthdeaenleimbeaaDoor.Ev
