/- XEvSound XEvSound2, joined. Conditions: none. -/
import Derived.Test.YtlglhokpaplifaaGreatDoorEvCall2
import Derived.Test.YtlglhokpaplifaaGreatDoorEvSched
/- The evaluator is sound: what it says of a call, the machine does. Conditions: none. -/
namespace Go.Proofs.YtlglhokpaplifaaGreatDoor.Ev
open Go.RowKit
set_option linter.unusedVariables false
set_option linter.unusedSimpArgs false
set_option linter.unusedSectionVars false

/-- behind a call: what lay in the world w as B tells, and all that is new -/
def extCx (B : Nat → Nat → Prop) (w w' : World) : Cx where
  s b i x := w'.cell? ⟨b, i, none⟩ = some x ∧ (w.heap.size ≤ b ∨ B b i)
  a b i x := w'.cell? ⟨b, i, none⟩ = some x ∧ (w.heap.size ≤ b ∨ B b i)
  l := fun _ => none
  x := fun _ _ => False

/-- What is known of the program and its world, for all calls. -/
structure ProgOk (E : Env) (P : Program) (inv : World → Prop) : Prop where
  env : EnvOk E P
  fn : ∀ f F, E.fn f = some F → P.funcs[f]? = some F ∧ F.name ≠ "runtime.NumGoroutine"
  keep : ∀ w w', inv w → Below w.heap.size w w' → inv w'
  ext : ∀ f F, E.ext f = some F → (∃ fn, P.funcs[f]? = some fn ∧ fn.name ≠ "runtime.NumGoroutine" ∧ fn.body.isSome = true) ∧ ∀ args res, F args = some res → ∀ (w : World) (B : Nat → Nat → Prop) (M : Mp) (rargs : List Value),
    inv w → VRl args (cx B w.heap.size w hnil M) rargs → Calls P f rargs.toArray w fun e w' => ∃ rv, e = .returned rv ∧ Below w.heap.size w w' ∧ (E.own f = false → VR res (extCx B w w') rv) ∧ (E.own f = true → ∃ hc Mc, HR B w w' hc Mc ∧ VR res (xcx B w w' hc Mc) rv)
/-- a result held by value -/
theorem ext_val {E : Env} {P : Program} {f : Nat} {F : List AV → Option AV} {inv : World → Prop} (ho : E.own f = false) (h : (∃ fn, P.funcs[f]? = some fn ∧ fn.name ≠ "runtime.NumGoroutine" ∧ fn.body.isSome = true) ∧ ∀ args res, F args = some res → ∀ (w : World) (B : Nat → Nat → Prop) (M : Mp) (rargs : List Value),
    inv w → VRl args (cx B w.heap.size w hnil M) rargs → Calls P f rargs.toArray w fun e w' => ∃ rv, e = .returned rv ∧ Below w.heap.size w w' ∧ VR res (extCx B w w') rv) :
    (∃ fn, P.funcs[f]? = some fn ∧ fn.name ≠ "runtime.NumGoroutine" ∧ fn.body.isSome = true) ∧ ∀ args res, F args = some res → ∀ (w : World) (B : Nat → Nat → Prop) (M : Mp) (rargs : List Value),
    inv w → VRl args (cx B w.heap.size w hnil M) rargs → Calls P f rargs.toArray w fun e w' => ∃ rv, e = .returned rv ∧ Below w.heap.size w w' ∧ (E.own f = false → VR res (extCx B w w') rv) ∧ (E.own f = true → ∃ hc Mc, HR B w w' hc Mc ∧ VR res (xcx B w w' hc Mc) rv) :=
  ⟨h.1, fun args res hr w B M rargs hi hv => (h.2 args res hr w B M rargs hi hv).mono fun e w' ⟨rv, h1, h2, h3⟩ => ⟨rv, h1, h2, fun _ => h3, fun h9 => by rw [ho] at h9; cases h9⟩⟩

theorem flat_one {e : AV} (hf : flat e = true) : e.cells.all AV.one = true := by
  cases e <;> simp only [flat, flat1] at hf <;> first | (cases hf; done) | rfl | skip
  rename_i cs
  rw [List.all_eq_true] at hf ⊢
  intro y hy
  have := hf y hy
  cases y <;> simp only [flat1] at this <;> first | (cases this; done) | rfl

/- taking a result by value -/
section
variable {B B' : Nat → Nat → Prop} {w0 w w2 : World} {h : Heap} {M : Mp} (H : HR B w0 w h M) (hb : Below w.heap.size w w2)
include H hb

theorem to_caller {b i : Nat} {x : Value} (hx : w2.cell? ⟨b, i, none⟩ = some x) (hs : w.heap.size ≤ b ∨ stableOf (cx B w0.heap.size w h M) b i) : (cx B w0.heap.size w2 h M).s b i x := by
  have h0 := H.below.size
  refine ⟨hx, ?_, ?_⟩
  · rintro ⟨k3, b3, q1, q2, q3⟩
    rcases hs with hs | ⟨y, hy⟩
    · have := H.lt q1; omega
    · exact hy.2.1 ⟨k3, b3, q1, q2, q3⟩
  · rcases hs with hs | ⟨y, hy⟩
    · exact .inl (by omega)
    · exact hy.2.2

variable {hc : Heap} {Mc : Mp}
theorem gr_ret_el : Gr (xcx (stableOf (cx B w0.heap.size w h M)) w w2 hc Mc).el (cx B w0.heap.size w2 h M).el :=
  ⟨fun b i x hx => to_caller H hb hx.1 hx.2, fun b i x hx => to_caller H hb hx.1 hx.2, fun _ _ hq => by simp [Cx.el] at hq, fun _ _ hx => hx.elim⟩

theorem gr_ret_elb (br : Bool) : Gr ((xcx (stableOf (cx B w0.heap.size w h M)) w w2 hc Mc).elb br) ((cx B w0.heap.size w2 h M).elb br) := by
  cases br with
  | false => exact gr_ret_el H hb
  | true => exact ⟨fun b i x hx => to_caller H hb hx.1 hx.2, fun b i x hx => ⟨(to_caller H hb hx.1 hx.2).1, (to_caller H hb hx.1 hx.2).2.1⟩, fun _ _ hq => by simp [Cx.elb_true, Cx.ela] at hq, fun _ _ hx => hx.elim⟩

mutual
theorem VR.noEx : ∀ (v : AV) {rv : Value}, VR v (xcx (stableOf (cx B w0.heap.size w h M)) w w2 hc Mc) rv → VR (noEx v) (cx B w0.heap.size w2 h M) rv
  | .un, _, _ => by simp [Ev.noEx, VR]
  | .int .., _, hv => by simpa only [Ev.noEx, VR] using hv
  | .bool .., _, hv => by simpa only [Ev.noEx, VR] using hv
  | .str .., _, hv => by simpa only [Ev.noEx, VR] using hv
  | .nilf, _, hv => by simpa only [Ev.noEx, VR] using hv
  | .ud, _, hv => by simpa only [Ev.noEx, VR] using hv
  | .agg cs, _, hv => by
    simp only [Ev.noEx, VR] at hv ⊢
    obtain ⟨rc, h1, h2⟩ := hv
    exact ⟨rc, h1, VRl.noEx cs h2⟩
  | .tup cs, _, hv => by
    simp only [Ev.noEx, VR] at hv ⊢
    obtain ⟨rc, h1, h2⟩ := hv
    exact ⟨rc, h1, VRl.noEx cs h2⟩
  | .sl k o es, rv, hv => by
    have el := gr_ret_el (hc := hc) (Mc := Mc) H hb
    cases o with
    | ex T key =>
      simp only [VR, xcx, ExOk] at hv
      obtain ⟨rfl, h2, h3, h4, h5, _, rvs, rest, r1, r2, r3, r4⟩ := hv
      simp only [Ev.noEx, VR]
      refine ⟨_, _, rfl, h2, h3, by simp, fun hne => ⟨_, 0, rfl, ?_⟩, trivial⟩
      have e2 : Gr (cx (stableOf (cx B w0.heap.size w h M)) w.heap.size w2 hc Mc).el (cx B w0.heap.size w2 h M).el := gr_xcx_el.trans el
      refine VRm.mk (VRl.mono e2 _ r1) r2 fun j x hj => to_caller H hb ?_ (.inl h5)
      rw [cell_of_row _ _ _ _ _ _ r3, Nat.zero_add, List.getElem?_toArray, List.getElem?_append_left (List.getElem?_eq_some_iff.1 hj).1]
      exact hj
    | tok key g =>
      simp only [VR, xcx] at hv
      obtain ⟨a, cap, _, _, _, _, _, q, hq, _⟩ := hv
      cases hq
    | brw =>
      simp only [Ev.noEx, VR] at hv ⊢
      obtain ⟨a, cap, h1, h2, h3, h4, h5, h6⟩ := hv
      refine ⟨a, cap, h1, h2, h3, h4, fun hne => ?_, trivial⟩
      obtain ⟨b, ofs, e, hm⟩ := h5 hne
      exact ⟨b, ofs, e, VRm.mono (gr_ret_elb H hb true) (fun b i x hx => ⟨(to_caller H hb hx.1 hx.2).1, (to_caller H hb hx.1 hx.2).2.1⟩) es hm⟩
    | no =>
      simp only [Ev.noEx, VR] at hv ⊢
      obtain ⟨a, cap, h1, h2, h3, h4, h5, h6⟩ := hv
      refine ⟨a, cap, h1, h2, h3, h4, fun hne => ?_, trivial⟩
      obtain ⟨b, ofs, e, hm⟩ := h5 hne
      exact ⟨b, ofs, e, VRm.mono el (fun b i x hx => to_caller H hb hx.1 hx.2) es hm⟩
    | lit =>
      simp only [Ev.noEx, VR] at hv ⊢
      obtain ⟨a, cap, h1, h2, h3, h4, h5, h6⟩ := hv
      refine ⟨a, cap, h1, h2, h3, h4, fun hne => ?_, h6⟩
      obtain ⟨b, ofs, e, hm⟩ := h5 hne
      exact ⟨b, ofs, e, VRm.mono el (fun b i x hx => to_caller H hb hx.1 hx.2) es hm⟩
  | .ms .., _, hv => by simp only [VR, xcx] at hv; obtain ⟨a, cap, _, q, hq, _⟩ := hv; cases hq
  | .vp .., _, hv => by simp only [VR, xcx] at hv; obtain ⟨a, _, q, hq, _⟩ := hv; cases hq
  | .rp .., _, hv => by simp only [VR, xcx] at hv; obtain ⟨a, _, q, hq, _⟩ := hv; cases hq
  | .xp .., _, _ => by simp [Ev.noEx, VR]
  | .cp br cs off, rv, hv => by
    have el := gr_ret_el (hc := hc) (Mc := Mc) H hb
    simp only [Ev.noEx, VR] at hv ⊢
    obtain ⟨b, o, rc, h1, h2, h3⟩ := hv
    refine ⟨b, o, rc, h1, VRl.mono (gr_ret_elb (hc := hc) (Mc := Mc) H hb br) _ h2, fun j x hj => ?_⟩
    have := h3 j x hj
    cases br with
    | true => simp only [if_true] at this ⊢; exact ⟨(to_caller H hb this.1 this.2).1, (to_caller H hb this.1 this.2).2.1⟩
    | false => simp only [Bool.false_eq_true, if_false] at this ⊢; exact to_caller H hb this.1 this.2
  | .fn f caps, _, hv => by
    simp only [Ev.noEx, VR] at hv ⊢
    obtain ⟨rc, h1, h2⟩ := hv
    exact ⟨rc, h1, VRl.noEx caps h2⟩
theorem VRl.noEx : ∀ (vs : List AV) {rs : List Value}, VRl vs (xcx (stableOf (cx B w0.heap.size w h M)) w w2 hc Mc) rs → VRl (noExs vs) (cx B w0.heap.size w2 h M) rs
  | [], _, hv => by simpa only [Ev.noExs, VRl] using hv
  | x :: xs, _, hv => by
    simp only [Ev.noExs, VRl] at hv ⊢
    obtain ⟨v, ws, h1, h2, h3⟩ := hv
    exact ⟨v, ws, h1, VR.noEx x h2, VRl.noEx xs h3⟩
end

theorem gr_adopt {key k2 : Nat} {blk : Blk} (hA : ∀ i, blk.mutAt i → Mut hc Mc (Mc key).1 i) :
    Gr (cx (stableOf (cx B w0.heap.size w h M)) w.heap.size w2 hc Mc).el (cx B w0.heap.size w2 (hset h k2 blk) (mset M k2 (Mc key))).el := by
  have hs : ∀ b i x, (cx (stableOf (cx B w0.heap.size w h M)) w.heap.size w2 hc Mc).s b i x → (cx B w0.heap.size w2 (hset h k2 blk) (mset M k2 (Mc key))).s b i x := by
    intro b i x hx
    have h1 := to_caller H hb hx.1 hx.2.2
    refine ⟨h1.1, ?_, h1.2.2⟩
    rintro ⟨k3, b3, q1, q2, q3⟩
    by_cases e : k3 = k2
    · subst e
      have : blk = b3 := by simpa [hset] using q1
      subst this
      simp only [mset, if_true] at q2
      exact hx.2.1 (q2 ▸ hA i q3)
    · exact h1.2.1 ⟨k3, b3, by simpa [hset, e] using q1, by simpa [mset, e] using q2, q3⟩
  exact ⟨hs, hs, fun _ _ hq => by simp [Cx.el] at hq, fun _ _ hx => hx.elim⟩

/- all rows of a result become the caller's own -/
/-- a block that is taken over -/
def NewOk (w w2 : World) (h hc : Heap) (Mc : Mp) (p : Nat × Nat × Blk) : Prop :=
  p.2.2.g = nextG h p.1 ∧ w.heap.size ≤ (Mc p.2.1).1 ∧ (∃ blk, hc p.2.1 = some blk) ∧ ∀ c, BlkOk c w2 (Mc p.2.1) p.2.2

mutual
theorem matG_ok {base : Nat} : ∀ (r : AV) {n : Nat} {v : AV} {L : List (Nat × Nat × Blk)} {n' : Nat} {rv : Value}, matG base h r n = some (v, L, n') →
    VR r (xcx (stableOf (cx B w0.heap.size w h M)) w w2 hc Mc) rv →
    n ≤ n' ∧ (∀ p ∈ L, base + 1000 * n ≤ p.1 ∧ p.1 < base + 1000 * n' ∧ NewOk w w2 h hc Mc p) ∧ (L.map fun p => p.1).Nodup ∧
    ∀ h' M', (∀ p ∈ L, h' p.1 = some p.2.2 ∧ M' p.1 = Mc p.2.1) → VR v (cx B w0.heap.size w2 h' M') rv
  | .sl k o es, n, v, L, n', rv, hm, hv => by
    have hnil : es = [] → (o = .no ∨ o = .lit ∨ o = .brw) → v = .sl k .no [] → L = [] → n' = n + 1 → n ≤ n' ∧ (∀ p ∈ L, base + 1000 * n ≤ p.1 ∧ p.1 < base + 1000 * n' ∧ NewOk w w2 h hc Mc p) ∧ (L.map fun p => p.1).Nodup ∧
        ∀ h' M', (∀ p ∈ L, h' p.1 = some p.2.2 ∧ M' p.1 = Mc p.2.1) → VR v (cx B w0.heap.size w2 h' M') rv := by
      rintro rfl ho rfl rfl rfl
      refine ⟨by omega, by simp, by simp, fun h' M' _ => ?_⟩
      have : ∃ a cap, rv = .slice a 0 cap ∧ 0 ≤ cap ∧ cap ≤ maxLen ∧ (a = none → cap = 0) := by
        rcases ho with rfl | rfl | rfl <;> (simp only [VR] at hv; obtain ⟨a, cap, q1, q2, q3, q4, _⟩ := hv; exact ⟨a, cap, q1, q2, q3, q4⟩)
      obtain ⟨a, cap, q1, q2, q3, q4⟩ := this
      simp only [VR]
      exact ⟨a, cap, q1, q2, q3, q4, fun hne => (hne rfl).elim, trivial⟩
    cases o with
    | ex T key =>
      simp only [matG] at hm
      split at hm
      case isFalse => cases hm
      rename_i hfl
      obtain ⟨rfl, hm9⟩ := Prod.mk.inj (Option.some.inj hm)
      obtain ⟨rfl, rfl⟩ := Prod.mk.inj hm9
      simp only [VR, xcx, ExOk] at hv
      obtain ⟨rfl, h2, h3, h4, h5, ⟨blk, hbk, _⟩, rvs, rest, r1, r2, r3, r4⟩ := hv
      have hall : ∀ e ∈ es, e.cells.length = k ∧ e.cells.all AV.one = true := by
        intro e he
        have hf := List.all_eq_true.1 hfl e he
        obtain ⟨ix, hix⟩ := List.mem_iff_getElem?.1 he
        obtain ⟨re, hre, hve⟩ := r1.get ix e hix
        refine ⟨?_, flat_one hf⟩
        rw [← (VR.cells_one (fun _ _ hx => hx) hve (flat_one hf)).length, Array.length_toList]
        exact r2 re (List.mem_of_getElem? hre)
      refine ⟨by omega, fun p hp => ?_, by simp, fun h' M' hh => ?_⟩
      · obtain rfl := List.mem_singleton.1 hp
        refine ⟨Nat.le_refl _, by simp only; omega, rfl, h5, ⟨blk, hbk⟩, fun c => ⟨h4, hall, rvs, rest, ?_, r3, r4, h3⟩⟩
        refine VRl.mk r1.length fun i x r hx hr => ?_
        obtain ⟨r', hr', hv'⟩ := r1.get i x hx
        rw [hr] at hr'
        obtain rfl := Option.some.inj hr'
        exact vr_flat _ _ (List.all_eq_true.1 hfl x (List.mem_of_getElem? hx)) hv'
      · obtain ⟨e1, e2⟩ := hh _ (List.mem_singleton.2 rfl)
        simp only at e1 e2
        simp only [VR]
        exact ⟨_, _, rfl, ⟨false, nextG h (base + 1000 * n), 0, k, (Mc key).1, (Mc key).2⟩, by simp [cx, Lof, e1, e2, Blk.isTok, Blk.g, Blk.u, Blk.k], Nat.le_refl _, fun _ => ⟨rfl, fun _ => by simp, h2, h3, by simp⟩⟩
    | tok kk gg =>
      simp only [VR, xcx] at hv
      obtain ⟨a, cap, _, _, _, _, _, q, hq, _⟩ := hv
      cases hq
    | no =>
      simp only [matG] at hm
      split at hm
      case isFalse => cases hm
      rename_i he
      obtain ⟨e1, hm⟩ := Prod.mk.inj (Option.some.inj hm)
      obtain ⟨e2, e3⟩ := Prod.mk.inj hm
      exact hnil (by simpa using he) (.inl rfl) e1.symm e2.symm e3.symm
    | lit =>
      simp only [matG] at hm
      split at hm
      case isFalse => cases hm
      rename_i he
      obtain ⟨e1, hm⟩ := Prod.mk.inj (Option.some.inj hm)
      obtain ⟨e2, e3⟩ := Prod.mk.inj hm
      exact hnil (by simpa using he) (.inr (.inl rfl)) e1.symm e2.symm e3.symm
    | brw =>
      simp only [matG] at hm
      split at hm
      case isFalse => cases hm
      rename_i he
      obtain ⟨e1, hm⟩ := Prod.mk.inj (Option.some.inj hm)
      obtain ⟨e2, e3⟩ := Prod.mk.inj hm
      exact hnil (by simpa using he) (.inr (.inr rfl)) e1.symm e2.symm e3.symm
  | .agg cs, n, v, L, n', rv, hm, hv => by
    simp only [matG, Option.map_eq_some_iff] at hm
    obtain ⟨⟨p, p2⟩, hp, e⟩ := hm
    obtain ⟨rfl, rfl⟩ := Prod.mk.inj e
    simp only [VR] at hv
    obtain ⟨rc, rfl, hrc⟩ := hv
    obtain ⟨q1, q2, q3, q4⟩ := matGs_ok cs hp hrc
    exact ⟨q1, q2, q3, fun h' M' hh => by simp only [VR]; exact ⟨rc, rfl, q4 h' M' hh⟩⟩
  | .tup cs, n, v, L, n', rv, hm, hv => by
    simp only [matG, Option.map_eq_some_iff] at hm
    obtain ⟨⟨p, p2⟩, hp, e⟩ := hm
    obtain ⟨rfl, rfl⟩ := Prod.mk.inj e
    simp only [VR] at hv
    obtain ⟨rc, rfl, hrc⟩ := hv
    obtain ⟨q1, q2, q3, q4⟩ := matGs_ok cs hp hrc
    exact ⟨q1, q2, q3, fun h' M' hh => by simp only [VR]; exact ⟨rc, rfl, q4 h' M' hh⟩⟩
  | .int k x, n, v, L, n', rv, hm, hv => by
    simp only [matG, flat1, if_true] at hm
    obtain ⟨rfl, hm9⟩ := Prod.mk.inj (Option.some.inj hm)
    obtain ⟨rfl, rfl⟩ := Prod.mk.inj hm9
    exact ⟨Nat.le_refl _, by simp, by simp, fun _ _ _ => by simpa only [VR] using hv⟩
  | .bool x, n, v, L, n', rv, hm, hv => by
    simp only [matG, flat1, if_true] at hm
    obtain ⟨rfl, hm9⟩ := Prod.mk.inj (Option.some.inj hm)
    obtain ⟨rfl, rfl⟩ := Prod.mk.inj hm9
    exact ⟨Nat.le_refl _, by simp, by simp, fun _ _ _ => by simpa only [VR] using hv⟩
  | .str x, n, v, L, n', rv, hm, hv => by
    simp only [matG, flat1, if_true] at hm
    obtain ⟨rfl, hm9⟩ := Prod.mk.inj (Option.some.inj hm)
    obtain ⟨rfl, rfl⟩ := Prod.mk.inj hm9
    exact ⟨Nat.le_refl _, by simp, by simp, fun _ _ _ => by simpa only [VR] using hv⟩
  | .un, _, _, _, _, _, hm, _ => by simp [matG, flat1] at hm
  | .ud, _, _, _, _, _, hm, _ => by simp [matG, flat1] at hm
  | .nilf, _, _, _, _, _, hm, _ => by simp [matG, flat1] at hm
  | .ms .., _, _, _, _, _, hm, _ => by simp [matG, flat1] at hm
  | .vp .., _, _, _, _, _, hm, _ => by simp [matG, flat1] at hm
  | .rp .., _, _, _, _, _, hm, _ => by simp [matG, flat1] at hm
  | .cp .., _, _, _, _, _, hm, _ => by simp [matG, flat1] at hm
  | .xp .., _, _, _, _, _, hm, _ => by simp [matG, flat1] at hm
  | .fn .., _, _, _, _, _, hm, _ => by simp [matG, flat1] at hm
theorem matGs_ok {base : Nat} : ∀ (rs : List AV) {n : Nat} {vs : List AV} {L : List (Nat × Nat × Blk)} {n' : Nat} {rvs : List Value}, matGs base h rs n = some (vs, L, n') →
    VRl rs (xcx (stableOf (cx B w0.heap.size w h M)) w w2 hc Mc) rvs →
    n ≤ n' ∧ (∀ p ∈ L, base + 1000 * n ≤ p.1 ∧ p.1 < base + 1000 * n' ∧ NewOk w w2 h hc Mc p) ∧ (L.map fun p => p.1).Nodup ∧
    ∀ h' M', (∀ p ∈ L, h' p.1 = some p.2.2 ∧ M' p.1 = Mc p.2.1) → VRl vs (cx B w0.heap.size w2 h' M') rvs
  | [], n, vs, L, n', rvs, hm, hv => by
    simp only [matGs] at hm
    obtain ⟨rfl, hm9⟩ := Prod.mk.inj (Option.some.inj hm)
    obtain ⟨rfl, rfl⟩ := Prod.mk.inj hm9
    exact ⟨Nat.le_refl _, by simp, by simp, fun _ _ _ => by simpa only [VRl] using hv⟩
  | x :: xs, n, vs, L, n', rvs, hm, hv => by
    simp only [matGs, Option.bind_eq_some_iff, Option.map_eq_some_iff] at hm
    obtain ⟨⟨v1, L1, n1⟩, hp, ⟨vs2, L2, n2⟩, hq, e⟩ := hm
    obtain ⟨rfl, e9⟩ := Prod.mk.inj e
    obtain ⟨rfl, rfl⟩ := Prod.mk.inj e9
    simp only [VRl] at hv
    obtain ⟨u, us, rfl, hu, hus⟩ := hv
    obtain ⟨a1, a2, a3, a4⟩ := matG_ok x hp hu
    obtain ⟨b1, b2, b3, b4⟩ := matGs_ok xs hq hus
    dsimp only at hq b1 b2 ⊢
    refine ⟨by omega, fun p hp => ?_, ?_, fun h' M' hh => ?_⟩
    · rcases List.mem_append.1 hp with hp | hp
      · have := a2 p hp; exact ⟨this.1, by have := this.2.1; omega, this.2.2⟩
      · have := b2 p hp; exact ⟨by have := this.1; omega, this.2.1, this.2.2⟩
    · rw [List.map_append, List.nodup_append]
      refine ⟨a3, b3, fun y hy z hz => ?_⟩
      obtain ⟨p, hp, rfl⟩ := List.mem_map.1 hy
      obtain ⟨q, hq, rfl⟩ := List.mem_map.1 hz
      have h1 := (a2 p hp).2.1
      have h2 := (b2 q hq).1
      omega
    · simp only [VRl]
      exact ⟨u, us, rfl, a4 h' M' fun p hp => hh p (List.mem_append_left _ hp), b4 h' M' fun p hp => hh p (List.mem_append_right _ hp)⟩
end

def msets (M Mc : Mp) : List (Nat × Nat × Blk) → Mp
  | [] => M
  | p :: L => mset (msets M Mc L) p.1 (Mc p.2.1)
omit H hb in
theorem hsets_in : ∀ {L : List (Nat × Nat × Blk)}, (L.map fun p => p.1).Nodup → ∀ p ∈ L, hsets h L p.1 = some p.2.2 ∧ msets M Mc L p.1 = Mc p.2.1
  | [], _, p, hp => by cases hp
  | q :: L, hn, p, hp => by
    simp only [List.map_cons, List.nodup_cons] at hn
    rcases List.mem_cons.1 hp with rfl | hp
    · exact ⟨by simp [hsets, hset], by simp [msets, mset]⟩
    · have hne : p.1 ≠ q.1 := fun e => hn.1 (List.mem_map.2 ⟨p, hp, e⟩)
      obtain ⟨h1, h2⟩ := hsets_in hn.2 p hp
      exact ⟨by simpa [hsets, hset, hne] using h1, by simpa [msets, mset, hne] using h2⟩
omit H hb in
theorem hsets_out : ∀ {L : List (Nat × Nat × Blk)} {x : Nat}, (∀ p ∈ L, p.1 ≠ x) → hsets h L x = h x ∧ msets M Mc L x = M x
  | [], _, _ => ⟨rfl, rfl⟩
  | q :: L, x, hx => by
    have hne : x ≠ q.1 := fun e => hx q (List.mem_cons_self ..) e.symm
    obtain ⟨h1, h2⟩ := hsets_out (L := L) (x := x) fun p hp => hx p (List.mem_cons_of_mem _ hp)
    exact ⟨by simpa [hsets, hset, hne] using h1, by simpa [msets, mset, hne] using h2⟩

omit H hb in
theorem nodup_key : ∀ {L : List (Nat × Nat × Blk)}, (L.map fun p => p.2.1).Nodup → ∀ p ∈ L, ∀ q ∈ L, p.2.1 = q.2.1 → p = q
  | [], _, p, hp, _, _, _ => by cases hp
  | a :: L, hk, p, hp, q, hq, e => by
    simp only [List.map_cons, List.nodup_cons] at hk
    rcases List.mem_cons.1 hp with e1 | hp2 <;> rcases List.mem_cons.1 hq with e2 | hq2
    · rw [e1, e2]
    · exact (hk.1 (List.mem_map.2 ⟨q, hq2, by rw [← e, e1]⟩)).elim
    · exact (hk.1 (List.mem_map.2 ⟨p, hp2, by rw [e, e2]⟩)).elim
    · exact nodup_key hk.2 p hp2 q hq2 e
theorem news_ok {L : List (Nat × Nat × Blk)} (Hc : HR (stableOf (cx B w0.heap.size w h M)) w w2 hc Mc) (hn : (L.map fun p => p.1).Nodup) (hk : (L.map fun p => p.2.1).Nodup) (hL : ∀ p ∈ L, NewOk w w2 h hc Mc p) :
    HR B w0 w2 (hsets h L) (msets M Mc L) ∧ Gr (cx B w0.heap.size w h M) (cx B w0.heap.size w2 (hsets h L) (msets M Mc L)) := by
  have hsz := H.below.size
  have hcase : ∀ x blk, hsets h L x = some blk → (h x = some blk ∧ msets M Mc L x = M x) ∨ ∃ p ∈ L, p.1 = x ∧ p.2.2 = blk ∧ msets M Mc L x = Mc p.2.1 := by
    intro x blk hx
    by_cases e : ∃ p ∈ L, p.1 = x
    · obtain ⟨p, hp, rfl⟩ := e
      obtain ⟨h1, h2⟩ := hsets_in (h := h) (M := M) (Mc := Mc) hn p hp
      rw [h1] at hx
      exact .inr ⟨p, hp, rfl, Option.some.inj hx, h2⟩
    · obtain ⟨h1, h2⟩ := hsets_out (h := h) (M := M) (Mc := Mc) (L := L) (x := x) fun p hp e2 => e ⟨p, hp, e2⟩
      exact .inl ⟨h1 ▸ hx, h2⟩
  have hgr : Gr (cx B w0.heap.size w h M) (cx B w0.heap.size w2 (hsets h L) (msets M Mc L)) := by
    refine gr_of (fun b i x hx hm => ?_) fun k2 b2 hk2 => ?_
    · have hlt : b < w.heap.size := World.block_lt_of_cell? w ⟨b, i, none⟩ hx
      refine ⟨(hb.cell (p := ⟨b, i, none⟩) hlt).trans hx, ?_⟩
      rintro ⟨k3, b3, h3, h4, h5⟩
      rcases hcase _ _ h3 with ⟨e1, e2⟩ | ⟨p, hp, _, _, e2⟩
      · exact hm ⟨k3, b3, e1, e2 ▸ h4, h5⟩
      · have := (hL p hp).2.1
        rw [e2] at h4; omega
    · by_cases e : ∃ p ∈ L, p.1 = k2
      · obtain ⟨p, hp, rfl⟩ := e
        obtain ⟨h1, h2⟩ := hsets_in (h := h) (M := M) (Mc := Mc) hn p hp
        have h3 := nextG_lt hk2
        have h4 := (hL p hp).1
        exact ⟨p.2.2, h1, by omega, fun e => by omega⟩
      · obtain ⟨h1, h2⟩ := hsets_out (h := h) (M := M) (Mc := Mc) (L := L) (x := k2) fun p hp e2 => e ⟨p, hp, e2⟩
        exact ⟨b2, h1.trans hk2, Nat.le_refl _, fun _ => ⟨rfl, rfl, Nat.le_refl _, fun _ => h2.symm, fun _ => rfl⟩⟩
  refine ⟨⟨H.below.trans (hb.mono hsz), fun k2 b2 hk2 => ?_, fun k1 k2 b1 b2 h1 h2 he => ?_, fun k2 b2 hk2 => ?_⟩, hgr⟩
  · rcases hcase _ _ hk2 with ⟨e1, e2⟩ | ⟨p, hp, _, _, e2⟩
    · rw [e2]; exact H.old _ _ e1
    · rw [e2]; have := (hL p hp).2.1; omega
  · rcases hcase _ _ h1 with ⟨e1, e2⟩ | ⟨p, hp, e3, _, e2⟩ <;> rcases hcase _ _ h2 with ⟨f1, f2⟩ | ⟨q, hq, f3, _, f2⟩
    · rw [e2, f2] at he; exact H.inj _ _ _ _ e1 f1 he
    · rw [e2, f2] at he; have := H.lt e1; have := (hL q hq).2.1; omega
    · rw [e2, f2] at he; have := H.lt f1; have := (hL p hp).2.1; omega
    · rw [e2, f2] at he
      obtain ⟨x, hx⟩ := (hL p hp).2.2.1
      obtain ⟨y, hy⟩ := (hL q hq).2.2.1
      have hkk := Hc.inj _ _ _ _ hx hy he
      have : p = q := nodup_key hk p hp q hq hkk
      rw [← e3, ← f3, this]
  · rcases hcase _ _ hk2 with ⟨e1, e2⟩ | ⟨p, hp, _, rfl, e2⟩
    · rw [e2]; exact (H.ok _ _ e1).mono hgr (hb.block _ (H.lt e1))
    · rw [e2]; exact (hL p hp).2.2.2 _

theorem mat3_ok {base : Nat} {r v : AV} {h' : Heap} {rv : Value} (hm : mat3 base h r = some (v, h'))
    (Hc : HR (stableOf (cx B w0.heap.size w h M)) w w2 hc Mc) (hv : VR r (xcx (stableOf (cx B w0.heap.size w h M)) w w2 hc Mc) rv) :
    ∃ M', HR B w0 w2 h' M' ∧ Gr (cx B w0.heap.size w h M) (cx B w0.heap.size w2 h' M') ∧ VR v (cx B w0.heap.size w2 h' M') rv := by
  unfold mat3 at hm
  split at hm
  case h_2 => cases hm
  rename_i v1 L n1 hg
  split at hm
  case isFalse => cases hm
  rename_i hk
  obtain ⟨rfl, rfl⟩ := Prod.mk.inj (Option.some.inj hm)
  obtain ⟨_, q2, q3, q4⟩ := matG_ok H hb r hg hv
  obtain ⟨n1, n2⟩ := news_ok H hb Hc q3 hk fun p hp => (q2 p hp).2.2
  exact ⟨_, n1, n2, q4 _ _ fun p hp => hsets_in q3 p hp⟩

theorem mat1_ok {kk T key k : Nat} {es : List AV} {rv : Value} (hfl : es.all flat = true ∧ es ≠ []) (hv : VR (.sl k (.ex T key) es) (xcx (stableOf (cx B w0.heap.size w h M)) w w2 hc Mc) rv) :
    ∃ M', HR B w0 w2 (hset h kk (.row (nextG h kk) T k es)) M' ∧ Gr (cx B w0.heap.size w h M) (cx B w0.heap.size w2 (hset h kk (.row (nextG h kk) T k es)) M') ∧ VR (.ms kk (nextG h kk) 0 es.length) (cx B w0.heap.size w2 (hset h kk (.row (nextG h kk) T k es)) M') rv := by
  simp only [VR, xcx, ExOk] at hv
  obtain ⟨rfl, h2, h3, h4, h5, _, rvs, rest, r1, r2, r3, r4⟩ := hv
  have hall : ∀ e ∈ es, e.cells.length = k ∧ e.cells.all AV.one = true := by
    intro e he
    have hf := List.all_eq_true.1 hfl.1 e he
    obtain ⟨ix, hix⟩ := List.mem_iff_getElem?.1 he
    obtain ⟨re, hre, hve⟩ := r1.get ix e hix
    have hone : e.cells.all AV.one = true := by
      cases e <;> simp only [flat, flat1] at hf <;> first | (cases hf; done) | rfl | skip
      rename_i cs
      rw [List.all_eq_true] at hf ⊢
      intro y hy
      have := hf y hy
      cases y <;> simp only [flat1] at this <;> first | (cases this; done) | rfl
    refine ⟨?_, hone⟩
    rw [← (VR.cells_one (fun _ _ hx => hx) hve hone).length, Array.length_toList]
    exact r2 re (List.mem_of_getElem? hre)
  have hgr := gr_newkey (B := B) (blk := .row (nextG h kk) T k es) (p := Mc key) (key := kk) H hb h5 rfl
  refine ⟨mset M kk (Mc key), H.newkey hb h5 rfl ⟨h4, hall, rvs, rest, ?_, r3, r4, h3⟩, hgr, ?_⟩
  · -- the elements are flat
    refine VRl.mk r1.length fun i x r hx hr => ?_
    obtain ⟨r', hr', hv'⟩ := r1.get i x hx
    rw [hr] at hr'
    obtain rfl := Option.some.inj hr'
    have hf := List.all_eq_true.1 hfl.1 x (List.mem_of_getElem? hx)
    have one : ∀ (y : AV) (r : Value) (c c' : Cx), flat1 y = true → VR y c r → VR y c' r := by
      intro y r c c' hy hv
      cases y <;> simp only [flat1] at hy <;> first | (cases hy; done) | simpa only [VR] using hv
    cases x <;> simp only [flat] at hf <;> first
      | exact one _ _ _ _ hf hv'
      | (simp only [VR] at hv' ⊢
         obtain ⟨rc, h8, h9⟩ := hv'
         refine ⟨rc, h8, VRl.mk h9.length fun i x r hx hr => ?_⟩
         obtain ⟨r', hr', hv'⟩ := h9.get i x hx
         rw [hr] at hr'
         obtain rfl := Option.some.inj hr'
         exact one _ _ _ _ (List.all_eq_true.1 hf x (List.mem_of_getElem? hx)) hv')
  · simp only [VR]
    exact ⟨_, _, rfl, ⟨false, nextG h kk, 0, k, (Mc key).1, (Mc key).2⟩, by simp [cx, Lof, hset, mset, Blk.isTok, Blk.g, Blk.u, Blk.k], Nat.le_refl _, fun _ => ⟨rfl, fun _ => by simp, h2, h3, by simp⟩⟩
theorem mat2_ok {kk : Nat} {r v : AV} {h' : Heap} {rv : Value} (hm : mat2 kk h r = some (v, h')) (hv : VR r (xcx (stableOf (cx B w0.heap.size w h M)) w w2 hc Mc) rv) :
    ∃ M', HR B w0 w2 h' M' ∧ Gr (cx B w0.heap.size w h M) (cx B w0.heap.size w2 h' M') ∧ VR v (cx B w0.heap.size w2 h' M') rv := by
  have hsz0 := H.below.size
  have hlit : ∀ k, r = .sl k .lit [] → v = .sl k .lit [] → h' = h → ∃ M', HR B w0 w2 h' M' ∧ Gr (cx B w0.heap.size w h M) (cx B w0.heap.size w2 h' M') ∧ VR v (cx B w0.heap.size w2 h' M') rv := by
    rintro k rfl rfl rfl
    refine ⟨M, H.world hb, gr_world hb, ?_⟩
    have := VR.noEx (hc := hc) (Mc := Mc) H hb _ hv
    simpa only [noEx] using this
  cases r <;> simp only [mat2] at hm <;> try (cases hm; done)
  rename_i k o es
  cases o with
  | ex T key =>
    have hm : some (AV.sl k (.tok kk (nextG h kk)) es, hset h kk (.tok (nextG h kk) T k es.length)) = some (v, h') := by cases es <;> exact hm
    obtain ⟨rfl, rfl⟩ := Prod.mk.inj (Option.some.inj hm)
    simp only [VR, xcx, ExOk] at hv
    obtain ⟨rfl, h2, h3, h4, h5, ⟨blk, hbk, hbm⟩, rvs, rest, r1, r2, r3, r4⟩ := hv
    have hgr := gr_newkey (B := B) (blk := .tok (nextG h kk) T k es.length) (p := Mc key) (key := kk) H hb h5 rfl
    have e3 := gr_adopt (hc := hc) (Mc := Mc) H hb (key := key) (k2 := kk) (blk := .tok (nextG h kk) T k es.length) fun i hi => ⟨key, blk, hbk, rfl, hbm i hi⟩
    refine ⟨mset M kk (Mc key), H.newkey' hb h5 rfl ⟨h4, h3, _, r3, by simpa using r4⟩, hgr, ?_⟩
    simp only [VR]
    refine ⟨_, _, rfl, h2, h3, by simp, fun hne => ⟨_, 0, rfl, VRm.mk (VRl.mono e3 _ r1) r2 fun j x hj => ⟨?_, ?_, .inl (by omega)⟩⟩, ?_⟩
    · rw [cell_of_row _ _ _ _ _ _ r3, Nat.zero_add, List.getElem?_toArray, List.getElem?_append_left (List.getElem?_eq_some_iff.1 hj).1]
      exact hj
    · rintro ⟨k3, b3, q1, q2, q3⟩
      by_cases e : k3 = kk
      · subst e
        have : Blk.tok (nextG h k3) T k es.length = b3 := by simpa [hset] using q1
        subst this
        simp only [Blk.mutAt] at q3
        have := (List.getElem?_eq_some_iff.1 hj).1
        rw [flatC_length r2, r1.length] at this
        omega
      · have := H.lt (key := k3) (blk := b3) (by simpa [hset, e] using q1)
        simp only [mset, if_neg e] at q2
        omega
    · exact ⟨⟨true, nextG h kk, es.length, k, (Mc key).1, (Mc key).2⟩, by simp [cx, Lof, hset, mset, Blk.isTok, Blk.g, Blk.u, Blk.k], Nat.le_refl _, fun _ => ⟨rfl, Nat.le_refl _, fun _ => ⟨rfl, rfl⟩⟩⟩
  | lit =>
    cases es with
    | nil =>
      obtain ⟨e1, e3⟩ := Prod.mk.inj (Option.some.inj hm)
      exact hlit k rfl e1.symm e3.symm
    | cons => simp at hm
  | _ => cases es <;> simp at hm
theorem mat1r_ok {key : Nat} {r v : AV} {h' : Heap} {rv : Value} (hm : Ev.mat1 key h r = some (v, h'))
    (hv : VR r (xcx (stableOf (cx B w0.heap.size w h M)) w w2 hc Mc) rv) :
    ∃ M', HR B w0 w2 h' M' ∧ Gr (cx B w0.heap.size w h M) (cx B w0.heap.size w2 h' M') ∧ VR v (cx B w0.heap.size w2 h' M') rv := by
  unfold Ev.mat1 at hm
  have nil : ∀ k o, r = .sl k o [] → v = .sl k .no [] → h' = h → (∀ T key, o ≠ .ex T key) → (∀ a b, o ≠ .tok a b) → ∃ M', HR B w0 w2 h' M' ∧ Gr (cx B w0.heap.size w h M) (cx B w0.heap.size w2 h' M') ∧ VR v (cx B w0.heap.size w2 h' M') rv := by
    rintro k o rfl rfl rfl h1 h2
    have := VR.noEx (hc := hc) (Mc := Mc) H hb _ hv
    refine ⟨M, H.world hb, gr_world hb, ?_⟩
    cases o with
    | ex T key => exact absurd rfl (h1 T key)
    | tok a b => exact absurd rfl (h2 a b)
    | no => simpa only [noEx] using this
    | _ =>
      simp only [noEx, VR] at this ⊢
      obtain ⟨a, cap, q1, q2, q3, q4, _, _⟩ := this
      exact ⟨a, cap, q1, q2, q3, q4, fun hne => (hne rfl).elim, trivial⟩
  cases r <;> (try simp only at hm) <;> first | (cases hm; done) | skip
  rename_i k o es
  cases o with
  | ex T key2 =>
    cases es with
    | nil => simp at hm
    | cons e0 es0 =>
      try simp only at hm
      split at hm
      case isFalse => cases hm
      rename_i hfl
      obtain ⟨rfl, rfl⟩ := Prod.mk.inj (Option.some.inj hm)
      exact mat1_ok H hb hfl hv
  | tok kk gg =>
    simp only [VR, xcx] at hv
    obtain ⟨a, cap, _, _, _, _, _, q, hq, _⟩ := hv
    cases hq
  | _ =>
    cases es with
    | nil =>
      obtain ⟨rfl, rfl⟩ := Prod.mk.inj (Option.some.inj hm)
      exact nil _ _ rfl rfl rfl (fun _ _ e => by cases e) (fun _ _ e => by cases e)
    | cons => simp at hm
theorem mat_ok {E : Env} {fid : Nat} {st : St} {dst : Option Nat} {r v : AV} {h' : Heap} {rv : Value} (hst : st.h = h) (hm : mat E fid st dst r = some (v, h'))
    (Hc : HR (stableOf (cx B w0.heap.size w h M)) w w2 hc Mc) (hv : VR r (xcx (stableOf (cx B w0.heap.size w h M)) w w2 hc Mc) rv) :
    ∃ M', HR B w0 w2 h' M' ∧ Gr (cx B w0.heap.size w h M) (cx B w0.heap.size w2 h' M') ∧ VR v (cx B w0.heap.size w2 h' M') rv := by
  subst hst
  have hsz0 := H.below.size
  have el := gr_ret_el (hc := hc) (Mc := Mc) H hb
  have e2 : Gr (cx (stableOf (cx B w0.heap.size w st.h M)) w.heap.size w2 hc Mc).el (cx B w0.heap.size w2 st.h M).el := gr_xcx_el.trans el
  have plain : v = noEx r → h' = st.h → ∃ M', HR B w0 w2 h' M' ∧ Gr (cx B w0.heap.size w st.h M) (cx B w0.heap.size w2 h' M') ∧ VR v (cx B w0.heap.size w2 h' M') rv := by
    rintro rfl rfl
    exact ⟨M, H.world hb, gr_world hb, VR.noEx H hb _ hv⟩
  unfold mat at hm
  cases dst with
  | none =>
    obtain ⟨e1, e3⟩ := Prod.mk.inj (Option.some.inj hm)
    exact plain e1.symm e3.symm
  | some d =>
    simp only at hm
    cases hmode : E.mat fid d with
    | zero =>
      rw [hmode] at hm
      obtain ⟨e1, e3⟩ := Prod.mk.inj (Option.some.inj hm)
      exact plain e1.symm e3.symm
    | succ n =>
      rw [hmode] at hm
      have hlit : ∀ k, r = .sl k .lit [] → v = .sl k .lit [] → h' = st.h → ∃ M', HR B w0 w2 h' M' ∧ Gr (cx B w0.heap.size w st.h M) (cx B w0.heap.size w2 h' M') ∧ VR v (cx B w0.heap.size w2 h' M') rv := by
        rintro k rfl rfl rfl
        refine ⟨M, H.world hb, gr_world hb, ?_⟩
        have := VR.noEx (hc := hc) (Mc := Mc) H hb _ hv
        simpa only [noEx] using this
      cases n with
      | zero =>
        cases r <;> simp only at hm <;> try (cases hm; done)
        · rename_i k o es
          cases o with
          | ex T key =>
            cases es with
            | nil => simp at hm
            | cons e0 es0 =>
              simp only at hm
              split at hm
              case isFalse => cases hm
              rename_i hfl
              obtain ⟨rfl, rfl⟩ := Prod.mk.inj (Option.some.inj hm)
              exact mat1_ok H hb hfl hv
          | lit =>
            cases es with
            | nil =>
              obtain ⟨rfl, rfl⟩ := Prod.mk.inj (Option.some.inj hm)
              have := VR.noEx (hc := hc) (Mc := Mc) H hb _ hv
              simp only [noEx, VR] at this
              obtain ⟨a, cap, q1, q2, q3, q4, _, _⟩ := this
              exact ⟨M, H.world hb, gr_world hb, by simp only [VR]; exact ⟨a, cap, q1, q2, q3, q4, fun hne => (hne rfl).elim, trivial⟩⟩
            | cons => simp at hm
          | no =>
            cases es with
            | nil =>
              obtain ⟨rfl, rfl⟩ := Prod.mk.inj (Option.some.inj hm)
              have := VR.noEx (hc := hc) (Mc := Mc) H hb _ hv
              simp only [noEx] at this
              exact ⟨M, H.world hb, gr_world hb, this⟩
            | cons => simp at hm
          | brw =>
            cases es with
            | nil =>
              obtain ⟨rfl, rfl⟩ := Prod.mk.inj (Option.some.inj hm)
              have := VR.noEx (hc := hc) (Mc := Mc) H hb _ hv
              simp only [noEx, VR] at this
              obtain ⟨a, cap, q1, q2, q3, q4, _, _⟩ := this
              exact ⟨M, H.world hb, gr_world hb, by simp only [VR]; exact ⟨a, cap, q1, q2, q3, q4, fun hne => (hne rfl).elim, trivial⟩⟩
            | cons => simp at hm
          | tok kk gg =>
            simp only [VR, xcx] at hv
            obtain ⟨a, cap, _, _, _, _, _, q, hq, _⟩ := hv
            cases hq
        · rename_i T key y
          obtain ⟨rfl, rfl⟩ := Prod.mk.inj (Option.some.inj hm)
          simp only [VR, xcx, ExOk] at hv
          obtain ⟨rfl, h2, ⟨blk, hbk, hbm⟩, h3, ry, r1, r2⟩ := hv
          have hgr := gr_newkey (B := B) (blk := .var (nextG st.h (st.off + d)) T y) (p := Mc key) (key := st.off + d) H hb h2 rfl
          have e3 := gr_adopt (hc := hc) (Mc := Mc) H hb (key := key) (k2 := st.off + d) (blk := .var (nextG st.h (st.off + d)) T y) fun i _ => ⟨key, blk, hbk, rfl, hbm i⟩
          refine ⟨mset M (st.off + d) (Mc key), H.newkey' hb h2 rfl ⟨h3, ry, VR.mono (gr_el ..) _ (VR.mono e3 _ r1), r2⟩, hgr, ?_⟩
          simp only [VR]
          exact ⟨_, rfl, ⟨false, nextG st.h (st.off + d), 0, 0, (Mc key).1, (Mc key).2⟩, by simp [cx, Lof, hset, mset, Blk.isTok, Blk.g, Blk.u, Blk.k], Nat.le_refl _, fun _ => ⟨rfl, rfl⟩⟩
      | succ n =>
        by_cases h3 : n = 1
        · subst h3
          exact mat3_ok H hb hm Hc hv
        by_cases h5 : n = 3
        · subst h5
          cases r <;> simp only at hm <;> try (cases hm; done)
          rename_i k o es
          cases o with
          | ex T key =>
            replace hm : (if es.all flat = true ∧ es ≠ [] then some (AV.ms (st.off + d) (nextG st.h (st.off + d)) 0 es.length, hset st.h (st.off + d) (.row (nextG st.h (st.off + d)) T k es)) else none) = some (v, h') := by cases es <;> exact hm
            split at hm
            case isFalse => cases hm
            rename_i hfl
            obtain ⟨rfl, rfl⟩ := Prod.mk.inj (Option.some.inj hm)
            exact mat1_ok H hb hfl hv
          | lit =>
            cases es with
            | nil =>
              obtain ⟨e1, e3⟩ := Prod.mk.inj (Option.some.inj hm)
              exact hlit k rfl e1.symm e3.symm
            | cons => simp at hm
          | _ => cases es <;> simp at hm
        replace hm : (if 2000 ≤ n + 1 + 1 then Ev.mat1 (st.off + d + deepStep * (cntK st.h (st.off + (n + 1 + 1 - 2000)) + 1)) st.h r else mat2 (st.off + d) st.h r) = some (v, h') := by
          match n, h3, h5, hm with
          | 0, _, _, hm => exact hm
          | 2, _, _, hm => exact hm
          | n + 4, _, _, hm => exact hm
        split at hm
        · exact mat1r_ok H hb hm hv
        · exact mat2_ok H hb hm hv
omit H hb in
theorem extR_ok (H : HR B w0 w h M) (hb : Below w.heap.size w w2) {E : Env} {f : Nat} {st : St} {dst : Option Nat} {r v : AV} {h' : Heap} {rv : Value} (hst : st.h = h) (hm : extR E f st dst r = some (v, h'))
    (h0 : E.own f = false → VR r (extCx (stableOf (cx B w0.heap.size w h M)) w w2) rv) (h1 : E.own f = true → ∃ hc Mc, HR (stableOf (cx B w0.heap.size w h M)) w w2 hc Mc ∧ VR r (xcx (stableOf (cx B w0.heap.size w h M)) w w2 hc Mc) rv) :
    ∃ M', HR B w0 w2 h' M' ∧ Gr (cx B w0.heap.size w h M) (cx B w0.heap.size w2 h' M') ∧ VR v (cx B w0.heap.size w2 h' M') rv := by
  subst hst
  unfold extR at hm
  split at hm
  · rename_i ho
    obtain ⟨hc, Mc, _, hv⟩ := h1 ho
    exact mat2_ok (hc := hc) (Mc := Mc) H hb hm hv
  · rename_i ho
    obtain ⟨rfl, rfl⟩ := Prod.mk.inj (Option.some.inj hm)
    have g : Gr (extCx (stableOf (cx B w0.heap.size w st.h M)) w w2) (cx B w0.heap.size w2 st.h M) :=
      ⟨fun b i x (hx : _ ∧ _) => to_caller H hb hx.1 hx.2, fun b i x (hx : _ ∧ _) => ⟨hx.1, (to_caller H hb hx.1 hx.2).2.1⟩, fun _ _ hq => (by simp [extCx] at hq), fun _ _ hx => hx.elim⟩
    exact ⟨M, H.world hb, gr_world hb, VR.mono g _ (h0 (by simpa using ho))⟩
end

end Go.Proofs.YtlglhokpaplifaaGreatDoor.Ev
/- The evaluator is sound: what it says of a call, the machine does. Conditions: none. -/
namespace Go.Proofs.YtlglhokpaplifaaGreatDoor.Ev
open Go.RowKit
set_option linter.unusedVariables false
set_option linter.unusedSimpArgs false
set_option linter.unusedSectionVars false

/-- What a call of the evaluator says is what the machine does. -/
def CallOk (P : Program) (inv : World → Prop) (call : CallT) : Prop :=
  ∀ f args h off res h', call f args h off = some (res, h') → (∃ fn, P.funcs[f]? = some fn ∧ fn.name ≠ "runtime.NumGoroutine" ∧ fn.body.isSome = true) ∧
    ∀ (B : Nat → Nat → Prop) (w0 w : World) (M : Mp) (rargs : List Value), inv w0 → HR B w0 w h M → VRl args (cx B w0.heap.size w h M) rargs →
      Calls P f rargs.toArray w fun e w' => ∃ rv M', e = .returned rv ∧ HR B w0 w' h' M' ∧ Gr (cx B w0.heap.size w h M) (cx B w0.heap.size w' h' M') ∧ VR res (cx B w0.heap.size w' h' M') rv

structure FR (B : Nat → Nat → Prop) (w0 : World) (st : St) (a : Act) (w : World) (M : Mp) : Prop where
  hr : HR B w0 w st.h M
  sl : ∀ t, VR (st.s t) (cx B w0.heap.size w st.h M) (a.tmps.getD t undef)
  sz : a.tmps.size = st.nt
  df : a.defers = []

theorem freezeV_some {h h' : Heap} {f : Nat} {caps : List AV} {v : AV} (he : freezeV h f caps = some (v, h')) :
    ∃ key g off T x, caps = [.vp key g off] ∧ h key = some (.var g T x) ∧ flat x = true ∧ v = .fn f [.cp false x.cells off] ∧ h' = hset h key (.fz g T x) := by
  unfold freezeV at he
  split at he
  · rename_i key g off
    split at he
    · rename_i g' T x hk
      split at he
      · rename_i hc
        obtain ⟨rfl, hf⟩ := hc
        obtain ⟨h1, h2⟩ := Prod.mk.inj (Option.some.inj he)
        exact ⟨_, _, _, _, _, rfl, hk, hf, h1.symm, h2.symm⟩
      · cases he
    · cases he
  · cases he
theorem flat1s_VR {c c' : Cx} : ∀ {vs : List AV} {rs : List Value}, vs.all flat1 = true → VRl vs c rs → VRl vs c' rs
  | [], _, _, h => by simpa only [VRl] using h
  | x :: xs, _, hf, h => by
    simp only [List.all_cons, Bool.and_eq_true] at hf
    simp only [VRl] at h ⊢
    obtain ⟨v, ws, rfl, h1, h2⟩ := h
    refine ⟨v, ws, rfl, ?_, flat1s_VR hf.2 h2⟩
    cases x <;> first | (simp [flat1] at hf; done) | (simp only [VR] at h1 ⊢; exact h1)
theorem flat_cells {x : AV} (h : flat x = true) : x.cells.all flat1 = true := by
  cases x <;> first | exact h | (simp [flat, flat1] at h; done) | (simp [AV.cells, flat1])
theorem frz_VR {B : Nat → Nat → Prop} {w0 w : World} {h : Heap} {M : Mp} (H : HR B w0 w h M) {key g off T f : Nat} {x : AV} (hk : h key = some (.var g T x)) (hf : flat x = true) {rs : List Value}
    (hv : VRl [.vp key g off] (cx B w0.heap.size w h M) rs) : VR (.fn f [.cp false x.cells off]) (cx B w0.heap.size w (hset h key (.fz g T x)) M) (.func (.func f) #[] rs.toArray) := by
  simp only [VRl, VR] at hv
  obtain ⟨rp, ws, rfl, ⟨a, rfl, q, hq, _, h3⟩, rfl⟩ := hv
  have hq' := cx_l hk hq
  subst hq'
  obtain ⟨_, rfl⟩ := h3 rfl
  obtain ⟨hone, rv, hvr, hh⟩ := H.ok _ _ hk
  have hcl := VR.cells_one (cx_x B w0.heap.size w h M) hvr hone
  simp only [VR, VRl]
  refine ⟨_, rfl, _, [], rfl, ⟨(M key).1, 0, rv.cells.toList, by simp, flat1s_VR (flat_cells hf) hcl, fun j y hy => ?_⟩, rfl⟩
  refine ⟨by rw [Nat.zero_add, cell_of_row w _ _ _ _ _ hh]; simpa using hy, ?_, .inl (H.old _ _ hk)⟩
  rintro ⟨k3, b3, h4, h5, h6⟩
  by_cases e : k3 = key
  · subst e
    have : Blk.fz g T x = b3 := by simpa [hset] using h4
    subst this
    exact h6
  · exact e (H.inj _ _ _ _ (by simpa [hset, e] using h4) hk h5)
section
variable {P : Program} {E : Env} {inv : World → Prop} (hP : ProgOk E P inv) {call : CallT} (hC : CallOk P inv call)
include hP

theorem ofConst_ok {c : Cx} (v : Value) : VR (ofConst v) c v := by
  unfold ofConst
  split <;> simp only [VR]
  exact ⟨none, 0, rfl, Nat.le_refl _, Nat.zero_le _, by simp, fun h => (h rfl).elim, rfl⟩

theorem ev_ok {B : Nat → Nat → Prop} {w0 : World} {st : St} {a : Act} {w : World} {M : Mp} (hF : FR B w0 st a w M) (x : Operand) : VR (st.ev x) (cx B w0.heap.size w st.h M) (a.eval x) := by
  cases x with
  | tmp t => exact hF.sl t
  | const v => exact ofConst_ok hP v
  | func f => simp only [St.ev, Act.eval, VR, VRl]; exact ⟨[], rfl, rfl⟩
  | global g => simp [St.ev, VR]

theorem evs_ok {B : Nat → Nat → Prop} {w0 : World} {st : St} {a : Act} {w : World} {M : Mp} (hF : FR B w0 st a w M) (xs : List Operand) : VRl (xs.map st.ev) (cx B w0.heap.size w st.h M) (xs.map a.eval) := by
  induction xs with
  | nil => simp [VRl]
  | cons x xs ih => simp only [List.map_cons, VRl]; exact ⟨_, _, rfl, ev_ok hP hF x, ih⟩

theorem evps_ok {B : Nat → Nat → Prop} {w0 : World} {st : St} {a : Act} {w : World} {M : Mp} (hF : FR B w0 st a w M) (xs : List (Nat × Operand)) :
    VRp (cx B w0.heap.size w st.h M) (xs.map fun p => (p.1, st.ev p.2)) (xs.map fun p => (p.1, a.eval p.2)) := by
  induction xs with
  | nil => simp [VRp]
  | cons x xs ih => simp only [List.map_cons, VRp]; exact ⟨_, _, rfl, ev_ok hP hF x.2, ih⟩

theorem evo_ok {B : Nat → Nat → Prop} {w0 : World} {st : St} {a : Act} {w : World} {M : Mp} (hF : FR B w0 st a w M) (x : Option Operand) : VRo (cx B w0.heap.size w st.h M) (x.map st.ev) (x.map a.eval) := by
  cases x with
  | none => trivial
  | some x => exact ev_ok hP hF x

theorem FR.put {B : Nat → Nat → Prop} {w0 : World} {st : St} {a : Act} {w : World} {M : Mp} (hF : FR B w0 st a w M) {w' : World} {h' : Heap} {M' : Mp} {v : AV} {rv : Value} {dst : Option Nat}
    (hr : HR B w0 w' h' M') (hg : Gr (cx B w0.heap.size w st.h M) (cx B w0.heap.size w' h' M')) (hv : VR v (cx B w0.heap.size w' h' M') rv) (hd : ∀ d, dst = some d → d < st.nt) :
    FR B w0 (st.put dst v h') (a.put dst rv) w' M' := by
  cases dst with
  | none => exact ⟨hr, fun t => VR.mono hg _ (hF.sl t), hF.sz, hF.df⟩
  | some d =>
    refine ⟨hr, fun t => ?_, by simp [St.put, Act.put, hF.sz], hF.df⟩
    simp only [St.put, upd, Act.put]
    by_cases e : t = d
    · subst e
      have : t < a.tmps.size := by rw [hF.sz]; exact hd t rfl
      simpa [Array.getD, this] using hv
    · rw [if_neg e]
      have : (a.tmps.setIfInBounds d rv).getD t undef = a.tmps.getD t undef := by
        simp only [Array.getD_eq_getD_getElem?, Array.getElem?_setIfInBounds]
        rw [if_neg (Ne.symm e)]
      rw [this]
      exact VR.mono hg _ (hF.sl t)

theorem wanted_ok {B : Nat → Nat → Prop} {w0 : World} {st : St} {a : Act} {w : World} {M : Mp} (hF : FR B w0 st a w M) {ops : Array Oper} {o : Oper} {b : Bool} (h : wantedV ops st o = some b) :
    Region.wanted o (yielded ops a.tmps) = b := by
  unfold wantedV at h
  unfold Region.wanted
  cases hg : o.guard with
  | none => rw [hg] at h; simpa using h
  | some p =>
    obtain ⟨j, want⟩ := p
    rw [hg] at h
    simp only at h ⊢
    cases hj : ops[j]? with
    | none => rw [hj] at h; cases h
    | some oj =>
      rw [hj] at h
      simp only at h
      cases hd : oj.dst with
      | none => rw [hd] at h; cases h
      | some d =>
        rw [hd] at h
        simp only at h
        cases hs : st.s d with
        | bool x =>
          rw [hs] at h
          simp only [Option.some.injEq] at h
          subst h
          have hv := hF.sl d
          rw [hs] at hv
          simp only [VR] at hv
          have hlt : d < a.tmps.size := by
            rcases Nat.lt_or_ge d a.tmps.size with h | h
            · exact h
            · simp [Array.getD, Nat.not_lt.2 h, undef] at hv
          have : a.tmps[d]? = some (.bool x) := by
            rw [Array.getElem?_eq_getElem hlt]
            simpa [Array.getD, hlt] using hv
          simp [yielded, hj, hd, this]
        | ud =>
          rw [hs] at h
          simp only [Option.some.injEq] at h
          subst h
          have hv := hF.sl d
          rw [hs] at hv
          simp only [VR] at hv
          have : yielded ops a.tmps j = none := by
            simp only [yielded, hj, hd, Option.bind_some]
            cases ht : a.tmps[d]? with
            | none => simp
            | some x =>
              have : a.tmps.getD d undef = x := by simp [Array.getD_eq_getD_getElem?, ht]
              rw [this] at hv
              subst hv
              rfl
          simp [this]
        | _ => rw [hs] at h; cases h

/-- what an operation that enters no function does -/
theorem wp_does {B : Nat → Nat → Prop} {w0 : World} {st : St} {a : Act} {w : World} {M : Mp} {o : Oper} {v : AV} {h' : Heap} {s : Sem Value} (hd : Does P B w0 w st.h M s v h')
    (hex : (execOp a.eval o).run P w = (s.run P w).andThen fun v w' => .ok (.value v) w') {K : Act → World → Prop} {Q : Exit → Act → World → Prop}
    (hK : ∀ rv w' M', HR B w0 w' h' M' → Gr (cx B w0.heap.size w st.h M) (cx B w0.heap.size w' h' M') → VR v (cx B w0.heap.size w' h' M') rv → K (a.put o.dst rv) w') : o.wp P a w K Q := by
  obtain ⟨rv, w', M', h1, h2, h3, h4⟩ := hd
  unfold Oper.wp
  rw [hex, h1]
  exact hK rv w' M' h2 h3 h4

include hC
theorem callFn_ok {B : Nat → Nat → Prop} {w0 : World} {st : St} {w : World} {M : Mp} (hi : inv w0) (H : HR B w0 w st.h M) {fid : Nat} {dst : Option Nat} {f : Nat} {args : List AV} {v : AV} {h' : Heap} {rargs : List Value}
    (hc : callFn E call fid dst f args st = some (v, h')) (hv : VRl args (cx B w0.heap.size w st.h M) rargs) :
    (∃ fn, P.funcs[f]? = some fn ∧ fn.name ≠ "runtime.NumGoroutine" ∧ fn.body.isSome = true) ∧
    Calls P f rargs.toArray w fun e w' => ∃ rv M', e = .returned rv ∧ HR B w0 w' h' M' ∧ Gr (cx B w0.heap.size w st.h M) (cx B w0.heap.size w' h' M') ∧ VR v (cx B w0.heap.size w' h' M') rv := by
  have hiw : inv w := hP.keep _ _ hi H.below
  unfold callFn at hc
  by_cases hdp : E.deep f = true
  · rw [if_pos hdp, Option.bind_eq_some_iff] at hc
    obtain ⟨p, hp, hm⟩ := hc
    obtain ⟨r, hcal⟩ := p
    obtain ⟨h1, h2⟩ := hC _ _ _ _ _ _ hp
    refine ⟨h1, ?_⟩
    refine (h2 (stableOf (cx B w0.heap.size w st.h M)) w w M rargs hiw (HR.start _ w M) (VRl.lowD H _ hv)).mono ?_
    rintro e w' ⟨rv, Mc, rfl, hr, _, hvr⟩
    obtain ⟨M', q1, q2, q3⟩ := mat_ok (hc := hcal) (Mc := Mc) H hr.below rfl hm hr (VR.expo hr _ hvr)
    exact ⟨rv, M', rfl, q1, q2, q3⟩
  rw [if_neg hdp] at hc
  cases he : extV E f (lows st.h args) with
  | some r =>
    rw [he] at hc
    simp only at hc
    unfold extV at he
    rw [Option.bind_eq_some_iff] at he
    obtain ⟨F, hF, hr⟩ := he
    obtain ⟨h1, h2⟩ := hP.ext f F hF
    refine ⟨h1, ?_⟩
    refine (h2 _ _ hr w (stableOf (cx B w0.heap.size w st.h M)) M rargs hiw (VRl.low H _ hv)).mono ?_
    rintro e w' ⟨rv, rfl, hb, hv0, hv1⟩
    obtain ⟨M', q1, q2, q3⟩ := extR_ok H hb rfl hc hv0 hv1
    exact ⟨rv, M', rfl, q1, q2, q3⟩
  | none =>
    rw [he] at hc
    simp only at hc
    split at hc
    · obtain ⟨h1, h2⟩ := hC _ _ _ _ _ _ hc
      exact ⟨h1, h2 B w0 w M rargs hi H hv⟩
    · rw [Option.bind_eq_some_iff] at hc
      obtain ⟨p, hp, hm⟩ := hc
      obtain ⟨r, hcal⟩ := p
      obtain ⟨h1, h2⟩ := hC _ _ _ _ _ _ hp
      refine ⟨h1, ?_⟩
      refine (h2 (stableOf (cx B w0.heap.size w st.h M)) w w M rargs hiw (HR.start _ w M) (VRl.low H _ hv)).mono ?_
      rintro e w' ⟨rv, Mc, rfl, hr, _, hvr⟩
      obtain ⟨M', q1, q2, q3⟩ := mat_ok (hc := hcal) (Mc := Mc) H hr.below rfl hm hr (VR.expo hr _ hvr)
      exact ⟨rv, M', rfl, q1, q2, q3⟩

theorem evOp_ok {B : Nat → Nat → Prop} {w0 : World} {st : St} {a : Act} {w : World} {M : Mp} (hi : inv w0) (hF : FR B w0 st a w M) {fid : Nat} {o : Oper} {v : AV} {h' : Heap} (he : evOp E call fid st o = some (v, h'))
    {K : Act → World → Prop} {Q : Exit → Act → World → Prop}
    (hK : ∀ rv w' M', HR B w0 w' h' M' → Gr (cx B w0.heap.size w st.h M) (cx B w0.heap.size w' h' M') → VR v (cx B w0.heap.size w' h' M') rv → K (a.put o.dst rv) w') : o.wp P a w K Q := by
  have H := hF.hr
  have hE := hP.env
  have hm : ∀ {x : Option AV} {s : Sem Value}, (x.map fun y => (y, st.h)) = some (v, h') → (∀ y, x = some y → Gives P w (cx B w0.heap.size w st.h M) s y) → Does P B w0 w st.h M s v h' := by
    intro x s hx hs
    rw [Option.map_eq_some_iff] at hx
    obtain ⟨y, hy, he2⟩ := hx
    obtain ⟨rfl, rfl⟩ := Prod.mk.inj he2
    exact (hs _ hy).does H
  unfold evOp at he
  cases hop : o.op <;> rw [hop] at he <;> simp only at he <;> try (cases he; done)
  case move x =>
    obtain ⟨rfl, rfl⟩ := Prod.mk.inj (Option.some.inj he)
    exact wp_does hP (s := pure (a.eval x)) ⟨_, w, M, rfl, H, Gr.refl _, ev_ok hP hF x⟩ (by simp [execOp, hop]) hK
  case assign x =>
    obtain ⟨rfl, rfl⟩ := Prod.mk.inj (Option.some.inj he)
    exact wp_does hP (s := pure (a.eval x)) ⟨_, w, M, rfl, H, Gr.refl _, ev_ok hP hF x⟩ (by simp [execOp, hop]) hK
  case pick c x y =>
    exact wp_does hP (hm he fun z hz => run_pickV hz (ev_ok hP hF c) (ev_ok hP hF x) (ev_ok hP hF y)) (by simp [execOp, hop, Result.andThen]; cases (asBool (a.eval c)).run P w <;> rfl) hK
  case alloc T =>
    split at he
    · cases he
    · rename_i hz
      exact wp_does hP (does_alloc hE H hz he) (by simp only [execOp, hop]; exact Sem.run_bind _ _ _ _) hK
  case box T x => exact wp_does hP (does_box hE H he (ev_ok hP hF x)) (by simp only [execOp, hop]; exact Sem.run_bind _ _ _ _) hK
  case build t ps =>
    exact wp_does hP (hm he fun z hz => run_buildV (rparts := ps.map fun p => (p.1, a.eval p.2)) hE H hz (by simpa using evps_ok hP hF ps.toList)) (by simp only [execOp, hop]; exact Sem.run_bind _ _ _ _) hK
  case buildSlice t n ps =>
    rw [Option.map_eq_some_iff] at he
    obtain ⟨y, hy, he2⟩ := he
    obtain ⟨rfl, rfl⟩ := Prod.mk.inj he2
    exact wp_does hP (does_buildS (rparts := ps.map fun p => (p.1, a.eval p.2)) hE H hy (by simpa using evps_ok hP hF ps.toList)) (by simp only [execOp, hop]; exact Sem.run_bind _ _ _ _) hK
  case load t x =>
    exact wp_does hP (hm he fun z hz => run_loadV hE H hz (ev_ok hP hF x)) (by simp only [execOp, hop]; exact Sem.run_bind _ _ _ _) hK
  case store t p x =>
    rw [Option.map_eq_some_iff] at he
    obtain ⟨hh, hy, he2⟩ := he
    obtain ⟨rfl, rfl⟩ := Prod.mk.inj he2
    obtain ⟨w', h1, h2, h3⟩ := run_storeV hE H hy (ev_ok hP hF p) (ev_ok hP hF x)
    unfold Oper.wp
    simp only [execOp, hop, Sem.run_bind, h1, Result.andThen_ok, Sem.run_pure]
    exact hK undef w' M h2 h3 (by simp [VR])
  case binOp op t x y u =>
    exact wp_does hP (hm he fun z hz => run_binO hP.env (t := t) (ox := x) (oy := y) (cx_x B w0.heap.size w st.h M) hz (ev_ok hP hF x) (ev_ok hP hF y) (fun hy => by unfold isNilC at hy; split at hy <;> first | rfl | cases hy)) (by simp only [execOp, hop]; exact Sem.run_bind _ _ _ _) hK
  case unOp op t x =>
    exact wp_does hP (hm he fun z hz => run_unV hz (ev_ok hP hF x)) (by simp only [execOp, hop]; exact Sem.run_bind _ _ _ _) hK
  case convert s d x =>
    exact wp_does hP (hm he fun z hz => run_convV hE hz (ev_ok hP hF x) (cx_x B w0.heap.size w st.h M) (fun _ _ _ h => h.1) (fun _ _ _ h => h.1)) (by simp only [execOp, hop]; exact Sem.run_bind _ _ _ _) hK
  case makeFunc fn first caps =>
    cases fn <;> simp only at he <;> try (cases he; done)
    rename_i g
    split at he
    · rename_i hf
      have hfe : first = #[] := by simpa using hf
      subst hfe
      by_cases hz : frz E fid o.dst = true
      · rw [if_pos hz] at he
        obtain ⟨key, g0, of0, T0, v0, hc0, hk0, hfl, hv0, hh0⟩ := freezeV_some he
        subst hv0
        subst hh0
        refine wp_does hP (s := pure (.func (.func g) #[] (caps.toList.map a.eval).toArray)) ⟨_, w, M, rfl, H.fz hk0, gr_fz hk0, ?_⟩ (by simp only [execOp, hop, Instr.makeFunc]; simp; apply Array.ext'; simp) hK
        have hall := evs_ok hP hF (caps.toList)
        rw [hc0] at hall
        exact frz_VR H hk0 hfl hall
      rw [if_neg hz] at he
      obtain ⟨rfl, rfl⟩ := Prod.mk.inj (Option.some.inj he)
      refine wp_does hP (s := pure (.func (.func g) #[] (caps.toList.map a.eval).toArray)) ⟨_, w, M, rfl, H, Gr.refl _, ?_⟩ (by simp only [execOp, hop, Instr.makeFunc]; simp; apply Array.ext'; simp) hK
      simp only [VR]
      exact ⟨_, rfl, evs_ok hP hF _⟩
    · cases he
  case makeSlice t l c => exact wp_does hP (does_make hE H he (ev_ok hP hF l) (ev_ok hP hF c)) (by simp only [execOp, hop]; exact Sem.run_bind _ _ _ _) hK
  case slice t x lo hi2 mx =>
    split at he
    · cases he
    · rename_i hcond
      exact wp_does hP (hm he fun z hz => run_sliceV hE H hz (ev_ok hP hF x) (evo_ok hP hF hi2) (evo_ok hP hF lo) (evo_ok hP hF mx) (by
        intro h0
        cases mx with
        | none => cases h0
        | some _ => cases hi2 with
          | none => exact (hcond ⟨rfl, rfl⟩).elim
          | some _ => rfl)) (by simp only [execOp, hop]; exact Sem.run_bind _ _ _ _) hK
  case fieldAddr s x f => exact wp_does hP (hm he fun z hz => run_fieldA hE hz (ev_ok hP hF x)) (by simp only [execOp, hop]; exact Sem.run_bind _ _ _ _) hK
  case field t x f => exact wp_does hP (hm he fun z hz => run_fieldV hE hz (ev_ok hP hF x)) (by simp only [execOp, hop]; exact Sem.run_bind _ _ _ _) hK
  case indexAddr t x i => exact wp_does hP (hm he fun z hz => run_indexA hE H hz (ev_ok hP hF x) (ev_ok hP hF i)) (by simp only [execOp, hop]; exact Sem.run_bind _ _ _ _) hK
  case index t x i => exact wp_does hP (hm he fun z hz => run_indexV hE hz (ev_ok hP hF x) (ev_ok hP hF i)) (by simp only [execOp, hop]; exact Sem.run_bind _ _ _ _) hK
  case nilCheck x =>
    rw [Option.map_eq_some_iff] at he
    obtain ⟨y, hy, he2⟩ := he
    obtain ⟨rfl, rfl⟩ := Prod.mk.inj he2
    have hx := ev_ok hP hF x
    unfold chkV at hy
    split at hy
    · rename_i key g off hk
      obtain rfl := Option.some.inj hy
      rw [hk] at hx
      obtain ⟨b, hb⟩ : ∃ b, a.eval x = .pointer (some b) := by
        have h9 := hx
        simp only [VR] at h9
        obtain ⟨b, hb, _⟩ := h9
        exact ⟨b, hb⟩
      exact wp_does hP (s := pure (a.eval x)) ⟨_, w, M, rfl, H, Gr.refl _, hx⟩ (by simp only [execOp, hop, hb]; simp) hK
    · cases hy
  case extract x i => exact wp_does hP (hm he fun z hz => run_extractV hz (ev_ok hP hF x)) (by simp only [execOp, hop]; exact Sem.run_bind _ _ _ _) hK
  case call c =>
    unfold evCall at he
    cases hc : c.callee with
    | builtin b =>
      rw [hc] at he
      dsimp only at he
      have hargs := evs_ok hP hF c.args.toList
      by_cases hrow : ownB E fid o.dst b = true
      · rw [if_pos hrow] at he
        cases b <;> simp only [ownB, Bool.false_eq_true] at hrow
        · unfold appArgsR at he
          split at he
          · rename_i x y t u e1 e2
            split at he
            · rename_i htu
              obtain rfl := htu
              rw [e1] at hargs
              simp only [VRl] at hargs
              obtain ⟨rx, _, q1, q2, ry, _, rfl, q3, rfl⟩ := hargs
              have ea : c.args.map a.eval = #[rx, ry] := by apply Array.ext'; simpa using q1
              have et : c.argTypes = #[t, t] := by apply Array.ext'; simpa using e2
              exact wp_does hP (does_appendR hE H (ty := o.type) he q2 q3) (by simp [execOp, hop, resolve, hc, invoke, builtin, ea, et]) hK
            · cases he
          · cases he
      rw [if_neg hrow] at he
      by_cases hown : ownO E fid o.dst b = true
      · rw [if_pos hown] at he
        cases b <;> simp only [ownO, Bool.false_eq_true] at hown
        · unfold appArgsO at he
          split at he
          · rename_i x y t u e1 e2
            have hargs := evs_ok hP hF c.args.toList
            split at he
            · rename_i htu
              obtain rfl := htu
              rw [e1] at hargs
              simp only [VRl] at hargs
              obtain ⟨rx, _, q1, q2, ry, _, rfl, q3, rfl⟩ := hargs
              have ea : c.args.map a.eval = #[rx, ry] := by apply Array.ext'; simpa using q1
              have et : c.argTypes = #[t, t] := by apply Array.ext'; simpa using e2
              exact wp_does hP (does_appendO hE H (ty := o.type) he q2 q3) (by simp [execOp, hop, resolve, hc, invoke, builtin, ea, et]) hK
            · cases he
          · cases he
      rw [if_neg hown] at he
      cases b <;> simp only [builtinV] at he <;> try (cases he; done)
      · -- append
        unfold appArgs at he
        split at he
        · rename_i x y t u e1 e2
          split at he
          · rename_i htu
            obtain ⟨rfl, _⟩ := htu
            rw [e1] at hargs
            simp only [VRl] at hargs
            obtain ⟨rx, _, q1, q2, ry, _, rfl, q3, rfl⟩ := hargs
            have ea : c.args.map a.eval = #[rx, ry] := by apply Array.ext'; simpa using q1
            have et : c.argTypes = #[t, t] := by apply Array.ext'; simpa using e2
            exact wp_does hP (does_append hE H (ty := o.type) he q2 q3) (by simp [execOp, hop, resolve, hc, invoke, builtin, ea, et]) hK
          · cases he
        · cases he
      · -- len
        unfold lenArgs at he
        split at he
        · rename_i x t e1 e2
          rw [e1] at hargs
          simp only [VRl] at hargs
          obtain ⟨rx, _, q1, q2, rfl⟩ := hargs
          have ea : c.args.map a.eval = #[rx] := by apply Array.ext'; simpa using q1
          have et : c.argTypes = #[t] := by apply Array.ext'; simpa using e2
          exact wp_does hP (hm he fun z hz => run_lenV hE (ty := o.type) hz q2 (fun _ _ hx => hx)) (by simp [execOp, hop, resolve, hc, invoke, builtin, ea, et]) hK
        · cases he
    | invoke r m => rw [hc] at he; cases he
    | value f =>
      rw [hc] at he
      simp only at he
      have hf := ev_ok hP hF f
      cases hv : st.ev f <;> rw [hv] at he hf <;> simp only at he <;> try (cases he; done)
      rename_i g caps
      simp only [VR] at hf
      obtain ⟨rc, hfv, hcaps⟩ := hf
      obtain ⟨⟨fn, p1, p2, p3⟩, hcal⟩ := callFn_ok hP hC hi H he ((evs_ok hP hF c.args.toList).append hcaps)
      have hrun : (execOp a.eval o).run P w = .ok (.enter g (c.args.toList.map a.eval ++ rc).toArray) w := by
        have hargs : c.args.map a.eval ++ rc.toArray = (c.args.toList.map a.eval ++ rc).toArray := by
          apply Array.ext'; simp
        simp [execOp, hop, resolve, hc, hfv, Deferred.ofValue, invoke, callFunc, p1, p2, hargs]
        cases hb : fn.body with
        | none => rw [hb] at p3; cases p3
        | some b => simp
      unfold Oper.wp
      rw [hrun]
      refine hcal.mono ?_
      rintro e w' ⟨rv, M', rfl, q1, q2, q3⟩
      exact hK rv w' M' q1 q2 q3

theorem step_ok {B : Nat → Nat → Prop} {w0 : World} {st st' : St} {a : Act} {w : World} {M : Mp} (hi : inv w0) (hF : FR B w0 st a w M) {fid : Nat} {ops : Array Oper} {o : Oper} (hs : stepOp E call fid ops st o = some st')
    {K : Act → World → Prop} {Q : Exit → Act → World → Prop}
    (hK : ∀ a' w' M', FR B w0 st' a' w' M' → Gr (cx B w0.heap.size w st.h M) (cx B w0.heap.size w' st'.h M') → K a' w') :
    if Region.wanted o (yielded ops a.tmps) then o.wp P a w K Q ∨ (o.asks P a w ∧ LetsOut Q) else K (a.put o.dst undef) w := by
  unfold stepOp at hs
  split at hs
  case isFalse => cases hs
  rename_i hd
  have hd' : ∀ d, o.dst = some d → d < st.nt := by
    intro d e
    simp only [dstOk, e, Bool.and_eq_true, decide_eq_true_eq] at hd
    exact hd.1
  cases hw : wantedV ops st o with
  | none => rw [hw] at hs; cases hs
  | some b =>
    rw [hw] at hs
    rw [wanted_ok hP hF hw]
    cases b with
    | true =>
      simp only [Option.map_eq_some_iff] at hs
      obtain ⟨p, hp, rfl⟩ := hs
      refine .inl (evOp_ok hP hC hi hF hp fun rv w' M' h1 h2 h3 => ?_)
      exact hK _ _ _ (hF.put hP h1 h2 h3 hd') (by rw [put_h]; exact h2)
    | false =>
      simp only [Option.some.injEq] at hs
      subst hs
      simp only [Bool.false_eq_true, if_false]
      exact hK _ _ _ (hF.put hP hF.hr (Gr.refl _) (by simp [VR]) hd') (by rw [put_h]; exact Gr.refl _)

theorem runI_ok {B : Nat → Nat → Prop} {w0 : World} (hi : inv w0) {fid : Nat} {ops : Array Oper} {Q : Exit → Act → World → Prop} : ∀ (l : List Nat) {st st' : St} {a : Act} {w : World} {M : Mp}, FR B w0 st a w M → runI E call fid ops l st = some st' →
    (∀ a' w' M', FR B w0 st' a' w' M' → Gr (cx B w0.heap.size w st.h M) (cx B w0.heap.size w' st'.h M') → Q .normal a' w') → wpOps P ops Q l a w
  | [], st, st', a, w, M, hF, hr, hQ => by
    simp only [runI, Option.some.injEq] at hr
    subst hr
    exact hQ a w M hF (Gr.refl _)
  | i :: l, st, st', a, w, M, hF, hr, hQ => by
    simp only [runI, Option.bind_eq_some_iff] at hr
    obtain ⟨s1, h1, h2⟩ := hr
    simp only [wpOps]
    unfold stepI at h1
    cases ho : ops[i]? with
    | none =>
      rw [ho] at h1
      simp only [Option.some.injEq] at h1
      subst h1
      exact runI_ok hi l hF h2 hQ
    | some o =>
      rw [ho] at h1
      simp only at h1
      have := step_ok hP hC (K := wpOps P ops Q l) (Q := Q) hi hF h1 fun a' w' M' hF' hg => runI_ok hi l hF' h2 fun a2 w2 M2 hF2 hg2 => hQ a2 w2 M2 hF2 (hg.trans hg2)
      exact this

def LoopWp (P : Program) (c : Code) (Q : Exit → Act → World → Prop) (a : Act) (w : World) : Prop :=
  ∀ (b : Frame) (k : List Item) (cs : List Frame), ∃ e a' w', Q e a' w' ∧ Arrives P (lone (b.at a (.code c :: .inLoop c :: k)) cs w) b k cs e a' w'

def toExit : Ex → Exit
  | .normal => .normal
  | .ret => .ret
  | .exit id => .exit id

end

theorem loop_of {P : Program} {c : Code} {Q : Exit → Act → World → Prop} {a : Act} {w : World} (h : LoopWp P c Q a w) : (Code.loop c).wp P Q a w :=
  fun b k cs => let ⟨e, a', w', hq, harr⟩ := h b k cs; ⟨e, a', w', hq, .of_steps (.one step_loop) harr⟩

theorem loop_step {P : Program} {c : Code} {Q : Exit → Act → World → Prop} {a : Act} {w : World} (h : c.wp P (Exit.then (LoopWp P c Q) Q) a w) : LoopWp P c Q a w := by
  intro b k cs
  obtain ⟨e, a₁, w₁, hq, harr⟩ := h b (.inLoop c :: k) cs
  cases e with
  | normal =>
    obtain ⟨e₂, a₂, w₂, hq₂, harr₂⟩ := hq b k cs
    exact ⟨e₂, a₂, w₂, hq₂, .of_steps (Steps.trans harr (.one step_inLoop)) harr₂⟩
  | exit id => exact ⟨_, a₁, w₁, hq, .pass (x := .inLoop c) rfl (fun _ _ => .inl (by simp)) harr⟩
  | goto l => exact ⟨_, a₁, w₁, hq, .pass (x := .inLoop c) rfl (fun _ _ => .inl (by simp)) harr⟩
  | ret => exact ⟨_, a₁, w₁, hq, .pass (x := .inLoop c) rfl (fun _ _ => .inl (by simp)) harr⟩
  | panic ch => exact ⟨_, a₁, w₁, hq, .pass (x := .inLoop c) rfl (fun _ _ => .inl (by simp)) harr⟩
  | outgrown => exact ⟨_, a₁, w₁, hq, .pass (x := .inLoop c) rfl (fun _ _ => .inl (by simp)) harr⟩

section
variable {P : Program} {E : Env} {inv : World → Prop} (hP : ProgOk E P inv)
include hP

theorem FR.drew {B : Nat → Nat → Prop} {w0 : World} {st : St} {a : Act} {w : World} {M : Mp} (hF : FR B w0 st a w M) : FR B w0 st a { w with drawn := w.drawn + 1 } M :=
  ⟨hF.hr.world (Below.drew (Below.refl _ w)), fun t => VR.mono (gr_world (Below.drew (Below.refl _ w))) _ (hF.sl t), hF.sz, hF.df⟩

/-- Code: the normal form, and a loop met again at its head. -/
def CodeOk (E : Env) (P : Program) (inv : World → Prop) (k : Nat) : Prop :=
  ∀ fid c st e st', evCode E k fid c st = some (e, st') → ∀ (B : Nat → Nat → Prop) (w0 w : World) (M : Mp) (a : Act), inv w0 → FR B w0 st a w M → ∀ Q : Exit → Act → World → Prop,
    (∀ a' w' M', FR B w0 st' a' w' M' → Gr (cx B w0.heap.size w st.h M) (cx B w0.heap.size w' st'.h M') → Q (toExit e) a' w') → c.wp P Q a w ∧ ∀ d, c = .loop d → LoopWp P d Q a w

theorem results_ok {B : Nat → Nat → Prop} {w0 : World} {st : St} {a : Act} {w : World} {M : Mp} (hF : FR B w0 st a w M) {F : Func} {v : AV} (h : resOf E st F.results.toList = some v) :
    ∃ rv, (results F a.tmps).run P w = .ok rv w ∧ VR v (cx B w0.heap.size w st.h M) rv := by
  have one : ∀ (r : ResultVar) (v : AV), resVal E st r = some v → ∃ rv, (match r with | .tmp t => (pure (a.tmps.getD t undef) : Sem Value) | .cell x t => do loadVar t (← asAddr (a.tmps.getD x undef))).run P w = .ok rv w ∧ VR v (cx B w0.heap.size w st.h M) rv := by
    intro r v hr
    cases r with
    | tmp t =>
      simp only [resVal, Option.some.injEq] at hr
      subst hr
      exact ⟨_, rfl, hF.sl t⟩
    | cell x t =>
      simp only [resVal] at hr
      obtain ⟨rv, h1, h2⟩ := run_loadV hP.env hF.hr hr (hF.sl x)
      refine ⟨rv, ?_, h2⟩
      unfold Instr.loadAt Instr.sureAddr at h1
      cases hp : a.tmps.getD x undef with
      | pointer p =>
        rw [hp] at h1
        cases p with
        | none => simp at h1
        | some ad =>
          show Sem.run P (do loadVar t (← asAddr (a.tmps.getD x undef)) : Sem Value) w = _
          rw [hp]
          simpa [asAddr] using h1
      | _ => rw [hp] at h1; simp at h1
  have many : ∀ (rs : List ResultVar) (vs : List AV), resVals E st rs = some vs → ∃ rvs, (rs.mapM fun (r : ResultVar) => match r with | .tmp t => (pure (a.tmps.getD t undef) : Sem Value) | .cell x t => do loadVar t (← asAddr (a.tmps.getD x undef))).run P w = .ok rvs w ∧ VRl vs (cx B w0.heap.size w st.h M) rvs := by
    intro rs
    induction rs with
    | nil => intro vs hv; simp only [resVals, Option.some.injEq] at hv; subst hv; exact ⟨[], by simp, by simp [VRl]⟩
    | cons r rs ih =>
      intro vs hv
      simp only [resVals, Option.bind_eq_some_iff, Option.map_eq_some_iff] at hv
      obtain ⟨x, hx, ys, hys, rfl⟩ := hv
      obtain ⟨rx, h1, h2⟩ := one r x hx
      obtain ⟨rys, h3, h4⟩ := ih ys hys
      refine ⟨rx :: rys, ?_, by simp only [VRl]; exact ⟨_, _, rfl, h2, h4⟩⟩
      rw [List.mapM_cons]
      simp only [Sem.run_bind, h1, Result.andThen_ok, h3, Sem.run_pure]
  unfold results
  unfold resOf at h
  have hmap : F.results = F.results.toList.toArray := by simp
  rw [Array.mapM_eq_mapM_toList]
  split at h
  · rename_i r hr
    obtain ⟨rv, h1, h2⟩ := many _ _ (by rw [hr]; simp [resVals, h] : resVals E st F.results.toList = some [v])
    simp only [VRl] at h2
    obtain ⟨x, _, rfl, hx, rfl⟩ := h2
    refine ⟨x, ?_, hx⟩
    simp only [Sem.run_bind, Sem.run_map, Sem.run_pure]
    erw [h1]
    rfl
  · rename_i hne
    rw [Option.map_eq_some_iff] at h
    obtain ⟨vs, hvs, rfl⟩ := h
    obtain ⟨rvs, h1, h2⟩ := many _ _ hvs
    refine ⟨.tuple rvs.toArray, ?_, by simp only [VR]; exact ⟨rvs, rfl, h2⟩⟩
    have hl : rvs.length ≠ 1 := by
      intro e1
      have hvl : vs.length = 1 := by rw [← h2.length, e1]
      have : ∀ (rs : List ResultVar) (ys : List AV), resVals E st rs = some ys → ys.length = rs.length := by
        intro rs
        induction rs with
        | nil => intro ys hy; simp only [resVals, Option.some.injEq] at hy; subst hy; rfl
        | cons r rs ih =>
          intro ys hy
          simp only [resVals, Option.bind_eq_some_iff, Option.map_eq_some_iff] at hy
          obtain ⟨x, _, zs, hz, rfl⟩ := hy
          simp [ih zs hz]
      have h9 := this _ _ hvs
      rw [hvl] at h9
      obtain ⟨r, hr⟩ := List.length_eq_one_iff.1 h9.symm
      exact hne r hr
    simp only [Sem.run_bind, Sem.run_map, Sem.run_pure]
    erw [h1]
    simp [hl]

theorem sound : ∀ k, CodeOk E P inv k ∧ CallOk P inv (evOpen E k)
  | 0 => ⟨fun _ _ _ _ _ h => by simp [evCode] at h, fun _ _ _ _ _ _ h => by simp [evOpen] at h⟩
  | k + 1 => by
    obtain ⟨ih1, ih2⟩ := sound k
    constructor
    · intro fid c st e st' h B w0 w M a hi hF Q hQ
      have noloop : ∀ {x : Code}, (∀ d, x ≠ .loop d) → x.wp P Q a w → x.wp P Q a w ∧ ∀ d, x = .loop d → LoopWp P d Q a w := fun hx hw => ⟨hw, fun d e => (hx d e).elim⟩
      cases c with
      | skip =>
        simp only [evCode, Option.some.injEq] at h
        obtain ⟨rfl, rfl⟩ := Prod.mk.inj h
        exact noloop (by simp) (wp_skip (hQ a w M hF (Gr.refl _)))
      | region id ops draw =>
        rw [evCode, Option.map_eq_some_iff] at h
        obtain ⟨s1, h1, h2⟩ := h
        obtain ⟨rfl, rfl⟩ := Prod.mk.inj h2
        refine noloop (by simp) ?_
        cases draw with
        | false =>
          refine wp_region ?_
          rw [List.range_eq_range', ← Array.length_toList]
          have h1 : runOps E (evOpen E k) fid ops ops.toList st = some s1 := by simpa [runReg] using h1
          exact runI_ok hP ih2 hi _ hF (by rw [runI_range ops.toList 0 st (by simp)]; exact h1) hQ
        | true =>
          refine wp_region_draw fun t => ?_
          have hdr := hF.drew hP
          have hrun : ∀ mixed t, runI E (evOpen E k) fid ops (Region.schedule mixed ops t) st = some s1 := by
            intro mixed t
            unfold runReg at h1
            split at h1
            · split at h1
              · rename_i h2; exact run_schedule2 h2 mixed t h1
              · split at h1
                · rename_i h2; exact run_schedule3 h2 mixed t h1
                · split at h1
                  · rename_i h2; exact run_schedule4 h2 mixed t h1
                  · cases h1
            · rename_i hd
              have hd' : drawOk E fid ops = true := by simpa using hd
              rw [run_schedule hd']; exact h1
          refine runI_ok hP ih2 hi _ hdr (hrun _ _) fun a' w' M' hF' hg => hQ a' w' M' hF' (Gr.trans (gr_world (Below.drew (Below.refl _ w))) hg)
      | seq x y =>
        rw [evCode] at h
        refine noloop (by simp) ?_
        cases hx : evCode E k fid x st with
        | none => rw [hx] at h; cases h
        | some p =>
          obtain ⟨e1, s1⟩ := p
          rw [hx] at h
          refine wp_seq (ih1 _ _ _ _ _ hx B w0 w M a hi hF _ fun a' w' M' hF' hg => ?_).1
          cases e1 with
          | normal => exact (ih1 _ _ _ _ _ h B w0 w' M' a' hi hF' Q fun a2 w2 M2 hF2 hg2 => hQ a2 w2 M2 hF2 (hg.trans hg2)).1
          | ret => obtain ⟨rfl, rfl⟩ := Prod.mk.inj (Option.some.inj h); exact hQ a' w' M' hF' hg
          | exit i => obtain ⟨rfl, rfl⟩ := Prod.mk.inj (Option.some.inj h); exact hQ a' w' M' hF' hg
      | cond x y z =>
        rw [evCode] at h
        refine noloop (by simp) ?_
        have hv := ev_ok hP hF x
        cases hx : st.ev x <;> rw [hx] at h hv <;> try (cases h; done)
        rename_i t
        simp only [VR] at hv
        exact wp_cond hv (ih1 _ _ _ _ _ h B w0 w M a hi hF Q hQ).1
      | block id x =>
        rw [evCode] at h
        refine noloop (by simp) (wp_block ?_)
        cases hx : evCode E k fid x st with
        | none => rw [hx] at h; cases h
        | some p =>
          obtain ⟨e1, s1⟩ := p
          rw [hx] at h
          refine (ih1 _ _ _ _ _ hx B w0 w M a hi hF _ fun a' w' M' hF' hg => ?_).1
          cases e1 with
          | normal => obtain ⟨rfl, rfl⟩ := Prod.mk.inj (Option.some.inj h); exact hQ a' w' M' hF' hg
          | ret => obtain ⟨rfl, rfl⟩ := Prod.mk.inj (Option.some.inj h); exact hQ a' w' M' hF' hg
          | exit i =>
            simp only at h
            simp only [toExit, Exit.inBlock]
            split at h
            · rename_i e1
              rw [if_pos e1]
              obtain ⟨rfl, rfl⟩ := Prod.mk.inj (Option.some.inj h); exact hQ a' w' M' hF' hg
            · rename_i e1
              rw [if_neg e1]
              obtain ⟨rfl, rfl⟩ := Prod.mk.inj (Option.some.inj h); exact hQ a' w' M' hF' hg
      | loop x =>
        rw [evCode] at h
        suffices hl : LoopWp P x Q a w from ⟨loop_of hl, fun d e => by cases e; exact hl⟩
        refine loop_step ?_
        cases hx : evCode E k fid x st with
        | none => rw [hx] at h; cases h
        | some p =>
          obtain ⟨e1, s1⟩ := p
          rw [hx] at h
          refine (ih1 _ _ _ _ _ hx B w0 w M a hi hF _ fun a' w' M' hF' hg => ?_).1
          cases e1 with
          | normal => exact (ih1 _ _ _ _ _ h B w0 w' M' a' hi hF' Q fun a2 w2 M2 hF2 hg2 => hQ a2 w2 M2 hF2 (hg.trans hg2)).2 x rfl
          | ret => obtain ⟨rfl, rfl⟩ := Prod.mk.inj (Option.some.inj h); exact hQ a' w' M' hF' hg
          | exit i => obtain ⟨rfl, rfl⟩ := Prod.mk.inj (Option.some.inj h); exact hQ a' w' M' hF' hg
      | exit id =>
        simp only [evCode, Option.some.injEq] at h
        obtain ⟨rfl, rfl⟩ := Prod.mk.inj h
        exact noloop (by simp) (wp_exit (hQ a w M hF (Gr.refl _)))
      | ret =>
        simp only [evCode, Option.some.injEq] at h
        obtain ⟨rfl, rfl⟩ := Prod.mk.inj h
        exact noloop (by simp) (wp_ret (hQ a w M hF (Gr.refl _)))
      | rangeFunc f p x y => simp [evCode] at h
      | scope b => simp [evCode] at h
      | label l => simp [evCode] at h
      | goto l => simp [evCode] at h
      | refuse w => simp [evCode] at h
    · intro f args h off res h' hc
      rw [evOpen] at hc
      cases hf : E.fn f with
      | none => rw [hf] at hc; cases hc
      | some F =>
        rw [hf] at hc
        simp only at hc
        cases hb : F.body with
        | none => rw [hb] at hc; cases hc
        | some c =>
          rw [hb] at hc
          simp only at hc
          split at hc
          case isFalse => cases hc
          rename_i hlen
          obtain ⟨p1, p2⟩ := hP.fn f F hf
          refine ⟨⟨F, p1, p2, by rw [hb]; rfl⟩, fun B w0 w M rargs hi H hv => ?_⟩
          refine calls_of_wp p1 hb ?_
          have hrl := hv.length
          have hF0 : FR B w0 { s := argSlots args, h := h, off := off, nt := F.ntmps } { tmps := rargs.toArray ++ Array.replicate (F.ntmps - rargs.toArray.size) undef, defers := [] } w M := by
            refine ⟨H, fun t => ?_, by simp; omega, rfl⟩
            simp only [argSlots]
            by_cases ht : t < args.length
            · obtain ⟨r, hr, hvr⟩ := hv.get t args[t] (List.getElem?_eq_getElem ht)
              have e1 : args.getD t .un = args[t] := by simp [List.getD, ht]
              have e2 : (rargs.toArray ++ Array.replicate (F.ntmps - rargs.toArray.size) undef).getD t undef = r := by
                rw [Array.getD_eq_getD_getElem?, Array.getElem?_append_left (by simp; omega)]
                simp [hr]
              rw [e1, e2]; exact hvr
            · have e1 : args.getD t .un = .un := by simp [List.getD, List.getElem?_eq_none (Nat.le_of_not_lt ht)]
              rw [e1]; simp [VR]
          cases he : evCode E k f c { s := argSlots args, h := h, off := off, nt := F.ntmps } with
          | none => rw [he] at hc; cases hc
          | some p =>
            obtain ⟨e, st⟩ := p
            rw [he] at hc
            have fin : (resOf E st F.results.toList).map (fun v => (v, st.h)) = some (res, h') → ∀ a' w' M', FR B w0 st a' w' M' → Gr (cx B w0.heap.size w h M) (cx B w0.heap.size w' st.h M') →
                a'.defers = [] ∧ ∃ v, (results F a'.tmps).run P w' = .ok v w' ∧ ∃ rv M', Ending.returned v = .returned rv ∧ HR B w0 w' h' M' ∧ Gr (cx B w0.heap.size w h M) (cx B w0.heap.size w' h' M') ∧ VR res (cx B w0.heap.size w' h' M') rv := by
              intro hm a' w' M' hF' hg
              rw [Option.map_eq_some_iff] at hm
              obtain ⟨v, hv2, he2⟩ := hm
              obtain ⟨rfl, rfl⟩ := Prod.mk.inj he2
              obtain ⟨rv, q1, q2⟩ := results_ok hP hF' hv2
              exact ⟨hF'.df, rv, q1, rv, M', rfl, hF'.hr, hg, q2⟩
            cases e with
            | normal =>
              refine (ih1 _ _ _ _ _ he B w0 w M _ hi hF0 _ fun a' w' M' hF' hg => ?_).1
              obtain ⟨q1, v, q2, q3⟩ := fin hc a' w' M' hF' hg
              exact ⟨q1, v, q2, q3⟩
            | ret =>
              refine (ih1 _ _ _ _ _ he B w0 w M _ hi hF0 _ fun a' w' M' hF' hg => ?_).1
              obtain ⟨q1, v, q2, q3⟩ := fin hc a' w' M' hF' hg
              exact ⟨q1, v, q2, q3⟩
            | exit i => cases hc
end

end Go.Proofs.YtlglhokpaplifaaGreatDoor.Ev
