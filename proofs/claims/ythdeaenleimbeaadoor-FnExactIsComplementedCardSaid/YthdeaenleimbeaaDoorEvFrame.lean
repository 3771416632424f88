/- What a stretch of code leaves as it was; loops with such frames. Conditions: none. -/
import Derived.Test.YthdeaenleimbeaaDoorEvSimp
namespace Go.Proofs.YthdeaenleimbeaaDoor.Ev
set_option linter.unusedVariables false
set_option linter.unusedSimpArgs false
set_option linter.unusedSectionVars false

def writesOf : Code → List Nat
  | .region _ ops _ => ops.toList.filterMap Oper.dst
  | .seq a b => writesOf a ++ writesOf b
  | .cond _ a b => writesOf a ++ writesOf b
  | .block _ c => writesOf c
  | .loop c => writesOf c
  | _ => []
def pureC (E : Env) (fid : Nat) : Code → Bool
  | .region _ ops _ => ops.toList.all fun o => effOf E fid o != .write
  | .seq a b => pureC E fid a && pureC E fid b
  | .cond _ a b => pureC E fid a && pureC E fid b
  | .block _ c => pureC E fid c
  | .loop c => pureC E fid c
  | _ => true

/-- From st to st', only what D names is written. -/
structure Fr (D : List Nat) (p : Bool) (st st' : St) : Prop where
  off : st'.off = st.off
  nt : st'.nt = st.nt
  s : ∀ t, t ∉ D → st'.s t = st.s t
  h : p = true → st'.h = st.h
theorem Fr.refl {D : List Nat} {p : Bool} {st : St} : Fr D p st st := ⟨rfl, rfl, fun _ _ => rfl, fun _ => rfl⟩
theorem Fr.trans {D : List Nat} {p : Bool} {a b c : St} (x : Fr D p a b) (y : Fr D p b c) : Fr D p a c :=
  ⟨y.off.trans x.off, y.nt.trans x.nt, fun t h => (y.s t h).trans (x.s t h), fun h => (y.h h).trans (x.h h)⟩
theorem Fr.weak {D D' : List Nat} {p p' : Bool} {a b : St} (x : Fr D p a b) (hD : ∀ t ∈ D, t ∈ D') (hp : p' = true → p = true) : Fr D' p' a b :=
  ⟨x.off, x.nt, fun t h => x.s t (fun hx => h (hD t hx)), fun h => x.h (hp h)⟩

theorem runOps_fr {E : Env} {call : CallT} {fid : Nat} {ops : Array Oper} : ∀ (l : List Oper) {st st' : St}, runOps E call fid ops l st = some st' →
    Fr (l.filterMap Oper.dst) (l.all fun o => effOf E fid o != .write) st st'
  | [], st, st', h => by simp only [runOps, Option.some.injEq] at h; subst h; exact Fr.refl
  | o :: l, st, st', h => by
    simp only [runOps, Option.bind_eq_some_iff] at h
    obtain ⟨s1, h1, h2⟩ := h
    have ih := runOps_fr l h2
    have h0 : Fr (o.dst.toList ++ l.filterMap Oper.dst) (effOf E fid o != .write) st s1 := by
      have key : ∀ v hh, (effOf E fid o ≠ .write → hh = st.h) → Fr (o.dst.toList ++ l.filterMap Oper.dst) (effOf E fid o != .write) st (st.put o.dst v hh) := fun v hh hk =>
        ⟨put_off, put_nt, fun t ht => put_s fun x hx e => ht (List.mem_append.mpr (.inl (e ▸ hx))), fun hp => by rw [put_h]; exact hk (by simpa using hp)⟩
      unfold stepOp at h1
      split at h1
      · split at h1
        · rw [Option.map_eq_some_iff] at h1
          obtain ⟨p, hp, rfl⟩ := h1
          exact key _ _ fun he => evOp_keeps he hp
        · simp only [Option.some.injEq] at h1; subst h1
          exact key _ _ fun _ => rfl
        · cases h1
      · cases h1
    refine (h0.weak (fun t ht => ?_) (fun hp => ?_)).trans (ih.weak (fun t ht => ?_) (fun hp => ?_))
    · cases hd : o.dst with
      | none => simpa [hd] using ht
      | some d => simpa [hd] using ht
    · simp only [List.all_cons, Bool.and_eq_true] at hp; exact hp.1
    · cases hd : o.dst with
      | none => simpa [hd] using ht
      | some d => simp [hd] at ht ⊢; exact .inr ht
    · simp only [List.all_cons, Bool.and_eq_true] at hp; exact hp.2

theorem evCode_fr {E : Env} {fid : Nat} : ∀ (k : Nat) {c : Code} {st : St} {e : Ex} {st' : St}, evCode E k fid c st = some (e, st') → Fr (writesOf c) (pureC E fid c) st st'
  | 0, _, _, _, _, h => by simp [evCode] at h
  | k + 1, c, st, e, st', h => by
    cases c with
    | skip => simp only [evCode, Option.some.injEq] at h; obtain ⟨rfl, rfl⟩ := Prod.mk.inj h; exact Fr.refl
    | ret => simp only [evCode, Option.some.injEq] at h; obtain ⟨rfl, rfl⟩ := Prod.mk.inj h; exact Fr.refl
    | exit i => simp only [evCode, Option.some.injEq] at h; obtain ⟨rfl, rfl⟩ := Prod.mk.inj h; exact Fr.refl
    | region id ops draw =>
      rw [evCode, Option.map_eq_some_iff] at h
      obtain ⟨p, hp, hr⟩ := h
      obtain ⟨rfl, rfl⟩ := Prod.mk.inj hr
      unfold runReg at hp
      split at hp
      · split at hp
        · exact runOps_fr _ (runD_runOps _ hp)
        · split at hp
          · exact runOps_fr _ (runD_runOps _ hp)
          · cases hp
      · exact runOps_fr _ hp
    | seq a b =>
      rw [evCode] at h
      cases ha : evCode E k fid a st with
      | none => rw [ha] at h; cases h
      | some p =>
        obtain ⟨e1, s1⟩ := p
        have h1 := (evCode_fr k ha).weak (D' := writesOf (.seq a b)) (p' := pureC E fid (.seq a b)) (fun t ht => List.mem_append.mpr (.inl ht)) (fun hp => by simp only [pureC, Bool.and_eq_true] at hp; exact hp.1)
        rw [ha] at h
        cases e1 with
        | normal => exact h1.trans ((evCode_fr k h).weak (fun t ht => List.mem_append.mpr (.inr ht)) (fun hp => by simp only [pureC, Bool.and_eq_true] at hp; exact hp.2))
        | ret => obtain ⟨rfl, rfl⟩ := Prod.mk.inj (Option.some.inj h); exact h1
        | exit i => obtain ⟨rfl, rfl⟩ := Prod.mk.inj (Option.some.inj h); exact h1
    | cond x a b =>
      rw [evCode] at h
      cases hx : st.ev x <;> rw [hx] at h <;> first | (cases h; done) | skip
      rename_i t
      cases t
      · exact (evCode_fr k h).weak (fun t ht => List.mem_append.mpr (.inr ht)) (fun hp => by simp only [pureC, Bool.and_eq_true] at hp; exact hp.2)
      · exact (evCode_fr k h).weak (fun t ht => List.mem_append.mpr (.inl ht)) (fun hp => by simp only [pureC, Bool.and_eq_true] at hp; exact hp.1)
    | block id c =>
      rw [evCode] at h
      cases ha : evCode E k fid c st with
      | none => rw [ha] at h; cases h
      | some p =>
        obtain ⟨e1, s1⟩ := p
        have h1 := evCode_fr k ha
        rw [ha] at h
        cases e1 with
        | normal => obtain ⟨rfl, rfl⟩ := Prod.mk.inj (Option.some.inj h); exact h1
        | ret => obtain ⟨rfl, rfl⟩ := Prod.mk.inj (Option.some.inj h); exact h1
        | exit i =>
          dsimp only at h
          split at h
          · obtain ⟨rfl, rfl⟩ := Prod.mk.inj (Option.some.inj h); exact h1
          · obtain ⟨rfl, rfl⟩ := Prod.mk.inj (Option.some.inj h); exact h1
    | loop c =>
      rw [evCode] at h
      cases ha : evCode E k fid c st with
      | none => rw [ha] at h; cases h
      | some p =>
        obtain ⟨e1, s1⟩ := p
        have h1 := evCode_fr k ha
        rw [ha] at h
        cases e1 with
        | normal =>
          have h2 : evCode E k fid (.loop c) s1 = some (e, st') := h
          exact h1.trans (evCode_fr k (c := .loop c) h2)
        | ret => obtain ⟨rfl, rfl⟩ := Prod.mk.inj (Option.some.inj h); exact h1
        | exit i => obtain ⟨rfl, rfl⟩ := Prod.mk.inj (Option.some.inj h); exact h1
    | rangeFunc f p a b => simp [evCode] at h
    | scope b => simp [evCode] at h
    | label l => simp [evCode] at h
    | goto l => simp [evCode] at h
    | refuse w => simp [evCode] at h

theorem W.frame {E : Env} {fid : Nat} {c : Code} {st : St} {Q : Ex → St → Prop} (h : W E fid c st Q) : W E fid c st fun e s => Q e s ∧ Fr (writesOf c) (pureC E fid c) st s := by
  obtain ⟨k, e, st', h1, h2⟩ := h
  exact ⟨k, e, st', h1, h2, evCode_fr k h1⟩

/-- A counting loop that leaves the memory as it was: J speaks of the slots that the loop writes (D); the others are as they were. -/
theorem W_loopF {E : Env} {fid : Nat} {c : Code} {Q : Ex → St → Prop} {s0 : Nat → AV} {h : Heap} {off nt : Nat} (D : List Nat) (n : Nat) (J : Nat → (Nat → AV) → Prop) {i0 : Nat}
    (hD : ∀ t ∈ writesOf c, t ∈ D) (hp : pureC E fid c = true) (hi : i0 ≤ n) (h0 : J i0 s0)
    (hround : ∀ i s, i ≤ n → (∀ t, t ∉ D → s t = s0 t) → J i s → W E fid c ⟨s, h, off, nt⟩ (thenQ (fun s' => i < n ∧ J (i + 1) s'.s) Q)) :
    WL E fid c ⟨s0, h, off, nt⟩ Q ⟨⟩ := by
  refine W_for n (fun i s => J i s.s ∧ Fr D true ⟨s0, h, off, nt⟩ s) (fun i st hle ⟨hJ, hf⟩ => ?_) hi ⟨h0, Fr.refl⟩
  obtain ⟨s, h', off', nt'⟩ := st
  have e1 : off' = off := hf.off
  have e2 : nt' = nt := hf.nt
  have e3 : h' = h := hf.h rfl
  have hs : ∀ t, t ∉ D → s t = s0 t := hf.s
  clear hf
  subst e1 e2 e3
  refine (hround i s hle (fun t ht => hs t ht) hJ).frame.mono fun e s' hq => ?_
  obtain ⟨hq, hfr⟩ := hq
  have hfr := hfr.weak (p' := true) hD (fun _ => hp)
  cases e with
  | normal => exact ⟨hq.1, hq.2, Fr.trans (b := ⟨s, h', off', nt'⟩) ⟨rfl, rfl, hs, fun _ => rfl⟩ hfr⟩
  | ret => exact hq
  | exit i => exact hq

/-- A counting loop that writes memory. -/
theorem W_loopH {E : Env} {fid : Nat} {c : Code} {Q : Ex → St → Prop} {s0 : Nat → AV} {h : Heap} {off nt : Nat} (D : List Nat) (n : Nat) (J : Nat → (Nat → AV) → Heap → Prop) {i0 : Nat}
    (hD : ∀ t ∈ writesOf c, t ∈ D) (hi : i0 ≤ n) (h0 : J i0 s0 h)
    (hround : ∀ i s h, i ≤ n → (∀ t, t ∉ D → s t = s0 t) → J i s h → W E fid c ⟨s, h, off, nt⟩ (thenQ (fun s' => i < n ∧ J (i + 1) s'.s s'.h) Q)) :
    WL E fid c ⟨s0, h, off, nt⟩ Q ⟨⟩ := by
  refine W_for n (fun i s => J i s.s s.h ∧ Fr D false ⟨s0, h, off, nt⟩ s) (fun i st hle ⟨hJ, hf⟩ => ?_) hi ⟨h0, Fr.refl⟩
  obtain ⟨s, h', off', nt'⟩ := st
  have e1 : off' = off := hf.off
  have e2 : nt' = nt := hf.nt
  have hs : ∀ t, t ∉ D → s t = s0 t := hf.s
  clear hf
  subst e1 e2
  refine (hround i s h' hle (fun t ht => hs t ht) hJ).frame.mono fun e s' hq => ?_
  obtain ⟨hq, hfr⟩ := hq
  have hfr := hfr.weak (p' := false) hD (fun h => by cases h)
  cases e with
  | normal => exact ⟨hq.1, hq.2, Fr.trans (b := ⟨s, h', off', nt'⟩) ⟨rfl, rfl, hs, fun h => by cases h⟩ hfr⟩
  | ret => exact hq
  | exit i => exact hq

/-- A counting loop that leaves the memory as it was. -/
theorem W_loopP {E : Env} {fid : Nat} {c : Code} {Q : Ex → St → Prop} {s0 : Nat → AV} {h : Heap} {off nt : Nat} (n : Nat) (J : Nat → (Nat → AV) → Prop)
    (hp : pureC E fid c = true) (h0 : J 0 s0)
    (hround : ∀ i s, i ≤ n → J i s → W E fid c ⟨s, h, off, nt⟩ (thenQ (fun s' => i < n ∧ J (i + 1) s'.s) Q)) :
    WL E fid c ⟨s0, h, off, nt⟩ Q ⟨⟩ := W_loopF (writesOf c) n J (fun _ h => h) hp (Nat.zero_le _) h0 fun i s hi _ hj => hround i s hi hj
/-- A counting loop that writes memory. -/
theorem W_loopG {E : Env} {fid : Nat} {c : Code} {Q : Ex → St → Prop} {s0 : Nat → AV} {h : Heap} {off nt : Nat} (n : Nat) (J : Nat → (Nat → AV) → Heap → Prop)
    (h0 : J 0 s0 h)
    (hround : ∀ i s h, i ≤ n → J i s h → W E fid c ⟨s, h, off, nt⟩ (thenQ (fun s' => i < n ∧ J (i + 1) s'.s s'.h) Q)) :
    WL E fid c ⟨s0, h, off, nt⟩ Q ⟨⟩ := W_loopH (writesOf c) n J (fun _ h => h) (Nat.zero_le _) h0 fun i s h hi _ hj => hround i s h hi hj

end Go.Proofs.YthdeaenleimbeaaDoor.Ev
