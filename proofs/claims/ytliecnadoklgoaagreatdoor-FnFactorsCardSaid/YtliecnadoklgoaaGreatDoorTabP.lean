/- Meets and joins are there: plain Lean. Conditions: none. -/
import Derived.Test.YtliecnadoklgoaaGreatDoorStrP
namespace Go.Proofs.YtliecnadoklgoaaGreatDoor
open Ev
set_option linter.unusedVariables false
set_option linter.unusedSimpArgs false

theorem mem_cls {N : Nat} (hN : N ≤ 6) {cl : Nat → Nat} {s : Nat} (h : s < 2 ^ N) (hc : cl s = s) : s ∈ Lect.cls N cl 64 := by
  unfold Lect.cls
  rw [List.mem_filter]
  have hr := Lect.rev_back (Lect.small hN h)
  exact ⟨List.mem_map.2 ⟨Lect.rev6 s, List.mem_range.2 hr.2, hr.1⟩, by simp [h, hc]⟩
/-- what is closed is there -/
theorem closed_at {N : Nat} {xs : List Int} (hc : PCtx N xs) {s : Nat} (h : s < 2 ^ N) (hs : cloN xs N s = s) : ∃ k, ∃ h : k < (conL N xs).length, (conL (N : Int) xs)[k] = s := by
  have hm := mem_cls (clo_cl hc).n6 h hs
  rw [← conL_eq hc] at hm
  obtain ⟨k, hk, e⟩ := List.getElem_of_mem hm
  exact ⟨k, hk, e⟩
theorem and_closed {N : Nat} {cl : Nat → Nat} (C : Lect.Cl N cl) {s t : Nat} (hs : s < 2 ^ N) (ht : t < 2 ^ N) (h1 : cl s = s) (h2 : cl t = t) : cl (s &&& t) = s &&& t := by
  have hlt : s &&& t < 2 ^ N := Nat.and_lt_two_pow _ ht
  have a1 := C.mono (s &&& t) s hlt hs h1 (by rw [Lect.and_iff]; intro i hi; rw [Nat.testBit_and, Bool.and_eq_true] at hi; exact hi.1)
  have a2 := C.mono (s &&& t) t hlt ht h2 (by rw [Lect.and_iff]; intro i hi; rw [Nat.testBit_and, Bool.and_eq_true] at hi; exact hi.2)
  have a3 := C.ext (s &&& t) hlt
  rw [Lect.and_iff] at a1 a2 a3
  apply Nat.eq_of_testBit_eq
  intro i
  rw [Bool.eq_iff_iff]
  exact ⟨fun h => by rw [Nat.testBit_and, a1 i h, a2 i h]; rfl, fun h => a3 i h⟩
theorem andI_nat (a b : Nat) : andI (a : Int) (b : Int) = ((a &&& b : Nat) : Int) := rfl
/-- a place in the list where something holds alone -/
theorem idxP_at {p : Int → Int → Bool} {n : Int} {xs : List Int} {k : Nat} (hk : k < (conL n xs).length) (hp : p (nth (fsts (conW n xs)) k) (nth (snds (conW n xs)) k) = true)
    (hu : ∀ j, j < (conL n xs).length → p (nth (fsts (conW n xs)) j) (nth (snds (conW n xs)) j) = true → j = k) : idxP p (fsts (conW n xs)) (snds (conW n xs)) = k := by
  have hfl := conW_len n xs
  exact idxP_some (by omega) hp fun j hj => by
    cases hq : p (nth (fsts (conW n xs)) j) (nth (snds (conW n xs)) j) with
    | false => rfl
    | true => have := hu j (by omega) hq; omega
/-- the join of two -/
theorem join_at {N : Nat} {xs : List Int} (hc : PCtx N xs) {a b : Nat} (ha : a < (conL N xs).length) (hb : b < (conL N xs).length) :
    ∃ k, k < (conL N xs).length ∧ idxP (inP (andI (nth (snds (conW N xs)) a) (nth (snds (conW N xs)) b))) (fsts (conW N xs)) (snds (conW N xs)) = (k : Nat) ∧ nth (snds (conW N xs)) k = andI (nth (snds (conW N xs)) a) (nth (snds (conW N xs)) b) := by
  obtain ⟨_, a1, a2⟩ := closed_get ha
  obtain ⟨_, b1, b2⟩ := closed_get hb
  simp only [Int.toNat_natCast] at a1 a2 b1 b2
  obtain ⟨k, hk, e⟩ := closed_at hc (Nat.and_lt_two_pow _ b1) (and_closed (clo_cl hc) a1 b1 a2 b2)
  have hS : nth (snds (conW N xs)) k = andI (nth (snds (conW N xs)) a) (nth (snds (conW N xs)) b) := by rw [nthS hk, e, nthS ha, nthS hb, andI_nat]
  refine ⟨k, hk, idxP_at hk (by simp [inP, hS]) fun j hj h => ?_, hS⟩
  simp only [inP, decide_eq_true_eq] at h
  exact S_inj hj hk (h.trans hS.symm)
/-- the meet of two: by extents, and by intents -/
theorem meet_at {N : Nat} {xs : List Int} (hc : PCtx N xs) {a b : Nat} (ha : a < (conL N xs).length) (hb : b < (conL N xs).length) :
    ∃ k, k < (conL N xs).length ∧ idxP (exP (andI (nth (fsts (conW N xs)) a) (nth (fsts (conW N xs)) b))) (fsts (conW N xs)) (snds (conW N xs)) = (k : Nat) ∧
      idxP (inP (IntS xs N (andI (nth (fsts (conW N xs)) a) (nth (fsts (conW N xs)) b)))) (fsts (conW N xs)) (snds (conW N xs)) = (k : Nat) ∧
      nth (fsts (conW N xs)) k = andI (nth (fsts (conW N xs)) a) (nth (fsts (conW N xs)) b) := by
  have hC := clo_cl hc
  have hN8 : N ≤ 8 := by have := hC.n6; omega
  obtain ⟨_, a1, _⟩ := closed_get ha
  obtain ⟨_, b1, _⟩ := closed_get hb
  simp only [Int.toNat_natCast] at a1 b1
  have pa := pset_nat hN8 a1
  have pb := pset_nat hN8 b1
  have hE := andI_ext hc pa pb
  have pu := pset_or pa pb
  rw [← nthF ha, ← nthF hb] at hE
  generalize ((((conL (N : Int) xs)[a] : Nat) : Int).toNat ||| (((conL (N : Int) xs)[b] : Nat) : Int).toNat : Nat) = u at hE pu
  generalize andI (nth (fsts (conW N xs)) a) (nth (fsts (conW N xs)) b) = E at hE ⊢
  have hu := (nat_pset pu).1
  rw [Int.toNat_natCast] at hu
  obtain ⟨k, hk, e⟩ := closed_at hc (hC.lt u hu) (hC.idem u hu)
  have hF : nth (fsts (conW N xs)) k = E := by rw [nthF hk, e, hE, cloN_cast, ext_clo hc pu]
  have hS : nth (snds (conW N xs)) k = IntS xs N E := by rw [nthS hk, e, hE, cloN_cast]; rfl
  refine ⟨k, hk, idxP_at hk (by simp [exP, hF]) fun j hj h => ?_, idxP_at hk (by simp [inP, hS]) fun j hj h => ?_, hF⟩
  · simp only [exP, decide_eq_true_eq] at h
    exact F_inj hj hk (h.trans hF.symm)
  · simp only [inP, decide_eq_true_eq] at h
    exact S_inj hj hk (h.trans hS.symm)
/-- meets and joins as numbers -/
noncomputable def meetK (n : Int) (xs : List Int) (a b : Nat) : Nat := (idxP (exP (andI (nth (fsts (conW n xs)) a) (nth (fsts (conW n xs)) b))) (fsts (conW n xs)) (snds (conW n xs))).toNat
noncomputable def joinK (n : Int) (xs : List Int) (a b : Nat) : Nat := (idxP (inP (andI (nth (snds (conW n xs)) a) (nth (snds (conW n xs)) b))) (fsts (conW n xs)) (snds (conW n xs))).toNat
theorem meetK_lt {N : Nat} {xs : List Int} (hc : PCtx N xs) {a b : Nat} (ha : a < (conL N xs).length) (hb : b < (conL N xs).length) : meetK N xs a b < (conL N xs).length := by
  obtain ⟨k, h1, h2, _⟩ := meet_at hc ha hb
  unfold meetK; rw [h2]; exact h1
theorem joinK_lt {N : Nat} {xs : List Int} (hc : PCtx N xs) {a b : Nat} (ha : a < (conL N xs).length) (hb : b < (conL N xs).length) : joinK N xs a b < (conL N xs).length := by
  obtain ⟨k, h1, h2, _⟩ := join_at hc ha hb
  unfold joinK; rw [h2]; exact h1
theorem meetK_ex {N : Nat} {xs : List Int} (hc : PCtx N xs) {a b : Nat} (ha : a < (conL N xs).length) (hb : b < (conL N xs).length) : idxP (exP (andI (nth (fsts (conW N xs)) a) (nth (fsts (conW N xs)) b))) (fsts (conW N xs)) (snds (conW N xs)) = meetK N xs a b := by
  obtain ⟨k, h1, h2, _⟩ := meet_at hc ha hb
  unfold meetK; rw [h2]; rfl
theorem meetK_in {N : Nat} {xs : List Int} (hc : PCtx N xs) {a b : Nat} (ha : a < (conL N xs).length) (hb : b < (conL N xs).length) : idxP (inP (IntS xs N (andI (nth (fsts (conW N xs)) a) (nth (fsts (conW N xs)) b)))) (fsts (conW N xs)) (snds (conW N xs)) = meetK N xs a b := by
  obtain ⟨k, h1, h2, h3, _⟩ := meet_at hc ha hb
  unfold meetK; rw [h2, h3]; rfl
theorem joinK_in {N : Nat} {xs : List Int} (hc : PCtx N xs) {a b : Nat} (ha : a < (conL N xs).length) (hb : b < (conL N xs).length) : idxP (inP (andI (nth (snds (conW N xs)) a) (nth (snds (conW N xs)) b))) (fsts (conW N xs)) (snds (conW N xs)) = joinK N xs a b := by
  obtain ⟨k, h1, h2, _⟩ := join_at hc ha hb
  unfold joinK; rw [h2]; rfl
theorem meetK_F {N : Nat} {xs : List Int} (hc : PCtx N xs) {a b : Nat} (ha : a < (conL N xs).length) (hb : b < (conL N xs).length) : nth (fsts (conW N xs)) (meetK N xs a b) = andI (nth (fsts (conW N xs)) a) (nth (fsts (conW N xs)) b) := by
  obtain ⟨k, h1, h2, h3, h4⟩ := meet_at hc ha hb
  unfold meetK; rw [h2]; exact h4
theorem joinK_S {N : Nat} {xs : List Int} (hc : PCtx N xs) {a b : Nat} (ha : a < (conL N xs).length) (hb : b < (conL N xs).length) : nth (snds (conW N xs)) (joinK N xs a b) = andI (nth (snds (conW N xs)) a) (nth (snds (conW N xs)) b) := by
  obtain ⟨k, h1, h2, h3⟩ := join_at hc ha hb
  unfold joinK; rw [h2]; exact h3
/-- the law of distribution, for all z or for those below x -/
def DistL (all : Bool) (F : List Int) (len : Nat) (M J : Nat → Nat → Nat) : Prop := ∀ x y z, x < len → y < len → z < len → (all = true ∨ PSub (nth F z) (nth F x) = true) → M x (J y z) = J (M x y) (M x z)
noncomputable def DistC (all : Bool) (n : Int) (xs : List Int) : Prop := PCtx n xs ∧ DistL all (fsts (conW n xs)) (conL n xs).length (meetK n xs) (joinK n xs)
noncomputable instance (all : Bool) (n : Int) (xs : List Int) : Decidable (DistC all n xs) := Classical.propDecidable _
end Go.Proofs.YtliecnadoklgoaaGreatDoor
