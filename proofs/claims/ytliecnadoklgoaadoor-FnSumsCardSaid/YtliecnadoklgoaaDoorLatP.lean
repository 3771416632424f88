/- XIdxP XLat XLatP, joined. Conditions: none. -/
import Derived.Test.YtliecnadoklgoaaDoorBitA
import Derived.Test.YtliecnadoklgoaaDoorChain
/- The first record of which something holds. Conditions: none. -/
namespace Go.Proofs.YtliecnadoklgoaaDoor
open Ev
set_option linter.unusedVariables false
set_option linter.unusedSimpArgs false

/-- some record -/
def anyP (p : Int → Int → Bool) (xs ys : List Int) : Bool := (List.range xs.length).any fun k => p (nth xs k) (nth ys k)
/-- the first place, or -1 -/
def idxP (p : Int → Int → Bool) (xs ys : List Int) : Int := match (List.range xs.length).find? fun k => p (nth xs k) (nth ys k) with | some k => (k : Int) | none => -1
theorem idxP_none {p : Int → Int → Bool} {xs ys : List Int} (h : ∀ j, j < xs.length → p (nth xs j) (nth ys j) = false) : idxP p xs ys = -1 := by
  unfold idxP
  rw [List.find?_eq_none.2]
  intro k hk
  rw [h k (List.mem_range.1 hk)]; simp
theorem idxP_some {p : Int → Int → Bool} {xs ys : List Int} {i : Nat} (hi : i < xs.length) (hp : p (nth xs i) (nth ys i) = true) (h : ∀ j, j < i → p (nth xs j) (nth ys j) = false) : idxP p xs ys = i := by
  unfold idxP
  rw [List.find?_range_eq_some.2]
  exact ⟨hp, List.mem_range.2 hi, fun j hj => by simp [h j hj]⟩
theorem idxP_any {p : Int → Int → Bool} {xs ys : List Int} : (0 ≤ idxP p xs ys) ↔ anyP p xs ys = true := by
  unfold idxP anyP
  cases h : (List.range xs.length).find? fun k => p (nth xs k) (nth ys k) with
  | none =>
    rw [List.find?_eq_none] at h
    simp only [List.any_eq_true]
    exact ⟨fun h9 => absurd h9 (by decide), fun ⟨k, hk, hp⟩ => absurd hp (h k hk)⟩
  | some k =>
    have h1 := List.find?_some h
    have h2 := List.mem_of_find?_eq_some h
    simp only [List.any_eq_true]
    exact ⟨fun _ => ⟨k, h2, h1⟩, fun _ => Int.natCast_nonneg k⟩
theorem idxP_iff {p : Int → Int → Bool} {xs ys : List Int} {i : Nat} (hi : i < xs.length) (h : p (nth xs i) (nth ys i) = true → ∀ j, j < i → p (nth xs j) (nth ys j) = false) : idxP p xs ys = i ↔ p (nth xs i) (nth ys i) = true := by
  constructor
  · intro e
    unfold idxP at e
    cases hf : (List.range xs.length).find? fun k => p (nth xs k) (nth ys k) with
    | none => rw [hf] at e; simp only at e; omega
    | some k =>
      rw [hf] at e
      simp only at e
      have h1 := List.find?_some hf
      have : k = i := by omega
      rw [this] at h1; exact h1
  · intro hp; exact idxP_some hi hp (h hp)
theorem idxP_range {p : Int → Int → Bool} {xs ys : List Int} (hl : xs.length ≤ 64) : -1 ≤ idxP p xs ys ∧ idxP p xs ys < 64 := by
  unfold idxP
  cases hf : (List.range xs.length).find? fun k => p (nth xs k) (nth ys k) with
  | none => simp
  | some k =>
    have h2 := List.mem_range.1 (List.mem_of_find?_eq_some hf)
    simp only
    omega
end Go.Proofs.YtliecnadoklgoaaDoor
/- The lattice's functions over a list of concepts. Conditions: none. -/
namespace Go.Proofs.YtliecnadoklgoaaDoor
open Ev
set_option linter.unusedVariables false
set_option linter.unusedSimpArgs false
set_option maxHeartbeats 4000000

def exP (e x y : Int) : Bool := decide (x = e)
def inP (e x y : Int) : Bool := decide (y = e)
/-- the numbers of a list are sets -/
def SetsP (xs : List Int) : Prop := ∀ k, k < xs.length → 0 ≤ nth xs k ∧ nth xs k < 256
def andI (x y : Int) : Int := ((x.toNat &&& y.toNat : Nat) : Int)
def selTo (p : Nat → Bool) (n : Nat) : List Int := ((List.range n).filter p).map Int.ofNat
theorem selTo_succ (p : Nat → Bool) (n : Nat) : selTo p (n + 1) = selTo p n ++ if p n then [(n : Int)] else [] := by
  unfold selTo
  rw [List.range_succ, List.filter_append, List.map_append]
  congr 1
  by_cases h : p n <;> simp [h]
theorem selTo_len (p : Nat → Bool) (n : Nat) : (selTo p n).length ≤ n := by
  unfold selTo
  rw [List.length_map]
  exact Nat.le_trans (List.length_filter_le _ _) (by simp)
end Go.Proofs.YtliecnadoklgoaaDoor
/- Meets, joins, the first and the last concept: plain Lean. Conditions: none. -/
namespace Go.Proofs.YtliecnadoklgoaaDoor
open Ev
set_option linter.unusedVariables false
set_option linter.unusedSimpArgs false

theorem cls_pre (N : Nat) (cl : Nat → Nat) (r : Nat) : ∀ d : Nat, ∃ t, Lect.cls N cl (r + d) = Lect.cls N cl r ++ t
  | 0 => ⟨[], by simp⟩
  | d + 1 => by
    obtain ⟨t, h⟩ := cls_pre N cl r d
    rw [← Nat.add_assoc, Lect.cls_succ, h]
    exact ⟨_, List.append_assoc ..⟩
theorem cls_mem {N : Nat} {cl : Nat → Nat} {r s : Nat} (h : s ∈ Lect.cls N cl r) : s < 2 ^ N ∧ cl s = s := by
  unfold Lect.cls at h
  rw [List.mem_filter] at h
  simpa using h.2
theorem rev_nodup : ((List.range 64).map Lect.rev6).Nodup := by decide +kernel
theorem cls_nodup (N : Nat) (cl : Nat → Nat) : (Lect.cls N cl 64).Nodup := List.Pairwise.filter _ rev_nodup
theorem conL_eq {N : Nat} {xs : List Int} (hc : PCtx N xs) : conL N xs = Lect.cls N (cloN xs N) 64 := by simp [conL, hc]
theorem conL_mem {n : Int} {xs : List Int} {s : Nat} (h : s ∈ conL n xs) : PCtx n xs ∧ s < 2 ^ n.toNat ∧ cloN xs n.toNat s = s := by
  unfold conL at h
  split at h
  · rename_i hc; exact ⟨hc, cls_mem h⟩
  · cases h
theorem conL_nodup (n : Int) (xs : List Int) : (conL n xs).Nodup := by
  unfold conL; split
  · exact cls_nodup _ _
  · exact List.Pairwise.nil
theorem con_first {N : Nat} {xs : List Int} (hc : PCtx N xs) : ∃ t, conL N xs = cloN xs N 0 :: t := by
  have hC := clo_cl hc
  have hN := hC.n6
  have h0 := hC.lt 0 (Nat.two_pow_pos N)
  have h1 := Lect.cls_at (cl := cloN xs N) hN h0 (hC.idem 0 (Nat.two_pow_pos N))
  rw [Lect.cls_first hC, List.nil_append] at h1
  have h2 := (Lect.rev_back (Lect.small hN h0)).2
  obtain ⟨t, ht⟩ := cls_pre N (cloN xs N) (Lect.rev6 (cloN xs N 0) + 1) (64 - (Lect.rev6 (cloN xs N 0) + 1))
  rw [show Lect.rev6 (cloN xs N 0) + 1 + (64 - (Lect.rev6 (cloN xs N 0) + 1)) = 64 by omega, h1] at ht
  exact ⟨t, by rw [conL_eq hc, ht]; rfl⟩
theorem full_closed {N : Nat} {cl : Nat → Nat} (hC : Lect.Cl N cl) : cl (2 ^ N - 1) = 2 ^ N - 1 := by
  have hp := Nat.two_pow_pos N
  have h1 := hC.ext (2 ^ N - 1) (by omega)
  have h2 := hC.lt (2 ^ N - 1) (by omega)
  rw [Nat.and_comm, Nat.and_two_pow_sub_one_eq_mod, Nat.mod_eq_of_lt h2] at h1
  exact h1
theorem con_last {N : Nat} {xs : List Int} (hc : PCtx N xs) : ∃ t, conL N xs = t ++ [2 ^ N - 1] := by
  have hC := clo_cl hc
  have hN := hC.n6
  have hp := Nat.two_pow_pos N
  have hlt : 2 ^ N - 1 < 2 ^ N := by omega
  have h1 := Lect.cls_at (cl := cloN xs N) hN hlt (full_closed hC)
  have h2 := (Lect.rev_back (Lect.small hN hlt)).2
  have h3 := Lect.cls_gap (N := N) (cl := cloN xs N) (r := Lect.rev6 (2 ^ N - 1) + 1) (64 - (Lect.rev6 (2 ^ N - 1) + 1)) fun q h4 h5 ⟨h6, h7⟩ => by
    have hq : q < 64 := by omega
    have h8 := Lect.rev_sub ⟨Lect.rev6 q, (Lect.rev_back hq).2⟩ ⟨2 ^ N - 1, Lect.small hN hlt⟩ (by simp only; rw [Nat.and_two_pow_sub_one_eq_mod, Nat.mod_eq_of_lt h6])
    simp only at h8
    rw [(Lect.rev_back hq).1] at h8; omega
  rw [show Lect.rev6 (2 ^ N - 1) + 1 + (64 - (Lect.rev6 (2 ^ N - 1) + 1)) = 64 by omega, h1] at h3
  exact ⟨_, by rw [conL_eq hc, h3]⟩
theorem con_pos {N : Nat} {xs : List Int} (hc : PCtx N xs) : 0 < (conL N xs).length := by
  obtain ⟨t, h⟩ := con_first hc
  rw [h]; simp
/-- a concept's extent, its intent -/
theorem nthF {n : Int} {xs : List Int} {k : Nat} (h : k < (conL n xs).length) : nth (fsts (conW n xs)) k = Ext xs ((conL n xs)[k] : Nat) := by
  rw [conW_fsts]; simp [nth, h]
theorem nthS {n : Int} {xs : List Int} {k : Nat} (h : k < (conL n xs).length) : nth (snds (conW n xs)) k = ((conL n xs)[k] : Nat) := by
  rw [conW_snds]; simp [nth, h]
theorem closed_get {n : Int} {xs : List Int} {k : Nat} (h : k < (conL n xs).length) : PCtx n xs ∧ (conL n xs)[k] < 2 ^ n.toNat ∧ cloN xs n.toNat (conL n xs)[k] = (conL n xs)[k] := conL_mem (List.getElem_mem h)
theorem ext_closed_inj {N : Nat} {xs : List Int} {s t : Nat} (hs : cloN xs N s = s) (ht : cloN xs N t = t) (h : Ext xs (s : Int) = Ext xs (t : Int)) : s = t := by
  rw [← hs, ← ht]
  unfold cloN Clo
  rw [h]
theorem F_inj {n : Int} {xs : List Int} {i j : Nat} (hi : i < (conL n xs).length) (hj : j < (conL n xs).length) (h : nth (fsts (conW n xs)) i = nth (fsts (conW n xs)) j) : i = j := by
  rw [nthF hi, nthF hj] at h
  have e := ext_closed_inj (closed_get hi).2.2 (closed_get hj).2.2 h
  have hd := List.pairwise_iff_getElem.1 (conL_nodup n xs)
  by_cases h1 : i < j
  · exact absurd e (hd i j hi hj h1)
  · by_cases h2 : j < i
    · exact absurd e.symm (hd j i hj hi h2)
    · omega
theorem S_range {n : Int} {xs : List Int} {k : Nat} (h : k < (conL n xs).length) : 0 ≤ nth (snds (conW n xs)) k ∧ nth (snds (conW n xs)) k < 64 := by
  rw [nthS h]
  obtain ⟨hc, h1, _⟩ := closed_get h
  have h2 : n.toNat ≤ 6 := by have := hc.2.1; omega
  have := Lect.small h2 h1
  omega
theorem sets_F (n : Int) (xs : List Int) : SetsP (fsts (conW n xs)) := fun k hk => con_range hk
theorem sets_S (n : Int) (xs : List Int) : SetsP (snds (conW n xs)) := fun k hk => by
  have h : k < (conL n xs).length := by rw [conW_snds] at hk; simpa using hk
  have := S_range h
  omega
theorem andI_ext {N : Nat} {xs : List Int} (hc : PCtx N xs) {s t : Int} (hs : PSet N s = true) (ht : PSet N t = true) : andI (Ext xs s) (Ext xs t) = Ext xs ((s.toNat ||| t.toNat : Nat) : Int) := by
  unfold andI Ext
  rw [setOf_and]
  refine setOf_congr fun k hk => ?_
  have hu := pset_or hs ht
  have hr := row_nn hc hk
  rw [Bool.eq_iff_iff, Bool.and_eq_true, psub_all (pset_nn hs) hr, psub_all (pset_nn ht) hr, psub_all (pset_nn hu) hr]
  constructor
  · rintro ⟨h1, h2⟩ i hi
    rw [phas_or (pset_nn hs) (pset_nn ht), Bool.or_eq_true] at hi
    rcases hi with hi | hi
    · exact h1 i hi
    · exact h2 i hi
  · intro h
    exact ⟨fun i hi => h i (by rw [phas_or (pset_nn hs) (pset_nn ht), hi]; rfl), fun i hi => h i (by rw [phas_or (pset_nn hs) (pset_nn ht), hi, Bool.or_true])⟩
theorem andI_pset {n : Nat} {s t : Int} (hs : PSet n s = true) (ht : PSet n t = true) : PSet n (andI s t) = true := by
  have hn : n ≤ 8 := by have := (pset_iff.mp hs).2.1; omega
  unfold andI
  conv => lhs; rw [setOf_self hs, setOf_self ht]
  rw [setOf_and]; exact setOf_pset _ hn
/-- the last one is where two extents have nothing else in common -/
theorem meet_last {N : Nat} {xs : List Int} (hc : PCtx N xs) {a b : Nat} (ha : a < (conL N xs).length) (hb : b < (conL N xs).length) :
    idxP (exP (andI (nth (fsts (conW N xs)) a) (nth (fsts (conW N xs)) b))) (fsts (conW N xs)) (snds (conW N xs)) = ((conL N xs).length : Int) - 1 ↔
      IntS xs N (andI (nth (fsts (conW N xs)) a) (nth (fsts (conW N xs)) b)) = 2 ^ N - 1 := by
  have hC := clo_cl hc
  have hN8 : N ≤ 8 := by have := hC.n6; omega
  obtain ⟨_, a1, _⟩ := closed_get ha
  obtain ⟨_, b1, _⟩ := closed_get hb
  simp only [Int.toNat_natCast] at a1 b1
  have pa := pset_nat hN8 a1
  have pb := pset_nat hN8 b1
  have hE := andI_ext hc pa pb
  have pu := pset_or pa pb
  rw [← nthF ha, ← nthF hb] at hE
  generalize ((((conL (N : Int) xs)[a] : Nat) : Int).toNat ||| (((conL (N : Int) xs)[b] : Nat) : Int).toNat : Nat) = u at hE pu
  generalize andI (nth (fsts (conW N xs)) a) (nth (fsts (conW N xs)) b) = E at hE ⊢
  obtain ⟨t, ht⟩ := con_last hc
  have hpos := con_pos hc
  have hk : (conL (N : Int) xs).length - 1 < (conL (N : Int) xs).length := by omega
  have hlast : nth (fsts (conW N xs)) ((conL (N : Int) xs).length - 1) = Ext xs ((2 ^ N - 1 : Nat) : Int) := by
    rw [nthF hk]
    congr 2
    simp [ht]
  have hfl : (fsts (conW N xs)).length = (conL (N : Int) xs).length := conW_len ..
  have hi := idxP_iff (p := exP E) (xs := fsts (conW N xs)) (ys := snds (conW N xs)) (i := (conL (N : Int) xs).length - 1) (by omega) fun hp j hj => by
    cases hq : exP E (nth (fsts (conW N xs)) j) (nth (snds (conW N xs)) j) with
    | false => rfl
    | true =>
      simp only [exP, decide_eq_true_eq] at hp hq
      have := F_inj (by omega) hk (hq.trans hp.symm)
      omega
  rw [show ((conL (N : Int) xs).length : Int) - 1 = (((conL (N : Int) xs).length - 1 : Nat) : Int) by omega, hi]
  simp only [exP, decide_eq_true_eq]
  rw [hlast, hE]
  have hfc := full_closed hC
  have hfi : IntS xs N (Ext xs ((2 ^ N - 1 : Nat) : Int)) = 2 ^ N - 1 := by
    have h9 : Clo xs N ((2 ^ N - 1 : Nat) : Int) = ((2 ^ N - 1 : Nat) : Int) := by rw [← cloN_cast, hfc]
    have hp9 := Nat.two_pow_pos N
    have h10 : ((2 ^ N - 1 : Nat) : Int) = 2 ^ N - 1 := by rw [Int.natCast_sub hp9]; simp
    rw [← h10]; exact h9
  constructor
  · intro e; rw [← e]; exact hfi
  · intro e
    have h1 := ext_clo hc pu
    have h2 : Clo xs N (u : Int) = 2 ^ N - 1 := e
    rw [h2] at h1
    have hp9 := Nat.two_pow_pos N
    have h10 : ((2 ^ N - 1 : Nat) : Int) = 2 ^ N - 1 := by rw [Int.natCast_sub hp9]; simp
    rw [h10]; exact h1
/-- the top is the first one -/
theorem top_first {N : Nat} {xs : List Int} (hc : PCtx N xs) : idxP (exP (2 ^ xs.length - 1)) (fsts (conW N xs)) (snds (conW N xs)) = 0 := by
  have hpos := con_pos hc
  have hfl : (fsts (conW N xs)).length = (conL (N : Int) xs).length := conW_len ..
  obtain ⟨t, ht⟩ := con_first hc
  have h0 : nth (fsts (conW N xs)) 0 = 2 ^ xs.length - 1 := by
    rw [nthF hpos]
    have e : (conL (N : Int) xs)[0] = cloN xs N 0 := by simp [ht]
    rw [e, cloN_cast, ext_clo hc (pset_nat (by have := hc.2.1; omega) (Nat.two_pow_pos N))]
    rw [← setOf_full]
    exact setOf_congr fun k _ => by simp [PSub]
  exact idxP_some (i := 0) (by omega) (by simp [exP, h0]) (fun j hj => by omega)
theorem join_first {N : Nat} {xs : List Int} (hc : PCtx N xs) (e : Int) : idxP (inP e) (fsts (conW N xs)) (snds (conW N xs)) = 0 ↔ nth (snds (conW N xs)) 0 = e := by
  have hpos := con_pos hc
  have hfl : (fsts (conW N xs)).length = (conL (N : Int) xs).length := conW_len ..
  have := idxP_iff (p := inP e) (xs := fsts (conW N xs)) (ys := snds (conW N xs)) (i := 0) (by omega) (fun _ j hj => by omega)
  simpa [inP] using this
end Go.Proofs.YtliecnadoklgoaaDoor
