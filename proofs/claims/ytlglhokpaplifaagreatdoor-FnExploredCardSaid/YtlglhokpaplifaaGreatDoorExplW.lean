/- Exploration: what both sides walk through. Conditions: none. -/
import Derived.Test.YtlglhokpaplifaaGreatDoorExplP
import Derived.Test.YtlglhokpaplifaaGreatDoorExplQ
import Derived.Test.YtlglhokpaplifaaGreatDoorNext
namespace Go.Proofs.YtlglhokpaplifaaGreatDoor
open Ev
set_option linter.unusedVariables false
set_option linter.unusedSimpArgs false
set_option maxHeartbeats 4000000

/- values -/
def qAV (q : List (Nat × Nat × Bool × Int)) : List AV := q.map fun x => qr x.1 x.2.1 x.2.2.1 x.2.2.2
def rAV (r : List (Nat × Nat)) : List AV := r.map fun p => pr p.1 p.2
theorem qAV_app (q : List (Nat × Nat × Bool × Int)) (x : Nat × Nat × Bool × Int) : qAV (q ++ [x]) = qAV q ++ [qr x.1 x.2.1 x.2.2.1 x.2.2.2] := by simp [qAV]
theorem rAV_app (r : List (Nat × Nat)) (x : Nat × Nat) : rAV (r ++ [x]) = rAV r ++ [pr x.1 x.2] := by simp [rAV]
theorem rowsE_app (E : List Int) (ks : List Nat) (k : Nat) : rowsE E (ks ++ [k]) = rowsE E ks ++ [nth E k] := by simp [rowsE]
theorem qAV_q (q : List (Nat × Nat × Bool × Int)) : IsQ (qAV q) := fun e he => by
  obtain ⟨x, _, rfl⟩ := List.mem_map.1 he
  exact ⟨_, _, _, _, rfl⟩
theorem rAV_P {r : List (Nat × Nat)} {k : Nat} {o : Own} (hk : r = [] ∨ k = 2) (ho : o.safe = true) (hl : r.length ≤ 40) : IsP (.sl k o (rAV r)) where
  l := { len := by simp [rAV]; unfold top63; omega, ok := ⟨k, o, _, rfl, by rcases hk with h | h; exact .inl (by simp [rAV, h]); exact .inr h, ho⟩, cells := fun e he => by
          simp only [esOf_sl, rAV, List.mem_map] at he
          obtain ⟨i, _, rfl⟩ := he
          exact ⟨rfl, rfl⟩ }
  el := fun e he => by
    simp only [esOf_sl, rAV, List.mem_map] at he
    obtain ⟨i, _, rfl⟩ := he
    exact ⟨_, _, rfl⟩
theorem rAV_C {r : List (Nat × Nat)} (hl : r.length ≤ 40) : IsP (bufLC 0 2 (rAV r)) := by
  unfold bufLC; split
  · exact isP_mk (xs := []) (ys := []) (.inl rfl) rfl (Nat.zero_le _)
  · exact rAV_P (.inr rfl) rfl hl
theorem rAV_fsts (r : List (Nat × Nat)) : fsts (bufLC 0 2 (rAV r)) = r.map (fun p => (p.1 : Int)) ∧ snds (bufLC 0 2 (rAV r)) = r.map (fun p => (p.2 : Int)) := by
  unfold bufLC; split
  · rename_i h
    have : r = [] := by simpa [rAV] using h
    subst this; exact ⟨rfl, rfl⟩
  · simp [fsts, snds, rAV, List.map_map, Function.comp_def]
theorem bufL_site {h : Heap} {T key k0 sz : Nat} {v : AV} {es : List AV} (ko : Nat) (hB : BufL h T key k0 sz v es) : ∃ key', (key' = key ∨ key' = ko) ∧ BufL h T key' k0 sz v es ∧ (es = [] → ko = key') := by
  by_cases he : es = []
  · subst he
    rcases hB with ⟨_, rfl⟩ | ⟨hx, _⟩
    · exact ⟨ko, .inr rfl, .inl ⟨rfl, rfl⟩, fun _ => rfl⟩
    · exact absurd rfl hx
  · exact ⟨key, .inl rfl, hB, fun e => absurd e he⟩
theorem buf_site {h : Heap} {T key k0 : Nat} {v : AV} {xs : List Int} (ko : Nat) (hB : Buf h T key k0 v xs) : ∃ key', (key' = key ∨ key' = ko) ∧ Buf h T key' k0 v xs ∧ (xs = [] → ko = key') := by
  by_cases he : xs = []
  · subst he
    rcases hB with ⟨_, rfl⟩ | ⟨hx, _⟩
    · exact ⟨ko, .inr rfl, .inl ⟨rfl, rfl⟩, fun _ => rfl⟩
    · exact absurd rfl hx
  · exact ⟨key, .inl rfl, hB, fun e => absurd e he⟩
/- the next model of the rules -/
theorem map_nth (r : List (Nat × Nat)) (f : Nat × Nat → Nat) {i : Nat} (h : i < r.length) : nth (r.map fun p => (f p : Int)) i = (f r[i] : Int) := by
  rw [nth_eq (by simpa using h)]; simp
theorem next_eq {N a : Nat} {r : List (Nat × Nat)} (hN : N ≤ 6) (hr : ∀ p ∈ r, p.1 < 2 ^ N ∧ p.2 < 2 ^ N) (hl : r.length ≤ 40) (ha : a < 2 ^ N) (hx : IsNx (candR r a) N (nxtR r N a)) :
    NxtC (N : Int) (bufLC 0 2 (rAV r)) (a : Int) ∧ nxV (candB (bufLC 0 2 (rAV r)) a) N = .tup [.int .i64 (nxtR r N a), .bool true] := by
  obtain ⟨e1, e2⟩ := rAV_fsts r
  have hlen : (fsts (bufLC 0 2 (rAV r))).length = r.length := by rw [e1]; simp
  constructor
  · refine ⟨⟨⟨by omega, by omega⟩, by omega, fun i hi => ?_⟩, pset_nat (by omega) ha⟩
    rw [hlen] at hi
    rw [e1, e2, map_nth r Prod.fst hi, map_nth r Prod.snd hi]
    have := hr _ (List.getElem_mem hi)
    exact ⟨pset_nat (by omega) this.1, pset_nat (by omega) this.2⟩
  · have hc : candB (bufLC 0 2 (rAV r)) a = candR r a := by
      funext s
      unfold candB candR
      congr 1
      rw [Bool.eq_iff_iff, @decide_eq_true_iff _ (Classical.propDecidable _), decide_eq_true_iff, hlen]
      unfold ClosR rA rB
      constructor
      · intro h p hp
        obtain ⟨i, hi, rfl⟩ := List.mem_iff_getElem.1 hp
        have := h i hi
        rw [e1, e2, map_nth r Prod.fst hi, map_nth r Prod.snd hi] at this
        simpa using this
      · intro h i hi
        rw [e1, e2, map_nth r Prod.fst hi, map_nth r Prod.snd hi]
        simpa using h _ (List.getElem_mem hi)
    rw [hc]
    exact nxV_eq hN hx
theorem xst_same {E : List Int} {N : Nat} {s : XS} (h : cloN (rowsE E s.ks) N s.a = s.a) : xst E N s = { s with a := nxtR s.r N s.a } := if_pos h
theorem xst_acc {E : List Int} {N : Nat} {s : XS} {b : Nat} (hb : cloN (rowsE E s.ks) N s.a = b) (h : b ≠ s.a) (hc : ctrE E s.a b < 0) : xst E N s = { s with a := nxtR (s.r ++ [(s.a, b)]) N s.a, q := s.q ++ [(s.a, b, true, -1)], r := s.r ++ [(s.a, b)] } := by
  unfold xst; rw [hb, if_neg h, if_pos hc]
theorem xst_ex {E : List Int} {N : Nat} {s : XS} {b k : Nat} (hb : cloN (rowsE E s.ks) N s.a = b) (h : b ≠ s.a) (hc : ctrE E s.a b = (k : Nat)) : xst E N s = { s with q := s.q ++ [(s.a, b, false, ((k : Nat) : Int))], ks := s.ks ++ [k] } := by
  unfold xst; rw [hb, if_neg h, hc, if_neg (by omega)]; simp
/- the end -/
def XT (E : List Int) (N : Nat) (s : XS) (T : Nat) : Prop := T ≤ 600 ∧ (xat E N s T).a = 2 ^ N - 1 ∧ (∀ i, i < T → (xat E N s i).a ≠ 2 ^ N - 1) ∧ ∀ i, i ≤ T → XI E N (xat E N s i)
open Classical in
noncomputable def xend (E : List Int) (N : Nat) (s : XS) : XS := if h : ∃ T, XT E N s T then xat E N s (Classical.choose h) else s
theorem xend_T {E : List Int} {N : Nat} (hc : PCtx N E) {s : XS} (h : XI E N s) : ∃ T, XT E N s T ∧ xend E N s = xat E N s T := by
  have hN : N ≤ 6 := by have := hc.2.1; omega
  have h64 := pow64 hN
  have hex : ∃ T, XT E N s T := by
    obtain ⟨T, t1, t2, t3, t4⟩ := xat_ends hc _ s h (Nat.le_refl _)
    refine ⟨T, ?_, t2, t3, t4⟩
    have : xmu s ≤ 64 * 9 + 8 := by unfold xmu; omega
    omega
  exact ⟨_, Classical.choose_spec hex, by unfold xend; rw [dif_pos hex]⟩
def ksN (ks : List Int) : List Nat := ks.map Int.toNat
theorem ksN_ok {n : Int} {E ks : List Int} (h : KnoC n E ks) : (ksN ks).Nodup ∧ ∀ k ∈ ksN ks, k < E.length := by
  have hnn : ∀ i, i < ks.length → 0 ≤ nth ks i := fun i hi => (h.2 i hi).1.1
  constructor
  · rw [List.Nodup, List.pairwise_iff_getElem]
    intro i j hi hj hij e
    simp only [ksN, List.length_map] at hi hj
    have h2 := (h.2 j hj).2
    simp only [ksN, List.getElem_map] at e
    have e3 : nth ks i = nth ks j := by
      have h3 := hnn i hi
      have h4 := hnn j hj
      rw [nth_eq hi] at h3 ⊢
      rw [nth_eq hj] at h4 ⊢
      omega
    unfold inX at h2
    rw [List.any_eq_false] at h2
    refine h2 i (List.mem_range.2 (by rw [List.length_take]; omega)) ?_
    have : nth (ks.take j) i = nth ks i := by
      rw [nth_eq (by rw [List.length_take]; omega), nth_eq hi, List.getElem_take]
    rw [this, e3]; simp
  · intro k hk
    simp only [ksN, List.mem_map] at hk
    obtain ⟨x, hx, rfl⟩ := hk
    obtain ⟨i, hi, rfl⟩ := List.mem_iff_getElem.1 hx
    have := (h.2 i hi).1
    rw [nth_eq hi] at this
    omega
/-- the start of an exploration -/
def xs0 (ks : List Int) : XS := ⟨0, [], [], ksN ks⟩
end Go.Proofs.YtlglhokpaplifaaGreatDoor
