/- The stem base of the reference. Conditions: none. -/
import Derived.Test.YtlglhokpaplifaaGreatDoorExplF
namespace Go.Proofs.YtlglhokpaplifaaGreatDoor
open Ev
set_option linter.unusedVariables false
set_option linter.unusedSimpArgs false
set_option maxHeartbeats 4000000

def nI (L : List Nat) : List Int := L.map fun (x : Nat) => (x : Int)
@[simp] theorem nI_length (L : List Nat) : (nI L).length = L.length := by simp [nI]
theorem nI_nth {L : List Nat} {i : Nat} (h : i < L.length) : nth (nI L) i = (L[i] : Int) := by rw [nth_eq (by simpa using h)]; simp [nI]
theorem nI_inX {L : List Nat} {x : Nat} : inX (nI L) (x : Int) = decide (x ∈ L) := by
  unfold inX
  rw [Bool.eq_iff_iff, List.any_eq_true, decide_eq_true_iff]
  constructor
  · rintro ⟨i, hi, h⟩
    have hi := List.mem_range.1 hi
    rw [nI_length] at hi
    rw [nI_nth hi] at h
    have := of_decide_eq_true h
    have e : L[i] = x := by omega
    rw [← e]; exact List.getElem_mem hi
  · intro h
    obtain ⟨i, hi, rfl⟩ := List.mem_iff_getElem.1 h
    exact ⟨i, List.mem_range.2 (by simpa using hi), by rw [nI_nth hi]; simp⟩
/-- a sorted list in the making: nothing, or a row of one's own -/
def OutS (h : Heap) (v : AV) (L : List Nat) : Prop := (L = [] ∧ v = .sl 1 .lit []) ∨ (L ≠ [] ∧ ∃ g, v = .ms 54 g 0 L.length ∧ h 54 = some (.row g 3 1 (ints (nI L))))
theorem nI_flat (L : List Nat) : (ints (nI L)).all flat = true := by
  rw [List.all_eq_true]; intro y hyy
  simp only [ints, List.mem_map] at hyy
  obtain ⟨n, _, rfl⟩ := hyy
  rfl
theorem ints_ok (xs : List Int) : ((ints xs).all fun y => y.cells.length == 1 && y.cells.all AV.one) = true := by
  rw [List.all_eq_true]
  intro a ha
  obtain ⟨z, _, rfl⟩ := List.mem_map.1 ha
  rfl
/-- appends to a start of the list -/
theorem wp_own {h : Heap} {key g len : Nat} {L : List Nat} {y : AV} {ys : List Nat} {K : AV → Heap → Prop} (hg : h key = some (.row g 3 1 (ints (nI L)))) (hl : len ≤ L.length) (hb : len + ys.length ≤ 1000) (hy : elemsOf h y = some (1, ints (nI ys)) ∨ (ys = [] ∧ ∃ k, elemsOf h y = some (k, [])))
    (hK : ∀ g' h', h' key = some (.row g' 3 1 (ints (nI (if ys = [] then L else L.take len ++ ys)))) → (∀ k, k ≠ key → h' k = h k) → K (.ms key g' 0 (len + ys.length)) h') {ko : Nat} : WP env h ko 24 (.ms key g 0 len) y K ⟨⟩ := by
  unfold WP
  have hty : env.ty 24 = .sl 3 := rfl
  have hsz : env.size 3 = 1 := rfl
  by_cases he : ys = []
  · subst he
    obtain ⟨k', hy2⟩ : ∃ k', elemsOf h y = some (k', []) := by
      rcases hy with hy | ⟨_, k, hy⟩
      · exact ⟨1, hy⟩
      · exact ⟨k, hy⟩
    refine ⟨.ms key g 0 len, h, ?_, hK g h (by rw [if_pos rfl]; exact hg) fun _ _ => rfl⟩
    simp only [appendO, hty, appendOM, hg, hy2, hsz]
    rw [if_pos ⟨by decide, by trivial, by trivial, by trivial, by simpa [ints] using hl, by simp, nI_flat _, by simp [maxRow]; omega⟩]
    rfl
  · have hy2 : elemsOf h y = some (1, ints (nI ys)) := by
      rcases hy with hy | ⟨e, _⟩
      · exact hy
      · exact absurd e he
    refine ⟨.ms key (g + 1) 0 (len + ys.length), hset h key (.row (g + 1) 3 1 (ints (nI (L.take len ++ ys)))), ?_, hK (g + 1) _ (by rw [if_neg he]; simp [hset]) fun k hk => by simp [hset, hk]⟩
    simp only [appendO, hty, appendOM, hg, hy2, hsz]
    rw [if_pos ⟨by decide, by trivial, by trivial, by trivial, by simpa [ints] using hl, by simp, nI_flat _, by simp [maxRow, ints]; omega⟩, if_neg (by simpa [ints, nI] using he), if_pos ⟨by trivial, nI_flat _, ints_ok _⟩]
    have e1 : low0s ((ints (nI L)).take len) ++ ints (nI ys) = ints (nI (L.take len ++ ys)) := by
      have : (ints (nI L)).take len = ints (nI (L.take len)) := by simp [ints, nI, List.map_take]
      rw [this, low0s_ints]
      simp [ints, nI]
    rw [e1]
    simp [ints]
theorem wp_first {h : Heap} {ko : Nat} {x : Nat} {K : AV → Heap → Prop} (hK : ∀ g' h', h' ko = some (.row g' 3 1 (ints (nI [x]))) → (∀ k, k ≠ ko → h' k = h k) → K (.ms ko g' 0 1) h') : WP env h ko 24 (.sl 1 .lit []) (.sl 1 .lit [.int .i64 (x : Nat)]) K ⟨⟩ := by
  unfold WP
  have hty : env.ty 24 = .sl 3 := rfl
  have hsz : env.size 3 = 1 := rfl
  refine ⟨.ms ko (nextG h ko) 0 1, hset h ko (.row (nextG h ko) 3 1 [.int .i64 (x : Nat)]), ?_, hK _ _ (by simp [hset, ints, nI]) fun k hk => by simp [hset, hk]⟩
  simp only [appendO, appendR, hty, elemsOf, hsz]
  rfl
theorem wa_none {h : Heap} {ko t k : Nat} {x y : AV} {k0 : Nat} {o0 : Own} {es0 : List AV} (hx : x = .sl k0 o0 es0) {K : AV → Heap → Prop} (ht : slT env t = true) (hs : env.size (elT env t) ≠ 0) (hy : elemsOf h y = some (k, [])) (hK : K x h) : WA env h ko t x y K ⟨⟩ := by
  subst hx
  unfold WA
  refine ⟨_, _, ?_, hK⟩
  simp only [appendV, slT_ty ht, hy]
  rw [if_neg hs, if_pos (by rfl)]
theorem wa_some {h : Heap} {ko : Nat} {y : AV} {ys : List Int} {K : AV → Heap → Prop} (hy : elemsOf h y = some (1, ints ys)) (hne : ys ≠ []) (hl : ys.length ≤ 1000) (hK : ∀ g' h', (∀ k, k ≠ ko → h' k = h k) → K (.sl 1 (.tok ko g') (ints ys)) h') : WA env h ko 24 (.sl 1 .lit []) y K ⟨⟩ := by
  unfold WA
  have hty : env.ty 24 = .sl 3 := rfl
  have hsz : env.size 3 = 1 := rfl
  refine ⟨.sl 1 (.tok ko (nextG h ko)) (ints ys), hset h ko (.tok (nextG h ko) 3 1 ys.length), ?_, hK _ _ fun k hk => by simp [hset, hk]⟩
  simp only [appendV, hty, hy, hsz]
  rw [if_neg (by decide), if_neg (by simpa [ints] using hne), if_pos ⟨.inl (by trivial), by trivial, by simp [maxRow, ints]; omega, ints_ok _⟩]
  simp [ints]
theorem OutS.keep {h h' : Heap} {v : AV} {L : List Nat} (hO : OutS h v L) (e : h' 54 = h 54) : OutS h' v L := by
  rcases hO with hO | ⟨hne, g, hv9, hg⟩
  · exact .inl hO
  · exact .inr ⟨hne, g, hv9, e.trans hg⟩
/-- what is read of the list -/
theorem outS_ix {h : Heap} {v : AV} {L : List Nat} {j : Nat} (hO : OutS h v L) (hj : j < L.length) : ∃ p, (∀ t kd, slT env t = true → env.size (elT env t) = 1 → indexA env h t v (.int kd j) = some p) ∧ ∀ t, env.ty t = .int .i64 → loadV env h t p = some (.int .i64 (L[j] : Nat)) := by
  rcases hO with ⟨rfl, rfl⟩ | ⟨hne, g, rfl, hg⟩
  · simp at hj
  · refine ⟨.rp 54 g (0 + j) 0, fun t kd ht hs => ?_, fun t ht => ?_⟩
    · rw [index_ms env h t ht (by omega) (by omega) (by omega) hg rfl hs.symm]; simp
    · simp only [load_rp, hg, if_true]
      have : (ints (nI L))[0 + j]? = some (.int .i64 (L[j] : Nat)) := by simp [ints, nI, hj]
      rw [this]
      simp [partOf, ht, AV.cells]
theorem outS_cut {h : Heap} {v : AV} {L : List Nat} {a : Nat} (hO : OutS h v L) (ha : a ≤ L.length) : ∃ u1 u2, (∀ t kd, slT env t = true → env.size (elT env t) = 1 → sliceV env h t v (some (.int kd a)) none none = some u1) ∧ (∀ t kd, slT env t = true → env.size (elT env t) = 1 → sliceV env h t v none (some (.int kd a)) none = some u2) ∧
    (elemsOf h u1 = some (1, ints (nI (L.drop a)))) ∧ u1.cells = [u1] ∧ u1.one = true ∧ u2.cells = [u2] ∧ u2.one = true ∧ ((L = [] ∧ u2 = .sl 1 .lit []) ∨ (L ≠ [] ∧ ∃ g, u2 = .ms 54 g 0 a ∧ h 54 = some (.row g 3 1 (ints (nI L))))) := by
  rcases hO with ⟨rfl, rfl⟩ | ⟨hne, g, rfl, hg⟩
  · obtain rfl : a = 0 := by simpa using ha
    refine ⟨.sl 1 .lit [], .sl 1 .lit [], fun t kd ht hs => ?_, fun t kd ht hs => ?_, rfl, rfl, rfl, rfl, rfl, .inl ⟨rfl, rfl⟩⟩
    · simp only [sliceV, slT_ty ht, hs]; rfl
    · simp only [sliceV, slT_ty ht, hs]; rfl
  · refine ⟨.ms 54 g (0 + a) (L.length - a), .ms 54 g (0 + 0) (a - 0), fun t kd ht hs => ?_, fun t kd ht hs => ?_, ?_, rfl, rfl, rfl, rfl, .inr ⟨hne, g, rfl, hg⟩⟩
    · simp only [sliceV, slT_ty ht, hs, hg, boundV]
      rw [if_neg (by decide), if_pos (by omega)]
      simp only [Option.bind_some, Int.toNat_natCast]
      rw [if_pos ⟨by trivial, by trivial, ha, Nat.le_refl _, rfl⟩]
    · simp only [sliceV, slT_ty ht, hs, hg, boundV]
      rw [if_neg (by decide), if_pos (by omega)]
      simp only [Option.bind_some, Int.toNat_natCast]
      rw [if_pos ⟨by trivial, by trivial, by omega, ha, rfl⟩]
    · simp only [elemsOf, hg]
      have hn : (ints (nI L)).length = L.length := by simp [ints]
      rw [if_pos ⟨by trivial, by omega, by simp⟩]
      have : ((ints (nI L)).drop (0 + a)).take (L.length - a) = ints (nI (L.drop a)) := by
        rw [Nat.zero_add, List.take_of_length_le (by simp [ints])]
        simp [ints, nI, List.map_drop]
      rw [this]; simp
/-- the rest, held apart -/
theorem wa_rest {h : Heap} {ko : Nat} {y : AV} {ys : List Nat} {K : AV → Heap → Prop} (hy : elemsOf h y = some (1, ints (nI ys))) (hl : ys.length ≤ 1000) (hK : ∀ v6 h', (∀ k, k ≠ ko → h' k = h k) → v6.cells = [v6] → v6.one = true → (∀ h2, elemsOf h2 v6 = some (1, ints (nI ys))) → K v6 h') : WA env h ko 24 (.sl 1 .lit []) y K ⟨⟩ := by
  by_cases he : ys = []
  · subst he
    exact wa_none rfl (by decide) (by decide) hy (hK _ _ (fun _ _ => rfl) rfl rfl fun _ => rfl)
  · exact wa_some hy (by simpa [nI] using he) (by simpa using hl) fun g' h' hh => hK _ _ hh rfl rfl fun _ => rfl
/-- one more into the list -/
theorem wp_put {h : Heap} {L : List Nat} {a x : Nat} {u2 : AV} {K : AV → Heap → Prop} (hu : (L = [] ∧ u2 = .sl 1 .lit []) ∨ (L ≠ [] ∧ ∃ g, u2 = .ms 54 g 0 a ∧ h 54 = some (.row g 3 1 (ints (nI L))))) (ha : a ≤ L.length) (hl : L.length ≤ 900)
    (hK : ∀ g h', h' 54 = some (.row g 3 1 (ints (nI (L.take a ++ [x])))) → (∀ k, k ≠ 54 → h' k = h k) → K (.ms 54 g 0 (a + 1)) h') : WP env h 54 24 u2 (.sl 1 .lit [.int .i64 (x : Nat)]) K ⟨⟩ := by
  rcases hu with ⟨rfl, rfl⟩ | ⟨hne, g, rfl, hg⟩
  · obtain rfl : a = 0 := by simpa using ha
    exact wp_first fun g h' h1 h2 => hK g h' (by simpa using h1) h2
  · refine wp_own (ys := [x]) hg ha (by simp; omega) (.inl rfl) fun g' h' h1 h2 => hK g' h' (by simpa using h1) h2
/-- where to insert -/
def atN (L : List Nat) (x : Nat) : Nat := (L.takeWhile fun y => befB y x).length
def insN (L : List Nat) (x : Nat) : List Nat := L.take (atN L x) ++ [x] ++ L.drop (atN L x)
theorem atN_le (L : List Nat) (x : Nat) : atN L x ≤ L.length := (List.takeWhile_prefix _).length_le
theorem take_at (L : List Nat) (x : Nat) : L.take (atN L x) = L.takeWhile fun y => befB y x := by
  have := List.prefix_iff_eq_take.1 (List.takeWhile_prefix (l := L) fun y => befB y x)
  exact this.symm
theorem at_bef {L : List Nat} {x j : Nat} (h : j < atN L x) (hl : j < L.length) : befB L[j] x = true := by
  have h1 : L[j] ∈ L.take (atN L x) := by
    rw [List.mem_take_iff_getElem]
    exact ⟨j, by omega, rfl⟩
  rw [take_at] at h1
  have := List.all_eq_true.1 (List.all_takeWhile (l := L) (p := fun y => befB y x)) _ h1
  exact this
theorem at_not : ∀ {L : List Nat} {x : Nat} (hl : atN L x < L.length), befB L[atN L x] x = false
  | [], x, hl => by simp at hl
  | y :: L, x, hl => by
    unfold atN at hl ⊢
    cases hb : befB y x with
    | true =>
      simp only [List.takeWhile_cons, hb, if_true, List.length_cons] at hl ⊢
      have := at_not (L := L) (x := x) (by unfold atN; omega)
      exact this
    | false => simp [List.takeWhile_cons, hb]
theorem ins_ok {L : List Nat} {x : Nat} (hs : L.Pairwise fun x y => befB x y = true) (h64 : ∀ y ∈ L, y < 64) (hx : x < 64) (hn : x ∉ L) : (insN L x).Pairwise (fun x y => befB x y = true) ∧ ∀ y, y ∈ insN L x ↔ y = x ∨ y ∈ L := by
  have hbefore : ∀ y ∈ L.take (atN L x), befB y x = true := fun y hy => by
    rw [take_at] at hy
    exact List.all_eq_true.1 (List.all_takeWhile (l := L) (p := fun y => befB y x)) _ hy
  have hafter : ∀ y ∈ L.drop (atN L x), befB x y = true := fun y hy => by
    obtain ⟨j, hj, rfl⟩ := List.mem_iff_getElem.1 hy
    rw [List.getElem_drop]
    rw [List.length_drop] at hj
    have hlt : atN L x < L.length := by omega
    have h0 := at_not hlt
    have hne : L[atN L x] ≠ x := fun e => hn (e ▸ List.getElem_mem hlt)
    have hfirst : befB x L[atN L x] = true := by
      rcases bef_tri (h64 _ (List.getElem_mem hlt)) hx with h | h | h
      · rw [h0] at h; cases h
      · exact absurd h hne
      · exact h
    by_cases e : j = 0
    · subst e; simpa using hfirst
    · have := List.pairwise_iff_getElem.1 hs (atN L x) (atN L x + j) hlt (by omega) (by omega)
      exact bef_trans hfirst this
  constructor
  · unfold insN
    rw [List.append_assoc, List.pairwise_append]
    refine ⟨hs.sublist (List.take_sublist _ _), ?_, fun a ha b hb => ?_⟩
    · rw [List.singleton_append, List.pairwise_cons]
      exact ⟨hafter, hs.sublist (List.drop_sublist _ _)⟩
    · rcases List.mem_append.1 hb with hb | hb
      · obtain rfl := List.mem_singleton.1 hb; exact hbefore a ha
      · exact bef_trans (hbefore a ha) (hafter b hb)
  · intro y
    unfold insN
    rw [List.mem_append, List.mem_append, List.mem_singleton]
    constructor
    · rintro ((h | h) | h)
      · exact .inr (List.mem_of_mem_take h)
      · exact .inl h
      · exact .inr (List.mem_of_mem_drop h)
    · rintro (h | h)
      · exact .inl (.inr h)
      · rw [← List.take_append_drop (atN L x) L, List.mem_append] at h
        rcases h with h | h
        · exact .inl (.inl h)
        · exact .inr h
theorem ins_len (L : List Nat) (x : Nat) : (insN L x).length = L.length + 1 := by
  have := atN_le L x
  simp [insN]; omega
theorem outS_ins {h : Heap} {g x : Nat} {L : List Nat} (hr : h 54 = some (.row g 3 1 (ints (nI (if L.drop (atN L x) = [] then L.take (atN L x) ++ [x] else (L.take (atN L x) ++ [x]).take (atN L x + 1) ++ L.drop (atN L x)))))) : OutS h (.ms 54 g 0 (atN L x + 1 + (L.drop (atN L x)).length)) (insN L x) := by
  have hal := atN_le L x
  have e : (if L.drop (atN L x) = [] then L.take (atN L x) ++ [x] else (L.take (atN L x) ++ [x]).take (atN L x + 1) ++ L.drop (atN L x)) = insN L x := by
    split
    · rename_i h0; rw [insN, h0]; simp
    · rw [insN, List.take_of_length_le (by simp; omega)]
  rw [e] at hr
  refine .inr ⟨by simp [insN], g, ?_, hr⟩
  rw [ins_len]
  congr 1
  rw [List.length_drop]; omega
theorem outS_res {h : Heap} {v : AV} {L : List Nat} (hO : OutS h v L) : noEx (expo h v) = bufC 1 (nI L) := by
  rcases hO with ⟨rfl, rfl⟩ | ⟨hne, g, rfl, hg⟩
  · rfl
  · have hn : nI L ≠ [] := by simpa [nI] using hne
    have : noEx (expo h (.ms 54 g 0 L.length)) = .sl 1 .no (ints (nI L)) := by
      simp only [expo, hg]
      rw [if_pos ⟨by trivial, by simp [ints], by simp⟩, if_pos ⟨by trivial, by simp [ints], by simpa [ints, nI] using hne⟩]
      simp [noEx]
    rw [this, bufC, if_neg hn]
theorem bufC_expo (h : Heap) (k0 : Nat) (xs : List Int) : expo h (bufC k0 xs) = bufC k0 xs := by unfold bufC; split <;> simp
theorem bufC_noEx (k0 : Nat) (xs : List Int) : noEx (bufC k0 xs) = bufC k0 xs := by unfold bufC; split <;> simp
theorem l2Sets_c {v : AV} {S : List Nat} (hv : IsI v) (hS : xsOf v = nI S) (h64 : ∀ x ∈ S, x < 64) : EvC env 134 [v] (.bool true) := by
  refine evC_of (F := Tryz.f134) rfl rfl (Nat.le_of_ble_eq_true rfl) ?_
  have hvl := hv.len
  have hlen : (xsOf v).length = S.length := by rw [hS]; simp
  repeat' (first | (apply brI <;> intro hb hb2 <;> (try simp [-Int.not_le, -Int.not_lt, -Nat.not_le, -Nat.not_lt, -Nat.add_left_cancel_iff] at hb2)) | (refine draw_listA (by rfl) (by kernel_rfl) ?_) | (refine draw_listB (by simp [allocsOf, isAlloc]; rfl) (by kernel_rfl) ?_) | simp (maxSteps := 2000000) (disch := first | omega | assumption | simp [*]) [*, -Int.not_le, -Int.not_lt, -Nat.not_le, -Nat.not_lt, -Nat.add_left_cancel_iff, wrap_i64, wrap_u64, Tryz.f134, isI_len hv])
  refine W_loopP S.length (fun i s => s 3 = .int .i64 i ∧ s 0 = v) rfl ?_ ?_
  · simp
  rintro i s hi ⟨h3, h0⟩
  by_cases hi2 : i < S.length
  · have hx : nth (xsOf v) i = (S[i] : Int) := by rw [hS, nI_nth hi2]
    have hp : PSet 8 (S[i] : Int) = true := pset8_small (h64 _ (List.getElem_mem hi2))
    clear hS
    repeat' (first | (apply brI <;> intro hb hb2 <;> (try simp [-Int.not_le, -Int.not_lt, -Nat.not_le, -Nat.not_lt, -Nat.add_left_cancel_iff] at hb2)) | (refine draw_listA (by rfl) (by kernel_rfl) ?_) | (refine draw_listB (by simp [allocsOf, isAlloc]; rfl) (by kernel_rfl) ?_) | simp (maxSteps := 2000000) (disch := first | omega | assumption | simp [*]) [*, -Int.not_le, -Int.not_lt, -Nat.not_le, -Nat.not_lt, -Nat.add_left_cancel_iff, wrap_i64, wrap_u64, h3, h0, isI_len hv, isI_index hv, isI_load hv])
  · obtain rfl : i = S.length := by omega
    clear hS
    repeat' (first | (apply brI <;> intro hb hb2 <;> (try simp [-Int.not_le, -Int.not_lt, -Nat.not_le, -Nat.not_lt, -Nat.add_left_cancel_iff] at hb2)) | (refine draw_listA (by rfl) (by kernel_rfl) ?_) | (refine draw_listB (by simp [allocsOf, isAlloc]; rfl) (by kernel_rfl) ?_) | simp (maxSteps := 2000000) (disch := first | omega | assumption | simp [*]) [*, -Int.not_le, -Int.not_lt, -Nat.not_le, -Nat.not_lt, -Nat.add_left_cancel_iff, wrap_i64, wrap_u64, h3, h0, isI_len hv])
theorem l2Sets_s {v : AV} {S : List Nat} (hv : IsI v) (hS : xsOf v = nI S) (h64 : ∀ x ∈ S, x < 64) {K : AV → Prop} {tg : Tg K} : CW env 134 [v] K tg ↔ K (.bool true) := callsTo_iff (l2Sets_c hv hS h64)
attribute [simp] l2Sets_s
theorem sSortLectic_t {v : AV} {S : List Nat} (hv : IsI v) (hS : xsOf v = nI S) (h64 : ∀ x ∈ S, x < 64) (hl : S.length ≤ 64) : CallsTo env 122 [v] (fun r => ∃ L : List Nat, noEx r = bufC 1 (nI L) ∧ L.length ≤ 64 ∧ L.Pairwise (fun x y => befB x y = true) ∧ ∀ x, x ∈ L ↔ x ∈ S) := by
  refine callsTo_mk (F := Tryz.f122) rfl rfl (Nat.le_of_ble_eq_true rfl) ?_
  have hvl := hv.len
  have hlen : (xsOf v).length = S.length := by rw [hS]; simp
  have hset2 := l2Sets_c hv hS h64
  have hset3 : ∀ (K : AV → Prop) (tg : Tg K), CW env 134 [v] K tg ↔ K (.bool true) := fun K tg => callsTo_iff hset2
  clear hset2
  repeat' (first | (apply brI <;> intro hb hb2 <;> (try simp [-Int.not_le, -Int.not_lt, -Nat.not_le, -Nat.not_lt, -Nat.add_left_cancel_iff] at hb2)) | simp (maxSteps := 2000000) (disch := first | omega | assumption | simp [*]) [*, -Int.not_le, -Int.not_lt, -Nat.not_le, -Nat.not_lt, -Nat.add_left_cancel_iff, wrap_i64, wrap_u64, Tryz.f122, isI_low hv, isI_len hv])
  refine W_loopG S.length (fun i s h => s 4 = .int .i64 i ∧ s 0 = v ∧ ∃ L : List Nat, OutS h (s 3) L ∧ L.length ≤ i ∧ L.Pairwise (fun x y => befB x y = true) ∧ ∀ x, x ∈ L ↔ x ∈ S.take i) ?_ ?_
  · refine ⟨by simp, by simp, [], .inl ⟨rfl, by simp⟩, by simp, List.Pairwise.nil, by simp⟩
  rintro i s h hi ⟨h4, h0, L, hO, hLl, hLs, hLm⟩
  obtain ⟨v3, h3⟩ : ∃ v3, s 3 = v3 := ⟨_, rfl⟩
  rw [h3] at hO
  have hL64 : ∀ x ∈ L, x < 64 := fun x hx => h64 x (List.mem_of_mem_take ((hLm x).1 hx))
  obtain ⟨lv, hlv⟩ : ∃ lv, low h v3 = lv := ⟨_, rfl⟩
  have hlI : IsI lv ∧ xsOf lv = nI L := by
    rw [← hlv]
    rcases hO with ⟨rfl, rfl⟩ | ⟨hne, g, rfl, hg⟩
    · simp only [low_lit]; exact ⟨isI_sl (xs := []) (.inl rfl) rfl (Nat.zero_le _), rfl⟩
    · have : low h (.ms 54 g 0 L.length) = .sl 1 .brw (ints (nI L)) := by
        simp only [low, hg]
        rw [if_pos ⟨by trivial, by simp [ints], by simp⟩, List.drop_zero, List.take_of_length_le (by simp [ints])]
        simp
      rw [this]
      exact ⟨isI_sl (.inr rfl) rfl (by simp; unfold top63; omega), by simp⟩
  have hlen3 : ∀ t, slT env t = true → lenV env t v3 = some (.int .i64 L.length) := fun t ht => by
    rcases hO with ⟨rfl, rfl⟩ | ⟨hne, g, rfl, hg⟩
    · rw [len_sl _ _ ht]; rfl
    · rw [len_ms _ _ ht]
  have ov3 : v3.one = true := by rcases hO with ⟨rfl, rfl⟩ | ⟨hne, g, rfl, hg⟩ <;> rfl
  have cv3 : v3.cells = [v3] := by rcases hO with ⟨rfl, rfl⟩ | ⟨hne, g, rfl, hg⟩ <;> rfl
  by_cases hi2 : i < S.length
  · obtain ⟨x, hx⟩ : ∃ x, S[i] = x := ⟨_, rfl⟩
    have hxv : nth (xsOf v) i = (x : Int) := by rw [hS, nI_nth hi2, hx]
    have hx64 : x < 64 := by rw [← hx]; exact h64 _ (List.getElem_mem hi2)
    have htk : S.take (i + 1) = S.take i ++ [x] := by rw [List.take_add_one, List.getElem?_eq_getElem hi2, hx]; rfl
    have hin : ∀ (K : AV → Prop) (tg : Tg K), CW env 90 [lv, .int .i64 (x : Nat)] K tg ↔ K (.bool (decide (x ∈ L))) := fun K tg => callsTo_iff (by
      have := l2In_c (x := (x : Int)) hlI.1
      rw [hlI.2, nI_inX] at this; exact this)
    by_cases hxL : x ∈ L
    · have hfin : ∀ h', h' 54 = h 54 → OutS h' v3 L := fun h' e => by
        rcases hO with hO | ⟨hne, g, hv9, hg⟩
        · exact .inl hO
        · exact .inr ⟨hne, g, hv9, e.trans hg⟩
      have hmm : ∀ y, y ∈ L ↔ y ∈ S.take (i + 1) := fun y => by
        rw [htk, List.mem_append, List.mem_singleton, hLm]
        constructor
        · exact .inl
        · rintro (h | rfl)
          · exact h
          · exact (hLm _).1 hxL
      have hin2 : ∀ (K : AV → Prop) (tg : Tg K), CW env 90 [lv, .int .i64 (x : Nat)] K tg ↔ K (.bool true) := fun K tg => by rw [hin, decide_eq_true hxL]
      clear hS hset3 hin
      repeat' (first | (apply brI <;> intro hb hb2 <;> (try simp [-Int.not_le, -Int.not_lt, -Nat.not_le, -Nat.not_lt, -Nat.add_left_cancel_iff] at hb2)) | (refine draw_listA (by rfl) (by kernel_rfl) ?_) | (refine draw_listB (by simp [allocsOf, isAlloc]; rfl) (by kernel_rfl) ?_) | simp (maxSteps := 2000000) (disch := first | omega | assumption | simp [*]) [*, -Int.not_le, -Int.not_lt, -Nat.not_le, -Nat.not_lt, -Nat.add_left_cancel_iff, wrap_i64, wrap_u64, h4, h0, h3, isI_low hv, isI_len hv, isI_index hv, isI_load hv])
      have hmm2 := hmm
      rw [htk] at hmm2
      exact ⟨L, hfin _ rfl, by omega, hLs, fun y => by simpa using hmm2 y⟩
    · have hin2 : ∀ (K : AV → Prop) (tg : Tg K), CW env 90 [lv, .int .i64 (x : Nat)] K tg ↔ K (.bool false) := fun K tg => by rw [hin, decide_eq_false hxL]
      clear hS hset3 hin
      repeat' (first | (apply brI <;> intro hb hb2 <;> (try simp [-Int.not_le, -Int.not_lt, -Nat.not_le, -Nat.not_lt, -Nat.add_left_cancel_iff] at hb2)) | (refine draw_listA (by rfl) (by kernel_rfl) ?_) | (refine draw_listB (by simp [allocsOf, isAlloc]; rfl) (by kernel_rfl) ?_) | simp (maxSteps := 2000000) (disch := first | omega | assumption | simp [*]) [*, -Int.not_le, -Int.not_lt, -Nat.not_le, -Nat.not_lt, -Nat.add_left_cancel_iff, wrap_i64, wrap_u64, h4, h0, h3, isI_low hv, isI_len hv, isI_index hv, isI_load hv])
      have hal := atN_le L x
      have hL900 : L.length ≤ 900 := by omega
      refine W_loopP (atN L x) (fun j s => s 5 = .int .i64 j ∧ s 4 = .int .i64 i ∧ s 0 = v ∧ s 3 = v3) rfl ?_ ?_
      · simp [h4, h0, h3]
      rintro j s hj ⟨h5, h4, h0, h3⟩
      by_cases hj2 : j < L.length
      · obtain ⟨p, hp1, hp2⟩ := outS_ix hO hj2
        have hb64 : L[j] < 64 := hL64 _ (List.getElem_mem hj2)
        obtain ⟨y, hy⟩ : ∃ y, L[j] = y := ⟨_, rfl⟩
        rw [hy] at hp2 hb64
        by_cases hj3 : j < atN L x
        · have hbf : befB y x = true := by rw [← hy]; exact at_bef hj3 hj2
          have hbb : ∀ (K : AV → Prop) (tg : Tg K), CW env 55 [.int .i64 (y : Nat), .int .i64 (x : Nat)] K tg ↔ K (.bool true) := fun K tg => callsTo_iff (by have := sBefore_c hb64 hx64; rw [hbf] at this; exact this)
          repeat' (first | (apply brI <;> intro hb hb2 <;> (try simp [-Int.not_le, -Int.not_lt, -Nat.not_le, -Nat.not_lt, -Nat.add_left_cancel_iff] at hb2)) | (refine draw_listA (by rfl) (by kernel_rfl) ?_) | (refine draw_listB (by simp [allocsOf, isAlloc]; rfl) (by kernel_rfl) ?_) | simp (maxSteps := 2000000) (disch := first | omega | assumption | simp [*]) [*, -Int.not_le, -Int.not_lt, -Nat.not_le, -Nat.not_lt, -Nat.add_left_cancel_iff, wrap_i64, wrap_u64, h5, h4, h0, h3, isI_low hv, isI_len hv, isI_index hv, isI_load hv])
        · obtain rfl : j = atN L x := by omega
          have hbf : befB y x = false := by rw [← hy]; exact at_not hj2
          have hbb : ∀ (K : AV → Prop) (tg : Tg K), CW env 55 [.int .i64 (y : Nat), .int .i64 (x : Nat)] K tg ↔ K (.bool false) := fun K tg => callsTo_iff (by have := sBefore_c hb64 hx64; rw [hbf] at this; exact this)
          obtain ⟨u1, u2, hs1, -, he1, c1, o1, -, -, -⟩ := outS_cut hO hal
          repeat' (first | (apply brI <;> intro hb hb2 <;> (try simp [-Int.not_le, -Int.not_lt, -Nat.not_le, -Nat.not_lt, -Nat.add_left_cancel_iff] at hb2)) | (refine draw_listA (by rfl) (by kernel_rfl) ?_) | (refine draw_listB (by simp [allocsOf, isAlloc]; rfl) (by kernel_rfl) ?_) | simp (maxSteps := 2000000) (disch := first | omega | assumption | simp [*]) [*, -Int.not_le, -Int.not_lt, -Nat.not_le, -Nat.not_lt, -Nat.add_left_cancel_iff, wrap_i64, wrap_u64, h5, h4, h0, h3, isI_low hv, isI_len hv, isI_index hv, isI_load hv])
          refine wa_rest he1 (by simp; omega) ?_
          intro v6 h6 hh6 c6 o6 e6
          obtain ⟨u3, u2, -, hs2, -, -, -, c2, o2, hu2⟩ := outS_cut (hO.keep (hh6 54 (by decide))) hal
          repeat' (first | (apply brI <;> intro hb hb2 <;> (try simp [-Int.not_le, -Int.not_lt, -Nat.not_le, -Nat.not_lt, -Nat.add_left_cancel_iff] at hb2)) | (refine draw_listA (by rfl) (by kernel_rfl) ?_) | (refine draw_listB (by simp [allocsOf, isAlloc]; rfl) (by kernel_rfl) ?_) | simp (maxSteps := 2000000) (disch := first | omega | assumption | simp [*]) [*, -Int.not_le, -Int.not_lt, -Nat.not_le, -Nat.not_lt, -Nat.add_left_cancel_iff, wrap_i64, wrap_u64, h5, h4, h0, h3, isI_low hv, isI_len hv, isI_index hv, isI_load hv])
          refine wp_put (x := x) hu2 hal hL900 ?_
          intro g2 h2 hr2 hh2
          repeat' (first | (apply brI <;> intro hb hb2 <;> (try simp [-Int.not_le, -Int.not_lt, -Nat.not_le, -Nat.not_lt, -Nat.add_left_cancel_iff] at hb2)) | (refine draw_listA (by rfl) (by kernel_rfl) ?_) | (refine draw_listB (by simp [allocsOf, isAlloc]; rfl) (by kernel_rfl) ?_) | simp (maxSteps := 2000000) (disch := first | omega | assumption | simp [*]) [*, -Int.not_le, -Int.not_lt, -Nat.not_le, -Nat.not_lt, -Nat.add_left_cancel_iff, wrap_i64, wrap_u64, h5, h4, h0, h3, isI_low hv, isI_len hv, isI_index hv, isI_load hv])
          refine wp_own (L := L.take (atN L x) ++ [x]) (ys := L.drop (atN L x)) (len := atN L x + 1) hr2 (by simp; omega) (by simp; omega) (.inl (e6 h2)) ?_
          intro g3 h8 hr3 hh3
          obtain ⟨v9, hv9⟩ : ∃ v9, AV.ms 54 g3 0 (atN L x + 1 + (L.drop (atN L x)).length) = v9 := ⟨_, rfl⟩
          have hO9 : OutS h8 v9 (insN L x) := by rw [← hv9]; exact outS_ins hr3
          have ov9 : v9.one = true := by rw [← hv9]; rfl
          have cv9 : v9.cells = [v9] := by rw [← hv9]; rfl
          rw [hv9]
          clear hv9
          obtain ⟨hi1, hi2⟩ := ins_ok hLs hL64 hx64 hxL
          repeat' (first | (apply brI <;> intro hb hb2 <;> (try simp [-Int.not_le, -Int.not_lt, -Nat.not_le, -Nat.not_lt, -Nat.add_left_cancel_iff] at hb2)) | (refine draw_listA (by rfl) (by kernel_rfl) ?_) | (refine draw_listB (by simp [allocsOf, isAlloc]; rfl) (by kernel_rfl) ?_) | simp (maxSteps := 2000000) (disch := first | omega | assumption | simp [*]) [*, -Int.not_le, -Int.not_lt, -Nat.not_le, -Nat.not_lt, -Nat.add_left_cancel_iff, wrap_i64, wrap_u64, h5, h4, h0, h3, isI_low hv, isI_len hv, isI_index hv, isI_load hv])
          exact ⟨insN L x, hO9, by rw [ins_len]; omega, hi1, fun y => by rw [hi2, hLm]; exact or_comm⟩
      · obtain rfl : j = atN L x := by omega
        obtain ⟨u1, u2, hs1, -, he1, c1, o1, -, -, -⟩ := outS_cut hO hal
        repeat' (first | (apply brI <;> intro hb hb2 <;> (try simp [-Int.not_le, -Int.not_lt, -Nat.not_le, -Nat.not_lt, -Nat.add_left_cancel_iff] at hb2)) | (refine draw_listA (by rfl) (by kernel_rfl) ?_) | (refine draw_listB (by simp [allocsOf, isAlloc]; rfl) (by kernel_rfl) ?_) | simp (maxSteps := 2000000) (disch := first | omega | assumption | simp [*]) [*, -Int.not_le, -Int.not_lt, -Nat.not_le, -Nat.not_lt, -Nat.add_left_cancel_iff, wrap_i64, wrap_u64, h5, h4, h0, h3, isI_low hv, isI_len hv, isI_index hv, isI_load hv])
        refine wa_rest he1 (by simp; omega) ?_
        intro v6 h6 hh6 c6 o6 e6
        obtain ⟨u3, u2, -, hs2, -, -, -, c2, o2, hu2⟩ := outS_cut (hO.keep (hh6 54 (by decide))) hal
        repeat' (first | (apply brI <;> intro hb hb2 <;> (try simp [-Int.not_le, -Int.not_lt, -Nat.not_le, -Nat.not_lt, -Nat.add_left_cancel_iff] at hb2)) | (refine draw_listA (by rfl) (by kernel_rfl) ?_) | (refine draw_listB (by simp [allocsOf, isAlloc]; rfl) (by kernel_rfl) ?_) | simp (maxSteps := 2000000) (disch := first | omega | assumption | simp [*]) [*, -Int.not_le, -Int.not_lt, -Nat.not_le, -Nat.not_lt, -Nat.add_left_cancel_iff, wrap_i64, wrap_u64, h5, h4, h0, h3, isI_low hv, isI_len hv, isI_index hv, isI_load hv])
        refine wp_put (x := x) hu2 hal hL900 ?_
        intro g2 h2 hr2 hh2
        repeat' (first | (apply brI <;> intro hb hb2 <;> (try simp [-Int.not_le, -Int.not_lt, -Nat.not_le, -Nat.not_lt, -Nat.add_left_cancel_iff] at hb2)) | (refine draw_listA (by rfl) (by kernel_rfl) ?_) | (refine draw_listB (by simp [allocsOf, isAlloc]; rfl) (by kernel_rfl) ?_) | simp (maxSteps := 2000000) (disch := first | omega | assumption | simp [*]) [*, -Int.not_le, -Int.not_lt, -Nat.not_le, -Nat.not_lt, -Nat.add_left_cancel_iff, wrap_i64, wrap_u64, h5, h4, h0, h3, isI_low hv, isI_len hv, isI_index hv, isI_load hv])
        refine wp_own (L := L.take (atN L x) ++ [x]) (ys := L.drop (atN L x)) (len := atN L x + 1) hr2 (by simp; omega) (by simp; omega) (.inl (e6 h2)) ?_
        intro g3 h8 hr3 hh3
        obtain ⟨v9, hv9⟩ : ∃ v9, AV.ms 54 g3 0 (atN L x + 1 + (L.drop (atN L x)).length) = v9 := ⟨_, rfl⟩
        have hO9 : OutS h8 v9 (insN L x) := by rw [← hv9]; exact outS_ins hr3
        have ov9 : v9.one = true := by rw [← hv9]; rfl
        have cv9 : v9.cells = [v9] := by rw [← hv9]; rfl
        rw [hv9]
        clear hv9
        obtain ⟨hi1, hi2⟩ := ins_ok hLs hL64 hx64 hxL
        repeat' (first | (apply brI <;> intro hb hb2 <;> (try simp [-Int.not_le, -Int.not_lt, -Nat.not_le, -Nat.not_lt, -Nat.add_left_cancel_iff] at hb2)) | (refine draw_listA (by rfl) (by kernel_rfl) ?_) | (refine draw_listB (by simp [allocsOf, isAlloc]; rfl) (by kernel_rfl) ?_) | simp (maxSteps := 2000000) (disch := first | omega | assumption | simp [*]) [*, -Int.not_le, -Int.not_lt, -Nat.not_le, -Nat.not_lt, -Nat.add_left_cancel_iff, wrap_i64, wrap_u64, h5, h4, h0, h3, isI_low hv, isI_len hv, isI_index hv, isI_load hv])
        exact ⟨insN L x, hO9, by rw [ins_len]; omega, hi1, fun y => by rw [hi2, hLm]; exact or_comm⟩
  · obtain rfl : i = S.length := by omega
    clear hS hset3
    have hr2 := outS_res hO
    rw [List.take_of_length_le (Nat.le_refl _)] at hLm
    repeat' (first | (apply brI <;> intro hb hb2 <;> (try simp [-Int.not_le, -Int.not_lt, -Nat.not_le, -Nat.not_lt, -Nat.add_left_cancel_iff] at hb2)) | (refine draw_listA (by rfl) (by kernel_rfl) ?_) | (refine draw_listB (by simp [allocsOf, isAlloc]; rfl) (by kernel_rfl) ?_) | simp (maxSteps := 2000000) (disch := first | omega | assumption | simp [*]) [*, -Int.not_le, -Int.not_lt, -Nat.not_le, -Nat.not_lt, -Nat.add_left_cancel_iff, wrap_i64, wrap_u64, h4, h0, h3, isI_low hv, isI_len hv, isI_index hv, isI_load hv])
    exact ⟨L, rfl, by omega, hLs, hLm⟩
theorem bufS_index {h h' : Heap} {T key k0 : Nat} {v : AV} {xs : List Int} (hB : Buf h T key k0 v xs) {i : Nat} (hi : i < xs.length) : indexA env h' 24 v (.int .i64 i) = some (.cp false [.int .i64 (nth xs i)] 0) := by
  have hty : env.ty 24 = .sl 3 := rfl
  have hsz : env.size 3 = 1 := rfl
  rcases hB with ⟨rfl, _⟩ | ⟨_, g, rfl, _⟩
  · simp at hi
  · simp only [indexA, hty, hsz]
    rw [if_pos (by omega), if_neg (by decide)]
    have : (ints xs)[(i : Int).toNat]? = some (.int .i64 (nth xs i)) := by simp [ints, hi, nth]
    rw [this]
    rfl
/-- what the reference finds fine, up to a place -/
def finS (cl : Nat → Nat) (s k : Nat) : Bool := decide (∀ p ∈ (psTo cl s).take k, p &&& s = p → cl p &&& s = cl p)
theorem finS_succ {cl : Nat → Nat} {s k : Nat} (h : k < (psTo cl s).length) : finS cl s (k + 1) = (finS cl s k && decide ((psTo cl s)[k] &&& s = (psTo cl s)[k] → cl (psTo cl s)[k] &&& s = cl (psTo cl s)[k])) := by
  rw [Bool.eq_iff_iff, Bool.and_eq_true]
  unfold finS
  simp only [decide_eq_true_iff]
  rw [List.take_add_one, List.getElem?_eq_getElem h]
  simp only [Option.toList_some, List.mem_append, List.mem_singleton]
  constructor
  · exact fun hh => ⟨fun p hp => hh p (.inl hp), hh _ (.inr rfl)⟩
  · rintro ⟨h1, h2⟩ p (hp | rfl)
    · exact h1 p hp
    · exact h2
theorem psTo_len (cl : Nat → Nat) (k : Nat) : (psTo cl k).length ≤ k := by
  induction k with
  | zero => simp [psTo]
  | succ k ih =>
    rw [psTo, List.length_append]
    split <;> simp <;> omega
theorem sPseudo_t {N : Nat} {v : AV} (hv : IsI v) (hc : PCtx N (xsOf v)) : CallsTo env 102 [.agg [.int .i64 N, v]] (fun r => noEx r = bufC 1 (nI (stemL (cloN (xsOf v) N) N))) := by
  refine callsTo_mk (F := Tryz.f102) rfl rfl (Nat.le_of_ble_eq_true rfl) ?_
  have hvl := hv.len
  have hN : N ≤ 6 := by have := hc.2.1; omega
  have h64 := pow64 hN
  have hpos : 0 < 2 ^ N := Nat.pow_pos (by decide)
  have hcl := clo_cl hc
  obtain ⟨cl, hcle⟩ : ∃ cl, cloN (xsOf v) N = cl := ⟨_, rfl⟩
  rw [hcle] at hcl ⊢
  have hclo : ∀ t : Nat, t < 2 ^ N → ∀ (K : AV → Prop) (tg : Tg K), CW env 46 [.agg [.int .i64 N, v], .int .i64 t] K tg ↔ K (.int .i64 (cl t : Nat)) := fun t ht K tg => callsTo_iff (by
    have := l4Closure_c (N := N) (s := (t : Int)) hv hc (pset_nat (by omega) ht)
    rw [← cloN_cast, hcle] at this
    exact this)
  have hfl : (if (N : Int) ≤ 8 then (2 : Int) ^ N - 1 else 0) = ((2 ^ N - 1 : Nat) : Int) := by
    rw [if_pos (by omega)]
    have h2 : ((2 ^ N : Nat) : Int) = (2 : Int) ^ N := by simp
    omega
  obtain ⟨M, hM⟩ : ∃ M, 2 ^ N = M := ⟨_, rfl⟩
  rw [hM] at hfl h64 hpos
  have hltM : ∀ t, t < 2 ^ N ↔ t < M := by rw [hM]; exact fun _ => Iff.rfl
  simp only [hltM] at hclo
  have hclM : ∀ t, t < M → cl t < M := fun t ht => by rw [← hM]; exact hcl.lt t (by rw [hM]; exact ht)
  clear hltM
  repeat' (first | (apply brI <;> intro hb hb2 <;> (try simp [-Int.not_le, -Int.not_lt, -Nat.not_le, -Nat.not_lt, -Nat.add_left_cancel_iff] at hb2)) | simp (maxSteps := 2000000) (disch := first | omega | assumption | simp [*]) [*, -Int.not_le, -Int.not_lt, -Nat.not_le, -Nat.not_lt, -Nat.add_left_cancel_iff, wrap_i64, wrap_u64, Tryz.f102, isI_cells hv, isI_one hv, isI_low hv, isI_len hv])
  refine W_loopG M (fun i s h => s 4 = .int .i64 i ∧ s 1 = .vp 1 0 0 ∧ h 1 = some (.var 0 26 (.agg [.int .i64 N, v])) ∧ Buf h 3 61 1 (s 3) (nI (psTo cl i))) ?_ ?_
  · refine ⟨by simp, by simp, by simp [hset], by simp [psTo, nI]; exact buf_nil ..⟩
  rintro i s h hi ⟨h4, h1, e1, hB⟩
  obtain ⟨v3, h3⟩ : ∃ v3, s 3 = v3 := ⟨_, rfl⟩
  rw [h3] at hB
  have o3 := hB.one
  have c3 := hB.cells
  have l3 := hB.low
  have hpl := psTo_len cl i
  have hlen3 : ∀ t, slT env t = true → lenV env t v3 = some (.int .i64 (psTo cl i).length) := fun t ht => by rw [hB.len ht]; simp
  by_cases hi2 : i < M
  · have hiM : i ≤ M - 1 := by omega
    by_cases hcs : cl i = i
    · have hps : psTo cl (i + 1) = psTo cl i := by rw [psTo, if_neg fun h => h.1 hcs]; simp
      have hci := hclo i hi2
      rw [hcs] at hci
      clear hclo
      repeat' (first | (apply brI <;> intro hb hb2 <;> (try simp [-Int.not_le, -Int.not_lt, -Nat.not_le, -Nat.not_lt, -Nat.add_left_cancel_iff] at hb2)) | (refine draw_listA (by rfl) (by kernel_rfl) ?_) | (refine draw_listB (by simp [allocsOf, isAlloc]; rfl) (by kernel_rfl) ?_) | simp (maxSteps := 2000000) (disch := first | omega | assumption | simp [*]) [*, -Int.not_le, -Int.not_lt, -Nat.not_le, -Nat.not_lt, -Nat.add_left_cancel_iff, wrap_i64, wrap_u64, h4, h1, h3, e1, isI_cells hv, isI_one hv, isI_low hv, isI_len hv])
    · have hci := hclo i hi2
      have hcsi : ¬ ((cl i : Nat) : Int) = i := by omega
      repeat' (first | (apply brI <;> intro hb hb2 <;> (try simp [-Int.not_le, -Int.not_lt, -Nat.not_le, -Nat.not_lt, -Nat.add_left_cancel_iff] at hb2)) | (refine draw_listA (by rfl) (by kernel_rfl) ?_) | (refine draw_listB (by simp [allocsOf, isAlloc]; rfl) (by kernel_rfl) ?_) | simp (maxSteps := 2000000) (disch := first | omega | assumption | simp [*]) [*, -Int.not_le, -Int.not_lt, -Nat.not_le, -Nat.not_lt, -Nat.add_left_cancel_iff, wrap_i64, wrap_u64, h4, h1, h3, e1, isI_cells hv, isI_one hv, isI_low hv, isI_len hv])
      refine W_loopP (psTo cl i).length (fun k s => s 6 = .int .i64 k ∧ s 5 = .bool (finS cl i k) ∧ s 4 = .int .i64 i ∧ s 1 = .vp 1 0 0 ∧ s 3 = v3) rfl ?_ ?_
      · simp [h4, h1, h3, finS]
      rintro k s hk ⟨h6, h5, h4, h1, h3⟩
      by_cases hk2 : k < (psTo cl i).length
      · have hix := fun h' => bufS_index (h' := h') hB (i := k) (by simpa using hk2)
        rw [nI_nth hk2] at hix
        obtain ⟨p, hp⟩ : ∃ p, (psTo cl i)[k] = p := ⟨_, rfl⟩
        have hpm := psTo_mem.1 (List.getElem_mem hk2)
        have hfs := finS_succ hk2
        rw [hp] at hix hpm hfs
        have hpM : p < M := by omega
        have hcp := hclo p hpM
        have hcpM := hclM p hpM
        obtain ⟨q, hq⟩ : ∃ q, cl p = q := ⟨_, rfl⟩
        rw [hq] at hfs hcp hcpM
        obtain ⟨f, hf⟩ : ∃ f, finS cl i k = f := ⟨_, rfl⟩
        rw [hf] at h5 hfs
        clear hclo hclM hci hp hpm
        cases f with
        | false =>
          simp only [Bool.false_and] at hfs
          repeat' (first | (apply brI <;> intro hb hb2 <;> (try simp [-Int.not_le, -Int.not_lt, -Nat.not_le, -Nat.not_lt, -Nat.add_left_cancel_iff] at hb2)) | (refine draw_listA (by rfl) (by kernel_rfl) ?_) | (refine draw_listB (by simp [allocsOf, isAlloc]; rfl) (by kernel_rfl) ?_) | simp (maxSteps := 2000000) (disch := first | omega | assumption | simp [*]) [*, -Int.not_le, -Int.not_lt, -Nat.not_le, -Nat.not_lt, -Nat.add_left_cancel_iff, wrap_i64, wrap_u64, h6, h5, h4, h1, h3, e1, isI_cells hv, isI_one hv, isI_low hv, isI_len hv, bits_and])
        | true =>
          simp only [Bool.true_and] at hfs
          by_cases c1 : p &&& i = p
          · by_cases c2 : q &&& i = q
            · rw [decide_eq_true (fun _ => c2)] at hfs
              repeat' (first | (apply brI <;> intro hb hb2 <;> (try simp [-Int.not_le, -Int.not_lt, -Nat.not_le, -Nat.not_lt, -Nat.add_left_cancel_iff] at hb2)) | (refine draw_listA (by rfl) (by kernel_rfl) ?_) | (refine draw_listB (by simp [allocsOf, isAlloc]; rfl) (by kernel_rfl) ?_) | simp (maxSteps := 2000000) (disch := first | omega | assumption | simp [*]) [*, -Int.not_le, -Int.not_lt, -Nat.not_le, -Nat.not_lt, -Nat.add_left_cancel_iff, wrap_i64, wrap_u64, h6, h5, h4, h1, h3, e1, isI_cells hv, isI_one hv, isI_low hv, isI_len hv, bits_and])
            · rw [decide_eq_false (fun h => c2 (h c1))] at hfs
              have c2i : ¬ ((q &&& i : Nat) : Int) = q := by omega
              repeat' (first | (apply brI <;> intro hb hb2 <;> (try simp [-Int.not_le, -Int.not_lt, -Nat.not_le, -Nat.not_lt, -Nat.add_left_cancel_iff] at hb2)) | (refine draw_listA (by rfl) (by kernel_rfl) ?_) | (refine draw_listB (by simp [allocsOf, isAlloc]; rfl) (by kernel_rfl) ?_) | simp (maxSteps := 2000000) (disch := first | omega | assumption | simp [*]) [*, -Int.not_le, -Int.not_lt, -Nat.not_le, -Nat.not_lt, -Nat.add_left_cancel_iff, wrap_i64, wrap_u64, h6, h5, h4, h1, h3, e1, isI_cells hv, isI_one hv, isI_low hv, isI_len hv, bits_and])
          · rw [decide_eq_true (fun h => absurd h c1)] at hfs
            have c1i : ¬ ((p &&& i : Nat) : Int) = p := by omega
            repeat' (first | (apply brI <;> intro hb hb2 <;> (try simp [-Int.not_le, -Int.not_lt, -Nat.not_le, -Nat.not_lt, -Nat.add_left_cancel_iff] at hb2)) | (refine draw_listA (by rfl) (by kernel_rfl) ?_) | (refine draw_listB (by simp [allocsOf, isAlloc]; rfl) (by kernel_rfl) ?_) | simp (maxSteps := 2000000) (disch := first | omega | assumption | simp [*]) [*, -Int.not_le, -Int.not_lt, -Nat.not_le, -Nat.not_lt, -Nat.add_left_cancel_iff, wrap_i64, wrap_u64, h6, h5, h4, h1, h3, e1, isI_cells hv, isI_one hv, isI_low hv, isI_len hv, bits_and])
      · obtain rfl : k = (psTo cl i).length := by omega
        have hfin : finS cl i (psTo cl i).length = decide (∀ p ∈ psTo cl i, p &&& i = p → cl p &&& i = cl p) := by unfold finS; rw [List.take_length]
        by_cases hall : ∀ p ∈ psTo cl i, p &&& i = p → cl p &&& i = cl p
        · have hps : psTo cl (i + 1) = psTo cl i ++ [i] := by rw [psTo, if_pos ⟨hcs, hall⟩]
          rw [hfin, decide_eq_true hall] at h5
          clear hclo hclM hci hfin hall hcsi hcs
          repeat' (first | (apply brI <;> intro hb hb2 <;> (try simp [-Int.not_le, -Int.not_lt, -Nat.not_le, -Nat.not_lt, -Nat.add_left_cancel_iff] at hb2)) | (refine draw_listA (by rfl) (by kernel_rfl) ?_) | (refine draw_listB (by simp [allocsOf, isAlloc]; rfl) (by kernel_rfl) ?_) | simp (maxSteps := 2000000) (disch := first | omega | assumption | simp [*]) [*, -Int.not_le, -Int.not_lt, -Nat.not_le, -Nat.not_lt, -Nat.add_left_cancel_iff, wrap_i64, wrap_u64, h6, h5, h4, h1, h3, e1, isI_cells hv, isI_one hv, isI_low hv, isI_len hv])
          refine wa_push hB (by simp) (by simp) (by simp; omega) fun v' h' hB' hk' => ?_
          have hB2 : Buf h' 3 61 1 v' (nI (psTo cl (i + 1))) := by rw [hps]; simpa [nI] using hB'
          have e1' := (hk' 1 (by decide)).trans e1
          have o3' := hB2.one
          have c3' := hB2.cells
          clear hB' hk' hB l3 hlen3 hps
          repeat' (first | (apply brI <;> intro hb hb2 <;> (try simp [-Int.not_le, -Int.not_lt, -Nat.not_le, -Nat.not_lt, -Nat.add_left_cancel_iff] at hb2)) | (refine draw_listA (by rfl) (by kernel_rfl) ?_) | (refine draw_listB (by simp [allocsOf, isAlloc]; rfl) (by kernel_rfl) ?_) | simp (maxSteps := 2000000) (disch := first | omega | assumption | simp [*]) [*, -Int.not_le, -Int.not_lt, -Nat.not_le, -Nat.not_lt, -Nat.add_left_cancel_iff, wrap_i64, wrap_u64, h6, h5, h4, h1, h3, e1', isI_cells hv, isI_one hv, isI_low hv, isI_len hv])
        · have hps : psTo cl (i + 1) = psTo cl i := by rw [psTo, if_neg fun h => hall h.2]; simp
          rw [hfin, decide_eq_false hall] at h5
          clear hclo hclM hci hfin hall hcsi hcs
          repeat' (first | (apply brI <;> intro hb hb2 <;> (try simp [-Int.not_le, -Int.not_lt, -Nat.not_le, -Nat.not_lt, -Nat.add_left_cancel_iff] at hb2)) | (refine draw_listA (by rfl) (by kernel_rfl) ?_) | (refine draw_listB (by simp [allocsOf, isAlloc]; rfl) (by kernel_rfl) ?_) | simp (maxSteps := 2000000) (disch := first | omega | assumption | simp [*]) [*, -Int.not_le, -Int.not_lt, -Nat.not_le, -Nat.not_lt, -Nat.add_left_cancel_iff, wrap_i64, wrap_u64, h6, h5, h4, h1, h3, e1, isI_cells hv, isI_one hv, isI_low hv, isI_len hv])
  · obtain rfl : i = M := by omega
    have hnM : ¬ i ≤ i - 1 := by omega
    clear hclo hclM
    repeat' (first | (apply brI <;> intro hb hb2 <;> (try simp [-Int.not_le, -Int.not_lt, -Nat.not_le, -Nat.not_lt, -Nat.add_left_cancel_iff] at hb2)) | (refine draw_listA (by rfl) (by kernel_rfl) ?_) | (refine draw_listB (by simp [allocsOf, isAlloc]; rfl) (by kernel_rfl) ?_) | simp (maxSteps := 2000000) (disch := first | omega | assumption | simp [*]) [*, -Int.not_le, -Int.not_lt, -Nat.not_le, -Nat.not_lt, -Nat.add_left_cancel_iff, wrap_i64, wrap_u64, h4, h1, h3, e1, isI_cells hv, isI_one hv, isI_low hv, isI_len hv])
    have hbI : IsI (bufC 1 (nI (psTo cl i))) := isI_bufC (by simp; unfold top63; omega)
    refine cw_to (sSortLectic_t (S := psTo cl i) hbI (by simp) (fun x hx => by have := (psTo_mem.1 hx).1; omega) (by omega)) ?_
    rintro r ⟨L, hr2, hr3, hr4, hr5⟩
    have hL : L = stemL cl N := sorted_eq hr4 (stemL_ok hN).1 fun x => by
      rw [hr5, psTo_mem, (stemL_ok hN).2, hM]
    rw [hL] at hr2
    have hx1 : IsI (bufC 1 (nI (stemL cl N))) := by rw [← hL]; exact isI_bufC (by simp; unfold top63; omega)
    repeat' (first | (apply brI <;> intro hb hb2 <;> (try simp [-Int.not_le, -Int.not_lt, -Nat.not_le, -Nat.not_lt, -Nat.add_left_cancel_iff] at hb2)) | (refine draw_listA (by rfl) (by kernel_rfl) ?_) | (refine draw_listB (by simp [allocsOf, isAlloc]; rfl) (by kernel_rfl) ?_) | simp (maxSteps := 2000000) (disch := first | omega | assumption | simp [*]) [*, -Int.not_le, -Int.not_lt, -Nat.not_le, -Nat.not_lt, -Nat.add_left_cancel_iff, wrap_i64, wrap_u64, hr2, h4, h1, h3, e1, isI_cells hx1, isI_one hx1, isI_low hx1, bufC_expo, bufC_noEx])
/-- the stem base -/
def stemR (xs : List Int) (N : Nat) : List (Nat × Nat) := (stemL (cloN xs N) N).map fun p => (p, cloN xs N p)
theorem stemL_len {cl : Nat → Nat} {N : Nat} (hN : N ≤ 6) : (stemL cl N).length ≤ 64 := by
  have h1 : (stemL cl N).Nodup := (stemL_ok hN).1.imp fun {a b} h e => by rw [e] at h; exact bef_irr h
  have h2 : ∀ x ∈ stemL cl N, x < 64 := fun x hx => by have := ((stemL_ok hN).2 x).1 hx; have := pow64 hN; omega
  have := List.Nodup.length_le_of_subset h1 (l₂ := List.range 64) fun x hx => List.mem_range.2 (h2 x hx)
  simpa using this
theorem sStem_t {N : Nat} {v : AV} (hv : IsI v) (hc : PCtx N (xsOf v)) : CallsTo env 68 [.agg [.int .i64 N, v]] (fun r => noEx r = bufLC 2 2 (rAV (stemR (xsOf v) N))) := by
  refine callsTo_mk (F := Tryz.f68) rfl rfl (Nat.le_of_ble_eq_true rfl) ?_
  have hvl := hv.len
  have hN : N ≤ 6 := by have := hc.2.1; omega
  have h64 := pow64 hN
  have hcl := clo_cl hc
  unfold stemR
  obtain ⟨cl, hcle⟩ : ∃ cl, cloN (xsOf v) N = cl := ⟨_, rfl⟩
  have hps := sPseudo_t hv hc
  rw [hcle] at hcl hps ⊢
  have hclo : ∀ t : Nat, t < 2 ^ N → ∀ (K : AV → Prop) (tg : Tg K), CW env 46 [.agg [.int .i64 N, v], .int .i64 t] K tg ↔ K (.int .i64 (cl t : Nat)) := fun t ht K tg => callsTo_iff (by
    have := l4Closure_c (N := N) (s := (t : Int)) hv hc (pset_nat (by omega) ht)
    rw [← cloN_cast, hcle] at this
    exact this)
  have hSl := stemL_len (cl := cl) hN
  have hSm := (stemL_ok (cl := cl) hN).2
  obtain ⟨S, hS⟩ : ∃ S, stemL cl N = S := ⟨_, rfl⟩
  rw [hS] at hps hSl hSm ⊢
  repeat' (first | (apply brI <;> intro hb hb2 <;> (try simp [-Int.not_le, -Int.not_lt, -Nat.not_le, -Nat.not_lt, -Nat.add_left_cancel_iff] at hb2)) | simp (maxSteps := 2000000) (disch := first | omega | assumption | simp [*]) [*, -Int.not_le, -Int.not_lt, -Nat.not_le, -Nat.not_lt, -Nat.add_left_cancel_iff, wrap_i64, wrap_u64, Tryz.f68, isI_cells hv, isI_one hv, isI_low hv, isI_len hv])
  refine cw_to hps ?_
  rintro r hr
  have hu : IsI (bufC 1 (nI S)) := isI_bufC (by simp; unfold top63; omega)
  have hux : xsOf (bufC 1 (nI S)) = nI S := by simp
  obtain ⟨u, hue⟩ : ∃ u, bufC 1 (nI S) = u := ⟨_, rfl⟩
  rw [hue] at hr hu hux
  have hul : (xsOf u).length = S.length := by rw [hux]; simp
  have hun : ∀ i, i < S.length → nth (xsOf u) i = (S[i]! : Nat) := fun i hi => by rw [hux, nI_nth hi]; simp [hi]
  clear hux hps hS hue
  repeat' (first | (apply brI <;> intro hb hb2 <;> (try simp [-Int.not_le, -Int.not_lt, -Nat.not_le, -Nat.not_lt, -Nat.add_left_cancel_iff] at hb2)) | (refine draw_listA (by rfl) (by kernel_rfl) ?_) | (refine draw_listB (by simp [allocsOf, isAlloc]; rfl) (by kernel_rfl) ?_) | simp (maxSteps := 2000000) (disch := first | omega | assumption | simp [*]) [*, -Int.not_le, -Int.not_lt, -Nat.not_le, -Nat.not_lt, -Nat.add_left_cancel_iff, wrap_i64, wrap_u64, hr, isI_cells hv, isI_one hv, isI_low hv, isI_len hv, isI_cells hu, isI_one hu, isI_low hu, isI_len hu])
  refine W_loopG S.length (fun i s h => s 5 = .int .i64 i ∧ s 4 = u ∧ s 1 = .vp 1 0 0 ∧ h 1 = some (.var 0 26 (.agg [.int .i64 N, v])) ∧ BufL h 40 28 2 2 (s 3) (rAV ((S.take i).map fun p => (p, cl p)))) ?_ ?_
  · refine ⟨by simp, by simp, by simp, by simp [hset], by simp [rAV]; exact bufL_nil ..⟩
  rintro i s h hi ⟨h5, h4, h1, e1, hB⟩
  obtain ⟨v3, h3⟩ : ∃ v3, s 3 = v3 := ⟨_, rfl⟩
  rw [h3] at hB
  have o3 := hB.one
  have c3 := hB.cells
  by_cases hi2 : i < S.length
  · have hxi := hun i hi2
    obtain ⟨x, hx⟩ : ∃ x, S[i]! = x := ⟨_, rfl⟩
    have hxS : S[i]? = some x := by rw [List.getElem?_eq_getElem hi2]; simpa [hi2] using hx
    rw [hx] at hxi
    have hx2 : x < 2 ^ N := ((hSm x).1 (List.mem_of_getElem? hxS)).1
    have hcx := hclo x hx2
    have htk : rAV ((S.take (i + 1)).map fun p => (p, cl p)) = rAV ((S.take i).map fun p => (p, cl p)) ++ [.agg [.int .i64 (x : Nat), .int .i64 (cl x : Nat)]] := by
      rw [List.take_add_one, hxS]
      simp [rAV, pr]
    have hBl : (rAV ((S.take i).map fun p => (p, cl p))).length ≤ 64 := by simp [rAV]; omega
    clear hun hclo hSm hx hxS
    repeat' (first | (apply brI <;> intro hb hb2 <;> (try simp [-Int.not_le, -Int.not_lt, -Nat.not_le, -Nat.not_lt, -Nat.add_left_cancel_iff] at hb2)) | (refine draw_listA (by rfl) (by kernel_rfl) ?_) | (refine draw_listB (by simp [allocsOf, isAlloc]; rfl) (by kernel_rfl) ?_) | simp (maxSteps := 2000000) (disch := first | omega | assumption | simp [*]) [*, -Int.not_le, -Int.not_lt, -Nat.not_le, -Nat.not_lt, -Nat.add_left_cancel_iff, wrap_i64, wrap_u64, h5, h4, h3, h1, e1, isI_cells hv, isI_one hv, isI_low hv, isI_len hv, isI_cells hu, isI_one hu, isI_low hu, isI_len hu, isI_index hu, isI_load hu])
    refine wa_pushL hB (by simp) (by simp) (by decide) ⟨rfl, rfl⟩ (fun _ => rfl) (by omega) fun v' h' hB' hk' => ?_
    rw [← htk] at hB'
    have e1' := (hk' 1 (by decide)).trans e1
    have o3' := hB'.one
    have c3' := hB'.cells
    clear hB hk' htk hBl
    repeat' (first | (apply brI <;> intro hb hb2 <;> (try simp [-Int.not_le, -Int.not_lt, -Nat.not_le, -Nat.not_lt, -Nat.add_left_cancel_iff] at hb2)) | (refine draw_listA (by rfl) (by kernel_rfl) ?_) | (refine draw_listB (by simp [allocsOf, isAlloc]; rfl) (by kernel_rfl) ?_) | simp (maxSteps := 2000000) (disch := first | omega | assumption | simp [*]) [*, -Int.not_le, -Int.not_lt, -Nat.not_le, -Nat.not_lt, -Nat.add_left_cancel_iff, wrap_i64, wrap_u64, h5, h4, h3, h1, e1', isI_cells hv, isI_one hv, isI_low hv, isI_len hv, isI_cells hu, isI_one hu, isI_low hu, isI_len hu, isI_index hu, isI_load hu])
    rw [← List.map_take]; exact hB'
  · obtain rfl : i = S.length := by omega
    rw [List.take_of_length_le (Nat.le_refl _)] at hB
    have hBe := hB.expo
    clear hun hclo hSm
    repeat' (first | (apply brI <;> intro hb hb2 <;> (try simp [-Int.not_le, -Int.not_lt, -Nat.not_le, -Nat.not_lt, -Nat.add_left_cancel_iff] at hb2)) | (refine draw_listA (by rfl) (by kernel_rfl) ?_) | (refine draw_listB (by simp [allocsOf, isAlloc]; rfl) (by kernel_rfl) ?_) | simp (maxSteps := 2000000) (disch := first | omega | assumption | simp [*]) [*, -Int.not_le, -Int.not_lt, -Nat.not_le, -Nat.not_lt, -Nat.add_left_cancel_iff, wrap_i64, wrap_u64, h5, h4, h3, h1, e1, isI_cells hv, isI_one hv, isI_low hv, isI_len hv, isI_cells hu, isI_one hu, isI_low hu, isI_len hu])
theorem bufLC_expo' (h : Heap) (k0 sz : Nat) (es : List AV) : expo h (bufLC k0 sz es) = bufLC k0 sz es := by unfold bufLC; split <;> simp
theorem bufLC_noEx' (k0 sz : Nat) (es : List AV) : noEx (bufLC k0 sz es) = bufLC k0 sz es := by unfold bufLC; split <;> simp
theorem bufLC_one' (k0 sz : Nat) (es : List AV) : (bufLC k0 sz es).one = true := by unfold bufLC; split <;> rfl
theorem bufLC_cells' (k0 sz : Nat) (es : List AV) : (bufLC k0 sz es).cells = [bufLC k0 sz es] := by unfold bufLC; split <;> rfl
theorem sStemBase_t {N : Nat} {v : AV} (hv : IsI v) (hc : PCtx N (xsOf v)) : CallsTo env 22 [.agg [.int .i64 N, v]] (fun r => noEx r = bufLC 2 2 (rAV (stemR (xsOf v) N))) := by
  refine callsTo_mk (F := Tryz.f22) rfl rfl (Nat.le_of_ble_eq_true rfl) ?_
  have hs := sStem_t hv hc
  obtain ⟨w, hw⟩ : ∃ w, bufLC 2 2 (rAV (stemR (xsOf v) N)) = w := ⟨_, rfl⟩
  have w1 : w.one = true := by rw [← hw]; exact bufLC_one' ..
  have w2 : w.cells = [w] := by rw [← hw]; exact bufLC_cells' ..
  have w3 : ∀ h, expo h w = w := fun h => by rw [← hw]; exact bufLC_expo' ..
  have w4 : noEx w = w := by rw [← hw]; exact bufLC_noEx' ..
  rw [hw] at hs ⊢
  clear hw
  repeat' (first | (apply brI <;> intro hb hb2 <;> (try simp [-Int.not_le, -Int.not_lt, -Nat.not_le, -Nat.not_lt, -Nat.add_left_cancel_iff] at hb2)) | simp (maxSteps := 2000000) (disch := first | omega | assumption | simp [*]) [*, -Int.not_le, -Int.not_lt, -Nat.not_le, -Nat.not_lt, -Nat.add_left_cancel_iff, wrap_i64, wrap_u64, Tryz.f22, isI_cells hv, isI_one hv, isI_low hv, isI_len hv])
  refine cw_to hs ?_
  rintro r hr
  repeat' (first | (apply brI <;> intro hb hb2 <;> (try simp [-Int.not_le, -Int.not_lt, -Nat.not_le, -Nat.not_lt, -Nat.add_left_cancel_iff] at hb2)) | (refine draw_listA (by rfl) (by kernel_rfl) ?_) | (refine draw_listB (by simp [allocsOf, isAlloc]; rfl) (by kernel_rfl) ?_) | simp (maxSteps := 2000000) (disch := first | omega | assumption | simp [*]) [*, -Int.not_le, -Int.not_lt, -Nat.not_le, -Nat.not_lt, -Nat.add_left_cancel_iff, wrap_i64, wrap_u64, hr, isI_cells hv, isI_one hv, isI_low hv, isI_len hv])
end Go.Proofs.YtlglhokpaplifaaGreatDoor
