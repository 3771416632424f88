/- Products of lists of concepts. Conditions: none. -/
import Derived.Test.YtliecnadoklgoaaGreatDoorBitA
import Derived.Test.YtliecnadoklgoaaGreatDoorBaseA
namespace Go.Proofs.YtliecnadoklgoaaGreatDoor
open Ev
set_option linter.unusedVariables false
set_option linter.unusedSimpArgs false
set_option maxHeartbeats 4000000

/-- some pair of the first K has both -/
def prodP (F S : List Int) (K g a : Nat) : Bool := (List.range K).any fun k => PHas (nth F k) g && PHas (nth S k) a
theorem prodP_succ (F S : List Int) (K g a : Nat) : prodP F S (K + 1) g a = (prodP F S K g a || (PHas (nth F K) g && PHas (nth S K) a)) := by
  simp [prodP, List.range_succ]
def prodRow (F S : List Int) (M K g : Nat) : Int := setOf (fun a => prodP F S K g a) M
theorem prodRow_has {F S : List Int} {M K g : Nat} (hS : PSet M (nth S K) = true) (hg : PHas (nth F K) g = true) : (((prodRow F S M K g).toNat ||| (nth S K).toNat : Nat) : Int) = prodRow F S M (K + 1) g := by
  have h1 : ((prodRow F S M K g).toNat ||| (nth S K).toNat) = ((prodRow F S M K g).toNat ||| (setOf (fun i => PHas (nth S K) i) M).toNat) := by rw [← setOf_self hS]
  rw [h1]
  unfold prodRow
  rw [setOf_orr]
  exact setOf_congr fun a _ => by rw [prodP_succ, hg, Bool.true_and]
theorem prodRow_idem {F S : List Int} {M K g : Nat} (hS : PSet M (nth S K) = true) (hg : PHas (nth F K) g = true) : (((prodRow F S M (K + 1) g).toNat ||| (nth S K).toNat : Nat) : Int) = prodRow F S M (K + 1) g := by
  have h1 : ((prodRow F S M (K + 1) g).toNat ||| (nth S K).toNat) = ((prodRow F S M (K + 1) g).toNat ||| (setOf (fun i => PHas (nth S K) i) M).toNat) := by rw [← setOf_self hS]
  rw [h1]
  unfold prodRow
  rw [setOf_orr]
  exact setOf_congr fun a _ => by rw [prodP_succ, hg]; cases prodP F S K g a <;> cases PHas (nth S K) a <;> rfl
theorem prodRow_not {F S : List Int} {M K g : Nat} (hg : PHas (nth F K) g = false) : prodRow F S M (K + 1) g = prodRow F S M K g := setOf_congr fun a _ => by rw [prodP_succ, hg, Bool.false_and, Bool.or_false]
theorem prodRow_zero (F S : List Int) (M g : Nat) : prodRow F S M 0 g = 0 := by
  unfold prodRow
  have : ∀ M, setOf (fun a => prodP F S 0 g a) M = 0 := by
    intro M
    induction M with
    | zero => rfl
    | succ M ih => simp only [setOf, ih]; simp [prodP]
  exact this M
def ProdC (n m : Int) (F S : List Int) : Prop := (0 ≤ n ∧ n ≤ 8) ∧ (0 ≤ m ∧ m ≤ 6) ∧ ∀ k, k < F.length → PSet n (nth F k) = true ∧ PSet m (nth S k) = true
noncomputable instance (n m : Int) (F S : List Int) : Decidable (ProdC n m F S) := Classical.propDecidable _
noncomputable def prodV (T key : Nat) (n m : Int) (F S : List Int) : AV := if ProdC n m F S then rowR 1 T key (ints (tab (prodRow F S m.toNat F.length) n.toNat)) else .sl 0 .lit []
theorem sProductOf_c {n m : Int} {v : AV} (hv : IsP v) : EvC env 75 [.int .i64 n, .int .i64 m, v] (.tup [.agg [.int .i64 (if ProdC n m (fsts v) (snds v) then m else 0), prodV 3 22 n m (fsts v) (snds v)], .bool (decide (ProdC n m (fsts v) (snds v)))]) := by
  refine evC_of (F := Tryz.f75) rfl rfl (Nat.le_of_ble_eq_true rfl) ?_
  have hle := hv.len
  have hll := hv.lens
  have hno : ¬ ProdC n m (fsts v) (snds v) → prodV 3 22 n m (fsts v) (snds v) = .sl 0 .lit [] := fun h => by simp [prodV, h]
  by_cases h1 : 0 ≤ n
  · by_cases h2 : n ≤ 8
    · by_cases h3 : 0 ≤ m
      · by_cases h4 : m ≤ 6
        · obtain ⟨N, rfl⟩ : ∃ N : Nat, n = N := ⟨n.toNat, by omega⟩
          obtain ⟨M, rfl⟩ : ∃ M : Nat, m = M := ⟨m.toNat, by omega⟩
          have hM8 : M ≤ 8 := by omega
          have hN8 : N ≤ 8 := by omega
          clear hno
          repeat' (first | (apply brI <;> intro hb hb2 <;> (try simp [-Int.not_le, -Int.not_lt, -Nat.not_le, -Nat.not_lt, -Nat.add_left_cancel_iff] at hb2)) | (refine draw_listA (by rfl) (by kernel_rfl) ?_) | (refine draw_listB (by simp [allocsOf, isAlloc]; rfl) (by kernel_rfl) ?_) | simp (maxSteps := 2000000) (disch := first | omega | assumption | simp [*]) [*, -Int.not_le, -Int.not_lt, -Nat.not_le, -Nat.not_lt, -Nat.add_left_cancel_iff, wrap_i64, wrap_u64, Tryz.f75, isP_len hv])
          refine W_loopG (fsts v).length (fun i s h => s 9 = .int .i64 i ∧ s 0 = .int .i64 N ∧ s 1 = .int .i64 M ∧ s 2 = v ∧ s 6 = .vp 6 0 0 ∧ s 8 = .vp 8 0 0 ∧ h 6 = some (.var 0 26 (.agg [.int .i64 0, .sl 0 .lit []])) ∧
            h 8 = some (.var 0 26 (.agg [.int .i64 M, .ms 22 0 0 N])) ∧ h 22 = some (.row 0 3 1 (ints (tab (prodRow (fsts v) (snds v) M i) N))) ∧ ∀ k, k < i → PSet N (nth (fsts v) k) = true ∧ PSet M (nth (snds v) k) = true) ?_ ?_
          · simp [tab_rep]
            exact tab_congr fun j hj => (prodRow_zero _ _ _ _).symm
          rintro i s h hi ⟨h9, h0, h1', h2', h6, h8, e6, e8, e22, hj⟩
          by_cases hi2 : i < (fsts v).length
          · by_cases hpf : PSet N (nth (fsts v) i) = true
            · by_cases hps : PSet M (nth (snds v) i) = true
              · have hj2 : ∀ k, k < i + 1 → PSet N (nth (fsts v) k) = true ∧ PSet M (nth (snds v) k) = true := fun k hk => by
                  by_cases e : k = i
                  · subst e; exact ⟨hpf, hps⟩
                  · exact hj k (by omega)
                have sb := pset_lt hps
                repeat' (first | (apply brI <;> intro hb hb2 <;> (try simp [-Int.not_le, -Int.not_lt, -Nat.not_le, -Nat.not_lt, -Nat.add_left_cancel_iff] at hb2)) | (refine draw_listA (by rfl) (by kernel_rfl) ?_) | (refine draw_listB (by simp [allocsOf, isAlloc]; rfl) (by kernel_rfl) ?_) | simp (maxSteps := 2000000) (disch := first | omega | assumption | simp [*]) [*, -Int.not_le, -Int.not_lt, -Nat.not_le, -Nat.not_lt, -Nat.add_left_cancel_iff, wrap_i64, wrap_u64, h9, h0, h1', h2', h6, h8, e6, e8, e22, isP_len hv, isP_index hv])
                clear hj
                refine W_loopG N (fun g s h => s 10 = .int .i64 g ∧ s 9 = .int .i64 i ∧ s 0 = .int .i64 N ∧ s 1 = .int .i64 M ∧ s 2 = v ∧ s 6 = .vp 6 0 0 ∧ s 8 = .vp 8 0 0 ∧ h 6 = some (.var 0 26 (.agg [.int .i64 0, .sl 0 .lit []])) ∧
                  h 8 = some (.var 0 26 (.agg [.int .i64 M, .ms 22 0 0 N])) ∧ h 22 = some (.row 0 3 1 (ints (tab (fun g' => if g' < g then prodRow (fsts v) (snds v) M (i + 1) g' else prodRow (fsts v) (snds v) M i g') N)))) ?_ ?_
                · simp [*]
                rintro g s3 h3 hg ⟨k10, k9, k0, k1, k2, k6, k8, f6, f8, f22⟩
                by_cases hg2 : g < N
                · have r1 := setOf_range (fun a => prodP (fsts v) (snds v) i g a) M
                  have r2 := setOf_small (fun a => prodP (fsts v) (snds v) i g a) hM8
                  have e1 : setOf (fun a => prodP (fsts v) (snds v) i g a) M = prodRow (fsts v) (snds v) M i g := rfl
                  rw [e1] at r1 r2
                  have hpr := fun hg => prodRow_has (F := fsts v) (S := snds v) (M := M) (K := i) (g := g) hps hg
                  have hpn := fun hg => prodRow_not (F := fsts v) (S := snds v) (M := M) (K := i) (g := g) hg
                  repeat' (first | (apply brI <;> intro hb hb2 <;> (try simp [-Int.not_le, -Int.not_lt, -Nat.not_le, -Nat.not_lt, -Nat.add_left_cancel_iff] at hb2)) | (refine draw_listA (by rfl) (by kernel_rfl) ?_) | (refine draw_listB (by simp [allocsOf, isAlloc]; rfl) (by kernel_rfl) ?_) | simp (maxSteps := 2000000) (disch := first | omega | assumption | simp [*]) [*, -Int.not_le, -Int.not_lt, -Nat.not_le, -Nat.not_lt, -Nat.add_left_cancel_iff, wrap_i64, wrap_u64, k10, k9, k0, k1, k2, k6, k8, f6, f8, f22, isP_len hv, isP_index hv, tab_nth, tab_set, bits_or])
                  · refine tab_congr fun j hj => ?_
                    by_cases e : j = g
                    · subst e; simp; try exact hpr (by assumption)
                    · simp only [e, if_false]
                      by_cases e2 : j < g
                      · rw [if_pos e2, if_pos (by omega)]
                      · rw [if_neg e2, if_neg (by omega)]
                  · refine tab_congr fun j hj => ?_
                    by_cases e : j = g
                    · subst e; simp; try exact (hpn (by assumption)).symm
                    · by_cases e2 : j < g
                      · rw [if_pos e2, if_pos (by omega)]
                      · rw [if_neg e2, if_neg (by omega)]
                · obtain rfl : g = N := by omega
                  repeat' (first | (apply brI <;> intro hb hb2 <;> (try simp [-Int.not_le, -Int.not_lt, -Nat.not_le, -Nat.not_lt, -Nat.add_left_cancel_iff] at hb2)) | (refine draw_listA (by rfl) (by kernel_rfl) ?_) | (refine draw_listB (by simp [allocsOf, isAlloc]; rfl) (by kernel_rfl) ?_) | simp (maxSteps := 2000000) (disch := first | omega | assumption | simp [*]) [*, -Int.not_le, -Int.not_lt, -Nat.not_le, -Nat.not_lt, -Nat.add_left_cancel_iff, wrap_i64, wrap_u64, k10, k9, k0, k1, k2, k6, k8, f6, f8, f22, isP_len hv])
                  refine ⟨tab_congr fun j hj => ?_, hj2⟩
                  simp [hj]
              · have hc : ¬ ProdC N M (fsts v) (snds v) := fun h => hps (h.2.2 i hi2).2
                repeat' (first | (apply brI <;> intro hb hb2 <;> (try simp [-Int.not_le, -Int.not_lt, -Nat.not_le, -Nat.not_lt, -Nat.add_left_cancel_iff] at hb2)) | (refine draw_listA (by rfl) (by kernel_rfl) ?_) | (refine draw_listB (by simp [allocsOf, isAlloc]; rfl) (by kernel_rfl) ?_) | simp (maxSteps := 2000000) (disch := first | omega | assumption | simp [*]) [*, -Int.not_le, -Int.not_lt, -Nat.not_le, -Nat.not_lt, -Nat.add_left_cancel_iff, wrap_i64, wrap_u64, h9, h0, h1', h2', h6, h8, e6, e8, e22, isP_len hv, isP_index hv])
                simp [prodV, hc]
            · have hc : ¬ ProdC N M (fsts v) (snds v) := fun h => hpf (h.2.2 i hi2).1
              repeat' (first | (apply brI <;> intro hb hb2 <;> (try simp [-Int.not_le, -Int.not_lt, -Nat.not_le, -Nat.not_lt, -Nat.add_left_cancel_iff] at hb2)) | (refine draw_listA (by rfl) (by kernel_rfl) ?_) | (refine draw_listB (by simp [allocsOf, isAlloc]; rfl) (by kernel_rfl) ?_) | simp (maxSteps := 2000000) (disch := first | omega | assumption | simp [*]) [*, -Int.not_le, -Int.not_lt, -Nat.not_le, -Nat.not_lt, -Nat.add_left_cancel_iff, wrap_i64, wrap_u64, h9, h0, h1', h2', h6, h8, e6, e8, e22, isP_len hv, isP_index hv])
              simp [prodV, hc]
          · obtain rfl : i = (fsts v).length := by omega
            have hc : ProdC N M (fsts v) (snds v) := ⟨⟨h1, h2⟩, ⟨h3, h4⟩, hj⟩
            repeat' (first | (apply brI <;> intro hb hb2 <;> (try simp [-Int.not_le, -Int.not_lt, -Nat.not_le, -Nat.not_lt, -Nat.add_left_cancel_iff] at hb2)) | (refine draw_listA (by rfl) (by kernel_rfl) ?_) | (refine draw_listB (by simp [allocsOf, isAlloc]; rfl) (by kernel_rfl) ?_) | simp (maxSteps := 2000000) (disch := first | omega | assumption | simp [*]) [*, -Int.not_le, -Int.not_lt, -Nat.not_le, -Nat.not_lt, -Nat.add_left_cancel_iff, wrap_i64, wrap_u64, h9, h0, h1', h2', h6, h8, e6, e8, e22, isP_len hv])
            rw [expo_row (es := ints (tab (prodRow (fsts v) (snds v) M (fsts v).length) N)) (T := 3) (k := 1) (by simp [hset, e22]) (by simp) (by simp) (by simp)]
            simp [prodV, hc]
        · have hno2 := hno fun h => h4 h.2.1.2
          have hc : ¬ ProdC n m (fsts v) (snds v) := fun h => h4 h.2.1.2
          clear hno
          repeat' (first | (apply brI <;> intro hb hb2 <;> (try simp [-Int.not_le, -Int.not_lt, -Nat.not_le, -Nat.not_lt, -Nat.add_left_cancel_iff] at hb2)) | (refine draw_listA (by rfl) (by kernel_rfl) ?_) | (refine draw_listB (by simp [allocsOf, isAlloc]; rfl) (by kernel_rfl) ?_) | simp (maxSteps := 2000000) (disch := first | omega | assumption | simp [*]) [*, -Int.not_le, -Int.not_lt, -Nat.not_le, -Nat.not_lt, -Nat.add_left_cancel_iff, wrap_i64, wrap_u64, Tryz.f75, isP_len hv])
      · have hno2 := hno fun h => h3 h.2.1.1
        have hc : ¬ ProdC n m (fsts v) (snds v) := fun h => h3 h.2.1.1
        clear hno
        repeat' (first | (apply brI <;> intro hb hb2 <;> (try simp [-Int.not_le, -Int.not_lt, -Nat.not_le, -Nat.not_lt, -Nat.add_left_cancel_iff] at hb2)) | (refine draw_listA (by rfl) (by kernel_rfl) ?_) | (refine draw_listB (by simp [allocsOf, isAlloc]; rfl) (by kernel_rfl) ?_) | simp (maxSteps := 2000000) (disch := first | omega | assumption | simp [*]) [*, -Int.not_le, -Int.not_lt, -Nat.not_le, -Nat.not_lt, -Nat.add_left_cancel_iff, wrap_i64, wrap_u64, Tryz.f75, isP_len hv])
    · have hno2 := hno fun h => h2 h.1.2
      have hc : ¬ ProdC n m (fsts v) (snds v) := fun h => h2 h.1.2
      clear hno
      repeat' (first | (apply brI <;> intro hb hb2 <;> (try simp [-Int.not_le, -Int.not_lt, -Nat.not_le, -Nat.not_lt, -Nat.add_left_cancel_iff] at hb2)) | (refine draw_listA (by rfl) (by kernel_rfl) ?_) | (refine draw_listB (by simp [allocsOf, isAlloc]; rfl) (by kernel_rfl) ?_) | simp (maxSteps := 2000000) (disch := first | omega | assumption | simp [*]) [*, -Int.not_le, -Int.not_lt, -Nat.not_le, -Nat.not_lt, -Nat.add_left_cancel_iff, wrap_i64, wrap_u64, Tryz.f75, isP_len hv])
  · have hno2 := hno fun h => h1 h.1.1
    have hc : ¬ ProdC n m (fsts v) (snds v) := fun h => h1 h.1.1
    clear hno
    repeat' (first | (apply brI <;> intro hb hb2 <;> (try simp [-Int.not_le, -Int.not_lt, -Nat.not_le, -Nat.not_lt, -Nat.add_left_cancel_iff] at hb2)) | (refine draw_listA (by rfl) (by kernel_rfl) ?_) | (refine draw_listB (by simp [allocsOf, isAlloc]; rfl) (by kernel_rfl) ?_) | simp (maxSteps := 2000000) (disch := first | omega | assumption | simp [*]) [*, -Int.not_le, -Int.not_lt, -Nat.not_le, -Nat.not_lt, -Nat.add_left_cancel_iff, wrap_i64, wrap_u64, Tryz.f75, isP_len hv])
theorem sProductOf_s {n m : Int} {v : AV} (hv : IsP v) {K : AV → Prop} {tg : Tg K} : CW env 75 [.int .i64 n, .int .i64 m, v] K tg ↔ K (.tup [.agg [.int .i64 (if ProdC n m (fsts v) (snds v) then m else 0), prodV 3 22 n m (fsts v) (snds v)], .bool (decide (ProdC n m (fsts v) (snds v)))]) := callsTo_iff (sProductOf_c hv)
attribute [simp] sProductOf_s
theorem iProductOf_c {n m : Int} {v : AV} (hv : IsP v) : EvC env 74 [.int .i64 n, .int .i64 m, v] (.tup [.agg [.int .i64 (if ProdC n m (fsts v) (snds v) then m else 0), prodV 3 24 n m (fsts v) (snds v)], .bool (decide (ProdC n m (fsts v) (snds v)))]) := by
  refine evC_of (F := Tryz.f74) rfl rfl (Nat.le_of_ble_eq_true rfl) ?_
  have hle := hv.len
  have hll := hv.lens
  have hno : ¬ ProdC n m (fsts v) (snds v) → prodV 3 24 n m (fsts v) (snds v) = .sl 0 .lit [] := fun h => by simp [prodV, h]
  by_cases h1 : 0 ≤ n
  · by_cases h2 : n ≤ 8
    · by_cases h3 : 0 ≤ m
      · by_cases h4 : m ≤ 6
        · obtain ⟨N, rfl⟩ : ∃ N : Nat, n = N := ⟨n.toNat, by omega⟩
          obtain ⟨M, rfl⟩ : ∃ M : Nat, m = M := ⟨m.toNat, by omega⟩
          have hM8 : M ≤ 8 := by omega
          have hN8 : N ≤ 8 := by omega
          clear hno
          repeat' (first | (apply brI <;> intro hb hb2 <;> (try simp [-Int.not_le, -Int.not_lt, -Nat.not_le, -Nat.not_lt, -Nat.add_left_cancel_iff] at hb2)) | (refine draw_listA (by rfl) (by kernel_rfl) ?_) | (refine draw_listB (by simp [allocsOf, isAlloc]; rfl) (by kernel_rfl) ?_) | simp (maxSteps := 2000000) (disch := first | omega | assumption | simp [*]) [*, -Int.not_le, -Int.not_lt, -Nat.not_le, -Nat.not_lt, -Nat.add_left_cancel_iff, wrap_i64, wrap_u64, Tryz.f74, isP_len hv])
          refine W_loopG (fsts v).length (fun i s h => s 28 = .int .i64 i ∧ s 27 = .int .i64 (fsts v).length ∧ s 26 = v ∧ s 0 = .int .i64 N ∧ s 1 = .int .i64 M ∧ s 6 = .vp 6 0 0 ∧ s 8 = .vp 8 0 0 ∧ h 6 = some (.var 0 26 (.agg [.int .i64 0, .sl 0 .lit []])) ∧
            h 8 = some (.var 0 26 (.agg [.int .i64 M, .ms 24 0 0 N])) ∧ h 24 = some (.row 0 3 1 (ints (tab (prodRow (fsts v) (snds v) M i) N))) ∧ ∀ k, k < i → PSet N (nth (fsts v) k) = true ∧ PSet M (nth (snds v) k) = true) ?_ ?_
          · simp [tab_rep]
            exact tab_congr fun j hj => (prodRow_zero _ _ _ _).symm
          rintro i s h hi ⟨h28, h27, h26, h0, h1', h6, h8, e6, e8, e24, hj⟩
          by_cases hi2 : i < (fsts v).length
          · by_cases hpf : PSet N (nth (fsts v) i) = true
            · by_cases hps : PSet M (nth (snds v) i) = true
              · have hj2 : ∀ k, k < i + 1 → PSet N (nth (fsts v) k) = true ∧ PSet M (nth (snds v) k) = true := fun k hk => by
                  by_cases e : k = i
                  · subst e; exact ⟨hpf, hps⟩
                  · exact hj k (by omega)
                have sb := pset_lt hps
                have hE8 : (elemsTo (nth (fsts v) i) 8).length ≤ 8 := elemsTo_len _ 8
                have hE : IsI (bufC 1 (elemsTo (nth (fsts v) i) 8)) := isI_bufC (by unfold top63; omega)
                have hmem : ∀ e, e < (elemsTo (nth (fsts v) i) 8).length → ∃ g : Nat, nth (elemsTo (nth (fsts v) i) 8) e = g ∧ g < N ∧ PHas (nth (fsts v) i) g = true := fun e he => by
                  obtain ⟨g, a, b, c, d⟩ := mem_elems he
                  exact ⟨g, a, by have := phas_lt hpf d; omega, d⟩
                have hall : ∀ g : Nat, g < N → PHas (nth (fsts v) i) g = true → (g : Int) ∈ (elemsTo (nth (fsts v) i) 8) := fun g hg hp => by
                  obtain ⟨e, he, h9⟩ := elems_mem (s := nth (fsts v) i) (m := g) (by omega) (pset8 hpf) hp
                  rw [← h9, nth_eq he]; exact List.getElem_mem he
                repeat' (first | (apply brI <;> intro hb hb2 <;> (try simp [-Int.not_le, -Int.not_lt, -Nat.not_le, -Nat.not_lt, -Nat.add_left_cancel_iff] at hb2)) | (refine draw_listA (by rfl) (by kernel_rfl) ?_) | (refine draw_listB (by simp [allocsOf, isAlloc]; rfl) (by kernel_rfl) ?_) | simp (maxSteps := 2000000) (disch := first | omega | assumption | simp [*]) [*, -Int.not_le, -Int.not_lt, -Nat.not_le, -Nat.not_lt, -Nat.add_left_cancel_iff, wrap_i64, wrap_u64, h28, h27, h26, h0, h1', h6, h8, e6, e8, e24, isP_len hv, isP_index hv, isI_len hE])
                clear hj
                refine W_loopG (elemsTo (nth (fsts v) i) 8).length (fun j s h => s 49 = .int .i64 j ∧ s 48 = .int .i64 (elemsTo (nth (fsts v) i) 8).length ∧ s 47 = bufC 1 (elemsTo (nth (fsts v) i) 8) ∧ s 28 = .int .i64 i ∧ s 27 = .int .i64 (fsts v).length ∧ s 26 = v ∧ s 0 = .int .i64 N ∧ s 1 = .int .i64 M ∧ s 6 = .vp 6 0 0 ∧ s 8 = .vp 8 0 0 ∧ h 6 = some (.var 0 26 (.agg [.int .i64 0, .sl 0 .lit []])) ∧
                  h 8 = some (.var 0 26 (.agg [.int .i64 M, .ms 24 0 0 N])) ∧ h 24 = some (.row 0 3 1 (ints (tab (fun g' => if (g' : Int) ∈ (elemsTo (nth (fsts v) i) 8).take j then prodRow (fsts v) (snds v) M (i + 1) g' else prodRow (fsts v) (snds v) M i g') N))) ∧
                  ∃ gg, s 10 = .vp 10 gg 0 ∧ h 10 = some (.var gg 101 (.agg [.int .i64 (nth (fsts v) i), .int .i64 (nth (snds v) i)]))) ?_ ?_
                · simp [*]
                rintro j s3 h3 hj ⟨k49, k48, k47, k28, k27, k26, k0, k1, k6, k8, f6, f8, f24, gg, k10, f10⟩
                by_cases hj2' : j < (elemsTo (nth (fsts v) i) 8).length
                · obtain ⟨g, hg, hgN, hgp⟩ := hmem j hj2'
                  have htk : (elemsTo (nth (fsts v) i) 8).take (j + 1) = (elemsTo (nth (fsts v) i) 8).take j ++ [(g : Int)] := by rw [List.take_add_one, nth_get? hj2', hg]; rfl
                  repeat' (first | (apply brI <;> intro hb hb2 <;> (try simp [-Int.not_le, -Int.not_lt, -Nat.not_le, -Nat.not_lt, -Nat.add_left_cancel_iff] at hb2)) | (refine draw_listA (by rfl) (by kernel_rfl) ?_) | (refine draw_listB (by simp [allocsOf, isAlloc]; rfl) (by kernel_rfl) ?_) | simp (maxSteps := 2000000) (disch := first | omega | assumption | simp [*]) [*, -Int.not_le, -Int.not_lt, -Nat.not_le, -Nat.not_lt, -Nat.add_left_cancel_iff, wrap_i64, wrap_u64, k49, k48, k47, k28, k27, k26, k0, k1, k6, k8, f6, f8, f24, k10, f10, isI_len hE, isI_index hE, isI_load hE, tab_nth, tab_set, bits_or])
                  have rr : ∀ K, 0 ≤ prodRow (fsts v) (snds v) M K g ∧ prodRow (fsts v) (snds v) M K g < 256 := fun K => ⟨(setOf_range _ _).1, setOf_small _ hM8⟩
                  have ra := rr i
                  have rb := rr (i + 1)
                  refine tab_congr fun j' hj' => ?_
                  by_cases e : j' = g
                  · subst e
                    by_cases hm : (j' : Int) ∈ (elemsTo (nth (fsts v) i) 8).take j
                    · simp only [if_true, hm, true_or]
                      rw [bits_or rb.1 (by omega) sb.1 (by omega), prodRow_idem hps hgp]
                    · simp only [if_true, hm, false_or, if_false]
                      rw [bits_or ra.1 (by omega) sb.1 (by omega), prodRow_has hps hgp]
                  · have e2 : ¬ (j' : Int) = (g : Int) := by omega
                    simp [e, e2]
                · obtain rfl : j = (elemsTo (nth (fsts v) i) 8).length := by omega
                  repeat' (first | (apply brI <;> intro hb hb2 <;> (try simp [-Int.not_le, -Int.not_lt, -Nat.not_le, -Nat.not_lt, -Nat.add_left_cancel_iff] at hb2)) | (refine draw_listA (by rfl) (by kernel_rfl) ?_) | (refine draw_listB (by simp [allocsOf, isAlloc]; rfl) (by kernel_rfl) ?_) | simp (maxSteps := 2000000) (disch := first | omega | assumption | simp [*]) [*, -Int.not_le, -Int.not_lt, -Nat.not_le, -Nat.not_lt, -Nat.add_left_cancel_iff, wrap_i64, wrap_u64, k49, k48, k47, k28, k27, k26, k0, k1, k6, k8, f6, f8, f24, k10, f10])
                  refine ⟨tab_congr fun g hg => ?_, hj2⟩
                  by_cases hm : PHas (nth (fsts v) i) g = true
                  · simp [hall g hg hm]
                  · have hm2 : PHas (nth (fsts v) i) g = false := by simpa using hm
                    simp [prodRow_not hm2]
              · have hc : ¬ ProdC N M (fsts v) (snds v) := fun h => hps (h.2.2 i hi2).2
                repeat' (first | (apply brI <;> intro hb hb2 <;> (try simp [-Int.not_le, -Int.not_lt, -Nat.not_le, -Nat.not_lt, -Nat.add_left_cancel_iff] at hb2)) | (refine draw_listA (by rfl) (by kernel_rfl) ?_) | (refine draw_listB (by simp [allocsOf, isAlloc]; rfl) (by kernel_rfl) ?_) | simp (maxSteps := 2000000) (disch := first | omega | assumption | simp [*]) [*, -Int.not_le, -Int.not_lt, -Nat.not_le, -Nat.not_lt, -Nat.add_left_cancel_iff, wrap_i64, wrap_u64, h28, h27, h26, h0, h1', h6, h8, e6, e8, e24, isP_len hv, isP_index hv])
                simp [prodV, hc]
            · have hc : ¬ ProdC N M (fsts v) (snds v) := fun h => hpf (h.2.2 i hi2).1
              repeat' (first | (apply brI <;> intro hb hb2 <;> (try simp [-Int.not_le, -Int.not_lt, -Nat.not_le, -Nat.not_lt, -Nat.add_left_cancel_iff] at hb2)) | (refine draw_listA (by rfl) (by kernel_rfl) ?_) | (refine draw_listB (by simp [allocsOf, isAlloc]; rfl) (by kernel_rfl) ?_) | simp (maxSteps := 2000000) (disch := first | omega | assumption | simp [*]) [*, -Int.not_le, -Int.not_lt, -Nat.not_le, -Nat.not_lt, -Nat.add_left_cancel_iff, wrap_i64, wrap_u64, h28, h27, h26, h0, h1', h6, h8, e6, e8, e24, isP_len hv, isP_index hv])
              simp [prodV, hc]
          · obtain rfl : i = (fsts v).length := by omega
            have hc : ProdC N M (fsts v) (snds v) := ⟨⟨h1, h2⟩, ⟨h3, h4⟩, hj⟩
            repeat' (first | (apply brI <;> intro hb hb2 <;> (try simp [-Int.not_le, -Int.not_lt, -Nat.not_le, -Nat.not_lt, -Nat.add_left_cancel_iff] at hb2)) | (refine draw_listA (by rfl) (by kernel_rfl) ?_) | (refine draw_listB (by simp [allocsOf, isAlloc]; rfl) (by kernel_rfl) ?_) | simp (maxSteps := 2000000) (disch := first | omega | assumption | simp [*]) [*, -Int.not_le, -Int.not_lt, -Nat.not_le, -Nat.not_lt, -Nat.add_left_cancel_iff, wrap_i64, wrap_u64, h28, h27, h26, h0, h1', h6, h8, e6, e8, e24, isP_len hv])
            rw [expo_row (es := ints (tab (prodRow (fsts v) (snds v) M (fsts v).length) N)) (T := 3) (k := 1) (by simp [hset, e24]) (by simp) (by simp) (by simp)]
            simp [prodV, hc]
        · have hno2 := hno fun h => h4 h.2.1.2
          have hc : ¬ ProdC n m (fsts v) (snds v) := fun h => h4 h.2.1.2
          clear hno
          repeat' (first | (apply brI <;> intro hb hb2 <;> (try simp [-Int.not_le, -Int.not_lt, -Nat.not_le, -Nat.not_lt, -Nat.add_left_cancel_iff] at hb2)) | (refine draw_listA (by rfl) (by kernel_rfl) ?_) | (refine draw_listB (by simp [allocsOf, isAlloc]; rfl) (by kernel_rfl) ?_) | simp (maxSteps := 2000000) (disch := first | omega | assumption | simp [*]) [*, -Int.not_le, -Int.not_lt, -Nat.not_le, -Nat.not_lt, -Nat.add_left_cancel_iff, wrap_i64, wrap_u64, Tryz.f74, isP_len hv])
      · have hno2 := hno fun h => h3 h.2.1.1
        have hc : ¬ ProdC n m (fsts v) (snds v) := fun h => h3 h.2.1.1
        clear hno
        repeat' (first | (apply brI <;> intro hb hb2 <;> (try simp [-Int.not_le, -Int.not_lt, -Nat.not_le, -Nat.not_lt, -Nat.add_left_cancel_iff] at hb2)) | (refine draw_listA (by rfl) (by kernel_rfl) ?_) | (refine draw_listB (by simp [allocsOf, isAlloc]; rfl) (by kernel_rfl) ?_) | simp (maxSteps := 2000000) (disch := first | omega | assumption | simp [*]) [*, -Int.not_le, -Int.not_lt, -Nat.not_le, -Nat.not_lt, -Nat.add_left_cancel_iff, wrap_i64, wrap_u64, Tryz.f74, isP_len hv])
    · have hno2 := hno fun h => h2 h.1.2
      have hc : ¬ ProdC n m (fsts v) (snds v) := fun h => h2 h.1.2
      clear hno
      repeat' (first | (apply brI <;> intro hb hb2 <;> (try simp [-Int.not_le, -Int.not_lt, -Nat.not_le, -Nat.not_lt, -Nat.add_left_cancel_iff] at hb2)) | (refine draw_listA (by rfl) (by kernel_rfl) ?_) | (refine draw_listB (by simp [allocsOf, isAlloc]; rfl) (by kernel_rfl) ?_) | simp (maxSteps := 2000000) (disch := first | omega | assumption | simp [*]) [*, -Int.not_le, -Int.not_lt, -Nat.not_le, -Nat.not_lt, -Nat.add_left_cancel_iff, wrap_i64, wrap_u64, Tryz.f74, isP_len hv])
  · have hno2 := hno fun h => h1 h.1.1
    have hc : ¬ ProdC n m (fsts v) (snds v) := fun h => h1 h.1.1
    clear hno
    repeat' (first | (apply brI <;> intro hb hb2 <;> (try simp [-Int.not_le, -Int.not_lt, -Nat.not_le, -Nat.not_lt, -Nat.add_left_cancel_iff] at hb2)) | (refine draw_listA (by rfl) (by kernel_rfl) ?_) | (refine draw_listB (by simp [allocsOf, isAlloc]; rfl) (by kernel_rfl) ?_) | simp (maxSteps := 2000000) (disch := first | omega | assumption | simp [*]) [*, -Int.not_le, -Int.not_lt, -Nat.not_le, -Nat.not_lt, -Nat.add_left_cancel_iff, wrap_i64, wrap_u64, Tryz.f74, isP_len hv])
theorem iProductOf_s {n m : Int} {v : AV} (hv : IsP v) {K : AV → Prop} {tg : Tg K} : CW env 74 [.int .i64 n, .int .i64 m, v] K tg ↔ K (.tup [.agg [.int .i64 (if ProdC n m (fsts v) (snds v) then m else 0), prodV 3 24 n m (fsts v) (snds v)], .bool (decide (ProdC n m (fsts v) (snds v)))]) := callsTo_iff (iProductOf_c hv)
attribute [simp] iProductOf_s
end Go.Proofs.YtliecnadoklgoaaGreatDoor
