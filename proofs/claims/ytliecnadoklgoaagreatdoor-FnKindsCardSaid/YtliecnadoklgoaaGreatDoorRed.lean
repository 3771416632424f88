/- XRed XRed2, joined. Conditions: none. -/
import Derived.Test.YtliecnadoklgoaaGreatDoorDrawC
import Derived.Test.YtliecnadoklgoaaGreatDoorArrow
import Derived.Test.YtliecnadoklgoaaGreatDoorSub
/- What the reference drops of a context. Conditions: none. -/
namespace Go.Proofs.YtliecnadoklgoaaGreatDoor
open Ev
set_option linter.unusedVariables false
set_option linter.unusedSimpArgs false
set_option maxHeartbeats 4000000

/-- the rows that stay -/
def stayR (xs : List Int) (o : Int) : Nat → List Int
  | 0 => []
  | k + 1 => if PHas o k = true then stayR xs o k else stayR xs o k ++ [nth xs k]
theorem stayR_len (xs : List Int) (o : Int) : ∀ k, (stayR xs o k).length ≤ k
  | 0 => by simp [stayR]
  | k + 1 => by
    have := stayR_len xs o k
    unfold stayR
    split
    · omega
    · simp; omega
def DoSt (h : Heap) (n : Int) (v : AV) (xs : List Int) (o : Int) (i : Nat) (a6 : AV) : Prop := ∃ (u : AV), a6 = .vp 6 0 0 ∧ h 6 = some (.var 0 26 (.agg [.int .i64 n, u])) ∧ Buf h 3 42 0 u (stayR xs o i) ∧ h 2 = some (.var 0 26 (.agg [.int .i64 n, v])) ∧ h 4 = some (.var 0 26 (.agg [.int .i64 0, .sl 0 .lit []]))
def DoR (n : Int) (rows : List Int) (r : AV) : Prop := noEx r = .tup [.agg [.int .i64 n, bufC 0 rows], .bool true]
theorem sDropObjects_t {n o : Int} {v : AV} (hv : IsI v) (hp : PCtx n (xsOf v)) (ho : PSet (xsOf v).length o = true) : CallsTo env 109 [.agg [.int .i64 n, v], .int .i64 o] (fun r => DoR n (stayR (xsOf v) o (xsOf v).length) r) := by
  refine callsTo_mk (F := Tryz.f109) rfl rfl (Nat.le_of_ble_eq_true rfl) ?_
  have hvl := hv.len
  have h8 : (xsOf v).length ≤ 8 := hp.2.2.1
  repeat' (first | (apply brI <;> intro hb hb2 <;> (try simp [-Int.not_le, -Int.not_lt, -Nat.not_le, -Nat.not_lt, -Nat.add_left_cancel_iff] at hb2)) | (refine draw_listA (by rfl) (by kernel_rfl) ?_) | (refine draw_listB (by simp [allocsOf, isAlloc]; rfl) (by kernel_rfl) ?_) | simp (maxSteps := 2000000) (disch := first | omega | assumption | simp [*]) [*, -Int.not_le, -Int.not_lt, -Nat.not_le, -Nat.not_lt, -Nat.add_left_cancel_iff, wrap_i64, wrap_u64, Tryz.f109, isI_cells hv, isI_one hv, isI_low hv, isI_len hv])
  refine W_loopG (xsOf v).length (fun i s h' => DoSt h' n v (xsOf v) o i (s 6) ∧ s 7 = .int .i64 i ∧ s 1 = .int .i64 o ∧ s 2 = .vp 2 0 0 ∧ s 4 = .vp 4 0 0) ?_ ?_
  · refine ⟨⟨.sl 0 .lit [], by simp [*, nextG, hset, hnil], by simp [hset, hnil, nextG], buf_nil .., by simp [hset, hnil], by simp [hset, hnil]⟩, ?_⟩
    simp [*]
  rintro i s h2 hi ⟨⟨u, h6, e6, hB, e2, e4⟩, h7, h1, hs2, hs4⟩
  have ou := hB.one
  have cu := hB.cells
  have hsl := stayR_len (xsOf v) o i
  by_cases hi2 : i < (xsOf v).length
  · have hi62 : (i : Int) ≤ 62 := by omega
    cases hh : PHas o i with
    | true =>
      have hst : DoSt h2 n v (xsOf v) o (i + 1) (.vp 6 0 0) := ⟨u, rfl, e6, by unfold stayR; rw [if_pos hh]; exact hB, e2, e4⟩
      clear hB e4
      repeat' (first | (apply brI <;> intro hb hb2 <;> (try simp [-Int.not_le, -Int.not_lt, -Nat.not_le, -Nat.not_lt, -Nat.add_left_cancel_iff] at hb2)) | (refine draw_listA (by rfl) (by kernel_rfl) ?_) | (refine draw_listB (by simp [allocsOf, isAlloc]; rfl) (by kernel_rfl) ?_) | simp (maxSteps := 2000000) (disch := first | omega | assumption | simp [*]) [*, -Int.not_le, -Int.not_lt, -Nat.not_le, -Nat.not_lt, -Nat.add_left_cancel_iff, wrap_i64, wrap_u64, h6, e6, h7, h1, hs2, hs4, e2, isI_cells hv, isI_one hv, isI_low hv, isI_len hv, isI_index hv, isI_load hv])
    | false =>
      repeat' (first | (apply brI <;> intro hb hb2 <;> (try simp [-Int.not_le, -Int.not_lt, -Nat.not_le, -Nat.not_lt, -Nat.add_left_cancel_iff] at hb2)) | (refine draw_listA (by rfl) (by kernel_rfl) ?_) | (refine draw_listB (by simp [allocsOf, isAlloc]; rfl) (by kernel_rfl) ?_) | simp (maxSteps := 2000000) (disch := first | omega | assumption | simp [*]) [*, -Int.not_le, -Int.not_lt, -Nat.not_le, -Nat.not_lt, -Nat.add_left_cancel_iff, wrap_i64, wrap_u64, h6, e6, h7, h1, hs2, hs4, e2, isI_cells hv, isI_one hv, isI_low hv, isI_len hv, isI_index hv, isI_load hv])
      refine wa_push hB (by simp) (by simp) (by omega) ?_
      intro u6 hA hB6 hk6
      have o6 := hB6.one
      have c6 := hB6.cells
      have e66 := (hk6 6 (by omega)).trans e6
      have e62 := (hk6 2 (by omega)).trans e2
      have e64 := (hk6 4 (by omega)).trans e4
      have hend : ∀ h', h' 6 = some (.var 0 26 (.agg [.int .i64 n, u6])) → (∀ y, y ≠ 6 → h' y = hA y) → DoSt h' n v (xsOf v) o (i + 1) (.vp 6 0 0) := fun h' a1 a2 => ⟨u6, rfl, a1, by unfold stayR; rw [if_neg (by rw [hh]; simp)]; exact hB6.keep (a2 _ (by omega)), (a2 _ (by omega)).trans e62, (a2 _ (by omega)).trans e64⟩
      clear hk6 e6 e2 e4 hB hB6
      repeat' (first | (apply brI <;> intro hb hb2 <;> (try simp [-Int.not_le, -Int.not_lt, -Nat.not_le, -Nat.not_lt, -Nat.add_left_cancel_iff] at hb2)) | (refine draw_listA (by rfl) (by kernel_rfl) ?_) | (refine draw_listB (by simp [allocsOf, isAlloc]; rfl) (by kernel_rfl) ?_) | simp (maxSteps := 2000000) (disch := first | omega | assumption | simp [*]) [*, -Int.not_le, -Int.not_lt, -Nat.not_le, -Nat.not_lt, -Nat.add_left_cancel_iff, wrap_i64, wrap_u64, h6, e66, h7, h1, e62, hs2, hs4])
      all_goals first | exact hend _ (hset_same ..) fun y hy => hset_other _ _ hy | skip
  · obtain rfl : i = (xsOf v).length := by omega
    have hend : ∀ h', h' 42 = h2 42 → DoR n (stayR (xsOf v) o (xsOf v).length) (.tup [.agg [.int .i64 n, expo h' u], .bool true]) := fun h' e => by have := (hB.keep e).expo; unfold DoR; simp [noEx, noExs, this]
    clear hB
    repeat' (first | (apply brI <;> intro hb hb2 <;> (try simp [-Int.not_le, -Int.not_lt, -Nat.not_le, -Nat.not_lt, -Nat.add_left_cancel_iff] at hb2)) | (refine draw_listA (by rfl) (by kernel_rfl) ?_) | (refine draw_listB (by simp [allocsOf, isAlloc]; rfl) (by kernel_rfl) ?_) | simp (maxSteps := 2000000) (disch := first | omega | assumption | simp [*]) [*, -Int.not_le, -Int.not_lt, -Nat.not_le, -Nat.not_lt, -Nat.add_left_cancel_iff, wrap_i64, wrap_u64, h6, e6, h7, h1, hs2, hs4, e2, e4, isI_len hv])
    all_goals first | exact hend _ (by rw [hset_other _ _ (by omega)]) | skip
/-- the meet of the rows strictly above a row -/
def upO (xs : List Int) (N g : Nat) : Nat → Int
  | 0 => 2 ^ N - 1
  | k + 1 => if nth xs k ≠ nth xs g ∧ (((nth xs k).toNat &&& (nth xs g).toNat : Nat) : Int) = nth xs g then (((upO xs N g k).toNat &&& (nth xs k).toNat : Nat) : Int) else upO xs N g k
theorem upO_range (xs : List Int) {N : Nat} (g : Nat) (hN : N ≤ 8) : ∀ k, 0 ≤ upO xs N g k ∧ upO xs N g k < 256
  | 0 => by
    have h1 := pow_small (i := N) (by omega)
    have h2 := pow_pos2 N
    unfold upO
    have : (2 : Int) ^ N ≤ 2 ^ 8 := two_pow_le hN
    omega
  | k + 1 => by
    have h := upO_range xs (N := N) g hN k
    unfold upO
    split
    · have : (upO xs N g k).toNat &&& (nth xs k).toNat ≤ (upO xs N g k).toNat := Nat.and_le_left
      omega
    · exact h
theorem sIsReducibleObject_c {N g : Nat} {v : AV} (hv : IsI v) (hp : PCtx N (xsOf v)) (hg : g < (xsOf v).length) : EvC env 108 [.agg [.int .i64 N, v], .int .i64 g] (.bool (decide (upO (xsOf v) N g (xsOf v).length = nth (xsOf v) g))) := by
  refine evC_of (F := Tryz.f108) rfl rfl (Nat.le_of_ble_eq_true rfl) ?_
  have hvl := hv.len
  have h8 : (xsOf v).length ≤ 8 := hp.2.2.1
  have hN6 : (N : Int) ≤ 6 := hp.2.1
  have hN8 : N ≤ 8 := by omega
  have hpw := pow_small (i := N) (by omega)
  have hgi : (g : Int) ≤ ((xsOf v).length : Int) - 1 := by omega
  obtain ⟨rg1, rg2⟩ := pset_lt (hp.2.2.2 g hg)
  have hrow : ∀ i : Nat, i < (xsOf v).length → 0 ≤ nth (xsOf v) i ∧ nth (xsOf v) i < 256 := fun i hi => pset_lt (hp.2.2.2 i hi)
  have hur := upO_range (xsOf v) g hN8
  repeat' (first | (apply brI <;> intro hb hb2 <;> (try simp [-Int.not_le, -Int.not_lt, -Nat.not_le, -Nat.not_lt, -Nat.add_left_cancel_iff] at hb2)) | (refine draw_listA (by rfl) (by kernel_rfl) ?_) | (refine draw_listB (by simp [allocsOf, isAlloc]; rfl) (by kernel_rfl) ?_) | simp (maxSteps := 2000000) (disch := first | omega | assumption | simp [*]) [*, -Int.not_le, -Int.not_lt, -Nat.not_le, -Nat.not_lt, -Nat.add_left_cancel_iff, wrap_i64, wrap_u64, Tryz.f108, isI_cells hv, isI_one hv, isI_low hv, isI_len hv])
  refine W_loopG (xsOf v).length (fun i s h' => s 6 = .int .i64 i ∧ s 5 = .int .i64 (upO (xsOf v) N g i) ∧ s 1 = .int .i64 g ∧ s 2 = .vp 2 0 0 ∧ h' 2 = some (.var 0 26 (.agg [.int .i64 N, v]))) ?_ ?_
  · clear hrow hur
    simp [*, upO]
    intro h9
    omega
  rintro i s h2 hi ⟨h6, h5, h1, hs2, e2⟩
  by_cases hi2 : i < (xsOf v).length
  · obtain ⟨r1, r2⟩ := hrow i hi2
    obtain ⟨u1, u2⟩ := hur i
    clear hrow hur
    by_cases hc1 : nth (xsOf v) i = nth (xsOf v) g
    · have hsu : upO (xsOf v) N g (i + 1) = upO (xsOf v) N g i := by
        conv => lhs; unfold upO
        rw [if_neg fun h => h.1 hc1]
      repeat' (first | (apply brI <;> intro hb hb2 <;> (try simp [-Int.not_le, -Int.not_lt, -Nat.not_le, -Nat.not_lt, -Nat.add_left_cancel_iff] at hb2)) | (refine draw_listA (by rfl) (by kernel_rfl) ?_) | (refine draw_listB (by simp [allocsOf, isAlloc]; rfl) (by kernel_rfl) ?_) | simp (maxSteps := 2000000) (disch := first | omega | assumption | simp [*]) [*, -Int.not_le, -Int.not_lt, -Nat.not_le, -Nat.not_lt, -Nat.add_left_cancel_iff, wrap_i64, wrap_u64, h6, h5, h1, hs2, e2, isI_cells hv, isI_one hv, isI_low hv, isI_len hv, isI_index hv, isI_load hv, bits_and])
    · by_cases hc2 : (((nth (xsOf v) i).toNat &&& (nth (xsOf v) g).toNat : Nat) : Int) = nth (xsOf v) g
      · have hsu : upO (xsOf v) N g (i + 1) = (((upO (xsOf v) N g i).toNat &&& (nth (xsOf v) i).toNat : Nat) : Int) := by
          conv => lhs; unfold upO
          rw [if_pos ⟨hc1, hc2⟩]
        repeat' (first | (apply brI <;> intro hb hb2 <;> (try simp [-Int.not_le, -Int.not_lt, -Nat.not_le, -Nat.not_lt, -Nat.add_left_cancel_iff] at hb2)) | (refine draw_listA (by rfl) (by kernel_rfl) ?_) | (refine draw_listB (by simp [allocsOf, isAlloc]; rfl) (by kernel_rfl) ?_) | simp (maxSteps := 2000000) (disch := first | omega | assumption | simp [*]) [*, -Int.not_le, -Int.not_lt, -Nat.not_le, -Nat.not_lt, -Nat.add_left_cancel_iff, wrap_i64, wrap_u64, h6, h5, h1, hs2, e2, isI_cells hv, isI_one hv, isI_low hv, isI_len hv, isI_index hv, isI_load hv, bits_and])
      · have hsu : upO (xsOf v) N g (i + 1) = upO (xsOf v) N g i := by
          conv => lhs; unfold upO
          rw [if_neg fun h => hc2 h.2]
        repeat' (first | (apply brI <;> intro hb hb2 <;> (try simp [-Int.not_le, -Int.not_lt, -Nat.not_le, -Nat.not_lt, -Nat.add_left_cancel_iff] at hb2)) | (refine draw_listA (by rfl) (by kernel_rfl) ?_) | (refine draw_listB (by simp [allocsOf, isAlloc]; rfl) (by kernel_rfl) ?_) | simp (maxSteps := 2000000) (disch := first | omega | assumption | simp [*]) [*, -Int.not_le, -Int.not_lt, -Nat.not_le, -Nat.not_lt, -Nat.add_left_cancel_iff, wrap_i64, wrap_u64, h6, h5, h1, hs2, e2, isI_cells hv, isI_one hv, isI_low hv, isI_len hv, isI_index hv, isI_load hv, bits_and])
  · obtain rfl : i = (xsOf v).length := by omega
    clear hrow hur
    repeat' (first | (apply brI <;> intro hb hb2 <;> (try simp [-Int.not_le, -Int.not_lt, -Nat.not_le, -Nat.not_lt, -Nat.add_left_cancel_iff] at hb2)) | (refine draw_listA (by rfl) (by kernel_rfl) ?_) | (refine draw_listB (by simp [allocsOf, isAlloc]; rfl) (by kernel_rfl) ?_) | simp (maxSteps := 2000000) (disch := first | omega | assumption | simp [*]) [*, -Int.not_le, -Int.not_lt, -Nat.not_le, -Nat.not_lt, -Nat.add_left_cancel_iff, wrap_i64, wrap_u64, h6, h5, h1, hs2, e2, isI_cells hv, isI_one hv, isI_low hv, isI_len hv, isI_index hv, isI_load hv])
theorem sIsReducibleObject_s {N g : Nat} {v : AV} (hv : IsI v) (hp : PCtx N (xsOf v)) (hg : g < (xsOf v).length) {K : AV → Prop} {tg : Tg K} : CW env 108 [.agg [.int .i64 N, v], .int .i64 g] K tg ↔ K (.bool (decide (upO (xsOf v) N g (xsOf v).length = nth (xsOf v) g))) := callsTo_iff (sIsReducibleObject_c hv hp hg)
attribute [simp] sIsReducibleObject_s
/-- the meet of the columns strictly above a column -/
def upC (xs : List Int) (m : Nat) : Nat → Int
  | 0 => 2 ^ xs.length - 1
  | k + 1 => if Col xs k ≠ Col xs m ∧ (((Col xs k).toNat &&& (Col xs m).toNat : Nat) : Int) = Col xs m then (((upC xs m k).toNat &&& (Col xs k).toNat : Nat) : Int) else upC xs m k
theorem col_256 {xs : List Int} (h : xs.length ≤ 8) (m : Nat) : 0 ≤ Col xs m ∧ Col xs m < 256 := pset_lt (n := xs.length) (setOf_pset _ h)
theorem upC_range {xs : List Int} (m : Nat) (h8 : xs.length ≤ 8) : ∀ k, 0 ≤ upC xs m k ∧ upC xs m k < 256
  | 0 => by
    have h2 := pow_pos2 xs.length
    unfold upC
    have : (2 : Int) ^ xs.length ≤ 2 ^ 8 := two_pow_le h8
    omega
  | k + 1 => by
    have h := upC_range (xs := xs) m h8 k
    unfold upC
    split
    · have : (upC xs m k).toNat &&& (Col xs k).toNat ≤ (upC xs m k).toNat := Nat.and_le_left
      omega
    · exact h
theorem sIsReducibleAttribute_c {N m : Nat} {v : AV} (hv : IsI v) (hp : PCtx N (xsOf v)) (hm : m < N) : EvC env 110 [.agg [.int .i64 N, v], .int .i64 m] (.bool (decide (upC (xsOf v) m N = Col (xsOf v) m))) := by
  refine evC_of (F := Tryz.f110) rfl rfl (Nat.le_of_ble_eq_true rfl) ?_
  have hvl := hv.len
  have h8 : (xsOf v).length ≤ 8 := hp.2.2.1
  have h8i : ¬ (8 < ((xsOf v).length : Int)) := by omega
  have hN6 : (N : Int) ≤ 6 := hp.2.1
  have hpw := pow_small (i := (xsOf v).length) (by omega)
  have hmi : (m : Int) ≤ (N : Int) - 1 := by omega
  obtain ⟨rg1, rg2⟩ := col_256 h8 m
  have hcol := fun k => col_256 h8 k
  have hur := upC_range m h8
  have hcc : ∀ (k : Nat) (K : AV → Prop) (tg : Tg K), k < N → (CW env 200 [.agg [.int .i64 N, v], .int .i64 k] K tg ↔ K (.int .i64 (Col (xsOf v) k))) := fun k K tg hk => callsTo_iff (l3Column_c hv hp hk)
  repeat' (first | (apply brI <;> intro hb hb2 <;> (try simp [-Int.not_le, -Int.not_lt, -Nat.not_le, -Nat.not_lt, -Nat.add_left_cancel_iff] at hb2)) | (refine draw_listA (by rfl) (by kernel_rfl) ?_) | (refine draw_listB (by simp [allocsOf, isAlloc]; rfl) (by kernel_rfl) ?_) | simp (maxSteps := 2000000) (disch := first | omega | assumption | simp [*]) [*, -Int.not_le, -Int.not_lt, -Nat.not_le, -Nat.not_lt, -Nat.add_left_cancel_iff, wrap_i64, wrap_u64, Tryz.f110, isI_cells hv, isI_one hv, isI_low hv, isI_len hv])
  refine W_loopG N (fun i s h' => s 7 = .int .i64 i ∧ s 6 = .int .i64 (upC (xsOf v) m i) ∧ s 5 = .int .i64 (Col (xsOf v) m) ∧ s 1 = .int .i64 m ∧ s 2 = .vp 2 0 0 ∧ h' 2 = some (.var 0 26 (.agg [.int .i64 N, v]))) ?_ ?_
  · clear hcol hur hcc
    simp [*, upC]
    try (intro h9; omega)
  rintro i s h2 hi ⟨h7, h6, h5, h1, hs2, e2⟩
  by_cases hi2 : i < N
  · obtain ⟨r1, r2⟩ := hcol i
    obtain ⟨u1, u2⟩ := hur i
    have hci := fun K tg => hcc i K tg hi2
    clear hcol hur hcc
    by_cases hc1 : Col (xsOf v) i = Col (xsOf v) m
    · have hsu : upC (xsOf v) m (i + 1) = upC (xsOf v) m i := by
        conv => lhs; unfold upC
        rw [if_neg fun h => h.1 hc1]
      repeat' (first | (apply brI <;> intro hb hb2 <;> (try simp [-Int.not_le, -Int.not_lt, -Nat.not_le, -Nat.not_lt, -Nat.add_left_cancel_iff] at hb2)) | (refine draw_listA (by rfl) (by kernel_rfl) ?_) | (refine draw_listB (by simp [allocsOf, isAlloc]; rfl) (by kernel_rfl) ?_) | simp (maxSteps := 2000000) (disch := first | omega | assumption | simp [*]) [*, -Int.not_le, -Int.not_lt, -Nat.not_le, -Nat.not_lt, -Nat.add_left_cancel_iff, wrap_i64, wrap_u64, h7, h6, h5, h1, hs2, e2, isI_cells hv, isI_one hv, isI_low hv, isI_len hv, bits_and])
    · by_cases hc2 : (((Col (xsOf v) i).toNat &&& (Col (xsOf v) m).toNat : Nat) : Int) = Col (xsOf v) m
      · have hsu : upC (xsOf v) m (i + 1) = (((upC (xsOf v) m i).toNat &&& (Col (xsOf v) i).toNat : Nat) : Int) := by
          conv => lhs; unfold upC
          rw [if_pos ⟨hc1, hc2⟩]
        repeat' (first | (apply brI <;> intro hb hb2 <;> (try simp [-Int.not_le, -Int.not_lt, -Nat.not_le, -Nat.not_lt, -Nat.add_left_cancel_iff] at hb2)) | (refine draw_listA (by rfl) (by kernel_rfl) ?_) | (refine draw_listB (by simp [allocsOf, isAlloc]; rfl) (by kernel_rfl) ?_) | simp (maxSteps := 2000000) (disch := first | omega | assumption | simp [*]) [*, -Int.not_le, -Int.not_lt, -Nat.not_le, -Nat.not_lt, -Nat.add_left_cancel_iff, wrap_i64, wrap_u64, h7, h6, h5, h1, hs2, e2, isI_cells hv, isI_one hv, isI_low hv, isI_len hv, bits_and])
      · have hsu : upC (xsOf v) m (i + 1) = upC (xsOf v) m i := by
          conv => lhs; unfold upC
          rw [if_neg fun h => hc2 h.2]
        repeat' (first | (apply brI <;> intro hb hb2 <;> (try simp [-Int.not_le, -Int.not_lt, -Nat.not_le, -Nat.not_lt, -Nat.add_left_cancel_iff] at hb2)) | (refine draw_listA (by rfl) (by kernel_rfl) ?_) | (refine draw_listB (by simp [allocsOf, isAlloc]; rfl) (by kernel_rfl) ?_) | simp (maxSteps := 2000000) (disch := first | omega | assumption | simp [*]) [*, -Int.not_le, -Int.not_lt, -Nat.not_le, -Nat.not_lt, -Nat.add_left_cancel_iff, wrap_i64, wrap_u64, h7, h6, h5, h1, hs2, e2, isI_cells hv, isI_one hv, isI_low hv, isI_len hv, bits_and])
  · obtain rfl : i = N := by omega
    clear hcol hur hcc
    repeat' (first | (apply brI <;> intro hb hb2 <;> (try simp [-Int.not_le, -Int.not_lt, -Nat.not_le, -Nat.not_lt, -Nat.add_left_cancel_iff] at hb2)) | (refine draw_listA (by rfl) (by kernel_rfl) ?_) | (refine draw_listB (by simp [allocsOf, isAlloc]; rfl) (by kernel_rfl) ?_) | simp (maxSteps := 2000000) (disch := first | omega | assumption | simp [*]) [*, -Int.not_le, -Int.not_lt, -Nat.not_le, -Nat.not_lt, -Nat.add_left_cancel_iff, wrap_i64, wrap_u64, h7, h6, h5, h1, hs2, e2, isI_cells hv, isI_one hv, isI_low hv, isI_len hv])
theorem sIsReducibleAttribute_s {N m : Nat} {v : AV} (hv : IsI v) (hp : PCtx N (xsOf v)) (hm : m < N) {K : AV → Prop} {tg : Tg K} : CW env 110 [.agg [.int .i64 N, v], .int .i64 m] K tg ↔ K (.bool (decide (upC (xsOf v) m N = Col (xsOf v) m))) := callsTo_iff (sIsReducibleAttribute_c hv hp hm)
attribute [simp] sIsReducibleAttribute_s
/-- the rows without the attributes that go -/
def packR (xs : List Int) (kp : Int) : Nat → List Int
  | 0 => []
  | k + 1 => packR xs kp k ++ [Pack (nth xs k) kp]
@[simp] theorem packR_len (xs : List Int) (kp : Int) : ∀ k, (packR xs kp k).length = k
  | 0 => rfl
  | k + 1 => by simp [packR, packR_len xs kp k]
def DaSt (h : Heap) (n n2 : Int) (v : AV) (xs : List Int) (kp : Int) (i : Nat) (a7 : AV) : Prop := ∃ (u : AV), a7 = .vp 7 0 0 ∧ h 7 = some (.var 0 26 (.agg [.int .i64 n2, u])) ∧ Buf h 3 45 0 u (packR xs kp i) ∧ h 2 = some (.var 0 26 (.agg [.int .i64 n, v])) ∧ h 4 = some (.var 0 26 (.agg [.int .i64 0, .sl 0 .lit []]))
theorem sDropAttributes_t {N : Nat} {o : Int} {v : AV} (hv : IsI v) (hp : PCtx N (xsOf v)) (ho : PSet N o = true) : CallsTo env 111 [.agg [.int .i64 N, v], .int .i64 o] (fun r => DoR (elemsTo (2 ^ N - 1 - o) 8).length (packR (xsOf v) (2 ^ N - 1 - o) (xsOf v).length) r) := by
  refine callsTo_mk (F := Tryz.f111) rfl rfl (Nat.le_of_ble_eq_true rfl) ?_
  have hvl := hv.len
  have h8 : (xsOf v).length ≤ 8 := hp.2.2.1
  have hN6 : (N : Int) ≤ 6 := hp.2.1
  have hpw := pow_small (i := N) (by omega)
  obtain ⟨_, _, ro1, ro2⟩ := pset_iff.mp ho
  rw [Int.toNat_natCast] at ro2
  obtain ⟨kp, hkp⟩ : ∃ kp : Int, 2 ^ N - 1 - o = kp := ⟨_, rfl⟩
  have hk8 : PSet 8 kp = true := by
    rw [pset_iff]
    have e : (2 : Int) ^ (8 : Int).toNat = 256 := by decide
    rw [e]
    omega
  have hrow : ∀ i : Nat, i < (xsOf v).length → PSet 8 (nth (xsOf v) i) = true := fun i hi => pset8 (hp.2.2.2 i hi)
  have hpk : ∀ (i : Nat) (K : AV → Prop) (tg : Tg K), i < (xsOf v).length → (CW env 123 [.int .i64 (nth (xsOf v) i), .int .i64 kp] K tg ↔ K (.int .i64 (Pack (nth (xsOf v) i) kp))) := fun i K tg hi => callsTo_iff (l7Pack_c (hrow i hi) hk8)
  rw [hkp]
  have hN8 : ¬ (8 < (N : Int)) := by omega
  obtain ⟨n2, hn2⟩ : ∃ n2 : Int, ((elemsTo kp 8).length : Int) = n2 := ⟨_, rfl⟩
  rw [hn2]
  clear hrow hk8
  repeat' (first | (apply brI <;> intro hb hb2 <;> (try simp [-Int.not_le, -Int.not_lt, -Nat.not_le, -Nat.not_lt, -Nat.add_left_cancel_iff] at hb2)) | (refine draw_listA (by rfl) (by kernel_rfl) ?_) | (refine draw_listB (by simp [allocsOf, isAlloc]; rfl) (by kernel_rfl) ?_) | simp (maxSteps := 2000000) (disch := first | omega | assumption | simp [*]) [*, -Int.not_le, -Int.not_lt, -Nat.not_le, -Nat.not_lt, -Nat.add_left_cancel_iff, wrap_i64, wrap_u64, Tryz.f111, isI_cells hv, isI_one hv, isI_low hv, isI_len hv])
  refine W_loopG (xsOf v).length (fun i s h' => DaSt h' N n2 v (xsOf v) kp i (s 7) ∧ s 8 = .int .i64 i ∧ s 6 = .int .i64 kp ∧ s 2 = .vp 2 0 0 ∧ s 4 = .vp 4 0 0) ?_ ?_
  · clear hpk
    refine ⟨⟨.sl 0 .lit [], by simp [*, nextG, hset, hnil], by simp [*, hset, hnil, nextG], buf_nil .., by simp [hset, hnil], by simp [hset, hnil]⟩, ?_⟩
    simp [*]
  rintro i s h2 hi ⟨⟨u, h7, e7, hB, e2, e4⟩, h8', h6, hs2, hs4⟩
  have ou := hB.one
  have cu := hB.cells
  clear hkp hn2
  by_cases hi2 : i < (xsOf v).length
  · have hpi := fun K tg => hpk i K tg hi2
    clear hpk
    repeat' (first | (apply brI <;> intro hb hb2 <;> (try simp [-Int.not_le, -Int.not_lt, -Nat.not_le, -Nat.not_lt, -Nat.add_left_cancel_iff] at hb2)) | (refine draw_listA (by rfl) (by kernel_rfl) ?_) | (refine draw_listB (by simp [allocsOf, isAlloc]; rfl) (by kernel_rfl) ?_) | simp (maxSteps := 2000000) (disch := first | omega | assumption | simp [*]) [*, -Int.not_le, -Int.not_lt, -Nat.not_le, -Nat.not_lt, -Nat.add_left_cancel_iff, wrap_i64, wrap_u64, h7, e7, h8', h6, hs2, hs4, e2, isI_cells hv, isI_one hv, isI_low hv, isI_len hv, isI_index hv, isI_load hv])
    refine wa_push hB (by simp) (by simp) (by simp; omega) ?_
    intro u6 hA hB6 hk6
    have o6 := hB6.one
    have c6 := hB6.cells
    have e77 := (hk6 7 (by omega)).trans e7
    have e72 := (hk6 2 (by omega)).trans e2
    have e74 := (hk6 4 (by omega)).trans e4
    have hend : ∀ h', h' 7 = some (.var 0 26 (.agg [.int .i64 n2, u6])) → (∀ y, y ≠ 7 → h' y = hA y) → DaSt h' N n2 v (xsOf v) kp (i + 1) (.vp 7 0 0) := fun h' a1 a2 => ⟨u6, rfl, a1, hB6.keep (a2 _ (by omega)), (a2 _ (by omega)).trans e72, (a2 _ (by omega)).trans e74⟩
    clear hk6 e7 e2 e4 hB hB6
    repeat' (first | (apply brI <;> intro hb hb2 <;> (try simp [-Int.not_le, -Int.not_lt, -Nat.not_le, -Nat.not_lt, -Nat.add_left_cancel_iff] at hb2)) | (refine draw_listA (by rfl) (by kernel_rfl) ?_) | (refine draw_listB (by simp [allocsOf, isAlloc]; rfl) (by kernel_rfl) ?_) | simp (maxSteps := 2000000) (disch := first | omega | assumption | simp [*]) [*, -Int.not_le, -Int.not_lt, -Nat.not_le, -Nat.not_lt, -Nat.add_left_cancel_iff, wrap_i64, wrap_u64, h7, e77, h8', h6, e72, hs2, hs4])
    all_goals first | exact hend _ (hset_same ..) fun y hy => hset_other _ _ hy | skip
  · obtain rfl : i = (xsOf v).length := by omega
    have hend : ∀ h', h' 45 = h2 45 → DoR n2 (packR (xsOf v) kp (xsOf v).length) (.tup [.agg [.int .i64 n2, expo h' u], .bool true]) := fun h' e => by have := (hB.keep e).expo; unfold DoR; simp [noEx, noExs, this]
    clear hB hpk
    repeat' (first | (apply brI <;> intro hb hb2 <;> (try simp [-Int.not_le, -Int.not_lt, -Nat.not_le, -Nat.not_lt, -Nat.add_left_cancel_iff] at hb2)) | (refine draw_listA (by rfl) (by kernel_rfl) ?_) | (refine draw_listB (by simp [allocsOf, isAlloc]; rfl) (by kernel_rfl) ?_) | simp (maxSteps := 2000000) (disch := first | omega | assumption | simp [*]) [*, -Int.not_le, -Int.not_lt, -Nat.not_le, -Nat.not_lt, -Nat.add_left_cancel_iff, wrap_i64, wrap_u64, h7, e7, h8', h6, hs2, hs4, e2, e4, isI_len hv])
    all_goals first | exact hend _ (by rw [hset_other _ _ (by omega)]) | skip
end Go.Proofs.YtliecnadoklgoaaGreatDoor
/- What the reference clarifies (begun: spec.l2In). Conditions: none. -/
namespace Go.Proofs.YtliecnadoklgoaaGreatDoor
open Ev
set_option linter.unusedVariables false
set_option linter.unusedSimpArgs false
set_option maxHeartbeats 4000000

def inB (xs : List Int) (x : Int) : Bool := (List.range xs.length).any fun i => decide (nth xs i = x)
theorem l2In_c {x : Int} {v : AV} (hv : IsI v) : EvC env 199 [v, .int .i64 x] (.bool (inB (xsOf v) x)) := by
  refine evC_of (F := Tryz.f199) rfl rfl (Nat.le_of_ble_eq_true rfl) ?_
  have hvl := hv.len
  obtain ⟨B, hB⟩ : ∃ B, inB (xsOf v) x = B := ⟨_, rfl⟩
  rw [hB]
  have hyes : ∀ i, i < (xsOf v).length → nth (xsOf v) i = x → B = true := fun i hi e => by
    rw [← hB]; unfold inB; rw [List.any_eq_true]; exact ⟨i, List.mem_range.2 hi, by simp [e]⟩
  have hno : (∀ i, i < (xsOf v).length → nth (xsOf v) i ≠ x) → B = false := fun h => by
    rw [← hB]; unfold inB; rw [List.any_eq_false]; intro i hi; simp [h i (List.mem_range.1 hi)]
  clear hB
  repeat' (first | (apply brI <;> intro hb hb2 <;> (try simp [-Int.not_le, -Int.not_lt, -Nat.not_le, -Nat.not_lt, -Nat.add_left_cancel_iff] at hb2)) | (refine draw_listA (by rfl) (by kernel_rfl) ?_) | (refine draw_listB (by simp [allocsOf, isAlloc]; rfl) (by kernel_rfl) ?_) | simp (maxSteps := 2000000) (disch := first | omega | assumption | simp [*]) [*, -Int.not_le, -Int.not_lt, -Nat.not_le, -Nat.not_lt, -Nat.add_left_cancel_iff, wrap_i64, wrap_u64, Tryz.f199, isI_len hv])
  refine W_loopP (xsOf v).length (fun i s => s 5 = .int .i64 i ∧ s 0 = v ∧ s 1 = .int .i64 x ∧ ∀ j, j < i → nth (xsOf v) j ≠ x) rfl ?_ ?_
  · simp
  rintro i s hi ⟨h5, h0, h1, hj⟩
  by_cases hi2 : i < (xsOf v).length
  · by_cases he : nth (xsOf v) i = x
    · have hb := hyes i hi2 he
      clear hyes hno hj
      repeat' (first | (apply brI <;> intro hb hb2 <;> (try simp [-Int.not_le, -Int.not_lt, -Nat.not_le, -Nat.not_lt, -Nat.add_left_cancel_iff] at hb2)) | (refine draw_listA (by rfl) (by kernel_rfl) ?_) | (refine draw_listB (by simp [allocsOf, isAlloc]; rfl) (by kernel_rfl) ?_) | simp (maxSteps := 2000000) (disch := first | omega | assumption | simp [*]) [*, -Int.not_le, -Int.not_lt, -Nat.not_le, -Nat.not_lt, -Nat.add_left_cancel_iff, wrap_i64, wrap_u64, h5, h0, h1, isI_len hv, isI_index hv, isI_load hv])
    · have hj2 : ∀ j, j < i + 1 → nth (xsOf v) j ≠ x := fun j hj9 => by
        by_cases e : j = i
        · subst e; exact he
        · exact hj j (by omega)
      clear hyes hno hj
      repeat' (first | (apply brI <;> intro hb hb2 <;> (try simp [-Int.not_le, -Int.not_lt, -Nat.not_le, -Nat.not_lt, -Nat.add_left_cancel_iff] at hb2)) | (refine draw_listA (by rfl) (by kernel_rfl) ?_) | (refine draw_listB (by simp [allocsOf, isAlloc]; rfl) (by kernel_rfl) ?_) | simp (maxSteps := 2000000) (disch := first | omega | assumption | simp [*]) [*, -Int.not_le, -Int.not_lt, -Nat.not_le, -Nat.not_lt, -Nat.add_left_cancel_iff, wrap_i64, wrap_u64, h5, h0, h1, isI_len hv, isI_index hv, isI_load hv])
      all_goals first | exact hj2 | skip
  · obtain rfl : i = (xsOf v).length := by omega
    have hb := hno hj
    clear hyes hno hj
    repeat' (first | (apply brI <;> intro hb hb2 <;> (try simp [-Int.not_le, -Int.not_lt, -Nat.not_le, -Nat.not_lt, -Nat.add_left_cancel_iff] at hb2)) | (refine draw_listA (by rfl) (by kernel_rfl) ?_) | (refine draw_listB (by simp [allocsOf, isAlloc]; rfl) (by kernel_rfl) ?_) | simp (maxSteps := 2000000) (disch := first | omega | assumption | simp [*]) [*, -Int.not_le, -Int.not_lt, -Nat.not_le, -Nat.not_lt, -Nat.add_left_cancel_iff, wrap_i64, wrap_u64, h5, h0, h1, isI_len hv])
theorem l2In_s {x : Int} {v : AV} (hv : IsI v) {K : AV → Prop} {tg : Tg K} : CW env 199 [v, .int .i64 x] K tg ↔ K (.bool (inB (xsOf v) x)) := callsTo_iff (l2In_c hv)
attribute [simp] l2In_s
end Go.Proofs.YtliecnadoklgoaaGreatDoor
