/- XIdxP XLat XLatP, joined. Conditions: none. -/
import Derived.Test.YtliecnadoklgoaaGreatDoorBitA
import Derived.Test.YtliecnadoklgoaaGreatDoorChain
/- The first record of which something holds. Conditions: none. -/
namespace Go.Proofs.YtliecnadoklgoaaGreatDoor
open Ev
set_option linter.unusedVariables false
set_option linter.unusedSimpArgs false

/-- some record -/
def anyP (p : Int → Int → Bool) (xs ys : List Int) : Bool := (List.range xs.length).any fun k => p (nth xs k) (nth ys k)
/-- the first place, or -1 -/
def idxP (p : Int → Int → Bool) (xs ys : List Int) : Int := match (List.range xs.length).find? fun k => p (nth xs k) (nth ys k) with | some k => (k : Int) | none => -1
theorem idxP_none {p : Int → Int → Bool} {xs ys : List Int} (h : ∀ j, j < xs.length → p (nth xs j) (nth ys j) = false) : idxP p xs ys = -1 := by
  unfold idxP
  rw [List.find?_eq_none.2]
  intro k hk
  rw [h k (List.mem_range.1 hk)]; simp
theorem idxP_some {p : Int → Int → Bool} {xs ys : List Int} {i : Nat} (hi : i < xs.length) (hp : p (nth xs i) (nth ys i) = true) (h : ∀ j, j < i → p (nth xs j) (nth ys j) = false) : idxP p xs ys = i := by
  unfold idxP
  rw [List.find?_range_eq_some.2]
  exact ⟨hp, List.mem_range.2 hi, fun j hj => by simp [h j hj]⟩
theorem idxP_any {p : Int → Int → Bool} {xs ys : List Int} : (0 ≤ idxP p xs ys) ↔ anyP p xs ys = true := by
  unfold idxP anyP
  cases h : (List.range xs.length).find? fun k => p (nth xs k) (nth ys k) with
  | none =>
    rw [List.find?_eq_none] at h
    simp only [List.any_eq_true]
    exact ⟨fun h9 => absurd h9 (by decide), fun ⟨k, hk, hp⟩ => absurd hp (h k hk)⟩
  | some k =>
    have h1 := List.find?_some h
    have h2 := List.mem_of_find?_eq_some h
    simp only [List.any_eq_true]
    exact ⟨fun _ => ⟨k, h2, h1⟩, fun _ => Int.natCast_nonneg k⟩
theorem idxP_iff {p : Int → Int → Bool} {xs ys : List Int} {i : Nat} (hi : i < xs.length) (h : p (nth xs i) (nth ys i) = true → ∀ j, j < i → p (nth xs j) (nth ys j) = false) : idxP p xs ys = i ↔ p (nth xs i) (nth ys i) = true := by
  constructor
  · intro e
    unfold idxP at e
    cases hf : (List.range xs.length).find? fun k => p (nth xs k) (nth ys k) with
    | none => rw [hf] at e; simp only at e; omega
    | some k =>
      rw [hf] at e
      simp only at e
      have h1 := List.find?_some hf
      have : k = i := by omega
      rw [this] at h1; exact h1
  · intro hp; exact idxP_some hi hp (h hp)
theorem idxP_range {p : Int → Int → Bool} {xs ys : List Int} (hl : xs.length ≤ 64) : -1 ≤ idxP p xs ys ∧ idxP p xs ys < 64 := by
  unfold idxP
  cases hf : (List.range xs.length).find? fun k => p (nth xs k) (nth ys k) with
  | none => simp
  | some k =>
    have h2 := List.mem_range.1 (List.mem_of_find?_eq_some hf)
    simp only
    omega
end Go.Proofs.YtliecnadoklgoaaGreatDoor
/- The lattice's functions over a list of concepts. Conditions: none. -/
namespace Go.Proofs.YtliecnadoklgoaaGreatDoor
open Ev
set_option linter.unusedVariables false
set_option linter.unusedSimpArgs false
set_option maxHeartbeats 4000000

theorem indexFuncL_c {v : AV} {g : Nat} {caps : List AV} {p : Int → Int → Bool} (hv : IsP v) (hx : env.ext g = none) (ho : env.open_ g = false) (hl : ∀ h, lows h caps = caps) (hp : ∀ x y, EvC env g (.agg [.int .i64 x, .int .i64 y] :: caps) (.bool (p x y))) : EvC env 230 [v, .fn g caps] (.int .i64 (idxP p (fsts v) (snds v))) := by
  refine evC_of (F := Tryz.f230) rfl rfl (Nat.le_of_ble_eq_true rfl) ?_
  have := hv.len
  have hll := hv.lens
  unfold top63 at this
  have hp2 : ∀ (x y : Int) (K : AV → Prop) (tg : Tg K), CW env g (.agg [.int .i64 x, .int .i64 y] :: caps) K tg ↔ K (.bool (p x y)) := fun x y K tg => callsTo_iff (hp x y)
  repeat' (first | (apply brI <;> intro hb hb2 <;> (try simp [-Int.not_le, -Int.not_lt, -Nat.not_le, -Nat.not_lt, -Nat.add_left_cancel_iff] at hb2)) | (refine draw_listA (by rfl) (by kernel_rfl) ?_) | (refine draw_listB (by simp [allocsOf, isAlloc]; rfl) (by kernel_rfl) ?_) | simp (maxSteps := 2000000) (disch := first | omega | assumption | simp [*]) [*, -Int.not_le, -Int.not_lt, -Nat.not_le, -Nat.not_lt, -Nat.add_left_cancel_iff, wrap_i64, wrap_u64, Tryz.f230, isP_len hv])
  refine W_loopG (fsts v).length (fun i s h => h = hnil ∧ s 8 = .int .i64 i ∧ s 7 = .int .i64 (fsts v).length ∧ s 0 = v ∧ s 1 = .fn g caps ∧ ∀ j, j < i → p (nth (fsts v) j) (nth (snds v) j) = false) ?_ ?_
  · simp
  rintro i s h hi ⟨rfl, h8, h7, h0, h1, hj⟩
  by_cases hi2 : i < (fsts v).length
  · repeat' (first | (apply brI <;> intro hb hb2 <;> (try simp [-Int.not_le, -Int.not_lt, -Nat.not_le, -Nat.not_lt, -Nat.add_left_cancel_iff] at hb2)) | (refine draw_listA (by rfl) (by kernel_rfl) ?_) | (refine draw_listB (by simp [allocsOf, isAlloc]; rfl) (by kernel_rfl) ?_) | simp (maxSteps := 2000000) (disch := first | omega | assumption | simp [*]) [*, -Int.not_le, -Int.not_lt, -Nat.not_le, -Nat.not_lt, -Nat.add_left_cancel_iff, wrap_i64, wrap_u64, h8, h7, h0, h1, isP_len hv, isP_index hv])
    · rw [idxP_some hi2 (by assumption) hj]
    · intro j hj2
      by_cases e : j = i
      · subst e; simpa using hb2
      · exact hj j (by omega)
  · obtain rfl : i = (fsts v).length := by omega
    repeat' (first | (apply brI <;> intro hb hb2 <;> (try simp [-Int.not_le, -Int.not_lt, -Nat.not_le, -Nat.not_lt, -Nat.add_left_cancel_iff] at hb2)) | (refine draw_listA (by rfl) (by kernel_rfl) ?_) | (refine draw_listB (by simp [allocsOf, isAlloc]; rfl) (by kernel_rfl) ?_) | simp (maxSteps := 2000000) (disch := first | omega | assumption | simp [*]) [*, -Int.not_le, -Int.not_lt, -Nat.not_le, -Nat.not_lt, -Nat.add_left_cancel_iff, wrap_i64, wrap_u64, h8, h7, h0, h1, isP_len hv])
    rw [idxP_none hj]
theorem indexFuncL_s {v : AV} {g : Nat} {caps : List AV} {p : Int → Int → Bool} (hv : IsP v) (hx : env.ext g = none) (ho : env.open_ g = false) (hl : ∀ h, lows h caps = caps) (hp : ∀ x y, EvC env g (.agg [.int .i64 x, .int .i64 y] :: caps) (.bool (p x y))) {K : AV → Prop} {tg : Tg K} : CW env 230 [v, .fn g caps] K tg ↔ K (.int .i64 (idxP p (fsts v) (snds v))) := callsTo_iff (indexFuncL_c hv hx ho hl hp)
attribute [simp] indexFuncL_s
theorem index1_c {x y e : Int} : EvC env 231 [.agg [.int .i64 x, .int .i64 y], .cp true [.int .i64 e] 0] (.bool (decide (x = e))) := by
  refine evC_of (F := Tryz.f231) rfl rfl (Nat.le_of_ble_eq_true rfl) ?_
  repeat' (first | (apply brI <;> intro hb hb2 <;> (try simp [-Int.not_le, -Int.not_lt, -Nat.not_le, -Nat.not_lt, -Nat.add_left_cancel_iff] at hb2)) | (refine draw_listA (by rfl) (by kernel_rfl) ?_) | (refine draw_listB (by simp [allocsOf, isAlloc]; rfl) (by kernel_rfl) ?_) | simp (maxSteps := 2000000) (disch := first | omega | assumption | simp [*]) [*, -Int.not_le, -Int.not_lt, -Nat.not_le, -Nat.not_lt, -Nat.add_left_cancel_iff, wrap_i64, wrap_u64, Tryz.f231])
theorem index1_s {x y e : Int} {K : AV → Prop} {tg : Tg K} : CW env 231 [.agg [.int .i64 x, .int .i64 y], .cp true [.int .i64 e] 0] K tg ↔ K (.bool (decide (x = e))) := callsTo_iff (index1_c )
attribute [simp] index1_s
theorem join1_c {x y e : Int} : EvC env 232 [.agg [.int .i64 x, .int .i64 y], .cp true [.int .i64 e] 0] (.bool (decide (y = e))) := by
  refine evC_of (F := Tryz.f232) rfl rfl (Nat.le_of_ble_eq_true rfl) ?_
  repeat' (first | (apply brI <;> intro hb hb2 <;> (try simp [-Int.not_le, -Int.not_lt, -Nat.not_le, -Nat.not_lt, -Nat.add_left_cancel_iff] at hb2)) | (refine draw_listA (by rfl) (by kernel_rfl) ?_) | (refine draw_listB (by simp [allocsOf, isAlloc]; rfl) (by kernel_rfl) ?_) | simp (maxSteps := 2000000) (disch := first | omega | assumption | simp [*]) [*, -Int.not_le, -Int.not_lt, -Nat.not_le, -Nat.not_lt, -Nat.add_left_cancel_iff, wrap_i64, wrap_u64, Tryz.f232])
theorem join1_s {x y e : Int} {K : AV → Prop} {tg : Tg K} : CW env 232 [.agg [.int .i64 x, .int .i64 y], .cp true [.int .i64 e] 0] K tg ↔ K (.bool (decide (y = e))) := callsTo_iff (join1_c )
attribute [simp] join1_s
def exP (e x y : Int) : Bool := decide (x = e)
def inP (e x y : Int) : Bool := decide (y = e)
theorem index_c {e : Int} {v : AV} (hP : IsP v) : EvC env 186 [v, .int .i64 e] (.int .i64 (idxP (exP e) (fsts v) (snds v))) := by
  refine evC_of (F := Tryz.f186) rfl rfl (Nat.le_of_ble_eq_true rfl) ?_
  have hcs : ∀ (K : AV → Prop) (tg : Tg K), CW env 230 [v, .fn 231 [.cp true [.int .i64 e] 0]] K tg ↔ K (.int .i64 (idxP (exP e) (fsts v) (snds v))) :=
    fun K tg => callsTo_iff (indexFuncL_c hP rfl rfl (fun h => by simp) fun x y => index1_c)
  repeat' (first | (apply brI <;> intro hb hb2 <;> (try simp [-Int.not_le, -Int.not_lt, -Nat.not_le, -Nat.not_lt, -Nat.add_left_cancel_iff] at hb2)) | (refine draw_listA (by rfl) (by kernel_rfl) ?_) | (refine draw_listB (by simp [allocsOf, isAlloc]; rfl) (by kernel_rfl) ?_) | simp (maxSteps := 2000000) (disch := first | omega | assumption | simp [*]) [*, -Int.not_le, -Int.not_lt, -Nat.not_le, -Nat.not_lt, -Nat.add_left_cancel_iff, wrap_i64, wrap_u64, Tryz.f186, isP_low hP])
theorem index_s {e : Int} {v : AV} (hP : IsP v) {K : AV → Prop} {tg : Tg K} : CW env 186 [v, .int .i64 e] K tg ↔ K (.int .i64 (idxP (exP e) (fsts v) (snds v))) := callsTo_iff (index_c hP)
attribute [simp] index_s
/-- the numbers of a list are sets -/
def SetsP (xs : List Int) : Prop := ∀ k, k < xs.length → 0 ≤ nth xs k ∧ nth xs k < 256
def andI (x y : Int) : Int := ((x.toNat &&& y.toNat : Nat) : Int)
theorem meet_c {v : AV} {a b : Nat} (hP : IsP v) (ha : a < (fsts v).length) (hb : b < (fsts v).length) (h : SetsP (fsts v)) : EvC env 188 [v, .int .i64 a, .int .i64 b] (.int .i64 (idxP (exP (andI (nth (fsts v) a) (nth (fsts v) b))) (fsts v) (snds v))) := by
  refine evC_of (F := Tryz.f188) rfl rfl (Nat.le_of_ble_eq_true rfl) ?_
  have r1 := h a ha
  have r2 := h b hb
  have hcs : ∀ (K : AV → Prop) (tg : Tg K), CW env 186 [v, .int .i64 (((nth (fsts v) a).toNat &&& (nth (fsts v) b).toNat : Nat) : Int)] K tg ↔ K (.int .i64 (idxP (exP (andI (nth (fsts v) a) (nth (fsts v) b))) (fsts v) (snds v))) := fun K tg => callsTo_iff (index_c hP)
  clear h
  repeat' (first | (apply brI <;> intro hb hb2 <;> (try simp [-Int.not_le, -Int.not_lt, -Nat.not_le, -Nat.not_lt, -Nat.add_left_cancel_iff] at hb2)) | (refine draw_listA (by rfl) (by kernel_rfl) ?_) | (refine draw_listB (by simp [allocsOf, isAlloc]; rfl) (by kernel_rfl) ?_) | simp (maxSteps := 2000000) (disch := first | omega | assumption | simp [*]) [*, -Int.not_le, -Int.not_lt, -Nat.not_le, -Nat.not_lt, -Nat.add_left_cancel_iff, wrap_i64, wrap_u64, Tryz.f188, isP_index hP, isP_low hP, isP_noKey hP, bits_and])
theorem meet_s {v : AV} {a b : Nat} (hP : IsP v) (ha : a < (fsts v).length) (hb : b < (fsts v).length) (h : SetsP (fsts v)) {K : AV → Prop} {tg : Tg K} : CW env 188 [v, .int .i64 a, .int .i64 b] K tg ↔ K (.int .i64 (idxP (exP (andI (nth (fsts v) a) (nth (fsts v) b))) (fsts v) (snds v))) := callsTo_iff (meet_c hP ha hb h)
attribute [simp] meet_s
theorem join_c {v : AV} {a b : Nat} (hP : IsP v) (ha : a < (fsts v).length) (hb : b < (fsts v).length) (h : SetsP (snds v)) : EvC env 189 [v, .int .i64 a, .int .i64 b] (.int .i64 (idxP (inP (andI (nth (snds v) a) (nth (snds v) b))) (fsts v) (snds v))) := by
  refine evC_of (F := Tryz.f189) rfl rfl (Nat.le_of_ble_eq_true rfl) ?_
  have hll := hP.lens
  have r1 := h a (by omega)
  have r2 := h b (by omega)
  have hcs : ∀ (K : AV → Prop) (tg : Tg K), CW env 230 [v, .fn 232 [.cp true [.int .i64 (((nth (snds v) a).toNat &&& (nth (snds v) b).toNat : Nat) : Int)] 0]] K tg ↔ K (.int .i64 (idxP (inP (andI (nth (snds v) a) (nth (snds v) b))) (fsts v) (snds v))) :=
    fun K tg => callsTo_iff (indexFuncL_c hP rfl rfl (fun h => by simp) fun x y => join1_c)
  clear h hll
  repeat' (first | (apply brI <;> intro hb hb2 <;> (try simp [-Int.not_le, -Int.not_lt, -Nat.not_le, -Nat.not_lt, -Nat.add_left_cancel_iff] at hb2)) | (refine draw_listA (by rfl) (by kernel_rfl) ?_) | (refine draw_listB (by simp [allocsOf, isAlloc]; rfl) (by kernel_rfl) ?_) | simp (maxSteps := 2000000) (disch := first | omega | assumption | simp [*]) [*, -Int.not_le, -Int.not_lt, -Nat.not_le, -Nat.not_lt, -Nat.add_left_cancel_iff, wrap_i64, wrap_u64, Tryz.f189, isP_index hP, isP_low hP, isP_noKey hP, bits_and])
theorem join_s {v : AV} {a b : Nat} (hP : IsP v) (ha : a < (fsts v).length) (hb : b < (fsts v).length) (h : SetsP (snds v)) {K : AV → Prop} {tg : Tg K} : CW env 189 [v, .int .i64 a, .int .i64 b] K tg ↔ K (.int .i64 (idxP (inP (andI (nth (snds v) a) (nth (snds v) b))) (fsts v) (snds v))) := callsTo_iff (join_c hP ha hb h)
attribute [simp] join_s
def selTo (p : Nat → Bool) (n : Nat) : List Int := ((List.range n).filter p).map Int.ofNat
theorem selTo_succ (p : Nat → Bool) (n : Nat) : selTo p (n + 1) = selTo p n ++ if p n then [(n : Int)] else [] := by
  unfold selTo
  rw [List.range_succ, List.filter_append, List.map_append]
  congr 1
  by_cases h : p n <;> simp [h]
theorem selTo_len (p : Nat → Bool) (n : Nat) : (selTo p n).length ≤ n := by
  unfold selTo
  rw [List.length_map]
  exact Nat.le_trans (List.length_filter_le _ _) (by simp)
theorem chosen_c {v : AV} {g : Nat} {caps : List AV} {p : Nat → Bool} (hP : IsP v) (hL : (fsts v).length ≤ 64) (hx : env.ext g = none) (ho : env.open_ g = false) (hl : ∀ h, lows h caps = caps) (hp : ∀ i : Nat, i < (fsts v).length → EvC env g (.int .i64 i :: caps) (.bool (p i))) : EvC env 94 [v, .fn g caps] (bufR 3 19 1 (selTo p (fsts v).length)) := by
  refine evC_of (F := Tryz.f94) rfl rfl (Nat.le_of_ble_eq_true rfl) ?_
  have hp2 : ∀ (i : Nat) (K : AV → Prop) (tg : Tg K), i < (fsts v).length → (CW env g (.int .i64 i :: caps) K tg ↔ K (.bool (p i))) := fun i K tg hi => callsTo_iff (hp i hi)
  repeat' (first | (apply brI <;> intro hb hb2 <;> (try simp [-Int.not_le, -Int.not_lt, -Nat.not_le, -Nat.not_lt, -Nat.add_left_cancel_iff] at hb2)) | (refine draw_listA (by rfl) (by kernel_rfl) ?_) | (refine draw_listB (by simp [allocsOf, isAlloc]; rfl) (by kernel_rfl) ?_) | simp (maxSteps := 2000000) (disch := first | omega | assumption | simp [*]) [*, -Int.not_le, -Int.not_lt, -Nat.not_le, -Nat.not_lt, -Nat.add_left_cancel_iff, wrap_i64, wrap_u64, Tryz.f94, isP_len hP])
  refine W_loopG (fsts v).length (fun i s h => s 10 = .int .i64 i ∧ s 9 = .int .i64 (fsts v).length ∧ s 0 = v ∧ s 1 = .fn g caps ∧ Buf h 3 19 1 (s 5) (selTo p i)) ?_ ?_
  · simp [selTo]; exact buf_nil ..
  rintro i s h hi ⟨h10, h9, h0, h1, hB⟩
  have hsl := selTo_len p i
  by_cases hi2 : i < (fsts v).length
  · have hsu := selTo_succ p i
    cases hpi : p i with
    | true =>
      rw [hpi] at hsu
      simp only [if_true] at hsu
      repeat' (first | (apply brI <;> intro hb hb2 <;> (try simp [-Int.not_le, -Int.not_lt, -Nat.not_le, -Nat.not_lt, -Nat.add_left_cancel_iff] at hb2)) | (refine draw_listA (by rfl) (by kernel_rfl) ?_) | (refine draw_listB (by simp [allocsOf, isAlloc]; rfl) (by kernel_rfl) ?_) | simp (maxSteps := 2000000) (disch := first | omega | assumption | simp [*]) [*, -Int.not_le, -Int.not_lt, -Nat.not_le, -Nat.not_lt, -Nat.add_left_cancel_iff, wrap_i64, wrap_u64, h10, h9, h0, h1, isP_len hP])
      refine wa_push hB (by simp) (by simp) (by omega) ?_
      intro v2 h2 hB2 hk2
      rw [← hsu] at hB2
      clear hsu
      repeat' (first | (apply brI <;> intro hb hb2 <;> (try simp [-Int.not_le, -Int.not_lt, -Nat.not_le, -Nat.not_lt, -Nat.add_left_cancel_iff] at hb2)) | (refine draw_listA (by rfl) (by kernel_rfl) ?_) | (refine draw_listB (by simp [allocsOf, isAlloc]; rfl) (by kernel_rfl) ?_) | simp (maxSteps := 2000000) (disch := first | omega | assumption | simp [*]) [*, -Int.not_le, -Int.not_lt, -Nat.not_le, -Nat.not_lt, -Nat.add_left_cancel_iff, wrap_i64, wrap_u64, h10, h9, h0, h1, isP_len hP])
      exact hB2
    | false =>
      rw [hpi] at hsu
      simp only [Bool.false_eq_true, if_false, List.append_nil] at hsu
      rw [← hsu] at hB
      clear hsu
      repeat' (first | (apply brI <;> intro hb hb2 <;> (try simp [-Int.not_le, -Int.not_lt, -Nat.not_le, -Nat.not_lt, -Nat.add_left_cancel_iff] at hb2)) | (refine draw_listA (by rfl) (by kernel_rfl) ?_) | (refine draw_listB (by simp [allocsOf, isAlloc]; rfl) (by kernel_rfl) ?_) | simp (maxSteps := 2000000) (disch := first | omega | assumption | simp [*]) [*, -Int.not_le, -Int.not_lt, -Nat.not_le, -Nat.not_lt, -Nat.add_left_cancel_iff, wrap_i64, wrap_u64, h10, h9, h0, h1, isP_len hP])
  · obtain rfl : i = (fsts v).length := by omega
    repeat' (first | (apply brI <;> intro hb hb2 <;> (try simp [-Int.not_le, -Int.not_lt, -Nat.not_le, -Nat.not_lt, -Nat.add_left_cancel_iff] at hb2)) | (refine draw_listA (by rfl) (by kernel_rfl) ?_) | (refine draw_listB (by simp [allocsOf, isAlloc]; rfl) (by kernel_rfl) ?_) | simp (maxSteps := 2000000) (disch := first | omega | assumption | simp [*]) [*, -Int.not_le, -Int.not_lt, -Nat.not_le, -Nat.not_lt, -Nat.add_left_cancel_iff, wrap_i64, wrap_u64, h10, h9, h0, h1, isP_len hP])
    exact hB.expo
theorem chosen_s {v : AV} {g : Nat} {caps : List AV} {p : Nat → Bool} (hP : IsP v) (hL : (fsts v).length ≤ 64) (hx : env.ext g = none) (ho : env.open_ g = false) (hl : ∀ h, lows h caps = caps) (hp : ∀ i : Nat, i < (fsts v).length → EvC env g (.int .i64 i :: caps) (.bool (p i))) {K : AV → Prop} {tg : Tg K} : CW env 94 [v, .fn g caps] K tg ↔ K (bufR 3 19 1 (selTo p (fsts v).length)) := callsTo_iff (chosen_c hP hL hx ho hl hp)
attribute [simp] chosen_s
theorem iTopOf_c {n : Int} {v : AV} (hv : IsI v) : EvC env 89 [.agg [.int .i64 n, v]] (.int .i64 (if PCtx n (xsOf v) then idxP (exP (2 ^ (xsOf v).length - 1)) (fsts (conW n (xsOf v))) (snds (conW n (xsOf v))) else -1)) := by
  refine evC_of (F := Tryz.f89) rfl rfl (Nat.le_of_ble_eq_true rfl) ?_
  by_cases hc : PCtx n (xsOf v)
  · have hP := conW2_P n (xsOf v)
    have hw := iCon_noEx n (xsOf v) 101
    have hl := hc.2.2.1
    have hpw := pow_small (i := (xsOf v).length) hl
    have hl8 : ((xsOf v).length : Int) ≤ 8 := by omega
    rw [if_pos hc, ← conW2_fsts, ← conW2_snds]
    obtain ⟨w, hww⟩ : ∃ w, conW2 n (xsOf v) = w := ⟨_, rfl⟩
    rw [hww] at hP hw
    rw [hww]
    clear hww
    repeat' (first | (apply brI <;> intro hb hb2 <;> (try simp [-Int.not_le, -Int.not_lt, -Nat.not_le, -Nat.not_lt, -Nat.add_left_cancel_iff] at hb2)) | (refine draw_listA (by rfl) (by kernel_rfl) ?_) | (refine draw_listB (by simp [allocsOf, isAlloc]; rfl) (by kernel_rfl) ?_) | simp (maxSteps := 2000000) (disch := first | omega | assumption | simp [*]) [*, -Int.not_le, -Int.not_lt, -Nat.not_le, -Nat.not_lt, -Nat.add_left_cancel_iff, wrap_i64, wrap_u64, Tryz.f89, isI_cells hv, isI_one hv, isI_low hv, isI_len hv, isP_low hP, isP_noKey hP])
  · rw [if_neg hc]
    repeat' (first | (apply brI <;> intro hb hb2 <;> (try simp [-Int.not_le, -Int.not_lt, -Nat.not_le, -Nat.not_lt, -Nat.add_left_cancel_iff] at hb2)) | (refine draw_listA (by rfl) (by kernel_rfl) ?_) | (refine draw_listB (by simp [allocsOf, isAlloc]; rfl) (by kernel_rfl) ?_) | simp (maxSteps := 2000000) (disch := first | omega | assumption | simp [*]) [*, -Int.not_le, -Int.not_lt, -Nat.not_le, -Nat.not_lt, -Nat.add_left_cancel_iff, wrap_i64, wrap_u64, Tryz.f89, isI_cells hv, isI_one hv, isI_low hv, isI_len hv])
theorem iTopOf_s {n : Int} {v : AV} (hv : IsI v) {K : AV → Prop} {tg : Tg K} : CW env 89 [.agg [.int .i64 n, v]] K tg ↔ K (.int .i64 (if PCtx n (xsOf v) then idxP (exP (2 ^ (xsOf v).length - 1)) (fsts (conW n (xsOf v))) (snds (conW n (xsOf v))) else -1)) := callsTo_iff (iTopOf_c hv)
attribute [simp] iTopOf_s
end Go.Proofs.YtliecnadoklgoaaGreatDoor
/- Meets, joins, the first and the last concept: plain Lean. Conditions: none. -/
namespace Go.Proofs.YtliecnadoklgoaaGreatDoor
open Ev
set_option linter.unusedVariables false
set_option linter.unusedSimpArgs false

theorem cls_pre (N : Nat) (cl : Nat → Nat) (r : Nat) : ∀ d : Nat, ∃ t, Lect.cls N cl (r + d) = Lect.cls N cl r ++ t
  | 0 => ⟨[], by simp⟩
  | d + 1 => by
    obtain ⟨t, h⟩ := cls_pre N cl r d
    rw [← Nat.add_assoc, Lect.cls_succ, h]
    exact ⟨_, List.append_assoc ..⟩
theorem cls_mem {N : Nat} {cl : Nat → Nat} {r s : Nat} (h : s ∈ Lect.cls N cl r) : s < 2 ^ N ∧ cl s = s := by
  unfold Lect.cls at h
  rw [List.mem_filter] at h
  simpa using h.2
theorem rev_nodup : ((List.range 64).map Lect.rev6).Nodup := by decide +kernel
theorem cls_nodup (N : Nat) (cl : Nat → Nat) : (Lect.cls N cl 64).Nodup := List.Pairwise.filter _ rev_nodup
theorem conL_eq {N : Nat} {xs : List Int} (hc : PCtx N xs) : conL N xs = Lect.cls N (cloN xs N) 64 := by simp [conL, hc]
theorem conL_mem {n : Int} {xs : List Int} {s : Nat} (h : s ∈ conL n xs) : PCtx n xs ∧ s < 2 ^ n.toNat ∧ cloN xs n.toNat s = s := by
  unfold conL at h
  split at h
  · rename_i hc; exact ⟨hc, cls_mem h⟩
  · cases h
theorem conL_nodup (n : Int) (xs : List Int) : (conL n xs).Nodup := by
  unfold conL; split
  · exact cls_nodup _ _
  · exact List.Pairwise.nil
theorem con_first {N : Nat} {xs : List Int} (hc : PCtx N xs) : ∃ t, conL N xs = cloN xs N 0 :: t := by
  have hC := clo_cl hc
  have hN := hC.n6
  have h0 := hC.lt 0 (Nat.two_pow_pos N)
  have h1 := Lect.cls_at (cl := cloN xs N) hN h0 (hC.idem 0 (Nat.two_pow_pos N))
  rw [Lect.cls_first hC, List.nil_append] at h1
  have h2 := (Lect.rev_back (Lect.small hN h0)).2
  obtain ⟨t, ht⟩ := cls_pre N (cloN xs N) (Lect.rev6 (cloN xs N 0) + 1) (64 - (Lect.rev6 (cloN xs N 0) + 1))
  rw [show Lect.rev6 (cloN xs N 0) + 1 + (64 - (Lect.rev6 (cloN xs N 0) + 1)) = 64 by omega, h1] at ht
  exact ⟨t, by rw [conL_eq hc, ht]; rfl⟩
theorem full_closed {N : Nat} {cl : Nat → Nat} (hC : Lect.Cl N cl) : cl (2 ^ N - 1) = 2 ^ N - 1 := by
  have hp := Nat.two_pow_pos N
  have h1 := hC.ext (2 ^ N - 1) (by omega)
  have h2 := hC.lt (2 ^ N - 1) (by omega)
  rw [Nat.and_comm, Nat.and_two_pow_sub_one_eq_mod, Nat.mod_eq_of_lt h2] at h1
  exact h1
theorem con_last {N : Nat} {xs : List Int} (hc : PCtx N xs) : ∃ t, conL N xs = t ++ [2 ^ N - 1] := by
  have hC := clo_cl hc
  have hN := hC.n6
  have hp := Nat.two_pow_pos N
  have hlt : 2 ^ N - 1 < 2 ^ N := by omega
  have h1 := Lect.cls_at (cl := cloN xs N) hN hlt (full_closed hC)
  have h2 := (Lect.rev_back (Lect.small hN hlt)).2
  have h3 := Lect.cls_gap (N := N) (cl := cloN xs N) (r := Lect.rev6 (2 ^ N - 1) + 1) (64 - (Lect.rev6 (2 ^ N - 1) + 1)) fun q h4 h5 ⟨h6, h7⟩ => by
    have hq : q < 64 := by omega
    have h8 := Lect.rev_sub ⟨Lect.rev6 q, (Lect.rev_back hq).2⟩ ⟨2 ^ N - 1, Lect.small hN hlt⟩ (by simp only; rw [Nat.and_two_pow_sub_one_eq_mod, Nat.mod_eq_of_lt h6])
    simp only at h8
    rw [(Lect.rev_back hq).1] at h8; omega
  rw [show Lect.rev6 (2 ^ N - 1) + 1 + (64 - (Lect.rev6 (2 ^ N - 1) + 1)) = 64 by omega, h1] at h3
  exact ⟨_, by rw [conL_eq hc, h3]⟩
theorem con_pos {N : Nat} {xs : List Int} (hc : PCtx N xs) : 0 < (conL N xs).length := by
  obtain ⟨t, h⟩ := con_first hc
  rw [h]; simp
/-- a concept's extent, its intent -/
theorem nthF {n : Int} {xs : List Int} {k : Nat} (h : k < (conL n xs).length) : nth (fsts (conW n xs)) k = Ext xs ((conL n xs)[k] : Nat) := by
  rw [conW_fsts]; simp [nth, h]
theorem nthS {n : Int} {xs : List Int} {k : Nat} (h : k < (conL n xs).length) : nth (snds (conW n xs)) k = ((conL n xs)[k] : Nat) := by
  rw [conW_snds]; simp [nth, h]
theorem closed_get {n : Int} {xs : List Int} {k : Nat} (h : k < (conL n xs).length) : PCtx n xs ∧ (conL n xs)[k] < 2 ^ n.toNat ∧ cloN xs n.toNat (conL n xs)[k] = (conL n xs)[k] := conL_mem (List.getElem_mem h)
theorem ext_closed_inj {N : Nat} {xs : List Int} {s t : Nat} (hs : cloN xs N s = s) (ht : cloN xs N t = t) (h : Ext xs (s : Int) = Ext xs (t : Int)) : s = t := by
  rw [← hs, ← ht]
  unfold cloN Clo
  rw [h]
theorem F_inj {n : Int} {xs : List Int} {i j : Nat} (hi : i < (conL n xs).length) (hj : j < (conL n xs).length) (h : nth (fsts (conW n xs)) i = nth (fsts (conW n xs)) j) : i = j := by
  rw [nthF hi, nthF hj] at h
  have e := ext_closed_inj (closed_get hi).2.2 (closed_get hj).2.2 h
  have hd := List.pairwise_iff_getElem.1 (conL_nodup n xs)
  by_cases h1 : i < j
  · exact absurd e (hd i j hi hj h1)
  · by_cases h2 : j < i
    · exact absurd e.symm (hd j i hj hi h2)
    · omega
theorem S_range {n : Int} {xs : List Int} {k : Nat} (h : k < (conL n xs).length) : 0 ≤ nth (snds (conW n xs)) k ∧ nth (snds (conW n xs)) k < 64 := by
  rw [nthS h]
  obtain ⟨hc, h1, _⟩ := closed_get h
  have h2 : n.toNat ≤ 6 := by have := hc.2.1; omega
  have := Lect.small h2 h1
  omega
theorem sets_F (n : Int) (xs : List Int) : SetsP (fsts (conW n xs)) := fun k hk => con_range hk
theorem sets_S (n : Int) (xs : List Int) : SetsP (snds (conW n xs)) := fun k hk => by
  have h : k < (conL n xs).length := by rw [conW_snds] at hk; simpa using hk
  have := S_range h
  omega
theorem andI_ext {N : Nat} {xs : List Int} (hc : PCtx N xs) {s t : Int} (hs : PSet N s = true) (ht : PSet N t = true) : andI (Ext xs s) (Ext xs t) = Ext xs ((s.toNat ||| t.toNat : Nat) : Int) := by
  unfold andI Ext
  rw [setOf_and]
  refine setOf_congr fun k hk => ?_
  have hu := pset_or hs ht
  have hr := row_nn hc hk
  rw [Bool.eq_iff_iff, Bool.and_eq_true, psub_all (pset_nn hs) hr, psub_all (pset_nn ht) hr, psub_all (pset_nn hu) hr]
  constructor
  · rintro ⟨h1, h2⟩ i hi
    rw [phas_or (pset_nn hs) (pset_nn ht), Bool.or_eq_true] at hi
    rcases hi with hi | hi
    · exact h1 i hi
    · exact h2 i hi
  · intro h
    exact ⟨fun i hi => h i (by rw [phas_or (pset_nn hs) (pset_nn ht), hi]; rfl), fun i hi => h i (by rw [phas_or (pset_nn hs) (pset_nn ht), hi, Bool.or_true])⟩
theorem andI_pset {n : Nat} {s t : Int} (hs : PSet n s = true) (ht : PSet n t = true) : PSet n (andI s t) = true := by
  have hn : n ≤ 8 := by have := (pset_iff.mp hs).2.1; omega
  unfold andI
  conv => lhs; rw [setOf_self hs, setOf_self ht]
  rw [setOf_and]; exact setOf_pset _ hn
/-- the last one is where two extents have nothing else in common -/
theorem meet_last {N : Nat} {xs : List Int} (hc : PCtx N xs) {a b : Nat} (ha : a < (conL N xs).length) (hb : b < (conL N xs).length) :
    idxP (exP (andI (nth (fsts (conW N xs)) a) (nth (fsts (conW N xs)) b))) (fsts (conW N xs)) (snds (conW N xs)) = ((conL N xs).length : Int) - 1 ↔
      IntS xs N (andI (nth (fsts (conW N xs)) a) (nth (fsts (conW N xs)) b)) = 2 ^ N - 1 := by
  have hC := clo_cl hc
  have hN8 : N ≤ 8 := by have := hC.n6; omega
  obtain ⟨_, a1, _⟩ := closed_get ha
  obtain ⟨_, b1, _⟩ := closed_get hb
  simp only [Int.toNat_natCast] at a1 b1
  have pa := pset_nat hN8 a1
  have pb := pset_nat hN8 b1
  have hE := andI_ext hc pa pb
  have pu := pset_or pa pb
  rw [← nthF ha, ← nthF hb] at hE
  generalize ((((conL (N : Int) xs)[a] : Nat) : Int).toNat ||| (((conL (N : Int) xs)[b] : Nat) : Int).toNat : Nat) = u at hE pu
  generalize andI (nth (fsts (conW N xs)) a) (nth (fsts (conW N xs)) b) = E at hE ⊢
  obtain ⟨t, ht⟩ := con_last hc
  have hpos := con_pos hc
  have hk : (conL (N : Int) xs).length - 1 < (conL (N : Int) xs).length := by omega
  have hlast : nth (fsts (conW N xs)) ((conL (N : Int) xs).length - 1) = Ext xs ((2 ^ N - 1 : Nat) : Int) := by
    rw [nthF hk]
    congr 2
    simp [ht]
  have hfl : (fsts (conW N xs)).length = (conL (N : Int) xs).length := conW_len ..
  have hi := idxP_iff (p := exP E) (xs := fsts (conW N xs)) (ys := snds (conW N xs)) (i := (conL (N : Int) xs).length - 1) (by omega) fun hp j hj => by
    cases hq : exP E (nth (fsts (conW N xs)) j) (nth (snds (conW N xs)) j) with
    | false => rfl
    | true =>
      simp only [exP, decide_eq_true_eq] at hp hq
      have := F_inj (by omega) hk (hq.trans hp.symm)
      omega
  rw [show ((conL (N : Int) xs).length : Int) - 1 = (((conL (N : Int) xs).length - 1 : Nat) : Int) by omega, hi]
  simp only [exP, decide_eq_true_eq]
  rw [hlast, hE]
  have hfc := full_closed hC
  have hfi : IntS xs N (Ext xs ((2 ^ N - 1 : Nat) : Int)) = 2 ^ N - 1 := by
    have h9 : Clo xs N ((2 ^ N - 1 : Nat) : Int) = ((2 ^ N - 1 : Nat) : Int) := by rw [← cloN_cast, hfc]
    have hp9 := Nat.two_pow_pos N
    have h10 : ((2 ^ N - 1 : Nat) : Int) = 2 ^ N - 1 := by rw [Int.natCast_sub hp9]; simp
    rw [← h10]; exact h9
  constructor
  · intro e; rw [← e]; exact hfi
  · intro e
    have h1 := ext_clo hc pu
    have h2 : Clo xs N (u : Int) = 2 ^ N - 1 := e
    rw [h2] at h1
    have hp9 := Nat.two_pow_pos N
    have h10 : ((2 ^ N - 1 : Nat) : Int) = 2 ^ N - 1 := by rw [Int.natCast_sub hp9]; simp
    rw [h10]; exact h1
/-- the top is the first one -/
theorem top_first {N : Nat} {xs : List Int} (hc : PCtx N xs) : idxP (exP (2 ^ xs.length - 1)) (fsts (conW N xs)) (snds (conW N xs)) = 0 := by
  have hpos := con_pos hc
  have hfl : (fsts (conW N xs)).length = (conL (N : Int) xs).length := conW_len ..
  obtain ⟨t, ht⟩ := con_first hc
  have h0 : nth (fsts (conW N xs)) 0 = 2 ^ xs.length - 1 := by
    rw [nthF hpos]
    have e : (conL (N : Int) xs)[0] = cloN xs N 0 := by simp [ht]
    rw [e, cloN_cast, ext_clo hc (pset_nat (by have := hc.2.1; omega) (Nat.two_pow_pos N))]
    rw [← setOf_full]
    exact setOf_congr fun k _ => by simp [PSub]
  exact idxP_some (i := 0) (by omega) (by simp [exP, h0]) (fun j hj => by omega)
theorem join_first {N : Nat} {xs : List Int} (hc : PCtx N xs) (e : Int) : idxP (inP e) (fsts (conW N xs)) (snds (conW N xs)) = 0 ↔ nth (snds (conW N xs)) 0 = e := by
  have hpos := con_pos hc
  have hfl : (fsts (conW N xs)).length = (conL (N : Int) xs).length := conW_len ..
  have := idxP_iff (p := inP e) (xs := fsts (conW N xs)) (ys := snds (conW N xs)) (i := 0) (by omega) (fun _ j hj => by omega)
  simpa [inP] using this
end Go.Proofs.YtliecnadoklgoaaGreatDoor
