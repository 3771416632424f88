/- The lattice's functions over a list of concepts. Conditions: none. -/
import Derived.Test.YtkkkgaapkibhkaaGreatDoorChain
import Derived.Test.YtkkkgaapkibhkaaGreatDoorIdxP
namespace Go.Proofs.YtkkkgaapkibhkaaGreatDoor
open Ev
set_option linter.unusedVariables false
set_option linter.unusedSimpArgs false
set_option maxHeartbeats 4000000

theorem indexFuncL_c {v : AV} {g : Nat} {caps : List AV} {p : Int → Int → Bool} (hv : IsP v) (hx : env.ext g = none) (ho : env.open_ g = false) (hl : ∀ h, lows h caps = caps) (hp : ∀ x y, EvC env g (.agg [.int .i64 x, .int .i64 y] :: caps) (.bool (p x y))) : EvC env 256 [v, .fn g caps] (.int .i64 (idxP p (fsts v) (snds v))) := by
  refine evC_of (F := Tryz.f256) rfl rfl (Nat.le_of_ble_eq_true rfl) ?_
  have := hv.len
  have hll := hv.lens
  unfold top63 at this
  have hp2 : ∀ (x y : Int) (K : AV → Prop) (tg : Tg K), CW env g (.agg [.int .i64 x, .int .i64 y] :: caps) K tg ↔ K (.bool (p x y)) := fun x y K tg => callsTo_iff (hp x y)
  repeat' (first | (apply br_intro <;> intro hb <;> (have hb2 := hb) <;> (try simp [-Int.not_le, -Int.not_lt, -Nat.not_le, -Nat.not_lt, -Nat.add_left_cancel_iff] at hb2)) | (refine draw_listA (by rfl) (by kernel_rfl) ?_) | (refine draw_listB (by simp [allocsOf, isAlloc]; rfl) (by kernel_rfl) ?_) | simp (maxSteps := 2000000) (disch := first | omega | assumption | simp [*]) [*, -Int.not_le, -Int.not_lt, -Nat.not_le, -Nat.not_lt, -Nat.add_left_cancel_iff, wrap_i64, wrap_u64, Tryz.f256, isP_len hv])
  refine W_loopG (fsts v).length (fun i s h => h = hnil ∧ s 8 = .int .i64 i ∧ s 7 = .int .i64 (fsts v).length ∧ s 0 = v ∧ s 1 = .fn g caps ∧ ∀ j, j < i → p (nth (fsts v) j) (nth (snds v) j) = false) ?_ ?_
  · simp
  rintro i s h hi ⟨rfl, h8, h7, h0, h1, hj⟩
  by_cases hi2 : i < (fsts v).length
  · repeat' (first | (apply br_intro <;> intro hb <;> (have hb2 := hb) <;> (try simp [-Int.not_le, -Int.not_lt, -Nat.not_le, -Nat.not_lt, -Nat.add_left_cancel_iff] at hb2)) | (refine draw_listA (by rfl) (by kernel_rfl) ?_) | (refine draw_listB (by simp [allocsOf, isAlloc]; rfl) (by kernel_rfl) ?_) | simp (maxSteps := 2000000) (disch := first | omega | assumption | simp [*]) [*, -Int.not_le, -Int.not_lt, -Nat.not_le, -Nat.not_lt, -Nat.add_left_cancel_iff, wrap_i64, wrap_u64, h8, h7, h0, h1, isP_len hv, isP_index hv])
    · rw [idxP_some hi2 (by assumption) hj]
    · intro j hj2
      by_cases e : j = i
      · subst e; simpa using hb2
      · exact hj j (by omega)
  · obtain rfl : i = (fsts v).length := by omega
    repeat' (first | (apply br_intro <;> intro hb <;> (have hb2 := hb) <;> (try simp [-Int.not_le, -Int.not_lt, -Nat.not_le, -Nat.not_lt, -Nat.add_left_cancel_iff] at hb2)) | (refine draw_listA (by rfl) (by kernel_rfl) ?_) | (refine draw_listB (by simp [allocsOf, isAlloc]; rfl) (by kernel_rfl) ?_) | simp (maxSteps := 2000000) (disch := first | omega | assumption | simp [*]) [*, -Int.not_le, -Int.not_lt, -Nat.not_le, -Nat.not_lt, -Nat.add_left_cancel_iff, wrap_i64, wrap_u64, h8, h7, h0, h1, isP_len hv])
    rw [idxP_none hj]
theorem indexFuncL_s {v : AV} {g : Nat} {caps : List AV} {p : Int → Int → Bool} (hv : IsP v) (hx : env.ext g = none) (ho : env.open_ g = false) (hl : ∀ h, lows h caps = caps) (hp : ∀ x y, EvC env g (.agg [.int .i64 x, .int .i64 y] :: caps) (.bool (p x y))) {K : AV → Prop} {tg : Tg K} : CW env 256 [v, .fn g caps] K tg ↔ K (.int .i64 (idxP p (fsts v) (snds v))) := callsTo_iff (indexFuncL_c hv hx ho hl hp)
attribute [simp] indexFuncL_s
theorem index1_c {x y e : Int} : EvC env 257 [.agg [.int .i64 x, .int .i64 y], .cp true [.int .i64 e] 0] (.bool (decide (x = e))) := by
  refine evC_of (F := Tryz.f257) rfl rfl (Nat.le_of_ble_eq_true rfl) ?_
  repeat' (first | (apply br_intro <;> intro hb <;> (have hb2 := hb) <;> (try simp [-Int.not_le, -Int.not_lt, -Nat.not_le, -Nat.not_lt, -Nat.add_left_cancel_iff] at hb2)) | (refine draw_listA (by rfl) (by kernel_rfl) ?_) | (refine draw_listB (by simp [allocsOf, isAlloc]; rfl) (by kernel_rfl) ?_) | simp (maxSteps := 2000000) (disch := first | omega | assumption | simp [*]) [*, -Int.not_le, -Int.not_lt, -Nat.not_le, -Nat.not_lt, -Nat.add_left_cancel_iff, wrap_i64, wrap_u64, Tryz.f257])
theorem index1_s {x y e : Int} {K : AV → Prop} {tg : Tg K} : CW env 257 [.agg [.int .i64 x, .int .i64 y], .cp true [.int .i64 e] 0] K tg ↔ K (.bool (decide (x = e))) := callsTo_iff (index1_c )
attribute [simp] index1_s
theorem join1_c {x y e : Int} : EvC env 258 [.agg [.int .i64 x, .int .i64 y], .cp true [.int .i64 e] 0] (.bool (decide (y = e))) := by
  refine evC_of (F := Tryz.f258) rfl rfl (Nat.le_of_ble_eq_true rfl) ?_
  repeat' (first | (apply br_intro <;> intro hb <;> (have hb2 := hb) <;> (try simp [-Int.not_le, -Int.not_lt, -Nat.not_le, -Nat.not_lt, -Nat.add_left_cancel_iff] at hb2)) | (refine draw_listA (by rfl) (by kernel_rfl) ?_) | (refine draw_listB (by simp [allocsOf, isAlloc]; rfl) (by kernel_rfl) ?_) | simp (maxSteps := 2000000) (disch := first | omega | assumption | simp [*]) [*, -Int.not_le, -Int.not_lt, -Nat.not_le, -Nat.not_lt, -Nat.add_left_cancel_iff, wrap_i64, wrap_u64, Tryz.f258])
theorem join1_s {x y e : Int} {K : AV → Prop} {tg : Tg K} : CW env 258 [.agg [.int .i64 x, .int .i64 y], .cp true [.int .i64 e] 0] K tg ↔ K (.bool (decide (y = e))) := callsTo_iff (join1_c )
attribute [simp] join1_s
def exP (e x y : Int) : Bool := decide (x = e)
def inP (e x y : Int) : Bool := decide (y = e)
theorem index_c {e : Int} {v : AV} (hP : IsP v) : EvC env 214 [v, .int .i64 e] (.int .i64 (idxP (exP e) (fsts v) (snds v))) := by
  refine evC_of (F := Tryz.f214) rfl rfl (Nat.le_of_ble_eq_true rfl) ?_
  have hcs : ∀ (K : AV → Prop) (tg : Tg K), CW env 256 [v, .fn 257 [.cp true [.int .i64 e] 0]] K tg ↔ K (.int .i64 (idxP (exP e) (fsts v) (snds v))) :=
    fun K tg => callsTo_iff (indexFuncL_c hP rfl rfl (fun h => by simp) fun x y => index1_c)
  repeat' (first | (apply br_intro <;> intro hb <;> (have hb2 := hb) <;> (try simp [-Int.not_le, -Int.not_lt, -Nat.not_le, -Nat.not_lt, -Nat.add_left_cancel_iff] at hb2)) | (refine draw_listA (by rfl) (by kernel_rfl) ?_) | (refine draw_listB (by simp [allocsOf, isAlloc]; rfl) (by kernel_rfl) ?_) | simp (maxSteps := 2000000) (disch := first | omega | assumption | simp [*]) [*, -Int.not_le, -Int.not_lt, -Nat.not_le, -Nat.not_lt, -Nat.add_left_cancel_iff, wrap_i64, wrap_u64, Tryz.f214, isP_low hP])
theorem index_s {e : Int} {v : AV} (hP : IsP v) {K : AV → Prop} {tg : Tg K} : CW env 214 [v, .int .i64 e] K tg ↔ K (.int .i64 (idxP (exP e) (fsts v) (snds v))) := callsTo_iff (index_c hP)
attribute [simp] index_s
/-- the numbers of a list are sets -/
def SetsP (xs : List Int) : Prop := ∀ k, k < xs.length → 0 ≤ nth xs k ∧ nth xs k < 256
def andI (x y : Int) : Int := ((x.toNat &&& y.toNat : Nat) : Int)
theorem meet_c {v : AV} {a b : Nat} (hP : IsP v) (ha : a < (fsts v).length) (hb : b < (fsts v).length) (h : SetsP (fsts v)) : EvC env 216 [v, .int .i64 a, .int .i64 b] (.int .i64 (idxP (exP (andI (nth (fsts v) a) (nth (fsts v) b))) (fsts v) (snds v))) := by
  refine evC_of (F := Tryz.f216) rfl rfl (Nat.le_of_ble_eq_true rfl) ?_
  have r1 := h a ha
  have r2 := h b hb
  have hcs : ∀ (K : AV → Prop) (tg : Tg K), CW env 214 [v, .int .i64 (((nth (fsts v) a).toNat &&& (nth (fsts v) b).toNat : Nat) : Int)] K tg ↔ K (.int .i64 (idxP (exP (andI (nth (fsts v) a) (nth (fsts v) b))) (fsts v) (snds v))) := fun K tg => callsTo_iff (index_c hP)
  clear h
  repeat' (first | (apply br_intro <;> intro hb <;> (have hb2 := hb) <;> (try simp [-Int.not_le, -Int.not_lt, -Nat.not_le, -Nat.not_lt, -Nat.add_left_cancel_iff] at hb2)) | (refine draw_listA (by rfl) (by kernel_rfl) ?_) | (refine draw_listB (by simp [allocsOf, isAlloc]; rfl) (by kernel_rfl) ?_) | simp (maxSteps := 2000000) (disch := first | omega | assumption | simp [*]) [*, -Int.not_le, -Int.not_lt, -Nat.not_le, -Nat.not_lt, -Nat.add_left_cancel_iff, wrap_i64, wrap_u64, Tryz.f216, isP_index hP, isP_low hP, isP_noKey hP, bits_and])
theorem meet_s {v : AV} {a b : Nat} (hP : IsP v) (ha : a < (fsts v).length) (hb : b < (fsts v).length) (h : SetsP (fsts v)) {K : AV → Prop} {tg : Tg K} : CW env 216 [v, .int .i64 a, .int .i64 b] K tg ↔ K (.int .i64 (idxP (exP (andI (nth (fsts v) a) (nth (fsts v) b))) (fsts v) (snds v))) := callsTo_iff (meet_c hP ha hb h)
attribute [simp] meet_s
theorem join_c {v : AV} {a b : Nat} (hP : IsP v) (ha : a < (fsts v).length) (hb : b < (fsts v).length) (h : SetsP (snds v)) : EvC env 217 [v, .int .i64 a, .int .i64 b] (.int .i64 (idxP (inP (andI (nth (snds v) a) (nth (snds v) b))) (fsts v) (snds v))) := by
  refine evC_of (F := Tryz.f217) rfl rfl (Nat.le_of_ble_eq_true rfl) ?_
  have hll := hP.lens
  have r1 := h a (by omega)
  have r2 := h b (by omega)
  have hcs : ∀ (K : AV → Prop) (tg : Tg K), CW env 256 [v, .fn 258 [.cp true [.int .i64 (((nth (snds v) a).toNat &&& (nth (snds v) b).toNat : Nat) : Int)] 0]] K tg ↔ K (.int .i64 (idxP (inP (andI (nth (snds v) a) (nth (snds v) b))) (fsts v) (snds v))) :=
    fun K tg => callsTo_iff (indexFuncL_c hP rfl rfl (fun h => by simp) fun x y => join1_c)
  clear h hll
  repeat' (first | (apply br_intro <;> intro hb <;> (have hb2 := hb) <;> (try simp [-Int.not_le, -Int.not_lt, -Nat.not_le, -Nat.not_lt, -Nat.add_left_cancel_iff] at hb2)) | (refine draw_listA (by rfl) (by kernel_rfl) ?_) | (refine draw_listB (by simp [allocsOf, isAlloc]; rfl) (by kernel_rfl) ?_) | simp (maxSteps := 2000000) (disch := first | omega | assumption | simp [*]) [*, -Int.not_le, -Int.not_lt, -Nat.not_le, -Nat.not_lt, -Nat.add_left_cancel_iff, wrap_i64, wrap_u64, Tryz.f217, isP_index hP, isP_low hP, isP_noKey hP, bits_and])
theorem join_s {v : AV} {a b : Nat} (hP : IsP v) (ha : a < (fsts v).length) (hb : b < (fsts v).length) (h : SetsP (snds v)) {K : AV → Prop} {tg : Tg K} : CW env 217 [v, .int .i64 a, .int .i64 b] K tg ↔ K (.int .i64 (idxP (inP (andI (nth (snds v) a) (nth (snds v) b))) (fsts v) (snds v))) := callsTo_iff (join_c hP ha hb h)
attribute [simp] join_s
def selTo (p : Nat → Bool) (n : Nat) : List Int := ((List.range n).filter p).map Int.ofNat
theorem selTo_succ (p : Nat → Bool) (n : Nat) : selTo p (n + 1) = selTo p n ++ if p n then [(n : Int)] else [] := by
  unfold selTo
  rw [List.range_succ, List.filter_append, List.map_append]
  congr 1
  by_cases h : p n <;> simp [h]
theorem selTo_len (p : Nat → Bool) (n : Nat) : (selTo p n).length ≤ n := by
  unfold selTo
  rw [List.length_map]
  exact Nat.le_trans (List.length_filter_le _ _) (by simp)
theorem chosen_c {v : AV} {g : Nat} {caps : List AV} {p : Nat → Bool} (hP : IsP v) (hL : (fsts v).length ≤ 64) (hx : env.ext g = none) (ho : env.open_ g = false) (hl : ∀ h, lows h caps = caps) (hp : ∀ i : Nat, i < (fsts v).length → EvC env g (.int .i64 i :: caps) (.bool (p i))) : EvC env 114 [v, .fn g caps] (bufR 3 19 1 (selTo p (fsts v).length)) := by
  refine evC_of (F := Tryz.f114) rfl rfl (Nat.le_of_ble_eq_true rfl) ?_
  have hp2 : ∀ (i : Nat) (K : AV → Prop) (tg : Tg K), i < (fsts v).length → (CW env g (.int .i64 i :: caps) K tg ↔ K (.bool (p i))) := fun i K tg hi => callsTo_iff (hp i hi)
  repeat' (first | (apply br_intro <;> intro hb <;> (have hb2 := hb) <;> (try simp [-Int.not_le, -Int.not_lt, -Nat.not_le, -Nat.not_lt, -Nat.add_left_cancel_iff] at hb2)) | (refine draw_listA (by rfl) (by kernel_rfl) ?_) | (refine draw_listB (by simp [allocsOf, isAlloc]; rfl) (by kernel_rfl) ?_) | simp (maxSteps := 2000000) (disch := first | omega | assumption | simp [*]) [*, -Int.not_le, -Int.not_lt, -Nat.not_le, -Nat.not_lt, -Nat.add_left_cancel_iff, wrap_i64, wrap_u64, Tryz.f114, isP_len hP])
  refine W_loopG (fsts v).length (fun i s h => s 10 = .int .i64 i ∧ s 9 = .int .i64 (fsts v).length ∧ s 0 = v ∧ s 1 = .fn g caps ∧ Buf h 3 19 1 (s 5) (selTo p i)) ?_ ?_
  · simp [selTo]; exact buf_nil ..
  rintro i s h hi ⟨h10, h9, h0, h1, hB⟩
  have hsl := selTo_len p i
  by_cases hi2 : i < (fsts v).length
  · have hsu := selTo_succ p i
    cases hpi : p i with
    | true =>
      rw [hpi] at hsu
      simp only [if_true] at hsu
      repeat' (first | (apply br_intro <;> intro hb <;> (have hb2 := hb) <;> (try simp [-Int.not_le, -Int.not_lt, -Nat.not_le, -Nat.not_lt, -Nat.add_left_cancel_iff] at hb2)) | (refine draw_listA (by rfl) (by kernel_rfl) ?_) | (refine draw_listB (by simp [allocsOf, isAlloc]; rfl) (by kernel_rfl) ?_) | simp (maxSteps := 2000000) (disch := first | omega | assumption | simp [*]) [*, -Int.not_le, -Int.not_lt, -Nat.not_le, -Nat.not_lt, -Nat.add_left_cancel_iff, wrap_i64, wrap_u64, h10, h9, h0, h1, isP_len hP])
      refine wa_push hB (by simp) (by simp) (by omega) ?_
      intro v2 h2 hB2 hk2
      rw [← hsu] at hB2
      clear hsu
      repeat' (first | (apply br_intro <;> intro hb <;> (have hb2 := hb) <;> (try simp [-Int.not_le, -Int.not_lt, -Nat.not_le, -Nat.not_lt, -Nat.add_left_cancel_iff] at hb2)) | (refine draw_listA (by rfl) (by kernel_rfl) ?_) | (refine draw_listB (by simp [allocsOf, isAlloc]; rfl) (by kernel_rfl) ?_) | simp (maxSteps := 2000000) (disch := first | omega | assumption | simp [*]) [*, -Int.not_le, -Int.not_lt, -Nat.not_le, -Nat.not_lt, -Nat.add_left_cancel_iff, wrap_i64, wrap_u64, h10, h9, h0, h1, isP_len hP])
      exact hB2
    | false =>
      rw [hpi] at hsu
      simp only [Bool.false_eq_true, if_false, List.append_nil] at hsu
      rw [← hsu] at hB
      clear hsu
      repeat' (first | (apply br_intro <;> intro hb <;> (have hb2 := hb) <;> (try simp [-Int.not_le, -Int.not_lt, -Nat.not_le, -Nat.not_lt, -Nat.add_left_cancel_iff] at hb2)) | (refine draw_listA (by rfl) (by kernel_rfl) ?_) | (refine draw_listB (by simp [allocsOf, isAlloc]; rfl) (by kernel_rfl) ?_) | simp (maxSteps := 2000000) (disch := first | omega | assumption | simp [*]) [*, -Int.not_le, -Int.not_lt, -Nat.not_le, -Nat.not_lt, -Nat.add_left_cancel_iff, wrap_i64, wrap_u64, h10, h9, h0, h1, isP_len hP])
  · obtain rfl : i = (fsts v).length := by omega
    repeat' (first | (apply br_intro <;> intro hb <;> (have hb2 := hb) <;> (try simp [-Int.not_le, -Int.not_lt, -Nat.not_le, -Nat.not_lt, -Nat.add_left_cancel_iff] at hb2)) | (refine draw_listA (by rfl) (by kernel_rfl) ?_) | (refine draw_listB (by simp [allocsOf, isAlloc]; rfl) (by kernel_rfl) ?_) | simp (maxSteps := 2000000) (disch := first | omega | assumption | simp [*]) [*, -Int.not_le, -Int.not_lt, -Nat.not_le, -Nat.not_lt, -Nat.add_left_cancel_iff, wrap_i64, wrap_u64, h10, h9, h0, h1, isP_len hP])
    exact hB.expo
theorem chosen_s {v : AV} {g : Nat} {caps : List AV} {p : Nat → Bool} (hP : IsP v) (hL : (fsts v).length ≤ 64) (hx : env.ext g = none) (ho : env.open_ g = false) (hl : ∀ h, lows h caps = caps) (hp : ∀ i : Nat, i < (fsts v).length → EvC env g (.int .i64 i :: caps) (.bool (p i))) {K : AV → Prop} {tg : Tg K} : CW env 114 [v, .fn g caps] K tg ↔ K (bufR 3 19 1 (selTo p (fsts v).length)) := callsTo_iff (chosen_c hP hL hx ho hl hp)
attribute [simp] chosen_s
theorem iTopOf_c {n : Int} {v : AV} (hv : IsI v) : EvC env 109 [.agg [.int .i64 n, v]] (.int .i64 (if PCtx n (xsOf v) then idxP (exP (2 ^ (xsOf v).length - 1)) (fsts (conW n (xsOf v))) (snds (conW n (xsOf v))) else -1)) := by
  refine evC_of (F := Tryz.f109) rfl rfl (Nat.le_of_ble_eq_true rfl) ?_
  by_cases hc : PCtx n (xsOf v)
  · have hP := conW2_P n (xsOf v)
    have hw := iCon_noEx n (xsOf v) 102
    have hl := hc.2.2.1
    have hpw := pow_small (i := (xsOf v).length) hl
    have hl8 : ((xsOf v).length : Int) ≤ 8 := by omega
    rw [if_pos hc, ← conW2_fsts, ← conW2_snds]
    obtain ⟨w, hww⟩ : ∃ w, conW2 n (xsOf v) = w := ⟨_, rfl⟩
    rw [hww] at hP hw
    rw [hww]
    clear hww
    repeat' (first | (apply br_intro <;> intro hb <;> (have hb2 := hb) <;> (try simp [-Int.not_le, -Int.not_lt, -Nat.not_le, -Nat.not_lt, -Nat.add_left_cancel_iff] at hb2)) | (refine draw_listA (by rfl) (by kernel_rfl) ?_) | (refine draw_listB (by simp [allocsOf, isAlloc]; rfl) (by kernel_rfl) ?_) | simp (maxSteps := 2000000) (disch := first | omega | assumption | simp [*]) [*, -Int.not_le, -Int.not_lt, -Nat.not_le, -Nat.not_lt, -Nat.add_left_cancel_iff, wrap_i64, wrap_u64, Tryz.f109, isI_cells hv, isI_one hv, isI_low hv, isI_len hv, isP_low hP, isP_noKey hP])
  · rw [if_neg hc]
    repeat' (first | (apply br_intro <;> intro hb <;> (have hb2 := hb) <;> (try simp [-Int.not_le, -Int.not_lt, -Nat.not_le, -Nat.not_lt, -Nat.add_left_cancel_iff] at hb2)) | (refine draw_listA (by rfl) (by kernel_rfl) ?_) | (refine draw_listB (by simp [allocsOf, isAlloc]; rfl) (by kernel_rfl) ?_) | simp (maxSteps := 2000000) (disch := first | omega | assumption | simp [*]) [*, -Int.not_le, -Int.not_lt, -Nat.not_le, -Nat.not_lt, -Nat.add_left_cancel_iff, wrap_i64, wrap_u64, Tryz.f109, isI_cells hv, isI_one hv, isI_low hv, isI_len hv])
theorem iTopOf_s {n : Int} {v : AV} (hv : IsI v) {K : AV → Prop} {tg : Tg K} : CW env 109 [.agg [.int .i64 n, v]] K tg ↔ K (.int .i64 (if PCtx n (xsOf v) then idxP (exP (2 ^ (xsOf v).length - 1)) (fsts (conW n (xsOf v))) (snds (conW n (xsOf v))) else -1)) := callsTo_iff (iTopOf_c hv)
attribute [simp] iTopOf_s
end Go.Proofs.YtkkkgaapkibhkaaGreatDoor
