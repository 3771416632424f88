/- Exploration: the helpers of both sides. Conditions: none. -/
import Derived.Test.YtlglhokpaplifaaGreatDoorArrow
import Derived.Test.YtlglhokpaplifaaGreatDoorCalls
namespace Go.Proofs.YtlglhokpaplifaaGreatDoor
open Ev
set_option linter.unusedVariables false
set_option linter.unusedSimpArgs false
set_option maxHeartbeats 4000000

/-- a start of a slice of numbers -/
def cutI (v : AV) (i : Nat) : AV := match v with
  | .sl k o es => .sl k (if o = .brw then .brw else if i = es.length then o else .no) (es.take i)
  | v => v
theorem cutI_I {v : AV} (hv : IsI v) {i : Nat} (hi : i ≤ (xsOf v).length) : IsI (cutI v i) ∧ xsOf (cutI v i) = (xsOf v).take i := by
  obtain ⟨k, o, es, rfl, hk, ho⟩ := hv.l.ok
  have hes : es = ints (xsOf (.sl k o es)) := by have := hv.ints; simpa using this
  have hl := hv.len
  obtain ⟨xs, hxs⟩ : ∃ xs, xsOf (.sl k o es) = xs := ⟨_, rfl⟩
  rw [hxs] at hes hi hl ⊢
  subst hes
  have ht : (ints xs).take i = ints (xs.take i) := by simp [ints, List.map_take]
  have ho2 : (if o = .brw then Own.brw else if i = (ints xs).length then o else .no).safe = true := by
    split
    · rfl
    · split
      · exact ho
      · rfl
  simp only [cutI, ht]
  refine ⟨isI_sl ?_ ho2 (by rw [List.length_take]; omega), by simp⟩
  rcases hk with h | h
  · left
    have : xs = [] := by simpa using h
    simp [this]
  · exact .inr h
theorem cutI_slice {E : Env} {h : Heap} {t : Nat} {v : AV} {i : Nat} (hv : IsI v) (ht : slT E t = true) (hs : E.size (elT E t) = 1) (hi : i ≤ (xsOf v).length) :
    sliceV E h t v none (some (.int .i64 i)) none = some (cutI v i) := by
  obtain ⟨k, o, es, rfl, hk, ho⟩ := hv.l.ok
  have hes : es.length = (xsOf (.sl k o es)).length := by simp [xsOf]
  rw [← hes] at hi
  have h0 : (0 : Int) ≤ (i : Int) := by omega
  have hk2 : es = [] ∨ k = E.size (elT E t) := by rw [hs]; exact hk
  simp only [sliceV, slT_ty ht, boundV]
  rw [if_neg (by omega), if_pos h0]
  simp only [Option.bind_some, Int.toNat_natCast]
  rw [if_pos ⟨Nat.zero_le _, hi, by trivial, hk2⟩]
  simp [cutI]
/-- the first object with one set that lacks another one -/
def ctrE (E : List Int) (a b : Nat) : Int := idxI (fun row => PSub (a : Int) row && !PSub (b : Int) row) E
theorem psub_comm_and {s t : Int} (h : 0 ≤ s) : (((t.toNat &&& s.toNat : Nat) : Int) = s) ↔ PSub s t = true := by
  rw [Nat.and_comm]; exact psub_and h
theorem l14Counter_c {n : Int} {a b : Nat} {v : AV} (hv : IsI v) (hc : PCtx n (xsOf v)) (ha : a < 64) (hb : b < 64) : EvC env 47 [.agg [.int .i64 n, v], .int .i64 a, .int .i64 b] (.int .i64 (ctrE (xsOf v) a b)) := by
  refine evC_of (F := Tryz.f47) rfl rfl (Nat.le_of_ble_eq_true rfl) ?_
  have hl := hc.2.2.1
  repeat' (first | (apply brI <;> intro hb hb2 <;> (try simp [-Int.not_le, -Int.not_lt, -Nat.not_le, -Nat.not_lt, -Nat.add_left_cancel_iff] at hb2)) | (refine draw_listA (by rfl) (by kernel_rfl) ?_) | (refine draw_listB (by simp [allocsOf, isAlloc]; rfl) (by kernel_rfl) ?_) | simp (maxSteps := 2000000) (disch := first | omega | assumption | simp [*]) [*, -Int.not_le, -Int.not_lt, -Nat.not_le, -Nat.not_lt, -Nat.add_left_cancel_iff, wrap_i64, wrap_u64, Tryz.f47, isI_cells hv, isI_one hv, isI_low hv, isI_len hv])
  refine W_loopP (xsOf v).length (fun i st => st 7 = .int .i64 i ∧ st 1 = .int .i64 a ∧ st 2 = .int .i64 b ∧ st 3 = .vp 3 0 0 ∧ ∀ j, j < i → (PSub (a : Int) (nth (xsOf v) j) && !PSub (b : Int) (nth (xsOf v) j)) = false) rfl ?_ ?_
  · simp
  rintro i st hi ⟨h7, h1, h2, h3, hj⟩
  by_cases hi2 : i < (xsOf v).length
  · have r1 := pctx_row hc hi2
    have sa := psub_and' (s := (a : Int)) (t := nth (xsOf v) i) (by omega)
    have sb := psub_and' (s := (b : Int)) (t := nth (xsOf v) i) (by omega)
    have hsome := fun hp => idxI_some (p := fun row => PSub (a : Int) row && !PSub (b : Int) row) hi2 hp hj
    simp only [Int.toNat_natCast] at sa sb
    have hjj : (PSub (a : Int) (nth (xsOf v) i) = true → PSub (b : Int) (nth (xsOf v) i) = true) → ∀ j, j < i + 1 → PSub (a : Int) (nth (xsOf v) j) = true → PSub (b : Int) (nth (xsOf v) j) = true := fun hx j hj9 h => by
      by_cases e : j = i
      · subst e; exact hx h
      · have := hj j (by omega)
        rw [h] at this
        simpa using this
    have hyes : PSub (a : Int) (nth (xsOf v) i) = true → ¬ PSub (b : Int) (nth (xsOf v) i) = true → (i : Int) = ctrE (xsOf v) a b := fun x y => (hsome (by rw [x]; simpa using y)).symm
    clear hsome hj
    repeat' (first | (apply brI <;> intro hb hb2 <;> (try simp [-Int.not_le, -Int.not_lt, -Nat.not_le, -Nat.not_lt, -Nat.add_left_cancel_iff] at hb2)) | (refine draw_listA (by rfl) (by kernel_rfl) ?_) | (refine draw_listB (by simp [allocsOf, isAlloc]; rfl) (by kernel_rfl) ?_) | simp (maxSteps := 2000000) (disch := first | omega | assumption | simp [*]) [*, -Int.not_le, -Int.not_lt, -Nat.not_le, -Nat.not_lt, -Nat.add_left_cancel_iff, wrap_i64, wrap_u64, h7, h1, h2, h3, isI_cells hv, isI_one hv, isI_low hv, isI_len hv, isI_index hv, isI_load hv, bits_and])
    · exact hjj fun _ => hb2
    · exact hjj fun h => by rw [h] at hb2; cases hb2
  · obtain rfl : i = (xsOf v).length := by omega
    have hnone : ctrE (xsOf v) a b = -1 := idxI_none hj
    clear hj
    repeat' (first | (apply brI <;> intro hb hb2 <;> (try simp [-Int.not_le, -Int.not_lt, -Nat.not_le, -Nat.not_lt, -Nat.add_left_cancel_iff] at hb2)) | (refine draw_listA (by rfl) (by kernel_rfl) ?_) | (refine draw_listB (by simp [allocsOf, isAlloc]; rfl) (by kernel_rfl) ?_) | simp (maxSteps := 2000000) (disch := first | omega | assumption | simp [*]) [*, -Int.not_le, -Int.not_lt, -Nat.not_le, -Nat.not_lt, -Nat.add_left_cancel_iff, wrap_i64, wrap_u64, h7, h1, h2, h3, isI_cells hv, isI_one hv, isI_low hv, isI_len hv])
theorem l14Counter_s {n : Int} {a b : Nat} {v : AV} (hv : IsI v) (hc : PCtx n (xsOf v)) (ha : a < 64) (hb : b < 64) {K : AV → Prop} {tg : Tg K} : CW env 47 [.agg [.int .i64 n, v], .int .i64 a, .int .i64 b] K tg ↔ K (.int .i64 (ctrE (xsOf v) a b)) := callsTo_iff (l14Counter_c hv hc ha hb)
attribute [simp] l14Counter_s
def inX (xs : List Int) (x : Int) : Bool := (List.range xs.length).any fun i => decide (nth xs i = x)
theorem l2In_c {x : Int} {v : AV} (hv : IsI v) : EvC env 90 [v, .int .i64 x] (.bool (inX (xsOf v) x)) := by
  refine evC_of (F := Tryz.f90) rfl rfl (Nat.le_of_ble_eq_true rfl) ?_
  have hvl := hv.len
  obtain ⟨B, hB⟩ : ∃ B, inX (xsOf v) x = B := ⟨_, rfl⟩
  rw [hB]
  have hyes : ∀ i, i < (xsOf v).length → nth (xsOf v) i = x → B = true := fun i hi e => by
    rw [← hB]; unfold inX; rw [List.any_eq_true]; exact ⟨i, List.mem_range.2 hi, by simp [e]⟩
  have hno : (∀ i, i < (xsOf v).length → nth (xsOf v) i ≠ x) → B = false := fun h => by
    rw [← hB]; unfold inX; rw [List.any_eq_false]; intro i hi; simp [h i (List.mem_range.1 hi)]
  clear hB
  repeat' (first | (apply brI <;> intro hb hb2 <;> (try simp [-Int.not_le, -Int.not_lt, -Nat.not_le, -Nat.not_lt, -Nat.add_left_cancel_iff] at hb2)) | (refine draw_listA (by rfl) (by kernel_rfl) ?_) | (refine draw_listB (by simp [allocsOf, isAlloc]; rfl) (by kernel_rfl) ?_) | simp (maxSteps := 2000000) (disch := first | omega | assumption | simp [*]) [*, -Int.not_le, -Int.not_lt, -Nat.not_le, -Nat.not_lt, -Nat.add_left_cancel_iff, wrap_i64, wrap_u64, Tryz.f90, isI_len hv])
  refine W_loopP (xsOf v).length (fun i s => s 5 = .int .i64 i ∧ s 0 = v ∧ s 1 = .int .i64 x ∧ ∀ j, j < i → nth (xsOf v) j ≠ x) rfl ?_ ?_
  · simp
  rintro i s hi ⟨h5, h0, h1, hj⟩
  by_cases hi2 : i < (xsOf v).length
  · by_cases he : nth (xsOf v) i = x
    · have hb := hyes i hi2 he
      clear hyes hno hj
      repeat' (first | (apply brI <;> intro hb hb2 <;> (try simp [-Int.not_le, -Int.not_lt, -Nat.not_le, -Nat.not_lt, -Nat.add_left_cancel_iff] at hb2)) | (refine draw_listA (by rfl) (by kernel_rfl) ?_) | (refine draw_listB (by simp [allocsOf, isAlloc]; rfl) (by kernel_rfl) ?_) | simp (maxSteps := 2000000) (disch := first | omega | assumption | simp [*]) [*, -Int.not_le, -Int.not_lt, -Nat.not_le, -Nat.not_lt, -Nat.add_left_cancel_iff, wrap_i64, wrap_u64, h5, h0, h1, isI_len hv, isI_index hv, isI_load hv])
    · have hj2 : ∀ j, j < i + 1 → nth (xsOf v) j ≠ x := fun j hj9 => by
        by_cases e : j = i
        · subst e; exact he
        · exact hj j (by omega)
      clear hyes hno hj
      repeat' (first | (apply brI <;> intro hb hb2 <;> (try simp [-Int.not_le, -Int.not_lt, -Nat.not_le, -Nat.not_lt, -Nat.add_left_cancel_iff] at hb2)) | (refine draw_listA (by rfl) (by kernel_rfl) ?_) | (refine draw_listB (by simp [allocsOf, isAlloc]; rfl) (by kernel_rfl) ?_) | simp (maxSteps := 2000000) (disch := first | omega | assumption | simp [*]) [*, -Int.not_le, -Int.not_lt, -Nat.not_le, -Nat.not_lt, -Nat.add_left_cancel_iff, wrap_i64, wrap_u64, h5, h0, h1, isI_len hv, isI_index hv, isI_load hv])
      all_goals first | exact hj2 | skip
  · obtain rfl : i = (xsOf v).length := by omega
    have hb := hno hj
    clear hyes hno hj
    repeat' (first | (apply brI <;> intro hb hb2 <;> (try simp [-Int.not_le, -Int.not_lt, -Nat.not_le, -Nat.not_lt, -Nat.add_left_cancel_iff] at hb2)) | (refine draw_listA (by rfl) (by kernel_rfl) ?_) | (refine draw_listB (by simp [allocsOf, isAlloc]; rfl) (by kernel_rfl) ?_) | simp (maxSteps := 2000000) (disch := first | omega | assumption | simp [*]) [*, -Int.not_le, -Int.not_lt, -Nat.not_le, -Nat.not_lt, -Nat.add_left_cancel_iff, wrap_i64, wrap_u64, h5, h0, h1, isI_len hv])
theorem l2In_s {x : Int} {v : AV} (hv : IsI v) {K : AV → Prop} {tg : Tg K} : CW env 90 [v, .int .i64 x] K tg ↔ K (.bool (inX (xsOf v) x)) := callsTo_iff (l2In_c hv)
attribute [simp] l2In_s
theorem sIndex_c {x : Int} {v : AV} (hv : IsI v) : EvC env 80 [v, .int .i64 x] (.int .i64 (idxI (fun y => decide (y = x)) (xsOf v))) := by
  refine evC_of (F := Tryz.f80) rfl rfl (Nat.le_of_ble_eq_true rfl) ?_
  have := hv.len
  repeat' (first | (apply brI <;> intro hb hb2 <;> (try simp [-Int.not_le, -Int.not_lt, -Nat.not_le, -Nat.not_lt, -Nat.add_left_cancel_iff] at hb2)) | (refine draw_listA (by rfl) (by kernel_rfl) ?_) | (refine draw_listB (by simp [allocsOf, isAlloc]; rfl) (by kernel_rfl) ?_) | simp (maxSteps := 2000000) (disch := first | omega | assumption | simp [*]) [*, -Int.not_le, -Int.not_lt, -Nat.not_le, -Nat.not_lt, -Nat.add_left_cancel_iff, wrap_i64, wrap_u64, Tryz.f80, isI_len hv])
  refine W_loopG (xsOf v).length (fun i s h => h = hnil ∧ s 8 = .int .i64 i ∧ s 7 = .int .i64 (xsOf v).length ∧ s 0 = v ∧ s 1 = .int .i64 x ∧ ∀ j, j < i → decide (nth (xsOf v) j = x) = false) ?_ ?_
  · simp
  rintro i s h hi ⟨rfl, h8, h7, h0, h1, hj⟩
  by_cases hi2 : i < (xsOf v).length
  · have hsome := fun hp => idxI_some (p := fun y => decide (y = x)) hi2 hp hj
    by_cases he : x = nth (xsOf v) i
    · rw [hsome (by simp [he])]
      clear hsome hj
      repeat' (first | (apply brI <;> intro hb hb2 <;> (try simp [-Int.not_le, -Int.not_lt, -Nat.not_le, -Nat.not_lt, -Nat.add_left_cancel_iff] at hb2)) | (refine draw_listA (by rfl) (by kernel_rfl) ?_) | (refine draw_listB (by simp [allocsOf, isAlloc]; rfl) (by kernel_rfl) ?_) | simp (maxSteps := 2000000) (disch := first | omega | assumption | simp [*]) [*, -Int.not_le, -Int.not_lt, -Nat.not_le, -Nat.not_lt, -Nat.add_left_cancel_iff, wrap_i64, wrap_u64, h8, h7, h0, h1, isI_len hv, isI_index hv, isI_load hv])
    · have hj2 : ∀ j, j < i + 1 → decide (nth (xsOf v) j = x) = false := fun j hj9 => by
        by_cases e : j = i
        · subst e; simpa using fun h => he h.symm
        · exact hj j (by omega)
      clear hsome hj
      repeat' (first | (apply brI <;> intro hb hb2 <;> (try simp [-Int.not_le, -Int.not_lt, -Nat.not_le, -Nat.not_lt, -Nat.add_left_cancel_iff] at hb2)) | (refine draw_listA (by rfl) (by kernel_rfl) ?_) | (refine draw_listB (by simp [allocsOf, isAlloc]; rfl) (by kernel_rfl) ?_) | simp (maxSteps := 2000000) (disch := first | omega | assumption | simp [*]) [*, -Int.not_le, -Int.not_lt, -Nat.not_le, -Nat.not_lt, -Nat.add_left_cancel_iff, wrap_i64, wrap_u64, h8, h7, h0, h1, isI_len hv, isI_index hv, isI_load hv])
      all_goals first | exact hj2 | exact fun j h => by simpa using hj2 j h | skip
  · obtain rfl : i = (xsOf v).length := by omega
    rw [idxI_none hj]
    clear hj
    repeat' (first | (apply brI <;> intro hb hb2 <;> (try simp [-Int.not_le, -Int.not_lt, -Nat.not_le, -Nat.not_lt, -Nat.add_left_cancel_iff] at hb2)) | (refine draw_listA (by rfl) (by kernel_rfl) ?_) | (refine draw_listB (by simp [allocsOf, isAlloc]; rfl) (by kernel_rfl) ?_) | simp (maxSteps := 2000000) (disch := first | omega | assumption | simp [*]) [*, -Int.not_le, -Int.not_lt, -Nat.not_le, -Nat.not_lt, -Nat.add_left_cancel_iff, wrap_i64, wrap_u64, h8, h7, h0, h1, isI_len hv])
theorem sIndex_s {x : Int} {v : AV} (hv : IsI v) {K : AV → Prop} {tg : Tg K} : CW env 80 [v, .int .i64 x] K tg ↔ K (.int .i64 (idxI (fun y => decide (y = x)) (xsOf v))) := callsTo_iff (sIndex_c hv)
attribute [simp] sIndex_s
theorem sContains_c {x : Int} {v : AV} (hv : IsI v) : EvC env 35 [v, .int .i64 x] (.bool (inX (xsOf v) x)) := by
  refine evC_of (F := Tryz.f35) rfl rfl (Nat.le_of_ble_eq_true rfl) ?_
  have hx := idxI_any (p := fun y => decide (y = x)) (xs := xsOf v)
  have hi : inX (xsOf v) x = (xsOf v).any fun y => decide (y = x) := by
    unfold inX
    rw [Bool.eq_iff_iff, List.any_eq_true, List.any_eq_true]
    constructor
    · rintro ⟨i, hi, h⟩
      have hi := List.mem_range.1 hi
      exact ⟨nth (xsOf v) i, by rw [nth_eq hi]; exact List.getElem_mem hi, h⟩
    · rintro ⟨y, hy, h⟩
      obtain ⟨i, hi, rfl⟩ := List.mem_iff_getElem.1 hy
      exact ⟨i, List.mem_range.2 hi, by rw [nth_eq hi]; exact h⟩
  have hb : decide (0 ≤ idxI (fun y => decide (y = x)) (xsOf v)) = inX (xsOf v) x := by
    rw [hi, Bool.eq_iff_iff, decide_eq_true_iff]; exact hx
  clear hx hi
  repeat' (first | (apply brI <;> intro hb hb2 <;> (try simp [-Int.not_le, -Int.not_lt, -Nat.not_le, -Nat.not_lt, -Nat.add_left_cancel_iff] at hb2)) | (refine draw_listA (by rfl) (by kernel_rfl) ?_) | (refine draw_listB (by simp [allocsOf, isAlloc]; rfl) (by kernel_rfl) ?_) | simp (maxSteps := 2000000) (disch := first | omega | assumption | simp [*]) [*, -Int.not_le, -Int.not_lt, -Nat.not_le, -Nat.not_lt, -Nat.add_left_cancel_iff, wrap_i64, wrap_u64, Tryz.f35, isI_low hv])
theorem sContains_s {x : Int} {v : AV} (hv : IsI v) {K : AV → Prop} {tg : Tg K} : CW env 35 [v, .int .i64 x] K tg ↔ K (.bool (inX (xsOf v) x)) := callsTo_iff (sContains_c hv)
attribute [simp] sContains_s
/-- objects that are known: different, and there -/
def KnoC (n : Int) (xs ks : List Int) : Prop := PCtx n xs ∧ ∀ i, i < ks.length → (0 ≤ nth ks i ∧ nth ks i < xs.length) ∧ inX (ks.take i) (nth ks i) = false
noncomputable instance (n : Int) (xs ks : List Int) : Decidable (KnoC n xs ks) := Classical.propDecidable _
theorem l14Known_c {n : Int} {v k : AV} (hv : IsI v) (hk : IsI k) (hl : (xsOf v).length ≤ 1048576) : EvC env 44 [.agg [.int .i64 n, v], k] (.bool (decide (KnoC n (xsOf v) (xsOf k)))) := by
  refine evC_of (F := Tryz.f44) rfl rfl (Nat.le_of_ble_eq_true rfl) ?_
  have := hk.len
  repeat' (first | (apply brI <;> intro hb hb2 <;> (try simp [-Int.not_le, -Int.not_lt, -Nat.not_le, -Nat.not_lt, -Nat.add_left_cancel_iff] at hb2)) | (refine draw_listA (by rfl) (by kernel_rfl) ?_) | (refine draw_listB (by simp [allocsOf, isAlloc]; rfl) (by kernel_rfl) ?_) | simp (maxSteps := 2000000) (disch := first | omega | assumption | simp [*]) [*, -Int.not_le, -Int.not_lt, -Nat.not_le, -Nat.not_lt, -Nat.add_left_cancel_iff, wrap_i64, wrap_u64, Tryz.f44, isI_cells hv, isI_one hv, isI_low hv, isI_len hv, isI_len hk])
  refine W_loopP (xsOf k).length (fun i s => s 5 = .int .i64 i ∧ s 1 = k ∧ s 2 = .vp 2 0 0 ∧ ∀ j, j < i → (0 ≤ nth (xsOf k) j ∧ nth (xsOf k) j < (xsOf v).length) ∧ inX ((xsOf k).take j) (nth (xsOf k) j) = false) rfl ?_ ?_
  · simp
  rintro i s hi ⟨h5, h1, h2, hj⟩
  by_cases hi2 : i < (xsOf k).length
  · obtain ⟨ci, cx⟩ := cutI_I hk (i := i) (by omega)
    have cl := isI_low ci
    by_cases hg : (0 ≤ nth (xsOf k) i ∧ nth (xsOf k) i < (xsOf v).length) ∧ inX ((xsOf k).take i) (nth (xsOf k) i) = false
    · have hj2 : ∀ j, j < i + 1 → (0 ≤ nth (xsOf k) j ∧ nth (xsOf k) j < (xsOf v).length) ∧ inX ((xsOf k).take j) (nth (xsOf k) j) = false := fun j hj9 => by
        by_cases e : j = i
        · subst e; exact hg
        · exact hj j (by omega)
      obtain ⟨⟨g1, g2⟩, g3⟩ := hg
      have g4 : nth (xsOf k) i ≤ (xsOf v).length - 1 := by omega
      have g5 : (decide (0 ≤ nth (xsOf k) i) && decide (nth (xsOf k) i ≤ (xsOf v).length - 1)) = true := by simp [g1, g4]
      clear hj
      repeat' (first | (apply brI <;> intro hb hb2 <;> (try simp [-Int.not_le, -Int.not_lt, -Nat.not_le, -Nat.not_lt, -Nat.add_left_cancel_iff] at hb2)) | (refine draw_listA (by rfl) (by kernel_rfl) ?_) | (refine draw_listB (by simp [allocsOf, isAlloc]; rfl) (by kernel_rfl) ?_) | simp (maxSteps := 2000000) (disch := first | omega | assumption | simp [*]) [*, -Int.not_le, -Int.not_lt, -Nat.not_le, -Nat.not_lt, -Nat.add_left_cancel_iff, wrap_i64, wrap_u64, h5, h1, h2, isI_cells hv, isI_one hv, isI_low hv, isI_len hv, isI_len hk, isI_index hk, isI_load hk, cutI_slice hk])
      all_goals first | exact hj2 | skip
    · have hno : decide (KnoC n (xsOf v) (xsOf k)) = false := decide_eq_false fun h => hg (h.2 i hi2)
      rw [hno]
      clear hj hno
      by_cases g1 : 0 ≤ nth (xsOf k) i ∧ nth (xsOf k) i < (xsOf v).length
      · have g3 : inX ((xsOf k).take i) (nth (xsOf k) i) = true := by
          cases h : inX ((xsOf k).take i) (nth (xsOf k) i) with
          | true => rfl
          | false => exact absurd ⟨g1, h⟩ hg
        have g5 : (decide (0 ≤ nth (xsOf k) i) && decide (nth (xsOf k) i ≤ (xsOf v).length - 1)) = true := by simp; omega
        clear hg
        repeat' (first | (apply brI <;> intro hb hb2 <;> (try simp [-Int.not_le, -Int.not_lt, -Nat.not_le, -Nat.not_lt, -Nat.add_left_cancel_iff] at hb2)) | (refine draw_listA (by rfl) (by kernel_rfl) ?_) | (refine draw_listB (by simp [allocsOf, isAlloc]; rfl) (by kernel_rfl) ?_) | simp (maxSteps := 2000000) (disch := first | omega | assumption | simp [*]) [*, -Int.not_le, -Int.not_lt, -Nat.not_le, -Nat.not_lt, -Nat.add_left_cancel_iff, wrap_i64, wrap_u64, h5, h1, h2, isI_cells hv, isI_one hv, isI_low hv, isI_len hv, isI_len hk, isI_index hk, isI_load hk, cutI_slice hk])
      · have g5 : (decide (0 ≤ nth (xsOf k) i) && decide (nth (xsOf k) i ≤ (xsOf v).length - 1)) = false := by
          rw [Bool.eq_false_iff]; intro h; simp only [Bool.and_eq_true, decide_eq_true_eq] at h; exact g1 ⟨h.1, by omega⟩
        clear hg
        repeat' (first | (apply brI <;> intro hb hb2 <;> (try simp [-Int.not_le, -Int.not_lt, -Nat.not_le, -Nat.not_lt, -Nat.add_left_cancel_iff] at hb2)) | (refine draw_listA (by rfl) (by kernel_rfl) ?_) | (refine draw_listB (by simp [allocsOf, isAlloc]; rfl) (by kernel_rfl) ?_) | simp (maxSteps := 2000000) (disch := first | omega | assumption | simp [*]) [*, -Int.not_le, -Int.not_lt, -Nat.not_le, -Nat.not_lt, -Nat.add_left_cancel_iff, wrap_i64, wrap_u64, h5, h1, h2, isI_cells hv, isI_one hv, isI_low hv, isI_len hv, isI_len hk, isI_index hk, isI_load hk, cutI_slice hk])
  · obtain rfl : i = (xsOf k).length := by omega
    have hyes : decide (KnoC n (xsOf v) (xsOf k)) = decide (PCtx n (xsOf v)) := by
      rw [Bool.eq_iff_iff, decide_eq_true_iff, decide_eq_true_iff]
      exact ⟨fun h => h.1, fun h => ⟨h, hj⟩⟩
    rw [hyes]
    clear hj hyes
    repeat' (first | (apply brI <;> intro hb hb2 <;> (try simp [-Int.not_le, -Int.not_lt, -Nat.not_le, -Nat.not_lt, -Nat.add_left_cancel_iff] at hb2)) | (refine draw_listA (by rfl) (by kernel_rfl) ?_) | (refine draw_listB (by simp [allocsOf, isAlloc]; rfl) (by kernel_rfl) ?_) | simp (maxSteps := 2000000) (disch := first | omega | assumption | simp [*]) [*, -Int.not_le, -Int.not_lt, -Nat.not_le, -Nat.not_lt, -Nat.add_left_cancel_iff, wrap_i64, wrap_u64, h5, h1, h2, isI_cells hv, isI_one hv, isI_low hv, isI_len hv, isI_len hk])
theorem l14Known_s {n : Int} {v k : AV} (hv : IsI v) (hk : IsI k) (hl : (xsOf v).length ≤ 1048576) {K : AV → Prop} {tg : Tg K} : CW env 44 [.agg [.int .i64 n, v], k] K tg ↔ K (.bool (decide (KnoC n (xsOf v) (xsOf k)))) := callsTo_iff (l14Known_c hv hk hl)
attribute [simp] l14Known_s
end Go.Proofs.YtlglhokpaplifaaGreatDoor
