/- XIrrP XIrr, joined. Conditions: none. -/
import Derived.Test.YtliecnadoklgoaaGreatDoorLatP
import Derived.Test.YtliecnadoklgoaaGreatDoorCmpl
/- Neighbours in the lattice: plain Lean. Conditions: none. -/
namespace Go.Proofs.YtliecnadoklgoaaGreatDoor
open Ev
set_option linter.unusedVariables false
set_option linter.unusedSimpArgs false

def undB (F : List Int) (a b : Nat) : Bool := decide (a ≠ b) && PSub (nth F a) (nth F b)
/-- b covers a -/
def covB (F : List Int) (a b : Nat) : Bool := undB F a b && (List.range F.length).all fun x => !(undB F a x && undB F x b)
def srtB (F : List Int) (up : Bool) (a b : Nat) : Bool := if up then PSub (nth F a) (nth F b) else PSub (nth F b) (nth F a)
def fineB (F : List Int) (up : Bool) (a b k : Nat) : Bool := decide (k = a) || decide (k = b) || !srtB F up a k || !srtB F up k b
/-- the reference's neighbour -/
def nbB (F : List Int) (up : Bool) (a b : Nat) : Bool := decide (b ≠ a) && srtB F up a b && (List.range F.length).all fun k => fineB F up a b k
theorem ne_dec (a b : Nat) : decide (a ≠ b) = !decide (b = a) := by
  by_cases h : b = a
  · subst h; simp
  · have h2 : a ≠ b := fun e => h e.symm
    simp [h, h2]
theorem ne_dec2 (a b : Nat) : decide (a ≠ b) = !decide (a = b) := by simp
theorem nb_up (F : List Int) (a b : Nat) : nbB F true a b = covB F a b := by
  unfold nbB covB undB
  have h : ((List.range F.length).all fun k => fineB F true a b k) = (List.range F.length).all fun x => !(decide (a ≠ x) && PSub (nth F a) (nth F x) && (decide (x ≠ b) && PSub (nth F x) (nth F b))) := by
    congr 1
    funext x
    unfold fineB srtB
    rw [ne_dec a x, ne_dec2 x b]
    simp only [if_true]
    cases decide (x = a) <;> cases decide (x = b) <;> cases PSub (nth F a) (nth F x) <;> cases PSub (nth F x) (nth F b) <;> rfl
  rw [h, ne_dec b a, ← ne_dec2 a b]
  rfl
theorem nb_down (F : List Int) (a b : Nat) : nbB F false a b = covB F b a := by
  unfold nbB covB undB
  have h : ((List.range F.length).all fun k => fineB F false a b k) = (List.range F.length).all fun x => !(decide (b ≠ x) && PSub (nth F b) (nth F x) && (decide (x ≠ a) && PSub (nth F x) (nth F a))) := by
    congr 1
    funext x
    unfold fineB srtB
    rw [ne_dec b x, ne_dec2 x a]
    simp only [Bool.false_eq_true, if_false]
    cases decide (x = a) <;> cases decide (x = b) <;> cases PSub (nth F b) (nth F x) <;> cases PSub (nth F x) (nth F a) <;> rfl
  rw [h]
  rfl
def nbL (F : List Int) (up : Bool) (a : Nat) : List Int := selTo (nbB F up a) F.length
def irrB (F : List Int) (up : Bool) (a : Nat) : Bool := decide ((nbL F up a).length = 1)
noncomputable def irrL (n : Int) (xs : List Int) (up : Bool) : List Int := selTo (irrB (fsts (conW n xs)) up) (conL n xs).length
theorem irrL_len (n : Int) (xs : List Int) (up : Bool) : (irrL n xs up).length ≤ 64 := Nat.le_trans (selTo_len _ _) (conL_len _ _)
end Go.Proofs.YtliecnadoklgoaaGreatDoor
/- Irreducible concepts: both sides. Conditions: none. -/
namespace Go.Proofs.YtliecnadoklgoaaGreatDoor
open Ev
set_option linter.unusedVariables false
set_option linter.unusedSimpArgs false
set_option maxHeartbeats 4000000

theorem under_c {v : AV} {a b : Nat} (hP : IsP v) (hl : (fsts v).length ≤ 64) (ha : a < (fsts v).length) (hb : b < (fsts v).length) (h : SetsP (fsts v)) : EvC env 233 [v, .int .i64 a, .int .i64 b] (.bool (undB (fsts v) a b)) := by
  refine evC_of (F := Tryz.f233) rfl rfl (Nat.le_of_ble_eq_true rfl) ?_
  have hbl : ∀ (K : AV → Prop) (tg : Tg K), CW env 92 [v, .int .i64 a, .int .i64 b] K tg ↔ K (.bool (PSub (nth (fsts v) a) (nth (fsts v) b))) := fun K tg => callsTo_iff (below_c hP ha hb h)
  clear h
  by_cases e : a = b
  · have hu : undB (fsts v) a b = false := by simp [undB, e]
    subst e
    repeat' (first | (apply brI <;> intro hb hb2 <;> (try simp [-Int.not_le, -Int.not_lt, -Nat.not_le, -Nat.not_lt, -Nat.add_left_cancel_iff] at hb2)) | (refine draw_listA (by rfl) (by kernel_rfl) ?_) | (refine draw_listB (by simp [allocsOf, isAlloc]; rfl) (by kernel_rfl) ?_) | simp (maxSteps := 2000000) (disch := first | omega | assumption | simp [*]) [*, -Int.not_le, -Int.not_lt, -Nat.not_le, -Nat.not_lt, -Nat.add_left_cancel_iff, wrap_i64, wrap_u64, Tryz.f233, isP_low hP])
  · have hu : undB (fsts v) a b = PSub (nth (fsts v) a) (nth (fsts v) b) := by simp [undB, e]
    have he : ¬ (a : Int) = b := by omega
    repeat' (first | (apply brI <;> intro hb hb2 <;> (try simp [-Int.not_le, -Int.not_lt, -Nat.not_le, -Nat.not_lt, -Nat.add_left_cancel_iff] at hb2)) | (refine draw_listA (by rfl) (by kernel_rfl) ?_) | (refine draw_listB (by simp [allocsOf, isAlloc]; rfl) (by kernel_rfl) ?_) | simp (maxSteps := 2000000) (disch := first | omega | assumption | simp [*]) [*, -Int.not_le, -Int.not_lt, -Nat.not_le, -Nat.not_lt, -Nat.add_left_cancel_iff, wrap_i64, wrap_u64, Tryz.f233, isP_low hP])
theorem under_s {v : AV} {a b : Nat} (hP : IsP v) (hl : (fsts v).length ≤ 64) (ha : a < (fsts v).length) (hb : b < (fsts v).length) (h : SetsP (fsts v)) {K : AV → Prop} {tg : Tg K} : CW env 233 [v, .int .i64 a, .int .i64 b] K tg ↔ K (.bool (undB (fsts v) a b)) := callsTo_iff (under_c hP hl ha hb h)
attribute [simp] under_s
theorem cov_no {F : List Int} {a b x : Nat} (hx : x < F.length) (h : undB F a x = true) (h2 : undB F x b = true) : covB F a b = false := by
  unfold covB
  have : ((List.range F.length).all fun x => !(undB F a x && undB F x b)) = false := by
    rw [List.all_eq_false]
    exact ⟨x, List.mem_range.2 hx, by simp [h, h2]⟩
  rw [this, Bool.and_false]
theorem cov_yes {F : List Int} {a b : Nat} (h : undB F a b = true) (h2 : ∀ x, x < F.length → (undB F a x && undB F x b) = false) : covB F a b = true := by
  unfold covB
  rw [h, Bool.true_and, List.all_eq_true]
  intro x hx
  rw [h2 x (List.mem_range.1 hx)]; rfl
theorem covers_c {v : AV} {a b : Nat} (hP : IsP v) (hl : (fsts v).length ≤ 64) (ha : a < (fsts v).length) (hb : b < (fsts v).length) (h : SetsP (fsts v)) : EvC env 193 [v, .int .i64 a, .int .i64 b] (.bool (covB (fsts v) a b)) := by
  refine evC_of (F := Tryz.f193) rfl rfl (Nat.le_of_ble_eq_true rfl) ?_
  have hun : ∀ (x y : Nat) (K : AV → Prop) (tg : Tg K), x < (fsts v).length → y < (fsts v).length → (CW env 233 [v, .int .i64 x, .int .i64 y] K tg ↔ K (.bool (undB (fsts v) x y))) := fun x y K tg hx hy => callsTo_iff (under_c hP hl hx hy h)
  clear h
  cases hab : undB (fsts v) a b with
  | false =>
    have hc : covB (fsts v) a b = false := by unfold covB; rw [hab, Bool.false_and]
    repeat' (first | (apply brI <;> intro hb hb2 <;> (try simp [-Int.not_le, -Int.not_lt, -Nat.not_le, -Nat.not_lt, -Nat.add_left_cancel_iff] at hb2)) | (refine draw_listA (by rfl) (by kernel_rfl) ?_) | (refine draw_listB (by simp [allocsOf, isAlloc]; rfl) (by kernel_rfl) ?_) | simp (maxSteps := 2000000) (disch := first | omega | assumption | simp [*]) [*, -Int.not_le, -Int.not_lt, -Nat.not_le, -Nat.not_lt, -Nat.add_left_cancel_iff, wrap_i64, wrap_u64, Tryz.f193, isP_low hP, isP_len hP])
  | true =>
    repeat' (first | (apply brI <;> intro hb hb2 <;> (try simp [-Int.not_le, -Int.not_lt, -Nat.not_le, -Nat.not_lt, -Nat.add_left_cancel_iff] at hb2)) | (refine draw_listA (by rfl) (by kernel_rfl) ?_) | (refine draw_listB (by simp [allocsOf, isAlloc]; rfl) (by kernel_rfl) ?_) | simp (maxSteps := 2000000) (disch := first | omega | assumption | simp [*]) [*, -Int.not_le, -Int.not_lt, -Nat.not_le, -Nat.not_lt, -Nat.add_left_cancel_iff, wrap_i64, wrap_u64, Tryz.f193, isP_low hP, isP_len hP])
    refine W_loopP (fsts v).length (fun i s => s 15 = .int .i64 i ∧ s 14 = .int .i64 (fsts v).length ∧ s 0 = v ∧ s 1 = .int .i64 a ∧ s 2 = .int .i64 b ∧ ∀ x, x < i → (undB (fsts v) a x && undB (fsts v) x b) = false) rfl ?_ ?_
    · simp [*]
    rintro i s hi ⟨h15, h14, h0, h1, h2, hA⟩
    by_cases hi2 : i < (fsts v).length
    · cases h3 : undB (fsts v) a i with
      | false =>
        have hA2 : ∀ x, x < i + 1 → (undB (fsts v) a x && undB (fsts v) x b) = false := fun x hx => by
          by_cases e : x = i
          · subst e; rw [h3]; rfl
          · exact hA x (by omega)
        clear hA
        repeat' (first | (apply brI <;> intro hb hb2 <;> (try simp [-Int.not_le, -Int.not_lt, -Nat.not_le, -Nat.not_lt, -Nat.add_left_cancel_iff] at hb2)) | (refine draw_listA (by rfl) (by kernel_rfl) ?_) | (refine draw_listB (by simp [allocsOf, isAlloc]; rfl) (by kernel_rfl) ?_) | simp (maxSteps := 2000000) (disch := first | omega | assumption | simp [*]) [*, -Int.not_le, -Int.not_lt, -Nat.not_le, -Nat.not_lt, -Nat.add_left_cancel_iff, wrap_i64, wrap_u64, h15, h14, h0, h1, h2, isP_low hP, isP_len hP])
        intro x hx h5
        have h6 := hA2 x hx
        rw [h5, Bool.true_and] at h6; exact h6
      | true =>
        cases h4 : undB (fsts v) i b with
        | false =>
          have hA2 : ∀ x, x < i + 1 → (undB (fsts v) a x && undB (fsts v) x b) = false := fun x hx => by
            by_cases e : x = i
            · subst e; rw [h4, Bool.and_false]
            · exact hA x (by omega)
          clear hA
          repeat' (first | (apply brI <;> intro hb hb2 <;> (try simp [-Int.not_le, -Int.not_lt, -Nat.not_le, -Nat.not_lt, -Nat.add_left_cancel_iff] at hb2)) | (refine draw_listA (by rfl) (by kernel_rfl) ?_) | (refine draw_listB (by simp [allocsOf, isAlloc]; rfl) (by kernel_rfl) ?_) | simp (maxSteps := 2000000) (disch := first | omega | assumption | simp [*]) [*, -Int.not_le, -Int.not_lt, -Nat.not_le, -Nat.not_lt, -Nat.add_left_cancel_iff, wrap_i64, wrap_u64, h15, h14, h0, h1, h2, isP_low hP, isP_len hP])
          intro x hx h5
          have h6 := hA2 x hx
          rw [h5, Bool.true_and] at h6; exact h6
        | true =>
          have hno := cov_no hi2 h3 h4
          clear hA
          repeat' (first | (apply brI <;> intro hb hb2 <;> (try simp [-Int.not_le, -Int.not_lt, -Nat.not_le, -Nat.not_lt, -Nat.add_left_cancel_iff] at hb2)) | (refine draw_listA (by rfl) (by kernel_rfl) ?_) | (refine draw_listB (by simp [allocsOf, isAlloc]; rfl) (by kernel_rfl) ?_) | simp (maxSteps := 2000000) (disch := first | omega | assumption | simp [*]) [*, -Int.not_le, -Int.not_lt, -Nat.not_le, -Nat.not_lt, -Nat.add_left_cancel_iff, wrap_i64, wrap_u64, h15, h14, h0, h1, h2, isP_low hP, isP_len hP])
    · obtain rfl : i = (fsts v).length := by omega
      have hyes := cov_yes hab hA
      clear hA
      repeat' (first | (apply brI <;> intro hb hb2 <;> (try simp [-Int.not_le, -Int.not_lt, -Nat.not_le, -Nat.not_lt, -Nat.add_left_cancel_iff] at hb2)) | (refine draw_listA (by rfl) (by kernel_rfl) ?_) | (refine draw_listB (by simp [allocsOf, isAlloc]; rfl) (by kernel_rfl) ?_) | simp (maxSteps := 2000000) (disch := first | omega | assumption | simp [*]) [*, -Int.not_le, -Int.not_lt, -Nat.not_le, -Nat.not_lt, -Nat.add_left_cancel_iff, wrap_i64, wrap_u64, h15, h14, h0, h1, h2, isP_low hP, isP_len hP])
theorem covers_s {v : AV} {a b : Nat} (hP : IsP v) (hl : (fsts v).length ≤ 64) (ha : a < (fsts v).length) (hb : b < (fsts v).length) (h : SetsP (fsts v)) {K : AV → Prop} {tg : Tg K} : CW env 193 [v, .int .i64 a, .int .i64 b] K tg ↔ K (.bool (covB (fsts v) a b)) := callsTo_iff (covers_c hP hl ha hb h)
attribute [simp] covers_s
theorem upper1_c {v : AV} {x a : Nat} (hP : IsP v) (hl : (fsts v).length ≤ 64) (hx : x < (fsts v).length) (ha : a < (fsts v).length) (h : SetsP (fsts v)) : EvC env 194 [.int .i64 x, .cp true [v] 0, .cp true [.int .i64 a] 0] (.bool (covB (fsts v) a x)) := by
  refine evC_of (F := Tryz.f194) rfl rfl (Nat.le_of_ble_eq_true rfl) ?_
  have hco : ∀ (K : AV → Prop) (tg : Tg K), CW env 193 [v, .int .i64 a, .int .i64 x] K tg ↔ K (.bool (covB (fsts v) a x)) := fun K tg => callsTo_iff (covers_c hP hl ha hx h)
  clear h
  repeat' (first | (apply brI <;> intro hb hb2 <;> (try simp [-Int.not_le, -Int.not_lt, -Nat.not_le, -Nat.not_lt, -Nat.add_left_cancel_iff] at hb2)) | (refine draw_listA (by rfl) (by kernel_rfl) ?_) | (refine draw_listB (by simp [allocsOf, isAlloc]; rfl) (by kernel_rfl) ?_) | simp (maxSteps := 2000000) (disch := first | omega | assumption | simp [*]) [*, -Int.not_le, -Int.not_lt, -Nat.not_le, -Nat.not_lt, -Nat.add_left_cancel_iff, wrap_i64, wrap_u64, Tryz.f194, isP_low hP, isP_low0 hP, isP_cells hP, isP_one hP, isP_noKey hP])
theorem upper1_s {v : AV} {x a : Nat} (hP : IsP v) (hl : (fsts v).length ≤ 64) (hx : x < (fsts v).length) (ha : a < (fsts v).length) (h : SetsP (fsts v)) {K : AV → Prop} {tg : Tg K} : CW env 194 [.int .i64 x, .cp true [v] 0, .cp true [.int .i64 a] 0] K tg ↔ K (.bool (covB (fsts v) a x)) := callsTo_iff (upper1_c hP hl hx ha h)
attribute [simp] upper1_s
theorem lower1_c {v : AV} {x a : Nat} (hP : IsP v) (hl : (fsts v).length ≤ 64) (hx : x < (fsts v).length) (ha : a < (fsts v).length) (h : SetsP (fsts v)) : EvC env 192 [.int .i64 x, .cp true [v] 0, .cp true [.int .i64 a] 0] (.bool (covB (fsts v) x a)) := by
  refine evC_of (F := Tryz.f192) rfl rfl (Nat.le_of_ble_eq_true rfl) ?_
  have hco : ∀ (K : AV → Prop) (tg : Tg K), CW env 193 [v, .int .i64 x, .int .i64 a] K tg ↔ K (.bool (covB (fsts v) x a)) := fun K tg => callsTo_iff (covers_c hP hl hx ha h)
  clear h
  repeat' (first | (apply brI <;> intro hb hb2 <;> (try simp [-Int.not_le, -Int.not_lt, -Nat.not_le, -Nat.not_lt, -Nat.add_left_cancel_iff] at hb2)) | (refine draw_listA (by rfl) (by kernel_rfl) ?_) | (refine draw_listB (by simp [allocsOf, isAlloc]; rfl) (by kernel_rfl) ?_) | simp (maxSteps := 2000000) (disch := first | omega | assumption | simp [*]) [*, -Int.not_le, -Int.not_lt, -Nat.not_le, -Nat.not_lt, -Nat.add_left_cancel_iff, wrap_i64, wrap_u64, Tryz.f192, isP_low hP, isP_low0 hP, isP_cells hP, isP_one hP, isP_noKey hP])
theorem lower1_s {v : AV} {x a : Nat} (hP : IsP v) (hl : (fsts v).length ≤ 64) (hx : x < (fsts v).length) (ha : a < (fsts v).length) (h : SetsP (fsts v)) {K : AV → Prop} {tg : Tg K} : CW env 192 [.int .i64 x, .cp true [v] 0, .cp true [.int .i64 a] 0] K tg ↔ K (.bool (covB (fsts v) x a)) := callsTo_iff (lower1_c hP hl hx ha h)
attribute [simp] lower1_s
theorem upper_c {v : AV} {a : Nat} (hP : IsP v) (hl : (fsts v).length ≤ 64) (ha : a < (fsts v).length) (h : SetsP (fsts v)) : EvC env 98 [v, .int .i64 a] (bufC 1 (nbL (fsts v) true a)) := by
  refine evC_of (F := Tryz.f98) rfl rfl (Nat.le_of_ble_eq_true rfl) ?_
  have e : nbL (fsts v) true a = selTo (fun x => covB (fsts v) a x) (fsts v).length := selTo_congr fun i _ => nb_up ..
  rw [e]
  have hcs : ∀ (K : AV → Prop) (tg : Tg K), CW env 94 [v, .fn 194 [.cp true [v] 0, .cp true [.int .i64 a] 0]] K tg ↔ K (bufR 3 19 1 (selTo (fun x => covB (fsts v) a x) (fsts v).length)) :=
    fun K tg => callsTo_iff (chosen_c hP hl rfl rfl (fun h => by simp [isP_low hP, isP_low0 hP]) fun i hi => upper1_c hP hl hi ha h)
  clear h
  repeat' (first | (apply brI <;> intro hb hb2 <;> (try simp [-Int.not_le, -Int.not_lt, -Nat.not_le, -Nat.not_lt, -Nat.add_left_cancel_iff] at hb2)) | (refine draw_listA (by rfl) (by kernel_rfl) ?_) | (refine draw_listB (by simp [allocsOf, isAlloc]; rfl) (by kernel_rfl) ?_) | simp (maxSteps := 2000000) (disch := first | omega | assumption | simp [*]) [*, -Int.not_le, -Int.not_lt, -Nat.not_le, -Nat.not_lt, -Nat.add_left_cancel_iff, wrap_i64, wrap_u64, Tryz.f98, isP_low hP, isP_low0 hP, isP_cells hP, isP_one hP, isP_noKey hP])
theorem upper_s {v : AV} {a : Nat} (hP : IsP v) (hl : (fsts v).length ≤ 64) (ha : a < (fsts v).length) (h : SetsP (fsts v)) {K : AV → Prop} {tg : Tg K} : CW env 98 [v, .int .i64 a] K tg ↔ K (bufC 1 (nbL (fsts v) true a)) := callsTo_iff (upper_c hP hl ha h)
attribute [simp] upper_s
theorem lower_c {v : AV} {a : Nat} (hP : IsP v) (hl : (fsts v).length ≤ 64) (ha : a < (fsts v).length) (h : SetsP (fsts v)) : EvC env 96 [v, .int .i64 a] (bufC 1 (nbL (fsts v) false a)) := by
  refine evC_of (F := Tryz.f96) rfl rfl (Nat.le_of_ble_eq_true rfl) ?_
  have e : nbL (fsts v) false a = selTo (fun x => covB (fsts v) x a) (fsts v).length := selTo_congr fun i _ => nb_down ..
  rw [e]
  have hcs : ∀ (K : AV → Prop) (tg : Tg K), CW env 94 [v, .fn 192 [.cp true [v] 0, .cp true [.int .i64 a] 0]] K tg ↔ K (bufR 3 19 1 (selTo (fun x => covB (fsts v) x a) (fsts v).length)) :=
    fun K tg => callsTo_iff (chosen_c hP hl rfl rfl (fun h => by simp [isP_low hP, isP_low0 hP]) fun i hi => lower1_c hP hl hi ha h)
  clear h
  repeat' (first | (apply brI <;> intro hb hb2 <;> (try simp [-Int.not_le, -Int.not_lt, -Nat.not_le, -Nat.not_lt, -Nat.add_left_cancel_iff] at hb2)) | (refine draw_listA (by rfl) (by kernel_rfl) ?_) | (refine draw_listB (by simp [allocsOf, isAlloc]; rfl) (by kernel_rfl) ?_) | simp (maxSteps := 2000000) (disch := first | omega | assumption | simp [*]) [*, -Int.not_le, -Int.not_lt, -Nat.not_le, -Nat.not_lt, -Nat.add_left_cancel_iff, wrap_i64, wrap_u64, Tryz.f96, isP_low hP, isP_low0 hP, isP_cells hP, isP_one hP, isP_noKey hP])
theorem lower_s {v : AV} {a : Nat} (hP : IsP v) (hl : (fsts v).length ≤ 64) (ha : a < (fsts v).length) (h : SetsP (fsts v)) {K : AV → Prop} {tg : Tg K} : CW env 96 [v, .int .i64 a] K tg ↔ K (bufC 1 (nbL (fsts v) false a)) := callsTo_iff (lower_c hP hl ha h)
attribute [simp] lower_s
theorem nbL_len (F : List Int) (up : Bool) (a : Nat) : (nbL F up a).length ≤ F.length := selTo_len _ _
theorem lowerIr1_c {v : AV} {x : Nat} (hP : IsP v) (hl : (fsts v).length ≤ 64) (hx : x < (fsts v).length) (h : SetsP (fsts v)) : EvC env 95 [.int .i64 x, .cp true [v] 0] (.bool (irrB (fsts v) false x)) := by
  refine evC_of (F := Tryz.f95) rfl rfl (Nat.le_of_ble_eq_true rfl) ?_
  have hco : ∀ (K : AV → Prop) (tg : Tg K), CW env 96 [v, .int .i64 x] K tg ↔ K (bufC 1 (nbL (fsts v) false x)) := fun K tg => callsTo_iff (lower_c hP hl hx h)
  have hnl := nbL_len (fsts v) false x
  have hI : IsI (bufC 1 (nbL (fsts v) false x)) := isI_bufC (by unfold top63; omega)
  clear h
  repeat' (first | (apply brI <;> intro hb hb2 <;> (try simp [-Int.not_le, -Int.not_lt, -Nat.not_le, -Nat.not_lt, -Nat.add_left_cancel_iff] at hb2)) | (refine draw_listA (by rfl) (by kernel_rfl) ?_) | (refine draw_listB (by simp [allocsOf, isAlloc]; rfl) (by kernel_rfl) ?_) | simp (maxSteps := 2000000) (disch := first | omega | assumption | simp [*]) [*, -Int.not_le, -Int.not_lt, -Nat.not_le, -Nat.not_lt, -Nat.add_left_cancel_iff, wrap_i64, wrap_u64, Tryz.f95, isP_low hP, isP_low0 hP, isP_cells hP, isP_one hP, isP_noKey hP, isI_len hI])
  unfold irrB
  rw [Bool.eq_iff_iff]; simp
  all_goals omega
theorem lowerIr1_s {v : AV} {x : Nat} (hP : IsP v) (hl : (fsts v).length ≤ 64) (hx : x < (fsts v).length) (h : SetsP (fsts v)) {K : AV → Prop} {tg : Tg K} : CW env 95 [.int .i64 x, .cp true [v] 0] K tg ↔ K (.bool (irrB (fsts v) false x)) := callsTo_iff (lowerIr1_c hP hl hx h)
attribute [simp] lowerIr1_s
theorem iJoinIrreducibles_c {n : Int} {v : AV} (hv : IsI v) : EvC env 16 [.agg [.int .i64 n, v]] (rowR 1 3 8 (ints (irrL n (xsOf v) false))) := by
  refine evC_of (F := Tryz.f16) rfl rfl (Nat.le_of_ble_eq_true rfl) ?_
  have hP := conW2_P n (xsOf v)
  have hw := iCon_noEx n (xsOf v) 101
  have hfl := conW_len n (xsOf v)
  have hL := conL_len n (xsOf v)
  have hFs := sets_F n (xsOf v)
  unfold irrL
  rw [← conW2_fsts] at hfl hFs ⊢
  rw [← hfl] at hL ⊢
  clear hfl
  generalize conW2 n (xsOf v) = w at *
  have hcs : EvC env 94 [w, .fn 95 [.cp true [w] 0]] (bufR 3 19 1 (selTo (irrB (fsts w) false) (fsts w).length)) :=
    chosen_c hP hL rfl rfl (fun h => by simp [isP_low hP, isP_low0 hP]) fun i hi => lowerIr1_c hP hL hi hFs
  have ow := isP_one hP
  have cw := isP_cells hP
  clear hFs
  repeat' (first | (apply brI <;> intro hb hb2 <;> (try simp [-Int.not_le, -Int.not_lt, -Nat.not_le, -Nat.not_lt, -Nat.add_left_cancel_iff] at hb2)) | (refine draw_listA (by rfl) (by kernel_rfl) ?_) | (refine draw_listB (by simp [allocsOf, isAlloc]; rfl) (by kernel_rfl) ?_) | simp (maxSteps := 2000000) (disch := first | omega | assumption | simp [*]) [*, -Int.not_le, -Int.not_lt, -Nat.not_le, -Nat.not_lt, -Nat.add_left_cancel_iff, wrap_i64, wrap_u64, Tryz.f16, isI_cells hv, isI_one hv, isI_low hv, isP_low hP, isP_low0 hP, isP_cells hP, isP_one hP, isP_noKey hP])
  refine cf_row (by simpa [isP_low hP, isP_low0 hP, isP_cells hP] using hcs) (ownR_buf ..) (by simp) rfl ?_
  intro v2 h2 hR hh
  have o2 := hR.one
  have c2 := hR.cells
  repeat' (first | (apply brI <;> intro hb hb2 <;> (try simp [-Int.not_le, -Int.not_lt, -Nat.not_le, -Nat.not_lt, -Nat.add_left_cancel_iff] at hb2)) | (refine draw_listA (by rfl) (by kernel_rfl) ?_) | (refine draw_listB (by simp [allocsOf, isAlloc]; rfl) (by kernel_rfl) ?_) | simp (maxSteps := 2000000) (disch := first | omega | assumption | simp [*]) [*, -Int.not_le, -Int.not_lt, -Nat.not_le, -Nat.not_lt, -Nat.add_left_cancel_iff, wrap_i64, wrap_u64])
  rw [← rowX_row]
  exact (hR.keep (by simp [hset])).expoI
theorem iJoinIrreducibles_s {n : Int} {v : AV} (hv : IsI v) {K : AV → Prop} {tg : Tg K} : CW env 16 [.agg [.int .i64 n, v]] K tg ↔ K (rowR 1 3 8 (ints (irrL n (xsOf v) false))) := callsTo_iff (iJoinIrreducibles_c hv)
attribute [simp] iJoinIrreducibles_s
theorem upperIr1_c {v : AV} {x : Nat} (hP : IsP v) (hl : (fsts v).length ≤ 64) (hx : x < (fsts v).length) (h : SetsP (fsts v)) : EvC env 97 [.int .i64 x, .cp true [v] 0] (.bool (irrB (fsts v) true x)) := by
  refine evC_of (F := Tryz.f97) rfl rfl (Nat.le_of_ble_eq_true rfl) ?_
  have hco : ∀ (K : AV → Prop) (tg : Tg K), CW env 98 [v, .int .i64 x] K tg ↔ K (bufC 1 (nbL (fsts v) true x)) := fun K tg => callsTo_iff (upper_c hP hl hx h)
  have hnl := nbL_len (fsts v) true x
  have hI : IsI (bufC 1 (nbL (fsts v) true x)) := isI_bufC (by unfold top63; omega)
  clear h
  repeat' (first | (apply brI <;> intro hb hb2 <;> (try simp [-Int.not_le, -Int.not_lt, -Nat.not_le, -Nat.not_lt, -Nat.add_left_cancel_iff] at hb2)) | (refine draw_listA (by rfl) (by kernel_rfl) ?_) | (refine draw_listB (by simp [allocsOf, isAlloc]; rfl) (by kernel_rfl) ?_) | simp (maxSteps := 2000000) (disch := first | omega | assumption | simp [*]) [*, -Int.not_le, -Int.not_lt, -Nat.not_le, -Nat.not_lt, -Nat.add_left_cancel_iff, wrap_i64, wrap_u64, Tryz.f97, isP_low hP, isP_low0 hP, isP_cells hP, isP_one hP, isP_noKey hP, isI_len hI])
  unfold irrB
  rw [Bool.eq_iff_iff]; simp
  all_goals omega
theorem upperIr1_s {v : AV} {x : Nat} (hP : IsP v) (hl : (fsts v).length ≤ 64) (hx : x < (fsts v).length) (h : SetsP (fsts v)) {K : AV → Prop} {tg : Tg K} : CW env 97 [.int .i64 x, .cp true [v] 0] K tg ↔ K (.bool (irrB (fsts v) true x)) := callsTo_iff (upperIr1_c hP hl hx h)
attribute [simp] upperIr1_s
theorem iMeetIrreducibles_c {n : Int} {v : AV} (hv : IsI v) : EvC env 17 [.agg [.int .i64 n, v]] (rowR 1 3 8 (ints (irrL n (xsOf v) true))) := by
  refine evC_of (F := Tryz.f17) rfl rfl (Nat.le_of_ble_eq_true rfl) ?_
  have hP := conW2_P n (xsOf v)
  have hw := iCon_noEx n (xsOf v) 101
  have hfl := conW_len n (xsOf v)
  have hL := conL_len n (xsOf v)
  have hFs := sets_F n (xsOf v)
  unfold irrL
  rw [← conW2_fsts] at hfl hFs ⊢
  rw [← hfl] at hL ⊢
  clear hfl
  generalize conW2 n (xsOf v) = w at *
  have hcs : EvC env 94 [w, .fn 97 [.cp true [w] 0]] (bufR 3 19 1 (selTo (irrB (fsts w) true) (fsts w).length)) :=
    chosen_c hP hL rfl rfl (fun h => by simp [isP_low hP, isP_low0 hP]) fun i hi => upperIr1_c hP hL hi hFs
  have ow := isP_one hP
  have cw := isP_cells hP
  clear hFs
  repeat' (first | (apply brI <;> intro hb hb2 <;> (try simp [-Int.not_le, -Int.not_lt, -Nat.not_le, -Nat.not_lt, -Nat.add_left_cancel_iff] at hb2)) | (refine draw_listA (by rfl) (by kernel_rfl) ?_) | (refine draw_listB (by simp [allocsOf, isAlloc]; rfl) (by kernel_rfl) ?_) | simp (maxSteps := 2000000) (disch := first | omega | assumption | simp [*]) [*, -Int.not_le, -Int.not_lt, -Nat.not_le, -Nat.not_lt, -Nat.add_left_cancel_iff, wrap_i64, wrap_u64, Tryz.f17, isI_cells hv, isI_one hv, isI_low hv, isP_low hP, isP_low0 hP, isP_cells hP, isP_one hP, isP_noKey hP])
  refine cf_row (by simpa [isP_low hP, isP_low0 hP, isP_cells hP] using hcs) (ownR_buf ..) (by simp) rfl ?_
  intro v2 h2 hR hh
  have o2 := hR.one
  have c2 := hR.cells
  repeat' (first | (apply brI <;> intro hb hb2 <;> (try simp [-Int.not_le, -Int.not_lt, -Nat.not_le, -Nat.not_lt, -Nat.add_left_cancel_iff] at hb2)) | (refine draw_listA (by rfl) (by kernel_rfl) ?_) | (refine draw_listB (by simp [allocsOf, isAlloc]; rfl) (by kernel_rfl) ?_) | simp (maxSteps := 2000000) (disch := first | omega | assumption | simp [*]) [*, -Int.not_le, -Int.not_lt, -Nat.not_le, -Nat.not_lt, -Nat.add_left_cancel_iff, wrap_i64, wrap_u64])
  rw [← rowX_row]
  exact (hR.keep (by simp [hset])).expoI
theorem iMeetIrreducibles_s {n : Int} {v : AV} (hv : IsI v) {K : AV → Prop} {tg : Tg K} : CW env 17 [.agg [.int .i64 n, v]] K tg ↔ K (rowR 1 3 8 (ints (irrL n (xsOf v) true))) := callsTo_iff (iMeetIrreducibles_c hv)
attribute [simp] iMeetIrreducibles_s
theorem l6Sorted_c {v : AV} {a b : Nat} {up : Bool} (hP : IsP v) (ha : a < (fsts v).length) (hb : b < (fsts v).length) (h : SetsP (fsts v)) : EvC env 235 [v, .int .i64 a, .int .i64 b, .bool up] (.bool (srtB (fsts v) up a b)) := by
  refine evC_of (F := Tryz.f235) rfl rfl (Nat.le_of_ble_eq_true rfl) ?_
  have ra := h a ha
  have rb := h b hb
  clear h
  cases up <;> repeat' (first | (apply brI <;> intro hb hb2 <;> (try simp [-Int.not_le, -Int.not_lt, -Nat.not_le, -Nat.not_lt, -Nat.add_left_cancel_iff] at hb2)) | (refine draw_listA (by rfl) (by kernel_rfl) ?_) | (refine draw_listB (by simp [allocsOf, isAlloc]; rfl) (by kernel_rfl) ?_) | simp (maxSteps := 2000000) (disch := first | omega | assumption | simp [*]) [*, -Int.not_le, -Int.not_lt, -Nat.not_le, -Nat.not_lt, -Nat.add_left_cancel_iff, wrap_i64, wrap_u64, Tryz.f235, isP_low hP, isP_index hP, isP_noKey hP, srtB])
theorem l6Sorted_s {v : AV} {a b : Nat} {up : Bool} (hP : IsP v) (ha : a < (fsts v).length) (hb : b < (fsts v).length) (h : SetsP (fsts v)) {K : AV → Prop} {tg : Tg K} : CW env 235 [v, .int .i64 a, .int .i64 b, .bool up] K tg ↔ K (.bool (srtB (fsts v) up a b)) := callsTo_iff (l6Sorted_c hP ha hb h)
attribute [simp] l6Sorted_s
def fineTo (F : List Int) (up : Bool) (a b k : Nat) : Bool := (List.range k).all fun k => fineB F up a b k
theorem fineTo_succ (F : List Int) (up : Bool) (a b k : Nat) : fineTo F up a b (k + 1) = (fineTo F up a b k && fineB F up a b k) := by simp [fineTo, List.range_succ]
theorem l6Covers_c {v : AV} {a : Nat} {up : Bool} (hP : IsP v) (hl : (fsts v).length ≤ 64) (ha : a < (fsts v).length) (h : SetsP (fsts v)) : EvC env 198 [v, .int .i64 a, .bool up] (bufR 3 71 1 (nbL (fsts v) up a)) := by
  refine evC_of (F := Tryz.f198) rfl rfl (Nat.le_of_ble_eq_true rfl) ?_
  have ha9 : (a : Int) ≤ ((fsts v).length : Int) - 1 := by omega
  have hso : ∀ (x y : Nat) (K : AV → Prop) (tg : Tg K), x < (fsts v).length → y < (fsts v).length → (CW env 235 [v, .int .i64 x, .int .i64 y, .bool up] K tg ↔ K (.bool (srtB (fsts v) up x y))) := fun x y K tg hx hy => callsTo_iff (l6Sorted_c hP hx hy h)
  unfold nbL
  clear h
  repeat' (first | (apply brI <;> intro hb hb2 <;> (try simp [-Int.not_le, -Int.not_lt, -Nat.not_le, -Nat.not_lt, -Nat.add_left_cancel_iff] at hb2)) | (refine draw_listA (by rfl) (by kernel_rfl) ?_) | (refine draw_listB (by simp [allocsOf, isAlloc]; rfl) (by kernel_rfl) ?_) | simp (maxSteps := 2000000) (disch := first | omega | assumption | simp [*]) [*, -Int.not_le, -Int.not_lt, -Nat.not_le, -Nat.not_lt, -Nat.add_left_cancel_iff, wrap_i64, wrap_u64, Tryz.f198, isP_low hP, isP_len hP])
  refine W_loopG (fsts v).length (fun i s h => s 8 = .int .i64 i ∧ s 0 = v ∧ s 1 = .int .i64 a ∧ s 2 = .bool up ∧ Buf h 3 71 1 (s 7) (selTo (nbB (fsts v) up a) i)) ?_ ?_
  · simp [selTo]; exact buf_nil ..
  rintro i s h hi ⟨h8, h0, h1, h2, hB⟩
  have hsl := selTo_len (nbB (fsts v) up a) i
  by_cases hi2 : i < (fsts v).length
  · have hsu := selTo_succ (nbB (fsts v) up a) i
    by_cases hia : i = a
    · have hnb : nbB (fsts v) up a i = false := by simp [nbB, hia]
      rw [hnb] at hsu
      simp only [Bool.false_eq_true, if_false, List.append_nil] at hsu
      rw [← hsu] at hB
      subst hia
      clear hsu
      repeat' (first | (apply brI <;> intro hb hb2 <;> (try simp [-Int.not_le, -Int.not_lt, -Nat.not_le, -Nat.not_lt, -Nat.add_left_cancel_iff] at hb2)) | (refine draw_listA (by rfl) (by kernel_rfl) ?_) | (refine draw_listB (by simp [allocsOf, isAlloc]; rfl) (by kernel_rfl) ?_) | simp (maxSteps := 2000000) (disch := first | omega | assumption | simp [*]) [*, -Int.not_le, -Int.not_lt, -Nat.not_le, -Nat.not_lt, -Nat.add_left_cancel_iff, wrap_i64, wrap_u64, h8, h0, h1, h2, isP_low hP, isP_len hP])
    · have hia2 : ¬ (i : Int) = a := by omega
      cases hsr : srtB (fsts v) up a i with
      | false =>
        have hnb : nbB (fsts v) up a i = false := by simp [nbB, hsr]
        rw [hnb] at hsu
        simp only [Bool.false_eq_true, if_false, List.append_nil] at hsu
        rw [← hsu] at hB
        clear hsu
        repeat' (first | (apply brI <;> intro hb hb2 <;> (try simp [-Int.not_le, -Int.not_lt, -Nat.not_le, -Nat.not_lt, -Nat.add_left_cancel_iff] at hb2)) | (refine draw_listA (by rfl) (by kernel_rfl) ?_) | (refine draw_listB (by simp [allocsOf, isAlloc]; rfl) (by kernel_rfl) ?_) | simp (maxSteps := 2000000) (disch := first | omega | assumption | simp [*]) [*, -Int.not_le, -Int.not_lt, -Nat.not_le, -Nat.not_lt, -Nat.add_left_cancel_iff, wrap_i64, wrap_u64, h8, h0, h1, h2, isP_low hP, isP_len hP])
      | true =>
        have hnb : nbB (fsts v) up a i = fineTo (fsts v) up a i (fsts v).length := by simp [nbB, hsr, hia, fineTo]
        repeat' (first | (apply brI <;> intro hb hb2 <;> (try simp [-Int.not_le, -Int.not_lt, -Nat.not_le, -Nat.not_lt, -Nat.add_left_cancel_iff] at hb2)) | (refine draw_listA (by rfl) (by kernel_rfl) ?_) | (refine draw_listB (by simp [allocsOf, isAlloc]; rfl) (by kernel_rfl) ?_) | simp (maxSteps := 2000000) (disch := first | omega | assumption | simp [*]) [*, -Int.not_le, -Int.not_lt, -Nat.not_le, -Nat.not_lt, -Nat.add_left_cancel_iff, wrap_i64, wrap_u64, h8, h0, h1, h2, isP_low hP, isP_len hP])
        refine W_loopG (fsts v).length (fun k s2 h2 => h2 = h ∧ s2 10 = .int .i64 k ∧ s2 9 = .bool (fineTo (fsts v) up a i k) ∧ s2 8 = .int .i64 i ∧ s2 0 = v ∧ s2 1 = .int .i64 a ∧ s2 2 = .bool up ∧ s2 7 = s 7) ?_ ?_
        · simp [*, fineTo]
        rintro k s2 h3 hk ⟨rfl, q10, q9, q8, q0, q1, q2, q7⟩
        by_cases hk2 : k < (fsts v).length
        · cases hf : fineTo (fsts v) up a i k with
          | false =>
            have hs : fineTo (fsts v) up a i (k + 1) = false := by rw [fineTo_succ, hf, Bool.false_and]
            repeat' (first | (apply brI <;> intro hb hb2 <;> (try simp [-Int.not_le, -Int.not_lt, -Nat.not_le, -Nat.not_lt, -Nat.add_left_cancel_iff] at hb2)) | (refine draw_listA (by rfl) (by kernel_rfl) ?_) | (refine draw_listB (by simp [allocsOf, isAlloc]; rfl) (by kernel_rfl) ?_) | simp (maxSteps := 2000000) (disch := first | omega | assumption | simp [*]) [*, -Int.not_le, -Int.not_lt, -Nat.not_le, -Nat.not_lt, -Nat.add_left_cancel_iff, wrap_i64, wrap_u64, q10, q9, q8, q0, q1, q2, q7, isP_low hP, isP_len hP])
          | true =>
            by_cases e1 : k = a
            · have hs : fineTo (fsts v) up a i (k + 1) = true := by rw [fineTo_succ, hf]; simp [fineB, e1]
              have e1' : (k : Int) = a := by omega
              clear e1
              repeat' (first | (apply brI <;> intro hb hb2 <;> (try simp [-Int.not_le, -Int.not_lt, -Nat.not_le, -Nat.not_lt, -Nat.add_left_cancel_iff] at hb2)) | (refine draw_listA (by rfl) (by kernel_rfl) ?_) | (refine draw_listB (by simp [allocsOf, isAlloc]; rfl) (by kernel_rfl) ?_) | simp (maxSteps := 2000000) (disch := first | omega | assumption | simp [*]) [*, -Int.not_le, -Int.not_lt, -Nat.not_le, -Nat.not_lt, -Nat.add_left_cancel_iff, wrap_i64, wrap_u64, q10, q9, q8, q0, q1, q2, q7, isP_low hP, isP_len hP])
            · have e1' : ¬ (k : Int) = a := by omega
              by_cases e2 : k = i
              · have hs : fineTo (fsts v) up a i (k + 1) = true := by rw [fineTo_succ, hf]; simp [fineB, e2]
                have e2' : (k : Int) = i := by omega
                clear e2
                repeat' (first | (apply brI <;> intro hb hb2 <;> (try simp [-Int.not_le, -Int.not_lt, -Nat.not_le, -Nat.not_lt, -Nat.add_left_cancel_iff] at hb2)) | (refine draw_listA (by rfl) (by kernel_rfl) ?_) | (refine draw_listB (by simp [allocsOf, isAlloc]; rfl) (by kernel_rfl) ?_) | simp (maxSteps := 2000000) (disch := first | omega | assumption | simp [*]) [*, -Int.not_le, -Int.not_lt, -Nat.not_le, -Nat.not_lt, -Nat.add_left_cancel_iff, wrap_i64, wrap_u64, q10, q9, q8, q0, q1, q2, q7, isP_low hP, isP_len hP])
              · have e2' : ¬ (k : Int) = i := by omega
                cases h3 : srtB (fsts v) up a k with
                | false =>
                  have hs : fineTo (fsts v) up a i (k + 1) = true := by rw [fineTo_succ, hf]; simp [fineB, h3]
                  repeat' (first | (apply brI <;> intro hb hb2 <;> (try simp [-Int.not_le, -Int.not_lt, -Nat.not_le, -Nat.not_lt, -Nat.add_left_cancel_iff] at hb2)) | (refine draw_listA (by rfl) (by kernel_rfl) ?_) | (refine draw_listB (by simp [allocsOf, isAlloc]; rfl) (by kernel_rfl) ?_) | simp (maxSteps := 2000000) (disch := first | omega | assumption | simp [*]) [*, -Int.not_le, -Int.not_lt, -Nat.not_le, -Nat.not_lt, -Nat.add_left_cancel_iff, wrap_i64, wrap_u64, q10, q9, q8, q0, q1, q2, q7, isP_low hP, isP_len hP])
                | true =>
                  cases h4 : srtB (fsts v) up k i with
                  | false =>
                    have hs : fineTo (fsts v) up a i (k + 1) = true := by rw [fineTo_succ, hf]; simp [fineB, h4]
                    repeat' (first | (apply brI <;> intro hb hb2 <;> (try simp [-Int.not_le, -Int.not_lt, -Nat.not_le, -Nat.not_lt, -Nat.add_left_cancel_iff] at hb2)) | (refine draw_listA (by rfl) (by kernel_rfl) ?_) | (refine draw_listB (by simp [allocsOf, isAlloc]; rfl) (by kernel_rfl) ?_) | simp (maxSteps := 2000000) (disch := first | omega | assumption | simp [*]) [*, -Int.not_le, -Int.not_lt, -Nat.not_le, -Nat.not_lt, -Nat.add_left_cancel_iff, wrap_i64, wrap_u64, q10, q9, q8, q0, q1, q2, q7, isP_low hP, isP_len hP])
                  | true =>
                    have hs : fineTo (fsts v) up a i (k + 1) = false := by rw [fineTo_succ, hf]; simp [fineB, h3, h4, e1, e2]
                    repeat' (first | (apply brI <;> intro hb hb2 <;> (try simp [-Int.not_le, -Int.not_lt, -Nat.not_le, -Nat.not_lt, -Nat.add_left_cancel_iff] at hb2)) | (refine draw_listA (by rfl) (by kernel_rfl) ?_) | (refine draw_listB (by simp [allocsOf, isAlloc]; rfl) (by kernel_rfl) ?_) | simp (maxSteps := 2000000) (disch := first | omega | assumption | simp [*]) [*, -Int.not_le, -Int.not_lt, -Nat.not_le, -Nat.not_lt, -Nat.add_left_cancel_iff, wrap_i64, wrap_u64, q10, q9, q8, q0, q1, q2, q7, isP_low hP, isP_len hP])
        · obtain rfl : k = (fsts v).length := by omega
          cases hf : fineTo (fsts v) up a i (fsts v).length with
          | false =>
            rw [hnb, hf] at hsu
            simp only [Bool.false_eq_true, if_false, List.append_nil] at hsu
            rw [← hsu] at hB
            clear hsu
            repeat' (first | (apply brI <;> intro hb hb2 <;> (try simp [-Int.not_le, -Int.not_lt, -Nat.not_le, -Nat.not_lt, -Nat.add_left_cancel_iff] at hb2)) | (refine draw_listA (by rfl) (by kernel_rfl) ?_) | (refine draw_listB (by simp [allocsOf, isAlloc]; rfl) (by kernel_rfl) ?_) | simp (maxSteps := 2000000) (disch := first | omega | assumption | simp [*]) [*, -Int.not_le, -Int.not_lt, -Nat.not_le, -Nat.not_lt, -Nat.add_left_cancel_iff, wrap_i64, wrap_u64, q10, q9, q8, q0, q1, q2, q7, isP_low hP, isP_len hP])
          | true =>
            rw [hnb, hf] at hsu
            simp only [if_true] at hsu
            repeat' (first | (apply brI <;> intro hb hb2 <;> (try simp [-Int.not_le, -Int.not_lt, -Nat.not_le, -Nat.not_lt, -Nat.add_left_cancel_iff] at hb2)) | (refine draw_listA (by rfl) (by kernel_rfl) ?_) | (refine draw_listB (by simp [allocsOf, isAlloc]; rfl) (by kernel_rfl) ?_) | simp (maxSteps := 2000000) (disch := first | omega | assumption | simp [*]) [*, -Int.not_le, -Int.not_lt, -Nat.not_le, -Nat.not_lt, -Nat.add_left_cancel_iff, wrap_i64, wrap_u64, q10, q9, q8, q0, q1, q2, q7, isP_low hP, isP_len hP])
            refine wa_push hB (by simp) (by simp) (by omega) ?_
            intro v2 h2' hB2 hk2'
            rw [← hsu] at hB2
            clear hsu
            repeat' (first | (apply brI <;> intro hb hb2 <;> (try simp [-Int.not_le, -Int.not_lt, -Nat.not_le, -Nat.not_lt, -Nat.add_left_cancel_iff] at hb2)) | (refine draw_listA (by rfl) (by kernel_rfl) ?_) | (refine draw_listB (by simp [allocsOf, isAlloc]; rfl) (by kernel_rfl) ?_) | simp (maxSteps := 2000000) (disch := first | omega | assumption | simp [*]) [*, -Int.not_le, -Int.not_lt, -Nat.not_le, -Nat.not_lt, -Nat.add_left_cancel_iff, wrap_i64, wrap_u64, q10, q9, q8, q0, q1, q2, q7, isP_low hP, isP_len hP])
            exact hB2
  · obtain rfl : i = (fsts v).length := by omega
    repeat' (first | (apply brI <;> intro hb hb2 <;> (try simp [-Int.not_le, -Int.not_lt, -Nat.not_le, -Nat.not_lt, -Nat.add_left_cancel_iff] at hb2)) | (refine draw_listA (by rfl) (by kernel_rfl) ?_) | (refine draw_listB (by simp [allocsOf, isAlloc]; rfl) (by kernel_rfl) ?_) | simp (maxSteps := 2000000) (disch := first | omega | assumption | simp [*]) [*, -Int.not_le, -Int.not_lt, -Nat.not_le, -Nat.not_lt, -Nat.add_left_cancel_iff, wrap_i64, wrap_u64, h8, h0, h1, h2, isP_low hP, isP_len hP])
    exact hB.expo
theorem l6Covers_s {v : AV} {a : Nat} {up : Bool} (hP : IsP v) (hl : (fsts v).length ≤ 64) (ha : a < (fsts v).length) (h : SetsP (fsts v)) {K : AV → Prop} {tg : Tg K} : CW env 198 [v, .int .i64 a, .bool up] K tg ↔ K (bufR 3 71 1 (nbL (fsts v) up a)) := callsTo_iff (l6Covers_c hP hl ha h)
attribute [simp] l6Covers_s
theorem l21Single_c {n : Int} {up : Bool} {v : AV} (hv : IsI v) : EvC env 106 [.agg [.int .i64 n, v], .bool up] (bufR 3 26 1 (irrL n (xsOf v) up)) := by
  refine evC_of (F := Tryz.f106) rfl rfl (Nat.le_of_ble_eq_true rfl) ?_
  have hP := conW_P n (xsOf v)
  have hw := sCon_noEx n (xsOf v) 101
  have hfl := conW_len n (xsOf v)
  have hL := conL_len n (xsOf v)
  have hFs := sets_F n (xsOf v)
  unfold irrL
  rw [← hfl] at hL ⊢
  clear hfl
  generalize conW n (xsOf v) = w at *
  have hco : ∀ (a : Nat) (K : AV → Prop) (tg : Tg K), a < (fsts w).length → (CW env 198 [w, .int .i64 a, .bool up] K tg ↔ K (bufR 3 71 1 (nbL (fsts w) up a))) := fun a K tg ha => callsTo_iff (l6Covers_c hP hL ha hFs)
  have hII : ∀ a, IsI (bufC 1 (nbL (fsts w) up a)) := fun a => isI_bufC (by have := nbL_len (fsts w) up a; unfold top63; omega)
  clear hFs
  repeat' (first | (apply brI <;> intro hb hb2 <;> (try simp [-Int.not_le, -Int.not_lt, -Nat.not_le, -Nat.not_lt, -Nat.add_left_cancel_iff] at hb2)) | (refine draw_listA (by rfl) (by kernel_rfl) ?_) | (refine draw_listB (by simp [allocsOf, isAlloc]; rfl) (by kernel_rfl) ?_) | simp (maxSteps := 2000000) (disch := first | omega | assumption | simp [*]) [*, -Int.not_le, -Int.not_lt, -Nat.not_le, -Nat.not_lt, -Nat.add_left_cancel_iff, wrap_i64, wrap_u64, Tryz.f106, isI_cells hv, isI_one hv, isI_low hv, isP_len hP, isP_low hP])
  refine W_loopG (fsts w).length (fun i s h => s 7 = .int .i64 i ∧ s 6 = w ∧ s 1 = .bool up ∧ Buf h 3 26 1 (s 5) (selTo (irrB (fsts w) up) i)) ?_ ?_
  · simp [*, selTo]; exact buf_nil ..
  rintro i s h hi ⟨h7, h6, h1, hB⟩
  have hsl := selTo_len (irrB (fsts w) up) i
  by_cases hi2 : i < (fsts w).length
  · have hsu := selTo_succ (irrB (fsts w) up) i
    have hI := hII i
    by_cases h9 : (nbL (fsts w) up i).length = 1
    · have hir : irrB (fsts w) up i = true := by simp [irrB, h9]
      rw [hir] at hsu
      simp only [if_true] at hsu
      clear hII
      repeat' (first | (apply brI <;> intro hb hb2 <;> (try simp [-Int.not_le, -Int.not_lt, -Nat.not_le, -Nat.not_lt, -Nat.add_left_cancel_iff] at hb2)) | (refine draw_listA (by rfl) (by kernel_rfl) ?_) | (refine draw_listB (by simp [allocsOf, isAlloc]; rfl) (by kernel_rfl) ?_) | simp (maxSteps := 2000000) (disch := first | omega | assumption | simp [*]) [*, -Int.not_le, -Int.not_lt, -Nat.not_le, -Nat.not_lt, -Nat.add_left_cancel_iff, wrap_i64, wrap_u64, h7, h6, h1, isP_len hP, isP_low hP, isI_len hI])
      refine wa_push hB (by simp) (by simp) (by omega) ?_
      intro v2 h2' hB2 hk2'
      rw [← hsu] at hB2
      clear hsu
      repeat' (first | (apply brI <;> intro hb hb2 <;> (try simp [-Int.not_le, -Int.not_lt, -Nat.not_le, -Nat.not_lt, -Nat.add_left_cancel_iff] at hb2)) | (refine draw_listA (by rfl) (by kernel_rfl) ?_) | (refine draw_listB (by simp [allocsOf, isAlloc]; rfl) (by kernel_rfl) ?_) | simp (maxSteps := 2000000) (disch := first | omega | assumption | simp [*]) [*, -Int.not_le, -Int.not_lt, -Nat.not_le, -Nat.not_lt, -Nat.add_left_cancel_iff, wrap_i64, wrap_u64, h7, h6, h1, isP_len hP])
      exact hB2
    · have hir : irrB (fsts w) up i = false := by simp [irrB, h9]
      rw [hir] at hsu
      simp only [Bool.false_eq_true, if_false, List.append_nil] at hsu
      rw [← hsu] at hB
      have h9' : ¬ ((nbL (fsts w) up i).length : Int) = 1 := by omega
      clear hII hsu
      repeat' (first | (apply brI <;> intro hb hb2 <;> (try simp [-Int.not_le, -Int.not_lt, -Nat.not_le, -Nat.not_lt, -Nat.add_left_cancel_iff] at hb2)) | (refine draw_listA (by rfl) (by kernel_rfl) ?_) | (refine draw_listB (by simp [allocsOf, isAlloc]; rfl) (by kernel_rfl) ?_) | simp (maxSteps := 2000000) (disch := first | omega | assumption | simp [*]) [*, -Int.not_le, -Int.not_lt, -Nat.not_le, -Nat.not_lt, -Nat.add_left_cancel_iff, wrap_i64, wrap_u64, h7, h6, h1, isP_len hP, isP_low hP, isI_len hI])
  · obtain rfl : i = (fsts w).length := by omega
    clear hII
    repeat' (first | (apply brI <;> intro hb hb2 <;> (try simp [-Int.not_le, -Int.not_lt, -Nat.not_le, -Nat.not_lt, -Nat.add_left_cancel_iff] at hb2)) | (refine draw_listA (by rfl) (by kernel_rfl) ?_) | (refine draw_listB (by simp [allocsOf, isAlloc]; rfl) (by kernel_rfl) ?_) | simp (maxSteps := 2000000) (disch := first | omega | assumption | simp [*]) [*, -Int.not_le, -Int.not_lt, -Nat.not_le, -Nat.not_lt, -Nat.add_left_cancel_iff, wrap_i64, wrap_u64, h7, h6, h1, isP_len hP, isP_low hP])
    exact hB.expo
theorem l21Single_s {n : Int} {up : Bool} {v : AV} (hv : IsI v) {K : AV → Prop} {tg : Tg K} : CW env 106 [.agg [.int .i64 n, v], .bool up] K tg ↔ K (bufR 3 26 1 (irrL n (xsOf v) up)) := callsTo_iff (l21Single_c hv)
attribute [simp] l21Single_s
theorem sJoinIrreducibles_c {n : Int} {v : AV} (hv : IsI v) : EvC env 25 [.agg [.int .i64 n, v]] (bufC 1 (irrL n (xsOf v) false)) := by
  refine evC_of (F := Tryz.f25) rfl rfl (Nat.le_of_ble_eq_true rfl) ?_
  repeat' (first | (apply brI <;> intro hb hb2 <;> (try simp [-Int.not_le, -Int.not_lt, -Nat.not_le, -Nat.not_lt, -Nat.add_left_cancel_iff] at hb2)) | (refine draw_listA (by rfl) (by kernel_rfl) ?_) | (refine draw_listB (by simp [allocsOf, isAlloc]; rfl) (by kernel_rfl) ?_) | simp (maxSteps := 2000000) (disch := first | omega | assumption | simp [*]) [*, -Int.not_le, -Int.not_lt, -Nat.not_le, -Nat.not_lt, -Nat.add_left_cancel_iff, wrap_i64, wrap_u64, Tryz.f25, isI_cells hv, isI_one hv, isI_low hv])
theorem sJoinIrreducibles_s {n : Int} {v : AV} (hv : IsI v) {K : AV → Prop} {tg : Tg K} : CW env 25 [.agg [.int .i64 n, v]] K tg ↔ K (bufC 1 (irrL n (xsOf v) false)) := callsTo_iff (sJoinIrreducibles_c hv)
attribute [simp] sJoinIrreducibles_s
theorem sMeetIrreducibles_c {n : Int} {v : AV} (hv : IsI v) : EvC env 26 [.agg [.int .i64 n, v]] (bufC 1 (irrL n (xsOf v) true)) := by
  refine evC_of (F := Tryz.f26) rfl rfl (Nat.le_of_ble_eq_true rfl) ?_
  repeat' (first | (apply brI <;> intro hb hb2 <;> (try simp [-Int.not_le, -Int.not_lt, -Nat.not_le, -Nat.not_lt, -Nat.add_left_cancel_iff] at hb2)) | (refine draw_listA (by rfl) (by kernel_rfl) ?_) | (refine draw_listB (by simp [allocsOf, isAlloc]; rfl) (by kernel_rfl) ?_) | simp (maxSteps := 2000000) (disch := first | omega | assumption | simp [*]) [*, -Int.not_le, -Int.not_lt, -Nat.not_le, -Nat.not_lt, -Nat.add_left_cancel_iff, wrap_i64, wrap_u64, Tryz.f26, isI_cells hv, isI_one hv, isI_low hv])
theorem sMeetIrreducibles_s {n : Int} {v : AV} (hv : IsI v) {K : AV → Prop} {tg : Tg K} : CW env 26 [.agg [.int .i64 n, v]] K tg ↔ K (bufC 1 (irrL n (xsOf v) true)) := callsTo_iff (sMeetIrreducibles_c hv)
attribute [simp] sMeetIrreducibles_s
theorem irr_w (T : Nat) (n : Int) (xs : List Int) (up : Bool) : IsI (noEx (rowR 1 T 8 (ints (irrL n xs up)))) ∧ xsOf (noEx (rowR 1 T 8 (ints (irrL n xs up)))) = irrL n xs up := by
  rw [rowR_noEx]
  exact ⟨isI_no (by have := irrL_len n xs up; unfold top63; omega), by simp⟩
end Go.Proofs.YtliecnadoklgoaaGreatDoor
