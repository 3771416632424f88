/- Texts of questions: both sides. Conditions: none. -/
import Derived.Test.YtlglhokpaplifaaGreatDoorNext
import Derived.Test.YtlglhokpaplifaaGreatDoorStem
import Derived.Lib.ItoaLen
namespace Go.Proofs.YtlglhokpaplifaaGreatDoor
open Ev
set_option linter.unusedVariables false
set_option linter.unusedSimpArgs false
set_option maxHeartbeats 4000000

theorem sElementsOf_c {s : Int} : EvC env 121 [.int .i64 s] (bufR 3 16 1 (elemsTo s 8)) := by
  refine evC_of (F := Tryz.f121) rfl rfl (Nat.le_of_ble_eq_true rfl) ?_
  repeat' (first | (apply brI <;> intro hb hb2 <;> (try simp [-Int.not_le, -Int.not_lt, -Nat.not_le, -Nat.not_lt, -Nat.add_left_cancel_iff] at hb2)) | (refine draw_listA (by rfl) (by kernel_rfl) ?_) | (refine draw_listB (by simp [allocsOf, isAlloc]; rfl) (by kernel_rfl) ?_) | simp (maxSteps := 2000000) (disch := first | omega | assumption | simp [*]) [*, -Int.not_le, -Int.not_lt, -Nat.not_le, -Nat.not_lt, -Nat.add_left_cancel_iff, wrap_i64, wrap_u64, Tryz.f121])
  refine W_loopG 8 (fun i s' h => s' 4 = .int .i64 i ∧ s' 0 = .int .i64 s ∧ Buf h 3 16 1 (s' 3) (elemsTo s i)) ?_ ?_
  · simp [elemsTo]; exact buf_nil ..
  rintro i s' h hi ⟨h6, h0, hB⟩
  have hl := elemsTo_len s i
  repeat' (first | (apply brI <;> intro hb hb2 <;> (try simp [-Int.not_le, -Int.not_lt, -Nat.not_le, -Nat.not_lt, -Nat.add_left_cancel_iff] at hb2)) | (refine draw_listA (by rfl) (by kernel_rfl) ?_) | (refine draw_listB (by simp [allocsOf, isAlloc]; rfl) (by kernel_rfl) ?_) | simp (maxSteps := 2000000) (disch := first | omega | assumption | simp [*]) [*, -Int.not_le, -Int.not_lt, -Nat.not_le, -Nat.not_lt, -Nat.add_left_cancel_iff, wrap_i64, wrap_u64, h6, h0])
  · refine wa_push hB (by simp) (by simp) (by omega) ?_
    intro v2 h2 hB2 hk2
    repeat' (first | (apply brI <;> intro hb hb2 <;> (try simp [-Int.not_le, -Int.not_lt, -Nat.not_le, -Nat.not_lt, -Nat.add_left_cancel_iff] at hb2)) | (refine draw_listA (by rfl) (by kernel_rfl) ?_) | (refine draw_listB (by simp [allocsOf, isAlloc]; rfl) (by kernel_rfl) ?_) | simp (maxSteps := 2000000) (disch := first | omega | assumption | simp [*]) [*, -Int.not_le, -Int.not_lt, -Nat.not_le, -Nat.not_lt, -Nat.add_left_cancel_iff, wrap_i64, wrap_u64, h6, h0])
    exact ⟨by omega, by rw [elemsTo_succ, if_pos (by simp_all)]; exact hB2⟩
  · exact ⟨by omega, by rw [elemsTo_succ, if_neg (by simp at hb2 ⊢; exact fun h => hb2 h (by omega)), List.append_nil]; exact hB⟩
  · obtain rfl : i = 8 := by omega
    exact hB.expo
theorem sElementsOf_s {s : Int} {K : AV → Prop} {tg : Tg K} : CW env 121 [.int .i64 s] K tg ↔ K (bufR 3 16 1 (elemsTo s 8)) := callsTo_iff (sElementsOf_c )
attribute [simp] sElementsOf_s
/- bytes -/
def abc : ByteArray := ⟨#[97, 98, 99, 100, 101, 102, 103, 104]⟩
def txtF (l : List Int) : ByteArray := l.foldl (fun out e => out ++ abc.extract e.toNat (e.toNat + 1)) ⟨#[]⟩
theorem txtF_take {l : List Int} {k : Nat} (h : k < l.length) : txtF (l.take (k + 1)) = txtF (l.take k) ++ abc.extract (nth l k).toNat ((nth l k).toNat + 1) := by
  unfold txtF
  rw [List.take_add_one, nth_get? h, List.foldl_append]
  rfl
theorem ext_size (e : Nat) : (abc.extract e (e + 1)).size ≤ 1 := by
  rw [ByteArray.size_extract]; omega
theorem txtF_go (l : List Int) : ∀ a : ByteArray, (l.foldl (fun out e => out ++ abc.extract e.toNat (e.toNat + 1)) a).size ≤ a.size + l.length := by
  induction l with
  | nil => intro a; simp
  | cons x l ih =>
    intro a
    have := ih (a ++ abc.extract x.toNat (x.toNat + 1))
    rw [ByteArray.size_append] at this
    have := ext_size x.toNat
    simp only [List.foldl_cons, List.length_cons]
    omega
theorem txtF_size (l : List Int) : (txtF l).size ≤ l.length := by
  have := txtF_go l ⟨#[]⟩
  have e : (⟨#[]⟩ : ByteArray).size = 0 := rfl
  unfold txtF; omega
theorem bin_sadd (a b : ByteArray) (h : a.size + b.size ≤ 1099511627776) : binV .add (.str a) (.str b) = some (.str (a ++ b)) := by simp [binV, h]
theorem slice_abc {h : Heap} {t : Nat} (ht : env.ty t = .str) {e : Nat} (he : e < 8) : sliceV env h t (.str ⟨#[97, 98, 99, 100, 101, 102, 103, 104]⟩) (some (.int .i64 e)) (some (.int .i64 ((e : Int) + 1))) none = some (.str (abc.extract e (e + 1))) := by
  simp only [sliceV, ht, boundV]
  have h1 : ((e : Int) + 1).toNat = e + 1 := by omega
  rw [if_pos (by omega), if_pos (by omega), h1, Int.toNat_natCast]
  have hsz : (⟨#[97, 98, 99, 100, 101, 102, 103, 104]⟩ : ByteArray).size = 8 := rfl
  simp only [Option.bind_some, hsz]
  rw [if_pos ⟨by omega, by omega, rfl⟩]
  rfl
/-- the text of a set -/
def setT (s : Int) : ByteArray := if PSet 8 s = true then if s = 0 then ⟨#[45]⟩ else txtF (elemsTo s 8) else ⟨#[]⟩
theorem setT_size (s : Int) : (setT s).size ≤ 8 := by
  unfold setT
  split
  · split
    · exact (by decide : (⟨#[45]⟩ : ByteArray).size ≤ 8)
    · have := txtF_size (elemsTo s 8)
      have := elemsTo_len s 8
      omega
  · exact (by decide : (⟨#[]⟩ : ByteArray).size ≤ 8)
theorem iSetText_c {s : Int} : EvC env 99 [.int .i64 s] (.str (setT s)) := by
  refine evC_of (F := Tryz.f99) rfl rfl (Nat.le_of_ble_eq_true rfl) ?_
  by_cases hs : PSet 8 s = true
  · by_cases h0 : s = 0
    · have hT : setT s = ⟨#[45]⟩ := by rw [setT, if_pos hs, if_pos h0]
      rw [hT]
      have h0b : (decide (s = 0)) = true := decide_eq_true h0
      clear hT h0
      repeat' (first | (apply brI <;> intro hb hb2 <;> (try simp [-Int.not_le, -Int.not_lt, -Nat.not_le, -Nat.not_lt, -Nat.add_left_cancel_iff] at hb2)) | (refine draw_listA (by rfl) (by kernel_rfl) ?_) | (refine draw_listB (by simp [allocsOf, isAlloc]; rfl) (by kernel_rfl) ?_) | simp (maxSteps := 2000000) (disch := first | omega | assumption | simp [*]) [*, -Int.not_le, -Int.not_lt, -Nat.not_le, -Nat.not_lt, -Nat.add_left_cancel_iff, wrap_i64, wrap_u64, Tryz.f99])
    · have hT : setT s = txtF (elemsTo s 8) := by rw [setT, if_pos hs, if_neg h0]
      rw [hT]
      clear hT
      have hl := elemsTo_len s 8
      have hmem : ∀ k, k < (elemsTo s 8).length → ∃ m : Nat, nth (elemsTo s 8) k = m ∧ m < 8 := fun k hk => by
        obtain ⟨m, h1, h2, _⟩ := mem_elems hk; exact ⟨m, h1, h2⟩
      have hu : IsI (bufC 1 (elemsTo s 8)) := isI_bufC (by unfold top63; omega)
      have hux : xsOf (bufC 1 (elemsTo s 8)) = elemsTo s 8 := by simp
      obtain ⟨L, hL⟩ : ∃ L, elemsTo s 8 = L := ⟨_, rfl⟩
      rw [hL] at hl hmem hu hux ⊢
      obtain ⟨u, hue⟩ : ∃ u, bufC 1 L = u := ⟨_, rfl⟩
      rw [hue] at hu hux
      have hul : (xsOf u).length = L.length := by rw [hux]
      repeat' (first | (apply brI <;> intro hb hb2 <;> (try simp [-Int.not_le, -Int.not_lt, -Nat.not_le, -Nat.not_lt, -Nat.add_left_cancel_iff] at hb2)) | (refine draw_listA (by rfl) (by kernel_rfl) ?_) | (refine draw_listB (by simp [allocsOf, isAlloc]; rfl) (by kernel_rfl) ?_) | simp (maxSteps := 2000000) (disch := first | omega | assumption | simp [*]) [*, -Int.not_le, -Int.not_lt, -Nat.not_le, -Nat.not_lt, -Nat.add_left_cancel_iff, wrap_i64, wrap_u64, Tryz.f99, isI_cells hu, isI_one hu, isI_len hu])
      refine W_loopP L.length (fun k s => s 16 = .int .i64 k ∧ s 15 = .int .i64 L.length ∧ s 14 = u ∧ s 3 = .str (txtF (L.take k))) rfl ?_ ?_
      · simp [txtF]
      rintro k s hk ⟨h16, h15, h14, h3⟩
      by_cases hk2 : k < L.length
      · obtain ⟨m, hm, hm8⟩ := hmem k hk2
        have htk := txtF_take hk2
        rw [hm, Int.toNat_natCast] at htk
        have hnm : nth (xsOf u) k = (m : Int) := by rw [hux, hm]
        have hsl := fun (h : Heap) (t : Nat) (ht : env.ty t = .str) => slice_abc (h := h) ht hm8
        have hz1 := txtF_size (L.take k)
        rw [List.length_take] at hz1
        have hz2 := ext_size m
        have hz : (txtF (L.take k)).size + (abc.extract m (m + 1)).size ≤ 1099511627776 := by omega
        have hadd := bin_sadd _ _ hz
        clear hmem hL hue hux
        repeat' (first | (apply brI <;> intro hb hb2 <;> (try simp [-Int.not_le, -Int.not_lt, -Nat.not_le, -Nat.not_lt, -Nat.add_left_cancel_iff] at hb2)) | (refine draw_listA (by rfl) (by kernel_rfl) ?_) | (refine draw_listB (by simp [allocsOf, isAlloc]; rfl) (by kernel_rfl) ?_) | simp (maxSteps := 2000000) (disch := first | omega | assumption | simp [*]) [*, -Int.not_le, -Int.not_lt, -Nat.not_le, -Nat.not_lt, -Nat.add_left_cancel_iff, wrap_i64, wrap_u64, h16, h15, h14, h3, isI_cells hu, isI_one hu, isI_len hu, isI_index hu, isI_load hu])
      · obtain rfl : k = L.length := by omega
        rw [List.take_of_length_le (Nat.le_refl _)] at h3
        clear hmem hL hue hux
        repeat' (first | (apply brI <;> intro hb hb2 <;> (try simp [-Int.not_le, -Int.not_lt, -Nat.not_le, -Nat.not_lt, -Nat.add_left_cancel_iff] at hb2)) | (refine draw_listA (by rfl) (by kernel_rfl) ?_) | (refine draw_listB (by simp [allocsOf, isAlloc]; rfl) (by kernel_rfl) ?_) | simp (maxSteps := 2000000) (disch := first | omega | assumption | simp [*]) [*, -Int.not_le, -Int.not_lt, -Nat.not_le, -Nat.not_lt, -Nat.add_left_cancel_iff, wrap_i64, wrap_u64, h16, h15, h14, h3, isI_cells hu, isI_one hu, isI_len hu])
  · have hT : setT s = ⟨#[]⟩ := by rw [setT, if_neg hs]
    have hs2 : PSet 8 s = false := by simpa using hs
    rw [hT]
    clear hs hT
    repeat' (first | (apply brI <;> intro hb hb2 <;> (try simp [-Int.not_le, -Int.not_lt, -Nat.not_le, -Nat.not_lt, -Nat.add_left_cancel_iff] at hb2)) | (refine draw_listA (by rfl) (by kernel_rfl) ?_) | (refine draw_listB (by simp [allocsOf, isAlloc]; rfl) (by kernel_rfl) ?_) | simp (maxSteps := 2000000) (disch := first | omega | assumption | simp [*]) [*, -Int.not_le, -Int.not_lt, -Nat.not_le, -Nat.not_lt, -Nat.add_left_cancel_iff, wrap_i64, wrap_u64, Tryz.f99])
theorem iSetText_s {s : Int} {K : AV → Prop} {tg : Tg K} : CW env 99 [.int .i64 s] K tg ↔ K (.str (setT s)) := callsTo_iff (iSetText_c )
attribute [simp] iSetText_s
theorem sSetText_c {s : Int} : EvC env 101 [.int .i64 s] (.str (setT s)) := by
  refine evC_of (F := Tryz.f101) rfl rfl (Nat.le_of_ble_eq_true rfl) ?_
  by_cases hs : PSet 8 s = true
  · by_cases h0 : s = 0
    · have hT : setT s = ⟨#[45]⟩ := by rw [setT, if_pos hs, if_pos h0]
      rw [hT]
      have h0b : (decide (s = 0)) = true := decide_eq_true h0
      clear hT h0
      repeat' (first | (apply brI <;> intro hb hb2 <;> (try simp [-Int.not_le, -Int.not_lt, -Nat.not_le, -Nat.not_lt, -Nat.add_left_cancel_iff] at hb2)) | (refine draw_listA (by rfl) (by kernel_rfl) ?_) | (refine draw_listB (by simp [allocsOf, isAlloc]; rfl) (by kernel_rfl) ?_) | simp (maxSteps := 2000000) (disch := first | omega | assumption | simp [*]) [*, -Int.not_le, -Int.not_lt, -Nat.not_le, -Nat.not_lt, -Nat.add_left_cancel_iff, wrap_i64, wrap_u64, Tryz.f101])
    · have hT : setT s = txtF (elemsTo s 8) := by rw [setT, if_pos hs, if_neg h0]
      rw [hT]
      clear hT
      have hl := elemsTo_len s 8
      have hmem : ∀ k, k < (elemsTo s 8).length → ∃ m : Nat, nth (elemsTo s 8) k = m ∧ m < 8 := fun k hk => by
        obtain ⟨m, h1, h2, _⟩ := mem_elems hk; exact ⟨m, h1, h2⟩
      have hu : IsI (bufC 1 (elemsTo s 8)) := isI_bufC (by unfold top63; omega)
      have hux : xsOf (bufC 1 (elemsTo s 8)) = elemsTo s 8 := by simp
      obtain ⟨L, hL⟩ : ∃ L, elemsTo s 8 = L := ⟨_, rfl⟩
      rw [hL] at hl hmem hu hux ⊢
      obtain ⟨u, hue⟩ : ∃ u, bufC 1 L = u := ⟨_, rfl⟩
      rw [hue] at hu hux
      have hul : (xsOf u).length = L.length := by rw [hux]
      repeat' (first | (apply brI <;> intro hb hb2 <;> (try simp [-Int.not_le, -Int.not_lt, -Nat.not_le, -Nat.not_lt, -Nat.add_left_cancel_iff] at hb2)) | (refine draw_listA (by rfl) (by kernel_rfl) ?_) | (refine draw_listB (by simp [allocsOf, isAlloc]; rfl) (by kernel_rfl) ?_) | simp (maxSteps := 2000000) (disch := first | omega | assumption | simp [*]) [*, -Int.not_le, -Int.not_lt, -Nat.not_le, -Nat.not_lt, -Nat.add_left_cancel_iff, wrap_i64, wrap_u64, Tryz.f101, isI_cells hu, isI_one hu, isI_len hu])
      refine W_loopP L.length (fun k s => s 5 = .int .i64 k ∧ s 4 = u ∧ s 3 = .str (txtF (L.take k))) rfl ?_ ?_
      · simp [txtF]
      rintro k s hk ⟨h16, h14, h3⟩
      by_cases hk2 : k < L.length
      · obtain ⟨m, hm, hm8⟩ := hmem k hk2
        have htk := txtF_take hk2
        rw [hm, Int.toNat_natCast] at htk
        have hnm : nth (xsOf u) k = (m : Int) := by rw [hux, hm]
        have hsl := fun (h : Heap) (t : Nat) (ht : env.ty t = .str) => slice_abc (h := h) ht hm8
        have hz1 := txtF_size (L.take k)
        rw [List.length_take] at hz1
        have hz2 := ext_size m
        have hz : (txtF (L.take k)).size + (abc.extract m (m + 1)).size ≤ 1099511627776 := by omega
        have hadd := bin_sadd _ _ hz
        clear hmem hL hue hux
        repeat' (first | (apply brI <;> intro hb hb2 <;> (try simp [-Int.not_le, -Int.not_lt, -Nat.not_le, -Nat.not_lt, -Nat.add_left_cancel_iff] at hb2)) | (refine draw_listA (by rfl) (by kernel_rfl) ?_) | (refine draw_listB (by simp [allocsOf, isAlloc]; rfl) (by kernel_rfl) ?_) | simp (maxSteps := 2000000) (disch := first | omega | assumption | simp [*]) [*, -Int.not_le, -Int.not_lt, -Nat.not_le, -Nat.not_lt, -Nat.add_left_cancel_iff, wrap_i64, wrap_u64, h16, h14, h3, isI_cells hu, isI_one hu, isI_len hu, isI_index hu, isI_load hu])
      · obtain rfl : k = L.length := by omega
        rw [List.take_of_length_le (Nat.le_refl _)] at h3
        clear hmem hL hue hux
        repeat' (first | (apply brI <;> intro hb hb2 <;> (try simp [-Int.not_le, -Int.not_lt, -Nat.not_le, -Nat.not_lt, -Nat.add_left_cancel_iff] at hb2)) | (refine draw_listA (by rfl) (by kernel_rfl) ?_) | (refine draw_listB (by simp [allocsOf, isAlloc]; rfl) (by kernel_rfl) ?_) | simp (maxSteps := 2000000) (disch := first | omega | assumption | simp [*]) [*, -Int.not_le, -Int.not_lt, -Nat.not_le, -Nat.not_lt, -Nat.add_left_cancel_iff, wrap_i64, wrap_u64, h16, h14, h3, isI_cells hu, isI_one hu, isI_len hu])
  · have hT : setT s = ⟨#[]⟩ := by rw [setT, if_neg hs]
    have hs2 : PSet 8 s = false := by simpa using hs
    rw [hT]
    clear hs hT
    repeat' (first | (apply brI <;> intro hb hb2 <;> (try simp [-Int.not_le, -Int.not_lt, -Nat.not_le, -Nat.not_lt, -Nat.add_left_cancel_iff] at hb2)) | (refine draw_listA (by rfl) (by kernel_rfl) ?_) | (refine draw_listB (by simp [allocsOf, isAlloc]; rfl) (by kernel_rfl) ?_) | simp (maxSteps := 2000000) (disch := first | omega | assumption | simp [*]) [*, -Int.not_le, -Int.not_lt, -Nat.not_le, -Nat.not_lt, -Nat.add_left_cancel_iff, wrap_i64, wrap_u64, Tryz.f101])
theorem sSetText_s {s : Int} {K : AV → Prop} {tg : Tg K} : CW env 101 [.int .i64 s] K tg ↔ K (.str (setT s)) := callsTo_iff (sSetText_c )
attribute [simp] sSetText_s
theorem setT_none {s : Int} (h : PSet 8 s = false) : setT s = ⟨#[]⟩ := by rw [setT, if_neg (by simp [h])]
/-- the text of a rule -/
def ruleT (a b : Int) : ByteArray := if (PSet 8 a && PSet 8 b) = true then setT a ++ ⟨#[62]⟩ ++ setT b else ⟨#[]⟩
theorem ruleT_size (a b : Int) : (ruleT a b).size ≤ 17 := by
  unfold ruleT
  split
  · have := setT_size a
    have := setT_size b
    rw [ByteArray.size_append, ByteArray.size_append]
    have e : (⟨#[62]⟩ : ByteArray).size = 1 := rfl
    omega
  · exact (by decide : (⟨#[]⟩ : ByteArray).size ≤ 17)
theorem areAny2_c {a b : Int} : EvC env 98 [.sl 2 .lit [.agg [.int .i64 a, .int .i64 b]]] (.bool (PSet 8 a && PSet 8 b)) := by
  refine evC_of (F := Tryz.f98) rfl rfl (Nat.le_of_ble_eq_true rfl) ?_
  have hv : IsP (.sl 2 .lit [.agg [.int .i64 a, .int .i64 b]]) := isP_mk (xs := [a]) (ys := [b]) (.inr rfl) rfl (by simp only [List.length_singleton]; unfold top63; decide)
  have hcs : ∀ (K : AV → Prop) (tg : Tg K), CW env 95 [.sl 2 .lit [.agg [.int .i64 a, .int .i64 b]], .fn 118 []] K tg ↔ K (.bool (!PSet 8 a || !PSet 8 b)) := fun K tg => callsTo_iff (by
    have := containsFuncR_c hv (p := fun x y => !PSet 8 x || !PSet 8 y) (g := 118) (caps := []) rfl rfl rfl (fun h => by simp) (fun x y => areAny1_c)
    have e : anyP (fun x y => !PSet 8 x || !PSet 8 y) (fsts (.sl 2 .lit [.agg [.int .i64 a, .int .i64 b]])) (snds (.sl 2 .lit [.agg [.int .i64 a, .int .i64 b]])) = (!PSet 8 a || !PSet 8 b) := by
      simp [anyP, fsts, snds, nth, List.range, List.range.loop, fstI, sndI]
    rw [e] at this
    exact this)
  clear hv
  repeat' (first | (apply brI <;> intro hb hb2 <;> (try simp [-Int.not_le, -Int.not_lt, -Nat.not_le, -Nat.not_lt, -Nat.add_left_cancel_iff] at hb2)) | (refine draw_listA (by rfl) (by kernel_rfl) ?_) | (refine draw_listB (by simp [allocsOf, isAlloc]; rfl) (by kernel_rfl) ?_) | simp (maxSteps := 2000000) (disch := first | omega | assumption | simp [*]) [*, -Int.not_le, -Int.not_lt, -Nat.not_le, -Nat.not_lt, -Nat.add_left_cancel_iff, wrap_i64, wrap_u64, Tryz.f98])
  all_goals cases hx : PSet 8 a <;> cases hy : PSet 8 b <;> simp_all
theorem areAny2_s {a b : Int} {K : AV → Prop} {tg : Tg K} : CW env 98 [.sl 2 .lit [.agg [.int .i64 a, .int .i64 b]]] K tg ↔ K (.bool (PSet 8 a && PSet 8 b)) := callsTo_iff (areAny2_c )
attribute [simp] areAny2_s
theorem iRuleText_c {a b : Int} : EvC env 61 [.agg [.int .i64 a, .int .i64 b]] (.str (ruleT a b)) := by
  refine evC_of (F := Tryz.f61) rfl rfl (Nat.le_of_ble_eq_true rfl) ?_
  by_cases hp : (PSet 8 a && PSet 8 b) = true
  · have hT : ruleT a b = setT a ++ ⟨#[62]⟩ ++ setT b := by rw [ruleT, if_pos hp]
    rw [hT]
    clear hT
    have z1 := setT_size a
    have z2 := setT_size b
    have z3 : (⟨#[62]⟩ : ByteArray).size = 1 := rfl
    have ha1 := bin_sadd (setT a) ⟨#[62]⟩ (by omega)
    have ha2 := bin_sadd (setT a ++ ⟨#[62]⟩) (setT b) (by rw [ByteArray.size_append]; omega)
    clear z1 z2 z3
    simp only [Bool.and_eq_true] at hp
    obtain ⟨hp1, hp2⟩ := hp
    repeat' (first | (apply brI <;> intro hb hb2 <;> (try simp [-Int.not_le, -Int.not_lt, -Nat.not_le, -Nat.not_lt, -Nat.add_left_cancel_iff] at hb2)) | (refine draw_listA (by rfl) (by kernel_rfl) ?_) | (refine draw_listB (by simp [allocsOf, isAlloc]; rfl) (by kernel_rfl) ?_) | simp (maxSteps := 2000000) (disch := first | omega | assumption | simp [*]) [*, -Int.not_le, -Int.not_lt, -Nat.not_le, -Nat.not_lt, -Nat.add_left_cancel_iff, wrap_i64, wrap_u64, Tryz.f61])
  · have hT : ruleT a b = ⟨#[]⟩ := by rw [ruleT, if_neg hp]
    rw [hT]
    clear hT
    have hp2 : (PSet 8 a && PSet 8 b) = false := by simpa using hp
    clear hp
    repeat' (first | (apply brI <;> intro hb hb2 <;> (try simp [-Int.not_le, -Int.not_lt, -Nat.not_le, -Nat.not_lt, -Nat.add_left_cancel_iff] at hb2)) | (refine draw_listA (by rfl) (by kernel_rfl) ?_) | (refine draw_listB (by simp [allocsOf, isAlloc]; rfl) (by kernel_rfl) ?_) | simp (maxSteps := 2000000) (disch := first | omega | assumption | simp [*]) [*, -Int.not_le, -Int.not_lt, -Nat.not_le, -Nat.not_lt, -Nat.add_left_cancel_iff, wrap_i64, wrap_u64, Tryz.f61])
theorem iRuleText_s {a b : Int} {K : AV → Prop} {tg : Tg K} : CW env 61 [.agg [.int .i64 a, .int .i64 b]] K tg ↔ K (.str (ruleT a b)) := callsTo_iff (iRuleText_c )
attribute [simp] iRuleText_s
theorem sRuleText_c {a b : Int} : EvC env 63 [.agg [.int .i64 a, .int .i64 b]] (.str (ruleT a b)) := by
  refine evC_of (F := Tryz.f63) rfl rfl (Nat.le_of_ble_eq_true rfl) ?_
  by_cases hp : (PSet 8 a && PSet 8 b) = true
  · have hT : ruleT a b = setT a ++ ⟨#[62]⟩ ++ setT b := by rw [ruleT, if_pos hp]
    rw [hT]
    clear hT
    have z1 := setT_size a
    have z2 := setT_size b
    have z3 : (⟨#[62]⟩ : ByteArray).size = 1 := rfl
    have ha1 := bin_sadd (setT a) ⟨#[62]⟩ (by omega)
    have ha2 := bin_sadd (setT a ++ ⟨#[62]⟩) (setT b) (by rw [ByteArray.size_append]; omega)
    clear z1 z2 z3
    simp only [Bool.and_eq_true] at hp
    obtain ⟨hp1, hp2⟩ := hp
    repeat' (first | (apply brI <;> intro hb hb2 <;> (try simp [-Int.not_le, -Int.not_lt, -Nat.not_le, -Nat.not_lt, -Nat.add_left_cancel_iff] at hb2)) | (refine draw_listA (by rfl) (by kernel_rfl) ?_) | (refine draw_listB (by simp [allocsOf, isAlloc]; rfl) (by kernel_rfl) ?_) | simp (maxSteps := 2000000) (disch := first | omega | assumption | simp [*]) [*, -Int.not_le, -Int.not_lt, -Nat.not_le, -Nat.not_lt, -Nat.add_left_cancel_iff, wrap_i64, wrap_u64, Tryz.f63])
  · have hT : ruleT a b = ⟨#[]⟩ := by rw [ruleT, if_neg hp]
    rw [hT]
    clear hT
    have hp2 : (PSet 8 a && PSet 8 b) = false := by simpa using hp
    clear hp
    repeat' (first | (apply brI <;> intro hb hb2 <;> (try simp [-Int.not_le, -Int.not_lt, -Nat.not_le, -Nat.not_lt, -Nat.add_left_cancel_iff] at hb2)) | (refine draw_listA (by rfl) (by kernel_rfl) ?_) | (refine draw_listB (by simp [allocsOf, isAlloc]; rfl) (by kernel_rfl) ?_) | simp (maxSteps := 2000000) (disch := first | omega | assumption | simp [*]) [*, -Int.not_le, -Int.not_lt, -Nat.not_le, -Nat.not_lt, -Nat.add_left_cancel_iff, wrap_i64, wrap_u64, Tryz.f63])
theorem sRuleText_s {a b : Int} {K : AV → Prop} {tg : Tg K} : CW env 63 [.agg [.int .i64 a, .int .i64 b]] K tg ↔ K (.str (ruleT a b)) := callsTo_iff (sRuleText_c )
attribute [simp] sRuleText_s
/-- a numeral of the draws -/
def numT (n : Int) : ByteArray := ⟨(Lib.itoa n).toArray⟩
theorem numT_size (n : Int) (h0 : -1 ≤ n) (h1 : n ≤ 8) : (numT n).size ≤ 2 := by
  have : ∀ k : Fin 10, (numT ((k.val : Int) - 1)).size ≤ 2 := by decide +kernel
  have h := this ⟨(n + 1).toNat, by omega⟩
  have e : (((n + 1).toNat : Nat) : Int) - 1 = n := by omega
  simp only [e] at h
  exact h
theorem numT_pos : ∀ k : Fin 8, numT ((k.val : Int) + 1) = ⟨#[UInt8.ofNat (48 + (k.val + 1))]⟩ ++ ⟨#[]⟩ := by decide +kernel
theorem sFormatInt_c {n : Int} (h0 : -1 ≤ n) (h1 : n ≤ 8) : EvC env 64 [.int .i64 n] (.str (numT n)) := by
  refine evC_of (F := Tryz.f64) rfl rfl (Nat.le_of_ble_eq_true rfl) ?_
  by_cases e0 : n = 0
  · have hT : numT n = ⟨#[48]⟩ := by rw [e0]; decide +kernel
    rw [hT]
    clear hT
    have e1 : decide (n = 0) = true := decide_eq_true e0
    clear e0 h0 h1
    repeat' (first | (apply brI <;> intro hb hb2 <;> (try simp [-Int.not_le, -Int.not_lt, -Nat.not_le, -Nat.not_lt, -Nat.add_left_cancel_iff] at hb2)) | (refine draw_listA (by rfl) (by kernel_rfl) ?_) | (refine draw_listB (by simp [allocsOf, isAlloc]; rfl) (by kernel_rfl) ?_) | simp (maxSteps := 2000000) (disch := first | omega | assumption | simp [*]) [*, -Int.not_le, -Int.not_lt, -Nat.not_le, -Nat.not_lt, -Nat.add_left_cancel_iff, wrap_i64, wrap_u64, Tryz.f64])
  · by_cases e1 : n = -1
    · have hT : numT n = ⟨#[45]⟩ ++ (⟨#[49]⟩ ++ ⟨#[]⟩) := by rw [e1]; decide +kernel
      rw [hT]
      clear hT
      subst e1
      have hz1 := bin_sadd ⟨#[49]⟩ ⟨#[]⟩ (by decide)
      have hz2 := bin_sadd ⟨#[45]⟩ (⟨#[49]⟩ ++ ⟨#[]⟩) (by decide +kernel)
      have hw : IntKind.u8.wrap 49 = 49 := by decide
      clear h0 h1 e0
      repeat' (first | (apply brI <;> intro hb hb2 <;> (try simp [-Int.not_le, -Int.not_lt, -Nat.not_le, -Nat.not_lt, -Nat.add_left_cancel_iff] at hb2)) | (refine draw_listA (by rfl) (by kernel_rfl) ?_) | (refine draw_listB (by simp [allocsOf, isAlloc]; rfl) (by kernel_rfl) ?_) | simp (maxSteps := 2000000) (disch := first | omega | assumption | simp [*]) [*, -Int.not_le, -Int.not_lt, -Nat.not_le, -Nat.not_lt, -Nat.add_left_cancel_iff, wrap_i64, wrap_u64, Tryz.f64])
      refine W_loopP 1 (fun k s => s 3 = .bool true ∧ ((k = 0 ∧ s 0 = .int .i64 (-1) ∧ s 4 = .str ⟨#[]⟩) ∨ (k = 1 ∧ s 0 = .int .i64 0 ∧ s 4 = .str (⟨#[49]⟩ ++ ⟨#[]⟩)))) rfl ?_ ?_
      · simp
      rintro k s hk ⟨s3, ⟨rfl, s0, s4⟩ | ⟨rfl, s0, s4⟩⟩
      · repeat' (first | (apply brI <;> intro hb hb2 <;> (try simp [-Int.not_le, -Int.not_lt, -Nat.not_le, -Nat.not_lt, -Nat.add_left_cancel_iff] at hb2)) | (refine draw_listA (by rfl) (by kernel_rfl) ?_) | (refine draw_listB (by simp [allocsOf, isAlloc]; rfl) (by kernel_rfl) ?_) | simp (maxSteps := 2000000) (disch := first | omega | assumption | simp [*]) [*, -Int.not_le, -Int.not_lt, -Nat.not_le, -Nat.not_lt, -Nat.add_left_cancel_iff, wrap_i64, wrap_u64, s3, s0, s4])
      · repeat' (first | (apply brI <;> intro hb hb2 <;> (try simp [-Int.not_le, -Int.not_lt, -Nat.not_le, -Nat.not_lt, -Nat.add_left_cancel_iff] at hb2)) | (refine draw_listA (by rfl) (by kernel_rfl) ?_) | (refine draw_listB (by simp [allocsOf, isAlloc]; rfl) (by kernel_rfl) ?_) | simp (maxSteps := 2000000) (disch := first | omega | assumption | simp [*]) [*, -Int.not_le, -Int.not_lt, -Nat.not_le, -Nat.not_lt, -Nat.add_left_cancel_iff, wrap_i64, wrap_u64, s3, s0, s4])
    · have n1 : 1 ≤ n := by omega
      obtain ⟨m, hm⟩ : ∃ m, UInt8.ofNat (48 + n).toNat = m := ⟨_, rfl⟩
      have hT : numT n = ⟨#[m]⟩ ++ ⟨#[]⟩ := by
        have h := numT_pos ⟨(n - 1).toNat, by omega⟩
        have e : (((n - 1).toNat : Nat) : Int) + 1 = n := by omega
        simp only [e] at h
        rw [h, ← hm]
        have : 48 + ((n - 1).toNat + 1) = (48 + n).toNat := by omega
        rw [this]
      rw [hT]
      clear hT
      have hz1 := bin_sadd ⟨#[m]⟩ ⟨#[]⟩ (by show 1 + 0 ≤ _; decide)
      have hw : IntKind.u8.wrap (48 + n) = 48 + n := by
        have : ∀ k : Fin 8, IntKind.u8.wrap (48 + ((k.val : Int) + 1)) = 48 + ((k.val : Int) + 1) := by decide +kernel
        have h := this ⟨(n - 1).toNat, by omega⟩
        have e : (((n - 1).toNat : Nat) : Int) + 1 = n := by omega
        simp only [e] at h
        exact h
      have hr : n.tmod 10 = n := Int.tmod_eq_of_lt (by omega) (by omega)
      have hq : n.tdiv 10 = 0 := Int.tdiv_eq_zero_of_lt (by omega) (by omega)
      have hn0 : ¬ n < 0 := by omega
      have hr1 : 0 ≤ 48 + n := by omega
      have hr2 : 48 + n < 256 := by omega
      clear h0 e1
      repeat' (first | (apply brI <;> intro hb hb2 <;> (try simp [-Int.not_le, -Int.not_lt, -Nat.not_le, -Nat.not_lt, -Nat.add_left_cancel_iff] at hb2)) | (refine draw_listA (by rfl) (by kernel_rfl) ?_) | (refine draw_listB (by simp [allocsOf, isAlloc]; rfl) (by kernel_rfl) ?_) | simp (maxSteps := 2000000) (disch := first | omega | assumption | simp [*]) [*, -Int.not_le, -Int.not_lt, -Nat.not_le, -Nat.not_lt, -Nat.add_left_cancel_iff, wrap_i64, wrap_u64, Tryz.f64])
      refine W_loopP 1 (fun k s => s 3 = .bool false ∧ ((k = 0 ∧ s 0 = .int .i64 n ∧ s 4 = .str ⟨#[]⟩) ∨ (k = 1 ∧ s 0 = .int .i64 0 ∧ s 4 = .str (⟨#[m]⟩ ++ ⟨#[]⟩)))) rfl ?_ ?_
      · simp
      rintro k s hk ⟨s3, ⟨rfl, s0, s4⟩ | ⟨rfl, s0, s4⟩⟩
      · repeat' (first | (apply brI <;> intro hb hb2 <;> (try simp [-Int.not_le, -Int.not_lt, -Nat.not_le, -Nat.not_lt, -Nat.add_left_cancel_iff] at hb2)) | (refine draw_listA (by rfl) (by kernel_rfl) ?_) | (refine draw_listB (by simp [allocsOf, isAlloc]; rfl) (by kernel_rfl) ?_) | simp (maxSteps := 2000000) (disch := first | omega | assumption | simp [*]) [*, -Int.not_le, -Int.not_lt, -Nat.not_le, -Nat.not_lt, -Nat.add_left_cancel_iff, wrap_i64, wrap_u64, s3, s0, s4])
      · repeat' (first | (apply brI <;> intro hb hb2 <;> (try simp [-Int.not_le, -Int.not_lt, -Nat.not_le, -Nat.not_lt, -Nat.add_left_cancel_iff] at hb2)) | (refine draw_listA (by rfl) (by kernel_rfl) ?_) | (refine draw_listB (by simp [allocsOf, isAlloc]; rfl) (by kernel_rfl) ?_) | simp (maxSteps := 2000000) (disch := first | omega | assumption | simp [*]) [*, -Int.not_le, -Int.not_lt, -Nat.not_le, -Nat.not_lt, -Nat.add_left_cancel_iff, wrap_i64, wrap_u64, s3, s0, s4])
theorem sFormatInt_s {n : Int} (h0 : -1 ≤ n) (h1 : n ≤ 8) {K : AV → Prop} {tg : Tg K} : CW env 64 [.int .i64 n] K tg ↔ K (.str (numT n)) := callsTo_iff (sFormatInt_c h0 h1)
attribute [simp] sFormatInt_s
/-- the text of a question -/
def quesT (a b : Int) (c : Bool) (d : Int) : ByteArray := if (ruleT a b).toList.isEmpty = true then ⟨#[]⟩ else if c = true then ruleT a b ++ ⟨#[32, 121, 101, 115]⟩ else ruleT a b ++ ⟨#[32, 110, 111, 32]⟩ ++ numT d
theorem iQuestionText_c {a b d : Int} {c : Bool} (h0 : -1 ≤ d) (h1 : d ≤ 8) : EvC env 15 [.agg [.int .i64 a, .int .i64 b, .bool c, .int .i64 d]] (.str (quesT a b c d)) := by
  refine evC_of (F := Tryz.f15) rfl rfl (Nat.le_of_ble_eq_true rfl) ?_
  have hz := ruleT_size a b
  have hn := numT_size d h0 h1
  have hnum := numF_eq h0 h1
  change numF [.int .i64 d] = some (.str (numT d)) at hnum
  unfold quesT
  obtain ⟨R, hR⟩ : ∃ R, ruleT a b = R := ⟨_, rfl⟩
  obtain ⟨D, hD⟩ : ∃ D, numT d = D := ⟨_, rfl⟩
  rw [hR] at hz ⊢
  rw [hD] at hn hnum ⊢
  have z1 : (⟨#[32, 121, 101, 115]⟩ : ByteArray).size = 4 := rfl
  have z2 : (⟨#[32, 110, 111, 32]⟩ : ByteArray).size = 4 := rfl
  have ha1 := bin_sadd R ⟨#[32, 121, 101, 115]⟩ (by omega)
  have ha2 := bin_sadd R ⟨#[32, 110, 111, 32]⟩ (by omega)
  have ha3 := bin_sadd (R ++ ⟨#[32, 110, 111, 32]⟩) D (by rw [ByteArray.size_append]; omega)
  clear hz hn z1 z2 hD
  obtain ⟨B, hB⟩ : ∃ B, R.toList.isEmpty = B := ⟨_, rfl⟩
  rw [hB]
  cases B with
  | true => cases c <;> repeat' (first | (apply brI <;> intro hb hb2 <;> (try simp [-Int.not_le, -Int.not_lt, -Nat.not_le, -Nat.not_lt, -Nat.add_left_cancel_iff] at hb2)) | (refine draw_listA (by rfl) (by kernel_rfl) ?_) | (refine draw_listB (by simp [allocsOf, isAlloc]; rfl) (by kernel_rfl) ?_) | simp (maxSteps := 2000000) (disch := first | omega | assumption | simp [*]) [*, -Int.not_le, -Int.not_lt, -Nat.not_le, -Nat.not_lt, -Nat.add_left_cancel_iff, wrap_i64, wrap_u64, Tryz.f15])
  | false =>
    cases c with
    | true => repeat' (first | (apply brI <;> intro hb hb2 <;> (try simp [-Int.not_le, -Int.not_lt, -Nat.not_le, -Nat.not_lt, -Nat.add_left_cancel_iff] at hb2)) | (refine draw_listA (by rfl) (by kernel_rfl) ?_) | (refine draw_listB (by simp [allocsOf, isAlloc]; rfl) (by kernel_rfl) ?_) | simp (maxSteps := 2000000) (disch := first | omega | assumption | simp [*]) [*, -Int.not_le, -Int.not_lt, -Nat.not_le, -Nat.not_lt, -Nat.add_left_cancel_iff, wrap_i64, wrap_u64, Tryz.f15])
    | false =>
      repeat' (first | (apply brI <;> intro hb hb2 <;> (try simp [-Int.not_le, -Int.not_lt, -Nat.not_le, -Nat.not_lt, -Nat.add_left_cancel_iff] at hb2)) | (refine draw_listA (by rfl) (by kernel_rfl) ?_) | (refine draw_listB (by simp [allocsOf, isAlloc]; rfl) (by kernel_rfl) ?_) | simp (maxSteps := 2000000) (disch := first | omega | assumption | simp [*]) [*, -Int.not_le, -Int.not_lt, -Nat.not_le, -Nat.not_lt, -Nat.add_left_cancel_iff, wrap_i64, wrap_u64, Tryz.f15])
      refine cf_ext rfl (r := .str D) hnum ?_
      repeat' (first | (apply brI <;> intro hb hb2 <;> (try simp [-Int.not_le, -Int.not_lt, -Nat.not_le, -Nat.not_lt, -Nat.add_left_cancel_iff] at hb2)) | (refine draw_listA (by rfl) (by kernel_rfl) ?_) | (refine draw_listB (by simp [allocsOf, isAlloc]; rfl) (by kernel_rfl) ?_) | simp (maxSteps := 2000000) (disch := first | omega | assumption | simp [*]) [*, -Int.not_le, -Int.not_lt, -Nat.not_le, -Nat.not_lt, -Nat.add_left_cancel_iff, wrap_i64, wrap_u64])
theorem iQuestionText_s {a b d : Int} {c : Bool} (h0 : -1 ≤ d) (h1 : d ≤ 8) {K : AV → Prop} {tg : Tg K} : CW env 15 [.agg [.int .i64 a, .int .i64 b, .bool c, .int .i64 d]] K tg ↔ K (.str (quesT a b c d)) := callsTo_iff (iQuestionText_c h0 h1)
attribute [simp] iQuestionText_s
theorem sQuestionText_c {a b d : Int} {c : Bool} (h0 : -1 ≤ d) (h1 : d ≤ 8) : EvC env 16 [.agg [.int .i64 a, .int .i64 b, .bool c, .int .i64 d]] (.str (quesT a b c d)) := by
  refine evC_of (F := Tryz.f16) rfl rfl (Nat.le_of_ble_eq_true rfl) ?_
  have hz := ruleT_size a b
  have hn := numT_size d h0 h1
  unfold quesT
  obtain ⟨R, hR⟩ : ∃ R, ruleT a b = R := ⟨_, rfl⟩
  obtain ⟨D, hD⟩ : ∃ D, numT d = D := ⟨_, rfl⟩
  rw [hR] at hz ⊢
  rw [hD] at hn ⊢
  have z1 : (⟨#[32, 121, 101, 115]⟩ : ByteArray).size = 4 := rfl
  have z2 : (⟨#[32, 110, 111, 32]⟩ : ByteArray).size = 4 := rfl
  have ha1 := bin_sadd R ⟨#[32, 121, 101, 115]⟩ (by omega)
  have ha2 := bin_sadd R ⟨#[32, 110, 111, 32]⟩ (by omega)
  have ha3 := bin_sadd (R ++ ⟨#[32, 110, 111, 32]⟩) D (by rw [ByteArray.size_append]; omega)
  clear hz hn z1 z2
  obtain ⟨B, hB⟩ : ∃ B, R.toList.isEmpty = B := ⟨_, rfl⟩
  rw [hB]
  cases B <;> cases c <;> repeat' (first | (apply brI <;> intro hb hb2 <;> (try simp [-Int.not_le, -Int.not_lt, -Nat.not_le, -Nat.not_lt, -Nat.add_left_cancel_iff] at hb2)) | (refine draw_listA (by rfl) (by kernel_rfl) ?_) | (refine draw_listB (by simp [allocsOf, isAlloc]; rfl) (by kernel_rfl) ?_) | simp (maxSteps := 2000000) (disch := first | omega | assumption | simp [*]) [*, -Int.not_le, -Int.not_lt, -Nat.not_le, -Nat.not_lt, -Nat.add_left_cancel_iff, wrap_i64, wrap_u64, Tryz.f16])
theorem sQuestionText_s {a b d : Int} {c : Bool} (h0 : -1 ≤ d) (h1 : d ≤ 8) {K : AV → Prop} {tg : Tg K} : CW env 16 [.agg [.int .i64 a, .int .i64 b, .bool c, .int .i64 d]] K tg ↔ K (.str (quesT a b c d)) := callsTo_iff (sQuestionText_c h0 h1)
attribute [simp] sQuestionText_s
end Go.Proofs.YtlglhokpaplifaaGreatDoor
