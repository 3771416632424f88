/- XDrawC XDrawB, joined. Conditions: none. -/
import Derived.Test.YtlglhokpaplifaaGreatDoorDraw
import Derived.Test.YtlglhokpaplifaaGreatDoorBaseA
/- What is drawn for contexts: open calls. Conditions: none. -/
namespace Go.Proofs.YtlglhokpaplifaaGreatDoor
open Ev
set_option linter.unusedVariables false
set_option linter.unusedSimpArgs false
set_option maxHeartbeats 4000000

theorem isI_lit2 {xs : List Int} {es : List AV} (he : es = ints xs) (hl : xs.length ≤ top63) (hx : xs ≠ []) : IsI (.sl 1 .lit es) := by
  subst he; exact isI_lit1 hl
theorem l2Bent_o {key g : Nat} {b : AV} {h : Heap} {off : Nat} {K : AV → Heap → Prop} (hb : IsB b) (hl : bLen b ≤ 1073741824) (hc : Cur h key g b) (hK : ∀ (z : Int) h', Cur h' key g b → (∀ y, y ≠ key → h' y = h y) → K (.int .i64 z) h') : OpenTo env 59 [.vp key g 0] h off K := by
  refine openTo_of (F := Tryz.f59) rfl rfl (Nat.le_of_ble_eq_true rfl) ?_
  repeat' (first | (apply brI <;> intro hb hb2 <;> (try simp [-Int.not_le, -Int.not_lt, -Nat.not_le, -Nat.not_lt, -Nat.add_left_cancel_iff] at hb2)) | (refine draw_listA (by rfl) (by kernel_rfl) ?_) | (refine draw_listB (by simp [allocsOf, isAlloc]; rfl) (by kernel_rfl) ?_) | simp (maxSteps := 2000000) (disch := first | omega | assumption | simp [*]) [*, -Int.not_le, -Int.not_lt, -Nat.not_le, -Nat.not_lt, -Nat.add_left_cancel_iff, wrap_i64, wrap_u64, Tryz.f59])
  refine cf_open rfl rfl (l1Once_o hb hl hc fun c1 h1 hc1 hf1 => ?_)
  cases c1 with
  | true =>
    have hv : IsI (.sl 1 .lit [.int .i64 (-1), .int .i64 256, .int .i64 1000, .int .i64 (-9223372036854775808)]) := isI_lit1 (xs := [-1, 256, 1000, -9223372036854775808]) (by decide)
    have hr : [0, 1, 2, 3] = List.range 4 := rfl
    repeat' (first | (apply brI <;> intro hb hb2 <;> (try simp [-Int.not_le, -Int.not_lt, -Nat.not_le, -Nat.not_lt, -Nat.add_left_cancel_iff] at hb2)) | (refine draw_listA (by rfl) (by kernel_rfl) ?_) | (refine draw_listB (by simp [allocsOf, isAlloc]; rfl) (by kernel_rfl) ?_) | simp (maxSteps := 2000000) (disch := first | omega | assumption | simp [*]) [*, -Int.not_le, -Int.not_lt, -Nat.not_le, -Nat.not_lt, -Nat.add_left_cancel_iff, wrap_i64, wrap_u64])
    refine cf_open rfl rfl (l1PickInt_o hb hl hc1 hv (by simp [xsOf]) fun j h2 hj hc2 hf2 => ?_)
    generalize nth (xsOf (.sl 1 .lit [.int .i64 (-1), .int .i64 256, .int .i64 1000, .int .i64 (-9223372036854775808)])) j = z
    have hK2 := hK z h2 hc2 fun y hy => (hf2 y hy).trans (hf1 y hy)
    clear hK hf1 hf2
    repeat' (first | (apply brI <;> intro hb hb2 <;> (try simp [-Int.not_le, -Int.not_lt, -Nat.not_le, -Nat.not_lt, -Nat.add_left_cancel_iff] at hb2)) | (refine draw_listA (by rfl) (by kernel_rfl) ?_) | (refine draw_listB (by simp [allocsOf, isAlloc]; rfl) (by kernel_rfl) ?_) | simp (maxSteps := 2000000) (disch := first | omega | assumption | simp [*]) [*, -Int.not_le, -Int.not_lt, -Nat.not_le, -Nat.not_lt, -Nat.add_left_cancel_iff, wrap_i64, wrap_u64])
  | false =>
    repeat' (first | (apply brI <;> intro hb hb2 <;> (try simp [-Int.not_le, -Int.not_lt, -Nat.not_le, -Nat.not_lt, -Nat.add_left_cancel_iff] at hb2)) | (refine draw_listA (by rfl) (by kernel_rfl) ?_) | (refine draw_listB (by simp [allocsOf, isAlloc]; rfl) (by kernel_rfl) ?_) | simp (maxSteps := 2000000) (disch := first | omega | assumption | simp [*]) [*, -Int.not_le, -Int.not_lt, -Nat.not_le, -Nat.not_lt, -Nat.add_left_cancel_iff, wrap_i64, wrap_u64])
    refine cf_open rfl rfl (l1Below_o hb hl hc1 fun x h2 hx _ _ hc2 hf2 => ?_)
    have hK2 := hK x h2 hc2 fun y hy => (hf2 y hy).trans (hf1 y hy)
    clear hK hf1 hf2
    repeat' (first | (apply brI <;> intro hb hb2 <;> (try simp [-Int.not_le, -Int.not_lt, -Nat.not_le, -Nat.not_lt, -Nat.add_left_cancel_iff] at hb2)) | (refine draw_listA (by rfl) (by kernel_rfl) ?_) | (refine draw_listB (by simp [allocsOf, isAlloc]; rfl) (by kernel_rfl) ?_) | simp (maxSteps := 2000000) (disch := first | omega | assumption | simp [*]) [*, -Int.not_le, -Int.not_lt, -Nat.not_le, -Nat.not_lt, -Nat.add_left_cancel_iff, wrap_i64, wrap_u64])
theorem or_lt2 {x y : Int} {N : Nat} (hx : 0 ≤ x ∧ x < 2 ^ N) (hy : 0 ≤ y ∧ y < 2 ^ N) : 0 ≤ (((x.toNat ||| y.toNat : Nat)) : Int) ∧ (((x.toNat ||| y.toNat : Nat)) : Int) < 2 ^ N := by
  have e : ((2 ^ N : Nat) : Int) = (2 : Int) ^ N := by push_cast; rfl
  have h1 : x.toNat < 2 ^ N := by have := hx.2; omega
  have h2 : y.toNat < 2 ^ N := by have := hy.2; omega
  have := Nat.or_lt_two_pow h1 h2
  omega
/-- a context that is being drawn: its rows lie at rk -/
def CDr (h : Heap) (rk : Nat) (v : AV) (N k : Nat) : Prop := ∃ xs : List Int, Buf h 3 rk 0 v xs ∧ xs.length = k ∧ ∀ x ∈ xs, 0 ≤ x ∧ x < 2 ^ N
def MkSt (h0 h : Heap) (off key g : Nat) (b : AV) (N k : Nat) (a7 : AV) (g7 g6 : Nat) : Prop := ∃ (rk : Nat) (v : AV), (rk = off + 31 ∨ rk = off + 47) ∧ a7 = .vp (off + 7) g7 0 ∧ h (off + 7) = some (.var g7 26 (.agg [.int .i64 N, v])) ∧ h (off + 6) = some (.var g6 26 (.agg [.int .i64 0, .sl 0 .lit []])) ∧ CDr h rk v N k ∧ Cur h key g b ∧ ∀ y, y < off → y ≠ key → h y = h0 y
theorem l3Make_o {key g N M : Nat} {b : AV} {h : Heap} {off : Nat} {K : AV → Heap → Prop} (hb : IsB b) (hl : bLen b ≤ 1073741824) (hN : N ≤ 6) (hM : M ≤ 8) (hc : Cur h key g b) (hk : key < off) (hK : ∀ (rk k : Nat) (v : AV) h', (rk = off + 31 ∨ rk = off + 47) → k ≤ M → CDr h' rk v N k → Cur h' key g b → (∀ y, y < off → y ≠ key → h' y = h y) → K (.agg [.int .i64 N, v]) h') : OpenTo env 123 [.vp key g 0, .int .i64 N, .int .i64 M] h off K := by
  refine openTo_of (F := Tryz.f123) rfl rfl (Nat.le_of_ble_eq_true rfl) ?_
  have hpw := pow_small (i := N) (by omega)
  obtain ⟨g6, hg6⟩ : ∃ g6, nextG h (off + 6) = g6 := ⟨_, rfl⟩
  obtain ⟨g7, hg7⟩ : ∃ g7, nextG h (off + 7) = g7 := ⟨_, rfl⟩
  have hg6' := hg6
  simp only [nextG, Blk.g] at hg6'
  have hg7' := hg7
  simp only [nextG, Blk.g] at hg7'
  repeat' (first | (apply brI <;> intro hb hb2 <;> (try simp [-Int.not_le, -Int.not_lt, -Nat.not_le, -Nat.not_lt, -Nat.add_left_cancel_iff] at hb2)) | (refine draw_listA (by rfl) (by kernel_rfl) ?_) | (refine draw_listB (by simp [allocsOf, isAlloc]; rfl) (by kernel_rfl) ?_) | simp (maxSteps := 2000000) (disch := first | omega | assumption | simp [*]) [*, -Int.not_le, -Int.not_lt, -Nat.not_le, -Nat.not_lt, -Nat.add_left_cancel_iff, wrap_i64, wrap_u64, Tryz.f123])
  refine cf_open rfl rfl (l1Below_o hb hl (hc.keep (by rw [hset_other _ _ (by omega), hset_other _ _ (by omega)])) fun x1 h1 hx1 _ hy1 hc1 hf1 => ?_)
  have hz1 := hy1 (by omega)
  obtain ⟨k0, rfl⟩ : ∃ k0 : Nat, x1 = k0 := ⟨x1.toNat, by omega⟩
  have hkM : k0 ≤ M := by omega
  have hst : MkSt h h1 off key g b N 0 (.vp (off + 7) g7 0) g7 g6 := ⟨off + 31, .sl 0 .lit [], .inl rfl, rfl, by rw [hf1 _ (by omega), ← hg7]; simp [hset, nextG], by rw [hf1 _ (by omega), ← hg6]; simp [hset, nextG], ⟨[], buf_nil .., rfl, by simp⟩, hc1, fun y y1 y2 => by rw [hf1 y y2, hset_other _ _ (by omega), hset_other _ _ (by omega)]⟩
  clear hf1 hc1 hc hy1 hz1
  repeat' (first | (apply brI <;> intro hb hb2 <;> (try simp [-Int.not_le, -Int.not_lt, -Nat.not_le, -Nat.not_lt, -Nat.add_left_cancel_iff] at hb2)) | (refine draw_listA (by rfl) (by kernel_rfl) ?_) | (refine draw_listB (by simp [allocsOf, isAlloc]; rfl) (by kernel_rfl) ?_) | simp (maxSteps := 2000000) (disch := first | omega | assumption | simp [*]) [*, -Int.not_le, -Int.not_lt, -Nat.not_le, -Nat.not_lt, -Nat.add_left_cancel_iff, wrap_i64, wrap_u64])
  refine W_loopG k0 (fun k s h' => MkSt h h' off key g b N k (s 7) g7 g6 ∧ s 9 = .int .i64 k ∧ s 8 = .int .i64 k0 ∧ s 1 = .int .i64 N ∧ s 0 = .vp key g 0 ∧ s 6 = .vp (off + 6) g6 0) ?_ ?_
  · simp [*]
  clear hst
  rintro k s h2 hk2 ⟨⟨rk, v, hrk, h7, e7, e6, ⟨xs, hB, hxl, hxx⟩, hc2, hfr⟩, h9, h8, h1', h0, h6⟩
  have ov := hB.one
  have cv := hB.cells
  by_cases hk3 : k < k0
  · repeat' (first | (apply brI <;> intro hb hb2 <;> (try simp [-Int.not_le, -Int.not_lt, -Nat.not_le, -Nat.not_lt, -Nat.add_left_cancel_iff] at hb2)) | (refine draw_listA (by rfl) (by kernel_rfl) ?_) | (refine draw_listB (by simp [allocsOf, isAlloc]; rfl) (by kernel_rfl) ?_) | simp (maxSteps := 2000000) (disch := first | omega | assumption | simp [*]) [*, -Int.not_le, -Int.not_lt, -Nat.not_le, -Nat.not_lt, -Nat.add_left_cancel_iff, wrap_i64, wrap_u64, h7, h9, h8, h1', h0, h6, e7])
    refine cf_open rfl rfl (l1Once_o hb hl hc2 fun c3 h3 hc3 hf3 => ?_)
    have e37 := (hf3 (off + 7) (by omega)).trans e7
    have e36 := (hf3 (off + 6) (by omega)).trans e6
    have hB3 := hB.keep (hf3 rk (by omega))
    have hfr3 : ∀ y, y < off → y ≠ key → h3 y = h y := fun y y1 y2 => (hf3 y y2).trans (hfr y y1 y2)
    clear hf3 e7 e6 hB hfr hc2
    cases c3 with
    | true =>
      repeat' (first | (apply brI <;> intro hb hb2 <;> (try simp [-Int.not_le, -Int.not_lt, -Nat.not_le, -Nat.not_lt, -Nat.add_left_cancel_iff] at hb2)) | simp (maxSteps := 2000000) (disch := first | omega | assumption | simp [*]) [*, -Int.not_le, -Int.not_lt, -Nat.not_le, -Nat.not_lt, -Nat.add_left_cancel_iff, wrap_i64, wrap_u64, h7, h9, h8, h1', h0, h6, e37])
      refine draw_listK [23, 7] [0, 1, 0, 0, 0, 0, 2, 0, 0, 0, 0] (by kernel_rfl) (by kernel_rfl) (by kernel_rfl) (by kernel_rfl) ?_
      repeat' (first | (apply brI <;> intro hb hb2 <;> (try simp [-Int.not_le, -Int.not_lt, -Nat.not_le, -Nat.not_lt, -Nat.add_left_cancel_iff] at hb2)) | simp (maxSteps := 2000000) (disch := first | omega | assumption | simp [*]) [*, -Int.not_le, -Int.not_lt, -Nat.not_le, -Nat.not_lt, -Nat.add_left_cancel_iff, wrap_i64, wrap_u64, h7, h9, h8, h1', h0, h6, e37])
      refine cf_open rfl rfl (l1Below_o hb hl hc3 fun x h4 hx _ hy hc4 hf4 => ?_)
      have hz := hy (by omega)
      refine ⟨fun d hd9 => hf4 _ (by simp only [List.mem_cons, List.not_mem_nil, or_false] at hd9; omega), ?_⟩
      have e47 := (hf4 (off + 7) (by omega)).trans e37
      have e46 := (hf4 (off + 6) (by omega)).trans e36
      have hB4 := hB3.keep (hf4 rk (by omega))
      have hfr4 : ∀ y, y < off → y ≠ key → h4 y = h y := fun y y1 y2 => (hf4 y y2).trans (hfr3 y y1 y2)
      clear hy hf4 e37 e36 hB3 hfr3 hc3
      repeat' (first | (apply brI <;> intro hb hb2 <;> (try simp [-Int.not_le, -Int.not_lt, -Nat.not_le, -Nat.not_lt, -Nat.add_left_cancel_iff] at hb2)) | simp (maxSteps := 2000000) (disch := first | omega | assumption | simp [*]) [*, -Int.not_le, -Int.not_lt, -Nat.not_le, -Nat.not_lt, -Nat.add_left_cancel_iff, wrap_i64, wrap_u64, h7, h9, h8, h1', h0, h6, e47, bits_or])
      refine wa_pushS hB4 (by simp) (by simp) (by omega) ?_
      intro rk6 v6 h6' hrk6 hB6 hk6
      have o6 := hB6.one
      have c6 := hB6.cells
      have hrk7 : rk6 = off + 31 ∨ rk6 = off + 47 := by omega
      have e67 := (hk6 (off + 7) (by omega)).trans e47
      have e66 := (hk6 (off + 6) (by omega)).trans e46
      have hc6 := hc4.keep (hk6 key (by omega))
      have hfr6 : ∀ y, y < off → y ≠ key → h6' y = h y := fun y y1 y2 => (hk6 y (by omega)).trans (hfr4 y y1 y2)
      have hnew : ∀ h', h' (off + 7) = some (.var g7 26 (.agg [.int .i64 N, v6])) → (∀ y, y ≠ off + 7 → h' y = h6' y) → MkSt h h' off key g b N (k + 1) (.vp (off + 7) g7 0) g7 g6 := fun h' e1 e2 =>
        ⟨rk6, v6, hrk7, rfl, e1, by rw [e2 _ (by omega)]; exact e66, ⟨_, hB6.keep (e2 _ (by omega)), by simp [hxl], fun z hz9 => by
          rw [List.mem_append, List.mem_singleton] at hz9
          rcases hz9 with hz9 | rfl
          · exact hxx z hz9
          · exact ⟨hx, hz⟩⟩, hc6.keep (e2 _ (by omega)), fun y y1 y2 => by rw [e2 _ (by omega)]; exact hfr6 y y1 y2⟩
      clear hk6 e47 e46 hB4 hfr4 hc4 hrk6 hB6 hc6 hfr6 e66
      repeat' (first | (apply brI <;> intro hb hb2 <;> (try simp [-Int.not_le, -Int.not_lt, -Nat.not_le, -Nat.not_lt, -Nat.add_left_cancel_iff] at hb2)) | simp (maxSteps := 2000000) (disch := first | omega | assumption | simp [*]) [*, -Int.not_le, -Int.not_lt, -Nat.not_le, -Nat.not_lt, -Nat.add_left_cancel_iff, wrap_i64, wrap_u64, h7, h9, h8, h1', h0, h6, e67])
      exact hnew _ (hset_same ..) fun y hy => hset_other _ _ hy
    | false =>
      repeat' (first | (apply brI <;> intro hb hb2 <;> (try simp [-Int.not_le, -Int.not_lt, -Nat.not_le, -Nat.not_lt, -Nat.add_left_cancel_iff] at hb2)) | simp (maxSteps := 2000000) (disch := first | omega | assumption | simp [*]) [*, -Int.not_le, -Int.not_lt, -Nat.not_le, -Nat.not_lt, -Nat.add_left_cancel_iff, wrap_i64, wrap_u64, h7, h9, h8, h1', h0, h6, e37])
      refine draw_listK [33, 7] [0, 1, 0, 0, 0, 0, 2, 0, 0, 0, 0, 2, 0, 0, 0, 0, 0] (by kernel_rfl) (by kernel_rfl) (by kernel_rfl) (by kernel_rfl) ?_
      repeat' (first | (apply brI <;> intro hb hb2 <;> (try simp [-Int.not_le, -Int.not_lt, -Nat.not_le, -Nat.not_lt, -Nat.add_left_cancel_iff] at hb2)) | simp (maxSteps := 2000000) (disch := first | omega | assumption | simp [*]) [*, -Int.not_le, -Int.not_lt, -Nat.not_le, -Nat.not_lt, -Nat.add_left_cancel_iff, wrap_i64, wrap_u64, h7, h9, h8, h1', h0, h6, e37])
      refine cf_open rfl rfl (l1Below_o hb hl hc3 fun x h4 hx _ hy hc4 hf4 => ?_)
      have hz := hy (by omega)
      refine ⟨fun d hd9 => hf4 _ (by simp only [List.mem_cons, List.not_mem_nil, or_false] at hd9; omega), ?_⟩
      have e47 := (hf4 (off + 7) (by omega)).trans e37
      have e46 := (hf4 (off + 6) (by omega)).trans e36
      have hB4 := hB3.keep (hf4 rk (by omega))
      have hfr4 : ∀ y, y < off → y ≠ key → h4 y = h y := fun y y1 y2 => (hf4 y y2).trans (hfr3 y y1 y2)
      clear hy hf4 e37 e36 hB3 hfr3 hc3
      repeat' (first | (apply brI <;> intro hb hb2 <;> (try simp [-Int.not_le, -Int.not_lt, -Nat.not_le, -Nat.not_lt, -Nat.add_left_cancel_iff] at hb2)) | simp (maxSteps := 2000000) (disch := first | omega | assumption | simp [*]) [*, -Int.not_le, -Int.not_lt, -Nat.not_le, -Nat.not_lt, -Nat.add_left_cancel_iff, wrap_i64, wrap_u64, h7, h9, h8, h1', h0, h6, e47])
      refine cf_open rfl rfl (l1Below_o hb hl hc4 fun x2 h5 hx2 _ hy2 hc5 hf5 => ?_)
      have hz2 := hy2 (by omega)
      refine ⟨fun d hd9 => hf5 _ (by simp only [List.mem_cons, List.not_mem_nil, or_false] at hd9; omega), ?_⟩
      have e57 := (hf5 (off + 7) (by omega)).trans e47
      have e56 := (hf5 (off + 6) (by omega)).trans e46
      have hB5 := hB4.keep (hf5 rk (by omega))
      have hfr5 : ∀ y, y < off → y ≠ key → h5 y = h y := fun y y1 y2 => (hf5 y y2).trans (hfr4 y y1 y2)
      have hor : 0 ≤ (((x.toNat ||| x2.toNat : Nat)) : Int) ∧ (((x.toNat ||| x2.toNat : Nat)) : Int) < 2 ^ N := or_lt2 ⟨hx, hz⟩ ⟨hx2, hz2⟩
      clear hy2 hf5 e47 e46 hB4 hfr4 hc4
      repeat' (first | (apply brI <;> intro hb hb2 <;> (try simp [-Int.not_le, -Int.not_lt, -Nat.not_le, -Nat.not_lt, -Nat.add_left_cancel_iff] at hb2)) | simp (maxSteps := 2000000) (disch := first | omega | assumption | simp [*]) [*, -Int.not_le, -Int.not_lt, -Nat.not_le, -Nat.not_lt, -Nat.add_left_cancel_iff, wrap_i64, wrap_u64, h7, h9, h8, h1', h0, h6, e57, bits_or])
      refine wa_pushS hB5 (by simp) (by simp) (by omega) ?_
      intro rk6 v6 h6' hrk6 hB6 hk6
      have o6 := hB6.one
      have c6 := hB6.cells
      have hrk7 : rk6 = off + 31 ∨ rk6 = off + 47 := by omega
      have e67 := (hk6 (off + 7) (by omega)).trans e57
      have e66 := (hk6 (off + 6) (by omega)).trans e56
      have hc6 := hc5.keep (hk6 key (by omega))
      have hfr6 : ∀ y, y < off → y ≠ key → h6' y = h y := fun y y1 y2 => (hk6 y (by omega)).trans (hfr5 y y1 y2)
      have hnew : ∀ h', h' (off + 7) = some (.var g7 26 (.agg [.int .i64 N, v6])) → (∀ y, y ≠ off + 7 → h' y = h6' y) → MkSt h h' off key g b N (k + 1) (.vp (off + 7) g7 0) g7 g6 := fun h' e1 e2 =>
        ⟨rk6, v6, hrk7, rfl, e1, by rw [e2 _ (by omega)]; exact e66, ⟨_, hB6.keep (e2 _ (by omega)), by simp [hxl], fun z hz9 => by
          rw [List.mem_append, List.mem_singleton] at hz9
          rcases hz9 with hz9 | rfl
          · exact hxx z hz9
          · exact hor⟩, hc6.keep (e2 _ (by omega)), fun y y1 y2 => by rw [e2 _ (by omega)]; exact hfr6 y y1 y2⟩
      clear hk6 e57 e56 hB5 hfr5 hc5 hrk6 hB6 hc6 hfr6 e66
      repeat' (first | (apply brI <;> intro hb hb2 <;> (try simp [-Int.not_le, -Int.not_lt, -Nat.not_le, -Nat.not_lt, -Nat.add_left_cancel_iff] at hb2)) | simp (maxSteps := 2000000) (disch := first | omega | assumption | simp [*]) [*, -Int.not_le, -Int.not_lt, -Nat.not_le, -Nat.not_lt, -Nat.add_left_cancel_iff, wrap_i64, wrap_u64, h7, h9, h8, h1', h0, h6, e67])
      exact hnew _ (hset_same ..) fun y hy => hset_other _ _ hy
  · obtain rfl : k = k0 := by omega
    have hK2 := hK rk k v h2 hrk hkM
    repeat' (first | (apply brI <;> intro hb hb2 <;> (try simp [-Int.not_le, -Int.not_lt, -Nat.not_le, -Nat.not_lt, -Nat.add_left_cancel_iff] at hb2)) | (refine draw_listA (by rfl) (by kernel_rfl) ?_) | (refine draw_listB (by simp [allocsOf, isAlloc]; rfl) (by kernel_rfl) ?_) | simp (maxSteps := 2000000) (disch := first | omega | assumption | simp [*]) [*, -Int.not_le, -Int.not_lt, -Nat.not_le, -Nat.not_lt, -Nat.add_left_cancel_iff, wrap_i64, wrap_u64, h7, h9, h8, h1', h0, h6, e7, e6])
    exact hK _ _ v _ hrk hkM ⟨xs, hB.keep (by rw [hset_other _ _ (by omega)]), hxl, hxx⟩ (hc2.keep (by rw [hset_other _ _ (by omega)])) fun y y1 y2 => by rw [hset_other _ _ (by omega)]; exact hfr y y1 y2
theorem CDr.keep {h h' : Heap} {rk : Nat} {v : AV} {N k : Nat} (hc : CDr h rk v N k) (e : h' rk = h rk) : CDr h' rk v N k := by
  obtain ⟨xs, a, b, c⟩ := hc
  exact ⟨xs, a.keep e, b, c⟩
theorem CDr.one {h : Heap} {rk : Nat} {v : AV} {N k : Nat} (hc : CDr h rk v N k) : v.one = true := by
  obtain ⟨xs, a, b, c⟩ := hc; exact a.one
theorem CDr.cells {h : Heap} {rk : Nat} {v : AV} {N k : Nat} (hc : CDr h rk v N k) : v.cells = [v] := by
  obtain ⟨xs, a, b, c⟩ := hc; exact a.cells
theorem l3Draw_o {key g : Nat} {b : AV} {h : Heap} {off : Nat} {K : AV → Heap → Prop} (hb : IsB b) (hl : bLen b ≤ 1073741824) (hc : Cur h key g b) (hk : key < off) (hK : ∀ (rk N k : Nat) (v : AV) h', (rk = off + 100031 ∨ rk = off + 100047) → N ≤ 5 → k ≤ 6 → CDr h' rk v N k → Cur h' key g b → (∀ y, y < off → y ≠ key → h' y = h y) → K (.agg [.int .i64 N, v]) h') : OpenTo env 106 [.vp key g 0] h off K := by
  refine openTo_of (F := Tryz.f106) rfl rfl (Nat.le_of_ble_eq_true rfl) ?_
  have hr : [0, 1, 2, 3, 4, 5, 6, 7, 8] = List.range 9 := rfl
  have hv : IsI (.sl 1 .lit [.int .i64 0, .int .i64 1, .int .i64 2, .int .i64 3, .int .i64 3, .int .i64 4, .int .i64 4, .int .i64 5, .int .i64 5]) := isI_lit1 (xs := [0, 1, 2, 3, 3, 4, 4, 5, 5]) (by decide)
  have hxs : xsOf (.sl 1 .lit [.int .i64 0, .int .i64 1, .int .i64 2, .int .i64 3, .int .i64 3, .int .i64 4, .int .i64 4, .int .i64 5, .int .i64 5]) = [0, 1, 2, 3, 3, 4, 4, 5, 5] := rfl
  obtain ⟨g2, hg2⟩ : ∃ g2, nextG h (off + 2) = g2 := ⟨_, rfl⟩
  have hg2' := hg2
  simp only [nextG, Blk.g] at hg2'
  repeat' (first | (apply brI <;> intro hb hb2 <;> (try simp [-Int.not_le, -Int.not_lt, -Nat.not_le, -Nat.not_lt, -Nat.add_left_cancel_iff] at hb2)) | (refine draw_listA (by rfl) (by kernel_rfl) ?_) | (refine draw_listB (by simp [allocsOf, isAlloc]; rfl) (by kernel_rfl) ?_) | simp (maxSteps := 2000000) (disch := first | omega | assumption | simp [*]) [*, -Int.not_le, -Int.not_lt, -Nat.not_le, -Nat.not_lt, -Nat.add_left_cancel_iff, wrap_i64, wrap_u64, Tryz.f106])
  refine cf_open rfl rfl (l1PickInt_o hb hl (hc.keep (hset_other _ _ (by omega))) hv (by rw [hxs]; decide) fun j h1 hj hc1 hf1 => ?_)
  rw [hxs] at hj ⊢
  have e12 : h1 (off + 2) = some (.var g2 26 (.agg [.int .i64 0, .sl 0 .lit []])) := by rw [hf1 _ (by omega), ← hg2]; exact hset_same ..
  have hfr1 : ∀ y, y < off → y ≠ key → h1 y = h y := fun y y1 y2 => by rw [hf1 y y2, hset_other _ _ (by omega)]
  have hN : ∃ N : Nat, nth [0, 1, 2, 3, 3, 4, 4, 5, 5] j = (N : Int) ∧ N ≤ 5 := by
    have hj9 : j < 9 := hj
    have : ∀ j : Fin 9, ∃ N : Fin 6, nth [0, 1, 2, 3, 3, 4, 4, 5, 5] j.val = (N.val : Int) := by decide
    obtain ⟨N, hN⟩ := this ⟨j, hj9⟩
    exact ⟨N.val, hN, by omega⟩
  obtain ⟨N, hN1, hN5⟩ := hN
  rw [hN1]
  clear hf1 hr hv hxs hj hN1 hc hg2 hg2'
  repeat' (first | (apply brI <;> intro hb hb2 <;> (try simp [-Int.not_le, -Int.not_lt, -Nat.not_le, -Nat.not_lt, -Nat.add_left_cancel_iff] at hb2)) | (refine draw_listA (by rfl) (by kernel_rfl) ?_) | (refine draw_listB (by simp [allocsOf, isAlloc]; rfl) (by kernel_rfl) ?_) | simp (maxSteps := 2000000) (disch := first | omega | assumption | simp [*]) [*, -Int.not_le, -Int.not_lt, -Nat.not_le, -Nat.not_lt, -Nat.add_left_cancel_iff, wrap_i64, wrap_u64])
  refine cf_open rfl rfl (l3Make_o (M := 6) hb hl (by omega) (by decide) hc1 (by simp only [farOff]; omega) fun rk k v h2 hrk hkM hp hc2 hf2 => ?_)
  simp only [farOff] at hrk hf2
  have ov := hp.one
  have cv := hp.cells
  have e22 := (hf2 (off + 2) (by omega) (by omega)).trans e12
  have hend : ∀ h', (∀ y, y ≠ off + 2 → h' y = h2 y) → K (.agg [.int .i64 N, v]) h' := fun h' e => hK rk N k v h' (by omega) hN5 hkM (hp.keep (e _ (by omega))) (hc2.keep (e _ (by omega))) fun y y1 y2 => by rw [e _ (by omega), hf2 y (by omega) y2]; exact hfr1 y y1 y2
  clear hf2 hK hp hc2 hc1 hfr1 e12
  repeat' (first | (apply brI <;> intro hb hb2 <;> (try simp [-Int.not_le, -Int.not_lt, -Nat.not_le, -Nat.not_lt, -Nat.add_left_cancel_iff] at hb2)) | (refine draw_listA (by rfl) (by kernel_rfl) ?_) | (refine draw_listB (by simp [allocsOf, isAlloc]; rfl) (by kernel_rfl) ?_) | simp (maxSteps := 2000000) (disch := first | omega | assumption | simp [*]) [*, -Int.not_le, -Int.not_lt, -Nat.not_le, -Nat.not_lt, -Nat.add_left_cancel_iff, wrap_i64, wrap_u64, e22])
  exact hend _ fun y hy => hset_other _ _ hy
/-- a context that was drawn, bent perhaps -/
def CBt (h : Heap) (rk : Nat) (v : AV) : Prop := ∃ xs : List Int, Buf h 3 rk 0 v xs ∧ xs.length ≤ 9
theorem CBt.keep {h h' : Heap} {rk : Nat} {v : AV} (hc : CBt h rk v) (e : h' rk = h rk) : CBt h' rk v := by
  obtain ⟨xs, a, b⟩ := hc
  exact ⟨xs, a.keep e, b⟩
theorem CBt.one {h : Heap} {rk : Nat} {v : AV} (hc : CBt h rk v) : v.one = true := by
  obtain ⟨xs, a, b⟩ := hc; exact a.one
theorem CBt.cells {h : Heap} {rk : Nat} {v : AV} (hc : CBt h rk v) : v.cells = [v] := by
  obtain ⟨xs, a, b⟩ := hc; exact a.cells
def PadSt (h0 h : Heap) (off key g : Nat) (b : AV) (N i g3 g2 : Nat) (a3 : AV) : Prop := ∃ (rk : Nat) (v : AV) (xs : List Int), off + 4 < rk ∧ rk ≠ off + 4 ∧ a3 = .vp (off + 3) g3 0 ∧ h (off + 3) = some (.var g3 26 (.agg [.int .i64 N, v])) ∧ h (off + 2) = some (.var g2 26 (.agg [.int .i64 0, .sl 0 .lit []])) ∧ Buf h 3 rk 0 v xs ∧ i ≤ xs.length ∧ xs.length ≤ 9 ∧ Cur h key g b ∧ ∀ y, y < off → y ≠ key → h y = h0 y
theorem l3Bent_o {key g : Nat} {b : AV} {h : Heap} {off : Nat} {K : AV → Heap → Prop} (hb : IsB b) (hl : bLen b ≤ 1073741824) (hc : Cur h key g b) (hk : key < off) (hK : ∀ (n : Int) (rk : Nat) (v : AV) h', off ≤ rk → rk ≠ off + 4 → CBt h' rk v → Cur h' key g b → (∀ y, y < off → y ≠ key → h' y = h y) → K (.agg [.int .i64 n, v]) h') : OpenTo env 77 [.vp key g 0] h off K := by
  refine openTo_of (F := Tryz.f77) rfl rfl (Nat.le_of_ble_eq_true rfl) ?_
  obtain ⟨g2, hg2⟩ : ∃ g2, nextG h (off + 2) = g2 := ⟨_, rfl⟩
  have hg2' := hg2
  simp only [nextG, Blk.g] at hg2'
  repeat' (first | (apply brI <;> intro hb hb2 <;> (try simp [-Int.not_le, -Int.not_lt, -Nat.not_le, -Nat.not_lt, -Nat.add_left_cancel_iff] at hb2)) | (refine draw_listA (by rfl) (by kernel_rfl) ?_) | (refine draw_listB (by simp [allocsOf, isAlloc]; rfl) (by kernel_rfl) ?_) | simp (maxSteps := 2000000) (disch := first | omega | assumption | simp [*]) [*, -Int.not_le, -Int.not_lt, -Nat.not_le, -Nat.not_lt, -Nat.add_left_cancel_iff, wrap_i64, wrap_u64, Tryz.f77])
  refine cf_open rfl rfl (l3Draw_o hb hl (hc.keep (hset_other _ _ (by omega))) (by simp only [farOff]; omega) fun rk N k v h1 hrk hN5 hk6 hp hc1 hf1 => ?_)
  simp only [farOff] at hrk hf1
  obtain ⟨xs, hB1, hxl, _⟩ := hp
  have ov := hB1.one
  have cv := hB1.cells
  have e12 : h1 (off + 2) = some (.var g2 26 (.agg [.int .i64 0, .sl 0 .lit []])) := by rw [hf1 _ (by omega) (by omega), ← hg2]; exact hset_same ..
  have hfr1 : ∀ y, y < off → y ≠ key → h1 y = h y := fun y y1 y2 => by rw [hf1 y (by omega) y2, hset_other _ _ (by omega)]
  obtain ⟨g3, hg3⟩ : ∃ g3, nextG h1 (off + 3) = g3 := ⟨_, rfl⟩
  have hg3' := hg3
  simp only [nextG, Blk.g] at hg3'
  clear hf1 hc
  repeat' (first | (apply brI <;> intro hb hb2 <;> (try simp [-Int.not_le, -Int.not_lt, -Nat.not_le, -Nat.not_lt, -Nat.add_left_cancel_iff] at hb2)) | (refine draw_listA (by rfl) (by kernel_rfl) ?_) | (refine draw_listB (by simp [allocsOf, isAlloc]; rfl) (by kernel_rfl) ?_) | simp (maxSteps := 2000000) (disch := first | omega | assumption | simp [*]) [*, -Int.not_le, -Int.not_lt, -Nat.not_le, -Nat.not_lt, -Nat.add_left_cancel_iff, wrap_i64, wrap_u64])
  refine cf_open rfl rfl (l1Below_o hb hl (hc1.keep (hset_other _ _ (by omega))) fun x h2 hx _ _ hc2 hf2 => ?_)
  have e22 : h2 (off + 2) = some (.var g2 26 (.agg [.int .i64 0, .sl 0 .lit []])) := by rw [hf2 _ (by omega), hset_other _ _ (by omega)]; exact e12
  have e23 : h2 (off + 3) = some (.var g3 26 (.agg [.int .i64 N, v])) := by rw [hf2 _ (by omega), ← hg3]; exact hset_same ..
  have hfr2 : ∀ y, y < off → y ≠ key → h2 y = h y := fun y y1 y2 => by rw [hf2 y y2, hset_other _ _ (by omega), hfr1 y y1 y2]
  have hB2 := hB1.keep (h' := h2) (by rw [hf2 _ (by omega), hset_other _ _ (by omega)])
  clear hf2 hB1 hg3 hg3' hg2 hg2' e12 hfr1 hc1
  by_cases x0 : x = 0
  · subst x0
    have hr : [0, 1, 2, 3] = List.range 4 := rfl
    have hv : IsI (.sl 1 .lit [.int .i64 (-1), .int .i64 0, .int .i64 2, .int .i64 7]) := isI_lit1 (xs := [-1, 0, 2, 7]) (by decide)
    repeat' (first | (apply brI <;> intro hb hb2 <;> (try simp [-Int.not_le, -Int.not_lt, -Nat.not_le, -Nat.not_lt, -Nat.add_left_cancel_iff] at hb2)) | (refine draw_listA (by rfl) (by kernel_rfl) ?_) | (refine draw_listB (by simp [allocsOf, isAlloc]; rfl) (by kernel_rfl) ?_) | simp (maxSteps := 2000000) (disch := first | omega | assumption | simp [*]) [*, -Int.not_le, -Int.not_lt, -Nat.not_le, -Nat.not_lt, -Nat.add_left_cancel_iff, wrap_i64, wrap_u64, e23])
    refine cf_open rfl rfl (l1PickInt_o hb hl hc2 hv (by simp [xsOf]) fun j h4 hj hc4 hf4 => ?_)
    generalize nth (xsOf (.sl 1 .lit [.int .i64 (-1), .int .i64 0, .int .i64 2, .int .i64 7])) j = z
    have e42 := (hf4 (off + 2) (by omega)).trans e22
    have e43 := (hf4 (off + 3) (by omega)).trans e23
    have hend : ∀ h', (∀ y, y ≠ off + 2 → y ≠ off + 3 → h' y = h4 y) → K (.agg [.int .i64 z, v]) h' := fun h' e => hK z rk v h' (by omega) (by omega) ⟨xs, hB2.keep (by rw [e _ (by omega) (by omega), hf4 _ (by omega)]), by omega⟩ (hc4.keep (e _ (by omega) (by omega))) fun y y1 y2 => by rw [e _ (by omega) (by omega), hf4 _ y2]; exact hfr2 y y1 y2
    clear hr hv hf4 e22 e23 hK hB2 hc4 hc2 hfr2
    repeat' (first | (apply brI <;> intro hb hb2 <;> (try simp [-Int.not_le, -Int.not_lt, -Nat.not_le, -Nat.not_lt, -Nat.add_left_cancel_iff] at hb2)) | (refine draw_listA (by rfl) (by kernel_rfl) ?_) | (refine draw_listB (by simp [allocsOf, isAlloc]; rfl) (by kernel_rfl) ?_) | simp (maxSteps := 2000000) (disch := first | omega | assumption | simp [*]) [*, -Int.not_le, -Int.not_lt, -Nat.not_le, -Nat.not_lt, -Nat.add_left_cancel_iff, wrap_i64, wrap_u64, e42, e43])
    exact hend _ fun y y1 y2 => by rw [hset_other _ _ y1, hset_other _ _ y2]
  · by_cases x1 : x = 1
    · subst x1
      repeat' (first | (apply brI <;> intro hb hb2 <;> (try simp [-Int.not_le, -Int.not_lt, -Nat.not_le, -Nat.not_lt, -Nat.add_left_cancel_iff] at hb2)) | simp (maxSteps := 2000000) (disch := first | omega | assumption | simp [*]) [*, -Int.not_le, -Int.not_lt, -Nat.not_le, -Nat.not_lt, -Nat.add_left_cancel_iff, wrap_i64, wrap_u64, e23])
      refine draw_listK [16, 3] [0, 1, 0, 2, 0, 0, 0, 0] (by kernel_rfl) (by kernel_rfl) (by kernel_rfl) (by kernel_rfl) ?_
      repeat' (first | (apply brI <;> intro hb hb2 <;> (try simp [-Int.not_le, -Int.not_lt, -Nat.not_le, -Nat.not_lt, -Nat.add_left_cancel_iff] at hb2)) | simp (maxSteps := 2000000) (disch := first | omega | assumption | simp [*]) [*, -Int.not_le, -Int.not_lt, -Nat.not_le, -Nat.not_lt, -Nat.add_left_cancel_iff, wrap_i64, wrap_u64, e23])
      refine cf_open rfl rfl (l2Bent_o hb hl hc2 fun z h4 hc4 hf4 => ?_)
      refine ⟨fun d hd9 => hf4 _ (by simp only [List.mem_cons, List.not_mem_nil, or_false] at hd9; omega), ?_⟩
      have e42 := (hf4 (off + 2) (by omega)).trans e22
      have e43 := (hf4 (off + 3) (by omega)).trans e23
      have hB4 := hB2.keep (hf4 rk (by omega))
      have hfr4 : ∀ y, y < off → y ≠ key → h4 y = h y := fun y y1 y2 => (hf4 y y2).trans (hfr2 y y1 y2)
      clear hf4 e22 e23 hB2 hfr2 hc2
      repeat' (first | (apply brI <;> intro hb hb2 <;> (try simp [-Int.not_le, -Int.not_lt, -Nat.not_le, -Nat.not_lt, -Nat.add_left_cancel_iff] at hb2)) | simp (maxSteps := 2000000) (disch := first | omega | assumption | simp [*]) [*, -Int.not_le, -Int.not_lt, -Nat.not_le, -Nat.not_lt, -Nat.add_left_cancel_iff, wrap_i64, wrap_u64, e43])
      refine wa_pushS hB4 (by simp) (by simp) (by omega) ?_
      intro rk6 v6 h6' hrk6 hB6 hk6
      have o6 := hB6.one
      have c6 := hB6.cells
      have e62 := (hk6 (off + 2) (by omega)).trans e42
      have e63 := (hk6 (off + 3) (by omega)).trans e43
      have hend : ∀ h', (∀ y, y ≠ off + 2 → y ≠ off + 3 → h' y = h6' y) → K (.agg [.int .i64 N, v6]) h' := fun h' e => hK N rk6 v6 h' (by omega) (by omega) ⟨_, hB6.keep (e _ (by omega) (by omega)), by simp; omega⟩ (hc4.keep (by rw [e _ (by omega) (by omega), hk6 _ (by omega)])) fun y y1 y2 => by rw [e _ (by omega) (by omega), hk6 _ (by omega)]; exact hfr4 y y1 y2
      clear hk6 e42 e43 hK hB4 hc4 hfr4 hrk6 hB6
      repeat' (first | (apply brI <;> intro hb hb2 <;> (try simp [-Int.not_le, -Int.not_lt, -Nat.not_le, -Nat.not_lt, -Nat.add_left_cancel_iff] at hb2)) | simp (maxSteps := 2000000) (disch := first | omega | assumption | simp [*]) [*, -Int.not_le, -Int.not_lt, -Nat.not_le, -Nat.not_lt, -Nat.add_left_cancel_iff, wrap_i64, wrap_u64, e62, e63])
      exact hend _ fun y y1 y2 => by rw [hset_other _ _ y1, hset_other _ _ y2]
    · by_cases x2 : x = 2
      · subst x2
        repeat' (first | (apply brI <;> intro hb hb2 <;> (try simp [-Int.not_le, -Int.not_lt, -Nat.not_le, -Nat.not_lt, -Nat.add_left_cancel_iff] at hb2)) | (refine draw_listA (by rfl) (by kernel_rfl) ?_) | (refine draw_listB (by simp [allocsOf, isAlloc]; rfl) (by kernel_rfl) ?_) | simp (maxSteps := 2000000) (disch := first | omega | assumption | simp [*]) [*, -Int.not_le, -Int.not_lt, -Nat.not_le, -Nat.not_lt, -Nat.add_left_cancel_iff, wrap_i64, wrap_u64, e23])
        have hst : PadSt h h2 off key g b N 0 g3 g2 (.vp (off + 3) g3 0) := ⟨rk, v, xs, by omega, by omega, rfl, e23, e22, hB2, by omega, by omega, hc2, hfr2⟩
        clear e22 e23 hB2 hc2 hfr2
        refine W_loopG 9 (fun i s h' => PadSt h h' off key g b N i g3 g2 (s 3) ∧ s 2 = .vp (off + 2) g2 0) ?_ ?_
        · simp [*]
        clear hst ov cv
        rintro i s h4 hi ⟨⟨rk4, v4, xs4, hr1, hr2, h3, e43, e42, hB4, hl1, hl2, hc4, hfr4⟩, s2⟩
        have ov := hB4.one
        have cv := hB4.cells
        have hlen := fun E t ht => hB4.len (E := E) (t := t) ht
        by_cases hx9 : xs4.length < 9
        · have hx9i : (xs4.length : Int) < 9 := by omega
          repeat' (first | (apply brI <;> intro hb hb2 <;> (try simp [-Int.not_le, -Int.not_lt, -Nat.not_le, -Nat.not_lt, -Nat.add_left_cancel_iff] at hb2)) | (refine draw_listA (by rfl) (by kernel_rfl) ?_) | (refine draw_listB (by simp [allocsOf, isAlloc]; rfl) (by kernel_rfl) ?_) | simp (maxSteps := 2000000) (disch := first | omega | assumption | simp [*]) [*, -Int.not_le, -Int.not_lt, -Nat.not_le, -Nat.not_lt, -Nat.add_left_cancel_iff, wrap_i64, wrap_u64, h3, s2, e43])
          refine wa_pushS hB4 (by simp) (by simp) (by omega) ?_
          intro rk6 v6 h6' hrk6 hB6 hk6
          have o6 := hB6.one
          have c6 := hB6.cells
          have e62 := (hk6 (off + 2) (by omega)).trans e42
          have e63 := (hk6 (off + 3) (by omega)).trans e43
          have hend : ∀ h', (∀ y, y ≠ off + 3 → h' y = h6' y) → h' (off + 3) = some (.var g3 26 (.agg [.int .i64 N, v6])) → PadSt h h' off key g b N (i + 1) g3 g2 (.vp (off + 3) g3 0) := fun h' e e2 => ⟨rk6, v6, _, by omega, by omega, rfl, e2, by rw [e _ (by omega)]; exact e62, hB6.keep (e _ (by omega)), by simp; omega, by simp; omega, hc4.keep (by rw [e _ (by omega), hk6 _ (by omega)]), fun y y1 y2 => by rw [e _ (by omega), hk6 _ (by omega)]; exact hfr4 y y1 y2⟩
          have hi9 : i < 9 := by omega
          clear hk6 e42 e43 hK hB4 hc4 hfr4 hrk6 hB6 hlen
          repeat' (first | (apply brI <;> intro hb hb2 <;> (try simp [-Int.not_le, -Int.not_lt, -Nat.not_le, -Nat.not_lt, -Nat.add_left_cancel_iff] at hb2)) | (refine draw_listA (by rfl) (by kernel_rfl) ?_) | (refine draw_listB (by simp [allocsOf, isAlloc]; rfl) (by kernel_rfl) ?_) | simp (maxSteps := 2000000) (disch := first | omega | assumption | simp [*]) [*, -Int.not_le, -Int.not_lt, -Nat.not_le, -Nat.not_lt, -Nat.add_left_cancel_iff, wrap_i64, wrap_u64, h3, s2, e62, e63])
          exact hend _ (fun y y1 => by rw [hset_other _ _ y1]) (hset_same ..)
        · have hx9i : ¬ (xs4.length : Int) < 9 := by omega
          have hend : ∀ h', (∀ y, y ≠ off + 2 → h' y = h4 y) → K (.agg [.int .i64 N, v4]) h' := fun h' e => hK N rk4 v4 h' (by omega) hr2 ⟨_, hB4.keep (e _ (by omega)), hl2⟩ (hc4.keep (e _ (by omega))) fun y y1 y2 => by rw [e _ (by omega)]; exact hfr4 y y1 y2
          clear hK hB4 hc4 hfr4
          repeat' (first | (apply brI <;> intro hb hb2 <;> (try simp [-Int.not_le, -Int.not_lt, -Nat.not_le, -Nat.not_lt, -Nat.add_left_cancel_iff] at hb2)) | (refine draw_listA (by rfl) (by kernel_rfl) ?_) | (refine draw_listB (by simp [allocsOf, isAlloc]; rfl) (by kernel_rfl) ?_) | simp (maxSteps := 2000000) (disch := first | omega | assumption | simp [*]) [*, -Int.not_le, -Int.not_lt, -Nat.not_le, -Nat.not_lt, -Nat.add_left_cancel_iff, wrap_i64, wrap_u64, h3, s2, e43, e42])
          exact hend _ fun y y1 => by rw [hset_other _ _ y1]
      · have hend : ∀ h', (∀ y, y ≠ off + 2 → h' y = h2 y) → K (.agg [.int .i64 N, v]) h' := fun h' e => hK N rk v h' (by omega) (by omega) ⟨xs, hB2.keep (e _ (by omega)), by omega⟩ (hc2.keep (e _ (by omega))) fun y y1 y2 => by rw [e _ (by omega)]; exact hfr2 y y1 y2
        clear hK hB2 hc2 hfr2
        repeat' (first | (apply brI <;> intro hb hb2 <;> (try simp [-Int.not_le, -Int.not_lt, -Nat.not_le, -Nat.not_lt, -Nat.add_left_cancel_iff] at hb2)) | (refine draw_listA (by rfl) (by kernel_rfl) ?_) | (refine draw_listB (by simp [allocsOf, isAlloc]; rfl) (by kernel_rfl) ?_) | simp (maxSteps := 2000000) (disch := first | omega | assumption | simp [*]) [*, -Int.not_le, -Int.not_lt, -Nat.not_le, -Nat.not_lt, -Nat.add_left_cancel_iff, wrap_i64, wrap_u64, e22, e23])
        exact hend _ fun y y1 => by rw [hset_other _ _ y1]
end Go.Proofs.YtlglhokpaplifaaGreatDoor
/- What the draws share. Conditions: none. -/
namespace Go.Proofs.YtlglhokpaplifaaGreatDoor
open Ev
set_option linter.unusedVariables false
set_option linter.unusedSimpArgs false
set_option maxHeartbeats 4000000

theorem kept1 {d off : Nat} {h h' : Heap} (e : h' (off + d) = h (off + d)) : Kept [d] off h h' := fun x hx => by
  rw [List.mem_singleton] at hx; subst hx; exact e
def DrC (r : AV) (qs : List AV → Prop) : Prop := ∃ (n : Int) (rows : List Int) (xs : List AV), noEx r = .tup (.agg [.int .i64 n, bufC 0 rows] :: xs) ∧ rows.length ≤ 9 ∧ qs xs
theorem drc_mk {n : Int} {v : AV} {h : Heap} {rk : Nat} {xs ys : List AV} {qs : List AV → Prop} (hB : CBt h rk v) (hx : noExs xs = ys) (hq : qs ys) : DrC (.tup (.agg [.int .i64 n, expo h v] :: xs)) qs := by
  obtain ⟨rows, hb, hl⟩ := hB
  refine ⟨n, rows, ys, ?_, hl, hq⟩
  have e := hb.expo
  simp [noEx, noExs, e, hx]
def QInt (xs : List AV) : Prop := ∃ k : Int, xs = [.int .i64 k]
def QRule (xs : List AV) : Prop := ∃ a c : Int, xs = [.agg [.int .i64 a, .int .i64 c]]
def QTwo (xs : List AV) : Prop := ∃ a c : Int, xs = [.int .i64 a, .int .i64 c] ∧ 0 ≤ a ∧ a ≤ 5 ∧ 0 ≤ c ∧ c ≤ 101
def QPath (xs : List AV) : Prop := ∃ v : AV, xs = [v] ∧ IsI v ∧ (xsOf v).length ≤ 8
theorem CDr.bt {h : Heap} {rk : Nat} {v : AV} {N k : Nat} (hc : CDr h rk v N k) (hk : k ≤ 6) : CBt h rk v := by
  obtain ⟨xs, a, b, c⟩ := hc
  exact ⟨xs, a, by omega⟩
/-- a context drawn, bent perhaps, or made elsewhere -/
def CAny (h : Heap) (rk : Nat) (v : AV) : Prop := CBt h rk v ∨ ∃ rows : List Int, v = bufC 0 rows ∧ rows.length ≤ 9
theorem CAny.keep {h h' : Heap} {rk : Nat} {v : AV} (hc : CAny h rk v) (e : h' rk = h rk) : CAny h' rk v := by
  rcases hc with hc | hc
  · exact .inl (hc.keep e)
  · exact .inr hc
theorem CAny.one {h : Heap} {rk : Nat} {v : AV} (hc : CAny h rk v) : v.one = true ∧ v.cells = [v] := by
  rcases hc with hc | ⟨rows, rfl, _⟩
  · exact ⟨hc.one, hc.cells⟩
  · simp
theorem CAny.res {h : Heap} {rk : Nat} {v : AV} (hc : CAny h rk v) : ∃ rows : List Int, noEx (expo h v) = bufC 0 rows ∧ rows.length ≤ 9 := by
  rcases hc with ⟨rows, hb, hl⟩ | ⟨rows, rfl, hl⟩
  · exact ⟨rows, by rw [hb.expo]; simp, hl⟩
  · exact ⟨rows, by simp, hl⟩
def DrK (r : AV) : Prop := ∃ (n : Int) (rows : List Int), noEx r = .agg [.int .i64 n, bufC 0 rows] ∧ rows.length ≤ 9
theorem DrC.gen' {r : AV} {qs : List AV → Prop} (h : DrC r qs) : ∃ (n : Int) (v : AV) (xs : List AV), noEx r = .tup (.agg [.int .i64 n, v] :: xs) ∧ IsI v ∧ (xsOf v).length ≤ 9 ∧ qs xs := by
  obtain ⟨n, rows, xs, h1, h2, h3⟩ := h
  exact ⟨n, bufC 0 rows, xs, h1, isI_bufC (by unfold top63; omega), by simpa using h2, h3⟩
theorem DrK.gen {r : AV} (h : DrK r) : ∃ (n : Int) (v : AV), noEx r = .agg [.int .i64 n, v] ∧ IsI v ∧ (xsOf v).length ≤ 9 := by
  obtain ⟨n, rows, h1, h2⟩ := h
  exact ⟨n, bufC 0 rows, h1, isI_bufC (by unfold top63; omega), by simpa using h2⟩
theorem pow_small10 {i : Nat} (h : i ≤ 10) : 0 < (2 : Int) ^ i ∧ (2 : Int) ^ i ≤ 1024 := by
  have h1 := pow_pos2 i
  have h2 : (2 : Int) ^ i ≤ 2 ^ 10 := two_pow_le h
  exact ⟨h1, by omega⟩
theorem CAny.all {h : Heap} {rk : Nat} {v : AV} (hc : CAny h rk v) : ∃ rows : List Int, (∀ h', low h' v = bufC 0 rows) ∧ (∀ h', h' rk = h rk → noEx (expo h' v) = bufC 0 rows) ∧ (∀ (E : Env) (t : Nat), slT E t = true → lenV E t v = some (.int .i64 rows.length)) ∧ rows.length ≤ 9 := by
  rcases hc with ⟨rows, hb, hl⟩ | ⟨rows, rfl, hl⟩
  · exact ⟨rows, hb.low, fun h' e => by rw [(hb.keep e).expo]; simp, fun E t ht => hb.len ht, hl⟩
  · have hI : IsI (bufC 0 rows) := isI_bufC (by unfold top63; omega)
    exact ⟨rows, fun h' => isI_low hI h', fun h' _ => by simp, fun E t ht => by simpa using isI_len hI ht, hl⟩
end Go.Proofs.YtlglhokpaplifaaGreatDoor
