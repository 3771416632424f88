/- Draws from bytes: the cursor and what is drawn from it. Conditions: none. -/
import Derived.Test.YtlglhokpaplifaaGreatDoorBaseA
import Derived.Test.YtlglhokpaplifaaGreatDoorExtI
import Derived.Test.YtlglhokpaplifaaGreatDoorEvOpen
import Derived.Test.YtlglhokpaplifaaGreatDoorCalls
namespace Go.Proofs.YtlglhokpaplifaaGreatDoor
open Ev
set_option linter.unusedVariables false
set_option linter.unusedSimpArgs false
set_option maxHeartbeats 4000000

/- bytes -/
structure IsB (v : AV) : Prop where
  l : IsL 1 v
  el : ∀ e ∈ esOf v, ∃ x : Int, e = .int .u8 x
def bLen (v : AV) : Nat := (esOf v).length
def bAt (v : AV) (i : Nat) : Int := match (esOf v).getD i .un with | .int _ n => n | _ => 0
theorem fit_bytes {t u : Nat} {v : AV} (h : FitV (.sl t (.int u .u8)) v) : IsB v ∧ brwOf v = false := by
  simp only [FitV] at h
  rcases h with rfl | ⟨es, rfl, hl, he⟩
  · exact ⟨⟨{ len := by simp, ok := ⟨0, .lit, [], rfl, .inl rfl, rfl⟩, cells := fun e he => by simp at he }, fun e he => by simp at he⟩, rfl⟩
  · refine ⟨⟨{ len := by simpa using hl, ok := ⟨1, .no, es, rfl, .inr rfl, rfl⟩, cells := fun e h9 => ?_ }, fun e h9 => ?_⟩, rfl⟩
    · obtain ⟨⟨n, rfl⟩, _⟩ := he e (by simpa using h9)
      exact ⟨rfl, rfl⟩
    · obtain ⟨⟨n, rfl⟩, _⟩ := he e (by simpa using h9)
      exact ⟨n, rfl⟩
theorem isB_low {v : AV} (hv : IsB v) (h : Heap) : low h v = v := isL_low hv.l h
theorem isB_low0 {v : AV} (hv : IsB v) : low0 v = v := isL_low0 hv.l
theorem isB_cells {v : AV} (hv : IsB v) : v.cells = [v] := (isL_cells hv.l).1
theorem isB_one {v : AV} (hv : IsB v) : v.one = true := (isL_cells hv.l).2
theorem isB_stab {v : AV} (hv : IsB v) (hb : brwOf v = false) : stab v = true := by
  obtain ⟨k, o, es, rfl, _, ho⟩ := hv.l.ok
  cases o <;> first | rfl | (simp [brwOf] at hb)
theorem isB_len {E : Env} {t : Nat} {v : AV} (hv : IsB v) (ht : slT E t = true) : lenV E t v = some (.int .i64 (bLen v)) := isL_len hv.l ht
theorem isB_index {E : Env} {h : Heap} {t : Nat} {v : AV} {kd : IntKind} {n : Int} (hv : IsB v) (ht : slT E t = true) (hs : E.size (elT E t) = 1) (h0 : 0 ≤ n) (h1 : n < bLen v) :
    indexA E h t v (.int kd n) = some (elP v n.toNat) := isL_index hv.l ht hs (by decide) h0 h1
theorem isB_load {E : Env} {h : Heap} {t : Nat} {v : AV} {n : Nat} (hv : IsB v) (ht : E.ty t = .int .u8) (hn : n < bLen v) : loadV E h t (elP v n) = some (.int .u8 (bAt v n)) := by
  rw [elP_load hv.l]
  obtain ⟨x, he⟩ := hv.el _ (List.getElem_mem hn)
  have e2 : (esOf v).getD n .un = .int .u8 x := by
    unfold bLen at hn
    simp [hn, he]
  unfold bAt
  rw [e2]
  simp [ht, partOf, AV.cells]
theorem and255 (z : Int) : ∃ x : Nat, Go.bits .and .i64 z 255 = x ∧ x < 256 := by
  have h2 : (BitVec.ofInt 64 255).toNat = 255 := by decide
  have h3 : (BitVec.ofInt 64 z &&& BitVec.ofInt 64 255).toNat < 2 ^ 8 := by
    rw [BitVec.toNat_and, h2]
    exact Nat.and_lt_two_pow _ (by decide)
  refine ⟨(BitVec.ofInt 64 z &&& BitVec.ofInt 64 255).toNat, ?_, h3⟩
  show IntKind.wrap .i64 ((BitVec.ofInt 64 z &&& BitVec.ofInt 64 255).toNat : Int) = _
  exact wrap_i64 (by omega) (by omega)
/-- an append to a row that may be empty: it grows where it is, or begins here -/
theorem wa_pushS {E : Env} {h : Heap} {ko key k0 t : Nat} {v : AV} {o : Own} {x : Int} {xs : List Int} {K : AV → Heap → Prop} (hB : Buf h (elT E t) key k0 v xs) (ht : slT E t = true) (hs : E.size (elT E t) = 1) (hl : xs.length < 1073741824)
    (hK : ∀ key' v' h', (key' = ko ∨ key' = key) → Buf h' (elT E t) key' k0 v' (xs ++ [x]) → (∀ k, k ≠ key' → h' k = h k) → K v' h') : WA E h ko t v (.sl 1 o [.int .i64 x]) K ⟨⟩ := by
  by_cases hx : xs = []
  · subst hx
    rcases hB with ⟨_, rfl⟩ | ⟨h9, _⟩
    · exact wa_push (key := ko) (buf_nil ..) ht hs (by simp) fun v' h' h1 h2 => hK ko v' h' (.inl rfl) h1 h2
    · exact absurd rfl h9
  · exact wa_push' hB ht hs (fun h => absurd h hx) hl fun v' h' h1 h2 => hK key v' h' (.inr rfl) h1 h2
/-- the cursor -/
def Cur (h : Heap) (key g : Nat) (b : AV) : Prop := ∃ i hh : Int, 0 ≤ i ∧ i ≤ bLen b ∧ h key = some (.var g 95 (.agg [b, .int .i64 i, .int .i64 hh]))
theorem Cur.keep {h h' : Heap} {key g : Nat} {b : AV} (hc : Cur h key g b) (e : h' key = h key) : Cur h' key g b := by
  obtain ⟨i, hh, h1, h2, h3⟩ := hc
  exact ⟨i, hh, h1, h2, e.trans h3⟩
theorem l1Byte_o {key g : Nat} {b : AV} {h : Heap} {off : Nat} {K : AV → Heap → Prop} (hb : IsB b) (hl : bLen b ≤ 1073741824) (hc : Cur h key g b) (hK : ∀ (x : Nat) h', x < 256 → Cur h' key g b → (∀ y, y ≠ key → h' y = h y) → K (.int .i64 x) h') : OpenTo env 94 [.vp key g 0] h off K := by
  refine openTo_of (F := Tryz.f94) rfl rfl (Nat.le_of_ble_eq_true rfl) ?_
  obtain ⟨i, hh, h1, h2, h3⟩ := hc
  have hK2 : ∀ (z i' hh' : Int) h', (∃ x : Nat, z = x ∧ x < 256) → 0 ≤ i' ∧ i' ≤ (bLen b : Int) → h' key = some (.var g 95 (.agg [b, .int .i64 i', .int .i64 hh'])) → (∀ y, y ≠ key → h' y = h y) → K (.int .i64 z) h' := by
    rintro z i' hh' h' ⟨x, rfl, hx⟩ hi he hf
    exact hK x h' hx ⟨i', hh', hi.1, hi.2, he⟩ hf
  clear hK
  have hcb := isB_cells hb
  have hob := isB_one hb
  by_cases hi : i < bLen b
  · obtain ⟨I, rfl⟩ : ∃ I : Nat, i = I := ⟨i.toNat, by omega⟩
    have hI : I < bLen b := by omega
    have hld1 : ∀ h', loadV env h' 5 (elP b I) = some (.int .u8 (bAt b I)) := fun h' => isB_load hb (by simp) hI
    repeat' (first | (apply brI <;> intro hb hb2 <;> (try simp [-Int.not_le, -Int.not_lt, -Nat.not_le, -Nat.not_lt, -Nat.add_left_cancel_iff] at hb2)) | (refine draw_listA (by rfl) (by kernel_rfl) ?_) | (refine draw_listB (by simp [allocsOf, isAlloc]; rfl) (by kernel_rfl) ?_) | simp (maxSteps := 2000000) (disch := first | omega | assumption | simp [*]) [*, -Int.not_le, -Int.not_lt, -Nat.not_le, -Nat.not_lt, -Nat.add_left_cancel_iff, wrap_i64, wrap_u64, Tryz.f94, h3, isB_len hb, isB_index hb])
    all_goals exact hK2 _ _ _ _ (and255 _) ⟨by omega, by omega⟩ (hset_same ..) (fun y hy => by simp [hset, hy])
  · repeat' (first | (apply brI <;> intro hb hb2 <;> (try simp [-Int.not_le, -Int.not_lt, -Nat.not_le, -Nat.not_lt, -Nat.add_left_cancel_iff] at hb2)) | (refine draw_listA (by rfl) (by kernel_rfl) ?_) | (refine draw_listB (by simp [allocsOf, isAlloc]; rfl) (by kernel_rfl) ?_) | simp (maxSteps := 2000000) (disch := first | omega | assumption | simp [*]) [*, -Int.not_le, -Int.not_lt, -Nat.not_le, -Nat.not_lt, -Nat.add_left_cancel_iff, wrap_i64, wrap_u64, Tryz.f94, h3, isB_len hb, isB_index hb])
    all_goals exact hK2 _ _ _ _ (and255 _) ⟨by omega, by omega⟩ (hset_same ..) (fun y hy => by simp [hset, hy])
theorem l1Below_o {key g : Nat} {b : AV} {n : Int} {h : Heap} {off : Nat} {K : AV → Heap → Prop} (hb : IsB b) (hl : bLen b ≤ 1073741824) (hc : Cur h key g b) (hK : ∀ (x : Int) h', 0 ≤ x → (n ≤ 0 → x = 0) → (0 < n → x < n) → Cur h' key g b → (∀ y, y ≠ key → h' y = h y) → K (.int .i64 x) h') : OpenTo env 50 [.vp key g 0, .int .i64 n] h off K := by
  refine openTo_of (F := Tryz.f50) rfl rfl (Nat.le_of_ble_eq_true rfl) ?_
  by_cases h0 : n ≤ 0
  · repeat' (first | (apply brI <;> intro hb hb2 <;> (try simp [-Int.not_le, -Int.not_lt, -Nat.not_le, -Nat.not_lt, -Nat.add_left_cancel_iff] at hb2)) | (refine draw_listA (by rfl) (by kernel_rfl) ?_) | (refine draw_listB (by simp [allocsOf, isAlloc]; rfl) (by kernel_rfl) ?_) | simp (maxSteps := 2000000) (disch := first | omega | assumption | simp [*]) [*, -Int.not_le, -Int.not_lt, -Nat.not_le, -Nat.not_lt, -Nat.add_left_cancel_iff, wrap_i64, wrap_u64, Tryz.f50])
    all_goals exact hK 0 h (Int.le_refl _) (fun _ => rfl) (fun h => by omega) hc fun _ _ => rfl
  · by_cases h1 : n ≤ 256
    · repeat' (first | (apply brI <;> intro hb hb2 <;> (try simp [-Int.not_le, -Int.not_lt, -Nat.not_le, -Nat.not_lt, -Nat.add_left_cancel_iff] at hb2)) | (refine draw_listA (by rfl) (by kernel_rfl) ?_) | (refine draw_listB (by simp [allocsOf, isAlloc]; rfl) (by kernel_rfl) ?_) | simp (maxSteps := 2000000) (disch := first | omega | assumption | simp [*]) [*, -Int.not_le, -Int.not_lt, -Nat.not_le, -Nat.not_lt, -Nat.add_left_cancel_iff, wrap_i64, wrap_u64, Tryz.f50])
      refine cf_open rfl rfl (l1Byte_o hb hl hc fun x h' hx hc' hf => ?_)
      have hn0 : ¬ n = 0 := by omega
      have hm1 := Int.tmod_nonneg n (show (0 : Int) ≤ x by omega)
      have hm2 := Int.tmod_lt_of_pos (x : Int) (show 0 < n by omega)
      repeat' (first | (apply brI <;> intro hb hb2 <;> (try simp [-Int.not_le, -Int.not_lt, -Nat.not_le, -Nat.not_lt, -Nat.add_left_cancel_iff] at hb2)) | (refine draw_listA (by rfl) (by kernel_rfl) ?_) | (refine draw_listB (by simp [allocsOf, isAlloc]; rfl) (by kernel_rfl) ?_) | simp (maxSteps := 2000000) (disch := first | omega | assumption | simp [*]) [*, -Int.not_le, -Int.not_lt, -Nat.not_le, -Nat.not_lt, -Nat.add_left_cancel_iff, wrap_i64, wrap_u64])
      all_goals exact hK _ h' hm1 (fun h => by omega) (fun _ => hm2) hc' hf
    · repeat' (first | (apply brI <;> intro hb hb2 <;> (try simp [-Int.not_le, -Int.not_lt, -Nat.not_le, -Nat.not_lt, -Nat.add_left_cancel_iff] at hb2)) | (refine draw_listA (by rfl) (by kernel_rfl) ?_) | (refine draw_listB (by simp [allocsOf, isAlloc]; rfl) (by kernel_rfl) ?_) | simp (maxSteps := 2000000) (disch := first | omega | assumption | simp [*]) [*, -Int.not_le, -Int.not_lt, -Nat.not_le, -Nat.not_lt, -Nat.add_left_cancel_iff, wrap_i64, wrap_u64, Tryz.f50])
      refine cf_open rfl rfl (l1Byte_o hb hl hc fun x1 h1' hx1 hc1 hf1 => ?_)
      repeat' (first | (apply brI <;> intro hb hb2 <;> (try simp [-Int.not_le, -Int.not_lt, -Nat.not_le, -Nat.not_lt, -Nat.add_left_cancel_iff] at hb2)) | (refine draw_listA (by rfl) (by kernel_rfl) ?_) | (refine draw_listB (by simp [allocsOf, isAlloc]; rfl) (by kernel_rfl) ?_) | simp (maxSteps := 2000000) (disch := first | omega | assumption | simp [*]) [*, -Int.not_le, -Int.not_lt, -Nat.not_le, -Nat.not_lt, -Nat.add_left_cancel_iff, wrap_i64, wrap_u64])
      refine cf_open rfl rfl (l1Byte_o hb hl hc1 fun x2 h2' hx2 hc2 hf2 => ?_)
      repeat' (first | (apply brI <;> intro hb hb2 <;> (try simp [-Int.not_le, -Int.not_lt, -Nat.not_le, -Nat.not_lt, -Nat.add_left_cancel_iff] at hb2)) | (refine draw_listA (by rfl) (by kernel_rfl) ?_) | (refine draw_listB (by simp [allocsOf, isAlloc]; rfl) (by kernel_rfl) ?_) | simp (maxSteps := 2000000) (disch := first | omega | assumption | simp [*]) [*, -Int.not_le, -Int.not_lt, -Nat.not_le, -Nat.not_lt, -Nat.add_left_cancel_iff, wrap_i64, wrap_u64])
      refine cf_open rfl rfl (l1Byte_o hb hl hc2 fun x3 h3' hx3 hc3 hf3 => ?_)
      repeat' (first | (apply brI <;> intro hb hb2 <;> (try simp [-Int.not_le, -Int.not_lt, -Nat.not_le, -Nat.not_lt, -Nat.add_left_cancel_iff] at hb2)) | (refine draw_listA (by rfl) (by kernel_rfl) ?_) | (refine draw_listB (by simp [allocsOf, isAlloc]; rfl) (by kernel_rfl) ?_) | simp (maxSteps := 2000000) (disch := first | omega | assumption | simp [*]) [*, -Int.not_le, -Int.not_lt, -Nat.not_le, -Nat.not_lt, -Nat.add_left_cancel_iff, wrap_i64, wrap_u64])
      refine cf_open rfl rfl (l1Byte_o hb hl hc3 fun x4 h4' hx4 hc4 hf4 => ?_)
      have hn0 : ¬ n = 0 := by omega
      have hm1 := Int.tmod_nonneg n (show (0 : Int) ≤ (x1 : Int) * 16777216 + x2 * 65536 + x3 * 256 + x4 by omega)
      have hm2 := Int.tmod_lt_of_pos ((x1 : Int) * 16777216 + x2 * 65536 + x3 * 256 + x4) (show 0 < n by omega)
      repeat' (first | (apply brI <;> intro hb hb2 <;> (try simp [-Int.not_le, -Int.not_lt, -Nat.not_le, -Nat.not_lt, -Nat.add_left_cancel_iff] at hb2)) | (refine draw_listA (by rfl) (by kernel_rfl) ?_) | (refine draw_listB (by simp [allocsOf, isAlloc]; rfl) (by kernel_rfl) ?_) | simp (maxSteps := 2000000) (disch := first | omega | assumption | simp [*]) [*, -Int.not_le, -Int.not_lt, -Nat.not_le, -Nat.not_lt, -Nat.add_left_cancel_iff, wrap_i64, wrap_u64])
      all_goals exact hK _ h4' hm1 (fun h => by omega) (fun _ => hm2) hc4 fun y hy => ((hf4 y hy).trans (hf3 y hy)).trans ((hf2 y hy).trans (hf1 y hy))
theorem l1Once_o {key g : Nat} {b : AV} {n : Int} {h : Heap} {off : Nat} {K : AV → Heap → Prop} (hb : IsB b) (hl : bLen b ≤ 1073741824) (hc : Cur h key g b) (hK : ∀ (c : Bool) h', Cur h' key g b → (∀ y, y ≠ key → h' y = h y) → K (.bool c) h') : OpenTo env 58 [.vp key g 0, .int .i64 n] h off K := by
  refine openTo_of (F := Tryz.f58) rfl rfl (Nat.le_of_ble_eq_true rfl) ?_
  repeat' (first | (apply brI <;> intro hb hb2 <;> (try simp [-Int.not_le, -Int.not_lt, -Nat.not_le, -Nat.not_lt, -Nat.add_left_cancel_iff] at hb2)) | (refine draw_listA (by rfl) (by kernel_rfl) ?_) | (refine draw_listB (by simp [allocsOf, isAlloc]; rfl) (by kernel_rfl) ?_) | simp (maxSteps := 2000000) (disch := first | omega | assumption | simp [*]) [*, -Int.not_le, -Int.not_lt, -Nat.not_le, -Nat.not_lt, -Nat.add_left_cancel_iff, wrap_i64, wrap_u64, Tryz.f58])
  refine cf_open rfl rfl (l1Below_o hb hl hc fun x h' hx h0 h1 hc' hf => ?_)
  repeat' (first | (apply brI <;> intro hb hb2 <;> (try simp [-Int.not_le, -Int.not_lt, -Nat.not_le, -Nat.not_lt, -Nat.add_left_cancel_iff] at hb2)) | (refine draw_listA (by rfl) (by kernel_rfl) ?_) | (refine draw_listB (by simp [allocsOf, isAlloc]; rfl) (by kernel_rfl) ?_) | simp (maxSteps := 2000000) (disch := first | omega | assumption | simp [*]) [*, -Int.not_le, -Int.not_lt, -Nat.not_le, -Nat.not_lt, -Nat.add_left_cancel_iff, wrap_i64, wrap_u64])
  all_goals exact hK _ h' hc' hf
theorem l1PickInt_o {key g : Nat} {b v : AV} {h : Heap} {off : Nat} {K : AV → Heap → Prop} (hb : IsB b) (hl : bLen b ≤ 1073741824) (hc : Cur h key g b) (hv : IsI v) (hne : 0 < (xsOf v).length) (hK : ∀ (j : Nat) h', j < (xsOf v).length → Cur h' key g b → (∀ y, y ≠ key → h' y = h y) → K (.int .i64 (nth (xsOf v) j)) h') : OpenTo env 78 [.vp key g 0, v] h off K := by
  refine openTo_of (F := Tryz.f78) rfl rfl (Nat.le_of_ble_eq_true rfl) ?_
  have hvl := hv.len
  repeat' (first | (apply brI <;> intro hb hb2 <;> (try simp [-Int.not_le, -Int.not_lt, -Nat.not_le, -Nat.not_lt, -Nat.add_left_cancel_iff] at hb2)) | (refine draw_listA (by rfl) (by kernel_rfl) ?_) | (refine draw_listB (by simp [allocsOf, isAlloc]; rfl) (by kernel_rfl) ?_) | simp (maxSteps := 2000000) (disch := first | omega | assumption | simp [*]) [*, -Int.not_le, -Int.not_lt, -Nat.not_le, -Nat.not_lt, -Nat.add_left_cancel_iff, wrap_i64, wrap_u64, Tryz.f78, isI_len hv])
  refine cf_open rfl rfl (l1Below_o hb hl hc fun x h' hx h0 h1 hc' hf => ?_)
  have hx2 := h1 (by omega)
  obtain ⟨j, rfl⟩ : ∃ j : Nat, x = j := ⟨x.toNat, by omega⟩
  have hj : j < (xsOf v).length := by omega
  clear h0 h1
  repeat' (first | (apply brI <;> intro hb hb2 <;> (try simp [-Int.not_le, -Int.not_lt, -Nat.not_le, -Nat.not_lt, -Nat.add_left_cancel_iff] at hb2)) | (refine draw_listA (by rfl) (by kernel_rfl) ?_) | (refine draw_listB (by simp [allocsOf, isAlloc]; rfl) (by kernel_rfl) ?_) | simp (maxSteps := 2000000) (disch := first | omega | assumption | simp [*]) [*, -Int.not_le, -Int.not_lt, -Nat.not_le, -Nat.not_lt, -Nat.add_left_cancel_iff, wrap_i64, wrap_u64, isI_len hv, isI_index hv, isI_load hv])
  all_goals exact hK j h' hj hc' hf
theorem l9Make_o {key g N : Nat} {b : AV} {h : Heap} {off : Nat} {K : AV → Heap → Prop} (hb : IsB b) (hl : bLen b ≤ 1073741824) (hN : N ≤ 8) (hc : Cur h key g b) (hk : key ≠ off + 4) (hK : ∀ (a c : Int) h', Cur h' key g b → (∀ y, y ≠ key → y ≠ off + 4 → h' y = h y) → K (.agg [.int .i64 a, .int .i64 c]) h') : OpenTo env 57 [.vp key g 0, .int .i64 N] h off K := by
  refine openTo_of (F := Tryz.f57) rfl rfl (Nat.le_of_ble_eq_true rfl) ?_
  have hpw := pow_small (i := N) (by omega)
  repeat' (first | (apply brI <;> intro hb hb2 <;> (try simp [-Int.not_le, -Int.not_lt, -Nat.not_le, -Nat.not_lt, -Nat.add_left_cancel_iff] at hb2)) | (refine draw_listA (by rfl) (by kernel_rfl) ?_) | (refine draw_listB (by simp [allocsOf, isAlloc]; rfl) (by kernel_rfl) ?_) | simp (maxSteps := 2000000) (disch := first | omega | assumption | simp [*]) [*, -Int.not_le, -Int.not_lt, -Nat.not_le, -Nat.not_lt, -Nat.add_left_cancel_iff, wrap_i64, wrap_u64, Tryz.f57])
  refine cf_open rfl rfl (l1Below_o hb hl (hc.keep (by simp [hset, hk])) fun x1 h1' hx1 _ _ hc1 hf1 => ?_)
  repeat' (first | (apply brI <;> intro hb hb2 <;> (try simp [-Int.not_le, -Int.not_lt, -Nat.not_le, -Nat.not_lt, -Nat.add_left_cancel_iff] at hb2)) | (refine draw_listA (by rfl) (by kernel_rfl) ?_) | (refine draw_listB (by simp [allocsOf, isAlloc]; rfl) (by kernel_rfl) ?_) | simp (maxSteps := 2000000) (disch := first | omega | assumption | simp [*]) [*, -Int.not_le, -Int.not_lt, -Nat.not_le, -Nat.not_lt, -Nat.add_left_cancel_iff, wrap_i64, wrap_u64])
  refine cf_open rfl rfl (l1Below_o hb hl hc1 fun x2 h2' hx2 _ _ hc2 hf2 => ?_)
  repeat' (first | (apply brI <;> intro hb hb2 <;> (try simp [-Int.not_le, -Int.not_lt, -Nat.not_le, -Nat.not_lt, -Nat.add_left_cancel_iff] at hb2)) | (refine draw_listA (by rfl) (by kernel_rfl) ?_) | (refine draw_listB (by simp [allocsOf, isAlloc]; rfl) (by kernel_rfl) ?_) | simp (maxSteps := 2000000) (disch := first | omega | assumption | simp [*]) [*, -Int.not_le, -Int.not_lt, -Nat.not_le, -Nat.not_lt, -Nat.add_left_cancel_iff, wrap_i64, wrap_u64])
  refine cf_open rfl rfl (l1Below_o hb hl hc2 fun x3 h3' hx3 _ _ hc3 hf3 => ?_)
  have e3 : ∀ y, y ≠ key → h3' y = hset h (off + 4) (.var (nextG h (off + 4)) 40 (.agg [.int .i64 0, .int .i64 0])) y := fun y hy => ((hf3 y hy).trans (hf2 y hy)).trans (hf1 y hy)
  have e4 := e3 (off + 4) (Ne.symm hk)
  simp only [hset, if_true] at e4
  repeat' (first | (apply brI <;> intro hb hb2 <;> (try simp [-Int.not_le, -Int.not_lt, -Nat.not_le, -Nat.not_lt, -Nat.add_left_cancel_iff] at hb2)) | (refine draw_listA (by rfl) (by kernel_rfl) ?_) | (refine draw_listB (by simp [allocsOf, isAlloc]; rfl) (by kernel_rfl) ?_) | simp (maxSteps := 2000000) (disch := first | omega | assumption | simp [*]) [*, -Int.not_le, -Int.not_lt, -Nat.not_le, -Nat.not_lt, -Nat.add_left_cancel_iff, wrap_i64, wrap_u64, e4])
  exact hK _ _ _ (hc3.keep (hset_other _ _ hk)) fun y y1 y2 => by rw [hset_other _ _ y2, e3 y y1, hset_other _ _ y2]
/-- a variable that was made there -/
theorem cf_xp {E : Env} {fid d g : Nat} {args : List AV} {s : Nat → AV} {h : Heap} {off nt : Nat} {K : AV → Heap → Prop} {tg : Tg ((⟨s, h, off, nt⟩ : St), K)} {P : AV → Prop}
    (hc : CallsTo E g (lows h args) P) (he : mat1B E fid d g = true) (hK : ∀ r, P r → ∃ T k v, r = .xp T k v ∧ K (.vp (off + d) (nextG h (off + d)) 0) (hset h (off + d) (.var (nextG h (off + d)) T v))) : CF E fid (some d) g args ⟨s, h, off, nt⟩ K tg := by
  simp only [mat1B, Bool.and_eq_true, Bool.not_eq_true', beq_iff_eq, Option.isNone_iff_eq_none] at he
  unfold CF
  rw [WF_mat (ext_none he.1.1.1 _) he.1.1.2 he.2]
  obtain ⟨r, h1, h2⟩ := hc
  obtain ⟨T, k, v, rfl, h3⟩ := hK r h2
  exact ⟨_, h1, _, _, by simp only [mat, he.1.2], h3⟩
def AnyI (a : AV) : Prop := ∃ z : Int, a = .int .i64 z
theorem expo_cur {T : Nat} {b : AV} {z : Int} (hs : stab b = true) (h0 : low0 b = b) (ho : b.one = true) :
    expo (hset hnil 31 (.var 0 T (.agg [b, .int .i64 0, .int .i64 z]))) (.vp 31 0 0) = .xp T 31 (.agg [b, .int .i64 0, .int .i64 z]) := by
  have h1 : stab (.agg [b, .int .i64 0, .int .i64 z]) = true := by simp [stab, stabs, hs]
  have h2 : low0 (.agg [b, .int .i64 0, .int .i64 z]) = .agg [b, .int .i64 0, .int .i64 z] := by simp [h0]
  unfold Ev.expo
  rw [hset_same]
  simp only [h1, h2, AV.cells, and_self, if_true]
  rw [if_pos]
  refine ⟨trivial, trivial, trivial, ?_⟩
  rw [List.all_cons, ho]
  rfl
theorem l1New_t {b : AV} (hB : IsB b) (hbr : brwOf b = false) (hl : bLen b ≤ 1073741824) : CallsTo env 49 [b] (fun r => ∃ hh : Int, r = .xp 95 31 (.agg [b, .int .i64 0, .int .i64 hh])) := by
  refine callsTo_mk (F := Tryz.f49) rfl rfl (Nat.le_of_ble_eq_true rfl) ?_
  have hcb := isB_cells hB
  have hob := isB_one hB
  have hsb := isB_stab hB hbr
  have h0b := isB_low0 hB
  repeat' (first | (apply brI <;> intro hb hb2 <;> (try simp [-Int.not_le, -Int.not_lt, -Nat.not_le, -Nat.not_lt, -Nat.add_left_cancel_iff] at hb2)) | (refine draw_listA (by rfl) (by kernel_rfl) ?_) | (refine draw_listB (by simp [allocsOf, isAlloc]; rfl) (by kernel_rfl) ?_) | simp (maxSteps := 2000000) (disch := first | omega | assumption | simp [*]) [*, -Int.not_le, -Int.not_lt, -Nat.not_le, -Nat.not_lt, -Nat.add_left_cancel_iff, wrap_i64, wrap_u64, Tryz.f49, isB_len hB])
  refine W_loopP 4000 (fun i s => AnyI (s 3) ∧ s 4 = .int .i64 i ∧ s 0 = b ∧ i ≤ bLen b) rfl ?_ ?_
  · exact ⟨⟨26583 + (bLen b : Int), by simp⟩, by simp, by simp, Nat.zero_le _⟩
  rintro i s hi ⟨⟨z, h3⟩, h4, h0, hib⟩
  by_cases hi2 : i < bLen b
  · have hi2i : (i : Int) < bLen b := by omega
    by_cases hi4 : i < 4000
    · have hi4i : (i : Int) < 4000 := by omega
      have hld : ∀ h', loadV env h' 5 (elP b i) = some (.int .u8 (bAt b i)) := fun h' => isB_load hB (by simp) hi2
      repeat' (first | (apply brI <;> intro hb hb2 <;> (try simp [-Int.not_le, -Int.not_lt, -Nat.not_le, -Nat.not_lt, -Nat.add_left_cancel_iff] at hb2)) | (refine draw_listA (by rfl) (by kernel_rfl) ?_) | (refine draw_listB (by simp [allocsOf, isAlloc]; rfl) (by kernel_rfl) ?_) | simp (maxSteps := 2000000) (disch := first | omega | assumption | simp [*]) [*, -Int.not_le, -Int.not_lt, -Nat.not_le, -Nat.not_lt, -Nat.add_left_cancel_iff, wrap_i64, wrap_u64, h3, h4, h0, isB_len hB, isB_index hB])
      exact ⟨⟨_, rfl⟩, by omega⟩
    · obtain rfl : i = 4000 := by omega
      repeat' (first | (apply brI <;> intro hb hb2 <;> (try simp [-Int.not_le, -Int.not_lt, -Nat.not_le, -Nat.not_lt, -Nat.add_left_cancel_iff] at hb2)) | (refine draw_listA (by rfl) (by kernel_rfl) ?_) | (refine draw_listB (by simp [allocsOf, isAlloc]; rfl) (by kernel_rfl) ?_) | simp (maxSteps := 2000000) (disch := first | omega | assumption | simp [*]) [*, -Int.not_le, -Int.not_lt, -Nat.not_le, -Nat.not_lt, -Nat.add_left_cancel_iff, wrap_i64, wrap_u64, h3, h4, h0, isB_len hB])
      all_goals exact ⟨z, expo_cur hsb h0b hob⟩
  · have hi2i : ¬ (i : Int) < bLen b := by omega
    repeat' (first | (apply brI <;> intro hb hb2 <;> (try simp [-Int.not_le, -Int.not_lt, -Nat.not_le, -Nat.not_lt, -Nat.add_left_cancel_iff] at hb2)) | (refine draw_listA (by rfl) (by kernel_rfl) ?_) | (refine draw_listB (by simp [allocsOf, isAlloc]; rfl) (by kernel_rfl) ?_) | simp (maxSteps := 2000000) (disch := first | omega | assumption | simp [*]) [*, -Int.not_le, -Int.not_lt, -Nat.not_le, -Nat.not_lt, -Nat.add_left_cancel_iff, wrap_i64, wrap_u64, h3, h4, h0, isB_len hB])
    exact ⟨z, expo_cur hsb h0b hob⟩
end Go.Proofs.YtlglhokpaplifaaGreatDoor
