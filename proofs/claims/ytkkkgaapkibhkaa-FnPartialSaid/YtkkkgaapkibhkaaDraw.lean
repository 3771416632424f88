/- Draws from bytes: the cursor and what is drawn from it. Conditions: none. -/
import Derived.Test.YtkkkgaapkibhkaaPart
import Derived.Test.YtkkkgaapkibhkaaConf
import Derived.Test.YtkkkgaapkibhkaaEvOpen
namespace Go.Proofs.Ytkkkgaapkibhkaa
open Ev
set_option linter.unusedVariables false
set_option linter.unusedSimpArgs false
set_option maxHeartbeats 4000000

theorem callsTo_mk {E : Env} {f : Nat} {args : List AV} {P : AV → Prop} {F : Go.Func} {c : Go.Code} (hf : E.fn f = some F) (hb : F.body = some c) (hl : args.length ≤ F.ntmps)
    (hw : W E f c ⟨argSlots args, hnil, 0, F.ntmps⟩ (resW E F.results.toList fun v h => P (expo h v))) : CallsTo E f args P := by
  obtain ⟨k, v, h', h1, h2⟩ := openTo_of hf hb hl hw
  exact ⟨_, ⟨k, v, h', h1, rfl⟩, h2⟩
/- bytes -/
structure IsB (v : AV) : Prop where
  l : IsL 1 v
  el : ∀ e ∈ esOf v, ∃ x : Int, e = .int .u8 x
def bLen (v : AV) : Nat := (esOf v).length
def bAt (v : AV) (i : Nat) : Int := match (esOf v).getD i .un with | .int _ n => n | _ => 0
theorem fit_bytes {t u : Nat} {v : AV} (h : FitV (.sl t (.int u .u8)) v) : IsB v ∧ brwOf v = false := by
  simp only [FitV] at h
  rcases h with rfl | ⟨es, rfl, hl, he⟩
  · exact ⟨⟨{ len := by simp, ok := ⟨0, .lit, [], rfl, .inl rfl, rfl⟩, cells := fun e he => by simp at he }, fun e he => by simp at he⟩, rfl⟩
  · refine ⟨⟨{ len := by simpa using hl, ok := ⟨1, .no, es, rfl, .inr rfl, rfl⟩, cells := fun e h9 => ?_ }, fun e h9 => ?_⟩, rfl⟩
    · obtain ⟨⟨n, rfl⟩, _⟩ := he e (by simpa using h9)
      exact ⟨rfl, rfl⟩
    · obtain ⟨⟨n, rfl⟩, _⟩ := he e (by simpa using h9)
      exact ⟨n, rfl⟩
theorem isB_low {v : AV} (hv : IsB v) (h : Heap) : low h v = v := isL_low hv.l h
theorem isB_low0 {v : AV} (hv : IsB v) : low0 v = v := isL_low0 hv.l
theorem isB_cells {v : AV} (hv : IsB v) : v.cells = [v] := (isL_cells hv.l).1
theorem isB_one {v : AV} (hv : IsB v) : v.one = true := (isL_cells hv.l).2
theorem isB_stab {v : AV} (hv : IsB v) (hb : brwOf v = false) : stab v = true := by
  obtain ⟨k, o, es, rfl, _, ho⟩ := hv.l.ok
  cases o <;> first | rfl | (simp [brwOf] at hb)
theorem isB_len {E : Env} {t : Nat} {v : AV} (hv : IsB v) (ht : slT E t = true) : lenV E t v = some (.int .i64 (bLen v)) := isL_len hv.l ht
theorem isB_index {E : Env} {h : Heap} {t : Nat} {v : AV} {kd : IntKind} {n : Int} (hv : IsB v) (ht : slT E t = true) (hs : E.size (elT E t) = 1) (h0 : 0 ≤ n) (h1 : n < bLen v) :
    indexA E h t v (.int kd n) = some (elP v n.toNat) := isL_index hv.l ht hs (by decide) h0 h1
theorem isB_load {E : Env} {h : Heap} {t : Nat} {v : AV} {n : Nat} (hv : IsB v) (ht : E.ty t = .int .u8) (hn : n < bLen v) : loadV E h t (elP v n) = some (.int .u8 (bAt v n)) := by
  rw [elP_load hv.l]
  obtain ⟨x, he⟩ := hv.el _ (List.getElem_mem hn)
  have e2 : (esOf v).getD n .un = .int .u8 x := by
    unfold bLen at hn
    simp [hn, he]
  unfold bAt
  rw [e2]
  simp [ht, partOf, AV.cells]
theorem and255 (z : Int) : ∃ x : Nat, Go.bits .and .i64 z 255 = x ∧ x < 256 := by
  have h2 : (BitVec.ofInt 64 255).toNat = 255 := by decide
  have h3 : (BitVec.ofInt 64 z &&& BitVec.ofInt 64 255).toNat < 2 ^ 8 := by
    rw [BitVec.toNat_and, h2]
    exact Nat.and_lt_two_pow _ (by decide)
  refine ⟨(BitVec.ofInt 64 z &&& BitVec.ofInt 64 255).toNat, ?_, h3⟩
  show IntKind.wrap .i64 ((BitVec.ofInt 64 z &&& BitVec.ofInt 64 255).toNat : Int) = _
  exact wrap_i64 (by omega) (by omega)
theorem hset_same (h : Heap) (k : Nat) (b : Blk) : hset h k b k = some b := if_pos rfl
theorem hset_other (h : Heap) {k y : Nat} (b : Blk) (e : y ≠ k) : hset h k b y = h y := if_neg e
/-- an append to a row that may be empty: it grows where it is, or begins here -/
theorem wa_pushS {E : Env} {h : Heap} {ko key k0 t : Nat} {v : AV} {o : Own} {x : Int} {xs : List Int} {K : AV → Heap → Prop} (hB : Buf h (elT E t) key k0 v xs) (ht : slT E t = true) (hs : E.size (elT E t) = 1) (hl : xs.length < 1073741824)
    (hK : ∀ key' v' h', (key' = ko ∨ key' = key) → Buf h' (elT E t) key' k0 v' (xs ++ [x]) → (∀ k, k ≠ key' → h' k = h k) → K v' h') : WA E h ko t v (.sl 1 o [.int .i64 x]) K ⟨⟩ := by
  by_cases hx : xs = []
  · subst hx
    rcases hB with ⟨_, rfl⟩ | ⟨h9, _⟩
    · exact wa_push (key := ko) (buf_nil ..) ht hs (by simp) fun v' h' h1 h2 => hK ko v' h' (.inl rfl) h1 h2
    · exact absurd rfl h9
  · exact wa_push' hB ht hs (fun h => absurd h hx) hl fun v' h' h1 h2 => hK key v' h' (.inr rfl) h1 h2
/-- the cursor -/
def Cur (h : Heap) (key g : Nat) (b : AV) : Prop := ∃ i hh : Int, 0 ≤ i ∧ i ≤ bLen b ∧ h key = some (.var g 112 (.agg [b, .int .i64 i, .int .i64 hh]))
theorem Cur.keep {h h' : Heap} {key g : Nat} {b : AV} (hc : Cur h key g b) (e : h' key = h key) : Cur h' key g b := by
  obtain ⟨i, hh, h1, h2, h3⟩ := hc
  exact ⟨i, hh, h1, h2, e.trans h3⟩
theorem l1Byte_o {key g : Nat} {b : AV} {h : Heap} {off : Nat} {K : AV → Heap → Prop} (hb : IsB b) (hl : bLen b ≤ 1073741824) (hc : Cur h key g b) (hK : ∀ (x : Nat) h', x < 256 → Cur h' key g b → (∀ y, y ≠ key → h' y = h y) → K (.int .i64 x) h') : OpenTo env 119 [.vp key g 0] h off K := by
  refine openTo_of (F := Try.f119) rfl rfl (Nat.le_of_ble_eq_true rfl) ?_
  obtain ⟨i, hh, h1, h2, h3⟩ := hc
  have hK2 : ∀ (z i' hh' : Int) h', (∃ x : Nat, z = x ∧ x < 256) → 0 ≤ i' ∧ i' ≤ (bLen b : Int) → h' key = some (.var g 112 (.agg [b, .int .i64 i', .int .i64 hh'])) → (∀ y, y ≠ key → h' y = h y) → K (.int .i64 z) h' := by
    rintro z i' hh' h' ⟨x, rfl, hx⟩ hi he hf
    exact hK x h' hx ⟨i', hh', hi.1, hi.2, he⟩ hf
  clear hK
  have hcb := isB_cells hb
  have hob := isB_one hb
  by_cases hi : i < bLen b
  · obtain ⟨I, rfl⟩ : ∃ I : Nat, i = I := ⟨i.toNat, by omega⟩
    have hI : I < bLen b := by omega
    have hld1 : ∀ h', loadV env h' 5 (elP b I) = some (.int .u8 (bAt b I)) := fun h' => isB_load hb (by simp) hI
    repeat' (first | (apply br_intro <;> intro hb <;> (have hb2 := hb) <;> (try simp [-Int.not_le, -Int.not_lt, -Nat.not_le, -Nat.not_lt, -Nat.add_left_cancel_iff] at hb2)) | (refine draw_listA (by rfl) (by kernel_rfl) ?_) | (refine draw_listB (by simp [allocsOf, isAlloc]; rfl) (by kernel_rfl) ?_) | simp (maxSteps := 2000000) (disch := first | omega | assumption | simp [*]) [*, -Int.not_le, -Int.not_lt, -Nat.not_le, -Nat.not_lt, -Nat.add_left_cancel_iff, wrap_i64, wrap_u64, Try.f119, h3, isB_len hb, isB_index hb])
    all_goals exact hK2 _ _ _ _ (and255 _) ⟨by omega, by omega⟩ (hset_same ..) (fun y hy => by simp [hset, hy])
  · repeat' (first | (apply br_intro <;> intro hb <;> (have hb2 := hb) <;> (try simp [-Int.not_le, -Int.not_lt, -Nat.not_le, -Nat.not_lt, -Nat.add_left_cancel_iff] at hb2)) | (refine draw_listA (by rfl) (by kernel_rfl) ?_) | (refine draw_listB (by simp [allocsOf, isAlloc]; rfl) (by kernel_rfl) ?_) | simp (maxSteps := 2000000) (disch := first | omega | assumption | simp [*]) [*, -Int.not_le, -Int.not_lt, -Nat.not_le, -Nat.not_lt, -Nat.add_left_cancel_iff, wrap_i64, wrap_u64, Try.f119, h3, isB_len hb, isB_index hb])
    all_goals exact hK2 _ _ _ _ (and255 _) ⟨by omega, by omega⟩ (hset_same ..) (fun y hy => by simp [hset, hy])
theorem l1Below_o {key g : Nat} {b : AV} {n : Int} {h : Heap} {off : Nat} {K : AV → Heap → Prop} (hb : IsB b) (hl : bLen b ≤ 1073741824) (hc : Cur h key g b) (hK : ∀ (x : Int) h', 0 ≤ x → (n ≤ 0 → x = 0) → (0 < n → x < n) → Cur h' key g b → (∀ y, y ≠ key → h' y = h y) → K (.int .i64 x) h') : OpenTo env 84 [.vp key g 0, .int .i64 n] h off K := by
  refine openTo_of (F := Try.f84) rfl rfl (Nat.le_of_ble_eq_true rfl) ?_
  by_cases h0 : n ≤ 0
  · repeat' (first | (apply br_intro <;> intro hb <;> (have hb2 := hb) <;> (try simp [-Int.not_le, -Int.not_lt, -Nat.not_le, -Nat.not_lt, -Nat.add_left_cancel_iff] at hb2)) | (refine draw_listA (by rfl) (by kernel_rfl) ?_) | (refine draw_listB (by simp [allocsOf, isAlloc]; rfl) (by kernel_rfl) ?_) | simp (maxSteps := 2000000) (disch := first | omega | assumption | simp [*]) [*, -Int.not_le, -Int.not_lt, -Nat.not_le, -Nat.not_lt, -Nat.add_left_cancel_iff, wrap_i64, wrap_u64, Try.f84])
    all_goals exact hK 0 h (Int.le_refl _) (fun _ => rfl) (fun h => by omega) hc fun _ _ => rfl
  · by_cases h1 : n ≤ 256
    · repeat' (first | (apply br_intro <;> intro hb <;> (have hb2 := hb) <;> (try simp [-Int.not_le, -Int.not_lt, -Nat.not_le, -Nat.not_lt, -Nat.add_left_cancel_iff] at hb2)) | (refine draw_listA (by rfl) (by kernel_rfl) ?_) | (refine draw_listB (by simp [allocsOf, isAlloc]; rfl) (by kernel_rfl) ?_) | simp (maxSteps := 2000000) (disch := first | omega | assumption | simp [*]) [*, -Int.not_le, -Int.not_lt, -Nat.not_le, -Nat.not_lt, -Nat.add_left_cancel_iff, wrap_i64, wrap_u64, Try.f84])
      refine cf_open rfl rfl (l1Byte_o hb hl hc fun x h' hx hc' hf => ?_)
      have hn0 : ¬ n = 0 := by omega
      have hm1 := Int.tmod_nonneg n (show (0 : Int) ≤ x by omega)
      have hm2 := Int.tmod_lt_of_pos (x : Int) (show 0 < n by omega)
      repeat' (first | (apply br_intro <;> intro hb <;> (have hb2 := hb) <;> (try simp [-Int.not_le, -Int.not_lt, -Nat.not_le, -Nat.not_lt, -Nat.add_left_cancel_iff] at hb2)) | (refine draw_listA (by rfl) (by kernel_rfl) ?_) | (refine draw_listB (by simp [allocsOf, isAlloc]; rfl) (by kernel_rfl) ?_) | simp (maxSteps := 2000000) (disch := first | omega | assumption | simp [*]) [*, -Int.not_le, -Int.not_lt, -Nat.not_le, -Nat.not_lt, -Nat.add_left_cancel_iff, wrap_i64, wrap_u64])
      all_goals exact hK _ h' hm1 (fun h => by omega) (fun _ => hm2) hc' hf
    · repeat' (first | (apply br_intro <;> intro hb <;> (have hb2 := hb) <;> (try simp [-Int.not_le, -Int.not_lt, -Nat.not_le, -Nat.not_lt, -Nat.add_left_cancel_iff] at hb2)) | (refine draw_listA (by rfl) (by kernel_rfl) ?_) | (refine draw_listB (by simp [allocsOf, isAlloc]; rfl) (by kernel_rfl) ?_) | simp (maxSteps := 2000000) (disch := first | omega | assumption | simp [*]) [*, -Int.not_le, -Int.not_lt, -Nat.not_le, -Nat.not_lt, -Nat.add_left_cancel_iff, wrap_i64, wrap_u64, Try.f84])
      refine cf_open rfl rfl (l1Byte_o hb hl hc fun x1 h1' hx1 hc1 hf1 => ?_)
      repeat' (first | (apply br_intro <;> intro hb <;> (have hb2 := hb) <;> (try simp [-Int.not_le, -Int.not_lt, -Nat.not_le, -Nat.not_lt, -Nat.add_left_cancel_iff] at hb2)) | (refine draw_listA (by rfl) (by kernel_rfl) ?_) | (refine draw_listB (by simp [allocsOf, isAlloc]; rfl) (by kernel_rfl) ?_) | simp (maxSteps := 2000000) (disch := first | omega | assumption | simp [*]) [*, -Int.not_le, -Int.not_lt, -Nat.not_le, -Nat.not_lt, -Nat.add_left_cancel_iff, wrap_i64, wrap_u64])
      refine cf_open rfl rfl (l1Byte_o hb hl hc1 fun x2 h2' hx2 hc2 hf2 => ?_)
      repeat' (first | (apply br_intro <;> intro hb <;> (have hb2 := hb) <;> (try simp [-Int.not_le, -Int.not_lt, -Nat.not_le, -Nat.not_lt, -Nat.add_left_cancel_iff] at hb2)) | (refine draw_listA (by rfl) (by kernel_rfl) ?_) | (refine draw_listB (by simp [allocsOf, isAlloc]; rfl) (by kernel_rfl) ?_) | simp (maxSteps := 2000000) (disch := first | omega | assumption | simp [*]) [*, -Int.not_le, -Int.not_lt, -Nat.not_le, -Nat.not_lt, -Nat.add_left_cancel_iff, wrap_i64, wrap_u64])
      refine cf_open rfl rfl (l1Byte_o hb hl hc2 fun x3 h3' hx3 hc3 hf3 => ?_)
      repeat' (first | (apply br_intro <;> intro hb <;> (have hb2 := hb) <;> (try simp [-Int.not_le, -Int.not_lt, -Nat.not_le, -Nat.not_lt, -Nat.add_left_cancel_iff] at hb2)) | (refine draw_listA (by rfl) (by kernel_rfl) ?_) | (refine draw_listB (by simp [allocsOf, isAlloc]; rfl) (by kernel_rfl) ?_) | simp (maxSteps := 2000000) (disch := first | omega | assumption | simp [*]) [*, -Int.not_le, -Int.not_lt, -Nat.not_le, -Nat.not_lt, -Nat.add_left_cancel_iff, wrap_i64, wrap_u64])
      refine cf_open rfl rfl (l1Byte_o hb hl hc3 fun x4 h4' hx4 hc4 hf4 => ?_)
      have hn0 : ¬ n = 0 := by omega
      have hm1 := Int.tmod_nonneg n (show (0 : Int) ≤ (x1 : Int) * 16777216 + x2 * 65536 + x3 * 256 + x4 by omega)
      have hm2 := Int.tmod_lt_of_pos ((x1 : Int) * 16777216 + x2 * 65536 + x3 * 256 + x4) (show 0 < n by omega)
      repeat' (first | (apply br_intro <;> intro hb <;> (have hb2 := hb) <;> (try simp [-Int.not_le, -Int.not_lt, -Nat.not_le, -Nat.not_lt, -Nat.add_left_cancel_iff] at hb2)) | (refine draw_listA (by rfl) (by kernel_rfl) ?_) | (refine draw_listB (by simp [allocsOf, isAlloc]; rfl) (by kernel_rfl) ?_) | simp (maxSteps := 2000000) (disch := first | omega | assumption | simp [*]) [*, -Int.not_le, -Int.not_lt, -Nat.not_le, -Nat.not_lt, -Nat.add_left_cancel_iff, wrap_i64, wrap_u64])
      all_goals exact hK _ h4' hm1 (fun h => by omega) (fun _ => hm2) hc4 fun y hy => ((hf4 y hy).trans (hf3 y hy)).trans ((hf2 y hy).trans (hf1 y hy))
theorem l1Once_o {key g : Nat} {b : AV} {n : Int} {h : Heap} {off : Nat} {K : AV → Heap → Prop} (hb : IsB b) (hl : bLen b ≤ 1073741824) (hc : Cur h key g b) (hK : ∀ (c : Bool) h', Cur h' key g b → (∀ y, y ≠ key → h' y = h y) → K (.bool c) h') : OpenTo env 97 [.vp key g 0, .int .i64 n] h off K := by
  refine openTo_of (F := Try.f97) rfl rfl (Nat.le_of_ble_eq_true rfl) ?_
  repeat' (first | (apply br_intro <;> intro hb <;> (have hb2 := hb) <;> (try simp [-Int.not_le, -Int.not_lt, -Nat.not_le, -Nat.not_lt, -Nat.add_left_cancel_iff] at hb2)) | (refine draw_listA (by rfl) (by kernel_rfl) ?_) | (refine draw_listB (by simp [allocsOf, isAlloc]; rfl) (by kernel_rfl) ?_) | simp (maxSteps := 2000000) (disch := first | omega | assumption | simp [*]) [*, -Int.not_le, -Int.not_lt, -Nat.not_le, -Nat.not_lt, -Nat.add_left_cancel_iff, wrap_i64, wrap_u64, Try.f97])
  refine cf_open rfl rfl (l1Below_o hb hl hc fun x h' hx h0 h1 hc' hf => ?_)
  repeat' (first | (apply br_intro <;> intro hb <;> (have hb2 := hb) <;> (try simp [-Int.not_le, -Int.not_lt, -Nat.not_le, -Nat.not_lt, -Nat.add_left_cancel_iff] at hb2)) | (refine draw_listA (by rfl) (by kernel_rfl) ?_) | (refine draw_listB (by simp [allocsOf, isAlloc]; rfl) (by kernel_rfl) ?_) | simp (maxSteps := 2000000) (disch := first | omega | assumption | simp [*]) [*, -Int.not_le, -Int.not_lt, -Nat.not_le, -Nat.not_lt, -Nat.add_left_cancel_iff, wrap_i64, wrap_u64])
  all_goals exact hK _ h' hc' hf
theorem l1PickInt_o {key g : Nat} {b v : AV} {h : Heap} {off : Nat} {K : AV → Heap → Prop} (hb : IsB b) (hl : bLen b ≤ 1073741824) (hc : Cur h key g b) (hv : IsI v) (hne : 0 < (xsOf v).length) (hK : ∀ (j : Nat) h', j < (xsOf v).length → Cur h' key g b → (∀ y, y ≠ key → h' y = h y) → K (.int .i64 (nth (xsOf v) j)) h') : OpenTo env 118 [.vp key g 0, v] h off K := by
  refine openTo_of (F := Try.f118) rfl rfl (Nat.le_of_ble_eq_true rfl) ?_
  have hvl := hv.len
  repeat' (first | (apply br_intro <;> intro hb <;> (have hb2 := hb) <;> (try simp [-Int.not_le, -Int.not_lt, -Nat.not_le, -Nat.not_lt, -Nat.add_left_cancel_iff] at hb2)) | (refine draw_listA (by rfl) (by kernel_rfl) ?_) | (refine draw_listB (by simp [allocsOf, isAlloc]; rfl) (by kernel_rfl) ?_) | simp (maxSteps := 2000000) (disch := first | omega | assumption | simp [*]) [*, -Int.not_le, -Int.not_lt, -Nat.not_le, -Nat.not_lt, -Nat.add_left_cancel_iff, wrap_i64, wrap_u64, Try.f118, isI_len hv])
  refine cf_open rfl rfl (l1Below_o hb hl hc fun x h' hx h0 h1 hc' hf => ?_)
  have hx2 := h1 (by omega)
  obtain ⟨j, rfl⟩ : ∃ j : Nat, x = j := ⟨x.toNat, by omega⟩
  have hj : j < (xsOf v).length := by omega
  clear h0 h1
  repeat' (first | (apply br_intro <;> intro hb <;> (have hb2 := hb) <;> (try simp [-Int.not_le, -Int.not_lt, -Nat.not_le, -Nat.not_lt, -Nat.add_left_cancel_iff] at hb2)) | (refine draw_listA (by rfl) (by kernel_rfl) ?_) | (refine draw_listB (by simp [allocsOf, isAlloc]; rfl) (by kernel_rfl) ?_) | simp (maxSteps := 2000000) (disch := first | omega | assumption | simp [*]) [*, -Int.not_le, -Int.not_lt, -Nat.not_le, -Nat.not_lt, -Nat.add_left_cancel_iff, wrap_i64, wrap_u64, isI_len hv, isI_index hv, isI_load hv])
  all_goals exact hK j h' hj hc' hf
theorem l9Make_o {key g N : Nat} {b : AV} {h : Heap} {off : Nat} {K : AV → Heap → Prop} (hb : IsB b) (hl : bLen b ≤ 1073741824) (hN : N ≤ 8) (hc : Cur h key g b) (hk : key ≠ off + 4) (hK : ∀ (a c : Int) h', Cur h' key g b → (∀ y, y ≠ key → y ≠ off + 4 → h' y = h y) → K (.agg [.int .i64 a, .int .i64 c]) h') : OpenTo env 94 [.vp key g 0, .int .i64 N] h off K := by
  refine openTo_of (F := Try.f94) rfl rfl (Nat.le_of_ble_eq_true rfl) ?_
  have hpw := pow_small (i := N) (by omega)
  repeat' (first | (apply br_intro <;> intro hb <;> (have hb2 := hb) <;> (try simp [-Int.not_le, -Int.not_lt, -Nat.not_le, -Nat.not_lt, -Nat.add_left_cancel_iff] at hb2)) | (refine draw_listA (by rfl) (by kernel_rfl) ?_) | (refine draw_listB (by simp [allocsOf, isAlloc]; rfl) (by kernel_rfl) ?_) | simp (maxSteps := 2000000) (disch := first | omega | assumption | simp [*]) [*, -Int.not_le, -Int.not_lt, -Nat.not_le, -Nat.not_lt, -Nat.add_left_cancel_iff, wrap_i64, wrap_u64, Try.f94])
  refine cf_open rfl rfl (l1Below_o hb hl (hc.keep (by simp [hset, hk])) fun x1 h1' hx1 _ _ hc1 hf1 => ?_)
  repeat' (first | (apply br_intro <;> intro hb <;> (have hb2 := hb) <;> (try simp [-Int.not_le, -Int.not_lt, -Nat.not_le, -Nat.not_lt, -Nat.add_left_cancel_iff] at hb2)) | (refine draw_listA (by rfl) (by kernel_rfl) ?_) | (refine draw_listB (by simp [allocsOf, isAlloc]; rfl) (by kernel_rfl) ?_) | simp (maxSteps := 2000000) (disch := first | omega | assumption | simp [*]) [*, -Int.not_le, -Int.not_lt, -Nat.not_le, -Nat.not_lt, -Nat.add_left_cancel_iff, wrap_i64, wrap_u64])
  refine cf_open rfl rfl (l1Below_o hb hl hc1 fun x2 h2' hx2 _ _ hc2 hf2 => ?_)
  repeat' (first | (apply br_intro <;> intro hb <;> (have hb2 := hb) <;> (try simp [-Int.not_le, -Int.not_lt, -Nat.not_le, -Nat.not_lt, -Nat.add_left_cancel_iff] at hb2)) | (refine draw_listA (by rfl) (by kernel_rfl) ?_) | (refine draw_listB (by simp [allocsOf, isAlloc]; rfl) (by kernel_rfl) ?_) | simp (maxSteps := 2000000) (disch := first | omega | assumption | simp [*]) [*, -Int.not_le, -Int.not_lt, -Nat.not_le, -Nat.not_lt, -Nat.add_left_cancel_iff, wrap_i64, wrap_u64])
  refine cf_open rfl rfl (l1Below_o hb hl hc2 fun x3 h3' hx3 _ _ hc3 hf3 => ?_)
  have e3 : ∀ y, y ≠ key → h3' y = hset h (off + 4) (.var (nextG h (off + 4)) 53 (.agg [.int .i64 0, .int .i64 0])) y := fun y hy => ((hf3 y hy).trans (hf2 y hy)).trans (hf1 y hy)
  have e4 := e3 (off + 4) (Ne.symm hk)
  simp only [hset, if_true] at e4
  repeat' (first | (apply br_intro <;> intro hb <;> (have hb2 := hb) <;> (try simp [-Int.not_le, -Int.not_lt, -Nat.not_le, -Nat.not_lt, -Nat.add_left_cancel_iff] at hb2)) | (refine draw_listA (by rfl) (by kernel_rfl) ?_) | (refine draw_listB (by simp [allocsOf, isAlloc]; rfl) (by kernel_rfl) ?_) | simp (maxSteps := 2000000) (disch := first | omega | assumption | simp [*]) [*, -Int.not_le, -Int.not_lt, -Nat.not_le, -Nat.not_lt, -Nat.add_left_cancel_iff, wrap_i64, wrap_u64, e4])
  exact hK _ _ _ (hc3.keep (hset_other _ _ hk)) fun y y1 y2 => by rw [hset_other _ _ y2, e3 y y1, hset_other _ _ y2]
theorem l1Max_c {a b : Int} : EvC env 95 [.int .i64 a, .int .i64 b] (.int .i64 (if b < a then a else b)) := by
  refine evC_of (F := Try.f95) rfl rfl (Nat.le_of_ble_eq_true rfl) ?_
  repeat' (first | (apply br_intro <;> intro hb <;> (have hb2 := hb) <;> (try simp [-Int.not_le, -Int.not_lt, -Nat.not_le, -Nat.not_lt, -Nat.add_left_cancel_iff] at hb2)) | (refine draw_listA (by rfl) (by kernel_rfl) ?_) | (refine draw_listB (by simp [allocsOf, isAlloc]; rfl) (by kernel_rfl) ?_) | simp (maxSteps := 2000000) (disch := first | omega | assumption | simp [*]) [*, -Int.not_le, -Int.not_lt, -Nat.not_le, -Nat.not_lt, -Nat.add_left_cancel_iff, wrap_i64, wrap_u64, Try.f95])
  all_goals simp_all
theorem l1Max_s {a b : Int} {K : AV → Prop} {tg : Tg K} : CW env 95 [.int .i64 a, .int .i64 b] K tg ↔ K (.int .i64 (if b < a then a else b)) := callsTo_iff (l1Max_c )
attribute [simp] l1Max_s
theorem l1Min_c {a b : Int} : EvC env 96 [.int .i64 a, .int .i64 b] (.int .i64 (if a < b then a else b)) := by
  refine evC_of (F := Try.f96) rfl rfl (Nat.le_of_ble_eq_true rfl) ?_
  repeat' (first | (apply br_intro <;> intro hb <;> (have hb2 := hb) <;> (try simp [-Int.not_le, -Int.not_lt, -Nat.not_le, -Nat.not_lt, -Nat.add_left_cancel_iff] at hb2)) | (refine draw_listA (by rfl) (by kernel_rfl) ?_) | (refine draw_listB (by simp [allocsOf, isAlloc]; rfl) (by kernel_rfl) ?_) | simp (maxSteps := 2000000) (disch := first | omega | assumption | simp [*]) [*, -Int.not_le, -Int.not_lt, -Nat.not_le, -Nat.not_lt, -Nat.add_left_cancel_iff, wrap_i64, wrap_u64, Try.f96])
  all_goals simp_all
theorem l1Min_s {a b : Int} {K : AV → Prop} {tg : Tg K} : CW env 96 [.int .i64 a, .int .i64 b] K tg ↔ K (.int .i64 (if a < b then a else b)) := callsTo_iff (l1Min_c )
attribute [simp] l1Min_s
/-- a partial context that is being drawn -/
def PDr (h : Heap) (ks km : Nat) (u v : AV) (k : Nat) : Prop := ∃ ss ms, Buf h 3 ks 0 u ss ∧ Buf h 3 km 0 v ms ∧ ss.length = k ∧ ms.length = k
/-- the loop's state -/
def DSt (h0 h : Heap) (off key g : Nat) (b : AV) (n k : Nat) (a6 a4 : AV) : Prop := ∃ (o : Int) (g4 : Nat) (u v : AV), a6 = .int .i64 o ∧ 0 ≤ o ∧ o ≤ 8 * k ∧ a4 = .vp (off + 4) g4 0 ∧ h (off + 4) = some (.var g4 55 (.agg [.int .i64 n, u, v])) ∧
  PDr h (off + 56) (off + 62) u v k ∧ Cur h key g b ∧ ∀ y, y < off → y ≠ key → h y = h0 y
theorem l15Draw_o {key g : Nat} {b : AV} {h : Heap} {off : Nat} {K : AV → Heap → Prop} (hb : IsB b) (hl : bLen b ≤ 1073741824) (hc : Cur h key g b) (hk : key < off) (hK : ∀ (n k : Nat) (u v : AV) h', n ≤ 4 → k ≤ 4 → PDr h' (off + 56) (off + 62) u v k → Cur h' key g b → (∀ y, y < off → y ≠ key → h' y = h y) → K (.agg [.int .i64 n, u, v]) h') : OpenTo env 122 [.vp key g 0] h off K := by
  refine openTo_of (F := Try.f122) rfl rfl (Nat.le_of_ble_eq_true rfl) ?_
  obtain ⟨g2, hg2⟩ : ∃ g2, nextG h (off + 2) = g2 := ⟨_, rfl⟩
  have hg2' := hg2
  simp only [nextG, Blk.g] at hg2'
  repeat' (first | (apply br_intro <;> intro hb <;> (have hb2 := hb) <;> (try simp [-Int.not_le, -Int.not_lt, -Nat.not_le, -Nat.not_lt, -Nat.add_left_cancel_iff] at hb2)) | (refine draw_listA (by rfl) (by kernel_rfl) ?_) | (refine draw_listB (by simp [allocsOf, isAlloc]; rfl) (by kernel_rfl) ?_) | simp (maxSteps := 2000000) (disch := first | omega | assumption | simp [*]) [*, -Int.not_le, -Int.not_lt, -Nat.not_le, -Nat.not_lt, -Nat.add_left_cancel_iff, wrap_i64, wrap_u64, Try.f122])
  refine cf_open rfl rfl (l1Below_o hb hl (hc.keep (hset_other _ _ (by omega))) fun x1 h1' hx1 _ hy1 hc1 hf1 => ?_)
  have hz1 := hy1 (by omega)
  obtain ⟨n0, rfl⟩ : ∃ n0 : Nat, x1 = n0 := ⟨x1.toNat, by omega⟩
  obtain ⟨N, hN⟩ : ∃ N : Nat, N = n0 + 1 := ⟨_, rfl⟩
  have hN4 : N ≤ 4 := by omega
  have hNi : 1 + (n0 : Int) = (N : Int) := by omega
  have e12 : h1' (off + 2) = some (.var g2 55 (.agg [.int .i64 0, .sl 0 .lit [], .sl 0 .lit []])) := by rw [hf1 _ (by omega), ← hg2]; exact hset_same ..
  have hfr1 : ∀ y, y < off → y ≠ key → h1' y = h y := fun y y1 y2 => by rw [hf1 y y2, hset_other _ _ (by omega)]
  obtain ⟨g4, hg4⟩ : ∃ g4, nextG h1' (off + 4) = g4 := ⟨_, rfl⟩
  have hg4' := hg4
  simp only [nextG, Blk.g] at hg4'
  clear hy1 hf1 hN
  repeat' (first | (apply br_intro <;> intro hb <;> (have hb2 := hb) <;> (try simp [-Int.not_le, -Int.not_lt, -Nat.not_le, -Nat.not_lt, -Nat.add_left_cancel_iff] at hb2)) | (refine draw_listA (by rfl) (by kernel_rfl) ?_) | (refine draw_listB (by simp [allocsOf, isAlloc]; rfl) (by kernel_rfl) ?_) | simp (maxSteps := 2000000) (disch := first | omega | assumption | simp [*]) [*, -Int.not_le, -Int.not_lt, -Nat.not_le, -Nat.not_lt, -Nat.add_left_cancel_iff, wrap_i64, wrap_u64])
  refine cf_open rfl rfl (l1Below_o hb hl (hc1.keep (hset_other _ _ (by omega))) fun x2 h2' hx2 _ hy2 hc2 hf2 => ?_)
  have hz2 := hy2 (by omega)
  obtain ⟨k0, rfl⟩ : ∃ k0 : Nat, x2 = k0 := ⟨x2.toNat, by omega⟩
  have e22 : h2' (off + 2) = some (.var g2 55 (.agg [.int .i64 0, .sl 0 .lit [], .sl 0 .lit []])) := by rw [hf2 _ (by omega), hset_other _ _ (by omega)]; exact e12
  have e24 : h2' (off + 4) = some (.var g4 55 (.agg [.int .i64 N, .sl 0 .lit [], .sl 0 .lit []])) := by rw [hf2 _ (by omega), ← hg4, ← hNi]; exact hset_same ..
  have hfr2 : ∀ y, y < off → y ≠ key → h2' y = h y := fun y y1 y2 => by rw [hf2 y y2, hset_other _ _ (by omega), hfr1 y y1 y2]
  have hpw := pow_small (i := N) (by omega)
  clear hy2 hf2 hg4 hg4' hg2 hg2' e12 hfr1 hc1 hc
  repeat' (first | (apply br_intro <;> intro hb <;> (have hb2 := hb) <;> (try simp [-Int.not_le, -Int.not_lt, -Nat.not_le, -Nat.not_lt, -Nat.add_left_cancel_iff] at hb2)) | (refine draw_listA (by rfl) (by kernel_rfl) ?_) | (refine draw_listB (by simp [allocsOf, isAlloc]; rfl) (by kernel_rfl) ?_) | simp (maxSteps := 2000000) (disch := first | omega | assumption | simp [*]) [*, -Int.not_le, -Int.not_lt, -Nat.not_le, -Nat.not_lt, -Nat.add_left_cancel_iff, wrap_i64, wrap_u64])
  refine W_loopG k0 (fun k s h' => DSt h h' off key g b N k (s 6) (s 4) ∧ s 7 = .int .i64 k ∧ s 5 = .int .i64 k0 ∧ s 3 = .int .i64 N ∧ s 0 = .vp key g 0 ∧ s 2 = .vp (off + 2) g2 0 ∧ h' (off + 2) = some (.var g2 55 (.agg [.int .i64 0, .sl 0 .lit [], .sl 0 .lit []]))) ?_ ?_
  · have hst : DSt h h2' off key g b N 0 (.int .i64 0) (.vp (off + 4) g4 0) := ⟨0, g4, _, _, rfl, Int.le_refl _, by simp, rfl, e24, ⟨[], [], buf_nil .., buf_nil .., rfl, rfl⟩, hc2, hfr2⟩
    simp [*]
  clear e22 e24 hfr2 hc2
  rintro k s h3 hk3 ⟨⟨o, g4', u, v, h6, ho1, ho2, h4, e4, ⟨ss, ms, hBs, hBm, hls, hlm⟩, hc3, hfr3⟩, h7, h5, hs3, h0, hs2, e2⟩
  by_cases hk4 : k < k0
  · repeat' (first | (apply br_intro <;> intro hb <;> (have hb2 := hb) <;> (try simp [-Int.not_le, -Int.not_lt, -Nat.not_le, -Nat.not_lt, -Nat.add_left_cancel_iff] at hb2)) | (refine draw_listA (by rfl) (by kernel_rfl) ?_) | (refine draw_listB (by simp [allocsOf, isAlloc]; rfl) (by kernel_rfl) ?_) | simp (maxSteps := 2000000) (disch := first | omega | assumption | simp [*]) [*, -Int.not_le, -Int.not_lt, -Nat.not_le, -Nat.not_lt, -Nat.add_left_cancel_iff, wrap_i64, wrap_u64, h7, h5, h6, hs3, h0, hs2, h4])
    refine cf_open rfl rfl (l1Below_o hb hl hc3 fun xs h4' hxs _ hys hc4 hf4 => ?_)
    have hzs := hys (by omega)
    repeat' (first | (apply br_intro <;> intro hb <;> (have hb2 := hb) <;> (try simp [-Int.not_le, -Int.not_lt, -Nat.not_le, -Nat.not_lt, -Nat.add_left_cancel_iff] at hb2)) | (refine draw_listA (by rfl) (by kernel_rfl) ?_) | (refine draw_listB (by simp [allocsOf, isAlloc]; rfl) (by kernel_rfl) ?_) | simp (maxSteps := 2000000) (disch := first | omega | assumption | simp [*]) [*, -Int.not_le, -Int.not_lt, -Nat.not_le, -Nat.not_lt, -Nat.add_left_cancel_iff, wrap_i64, wrap_u64, h7, h5, h6, hs3, h0, hs2, h4])
    refine cf_open rfl rfl (l1Below_o hb hl hc4 fun xa h5' hxa _ _ hc5 hf5 => ?_)
    repeat' (first | (apply br_intro <;> intro hb <;> (have hb2 := hb) <;> (try simp [-Int.not_le, -Int.not_lt, -Nat.not_le, -Nat.not_lt, -Nat.add_left_cancel_iff] at hb2)) | (refine draw_listA (by rfl) (by kernel_rfl) ?_) | (refine draw_listB (by simp [allocsOf, isAlloc]; rfl) (by kernel_rfl) ?_) | simp (maxSteps := 2000000) (disch := first | omega | assumption | simp [*]) [*, -Int.not_le, -Int.not_lt, -Nat.not_le, -Nat.not_lt, -Nat.add_left_cancel_iff, wrap_i64, wrap_u64, h7, h5, h6, hs3, h0, hs2, h4])
    refine cf_open rfl rfl (l1Below_o hb hl hc5 fun xb h6' hxb _ _ hc6 hf6 => ?_)
    have hf : ∀ y, y ≠ key → h6' y = h3 y := fun y hy => ((hf6 y hy).trans (hf5 y hy)).trans (hf4 y hy)
    have e42 := (hf (off + 4) (by omega)).trans e4
    have e22 := (hf (off + 2) (by omega)).trans e2
    have hBs2 := hBs.keep (hf (off + 56) (by omega))
    have hBm2 := hBm.keep (hf (off + 62) (by omega))
    have hfr4 : ∀ y, y < off → y ≠ key → h6' y = h y := fun y y1 y2 => (hf y y2).trans (hfr3 y y1 y2)
    have hm8 := elemsTo_len (Go.bits .and .i64 (Go.bits .and .i64 xa xb) (2 ^ N - 1 - xs)) 8
    have hz8 := elemsTo_len 0 8
    have hN8 : (N : Int) ≤ 8 := by omega
    clear hf hf4 hf5 hf6 e4 e2 hBs hBm hfr3 hc3 hc4 hc5 hys
    repeat' (first | (apply br_intro <;> intro hb <;> (have hb2 := hb) <;> (try simp [-Int.not_le, -Int.not_lt, -Nat.not_le, -Nat.not_lt, -Nat.add_left_cancel_iff] at hb2)) | (refine draw_listA (by rfl) (by kernel_rfl) ?_) | (refine draw_listB (by simp [allocsOf, isAlloc]; rfl) (by kernel_rfl) ?_) | simp (maxSteps := 2000000) (disch := first | omega | assumption | simp [*]) [*, -Int.not_le, -Int.not_lt, -Nat.not_le, -Nat.not_lt, -Nat.add_left_cancel_iff, wrap_i64, wrap_u64, h7, h5, h6, hs3, h0, hs2, h4, e42])
    all_goals
      refine wa_push hBs2 (by simp) (by simp) (by omega) ?_
      intro u2 hA hBs3 hkA
      have ou2 := hBs3.one
      have cu2 := hBs3.cells
      have e43 := (hkA (off + 4) (by omega)).trans e42
      have e23 := (hkA (off + 2) (by omega)).trans e22
      have hBm3 := hBm2.keep (hkA (off + 62) (by omega))
      have hcA := hc6.keep (hkA key (by omega))
      have hfrA : ∀ y, y < off → y ≠ key → hA y = h y := fun y y1 y2 => (hkA y (by omega)).trans (hfr4 y y1 y2)
      repeat' (first | (apply br_intro <;> intro hb <;> (have hb2 := hb) <;> (try simp [-Int.not_le, -Int.not_lt, -Nat.not_le, -Nat.not_lt, -Nat.add_left_cancel_iff] at hb2)) | (refine draw_listA (by rfl) (by kernel_rfl) ?_) | (refine draw_listB (by simp [allocsOf, isAlloc]; rfl) (by kernel_rfl) ?_) | simp (maxSteps := 2000000) (disch := first | omega | assumption | simp [*]) [*, -Int.not_le, -Int.not_lt, -Nat.not_le, -Nat.not_lt, -Nat.add_left_cancel_iff, wrap_i64, wrap_u64, h7, h5, h6, hs3, h0, hs2, h4, e43])
      refine wa_push (hBm3.keep (hset_other _ _ (by omega))) (by simp) (by simp) (by omega) ?_
      intro v2 hC hBm4 hkC
      have ov2 := hBm4.one
      have cv2 := hBm4.cells
      have e44 : hC (off + 4) = some (.var g4' 55 (.agg [.int .i64 N, u2, v])) := by rw [hkC _ (by omega)]; exact hset_same ..
      have e25 : hC (off + 2) = some (.var g2 55 (.agg [.int .i64 0, .sl 0 .lit [], .sl 0 .lit []])) := by rw [hkC _ (by omega), hset_other _ _ (by omega)]; exact e23
      have hBs4 := hBs3.keep (h' := hC) (by rw [hkC _ (by omega), hset_other _ _ (by omega)])
      have hcC := hcA.keep (h' := hC) (by rw [hkC _ (by omega), hset_other _ _ (by omega)])
      have hfrC : ∀ y, y < off → y ≠ key → hC y = h y := fun y y1 y2 => by rw [hkC y (by omega), hset_other _ _ (by omega)]; exact hfrA y y1 y2
      repeat' (first | (apply br_intro <;> intro hb <;> (have hb2 := hb) <;> (try simp [-Int.not_le, -Int.not_lt, -Nat.not_le, -Nat.not_lt, -Nat.add_left_cancel_iff] at hb2)) | (refine draw_listA (by rfl) (by kernel_rfl) ?_) | (refine draw_listB (by simp [allocsOf, isAlloc]; rfl) (by kernel_rfl) ?_) | simp (maxSteps := 2000000) (disch := first | omega | assumption | simp [*]) [*, -Int.not_le, -Int.not_lt, -Nat.not_le, -Nat.not_lt, -Nat.add_left_cancel_iff, wrap_i64, wrap_u64, h7, h5, h6, hs3, h0, hs2, h4, e44])
      refine ⟨_, g4', u2, v2, rfl, by omega, by push_cast; omega, rfl, hset_same .., ⟨_, _, hBs4.keep (hset_other _ _ (by omega)), hBm4.keep (hset_other _ _ (by omega)), by simp [hls], by simp [hlm]⟩, hcC.keep (hset_other _ _ (by omega)), fun y y1 y2 => by rw [hset_other _ _ (by omega)]; exact hfrC y y1 y2⟩
  · obtain rfl : k = k0 := by omega
    have ou := hBs.one
    have cu := hBs.cells
    have ov := hBm.one
    have cv := hBm.cells
    repeat' (first | (apply br_intro <;> intro hb <;> (have hb2 := hb) <;> (try simp [-Int.not_le, -Int.not_lt, -Nat.not_le, -Nat.not_lt, -Nat.add_left_cancel_iff] at hb2)) | (refine draw_listA (by rfl) (by kernel_rfl) ?_) | (refine draw_listB (by simp [allocsOf, isAlloc]; rfl) (by kernel_rfl) ?_) | simp (maxSteps := 2000000) (disch := first | omega | assumption | simp [*]) [*, -Int.not_le, -Int.not_lt, -Nat.not_le, -Nat.not_lt, -Nat.add_left_cancel_iff, wrap_i64, wrap_u64, h7, h5, h6, hs3, h0, hs2, h4, e4, e2])
    exact hK N k u v _ hN4 (by omega) ⟨ss, ms, hBs.keep (hset_other _ _ (by omega)), hBm.keep (hset_other _ _ (by omega)), hls, hlm⟩ (hc3.keep (hset_other _ _ (by omega))) fun y y1 y2 => by rw [hset_other _ _ (by omega)]; exact hfr3 y y1 y2
/-- a partial context that was drawn; its rows may have grown at other places -/
def PBt (h : Heap) (ks km : Nat) (u v : AV) : Prop := ∃ ss ms, Buf h 3 ks 0 u ss ∧ Buf h 3 km 0 v ms ∧ ss.length ≤ 6 ∧ ms.length ≤ 6
theorem l15Bent_o {key g : Nat} {b : AV} {h : Heap} {off : Nat} {K : AV → Heap → Prop} (hb : IsB b) (hl : bLen b ≤ 1073741824) (hc : Cur h key g b) (hk : key < off) (hK : ∀ (n : Int) (ks km : Nat) (u v : AV) h', (ks = off + 100056 ∨ ks = off + 19 ∨ ks = off + 26) → (km = off + 100062 ∨ km = off + 31) → PBt h' ks km u v → Cur h' key g b → (∀ y, y < off → y ≠ key → h' y = h y) → K (.agg [.int .i64 n, u, v]) h') : OpenTo env 93 [.vp key g 0] h off K := by
  refine openTo_of (F := Try.f93) rfl rfl (Nat.le_of_ble_eq_true rfl) ?_
  obtain ⟨g2, hg2⟩ : ∃ g2, nextG h (off + 2) = g2 := ⟨_, rfl⟩
  have hg2' := hg2
  simp only [nextG, Blk.g] at hg2'
  repeat' (first | (apply br_intro <;> intro hb <;> (have hb2 := hb) <;> (try simp [-Int.not_le, -Int.not_lt, -Nat.not_le, -Nat.not_lt, -Nat.add_left_cancel_iff] at hb2)) | (refine draw_listA (by rfl) (by kernel_rfl) ?_) | (refine draw_listB (by simp [allocsOf, isAlloc]; rfl) (by kernel_rfl) ?_) | simp (maxSteps := 2000000) (disch := first | omega | assumption | simp [*]) [*, -Int.not_le, -Int.not_lt, -Nat.not_le, -Nat.not_lt, -Nat.add_left_cancel_iff, wrap_i64, wrap_u64, Try.f93])
  refine cf_open rfl rfl (l15Draw_o hb hl (hc.keep (hset_other _ _ (by omega))) (by simp [farOff]; omega) fun N k u v h1 hN hk4 hp hc1 hf1 => ?_)
  obtain ⟨ss, ms, hBs, hBm, hls, hlm⟩ := hp
  simp only [farOff] at hBs hBm hf1
  have e12 : h1 (off + 2) = some (.var g2 55 (.agg [.int .i64 0, .sl 0 .lit [], .sl 0 .lit []])) := by rw [hf1 _ (by omega) (by omega), ← hg2]; exact hset_same ..
  have hfr1 : ∀ y, y < off → y ≠ key → h1 y = h y := fun y y1 y2 => by rw [hf1 y (by omega) y2, hset_other _ _ (by omega)]
  have ou := hBs.one
  have cu := hBs.cells
  have ov := hBm.one
  have cv := hBm.cells
  obtain ⟨g3, hg3⟩ : ∃ g3, nextG h1 (off + 3) = g3 := ⟨_, rfl⟩
  have hg3' := hg3
  simp only [nextG, Blk.g] at hg3'
  clear hf1 hc
  repeat' (first | (apply br_intro <;> intro hb <;> (have hb2 := hb) <;> (try simp [-Int.not_le, -Int.not_lt, -Nat.not_le, -Nat.not_lt, -Nat.add_left_cancel_iff] at hb2)) | (refine draw_listA (by rfl) (by kernel_rfl) ?_) | (refine draw_listB (by simp [allocsOf, isAlloc]; rfl) (by kernel_rfl) ?_) | simp (maxSteps := 2000000) (disch := first | omega | assumption | simp [*]) [*, -Int.not_le, -Int.not_lt, -Nat.not_le, -Nat.not_lt, -Nat.add_left_cancel_iff, wrap_i64, wrap_u64])
  refine cf_open rfl rfl (l1Below_o hb hl (hc1.keep (hset_other _ _ (by omega))) fun x h2 hx _ hy hc2 hf2 => ?_)
  have e22 : h2 (off + 2) = some (.var g2 55 (.agg [.int .i64 0, .sl 0 .lit [], .sl 0 .lit []])) := by rw [hf2 _ (by omega), hset_other _ _ (by omega)]; exact e12
  have e23 : h2 (off + 3) = some (.var g3 55 (.agg [.int .i64 N, u, v])) := by rw [hf2 _ (by omega), ← hg3]; exact hset_same ..
  have hfr2 : ∀ y, y < off → y ≠ key → h2 y = h y := fun y y1 y2 => by rw [hf2 y y2, hset_other _ _ (by omega), hfr1 y y1 y2]
  have hBs2 := hBs.keep (h' := h2) (by rw [hf2 _ (by omega), hset_other _ _ (by omega)])
  have hBm2 := hBm.keep (h' := h2) (by rw [hf2 _ (by omega), hset_other _ _ (by omega)])
  clear hf2 hBs hBm hg3 hg3' hg2 hg2' e12 hfr1 hc1 hy
  by_cases x0 : x = 0
  · subst x0
    have hr : [0, 1, 2] = List.range 3 := rfl
    have hv : IsI (.sl 1 .lit [.int .i64 (-1), .int .i64 7, .int .i64 0]) := isI_lit1 (xs := [-1, 7, 0]) (by decide)
    repeat' (first | (apply br_intro <;> intro hb <;> (have hb2 := hb) <;> (try simp [-Int.not_le, -Int.not_lt, -Nat.not_le, -Nat.not_lt, -Nat.add_left_cancel_iff] at hb2)) | (refine draw_listA (by rfl) (by kernel_rfl) ?_) | (refine draw_listB (by simp [allocsOf, isAlloc]; rfl) (by kernel_rfl) ?_) | simp (maxSteps := 2000000) (disch := first | omega | assumption | simp [*]) [*, -Int.not_le, -Int.not_lt, -Nat.not_le, -Nat.not_lt, -Nat.add_left_cancel_iff, wrap_i64, wrap_u64, e23])
    refine cf_open rfl rfl (l1PickInt_o hb hl hc2 hv (by simp [xsOf]) fun j h4 hj hc4 hf4 => ?_)
    generalize nth (xsOf (.sl 1 .lit [.int .i64 (-1), .int .i64 7, .int .i64 0])) j = z
    have e42 := (hf4 (off + 2) (by omega)).trans e22
    have e43 := (hf4 (off + 3) (by omega)).trans e23
    have hBs4 := hBs2.keep (hf4 _ (by omega))
    have hBm4 := hBm2.keep (hf4 _ (by omega))
    have hfr4 : ∀ y, y < off → y ≠ key → h4 y = h y := fun y y1 y2 => (hf4 y y2).trans (hfr2 y y1 y2)
    clear hr hv hf4 e22 e23
    repeat' (first | (apply br_intro <;> intro hb <;> (have hb2 := hb) <;> (try simp [-Int.not_le, -Int.not_lt, -Nat.not_le, -Nat.not_lt, -Nat.add_left_cancel_iff] at hb2)) | (refine draw_listA (by rfl) (by kernel_rfl) ?_) | (refine draw_listB (by simp [allocsOf, isAlloc]; rfl) (by kernel_rfl) ?_) | simp (maxSteps := 2000000) (disch := first | omega | assumption | simp [*]) [*, -Int.not_le, -Int.not_lt, -Nat.not_le, -Nat.not_lt, -Nat.add_left_cancel_iff, wrap_i64, wrap_u64, e42, e43])
    exact hK z _ _ u v _ (.inl rfl) (.inl rfl) ⟨ss, ms, hBs4.keep (by rw [hset_other _ _ (by omega), hset_other _ _ (by omega)]), hBm4.keep (by rw [hset_other _ _ (by omega), hset_other _ _ (by omega)]), by omega, by omega⟩
      (hc4.keep (by rw [hset_other _ _ (by omega), hset_other _ _ (by omega)])) fun y y1 y2 => by rw [hset_other _ _ (by omega), hset_other _ _ (by omega)]; exact hfr4 y y1 y2
  · by_cases x1 : x = 1
    · subst x1
      repeat' (first | (apply br_intro <;> intro hb <;> (have hb2 := hb) <;> (try simp [-Int.not_le, -Int.not_lt, -Nat.not_le, -Nat.not_lt, -Nat.add_left_cancel_iff] at hb2)) | (refine draw_listA (by rfl) (by kernel_rfl) ?_) | (refine draw_listB (by simp [allocsOf, isAlloc]; rfl) (by kernel_rfl) ?_) | simp (maxSteps := 2000000) (disch := first | omega | assumption | simp [*]) [*, -Int.not_le, -Int.not_lt, -Nat.not_le, -Nat.not_lt, -Nat.add_left_cancel_iff, wrap_i64, wrap_u64, e23])
      refine wa_pushS hBs2 (by simp) (by simp) (by omega) ?_
      intro ks u2 h4 hks hBs4 hf4
      have ou2 := hBs4.one
      have cu2 := hBs4.cells
      have e42 := (hf4 (off + 2) (by omega)).trans e22
      have e43 := (hf4 (off + 3) (by omega)).trans e23
      have hBm4 := hBm2.keep (hf4 _ (by omega))
      have hc4 := hc2.keep (hf4 _ (by omega))
      have hfr4 : ∀ y, y < off → y ≠ key → h4 y = h y := fun y y1 y2 => (hf4 y (by omega)).trans (hfr2 y y1 y2)
      clear hf4 e22 e23
      repeat' (first | (apply br_intro <;> intro hb <;> (have hb2 := hb) <;> (try simp [-Int.not_le, -Int.not_lt, -Nat.not_le, -Nat.not_lt, -Nat.add_left_cancel_iff] at hb2)) | (refine draw_listA (by rfl) (by kernel_rfl) ?_) | (refine draw_listB (by simp [allocsOf, isAlloc]; rfl) (by kernel_rfl) ?_) | simp (maxSteps := 2000000) (disch := first | omega | assumption | simp [*]) [*, -Int.not_le, -Int.not_lt, -Nat.not_le, -Nat.not_lt, -Nat.add_left_cancel_iff, wrap_i64, wrap_u64, e42, e43])
      exact hK N _ _ u2 v _ (by omega) (.inl rfl) ⟨_, ms, hBs4.keep (by rw [hset_other _ _ (by omega), hset_other _ _ (by omega)]), hBm4.keep (by rw [hset_other _ _ (by omega), hset_other _ _ (by omega)]), by simp; omega, by omega⟩
        (hc4.keep (by rw [hset_other _ _ (by omega), hset_other _ _ (by omega)])) fun y y1 y2 => by rw [hset_other _ _ (by omega), hset_other _ _ (by omega)]; exact hfr4 y y1 y2
    · by_cases x2 : x = 2
      · subst x2
        repeat' (first | (apply br_intro <;> intro hb <;> (have hb2 := hb) <;> (try simp [-Int.not_le, -Int.not_lt, -Nat.not_le, -Nat.not_lt, -Nat.add_left_cancel_iff] at hb2)) | (refine draw_listA (by rfl) (by kernel_rfl) ?_) | (refine draw_listB (by simp [allocsOf, isAlloc]; rfl) (by kernel_rfl) ?_) | simp (maxSteps := 2000000) (disch := first | omega | assumption | simp [*]) [*, -Int.not_le, -Int.not_lt, -Nat.not_le, -Nat.not_lt, -Nat.add_left_cancel_iff, wrap_i64, wrap_u64, e23])
        refine wa_pushS hBs2 (by simp) (by simp) (by omega) ?_
        intro ks u2 h4 hks hBs4 hf4
        have ou2 := hBs4.one
        have cu2 := hBs4.cells
        have e42 := (hf4 (off + 2) (by omega)).trans e22
        have e43 := (hf4 (off + 3) (by omega)).trans e23
        have hBm4 := hBm2.keep (hf4 _ (by omega))
        have hc4 := hc2.keep (hf4 _ (by omega))
        have hfr4 : ∀ y, y < off → y ≠ key → h4 y = h y := fun y y1 y2 => (hf4 y (by omega)).trans (hfr2 y y1 y2)
        clear hf4 e22 e23
        repeat' (first | (apply br_intro <;> intro hb <;> (have hb2 := hb) <;> (try simp [-Int.not_le, -Int.not_lt, -Nat.not_le, -Nat.not_lt, -Nat.add_left_cancel_iff] at hb2)) | (refine draw_listA (by rfl) (by kernel_rfl) ?_) | (refine draw_listB (by simp [allocsOf, isAlloc]; rfl) (by kernel_rfl) ?_) | simp (maxSteps := 2000000) (disch := first | omega | assumption | simp [*]) [*, -Int.not_le, -Int.not_lt, -Nat.not_le, -Nat.not_lt, -Nat.add_left_cancel_iff, wrap_i64, wrap_u64, e43])
        refine wa_pushS (hBm4.keep (hset_other _ _ (by omega))) (by simp) (by simp) (by omega) ?_
        intro km v2 h5 hkm hBm5 hf5
        have ov2 := hBm5.one
        have cv2 := hBm5.cells
        have e52 : h5 (off + 2) = some (.var g2 55 (.agg [.int .i64 0, .sl 0 .lit [], .sl 0 .lit []])) := by rw [hf5 _ (by omega), hset_other _ _ (by omega)]; exact e42
        have e53 : h5 (off + 3) = some (.var g3 55 (.agg [.int .i64 N, u2, v])) := by rw [hf5 _ (by omega)]; exact hset_same ..
        have hBs5 := hBs4.keep (h' := h5) (by rw [hf5 _ (by omega), hset_other _ _ (by omega)])
        have hc5 := hc4.keep (h' := h5) (by rw [hf5 _ (by omega), hset_other _ _ (by omega)])
        have hfr5 : ∀ y, y < off → y ≠ key → h5 y = h y := fun y y1 y2 => by rw [hf5 y (by omega), hset_other _ _ (by omega)]; exact hfr4 y y1 y2
        clear hf5 e42 e43
        repeat' (first | (apply br_intro <;> intro hb <;> (have hb2 := hb) <;> (try simp [-Int.not_le, -Int.not_lt, -Nat.not_le, -Nat.not_lt, -Nat.add_left_cancel_iff] at hb2)) | (refine draw_listA (by rfl) (by kernel_rfl) ?_) | (refine draw_listB (by simp [allocsOf, isAlloc]; rfl) (by kernel_rfl) ?_) | simp (maxSteps := 2000000) (disch := first | omega | assumption | simp [*]) [*, -Int.not_le, -Int.not_lt, -Nat.not_le, -Nat.not_lt, -Nat.add_left_cancel_iff, wrap_i64, wrap_u64, e52, e53])
        exact hK N _ _ u2 v2 _ (by omega) (by omega) ⟨_, _, hBs5.keep (by rw [hset_other _ _ (by omega), hset_other _ _ (by omega)]), hBm5.keep (by rw [hset_other _ _ (by omega), hset_other _ _ (by omega)]), by simp; omega, by simp; omega⟩
          (hc5.keep (by rw [hset_other _ _ (by omega), hset_other _ _ (by omega)])) fun y y1 y2 => by rw [hset_other _ _ (by omega), hset_other _ _ (by omega)]; exact hfr5 y y1 y2
      · repeat' (first | (apply br_intro <;> intro hb <;> (have hb2 := hb) <;> (try simp [-Int.not_le, -Int.not_lt, -Nat.not_le, -Nat.not_lt, -Nat.add_left_cancel_iff] at hb2)) | (refine draw_listA (by rfl) (by kernel_rfl) ?_) | (refine draw_listB (by simp [allocsOf, isAlloc]; rfl) (by kernel_rfl) ?_) | simp (maxSteps := 2000000) (disch := first | omega | assumption | simp [*]) [*, -Int.not_le, -Int.not_lt, -Nat.not_le, -Nat.not_lt, -Nat.add_left_cancel_iff, wrap_i64, wrap_u64, e22, e23])
        exact hK N _ _ u v _ (.inl rfl) (.inl rfl) ⟨ss, ms, hBs2.keep (hset_other _ _ (by omega)), hBm2.keep (hset_other _ _ (by omega)), by omega, by omega⟩
          (hc2.keep (hset_other _ _ (by omega))) fun y y1 y2 => by rw [hset_other _ _ (by omega)]; exact hfr2 y y1 y2
end Go.Proofs.Ytkkkgaapkibhkaa
