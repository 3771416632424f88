/- XFew XFew2 XFew3 XLawFewestFactors, joined. Conditions: none. -/
import Derived.Test.YtliecnadoklgoaaGreatDoorFacP
import Derived.Test.YtliecnadoklgoaaGreatDoorCover
import Derived.Test.YtliecnadoklgoaaGreatDoorGrd
import Derived.Test.YtliecnadoklgoaaGreatDoorCalls
/- The fewest factors: both sides' searches. Conditions: none. -/
namespace Go.Proofs.YtliecnadoklgoaaGreatDoor
open Ev
set_option linter.unusedVariables false
set_option linter.unusedSimpArgs false
set_option maxHeartbeats 4000000

theorem bufL_rekey {h : Heap} {T key k0 sz : Nat} {v : AV} {es : List AV} (hB : BufL h T key k0 sz v es) (key' : Nat) : BufL h T (if es.length = 0 then key' else key) k0 sz v es := by
  rcases hB with ⟨rfl, rfl⟩ | ⟨hx, g, rfl, hk⟩
  · exact .inl ⟨rfl, rfl⟩
  · have : es.length ≠ 0 := fun e => hx (List.eq_nil_of_length_eq_zero e)
    rw [if_neg this]; exact .inr ⟨hx, g, rfl, hk⟩
theorem bufL_moved {h h' : Heap} {T key k0 sz : Nat} {v : AV} {es : List AV} (hB : BufL h T key k0 sz v es) (e : h' key = h key) : BufL h' T key k0 sz v es := by
  rcases hB with ⟨rfl, rfl⟩ | ⟨hx, g, rfl, hk⟩
  · exact .inl ⟨rfl, rfl⟩
  · exact .inr ⟨hx, g, rfl, e.trans hk⟩
/-- an append of a whole row to nothing -/
theorem wa_cat {E : Env} {h : Heap} {ko t sz k0 k1 : Nat} {es : List AV} {K : AV → Heap → Prop} (ht : slT E t = true) (hs : E.size (elT E t) = sz) (hz : sz ≠ 0)
    (he : ∀ e ∈ es, e.cells.length = sz ∧ e.cells.all AV.one = true) (hl : es.length ≤ 1073741824)
    (hK : ∀ v' h', BufL h' (elT E t) ko k0 sz v' es → (∀ k, k ≠ ko → h' k = h k) → K v' h') : WA E h ko t (.sl k0 .lit []) (bufLC k1 sz es) K ⟨⟩ := by
  unfold WA bufLC
  by_cases hx : es = []
  · subst hx
    refine ⟨.sl k0 .lit [], h, ?_, hK _ _ (.inl ⟨rfl, rfl⟩) fun _ _ => rfl⟩
    simp only [appendV, slT_ty ht, elemsOf, hs, if_true]
    rw [if_neg hz]; simp
  · rw [if_neg hx]
    have hall : ((es : List AV).all fun y => y.cells.length == sz && y.cells.all AV.one) = true := by
      rw [List.all_eq_true]; intro e h9
      have := he e h9
      rw [this.2]; simp [this.1]
    have hne : es.isEmpty = false := by cases es with | nil => exact absurd rfl hx | cons _ _ => rfl
    refine ⟨.sl sz (.tok ko (nextG h ko)) es, hset h ko (.tok (nextG h ko) (elT E t) sz es.length), ?_, hK _ _ (.inr ⟨hx, _, rfl, by simp [hset]⟩) (fun k hk => by simp [hset, hk])⟩
    simp only [appendV, slT_ty ht, elemsOf, hs]
    rw [if_neg hz, if_neg (by simp [hne]), if_pos ⟨.inl (by trivial), by trivial, by simp [maxRow]; omega, hall⟩]
    simp
theorem nilC_ne {E : Env} {t k : Nat} {es : List AV} (ht : slT E t = true) (hne : es ≠ []) (op : BinOp) : nilC E op t (.sl k .no es) = nilV op := by
  simp only [nilC, slT_ty ht]
  simp [hne, isEx]
theorem isP_keysB {v : AV} (hv : IsP v) (p : Nat → Bool) : keysB p v = true := by
  obtain ⟨k, o, es, rfl, _, _⟩ := hv.l.ok
  rfl
theorem recs_cells {F S : List Int} {L : List Nat} : ∀ e ∈ recsL F S L, e.cells.length = 2 ∧ e.cells.all AV.one = true := by
  intro e he
  simp only [recsL, List.mem_map] at he
  obtain ⟨k, _, rfl⟩ := he
  exact ⟨rfl, rfl⟩
@[simp] theorem recsL_len (F S : List Int) (L : List Nat) : (recsL F S L).length = L.length := by simp [recsL]
theorem recsL_snoc (F S : List Int) (L : List Nat) (k : Nat) : recsL F S L ++ [.agg [.int .i64 (nth F k), .int .i64 (nth S k)]] = recsL F S (L ++ [k]) := by simp [recsL, pr]
/-- all that is open, in one -/
def orT (f : Nat → Int) : Nat → Int
  | 0 => 0
  | i + 1 => (((orT f i).toNat ||| (f i).toNat : Nat) : Int)
theorem orT_range {f : Nat → Int} (h : In64 f) : ∀ i, 0 ≤ orT f i ∧ orT f i < 64
  | 0 => by simp [orT]
  | i + 1 => by
    have h1 := orT_range h i
    have h2 := h i
    unfold orT
    have : (orT f i).toNat ||| (f i).toNat < 2 ^ 6 := Nat.or_lt_two_pow (by omega) (by omega)
    omega
theorem orT_zero {f : Nat → Int} (h : In64 f) : ∀ i, orT f i = 0 ↔ ∀ g, g < i → f g = 0
  | 0 => by simp [orT]
  | i + 1 => by
    have h1 := orT_range h i
    have h2 := h i
    have ih := orT_zero h i
    unfold orT
    constructor
    · intro e
      have e2 : (orT f i).toNat ||| (f i).toNat = 0 := by omega
      rw [Nat.or_eq_zero_iff] at e2
      intro g hg
      by_cases e3 : g = i
      · subst e3; omega
      · exact (ih.1 (by omega)) g (by omega)
    · intro h3
      have e1 := ih.2 fun g hg => h3 g (by omega)
      rw [e1, h3 i (by omega)]; simp
def pickV (F S : List Int) : Option (List Nat) → AV
  | some out => .tup [bufLC 2 2 (recsL F S out), .bool true]
  | none => .tup [.sl 2 .lit [], .bool false]
def PickSp (w : AV) (G len : Nat) (f0 : Nat → Int) (c : Nat) : Prop := ∀ (k : Nat) (done : List Nat) (ov : AV) (ki ci : Int), ki = k → ci = c → k ≤ len → (∀ j ∈ done, j < len) → done.length + c ≤ 8 → IsI ov → xsOf ov = tab (openL (fsts w) (snds w) f0 done) G →
  EvC env 176 [w, .int .i64 ki, .int .i64 ci, ov, bufLC 2 2 (recsL (fsts w) (snds w) done)] (pickV (fsts w) (snds w) (pickD (okL (fsts w) (snds w) G f0) len c k done))
theorem bufLC_low (h : Heap) (k0 sz : Nat) (es : List AV) : low h (bufLC k0 sz es) = bufLC k0 sz es := by unfold bufLC; split <;> simp
theorem bufLC_noEx (k0 sz : Nat) (es : List AV) : noEx (bufLC k0 sz es) = bufLC k0 sz es := by unfold bufLC; split <;> simp
theorem bufLC_expo (h : Heap) (k0 sz : Nat) (es : List AV) : expo h (bufLC k0 sz es) = bufLC k0 sz es := by unfold bufLC; split <;> simp
theorem bufLC_one (k0 sz : Nat) (es : List AV) : (bufLC k0 sz es).one = true := by unfold bufLC; split <;> rfl
theorem bufLC_cells (k0 sz : Nat) (es : List AV) : (bufLC k0 sz es).cells = [bufLC k0 sz es] := by unfold bufLC; split <;> rfl
theorem pickD_succ (ok : List Nat → Bool) (len c a : Nat) (done : List Nat) : pickD ok len (c + 1) a done = firstS (fun k => pickD ok len c (k + 1) (done ++ [k])) a (len - a) := rfl
def PkSt (ok : List Nat → Bool) (len c from_ : Nat) (done : List Nat) (i : Nat) (a : AV) : Prop := ∃ k : Nat, k = from_ + i ∧ k ≤ len ∧ a = .int .i64 k ∧ ∀ j, from_ ≤ j → j < k → pickD ok len c (j + 1) (done ++ [j]) = none
theorem cw_ev {E : Env} {f : Nat} {args args' : List AV} {r : AV} {K : AV → Prop} {tg : Tg K} (h : EvC E f args' r) (e : args = args') (hK : K r) : CW E f args K tg := by
  subst e
  exact (callsTo_iff h).2 hK
theorem l20Pick_c {w ov : AV} {from_ C G len : Nat} {done : List Nat} {f0 : Nat → Int} {M : Int} (hw : IsP w) (hM : M = C) (hwl : (fsts w).length = len) (hlen : len ≤ 1048576) (hG : G ≤ 8) (hS : ∀ k, k < len → 0 ≤ nth (snds w) k ∧ nth (snds w) k < 64) (h0 : In64 f0) (hfl : from_ ≤ len) (hd : ∀ j ∈ done, j < len) (hdl : done.length + C ≤ 8) (ho : IsI ov) (hox : xsOf ov = tab (openL (fsts w) (snds w) f0 done) G) (hIH : ∀ c, C = c + 1 → PickSp w G len f0 c) : EvC env 176 [w, .int .i64 from_, .int .i64 M, ov, bufLC 2 2 (recsL (fsts w) (snds w) done)] (pickV (fsts w) (snds w) (pickD (okL (fsts w) (snds w) G f0) len C from_ done)) := by
  refine evC_of (F := Tryz.f176) rfl rfl (Nat.le_of_ble_eq_true rfl) ?_
  have h64 : In64 (openL (fsts w) (snds w) f0 done) := openL_64 hS h0 hd
  obtain ⟨f, hf⟩ : ∃ f, openL (fsts w) (snds w) f0 done = f := ⟨_, rfl⟩
  rw [hf] at h64 hox
  have hol : (xsOf ov).length = G := by rw [hox]; simp
  have hn : ∀ i, i < G → nth (xsOf ov) i = f i := fun i hi => by rw [hox, tab_nth _ hi]
  have hok : okL (fsts w) (snds w) G f0 done = decide (orT f G = 0) := by
    unfold okL
    rw [hf, Bool.eq_iff_iff, decide_eq_true_eq, orT_zero h64]
    simp [List.all_eq_true]
  obtain ⟨B, hB⟩ : ∃ B, bufLC 2 2 (recsL (fsts w) (snds w) done) = B := ⟨_, rfl⟩
  have oB : B.one = true := by rw [← hB]; exact bufLC_one ..
  have cB : B.cells = [B] := by rw [← hB]; exact bufLC_cells ..
  have eB : ∀ h', expo h' B = B := fun h' => by rw [← hB]; exact bufLC_expo ..
  rw [hB]
  obtain ⟨R, hR⟩ : ∃ R, pickV (fsts w) (snds w) (pickD (okL (fsts w) (snds w) G f0) len C from_ done) = R := ⟨_, rfl⟩
  rw [hR]
  have hyes : orT f G = 0 → M = 0 → R = .tup [B, .bool true] := fun e1 e2 => by
    obtain rfl : C = 0 := by omega
    rw [← hR, ← hB]; unfold pickD; rw [hok, e1]; rfl
  have hno0 : orT f G ≠ 0 → M = 0 → R = .tup [.sl 2 .lit [], .bool false] := fun e1 e2 => by
    obtain rfl : C = 0 := by omega
    rw [← hR]; unfold pickD; rw [hok]; simp [e1, pickV]
  repeat' (first | (apply brI <;> intro hb hb2 <;> (try simp [-Int.not_le, -Int.not_lt, -Nat.not_le, -Nat.not_lt, -Nat.add_left_cancel_iff] at hb2)) | (refine draw_listA (by rfl) (by kernel_rfl) ?_) | (refine draw_listB (by simp [allocsOf, isAlloc]; rfl) (by kernel_rfl) ?_) | simp (maxSteps := 2000000) (disch := first | omega | assumption | simp [*]) [*, -Int.not_le, -Int.not_lt, -Nat.not_le, -Nat.not_lt, -Nat.add_left_cancel_iff, wrap_i64, wrap_u64, Tryz.f176, isI_len ho, isP_len hw])
  refine W_loopP G (fun i s => s 13 = .int .i64 i ∧ s 12 = .int .i64 (orT f i) ∧ s 0 = w ∧ s 1 = .int .i64 from_ ∧ s 2 = .int .i64 M ∧ s 3 = ov ∧ s 4 = B) rfl ?_ ?_
  · simp [orT]
  rintro i s hi ⟨h13, h12, h00, h1, h2, h3, h4⟩
  by_cases hi2 : i < G
  · have r1 := orT_range h64 i
    have r2 := h64 i
    have hni := hn i hi2
    have hsu : orT f (i + 1) = (((orT f i).toNat ||| (f i).toNat : Nat) : Int) := rfl
    clear hn h64 hyes hno0 hIH hS h0 hox
    repeat' (first | (apply brI <;> intro hb hb2 <;> (try simp [-Int.not_le, -Int.not_lt, -Nat.not_le, -Nat.not_lt, -Nat.add_left_cancel_iff] at hb2)) | (refine draw_listA (by rfl) (by kernel_rfl) ?_) | (refine draw_listB (by simp [allocsOf, isAlloc]; rfl) (by kernel_rfl) ?_) | simp (maxSteps := 2000000) (disch := first | omega | assumption | simp [*]) [*, -Int.not_le, -Int.not_lt, -Nat.not_le, -Nat.not_lt, -Nat.add_left_cancel_iff, wrap_i64, wrap_u64, h13, h12, h00, h1, h2, h3, h4, isI_len ho, isI_index ho, isI_load ho, bits_or])
  · obtain rfl : i = G := by omega
    clear hn
    have hne0 : ∀ x : Unit, True := fun _ => trivial
    by_cases hz : orT f i = 0 ∧ M = 0
    · have hRy := hyes hz.1 hz.2
      have hz1 := hz.1
      have hz2 := hz.2
      clear hyes hno0 hIH hS h0 h64
      obtain rfl : C = 0 := by omega
      clear hM hz
      subst hz2
      repeat' (first | (apply brI <;> intro hb hb2 <;> (try simp [-Int.not_le, -Int.not_lt, -Nat.not_le, -Nat.not_lt, -Nat.add_left_cancel_iff] at hb2)) | (refine draw_listA (by rfl) (by kernel_rfl) ?_) | (refine draw_listB (by simp [allocsOf, isAlloc]; rfl) (by kernel_rfl) ?_) | simp (maxSteps := 2000000) (disch := first | omega | assumption | simp [*]) [*, -Int.not_le, -Int.not_lt, -Nat.not_le, -Nat.not_lt, -Nat.add_left_cancel_iff, wrap_i64, wrap_u64, h13, h12, h00, h1, h2, h3, h4, isI_len ho])
    by_cases hM0 : M = 0
    · have hRn := hno0 (fun e => hz ⟨e, hM0⟩) hM0
      have hz1 : ¬ orT f i = 0 := fun e => hz ⟨e, hM0⟩
      clear hyes hno0 hIH hS h0 h64
      obtain rfl : C = 0 := by omega
      clear hM hz
      subst hM0
      repeat' (first | (apply brI <;> intro hb hb2 <;> (try simp [-Int.not_le, -Int.not_lt, -Nat.not_le, -Nat.not_lt, -Nat.add_left_cancel_iff] at hb2)) | (refine draw_listA (by rfl) (by kernel_rfl) ?_) | (refine draw_listB (by simp [allocsOf, isAlloc]; rfl) (by kernel_rfl) ?_) | simp (maxSteps := 2000000) (disch := first | omega | assumption | simp [*]) [*, -Int.not_le, -Int.not_lt, -Nat.not_le, -Nat.not_lt, -Nat.add_left_cancel_iff, wrap_i64, wrap_u64, h13, h12, h00, h1, h2, h3, h4, isI_len ho])
      refine W_loopG 0 (fun i s h => s 14 = .int .i64 from_ ∧ s 0 = w ∧ s 2 = .int .i64 0) ?_ ?_
      · simp [*]
      rintro j s2 h2 hj ⟨k14, k0, k2⟩
      repeat' (first | (apply brI <;> intro hb hb2 <;> (try simp [-Int.not_le, -Int.not_lt, -Nat.not_le, -Nat.not_lt, -Nat.add_left_cancel_iff] at hb2)) | (refine draw_listA (by rfl) (by kernel_rfl) ?_) | (refine draw_listB (by simp [allocsOf, isAlloc]; rfl) (by kernel_rfl) ?_) | simp (maxSteps := 2000000) (disch := first | omega | assumption | simp [*]) [*, -Int.not_le, -Int.not_lt, -Nat.not_le, -Nat.not_lt, -Nat.add_left_cancel_iff, wrap_i64, wrap_u64, k14, k0, k2, isP_len hw])
    obtain ⟨c, rfl⟩ : ∃ c, C = c + 1 := ⟨C - 1, by omega⟩
    have hIH1 := hIH c rfl
    have hM1 : 0 < M := by omega
    have hMne : ¬ M = 0 := hM0
    have hM8 : M ≤ 8 := by omega
    have hMc : ∃ _ : Unit, M - 1 = (c : Int) := ⟨(), by omega⟩
    have hdl2 : done.length + 1 + c ≤ 8 := by omega
    clear hz hM0 hM hdl
    have hfs : ∀ k, from_ ≤ k → k ≤ len → (∀ j, from_ ≤ j → j < k → pickD (okL (fsts w) (snds w) i f0) len c (j + 1) (done ++ [j]) = none) → R = pickV (fsts w) (snds w) (firstS (fun k => pickD (okL (fsts w) (snds w) i f0) len c (k + 1) (done ++ [k])) k (len - k)) := by
      intro k hk1 hk2 hall
      rw [← hR, pickD_succ]
      obtain ⟨d, rfl⟩ : ∃ d, k = from_ + d := ⟨k - from_, by omega⟩
      congr 1
      clear hk1
      induction d with
      | zero => rfl
      | succ d ih =>
        rw [ih (by omega) fun j h1 h2 => hall j h1 (by omega), firstS_step _ (show 0 < len - (from_ + d) by omega), hall (from_ + d) (by omega) (by omega)]
        have e : len - (from_ + d) - 1 = len - (from_ + (d + 1)) := by omega
        rw [e]; rfl
    have hol2 : (xsOf ov).length ≤ 1073741824 := by omega
    clear hyes hno0 hIH hR hok
    rcases Classical.em (orT f i = 0) with hz9 | hz9
    all_goals
      repeat' (first | (apply brI <;> intro hb hb2 <;> (try simp [-Int.not_le, -Int.not_lt, -Nat.not_le, -Nat.not_lt, -Nat.add_left_cancel_iff] at hb2)) | (refine draw_listA (by rfl) (by kernel_rfl) ?_) | (refine draw_listB (by simp [allocsOf, isAlloc]; rfl) (by kernel_rfl) ?_) | simp (maxSteps := 2000000) (disch := first | omega | assumption | simp [*]) [*, -Int.not_le, -Int.not_lt, -Nat.not_le, -Nat.not_lt, -Nat.add_left_cancel_iff, wrap_i64, wrap_u64, h13, h12, h00, h1, h2, h3, h4, isI_len ho])
      refine W_loopG (len - from_) (fun i' s h => PkSt (okL (fsts w) (snds w) i f0) len c from_ done i' (s 14) ∧ s 0 = w ∧ s 2 = .int .i64 M ∧ s 3 = ov ∧ s 4 = B) ?_ ?_
      · refine ⟨⟨from_, rfl, hfl, by simp [*], fun j h1 h2 => by omega⟩, ?_⟩
        simp [*]
      clear h13 h12 h00 h1 h2 h3 h4 hz9
      rintro i' s2 h2 hi' ⟨⟨k, hk, hkl, k14, hall⟩, k0, k2, k3, k4⟩
      have hfk := hfs k (by omega) hkl hall
      clear hfs
      by_cases hk2 : k < len
      · have hki : i' < len - from_ := by omega
        have hSb := hS k hk2
        have hd' : ∀ j ∈ done ++ [k], j < len := fun j hj => by
          rw [List.mem_append, List.mem_singleton] at hj
          rcases hj with hj | rfl
          · exact hd j hj
          · exact hk2
        have hop : openL (fsts w) (snds w) f0 (done ++ [k]) = nxtF (nth (fsts w) k) (nth (snds w) k) f := by rw [openL_app, hf]
        rw [firstS_step _ (show 0 < len - k by omega)] at hfk
        have hnx : pickD (okL (fsts w) (snds w) i f0) len c (k + 1) (done ++ [k]) = none → PkSt (okL (fsts w) (snds w) i f0) len c from_ done (i' + 1) (.int .i64 ((k : Int) + 1)) := fun e => ⟨k + 1, by omega, by omega, by simp, fun j h1 h2 => by
          by_cases e2 : j = k
          · rw [e2]; exact e
          · exact hall j h1 (by omega)⟩
        have hcall : ∀ ov', IsI ov' → xsOf ov' = tab (nxtF (nth (fsts w) k) (nth (snds w) k) f) i → EvC env 176 [w, .int .i64 ((k : Int) + 1), .int .i64 c, ov', bufLC 2 2 (recsL (fsts w) (snds w) (done ++ [k]))] (pickV (fsts w) (snds w) (pickD (okL (fsts w) (snds w) i f0) len c (k + 1) (done ++ [k]))) :=
          fun ov' e1 e2 => hIH1 (k + 1) (done ++ [k]) ov' _ _ (by simp) rfl (by omega) hd' (by simp; omega) e1 (by rw [hop]; exact e2)
        obtain ⟨O, hO⟩ : ∃ O, pickD (okL (fsts w) (snds w) i f0) len c (k + 1) (done ++ [k]) = O := ⟨_, rfl⟩
        simp only [hO] at hfk hnx hcall
        clear hIH1 hall hO hd hd' hf hop hS hk
        repeat' (first | (apply brI <;> intro hb hb2 <;> (try simp [-Int.not_le, -Int.not_lt, -Nat.not_le, -Nat.not_lt, -Nat.add_left_cancel_iff] at hb2)) | (refine draw_listA (by rfl) (by kernel_rfl) ?_) | (refine draw_listB (by simp [allocsOf, isAlloc]; rfl) (by kernel_rfl) ?_) | simp (maxSteps := 2000000) (disch := first | omega | assumption | simp [*]) [*, -Int.not_le, -Int.not_lt, -Nat.not_le, -Nat.not_lt, -Nat.add_left_cancel_iff, wrap_i64, wrap_u64, k14, k0, k2, k3, k4, isP_len hw])
        refine wr_ints ho rfl rfl hol2 ?_
        intro v5 h5 hR5 hk5
        have o5 := hR5.one
        have c5 := hR5.cells
        rw [hox] at hR5
        clear hk5
        repeat' (first | (apply brI <;> intro hb hb2 <;> (try simp [-Int.not_le, -Int.not_lt, -Nat.not_le, -Nat.not_lt, -Nat.add_left_cancel_iff] at hb2)) | (refine draw_listA (by rfl) (by kernel_rfl) ?_) | (refine draw_listB (by simp [allocsOf, isAlloc]; rfl) (by kernel_rfl) ?_) | simp (maxSteps := 2000000) (disch := first | omega | assumption | simp [*]) [*, -Int.not_le, -Int.not_lt, -Nat.not_le, -Nat.not_lt, -Nat.add_left_cancel_iff, wrap_i64, wrap_u64, k14, k0, k2, k3, k4])
        refine W_loopG i (fun g s h' => s 16 = .int .i64 g ∧ s 14 = .int .i64 k ∧ s 15 = v5 ∧ s 0 = w ∧ s 2 = .int .i64 M ∧ s 3 = ov ∧ s 4 = B ∧ Row h' 51 3 1 1 v5 (ints (tab (fun j => if j < g then nxtF (nth (fsts w) k) (nth (snds w) k) f j else f j) i))) ?_ ?_
        · simp [*]
          all_goals exact hR5
        rintro g s4 h4' hg4 ⟨q16, q14, q15, q0, q2, q3, q4, hR4⟩
        have hlen4 := fun E t ht => hR4.len (E := E) (t := t) ht
        simp only [ints_length, tab_length] at hlen4
        by_cases hg2 : g < i
        · rcases hR4 with ⟨e9, _⟩ | ⟨hx4, g4, hv4, hr4⟩
          · have h0 : i = 0 := by simpa using congrArg List.length e9
            omega
          have hfg := h64 g
          have hds := dif_sub2 hfg hSb
          have hdi : f g - (((f g).toNat &&& (nth (snds w) k).toNat : Nat) : Int) = diI (f g) (nth (snds w) k) := hds.1
          have hr31 := hds.2.1
          have hr32 := hds.2.2
          have hng : nth (tab (fun j => if j < g then nxtF (nth (fsts w) k) (nth (snds w) k) f j else f j) i) g = f g := by rw [tab_nth _ hg2]; simp
          simp only [ints_length, tab_length] at hv4
          subst hv4
          have hnx2 : nxtF (nth (fsts w) k) (nth (snds w) k) f g = if PHas (nth (fsts w) k) g = true then diI (f g) (nth (snds w) k) else f g := rfl
          have hrow : ∀ (h' : Heap) (z : Int), h' 51 = some (.row g4 3 1 (ints ((tab (fun j => if j < g then nxtF (nth (fsts w) k) (nth (snds w) k) f j else f j) i).set g z))) → z = nxtF (nth (fsts w) k) (nth (snds w) k) f g → Row h' 51 3 1 1 (.ms 51 g4 0 i) (ints (tab (fun j => if j < g + 1 then nxtF (nth (fsts w) k) (nth (snds w) k) f j else f j) i)) := fun h' z e1 e2 => by
            rw [tab_set _ _ hg2] at e1
            have e3 : tab (fun j => if j = g then z else if j < g then nxtF (nth (fsts w) k) (nth (snds w) k) f j else f j) i = tab (fun j => if j < g + 1 then nxtF (nth (fsts w) k) (nth (snds w) k) f j else f j) i := tab_congr fun j hj => by
              by_cases e : j = g
              · subst e; simp [e2]
              · by_cases e5 : j < g
                · simp [e, e5, show j < g + 1 by omega]
                · simp [e, e5, show ¬ j < g + 1 by omega]
            rw [e3] at e1
            exact .inr ⟨fun e9 => absurd (show i = 0 by simpa using congrArg List.length e9) (by omega), g4, by simp, e1⟩
          cases hp : PHas (nth (fsts w) k) g with
          | true =>
            rw [hp] at hnx2
            simp only [if_true] at hnx2
            have hrow2 := fun h' e => hrow h' (diI (f g) (nth (snds w) k)) e hnx2.symm
            clear hrow hnx2 hds hnx hcall hfk h64
            repeat' (first | (apply brI <;> intro hb hb2 <;> (try simp [-Int.not_le, -Int.not_lt, -Nat.not_le, -Nat.not_lt, -Nat.add_left_cancel_iff] at hb2)) | (refine draw_listA (by rfl) (by kernel_rfl) ?_) | (refine draw_listB (by simp [allocsOf, isAlloc]; rfl) (by kernel_rfl) ?_) | simp (maxSteps := 2000000) (disch := first | omega | assumption | simp [*]) [*, -Int.not_le, -Int.not_lt, -Nat.not_le, -Nat.not_lt, -Nat.add_left_cancel_iff, wrap_i64, wrap_u64, q16, q14, q15, q0, q2, q3, q4, hr4, isP_len hw, isP_index hw, isP_low hw, isP_noKey hw, bits_and])
            all_goals first | exact hrow2 _ (by simp [hset]) | skip
          | false =>
            rw [hp] at hnx2
            simp only [Bool.false_eq_true, if_false] at hnx2
            have hself : (tab (fun j => if j < g then nxtF (nth (fsts w) k) (nth (snds w) k) f j else f j) i).set g (f g) = tab (fun j => if j < g then nxtF (nth (fsts w) k) (nth (snds w) k) f j else f j) i := by
              rw [tab_set _ _ hg2]
              refine tab_congr fun j hj => ?_
              by_cases e : j = g
              · subst e; simp
              · simp [e]
            have hrow2 := fun h' e => hrow h' (f g) (by rw [hself]; exact e) hnx2.symm
            clear hrow hnx2 hds hnx hcall hfk hself h64
            repeat' (first | (apply brI <;> intro hb hb2 <;> (try simp [-Int.not_le, -Int.not_lt, -Nat.not_le, -Nat.not_lt, -Nat.add_left_cancel_iff] at hb2)) | (refine draw_listA (by rfl) (by kernel_rfl) ?_) | (refine draw_listB (by simp [allocsOf, isAlloc]; rfl) (by kernel_rfl) ?_) | simp (maxSteps := 2000000) (disch := first | omega | assumption | simp [*]) [*, -Int.not_le, -Int.not_lt, -Nat.not_le, -Nat.not_lt, -Nat.add_left_cancel_iff, wrap_i64, wrap_u64, q16, q14, q15, q0, q2, q3, q4, hr4, isP_len hw, isP_index hw, isP_low hw, isP_noKey hw, bits_and])
            all_goals first | exact hrow2 _ (by first | assumption | simp [hset, hr4]) | skip
        · obtain rfl : g = i := by omega
          have hR6 : tab (fun j => if j < g then nxtF (nth (fsts w) k) (nth (snds w) k) f j else f j) g = tab (nxtF (nth (fsts w) k) (nth (snds w) k) f) g := tab_congr fun j hj => by simp [hj]
          rw [hR6] at hR4
          clear hR6
          obtain ⟨_, hMc⟩ := hMc
          repeat' (first | (apply brI <;> intro hb hb2 <;> (try simp [-Int.not_le, -Int.not_lt, -Nat.not_le, -Nat.not_lt, -Nat.add_left_cancel_iff] at hb2)) | simp (maxSteps := 2000000) (disch := first | omega | assumption | simp [*]) [*, -Int.not_le, -Int.not_lt, -Nat.not_le, -Nat.not_lt, -Nat.add_left_cancel_iff, wrap_i64, wrap_u64, q16, q14, q15, q0, q2, q3, q4])
          refine draw_listK [93, 94, 0, 14, 95] [0, 0, 0, 0, 0, 0, 0, 0, 2, 0, 0, 1, 1, 0, 0, 0, 0, 0, 0, 0, 0] (by kernel_rfl) (by kernel_rfl) (by kernel_rfl) (by kernel_rfl) ?_
          repeat' (first | (apply brI <;> intro hb hb2 <;> (try simp [-Int.not_le, -Int.not_lt, -Nat.not_le, -Nat.not_lt, -Nat.add_left_cancel_iff] at hb2)) | simp (maxSteps := 2000000) (disch := first | omega | assumption | simp [*]) [*, -Int.not_le, -Int.not_lt, -Nat.not_le, -Nat.not_lt, -Nat.add_left_cancel_iff, wrap_i64, wrap_u64, q16, q14, q15, q0, q2, q3, q4, isP_low hw, isP_noKey hw])
          rw [← hB]
          refine wa_cat rfl rfl (by decide) recs_cells (by rw [recsL_len]; omega) ?_
          intro v6 h6 hB6 hk6
          have o6 := hB6.one
          have c6 := hB6.cells
          refine ⟨fun d hd9 => ?_, ?_⟩
          · simp only [List.mem_cons, List.not_mem_nil, or_false] at hd9
            exact hk6 _ (by omega)
          have hR7 := hR4.keep (hk6 51 (by omega))
          clear hk6 hR4
          repeat' (first | (apply brI <;> intro hb hb2 <;> (try simp [-Int.not_le, -Int.not_lt, -Nat.not_le, -Nat.not_lt, -Nat.add_left_cancel_iff] at hb2)) | simp (maxSteps := 2000000) (disch := first | omega | assumption | simp [*]) [*, -Int.not_le, -Int.not_lt, -Nat.not_le, -Nat.not_lt, -Nat.add_left_cancel_iff, wrap_i64, wrap_u64, q16, q14, q15, q0, q2, q3, q4, isP_len hw, isP_index hw, isP_low hw, isP_noKey hw, isP_keysB hw])
          refine wa_pushL (bufL_rekey hB6 98) rfl rfl (by decide) ⟨rfl, rfl⟩ (fun e => by simp [e]) (by rw [recsL_len]; omega) ?_
          intro v7 h7 hB7 hk7
          rw [recsL_snoc] at hB7
          have o7 := hB7.one
          have c7 := hB7.cells
          have l7 := hB7.low
          have l5 : low h7 v5 = rowB 1 1 (ints (tab (nxtF (nth (fsts w) k) (nth (snds w) k) f) g)) := (hR7.keep (hk7 51 (by split <;> omega))).lowI
          clear hk7 hR7 hB7 hB6
          repeat' (first | (apply brI <;> intro hb hb2 <;> (try simp [-Int.not_le, -Int.not_lt, -Nat.not_le, -Nat.not_lt, -Nat.add_left_cancel_iff] at hb2)) | simp (maxSteps := 2000000) (disch := first | omega | assumption | simp [*]) [*, -Int.not_le, -Int.not_lt, -Nat.not_le, -Nat.not_lt, -Nat.add_left_cancel_iff, wrap_i64, wrap_u64, q16, q14, q15, q0, q2, q3, q4, l5, l7, isP_len hw, isP_index hw, isP_low hw, isP_noKey hw, isP_keysB hw])
          refine cw_ev (hcall _ (isI_rowB (by rw [tab_length]; unfold top63; omega)) (by simp)) rfl ?_
          clear hcall l5
          cases O with
          | some out =>
            have hfk2 : R = .tup [bufLC 2 2 (recsL (fsts w) (snds w) out), .bool true] := hfk
            have hpv : pickV (fsts w) (snds w) (some out) = .tup [bufLC 2 2 (recsL (fsts w) (snds w) out), .bool true] := rfl
            obtain ⟨u, hu⟩ : ∃ u, bufLC 2 2 (recsL (fsts w) (snds w) out) = u := ⟨_, rfl⟩
            have ou : u.one = true := by rw [← hu]; exact bufLC_one ..
            have cu : u.cells = [u] := by rw [← hu]; exact bufLC_cells ..
            have eu : ∀ h', expo h' u = u := fun h' => by rw [← hu]; exact bufLC_expo ..
            have nu : noEx u = u := by rw [← hu]; exact bufLC_noEx ..
            rw [hu] at hfk2 hpv
            clear hfk hnx hu
            repeat' (first | (apply brI <;> intro hb hb2 <;> (try simp [-Int.not_le, -Int.not_lt, -Nat.not_le, -Nat.not_lt, -Nat.add_left_cancel_iff] at hb2)) | simp (maxSteps := 2000000) (disch := first | omega | assumption | simp [*]) [*, -Int.not_le, -Int.not_lt, -Nat.not_le, -Nat.not_lt, -Nat.add_left_cancel_iff, wrap_i64, wrap_u64, hpv, q16, q14, q15, q0, q2, q3, q4])
          | none =>
            have hpv : pickV (fsts w) (snds w) none = .tup [.sl 2 .lit [], .bool false] := rfl
            have hnx2 := hnx rfl
            clear hfk hnx
            repeat' (first | (apply brI <;> intro hb hb2 <;> (try simp [-Int.not_le, -Int.not_lt, -Nat.not_le, -Nat.not_lt, -Nat.add_left_cancel_iff] at hb2)) | simp (maxSteps := 2000000) (disch := first | omega | assumption | simp [*]) [*, -Int.not_le, -Int.not_lt, -Nat.not_le, -Nat.not_lt, -Nat.add_left_cancel_iff, wrap_i64, wrap_u64, hpv, q16, q14, q15, q0, q2, q3, q4])
      · have hkl2 : k = len := by omega
        rw [hkl2, Nat.sub_self] at hfk
        have hfk2 : R = .tup [.sl 2 .lit [], .bool false] := hfk
        clear hfk hIH1 hall hMc hk
        repeat' (first | (apply brI <;> intro hb hb2 <;> (try simp [-Int.not_le, -Int.not_lt, -Nat.not_le, -Nat.not_lt, -Nat.add_left_cancel_iff] at hb2)) | (refine draw_listA (by rfl) (by kernel_rfl) ?_) | (refine draw_listB (by simp [allocsOf, isAlloc]; rfl) (by kernel_rfl) ?_) | simp (maxSteps := 2000000) (disch := first | omega | assumption | simp [*]) [*, -Int.not_le, -Int.not_lt, -Nat.not_le, -Nat.not_lt, -Nat.add_left_cancel_iff, wrap_i64, wrap_u64, k14, k0, k2, k3, k4, isP_len hw])
theorem l20Pick_s {w ov : AV} {from_ C G len : Nat} {done : List Nat} {f0 : Nat → Int} {M : Int} (hw : IsP w) (hM : M = C) (hwl : (fsts w).length = len) (hlen : len ≤ 1048576) (hG : G ≤ 8) (hS : ∀ k, k < len → 0 ≤ nth (snds w) k ∧ nth (snds w) k < 64) (h0 : In64 f0) (hfl : from_ ≤ len) (hd : ∀ j ∈ done, j < len) (hdl : done.length + C ≤ 8) (ho : IsI ov) (hox : xsOf ov = tab (openL (fsts w) (snds w) f0 done) G) (hIH : ∀ c, C = c + 1 → PickSp w G len f0 c) {K : AV → Prop} {tg : Tg K} : CW env 176 [w, .int .i64 from_, .int .i64 M, ov, bufLC 2 2 (recsL (fsts w) (snds w) done)] K tg ↔ K (pickV (fsts w) (snds w) (pickD (okL (fsts w) (snds w) G f0) len C from_ done)) := callsTo_iff (l20Pick_c hw hM hwl hlen hG hS h0 hfl hd hdl ho hox hIH)
attribute [simp] l20Pick_s
end Go.Proofs.YtliecnadoklgoaaGreatDoor
/- The fewest factors: the program's search. Conditions: none. -/
namespace Go.Proofs.YtliecnadoklgoaaGreatDoor
open Ev
set_option linter.unusedVariables false
set_option linter.unusedSimpArgs false
set_option maxHeartbeats 4000000

theorem cloneCb_c {es : List AV} (hne : es ≠ []) (hes : ∀ e ∈ es, e.cells.length = 2 ∧ e.cells.all AV.one = true) (hl : es.length ≤ 1048576) : EvC env 224 [.sl 2 .no es] (bufLR 101 7 2 2 es) := by
  refine evC_of (F := Tryz.f224) rfl rfl (Nat.le_of_ble_eq_true rfl) ?_
  repeat' (first | (apply brI <;> intro hb hb2 <;> (try simp [-Int.not_le, -Int.not_lt, -Nat.not_le, -Nat.not_lt, -Nat.add_left_cancel_iff] at hb2)) | (refine draw_listA (by rfl) (by kernel_rfl) ?_) | (refine draw_listB (by simp [allocsOf, isAlloc]; rfl) (by kernel_rfl) ?_) | simp (maxSteps := 2000000) (disch := first | omega | assumption | simp [*]) [*, -Int.not_le, -Int.not_lt, -Nat.not_le, -Nat.not_lt, -Nat.add_left_cancel_iff, wrap_i64, wrap_u64, Tryz.f224, nilC_ne, hne])
  have e : AV.sl 2 .no es = bufLC 2 2 es := by unfold bufLC; rw [if_neg hne]
  rw [e]
  refine wa_cat rfl rfl (by decide) hes (by omega) ?_
  intro v2 h2 hB hk2
  repeat' (first | (apply brI <;> intro hb hb2 <;> (try simp [-Int.not_le, -Int.not_lt, -Nat.not_le, -Nat.not_lt, -Nat.add_left_cancel_iff] at hb2)) | (refine draw_listA (by rfl) (by kernel_rfl) ?_) | (refine draw_listB (by simp [allocsOf, isAlloc]; rfl) (by kernel_rfl) ?_) | simp (maxSteps := 2000000) (disch := first | omega | assumption | simp [*]) [*, -Int.not_le, -Int.not_lt, -Nat.not_le, -Nat.not_lt, -Nat.add_left_cancel_iff, wrap_i64, wrap_u64])
  exact hB.expo
theorem cloneCb_s {es : List AV} (hne : es ≠ []) (hes : ∀ e ∈ es, e.cells.length = 2 ∧ e.cells.all AV.one = true) (hl : es.length ≤ 1048576) {K : AV → Prop} {tg : Tg K} : CW env 224 [.sl 2 .no es] K tg ↔ K (bufLR 101 7 2 2 es) := callsTo_iff (cloneCb_c hne hes hl)
attribute [simp] cloneCb_s
theorem cf_cloneC {E : Env} {fid d g : Nat} {a : AV} {s : Nat → AV} {h : Heap} {off nt : Nat} {K : AV → Heap → Prop} {tg : Tg ((⟨s, h, off, nt⟩ : St), K)} {es : List AV} {T kk : Nat} (he : E.ext g = some cloneCF) (ho : E.open_ g = false) (hm : E.mat fid d = 2)
    (hl : low h a = bufLC 0 2 es) (hc : es ≠ [] → EvC E g [.sl 2 .no es] (bufLR T kk 2 2 es))
    (hK : ∀ v' h', BufL h' T (off + d) 0 2 v' es → (∀ x, x ≠ off + d → h' x = h x) → K v' h') (hw : E.own g = false := by rfl) : CF E fid (some d) g [a] ⟨s, h, off, nt⟩ K tg := by
  have hls : lows h [a] = [bufLC 0 2 es] := by simp [lows, hl]
  unfold CF
  by_cases hne : es = []
  · subst hne
    rw [WF_ext (r := .sl 0 .lit []) (by simp only [extV, he, Option.bind_some, hls]; rfl) hw]
    exact hK _ _ (.inl ⟨rfl, rfl⟩) fun _ _ => rfl
  · have hb : bufLC 0 2 es = .sl 2 .no es := by unfold bufLC; rw [if_neg hne]
    rw [hb] at hls
    have hno : cloneCF [.sl 2 .no es] = none := by cases es with | nil => exact absurd rfl hne | cons _ _ => rfl
    rw [WF_mat (by simp only [extV, he, Option.bind_some, hls, hno]) ho]
    refine ⟨bufLR T kk 2 2 es, by rw [hls]; exact hc hne, ?_⟩
    have hr : bufLR T kk 2 2 es = .sl 2 (.ex T kk) es := by unfold bufLR; rw [if_neg hne]
    rw [hr]
    refine ⟨.sl 2 (.tok (off + d) (nextG h (off + d))) es, hset h (off + d) (.tok (nextG h (off + d)) T 2 es.length), ?_, hK _ _ (.inr ⟨hne, _, rfl, by simp [hset]⟩) (fun x hx => by simp [hset, hx])⟩
    simp only [mat, hm]
theorem hset_oth (h : Heap) {k y : Nat} (b : Blk) (e : y ≠ k) : hset h k b y = h y := if_neg e
theorem if_some {b : Bool} {α : Type} {x : α} : (if b = true then some x else none) = none ↔ b = false := by cases b <;> simp
def CovSp (n : Int) (v w : AV) (len : Nat) (ok : List Nat → Bool) (many : Nat) : Prop := ∀ (from_ key : Nat) (done : List Nat) (fi mi : Int) (L : AV) (h : Heap) (off : Nat) (K : AV → Heap → Prop), fi = from_ → mi = many → from_ ≤ len → (∀ j ∈ done, j < len) → done.length + many ≤ 8 →
  BufL h 101 key 0 2 L (recsL (fsts w) (snds w) done) → key < off →
  (∀ (b : Bool) (u : AV) (key' : Nat) (out : List Nat) (h' : Heap), (pickD ok len many from_ done = if b = true then some out else none) → BufL h' 101 key' 0 2 u (recsL (fsts w) (snds w) out) → (∀ y, y < off → h' y = h y) → K (.tup [u, .bool b]) h') →
  OpenTo env 175 [.agg [.int .i64 n, v], w, L, .int .i64 fi, .int .i64 mi] h off K
def CbSt (ok : List Nat → Bool) (len c from_ : Nat) (done : List Nat) (i : Nat) (a : AV) : Prop := ∃ k : Nat, k = from_ + i ∧ k ≤ len ∧ a = .int .i64 k ∧ ∀ j, from_ ≤ j → j < k → pickD ok len c (j + 1) (done ++ [j]) = none
def CbH (h h' : Heap) (off key g : Nat) (n : Int) (v L : AV) (es : List AV) : Prop := BufL h' 101 key 0 2 L es ∧ h' (off + 5) = some (.var g 26 (.agg [.int .i64 n, v])) ∧ ∀ y, y < off → h' y = h y
theorem coverBy_o {n M : Int} {v w L : AV} {from_ C key len : Nat} {done : List Nat} {ok : List Nat → Bool} {h : Heap} {off : Nat} {K : AV → Heap → Prop} (hv : IsI v) (hw : IsP w) (hM : M = C) (hwl : (fsts w).length = len) (hlen : len ≤ 1048576) (hfl : from_ ≤ len) (hd : ∀ j ∈ done, j < len) (hdl : done.length + C ≤ 8) (hB : BufL h 101 key 0 2 L (recsL (fsts w) (snds w) done)) (hko : key < off) (hC : EvC env 82 [.agg [.int .i64 n, v], bufLC 0 2 (recsL (fsts w) (snds w) done)] (.bool (ok done))) (hIH : ∀ c, C = c + 1 → CovSp n v w len ok c) (hK : ∀ (b : Bool) (u : AV) (key' : Nat) (out : List Nat) (h' : Heap), (pickD ok len C from_ done = if b = true then some out else none) → BufL h' 101 key' 0 2 u (recsL (fsts w) (snds w) out) → (∀ y, y < off → h' y = h y) → K (.tup [u, .bool b]) h') : OpenTo env 175 [.agg [.int .i64 n, v], w, L, .int .i64 from_, .int .i64 M] h off K := by
  refine openTo_of (F := Tryz.f175) rfl rfl (Nat.le_of_ble_eq_true rfl) ?_
  have oL := hB.one
  have cL := hB.cells
  have lL := hB.low
  have hcw : ∀ (K : AV → Prop) (tg : Tg K), CW env 82 [.agg [.int .i64 n, v], bufLC 0 2 (recsL (fsts w) (snds w) done)] K tg ↔ K (.bool (ok done)) := fun K tg => callsTo_iff hC
  by_cases hM0 : M = 0
  · obtain rfl : C = 0 := by omega
    have hK2 := hK (ok done) L key done
    clear hIH hM hK hC
    subst hM0
    repeat' (first | (apply brI <;> intro hb hb2 <;> (try simp [-Int.not_le, -Int.not_lt, -Nat.not_le, -Nat.not_lt, -Nat.add_left_cancel_iff] at hb2)) | (refine draw_listA (by rfl) (by kernel_rfl) ?_) | (refine draw_listB (by simp [allocsOf, isAlloc]; rfl) (by kernel_rfl) ?_) | simp (maxSteps := 2000000) (disch := first | omega | assumption | simp [*]) [*, -Int.not_le, -Int.not_lt, -Nat.not_le, -Nat.not_lt, -Nat.add_left_cancel_iff, wrap_i64, wrap_u64, Tryz.f175, isI_cells hv, isI_one hv, isI_low hv, isP_low hw])
    exact hK2 _ rfl (hB.keep (hset_oth _ _ (by omega))) fun y hy => hset_oth _ _ (by omega)
  obtain ⟨c, rfl⟩ : ∃ c, C = c + 1 := ⟨C - 1, by omega⟩
  have hIH1 := hIH c rfl
  have hM8 : M ≤ 8 := by omega
  have hM1 : 1 ≤ M := by omega
  have hMc : M - 1 = (c : Int) := by omega
  have hdl2 : done.length + 1 + c ≤ 8 := by omega
  have hfs : ∀ k, from_ ≤ k → k ≤ len → (∀ j, from_ ≤ j → j < k → pickD ok len c (j + 1) (done ++ [j]) = none) → pickD ok len (c + 1) from_ done = firstS (fun k => pickD ok len c (k + 1) (done ++ [k])) k (len - k) := by
    intro k hk1 hk2 hall
    rw [pickD_succ]
    obtain ⟨d, rfl⟩ : ∃ d, k = from_ + d := ⟨k - from_, by omega⟩
    clear hk1
    induction d with
    | zero => rfl
    | succ d ih =>
      rw [ih (by omega) fun j h1 h2 => hall j h1 (by omega), firstS_step _ (show 0 < len - (from_ + d) by omega), hall (from_ + d) (by omega) (by omega)]
      have e : len - (from_ + d) - 1 = len - (from_ + (d + 1)) := by omega
      rw [e]; rfl
  have hcl : recsL (fsts w) (snds w) done ≠ [] → EvC env 224 [.sl 2 .no (recsL (fsts w) (snds w) done)] (bufLR 101 7 2 2 (recsL (fsts w) (snds w) done)) := fun hne => cloneCb_c hne recs_cells (by rw [recsL_len]; omega)
  clear hIH hM hC hcw
  repeat' (first | (apply brI <;> intro hb hb2 <;> (try simp [-Int.not_le, -Int.not_lt, -Nat.not_le, -Nat.not_lt, -Nat.add_left_cancel_iff] at hb2)) | (refine draw_listA (by rfl) (by kernel_rfl) ?_) | (refine draw_listB (by simp [allocsOf, isAlloc]; rfl) (by kernel_rfl) ?_) | simp (maxSteps := 2000000) (disch := first | omega | assumption | simp [*]) [*, -Int.not_le, -Int.not_lt, -Nat.not_le, -Nat.not_lt, -Nat.add_left_cancel_iff, wrap_i64, wrap_u64, Tryz.f175, isI_cells hv, isI_one hv, isI_low hv, isP_low hw])
  refine W_loopG (len - from_) (fun i' s h' => CbSt ok len c from_ done i' (s 12) ∧ s 1 = w ∧ s 2 = L ∧ s 4 = .int .i64 M ∧ s 5 = .vp (off + 5) (nextG h (off + 5)) 0 ∧ CbH h h' off key (nextG h (off + 5)) n v L (recsL (fsts w) (snds w) done)) ?_ ?_
  · refine ⟨⟨from_, rfl, hfl, by simp [*], fun j h1 h2 => by omega⟩, by simp [*], by simp [*], by simp [*], by simp [*, nextG], ?_⟩
    exact ⟨hB.keep (hset_oth _ _ (by omega)), by simp [hset, nextG], fun y hy => hset_oth _ _ (by omega)⟩
  clear hB
  generalize nextG h (off + 5) = g5
  rintro i' s2 h2 hi' ⟨⟨k, hk, hkl, k12, hall⟩, k1, k2, k4, k5, ⟨hB, e5, hfr⟩⟩
  have hfk := hfs k (by omega) hkl hall
  clear hfs
  by_cases hk2 : k < len
  · have hki : i' < len - from_ := by omega
    have hd' : ∀ j ∈ done ++ [k], j < len := fun j hj => by
      rw [List.mem_append, List.mem_singleton] at hj
      rcases hj with hj | rfl
      · exact hd j hj
      · exact hk2
    rw [firstS_step _ (show 0 < len - k by omega)] at hfk
    have hnx : pickD ok len c (k + 1) (done ++ [k]) = none → CbSt ok len c from_ done (i' + 1) (.int .i64 ((k : Int) + 1)) := fun e => ⟨k + 1, by omega, by omega, by simp, fun j h1 h2 => by
      by_cases e2 : j = k
      · rw [e2]; exact e
      · exact hall j h1 (by omega)⟩
    clear hall hd hk
    repeat' (first | (apply brI <;> intro hb hb2 <;> (try simp [-Int.not_le, -Int.not_lt, -Nat.not_le, -Nat.not_lt, -Nat.add_left_cancel_iff] at hb2)) | simp (maxSteps := 2000000) (disch := first | omega | assumption | simp [*]) [*, -Int.not_le, -Int.not_lt, -Nat.not_le, -Nat.not_lt, -Nat.add_left_cancel_iff, wrap_i64, wrap_u64, k12, k1, k2, k4, k5, isP_len hw])
    refine draw_listK [5, 33, 34, 1, 12, 35] [1, 0, 0, 2, 0, 0, 1, 1, 0, 2, 0, 0, 0, 0, 0, 0, 0, 0, 0, 0] (by kernel_rfl) (by kernel_rfl) (by kernel_rfl) (by kernel_rfl) ?_
    repeat' (first | (apply brI <;> intro hb hb2 <;> (try simp [-Int.not_le, -Int.not_lt, -Nat.not_le, -Nat.not_lt, -Nat.add_left_cancel_iff] at hb2)) | simp (maxSteps := 2000000) (disch := first | omega | assumption | simp [*]) [*, -Int.not_le, -Int.not_lt, -Nat.not_le, -Nat.not_lt, -Nat.add_left_cancel_iff, wrap_i64, wrap_u64, k12, k1, k2, k4, k5, e5, isP_len hw, isI_cells hv, isI_one hv])
    refine cf_cloneC rfl rfl rfl (hB.low _) hcl ?_
    intro v3 h3 hB3 hk3
    refine ⟨fun d hd9 => ?_, ?_⟩
    · simp only [List.mem_cons, List.not_mem_nil, or_false] at hd9
      exact hk3 _ (by omega)
    have o3 := hB3.one
    have c3 := hB3.cells
    repeat' (first | (apply brI <;> intro hb hb2 <;> (try simp [-Int.not_le, -Int.not_lt, -Nat.not_le, -Nat.not_lt, -Nat.add_left_cancel_iff] at hb2)) | simp (maxSteps := 2000000) (disch := first | omega | assumption | simp [*]) [*, -Int.not_le, -Int.not_lt, -Nat.not_le, -Nat.not_lt, -Nat.add_left_cancel_iff, wrap_i64, wrap_u64, k12, k1, k2, k4, k5, isP_len hw, isP_index hw, isP_low hw, isP_noKey hw, isP_keysB hw])
    refine wa_pushL (bufL_rekey hB3 (off + 38)) rfl rfl (by decide) ⟨rfl, rfl⟩ (fun e => by simp [e]) (by rw [recsL_len]; omega) ?_
    intro v4 h4 hB4 hk4
    rw [recsL_snoc] at hB4
    have hkey : (if (recsL (fsts w) (snds w) done).length = 0 then off + 38 else off + 32) = off + 38 ∨ (if (recsL (fsts w) (snds w) done).length = 0 then off + 38 else off + 32) = off + 32 := by split <;> simp
    generalize (if (recsL (fsts w) (snds w) done).length = 0 then off + 38 else off + 32) = key4 at *
    refine ⟨fun d hd9 => ?_, ?_⟩
    · simp only [List.mem_cons, List.not_mem_nil, or_false] at hd9
      exact hk4 _ (by omega)
    have o4 := hB4.one
    have c4 := hB4.cells
    have e54 : h4 (off + 5) = some (.var g5 26 (.agg [.int .i64 n, v])) := by rw [hk4 _ (by omega), hk3 _ (by omega)]; exact e5
    have hB44 : BufL h4 101 key 0 2 L (recsL (fsts w) (snds w) done) := bufL_moved hB (by rw [hk4 _ (by omega), hk3 _ (by omega)])
    have hfr4 : ∀ y, y < off → h4 y = h y := fun y hy => by rw [hk4 _ (by omega), hk3 _ (by omega)]; exact hfr y hy
    clear hk4 hk3 hB3 hB e5 hfr
    repeat' (first | (apply brI <;> intro hb hb2 <;> (try simp [-Int.not_le, -Int.not_lt, -Nat.not_le, -Nat.not_lt, -Nat.add_left_cancel_iff] at hb2)) | simp (maxSteps := 2000000) (disch := first | omega | assumption | simp [*]) [*, -Int.not_le, -Int.not_lt, -Nat.not_le, -Nat.not_lt, -Nat.add_left_cancel_iff, wrap_i64, wrap_u64, k12, k1, k2, k4, k5, isP_len hw, isP_index hw, isP_low hw, isP_noKey hw, isP_keysB hw])
    refine cf_open rfl rfl (hIH1 (k + 1) key4 (done ++ [k]) _ _ v4 h4 _ _ (by simp) (by simp [hMc]) (by omega) hd' (by simp; omega) hB4 (by simp only [farOff]; omega) fun b u key' out h5 hpk hB5 hfr5 => ?_)
    have ou := hB5.one
    have cu := hB5.cells
    simp only [farOff] at hfr5
    have e55 := (hfr5 (off + 5) (by omega)).trans e54
    have hB55 := bufL_moved hB44 (hfr5 key (by omega))
    have hfr55 : ∀ y, y < off → h5 y = h y := fun y hy => (hfr5 y (by omega)).trans (hfr4 y hy)
    rw [hpk] at hfk
    clear hfr5 hfr4 hB44 e54 hIH1
    cases b with
    | true =>
      have hK2 := hK true u key' out h5 hfk hB5 hfr55
      clear hK hfk hnx
      repeat' (first | (apply brI <;> intro hb hb2 <;> (try simp [-Int.not_le, -Int.not_lt, -Nat.not_le, -Nat.not_lt, -Nat.add_left_cancel_iff] at hb2)) | simp (maxSteps := 2000000) (disch := first | omega | assumption | simp [*]) [*, -Int.not_le, -Int.not_lt, -Nat.not_le, -Nat.not_lt, -Nat.add_left_cancel_iff, wrap_i64, wrap_u64, k12, k1, k2, k4, k5])
    | false =>
      have hnx2 := hnx hpk
      have hst : CbH h h5 off key g5 n v L (recsL (fsts w) (snds w) done) := ⟨hB55, e55, hfr55⟩
      clear hK hfk hnx hpk hB5
      repeat' (first | (apply brI <;> intro hb hb2 <;> (try simp [-Int.not_le, -Int.not_lt, -Nat.not_le, -Nat.not_lt, -Nat.add_left_cancel_iff] at hb2)) | simp (maxSteps := 2000000) (disch := first | omega | assumption | simp [*]) [*, -Int.not_le, -Int.not_lt, -Nat.not_le, -Nat.not_lt, -Nat.add_left_cancel_iff, wrap_i64, wrap_u64, k12, k1, k2, k4, k5])
  · have hkl2 : k = len := by omega
    rw [hkl2, Nat.sub_self] at hfk
    have hK2 := fun h' e => hK false (.sl 0 .lit []) 0 [] h' hfk (.inl ⟨rfl, rfl⟩) e
    clear hfk hIH1 hall hK hk
    repeat' (first | (apply brI <;> intro hb hb2 <;> (try simp [-Int.not_le, -Int.not_lt, -Nat.not_le, -Nat.not_lt, -Nat.add_left_cancel_iff] at hb2)) | (refine draw_listA (by rfl) (by kernel_rfl) ?_) | (refine draw_listB (by simp [allocsOf, isAlloc]; rfl) (by kernel_rfl) ?_) | simp (maxSteps := 2000000) (disch := first | omega | assumption | simp [*]) [*, -Int.not_le, -Int.not_lt, -Nat.not_le, -Nat.not_lt, -Nat.add_left_cancel_iff, wrap_i64, wrap_u64, k12, k1, k2, k4, k5, isP_len hw])
end Go.Proofs.YtliecnadoklgoaaGreatDoor
/- The fewest factors: both sides. Conditions: none. -/
namespace Go.Proofs.YtliecnadoklgoaaGreatDoor
open Ev
set_option linter.unusedVariables false
set_option linter.unusedSimpArgs false
set_option maxHeartbeats 4000000

theorem pickSp {w : AV} {G len : Nat} {f0 : Nat → Int} (hw : IsP w) (hwl : (fsts w).length = len) (hlen : len ≤ 1048576) (hG : G ≤ 8) (hS : ∀ k, k < len → 0 ≤ nth (snds w) k ∧ nth (snds w) k < 64) (h0 : In64 f0) : ∀ c, PickSp w G len f0 c
  | 0 => fun k done ov ki ci e1 e2 hk hd hdl ho hox => by
    subst e1; exact l20Pick_c hw e2 hwl hlen hG hS h0 hk hd hdl ho hox (fun c e => by omega)
  | c + 1 => fun k done ov ki ci e1 e2 hk hd hdl ho hox => by
    subst e1; exact l20Pick_c hw e2 hwl hlen hG hS h0 hk hd hdl ho hox (fun c' e => Nat.succ.inj e ▸ pickSp hw hwl hlen hG hS h0 c)
theorem covSp {n : Int} {v w : AV} {len : Nat} {ok : List Nat → Bool} (hv : IsI v) (hw : IsP w) (hwl : (fsts w).length = len) (hlen : len ≤ 1048576)
    (hC : ∀ L : List Nat, (∀ k ∈ L, k < len) → L.length ≤ 8 → EvC env 82 [.agg [.int .i64 n, v], bufLC 0 2 (recsL (fsts w) (snds w) L)] (.bool (ok L))) : ∀ c, CovSp n v w len ok c
  | 0 => fun from_ key done fi mi L h off K e1 e2 hk hd hdl hB hko hK => by
    subst e1; exact coverBy_o hv hw e2 hwl hlen hk hd hdl hB hko (hC done hd (by omega)) (fun c e => by omega) hK
  | c + 1 => fun from_ key done fi mi L h off K e1 e2 hk hd hdl hB hko hK => by
    subst e1; exact coverBy_o hv hw e2 hwl hlen hk hd hdl hB hko (hC done hd (by omega)) (fun c' e => Nat.succ.inj e ▸ covSp hv hw hwl hlen hC c) hK
theorem isP_buf0 {k0 : Nat} {es : List AV} (h : ∀ e ∈ es, ∃ a b, e = pr a b) (hl : es.length ≤ top63) : IsP (bufLC k0 2 es) := by
  by_cases he : es = []
  · subst he; unfold bufLC; rw [if_pos rfl]; exact isP_mk (xs := []) (ys := []) (.inl rfl) rfl (Nat.zero_le _)
  · have e : bufLC k0 2 es = bufLC 2 2 es := by unfold bufLC; rw [if_neg he, if_neg he]
    rw [e]; exact isP_bufLC h hl
theorem fsts_buf0 {k0 : Nat} {es : List AV} : fsts (bufLC k0 2 es) = es.map fstI := by
  by_cases he : es = []
  · subst he; unfold bufLC; rw [if_pos rfl]; rfl
  · have e : bufLC k0 2 es = bufLC 2 2 es := by unfold bufLC; rw [if_neg he, if_neg he]
    rw [e, fsts_bufLC]
theorem snds_buf0 {k0 : Nat} {es : List AV} : snds (bufLC k0 2 es) = es.map sndI := by
  by_cases he : es = []
  · subst he; unfold bufLC; rw [if_pos rfl]; rfl
  · have e : bufLC k0 2 es = bufLC 2 2 es := by unfold bufLC; rw [if_neg he, if_neg he]
    rw [e, snds_bufLC]
theorem recs_pr {F S : List Int} {L : List Nat} : ∀ e ∈ recsL F S L, ∃ a b, e = pr a b := by
  intro e he
  simp only [recsL, List.mem_map] at he
  obtain ⟨k, _, rfl⟩ := he
  exact ⟨_, _, rfl⟩
def FewC (n : Int) (xs : List Int) (m : Int) : Prop := PCtx n xs ∧ (conL n xs).length ≤ 20 ∧ 0 ≤ m ∧ m ≤ 4
noncomputable instance (n : Int) (xs : List Int) (m : Int) : Decidable (FewC n xs m) := Classical.propDecidable _
noncomputable def okX (n : Int) (xs : List Int) : List Nat → Bool := okL (fsts (conW n xs)) (snds (conW n xs)) xs.length (fun g => nth xs g)
noncomputable def fewO (n : Int) (xs : List Int) (m : Int) : Option (List Nat) := if FewC n xs m then fewD (okX n xs) (conL n xs).length 0 (m.toNat + 1) else none
noncomputable def fewL (n : Int) (xs : List Int) (m : Int) : List AV := match fewO n xs m with | some out => recsL (fsts (conW n xs)) (snds (conW n xs)) out | none => []
noncomputable def fewB (n : Int) (xs : List Int) (m : Int) : Bool := (fewO n xs m).isSome
def FeSt (n : Int) (xs : List Int) (m : Int) (i : Nat) : Prop := fewO n xs m = fewD (okX n xs) (conL n xs).length i (m.toNat + 1 - i)
theorem feSt_next {n : Int} {xs : List Int} {m : Int} {i : Nat} (h : FeSt n xs m i) (hi : i < m.toNat + 1) (hp : pickD (okX n xs) (conL n xs).length i 0 [] = none) : FeSt n xs m (i + 1) := by
  unfold FeSt at h ⊢
  rw [h]
  obtain ⟨d, hd⟩ : ∃ d, m.toNat + 1 - i = d + 1 := ⟨m.toNat + 1 - i - 1, by omega⟩
  rw [hd, show m.toNat + 1 - (i + 1) = d by omega]
  show (match pickD (okX n xs) (conL n xs).length i 0 [] with | some x => some x | none => fewD (okX n xs) (conL n xs).length (i + 1) d) = _
  rw [hp]
theorem feSt_found {n : Int} {xs : List Int} {m : Int} {i : Nat} {out : List Nat} (h : FeSt n xs m i) (hi : i < m.toNat + 1) (hp : pickD (okX n xs) (conL n xs).length i 0 [] = some out) : fewL n xs m = recsL (fsts (conW n xs)) (snds (conW n xs)) out ∧ fewB n xs m = true := by
  unfold FeSt at h
  obtain ⟨d, hd⟩ : ∃ d, m.toNat + 1 - i = d + 1 := ⟨m.toNat + 1 - i - 1, by omega⟩
  have e : fewO n xs m = some out := by
    rw [h, hd]
    show (match pickD (okX n xs) (conL n xs).length i 0 [] with | some x => some x | none => fewD (okX n xs) (conL n xs).length (i + 1) d) = _
    rw [hp]
  unfold fewL fewB
  rw [e]; exact ⟨rfl, rfl⟩
theorem few_no {n : Int} {xs : List Int} {m : Int} (h : fewO n xs m = none) : fewL n xs m = [] ∧ fewB n xs m = false := by
  unfold fewL fewB; rw [h]; exact ⟨rfl, rfl⟩
theorem fewD_lt {ok : List Nat → Bool} {len : Nat} {x : List Nat} {d k : Nat} (h : fewD ok len 0 d = some x) (hk : pickD ok len k 0 [] = some x) : k < d := by
  have key : ∀ {d c : Nat}, fewD ok len c d = some x → ∃ k, k < c + d ∧ pickD ok len k 0 [] = some x := by
    intro d
    induction d with
    | zero => intro c h; simp [fewD] at h
    | succ d ih =>
      intro c h
      unfold fewD at h
      cases hf : pickD ok len c 0 [] with
      | some y => rw [hf] at h; exact ⟨c, by omega, by rw [hf]; exact h⟩
      | none =>
        rw [hf] at h
        obtain ⟨k, h1, h2⟩ := ih h
        exact ⟨k, by omega, h2⟩
  obtain ⟨k2, h1, h2⟩ := key h
  obtain ⟨_, b1, _⟩ := pickD_sound hk
  obtain ⟨_, b2, _⟩ := pickD_sound h2
  omega
theorem few_len {n : Int} {xs : List Int} {m : Int} : (fewL n xs m).length ≤ 4 := by
  unfold fewL
  cases h : fewO n xs m with
  | none => simp
  | some out =>
    simp only [recsL_len]
    unfold fewO at h
    split at h
    · rename_i hc
      obtain ⟨k, _, hk, _⟩ := fewD_some h
      obtain ⟨_, b, _⟩ := pickD_sound hk
      rw [b]
      have := hc.2.2.2
      have := fewD_lt h hk
      simp; omega
    · cases h
theorem few_pr {n : Int} {xs : List Int} {m : Int} : ∀ e ∈ fewL n xs m, ∃ a b, e = pr a b := by
  unfold fewL
  cases fewO n xs m with
  | none => simp
  | some out => exact recs_pr
def IsFew (n : Int) (xs : List Int) (m : Int) (r : AV) : Prop := ∃ key, r = .tup [bufLR 101 key 0 2 (fewL n xs m), .bool (fewB n xs m)]
theorem iFewestFactors_t {n m : Int} {v : AV} (hv : IsI v) (hbig : (xsOf v).length ≤ 1048576) : CallsTo env 78 [.agg [.int .i64 n, v], .int .i64 m] (fun r => IsFew n (xsOf v) m r) := by
  refine callsTo_mk (F := Tryz.f78) rfl rfl (Nat.le_of_ble_eq_true rfl) ?_
  have hP := conW2_P n (xsOf v)
  have hw := iCon_noEx n (xsOf v) 101
  have hfl := conW_len n (xsOf v)
  have hL := conL_len n (xsOf v)
  have hvl := hv.len
  by_cases hc : FewC n (xsOf v) m
  · obtain ⟨hp, hl20, hm0, hm4⟩ := id hc
    have hst : FeSt n (xsOf v) m 0 := by unfold FeSt fewO; rw [if_pos hc]; rfl
    obtain ⟨M, rfl⟩ : ∃ M : Nat, m = M := ⟨m.toNat, by omega⟩
    have hFe := conW2_fsts n (xsOf v)
    have hSe := conW2_snds n (xsOf v)
    have hC : ∀ L : List Nat, (∀ k ∈ L, k < (conL n (xsOf v)).length) → L.length ≤ 8 → EvC env 82 [.agg [.int .i64 n, v], bufLC 0 2 (recsL (fsts (conW2 n (xsOf v))) (snds (conW2 n (xsOf v))) L)] (.bool (okX n (xsOf v) L)) := fun L hL hl => by
      have h1 := iIsCover_c (n := n) hv (isP_buf0 (k0 := 0) (es := recsL (fsts (conW2 n (xsOf v))) (snds (conW2 n (xsOf v))) L) recs_pr (by rw [recsL_len]; unfold top63; omega))
      rw [fsts_buf0, snds_buf0, recs_fsts, recs_snds] at h1
      obtain ⟨N, rfl⟩ : ∃ N : Nat, n = N := ⟨n.toNat, by have := hp.1; omega⟩
      rw [hFe, hSe] at h1 ⊢
      have h2 := cov_ok hp hL
      have e : decide (CovC (N : Int) (xsOf v) (L.map fun k => nth (fsts (conW N (xsOf v))) k) (L.map fun k => nth (snds (conW N (xsOf v))) k)) = okX N (xsOf v) L := by
        rw [Bool.eq_iff_iff, decide_eq_true_eq]; exact h2
      rw [e] at h1; exact h1
    have hfin : fewO n (xsOf v) M = none → IsFew n (xsOf v) M (.tup [.sl 0 .lit [], .bool false]) := fun e => by
      exact ⟨0, by rw [(few_no e).1, (few_no e).2]; rfl⟩
    have hend : FeSt n (xsOf v) M (M + 1) → fewO n (xsOf v) M = none := fun h => by
      unfold FeSt at h
      rw [h, show (M : Int).toNat + 1 - (M + 1) = 0 by omega]; rfl
    have hnx := fun (i : Nat) (hi : i < M + 1) (h : FeSt n (xsOf v) M i) hp => feSt_next h (by omega) hp
    have hfo := fun (i : Nat) (out : List Nat) (hi : i < M + 1) (h : FeSt n (xsOf v) M i) hp => feSt_found (out := out) h (by omega) hp
    have hwl : (fsts (conW2 n (xsOf v))).length = (conL n (xsOf v)).length := by rw [hFe, hfl]
    have hcv := covSp hv hP hwl (by omega) hC
    rw [← hFe, ← hSe] at hfo
    clear hC hFe hSe hfl
    generalize conW2 n (xsOf v) = w at *
    obtain ⟨len, hlen⟩ : ∃ len, (conL n (xsOf v)).length = len := ⟨_, rfl⟩
    have hl20' : ¬ (20 < (conL n (xsOf v)).length) := by omega
    have hl21 : ¬ ((20 : Int) < ((conL n (xsOf v)).length : Int)) := by omega
    have hM1 : (M : Int) ≤ 4 := hm4
    clear hc hlen
    repeat' (first | (apply brI <;> intro hb hb2 <;> (try simp [-Int.not_le, -Int.not_lt, -Nat.not_le, -Nat.not_lt, -Nat.add_left_cancel_iff] at hb2)) | (refine draw_listA (by rfl) (by kernel_rfl) ?_) | (refine draw_listB (by simp [allocsOf, isAlloc]; rfl) (by kernel_rfl) ?_) | simp (maxSteps := 2000000) (disch := first | omega | assumption | simp [*]) [*, -Int.not_le, -Int.not_lt, -Nat.not_le, -Nat.not_lt, -Nat.add_left_cancel_iff, wrap_i64, wrap_u64, Tryz.f78, isI_cells hv, isI_one hv, isI_low hv, isI_noKey hv, isP_len hP])
    refine W_loopG (M + 1) (fun i s h => s 27 = .int .i64 i ∧ s 26 = .int .i64 ((M : Int) + 1) ∧ s 6 = w ∧ s 2 = .vp 2 0 0 ∧ h 2 = some (.var 0 26 (.agg [.int .i64 n, v])) ∧ FeSt n (xsOf v) M i) ?_ ?_
    · simp [*]
    rintro i s h hi ⟨h27, h26, h6, h2, e2, hs⟩
    by_cases hi2 : i < M + 1
    · have hi4 : i ≤ 4 := by omega
      have hi3 : (i : Int) < (M : Int) + 1 := by omega
      have hnx1 := hnx i hi2 hs
      have hfo1 := fun out => hfo i out hi2 hs
      clear hnx hfo hfin hend hs
      repeat' (first | (apply brI <;> intro hb hb2 <;> (try simp [-Int.not_le, -Int.not_lt, -Nat.not_le, -Nat.not_lt, -Nat.add_left_cancel_iff] at hb2)) | (refine draw_listA (by rfl) (by kernel_rfl) ?_) | (refine draw_listB (by simp [allocsOf, isAlloc]; rfl) (by kernel_rfl) ?_) | simp (maxSteps := 2000000) (disch := first | omega | assumption | simp [*]) [*, -Int.not_le, -Int.not_lt, -Nat.not_le, -Nat.not_lt, -Nat.add_left_cancel_iff, wrap_i64, wrap_u64, h27, h26, h6, h2, e2, isI_cells hv, isI_one hv, isI_low hv, isP_low hP])
      refine cf_open rfl rfl (hcv i 0 0 [] _ _ _ _ _ _ (by simp) rfl (Nat.zero_le _) (by simp) (by simp; omega) (bufL_nil ..) (by simp [farOff]) fun b u key' out h5 hpk hB5 hfr5 => ?_)
      have ou := hB5.one
      have cu := hB5.cells
      simp only [farOff] at hfr5
      have e25 := (hfr5 2 (by omega)).trans e2
      clear hcv e2 hfr5
      cases b with
      | true =>
        obtain ⟨f1, f2⟩ := hfo1 out hpk
        have hE := hB5.expo
        rw [← f1] at hE
        have hgo : IsFew n (xsOf v) M (.tup [expo h5 u, .bool true]) := ⟨key', by rw [hE, f2]⟩
        clear hfo1 hnx1 hE f1 f2
        repeat' (first | (apply brI <;> intro hb hb2 <;> (try simp [-Int.not_le, -Int.not_lt, -Nat.not_le, -Nat.not_lt, -Nat.add_left_cancel_iff] at hb2)) | (refine draw_listA (by rfl) (by kernel_rfl) ?_) | (refine draw_listB (by simp [allocsOf, isAlloc]; rfl) (by kernel_rfl) ?_) | simp (maxSteps := 2000000) (disch := first | omega | assumption | simp [*]) [*, -Int.not_le, -Int.not_lt, -Nat.not_le, -Nat.not_lt, -Nat.add_left_cancel_iff, wrap_i64, wrap_u64, h27, h26, h6, h2])
      | false =>
        have hs2 := hnx1 hpk
        clear hfo1 hnx1 hpk hB5
        repeat' (first | (apply brI <;> intro hb hb2 <;> (try simp [-Int.not_le, -Int.not_lt, -Nat.not_le, -Nat.not_lt, -Nat.add_left_cancel_iff] at hb2)) | (refine draw_listA (by rfl) (by kernel_rfl) ?_) | (refine draw_listB (by simp [allocsOf, isAlloc]; rfl) (by kernel_rfl) ?_) | simp (maxSteps := 2000000) (disch := first | omega | assumption | simp [*]) [*, -Int.not_le, -Int.not_lt, -Nat.not_le, -Nat.not_lt, -Nat.add_left_cancel_iff, wrap_i64, wrap_u64, h27, h26, h6, h2])
    · obtain rfl : i = M + 1 := by omega
      have hf := hfin (hend hs)
      clear hnx hfo hfin hend hs
      repeat' (first | (apply brI <;> intro hb hb2 <;> (try simp [-Int.not_le, -Int.not_lt, -Nat.not_le, -Nat.not_lt, -Nat.add_left_cancel_iff] at hb2)) | (refine draw_listA (by rfl) (by kernel_rfl) ?_) | (refine draw_listB (by simp [allocsOf, isAlloc]; rfl) (by kernel_rfl) ?_) | simp (maxSteps := 2000000) (disch := first | omega | assumption | simp [*]) [*, -Int.not_le, -Int.not_lt, -Nat.not_le, -Nat.not_lt, -Nat.add_left_cancel_iff, wrap_i64, wrap_u64, h27, h26, h6, h2, e2])
  · have hn : fewO n (xsOf v) m = none := by unfold fewO; rw [if_neg hc]
    have hf : IsFew n (xsOf v) m (.tup [.sl 0 .lit [], .bool false]) := by
      exact ⟨0, by rw [(few_no hn).1, (few_no hn).2]; rfl⟩
    have hwl : (fsts (conW2 n (xsOf v))).length = (conL n (xsOf v)).length := by rw [conW2_fsts, hfl]
    generalize conW2 n (xsOf v) = w at *
    have hno : PCtx n (xsOf v) → (conL n (xsOf v)).length ≤ 20 → 0 ≤ m → m ≤ 4 → False := fun a b c d => hc ⟨a, b, c, d⟩
    clear hn hc hfl
    by_cases hp : PCtx n (xsOf v)
    · by_cases hl : (conL n (xsOf v)).length ≤ 20
      · have hl2 : ¬ ((20 : Int) < ((conL n (xsOf v)).length : Int)) := by omega
        have hmm : (decide (0 ≤ m) && decide (m ≤ 4)) = false := by
          cases h : (decide (0 ≤ m) && decide (m ≤ 4)) with
          | false => rfl
          | true => simp at h; exact (hno hp hl h.1 h.2).elim
        clear hno
        repeat' (first | (apply brI <;> intro hb hb2 <;> (try simp [-Int.not_le, -Int.not_lt, -Nat.not_le, -Nat.not_lt, -Nat.add_left_cancel_iff] at hb2)) | (refine draw_listA (by rfl) (by kernel_rfl) ?_) | (refine draw_listB (by simp [allocsOf, isAlloc]; rfl) (by kernel_rfl) ?_) | simp (maxSteps := 2000000) (disch := first | omega | assumption | simp [*]) [*, -Int.not_le, -Int.not_lt, -Nat.not_le, -Nat.not_lt, -Nat.add_left_cancel_iff, wrap_i64, wrap_u64, Tryz.f78, isI_cells hv, isI_one hv, isI_low hv, isI_noKey hv, isP_len hP])
        all_goals first | exact hf | skip
      · have hl2 : (20 : Int) < ((conL n (xsOf v)).length : Int) := by omega
        clear hno hl
        repeat' (first | (apply brI <;> intro hb hb2 <;> (try simp [-Int.not_le, -Int.not_lt, -Nat.not_le, -Nat.not_lt, -Nat.add_left_cancel_iff] at hb2)) | (refine draw_listA (by rfl) (by kernel_rfl) ?_) | (refine draw_listB (by simp [allocsOf, isAlloc]; rfl) (by kernel_rfl) ?_) | simp (maxSteps := 2000000) (disch := first | omega | assumption | simp [*]) [*, -Int.not_le, -Int.not_lt, -Nat.not_le, -Nat.not_lt, -Nat.add_left_cancel_iff, wrap_i64, wrap_u64, Tryz.f78, isI_cells hv, isI_one hv, isI_low hv, isI_noKey hv, isP_len hP])
        all_goals first | exact hf | skip
    · clear hno
      repeat' (first | (apply brI <;> intro hb hb2 <;> (try simp [-Int.not_le, -Int.not_lt, -Nat.not_le, -Nat.not_lt, -Nat.add_left_cancel_iff] at hb2)) | (refine draw_listA (by rfl) (by kernel_rfl) ?_) | (refine draw_listB (by simp [allocsOf, isAlloc]; rfl) (by kernel_rfl) ?_) | simp (maxSteps := 2000000) (disch := first | omega | assumption | simp [*]) [*, -Int.not_le, -Int.not_lt, -Nat.not_le, -Nat.not_lt, -Nat.add_left_cancel_iff, wrap_i64, wrap_u64, Tryz.f78, isI_cells hv, isI_one hv, isI_low hv, isI_noKey hv, isP_len hP])
      all_goals first | exact hf | skip
theorem sFewestFactors_c {n m : Int} {v : AV} (hv : IsI v) (hbig : (xsOf v).length ≤ 1048576) : EvC env 79 [.agg [.int .i64 n, v], .int .i64 m] (.tup [bufLR 101 43 2 2 (fewL n (xsOf v) m), .bool (fewB n (xsOf v) m)]) := by
  refine evC_of (F := Tryz.f79) rfl rfl (Nat.le_of_ble_eq_true rfl) ?_
  have hP := conW_P n (xsOf v)
  have hw := sCon_noEx n (xsOf v) 101
  have hwl := conW_len n (xsOf v)
  have hL := conL_len n (xsOf v)
  have hvl := hv.len
  by_cases hc : FewC n (xsOf v) m
  · obtain ⟨hp, hl20, hm0, hm4⟩ := id hc
    have hst : FeSt n (xsOf v) m 0 := by unfold FeSt fewO; rw [if_pos hc]; rfl
    obtain ⟨M, rfl⟩ : ∃ M : Nat, m = M := ⟨m.toNat, by omega⟩
    have hG : (xsOf v).length ≤ 8 := hp.2.2.1
    have h64 := rows_64 hp
    have hS := fun (k : Nat) (hk : k < (conL n (xsOf v)).length) => S_64 hk
    have hpk := pickSp hP hwl (by omega) hG hS h64
    have hend : FeSt n (xsOf v) M (M + 1) → fewL n (xsOf v) M = [] ∧ fewB n (xsOf v) M = false := fun h => by
      unfold FeSt at h
      exact few_no (by rw [h, show (M : Int).toNat + 1 - (M + 1) = 0 by omega]; rfl)
    have hnx := fun (i : Nat) (hi : i < M + 1) (h : FeSt n (xsOf v) M i) hp => feSt_next h (by omega) hp
    have hfo := fun (i : Nat) (out : List Nat) (hi : i < M + 1) (h : FeSt n (xsOf v) M i) hp => feSt_found (out := out) h (by omega) hp
    have hcall : ∀ i : Nat, i < M + 1 → EvC env 176 [conW n (xsOf v), .int .i64 0, .int .i64 i, v, .sl 2 .lit []] (pickV (fsts (conW n (xsOf v))) (snds (conW n (xsOf v))) (pickD (okX n (xsOf v)) (conL n (xsOf v)).length i 0 [])) :=
      fun i hi => hpk i 0 [] v 0 i rfl rfl (Nat.zero_le _) (by simp) (by simp; omega) hv (tab_eq rfl fun j hj => rfl)
    have hbl : (fewL n (xsOf v) M).length ≤ 4 := few_len
    have hl20' : ¬ (20 < (conL n (xsOf v)).length) := by omega
    have hl21 : ¬ ((20 : Int) < ((conL n (xsOf v)).length : Int)) := by omega
    have hM1 : (M : Int) ≤ 4 := hm4
    generalize conW n (xsOf v) = w at *
    clear hc hpk hS h64
    repeat' (first | (apply brI <;> intro hb hb2 <;> (try simp [-Int.not_le, -Int.not_lt, -Nat.not_le, -Nat.not_lt, -Nat.add_left_cancel_iff] at hb2)) | (refine draw_listA (by rfl) (by kernel_rfl) ?_) | (refine draw_listB (by simp [allocsOf, isAlloc]; rfl) (by kernel_rfl) ?_) | simp (maxSteps := 2000000) (disch := first | omega | assumption | simp [*]) [*, -Int.not_le, -Int.not_lt, -Nat.not_le, -Nat.not_lt, -Nat.add_left_cancel_iff, wrap_i64, wrap_u64, Tryz.f79, isI_cells hv, isI_one hv, isI_low hv, isI_noKey hv, isP_len hP])
    refine W_loopG (M + 1) (fun i s h => s 7 = .int .i64 i ∧ s 1 = .int .i64 M ∧ s 6 = w ∧ s 2 = .vp 2 0 0 ∧ h 2 = some (.var 0 26 (.agg [.int .i64 n, v])) ∧ FeSt n (xsOf v) M i) ?_ ?_
    · simp [*]
    rintro i s h hi ⟨h7, h1, h6, h2, e2, hs⟩
    by_cases hi2 : i < M + 1
    · have hi3 : (i : Int) ≤ (M : Int) := by omega
      have hi4 : i ≤ 4 := by omega
      have hnx1 := hnx i hi2 hs
      have hfo1 := fun out => hfo i out hi2 hs
      have hc1 := hcall i hi2
      obtain ⟨O, hO⟩ : ∃ O, pickD (okX n (xsOf v)) (conL n (xsOf v)).length i 0 [] = O := ⟨_, rfl⟩
      simp only [hO] at hc1 hnx1 hfo1
      clear hnx hfo hend hs hcall hO
      repeat' (first | (apply brI <;> intro hb hb2 <;> (try simp [-Int.not_le, -Int.not_lt, -Nat.not_le, -Nat.not_lt, -Nat.add_left_cancel_iff] at hb2)) | (refine draw_listA (by rfl) (by kernel_rfl) ?_) | (refine draw_listB (by simp [allocsOf, isAlloc]; rfl) (by kernel_rfl) ?_) | simp (maxSteps := 2000000) (disch := first | omega | assumption | simp [*]) [*, -Int.not_le, -Int.not_lt, -Nat.not_le, -Nat.not_lt, -Nat.add_left_cancel_iff, wrap_i64, wrap_u64, h7, h1, h6, h2, e2, isI_cells hv, isI_one hv, isI_low hv, isP_low hP])
      refine cw_ev hc1 rfl ?_
      cases O with
      | some out =>
        obtain ⟨f1, f2⟩ := hfo1 out rfl
        have hpv : pickV (fsts w) (snds w) (some out) = .tup [bufLC 2 2 (fewL n (xsOf v) M), .bool true] := by rw [f1]; rfl
        clear hfo1 hnx1 hc1
        repeat' (first | (apply brI <;> intro hb hb2 <;> (try simp [-Int.not_le, -Int.not_lt, -Nat.not_le, -Nat.not_lt, -Nat.add_left_cancel_iff] at hb2)) | (refine draw_listA (by rfl) (by kernel_rfl) ?_) | (refine draw_listB (by simp [allocsOf, isAlloc]; rfl) (by kernel_rfl) ?_) | simp (maxSteps := 2000000) (disch := first | omega | assumption | simp [*]) [*, -Int.not_le, -Int.not_lt, -Nat.not_le, -Nat.not_lt, -Nat.add_left_cancel_iff, wrap_i64, wrap_u64, hpv, h7, h1, h6, h2, bufLC_one, bufLC_cells, bufLC_noEx, bufLC_low])
        refine wa_cat rfl rfl (by decide) recs_cells (by rw [← f1]; omega) ?_
        intro v6 h6 hB6 hk6
        have o6 := hB6.one
        have c6 := hB6.cells
        have hE := hB6.expo
        rw [← f1] at hE
        clear hB6 hk6 f1
        repeat' (first | (apply brI <;> intro hb hb2 <;> (try simp [-Int.not_le, -Int.not_lt, -Nat.not_le, -Nat.not_lt, -Nat.add_left_cancel_iff] at hb2)) | (refine draw_listA (by rfl) (by kernel_rfl) ?_) | (refine draw_listB (by simp [allocsOf, isAlloc]; rfl) (by kernel_rfl) ?_) | simp (maxSteps := 2000000) (disch := first | omega | assumption | simp [*]) [*, -Int.not_le, -Int.not_lt, -Nat.not_le, -Nat.not_lt, -Nat.add_left_cancel_iff, wrap_i64, wrap_u64, hpv, h7, h1, h2])
        all_goals first | exact ⟨hE, f2.symm⟩ | exact hE | skip
      | none =>
        have hpv : pickV (fsts w) (snds w) none = .tup [.sl 2 .lit [], .bool false] := rfl
        have hs2 := hnx1 rfl
        clear hfo1 hnx1 hc1
        repeat' (first | (apply brI <;> intro hb hb2 <;> (try simp [-Int.not_le, -Int.not_lt, -Nat.not_le, -Nat.not_lt, -Nat.add_left_cancel_iff] at hb2)) | (refine draw_listA (by rfl) (by kernel_rfl) ?_) | (refine draw_listB (by simp [allocsOf, isAlloc]; rfl) (by kernel_rfl) ?_) | simp (maxSteps := 2000000) (disch := first | omega | assumption | simp [*]) [*, -Int.not_le, -Int.not_lt, -Nat.not_le, -Nat.not_lt, -Nat.add_left_cancel_iff, wrap_i64, wrap_u64, hpv, h7, h1, h6, h2])
    · obtain rfl : i = M + 1 := by omega
      obtain ⟨f1, f2⟩ := hend hs
      rw [f1, f2]
      have hgt : ¬ ((M : Int) + 1 ≤ M) := by omega
      clear hnx hfo hend hs hcall
      repeat' (first | (apply brI <;> intro hb hb2 <;> (try simp [-Int.not_le, -Int.not_lt, -Nat.not_le, -Nat.not_lt, -Nat.add_left_cancel_iff] at hb2)) | (refine draw_listA (by rfl) (by kernel_rfl) ?_) | (refine draw_listB (by simp [allocsOf, isAlloc]; rfl) (by kernel_rfl) ?_) | simp (maxSteps := 2000000) (disch := first | omega | assumption | simp [*]) [*, -Int.not_le, -Int.not_lt, -Nat.not_le, -Nat.not_lt, -Nat.add_left_cancel_iff, wrap_i64, wrap_u64, h7, h1, h6, h2, e2])
      all_goals first | rfl | skip
  · have hn : fewO n (xsOf v) m = none := by unfold fewO; rw [if_neg hc]
    rw [(few_no hn).1, (few_no hn).2]
    have hno : PCtx n (xsOf v) → (conL n (xsOf v)).length ≤ 20 → 0 ≤ m → m ≤ 4 → False := fun a b c d => hc ⟨a, b, c, d⟩
    generalize conW n (xsOf v) = w at *
    clear hn hc
    by_cases hp : PCtx n (xsOf v)
    · by_cases hl : (conL n (xsOf v)).length ≤ 20
      · have hl2 : ¬ ((20 : Int) < ((conL n (xsOf v)).length : Int)) := by omega
        have hmm : (decide (0 ≤ m) && decide (m ≤ 4)) = false := by
          cases h : (decide (0 ≤ m) && decide (m ≤ 4)) with
          | false => rfl
          | true => simp at h; exact (hno hp hl h.1 h.2).elim
        clear hno
        repeat' (first | (apply brI <;> intro hb hb2 <;> (try simp [-Int.not_le, -Int.not_lt, -Nat.not_le, -Nat.not_lt, -Nat.add_left_cancel_iff] at hb2)) | (refine draw_listA (by rfl) (by kernel_rfl) ?_) | (refine draw_listB (by simp [allocsOf, isAlloc]; rfl) (by kernel_rfl) ?_) | simp (maxSteps := 2000000) (disch := first | omega | assumption | simp [*]) [*, -Int.not_le, -Int.not_lt, -Nat.not_le, -Nat.not_lt, -Nat.add_left_cancel_iff, wrap_i64, wrap_u64, Tryz.f79, isI_cells hv, isI_one hv, isI_low hv, isI_noKey hv, isP_len hP])
        all_goals first | rfl | skip
      · have hl2 : (20 : Int) < ((conL n (xsOf v)).length : Int) := by omega
        clear hno hl
        repeat' (first | (apply brI <;> intro hb hb2 <;> (try simp [-Int.not_le, -Int.not_lt, -Nat.not_le, -Nat.not_lt, -Nat.add_left_cancel_iff] at hb2)) | (refine draw_listA (by rfl) (by kernel_rfl) ?_) | (refine draw_listB (by simp [allocsOf, isAlloc]; rfl) (by kernel_rfl) ?_) | simp (maxSteps := 2000000) (disch := first | omega | assumption | simp [*]) [*, -Int.not_le, -Int.not_lt, -Nat.not_le, -Nat.not_lt, -Nat.add_left_cancel_iff, wrap_i64, wrap_u64, Tryz.f79, isI_cells hv, isI_one hv, isI_low hv, isI_noKey hv, isP_len hP])
        all_goals first | rfl | skip
    · clear hno
      repeat' (first | (apply brI <;> intro hb hb2 <;> (try simp [-Int.not_le, -Int.not_lt, -Nat.not_le, -Nat.not_lt, -Nat.add_left_cancel_iff] at hb2)) | (refine draw_listA (by rfl) (by kernel_rfl) ?_) | (refine draw_listB (by simp [allocsOf, isAlloc]; rfl) (by kernel_rfl) ?_) | simp (maxSteps := 2000000) (disch := first | omega | assumption | simp [*]) [*, -Int.not_le, -Int.not_lt, -Nat.not_le, -Nat.not_lt, -Nat.add_left_cancel_iff, wrap_i64, wrap_u64, Tryz.f79, isI_cells hv, isI_one hv, isI_low hv, isI_noKey hv, isP_len hP])
      all_goals first | rfl | skip
theorem sFewestFactors_s {n m : Int} {v : AV} (hv : IsI v) (hbig : (xsOf v).length ≤ 1048576) {K : AV → Prop} {tg : Tg K} : CW env 79 [.agg [.int .i64 n, v], .int .i64 m] K tg ↔ K (.tup [bufLR 101 43 2 2 (fewL n (xsOf v) m), .bool (fewB n (xsOf v) m)]) := callsTo_iff (sFewestFactors_c hv hbig)
attribute [simp] sFewestFactors_s
end Go.Proofs.YtliecnadoklgoaaGreatDoor
/- The law of FewestFactors. Conditions: none. -/
namespace Go.Proofs.YtliecnadoklgoaaGreatDoor
open Ev
set_option linter.unusedVariables false
set_option linter.unusedSimpArgs false
set_option maxHeartbeats 4000000

theorem isP_bufLP {k0 : Nat} {xs ys : List Int} (hl : xs.length ≤ top63) : IsP (bufLC k0 2 (prs xs ys)) := by
  unfold bufLC; split
  · exact isP_mk (xs := []) (ys := []) (.inl rfl) rfl (Nat.zero_le _)
  · exact isP_mk (.inr rfl) rfl hl
theorem fsts_bufLP {k0 : Nat} {xs ys : List Int} : fsts (bufLC k0 2 (prs xs ys)) = xs := by
  unfold bufLC; split
  · rename_i h
    have : xs.length = 0 := by have := congrArg List.length h; simpa using this
    rw [List.eq_nil_of_length_eq_zero this]; rfl
  · simp
theorem snds_bufLP {k0 : Nat} {xs ys : List Int} (h : ys.length = xs.length) : snds (bufLC k0 2 (prs xs ys)) = ys := by
  unfold bufLC; split
  · rename_i h2
    have h3 : xs.length = 0 := by have := congrArg List.length h2; simpa using this
    rw [List.eq_nil_of_length_eq_zero (h.trans h3)]; rfl
  · exact snds_prs _ _ h
theorem cf_rowb {E : Env} {fid d g : Nat} {args : List AV} {s : Nat → AV} {h : Heap} {off nt : Nat} {K : AV → Heap → Prop} {tg : Tg ((⟨s, h, off, nt⟩ : St), K)} {b : Bool} {R : AV} {k k0 T key : Nat} {es : List AV}
    (hc : EvC E g (lows h args) (.tup [R, .bool b])) (hR : OwnR R k k0 T key es) (hf : es.all flat = true) (he : mat3B E fid d g = true)
    (hK : ∀ v' h', Row h' (off + d) T k k0 v' es → (∀ x, x ≠ off + d → h' x = h x) → K (.tup [v', .bool b]) h') : CF E fid (some d) g args ⟨s, h, off, nt⟩ K tg := by
  refine cf_mat3 he hc ?_
  obtain ⟨v', h', h1, h2, h3⟩ := mat3_one (base := off + d) (h := h) (r := .tup [R, .bool b]) (v := .un) (C := fun v => .tup [v, .bool b]) (n' := 0) hR hf fun v L hm => by
    simp [matG, matGs, flat1, hm]
  exact ⟨_, _, h1, hK _ _ h2 h3⟩
end Go.Proofs.YtliecnadoklgoaaGreatDoor
