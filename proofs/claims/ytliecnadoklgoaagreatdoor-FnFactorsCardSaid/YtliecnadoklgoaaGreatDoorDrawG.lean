/- What is drawn for the law of factors. Conditions: none. -/
import Derived.Test.YtliecnadoklgoaaGreatDoorDrawF
import Derived.Test.YtliecnadoklgoaaGreatDoorGrd
namespace Go.Proofs.YtliecnadoklgoaaGreatDoor
open Ev
set_option linter.unusedVariables false
set_option linter.unusedSimpArgs false
set_option maxHeartbeats 4000000

def mat5B (E : Env) (fid d g : Nat) : Bool := (E.ext g).isNone && !E.open_ g && E.mat fid d == 5
theorem cf_own5 {E : Env} {fid d g : Nat} {args : List AV} {s : Nat → AV} {h : Heap} {off nt : Nat} {K : AV → Heap → Prop} {tg : Tg ((⟨s, h, off, nt⟩ : St), K)} {T key k0 : Nat} {es : List AV}
    (hc : EvC E g (lows h args) (bufLR T key k0 2 es)) (hf : es.all flat = true) (he : mat5B E fid d g = true)
    (hn : nextG h (off + d) = 0) (h0 : es = [] → K (.sl k0 .lit []) h) (h1 : es ≠ [] → K (.ms (off + d) 0 0 es.length) (hset h (off + d) (.row 0 T 2 es))) : CF E fid (some d) g args ⟨s, h, off, nt⟩ K tg := by
  simp only [mat5B, Bool.and_eq_true, Bool.not_eq_true', beq_iff_eq, Option.isNone_iff_eq_none] at he
  unfold CF
  rw [WF_mat (ext_none he.1.1 _) he.1.2]
  refine ⟨_, hc, ?_⟩
  by_cases hx : es = []
  · subst hx
    refine ⟨_, _, ?_, h0 rfl⟩
    simp only [mat, he.2]
    rfl
  · refine ⟨_, _, ?_, h1 hx⟩
    simp only [mat, he.2, bufLR, if_neg hx]
    rw [if_pos ⟨hf, hx⟩, hn]
def Prs (es : List AV) : Prop := ∀ e ∈ es, ∃ a b, e = pr a b
theorem prs_low {es : List AV} (h : Prs es) : low0s es = es ∧ stabs es = true ∧ es.all flat = true ∧ ((es.all fun y => y.cells.length == 2 && y.cells.all AV.one) = true) := by
  induction es with
  | nil => exact ⟨rfl, rfl, rfl, rfl⟩
  | cons e es ih =>
    obtain ⟨a, b, rfl⟩ := h e (by simp)
    obtain ⟨h1, h2, h3, h4⟩ := ih fun x hx => h x (by simp [hx])
    refine ⟨by simp [low0s, h1, pr, low0], by simp [stabs, h2, pr, stab], by simp [h3, pr, flat, flat1], ?_⟩
    simp only [List.all_cons, h4, Bool.and_true]
    rfl
theorem prs_cut {es : List AV} (h : Prs es) (a b : Nat) : Prs ((es.drop a).take b) := fun e he => h e (List.mem_of_mem_drop (List.mem_of_mem_take he))
theorem prs_tl {es : List AV} (h : Prs es) (b : Nat) : Prs (es.tail.take b) := fun e he => h e (List.mem_of_mem_tail (List.mem_of_mem_take he))
theorem Prs.snoc {es : List AV} (h : Prs es) (a b : Int) : Prs (es ++ [pr a b]) := fun e he => by
  rcases List.mem_append.mp he with he | he
  · exact h e he
  · rw [List.mem_singleton] at he; exact ⟨a, b, he⟩
theorem bufLC_pos (k0 sz : Nat) {es : List AV} (h : 0 < es.length) : bufLC k0 sz es = .sl sz .no es := by
  unfold bufLC
  rw [if_neg (by rintro rfl; simp at h)]
theorem slice_ms {E : Env} {h : Heap} {t key g off len T k : Nat} {es : List AV} (ht : slT E t = true) (hs : E.size (elT E t) = k) (hk0 : k ≠ 0) (hh : h key = some (.row g T k es)) (h1 : 1 ≤ len) :
    sliceV E h t (.ms key g off len) (some (.int .i64 1)) none none = some (.ms key g (off + 1) (len - 1)) := by
  have hz : ¬ E.size (elT E t) = 0 := by rw [hs]; exact hk0
  simp only [sliceV, slT_ty ht, if_neg hz, hh, boundV, Option.bind_some, Option.isNone_none]
  rw [if_pos (by decide)]
  simp only [Option.bind_some]
  rw [if_pos ⟨by trivial, hs.symm, by omega, Nat.le_refl _, by trivial⟩]
  rfl
theorem expo_ms {h : Heap} {key g off len T k : Nat} {es : List AV} (hh : h key = some (.row g T k es)) (hl : off + len ≤ es.length) (hp : Prs es) : noEx (expo h (.ms key g off len)) = .sl k .no ((es.drop off).take len) := by
  obtain ⟨h1, h2, _⟩ := prs_low hp
  have h3 := (prs_low (prs_cut hp off len)).1
  simp only [expo, hh]
  rw [if_pos ⟨trivial, hl, h2⟩]
  split
  · rename_i h9
    obtain ⟨rfl, rfl, _⟩ := h9
    rw [h1]; simp [noEx]
  · rw [h3]; simp [noEx]
theorem wa_ms {E : Env} {h : Heap} {ko t key g off len T : Nat} {o : Own} {es : List AV} {e : AV} {K : AV → Heap → Prop} (ht : slT E t = true) (hT : elT E t = T) (hs : E.size T = 2) (hh : h key = some (.row g T 2 es)) (h0 : 0 < len) (hl : off + len = es.length) (hp : Prs es) (hb : es.length < 1000) (he : ∃ a b, e = pr a b)
    (hK : K (.sl 2 .no ((es.drop off).take len ++ [e])) (hset h key (.tok (g + 1) T 2 (es.length + 1)))) : WA E h ko t (.ms key g off len) (.sl 2 o [e]) K ⟨⟩ := by
  subst hT
  obtain ⟨h1, h2, _⟩ := prs_low hp
  have h3 := (prs_low (prs_cut hp off len)).1
  have h4 := (prs_low (es := [e]) (fun x hx => by rw [List.mem_singleton] at hx; rw [hx]; exact he)).2.2.2
  unfold WA
  refine ⟨_, _, ?_, hK⟩
  simp only [appendV, slT_ty ht, appendM, hh, elemsOf, hs]
  rw [if_pos ⟨by decide, by simp, by trivial, by trivial, by trivial, by trivial, h0, hl, h2, by simp [maxRow]; omega, h4⟩, h3]
  rfl
def C20 (r : AV) : Prop := ∃ (n : Int) (rows : List Int) (es : List AV), noEx r = .tup [.agg [.int .i64 n, bufC 0 rows], bufLC 2 2 es] ∧ rows.length ≤ 9 ∧ Prs es ∧ es.length ≤ 66
theorem l20Case_t {b : AV} (hB : IsB b) (hbr : brwOf b = false) (hl : bLen b ≤ 1073741824) : CallsTo env 171 [b] (fun r => C20 r) := by
  refine callsTo_mk (F := Tryz.f171) rfl rfl (Nat.le_of_ble_eq_true rfl) ?_
  have hcb := isB_cells hB
  have hob := isB_one hB
  repeat' (first | (apply brI <;> intro hb hb2 <;> (try simp [-Int.not_le, -Int.not_lt, -Nat.not_le, -Nat.not_lt, -Nat.add_left_cancel_iff] at hb2)) | (refine draw_listA (by rfl) (by kernel_rfl) ?_) | (refine draw_listB (by simp [allocsOf, isAlloc]; rfl) (by kernel_rfl) ?_) | simp (maxSteps := 2000000) (disch := first | omega | assumption | simp [*]) [*, -Int.not_le, -Int.not_lt, -Nat.not_le, -Nat.not_lt, -Nat.add_left_cancel_iff, wrap_i64, wrap_u64, Tryz.f171, isB_low hB])
  refine cf_xp (by simpa [isB_low hB] using l1New_t hB hbr hl) rfl ?_
  rintro r ⟨hh, rfl⟩
  refine ⟨_, _, _, rfl, ?_⟩
  repeat' (first | (apply brI <;> intro hb hb2 <;> (try simp [-Int.not_le, -Int.not_lt, -Nat.not_le, -Nat.not_lt, -Nat.add_left_cancel_iff] at hb2)) | (refine draw_listA (by rfl) (by kernel_rfl) ?_) | (refine draw_listB (by simp [allocsOf, isAlloc]; rfl) (by kernel_rfl) ?_) | simp (maxSteps := 2000000) (disch := first | omega | assumption | simp [*]) [*, -Int.not_le, -Int.not_lt, -Nat.not_le, -Nat.not_lt, -Nat.add_left_cancel_iff, wrap_i64, wrap_u64])
  refine cf_open rfl rfl (l3Bent_o hB hl (g := 0) ⟨0, hh, by omega, by omega, by simp [hset, hnil]⟩ (by simp [farOff]) fun n rk v h1 hr1 hr2 hp hc1 hf1 => ?_)
  simp only [farOff] at hr1 hr2 hf1
  have ov := hp.one
  have cv := hp.cells
  have f2 : h1 2 = some (.var 0 26 (.agg [.int .i64 0, .sl 0 .lit []])) := by rw [hf1 2 (by omega) (by omega)]; simp [hset]
  have f5 : h1 5 = none := by rw [hf1 5 (by omega) (by omega)]; simp [hset, hnil]
  have f12 : h1 12 = none := by rw [hf1 12 (by omega) (by omega)]; simp [hset, hnil]
  have hp0 : CAny h1 rk v := .inl hp
  obtain ⟨rows, hlo, hex, _, hrl⟩ := hp0.all
  have hI : IsI (bufC 0 rows) := isI_bufC (by unfold top63; omega)
  have hg := sGreedyFactors_c (n := n) hI (by rw [xsOf_bufC]; omega)
  rw [xsOf_bufC] at hg
  have hgp : Prs (grdL n rows) := grdL_pr n rows
  have hgl := grdL_len n rows
  obtain ⟨es, hes⟩ : ∃ es, grdL n rows = es := ⟨_, rfl⟩
  rw [hes] at hg hgp hgl
  clear hf1 hp hp0 hes
  have hC : ∀ h' L es', h' rk = h1 rk → noEx L = bufLC 2 2 es' → Prs es' → es'.length ≤ 66 → C20 (.tup [.agg [.int .i64 n, expo h' v], L]) := fun h' L es' e e2 e3 e4 => ⟨n, rows, es', by simp [noEx, noExs, hex h' e, e2], hrl, e3, e4⟩
  repeat' (first | (apply brI <;> intro hb hb2 <;> (try simp [-Int.not_le, -Int.not_lt, -Nat.not_le, -Nat.not_lt, -Nat.add_left_cancel_iff] at hb2)) | simp (maxSteps := 2000000) (disch := first | omega | assumption | simp [*]) [*, -Int.not_le, -Int.not_lt, -Nat.not_le, -Nat.not_lt, -Nat.add_left_cancel_iff, wrap_i64, wrap_u64, f5])
  refine cf_own5 (es := es) (key := 53) (k0 := 2) (T := 101) (by simpa [hlo, hset, f5, nextG] using hg) (prs_low hgp).2.2.1 (by rfl) (by simp [nextG, hset, f12]) (fun hx => ?_) (fun hx => ?_)
  · subst hx
    repeat' (first | (apply brI <;> intro hb hb2 <;> (try simp [-Int.not_le, -Int.not_lt, -Nat.not_le, -Nat.not_lt, -Nat.add_left_cancel_iff] at hb2)) | (refine draw_listA (by rfl) (by kernel_rfl) ?_) | (refine draw_listB (by simp [allocsOf, isAlloc]; rfl) (by kernel_rfl) ?_) | simp (maxSteps := 2000000) (disch := first | omega | assumption | simp [*]) [*, -Int.not_le, -Int.not_lt, -Nat.not_le, -Nat.not_lt, -Nat.add_left_cancel_iff, wrap_i64, wrap_u64, f2, f5, f12])
    have q2 : (hset h1 5 (.var 0 26 (.agg [.int .i64 n, v]))) 2 = some (.var 0 26 (.agg [.int .i64 0, .sl 0 .lit []])) := by simp [hset, f2]
    have q5 : (hset h1 5 (.var 0 26 (.agg [.int .i64 n, v]))) 5 = some (.var 0 26 (.agg [.int .i64 n, v])) := by simp [hset]
    have qk : (hset h1 5 (.var 0 26 (.agg [.int .i64 n, v]))) rk = h1 rk := by rw [hset_other _ _ (by omega)]
    refine cf_open rfl rfl (l1Once_o hB hl (hc1.keep (hset_other _ _ (by omega))) fun c3 h3 hc3 hf3 => ?_)
    have j2 : h3 2 = _ := (hf3 2 (by omega)).trans q2
    have j5 : h3 5 = _ := (hf3 5 (by omega)).trans q5
    have jk : h3 rk = h1 rk := (hf3 rk (by omega)).trans qk
    clear hf3
    cases c3 with
    | true =>
      repeat' (first | (apply brI <;> intro hb hb2 <;> (try simp [-Int.not_le, -Int.not_lt, -Nat.not_le, -Nat.not_lt, -Nat.add_left_cancel_iff] at hb2)) | (refine draw_listA (by rfl) (by kernel_rfl) ?_) | (refine draw_listB (by simp [allocsOf, isAlloc]; rfl) (by kernel_rfl) ?_) | simp (maxSteps := 2000000) (disch := first | omega | assumption | simp [*]) [*, -Int.not_le, -Int.not_lt, -Nat.not_le, -Nat.not_lt, -Nat.add_left_cancel_iff, wrap_i64, wrap_u64, j2, j5])
      refine cf_open rfl rfl (l2Bent_o hB hl hc3 fun z h4 hc4 hf4 => ?_)
      have i2 : h4 2 = _ := (hf4 2 (by omega)).trans j2
      have i5 : h4 5 = _ := (hf4 5 (by omega)).trans j5
      have ik : h4 rk = _ := (hf4 rk (by omega)).trans jk
      clear hf4
      repeat' (first | (apply brI <;> intro hb hb2 <;> (try simp [-Int.not_le, -Int.not_lt, -Nat.not_le, -Nat.not_lt, -Nat.add_left_cancel_iff] at hb2)) | (refine draw_listA (by rfl) (by kernel_rfl) ?_) | (refine draw_listB (by simp [allocsOf, isAlloc]; rfl) (by kernel_rfl) ?_) | simp (maxSteps := 2000000) (disch := first | omega | assumption | simp [*]) [*, -Int.not_le, -Int.not_lt, -Nat.not_le, -Nat.not_lt, -Nat.add_left_cancel_iff, wrap_i64, wrap_u64, i2, i5])
      refine cf_open rfl rfl (l1Below_o hB hl hc4 fun x h5 hx _ _ hc5 hf5 => ?_)
      have k2 : h5 2 = _ := (hf5 2 (by omega)).trans i2
      have k5 : h5 5 = _ := (hf5 5 (by omega)).trans i5
      have kk : h5 rk = _ := (hf5 rk (by omega)).trans ik
      clear hf5
      repeat' (first | (apply brI <;> intro hb hb2 <;> (try simp [-Int.not_le, -Int.not_lt, -Nat.not_le, -Nat.not_lt, -Nat.add_left_cancel_iff] at hb2)) | (refine draw_listA (by rfl) (by kernel_rfl) ?_) | (refine draw_listB (by simp [allocsOf, isAlloc]; rfl) (by kernel_rfl) ?_) | simp (maxSteps := 2000000) (disch := first | omega | assumption | simp [*]) [*, -Int.not_le, -Int.not_lt, -Nat.not_le, -Nat.not_lt, -Nat.add_left_cancel_iff, wrap_i64, wrap_u64, k2, k5])
      refine wa_pushL (key := 31) (bufL_nil ..) (by simp) (by simp) (by simp) ⟨rfl, rfl⟩ (fun _ => rfl) (by simp) ?_
      intro v6 h6 hB6 hk6
      have m2 : h6 2 = _ := (hk6 2 (by omega)).trans k2
      have m5 : h6 5 = _ := (hk6 5 (by omega)).trans k5
      have mk : h6 rk = _ := (hk6 rk (by omega)).trans kk
      repeat' (first | (apply brI <;> intro hb hb2 <;> (try simp [-Int.not_le, -Int.not_lt, -Nat.not_le, -Nat.not_lt, -Nat.add_left_cancel_iff] at hb2)) | simp (maxSteps := 2000000) (disch := first | omega | assumption | simp [*]) [*, -Int.not_le, -Int.not_lt, -Nat.not_le, -Nat.not_lt, -Nat.add_left_cancel_iff, wrap_i64, wrap_u64, m2, m5])
      exact hC _ _ [pr z x] (by rw [hset_other _ _ (by omega)]; exact mk) (by rw [(hB6.keep (h' := hset h6 2 (.var 0 26 (.agg [.int .i64 n, v]))) (by simp [hset])).expo, bufLR_noEx]; rfl) (hgp.snoc _ _) (by simp)
    | false =>
      repeat' (first | (apply brI <;> intro hb hb2 <;> (try simp [-Int.not_le, -Int.not_lt, -Nat.not_le, -Nat.not_lt, -Nat.add_left_cancel_iff] at hb2)) | simp (maxSteps := 2000000) (disch := first | omega | assumption | simp [*]) [*, -Int.not_le, -Int.not_lt, -Nat.not_le, -Nat.not_lt, -Nat.add_left_cancel_iff, wrap_i64, wrap_u64, j2, j5])
      exact hC _ _ [] (by rw [hset_other _ _ (by omega)]; exact jk) rfl hgp (by simp)
  · have hpos : 0 < es.length := by cases es with | nil => exact absurd rfl hx | cons _ _ => simp
    have q2 : (hset (hset h1 5 (.var 0 26 (.agg [.int .i64 n, v]))) 12 (.row 0 101 2 es)) 2 = some (.var 0 26 (.agg [.int .i64 0, .sl 0 .lit []])) := by simp [hset, f2]
    have q5 : (hset (hset h1 5 (.var 0 26 (.agg [.int .i64 n, v]))) 12 (.row 0 101 2 es)) 5 = some (.var 0 26 (.agg [.int .i64 n, v])) := by simp [hset]
    have q12 : (hset (hset h1 5 (.var 0 26 (.agg [.int .i64 n, v]))) 12 (.row 0 101 2 es)) 12 = some (.row 0 101 2 es) := by simp [hset]
    have qk : (hset (hset h1 5 (.var 0 26 (.agg [.int .i64 n, v]))) 12 (.row 0 101 2 es)) rk = h1 rk := by rw [hset_other _ _ (by omega), hset_other _ _ (by omega)]
    repeat' (first | (apply brI <;> intro hb hb2 <;> (try simp [-Int.not_le, -Int.not_lt, -Nat.not_le, -Nat.not_lt, -Nat.add_left_cancel_iff] at hb2)) | (refine draw_listA (by rfl) (by kernel_rfl) ?_) | (refine draw_listB (by simp [allocsOf, isAlloc]; rfl) (by kernel_rfl) ?_) | simp (maxSteps := 2000000) (disch := first | omega | assumption | simp [*]) [*, -Int.not_le, -Int.not_lt, -Nat.not_le, -Nat.not_lt, -Nat.add_left_cancel_iff, wrap_i64, wrap_u64, f2, f5, f12])
    · refine cf_open rfl rfl (l1Once_o hB hl ((hc1.keep (hset_other _ _ (by omega))).keep (hset_other _ _ (by omega))) fun c2 h2 hc2 hf2 => ?_)
      have g2 : h2 2 = _ := (hf2 2 (by omega)).trans q2
      have g5 : h2 5 = _ := (hf2 5 (by omega)).trans q5
      have g12 : h2 12 = _ := (hf2 12 (by omega)).trans q12
      have gk : h2 rk = _ := (hf2 rk (by omega)).trans qk
      clear hf2 q2 q5 q12 qk
      cases c2 with
      | true =>
        repeat' (first | (apply brI <;> intro hb hb2 <;> (try simp [-Int.not_le, -Int.not_lt, -Nat.not_le, -Nat.not_lt, -Nat.add_left_cancel_iff] at hb2)) | simp (maxSteps := 2000000) (disch := first | omega | assumption | simp [*]) [*, -Int.not_le, -Int.not_lt, -Nat.not_le, -Nat.not_lt, -Nat.add_left_cancel_iff, wrap_i64, wrap_u64, slice_ms (E := env) (t := 79) (off := 0) (len := es.length) rfl rfl (by decide) g12 (by omega)])
        refine cf_open rfl rfl (l1Once_o hB hl hc2 fun c3 h3 hc3 hf3 => ?_)
        have j2 : h3 2 = _ := (hf3 2 (by omega)).trans g2
        have j5 : h3 5 = _ := (hf3 5 (by omega)).trans g5
        have jk : h3 rk = h1 rk := (hf3 rk (by omega)).trans gk
        have j12 : h3 12 = _ := (hf3 12 (by omega)).trans g12
        clear hf3
        cases c3 with
        | true =>
          repeat' (first | (apply brI <;> intro hb hb2 <;> (try simp [-Int.not_le, -Int.not_lt, -Nat.not_le, -Nat.not_lt, -Nat.add_left_cancel_iff] at hb2)) | (refine draw_listA (by rfl) (by kernel_rfl) ?_) | (refine draw_listB (by simp [allocsOf, isAlloc]; rfl) (by kernel_rfl) ?_) | simp (maxSteps := 2000000) (disch := first | omega | assumption | simp [*]) [*, -Int.not_le, -Int.not_lt, -Nat.not_le, -Nat.not_lt, -Nat.add_left_cancel_iff, wrap_i64, wrap_u64, j2, j5, j12])
          refine cf_open rfl rfl (l2Bent_o hB hl hc3 fun z h4 hc4 hf4 => ?_)
          have i2 : h4 2 = _ := (hf4 2 (by omega)).trans j2
          have i5 : h4 5 = _ := (hf4 5 (by omega)).trans j5
          have ik : h4 rk = _ := (hf4 rk (by omega)).trans jk
          have i12 : h4 12 = _ := (hf4 12 (by omega)).trans j12
          clear hf4
          repeat' (first | (apply brI <;> intro hb hb2 <;> (try simp [-Int.not_le, -Int.not_lt, -Nat.not_le, -Nat.not_lt, -Nat.add_left_cancel_iff] at hb2)) | (refine draw_listA (by rfl) (by kernel_rfl) ?_) | (refine draw_listB (by simp [allocsOf, isAlloc]; rfl) (by kernel_rfl) ?_) | simp (maxSteps := 2000000) (disch := first | omega | assumption | simp [*]) [*, -Int.not_le, -Int.not_lt, -Nat.not_le, -Nat.not_lt, -Nat.add_left_cancel_iff, wrap_i64, wrap_u64, i2, i5, i12])
          refine cf_open rfl rfl (l1Below_o hB hl hc4 fun x h5 hx _ _ hc5 hf5 => ?_)
          have k2 : h5 2 = _ := (hf5 2 (by omega)).trans i2
          have k5 : h5 5 = _ := (hf5 5 (by omega)).trans i5
          have kk : h5 rk = _ := (hf5 rk (by omega)).trans ik
          have k12 : h5 12 = _ := (hf5 12 (by omega)).trans i12
          clear hf5
          repeat' (first | (apply brI <;> intro hb hb2 <;> (try simp [-Int.not_le, -Int.not_lt, -Nat.not_le, -Nat.not_lt, -Nat.add_left_cancel_iff] at hb2)) | (refine draw_listA (by rfl) (by kernel_rfl) ?_) | (refine draw_listB (by simp [allocsOf, isAlloc]; rfl) (by kernel_rfl) ?_) | simp (maxSteps := 2000000) (disch := first | omega | assumption | simp [*]) [*, -Int.not_le, -Int.not_lt, -Nat.not_le, -Nat.not_lt, -Nat.add_left_cancel_iff, wrap_i64, wrap_u64, k2, k5, k12])
          refine wa_ms rfl rfl rfl k12 (by omega) (by omega) hgp (by omega) ⟨_, _, rfl⟩ ?_
          repeat' (first | (apply brI <;> intro hb hb2 <;> (try simp [-Int.not_le, -Int.not_lt, -Nat.not_le, -Nat.not_lt, -Nat.add_left_cancel_iff] at hb2)) | simp (maxSteps := 2000000) (disch := first | omega | assumption | simp [*]) [*, -Int.not_le, -Int.not_lt, -Nat.not_le, -Nat.not_lt, -Nat.add_left_cancel_iff, wrap_i64, wrap_u64, k2, k5, k12])
          exact hC _ _ (es.tail.take (es.length - 1) ++ [pr z x]) (by rw [hset_other _ _ (by omega), hset_other _ _ (by omega)]; exact kk) (by rw [bufLC_pos _ _ (by simp)]; simp [noEx, pr]) ((prs_tl hgp _).snoc _ _) (by simp; omega)
        | false =>
          repeat' (first | (apply brI <;> intro hb hb2 <;> (try simp [-Int.not_le, -Int.not_lt, -Nat.not_le, -Nat.not_lt, -Nat.add_left_cancel_iff] at hb2)) | simp (maxSteps := 2000000) (disch := first | omega | assumption | simp [*]) [*, -Int.not_le, -Int.not_lt, -Nat.not_le, -Nat.not_lt, -Nat.add_left_cancel_iff, wrap_i64, wrap_u64, j2, j5, j12])
          exact hC _ _ ((es.drop 1).take (es.length - 1)) (by rw [hset_other _ _ (by omega)]; exact jk) (by rw [expo_ms (g := 0) (T := 101) (k := 2) (es := es) (by simp [hset, j12]) (by omega) hgp, bufLC_pos _ _ (by simp; omega)]) (prs_cut hgp _ _) (by simp; omega)
      | false =>
        repeat' (first | (apply brI <;> intro hb hb2 <;> (try simp [-Int.not_le, -Int.not_lt, -Nat.not_le, -Nat.not_lt, -Nat.add_left_cancel_iff] at hb2)) | (refine draw_listA (by rfl) (by kernel_rfl) ?_) | (refine draw_listB (by simp [allocsOf, isAlloc]; rfl) (by kernel_rfl) ?_) | simp (maxSteps := 2000000) (disch := first | omega | assumption | simp [*]) [*, -Int.not_le, -Int.not_lt, -Nat.not_le, -Nat.not_lt, -Nat.add_left_cancel_iff, wrap_i64, wrap_u64])
        refine cf_open rfl rfl (l1Once_o hB hl hc2 fun c3 h3 hc3 hf3 => ?_)
        have j2 : h3 2 = _ := (hf3 2 (by omega)).trans g2
        have j5 : h3 5 = _ := (hf3 5 (by omega)).trans g5
        have jk : h3 rk = h1 rk := (hf3 rk (by omega)).trans gk
        have j12 : h3 12 = _ := (hf3 12 (by omega)).trans g12
        clear hf3
        cases c3 with
        | true =>
          repeat' (first | (apply brI <;> intro hb hb2 <;> (try simp [-Int.not_le, -Int.not_lt, -Nat.not_le, -Nat.not_lt, -Nat.add_left_cancel_iff] at hb2)) | (refine draw_listA (by rfl) (by kernel_rfl) ?_) | (refine draw_listB (by simp [allocsOf, isAlloc]; rfl) (by kernel_rfl) ?_) | simp (maxSteps := 2000000) (disch := first | omega | assumption | simp [*]) [*, -Int.not_le, -Int.not_lt, -Nat.not_le, -Nat.not_lt, -Nat.add_left_cancel_iff, wrap_i64, wrap_u64, j2, j5, j12])
          refine cf_open rfl rfl (l2Bent_o hB hl hc3 fun z h4 hc4 hf4 => ?_)
          have i2 : h4 2 = _ := (hf4 2 (by omega)).trans j2
          have i5 : h4 5 = _ := (hf4 5 (by omega)).trans j5
          have ik : h4 rk = _ := (hf4 rk (by omega)).trans jk
          have i12 : h4 12 = _ := (hf4 12 (by omega)).trans j12
          clear hf4
          repeat' (first | (apply brI <;> intro hb hb2 <;> (try simp [-Int.not_le, -Int.not_lt, -Nat.not_le, -Nat.not_lt, -Nat.add_left_cancel_iff] at hb2)) | (refine draw_listA (by rfl) (by kernel_rfl) ?_) | (refine draw_listB (by simp [allocsOf, isAlloc]; rfl) (by kernel_rfl) ?_) | simp (maxSteps := 2000000) (disch := first | omega | assumption | simp [*]) [*, -Int.not_le, -Int.not_lt, -Nat.not_le, -Nat.not_lt, -Nat.add_left_cancel_iff, wrap_i64, wrap_u64, i2, i5, i12])
          refine cf_open rfl rfl (l1Below_o hB hl hc4 fun x h5 hx _ _ hc5 hf5 => ?_)
          have k2 : h5 2 = _ := (hf5 2 (by omega)).trans i2
          have k5 : h5 5 = _ := (hf5 5 (by omega)).trans i5
          have kk : h5 rk = _ := (hf5 rk (by omega)).trans ik
          have k12 : h5 12 = _ := (hf5 12 (by omega)).trans i12
          clear hf5
          repeat' (first | (apply brI <;> intro hb hb2 <;> (try simp [-Int.not_le, -Int.not_lt, -Nat.not_le, -Nat.not_lt, -Nat.add_left_cancel_iff] at hb2)) | (refine draw_listA (by rfl) (by kernel_rfl) ?_) | (refine draw_listB (by simp [allocsOf, isAlloc]; rfl) (by kernel_rfl) ?_) | simp (maxSteps := 2000000) (disch := first | omega | assumption | simp [*]) [*, -Int.not_le, -Int.not_lt, -Nat.not_le, -Nat.not_lt, -Nat.add_left_cancel_iff, wrap_i64, wrap_u64, k2, k5, k12])
          refine wa_ms rfl rfl rfl k12 (by omega) (by omega) hgp (by omega) ⟨_, _, rfl⟩ ?_
          repeat' (first | (apply brI <;> intro hb hb2 <;> (try simp [-Int.not_le, -Int.not_lt, -Nat.not_le, -Nat.not_lt, -Nat.add_left_cancel_iff] at hb2)) | simp (maxSteps := 2000000) (disch := first | omega | assumption | simp [*]) [*, -Int.not_le, -Int.not_lt, -Nat.not_le, -Nat.not_lt, -Nat.add_left_cancel_iff, wrap_i64, wrap_u64, k2, k5, k12])
          exact hC _ _ (es ++ [pr z x]) (by rw [hset_other _ _ (by omega), hset_other _ _ (by omega)]; exact kk) (by rw [bufLC_pos _ _ (by simp)]; simp [noEx, pr]) (hgp.snoc _ _) (by simp; omega)
        | false =>
          repeat' (first | (apply brI <;> intro hb hb2 <;> (try simp [-Int.not_le, -Int.not_lt, -Nat.not_le, -Nat.not_lt, -Nat.add_left_cancel_iff] at hb2)) | simp (maxSteps := 2000000) (disch := first | omega | assumption | simp [*]) [*, -Int.not_le, -Int.not_lt, -Nat.not_le, -Nat.not_lt, -Nat.add_left_cancel_iff, wrap_i64, wrap_u64, j2, j5, j12])
          exact hC _ _ ((es.drop 0).take (es.length)) (by rw [hset_other _ _ (by omega)]; exact jk) (by rw [expo_ms (g := 0) (T := 101) (k := 2) (es := es) (by simp [hset, j12]) (by omega) hgp, bufLC_pos _ _ (by simp; omega)]) (prs_cut hgp _ _) (by simp; omega)
    · refine cf_open rfl rfl (l1Once_o hB hl ((hc1.keep (hset_other _ _ (by omega))).keep (hset_other _ _ (by omega))) fun c3 h3 hc3 hf3 => ?_)
      have j2 : h3 2 = _ := (hf3 2 (by omega)).trans q2
      have j5 : h3 5 = _ := (hf3 5 (by omega)).trans q5
      have jk : h3 rk = h1 rk := (hf3 rk (by omega)).trans qk
      have j12 : h3 12 = _ := (hf3 12 (by omega)).trans q12
      clear hf3
      cases c3 with
      | true =>
        repeat' (first | (apply brI <;> intro hb hb2 <;> (try simp [-Int.not_le, -Int.not_lt, -Nat.not_le, -Nat.not_lt, -Nat.add_left_cancel_iff] at hb2)) | (refine draw_listA (by rfl) (by kernel_rfl) ?_) | (refine draw_listB (by simp [allocsOf, isAlloc]; rfl) (by kernel_rfl) ?_) | simp (maxSteps := 2000000) (disch := first | omega | assumption | simp [*]) [*, -Int.not_le, -Int.not_lt, -Nat.not_le, -Nat.not_lt, -Nat.add_left_cancel_iff, wrap_i64, wrap_u64, j2, j5, j12])
        refine cf_open rfl rfl (l2Bent_o hB hl hc3 fun z h4 hc4 hf4 => ?_)
        have i2 : h4 2 = _ := (hf4 2 (by omega)).trans j2
        have i5 : h4 5 = _ := (hf4 5 (by omega)).trans j5
        have ik : h4 rk = _ := (hf4 rk (by omega)).trans jk
        have i12 : h4 12 = _ := (hf4 12 (by omega)).trans j12
        clear hf4
        repeat' (first | (apply brI <;> intro hb hb2 <;> (try simp [-Int.not_le, -Int.not_lt, -Nat.not_le, -Nat.not_lt, -Nat.add_left_cancel_iff] at hb2)) | (refine draw_listA (by rfl) (by kernel_rfl) ?_) | (refine draw_listB (by simp [allocsOf, isAlloc]; rfl) (by kernel_rfl) ?_) | simp (maxSteps := 2000000) (disch := first | omega | assumption | simp [*]) [*, -Int.not_le, -Int.not_lt, -Nat.not_le, -Nat.not_lt, -Nat.add_left_cancel_iff, wrap_i64, wrap_u64, i2, i5, i12])
        refine cf_open rfl rfl (l1Below_o hB hl hc4 fun x h5 hx _ _ hc5 hf5 => ?_)
        have k2 : h5 2 = _ := (hf5 2 (by omega)).trans i2
        have k5 : h5 5 = _ := (hf5 5 (by omega)).trans i5
        have kk : h5 rk = _ := (hf5 rk (by omega)).trans ik
        have k12 : h5 12 = _ := (hf5 12 (by omega)).trans i12
        clear hf5
        repeat' (first | (apply brI <;> intro hb hb2 <;> (try simp [-Int.not_le, -Int.not_lt, -Nat.not_le, -Nat.not_lt, -Nat.add_left_cancel_iff] at hb2)) | (refine draw_listA (by rfl) (by kernel_rfl) ?_) | (refine draw_listB (by simp [allocsOf, isAlloc]; rfl) (by kernel_rfl) ?_) | simp (maxSteps := 2000000) (disch := first | omega | assumption | simp [*]) [*, -Int.not_le, -Int.not_lt, -Nat.not_le, -Nat.not_lt, -Nat.add_left_cancel_iff, wrap_i64, wrap_u64, k2, k5, k12])
        refine wa_ms rfl rfl rfl k12 (by omega) (by omega) hgp (by omega) ⟨_, _, rfl⟩ ?_
        repeat' (first | (apply brI <;> intro hb hb2 <;> (try simp [-Int.not_le, -Int.not_lt, -Nat.not_le, -Nat.not_lt, -Nat.add_left_cancel_iff] at hb2)) | simp (maxSteps := 2000000) (disch := first | omega | assumption | simp [*]) [*, -Int.not_le, -Int.not_lt, -Nat.not_le, -Nat.not_lt, -Nat.add_left_cancel_iff, wrap_i64, wrap_u64, k2, k5, k12])
        exact hC _ _ (es ++ [pr z x]) (by rw [hset_other _ _ (by omega), hset_other _ _ (by omega)]; exact kk) (by rw [bufLC_pos _ _ (by simp)]; simp [noEx, pr]) (hgp.snoc _ _) (by simp; omega)
      | false =>
        repeat' (first | (apply brI <;> intro hb hb2 <;> (try simp [-Int.not_le, -Int.not_lt, -Nat.not_le, -Nat.not_lt, -Nat.add_left_cancel_iff] at hb2)) | simp (maxSteps := 2000000) (disch := first | omega | assumption | simp [*]) [*, -Int.not_le, -Int.not_lt, -Nat.not_le, -Nat.not_lt, -Nat.add_left_cancel_iff, wrap_i64, wrap_u64, j2, j5, j12])
        exact hC _ _ ((es.drop 0).take (es.length)) (by rw [hset_other _ _ (by omega)]; exact jk) (by rw [expo_ms (g := 0) (T := 101) (k := 2) (es := es) (by simp [hset, j12]) (by omega) hgp, bufLC_pos _ _ (by simp; omega)]) (prs_cut hgp _ _) (by simp; omega)
def DrQ (r : AV) : Prop := ∃ (a b : Int) (es : List AV), noEx r = .tup [.int .i64 a, .int .i64 b, bufLC 2 2 es] ∧ Prs es ∧ es.length ≤ 66
theorem Prs.isC {es : List AV} (h : Prs es) (hl : es.length ≤ 66) : low0 (bufLC 2 2 es) = bufLC 2 2 es ∧ (bufLC 2 2 es).one = true ∧ (bufLC 2 2 es).cells = [bufLC 2 2 es] ∧ brwOf (bufLC 2 2 es) = false ∧ (∀ h, expo h (bufLC 2 2 es) = bufLC 2 2 es) ∧ noEx (bufLC 2 2 es) = bufLC 2 2 es ∧ (∀ E t, slT E t = true → lenV E t (bufLC 2 2 es) = some (.int .i64 es.length)) := by
  unfold bufLC
  split
  · rename_i h9
    exact ⟨rfl, rfl, rfl, rfl, fun _ => rfl, rfl, fun E t ht => by rw [← bufLC_len (k0 := 2) (sz := 2) ht, bufLC, if_pos h9]⟩
  · rename_i h9
    exact ⟨by simp [low0, (prs_low h).1], rfl, rfl, rfl, fun _ => rfl, rfl, fun E t ht => by rw [← bufLC_len (k0 := 2) (sz := 2) ht, bufLC, if_neg h9]⟩
theorem drawIsCover_t {b : AV} (hB : IsB b) (hbr : brwOf b = false) (hl : bLen b ≤ 1073741824) : CallsTo env 76 [b] (fun r => C20 r) := by
  refine callsTo_mk (F := Tryz.f76) rfl rfl (Nat.le_of_ble_eq_true rfl) ?_
  repeat' (first | (apply brI <;> intro hb hb2 <;> (try simp [-Int.not_le, -Int.not_lt, -Nat.not_le, -Nat.not_lt, -Nat.add_left_cancel_iff] at hb2)) | (refine draw_listA (by rfl) (by kernel_rfl) ?_) | (refine draw_listB (by simp [allocsOf, isAlloc]; rfl) (by kernel_rfl) ?_) | simp (maxSteps := 2000000) (disch := first | omega | assumption | simp [*]) [*, -Int.not_le, -Int.not_lt, -Nat.not_le, -Nat.not_lt, -Nat.add_left_cancel_iff, wrap_i64, wrap_u64, Tryz.f76, isB_low hB])
  refine cw_to (l20Case_t hB hbr hl) ?_
  rintro r ⟨n, rows, es, hr, hlr, hp, hle⟩
  obtain ⟨q1, q2, q3, q4, q5, q6, _⟩ := hp.isC hle
  repeat' (first | (apply brI <;> intro hb hb2 <;> (try simp [-Int.not_le, -Int.not_lt, -Nat.not_le, -Nat.not_lt, -Nat.add_left_cancel_iff] at hb2)) | (refine draw_listA (by rfl) (by kernel_rfl) ?_) | (refine draw_listB (by simp [allocsOf, isAlloc]; rfl) (by kernel_rfl) ?_) | simp (maxSteps := 2000000) (disch := first | omega | assumption | simp [*]) [*, -Int.not_le, -Int.not_lt, -Nat.not_le, -Nat.not_lt, -Nat.add_left_cancel_iff, wrap_i64, wrap_u64, hr])
  exact ⟨n, rows, es, by simp [noEx, noExs, q6], hlr, hp, hle⟩
theorem drawProductOf_t {b : AV} (hB : IsB b) (hbr : brwOf b = false) (hl : bLen b ≤ 1073741824) : CallsTo env 73 [b] (fun r => DrQ r) := by
  refine callsTo_mk (F := Tryz.f73) rfl rfl (Nat.le_of_ble_eq_true rfl) ?_
  have hcb := isB_cells hB
  have hob := isB_one hB
  repeat' (first | (apply brI <;> intro hb hb2 <;> (try simp [-Int.not_le, -Int.not_lt, -Nat.not_le, -Nat.not_lt, -Nat.add_left_cancel_iff] at hb2)) | (refine draw_listA (by rfl) (by kernel_rfl) ?_) | (refine draw_listB (by simp [allocsOf, isAlloc]; rfl) (by kernel_rfl) ?_) | simp (maxSteps := 2000000) (disch := first | omega | assumption | simp [*]) [*, -Int.not_le, -Int.not_lt, -Nat.not_le, -Nat.not_lt, -Nat.add_left_cancel_iff, wrap_i64, wrap_u64, Tryz.f73, isB_low hB])
  refine cw_to (l20Case_t hB hbr hl) ?_
  rintro r ⟨n, rows, es, hr, hlr, hp, hle⟩
  obtain ⟨q1, q2, q3, q4, q5, q6, _⟩ := hp.isC hle
  have o0 := isI_bufC (k0 := 0) (xs := rows) (by unfold top63; omega)
  have o1 := isI_one o0
  have o2 := isI_cells o0
  have o3 := isI_low o0
  have o4 : ∀ E t, slT E t = true → lenV E t (bufC 0 rows) = some (.int .i64 rows.length) := fun E t ht => by simpa using isI_len o0 (E := E) (t := t) ht
  repeat' (first | (apply brI <;> intro hb hb2 <;> (try simp [-Int.not_le, -Int.not_lt, -Nat.not_le, -Nat.not_lt, -Nat.add_left_cancel_iff] at hb2)) | (refine draw_listA (by rfl) (by kernel_rfl) ?_) | (refine draw_listB (by simp [allocsOf, isAlloc]; rfl) (by kernel_rfl) ?_) | simp (maxSteps := 2000000) (disch := first | omega | assumption | simp [*]) [*, -Int.not_le, -Int.not_lt, -Nat.not_le, -Nat.not_lt, -Nat.add_left_cancel_iff, wrap_i64, wrap_u64, hr, isB_low hB])
  refine cf_xp (by simpa [isB_low hB] using l1New_t hB hbr hl) rfl ?_
  rintro r2 ⟨hh, rfl⟩
  refine ⟨_, _, _, rfl, ?_⟩
  repeat' (first | (apply brI <;> intro hb hb2 <;> (try simp [-Int.not_le, -Int.not_lt, -Nat.not_le, -Nat.not_lt, -Nat.add_left_cancel_iff] at hb2)) | (refine draw_listA (by rfl) (by kernel_rfl) ?_) | (refine draw_listB (by simp [allocsOf, isAlloc]; rfl) (by kernel_rfl) ?_) | simp (maxSteps := 2000000) (disch := first | omega | assumption | simp [*]) [*, -Int.not_le, -Int.not_lt, -Nat.not_le, -Nat.not_lt, -Nat.add_left_cancel_iff, wrap_i64, wrap_u64])
  refine cf_open rfl rfl (l1Once_o hB hl (g := 0) ⟨0, hh, by omega, by omega, by simp [hset, hnil]⟩ fun c1 h1 hc1 hf1 => ?_)
  have f5 : h1 5 = some (.var 0 26 (.agg [.int .i64 n, bufC 0 rows])) := by rw [hf1 5 (by omega)]; simp [hset]
  clear hf1
  cases c1 with
  | true =>
    repeat' (first | (apply brI <;> intro hb hb2 <;> (try simp [-Int.not_le, -Int.not_lt, -Nat.not_le, -Nat.not_lt, -Nat.add_left_cancel_iff] at hb2)) | simp (maxSteps := 2000000) (disch := first | omega | assumption | simp [*]) [*, -Int.not_le, -Int.not_lt, -Nat.not_le, -Nat.not_lt, -Nat.add_left_cancel_iff, wrap_i64, wrap_u64, f5])
    refine draw_listK [20, 5] [0, 2, 0, 0, 1, 0, 0, 0, 0] (by kernel_rfl) (by kernel_rfl) (by kernel_rfl) (by kernel_rfl) ?_
    repeat' (first | (apply brI <;> intro hb hb2 <;> (try simp [-Int.not_le, -Int.not_lt, -Nat.not_le, -Nat.not_lt, -Nat.add_left_cancel_iff] at hb2)) | simp (maxSteps := 2000000) (disch := first | omega | assumption | simp [*]) [*, -Int.not_le, -Int.not_lt, -Nat.not_le, -Nat.not_lt, -Nat.add_left_cancel_iff, wrap_i64, wrap_u64, f5])
    refine cf_open rfl rfl (l1Below_o hB hl hc1 fun x h2 hx _ _ hc2 hf2 => ?_)
    have g5 : h2 5 = _ := (hf2 5 (by omega)).trans f5
    refine ⟨fun y hy => by simp only [List.mem_cons, List.not_mem_nil, or_false] at hy; exact hf2 _ (by omega), ?_⟩
    clear hf2
    repeat' (first | (apply brI <;> intro hb hb2 <;> (try simp [-Int.not_le, -Int.not_lt, -Nat.not_le, -Nat.not_lt, -Nat.add_left_cancel_iff] at hb2)) | simp (maxSteps := 2000000) (disch := first | omega | assumption | simp [*]) [*, -Int.not_le, -Int.not_lt, -Nat.not_le, -Nat.not_lt, -Nat.add_left_cancel_iff, wrap_i64, wrap_u64, g5])
    exact ⟨x - 1, n, es, by simp [noEx, noExs, q6], hp, hle⟩
  | false =>
    repeat' (first | (apply brI <;> intro hb hb2 <;> (try simp [-Int.not_le, -Int.not_lt, -Nat.not_le, -Nat.not_lt, -Nat.add_left_cancel_iff] at hb2)) | (refine draw_listA (by rfl) (by kernel_rfl) ?_) | (refine draw_listB (by simp [allocsOf, isAlloc]; rfl) (by kernel_rfl) ?_) | simp (maxSteps := 2000000) (disch := first | omega | assumption | simp [*]) [*, -Int.not_le, -Int.not_lt, -Nat.not_le, -Nat.not_lt, -Nat.add_left_cancel_iff, wrap_i64, wrap_u64, f5])
    exact ⟨rows.length, n, es, by simp [noEx, noExs, q6], hp, hle⟩
end Go.Proofs.YtliecnadoklgoaaGreatDoor
