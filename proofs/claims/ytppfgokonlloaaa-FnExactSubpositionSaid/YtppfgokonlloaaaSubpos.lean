/- Contexts above each other: the reference's and the program's. Conditions: none. -/
import Derived.Test.YtppfgokonlloaaaSum2
import Derived.Test.YtppfgokonlloaaaCalls
namespace Go.Proofs.Ytppfgokonlloaaa
open Ev
set_option linter.unusedVariables false
set_option linter.unusedSimpArgs false
set_option maxHeartbeats 4000000

theorem cf_grow {E : Env} {fid d g : Nat} {args : List AV} {s : Nat → AV} {h : Heap} {off nt : Nat} {K : AV → Heap → Prop} {tg : Tg ((⟨s, h, off, nt⟩ : St), K)} {r : AV} {F : List AV → Option AV} (he : E.ext g = some F) (hw : E.own g = true) (hr : F (lows h args) = some r) (hK : Is (mat2 (off + d) h r) K) (hdp : E.deep g = false := by rfl) : CF E fid (some d) g args ⟨s, h, off, nt⟩ K tg := by
  unfold CF
  rw [WF_own (r := r) (by simp only [extV, he, Option.bind_some, hr]) hw hdp]
  exact hK
/-- a row with room for n that grows, or nothing where n is none -/
def GB (h : Heap) (T key : Nat) (v : AV) (n : Nat) (xs : List Int) : Prop := (n = 0 ∧ xs = [] ∧ v = .sl 0 .lit []) ∨ (0 < n ∧ ∃ g, v = .sl 1 (.tok key g) (ints xs) ∧ h key = some (.tok g T 1 xs.length))
theorem gb_app {E : Env} {h : Heap} {ko key t n : Nat} {v u : AV} {xs : List Int} {K : AV → Heap → Prop} (hB : GB h (elT E t) key v n xs) (ht : slT E t = true) (hs : E.size (elT E t) = 1) (hu : IsI u) (hn : n = 0 → xsOf u = []) (hl : xs.length + (xsOf u).length ≤ 1073741824)
    (hK : ∀ v' h', GB h' (elT E t) key v' n (xs ++ xsOf u) → K v' h') : WA E h ko t v u K ⟨⟩ := by
  obtain ⟨k, o, es, rfl, hk, hos⟩ := hu.l.ok
  have hes : es = ints (xsOf (.sl k o es)) := by have := hu.ints; simpa using this
  obtain ⟨ys, hys⟩ : ∃ ys, xsOf (.sl k o es) = ys := ⟨_, rfl⟩
  rw [hys] at hes hn hl hK
  unfold WA
  by_cases hy : ys = []
  · subst hy
    have he0 : es = [] := by simpa using hes
    subst he0
    refine ⟨v, h, ?_, hK _ _ (by rw [List.append_nil]; exact hB)⟩
    have hne : ¬ E.size (elT E t) = 0 := by omega
    rcases hB with ⟨_, _, rfl⟩ | ⟨_, g, rfl, _⟩
    · simp only [appendV, slT_ty ht, elemsOf_st (h := h) (k := k) (o := o) (ys := []) rfl]
      rw [if_neg hne, if_pos (by rfl)]
    · simp only [appendV, slT_ty ht, elemsOf_st (h := h) (k := k) (o := o) (ys := []) rfl]
      rw [if_neg hne, if_pos (by rfl)]
  · have hn0 : n ≠ 0 := fun e => hy (hn e)
    rcases hB with ⟨h0, _, _⟩ | ⟨h0, g, rfl, hg⟩
    · exact (hn0 h0).elim
    · have hk1 : k = 1 := by
        rcases hk with h9 | h9
        · exact (hy (by rw [h9] at hes; simpa using hes.symm)).elim
        · exact h9
      subst hk1
      have hall : ((ints ys).all fun y => y.cells.length == 1 && y.cells.all AV.one) = true := by
        rw [List.all_eq_true]
        intro a ha
        obtain ⟨z, _, rfl⟩ := List.mem_map.1 ha
        rfl
      refine ⟨.sl 1 (.tok key g) (ints xs ++ ints ys), hset h key (.tok g (elT E t) 1 ((ints xs).length + (ints ys).length)), ?_, hK _ _ (.inr ⟨h0, g, by simp [ints], by simp [hset]⟩)⟩
      subst hes
      simp only [appendV, slT_ty ht, elemsOf_st (stabs_ints _), hs]
      rw [if_neg (by decide), if_neg (by simpa using hy), if_pos ⟨.inr (by trivial), by trivial, by simp [maxRow]; omega, hall⟩]
      simp [hg]
theorem cf_grow2 {E : Env} {fid d g k n : Nat} {args : List AV} {s : Nat → AV} {h : Heap} {off nt : Nat} {K : AV → Heap → Prop} {tg : Tg ((⟨s, h, off, nt⟩ : St), K)} (he : E.ext g = some growF) (hw : E.own g = true) (ha : lows h args = [.sl k .lit [], .int .i64 n]) (hn : n ≤ 1048576)
    (hK : ∀ v h', GB h' 3 (off + d) v n [] → K v h') (hdp : E.deep g = false := by rfl) : CF E fid (some d) g args ⟨s, h, off, nt⟩ K tg := by
  by_cases h0 : n = 0
  · subst h0
    refine cf_grow (r := .sl 0 .lit []) he hw (by rw [ha]; rfl) ⟨_, _, rfl, hK _ _ (.inl ⟨rfl, rfl, rfl⟩)⟩ hdp
  · refine cf_grow (r := .sl 1 (.ex 3 0) []) he hw ?_ ⟨_, _, rfl, hK _ _ (.inr ⟨by omega, _, rfl, by simp [hset]⟩)⟩ hdp
    rw [ha]
    simp only [growF]
    rw [if_neg (by omega), if_pos ⟨by omega, by omega⟩]
theorem gb_expo {h : Heap} {T key n : Nat} {v : AV} {xs : List Int} (hB : GB h T key v n xs) (hn : n = xs.length) : expo h v = bufR T key 0 xs := by
  rcases hB with ⟨_, rfl, rfl⟩ | ⟨h0, g, rfl, hg⟩
  · simp [bufR, expo]
  · have hx : xs ≠ [] := fun e => by rw [e] at hn; simp at hn; omega
    simp [expo, hg, bufR, hx, ints]
theorem concatI_c {u w : AV} {o : Own} (ho : o = .lit ∨ o = .brw) (hu : IsI u) (hw : IsI w) (hl : (xsOf u).length + (xsOf w).length ≤ 1048576) : EvC env 32 [.sl 1 o [u, w]] (bufR 3 24 0 (xsOf u ++ xsOf w)) := by
  refine evC_of (F := Try.f32) rfl rfl (Nat.le_of_ble_eq_true rfl) ?_
  have ou := isI_one hu
  have hlo : ∀ h, low h (.sl 1 o [u, w]) = .sl 1 o [u, w] := fun h => by rcases ho with rfl | rfl <;> simp [low]
  have cu := isI_cells hu
  have ow := isI_one hw
  have cw := isI_cells hw
  obtain ⟨cnt, hcnt⟩ : ∃ cnt : Nat → Nat, cnt = fun i => if i = 0 then 0 else if i = 1 then (xsOf u).length else (xsOf u).length + (xsOf w).length := ⟨_, rfl⟩
  have n0 : cnt 0 = 0 := by rw [hcnt]; rfl
  have n1 : cnt 1 = (xsOf u).length := by rw [hcnt]; rfl
  have n2 : cnt 2 = (xsOf u).length + (xsOf w).length := by rw [hcnt]; rfl
  clear hcnt
  have z0 : ¬ (((xsOf u).length : Int) < 0) := by omega
  have z1 : ¬ (((xsOf u).length : Int) + ((xsOf w).length : Int) < 0) := by omega
  have x0 : ∀ h, indexA env h 33 (.sl 1 o [u, w]) (.int .i64 0) = some (.cp (o == .brw) [u] 0) := fun h => by simp [indexA, cu]
  have x1 : ∀ h, indexA env h 33 (.sl 1 o [u, w]) (.int .i64 1) = some (.cp (o == .brw) [w] 0) := fun h => by simp [indexA, cw]
  have y0 : ∀ h, loadV env h 22 (.cp (o == .brw) [u] 0) = some u := fun h => by simp [loadV, partOf, TD.agg?]
  have y1 : ∀ h, loadV env h 22 (.cp (o == .brw) [w] 0) = some w := fun h => by simp [loadV, partOf, TD.agg?]
  repeat' (first | (apply brI <;> intro hb hb2 <;> (try simp [-Int.not_le, -Int.not_lt, -Nat.not_le, -Nat.not_lt, -Nat.add_left_cancel_iff] at hb2)) | (refine draw_listA (by rfl) (by kernel_rfl) ?_) | (refine draw_listB (by simp [allocsOf, isAlloc]; rfl) (by kernel_rfl) ?_) | simp (maxSteps := 2000000) (disch := first | omega | assumption | simp [*]) [*, -Int.not_le, -Int.not_lt, -Nat.not_le, -Nat.not_lt, -Nat.add_left_cancel_iff, wrap_i64, wrap_u64, Try.f32, isI_len hu, isI_low hu, isI_len hw, isI_low hw])
  refine W_loopG 2 (fun i s h => h = hnil ∧ s 11 = .int .i64 i ∧ s 10 = .int .i64 2 ∧ s 9 = .sl 1 o [u, w] ∧ s 0 = .sl 1 o [u, w] ∧ s 3 = .int .i64 (cnt i)) ?_ ?_
  · simp [n0]
  rintro i s h hi ⟨rfl, h11, h10, h9, h0, h3⟩
  rcases (show i = 0 ∨ i = 1 ∨ i = 2 by omega) with rfl | rfl | rfl
  · rw [n0] at h3
    repeat' (first | (apply brI <;> intro hb hb2 <;> (try simp [-Int.not_le, -Int.not_lt, -Nat.not_le, -Nat.not_lt, -Nat.add_left_cancel_iff] at hb2)) | (refine draw_listA (by rfl) (by kernel_rfl) ?_) | (refine draw_listB (by simp [allocsOf, isAlloc]; rfl) (by kernel_rfl) ?_) | simp (maxSteps := 2000000) (disch := first | omega | assumption | simp [*]) [*, -Int.not_le, -Int.not_lt, -Nat.not_le, -Nat.not_lt, -Nat.add_left_cancel_iff, wrap_i64, wrap_u64, h11, h10, h9, h0, h3, n0, n1, n2, x0, y0, isI_len hu])
  · rw [n1] at h3
    repeat' (first | (apply brI <;> intro hb hb2 <;> (try simp [-Int.not_le, -Int.not_lt, -Nat.not_le, -Nat.not_lt, -Nat.add_left_cancel_iff] at hb2)) | (refine draw_listA (by rfl) (by kernel_rfl) ?_) | (refine draw_listB (by simp [allocsOf, isAlloc]; rfl) (by kernel_rfl) ?_) | simp (maxSteps := 2000000) (disch := first | omega | assumption | simp [*]) [*, -Int.not_le, -Int.not_lt, -Nat.not_le, -Nat.not_lt, -Nat.add_left_cancel_iff, wrap_i64, wrap_u64, h11, h10, h9, h0, h3, n0, n1, n2, x1, y1, isI_len hw])
  · rw [n2] at h3
    repeat' (first | (apply brI <;> intro hb hb2 <;> (try simp [-Int.not_le, -Int.not_lt, -Nat.not_le, -Nat.not_lt, -Nat.add_left_cancel_iff] at hb2)) | (refine draw_listA (by rfl) (by kernel_rfl) ?_) | (refine draw_listB (by simp [allocsOf, isAlloc]; rfl) (by kernel_rfl) ?_) | simp (maxSteps := 2000000) (disch := first | omega | assumption | simp [*]) [*, -Int.not_le, -Int.not_lt, -Nat.not_le, -Nat.not_lt, -Nat.add_left_cancel_iff, wrap_i64, wrap_u64, h11, h10, h9, h0, h3])
    obtain ⟨n, hn⟩ : ∃ n : Nat, (xsOf u).length + (xsOf w).length = n := ⟨_, rfl⟩
    have hnI : ((xsOf u).length : Int) + ((xsOf w).length : Int) = n := by omega
    rw [hnI]
    refine cf_grow2 (k := 0) (n := n) rfl rfl (by simp) (by omega) fun v h' hB => ?_
    repeat' (first | (apply brI <;> intro hb hb2 <;> (try simp [-Int.not_le, -Int.not_lt, -Nat.not_le, -Nat.not_lt, -Nat.add_left_cancel_iff] at hb2)) | (refine draw_listA (by rfl) (by kernel_rfl) ?_) | (refine draw_listB (by simp [allocsOf, isAlloc]; rfl) (by kernel_rfl) ?_) | simp (maxSteps := 2000000) (disch := first | omega | assumption | simp [*]) [*, -Int.not_le, -Int.not_lt, -Nat.not_le, -Nat.not_lt, -Nat.add_left_cancel_iff, wrap_i64, wrap_u64, h0])
    obtain ⟨pre, hpre⟩ : ∃ pre : Nat → List Int, pre = fun i => if i = 0 then [] else if i = 1 then xsOf u else xsOf u ++ xsOf w := ⟨_, rfl⟩
    have p0 : pre 0 = [] := by rw [hpre]; rfl
    have p1 : pre 1 = xsOf u := by rw [hpre]; rfl
    have p2 : pre 2 = xsOf u ++ xsOf w := by rw [hpre]; rfl
    clear hpre
    refine W_loopG 2 (fun i s h => GB h 3 24 (s 6) n (pre i) ∧ s 27 = .int .i64 i ∧ s 26 = .int .i64 2 ∧ s 25 = .sl 1 o [u, w]) ?_ ?_
    · rw [p0]
      refine ⟨by simpa using hB, ?_⟩
      simp [*]
    clear hB
    rintro i s2 h2 hi2 ⟨hB, g27, g26, g25⟩
    rcases (show i = 0 ∨ i = 1 ∨ i = 2 by omega) with rfl | rfl | rfl
    · rw [p0] at hB
      repeat' (first | (apply brI <;> intro hb hb2 <;> (try simp [-Int.not_le, -Int.not_lt, -Nat.not_le, -Nat.not_lt, -Nat.add_left_cancel_iff] at hb2)) | (refine draw_listA (by rfl) (by kernel_rfl) ?_) | (refine draw_listB (by simp [allocsOf, isAlloc]; rfl) (by kernel_rfl) ?_) | simp (maxSteps := 2000000) (disch := first | omega | assumption | simp [*]) [*, -Int.not_le, -Int.not_lt, -Nat.not_le, -Nat.not_lt, -Nat.add_left_cancel_iff, wrap_i64, wrap_u64, g27, g26, g25, x0, y0])
      refine gb_app hB (by simp) (by simp) hu (fun e => List.eq_nil_of_length_eq_zero (by omega)) (by simp; omega) fun v3 h3 hB3 => ?_
      rw [List.nil_append] at hB3
      clear hB
      repeat' (first | (apply brI <;> intro hb hb2 <;> (try simp [-Int.not_le, -Int.not_lt, -Nat.not_le, -Nat.not_lt, -Nat.add_left_cancel_iff] at hb2)) | (refine draw_listA (by rfl) (by kernel_rfl) ?_) | (refine draw_listB (by simp [allocsOf, isAlloc]; rfl) (by kernel_rfl) ?_) | simp (maxSteps := 2000000) (disch := first | omega | assumption | simp [*]) [*, -Int.not_le, -Int.not_lt, -Nat.not_le, -Nat.not_lt, -Nat.add_left_cancel_iff, wrap_i64, wrap_u64, g27, g26, g25])
      exact hB3
    · rw [p1] at hB
      repeat' (first | (apply brI <;> intro hb hb2 <;> (try simp [-Int.not_le, -Int.not_lt, -Nat.not_le, -Nat.not_lt, -Nat.add_left_cancel_iff] at hb2)) | (refine draw_listA (by rfl) (by kernel_rfl) ?_) | (refine draw_listB (by simp [allocsOf, isAlloc]; rfl) (by kernel_rfl) ?_) | simp (maxSteps := 2000000) (disch := first | omega | assumption | simp [*]) [*, -Int.not_le, -Int.not_lt, -Nat.not_le, -Nat.not_lt, -Nat.add_left_cancel_iff, wrap_i64, wrap_u64, g27, g26, g25, x1, y1])
      refine gb_app hB (by simp) (by simp) hw (fun e => List.eq_nil_of_length_eq_zero (by omega)) (by omega) fun v3 h3 hB3 => ?_
      clear hB
      repeat' (first | (apply brI <;> intro hb hb2 <;> (try simp [-Int.not_le, -Int.not_lt, -Nat.not_le, -Nat.not_lt, -Nat.add_left_cancel_iff] at hb2)) | (refine draw_listA (by rfl) (by kernel_rfl) ?_) | (refine draw_listB (by simp [allocsOf, isAlloc]; rfl) (by kernel_rfl) ?_) | simp (maxSteps := 2000000) (disch := first | omega | assumption | simp [*]) [*, -Int.not_le, -Int.not_lt, -Nat.not_le, -Nat.not_lt, -Nat.add_left_cancel_iff, wrap_i64, wrap_u64, g27, g26, g25])
      exact hB3
    · rw [p2] at hB
      have hend := gb_expo hB (by rw [List.length_append]; omega)
      clear hB
      repeat' (first | (apply brI <;> intro hb hb2 <;> (try simp [-Int.not_le, -Int.not_lt, -Nat.not_le, -Nat.not_lt, -Nat.add_left_cancel_iff] at hb2)) | (refine draw_listA (by rfl) (by kernel_rfl) ?_) | (refine draw_listB (by simp [allocsOf, isAlloc]; rfl) (by kernel_rfl) ?_) | simp (maxSteps := 2000000) (disch := first | omega | assumption | simp [*]) [*, -Int.not_le, -Int.not_lt, -Nat.not_le, -Nat.not_lt, -Nat.add_left_cancel_iff, wrap_i64, wrap_u64, g27, g26, g25])
theorem concatI_s {u w : AV} {o : Own} (ho : o = .lit ∨ o = .brw) (hu : IsI u) (hw : IsI w) (hl : (xsOf u).length + (xsOf w).length ≤ 1048576) {K : AV → Prop} {tg : Tg K} : CW env 32 [.sl 1 o [u, w]] K tg ↔ K (bufR 3 24 0 (xsOf u ++ xsOf w)) := callsTo_iff (concatI_c ho hu hw hl)
attribute [simp] concatI_s
/-- what may stand above each other -/
def SpoC (n : Int) (xs : List Int) (m : Int) (ys : List Int) : Prop := PCtx n xs ∧ PCtx m ys ∧ n = m ∧ xs.length + ys.length ≤ 8
noncomputable instance (n : Int) (xs : List Int) (m : Int) (ys : List Int) : Decidable (SpoC n xs m ys) := Classical.propDecidable _
theorem nth_apps (xs ys : List Int) (k : Nat) : nth (xs ++ ys) k = if k < xs.length then nth xs k else nth ys (k - xs.length) := by
  unfold nth
  split
  · rename_i h; simp [List.getD, List.getElem?_append_left h]
  · rename_i h; simp [List.getD, List.getElem?_append_right (Nat.le_of_not_lt h)]
theorem spo_ctx {n : Int} {xs ys : List Int} (hx : PCtx n xs) (hy : PCtx n ys) : PCtx n (xs ++ ys) ↔ xs.length + ys.length ≤ 8 := by
  constructor
  · intro h; have := h.2.2.1; rw [List.length_append] at this; exact this
  · intro h
    refine ⟨hx.1, hx.2.1, by rw [List.length_append]; exact h, fun k hk => ?_⟩
    rw [List.length_append] at hk
    rw [nth_apps]
    split
    · rename_i h2; exact hx.2.2.2 k h2
    · exact hy.2.2.2 _ (by omega)
noncomputable def spoR (n : Int) (xs : List Int) (m : Int) (ys : List Int) : List Int := if SpoC n xs m ys then xs ++ ys else []
noncomputable def spoN (n : Int) (xs : List Int) (m : Int) (ys : List Int) : Int := if SpoC n xs m ys then n else 0
theorem cf_buf2 {E : Env} {fid d g : Nat} {args : List AV} {s : Nat → AV} {h : Heap} {off nt : Nat} {K : AV → Heap → Prop} {tg : Tg ((⟨s, h, off, nt⟩ : St), K)} {T key k0 : Nat} {xs : List Int}
    (hc : EvC E g (lows h args) (bufR T key k0 xs)) (he : ((E.ext g).isNone && !E.open_ g && E.mat fid d == 2 && !E.deep g) = true)
    (hK : ∀ v h', Buf h' T (off + d) k0 v xs → (∀ k, k ≠ off + d → h' k = h k) → K v h') : CF E fid (some d) g args ⟨s, h, off, nt⟩ K tg := by
  simp only [Bool.and_eq_true, Bool.not_eq_true', beq_iff_eq, Option.isNone_iff_eq_none] at he
  unfold CF
  rw [WF_mat (ext_none he.1.1.1 _) he.1.1.2 he.2]
  refine ⟨_, hc, ?_⟩
  by_cases hx : xs = []
  · subst hx
    refine ⟨.sl k0 .lit [], h, ?_, hK _ _ (.inl ⟨rfl, rfl⟩) fun _ _ => rfl⟩
    simp only [mat, he.1.2, bufR, if_true]
    exact if_neg (by decide)
  · refine ⟨.sl 1 (.tok (off + d) (nextG h (off + d))) (ints xs), hset h (off + d) (.tok (nextG h (off + d)) T 1 (ints xs).length), ?_, hK _ _ (.inr ⟨hx, _, rfl, by simp [hset]⟩) fun k hk => by simp [hset, hk]⟩
    simp only [mat, he.1.2, bufR, if_neg hx]
    exact if_neg (by decide)
theorem iSubposition_c {n m : Int} {u v : AV} (hu : IsI u) (hv : IsI v) : EvC env 11 [.agg [.int .i64 n, u], .agg [.int .i64 m, v]] (.tup [.agg [.int .i64 (spoN n (xsOf u) m (xsOf v)), bufR 3 29 0 (spoR n (xsOf u) m (xsOf v))], .bool (decide (SpoC n (xsOf u) m (xsOf v)))]) := by
  refine evC_of (F := Try.f11) rfl rfl (Nat.le_of_ble_eq_true rfl) ?_
  have := hu.len
  have := hv.len
  have hbn : bufR 3 29 0 [] = AV.sl 0 .lit [] := by simp
  by_cases hp : PCtx n (xsOf u)
  · by_cases hq : PCtx m (xsOf v)
    · by_cases hnm : n = m
      · subst hnm
        clear hbn
        have hr2 : [0, 1] = List.range 2 := rfl
        have p3 := hp.2.2.1
        have q3 := hq.2.2.1
        have hsp := spo_ctx hp hq
        obtain ⟨o, ho⟩ : ∃ o : Own, (if stab u = true ∧ stab v = true then Own.lit else Own.brw) = o := ⟨_, rfl⟩
        have hoo : o = .lit ∨ o = .brw := by rw [← ho]; split <;> simp
        have hcc := concatI_c hoo hu hv (by omega)
        obtain ⟨W, hW⟩ : ∃ W, xsOf u ++ xsOf v = W := ⟨_, rfl⟩
        have hWl : W.length ≤ 16 := by rw [← hW, List.length_append]; omega
        rw [hW] at hcc hsp
        have hlw : ∀ h, low h (.sl 1 o [u, v]) = .sl 1 o [u, v] := fun h => by clear ho; rcases hoo with rfl | rfl <;> simp [low]
        repeat' (first | (apply brI <;> intro hb hb2 <;> (try simp [-Int.not_le, -Int.not_lt, -Nat.not_le, -Nat.not_lt, -Nat.add_left_cancel_iff] at hb2)) | simp (maxSteps := 2000000) (disch := first | omega | assumption | simp [*]) [*, -Int.not_le, -Int.not_lt, -Nat.not_le, -Nat.not_lt, -Nat.add_left_cancel_iff, wrap_i64, wrap_u64, Try.f11, isI_cells hu, isI_one hu, isI_low hu, isI_len hu, isI_low0 hu, isI_cells hv, isI_one hv, isI_low hv, isI_len hv, isI_low0 hv])
        refine draw_listK [22, 2] [0, 1, 0, 0, 0, 0, 0, 2, 0, 0, 0, 0, 0, 0] (by kernel_rfl) (by kernel_rfl) (by kernel_rfl) (by kernel_rfl) ?_
        repeat' (first | (apply brI <;> intro hb hb2 <;> (try simp [-Int.not_le, -Int.not_lt, -Nat.not_le, -Nat.not_lt, -Nat.add_left_cancel_iff] at hb2)) | simp (maxSteps := 2000000) (disch := first | omega | assumption | simp [*]) [*, -Int.not_le, -Int.not_lt, -Nat.not_le, -Nat.not_lt, -Nat.add_left_cancel_iff, wrap_i64, wrap_u64, isI_cells hu, isI_one hu, isI_low hu, isI_len hu, isI_low0 hu, isI_cells hv, isI_one hv, isI_low hv, isI_len hv, isI_low0 hv])
        refine cf_buf2 (by simpa [hlw] using hcc) rfl fun x0 m0 hx0 hm0 => ?_
        refine ⟨fun d hd => ?_, ?_⟩
        · simp at hd
          rcases hd with rfl | rfl <;> exact hm0 _ (by omega)
        have q2 := hm0 2 (by decide)
        have q3 := hm0 3 (by decide)
        have q4 := hm0 4 (by decide)
        simp [hset] at q2 q3 q4
        have ox := hx0.one
        have cx := hx0.cells
        have hI : IsI (bufC 0 W) := isI_bufC (by unfold top63; omega)
        have hxc : xsOf (bufC 0 W) = W := by simp
        have hlx := hx0.low
        clear hlw hm0
        repeat' (first | (apply brI <;> intro hb hb2 <;> (try simp [-Int.not_le, -Int.not_lt, -Nat.not_le, -Nat.not_lt, -Nat.add_left_cancel_iff] at hb2)) | simp (maxSteps := 2000000) (disch := first | omega | assumption | simp [*]) [*, -Int.not_le, -Int.not_lt, -Nat.not_le, -Nat.not_lt, -Nat.add_left_cancel_iff, wrap_i64, wrap_u64, isI_cells hu, isI_one hu, isI_low hu, isI_len hu, isI_low0 hu, isI_cells hv, isI_one hv, isI_low hv, isI_len hv, isI_low0 hv])
        refine cf_open rfl rfl (checked_o ox cx hlx hI (fun hT h2' hh => ?_) (fun hT h2' hh => ?_))
        · rw [hxc] at hT
          have hc : SpoC n (xsOf u) n (xsOf v) := ⟨hp, hq, rfl, hsp.1 hT⟩
          have hr0 : spoN n (xsOf u) n (xsOf v) = n := by unfold spoN; rw [if_pos hc]
          have hr1 : bufR 3 29 0 (spoR n (xsOf u) n (xsOf v)) = bufR 3 29 0 W := by unfold spoR; rw [if_pos hc, hW]
          have e4 := hh 4 (by simp [farOff]) (by simp [farOff])
          have hx1 := hx0.keep (hh 29 (by simp [farOff]) (by simp [farOff]))
          have hgo : ∀ h', h' 29 = h2' 29 → expo h' x0 = bufR 3 29 0 W := fun h' e => (hx1.keep e).expo
          rw [q4] at e4
          rw [hr1]
          clear hh hx0 hx1 hr1 q2 q3 q4
          repeat' (first | (apply brI <;> intro hb hb2 <;> (try simp [-Int.not_le, -Int.not_lt, -Nat.not_le, -Nat.not_lt, -Nat.add_left_cancel_iff] at hb2)) | simp (maxSteps := 2000000) (disch := first | omega | assumption | simp [*]) [*, -Int.not_le, -Int.not_lt, -Nat.not_le, -Nat.not_lt, -Nat.add_left_cancel_iff, wrap_i64, wrap_u64, isI_cells hu, isI_one hu, isI_low hu, isI_len hu, isI_low0 hu, isI_cells hv, isI_one hv, isI_low hv, isI_len hv, isI_low0 hv])
        · rw [hxc] at hT
          have hc : ¬ SpoC n (xsOf u) n (xsOf v) := fun h => hT (hsp.2 h.2.2.2)
          have hr0 : spoN n (xsOf u) n (xsOf v) = 0 := by unfold spoN; rw [if_neg hc]
          have hr1 : bufR 3 29 0 (spoR n (xsOf u) n (xsOf v)) = AV.sl 0 .lit [] := by unfold spoR; rw [if_neg hc]; exact bufR_nil ..
          have e4 := hh 4 (by simp [farOff]) (by simp [farOff])
          rw [q4] at e4
          rw [hr1]
          clear hh hx0 hr1 q2 q3 q4
          repeat' (first | (apply brI <;> intro hb hb2 <;> (try simp [-Int.not_le, -Int.not_lt, -Nat.not_le, -Nat.not_lt, -Nat.add_left_cancel_iff] at hb2)) | simp (maxSteps := 2000000) (disch := first | omega | assumption | simp [*]) [*, -Int.not_le, -Int.not_lt, -Nat.not_le, -Nat.not_lt, -Nat.add_left_cancel_iff, wrap_i64, wrap_u64, isI_cells hu, isI_one hu, isI_low hu, isI_len hu, isI_low0 hu, isI_cells hv, isI_one hv, isI_low hv, isI_len hv, isI_low0 hv])
      · have hc : ¬ SpoC n (xsOf u) m (xsOf v) := fun h => hnm h.2.2.1
        have hr0 : spoN n (xsOf u) m (xsOf v) = 0 := by unfold spoN; rw [if_neg hc]
        have hr1 : bufR 3 29 0 (spoR n (xsOf u) m (xsOf v)) = AV.sl 0 .lit [] := by unfold spoR; rw [if_neg hc]; exact hbn
        clear hbn
        repeat' (first | (apply brI <;> intro hb hb2 <;> (try simp [-Int.not_le, -Int.not_lt, -Nat.not_le, -Nat.not_lt, -Nat.add_left_cancel_iff] at hb2)) | (refine draw_listA (by rfl) (by kernel_rfl) ?_) | (refine draw_listB (by simp [allocsOf, isAlloc]; rfl) (by kernel_rfl) ?_) | simp (maxSteps := 2000000) (disch := first | omega | assumption | simp [*]) [*, -Int.not_le, -Int.not_lt, -Nat.not_le, -Nat.not_lt, -Nat.add_left_cancel_iff, wrap_i64, wrap_u64, Try.f11, isI_cells hu, isI_one hu, isI_low hu, isI_len hu, isI_index hu, isI_load hu, isI_cells hv, isI_one hv, isI_low hv, isI_len hv, isI_index hv, isI_load hv])
    · have hc : ¬ SpoC n (xsOf u) m (xsOf v) := fun h => hq h.2.1
      have hr0 : spoN n (xsOf u) m (xsOf v) = 0 := by unfold spoN; rw [if_neg hc]
      have hr1 : bufR 3 29 0 (spoR n (xsOf u) m (xsOf v)) = AV.sl 0 .lit [] := by unfold spoR; rw [if_neg hc]; exact hbn
      clear hbn
      repeat' (first | (apply brI <;> intro hb hb2 <;> (try simp [-Int.not_le, -Int.not_lt, -Nat.not_le, -Nat.not_lt, -Nat.add_left_cancel_iff] at hb2)) | (refine draw_listA (by rfl) (by kernel_rfl) ?_) | (refine draw_listB (by simp [allocsOf, isAlloc]; rfl) (by kernel_rfl) ?_) | simp (maxSteps := 2000000) (disch := first | omega | assumption | simp [*]) [*, -Int.not_le, -Int.not_lt, -Nat.not_le, -Nat.not_lt, -Nat.add_left_cancel_iff, wrap_i64, wrap_u64, Try.f11, isI_cells hu, isI_one hu, isI_low hu, isI_len hu, isI_index hu, isI_load hu, isI_cells hv, isI_one hv, isI_low hv, isI_len hv, isI_index hv, isI_load hv])
  · have hc : ¬ SpoC n (xsOf u) m (xsOf v) := fun h => hp h.1
    have hr0 : spoN n (xsOf u) m (xsOf v) = 0 := by unfold spoN; rw [if_neg hc]
    have hr1 : bufR 3 29 0 (spoR n (xsOf u) m (xsOf v)) = AV.sl 0 .lit [] := by unfold spoR; rw [if_neg hc]; exact hbn
    clear hbn
    repeat' (first | (apply brI <;> intro hb hb2 <;> (try simp [-Int.not_le, -Int.not_lt, -Nat.not_le, -Nat.not_lt, -Nat.add_left_cancel_iff] at hb2)) | (refine draw_listA (by rfl) (by kernel_rfl) ?_) | (refine draw_listB (by simp [allocsOf, isAlloc]; rfl) (by kernel_rfl) ?_) | simp (maxSteps := 2000000) (disch := first | omega | assumption | simp [*]) [*, -Int.not_le, -Int.not_lt, -Nat.not_le, -Nat.not_lt, -Nat.add_left_cancel_iff, wrap_i64, wrap_u64, Try.f11, isI_cells hu, isI_one hu, isI_low hu, isI_len hu, isI_index hu, isI_load hu, isI_cells hv, isI_one hv, isI_low hv, isI_len hv, isI_index hv, isI_load hv])
theorem iSubposition_s {n m : Int} {u v : AV} (hu : IsI u) (hv : IsI v) {K : AV → Prop} {tg : Tg K} : CW env 11 [.agg [.int .i64 n, u], .agg [.int .i64 m, v]] K tg ↔ K (.tup [.agg [.int .i64 (spoN n (xsOf u) m (xsOf v)), bufR 3 29 0 (spoR n (xsOf u) m (xsOf v))], .bool (decide (SpoC n (xsOf u) m (xsOf v)))]) := callsTo_iff (iSubposition_c hu hv)
attribute [simp] iSubposition_s
theorem wa_catI {E : Env} {h : Heap} {ko key k0 t : Nat} {v u : AV} {xs : List Int} {K : AV → Heap → Prop} (hB : Buf h (elT E t) key k0 v xs) (ht : slT E t = true) (hs : E.size (elT E t) = 1) (hu : IsI u) (hl : xs.length + (xsOf u).length ≤ 1073741824)
    (hK : ∀ v' h', Buf h' (elT E t) (if xs.length = 0 then ko else key) k0 v' (xs ++ xsOf u) → (∀ k, k ≠ ko → k ≠ key → h' k = h k) → K v' h') : WA E h ko t v u K ⟨⟩ := by
  obtain ⟨k, o, es, rfl, hk, hos⟩ := hu.l.ok
  have hes : es = ints (xsOf (.sl k o es)) := by have := hu.ints; simpa using this
  obtain ⟨ys, hys⟩ : ∃ ys, xsOf (.sl k o es) = ys := ⟨_, rfl⟩
  rw [hys] at hes hl hK
  have hB2 := hB.rekey ko
  by_cases hy : ys = []
  · subst hy
    have he0 : es = [] := by simpa using hes
    subst he0
    refine ⟨v, h, ?_, hK _ _ (by rw [List.append_nil]; exact hB2) fun _ _ _ => rfl⟩
    have hne : ¬ E.size (elT E t) = 0 := by omega
    rcases hB with ⟨_, rfl⟩ | ⟨_, g, rfl, _⟩
    · simp only [appendV, slT_ty ht, elemsOf_st (h := h) (k := k) (o := o) (ys := []) rfl]
      rw [if_neg hne, if_pos (by rfl)]
    · simp only [appendV, slT_ty ht, elemsOf_st (h := h) (k := k) (o := o) (ys := []) rfl]
      rw [if_neg hne, if_pos (by rfl)]
  · have hk1 : k = 1 := by
      rcases hk with h9 | h9
      · exact (hy (by rw [h9] at hes; simpa using hes.symm)).elim
      · exact h9
    refine wa_ints' hB2 ht hs hes hy (fun e => by rw [e]; rfl) hk1 hl fun v' h' a b => hK v' h' a fun x h1 h2 => b x ?_
    split
    · exact h1
    · exact h2
noncomputable def spoV (T : Nat) (n : Int) (xs : List Int) (m : Int) (ys : List Int) : AV := if SpoC n xs m ys then bufR T (sumK xs 37 40) 1 (xs ++ ys) else .sl 0 .lit []
theorem spoV_w (T : Nat) (n : Int) (xs : List Int) (m : Int) (ys : List Int) : IsI (noEx (spoV T n xs m ys)) ∧ xsOf (noEx (spoV T n xs m ys)) = spoR n xs m ys := by
  unfold spoV spoR
  split
  · rename_i h
    have hl := h.2.2.2
    have e : noEx (bufR T (sumK xs 37 40) 1 (xs ++ ys)) = bufC 1 (xs ++ ys) := by simp
    rw [e]
    exact ⟨isI_bufC (by rw [List.length_append]; unfold top63; omega), by simp⟩
  · have e : noEx (AV.sl 0 .lit []) = bufC 0 [] := by simp [noEx, bufC]
    rw [e]
    exact ⟨isI_bufC (by simp [top63]), by simp⟩
theorem sSubposition_c {n m : Int} {u v : AV} (hu : IsI u) (hv : IsI v) : EvC env 9 [.agg [.int .i64 n, u], .agg [.int .i64 m, v]] (.tup [.agg [.int .i64 (spoN n (xsOf u) m (xsOf v)), spoV 3 n (xsOf u) m (xsOf v)], .bool (decide (SpoC n (xsOf u) m (xsOf v)))]) := by
  refine evC_of (F := Try.f9) rfl rfl (Nat.le_of_ble_eq_true rfl) ?_
  have := hu.len
  have := hv.len
  by_cases hp : PCtx n (xsOf u)
  · by_cases hq : PCtx m (xsOf v)
    · by_cases hnm : n = m
      · subst hnm
        have p3 := hp.2.2.1
        have q3 := hq.2.2.1
        by_cases hll : (xsOf u).length + (xsOf v).length ≤ 8
        · have hc : SpoC n (xsOf u) n (xsOf v) := ⟨hp, hq, rfl, hll⟩
          have hr0 : spoN n (xsOf u) n (xsOf v) = n := by unfold spoN; rw [if_pos hc]
          have hr1 : spoV 3 n (xsOf u) n (xsOf v) = bufR 3 (sumK (xsOf u) 37 40) 1 (xsOf u ++ xsOf v) := by unfold spoV; rw [if_pos hc]
          have hli : ¬ (8 < ((xsOf u).length : Int) + ((xsOf v).length : Int)) := by omega
          repeat' (first | (apply brI <;> intro hb hb2 <;> (try simp [-Int.not_le, -Int.not_lt, -Nat.not_le, -Nat.not_lt, -Nat.add_left_cancel_iff] at hb2)) | simp (maxSteps := 2000000) (disch := first | omega | assumption | simp [*]) [*, -Int.not_le, -Int.not_lt, -Nat.not_le, -Nat.not_lt, -Nat.add_left_cancel_iff, wrap_i64, wrap_u64, Try.f9, isI_cells hu, isI_one hu, isI_low hu, isI_len hu, isI_cells hv, isI_one hv, isI_low hv, isI_len hv])
          refine draw_listK [32, 2, 38, 3] [0, 1, 0, 0, 0, 2, 0, 1, 2, 0, 0, 0] (by kernel_rfl) (by kernel_rfl) (by kernel_rfl) (by kernel_rfl) ?_
          repeat' (first | (apply brI <;> intro hb hb2 <;> (try simp [-Int.not_le, -Int.not_lt, -Nat.not_le, -Nat.not_lt, -Nat.add_left_cancel_iff] at hb2)) | simp (maxSteps := 2000000) (disch := first | omega | assumption | simp [*]) [*, -Int.not_le, -Int.not_lt, -Nat.not_le, -Nat.not_lt, -Nat.add_left_cancel_iff, wrap_i64, wrap_u64, isI_cells hu, isI_one hu, isI_low hu, isI_len hu, isI_cells hv, isI_one hv, isI_low hv, isI_len hv])
          refine wa_catI (key := 37) (xs := []) (buf_nil ..) (by simp) (by simp) hu (by simp; omega) fun v1 h1 hB1 hk1 => ?_
          refine ⟨fun d hd => ?_, ?_⟩
          · simp at hd
            rcases hd with rfl | rfl | rfl | rfl <;> exact hk1 _ (by omega) (by omega)
          have q2 : h1 2 = some (.var 0 26 (.agg [.int .i64 n, u])) := by rw [hk1 2 (by omega) (by omega)]; simp [hset]
          have q3 : h1 3 = some (.var 0 26 (.agg [.int .i64 n, v])) := by rw [hk1 3 (by omega) (by omega)]; simp [hset]
          have q4 : h1 4 = some (.var 0 26 (.agg [.int .i64 0, .sl 0 .lit []])) := by rw [hk1 4 (by omega) (by omega)]; simp [hset]
          simp only [List.length_nil, if_true, List.nil_append] at hB1
          have o1 := hB1.one
          have c1 := hB1.cells
          clear hk1
          repeat' (first | (apply brI <;> intro hb hb2 <;> (try simp [-Int.not_le, -Int.not_lt, -Nat.not_le, -Nat.not_lt, -Nat.add_left_cancel_iff] at hb2)) | simp (maxSteps := 2000000) (disch := first | omega | assumption | simp [*]) [*, -Int.not_le, -Int.not_lt, -Nat.not_le, -Nat.not_lt, -Nat.add_left_cancel_iff, wrap_i64, wrap_u64, q2, q3, q4, isI_cells hu, isI_one hu, isI_low hu, isI_len hu, isI_cells hv, isI_one hv, isI_low hv, isI_len hv])
          refine wa_catI hB1 (by simp) (by simp) hv (by omega) fun v2 h2 hB2 hk2 => ?_
          refine ⟨fun d hd => ?_, ?_⟩
          · simp at hd
            rcases hd with rfl | rfl | rfl | rfl <;> exact hk2 _ (by omega) (by omega)
          have r2 := (hk2 2 (by omega) (by omega)).trans q2
          have r3 := (hk2 3 (by omega) (by omega)).trans q3
          have r4 := (hk2 4 (by omega) (by omega)).trans q4
          have o2 := hB2.one
          have c2 := hB2.cells
          have hend : ∀ h', (∀ x, x ≠ 4 → h' x = h2 x) → expo h' v2 = bufR 3 (sumK (xsOf u) 37 40) 1 (xsOf u ++ xsOf v) := fun h' e => by
            have hk9 : (if (xsOf u).length = 0 then 40 else 37) = sumK (xsOf u) 37 40 := rfl
            rw [hk9] at hB2
            have hne : sumK (xsOf u) 37 40 ≠ 4 := by rcases sumK_or (xsOf u) 37 40 with h | h <;> omega
            exact (hB2.keep (e _ hne)).expo
          clear hk2 hB1 hB2
          repeat' (first | (apply brI <;> intro hb hb2 <;> (try simp [-Int.not_le, -Int.not_lt, -Nat.not_le, -Nat.not_lt, -Nat.add_left_cancel_iff] at hb2)) | simp (maxSteps := 2000000) (disch := first | omega | assumption | simp [*]) [*, -Int.not_le, -Int.not_lt, -Nat.not_le, -Nat.not_lt, -Nat.add_left_cancel_iff, wrap_i64, wrap_u64, r2, r3, r4, isI_cells hu, isI_one hu, isI_low hu, isI_len hu, isI_cells hv, isI_one hv, isI_low hv, isI_len hv])
          all_goals first | exact hend _ (fun x hx => hset_other _ _ hx) | skip
        · have hc : ¬ SpoC n (xsOf u) n (xsOf v) := fun h => hll h.2.2.2
          have hr0 : spoN n (xsOf u) n (xsOf v) = 0 := by unfold spoN; rw [if_neg hc]
          have hr1 : spoV 3 n (xsOf u) n (xsOf v) = AV.sl 0 .lit [] := by unfold spoV; rw [if_neg hc]
          have hli : (8 < ((xsOf u).length : Int) + ((xsOf v).length : Int)) := by omega
          repeat' (first | (apply brI <;> intro hb hb2 <;> (try simp [-Int.not_le, -Int.not_lt, -Nat.not_le, -Nat.not_lt, -Nat.add_left_cancel_iff] at hb2)) | (refine draw_listA (by rfl) (by kernel_rfl) ?_) | (refine draw_listB (by simp [allocsOf, isAlloc]; rfl) (by kernel_rfl) ?_) | simp (maxSteps := 2000000) (disch := first | omega | assumption | simp [*]) [*, -Int.not_le, -Int.not_lt, -Nat.not_le, -Nat.not_lt, -Nat.add_left_cancel_iff, wrap_i64, wrap_u64, Try.f9, isI_cells hu, isI_one hu, isI_low hu, isI_len hu, isI_cells hv, isI_one hv, isI_low hv, isI_len hv])
      · have hc : ¬ SpoC n (xsOf u) m (xsOf v) := fun h => hnm h.2.2.1
        have hr0 : spoN n (xsOf u) m (xsOf v) = 0 := by unfold spoN; rw [if_neg hc]
        have hr1 : spoV 3 n (xsOf u) m (xsOf v) = AV.sl 0 .lit [] := by unfold spoV; rw [if_neg hc]
        repeat' (first | (apply brI <;> intro hb hb2 <;> (try simp [-Int.not_le, -Int.not_lt, -Nat.not_le, -Nat.not_lt, -Nat.add_left_cancel_iff] at hb2)) | (refine draw_listA (by rfl) (by kernel_rfl) ?_) | (refine draw_listB (by simp [allocsOf, isAlloc]; rfl) (by kernel_rfl) ?_) | simp (maxSteps := 2000000) (disch := first | omega | assumption | simp [*]) [*, -Int.not_le, -Int.not_lt, -Nat.not_le, -Nat.not_lt, -Nat.add_left_cancel_iff, wrap_i64, wrap_u64, Try.f9, isI_cells hu, isI_one hu, isI_low hu, isI_len hu, isI_index hu, isI_load hu, isI_cells hv, isI_one hv, isI_low hv, isI_len hv, isI_index hv, isI_load hv])
    · have hc : ¬ SpoC n (xsOf u) m (xsOf v) := fun h => hq h.2.1
      have hr0 : spoN n (xsOf u) m (xsOf v) = 0 := by unfold spoN; rw [if_neg hc]
      have hr1 : spoV 3 n (xsOf u) m (xsOf v) = AV.sl 0 .lit [] := by unfold spoV; rw [if_neg hc]
      repeat' (first | (apply brI <;> intro hb hb2 <;> (try simp [-Int.not_le, -Int.not_lt, -Nat.not_le, -Nat.not_lt, -Nat.add_left_cancel_iff] at hb2)) | (refine draw_listA (by rfl) (by kernel_rfl) ?_) | (refine draw_listB (by simp [allocsOf, isAlloc]; rfl) (by kernel_rfl) ?_) | simp (maxSteps := 2000000) (disch := first | omega | assumption | simp [*]) [*, -Int.not_le, -Int.not_lt, -Nat.not_le, -Nat.not_lt, -Nat.add_left_cancel_iff, wrap_i64, wrap_u64, Try.f9, isI_cells hu, isI_one hu, isI_low hu, isI_len hu, isI_index hu, isI_load hu, isI_cells hv, isI_one hv, isI_low hv, isI_len hv, isI_index hv, isI_load hv])
  · have hc : ¬ SpoC n (xsOf u) m (xsOf v) := fun h => hp h.1
    have hr0 : spoN n (xsOf u) m (xsOf v) = 0 := by unfold spoN; rw [if_neg hc]
    have hr1 : spoV 3 n (xsOf u) m (xsOf v) = AV.sl 0 .lit [] := by unfold spoV; rw [if_neg hc]
    repeat' (first | (apply brI <;> intro hb hb2 <;> (try simp [-Int.not_le, -Int.not_lt, -Nat.not_le, -Nat.not_lt, -Nat.add_left_cancel_iff] at hb2)) | (refine draw_listA (by rfl) (by kernel_rfl) ?_) | (refine draw_listB (by simp [allocsOf, isAlloc]; rfl) (by kernel_rfl) ?_) | simp (maxSteps := 2000000) (disch := first | omega | assumption | simp [*]) [*, -Int.not_le, -Int.not_lt, -Nat.not_le, -Nat.not_lt, -Nat.add_left_cancel_iff, wrap_i64, wrap_u64, Try.f9, isI_cells hu, isI_one hu, isI_low hu, isI_len hu, isI_index hu, isI_load hu, isI_cells hv, isI_one hv, isI_low hv, isI_len hv, isI_index hv, isI_load hv])
theorem sSubposition_s {n m : Int} {u v : AV} (hu : IsI u) (hv : IsI v) {K : AV → Prop} {tg : Tg K} : CW env 9 [.agg [.int .i64 n, u], .agg [.int .i64 m, v]] K tg ↔ K (.tup [.agg [.int .i64 (spoN n (xsOf u) m (xsOf v)), spoV 3 n (xsOf u) m (xsOf v)], .bool (decide (SpoC n (xsOf u) m (xsOf v)))]) := callsTo_iff (sSubposition_c hu hv)
attribute [simp] sSubposition_s
end Go.Proofs.Ytppfgokonlloaaa
