/- Contexts: what is one, and what the laws do with them. Conditions: none. -/
import Derived.Test.YtkkkgaapkibhkaaDoorLaw
import Derived.Test.YtkkkgaapkibhkaaDoorEvOpen
namespace Go.Proofs.YtkkkgaapkibhkaaDoor
open Ev
set_option linter.unusedVariables false
set_option linter.unusedSimpArgs false
set_option maxHeartbeats 4000000

/-- what is a context -/
def PCtx (n : Int) (xs : List Int) : Prop := 0 ≤ n ∧ n ≤ 6 ∧ xs.length ≤ 8 ∧ ∀ k, k < xs.length → PSet n (nth xs k) = true
noncomputable instance (n : Int) (xs : List Int) : Decidable (PCtx n xs) := Classical.propDecidable _
theorem pctx_row {n : Int} {xs : List Int} (h : PCtx n xs) {k : Nat} (hk : k < xs.length) : 0 ≤ nth xs k ∧ nth xs k < 2 ^ n.toNat ∧ nth xs k < 256 := by
  have h1 := h.2.2.2 k hk
  obtain ⟨a, b, c, d⟩ := pset_iff.mp h1
  have := pset_lt h1
  exact ⟨c, d, this.2⟩
theorem mul_pow_le {y n : Int} (h0 : 0 ≤ y) (h1 : y ≤ 256) (hn : n ≤ 8) : 0 ≤ y * 2 ^ n.toNat ∧ y * 2 ^ n.toNat ≤ 65536 := by
  have := pow8 hn
  have hp := pow_pos2 n.toNat
  refine ⟨Int.mul_nonneg h0 (Int.le_of_lt hp), ?_⟩
  have := Int.mul_le_mul h1 this (Int.le_of_lt hp) (by decide)
  omega

theorem sFullSet_c {n : Int} : EvC env 37 [.int .i64 n] (.int .i64 (if 0 ≤ n ∧ n ≤ 8 then 2 ^ n.toNat - 1 else 0)) := by
  refine evC_of (F := Tryd.f37) rfl rfl (Nat.le_of_ble_eq_true rfl) ?_
  repeat' (first | (apply br_intro <;> intro hb <;> (have hb2 := hb) <;> (try simp [-Int.not_le, -Int.not_lt, -Nat.not_le, -Nat.not_lt, -Nat.add_left_cancel_iff] at hb2)) | (refine draw_listA (by rfl) (by kernel_rfl) ?_) | (refine draw_listB (by simp [allocsOf, isAlloc]; rfl) (by kernel_rfl) ?_) | simp (maxSteps := 2000000) (disch := first | omega | assumption | simp [*]) [*, -Int.not_le, -Int.not_lt, -Nat.not_le, -Nat.not_lt, -Nat.add_left_cancel_iff, wrap_i64, wrap_u64, Tryd.f37])
  grind
theorem sFullSet_s {n : Int} {K : AV → Prop} {tg : Tg K} : CW env 37 [.int .i64 n] K tg ↔ K (.int .i64 (if 0 ≤ n ∧ n ≤ 8 then 2 ^ n.toNat - 1 else 0)) := callsTo_iff (sFullSet_c )
attribute [simp] sFullSet_s
theorem iFullSet_c {n : Int} : EvC env 90 [.int .i64 n] (.int .i64 (if 0 ≤ n ∧ n ≤ 8 then 2 ^ n.toNat - 1 else 0)) := by
  refine evC_of (F := Tryd.f90) rfl rfl (Nat.le_of_ble_eq_true rfl) ?_
  repeat' (first | (apply br_intro <;> intro hb <;> (have hb2 := hb) <;> (try simp [-Int.not_le, -Int.not_lt, -Nat.not_le, -Nat.not_lt, -Nat.add_left_cancel_iff] at hb2)) | (refine draw_listA (by rfl) (by kernel_rfl) ?_) | (refine draw_listB (by simp [allocsOf, isAlloc]; rfl) (by kernel_rfl) ?_) | simp (maxSteps := 2000000) (disch := first | omega | assumption | simp [*]) [*, -Int.not_le, -Int.not_lt, -Nat.not_le, -Nat.not_lt, -Nat.add_left_cancel_iff, wrap_i64, wrap_u64, Tryd.f90])
  grind
theorem iFullSet_s {n : Int} {K : AV → Prop} {tg : Tg K} : CW env 90 [.int .i64 n] K tg ↔ K (.int .i64 (if 0 ≤ n ∧ n ≤ 8 then 2 ^ n.toNat - 1 else 0)) := callsTo_iff (iFullSet_c )
attribute [simp] iFullSet_s
theorem sIsContext_c {n : Int} {v : AV} (hv : IsI v) : EvC env 48 [.agg [.int .i64 n, v]] (.bool (decide (PCtx n (xsOf v)))) := by
  refine evC_of (F := Tryd.f48) rfl rfl (Nat.le_of_ble_eq_true rfl) ?_
  have := hv.len
  repeat' (first | (apply br_intro <;> intro hb <;> (have hb2 := hb) <;> (try simp [-Int.not_le, -Int.not_lt, -Nat.not_le, -Nat.not_lt, -Nat.add_left_cancel_iff] at hb2)) | (refine draw_listA (by rfl) (by kernel_rfl) ?_) | (refine draw_listB (by simp [allocsOf, isAlloc]; rfl) (by kernel_rfl) ?_) | simp (maxSteps := 2000000) (disch := first | omega | assumption | simp [*]) [*, -Int.not_le, -Int.not_lt, -Nat.not_le, -Nat.not_lt, -Nat.add_left_cancel_iff, wrap_i64, wrap_u64, Tryd.f48, isI_cells hv, isI_one hv, isI_low hv, isI_len hv])
  refine W_loopP (xsOf v).length (fun i s => s 3 = .int .i64 i ∧ s 1 = .vp 1 0 0 ∧ ∀ j, j < i → PSet n (nth (xsOf v) j) = true) rfl ?_ ?_
  · simp
  rintro i s hi ⟨h3, h1, hj⟩
  repeat' (first | (apply br_intro <;> intro hb <;> (have hb2 := hb) <;> (try simp [-Int.not_le, -Int.not_lt, -Nat.not_le, -Nat.not_lt, -Nat.add_left_cancel_iff] at hb2)) | (refine draw_listA (by rfl) (by kernel_rfl) ?_) | (refine draw_listB (by simp [allocsOf, isAlloc]; rfl) (by kernel_rfl) ?_) | simp (maxSteps := 2000000) (disch := first | omega | assumption | simp [*]) [*, -Int.not_le, -Int.not_lt, -Nat.not_le, -Nat.not_lt, -Nat.add_left_cancel_iff, wrap_i64, wrap_u64, h3, h1, isI_cells hv, isI_one hv, isI_low hv, isI_len hv, isI_index hv, isI_load hv])
  all_goals grind [PCtx]
theorem sIsContext_s {n : Int} {v : AV} (hv : IsI v) {K : AV → Prop} {tg : Tg K} : CW env 48 [.agg [.int .i64 n, v]] K tg ↔ K (.bool (decide (PCtx n (xsOf v)))) := callsTo_iff (sIsContext_c hv)
attribute [simp] sIsContext_s
/-- the first place where p holds -/
def idxI (p : Int → Bool) (xs : List Int) : Int := match xs.findIdx? p with | some i => (i : Int) | none => -1
theorem idxI_none {p : Int → Bool} {xs : List Int} (h : ∀ j, j < xs.length → p (nth xs j) = false) : idxI p xs = -1 := by
  unfold idxI
  rw [List.findIdx?_eq_none_iff.mpr]
  intro x hx
  obtain ⟨j, hj, rfl⟩ := List.getElem_of_mem hx
  have := h j hj
  rw [nth_eq hj] at this
  simpa using this
theorem idxI_some {p : Int → Bool} {xs : List Int} {i : Nat} (hi : i < xs.length) (hp : p (nth xs i) = true) (h : ∀ j, j < i → p (nth xs j) = false) : idxI p xs = i := by
  unfold idxI
  rw [List.findIdx?_eq_some_iff_getElem.mpr]
  exact ⟨hi, by rwa [nth_eq hi] at hp, fun j hj => by have := h j hj; rw [nth_eq (by omega)] at this; simpa using this⟩
theorem idxI_any {p : Int → Bool} {xs : List Int} : (0 ≤ idxI p xs) ↔ xs.any p = true := by
  unfold idxI
  cases h : xs.findIdx? p with
  | none =>
    simp only [List.findIdx?_eq_none_iff] at h
    simp; exact h
  | some i =>
    rw [List.findIdx?_eq_some_iff_getElem] at h
    obtain ⟨hi, hp, _⟩ := h
    simp only [List.any_eq_true]
    exact ⟨fun _ => ⟨xs[i], List.getElem_mem hi, hp⟩, fun _ => Int.natCast_nonneg i⟩
theorem indexFunc_c {v : AV} {g : Nat} {caps : List AV} {p : Int → Bool} (hv : IsI v) (hx : env.ext g = none) (ho : env.open_ g = false) (hl : ∀ h, lows h caps = caps) (hp : ∀ x, EvC env g (.int .i64 x :: caps) (.bool (p x))) : EvC env 109 [v, .fn g caps] (.int .i64 (idxI p (xsOf v))) := by
  refine evC_of (F := Tryd.f109) rfl rfl (Nat.le_of_ble_eq_true rfl) ?_
  have := hv.len
  have hp2 : ∀ (x : Int) (K : AV → Prop) (tg : Tg K), CW env g (.int .i64 x :: caps) K tg ↔ K (.bool (p x)) := fun x K tg => callsTo_iff (hp x)
  repeat' (first | (apply br_intro <;> intro hb <;> (have hb2 := hb) <;> (try simp [-Int.not_le, -Int.not_lt, -Nat.not_le, -Nat.not_lt, -Nat.add_left_cancel_iff] at hb2)) | (refine draw_listA (by rfl) (by kernel_rfl) ?_) | (refine draw_listB (by simp [allocsOf, isAlloc]; rfl) (by kernel_rfl) ?_) | simp (maxSteps := 2000000) (disch := first | omega | assumption | simp [*]) [*, -Int.not_le, -Int.not_lt, -Nat.not_le, -Nat.not_lt, -Nat.add_left_cancel_iff, wrap_i64, wrap_u64, Tryd.f109, isI_len hv])
  refine W_loopG (xsOf v).length (fun i s h => h = hnil ∧ s 8 = .int .i64 i ∧ s 7 = .int .i64 (xsOf v).length ∧ s 0 = v ∧ s 1 = .fn g caps ∧ ∀ j, j < i → p (nth (xsOf v) j) = false) ?_ ?_
  · simp
  rintro i s h hi ⟨rfl, h8, h7, h0, h1, hj⟩
  repeat' (first | (apply br_intro <;> intro hb <;> (have hb2 := hb) <;> (try simp [-Int.not_le, -Int.not_lt, -Nat.not_le, -Nat.not_lt, -Nat.add_left_cancel_iff] at hb2)) | (refine draw_listA (by rfl) (by kernel_rfl) ?_) | (refine draw_listB (by simp [allocsOf, isAlloc]; rfl) (by kernel_rfl) ?_) | simp (maxSteps := 2000000) (disch := first | omega | assumption | simp [*]) [*, -Int.not_le, -Int.not_lt, -Nat.not_le, -Nat.not_lt, -Nat.add_left_cancel_iff, wrap_i64, wrap_u64, h8, h7, h0, h1, isI_len hv, isI_index hv, isI_load hv])
  · rw [idxI_some (by assumption) (by assumption) hj]
  · grind
  · rw [idxI_none]; grind
theorem indexFunc_s {v : AV} {g : Nat} {caps : List AV} {p : Int → Bool} (hv : IsI v) (hx : env.ext g = none) (ho : env.open_ g = false) (hl : ∀ h, lows h caps = caps) (hp : ∀ x, EvC env g (.int .i64 x :: caps) (.bool (p x))) {K : AV → Prop} {tg : Tg K} : CW env 109 [v, .fn g caps] K tg ↔ K (.int .i64 (idxI p (xsOf v))) := callsTo_iff (indexFunc_c hv hx ho hl hp)
attribute [simp] indexFunc_s
theorem containsFunc_c {v : AV} {g : Nat} {caps : List AV} {p : Int → Bool} (hv : IsI v) (hx : env.ext g = none) (ho : env.open_ g = false) (hl : ∀ h, lows h caps = caps) (hp : ∀ x, EvC env g (.int .i64 x :: caps) (.bool (p x))) : EvC env 82 [v, .fn g caps] (.bool ((xsOf v).any p)) := by
  refine evC_of (F := Tryd.f82) rfl rfl (Nat.le_of_ble_eq_true rfl) ?_
  have := hv.len
  repeat' (first | (apply br_intro <;> intro hb <;> (have hb2 := hb) <;> (try simp [-Int.not_le, -Int.not_lt, -Nat.not_le, -Nat.not_lt, -Nat.add_left_cancel_iff] at hb2)) | (refine draw_listA (by rfl) (by kernel_rfl) ?_) | (refine draw_listB (by simp [allocsOf, isAlloc]; rfl) (by kernel_rfl) ?_) | simp (maxSteps := 2000000) (disch := first | omega | assumption | simp [*]) [*, -Int.not_le, -Int.not_lt, -Nat.not_le, -Nat.not_lt, -Nat.add_left_cancel_iff, wrap_i64, wrap_u64, Tryd.f82, isI_low hv, low_fn])
  rw [Bool.eq_iff_iff, ← idxI_any]; simp
theorem containsFunc_s {v : AV} {g : Nat} {caps : List AV} {p : Int → Bool} (hv : IsI v) (hx : env.ext g = none) (ho : env.open_ g = false) (hl : ∀ h, lows h caps = caps) (hp : ∀ x, EvC env g (.int .i64 x :: caps) (.bool (p x))) {K : AV → Prop} {tg : Tg K} : CW env 82 [v, .fn g caps] K tg ↔ K (.bool ((xsOf v).any p)) := callsTo_iff (containsFunc_c hv hx ho hl hp)
attribute [simp] containsFunc_s
theorem iIsContext1_c {n s : Int} {v : AV} : EvC env 83 [.int .i64 s, .cp true [.int .i64 n, v] 0] (.bool (!PSet n s)) := by
  refine evC_of (F := Tryd.f83) rfl rfl (Nat.le_of_ble_eq_true rfl) ?_
  repeat' (first | (apply br_intro <;> intro hb <;> (have hb2 := hb) <;> (try simp [-Int.not_le, -Int.not_lt, -Nat.not_le, -Nat.not_lt, -Nat.add_left_cancel_iff] at hb2)) | (refine draw_listA (by rfl) (by kernel_rfl) ?_) | (refine draw_listB (by simp [allocsOf, isAlloc]; rfl) (by kernel_rfl) ?_) | simp (maxSteps := 2000000) (disch := first | omega | assumption | simp [*]) [*, -Int.not_le, -Int.not_lt, -Nat.not_le, -Nat.not_lt, -Nat.add_left_cancel_iff, wrap_i64, wrap_u64, Tryd.f83])
theorem iIsContext1_s {n s : Int} {v : AV} {K : AV → Prop} {tg : Tg K} : CW env 83 [.int .i64 s, .cp true [.int .i64 n, v] 0] K tg ↔ K (.bool (!PSet n s)) := callsTo_iff (iIsContext1_c )
attribute [simp] iIsContext1_s
theorem iIsContext_c {n : Int} {v : AV} (hv : IsI v) : EvC env 52 [.agg [.int .i64 n, v]] (.bool (decide (PCtx n (xsOf v)))) := by
  refine evC_of (F := Tryd.f52) rfl rfl (Nat.le_of_ble_eq_true rfl) ?_
  have := hv.len
  have hcf : ∀ (K : AV → Prop) (tg : Tg K), CW env 82 [v, .fn 83 [.cp true [.int .i64 n, v] 0]] K tg ↔ K (.bool ((xsOf v).any fun s => !PSet n s)) :=
    fun K tg => callsTo_iff (containsFunc_c hv rfl rfl (fun h => by simp) (fun x => iIsContext1_c))
  have hany : ((xsOf v).any fun s => !PSet n s) = false ↔ ∀ k, k < (xsOf v).length → PSet n (nth (xsOf v) k) = true := by
    simp only [List.any_eq_false, List.mem_iff_getElem]
    constructor
    · intro h k hk; have := h _ ⟨k, hk, rfl⟩; rw [nth_eq hk]; simpa using this
    · rintro h x ⟨k, hk, rfl⟩; have := h k hk; rw [nth_eq hk] at this; simpa using this
  repeat' (first | (apply br_intro <;> intro hb <;> (have hb2 := hb) <;> (try simp [-Int.not_le, -Int.not_lt, -Nat.not_le, -Nat.not_lt, -Nat.add_left_cancel_iff] at hb2)) | (refine draw_listA (by rfl) (by kernel_rfl) ?_) | (refine draw_listB (by simp [allocsOf, isAlloc]; rfl) (by kernel_rfl) ?_) | simp (maxSteps := 2000000) (disch := first | omega | assumption | simp [*]) [*, -Int.not_le, -Int.not_lt, -Nat.not_le, -Nat.not_lt, -Nat.add_left_cancel_iff, wrap_i64, wrap_u64, Tryd.f52, isI_cells hv, isI_one hv, isI_low hv, isI_low0 hv, isI_len hv])
  · rw [Bool.eq_iff_iff]; simp; grind [PCtx]
  all_goals grind [PCtx]
theorem iIsContext_s {n : Int} {v : AV} (hv : IsI v) {K : AV → Prop} {tg : Tg K} : CW env 52 [.agg [.int .i64 n, v]] K tg ↔ K (.bool (decide (PCtx n (xsOf v)))) := callsTo_iff (iIsContext_c hv)
attribute [simp] iIsContext_s
/-- a context's slice, measured -/
theorem szContext_c {m : Int} {v : AV} {n : Int} (hv : IsI v) (h0 : 0 ≤ n) (h1 : n ≤ 1048576) : EvC env 8 [.agg [.int .i64 m, v], .int .i64 n] (.int .i64 (if n < (xsOf v).length then -1 else n - (xsOf v).length)) := by
  refine evC_of (F := Tryd.f8) rfl rfl (Nat.le_of_ble_eq_true rfl) ?_
  have := hv.len
  repeat' (first | (apply br_intro <;> intro hb <;> (have hb2 := hb) <;> (try simp [-Int.not_le, -Int.not_lt, -Nat.not_le, -Nat.not_lt, -Nat.add_left_cancel_iff] at hb2)) | (refine draw_listA (by rfl) (by kernel_rfl) ?_) | (refine draw_listB (by simp [allocsOf, isAlloc]; rfl) (by kernel_rfl) ?_) | simp (maxSteps := 2000000) (disch := first | omega | assumption | simp [*]) [*, -Int.not_le, -Int.not_lt, -Nat.not_le, -Nat.not_lt, -Nat.add_left_cancel_iff, wrap_i64, wrap_u64, Tryd.f8, isI_cells hv, isI_one hv, isI_low hv])
  all_goals grind
theorem szContext_s {m : Int} {v : AV} {n : Int} (hv : IsI v) (h0 : 0 ≤ n) (h1 : n ≤ 1048576) {K : AV → Prop} {tg : Tg K} : CW env 8 [.agg [.int .i64 m, v], .int .i64 n] K tg ↔ K (.int .i64 (if n < (xsOf v).length then -1 else n - (xsOf v).length)) := callsTo_iff (szContext_c hv h0 h1)
attribute [simp] szContext_s
theorem toContext_c {m : Int} {v : AV} (hv : IsI v) (hl : (xsOf v).length ≤ 1048576) : EvC env 10 [.agg [.int .i64 m, v]] (.agg [.int .i64 m, rowR 1 3 9 (ints (xsOf v))]) := by
  refine evC_of (F := Tryd.f10) rfl rfl (Nat.le_of_ble_eq_true rfl) ?_
  have := hv.len
  repeat' (first | (apply br_intro <;> intro hb <;> (have hb2 := hb) <;> (try simp [-Int.not_le, -Int.not_lt, -Nat.not_le, -Nat.not_lt, -Nat.add_left_cancel_iff] at hb2)) | (refine draw_listA (by rfl) (by kernel_rfl) ?_) | (refine draw_listB (by simp [allocsOf, isAlloc]; rfl) (by kernel_rfl) ?_) | simp (maxSteps := 2000000) (disch := first | omega | assumption | simp [*]) [*, -Int.not_le, -Int.not_lt, -Nat.not_le, -Nat.not_lt, -Nat.add_left_cancel_iff, wrap_i64, wrap_u64, Tryd.f10, isI_cells hv, isI_one hv, isI_low hv])
  refine cf_row (by simpa [isI_low hv] using toIntS_c hv hl) (ownR_row ..) (by simp) rfl ?_
  intro v2 h2 hR hh
  have o2 := hR.one
  have c2 := hR.cells
  repeat' (first | (apply br_intro <;> intro hb <;> (have hb2 := hb) <;> (try simp [-Int.not_le, -Int.not_lt, -Nat.not_le, -Nat.not_lt, -Nat.add_left_cancel_iff] at hb2)) | (refine draw_listA (by rfl) (by kernel_rfl) ?_) | (refine draw_listB (by simp [allocsOf, isAlloc]; rfl) (by kernel_rfl) ?_) | simp (maxSteps := 2000000) (disch := first | omega | assumption | simp [*]) [*, -Int.not_le, -Int.not_lt, -Nat.not_le, -Nat.not_lt, -Nat.add_left_cancel_iff, wrap_i64, wrap_u64])
  rw [(hR.keep (by simp [hset])).expoI, rowX_row]
theorem toContext_s {m : Int} {v : AV} (hv : IsI v) (hl : (xsOf v).length ≤ 1048576) {K : AV → Prop} {tg : Tg K} : CW env 10 [.agg [.int .i64 m, v]] K tg ↔ K (.agg [.int .i64 m, rowR 1 3 9 (ints (xsOf v))]) := callsTo_iff (toContext_c hv hl)
attribute [simp] toContext_s
theorem eqContext_c {m m2 : Int} {u v : AV} (hu : IsI u) (hv : IsI v) : EvC env 12 [.agg [.int .i64 m, u], .agg [.int .i64 m2, v]] (.bool (decide (m = m2 ∧ xsOf u = xsOf v))) := by
  refine evC_of (F := Tryd.f12) rfl rfl (Nat.le_of_ble_eq_true rfl) ?_
  repeat' (first | (apply br_intro <;> intro hb <;> (have hb2 := hb) <;> (try simp [-Int.not_le, -Int.not_lt, -Nat.not_le, -Nat.not_lt, -Nat.add_left_cancel_iff] at hb2)) | (refine draw_listA (by rfl) (by kernel_rfl) ?_) | (refine draw_listB (by simp [allocsOf, isAlloc]; rfl) (by kernel_rfl) ?_) | simp (maxSteps := 2000000) (disch := first | omega | assumption | simp [*]) [*, -Int.not_le, -Int.not_lt, -Nat.not_le, -Nat.not_lt, -Nat.add_left_cancel_iff, wrap_i64, wrap_u64, Tryd.f12, isI_cells hv, isI_one hv, isI_low hv, isI_cells hu, isI_one hu, isI_low hu])
theorem eqContext_s {m m2 : Int} {u v : AV} (hu : IsI u) (hv : IsI v) {K : AV → Prop} {tg : Tg K} : CW env 12 [.agg [.int .i64 m, u], .agg [.int .i64 m2, v]] K tg ↔ K (.bool (decide (m = m2 ∧ xsOf u = xsOf v))) := callsTo_iff (eqContext_c hu hv)
attribute [simp] eqContext_s
theorem checked_o {n : Int} {u w : AV} {h : Heap} {off : Nat} {K : AV → Heap → Prop} (o1 : u.one = true) (c1 : u.cells = [u]) (hl : ∀ h, low h u = w) (hw : IsI w) (hT : PCtx n (xsOf w) → ∀ h', (∀ x, x ≠ off + 1 → x ≠ off + 2 → h' x = h x) → K (.tup [.agg [.int .i64 n, u], .bool true]) h') (hF : ¬ PCtx n (xsOf w) → ∀ h', (∀ x, x ≠ off + 1 → x ≠ off + 2 → h' x = h x) → K (.tup [.agg [.int .i64 0, .sl 0 .lit []], .bool false]) h') : OpenTo env 60 [.agg [.int .i64 n, u]] h off K := by
  refine openTo_of (F := Tryd.f60) rfl rfl (Nat.le_of_ble_eq_true rfl) ?_
  repeat' (first | (apply br_intro <;> intro hb <;> (have hb2 := hb) <;> (try simp [-Int.not_le, -Int.not_lt, -Nat.not_le, -Nat.not_lt, -Nat.add_left_cancel_iff] at hb2)) | (refine draw_listA (by rfl) (by kernel_rfl) ?_) | (refine draw_listB (by simp [allocsOf, isAlloc]; rfl) (by kernel_rfl) ?_) | simp (maxSteps := 2000000) (disch := first | omega | assumption | simp [*]) [*, -Int.not_le, -Int.not_lt, -Nat.not_le, -Nat.not_lt, -Nat.add_left_cancel_iff, wrap_i64, wrap_u64, Tryd.f60])
  · exact hF hb2 _ fun x g1 g2 => by simp [hset, g1, g2]
  · exact hT hb2 _ fun x g1 g2 => by simp [hset, g1, g2]
theorem markIntS_o {v : AV} {key T k0 : Nat} {xs : List Int} {k : Int} {h : Heap} {off : Nat} {K : AV → Heap → Prop} (hR : Row h key T 1 k0 v (ints xs)) (h0 : 0 ≤ k) (h1 : k + xs.length ≤ 4611686018427387904) (hK : ∀ h', Row h' key T 1 k0 v (ints (upTo k xs.length)) → (∀ x, x ≠ key → h' x = h x) → K (.int .i64 (k + xs.length)) h') : OpenTo env 56 [v, .int .i64 k] h off K := by
  refine openTo_of (F := Tryd.f56) rfl rfl (Nat.le_of_ble_eq_true rfl) ?_
  repeat' (first | (apply br_intro <;> intro hb <;> (have hb2 := hb) <;> (try simp [-Int.not_le, -Int.not_lt, -Nat.not_le, -Nat.not_lt, -Nat.add_left_cancel_iff] at hb2)) | (refine draw_listA (by rfl) (by kernel_rfl) ?_) | (refine draw_listB (by simp [allocsOf, isAlloc]; rfl) (by kernel_rfl) ?_) | simp (maxSteps := 2000000) (disch := first | omega | assumption | simp [*]) [*, -Int.not_le, -Int.not_lt, -Nat.not_le, -Nat.not_lt, -Nat.add_left_cancel_iff, wrap_i64, wrap_u64, Tryd.f56])
  refine W_loopG xs.length (fun i s h' => s 5 = .int .i64 i ∧ s 0 = v ∧ s 1 = .int .i64 (k + i) ∧ (∀ x, x ≠ key → h' x = h x) ∧ ∃ ys, Row h' key T 1 k0 v (ints ys) ∧ ys.length = xs.length ∧ ∀ j, j < i → ys[j]? = some (k + (j : Int))) ?_ ?_
  · simp; exact ⟨xs, hR, rfl⟩
  rintro i s h2 hi ⟨h5, h0, h1, hh, ys, hR2, hy, hj⟩
  have hlen := fun E t ht => hR2.len (E := E) (t := t) ht
  by_cases hi2 : i < xs.length
  · rcases hR2 with ⟨e, _⟩ | ⟨hx, g, rfl, hg⟩
    · rw [show ys = [] by simpa using e] at hy; simp at hy; omega
    repeat' (first | (apply br_intro <;> intro hb <;> (have hb2 := hb) <;> (try simp [-Int.not_le, -Int.not_lt, -Nat.not_le, -Nat.not_lt, -Nat.add_left_cancel_iff] at hb2)) | (refine draw_listA (by rfl) (by kernel_rfl) ?_) | (refine draw_listB (by simp [allocsOf, isAlloc]; rfl) (by kernel_rfl) ?_) | simp (maxSteps := 2000000) (disch := first | omega | assumption | simp [*]) [*, -Int.not_le, -Int.not_lt, -Nat.not_le, -Nat.not_lt, -Nat.add_left_cancel_iff, wrap_i64, wrap_u64, h5, h0, h1])
    refine ⟨by omega, fun x a b => absurd b a, ys.set i (k + i), .inr ⟨by simpa using hx, g, by simp [hy], by simp [hset]⟩, by simp [hy], fun j hj2 => ?_⟩
    by_cases e : j = i
    · subst e; rw [List.getElem?_set_self (by omega)]
    · rw [List.getElem?_set_ne (by omega)]; exact hj j (by omega)
  · obtain rfl : i = xs.length := by omega
    repeat' (first | (apply br_intro <;> intro hb <;> (have hb2 := hb) <;> (try simp [-Int.not_le, -Int.not_lt, -Nat.not_le, -Nat.not_lt, -Nat.add_left_cancel_iff] at hb2)) | (refine draw_listA (by rfl) (by kernel_rfl) ?_) | (refine draw_listB (by simp [allocsOf, isAlloc]; rfl) (by kernel_rfl) ?_) | simp (maxSteps := 2000000) (disch := first | omega | assumption | simp [*]) [*, -Int.not_le, -Int.not_lt, -Nat.not_le, -Nat.not_lt, -Nat.add_left_cancel_iff, wrap_i64, wrap_u64, h5, h0, h1])
    rw [upTo_ext hy hj] at hR2
    exact hK _ hR2 hh
theorem markContext_o {m : Int} {v : AV} {key T k0 : Nat} {xs : List Int} {k : Int} {h : Heap} {off : Nat} {K : AV → Heap → Prop} (hR : Row h key T 1 k0 v (ints xs)) (hne : key ≠ off + 2) (h0 : 0 ≤ k) (h1 : k + xs.length ≤ 4611686018427387904) (hK : ∀ h', Row h' key T 1 k0 v (ints (upTo k xs.length)) → (∀ x, x ≠ key → x ≠ off + 2 → h' x = h x) → K (.int .i64 (k + xs.length)) h') : OpenTo env 20 [.agg [.int .i64 m, v], .int .i64 k] h off K := by
  refine openTo_of (F := Tryd.f20) rfl rfl (Nat.le_of_ble_eq_true rfl) ?_
  have o1 := hR.one
  have c1 := hR.cells
  repeat' (first | (apply br_intro <;> intro hb <;> (have hb2 := hb) <;> (try simp [-Int.not_le, -Int.not_lt, -Nat.not_le, -Nat.not_lt, -Nat.add_left_cancel_iff] at hb2)) | (refine draw_listA (by rfl) (by kernel_rfl) ?_) | (refine draw_listB (by simp [allocsOf, isAlloc]; rfl) (by kernel_rfl) ?_) | simp (maxSteps := 2000000) (disch := first | omega | assumption | simp [*]) [*, -Int.not_le, -Int.not_lt, -Nat.not_le, -Nat.not_lt, -Nat.add_left_cancel_iff, wrap_i64, wrap_u64, Tryd.f20])
  refine cf_open rfl rfl (markIntS_o (hR.keep (by simp [hset, hne])) h0 h1 fun h2 hR2 hh2 => ?_)
  repeat' (first | (apply br_intro <;> intro hb <;> (have hb2 := hb) <;> (try simp [-Int.not_le, -Int.not_lt, -Nat.not_le, -Nat.not_lt, -Nat.add_left_cancel_iff] at hb2)) | (refine draw_listA (by rfl) (by kernel_rfl) ?_) | (refine draw_listB (by simp [allocsOf, isAlloc]; rfl) (by kernel_rfl) ?_) | simp (maxSteps := 2000000) (disch := first | omega | assumption | simp [*]) [*, -Int.not_le, -Int.not_lt, -Nat.not_le, -Nat.not_lt, -Nat.add_left_cancel_iff, wrap_i64, wrap_u64])
  exact hK _ hR2 fun x g1 g2 => by rw [hh2 x g1]; simp [hset, g2]
end Go.Proofs.YtkkkgaapkibhkaaDoor
