/- Lists of concepts that cover a context. Conditions: none. -/
import Derived.Test.YtliecnadoklgoaaGreatDoorProd
import Derived.Test.YtliecnadoklgoaaGreatDoorExtI
import Derived.Test.YtliecnadoklgoaaGreatDoorLatP
namespace Go.Proofs.YtliecnadoklgoaaGreatDoor
open Ev
set_option linter.unusedVariables false
set_option linter.unusedSimpArgs false
set_option maxHeartbeats 4000000

theorem indexFuncP_c {v : AV} {g : Nat} {caps : List AV} {p : Int → Int → Bool} (hv : IsP v) (hx : env.ext g = none) (ho : env.open_ g = false) (hl : ∀ h, lows h caps = caps) (hp : ∀ x y, EvC env g (.agg [.int .i64 x, .int .i64 y] :: caps) (.bool (p x y))) : EvC env 225 [v, .fn g caps] (.int .i64 (idxP p (fsts v) (snds v))) := by
  refine evC_of (F := Tryz.f225) rfl rfl (Nat.le_of_ble_eq_true rfl) ?_
  have := hv.len
  have hll := hv.lens
  unfold top63 at this
  have hp2 : ∀ (x y : Int) (K : AV → Prop) (tg : Tg K), CW env g (.agg [.int .i64 x, .int .i64 y] :: caps) K tg ↔ K (.bool (p x y)) := fun x y K tg => callsTo_iff (hp x y)
  repeat' (first | (apply brI <;> intro hb hb2 <;> (try simp [-Int.not_le, -Int.not_lt, -Nat.not_le, -Nat.not_lt, -Nat.add_left_cancel_iff] at hb2)) | (refine draw_listA (by rfl) (by kernel_rfl) ?_) | (refine draw_listB (by simp [allocsOf, isAlloc]; rfl) (by kernel_rfl) ?_) | simp (maxSteps := 2000000) (disch := first | omega | assumption | simp [*]) [*, -Int.not_le, -Int.not_lt, -Nat.not_le, -Nat.not_lt, -Nat.add_left_cancel_iff, wrap_i64, wrap_u64, Tryz.f225, isP_len hv])
  refine W_loopG (fsts v).length (fun i s h => h = hnil ∧ s 8 = .int .i64 i ∧ s 7 = .int .i64 (fsts v).length ∧ s 0 = v ∧ s 1 = .fn g caps ∧ ∀ j, j < i → p (nth (fsts v) j) (nth (snds v) j) = false) ?_ ?_
  · simp
  rintro i s h hi ⟨rfl, h8, h7, h0, h1, hj⟩
  by_cases hi2 : i < (fsts v).length
  · repeat' (first | (apply brI <;> intro hb hb2 <;> (try simp [-Int.not_le, -Int.not_lt, -Nat.not_le, -Nat.not_lt, -Nat.add_left_cancel_iff] at hb2)) | (refine draw_listA (by rfl) (by kernel_rfl) ?_) | (refine draw_listB (by simp [allocsOf, isAlloc]; rfl) (by kernel_rfl) ?_) | simp (maxSteps := 2000000) (disch := first | omega | assumption | simp [*]) [*, -Int.not_le, -Int.not_lt, -Nat.not_le, -Nat.not_lt, -Nat.add_left_cancel_iff, wrap_i64, wrap_u64, h8, h7, h0, h1, isP_len hv, isP_index hv])
    · rw [idxP_some hi2 (by assumption) hj]
    · intro j hj2
      by_cases e : j = i
      · subst e; simpa using hb2
      · exact hj j (by omega)
  · obtain rfl : i = (fsts v).length := by omega
    repeat' (first | (apply brI <;> intro hb hb2 <;> (try simp [-Int.not_le, -Int.not_lt, -Nat.not_le, -Nat.not_lt, -Nat.add_left_cancel_iff] at hb2)) | (refine draw_listA (by rfl) (by kernel_rfl) ?_) | (refine draw_listB (by simp [allocsOf, isAlloc]; rfl) (by kernel_rfl) ?_) | simp (maxSteps := 2000000) (disch := first | omega | assumption | simp [*]) [*, -Int.not_le, -Int.not_lt, -Nat.not_le, -Nat.not_lt, -Nat.add_left_cancel_iff, wrap_i64, wrap_u64, h8, h7, h0, h1, isP_len hv])
    rw [idxP_none hj]
theorem indexFuncP_s {v : AV} {g : Nat} {caps : List AV} {p : Int → Int → Bool} (hv : IsP v) (hx : env.ext g = none) (ho : env.open_ g = false) (hl : ∀ h, lows h caps = caps) (hp : ∀ x y, EvC env g (.agg [.int .i64 x, .int .i64 y] :: caps) (.bool (p x y))) {K : AV → Prop} {tg : Tg K} : CW env 225 [v, .fn g caps] K tg ↔ K (.int .i64 (idxP p (fsts v) (snds v))) := callsTo_iff (indexFuncP_c hv hx ho hl hp)
attribute [simp] indexFuncP_s
theorem containsFuncP_c {v : AV} {g : Nat} {caps : List AV} {p : Int → Int → Bool} (hv : IsP v) (hx : env.ext g = none) (ho : env.open_ g = false) (hl : ∀ h, lows h caps = caps) (hp : ∀ x y, EvC env g (.agg [.int .i64 x, .int .i64 y] :: caps) (.bool (p x y))) : EvC env 178 [v, .fn g caps] (.bool (anyP p (fsts v) (snds v))) := by
  refine evC_of (F := Tryz.f178) rfl rfl (Nat.le_of_ble_eq_true rfl) ?_
  have hcf : ∀ (K : AV → Prop) (tg : Tg K), CW env 225 [v, .fn g caps] K tg ↔ K (.int .i64 (idxP p (fsts v) (snds v))) := fun K tg => callsTo_iff (indexFuncP_c hv hx ho hl hp)
  repeat' (first | (apply brI <;> intro hb hb2 <;> (try simp [-Int.not_le, -Int.not_lt, -Nat.not_le, -Nat.not_lt, -Nat.add_left_cancel_iff] at hb2)) | (refine draw_listA (by rfl) (by kernel_rfl) ?_) | (refine draw_listB (by simp [allocsOf, isAlloc]; rfl) (by kernel_rfl) ?_) | simp (maxSteps := 2000000) (disch := first | omega | assumption | simp [*]) [*, -Int.not_le, -Int.not_lt, -Nat.not_le, -Nat.not_lt, -Nat.add_left_cancel_iff, wrap_i64, wrap_u64, Tryz.f178, isP_low hv, low_fn])
  rw [Bool.eq_iff_iff, ← idxP_any]; simp
theorem containsFuncP_s {v : AV} {g : Nat} {caps : List AV} {p : Int → Int → Bool} (hv : IsP v) (hx : env.ext g = none) (ho : env.open_ g = false) (hl : ∀ h, lows h caps = caps) (hp : ∀ x y, EvC env g (.agg [.int .i64 x, .int .i64 y] :: caps) (.bool (p x y))) {K : AV → Prop} {tg : Tg K} : CW env 178 [v, .fn g caps] K tg ↔ K (.bool (anyP p (fsts v) (snds v))) := callsTo_iff (containsFuncP_c hv hx ho hl hp)
attribute [simp] containsFuncP_s
def CovC (n : Int) (xs F S : List Int) : Prop := PCtx n xs ∧ (∀ k, k < F.length → IsCon n xs (nth F k) (nth S k)) ∧ tab (prodRow F S n.toNat F.length) xs.length = xs
noncomputable instance (n : Int) (xs F S : List Int) : Decidable (CovC n xs F S) := Classical.propDecidable _
theorem cov_prod {n : Int} {xs F S : List Int} (hp : PCtx n xs) (h : ∀ k, k < F.length → IsCon n xs (nth F k) (nth S k)) : ProdC xs.length n F S := by
  have h1 := hp.1
  have h2 := hp.2.1
  have h3 := hp.2.2.1
  exact ⟨⟨by omega, by omega⟩, ⟨h1, h2⟩, fun k hk => ⟨(h k hk).2.1, (h k hk).2.2.1⟩⟩
theorem sIsCover_c {n : Int} {u v : AV} (hu : IsI u) (hv : IsP v) : EvC env 83 [.agg [.int .i64 n, u], v] (.bool (decide (CovC n (xsOf u) (fsts v) (snds v)))) := by
  refine evC_of (F := Tryz.f83) rfl rfl (Nat.le_of_ble_eq_true rfl) ?_
  have hul := hu.len
  have hvl := hv.len
  have hll := hv.lens
  unfold top63 at hvl
  by_cases hp : PCtx n (xsOf u)
  · repeat' (first | (apply brI <;> intro hb hb2 <;> (try simp [-Int.not_le, -Int.not_lt, -Nat.not_le, -Nat.not_lt, -Nat.add_left_cancel_iff] at hb2)) | (refine draw_listA (by rfl) (by kernel_rfl) ?_) | (refine draw_listB (by simp [allocsOf, isAlloc]; rfl) (by kernel_rfl) ?_) | simp (maxSteps := 2000000) (disch := first | omega | assumption | simp [*]) [*, -Int.not_le, -Int.not_lt, -Nat.not_le, -Nat.not_lt, -Nat.add_left_cancel_iff, wrap_i64, wrap_u64, Tryz.f83, isI_cells hu, isI_one hu, isI_low hu, isI_len hu, isP_len hv])
    refine W_loopG (fsts v).length (fun i s h => s 5 = .int .i64 i ∧ s 1 = v ∧ s 2 = .vp 2 0 0 ∧ h 2 = some (.var 0 26 (.agg [.int .i64 n, u])) ∧ ∀ j, j < i → IsCon n (xsOf u) (nth (fsts v) j) (nth (snds v) j)) ?_ ?_
    · simp [*]
    rintro i s h hi ⟨h5, h1, h2, e2, hj⟩
    by_cases hi2 : i < (fsts v).length
    · by_cases hc : IsCon n (xsOf u) (nth (fsts v) i) (nth (snds v) i)
      · have hj2 : ∀ j, j < i + 1 → IsCon n (xsOf u) (nth (fsts v) j) (nth (snds v) j) := fun j hj3 => by
          by_cases e : j = i
          · subst e; exact hc
          · exact hj j (by omega)
        clear hj
        repeat' (first | (apply brI <;> intro hb hb2 <;> (try simp [-Int.not_le, -Int.not_lt, -Nat.not_le, -Nat.not_lt, -Nat.add_left_cancel_iff] at hb2)) | (refine draw_listA (by rfl) (by kernel_rfl) ?_) | (refine draw_listB (by simp [allocsOf, isAlloc]; rfl) (by kernel_rfl) ?_) | simp (maxSteps := 2000000) (disch := first | omega | assumption | simp [*]) [*, -Int.not_le, -Int.not_lt, -Nat.not_le, -Nat.not_lt, -Nat.add_left_cancel_iff, wrap_i64, wrap_u64, h5, h1, h2, e2, isI_cells hu, isI_one hu, isI_low hu, isI_len hu, isP_len hv, isP_index hv, isP_noKey hv])
        exact hj2
      · have hno : ¬ CovC n (xsOf u) (fsts v) (snds v) := fun h => hc (h.2.1 i hi2)
        clear hj
        repeat' (first | (apply brI <;> intro hb hb2 <;> (try simp [-Int.not_le, -Int.not_lt, -Nat.not_le, -Nat.not_lt, -Nat.add_left_cancel_iff] at hb2)) | (refine draw_listA (by rfl) (by kernel_rfl) ?_) | (refine draw_listB (by simp [allocsOf, isAlloc]; rfl) (by kernel_rfl) ?_) | simp (maxSteps := 2000000) (disch := first | omega | assumption | simp [*]) [*, -Int.not_le, -Int.not_lt, -Nat.not_le, -Nat.not_lt, -Nat.add_left_cancel_iff, wrap_i64, wrap_u64, h5, h1, h2, e2, isI_cells hu, isI_one hu, isI_low hu, isI_len hu, isP_len hv, isP_index hv, isP_noKey hv])
    · obtain rfl : i = (fsts v).length := by omega
      have hP := cov_prod hp hj
      have hN : IsI (.sl 1 .no (ints (tab (prodRow (fsts v) (snds v) n.toNat (fsts v).length) (xsOf u).length))) := isI_no (by simpa using hul)
      have hno : noEx (prodV 3 22 (xsOf u).length n (fsts v) (snds v)) = .sl 1 .no (ints (tab (prodRow (fsts v) (snds v) n.toNat (fsts v).length) (xsOf u).length)) := by simp [prodV, hP]
      have hcv : CovC n (xsOf u) (fsts v) (snds v) ↔ tab (prodRow (fsts v) (snds v) n.toNat (fsts v).length) (xsOf u).length = xsOf u := ⟨fun h => h.2.2, fun h => ⟨hp, hj, h⟩⟩
      clear hj
      repeat' (first | (apply brI <;> intro hb hb2 <;> (try simp [-Int.not_le, -Int.not_lt, -Nat.not_le, -Nat.not_lt, -Nat.add_left_cancel_iff] at hb2)) | (refine draw_listA (by rfl) (by kernel_rfl) ?_) | (refine draw_listB (by simp [allocsOf, isAlloc]; rfl) (by kernel_rfl) ?_) | simp (maxSteps := 2000000) (disch := first | omega | assumption | simp [*]) [*, -Int.not_le, -Int.not_lt, -Nat.not_le, -Nat.not_lt, -Nat.add_left_cancel_iff, wrap_i64, wrap_u64, h5, h1, h2, e2, isI_cells hu, isI_one hu, isI_low hu, isI_len hu, isP_len hv, isP_low hv, isI_cells hN, isI_one hN, isI_low hN])
  · have hno : ¬ CovC n (xsOf u) (fsts v) (snds v) := fun h => hp h.1
    repeat' (first | (apply brI <;> intro hb hb2 <;> (try simp [-Int.not_le, -Int.not_lt, -Nat.not_le, -Nat.not_lt, -Nat.add_left_cancel_iff] at hb2)) | (refine draw_listA (by rfl) (by kernel_rfl) ?_) | (refine draw_listB (by simp [allocsOf, isAlloc]; rfl) (by kernel_rfl) ?_) | simp (maxSteps := 2000000) (disch := first | omega | assumption | simp [*]) [*, -Int.not_le, -Int.not_lt, -Nat.not_le, -Nat.not_lt, -Nat.add_left_cancel_iff, wrap_i64, wrap_u64, Tryz.f83, isI_cells hu, isI_one hu, isI_low hu, isI_len hu, isP_len hv])
theorem sIsCover_s {n : Int} {u v : AV} (hu : IsI u) (hv : IsP v) {K : AV → Prop} {tg : Tg K} : CW env 83 [.agg [.int .i64 n, u], v] K tg ↔ K (.bool (decide (CovC n (xsOf u) (fsts v) (snds v)))) := callsTo_iff (sIsCover_c hu hv)
attribute [simp] sIsCover_s
theorem iCover1_c {n x y : Int} {u : AV} (hu : IsI u) : EvC env 179 [.agg [.int .i64 x, .int .i64 y], .cp true [.int .i64 n, u] 0] (.bool (!decide (IsCon n (xsOf u) x y))) := by
  refine evC_of (F := Tryz.f179) rfl rfl (Nat.le_of_ble_eq_true rfl) ?_
  repeat' (first | (apply brI <;> intro hb hb2 <;> (try simp [-Int.not_le, -Int.not_lt, -Nat.not_le, -Nat.not_lt, -Nat.add_left_cancel_iff] at hb2)) | (refine draw_listA (by rfl) (by kernel_rfl) ?_) | (refine draw_listB (by simp [allocsOf, isAlloc]; rfl) (by kernel_rfl) ?_) | simp (maxSteps := 2000000) (disch := first | omega | assumption | simp [*]) [*, -Int.not_le, -Int.not_lt, -Nat.not_le, -Nat.not_lt, -Nat.add_left_cancel_iff, wrap_i64, wrap_u64, Tryz.f179, isI_cells hu, isI_one hu, isI_low hu, isI_low0 hu])
theorem iCover1_s {n x y : Int} {u : AV} (hu : IsI u) {K : AV → Prop} {tg : Tg K} : CW env 179 [.agg [.int .i64 x, .int .i64 y], .cp true [.int .i64 n, u] 0] K tg ↔ K (.bool (!decide (IsCon n (xsOf u) x y))) := callsTo_iff (iCover1_c hu)
attribute [simp] iCover1_s
theorem iIsCover_c {n : Int} {u v : AV} (hu : IsI u) (hv : IsP v) : EvC env 82 [.agg [.int .i64 n, u], v] (.bool (decide (CovC n (xsOf u) (fsts v) (snds v)))) := by
  refine evC_of (F := Tryz.f82) rfl rfl (Nat.le_of_ble_eq_true rfl) ?_
  have hul := hu.len
  have hvl := hv.len
  have hll := hv.lens
  unfold top63 at hvl
  have hcf : ∀ (K : AV → Prop) (tg : Tg K), CW env 178 [v, .fn 179 [.cp true [.int .i64 n, u] 0]] K tg ↔ K (.bool (anyP (fun x y => !decide (IsCon n (xsOf u) x y)) (fsts v) (snds v))) :=
    fun K tg => callsTo_iff (containsFuncP_c hv rfl rfl (fun h => by simp [isI_low0 hu]) (fun x y => iCover1_c hu))
  have hany : anyP (fun x y => !decide (IsCon n (xsOf u) x y)) (fsts v) (snds v) = false ↔ ∀ k, k < (fsts v).length → IsCon n (xsOf u) (nth (fsts v) k) (nth (snds v) k) := by
    simp [anyP]
  by_cases hp : PCtx n (xsOf u)
  · by_cases hc : ∀ k, k < (fsts v).length → IsCon n (xsOf u) (nth (fsts v) k) (nth (snds v) k)
    · have hA := hany.2 hc
      have hP := cov_prod hp hc
      have hN : IsI (.sl 1 .no (ints (tab (prodRow (fsts v) (snds v) n.toNat (fsts v).length) (xsOf u).length))) := isI_no (by simpa using hul)
      have hno : noEx (prodV 3 24 (xsOf u).length n (fsts v) (snds v)) = .sl 1 .no (ints (tab (prodRow (fsts v) (snds v) n.toNat (fsts v).length) (xsOf u).length)) := by simp [prodV, hP]
      have hcv : CovC n (xsOf u) (fsts v) (snds v) ↔ tab (prodRow (fsts v) (snds v) n.toNat (fsts v).length) (xsOf u).length = xsOf u := ⟨fun h => h.2.2, fun h => ⟨hp, hc, h⟩⟩
      clear hc hany
      repeat' (first | (apply brI <;> intro hb hb2 <;> (try simp [-Int.not_le, -Int.not_lt, -Nat.not_le, -Nat.not_lt, -Nat.add_left_cancel_iff] at hb2)) | (refine draw_listA (by rfl) (by kernel_rfl) ?_) | (refine draw_listB (by simp [allocsOf, isAlloc]; rfl) (by kernel_rfl) ?_) | simp (maxSteps := 2000000) (disch := first | omega | assumption | simp [*]) [*, -Int.not_le, -Int.not_lt, -Nat.not_le, -Nat.not_lt, -Nat.add_left_cancel_iff, wrap_i64, wrap_u64, Tryz.f82, isI_cells hu, isI_one hu, isI_low hu, isI_low0 hu, isI_len hu, isP_low hv, isI_cells hN, isI_one hN, isI_low hN])
    · have hA : anyP (fun x y => !decide (IsCon n (xsOf u) x y)) (fsts v) (snds v) = true := by
        cases h : anyP (fun x y => !decide (IsCon n (xsOf u) x y)) (fsts v) (snds v) with
        | true => rfl
        | false => exact (hc (hany.1 h)).elim
      have hno : ¬ CovC n (xsOf u) (fsts v) (snds v) := fun h => hc h.2.1
      clear hc hany
      repeat' (first | (apply brI <;> intro hb hb2 <;> (try simp [-Int.not_le, -Int.not_lt, -Nat.not_le, -Nat.not_lt, -Nat.add_left_cancel_iff] at hb2)) | (refine draw_listA (by rfl) (by kernel_rfl) ?_) | (refine draw_listB (by simp [allocsOf, isAlloc]; rfl) (by kernel_rfl) ?_) | simp (maxSteps := 2000000) (disch := first | omega | assumption | simp [*]) [*, -Int.not_le, -Int.not_lt, -Nat.not_le, -Nat.not_lt, -Nat.add_left_cancel_iff, wrap_i64, wrap_u64, Tryz.f82, isI_cells hu, isI_one hu, isI_low hu, isI_low0 hu, isI_len hu, isP_low hv])
  · have hno : ¬ CovC n (xsOf u) (fsts v) (snds v) := fun h => hp h.1
    clear hany
    repeat' (first | (apply brI <;> intro hb hb2 <;> (try simp [-Int.not_le, -Int.not_lt, -Nat.not_le, -Nat.not_lt, -Nat.add_left_cancel_iff] at hb2)) | (refine draw_listA (by rfl) (by kernel_rfl) ?_) | (refine draw_listB (by simp [allocsOf, isAlloc]; rfl) (by kernel_rfl) ?_) | simp (maxSteps := 2000000) (disch := first | omega | assumption | simp [*]) [*, -Int.not_le, -Int.not_lt, -Nat.not_le, -Nat.not_lt, -Nat.add_left_cancel_iff, wrap_i64, wrap_u64, Tryz.f82, isI_cells hu, isI_one hu, isI_low hu, isI_low0 hu, isI_len hu, isP_low hv])
theorem iIsCover_s {n : Int} {u v : AV} (hu : IsI u) (hv : IsP v) {K : AV → Prop} {tg : Tg K} : CW env 82 [.agg [.int .i64 n, u], v] K tg ↔ K (.bool (decide (CovC n (xsOf u) (fsts v) (snds v)))) := callsTo_iff (iIsCover_c hu hv)
attribute [simp] iIsCover_s
end Go.Proofs.YtliecnadoklgoaaGreatDoor
