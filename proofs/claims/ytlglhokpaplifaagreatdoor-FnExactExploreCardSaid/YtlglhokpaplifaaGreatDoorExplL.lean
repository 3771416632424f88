/- Exploration: equality and marks in laws. Conditions: none. -/
import Derived.Test.YtlglhokpaplifaaGreatDoorExplI
namespace Go.Proofs.YtlglhokpaplifaaGreatDoor
open Ev
set_option linter.unusedVariables false
set_option linter.unusedSimpArgs false
set_option maxHeartbeats 4000000

/- three rows of one result -/
theorem mat3_three {base : Nat} {h : Heap} {r : AV} {C : AV → AV → AV → AV} {R R2 R3 : AV} {k k0 T key k2 k02 T2 key2 k3 k03 T3 key3 : Nat} {es es2 es3 : List AV} (hR : OwnR R k k0 T key es) (hf : es.all flat = true) (hR2 : OwnR R2 k2 k02 T2 key2 es2) (hf2 : es2.all flat = true) (hR3 : OwnR R3 k3 k03 T3 key3 es3) (hf3 : es3.all flat = true) (hne : key ≠ key2) (hne2 : key ≠ key3) (hne3 : key2 ≠ key3)
    (hC : ∀ v L v2 L2 v3 L3, matG base h R 0 = some (v, L, 1) → matG base h R2 1 = some (v2, L2, 2) → matG base h R3 2 = some (v3, L3, 3) → matG base h r 0 = some (C v v2 v3, L ++ (L2 ++ L3), 3)) :
    ∃ v' v2' v3' h', mat3 base h r = some (C v' v2' v3', h') ∧ Row h' base T k k0 v' es ∧ Row h' (base + 1000) T2 k2 k02 v2' es2 ∧ Row h' (base + 2000) T3 k3 k03 v3' es3 ∧ ∀ x, x ≠ base → x ≠ base + 1000 → x ≠ base + 2000 → h' x = h x := by
  obtain ⟨v, L, h1, h2⟩ := matG_row (base := base) (h := h) (n := 0) hR hf
  obtain ⟨v2, L2, g1, g2⟩ := matG_row (base := base) (h := h) (n := 1) hR2 hf2
  obtain ⟨v3, L3, f1, f2⟩ := matG_row (base := base) (h := h) (n := 2) hR3 hf3
  have hnd : ((L ++ (L2 ++ L3)).map fun p => p.1).Nodup := by
    rcases h2 with ⟨_, _, rfl⟩ | ⟨_, _, rfl⟩ <;> rcases g2 with ⟨_, _, rfl⟩ | ⟨_, _, rfl⟩ <;> rcases f2 with ⟨_, _, rfl⟩ | ⟨_, _, rfl⟩ <;> simp
  refine ⟨v, v2, v3, hsets h (L ++ (L2 ++ L3)), ?_, ?_, ?_, ?_, ?_⟩
  · unfold mat3
    rw [hC v L v2 L2 v3 L3 h1 g1 f1]
    rcases h2 with ⟨_, _, rfl⟩ | ⟨_, _, rfl⟩ <;> rcases g2 with ⟨_, _, rfl⟩ | ⟨_, _, rfl⟩ <;> rcases f2 with ⟨_, _, rfl⟩ | ⟨_, _, rfl⟩ <;> simp [hne, hne2, hne3]
  · exact h2.row (h := hsets h (L ++ (L2 ++ L3))) fun p hp => hsets_at hnd p (List.mem_append_left _ hp)
  · exact g2.row (h := hsets h (L ++ (L2 ++ L3))) fun p hp => hsets_at hnd p (List.mem_append_right _ (List.mem_append_left _ hp))
  · exact f2.row (h := hsets h (L ++ (L2 ++ L3))) fun p hp => hsets_at hnd p (List.mem_append_right _ (List.mem_append_right _ hp))
  · intro x hx hx2 hx3
    refine hsets_off fun p hp => ?_
    rcases List.mem_append.1 hp with hp | hp
    · rcases h2 with ⟨_, _, rfl⟩ | ⟨_, _, rfl⟩
      · cases hp
      · obtain rfl := List.mem_singleton.1 hp
        exact fun e => hx e.symm
    · rcases List.mem_append.1 hp with hp | hp
      · rcases g2 with ⟨_, _, rfl⟩ | ⟨_, _, rfl⟩
        · cases hp
        · obtain rfl := List.mem_singleton.1 hp
          exact fun e => hx2 e.symm
      · rcases f2 with ⟨_, _, rfl⟩ | ⟨_, _, rfl⟩
        · cases hp
        · obtain rfl := List.mem_singleton.1 hp
          exact fun e => hx3 e.symm
theorem cf_expl {E : Env} {fid d g : Nat} {args : List AV} {s : Nat → AV} {h : Heap} {off nt : Nat} {K : AV → Heap → Prop} {tg : Tg ((⟨s, h, off, nt⟩ : St), K)} {kd : IntKind} {a : Int} {b : Bool} {R R2 R3 : AV} {k k0 T key k2 k02 T2 key2 k3 k03 T3 key3 : Nat} {es es2 es3 : List AV}
    (hc : EvC E g (lows h args) (.tup [.agg [R, R2, .int kd a, R3], .bool b])) (hR : OwnR R k k0 T key es) (hf : es.all flat = true) (hR2 : OwnR R2 k2 k02 T2 key2 es2) (hf2 : es2.all flat = true) (hR3 : OwnR R3 k3 k03 T3 key3 es3) (hf3 : es3.all flat = true) (hne : key ≠ key2) (hne2 : key ≠ key3) (hne3 : key2 ≠ key3) (he : mat3B E fid d g = true)
    (hK : ∀ v' v2' v3' h', Row h' (off + d) T k k0 v' es → Row h' (off + d + 1000) T2 k2 k02 v2' es2 → Row h' (off + d + 2000) T3 k3 k03 v3' es3 → (∀ x, x ≠ off + d → x ≠ off + d + 1000 → x ≠ off + d + 2000 → h' x = h x) → K (.tup [.agg [v', v2', .int kd a, v3'], .bool b]) h') : CF E fid (some d) g args ⟨s, h, off, nt⟩ K tg := by
  refine cf_mat3 he hc ?_
  obtain ⟨v', v2', v3', h', h1, h2, h3, h4, h5⟩ := mat3_three (base := off + d) (h := h) (r := .tup [.agg [R, R2, .int kd a, R3], .bool b]) (C := fun v v2 v3 => .tup [.agg [v, v2, .int kd a, v3], .bool b]) hR hf hR2 hf2 hR3 hf3 hne hne2 hne3 fun v L v2 L2 v3 L3 hm hm2 hm3 => by
    simp [matG, matGs, flat1, hm, hm2, hm3]
  exact ⟨_, _, h1, hK _ _ _ _ h2 h3 h4 h5⟩
theorem eqExploration_c {q1 q2 r1 r2 x1 x2 : AV} {m : Int} (hq1 : IsM q1) (hq2 : IsM q2) (he : esOf q1 = esOf q2) (hr1 : IsP r1) (hr2 : IsP r2) (hf : fsts r1 = fsts r2) (hs : snds r1 = snds r2) (hx1 : IsI x1) (hx2 : IsI x2) (hx : xsOf x1 = xsOf x2) : EvC env 26 [.agg [q1, r1, .int .i64 m, x1], .agg [q2, r2, .int .i64 m, x2]] (.bool true) := by
  refine evC_of (F := Tryz.f26) rfl rfl (Nat.le_of_ble_eq_true rfl) ?_
  have o1 := isM_one hq1
  have o2 := isM_one hq2
  have c1 := isM_cells hq1
  have c2 := isM_cells hq2
  have o3 := isP_one hr1
  have o4 := isP_one hr2
  have c3 := isP_cells hr1
  have c4 := isP_cells hr2
  have o5 := isI_one hx1
  have o6 := isI_one hx2
  have c5 := isI_cells hx1
  have c6 := isI_cells hx2
  have kq : ∀ (K : AV → Prop) (tg : Tg K), CW env 70 [q1, q2] K tg ↔ K (.bool true) := fun K tg => callsTo_iff (eqQuestionS_c hq1 hq2 he)
  have kr : ∀ (K : AV → Prop) (tg : Tg K), CW env 71 [r1, r2] K tg ↔ K (.bool true) := fun K tg => callsTo_iff (by
    have := eqRuleS_c hr1 hr2
    rw [decide_eq_true ⟨hf, hs⟩] at this; exact this)
  have kx : ∀ (K : AV → Prop) (tg : Tg K), CW env 27 [.agg [.int .i64 m, x1], .agg [.int .i64 m, x2]] K tg ↔ K (.bool true) := fun K tg => callsTo_iff (by
    have := eqContext_c (m := m) (m2 := m) hx1 hx2
    rw [decide_eq_true ⟨rfl, hx⟩] at this; exact this)
  clear he hf hs hx
  repeat' (first | (apply brI <;> intro hb hb2 <;> (try simp [-Int.not_le, -Int.not_lt, -Nat.not_le, -Nat.not_lt, -Nat.add_left_cancel_iff] at hb2)) | (refine draw_listA (by rfl) (by kernel_rfl) ?_) | (refine draw_listB (by simp [allocsOf, isAlloc]; rfl) (by kernel_rfl) ?_) | simp (maxSteps := 2000000) (disch := first | omega | assumption | simp [*]) [*, -Int.not_le, -Int.not_lt, -Nat.not_le, -Nat.not_lt, -Nat.add_left_cancel_iff, wrap_i64, wrap_u64, Tryz.f26, isM_low hq1, isM_low hq2, isP_low hr1, isP_low hr2, isI_low hx1, isI_low hx2])
theorem eqExploration_s {q1 q2 r1 r2 x1 x2 : AV} {m : Int} (hq1 : IsM q1) (hq2 : IsM q2) (he : esOf q1 = esOf q2) (hr1 : IsP r1) (hr2 : IsP r2) (hf : fsts r1 = fsts r2) (hs : snds r1 = snds r2) (hx1 : IsI x1) (hx2 : IsI x2) (hx : xsOf x1 = xsOf x2) {K : AV → Prop} {tg : Tg K} : CW env 26 [.agg [q1, r1, .int .i64 m, x1], .agg [q2, r2, .int .i64 m, x2]] K tg ↔ K (.bool true) := callsTo_iff (eqExploration_c hq1 hq2 he hr1 hr2 hf hs hx1 hx2 hx)
attribute [simp] eqExploration_s
theorem markExploration_o {q r x : AV} {k1 k2 k3 T1 T2 T3 z1 z2 z3 : Nat} {es : List AV} {xs ys zs : List Int} {m k : Int} {h : Heap} {off : Nat} {K : AV → Heap → Prop} (hQ : Row h k1 T1 4 z1 q es) (hq : IsQ es) (hR : Row h k2 T2 2 z2 r (prs xs ys)) (hyl : ys.length = xs.length) (hX : Row h k3 T3 1 z3 x (ints zs)) (h12 : k1 ≠ k2) (h13 : k1 ≠ k3) (h23 : k2 ≠ k3) (ho1 : k1 < off) (ho2 : k2 < off) (ho3 : k3 < off) (h0 : 0 ≤ k) (h1 : k + 4 * es.length + 2 * xs.length + zs.length ≤ 4611686018427387904) (hK : ∀ h', Row h' k1 T1 4 z1 q (mkQ k es.length) → Row h' k2 T2 2 z2 r (prs (mk2a (k + 4 * es.length) xs.length) (mk2b (k + 4 * es.length) xs.length)) → Row h' k3 T3 1 z3 x (ints (upTo (k + 4 * es.length + 2 * xs.length) zs.length)) → (∀ y, y ≠ k1 → y ≠ k2 → y ≠ k3 → y < off → h' y = h y) → K (.int .i64 (k + 4 * es.length + 2 * xs.length + zs.length)) h') : OpenTo env 31 [.agg [q, r, .int .i64 m, x], .int .i64 k] h off K := by
  refine openTo_of (F := Tryz.f31) rfl rfl (Nat.le_of_ble_eq_true rfl) ?_
  have o1 := hQ.one
  have c1 := hQ.cells
  have o2 := hR.one
  have c2 := hR.cells
  have o3 := hX.one
  have c3 := hX.cells
  repeat' (first | (apply brI <;> intro hb hb2 <;> (try simp [-Int.not_le, -Int.not_lt, -Nat.not_le, -Nat.not_lt, -Nat.add_left_cancel_iff] at hb2)) | (refine draw_listA (by rfl) (by kernel_rfl) ?_) | (refine draw_listB (by simp [allocsOf, isAlloc]; rfl) (by kernel_rfl) ?_) | simp (maxSteps := 2000000) (disch := first | omega | assumption | simp [*]) [*, -Int.not_le, -Int.not_lt, -Nat.not_le, -Nat.not_lt, -Nat.add_left_cancel_iff, wrap_i64, wrap_u64, Tryz.f31])
  refine cf_open rfl rfl (markQuestionS_o (hQ.keep (hset_other _ _ (by omega))) hq h0 (by omega) fun m1 hQ1 hm1 => ?_)
  have e1 := hm1 (off + 2) (by omega)
  simp [hset] at e1
  have hR1 := hR.keep ((hm1 k2 (by omega)).trans (hset_other _ _ (by omega)))
  have hX1 := hX.keep ((hm1 k3 (by omega)).trans (hset_other _ _ (by omega)))
  repeat' (first | (apply brI <;> intro hb hb2 <;> (try simp [-Int.not_le, -Int.not_lt, -Nat.not_le, -Nat.not_lt, -Nat.add_left_cancel_iff] at hb2)) | (refine draw_listA (by rfl) (by kernel_rfl) ?_) | (refine draw_listB (by simp [allocsOf, isAlloc]; rfl) (by kernel_rfl) ?_) | simp (maxSteps := 2000000) (disch := first | omega | assumption | simp [*]) [*, -Int.not_le, -Int.not_lt, -Nat.not_le, -Nat.not_lt, -Nat.add_left_cancel_iff, wrap_i64, wrap_u64])
  refine cf_open rfl rfl (markRuleS_o hR1 hyl (by omega) (by omega) fun m2 hR2 hm2 => ?_)
  have e2 := (hm2 (off + 2) (by omega)).trans e1
  have hQ2 := hQ1.keep (hm2 k1 (by omega))
  have hX2 := hX1.keep (hm2 k3 (by omega))
  repeat' (first | (apply brI <;> intro hb hb2 <;> (try simp [-Int.not_le, -Int.not_lt, -Nat.not_le, -Nat.not_lt, -Nat.add_left_cancel_iff] at hb2)) | (refine draw_listA (by rfl) (by kernel_rfl) ?_) | (refine draw_listB (by simp [allocsOf, isAlloc]; rfl) (by kernel_rfl) ?_) | simp (maxSteps := 2000000) (disch := first | omega | assumption | simp [*]) [*, -Int.not_le, -Int.not_lt, -Nat.not_le, -Nat.not_lt, -Nat.add_left_cancel_iff, wrap_i64, wrap_u64])
  refine cf_open rfl rfl (markContext_o (key := k3) hX2 (by simp only [farOff]; omega) (by omega) (by omega) fun m3 hX3 hm3 => ?_)
  have hm3' := fun y a b => hm3 y a b
  have hQ3 := hQ2.keep (hm3 k1 (by omega) (by simp only [farOff]; omega))
  have hR3 := hR2.keep (hm3 k2 (by omega) (by simp only [farOff]; omega))
  repeat' (first | (apply brI <;> intro hb hb2 <;> (try simp [-Int.not_le, -Int.not_lt, -Nat.not_le, -Nat.not_lt, -Nat.add_left_cancel_iff] at hb2)) | (refine draw_listA (by rfl) (by kernel_rfl) ?_) | (refine draw_listB (by simp [allocsOf, isAlloc]; rfl) (by kernel_rfl) ?_) | simp (maxSteps := 2000000) (disch := first | omega | assumption | simp [*]) [*, -Int.not_le, -Int.not_lt, -Nat.not_le, -Nat.not_lt, -Nat.add_left_cancel_iff, wrap_i64, wrap_u64])
  refine hK _ hQ3 hR3 hX3 fun y a b c d => ?_
  rw [hm3 y c (by simp only [farOff]; omega), hm2 y b, hm1 y a, hset_other _ _ (by omega)]
theorem heldExploration_c {q r x : AV} {m k : Int} (hq : IsM q) (hr : IsP r) (hx : IsI x) (h0 : 0 ≤ k) (h1 : k + 4 * (esOf q).length + 2 * (fsts r).length + (xsOf x).length ≤ 4611686018427387904) (e1 : esOf q = mkQ k (esOf q).length) (e2 : fsts r = mk2a (k + 4 * (esOf q).length) (fsts r).length) (e3 : snds r = mk2b (k + 4 * (esOf q).length) (fsts r).length) (e4 : xsOf x = upTo (k + 4 * (esOf q).length + 2 * (fsts r).length) (xsOf x).length) : EvC env 32 [.agg [q, r, .int .i64 m, x], .int .i64 k] (.int .i64 (k + 4 * (esOf q).length + 2 * (fsts r).length + (xsOf x).length)) := by
  refine evC_of (F := Tryz.f32) rfl rfl (Nat.le_of_ble_eq_true rfl) ?_
  have o1 := isM_one hq
  have c1 := isM_cells hq
  have o2 := isP_one hr
  have c2 := isP_cells hr
  have o3 := isI_one hx
  have c3 := isI_cells hx
  have kq : ∀ (K : AV → Prop) (tg : Tg K), CW env 74 [q, .int .i64 k] K tg ↔ K (.int .i64 (k + 4 * (esOf q).length)) := fun K tg => callsTo_iff (heldQuestionS_c hq h0 (by omega) e1)
  have kr : ∀ (K : AV → Prop) (tg : Tg K), CW env 75 [r, .int .i64 (k + 4 * (esOf q).length)] K tg ↔ K (.int .i64 (k + 4 * (esOf q).length + 2 * (fsts r).length)) := fun K tg => callsTo_iff (by
    have := heldRuleS_c (k := k + 4 * (esOf q).length) hr (by omega) (by omega)
    rw [if_pos ⟨e2, e3⟩] at this; exact this)
  have kx : ∀ (K : AV → Prop) (tg : Tg K), CW env 76 [.agg [.int .i64 m, x], .int .i64 (k + 4 * (esOf q).length + 2 * (fsts r).length)] K tg ↔ K (.int .i64 (k + 4 * (esOf q).length + 2 * (fsts r).length + (xsOf x).length)) := fun K tg => callsTo_iff (by
    have := heldContext_c (m := m) (k := k + 4 * (esOf q).length + 2 * (fsts r).length) hx (by omega) (by omega)
    rw [if_pos e4] at this; exact this)
  have n1 : ¬ (k + 4 * ((esOf q).length : Int) < 0) := by omega
  have n2 : ¬ (k + 4 * ((esOf q).length : Int) + 2 * ((fsts r).length : Int) < 0) := by omega
  have n3 : ¬ (k + 4 * ((esOf q).length : Int) + 2 * ((fsts r).length : Int) + ((xsOf x).length : Int) < 0) := by omega
  clear e1 e2 e3 e4
  repeat' (first | (apply brI <;> intro hb hb2 <;> (try simp [-Int.not_le, -Int.not_lt, -Nat.not_le, -Nat.not_lt, -Nat.add_left_cancel_iff] at hb2)) | (refine draw_listA (by rfl) (by kernel_rfl) ?_) | (refine draw_listB (by simp [allocsOf, isAlloc]; rfl) (by kernel_rfl) ?_) | simp (maxSteps := 2000000) (disch := first | omega | assumption | simp [*]) [*, -Int.not_le, -Int.not_lt, -Nat.not_le, -Nat.not_lt, -Nat.add_left_cancel_iff, wrap_i64, wrap_u64, Tryz.f32, isM_low hq, isP_low hr, isI_low hx])
theorem heldExploration_s {q r x : AV} {m k : Int} (hq : IsM q) (hr : IsP r) (hx : IsI x) (h0 : 0 ≤ k) (h1 : k + 4 * (esOf q).length + 2 * (fsts r).length + (xsOf x).length ≤ 4611686018427387904) (e1 : esOf q = mkQ k (esOf q).length) (e2 : fsts r = mk2a (k + 4 * (esOf q).length) (fsts r).length) (e3 : snds r = mk2b (k + 4 * (esOf q).length) (fsts r).length) (e4 : xsOf x = upTo (k + 4 * (esOf q).length + 2 * (fsts r).length) (xsOf x).length) {K : AV → Prop} {tg : Tg K} : CW env 32 [.agg [q, r, .int .i64 m, x], .int .i64 k] K tg ↔ K (.int .i64 (k + 4 * (esOf q).length + 2 * (fsts r).length + (xsOf x).length)) := callsTo_iff (heldExploration_c hq hr hx h0 h1 e1 e2 e3 e4)
attribute [simp] heldExploration_s
end Go.Proofs.YtlglhokpaplifaaGreatDoor
