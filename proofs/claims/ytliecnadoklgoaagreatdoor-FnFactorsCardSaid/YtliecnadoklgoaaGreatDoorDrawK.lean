/- What is drawn for the laws of kinds. Conditions: none. -/
import Derived.Test.YtliecnadoklgoaaGreatDoorDrawC
import Derived.Test.YtliecnadoklgoaaGreatDoorLatP
namespace Go.Proofs.YtliecnadoklgoaaGreatDoor
open Ev
set_option linter.unusedVariables false
set_option linter.unusedSimpArgs false
set_option maxHeartbeats 4000000

def QInt2 (xs : List AV) : Prop := ∃ a c : Int, xs = [.int .i64 a, .int .i64 c] ∧ -1 ≤ a ∧ a ≤ 65 ∧ -1 ≤ c ∧ c ≤ 65
def QInt1 (xs : List AV) : Prop := ∃ a : Int, xs = [.int .i64 a] ∧ -1 ≤ a ∧ a ≤ 65
theorem l6Two_t {b : AV} (hB : IsB b) (hbr : brwOf b = false) (hl : bLen b ≤ 1073741824) : CallsTo env 93 [b] (fun r => DrC r QInt2) := by
  refine callsTo_mk (F := Tryz.f93) rfl rfl (Nat.le_of_ble_eq_true rfl) ?_
  have hcb := isB_cells hB
  have hob := isB_one hB
  repeat' (first | (apply brI <;> intro hb hb2 <;> (try simp [-Int.not_le, -Int.not_lt, -Nat.not_le, -Nat.not_lt, -Nat.add_left_cancel_iff] at hb2)) | (refine draw_listA (by rfl) (by kernel_rfl) ?_) | (refine draw_listB (by simp [allocsOf, isAlloc]; rfl) (by kernel_rfl) ?_) | simp (maxSteps := 2000000) (disch := first | omega | assumption | simp [*]) [*, -Int.not_le, -Int.not_lt, -Nat.not_le, -Nat.not_lt, -Nat.add_left_cancel_iff, wrap_i64, wrap_u64, Tryz.f93, isB_low hB])
  refine cf_xp (by simpa [isB_low hB] using l1New_t hB hbr hl) rfl ?_
  rintro r ⟨hh, rfl⟩
  refine ⟨_, _, _, rfl, ?_⟩
  repeat' (first | (apply brI <;> intro hb hb2 <;> (try simp [-Int.not_le, -Int.not_lt, -Nat.not_le, -Nat.not_lt, -Nat.add_left_cancel_iff] at hb2)) | (refine draw_listA (by rfl) (by kernel_rfl) ?_) | (refine draw_listB (by simp [allocsOf, isAlloc]; rfl) (by kernel_rfl) ?_) | simp (maxSteps := 2000000) (disch := first | omega | assumption | simp [*]) [*, -Int.not_le, -Int.not_lt, -Nat.not_le, -Nat.not_lt, -Nat.add_left_cancel_iff, wrap_i64, wrap_u64])
  refine cf_open rfl rfl (l3Bent_o hB hl (g := 0) ⟨0, hh, by omega, by omega, by simp [hset, hnil]⟩ (by simp [farOff]) fun n rk v h1 hr1 hr2 hp hc1 hf1 => ?_)
  simp only [farOff] at hr1 hr2 hf1
  have ov := hp.one
  have cv := hp.cells
  obtain ⟨rows, hBr, hrl⟩ := id hp
  have hlr := hBr.low
  have hIr : IsI (bufC 0 rows) := isI_bufC (by unfold top63; omega)
  have f2 : h1 2 = some (.var 0 26 (.agg [.int .i64 0, .sl 0 .lit []])) := by rw [hf1 2 (by omega) (by omega)]; simp [hset]
  have f6 : h1 6 = none := by rw [hf1 6 (by omega) (by omega)]; simp [hset, hnil]
  have hP := conW_P n rows
  have hw := sCon_noEx n rows 101
  have hfl := conW_len n rows
  have hL := conL_len n rows
  have hcw : ∀ (K : AV → Prop) (tg : Tg K), CW env 100 [.agg [.int .i64 n, bufC 0 rows]] K tg ↔ K (bufLR 101 19 2 2 (conR rows (conL n rows))) := fun K tg => callsTo_iff (by simpa using sConcepts_c (n := n) hIr)
  generalize conW n rows = w at *
  obtain ⟨len, hlen⟩ : ∃ len, (conL n rows).length = len := ⟨_, rfl⟩
  rw [hlen] at hfl hL
  clear hf1 hBr
  repeat' (first | (apply brI <;> intro hb hb2 <;> (try simp [-Int.not_le, -Int.not_lt, -Nat.not_le, -Nat.not_lt, -Nat.add_left_cancel_iff] at hb2)) | (refine draw_listA (by rfl) (by kernel_rfl) ?_) | (refine draw_listB (by simp [allocsOf, isAlloc]; rfl) (by kernel_rfl) ?_) | simp (maxSteps := 2000000) (disch := first | omega | assumption | simp [*]) [*, -Int.not_le, -Int.not_lt, -Nat.not_le, -Nat.not_lt, -Nat.add_left_cancel_iff, wrap_i64, wrap_u64, f6, hlr])
  repeat' (first | (apply brI <;> intro hb hb2 <;> (try simp [-Int.not_le, -Int.not_lt, -Nat.not_le, -Nat.not_lt, -Nat.add_left_cancel_iff] at hb2)) | (refine draw_listA (by rfl) (by kernel_rfl) ?_) | (refine draw_listB (by simp [allocsOf, isAlloc]; rfl) (by kernel_rfl) ?_) | simp (maxSteps := 2000000) (disch := first | omega | assumption | simp [*]) [*, -Int.not_le, -Int.not_lt, -Nat.not_le, -Nat.not_lt, -Nat.add_left_cancel_iff, wrap_i64, wrap_u64, f6, hlr, isP_len hP])
  refine cf_open rfl rfl (l1Below_o hB hl (hc1.keep (hset_other _ _ (by omega))) fun x h2 hx _ hy hc2 hf2 => ?_)
  have hz := hy (by omega)
  have g2 : h2 2 = _ := ((hf2 2 (by omega)).trans (hset_other _ _ (by omega))).trans f2
  have g6 : h2 6 = some (.var 0 26 (.agg [.int .i64 n, v])) := by rw [hf2 6 (by omega)]; simp [hset, f6]
  have hp2 := hp.keep (h' := h2) (by rw [hf2 _ (by omega), hset_other _ _ (by omega)])
  clear hf2 hp f2 f6 hc1 hy hw hcw hlr hIr hrl
  repeat' (first | (apply brI <;> intro hb hb2 <;> (try simp [-Int.not_le, -Int.not_lt, -Nat.not_le, -Nat.not_lt, -Nat.add_left_cancel_iff] at hb2)) | simp (maxSteps := 2000000) (disch := first | omega | assumption | simp [*]) [*, -Int.not_le, -Int.not_lt, -Nat.not_le, -Nat.not_lt, -Nat.add_left_cancel_iff, wrap_i64, wrap_u64])
  refine draw_listK [6] [1, 0, 0, 0, 0, 2, 0, 0, 0, 0] (by kernel_rfl) (by kernel_rfl) (by kernel_rfl) (by kernel_rfl) ?_
  repeat' (first | (apply brI <;> intro hb hb2 <;> (try simp [-Int.not_le, -Int.not_lt, -Nat.not_le, -Nat.not_lt, -Nat.add_left_cancel_iff] at hb2)) | simp (maxSteps := 2000000) (disch := first | omega | assumption | simp [*]) [*, -Int.not_le, -Int.not_lt, -Nat.not_le, -Nat.not_lt, -Nat.add_left_cancel_iff, wrap_i64, wrap_u64, g2, g6])
  refine cf_open rfl rfl (l1Below_o hB hl hc2 fun y h3 hy _ hyy hc3 hf3 => ?_)
  have hz2 := hyy (by omega)
  refine ⟨kept1 (hf3 6 (by omega)), ?_⟩
  have i2 := (hf3 2 (by omega)).trans g2
  have hend : ∀ h', h' rk = h3 rk → DrC (.tup [.agg [.int .i64 n, expo h' v], .int .i64 (x - 1), .int .i64 (y - 1)]) QInt2 := fun h' e => drc_mk (ys := [.int .i64 (x - 1), .int .i64 (y - 1)]) (hp2.keep (by rw [e, hf3 _ (by omega)])) (by simp [noExs, noEx]) ⟨_, _, rfl, by omega, by omega, by omega, by omega⟩
  clear hf3 hyy hp2
  repeat' (first | (apply brI <;> intro hb hb2 <;> (try simp [-Int.not_le, -Int.not_lt, -Nat.not_le, -Nat.not_lt, -Nat.add_left_cancel_iff] at hb2)) | simp (maxSteps := 2000000) (disch := first | omega | assumption | simp [*]) [*, -Int.not_le, -Int.not_lt, -Nat.not_le, -Nat.not_lt, -Nat.add_left_cancel_iff, wrap_i64, wrap_u64, i2])
  exact hend _ (by rw [hset_other _ _ (by omega)])
theorem drawComplementsOf_t {b : AV} (hB : IsB b) (hbr : brwOf b = false) (hl : bLen b ≤ 1073741824) : CallsTo env 15 [b] (fun r => DrC r QInt1) := by
  refine callsTo_mk (F := Tryz.f15) rfl rfl (Nat.le_of_ble_eq_true rfl) ?_
  repeat' (first | (apply brI <;> intro hb hb2 <;> (try simp [-Int.not_le, -Int.not_lt, -Nat.not_le, -Nat.not_lt, -Nat.add_left_cancel_iff] at hb2)) | (refine draw_listA (by rfl) (by kernel_rfl) ?_) | (refine draw_listB (by simp [allocsOf, isAlloc]; rfl) (by kernel_rfl) ?_) | simp (maxSteps := 2000000) (disch := first | omega | assumption | simp [*]) [*, -Int.not_le, -Int.not_lt, -Nat.not_le, -Nat.not_lt, -Nat.add_left_cancel_iff, wrap_i64, wrap_u64, Tryz.f15, isB_low hB])
  refine cw_to (l6Two_t hB hbr hl) ?_
  rintro r ⟨n, rows, xs, hr, hl9, a, c, rfl, ha1, ha2, _, _⟩
  have hlr := hl9
  clear hl9
  repeat' (first | (apply brI <;> intro hb hb2 <;> (try simp [-Int.not_le, -Int.not_lt, -Nat.not_le, -Nat.not_lt, -Nat.add_left_cancel_iff] at hb2)) | (refine draw_listA (by rfl) (by kernel_rfl) ?_) | (refine draw_listB (by simp [allocsOf, isAlloc]; rfl) (by kernel_rfl) ?_) | simp (maxSteps := 2000000) (disch := first | omega | assumption | simp [*]) [*, -Int.not_le, -Int.not_lt, -Nat.not_le, -Nat.not_lt, -Nat.add_left_cancel_iff, wrap_i64, wrap_u64, hr])
  exact ⟨n, rows, [.int .i64 a], by simp [noEx, noExs], hlr, ⟨a, rfl, ha1, ha2⟩⟩
/-- the complement's rows while they grow -/
def CoSt (h : Heap) (n : Int) (v : AV) (i : Nat) (a4 : AV) : Prop := ∃ (u : AV) (rows : List Int), a4 = .vp 4 0 0 ∧ h 4 = some (.var 0 26 (.agg [.int .i64 n, u])) ∧ Buf h 3 32 0 u rows ∧ rows.length = i ∧ h 1 = some (.var 0 26 (.agg [.int .i64 n, v])) ∧ h 2 = some (.var 0 26 (.agg [.int .i64 0, .sl 0 .lit []]))
def CoR (n : Int) (k : Nat) (r : AV) : Prop := ∃ rows : List Int, noEx r = .tup [.agg [.int .i64 n, bufC 0 rows], .bool true] ∧ rows.length = k
theorem sComplementContext_t {n : Int} {v : AV} (hv : IsI v) (hp : PCtx n (xsOf v)) : CallsTo env 181 [.agg [.int .i64 n, v]] (fun r => CoR n (xsOf v).length r) := by
  refine callsTo_mk (F := Tryz.f181) rfl rfl (Nat.le_of_ble_eq_true rfl) ?_
  have hvl := hv.len
  have h8 : (xsOf v).length ≤ 8 := hp.2.2.1
  have hn0 : 0 ≤ n := hp.1
  have hn6 : n ≤ 6 := hp.2.1
  have hrow : ∀ i : Nat, i < (xsOf v).length → 0 ≤ nth (xsOf v) i ∧ nth (xsOf v) i < 256 := fun i hi => pset_lt (hp.2.2.2 i hi)
  obtain ⟨N, rfl⟩ : ∃ N : Nat, n = N := ⟨n.toNat, by omega⟩
  have hpw := pow_small (i := N) (by omega)
  repeat' (first | (apply brI <;> intro hb hb2 <;> (try simp [-Int.not_le, -Int.not_lt, -Nat.not_le, -Nat.not_lt, -Nat.add_left_cancel_iff] at hb2)) | (refine draw_listA (by rfl) (by kernel_rfl) ?_) | (refine draw_listB (by simp [allocsOf, isAlloc]; rfl) (by kernel_rfl) ?_) | simp (maxSteps := 2000000) (disch := first | omega | assumption | simp [*]) [*, -Int.not_le, -Int.not_lt, -Nat.not_le, -Nat.not_lt, -Nat.add_left_cancel_iff, wrap_i64, wrap_u64, Tryz.f181, isI_cells hv, isI_one hv, isI_low hv, isI_len hv])
  refine W_loopG (xsOf v).length (fun i s h' => CoSt h' N v i (s 4) ∧ s 5 = .int .i64 i ∧ s 1 = .vp 1 0 0 ∧ s 2 = .vp 2 0 0) ?_ ?_
  · refine ⟨⟨.sl 0 .lit [], [], by simp [*, nextG, hset, hnil], by simp [hset, hnil, nextG], buf_nil .., rfl, by simp [hset, hnil], by simp [hset, hnil]⟩, ?_⟩
    simp [*]
  rintro i s h2 hi ⟨⟨u, rows, h4, e4, hB, hl, e1, e2⟩, h5, h1, hs2⟩
  have ou := hB.one
  have cu := hB.cells
  by_cases hi2 : i < (xsOf v).length
  · obtain ⟨r1, r2⟩ := hrow i hi2
    clear hrow
    repeat' (first | (apply brI <;> intro hb hb2 <;> (try simp [-Int.not_le, -Int.not_lt, -Nat.not_le, -Nat.not_lt, -Nat.add_left_cancel_iff] at hb2)) | (refine draw_listA (by rfl) (by kernel_rfl) ?_) | (refine draw_listB (by simp [allocsOf, isAlloc]; rfl) (by kernel_rfl) ?_) | simp (maxSteps := 2000000) (disch := first | omega | assumption | simp [*]) [*, -Int.not_le, -Int.not_lt, -Nat.not_le, -Nat.not_lt, -Nat.add_left_cancel_iff, wrap_i64, wrap_u64, h4, e4, h5, h1, e1, hs2, isI_cells hv, isI_one hv, isI_low hv, isI_len hv, isI_index hv, isI_load hv])
    refine wa_push hB (by simp) (by simp) (by omega) ?_
    intro u6 h6 hB6 hk6
    have o6 := hB6.one
    have c6 := hB6.cells
    have e64 := (hk6 4 (by omega)).trans e4
    have e61 := (hk6 1 (by omega)).trans e1
    have e62 := (hk6 2 (by omega)).trans e2
    have hend : ∀ h', h' 4 = some (.var 0 26 (.agg [.int .i64 N, u6])) → (∀ y, y ≠ 4 → h' y = h6 y) → CoSt h' N v (i + 1) (.vp 4 0 0) := fun h' a1 a2 => ⟨u6, _, rfl, a1, hB6.keep (a2 _ (by omega)), by simp [hl], (a2 _ (by omega)).trans e61, (a2 _ (by omega)).trans e62⟩
    clear hk6 e4 e1 e2 hB hB6
    repeat' (first | (apply brI <;> intro hb hb2 <;> (try simp [-Int.not_le, -Int.not_lt, -Nat.not_le, -Nat.not_lt, -Nat.add_left_cancel_iff] at hb2)) | (refine draw_listA (by rfl) (by kernel_rfl) ?_) | (refine draw_listB (by simp [allocsOf, isAlloc]; rfl) (by kernel_rfl) ?_) | simp (maxSteps := 2000000) (disch := first | omega | assumption | simp [*]) [*, -Int.not_le, -Int.not_lt, -Nat.not_le, -Nat.not_lt, -Nat.add_left_cancel_iff, wrap_i64, wrap_u64, h4, e64, h5, h1, e61, hs2])
    all_goals first | exact hend _ (hset_same ..) fun y hy => hset_other _ _ hy | skip
  · obtain rfl : i = (xsOf v).length := by omega
    have hend : ∀ h', h' 32 = h2 32 → CoR N (xsOf v).length (.tup [.agg [.int .i64 N, expo h' u], .bool true]) := fun h' e => ⟨rows, by have := (hB.keep e).expo; simp [noEx, noExs, this], hl⟩
    clear hrow hB
    repeat' (first | (apply brI <;> intro hb hb2 <;> (try simp [-Int.not_le, -Int.not_lt, -Nat.not_le, -Nat.not_lt, -Nat.add_left_cancel_iff] at hb2)) | (refine draw_listA (by rfl) (by kernel_rfl) ?_) | (refine draw_listB (by simp [allocsOf, isAlloc]; rfl) (by kernel_rfl) ?_) | simp (maxSteps := 2000000) (disch := first | omega | assumption | simp [*]) [*, -Int.not_le, -Int.not_lt, -Nat.not_le, -Nat.not_lt, -Nat.add_left_cancel_iff, wrap_i64, wrap_u64, h4, e4, h5, h1, e1, hs2, e2, isI_len hv])
    all_goals first | exact hend _ (by rw [hset_other _ _ (by omega)]) | skip
theorem l21Draw_o {key g : Nat} {b : AV} {h : Heap} {off : Nat} {K : AV → Heap → Prop} (hb : IsB b) (hl : bLen b ≤ 1073741824) (hc : Cur h key g b) (hk : key < off) (hK : ∀ (n : Int) (rk : Nat) (v : AV) h', off ≤ rk → CAny h' rk v → Cur h' key g b → (∀ y, y < off → y ≠ key → h' y = h y) → K (.agg [.int .i64 n, v]) h') : OpenTo env 85 [.vp key g 0] h off K := by
  refine openTo_of (F := Tryz.f85) rfl rfl (Nat.le_of_ble_eq_true rfl) ?_
  obtain ⟨g2, hg2⟩ : ∃ g2, nextG h (off + 2) = g2 := ⟨_, rfl⟩
  have hg2' := hg2
  simp only [nextG, Blk.g] at hg2'
  repeat' (first | (apply brI <;> intro hb hb2 <;> (try simp [-Int.not_le, -Int.not_lt, -Nat.not_le, -Nat.not_lt, -Nat.add_left_cancel_iff] at hb2)) | (refine draw_listA (by rfl) (by kernel_rfl) ?_) | (refine draw_listB (by simp [allocsOf, isAlloc]; rfl) (by kernel_rfl) ?_) | simp (maxSteps := 2000000) (disch := first | omega | assumption | simp [*]) [*, -Int.not_le, -Int.not_lt, -Nat.not_le, -Nat.not_lt, -Nat.add_left_cancel_iff, wrap_i64, wrap_u64, Tryz.f85])
  refine cf_open rfl rfl (l1Once_o hb hl (hc.keep (hset_other _ _ (by omega))) fun c1 h1 hc1 hf1 => ?_)
  have e12 : h1 (off + 2) = some (.var g2 26 (.agg [.int .i64 0, .sl 0 .lit []])) := by rw [hf1 _ (by omega), ← hg2]; exact hset_same ..
  have hfr1 : ∀ y, y < off → y ≠ key → h1 y = h y := fun y y1 y2 => by rw [hf1 y y2, hset_other _ _ (by omega)]
  clear hf1 hc hg2 hg2'
  cases c1 with
  | true =>
    repeat' (first | (apply brI <;> intro hb hb2 <;> (try simp [-Int.not_le, -Int.not_lt, -Nat.not_le, -Nat.not_lt, -Nat.add_left_cancel_iff] at hb2)) | (refine draw_listA (by rfl) (by kernel_rfl) ?_) | (refine draw_listB (by simp [allocsOf, isAlloc]; rfl) (by kernel_rfl) ?_) | simp (maxSteps := 2000000) (disch := first | omega | assumption | simp [*]) [*, -Int.not_le, -Int.not_lt, -Nat.not_le, -Nat.not_lt, -Nat.add_left_cancel_iff, wrap_i64, wrap_u64, e12])
    refine cf_open rfl rfl (l3Bent_o hb hl hc1 (by simp only [farOff]; omega) fun n rk v h2 hr1 hr2 hp hc2 hf2 => ?_)
    simp only [farOff] at hr1 hr2 hf2
    have ov := hp.one
    have cv := hp.cells
    have e22 := (hf2 (off + 2) (by omega) (by omega)).trans e12
    have hend : ∀ h', (∀ y, y ≠ off + 2 → h' y = h2 y) → K (.agg [.int .i64 n, v]) h' := fun h' e => hK n rk v h' (by omega) (.inl (hp.keep (e _ (by omega)))) (hc2.keep (e _ (by omega))) fun y y1 y2 => by rw [e _ (by omega), hf2 y (by omega) y2]; exact hfr1 y y1 y2
    clear hK hf2 hp hc2 hc1 hfr1 e12
    repeat' (first | (apply brI <;> intro hb hb2 <;> (try simp [-Int.not_le, -Int.not_lt, -Nat.not_le, -Nat.not_lt, -Nat.add_left_cancel_iff] at hb2)) | (refine draw_listA (by rfl) (by kernel_rfl) ?_) | (refine draw_listB (by simp [allocsOf, isAlloc]; rfl) (by kernel_rfl) ?_) | simp (maxSteps := 2000000) (disch := first | omega | assumption | simp [*]) [*, -Int.not_le, -Int.not_lt, -Nat.not_le, -Nat.not_lt, -Nat.add_left_cancel_iff, wrap_i64, wrap_u64, e22])
    exact hend _ fun y hy => hset_other _ _ hy
  | false =>
    repeat' (first | (apply brI <;> intro hb hb2 <;> (try simp [-Int.not_le, -Int.not_lt, -Nat.not_le, -Nat.not_lt, -Nat.add_left_cancel_iff] at hb2)) | (refine draw_listA (by rfl) (by kernel_rfl) ?_) | (refine draw_listB (by simp [allocsOf, isAlloc]; rfl) (by kernel_rfl) ?_) | simp (maxSteps := 2000000) (disch := first | omega | assumption | simp [*]) [*, -Int.not_le, -Int.not_lt, -Nat.not_le, -Nat.not_lt, -Nat.add_left_cancel_iff, wrap_i64, wrap_u64, e12])
    refine cf_open rfl rfl (l1Below_o hb hl hc1 fun x h2 hx _ hy hc2 hf2 => ?_)
    have hz := hy (by omega)
    obtain ⟨N, rfl⟩ : ∃ N : Nat, x = N := ⟨x.toNat, by omega⟩
    have e22 := (hf2 (off + 2) (by omega)).trans e12
    have hfr2 : ∀ y, y < off → y ≠ key → h2 y = h y := fun y y1 y2 => (hf2 y y2).trans (hfr1 y y1 y2)
    clear hf2 hy hfr1 hc1 e12
    repeat' (first | (apply brI <;> intro hb hb2 <;> (try simp [-Int.not_le, -Int.not_lt, -Nat.not_le, -Nat.not_lt, -Nat.add_left_cancel_iff] at hb2)) | (refine draw_listA (by rfl) (by kernel_rfl) ?_) | (refine draw_listB (by simp [allocsOf, isAlloc]; rfl) (by kernel_rfl) ?_) | simp (maxSteps := 2000000) (disch := first | omega | assumption | simp [*]) [*, -Int.not_le, -Int.not_lt, -Nat.not_le, -Nat.not_lt, -Nat.add_left_cancel_iff, wrap_i64, wrap_u64, e22])
    refine cf_open rfl rfl (l3Make_o (M := 5) hb hl (by omega) (by decide) hc2 (by simp only [farOff]; omega) fun rk k v h3 hrk hkM hp hc3 hf3 => ?_)
    simp only [farOff] at hrk hf3
    have hp3 := hp.bt (by omega)
    have ov := hp.one
    have cv := hp.cells
    obtain ⟨g3, hg3⟩ : ∃ g3, nextG h3 (off + 3) = g3 := ⟨_, rfl⟩
    have hg3' := hg3
    simp only [nextG, Blk.g] at hg3'
    have e32 := (hf3 (off + 2) (by omega) (by omega)).trans e22
    have hfr3 : ∀ y, y < off → y ≠ key → h3 y = h y := fun y y1 y2 => (hf3 y (by omega) y2).trans (hfr2 y y1 y2)
    clear hf3 hfr2 hc2 e22 hp
    repeat' (first | (apply brI <;> intro hb hb2 <;> (try simp [-Int.not_le, -Int.not_lt, -Nat.not_le, -Nat.not_lt, -Nat.add_left_cancel_iff] at hb2)) | (refine draw_listA (by rfl) (by kernel_rfl) ?_) | (refine draw_listB (by simp [allocsOf, isAlloc]; rfl) (by kernel_rfl) ?_) | simp (maxSteps := 2000000) (disch := first | omega | assumption | simp [*]) [*, -Int.not_le, -Int.not_lt, -Nat.not_le, -Nat.not_lt, -Nat.add_left_cancel_iff, wrap_i64, wrap_u64, e32])
    refine cf_open rfl rfl (l1Once_o hb hl (hc3.keep (hset_other _ _ (by omega))) fun c4 h4 hc4 hf4 => ?_)
    have e42 : h4 (off + 2) = _ := ((hf4 (off + 2) (by omega)).trans (hset_other _ _ (by omega))).trans e32
    have e43 : h4 (off + 3) = some (.var g3 26 (.agg [.int .i64 N, v])) := by rw [hf4 _ (by omega), ← hg3]; exact hset_same ..
    have hp4 := hp3.keep (h' := h4) ((hf4 rk (by omega)).trans (hset_other _ _ (by omega)))
    have hfr4 : ∀ y, y < off → y ≠ key → h4 y = h y := fun y y1 y2 => by rw [hf4 y y2, hset_other _ _ (by omega)]; exact hfr3 y y1 y2
    clear hf4 hfr3 hc3 e32 hp3 hg3 hg3'
    cases c4 with
    | true =>
      have hr3 : [0, 1, 2] = List.range 3 := rfl
      have hv3 : IsI (.sl 1 .lit [.int .i64 1, .int .i64 2, .int .i64 4]) := isI_lit1 (xs := [1, 2, 4]) (by decide)
      have hx3 : xsOf (.sl 1 .lit [.int .i64 1, .int .i64 2, .int .i64 4]) = [1, 2, 4] := rfl
      have hp9 : PCtx 3 (xsOf (.sl 1 .lit [.int .i64 1, .int .i64 2, .int .i64 4])) := by
        rw [hx3]
        refine ⟨by decide, by decide, by decide, fun g hg => ?_⟩
        have hg3 : g < 3 := hg
        have : ∀ g : Fin 3, PSet 3 (nth [1, 2, 4] g.val) = true := by decide
        exact this ⟨g, hg3⟩
      have hco := sComplementContext_t hv3 hp9
      clear hp9 hx3
      repeat' (first | (apply brI <;> intro hb hb2 <;> (try simp [-Int.not_le, -Int.not_lt, -Nat.not_le, -Nat.not_lt, -Nat.add_left_cancel_iff] at hb2)) | (refine draw_listA (by rfl) (by kernel_rfl) ?_) | (refine draw_listB (by simp [allocsOf, isAlloc]; rfl) (by kernel_rfl) ?_) | simp (maxSteps := 2000000) (disch := first | omega | assumption | simp [*]) [*, -Int.not_le, -Int.not_lt, -Nat.not_le, -Nat.not_lt, -Nat.add_left_cancel_iff, wrap_i64, wrap_u64, e42, e43])
      refine cw_to hco ?_
      rintro r ⟨rows, hr, hrl⟩
      have hrl9 : rows.length ≤ 9 := by rw [hrl]; decide
      have hend : ∀ h', (∀ y, y < off → y ≠ key → h' y = h4 y) → Cur h' key g b → K (.agg [.int .i64 3, bufC 0 rows]) h' := fun h' e ec => hK 3 off _ h' (Nat.le_refl _) (.inr ⟨rows, rfl, hrl9⟩) ec fun y y1 y2 => (e y y1 y2).trans (hfr4 y y1 y2)
      clear hK hco hrl hrl9 hv3
      repeat' (first | (apply brI <;> intro hb hb2 <;> (try simp [-Int.not_le, -Int.not_lt, -Nat.not_le, -Nat.not_lt, -Nat.add_left_cancel_iff] at hb2)) | (refine draw_listA (by rfl) (by kernel_rfl) ?_) | (refine draw_listB (by simp [allocsOf, isAlloc]; rfl) (by kernel_rfl) ?_) | simp (maxSteps := 2000000) (disch := first | omega | assumption | simp [*]) [*, -Int.not_le, -Int.not_lt, -Nat.not_le, -Nat.not_lt, -Nat.add_left_cancel_iff, wrap_i64, wrap_u64, hr, e42, e43])
      exact hend _ (fun y y1 y2 => by rw [hset_other _ _ (by omega), hset_other _ _ (by omega)]) (hc4.keep (by rw [hset_other _ _ (by omega), hset_other _ _ (by omega)]))
    | false =>
      have hend : ∀ h', (∀ y, y ≠ off + 2 → h' y = h4 y) → K (.agg [.int .i64 N, v]) h' := fun h' e => hK N rk v h' (by omega) (.inl (hp4.keep (e _ (by omega)))) (hc4.keep (e _ (by omega))) fun y y1 y2 => by rw [e _ (by omega)]; exact hfr4 y y1 y2
      clear hK hp4 hc4 hfr4
      repeat' (first | (apply brI <;> intro hb hb2 <;> (try simp [-Int.not_le, -Int.not_lt, -Nat.not_le, -Nat.not_lt, -Nat.add_left_cancel_iff] at hb2)) | (refine draw_listA (by rfl) (by kernel_rfl) ?_) | (refine draw_listB (by simp [allocsOf, isAlloc]; rfl) (by kernel_rfl) ?_) | simp (maxSteps := 2000000) (disch := first | omega | assumption | simp [*]) [*, -Int.not_le, -Int.not_lt, -Nat.not_le, -Nat.not_lt, -Nat.add_left_cancel_iff, wrap_i64, wrap_u64, e42, e43])
      exact hend _ fun y hy => hset_other _ _ hy
theorem drawIsDistributive_t {b : AV} (hB : IsB b) (hbr : brwOf b = false) (hl : bLen b ≤ 1073741824) : CallsTo env 9 [b] (fun r => DrK r) := by
  refine callsTo_mk (F := Tryz.f9) rfl rfl (Nat.le_of_ble_eq_true rfl) ?_
  have hcb := isB_cells hB
  have hob := isB_one hB
  repeat' (first | (apply brI <;> intro hb hb2 <;> (try simp [-Int.not_le, -Int.not_lt, -Nat.not_le, -Nat.not_lt, -Nat.add_left_cancel_iff] at hb2)) | (refine draw_listA (by rfl) (by kernel_rfl) ?_) | (refine draw_listB (by simp [allocsOf, isAlloc]; rfl) (by kernel_rfl) ?_) | simp (maxSteps := 2000000) (disch := first | omega | assumption | simp [*]) [*, -Int.not_le, -Int.not_lt, -Nat.not_le, -Nat.not_lt, -Nat.add_left_cancel_iff, wrap_i64, wrap_u64, Tryz.f9, isB_low hB])
  refine cf_xp (by simpa [isB_low hB] using l1New_t hB hbr hl) rfl ?_
  rintro r ⟨hh, rfl⟩
  refine ⟨_, _, _, rfl, ?_⟩
  repeat' (first | (apply brI <;> intro hb hb2 <;> (try simp [-Int.not_le, -Int.not_lt, -Nat.not_le, -Nat.not_lt, -Nat.add_left_cancel_iff] at hb2)) | (refine draw_listA (by rfl) (by kernel_rfl) ?_) | (refine draw_listB (by simp [allocsOf, isAlloc]; rfl) (by kernel_rfl) ?_) | simp (maxSteps := 2000000) (disch := first | omega | assumption | simp [*]) [*, -Int.not_le, -Int.not_lt, -Nat.not_le, -Nat.not_lt, -Nat.add_left_cancel_iff, wrap_i64, wrap_u64])
  refine cf_open rfl rfl (l21Draw_o hB hl (g := 0) ⟨0, hh, by omega, by omega, by simp [hset, hnil]⟩ (by simp [farOff]) fun n rk v h1 hr1 hp hc1 hf1 => ?_)
  simp only [farOff] at hr1 hf1
  have ov := hp.one.1
  have cv := hp.one.2
  have f2 : h1 2 = some (.var 0 26 (.agg [.int .i64 0, .sl 0 .lit []])) := by rw [hf1 2 (by omega) (by omega)]; simp [hset]
  have hend : ∀ h', h' rk = h1 rk → DrK (.agg [.int .i64 n, expo h' v]) := fun h' e => by
    obtain ⟨rows, e1, e2⟩ := (hp.keep e).res
    exact ⟨n, rows, by simp [noEx, noExs, e1], e2⟩
  clear hf1 hp
  repeat' (first | (apply brI <;> intro hb hb2 <;> (try simp [-Int.not_le, -Int.not_lt, -Nat.not_le, -Nat.not_lt, -Nat.add_left_cancel_iff] at hb2)) | (refine draw_listA (by rfl) (by kernel_rfl) ?_) | (refine draw_listB (by simp [allocsOf, isAlloc]; rfl) (by kernel_rfl) ?_) | simp (maxSteps := 2000000) (disch := first | omega | assumption | simp [*]) [*, -Int.not_le, -Int.not_lt, -Nat.not_le, -Nat.not_lt, -Nat.add_left_cancel_iff, wrap_i64, wrap_u64, f2])
  exact hend _ (by rw [hset_other _ _ (by omega)])
end Go.Proofs.YtliecnadoklgoaaGreatDoor
