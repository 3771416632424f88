/- Laws of tables: the calls that take a table of the law's own. Conditions: none. -/
import Derived.Test.YtppfgokonlloaaaScaleO
namespace Go.Proofs.Ytppfgokonlloaaa
open Ev
set_option linter.unusedVariables false
set_option linter.unusedSimpArgs false
set_option maxHeartbeats 4000000

theorem lowE_int (h : Heap) (xs : List Int) : (ints xs).map (lowE h) = ints xs := by
  simp only [ints, List.map_map]
  exact List.map_congr_left fun _ _ => rfl
theorem row_lowD1I {h : Heap} {key T k k0 : Nat} {v : AV} {xs : List Int} (hR : Row h key T k k0 v (ints xs)) : lowD1 h v = rowB k k0 (ints xs) := by
  rcases hR with ⟨e, rfl⟩ | ⟨hx, g, rfl, hg⟩
  · rw [e]; rfl
  · simp only [lowD1, hg]
    rw [if_pos ⟨by trivial, by omega, by simp⟩, List.drop_zero, List.take_length, lowE_int]
    unfold rowB
    rw [if_neg hx]
/-- a table of the law's own, at base b -/
def TabAt (h : Heap) (b : Nat) (a w : AV) (xs : List Int) (xss : List (List Int)) : Prop := Row h (b + 6) 3 1 1 a (ints xs) ∧ Rows2 h (b + farOff + 7) (b + farOff + 20) 22 3 w xss
theorem TabAt.keep {h h' : Heap} {b : Nat} {a w : AV} {xs : List Int} {xss : List (List Int)} (hT : TabAt h b a w xs xss) (hl : xss.length ≤ 1048576) (hk : ∀ x, b ≤ x → x < b + 100000000000000000000 → h' x = h x) : TabAt h' b a w xs xss :=
  ⟨hT.1.keep (hk _ (by omega) (by omega)), hT.2.keep (hk _ (by omega) (by unfold farOff; omega)) fun j hj => hk _ (by omega) (by unfold farOff deepStep; omega)⟩
theorem cf_tab {fid d : Nat} {u v : AV} {s : Nat → AV} {h : Heap} {off nt : Nat} {K : AV → Heap → Prop} {tg : Tg ((⟨s, h, off, nt⟩ : St), K)} (hu : IsI u) (hv : IsLL v) (hl : (xsOf u).length ≤ 1048576) (hl2 : szL v ≤ 1048576)
    (hK : ∀ b a w h', b = off + 100000 + deepFar * d → TabAt h' b a w (xsOf u) (xssOf v) → (∀ x, x < b → h' x = h x) → K (.agg [a, w]) h') : CF env fid (some d) 17 [.agg [u, v]] ⟨s, h, off, nt⟩ K tg := by
  refine cf_openF rfl rfl ?_
  have e : off + farOff + env.far 17 * d = off + 100000 + deepFar * d := by
    have : env.far 17 = deepFar := rfl
    rw [this]; rfl
  rw [e]
  exact toTable_o hu hv hl hl2 fun a w h' hA hW hf => hK _ a w h' rfl ⟨hA, hW⟩ hf
theorem lowD_tab {h : Heap} {b : Nat} {a w : AV} {xs : List Int} {xss : List (List Int)} (hT : TabAt h b a w xs xss) : lowD h (.agg [a, w]) = .agg [rowB 1 1 (ints xs), .sl 1 .brw (rowsB xss)] := by
  simp only [lowD, List.map_cons, List.map_nil, row_lowD1I hT.1, hT.2.low]
theorem cf_deep0 {fid d g b : Nat} {a w r : AV} {xs : List Int} {xss : List (List Int)} {s : Nat → AV} {h : Heap} {off nt : Nat} {K : AV → Heap → Prop} {tg : Tg ((⟨s, h, off, nt⟩ : St), K)} (hd : env.deep g = true) (hm : env.mat fid d = 0) (hT : TabAt h b a w xs xss)
    (hc : EvC env g [.agg [rowB 1 1 (ints xs), .sl 1 .brw (rowsB xss)]] r) (hK : K (noEx r) h) : CF env fid (some d) g [.agg [a, w]] ⟨s, h, off, nt⟩ K tg := by
  unfold CF
  rw [WF_deep hd]
  refine ⟨r, by simpa [lowD_tab hT] using hc, ?_⟩
  exact ⟨noEx r, h, by simp only [mat, hm], hK⟩
theorem cf_deep2 {fid d g b b2 : Nat} {a w a2 w2 r : AV} {xs : List Int} {xss : List (List Int)} {s : Nat → AV} {h : Heap} {off nt : Nat} {K : AV → Heap → Prop} {tg : Tg ((⟨s, h, off, nt⟩ : St), K)} (hd : env.deep g = true) (hm : env.mat fid d = 0) (hT : TabAt h b a w xs xss) (hT2 : TabAt h b2 a2 w2 xs xss)
    (hc : EvC env g [.agg [rowB 1 1 (ints xs), .sl 1 .brw (rowsB xss)], .agg [rowB 1 1 (ints xs), .sl 1 .brw (rowsB xss)]] r) (hK : K (noEx r) h) : CF env fid (some d) g [.agg [a, w], .agg [a2, w2]] ⟨s, h, off, nt⟩ K tg := by
  unfold CF
  rw [WF_deep hd]
  refine ⟨r, by simpa [lowD_tab hT, lowD_tab hT2] using hc, ?_⟩
  exact ⟨noEx r, h, by simp only [mat, hm], hK⟩
theorem cf_deep3 {fid d g b : Nat} {a w : AV} {xs : List Int} {xss : List (List Int)} {s : Nat → AV} {h : Heap} {off nt : Nat} {K : AV → Heap → Prop} {tg : Tg ((⟨s, h, off, nt⟩ : St), K)} {kd : IntKind} {m : Int} {c : Bool} {R : AV} {k k0 T key : Nat} {es : List AV}
    (hd : env.deep g = true) (hm : env.mat fid d = 3) (hT : TabAt h b a w xs xss) (hc : EvC env g [.agg [rowB 1 1 (ints xs), .sl 1 .brw (rowsB xss)]] (.tup [.agg [.int kd m, R], .bool c])) (hR : OwnR R k k0 T key es) (hf : es.all flat = true)
    (hK : ∀ v' h', Row h' (off + d) T k k0 v' es → (∀ x, x ≠ off + d → h' x = h x) → K (.tup [.agg [.int kd m, v'], .bool c]) h') : CF env fid (some d) g [.agg [a, w]] ⟨s, h, off, nt⟩ K tg := by
  unfold CF
  rw [WF_deep hd]
  refine ⟨_, by simpa [lowD_tab hT] using hc, ?_⟩
  obtain ⟨v', h', h1, h2, h3⟩ := mat3_one (base := off + d) (h := h) (r := .tup [.agg [.int kd m, R], .bool c]) (v := .un) (C := fun v => .tup [.agg [.int kd m, v], .bool c]) (n' := 0) hR hf fun v L hm => by
    simp [matG, matGs, flat1, hm]
  exact ⟨_, h', by simp only [mat, hm]; exact h1, hK _ _ h2 h3⟩
end Go.Proofs.Ytppfgokonlloaaa
