/- slices.Grow at nothing: an empty row with room, its maker's own. Conditions: none. -/
import Derived.Test.YtppfgokonlloaaaProg
import Derived.Test.YtppfgokonlloaaaShelf
import Derived.Test.YtppfgokonlloaaaEvClone
import Derived.Test.YtppfgokonlloaaaEvSound2
import Derived.KernelRfl
namespace Go.Proofs.Ytppfgokonlloaaa
open Go.RowKit Ev
set_option linter.unusedVariables false
set_option linter.unusedSimpArgs false
/-- nothing, grown -/
def growF : List AV → Option AV
  | [.sl _ .lit [], .int .i64 n] => if n = 0 then some (.sl 0 .lit []) else if 0 < n ∧ n ≤ 1048576 then some (.sl 1 (.ex 3 0) []) else none
  | _ => none
theorem growI_info : (Try.prog.info? 3).map (fun i => (i.size, i.bytes, i.zero)) = some (1, 8, some (.int .i64 0)) := by kernel_rfl
theorem grow_room (base : Option Addr) (w : World) : Calls Try.prog 59 #[.slice base 0 0, .int .i64 0] w fun e w' => e = .returned (.slice base 0 0) ∧ w' = w :=
  Any8.slices_Grow_room Try.growL base 0 0 0 w (by omega) (by omega) (by omega) (by omega)
theorem grow_some (base : Option Addr) (n : Nat) (w : World) (h0 : 0 < n) (hn : n ≤ 1048576) : Calls Try.prog 59 #[.slice base 0 0, .int .i64 n] w fun e w' =>
    ∃ (cap : Nat) (cur : Array Value), e = .returned (.slice (some ⟨w.heap.size, 0, none⟩) 0 cap) ∧ cap ≤ maxLen ∧ cur.size = cap ∧ w' = w.drew.alloc (.cells cur 3) := by
  obtain ⟨i0, hi, hz⟩ : ∃ i0, Try.prog.info? 3 = some i0 ∧ (i0.size, i0.bytes, i0.zero) = (1, 8, some (.int .i64 0)) := by simpa using growI_info
  obtain ⟨hz1, hz9⟩ := Prod.mk.inj hz
  obtain ⟨hz2, hz0⟩ := Prod.mk.inj hz9
  have h := Any8.slices_Grow_grow Try.growL i0 (.int .i64 0) hi hz0 (by omega) base 0 0 n [] w (Nat.le_refl _) (by omega) (by rw [hz2]; omega) (by omega) (by simp) (fun _ => rfl) (fun a _ j v hj => by simp at hj)
  rw [Nat.zero_add] at h
  refine h.mono ?_
  rintro e w' ⟨rfl, rfl⟩
  have hg := grownCap_ge w n 0 3
  refine ⟨_, _, rfl, grownCap_le_maxLen w n 0 3 (by unfold maxLen; omega), ?_, rfl⟩
  simp only [Array.size_append, List.size_toArray, List.length_nil, size_zeroCells, Nat.sub_zero]
  have hc1 : (Value.int .i64 0).cells.size = 1 := rfl
  rw [hc1]
  have he : Try.growL_ren.t 25 = 3 := rfl
  rw [he]
  omega
theorem grow_ok : (∃ fn, Try.prog.funcs[59]? = some fn ∧ fn.name ≠ "runtime.NumGoroutine" ∧ fn.body.isSome = true) ∧ ∀ args res, growF args = some res → ∀ (w : World) (B : Nat → Nat → Prop) (M : Mp) (rargs : List Value),
    VRl args (cx B w.heap.size w hnil M) rargs → Calls Try.prog 59 rargs.toArray w fun e w' => ∃ rv, e = .returned rv ∧ Below w.heap.size w w' ∧ ∃ hc Mc, HR B w w' hc Mc ∧ VR res (xcx B w w' hc Mc) rv := by
  refine ⟨⟨_, Try.func59, by simp [Try.f59], by simp [Try.f59]⟩, fun args res hr w B M rargs hv => ?_⟩
  unfold growF at hr
  split at hr
  · rename_i k n
    simp only [VRl, VR] at hv
    obtain ⟨r, _, rfl, ⟨a, cap, rfl, _, _, _, _, hown⟩, r2, _, rfl, rfl, rfl⟩ := hv
    simp only [OwnOk, List.length_nil] at hown
    subst hown
    split at hr
    · rename_i hn
      subst hn
      obtain rfl := Option.some.inj hr
      refine (grow_room a w).mono ?_
      rintro e w' ⟨rfl, rfl⟩
      refine ⟨_, rfl, Below.refl _ _, hnil, M, HR.start _ _ _, ?_⟩
      simp only [VR]
      exact ⟨a, 0, rfl, Nat.le_refl _, Nat.zero_le _, fun _ => rfl, fun h => (h rfl).elim, rfl⟩
    · split at hr
      · rename_i hn
        obtain rfl := Option.some.inj hr
        obtain ⟨m, rfl⟩ : ∃ m : Nat, n = m := ⟨n.toNat, by omega⟩
        refine (grow_some a m w (by omega) (by omega)).mono ?_
        rintro e w' ⟨cp, cur, rfl, hcap, hcs, rfl⟩
        have gb : Below w.heap.size w (w.drew.alloc (.cells cur 3)) := (Below.refl _ _).drew.alloc (Nat.le_refl _) _
        have H0 : HR B w w hnil M := HR.start _ _ _
        have H := H0.newkey gb (key := 0) (p := (w.heap.size, cp)) (blk := .tok 0 3 1 0) (Nat.le_refl _) rfl ⟨by decide, hcap, cur, heap_alloc_new w.drew _, by simpa using hcs⟩
        refine ⟨_, rfl, gb, _, _, H, ?_⟩
        have hv : VR (.sl 1 (.tok 0 0) []) (cx B w.heap.size (w.drew.alloc (.cells cur 3)) (hset hnil 0 (.tok 0 3 1 0)) (mset M 0 (w.heap.size, cp))) (.slice (some ⟨w.heap.size, 0, none⟩) 0 cp) := by
          simp only [VR]
          refine ⟨_, _, rfl, Nat.zero_le _, hcap, by simp, fun h => (h rfl).elim, ?_⟩
          exact ⟨⟨true, 0, 0, 1, w.heap.size, cp⟩, by simp [cx, Lof, hset, mset, Blk.isTok, Blk.g, Blk.u, Blk.k], Nat.le_refl _, fun _ => ⟨rfl, Nat.le_refl _, fun _ => ⟨rfl, rfl⟩⟩⟩
        have := VR.expo H _ hv
        simpa [Ev.expo, hset] using this
      · cases hr
  · cases hr
end Go.Proofs.Ytppfgokonlloaaa
