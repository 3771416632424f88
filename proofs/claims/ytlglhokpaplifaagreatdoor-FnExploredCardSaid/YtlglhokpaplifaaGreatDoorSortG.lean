/- Decimal numerals as the program writes them, as a contract of the evaluator, beside its sort. Conditions: the library's tables are laid. -/
import Derived.Test.YtlglhokpaplifaaGreatDoorSortF
import Derived.Test.YtlglhokpaplifaaGreatDoorShelfI
import Derived.Lib.AppendIntMem
namespace Go.Proofs.YtlglhokpaplifaaGreatDoor
open Go.RowKit Go.Lib Go.Sort Go.Shelf
set_option linter.unusedVariables false
set_option linter.unusedSimpArgs false

def powT (w : World) : Prop := Lib.TabIs Tryz.prog w "internal/strconv.uint64pow10" .u64 Lib.pow10Tab
theorem powT.keep {w w' : World} (h : powT w) (hb : Below w.heap.size w w') : powT w' := (Lib.tabBelow_of_tabIs h) w' hb
def laidG (w : World) : Prop := laidT w ∧ powT w
theorem laidG.keep {w w' : World} (h : laidG w) (hb : Below w.heap.size w w') : laidG w' := ⟨h.1.keep h.1.size hb, h.2.keep hb⟩
open Ev in
theorem ExtOkI.weak {I J : World → Prop} {P : Program} {f : Nat} {F : List AV → Option AV} (h : ExtOkI I P f F) (hj : ∀ w, J w → I w) : ExtOkI J P f F := ⟨h.1, fun args res hr w B M rargs hT hv => h.2 args res hr w B M rargs (hj w hT) hv⟩
theorem sortG_ok : ExtOkI laidG Tryz.prog 110 sortF := sortI_ok.weak fun _ h => h.1
theorem beforeG_ok : ExtOkI laidG Tryz.prog 87 beforeF := beforeI_ok.weak fun _ h => h.1
open Ev in
def numF : List AV → Option AV
  | [.int .i64 n] => if -1 ≤ n ∧ n ≤ 8 then some (.str ⟨(Lib.itoa n).toArray⟩) else none
  | _ => none
open Ev in
theorem numF_eq {n : Int} (h0 : -1 ≤ n) (h1 : n ≤ 8) : numF [.int .i64 n] = some (.str ⟨(Lib.itoa n).toArray⟩) := if_pos ⟨h0, h1⟩
set_option maxHeartbeats 1000000 in
theorem format_at (n : Int) (h0 : -9223372036854775808 ≤ n) (h1 : n ≤ 9223372036854775807) (w : World) (hT : powT w) : Calls Tryz.prog 62 #[.int .i64 n] w fun e w' => e = .returned (.string ⟨(Lib.itoa n).toArray⟩) ∧ ∃ k os, w' = grow (w.drewN k) os := by
  have hc := Any.strconv_Itoa Tryz.itoaL n h0 h1 w hT
  change Calls Tryz.prog 100 _ _ _ at hc
  go_enter Tryz.func62, Tryz.ntmps62
  go_wp2_with (go_at_call 100; refine hc.mono ?_; rintro e w' ⟨rfl, k, os, rfl⟩)
  go_ret
  exact ⟨rfl, _, _, rfl⟩
open Ev in
theorem numI_ok : ExtOkI laidG Tryz.prog 62 numF := by
  refine ⟨⟨_, Tryz.func62, by simp [Tryz.f62], by simp [Tryz.f62]⟩, fun args res hr w B M rargs hT hv => ?_⟩
  unfold numF at hr
  split at hr
  · rename_i n
    split at hr
    · rename_i h
      obtain rfl := Option.some.inj hr
      simp only [VRl, VR] at hv
      obtain ⟨r, _, rfl, rfl, rfl⟩ := hv
      refine (format_at n (by omega) (by omega) w hT.2).mono ?_
      rintro e w' ⟨rfl, k, os, rfl⟩
      refine ⟨_, rfl, Lib.below_grow _ w (Nat.le_refl _) k os, ?_⟩
      simp only [VR]
    · cases hr
  · cases hr
end Go.Proofs.YtlglhokpaplifaaGreatDoor
