/- XSortA XSortB, joined. Conditions: none. -/
import Derived.Test.YtlglhokpaplifaaGreatDoorProg
import Derived.Test.YtlglhokpaplifaaGreatDoorShelf
import Derived.Test.YtlglhokpaplifaaGreatDoorLect
import Derived.Test.YtlglhokpaplifaaGreatDoorEvBits
import Derived.WalkKit
import Derived.WalkSpells
import Derived.WalkLawsBesides
import Derived.KernelRfl
import Derived.Test.YtlglhokpaplifaaGreatDoorEvClone
import Derived.Test.YtlglhokpaplifaaGreatDoorEvOpen
import Derived.Sort.OwnSortedInts
import Derived.WalkSmall
/- The order of sets as the program compares them, in this seat's program. Conditions: the library's table of trailing zeros is laid. -/
namespace Go.Proofs.YtlglhokpaplifaaGreatDoor
open Go.RowKit Go.Lib Go.Sort Go.Shelf
set_option linter.unusedVariables false
set_option linter.unusedSimpArgs false

def encF (x : Fin 64) : Value := .int .i64 (x.val : Int)
def cfF (x y : Fin 64) : Int := if x = y then 0 else if Lect.rev6 x.val < Lect.rev6 y.val then -1 else 1
theorem ltF (x y : Fin 64) : ltOf cfF x y = decide (Lect.rev6 x.val < Lect.rev6 y.val) := by
  unfold ltOf cfF
  by_cases h : x = y
  · subst h; simp
  · by_cases h2 : Lect.rev6 x.val < Lect.rev6 y.val <;> simp [h, h2]
theorem swoF : SWO (ltOf cfF) where
  irrefl x := by rw [ltF]; simp
  trans x y z h1 h2 := by rw [ltF] at *; simp at *; omega
  ntrans x y z h1 h2 := by rw [ltF] at *; simp at *; omega
theorem totF (x y : Fin 64) (h1 : ltOf cfF x y = false) (h2 : ltOf cfF y x = false) : x = y := by
  rw [ltF] at *; simp at *
  have e : Lect.rev6 x.val = Lect.rev6 y.val := by omega
  have a := (Lect.rev_rev x).1
  have b := (Lect.rev_rev y).1
  rw [e, b] at a
  exact Fin.ext a.symm
theorem bef_bit : ∀ x y : Fin 64, x ≠ y → Lib.ctz 64 (x.val ^^^ y.val) < 6 ∧ y.val.testBit (Lib.ctz 64 (x.val ^^^ y.val)) = decide (Lect.rev6 x.val < Lect.rev6 y.val) := by decide +kernel
/-- the table, where the library keeps it -/
def laidT (w : World) : Prop := TabAt 1 Lib.deBruijn64tab w
theorem laidT.keep {w w' : World} (h : laidT w) (hs : 1 < w.heap.size) (hb : Below w.heap.size w w') : laidT w' := fun j hj => by
  rw [hb.cell (p := ⟨1, j, none⟩) hs]; exact h j hj
theorem laidT.size {w : World} (h : laidT w) : 1 < w.heap.size := by
  have := h 0 (by decide)
  unfold World.cell? at this
  by_cases e : 1 < w.heap.size
  · exact e
  · simp [Array.getElem?_eq_none (show w.heap.size ≤ 1 by omega)] at this
theorem tz_at (z : Nat) (hz : z < 64) (w : World) (hT : laidT w) : Calls Tryz.prog 113 #[.int .u64 z] w fun e w' => e = .returned (.int .i64 (Lib.ctz 64 z)) ∧ w' = w :=
  Any7.bits_TrailingZeros Tryz.tzL z (by omega) w fun _ => hT
theorem drew0 {w : World} : ∃ q, w = w.drewN q := ⟨0, rfl⟩
theorem bit_int (y e : Nat) : ((y : Int) / 2 ^ e % 2 == 1) = y.testBit e := by
  have h : ((y : Int) / 2 ^ e % 2) = ((y / 2 ^ e % 2 : Nat) : Int) := by push_cast; rfl
  rw [h, Nat.testBit_eq_decide_div_mod_eq, Bool.eq_iff_iff]
  simp
  omega
set_option maxHeartbeats 1000000 in
theorem has_at (y e : Nat) (hy : y < 64) (he : e < 6) (w : World) : Calls Tryz.prog 112 #[.int .i64 y, .int .i64 e] w fun r w' => r = .returned (.bool (y.testBit e)) ∧ ∃ q, w' = w.drewN q := by
  go_enter Tryz.func112, Tryz.ntmps112
  go_wp2
  go_ret
  rw [bit_int]
  exact ⟨rfl, 0, rfl⟩
set_option maxHeartbeats 1000000 in
theorem any_at (y : Nat) (hy : y < 64) (w : World) : Calls Tryz.prog 111 #[.int .i64 y] w fun r w' => r = .returned (.bool true) ∧ ∃ q, w' = w.drewN q := by
  have h1 : decide ((y : Int) ≤ 255) = true := by simp; omega
  go_enter Tryz.func111, Tryz.ntmps111
  go_wp2
  go_ret
  exact ⟨rfl, 0, rfl⟩
set_option maxHeartbeats 1000000 in
theorem not_at (y : Nat) (hy : y < 64) (w : World) : Calls Tryz.prog 125 #[.int .i64 y] w fun r w' => r = .returned (.bool false) ∧ ∃ q, w' = w.drewN q := by
  go_enter Tryz.func125, Tryz.ntmps125
  go_wp2_with (go_at_call 111; refine (any_at y hy _).mono ?_; rintro e w' ⟨rfl, q, rfl⟩)
  go_ret
  exact ⟨rfl, q, rfl⟩
theorem xor_u64 (x y : Nat) (hx : x < 64) (hy : y < 64) : IntKind.u64.wrap (Go.bits .xor .i64 (x : Int) (y : Int)) = ((x ^^^ y : Nat) : Int) := by
  rw [Ev.bits_xor (by omega) (by omega) (by omega) (by omega)]
  have h : x ^^^ y < 2 ^ 6 := Nat.xor_lt_two_pow (by omega) (by omega)
  rw [Int.toNat_natCast, Int.toNat_natCast]
  simp [IntKind.wrap, IntKind.signed, IntKind.bits]
  omega
set_option maxHeartbeats 1000000 in
theorem before_at (x y : Fin 64) (hne : x ≠ y) (w : World) (hT : laidT w) : Calls Tryz.prog 87 #[.int .i64 x.val, .int .i64 y.val] w fun r w' => r = .returned (.bool (decide (Lect.rev6 x.val < Lect.rev6 y.val))) ∧ ∃ q, w' = w.drewN q := by
  obtain ⟨h6, hb⟩ := bef_bit x y hne
  have hz : x.val ^^^ y.val < 64 := Nat.xor_lt_two_pow (n := 6) (by omega) (by omega)
  have hx := xor_u64 x.val y.val (by omega) (by omega)
  have hq : ((x.val : Int) == (y.val : Int)) = false := by
    rw [beq_eq_false_iff_ne]; intro e; exact hne (Fin.ext (by omega))
  have htz : ∀ n, Calls Tryz.prog 113 #[.int .u64 ((x.val ^^^ y.val : Nat) : Int)] (w.drewN n) fun e w' => e = .returned (.int .i64 (Lib.ctz 64 (x.val ^^^ y.val))) ∧ w' = w.drewN n := fun n => tz_at _ hz _ hT
  go_enter Tryz.func87, Tryz.ntmps87
  go_wp2_with (first | (go_at_call 111; refine (any_at _ (by omega) _).mono ?_; rintro e w' ⟨rfl, q, rfl⟩) | (go_at_call 113; refine (htz _).mono ?_; rintro e w' ⟨rfl, rfl⟩) | (go_at_call 112; refine (has_at _ _ (by omega) h6 _).mono ?_; rintro e w' ⟨rfl, q, rfl⟩))
  go_ret
  exact ⟨rfl, _, rfl⟩
theorem eg71 : ∀ args w, (callFunc 125 args).run Tryz.prog w = .ok (.enter 125 args) w := enters_of Tryz.func125 (by kernel_rfl) rfl
theorem eg75 : ∀ args w, (callFunc 128 args).run Tryz.prog w = .ok (.enter 128 args) w := enters_of Tryz.func128 (by kernel_rfl) rfl
set_option maxHeartbeats 1000000 in
theorem cmp_at (x y : Fin 64) (w : World) (hT : laidT w) : Calls Tryz.prog 128 #[encF x, encF y] w fun r w' => r = .returned (.int .i64 (cfF x y)) ∧ ∃ q, w' = w.drewN q := by
  unfold encF cfF
  by_cases hne : x = y
  · subst hne
    rw [if_pos rfl]
    go_enter Tryz.func128, Tryz.ntmps128
    go_wp2
    go_ret
    exact ⟨rfl, 0, rfl⟩
  · have hq : ((x.val : Int) == (y.val : Int)) = false := by
      rw [beq_eq_false_iff_ne]; intro e; exact hne (Fin.ext (by omega))
    rw [if_neg hne]
    by_cases hl : Lect.rev6 x.val < Lect.rev6 y.val
    · rw [if_pos hl]
      have hb := fun W hT => before_at x y hne W hT
      rw [decide_eq_true hl] at hb
      go_enter Tryz.func128, Tryz.ntmps128
      go_wp2_with (go_at_call 87; refine (hb _ (show laidT _ from hT)).mono ?_; rintro e w' ⟨rfl, q, rfl⟩)
      go_ret
      exact ⟨rfl, q, rfl⟩
    · rw [if_neg hl]
      have hb := fun W hT => before_at x y hne W hT
      rw [decide_eq_false hl] at hb
      go_enter Tryz.func128, Tryz.ntmps128
      go_wp2_with (go_at_call 87; refine (hb _ (show laidT _ from hT)).mono ?_; rintro e w' ⟨rfl, q, rfl⟩)
      go_ret
      exact ⟨rfl, q, rfl⟩
end Go.Proofs.YtlglhokpaplifaaGreatDoor
/- What the program's lectic sort answers for the list of all sets of up to six elements, in this seat's program. Conditions: the library's table of trailing zeros is laid. -/
namespace Go.Proofs.YtlglhokpaplifaaGreatDoor
open Go.RowKit Go.Lib Go.Sort Go.Shelf
set_option linter.unusedVariables false
set_option linter.unusedSimpArgs false

/-- all sets of N elements, as the program lists them -/
def setsF (N : Nat) : List (Fin 64) := (List.range (2 ^ N)).map fun i => Fin.ofNat 64 i
/-- .. and in their order -/
def lecF (N : Nat) : List (Fin 64) := ((List.range 64).map fun i => Fin.ofNat 64 (Lect.rev6 i)).filter fun s => decide (s.val < 2 ^ N)
def intsF (l : List (Fin 64)) : List Int := l.map fun x => (x.val : Int)
theorem setsF_len (N : Nat) : (setsF N).length = 2 ^ N := by simp [setsF]
theorem lecF_perm : ∀ N : Fin 7, (lecF N.val).isPerm (setsF N.val) = true := by decide +kernel
theorem lecF_sorted : ∀ N : Fin 7, (lecF N.val).Pairwise (fun x y => ltOf cfF y x = false) := by
  intro N
  have h : ∀ N : Fin 7, (lecF N.val).Pairwise (fun x y => Lect.rev6 x.val < Lect.rev6 y.val) := by decide +kernel
  exact (h N).imp fun {a b} h => by rw [ltF]; simp; omega
theorem lecF_compact : ∀ N : Fin 7, Lib.compact (intsF (lecF N.val)) = intsF (lecF N.val) := by decide +kernel
theorem lecF_len {N : Nat} (h : N ≤ 6) : (lecF N).length = 2 ^ N := by
  have := (List.isPerm_iff.1 (lecF_perm ⟨N, by omega⟩)).length_eq
  rw [setsF_len] at this; exact this
theorem lecF_merge {N : Nat} (h : N ≤ 6) : (setsF N).mergeSort (fun x y => !(ltOf cfF) y x) = lecF N := by
  have hp := List.isPerm_iff.1 (lecF_perm ⟨N, by omega⟩)
  have hs := lecF_sorted ⟨N, by omega⟩
  have hm := List.mergeSort_perm (setsF N) (fun x y => !(ltOf cfF) y x)
  have hms : ((setsF N).mergeSort (fun x y => !(ltOf cfF) y x)).Pairwise (fun x y => ltOf cfF y x = false) := by
    have := List.pairwise_mergeSort (le := fun x y : Fin 64 => !(ltOf cfF) y x) (fun a b c h1 h2 => by rw [ltF] at *; simp at *; omega) (fun a b => by rw [ltF, ltF]; simp; omega) (setsF N)
    exact this.imp fun {a b} h => by simpa using h
  refine List.Perm.eq_of_pairwise (le := fun x y => ltOf cfF y x = false) ?_ hms hs (hm.trans hp.symm)
  intro a b _ _ h1 h2
  exact totF a b h2 h1
end Go.Proofs.YtlglhokpaplifaaGreatDoor
