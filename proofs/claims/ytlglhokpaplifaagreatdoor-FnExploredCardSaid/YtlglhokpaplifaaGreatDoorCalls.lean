/- A call told by a property of its result. Conditions: none. -/
import Derived.Test.YtlglhokpaplifaaGreatDoorBaseA
import Derived.Test.YtlglhokpaplifaaGreatDoorEvOpen
namespace Go.Proofs.YtlglhokpaplifaaGreatDoor
open Ev
set_option linter.unusedVariables false
set_option linter.unusedSimpArgs false

theorem callsTo_mk {E : Env} {f : Nat} {args : List AV} {P : AV → Prop} {F : Go.Func} {c : Go.Code} (hf : E.fn f = some F) (hb : F.body = some c) (hl : args.length ≤ F.ntmps)
    (hw : W E f c ⟨argSlots args, hnil, 0, F.ntmps⟩ (resW E F.results.toList fun v h => P (expo h v))) : CallsTo E f args P := by
  obtain ⟨k, v, h', h1, h2⟩ := openTo_of hf hb hl hw
  exact ⟨_, ⟨k, v, h', h1, rfl⟩, h2⟩
theorem hset_same (h : Heap) (k : Nat) (b : Blk) : hset h k b k = some b := if_pos rfl
theorem hset_other (h : Heap) {k y : Nat} (b : Blk) (e : y ≠ k) : hset h k b y = h y := if_neg e
theorem cw_to {E : Env} {f : Nat} {args : List AV} {P K : AV → Prop} {tg : Tg K} (h : CallsTo E f args P) (hK : ∀ r, P r → K r) : CW E f args K tg := by
  obtain ⟨r, h1, h2⟩ := h
  exact ⟨r, h1, hK r h2⟩
end Go.Proofs.YtlglhokpaplifaaGreatDoor
