/- Bits of numbers that are not negative. Conditions: none. -/
import Derived.Test.YtlglhokpaplifaaGreatDoorEvData2
import Derived.Laws.Entries
namespace Go.Proofs.YtlglhokpaplifaaGreatDoor.Ev
set_option linter.unusedVariables false
set_option linter.unusedSimpArgs false

theorem ofInt_toNat {x : Int} (h0 : 0 ≤ x) (h1 : x < 9223372036854775808) : (BitVec.ofInt 64 x).toNat = x.toNat := by
  rw [BitVec.toNat_ofInt]
  congr 1
  exact Int.emod_eq_of_lt h0 (by omega)
theorem bits_and {x y : Int} (hx : 0 ≤ x) (hx' : x < 9223372036854775808) (hy : 0 ≤ y) (hy' : y < 9223372036854775808) : Go.bits .and .i64 x y = ((x.toNat &&& y.toNat : Nat) : Int) := by
  show IntKind.wrap .i64 ((BitVec.ofInt 64 x &&& BitVec.ofInt 64 y).toNat : Int) = _
  rw [BitVec.toNat_and, ofInt_toNat hx hx', ofInt_toNat hy hy']
  have : x.toNat &&& y.toNat < 2 ^ 63 := Nat.and_lt_two_pow _ (by omega)
  exact wrap_i64 (by omega) (by omega)
theorem bits_or {x y : Int} (hx : 0 ≤ x) (hx' : x < 9223372036854775808) (hy : 0 ≤ y) (hy' : y < 9223372036854775808) : Go.bits .or .i64 x y = ((x.toNat ||| y.toNat : Nat) : Int) := by
  show IntKind.wrap .i64 ((BitVec.ofInt 64 x ||| BitVec.ofInt 64 y).toNat : Int) = _
  rw [BitVec.toNat_or, ofInt_toNat hx hx', ofInt_toNat hy hy']
  have : x.toNat ||| y.toNat < 2 ^ 63 := Nat.or_lt_two_pow (by omega) (by omega)
  exact wrap_i64 (by omega) (by omega)
theorem bits_xor {x y : Int} (hx : 0 ≤ x) (hx' : x < 9223372036854775808) (hy : 0 ≤ y) (hy' : y < 9223372036854775808) : Go.bits .xor .i64 x y = ((x.toNat ^^^ y.toNat : Nat) : Int) := by
  show IntKind.wrap .i64 ((BitVec.ofInt 64 x ^^^ BitVec.ofInt 64 y).toNat : Int) = _
  rw [BitVec.toNat_xor, ofInt_toNat hx hx', ofInt_toNat hy hy']
  have : x.toNat ^^^ y.toNat < 2 ^ 63 := Nat.xor_lt_two_pow (by omega) (by omega)
  exact wrap_i64 (by omega) (by omega)
/-- what of x is not in y -/
def diff (x y : Nat) : Nat := x &&& (y ^^^ x)
theorem diff_testBit (x y i : Nat) : (diff x y).testBit i = (x.testBit i && !y.testBit i) := by
  unfold diff
  rw [Nat.testBit_and, Nat.testBit_xor]
  cases x.testBit i <;> cases y.testBit i <;> rfl
theorem bits_andNot {x y : Int} (hx : 0 ≤ x) (hx' : x < 9223372036854775808) (hy : 0 ≤ y) (hy' : y < 9223372036854775808) : Go.bits .andNot .i64 x y = ((diff x.toNat y.toNat : Nat) : Int) := by
  show IntKind.wrap .i64 ((BitVec.ofInt 64 x &&& ~~~ BitVec.ofInt 64 y).toNat : Int) = _
  have e : (BitVec.ofInt 64 x &&& ~~~ BitVec.ofInt 64 y).toNat = diff x.toNat y.toNat := by
    apply Nat.eq_of_testBit_eq
    intro i
    rw [BitVec.toNat_and, Nat.testBit_and, diff_testBit, ofInt_toNat hx hx', BitVec.testBit_toNat]
    rw [BitVec.getLsbD_not, ← BitVec.testBit_toNat, ofInt_toNat hy hy']
    by_cases hi : i < 64
    · simp [hi]
    · have : x.toNat.testBit i = false := Nat.testBit_lt_two_pow (Nat.lt_of_lt_of_le (show x.toNat < 2 ^ 64 by omega) (Nat.pow_le_pow_right (by decide) (by omega)))
      simp [this]
  rw [e]
  have : diff x.toNat y.toNat < 2 ^ 63 := Nat.and_lt_two_pow _ (Nat.xor_lt_two_pow (by omega) (by omega))
  exact wrap_i64 (by omega) (by omega)
@[simp] theorem bits_and_one (x : Int) : Go.bits .and .i64 x 1 = x % 2 := by
  show IntKind.wrap .i64 ((BitVec.ofInt 64 x &&& BitVec.ofInt 64 1).toNat : Int) = _
  have : (BitVec.ofInt 64 1).toNat = 1 := by decide
  rw [BitVec.toNat_and, this, Nat.and_one_is_mod, BitVec.toNat_ofInt]
  rw [wrap_i64 (by omega) (by omega)]
  omega
theorem half_testBit {x : Int} (hx : 0 ≤ x) (e : Nat) : decide (x / 2 ^ e % 2 = 1) = x.toNat.testBit e := by
  rw [Nat.testBit_eq_decide_div_mod_eq]
  have : x / 2 ^ e = ((x.toNat / 2 ^ e : Nat) : Int) := by
    rw [Int.natCast_ediv, Int.toNat_of_nonneg hx]
    simp
  rw [this]
  congr 1
  exact propext ⟨fun h => by omega, fun h => by omega⟩

/-- one beside the other -/
theorem or_add {x y : Int} {n : Nat} (hx : 0 ≤ x) (hx2 : x < 2 ^ n) (hy : 0 ≤ y) : ((x.toNat ||| (y * 2 ^ n).toNat : Nat) : Int) = x + y * 2 ^ n := by
  have e : (y * 2 ^ n).toNat = y.toNat <<< n := by
    rw [Nat.shiftLeft_eq]
    have : y * 2 ^ n = ((y.toNat * 2 ^ n : Nat) : Int) := by rw [Int.natCast_mul, Int.toNat_of_nonneg hy]; simp
    rw [this, Int.toNat_natCast]
  have hb : x.toNat < 2 ^ n := by
    have : ((2 ^ n : Nat) : Int) = (2 : Int) ^ n := by simp
    omega
  rw [e, Nat.or_comm, ← Nat.shiftLeft_add_eq_or_of_lt hb, Nat.shiftLeft_eq, Int.natCast_add, Int.natCast_mul, Int.toNat_of_nonneg hx, Int.toNat_of_nonneg hy]
  simp
  omega

end Go.Proofs.YtlglhokpaplifaaGreatDoor.Ev
