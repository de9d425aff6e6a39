/- Plain numbers: unzigzag is the inverse of zigzag. No program in sight. -/
import Derived.Test.YtajdkcpcgfipbaaPureF
namespace Go.Wm
open Go.RowKit

theorem xor64_zero (a : Nat) (ha : a < 9223372036854775808) : bits .xor .i64 (a : Int) 0 = a := by
  show IntKind.i64.wrap ((BitVec.ofInt 64 (a : Int) ^^^ BitVec.ofInt 64 0).toNat : Nat) = a
  have e : BitVec.ofInt 64 (0 : Int) = 0#64 := by decide
  rw [e, BitVec.xor_zero, BitVec.toNat_ofInt, IntKind.wrap_i64]
  omega
theorem xor64_ones (a : Nat) (ha : a < 9223372036854775808) : bits .xor .i64 (a : Int) (-1) = -(a : Int) - 1 := by
  show IntKind.i64.wrap ((BitVec.ofInt 64 (a : Int) ^^^ BitVec.ofInt 64 (-1)).toNat : Nat) = _
  have e : BitVec.ofInt 64 (-1 : Int) = BitVec.allOnes 64 := by decide
  rw [e, BitVec.xor_allOnes, BitVec.toNat_not, BitVec.toNat_ofInt, IntKind.wrap_i64]
  omega
theorem unzI_nat (z : Nat) (hz : z < 18446744073709551616) : unzI (z : Int) = if z % 2 = 0 then ((z / 2 : Nat) : Int) else -((z / 2 : Nat) : Int) - 1 := by
  have e1 : bits .and .u64 (z : Int) 1 = ((z % 2 : Nat) : Int) := by
    rw [show (1 : Int) = ((1 : Nat) : Int) from rfl, u64_and_nat z 1 hz (by omega), Nat.and_one_is_mod]
  have e2 : wrap64 ((z : Int) / 2) = ((z / 2 : Nat) : Int) := by unfold wrap64; omega
  have hl : z / 2 < 9223372036854775808 := by omega
  unfold unzI
  rw [e1, e2]
  by_cases h : z % 2 = 0
  · rw [if_pos h, h, show wrap64 (-(wrap64 ((0 : Nat) : Int))) = 0 by unfold wrap64; omega, xor64_zero _ hl]
  · rw [if_neg h, show z % 2 = 1 by omega, show wrap64 (-(wrap64 ((1 : Nat) : Int))) = -1 by unfold wrap64; omega, xor64_ones _ hl]
theorem unz_zig (n : Int) (h1 : -9223372036854775808 ≤ n) (h2 : n ≤ 9223372036854775807) : unzI (zigN n : Int) = n := by
  rw [unzI_nat _ (zigN_lt n h1 h2)]
  unfold zigN
  by_cases h : n < 0
  · rw [if_pos h, if_neg (by omega)]; omega
  · rw [if_neg h, if_pos (by omega)]; omega
theorem unzI_range (z : Nat) (hz : z < 18446744073709551616) : -9223372036854775808 ≤ unzI (z : Int) ∧ unzI (z : Int) ≤ 9223372036854775807 := by
  rw [unzI_nat z hz]; split <;> omega
end Go.Wm
