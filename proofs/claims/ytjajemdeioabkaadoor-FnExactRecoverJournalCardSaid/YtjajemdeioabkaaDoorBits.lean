/- Bit operations on numbers that are not negative; the ones of a word; parity. -/
import Derived.Test.YtjajemdeioabkaaDoorBase
import Derived.Test.YtjajemdeioabkaaDoorPopMath
import Derived.Laws.BitsLemmas
namespace Go.Proofs.YtjajemdeioabkaaDoor.Bits
open Go.RowKit Go.Proofs.YtjajemdeioabkaaDoor Go.Proofs.YtjajemdeioabkaaDoor.Base
set_option linter.unusedVariables false

theorem ofInt_i64 (a : Nat) (ha : a < 9223372036854775808) : (BitVec.ofInt 64 (a : Int)).toNat = a := by
  rw [BitVec.ofInt_natCast, BitVec.toNat_ofNat]; exact Nat.mod_eq_of_lt (by omega)
theorem i64_and_nat (a b : Nat) (ha : a < 9223372036854775808) (hb : b < 9223372036854775808) : bits .and .i64 (a : Int) (b : Int) = ((a &&& b : Nat) : Int) := by
  have hx : a &&& b < 2 ^ 63 := Nat.and_lt_two_pow _ (by omega)
  show IntKind.i64.wrap ((BitVec.ofInt 64 (a : Int) &&& BitVec.ofInt 64 (b : Int)).toNat : Int) = _
  rw [BitVec.toNat_and, ofInt_i64 a ha, ofInt_i64 b hb, IntKind.wrap_i64]
  omega
theorem i64_or_nat (a b : Nat) (ha : a < 9223372036854775808) (hb : b < 9223372036854775808) : bits .or .i64 (a : Int) (b : Int) = ((a ||| b : Nat) : Int) := by
  have hx : a ||| b < 2 ^ 63 := Nat.or_lt_two_pow (by omega) (by omega)
  show IntKind.i64.wrap ((BitVec.ofInt 64 (a : Int) ||| BitVec.ofInt 64 (b : Int)).toNat : Int) = _
  rw [BitVec.toNat_or, ofInt_i64 a ha, ofInt_i64 b hb, IntKind.wrap_i64]
  omega
theorem i64_xor_nat (a b : Nat) (ha : a < 9223372036854775808) (hb : b < 9223372036854775808) : bits .xor .i64 (a : Int) (b : Int) = ((a ^^^ b : Nat) : Int) := by
  have hx : a ^^^ b < 2 ^ 63 := Nat.xor_lt_two_pow (by omega) (by omega)
  show IntKind.i64.wrap ((BitVec.ofInt 64 (a : Int) ^^^ BitVec.ofInt 64 (b : Int)).toNat : Int) = _
  rw [BitVec.toNat_xor, ofInt_i64 a ha, ofInt_i64 b hb, IntKind.wrap_i64]
  omega

theorem w1 (n : Nat) (hn : n < 18446744073709551616) (h : PopM.S1 n < 18446744073709551616) : IntKind.u64.wrap (bits .and .u64 ((n : Int) / 2) 6148914691236517205 + bits .and .u64 (n : Int) 6148914691236517205) = ((PopM.S1 n : Nat) : Int) := by
  have a := u64_and_nat (n / 2) 6148914691236517205 (by omega) (by omega)
  have b := u64_and_nat n 6148914691236517205 hn (by omega)
  rw [show ((n : Int) / 2) = ((n / 2 : Nat) : Int) by omega]
  rw [show (6148914691236517205 : Int) = ((6148914691236517205 : Nat) : Int) from rfl, a, b, IntKind.wrap_u64]
  unfold PopM.S1 at *
  omega
theorem w2 (n : Nat) (hn : n < 18446744073709551616) (h : PopM.S2 n < 7378697629483820647) : IntKind.u64.wrap (bits .and .u64 ((n : Int) / 4) 3689348814741910323 + bits .and .u64 (n : Int) 3689348814741910323) = ((PopM.S2 n : Nat) : Int) := by
  have a := u64_and_nat (n / 4) 3689348814741910323 (by omega) (by omega)
  have b := u64_and_nat n 3689348814741910323 hn (by omega)
  rw [show ((n : Int) / 4) = ((n / 4 : Nat) : Int) by omega]
  rw [show (3689348814741910323 : Int) = ((3689348814741910323 : Nat) : Int) from rfl, a, b, IntKind.wrap_u64]
  unfold PopM.S2 at *
  omega
theorem w3 (n : Nat) (hn : n < 7378697629483820647) : bits .and .u64 (IntKind.u64.wrap ((n : Int) / 16 + (n : Int))) 1085102592571150095 = ((PopM.S3 n : Nat) : Int) := by
  have a := u64_and_nat (n / 16 + n) 1085102592571150095 (by omega) (by omega)
  have e : IntKind.u64.wrap ((n : Int) / 16 + (n : Int)) = ((n / 16 + n : Nat) : Int) := by rw [IntKind.wrap_u64]; omega
  rw [e, show (1085102592571150095 : Int) = ((1085102592571150095 : Nat) : Int) from rfl, a]
  rfl
theorem w4 (n : Nat) (hn : n < 1157442765409226769) : bits .and .i64 (wrap64 (IntKind.u64.wrap (IntKind.u64.wrap (IntKind.u64.wrap ((n : Int) + (n : Int) / 256) + IntKind.u64.wrap ((n : Int) + (n : Int) / 256) / 65536) + IntKind.u64.wrap (IntKind.u64.wrap ((n : Int) + (n : Int) / 256) + IntKind.u64.wrap ((n : Int) + (n : Int) / 256) / 65536) / 4294967296))) 127 =
    (((n + n / 256 + (n + n / 256) / 65536 + (n + n / 256 + (n + n / 256) / 65536) / 4294967296) % 128 : Nat) : Int) := by
  have e1 : IntKind.u64.wrap ((n : Int) + (n : Int) / 256) = ((n + n / 256 : Nat) : Int) := by rw [IntKind.wrap_u64]; omega
  rw [e1]
  have hx : n + n / 256 < 1161964026368821562 := by omega
  generalize n + n / 256 = x at *
  have e2 : IntKind.u64.wrap ((x : Int) + (x : Int) / 65536) = ((x + x / 65536 : Nat) : Int) := by rw [IntKind.wrap_u64]; omega
  rw [e2]
  have hy : x + x / 65536 < 1161981756664180000 := by omega
  generalize x + x / 65536 = y at *
  have e3 : IntKind.u64.wrap ((y : Int) + (y : Int) / 4294967296) = ((y + y / 4294967296 : Nat) : Int) := by rw [IntKind.wrap_u64]; omega
  have hz : y + y / 4294967296 < 1161981757000000000 := by omega
  rw [e3]
  generalize y + y / 4294967296 = z at *
  have e4 : wrap64 (z : Int) = (z : Int) := by simp only [wrap64]; omega
  rw [e4, show (127 : Int) = ((127 : Nat) : Int) from rfl, i64_and_nat z 127 (by omega) (by omega), nat_mask7]

theorem and1 (x : Nat) (h : x < 9223372036854775808) : bits .and .i64 (x : Int) 1 = ((x % 2 : Nat) : Int) := by
  have := i64_and_nat x 1 h (by omega)
  rw [nat_mask1] at this
  exact this
end Go.Proofs.YtjajemdeioabkaaDoor.Bits
