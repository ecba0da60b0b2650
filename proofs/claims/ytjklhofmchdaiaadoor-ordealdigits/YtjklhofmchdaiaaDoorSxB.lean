/- Own layer of the proof: SxB. No conditions. -/
import Derived.Test.YtjklhofmchdaiaaDoorSxV
set_option linter.unusedVariables false
namespace Go.Sx
/-! ### bits of numbers that are not below 0 -/
theorem ofInt_nat (n a : Nat) (h : a < 2 ^ n) : (BitVec.ofInt n (a : Int)).toNat = a := by
  rw [BitVec.ofInt_natCast, BitVec.toNat_ofNat]; exact Nat.mod_eq_of_lt h
theorem wrap_nat_u64 {a : Nat} (h : a < 18446744073709551616) : IntKind.u64.wrap (a : Int) = a := wrap_u64 (by omega) (by omega)
theorem wrap_nat_u32 {a : Nat} (h : a < 4294967296) : IntKind.u32.wrap (a : Int) = a := wrap_u32 (by omega) (by omega)
theorem wrap_nat_u8 {a : Nat} (h : a < 256) : IntKind.u8.wrap (a : Int) = a := wrap_u8 (by omega) (by omega)
theorem u64_and (a b : Nat) (ha : a < 18446744073709551616) (hb : b < 18446744073709551616) : bits .and .u64 (a : Int) (b : Int) = ((a &&& b : Nat) : Int) := by
  show IntKind.u64.wrap (((BitVec.ofInt 64 (a : Int) &&& BitVec.ofInt 64 (b : Int)).toNat : Nat) : Int) = _
  rw [BitVec.toNat_and, ofInt_nat 64 a ha, ofInt_nat 64 b hb, wrap_nat_u64 (Nat.lt_of_le_of_lt Nat.and_le_left ha)]
theorem u64_or (a b : Nat) (ha : a < 18446744073709551616) (hb : b < 18446744073709551616) : bits .or .u64 (a : Int) (b : Int) = ((a ||| b : Nat) : Int) := by
  show IntKind.u64.wrap (((BitVec.ofInt 64 (a : Int) ||| BitVec.ofInt 64 (b : Int)).toNat : Nat) : Int) = _
  rw [BitVec.toNat_or, ofInt_nat 64 a ha, ofInt_nat 64 b hb, wrap_nat_u64 (Nat.or_lt_two_pow (n := 64) ha hb)]
theorem u64_xor (a b : Nat) (ha : a < 18446744073709551616) (hb : b < 18446744073709551616) : bits .xor .u64 (a : Int) (b : Int) = ((a ^^^ b : Nat) : Int) := by
  show IntKind.u64.wrap (((BitVec.ofInt 64 (a : Int) ^^^ BitVec.ofInt 64 (b : Int)).toNat : Nat) : Int) = _
  rw [BitVec.toNat_xor, ofInt_nat 64 a ha, ofInt_nat 64 b hb, wrap_nat_u64 (Nat.xor_lt_two_pow (n := 64) ha hb)]
theorem u32_and (a b : Nat) (ha : a < 4294967296) (hb : b < 4294967296) : bits .and .u32 (a : Int) (b : Int) = ((a &&& b : Nat) : Int) := by
  show IntKind.u32.wrap (((BitVec.ofInt 32 (a : Int) &&& BitVec.ofInt 32 (b : Int)).toNat : Nat) : Int) = _
  rw [BitVec.toNat_and, ofInt_nat 32 a ha, ofInt_nat 32 b hb, wrap_nat_u32 (Nat.lt_of_le_of_lt Nat.and_le_left ha)]
theorem u8_and (a b : Nat) (ha : a < 256) (hb : b < 256) : bits .and .u8 (a : Int) (b : Int) = ((a &&& b : Nat) : Int) := by
  show IntKind.u8.wrap (((BitVec.ofInt 8 (a : Int) &&& BitVec.ofInt 8 (b : Int)).toNat : Nat) : Int) = _
  rw [BitVec.toNat_and, ofInt_nat 8 a ha, ofInt_nat 8 b hb, wrap_nat_u8 (Nat.lt_of_le_of_lt Nat.and_le_left ha)]
theorem bits_bd_u64 (op : BinOp) (x y : Int) : 0 ≤ bits op .u64 x y ∧ bits op .u64 x y < 18446744073709551616 := by
  unfold bits; exact wrap_u64_bd _
theorem bits_bd_u32 (op : BinOp) (x y : Int) : 0 ≤ bits op .u32 x y ∧ bits op .u32 x y < 4294967296 := by
  unfold bits; exact wrap_u32_bd _
theorem bits_bd_u8 (op : BinOp) (x y : Int) : 0 ≤ bits op .u8 x y ∧ bits op .u8 x y < 256 := by
  unfold bits; exact wrap_u8_bd _
end Go.Sx
