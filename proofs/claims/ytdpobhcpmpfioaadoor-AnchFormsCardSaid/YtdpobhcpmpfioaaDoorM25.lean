import Derived.Test.YtdpobhcpmpfioaaDoorM12
import Derived.Laws.Bits128
set_option linter.all false
set_option linter.unusedVariables false
set_option linter.unusedSimpArgs false
namespace Go.Proofs.YtdpobhcpmpfioaaDoor
open Go.RowKit
theorem ofInt64 (x : Int) : (BitVec.ofInt 64 x).toNat = (x % 18446744073709551616).toNat := by simp [BitVec.toNat_ofInt]
theorem wrap64s (n : Nat) (h : n < 8) : IntKind.i64.wrap (n : Int) = n := by rw [IntKind.wrap_i64]; omega
theorem i64_and7 (n : Int) : bits .and .i64 n 7 = n % 8 := by
  show IntKind.i64.wrap (((BitVec.ofInt 64 n &&& BitVec.ofInt 64 7).toNat : Nat) : Int) = _
  rw [BitVec.toNat_and, ofInt64, ofInt64]
  have h7 : ((7 : Int) % 18446744073709551616).toNat = 2 ^ 3 - 1 := by decide
  rw [h7, Nat.and_two_pow_sub_one_eq_mod, wrap64s _ (Nat.mod_lt _ (by decide))]
  omega
theorem i64_and1 (n : Int) : bits .and .i64 n 1 = n % 2 := by
  show IntKind.i64.wrap (((BitVec.ofInt 64 n &&& BitVec.ofInt 64 1).toNat : Nat) : Int) = _
  rw [BitVec.toNat_and, ofInt64, ofInt64]
  have h7 : ((1 : Int) % 18446744073709551616).toNat = 2 ^ 1 - 1 := by decide
  rw [h7, Nat.and_two_pow_sub_one_eq_mod, wrap64s _ (Nat.lt_trans (Nat.mod_lt _ (by decide)) (by decide))]
  omega
theorem i64_andNot (a : Nat) (ha : a < 8) (s : Int) : bits .andNot .i64 (a : Int) s = ((a &&& (7 - (s % 8).toNat) : Nat) : Int) := by
  show IntKind.i64.wrap (((BitVec.ofInt 64 (a : Int) &&& ~~~ BitVec.ofInt 64 s).toNat : Nat) : Int) = _
  rw [BitVec.toNat_and, BitVec.toNat_not, ofInt64, ofInt64]
  have e1 : ((a : Int) % 18446744073709551616).toNat = a := by omega
  rw [e1]
  have e2 : a = a &&& 7 := by
    rw [show (7 : Nat) = 2 ^ 3 - 1 from rfl, Nat.and_two_pow_sub_one_eq_mod]; omega
  have e3 : a &&& (2 ^ 64 - 1 - (s % 18446744073709551616).toNat) = a &&& (7 - (s % 8).toNat) := by
    have e4 : 7 &&& (2 ^ 64 - 1 - (s % 18446744073709551616).toNat) = 7 - (s % 8).toNat := by
      rw [Nat.and_comm, show (7 : Nat) = 2 ^ 3 - 1 from rfl, Nat.and_two_pow_sub_one_eq_mod]
      omega
    conv => lhs; rw [e2]
    rw [Nat.and_assoc, e4]
  rw [e3, wrap64s]
  exact Nat.lt_of_le_of_lt Nat.and_le_left ha
theorem bit_of (D : Int) (k : Nat) (hk : k < 3) : (bits BinOp.and IntKind.i64 (D / 2 ^ k) 1 == 1) = bitB (D % 8).toNat k := by
  rw [i64_and1]
  unfold bitB
  have : k = 0 ∨ k = 1 ∨ k = 2 := by omega
  apply Bool.eq_iff_iff.2
  rcases this with rfl | rfl | rfl <;> simp <;> omega
end Go.Proofs.YtdpobhcpmpfioaaDoor
