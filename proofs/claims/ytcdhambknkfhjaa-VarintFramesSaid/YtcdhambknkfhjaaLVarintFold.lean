import Derived.Test.YtcdhambknkfhjaaLVarint
import Derived.Test.YtcdhambknkfhjaaPAx2
import Derived.Test.YtcdhambknkfhjaaPAx3
-- folded numbers
set_option linter.unusedVariables false
set_option linter.unusedSimpArgs false
namespace Go.Proofs.Ytcdhambknkfhjaa.Pure
open Go.RowKit Go.Proofs.Ytcdhambknkfhjaa.PA Go.Proofs.YtcdhambknkfhjaaW.PrintWords Go.Proofs.YtcdhambknkfhjaaW.PrintLast Go.Proofs.YtcdhambknkfhjaaW.PrintMore
theorem u64wrap (x : Int) : IntKind.u64.wrap x = x % 18446744073709551616 := by
  simp only [IntKind.wrap, IntKind.bits, IntKind.signed, Bool.false_and, Bool.false_eq_true, if_false]
  omega
theorem i64wrap (x : Int) : IntKind.i64.wrap x = wrap64 x := by
  show (if (true && decide (x % 2 ^ 64 ≥ 2 ^ (64 - 1))) = true then x % 2 ^ 64 - 2 ^ 64 else x % 2 ^ 64) = wrap64 x
  simp only [Bool.true_and, decide_eq_true_eq, wrap64, show (2 : Int) ^ 64 = 18446744073709551616 from rfl, show (2 : Int) ^ (64 - 1) = 9223372036854775808 from rfl]
  split <;> omega
theorem xor_ones (n : Nat) (h : n < 18446744073709551616) : Go.bits .xor .u64 (n : Int) 18446744073709551615 = ((18446744073709551615 - n : Nat) : Int) := by
  have e : BitVec.ofInt 64 18446744073709551615 = BitVec.allOnes 64 := by decide
  have h' : n < 2 ^ 64 := h
  show IntKind.u64.wrap ((BitVec.ofInt 64 (n : Int) ^^^ BitVec.ofInt 64 18446744073709551615).toNat : Int) = ((18446744073709551615 - n : Nat) : Int)
  simp only [BitVec.ofInt_natCast, e, BitVec.xor_allOnes, BitVec.toNat_not, BitVec.toNat_ofNat, Nat.mod_eq_of_lt h']
  rw [u64wrap]
  omega
theorem xor_none (n : Nat) (h : n < 18446744073709551616) : Go.bits .xor .u64 (n : Int) 0 = (n : Int) := by
  have := x64 n 0 h (by omega)
  rw [Nat.xor_zero] at this
  exact this
theorem ixor_none (n : Nat) (h : n < 9223372036854775808) : Go.bits .xor .i64 (n : Int) 0 = (n : Int) := by
  have h' : n < 2 ^ 64 := by omega
  have e : BitVec.ofInt 64 0 = 0#64 := by decide
  show IntKind.i64.wrap ((BitVec.ofInt 64 (n : Int) ^^^ BitVec.ofInt 64 0).toNat : Int) = (n : Int)
  simp only [BitVec.ofInt_natCast, e, BitVec.xor_zero, BitVec.toNat_ofNat, Nat.mod_eq_of_lt h']
  rw [i64wrap, w64 (by omega) (by omega)]
theorem ixor_ones (n : Nat) (h : n < 9223372036854775808) : Go.bits .xor .i64 (n : Int) (-1) = -1 - (n : Int) := by
  have h' : n < 2 ^ 64 := by omega
  have e : BitVec.ofInt 64 (-1) = BitVec.allOnes 64 := by decide
  show IntKind.i64.wrap ((BitVec.ofInt 64 (n : Int) ^^^ BitVec.ofInt 64 (-1)).toNat : Int) = -1 - (n : Int)
  simp only [BitVec.ofInt_natCast, e, BitVec.xor_allOnes, BitVec.toNat_not, BitVec.toNat_ofNat, Nat.mod_eq_of_lt h']
  rw [i64wrap]
  simp only [wrap64]
  omega
def fold (a : Int) : Int := if 0 ≤ a then 2 * a else -2 * a - 1
theorem fold_eq {a : Int} (h0 : -9223372036854775808 ≤ a) (h1 : a < 9223372036854775808) : varint_Fold.f a = some (fold a) := by
  unfold varint_Fold.f fold
  congr 1
  by_cases h : 0 ≤ a
  · rw [if_pos h, show a / 9223372036854775808 = 0 by omega, u64wrap, u64wrap, show wrap64 (a * 2) % 18446744073709551616 = ((2 * a).toNat : Int) by simp only [wrap64]; omega, show (0 : Int) % 18446744073709551616 = 0 by omega, xor_none _ (by omega)]
    omega
  · rw [if_neg h, show a / 9223372036854775808 = -1 by omega, u64wrap, u64wrap, show wrap64 (a * 2) % 18446744073709551616 = ((18446744073709551616 + 2 * a).toNat : Int) by simp only [wrap64]; omega, show (-1 : Int) % 18446744073709551616 = 18446744073709551615 by omega, xor_ones _ (by omega)]
    omega
theorem fold_range {a : Int} (h0 : -9223372036854775808 ≤ a) (h1 : a < 9223372036854775808) : 0 ≤ fold a ∧ fold a < 18446744073709551616 := by
  unfold fold
  split <;> omega
def unfold' (n : Int) : Int := if n % 2 = 0 then n / 2 else -1 - n / 2
theorem and_one (n : Nat) (h : n < 18446744073709551616) : Go.bits .and .u64 (n : Int) 1 = ((n % 2 : Nat) : Int) := by
  have h' : n < 2 ^ 64 := h
  have e : BitVec.ofInt 64 1 = 1#64 := by decide
  show IntKind.u64.wrap ((BitVec.ofInt 64 (n : Int) &&& BitVec.ofInt 64 1).toNat : Int) = ((n % 2 : Nat) : Int)
  simp only [BitVec.ofInt_natCast, e, BitVec.toNat_and, BitVec.toNat_ofNat, Nat.mod_eq_of_lt h']
  rw [show (1 % 2 ^ 64 : Nat) = 1 by decide, Nat.and_one_is_mod, u64wrap]
  omega
theorem unfold_eq {n : Int} (h0 : 0 ≤ n) (h1 : n < 18446744073709551616) : varint_Unfold.f n = some (unfold' n) := by
  obtain ⟨n, rfl⟩ := Int.eq_ofNat_of_zero_le h0
  unfold varint_Unfold.f unfold'
  congr 1
  rw [and_one n (by omega), w64 (x := (n : Int) / 2) (by omega) (by omega), show ((n : Int) / 2) = ((n / 2 : Nat) : Int) by omega, w64n (n % 2) (by omega), w64 (by omega) (by omega)]
  by_cases h : n % 2 = 0
  · rw [if_pos (by omega), h, show (-((0 : Nat) : Int)) = 0 by omega, ixor_none _ (by omega)]
  · rw [if_neg (by omega), show n % 2 = 1 by omega, show (-((1 : Nat) : Int)) = -1 by omega, ixor_ones _ (by omega)]
theorem fold_unfold {n : Int} (h0 : 0 ≤ n) : fold (unfold' n) = n := by
  unfold fold unfold'
  split <;> split <;> omega
theorem unfold_fold (a : Int) : unfold' (fold a) = a := by
  unfold fold unfold'
  split <;> split <;> omega
theorem unfold_range {n : Int} (h0 : 0 ≤ n) (h1 : n < 18446744073709551616) : -9223372036854775808 ≤ unfold' n ∧ unfold' n < 9223372036854775808 := by
  unfold unfold'
  split <;> omega
end Go.Proofs.Ytcdhambknkfhjaa.Pure
