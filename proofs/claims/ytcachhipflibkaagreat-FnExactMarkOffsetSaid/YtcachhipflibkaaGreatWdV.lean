/- Words of bytes (PutWord, l01Word), by the machine. -/
import Derived.Test.YtcachhipflibkaaGreatDec
set_option linter.unusedSimpArgs false
set_option linter.unusedVariables false
namespace Go.Proofs.YtcachhipflibkaaGreat
open Go.RowKit
/-- the last b bytes of a number, the highest first -/
def wdL : Nat → Int → List UInt8
  | 0, _ => []
  | b + 1, n => wdL b (n / 256) ++ [UInt8.ofNat (n % 256).toNat]
theorem wdL_len : ∀ b n, (wdL b n).length = b
  | 0, _ => rfl
  | b + 1, n => by rw [wdL, List.length_append, wdL_len b]; rfl
theorem wdL_per : ∀ (b : Nat) (n t : Int), wdL b (n + 256 ^ b * t) = wdL b n
  | 0, _, _ => rfl
  | b + 1, n, t => by
    have e : (256 : Int) ^ (b + 1) * t = 256 * (256 ^ b * t) := by rw [Int.pow_succ, Int.mul_comm (256 ^ b) 256, Int.mul_assoc]
    rw [wdL, wdL, e, Int.add_mul_ediv_left _ _ (by omega), Int.add_mul_emod_self_left, wdL_per b]
theorem wdL_mod (b : Nat) (n : Int) (h : b ≤ 8) : wdL b (n % 18446744073709551616) = wdL b n := by
  have e : (18446744073709551616 : Int) = 256 ^ b * 256 ^ (8 - b) := by rw [← Int.pow_add, show b + (8 - b) = 8 by omega]; rfl
  have e2 : n = n % 18446744073709551616 + 256 ^ b * (256 ^ (8 - b) * (n / 18446744073709551616)) := by rw [← Int.mul_assoc, ← e]; omega
  conv => rhs; rw [e2, wdL_per]
theorem and255 (n : Int) : (((BitVec.ofInt IntKind.i64.bits n &&& BitVec.ofInt IntKind.i64.bits 255).toNat : Nat) : Int) = n % 256 := by
  have e : BitVec.ofInt 64 255 = 255#64 := rfl
  show (((BitVec.ofInt 64 n &&& BitVec.ofInt 64 255).toNat : Nat) : Int) = _
  rw [e, BitVec.toNat_and, BitVec.toNat_ofInt, show (255#64).toNat = 2 ^ 8 - 1 from rfl, Nat.and_two_pow_sub_one_eq_mod]
  omega
theorem bD_lo (n : Int) : D.int .u8 (n % 256) = bD (UInt8.ofNat (n % 256).toNat) := by
  have h1 : 0 ≤ n % 256 := by omega
  have h2 : n % 256 < 256 := by omega
  have : (UInt8.ofNat (n % 256).toNat).toNat = (n % 256).toNat := by rw [UInt8.toNat_ofNat']; omega
  rw [bD, this, Int.toNat_of_nonneg h1]
/-- the index before the j-th -/
def iz : Nat → Int
  | 0 => -1
  | j + 1 => ((j : Nat) : Int)
theorem iz_eq (b : Nat) : ((b : Nat) : Int) - 1 = iz b := by cases b <;> simp [iz] <;> omega
end Go.Proofs.YtcachhipflibkaaGreat
