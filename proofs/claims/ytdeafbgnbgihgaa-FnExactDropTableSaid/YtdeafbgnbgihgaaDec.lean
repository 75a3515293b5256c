/- Decimals: plain law, and both functions by the machine. -/
import Derived.Test.YtdeafbgnbgihgaaVMRen
import Derived.Test.YtdeafbgnbgihgaaTT
import Derived.Test.YtdeafbgnbgihgaaAxV1
import Derived.Test.YtdeafbgnbgihgaaGen
set_option linter.unusedSimpArgs false
set_option linter.unusedVariables false
namespace Go.Proofs.Ytdeafbgnbgihgaa
open Go.RowKit
def mkS (l : List UInt8) : ByteArray := ⟨l.toArray⟩
theorem mkS_toList (l : List UInt8) : (mkS l).data.toList = l := by simp [mkS]
theorem mkS_size (l : List UInt8) : (mkS l).size = l.length := by simp [mkS, ByteArray.size]
theorem mkS_of (s : ByteArray) : mkS s.data.toList = s := by
  apply ByteArray.ext
  simp [mkS]
theorem mkS_app (a b : List UInt8) : mkS a ++ mkS b = mkS (a ++ b) := by
  apply ByteArray.ext
  simp [mkS]
def dgC (d : Nat) : UInt8 := UInt8.ofNat (48 + d)
def decL (u : Nat) : List UInt8 := if u < 10 then [dgC u] else decL (u / 10) ++ [dgC (u % 10)]
termination_by u
theorem decL_lo {u : Nat} (h : u < 10) : decL u = [dgC u] := by rw [decL, if_pos h]
theorem decL_hi {u : Nat} (h : ¬ u < 10) : decL u = decL (u / 10) ++ [dgC (u % 10)] := by rw [decL, if_neg h]
theorem decL_pos (u : Nat) : 0 < (decL u).length := by
  rw [decL]; split <;> simp
theorem decL_len : ∀ (k u : Nat), u < 10 ^ (k + 1) → (decL u).length ≤ k + 1
  | 0, u, h => by rw [decL_lo (by simpa using h)]; simp
  | k + 1, u, h => by
    by_cases h1 : u < 10
    · rw [decL_lo h1]; simp
    · rw [decL_hi h1]
      have := decL_len k (u / 10) (by rw [Nat.div_lt_iff_lt_mul (by omega)]; rw [Nat.pow_succ] at h; exact h)
      simp; omega
def decS (n : Int) : List UInt8 := (if n < 0 then [45] else []) ++ decL n.natAbs
def decB (n : Int) : ByteArray := mkS (decS n)
theorem dgC_toNat {d : Nat} (h : d < 10) : (dgC d).toNat = 48 + d := by simp [dgC]; omega
theorem bD_dg {d : Nat} (h : d < 10) {z : Int} (hz : z = 48 + (d : Int)) : D.int .u8 z = bD (dgC d) := by
  rw [bD, dgC_toNat h, hz]; rfl
theorem decB_size (n : Int) (h : n.natAbs < 10 ^ 20) : (decB n).size ≤ 21 := by
  rw [decB, mkS_size, decS, List.length_append]
  have := decL_len 19 n.natAbs h
  split <;> simp <;> omega
theorem natAbs_bnd {n : Int} (h1 : -9223372036854775808 ≤ n) (h2 : n ≤ 9223372036854775807) : n.natAbs < 10 ^ 20 := by omega
theorem decS_pre {n k : Int} {L : List UInt8} (h : (if k = 0 then [] else decL k.natAbs) ++ L = (if n = 0 then [] else decL n.natAbs)) (hk : k ≠ 0) : (if k.tdiv 10 = 0 then [] else decL (k.tdiv 10).natAbs) ++ (dgC (k.natAbs % 10) :: L) = (if n = 0 then [] else decL n.natAbs) := by
  rw [← h, if_neg hk]
  have e : (k.tdiv 10).natAbs = k.natAbs / 10 := by rw [Int.natAbs_tdiv]; rfl
  by_cases h1 : k.natAbs < 10
  · rw [decL_lo h1, if_pos (by omega), Nat.mod_eq_of_lt h1]; rfl
  · rw [decL_hi h1, if_neg (by omega), e]; simp
end Go.Proofs.Ytdeafbgnbgihgaa
