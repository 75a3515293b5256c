/- Words of bytes (PutWord, l01Word), by the machine. -/
import Derived.Test.YtdjdkkacbkfmeaaDec
set_option linter.unusedSimpArgs false
set_option linter.unusedVariables false
namespace Go.Proofs.Ytdjdkkacbkfmeaa
open Go.RowKit
/-- the last b bytes of a number, the highest first -/
def wdL : Nat → Int → List UInt8
  | 0, _ => []
  | b + 1, n => wdL b (n / 256) ++ [UInt8.ofNat (n % 256).toNat]
theorem wdL_len : ∀ b n, (wdL b n).length = b
  | 0, _ => rfl
  | b + 1, n => by rw [wdL, List.length_append, wdL_len b]; rfl
theorem wdL_per : ∀ (b : Nat) (n t : Int), wdL b (n + 256 ^ b * t) = wdL b n
  | 0, _, _ => rfl
  | b + 1, n, t => by
    have e : (256 : Int) ^ (b + 1) * t = 256 * (256 ^ b * t) := by rw [Int.pow_succ, Int.mul_comm (256 ^ b) 256, Int.mul_assoc]
    rw [wdL, wdL, e, Int.add_mul_ediv_left _ _ (by omega), Int.add_mul_emod_self_left, wdL_per b]
theorem wdL_mod (b : Nat) (n : Int) (h : b ≤ 8) : wdL b (n % 18446744073709551616) = wdL b n := by
  have e : (18446744073709551616 : Int) = 256 ^ b * 256 ^ (8 - b) := by rw [← Int.pow_add, show b + (8 - b) = 8 by omega]; rfl
  have e2 : n = n % 18446744073709551616 + 256 ^ b * (256 ^ (8 - b) * (n / 18446744073709551616)) := by rw [← Int.mul_assoc, ← e]; omega
  conv => rhs; rw [e2, wdL_per]
theorem and255 (n : Int) : (((BitVec.ofInt IntKind.i64.bits n &&& BitVec.ofInt IntKind.i64.bits 255).toNat : Nat) : Int) = n % 256 := by
  have e : BitVec.ofInt 64 255 = 255#64 := rfl
  show (((BitVec.ofInt 64 n &&& BitVec.ofInt 64 255).toNat : Nat) : Int) = _
  rw [e, BitVec.toNat_and, BitVec.toNat_ofInt, show (255#64).toNat = 2 ^ 8 - 1 from rfl, Nat.and_two_pow_sub_one_eq_mod]
  omega
theorem bD_lo (n : Int) : D.int .u8 (n % 256) = bD (UInt8.ofNat (n % 256).toNat) := by
  have h1 : 0 ≤ n % 256 := by omega
  have h2 : n % 256 < 256 := by omega
  have : (UInt8.ofNat (n % 256).toNat).toNat = (n % 256).toNat := by rw [UInt8.toNat_ofNat']; omega
  rw [bD, this, Int.toNat_of_nonneg h1]
/-- the index before the j-th -/
def iz : Nat → Int
  | 0 => -1
  | j + 1 => ((j : Nat) : Int)
theorem iz_eq (b : Nat) : ((b : Nat) : Int) - 1 = iz b := by cases b <;> simp [iz] <;> omega
theorem l01Word_v (n : Int) (b : Nat) (hb : b ≤ 4) : PC Try.prog 94 [.d (.int .i64 n), .d (.int .i64 b)] (.d (.str (mkS (wdL b n)))) [] := by
  refine pc_intro ttOk (by kernel_rfl) Try.func94 rfl (by kernel_rfl) (by kernel_rfl) (by kernel_rfl) (fun hw => ?_)
  have hn : -9223372036854775808 ≤ n ∧ n ≤ 9223372036854775807 := hw.1
  (conv => whnf)
  refine MkW.at (by omega) (by omega) (by show ((1 : Nat) : Int) * _ ≤ _; omega) ?_
  (conv => whnf)
  (repeat (refine stg_ ?_))
  refine LoopW.go (α := Nat × Int × List UInt8) (fun p => [(0, .d (.int .i64 p.2.1)), (5, .own 1 0 b), (6, .d (.int .i64 (iz p.1)))]) (fun p => [.gone, .arr 1 (p.2.2.map bD) true]) (fun p => p.1 ≤ b ∧ p.2.2.length = b ∧ (-9223372036854775808 ≤ p.2.1 ∧ p.2.1 ≤ 9223372036854775807) ∧ wdL b n = wdL p.1 p.2.1 ++ p.2.2.drop p.1) (fun p => p.1) (b, n, List.replicate b 0) ?_ ⟨Nat.le_refl _, by simp, hn, by rw [List.drop_eq_nil_of_le (by simp), List.append_nil]⟩ ?_
  · refine Weak.cov ⟨rfl, rfl, ?_, trivial⟩ ⟨trivial, ?_, trivial⟩ rfl
    · rw [← iz_eq]; rfl
    · rw [List.map_replicate]; rfl
  rintro ⟨j, u, bs⟩ ⟨k1, k2, k3, k4⟩
  dsimp only at k1 k2 k3 k4 ⊢
  have hm : (bs.map bD).length = bs.length := List.length_map _
  rcases j with _ | m
  · (conv => whnf)
    (repeat (refine stg_ ?_))
    refine StW.at (s := mkS (wdL b n)) (by rw [mkS_toList, k4, List.drop_zero, List.take_of_length_le (by omega), wdL, List.drop_zero, List.nil_append]) ?_
    (conv => whnf)
    (refine RetOK.d rfl rfl ?_; conv => whnf)
  · (conv => whnf)
    refine ArW.i64e (u % 256) (and255 u) (by omega) ?_
    (conv => whnf)
    obtain ⟨c0, hc0⟩ := at_lt' (xs := bs) (k := m) (by omega)
    have he : (bs.map bD)[m]? = some (bD c0) := by rw [List.getElem?_map, hc0]; rfl
    (refine stg_ ?_)
    refine IoW.at (by show (0 : Int) ≤ ((m : Nat) : Int); omega) (by show ((m : Nat) : Int) < _; omega) ?_
    (conv => whnf)
    (try (refine EoW.at he ?_; (conv => whnf)))
    (repeat (refine stg_ ?_))
    refine ShW.at (q := 256) (by rfl) (by omega) ?_
    (conv => whnf)
    (repeat (refine stg_ ?_))
    refine ArW.i64e (iz m) (by rw [← iz_eq m]; rfl) (by have := iz_eq m; omega) ?_
    (conv => whnf)
    (repeat (refine stg_ ?_))
    refine NextW.go (m, u / 256, bs.set m (UInt8.ofNat (u % 256).toNat)) (Weak.cov ⟨rfl, rfl, rfl, trivial⟩ ⟨trivial, ?_, trivial⟩ rfl) ⟨by simp only; omega, by simp only [List.length_set]; omega, by simp only; omega, ?_⟩ (by show m < m + 1; omega)
    · show Blk.arr 1 _ true = Blk.arr 1 _ true
      rw [bD_lo, List.map_set]; rfl
    · show wdL b n = wdL m (u / 256) ++ (bs.set m (UInt8.ofNat (u % 256).toNat)).drop m
      rw [k4, wdL, set_drop (by omega)]; simp
theorem PutWord_v (n : Int) (b : Nat) (h1 : 1 ≤ b) (h2 : b ≤ 4) (hr : -(256 ^ b / 2) ≤ n ∧ n < 256 ^ b) : PC Try.prog 150 [.d (.int .i64 n), .d (.int .i64 b)] (.d (.str (mkS (wdL b n)))) [] := by
  refine pc_intro ttOk (by kernel_rfl) Try.func150 rfl (by kernel_rfl) (by kernel_rfl) (by kernel_rfl) (fun hw => ?_)
  have hn : -9223372036854775808 ≤ n ∧ n ≤ 9223372036854775807 := hw.1
  have hp : (256 : Int) ^ b = ((256 ^ b : Nat) : Int) := by simp
  have hq : 256 ≤ 256 ^ b ∧ 256 ^ b ≤ 4294967296 := by
    have a1 : 256 ^ 1 ≤ 256 ^ b := Nat.pow_le_pow_right (by omega) h1
    have a2 : 256 ^ b ≤ 256 ^ 4 := Nat.pow_le_pow_right (by omega) h2
    omega
  have hS : (2 : Int) ^ min (8 * (b : Int)).toNat IntKind.i64.bits = ((256 ^ b : Nat) : Int) := by
    have : (8 * (b : Int)).toNat = 8 * b := by omega
    rw [this, show IntKind.i64.bits = 64 from rfl, show min (8 * b) 64 = 8 * b by omega, Int.pow_mul, ← hp]
    rfl
  rw [hp] at hr
  generalize 256 ^ b = p at *
  have ed : (0 - (p : Int)).tdiv 2 = -((p / 2 : Nat) : Int) := by rw [Int.zero_sub, Int.neg_tdiv, Int.tdiv_eq_ediv_of_nonneg (by omega)]; rfl
  (conv => whnf)
  (repeat' (first | (refine stg_ ?_) | fail | (refine br_ (fun hbr => ?_) (fun hbr => ?_))))
  all_goals first | (exfalso; omega) | skip
  refine ShW.at (q := (p : Int)) hS.symm (by omega) ?_
  (conv => whnf)
  refine ArW.i64e (p : Int) (by omega) (by omega) ?_
  (conv => whnf)
  (repeat (refine stg_ ?_))
  rw [ed]
  (repeat' (first | (refine stg_ ?_) | fail | (refine br_ (fun hbr => ?_) (fun hbr => ?_))))
  all_goals first | (exfalso; omega) | skip
  refine MkW.at (by omega) (by omega) (by show ((1 : Nat) : Int) * _ ≤ _; omega) ?_
  (conv => whnf)
  (repeat (refine stg_ ?_))
  obtain ⟨U, hU⟩ : ∃ U, U = n % 18446744073709551616 := ⟨_, rfl⟩
  refine ⟨U, by rw [hU]; simp only [IntKind.wrap, IntKind.bits, IntKind.signed, Bool.false_and, Bool.false_eq_true, if_false, Int.reducePow], ?_⟩
  (conv => whnf)
  (repeat (refine stg_ ?_))
  have hW : wdL b U = wdL b n := by rw [hU]; exact wdL_mod b n (by omega)
  rw [← hW]
  refine LoopW.go (α := Nat × Int × List UInt8) (fun p => [(6, .own 1 0 b), (7, .d (.int .u64 p.2.1)), (8, .d (.int .i64 (iz p.1)))]) (fun p => [.gone, .arr 1 (p.2.2.map bD) true]) (fun p => p.1 ≤ b ∧ p.2.2.length = b ∧ (0 ≤ p.2.1 ∧ p.2.1 < 18446744073709551616) ∧ wdL b U = wdL p.1 p.2.1 ++ p.2.2.drop p.1) (fun p => p.1) (b, U, List.replicate b 0) ?_ ⟨Nat.le_refl _, by simp, by simp only; omega, by rw [List.drop_eq_nil_of_le (by simp), List.append_nil]⟩ ?_
  · refine Weak.cov ⟨rfl, rfl, ?_, trivial⟩ ⟨trivial, ?_, trivial⟩ rfl
    · rw [← iz_eq]; rfl
    · rw [List.map_replicate]; rfl
  rintro ⟨j, u, bs⟩ ⟨k1, k2, k3, k4⟩
  dsimp only at k1 k2 k3 k4 ⊢
  have hm : (bs.map bD).length = bs.length := List.length_map _
  rcases j with _ | m
  · (conv => whnf)
    (repeat (refine stg_ ?_))
    refine StW.at (s := mkS (wdL b U)) (by rw [mkS_toList, k4, List.drop_zero, List.take_of_length_le (by omega), wdL, List.drop_zero, List.nil_append]) ?_
    (conv => whnf)
    (refine RetOK.d rfl rfl ?_; conv => whnf)
  · (conv => whnf)
    obtain ⟨c0, hc0⟩ := at_lt' (xs := bs) (k := m) (by omega)
    have he : (bs.map bD)[m]? = some (bD c0) := by rw [List.getElem?_map, hc0]; rfl
    refine ⟨u % 256, by simp only [IntKind.wrap, IntKind.bits, IntKind.signed, Bool.false_and, Bool.false_eq_true, if_false, Int.reducePow], ?_⟩
    (conv => whnf)
    refine IoW.at (by show (0 : Int) ≤ ((m : Nat) : Int); omega) (by show ((m : Nat) : Int) < _; omega) ?_
    (conv => whnf)
    (try (refine EoW.at he ?_; (conv => whnf)))
    (repeat (refine stg_ ?_))
    refine ShW.at (q := 256) (by rfl) (by omega) ?_
    (conv => whnf)
    (repeat (refine stg_ ?_))
    refine ArW.i64e (iz m) (by rw [← iz_eq m]; rfl) (by have := iz_eq m; omega) ?_
    (conv => whnf)
    (repeat (refine stg_ ?_))
    refine NextW.go (m, u / 256, bs.set m (UInt8.ofNat (u % 256).toNat)) (Weak.cov ⟨rfl, rfl, rfl, trivial⟩ ⟨trivial, ?_, trivial⟩ rfl) ⟨by simp only; omega, by simp only [List.length_set]; omega, by simp only; omega, ?_⟩ (by show m < m + 1; omega)
    · show Blk.arr 1 _ true = Blk.arr 1 _ true
      rw [bD_lo, List.map_set]; rfl
    · show wdL b U = wdL m (u / 256) ++ (bs.set m (UInt8.ofNat (u % 256).toNat)).drop m
      rw [k4, wdL, set_drop (by omega)]; simp
end Go.Proofs.Ytdjdkkacbkfmeaa
