/- Words and sums of bytes, both sides, by the machine. -/
import Derived.Test.YtcnlmllhnmaogaaDoorTabW
set_option linter.unusedSimpArgs false
set_option linter.unusedVariables false
namespace Go.Proofs.YtcnlmllhnmaogaaDoor
open Go.RowKit
def wtN (k : Nat) : Nat := if k % 4 = 0 then 16777216 else if k % 4 = 1 then 65536 else if k % 4 = 2 then 256 else 1
theorem wtN_le (k : Nat) : 1 ≤ wtN k ∧ wtN k ≤ 16777216 := by unfold wtN; split <;> (try split) <;> (try split) <;> omega
theorem wtN_pow (k b : Nat) (hb : 32 ≤ b) : ((wtN k : Nat) : Int) = 2 ^ min (8 * (3 - ((k % 4 : Nat) : Int))).toNat b := by
  have h4 : k % 4 < 4 := Nat.mod_lt _ (by decide)
  unfold wtN
  rcases (show k % 4 = 0 ∨ k % 4 = 1 ∨ k % 4 = 2 ∨ k % 4 = 3 by omega) with h | h | h | h <;> rw [h] <;> simp <;> (rw [Nat.min_eq_left (by omega)]) <;> rfl
def smK (s : ByteArray) : Nat → Nat
  | 0 => 0
  | k + 1 => smK s k + ((s[k]?).map UInt8.toNat).getD 0 * wtN k
theorem smK_at {s : ByteArray} {k : Nat} {c : UInt8} (h : s[k]? = some c) : smK s (k + 1) = smK s k + c.toNat * wtN k := by rw [smK, h]; rfl
theorem smK_le (s : ByteArray) : ∀ k, smK s k ≤ k * 4294967296
  | 0 => by simp [smK]
  | k + 1 => by
    have ih := smK_le s k
    have hw := wtN_le k
    have hc : ((s[k]?).map UInt8.toNat).getD 0 ≤ 255 := by
      cases s[k]? with
      | none => simp
      | some c => have := c.toNat_lt; simp; omega
    have : ((s[k]?).map UInt8.toNat).getD 0 * wtN k ≤ 255 * 16777216 := Nat.mul_le_mul hc hw.2
    rw [smK]; omega
def sumB (s : ByteArray) : Int := ((smK s s.size % 4294967296 : Nat) : Int)
theorem Sum32_v (s : ByteArray) : PC Tryd.prog 30 [.d (.str s)] (.d (.int .i64 (sumB s))) [] := by
  refine pc_intro ttOk (by kernel_rfl) Tryd.func30 rfl (by kernel_rfl) (by kernel_rfl) (by kernel_rfl) (fun hw => ?_)
  have hs : s.size ≤ 9223372036854775807 := hw.1
  (conv => whnf)
  refine LoopW.go (α := Nat) (fun k => [(0, .d (.str s)), (3, .d (.int .u32 ((smK s k % 4294967296 : Nat)))), (4, .d (.int .i64 k))]) (fun _ => [.gone]) (fun k => k ≤ s.size) (fun k => s.size - k) 0 covT_ (by omega) (fun k hk => ?_)
  (conv => whnf)
  (refine br_ (fun h1 => ?_) (fun h1 => ?_))
  · have hc := bget? (s := s) (k := k) (by omega)
    have hcl := (s[k]'(by omega)).toNat_lt
    have hwt := wtN_le k
    have hm : (s[k]'(by omega)).toNat * wtN k ≤ 255 * 16777216 := Nat.mul_le_mul (by omega) hwt.2
    have ht : (k : Int).tmod 4 = ((k % 4 : Nat) : Int) := by rw [Int.tmod_eq_emod_of_nonneg (by omega)]; rfl
    have hp := wtN_pow k 32 (by omega)
    have hk4 : k % 4 < 4 := Nat.mod_lt _ (by decide)
    obtain ⟨P, hP⟩ : ∃ P : Nat, P = (s[k]'(by omega)).toNat * wtN k := ⟨_, rfl⟩
    have e : (((s[k]'(by omega)).toNat : Nat) : Int) * ((wtN k : Nat) : Int) = (P : Int) := by rw [hP]; simp
    rw [← hP] at hm
    have hS := smK_at hc
    rw [← hP] at hS
    repeat (first | (refine stg_ ?_) | (rw [ht]; (refine stg_ ?_)))
    refine ShW.at (q := ((wtN k : Nat) : Int)) hp (by omega) ?_
    (conv => whnf)
    rw [e]
    (refine stg_ ?_)
    refine ⟨((smK s (k + 1) % 4294967296 : Nat) : Int), by simp only [IntKind.wrap, IntKind.bits, IntKind.signed, Bool.false_and, Bool.false_eq_true, if_false, Int.reducePow]; omega, ?_⟩
    (conv => whnf)
    (repeat (refine stg_ ?_))
    exact NextW.go (k + 1) covT_ (by omega) (by omega)
  · obtain rfl : k = s.size := by omega
    (repeat (refine stg_ ?_))
    (refine RetOK.d rfl rfl ?_; conv => whnf)
    rfl
theorem l01Sum_v (s : ByteArray) (hz : s.size ≤ 1048576) : PC Tryd.prog 28 [.d (.str s)] (.d (.int .i64 (sumB s))) [] := by
  refine pc_intro ttOk (by kernel_rfl) Tryd.func28 rfl (by kernel_rfl) (by kernel_rfl) (by kernel_rfl) (fun hw => ?_)
  (conv => whnf)
  refine LoopW.go (α := Nat) (fun k => [(0, .d (.str s)), (3, .d (.int .i64 (smK s k : Nat))), (4, .d (.int .i64 k))]) (fun _ => [.gone]) (fun k => k ≤ s.size) (fun k => s.size - k) 0 covT_ (by omega) (fun k hk => ?_)
  have hle := smK_le s k
  (conv => whnf)
  (refine br_ (fun h1 => ?_) (fun h1 => ?_))
  · have hc := bget? (s := s) (k := k) (by omega)
    have hcl := (s[k]'(by omega)).toNat_lt
    have hwt := wtN_le k
    have hm : (s[k]'(by omega)).toNat * wtN k ≤ 255 * 16777216 := Nat.mul_le_mul (by omega) hwt.2
    have ht : (k : Int).tmod 4 = ((k % 4 : Nat) : Int) := by rw [Int.tmod_eq_emod_of_nonneg (by omega)]; rfl
    have hp := wtN_pow k 64 (by omega)
    have hk4 : k % 4 < 4 := Nat.mod_lt _ (by decide)
    obtain ⟨P, hP⟩ : ∃ P : Nat, P = (s[k]'(by omega)).toNat * wtN k := ⟨_, rfl⟩
    have e : (((s[k]'(by omega)).toNat : Nat) : Int) * ((wtN k : Nat) : Int) = (P : Int) := by rw [hP]; simp
    rw [← hP] at hm
    have hS := smK_at hc
    rw [← hP] at hS
    repeat (first | (refine stg_ ?_) | (rw [ht]; (refine stg_ ?_)))
    refine ShW.at (q := ((wtN k : Nat) : Int)) hp (by omega) ?_
    (conv => whnf)
    rw [e]
    (refine stg_ ?_)
    refine ArW.i64e ((smK s (k + 1) : Nat) : Int) (by omega) (by omega) ?_
    (conv => whnf)
    (repeat (refine stg_ ?_))
    exact NextW.go (k + 1) covT_ (by omega) (by omega)
  · obtain rfl : k = s.size := by omega
    refine ArW.i64e (sumB s) ?_ (by unfold sumB; omega) ?_
    · show (((BitVec.ofInt 64 ((smK s s.size : Nat) : Int) &&& BitVec.ofInt 64 4294967295).toNat : Nat) : Int) = _
      rw [show BitVec.ofInt 64 4294967295 = 4294967295#64 from rfl, BitVec.toNat_and, BitVec.toNat_ofInt, show (4294967295#64).toNat = 2 ^ 32 - 1 from rfl, Nat.and_two_pow_sub_one_eq_mod]
      unfold sumB
      omega
    · (conv => whnf)
      (refine RetOK.d rfl rfl ?_; conv => whnf)
/-! words -/
def gwK (s : ByteArray) (a : Nat) : Nat → Nat
  | 0 => 0
  | j + 1 => gwK s a j * 256 + ((s[a + j]?).map UInt8.toNat).getD 0
theorem gwK_at {s : ByteArray} {a j : Nat} {c : UInt8} (h : s[a + j]? = some c) : gwK s a (j + 1) = gwK s a j * 256 + c.toNat := by rw [gwK, h]; rfl
theorem gwK_lt (s : ByteArray) (a : Nat) : ∀ j, gwK s a j < 256 ^ j
  | 0 => by simp [gwK]
  | j + 1 => by
    have ih := gwK_lt s a j
    have hc : ((s[a + j]?).map UInt8.toNat).getD 0 ≤ 255 := by
      cases s[a + j]? with
      | none => simp
      | some c => have := c.toNat_lt; simp; omega
    rw [gwK, Nat.pow_succ]; omega
theorem or_add {n c : Nat} (hn : n < 1099511627776) (hc : c < 256) : (((BitVec.ofInt IntKind.i64.bits ((n : Int) * 256) ||| BitVec.ofInt IntKind.i64.bits (c : Int)).toNat : Nat) : Int) = (n : Int) * 256 + c := by
  show (((BitVec.ofInt 64 ((n : Int) * 256) ||| BitVec.ofInt 64 (c : Int)).toNat : Nat) : Int) = _
  rw [BitVec.toNat_or, BitVec.toNat_ofInt, BitVec.toNat_ofInt]
  have e1 : ((n : Int) * 256 % ((2 ^ 64 : Nat) : Int)).toNat = 2 ^ 8 * n := by omega
  have e2 : ((c : Int) % ((2 ^ 64 : Nat) : Int)).toNat = c := by omega
  rw [e1, e2, ← Nat.two_pow_add_eq_or_of_lt (i := 8) (by omega)]
  omega
theorem l01Get_v (s : ByteArray) (a b : Nat) (hb : b ≤ 4) (h : a + b ≤ s.size) : PC Tryd.prog 57 [.d (.str s), .d (.int .i64 a), .d (.int .i64 b)] (.d (.int .i64 (gwK s a b : Nat))) [] := by
  refine pc_intro ttOk (by kernel_rfl) Tryd.func57 rfl (by kernel_rfl) (by kernel_rfl) (by kernel_rfl) (fun hw => ?_)
  have hs : s.size ≤ 9223372036854775807 := hw.1
  (conv => whnf)
  refine LoopW.go (α := Nat) (fun k => [(0, .d (.str s)), (1, .d (.int .i64 a)), (2, .d (.int .i64 b)), (7, .d (.int .i64 (gwK s a k : Nat))), (8, .d (.int .i64 k))]) (fun _ => [.gone]) (fun k => k ≤ b) (fun k => b - k) 0 covT_ (by omega) (fun k hk => ?_)
  have hlt := gwK_lt s a k
  have hpw : 256 ^ k ≤ 256 ^ 4 := Nat.pow_le_pow_right (by omega) (by omega)
  (conv => whnf)
  (refine br_ (fun h1 => ?_) (fun h1 => ?_))
  · have hc := bget? (s := s) (k := a + k) (by omega)
    have hcl := (s[a + k]'(by omega)).toNat_lt
    have hS := gwK_at hc
    (refine stg_ ?_)
    refine ArW.i64e ((a + k : Nat) : Int) (by omega) (by omega) ?_
    (conv => whnf)
    (refine stg_ ?_)
    (refine stg_ ?_)
    refine ArW.i64e ((gwK s a (k + 1) : Nat) : Int) (by omega) (by omega) ?_
    (conv => whnf)
    (repeat (refine stg_ ?_))
    exact NextW.go (k + 1) covT_ (by omega) (by omega)
  · obtain rfl : k = b := by omega
    (refine RetOK.d rfl rfl ?_; conv => whnf)
end Go.Proofs.YtcnlmllhnmaogaaDoor
