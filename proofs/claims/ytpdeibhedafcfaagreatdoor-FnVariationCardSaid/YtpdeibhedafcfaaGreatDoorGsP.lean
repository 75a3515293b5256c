/- merged: several parts in one text. Leans on no more than they do. -/
import Derived.Test.YtpdeibhedafcfaaGreatDoorTT
import Derived.Test.YtpdeibhedafcfaaGreatDoorVM5
import Derived.Test.YtpdeibhedafcfaaGreatDoorVMK
import Derived.Test.YtpdeibhedafcfaaGreatDoorTypes
import Derived.Test.YtpdeibhedafcfaaGreatDoorRows
import Derived.Test.YtpdeibhedafcfaaGreatDoorVMTac
set_option linter.unusedSimpArgs false
set_option linter.unusedVariables false
namespace Go.Proofs.YtpdeibhedafcfaaGreatDoor
open Go.RowKit
theorem l00In_v (n lo hi : Int) : PC Tryz.prog 93 [.d (.int .i64 n), .d (.int .i64 lo), .d (.int .i64 hi)] (.d (.bool (inB n lo hi))) [] := by
 refine pc_intro ttOk (by kernel_rfl) Tryz.func93 rfl (by kernel_rfl) (by kernel_rfl) (by kernel_rfl) (fun hw => ?_)
 (conv => whnf)
 (repeat' (first | (refine stg_ ?_) | (split <;> (conv => whnf))))
 (all_goals ((refine RetOK.d rfl rfl ?_; conv => whnf); (simp_all [inB]); (try omega)))
theorem l29Normal_v (n : Int) : PC Tryz.prog 153 [.d (.int .i64 n)] (.d (.bool (nrm n))) [] := by
 refine pc_intro ttOk (by kernel_rfl) Tryz.func153 rfl (by kernel_rfl) (by kernel_rfl) (by kernel_rfl) (fun hw => ?_)
 (conv => whnf)
 (refine cl_ (l00In_v n _ _) ?_)
 (refine RetOK.d rfl rfl ?_; conv => whnf)
 rfl
theorem isNormal_v (n : Int) : PC Tryz.prog 80 [.d (.int .i64 n)] (.d (.bool (nrm n))) [] := by
 refine pc_intro ttOk (by kernel_rfl) Tryz.func80 rfl (by kernel_rfl) (by kernel_rfl) (by kernel_rfl) (fun hw => ?_)
 (conv => whnf)
 (repeat' (first | (refine stg_ ?_) | (split <;> (conv => whnf))))
 (all_goals ((refine RetOK.d rfl rfl ?_; conv => whnf); (simp_all [nrm]); (try omega)))
theorem isSmall_v (c : UInt8) : PC Tryz.prog 141 [.d (.int .u8 c.toNat)] (.d (.bool (smB c))) [] := by
 refine pc_intro ttOk (by kernel_rfl) Tryz.func141 rfl (by kernel_rfl) (by kernel_rfl) (by kernel_rfl) (fun hw => ?_)
 (conv => whnf)
 (repeat' (first | (refine stg_ ?_) | (split <;> (conv => whnf))))
 (all_goals ((refine RetOK.d rfl rfl ?_; conv => whnf); (simp_all [smB]); (try omega)))
theorem isDigit_v (c : UInt8) : PC Tryz.prog 140 [.d (.int .u8 c.toNat)] (.d (.bool (dgB c))) [] := by
 refine pc_intro ttOk (by kernel_rfl) Tryz.func140 rfl (by kernel_rfl) (by kernel_rfl) (by kernel_rfl) (fun hw => ?_)
 (conv => whnf)
 (repeat' (first | (refine stg_ ?_) | (split <;> (conv => whnf))))
 (all_goals ((refine RetOK.d rfl rfl ?_; conv => whnf); (simp_all [dgB]); (try omega)))
theorem l01Small_v (c : UInt8) : PC Tryz.prog 149 [.d (.int .u8 c.toNat)] (.d (.bool (smB c))) [] := by
 refine pc_intro ttOk (by kernel_rfl) Tryz.func149 rfl (by kernel_rfl) (by kernel_rfl) (by kernel_rfl) (fun hw => ?_)
 (conv => whnf)
 (repeat' (first | (refine stg_ ?_) | (split <;> (conv => whnf))))
 (all_goals ((refine RetOK.d rfl rfl ?_; conv => whnf); (simp_all [smB]); (try omega)))
theorem l01Digit_v (c : UInt8) : PC Tryz.prog 150 [.d (.int .u8 c.toNat)] (.d (.bool (dgB c))) [] := by
 refine pc_intro ttOk (by kernel_rfl) Tryz.func150 rfl (by kernel_rfl) (by kernel_rfl) (by kernel_rfl) (fun hw => ?_)
 (conv => whnf)
 (repeat' (first | (refine stg_ ?_) | (split <;> (conv => whnf))))
 (all_goals ((refine RetOK.d rfl rfl ?_; conv => whnf); (simp_all [dgB]); (try omega)))
theorem IsName_v (s : ByteArray) : PC Tryz.prog 107 [.d (.str s)] (.d (.bool (nameB s))) [] := by
 refine pc_intro ttOk (by kernel_rfl) Tryz.func107 rfl (by kernel_rfl) (by kernel_rfl) (by kernel_rfl) (fun hw => ?_)
 have hs : s.size ≤ 9223372036854775807 := hw.1
 by_cases h0 : 0 < s.size
 ·have HN := nameB_cons h0
  have hc := bget? h0
  (conv => whnf)
  (split <;> rename_i h1 <;> simp only [decide_eq_true_eq, decide_eq_false_iff_not, Bool.not_eq_true', Bool.not_eq_false', bne_iff_ne, ne_eq, beq_iff_eq, bne_eq_false_iff_eq, beq_eq_false_iff_ne, Decidable.not_not, Nat.not_lt, Nat.not_le, Int.not_lt, Int.not_le, Bool.and_eq_true, Bool.and_eq_false_iff, Bool.or_eq_true, Bool.or_eq_false_iff] at h1 <;> (conv => whnf) <;> (repeat (refine stg_ ?_)))
  ·exfalso; omega
  ·(split <;> rename_i h2 <;> simp only [decide_eq_true_eq, decide_eq_false_iff_not, Bool.not_eq_true', Bool.not_eq_false', bne_iff_ne, ne_eq, beq_iff_eq, bne_eq_false_iff_eq, beq_eq_false_iff_ne, Decidable.not_not, Nat.not_lt, Nat.not_le, Int.not_lt, Int.not_le, Bool.and_eq_true, Bool.and_eq_false_iff, Bool.or_eq_true, Bool.or_eq_false_iff] at h2 <;> (conv => whnf) <;> (repeat (refine stg_ ?_)))
   ·(refine RetOK.d rfl rfl ?_; conv => whnf)
    rw [HN, decide_eq_false (by omega)]; rfl
   ·(refine cl_ (isSmall_v _) ?_)
    rw [decide_eq_true (by omega), Bool.true_and] at HN
    (split <;> rename_i h3 <;> simp only [decide_eq_true_eq, decide_eq_false_iff_not, Bool.not_eq_true', Bool.not_eq_false', bne_iff_ne, ne_eq, beq_iff_eq, bne_eq_false_iff_eq, beq_eq_false_iff_ne, Decidable.not_not, Nat.not_lt, Nat.not_le, Int.not_lt, Int.not_le, Bool.and_eq_true, Bool.and_eq_false_iff, Bool.or_eq_true, Bool.or_eq_false_iff] at h3 <;> (conv => whnf) <;> (repeat (refine stg_ ?_)))
    ·(refine RetOK.d rfl rfl ?_; conv => whnf)
     rw [HN, h3]; rfl
    ·rw [h3, Bool.true_and] at HN
     refine LoopW.go (α := Nat) (fun k => [(0, .d (.str s)), (3, .d (.int .i64 k))]) (fun _ => [.gone]) (fun k => 1 ≤ k ∧ k ≤ s.size ∧ nameB s = (s.data.toList.drop k).all nmC) (fun k => s.size - k) 1 (Weak.cov ⟨rfl, rfl, trivial⟩ ⟨trivial, trivial⟩ rfl) ⟨by omega, by omega, HN⟩ (fun k hk => ?_)
     obtain ⟨hk1, hk2, hk3⟩ := hk
     (conv => whnf)
     clear hc
     (split <;> rename_i h4 <;> simp only [decide_eq_true_eq, decide_eq_false_iff_not, Bool.not_eq_true', Bool.not_eq_false', bne_iff_ne, ne_eq, beq_iff_eq, bne_eq_false_iff_eq, beq_eq_false_iff_ne, Decidable.not_not, Nat.not_lt, Nat.not_le, Int.not_lt, Int.not_le, Bool.and_eq_true, Bool.and_eq_false_iff, Bool.or_eq_true, Bool.or_eq_false_iff] at h4 <;> (conv => whnf) <;> (repeat (refine stg_ ?_)))
     ·have h4' : k < s.size := by omega
      have hc := bget? h4'
      rw [dropN h4', List.all_cons] at hk3
      (repeat (refine stg_ ?_))
      (refine cl_ (isSmall_v _) ?_)
      (repeat' (first | (refine stg_ ?_) | ((refine cl_ (isDigit_v _) ?_)) | (split <;> (conv => whnf)))); all_goals (first | (exfalso; simp_all; done) | (refine NextW.go (k + 1) (Weak.cov ⟨rfl, rfl, trivial⟩ ⟨trivial, trivial⟩ rfl) ⟨by omega, by omega, ?_⟩ (by omega); rw [hk3, Bool.and_eq_right_iff_imp]; intro _; simp_all [nmC]; done) | ((refine RetOK.d rfl rfl ?_; conv => whnf); rw [hk3]; simp_all [nmC]; done) | skip)
     ·(refine RetOK.d rfl rfl ?_; conv => whnf)
      rw [hk3, List.drop_eq_nil_of_le (by show s.size ≤ k; omega)]; rfl
 ·have HN := nameB_nil (s := s) (by omega)
  (conv => whnf)
  (split <;> rename_i h1 <;> simp only [decide_eq_true_eq, decide_eq_false_iff_not, Bool.not_eq_true', Bool.not_eq_false', bne_iff_ne, ne_eq, beq_iff_eq, bne_eq_false_iff_eq, beq_eq_false_iff_ne, Decidable.not_not, Nat.not_lt, Nat.not_le, Int.not_lt, Int.not_le, Bool.and_eq_true, Bool.and_eq_false_iff, Bool.or_eq_true, Bool.or_eq_false_iff] at h1 <;> (conv => whnf) <;> (repeat (refine stg_ ?_)))
  ·(refine RetOK.d rfl rfl ?_; conv => whnf)
   rw [HN]
  ·exfalso; omega
theorem specIsName_v (s : ByteArray) : PC Tryz.prog 128 [.d (.str s)] (.d (.bool (nameB s))) [] := by
 refine pc_intro ttOk (by kernel_rfl) Tryz.func128 rfl (by kernel_rfl) (by kernel_rfl) (by kernel_rfl) (fun hw => ?_)
 have hs : s.size ≤ 9223372036854775807 := hw.1
 by_cases h0 : 0 < s.size
 ·have HN := nameB_cons h0
  have hc := bget? h0
  (conv => whnf)
  (split <;> rename_i h1 <;> simp only [decide_eq_true_eq, decide_eq_false_iff_not, Bool.not_eq_true', Bool.not_eq_false', bne_iff_ne, ne_eq, beq_iff_eq, bne_eq_false_iff_eq, beq_eq_false_iff_ne, Decidable.not_not, Nat.not_lt, Nat.not_le, Int.not_lt, Int.not_le, Bool.and_eq_true, Bool.and_eq_false_iff, Bool.or_eq_true, Bool.or_eq_false_iff] at h1 <;> (conv => whnf) <;> (repeat (refine stg_ ?_)))
  ·exfalso; rw [toL_inj h1] at h0; exact absurd h0 (by decide)
  ·(split <;> rename_i h2 <;> simp only [decide_eq_true_eq, decide_eq_false_iff_not, Bool.not_eq_true', Bool.not_eq_false', bne_iff_ne, ne_eq, beq_iff_eq, bne_eq_false_iff_eq, beq_eq_false_iff_ne, Decidable.not_not, Nat.not_lt, Nat.not_le, Int.not_lt, Int.not_le, Bool.and_eq_true, Bool.and_eq_false_iff, Bool.or_eq_true, Bool.or_eq_false_iff] at h2 <;> (conv => whnf) <;> (repeat (refine stg_ ?_)))
   ·(refine RetOK.d rfl rfl ?_; conv => whnf)
    rw [HN, decide_eq_false (by omega)]; rfl
   ·(refine cl_ (l01Small_v _) ?_)
    rw [decide_eq_true (by omega), Bool.true_and] at HN
    (split <;> rename_i h3 <;> simp only [decide_eq_true_eq, decide_eq_false_iff_not, Bool.not_eq_true', Bool.not_eq_false', bne_iff_ne, ne_eq, beq_iff_eq, bne_eq_false_iff_eq, beq_eq_false_iff_ne, Decidable.not_not, Nat.not_lt, Nat.not_le, Int.not_lt, Int.not_le, Bool.and_eq_true, Bool.and_eq_false_iff, Bool.or_eq_true, Bool.or_eq_false_iff] at h3 <;> (conv => whnf) <;> (repeat (refine stg_ ?_)))
    ·(refine RetOK.d rfl rfl ?_; conv => whnf)
     rw [HN, h3]; rfl
    ·rw [h3, Bool.true_and] at HN
     refine LoopW.go (α := Nat) (fun k => [(0, .d (.str s)), (3, .d (.int .i64 k))]) (fun _ => [.gone]) (fun k => 0 ≤ k ∧ k ≤ s.size ∧ nameB s = (s.data.toList.drop k).all nmC) (fun k => s.size - k) 0 (Weak.cov ⟨rfl, rfl, trivial⟩ ⟨trivial, trivial⟩ rfl) ⟨by omega, by omega, by rw [HN, dropN h0, List.all_cons, smB_nmC h3, Bool.true_and]⟩ (fun k hk => ?_)
     obtain ⟨hk1, hk2, hk3⟩ := hk
     (conv => whnf)
     clear hc
     (split <;> rename_i h4 <;> simp only [decide_eq_true_eq, decide_eq_false_iff_not, Bool.not_eq_true', Bool.not_eq_false', bne_iff_ne, ne_eq, beq_iff_eq, bne_eq_false_iff_eq, beq_eq_false_iff_ne, Decidable.not_not, Nat.not_lt, Nat.not_le, Int.not_lt, Int.not_le, Bool.and_eq_true, Bool.and_eq_false_iff, Bool.or_eq_true, Bool.or_eq_false_iff] at h4 <;> (conv => whnf) <;> (repeat (refine stg_ ?_)))
     ·have h4' : k < s.size := by omega
      have hc := bget? h4'
      rw [dropN h4', List.all_cons] at hk3
      (repeat (refine stg_ ?_))
      (refine cl_ (l01Small_v _) ?_)
      (repeat' (first | (refine stg_ ?_) | ((refine cl_ (l01Digit_v _) ?_)) | (split <;> (conv => whnf)))); all_goals (first | (exfalso; simp_all; done) | (refine NextW.go (k + 1) (Weak.cov ⟨rfl, rfl, trivial⟩ ⟨trivial, trivial⟩ rfl) ⟨by omega, by omega, ?_⟩ (by omega); rw [hk3, Bool.and_eq_right_iff_imp]; intro _; simp_all [nmC]; done) | ((refine RetOK.d rfl rfl ?_; conv => whnf); rw [hk3]; simp_all [nmC]; done) | skip)
     ·(refine RetOK.d rfl rfl ?_; conv => whnf)
      rw [hk3, List.drop_eq_nil_of_le (by show s.size ≤ k; omega)]; rfl
 ·have HN := nameB_nil (s := s) (by omega)
  (conv => whnf)
  (split <;> rename_i h1 <;> simp only [decide_eq_true_eq, decide_eq_false_iff_not, Bool.not_eq_true', Bool.not_eq_false', bne_iff_ne, ne_eq, beq_iff_eq, bne_eq_false_iff_eq, beq_eq_false_iff_ne, Decidable.not_not, Nat.not_lt, Nat.not_le, Int.not_lt, Int.not_le, Bool.and_eq_true, Bool.and_eq_false_iff, Bool.or_eq_true, Bool.or_eq_false_iff] at h1 <;> (conv => whnf) <;> (repeat (refine stg_ ?_)))
  ·(refine RetOK.d rfl rfl ?_; conv => whnf)
   rw [HN]
  ·exfalso; exact h1 (congrArg ByteArray.toList (ByteArray.ext (Array.eq_empty_of_size_eq_zero (by show s.size = 0; omega))))
section
variable {α : Type}
def eqL (f : α → α → Bool) : List α → List α → Bool
 | [], [] => true
 | x :: xs, y :: ys => f x y && eqL f xs ys
 | [], _ :: _ => false
 | _ :: _, [] => false
theorem eqL_len {f : α → α → Bool} : ∀ {xs ys : List α}, xs.length ≠ ys.length → eqL f xs ys = false
 | [], [], h => absurd rfl h
 | x :: xs, y :: ys, h => by
  rw [eqL, eqL_len (xs := xs) (ys := ys) (fun e => h (by simp [e])), Bool.and_false]
 | [], _ :: _, _ => rfl
 | _ :: _, [], _ => rfl
theorem eqL_at {f : α → α → Bool} {xs ys : List α} {k : Nat} {x y : α} (hx : xs[k]? = some x) (hy : ys[k]? = some y) : eqL f (xs.drop k) (ys.drop k) = (f x y && eqL f (xs.drop (k + 1)) (ys.drop (k + 1))) := by
 rw [drop_at hx, drop_at hy, eqL]
theorem eqL_end {f : α → α → Bool} {xs ys : List α} {k : Nat} (hx : xs.length ≤ k) (hy : ys.length ≤ k) : eqL f (xs.drop k) (ys.drop k) = true := by
 rw [List.drop_eq_nil_of_le hx, List.drop_eq_nil_of_le hy]; rfl
def fdx (p : α → Bool) : List α → Nat → Int
 | [], _ => -1
 | x :: t, k => if p x = true then (k : Int) else fdx p t (k + 1)
theorem fdx_at {p : α → Bool} {xs : List α} {k : Nat} {x : α} (hx : xs[k]? = some x) : fdx p (xs.drop k) k = if p x = true then (k : Int) else fdx p (xs.drop (k + 1)) (k + 1) := by
 rw [drop_at hx, fdx]
theorem fdx_end {p : α → Bool} {xs : List α} {k : Nat} (hx : xs.length ≤ k) : fdx p (xs.drop k) k = -1 := by
 rw [List.drop_eq_nil_of_le hx, fdx]
theorem fdx_any (p : α → Bool) : ∀ (xs : List α) (k : Nat), decide (0 ≤ fdx p xs k) = xs.any p
 | [], _ => rfl
 | x :: t, k => by
  rw [List.any_cons, fdx]
  by_cases h : p x = true
  ·rw [if_pos h, h]; simp
  ·rw [if_neg h, fdx_any p t (k + 1)]; simp [h]
theorem any_snoc {p : α → Bool} {xs : List α} {j : Nat} {y : α} (hy : xs[j]? = some y) : (xs.take (j + 1)).any p = ((xs.take j).any p || p y) := by
 rw [take_snoc_get hy, List.any_append]; simp
theorem any_take {p : α → Bool} {xs : List α} {j k : Nat} {y : α} (hy : xs[j]? = some y) (hjk : j < k) (hp : p y = true) : (xs.take k).any p = true := by
 rw [List.any_eq_true]
 refine ⟨y, ?_, hp⟩
 apply List.mem_of_getElem? (i := j)
 rw [List.getElem?_take, if_pos hjk, hy]
theorem set_drop {l : List α} {k : Nat} {x : α} (h : k < l.length) : (l.set k x).drop k = x :: l.drop (k + 1) := by
 have e : (l.set k x)[k]? = some x := by simp [h]
 rw [drop_at e, List.drop_set_of_lt (by omega)]
end
def mkS (l : List UInt8) : ByteArray := ⟨l.toArray⟩
theorem mkS_toList (l : List UInt8) : (mkS l).data.toList = l := by simp [mkS]
theorem mkS_size (l : List UInt8) : (mkS l).size = l.length := by simp [mkS, ByteArray.size]
theorem mkS_of (s : ByteArray) : mkS s.data.toList = s := by
 apply ByteArray.ext
 simp [mkS]
def dgC (d : Nat) : UInt8 := UInt8.ofNat (48 + d)
def decL (u : Nat) : List UInt8 := if u < 10 then [dgC u] else decL (u / 10) ++ [dgC (u % 10)]
termination_by u
theorem decL_lo {u : Nat} (h : u < 10) : decL u = [dgC u] := by rw [decL, if_pos h]
theorem decL_hi {u : Nat} (h : ¬ u < 10) : decL u = decL (u / 10) ++ [dgC (u % 10)] := by rw [decL, if_neg h]
theorem decL_pos (u : Nat) : 0 < (decL u).length := by
 rw [decL]; split <;> simp
theorem decL_len : ∀ (k u : Nat), u < 10 ^ (k + 1) → (decL u).length ≤ k + 1
 | 0, u, h => by rw [decL_lo (by simpa using h)]; simp
 | k + 1, u, h => by
  by_cases h1 : u < 10
  ·rw [decL_lo h1]; simp
  ·rw [decL_hi h1]
   have := decL_len k (u / 10) (by rw [Nat.div_lt_iff_lt_mul (by omega)]; rw [Nat.pow_succ] at h; exact h)
   simp; omega
def decS (n : Int) : List UInt8 := (if n < 0 then [45] else []) ++ decL n.natAbs
def decB (n : Int) : ByteArray := mkS (decS n)
theorem dgC_toNat {d : Nat} (h : d < 10) : (dgC d).toNat = 48 + d := by simp [dgC]; omega
theorem decB_size (n : Int) (h : n.natAbs < 10 ^ 20) : (decB n).size ≤ 21 := by
 rw [decB, mkS_size, decS, List.length_append]
 have := decL_len 19 n.natAbs h
 split <;> simp <;> omega
theorem natAbs_bnd {n : Int} (h1 : -9223372036854775808 ≤ n) (h2 : n ≤ 9223372036854775807) : n.natAbs < 10 ^ 20 := by omega
set_option maxHeartbeats 1000000 in
theorem Decimal_v (n : Int) : PC Tryz.prog 24 [.d (.int .i64 n)] (.d (.str (decB n))) [] := by
 refine pc_intro ttOk (by kernel_rfl) Tryz.func24 rfl (by kernel_rfl) (by kernel_rfl) (by kernel_rfl) (fun hw => ?_)
 have hn : -9223372036854775808 ≤ n ∧ n ≤ 9223372036854775807 := hw.1
 by_cases hn0 : n < 0
 ·(conv => whnf)
  refine ⟨n + 18446744073709551616, by simp only [IntKind.wrap, IntKind.bits, IntKind.signed, Bool.false_and, Bool.false_eq_true, if_false, Int.reducePow]; omega, ?_⟩
  (conv => whnf)
  (refine br_ (fun h1 => ?_) (fun h1 => ?_) <;> (repeat (refine stg_ ?_)))
  ·refine ⟨(n.natAbs : Int), by simp only [IntKind.wrap, IntKind.bits, IntKind.signed, Bool.false_and, Bool.false_eq_true, if_false, Int.reducePow]; omega, ?_⟩
   (conv => whnf)
   refine LoopW.go (α := Nat × Nat × List UInt8) (fun p => [(0, .d (.int .i64 n)), (3, .pL 1 0 [] 0), (4, .d (.int .i64 (p.1 : Nat))), (5, .d (.int .u64 (p.2.1 : Nat)))]) (fun p => [.gone, .arr 1 (p.2.2.map bD) true]) (fun p => p.1 ≤ 20 ∧ p.2.2.length = 20 ∧ decL n.natAbs = decL p.2.1 ++ p.2.2.drop p.1 ∧ p.2.1 < 10 ^ (p.1 - 1) ∧ 1 < p.1 ∧ p.2.1 ≤ n.natAbs) (fun p => p.1) (20, n.natAbs, List.replicate 20 0) covT_ ⟨by omega, rfl, by rw [List.drop_eq_nil_of_le (by simp)]; simp, by simp only; omega, by show 1 < 20; decide, Nat.le_refl _⟩ ?_; rintro ⟨at', u, bs⟩ ⟨k1, k2, k3, k4, k5, k6⟩; dsimp only at k1 k2 k3 k4 k5 k6 ⊢
   (have hu : u ≤ 18446744073709551615 := by omega); (have ht : (u : Int).tmod 10 = ((u % 10 : Nat) : Int) := by rw [Int.tmod_eq_emod_of_nonneg (by omega)]; rfl); (have hd : (u : Int).tdiv 10 = ((u / 10 : Nat) : Int) := by rw [Int.tdiv_eq_ediv_of_nonneg (by omega)]; rfl); (obtain ⟨c0, hc0⟩ := at_lt' (xs := bs) (k := at' - 1) (by omega)); (have he : (bs.map bD)[at' - 1]? = some (bD c0) := by rw [List.getElem?_map, hc0]; rfl)
   (conv => whnf)
   (refine ArW.i64e ((at' - 1 : Nat) : Int) (by omega) (by omega) ?_; (conv => whnf); (refine stg_ ?_); rw [ht]; (refine stg_ ?_); refine ArW.u8e ((dgC (u % 10)).toNat : Int) (by rw [dgC_toNat (by omega)]; omega) (by have := (dgC (u % 10)).toNat_lt; omega) ?_; (conv => whnf); (repeat (refine stg_ ?_)); rw [hd])
   have hs := set_drop (l := bs) (k := at' - 1) (x := dgC (u % 10)) (by omega)
   rw [show at' - 1 + 1 = at' by omega] at hs
   have hm : (bs.set (at' - 1) (dgC (u % 10))).map bD = (bs.map bD).set (at' - 1) (bD (dgC (u % 10))) := List.map_set
   (refine br_ (fun h2 => ?_) (fun h2 => ?_) <;> (repeat (refine stg_ ?_)))
   ·(conv => whnf)
    have hu0 : u < 10 := by omega
    obtain ⟨c1, hc1⟩ := at_lt' (xs := bs.set (at' - 1) (dgC (u % 10))) (k := at' - 1 - 1) (by simp only [List.length_set]; omega)
    have he1 : ((bs.map bD).set (at' - 1) (bD (dgC (u % 10))))[at' - 1 - 1]? = some (bD c1) := by rw [← hm, List.getElem?_map, hc1]; rfl
    (refine br_ (fun h3 => ?_) (fun h3 => ?_))
    ·refine ArW.i64e ((at' - 1 - 1 : Nat) : Int) (by omega) (by omega) ?_
     (conv => whnf)
     (repeat (refine stg_ ?_))
     refine EqW.at (by simp only [List.length_set, List.length_map]; exact k2) ?_
     (conv => whnf)
     (repeat (refine stg_ ?_))
     refine StW.at (s := decB n) ?_ ?_
     ·show List.take (20 - (at' - 1 - 1)) (List.drop (at' - 1 - 1) (((bs.map bD).set (at' - 1) (bD (dgC (u % 10)))).set (at' - 1 - 1) (bD 45))) = _
      rw [← hm, ← List.map_set, ← List.map_drop, set_drop (by simp only [List.length_set]; omega), show at' - 1 - 1 + 1 = at' - 1 by omega, hs, List.take_of_length_le (by simp; omega), decB, mkS_toList, decS, if_pos hn0, k3, decL_lo hu0, Nat.mod_eq_of_lt hu0]
      rfl
     ·(conv => whnf)
      (refine RetOK.d rfl rfl ?_; conv => whnf)
    ·exfalso; omega
   ·(refine NextW.go (at' - 1, u / 10, bs.set (at' - 1) (dgC (u % 10))) (Weak.cov ⟨rfl, rfl, rfl, rfl, trivial⟩ ⟨trivial, by rw [hm]; rfl, trivial⟩ rfl) ⟨by simp only; omega, by simp only [List.length_set]; omega, ?_, ?_, ?_, by show u / 10 ≤ n.natAbs; omega⟩ (by show at' - 1 < at'; omega); (focus (show decL n.natAbs = decL (u / 10) ++ (bs.set (at' - 1) (dgC (u % 10))).drop (at' - 1); rw [hs, k3, decL_hi (by omega)]; simp)); (focus (show u / 10 < 10 ^ (at' - 1 - 1); rw [Nat.div_lt_iff_lt_mul (by omega), ← Nat.pow_succ]; rwa [show (at' - 1 - 1).succ = at' - 1 by omega])); (focus (show 1 < at' - 1; rcases Nat.lt_or_ge 1 (at' - 1) with h | h; (focus exact h); exfalso; (have e : at' - 1 = 1 := by omega); (rw [e] at k4); (have : u < 10 := by simpa using k4); omega)))
  ·exfalso; omega
 ·(conv => whnf)
  refine ⟨(n.natAbs : Int), by simp only [IntKind.wrap, IntKind.bits, IntKind.signed, Bool.false_and, Bool.false_eq_true, if_false, Int.reducePow]; omega, ?_⟩
  (conv => whnf)
  (refine br_ (fun h1 => ?_) (fun h1 => ?_))
  ·exfalso; omega
  ·refine LoopW.go (α := Nat × Nat × List UInt8) (fun p => [(0, .d (.int .i64 n)), (3, .pL 1 0 [] 0), (4, .d (.int .i64 (p.1 : Nat))), (5, .d (.int .u64 (p.2.1 : Nat)))]) (fun p => [.gone, .arr 1 (p.2.2.map bD) true]) (fun p => p.1 ≤ 20 ∧ p.2.2.length = 20 ∧ decL n.natAbs = decL p.2.1 ++ p.2.2.drop p.1 ∧ p.2.1 < 10 ^ (p.1 - 0) ∧ 0 < p.1 ∧ p.2.1 ≤ n.natAbs) (fun p => p.1) (20, n.natAbs, List.replicate 20 0) covT_ ⟨by omega, rfl, by rw [List.drop_eq_nil_of_le (by simp)]; simp, by simp only; omega, by show 0 < 20; decide, Nat.le_refl _⟩ ?_; rintro ⟨at', u, bs⟩ ⟨k1, k2, k3, k4, k5, k6⟩; dsimp only at k1 k2 k3 k4 k5 k6 ⊢
   (have hu : u ≤ 18446744073709551615 := by omega); (have ht : (u : Int).tmod 10 = ((u % 10 : Nat) : Int) := by rw [Int.tmod_eq_emod_of_nonneg (by omega)]; rfl); (have hd : (u : Int).tdiv 10 = ((u / 10 : Nat) : Int) := by rw [Int.tdiv_eq_ediv_of_nonneg (by omega)]; rfl); (obtain ⟨c0, hc0⟩ := at_lt' (xs := bs) (k := at' - 1) (by omega)); (have he : (bs.map bD)[at' - 1]? = some (bD c0) := by rw [List.getElem?_map, hc0]; rfl)
   (conv => whnf)
   (refine ArW.i64e ((at' - 1 : Nat) : Int) (by omega) (by omega) ?_; (conv => whnf); (refine stg_ ?_); rw [ht]; (refine stg_ ?_); refine ArW.u8e ((dgC (u % 10)).toNat : Int) (by rw [dgC_toNat (by omega)]; omega) (by have := (dgC (u % 10)).toNat_lt; omega) ?_; (conv => whnf); (repeat (refine stg_ ?_)); rw [hd])
   have hs := set_drop (l := bs) (k := at' - 1) (x := dgC (u % 10)) (by omega)
   rw [show at' - 1 + 1 = at' by omega] at hs
   have hm : (bs.set (at' - 1) (dgC (u % 10))).map bD = (bs.map bD).set (at' - 1) (bD (dgC (u % 10))) := List.map_set
   (refine br_ (fun h2 => ?_) (fun h2 => ?_) <;> (repeat (refine stg_ ?_)))
   ·(conv => whnf)
    have hu0 : u < 10 := by omega
    (refine br_ (fun h3 => ?_) (fun h3 => ?_))
    ·exfalso; omega
    ·refine EqW.at (by simp only [List.length_set, List.length_map]; exact k2) ?_
     (conv => whnf)
     (repeat (refine stg_ ?_))
     refine StW.at (s := decB n) ?_ ?_
     ·show List.take (20 - (at' - 1)) (List.drop (at' - 1) ((bs.map bD).set (at' - 1) (bD (dgC (u % 10))))) = _
      rw [← hm, ← List.map_drop, hs, List.take_of_length_le (by simp; omega), decB, mkS_toList, decS, if_neg hn0, k3, decL_lo hu0, Nat.mod_eq_of_lt hu0]
      rfl
     ·(conv => whnf)
      (refine RetOK.d rfl rfl ?_; conv => whnf)
   ·(refine NextW.go (at' - 1, u / 10, bs.set (at' - 1) (dgC (u % 10))) (Weak.cov ⟨rfl, rfl, rfl, rfl, trivial⟩ ⟨trivial, by rw [hm]; rfl, trivial⟩ rfl) ⟨by simp only; omega, by simp only [List.length_set]; omega, ?_, ?_, ?_, by show u / 10 ≤ n.natAbs; omega⟩ (by show at' - 1 < at'; omega); (focus (show decL n.natAbs = decL (u / 10) ++ (bs.set (at' - 1) (dgC (u % 10))).drop (at' - 1); rw [hs, k3, decL_hi (by omega)]; simp)); (focus (show u / 10 < 10 ^ (at' - 1 - 0); rw [Nat.div_lt_iff_lt_mul (by omega), ← Nat.pow_succ]; rwa [show (at' - 1 - 0).succ = at' - 0 by omega])); (focus (show 0 < at' - 1; rcases Nat.lt_or_ge 0 (at' - 1) with h | h; (focus exact h); exfalso; (have e : at' - 0 = 1 := by omega); (rw [e] at k4); (have : u < 10 := by simpa using k4); omega)))
open Go.RowKit Go.ChangeShapes Go.WideShapes
def RdD (P : Program) (T : TypeId) (n : Nat) (p : D → Prop) : Prop :=
 P.cellsOf T = n ∧ ∀ (H : Type) (enc : TypeId × Value → H) (w : World) (fuel : Nat) (cs : List Value) (x : DataW H × List MemPlace),
  DataW.trod enc P w 0 (fun _ => true) true fuel T cs = some x → ∃ d, p d ∧ d.size = n ∧ repD [] w d cs
theorem inR_wf {k : IntKind} {n : Int} (h : (Lit.int k n).wf = true) : inR k n := by
 have h' : (decide (k.min ≤ n) && decide (n ≤ k.max)) = true := h
 simp only [Bool.and_eq_true, decide_eq_true_eq] at h'
 exact h'
section
variable {P : Program} {T : TypeId}
theorem rd2_imp {n : Nat} {p q : D → Prop} (h : RdD P T n p) (hq : ∀ d, p d → q d) : RdD P T n q :=
 ⟨h.1, fun H enc w fuel cs x ht => by
  obtain ⟨d, h1, h2⟩ := h.2 H enc w fuel cs x ht
  exact ⟨d, hq d h1, h2⟩⟩
theorem rd2_slice {E : TypeId} {n : Nat} {p : D → Prop} (hT : P.underlying T = some (.slice E)) (hc : P.cellsOf T = 1) (hn : 0 < n) (hE : RdD P E n p) : RdD P T 1 fun d => ∃ xs : List D, d = .lst xs ∧ ∀ x ∈ xs, p x :=
 ⟨hc, fun H enc w fuel cs x h => by
  rcases Deep.open_slice hT h with ⟨rfl, _⟩ | ⟨a, len, cap, m, k, Dd, Pl, rfl, _, hl, hm, hmm, _, hel⟩
  ·exact ⟨.lst [], ⟨[], rfl, by simp⟩, rfl, none, 0, 0, rfl, Nat.le_refl _, Nat.zero_le _, fun _ => rfl, trivial⟩
  ·simp only [if_true] at hmm
   obtain rfl := hmm.symm
   obtain ⟨xs, hxl, hxs⟩ := exists_list (n := len) (p := fun i (x : D) => p x ∧ ∃ b o cs, a = ⟨b, o, none⟩ ∧ b < w.heap.size ∧ CellsAt w b (o + i * n) cs ∧ x.size = n ∧ repD [] w x cs) (fun i hi => by
    obtain ⟨cs', h1, h2⟩ := hel i (by omega)
    obtain ⟨y, hy1, hy2, hy3⟩ := hE.2 _ _ _ _ _ _ h2
    obtain ⟨_, hcl, hat⟩ := World.cells?_some h1
    rw [hE.1] at hcl hat
    have h0 := hat 0 hn
    rw [List.getElem?_eq_getElem (by omega)] at h0
    have hsp := cell_spot h0
    have haa : a = ⟨a.block, a.off, none⟩ := by
     obtain ⟨cs0, h10, h20⟩ := hel 0 (by omega)
     obtain ⟨_, hcl0, hat0⟩ := World.cells?_some h10
     rw [hE.1] at hcl0 hat0
     have h00 := hat0 0 hn
     rw [List.getElem?_eq_getElem (by omega)] at h00
     simpa [Addr.add] using cell_spot h00
    have hcells : CellsAt w a.block (a.off + i * n) cs' := fun j v hj => by
     have hjl : j < cs'.length := (List.getElem?_eq_some_iff.1 hj).1
     have := hat j (by omega)
     rw [hj] at this
     rw [addr_add, haa, addr_add_plain] at this
     simpa [Nat.add_assoc] using this
    refine ⟨y, hy1, a.block, a.off, cs', haa, ?_, hcells, hy2, hy3⟩
    have h1 := hcells 0 cs'[0] (List.getElem?_eq_getElem (by omega))
    have h2 := World.block_lt_of_cell? (w := w) (a := ⟨a.block, a.off + i * n + 0, none⟩) h1
    exact h2)
   refine ⟨.lst xs, ⟨xs, rfl, fun y hy => ?_⟩, rfl, some a, cap, n, by rw [hxl], by omega, hm, (fun h => by cases h), (repDe_get xs 0).2 fun i x hx => ?_⟩
   ·obtain ⟨i, hi⟩ := List.getElem?_of_mem hy
    exact (hxs i y hi).1
   ·obtain ⟨_, b, o, cs, e, h1, h2, h3, h4⟩ := hxs i x hx
    exact ⟨b, o, cs, by rw [e], by simp, h1, by rw [Nat.zero_add]; exact h2, h3, h4⟩⟩
end
def ArgRd (P : Program) (T : TypeId) (p : D → Prop) : Prop :=
 ∀ (H : Type) (enc : TypeId × Value → H) (w : World) (base : Nat) (v : Value) (d : DataW H) (pl : List MemPlace), Value.okWide P w .any base T v → DataW.Trod enc P w 0 (fun _ => true) true T v d pl →
  ∃ y, p y ∧ rep1 w [none] [.gone] (.d y) v
section
variable {P : Program} {T : TypeId} {n : Nat} {p : D → Prop}
theorem arg_cell (hR : RdD P T n p) (ha : ∀ y, p y → y.agg = false) (hv : ∀ (w : World) base v, Value.okWide P w .any base T v → v.cells.toList = [v]) : ArgRd P T p := fun H enc w base v d pl hok ht => by
 obtain ⟨fuel, hf⟩ := ht
 obtain ⟨y, h1, _, h2⟩ := hR.2 _ _ _ _ _ _ hf
 refine ⟨y, h1, ?_⟩
 rw [hv w base v hok] at h2
 unfold rep1
 rw [if_neg (by show ¬ (y.agg = true); rw [ha y h1]; simp)]
 exact h2
theorem arg_sl {E : TypeId} (hT : P.underlying T = some (.slice E)) (hR : RdD P T n p) (ha : ∀ y, p y → y.agg = false) : ArgRd P T p := arg_cell hR ha fun w base v h => by
 obtain ⟨a, l, c, rfl⟩ := okWide_slice hT h
 rfl
end
def args2 : List (D → Prop) → List D → Prop
 | [], ds => ds = []
 | p :: ps, ds => ∃ d ds', ds = d :: ds' ∧ p d ∧ args2 ps ds'
def argRds (P : Program) : List TypeId → List (D → Prop) → Prop
 | [], ps => ps = []
 | t :: ts, ps => ∃ p ps', ps = p :: ps' ∧ ArgRd P t p ∧ argRds P ts ps'
theorem law_of_pc {P : Program} {f : FuncId} {ts : List TypeId} {ps : List (D → Prop)} (hR : argRds P ts ps) (hpc : ∀ ds, args2 ps ds → PC P f (toVs ds) (.d (.bool true)) []) : LawCalls P f ts := by
 intro H enc W base args ds p hval hA
 have key : ∀ (ts : List TypeId) (ps : List (D → Prop)) (args : List Value) (ds : List (DataW H)) (pl : List MemPlace), argRds P ts ps → (∀ (j : Nat) t v, ts[j]? = some t → args[j]? = some v → Value.okWide P W .any base t v) →
   DataW.TrodAll enc P W 0 (fun _ => true) true ts args ds pl → ∃ ys, args2 ps ys ∧ repT W [none] [.gone] (toVs ys) args := by
  intro ts
  induction ts with
  | nil =>
   intro ps args ds pl hr _ hA
   obtain ⟨rfl, rfl, rfl⟩ := trodAll_nil hA
   cases hr
   exact ⟨[], rfl, rfl⟩
  | cons t ts ih =>
   intro ps args ds pl hr hv hA
   obtain ⟨v, vs, d, ds', p1, q1, rfl, rfl, rfl, h, r⟩ := ChangeShapes.trodAll_cons hA
   obtain ⟨p, ps', rfl, h1, h2⟩ := hr
   obtain ⟨y, y1, y2⟩ := h1 H enc W base v d p1 (hv 0 _ _ rfl rfl) h
   obtain ⟨ys, k1, k2⟩ := ih ps' vs ds' q1 h2 (fun j t v ht hv' => hv (j + 1) t v (by simpa using ht) (by simpa using hv')) r
   exact ⟨y :: ys, ⟨y, ys, rfl, y1, k1⟩, ⟨v, vs, rfl, y2, k2⟩⟩
 obtain ⟨ys, k1, k2⟩ := key ts ps args ds p hR hval hA
 refine ((hpc ys k1).run W [] args (by simp) (by simp) k2).mono ?_
 rintro e w' ⟨cv, M', rfl, hx, _, hr⟩
 exact ⟨by rw [rep_bool.1 hr], hx⟩
def TPeak.D (x : TPeak) : D := .st [.int .i64 x.fStart, .int .i64 x.fTop, .int .i64 x.fEnd]
def TAxisPoint.D (x : TAxisPoint) : D := .st [.int .i64 x.fFrom, .int .i64 x.fTo]
def TAxis.D (x : TAxis) : D := .st [.str x.fName, .int .i64 x.fMin, .int .i64 x.fDefault, .int .i64 x.fMax, .lst (x.fMap.map TAxisPoint.D)]
def TPt.D (x : TPt) : D := .st [.int .i64 x.fX, .int .i64 x.fY]
def TGlyphDelta.D (x : TGlyphDelta) : D := .st [.int .i64 x.fGlyph, .lst (x.fKnots.map (D.int .i64)), .lst (x.fMoves.map TPt.D), .int .i64 x.fAdvance]
def TMaster.D (x : TMaster) : D := .st [.lst (x.fPeaks.map TPeak.D), .lst (x.fDeltas.map TGlyphDelta.D)]
def TVariation.D (x : TVariation) : D := .st [.lst (x.fAxes.map TAxis.D), .lst (x.fMasters.map TMaster.D)]
def TKnot.D (x : TKnot) : D := .st [x.fAt.D, .bool x.fOn]
def TLoop.D (x : TLoop) : D := .st [.lst (x.fKnots.map TKnot.D)]
def TOutline.D (x : TOutline) : D := .st [.lst (x.fLoops.map TLoop.D)]
def TPart.D (x : TPart) : D := .st [.int .i64 x.fGlyph, x.fMove.D]
def TAnchor.D (x : TAnchor) : D := .st [.str x.fName, x.fAt.D]
def TGlyph.D (x : TGlyph) : D := .st [.str x.fName, .int .i64 x.fCode, .int .i64 x.fAdvance, x.fOutline.D, .lst (x.fParts.map TPart.D), .lst (x.fAnchors.map TAnchor.D), .str x.fHints]
def TGlyphSet.D (x : TGlyphSet) : D := .st [.int .i64 x.fUnit, .lst (x.fGlyphs.map TGlyph.D)]
theorem rd2_list {P : Program} {T E : TypeId} {n : Nat} {α : Type} {f : α → D} (hT : P.underlying T = some (.slice E)) (hc : P.cellsOf T = 1) (hn : 0 < n) (hE : RdD P E n fun d => ∃ x, d = f x) : RdD P T 1 fun d => ∃ xs : List α, d = .lst (xs.map f) :=
 rd2_imp (rd2_slice hT hc hn hE) fun d ⟨xs, e, h⟩ => by
  subst e
  have : ∀ xs : List D, (∀ x ∈ xs, ∃ y, x = f y) → ∃ ys : List α, xs = ys.map f := by
   intro xs
   induction xs with
   | nil => intro _; exact ⟨[], rfl⟩
   | cons x xs ih =>
    intro h
    obtain ⟨y, hy⟩ := h x (by simp)
    obtain ⟨ys, hys⟩ := ih fun z hz => h z (by simp [hz])
    exact ⟨y :: ys, by simp [hy, hys]⟩
  obtain ⟨ys, hys⟩ := this xs h
  exact ⟨ys, by rw [hys]⟩
theorem own : ownKnob Tryz.prog.godebug = none := by kernel_rfl
theorem laidOut : laidOutB Tryz.prog = true := by kernel_rfl
theorem rdt_byte : RdD Tryz.prog 5 1 fun d => ∃ x : UInt8, d = bD x :=
 ⟨by kernel_rfl, fun H enc w fuel cs x h => by
  obtain ⟨n, rfl, _, hw⟩ := DataW.trod_int Tryz.underlying5 h
  have hr := inR_wf hw
  have e1 : IntKind.u8.min = 0 := rfl
  have e2 : IntKind.u8.max = 255 := rfl
  obtain ⟨x, rfl⟩ : ∃ x : UInt8, n = (x.toNat : Nat) := ⟨UInt8.ofNat n.toNat, by
   unfold inR at hr
   simp only [UInt8.toNat_ofNat']
   omega⟩
  exact ⟨_, ⟨x, rfl⟩, rfl, rfl, hr⟩⟩
theorem rdt_byteS : RdD Tryz.prog 22 1 fun d => ∃ x : List UInt8, d = .lst (x.map bD) := rd2_list Tryz.underlying22 (by kernel_rfl) (by decide) rdt_byte
theorem Weak.box {e : Env} {h : List Blk} (b : Nat) {v v' : V} (hb : h[b]? = some (.box v)) (hb0 : Nat.ble 1 b = true) (hv : ∀ (w : World) (M : MM) (h : List Blk) (cs : List Value), repC w M h v cs → repC w M h v' cs) : Weak e h e (h.set b (.box v')) := fun B X N M a w R => by
 have hlt : b < h.length := (List.getElem?_eq_some_iff.1 hb).1
 have hnof : ∀ c, nOf (h.set b (.box v')) c = nOf h c := fun c => by
  unfold nOf
  by_cases hc : b = c
  ·subst hc
   rw [List.getElem?_set_self hlt, hb]
  ·rw [List.getElem?_set_ne hc]
 have mv' : Mv (fun _ => True) w M h w M (h.set b (.box v')) := {
  ext := fun b hb _ => ⟨hb, rfl⟩
  ids := fun b g F _ hb => ⟨F, hb⟩
  row := fun b g F arr t _ _ hg => ⟨arr, hg, rfl⟩
  nof := fun b g F _ _ => hnof b
  sz := Nat.le_refl _ }
 have hget : ∀ (c : Nat) (k : Blk), (h.set b (.box v'))[c]? = some k → (c = b ∧ k = .box v') ∨ h[c]? = some k := fun c k hk => by
  by_cases hc : b = c
  ·subst hc
   rw [List.getElem?_set_self hlt] at hk
   cases hk
   exact .inl ⟨rfl, rfl⟩
  ·rw [List.getElem?_set_ne hc] at hk
   exact .inr hk
 have hI' : MInv B.heap.size w M (h.set b (.box v')) := {
  len := by simp [R.inv.len]
  blk := fun c k m hk hm => by
   rcases hget c k hk with ⟨rfl, rfl⟩ | hk3
   ·have h1 := R.inv.blk c _ m hb hm
    cases m with
    | none => exact h1
    | some gF =>
     obtain ⟨g, F⟩ := gF
     obtain ⟨h2, arr, t, h3, h4⟩ := h1
     exact ⟨h2, arr, t, h3, repC_mv mv' _ _ (V.inS_all _) (hv _ _ _ _ h4)⟩
   ·exact BRep_mv mv' (by cases k <;> first | trivial | exact V.inS_all _ | exact inSE_all _) (fun _ _ => rfl) (R.inv.blk c k m hk3 hm)
  nd := R.inv.nd
  lo := fun c k m hk hm hl => by
   rcases hget c k hk with ⟨rfl, rfl⟩ | hk3
   ·exact R.inv.lo c _ m hb hm rfl
   ·exact R.inv.lo c k m hk3 hm hl
  hi := R.inv.hi }
 refine ⟨M, R.ext, hI', fun k => rep_mv mv' _ _ (V.inS_all _) (R.env k), R.sz, R.df, R.fr, ?_⟩
 rw [List.getElem?_set_ne (by intro e0; subst e0; cases hb0)]
 exact R.fh
theorem Weak.freeze {e : Env} {h : List Blk} (k : Nat) {b n off len : Nat} {xs : List D} {dp : Bool} (hk : gt e k = .own b off len) (hb : h[b]? = some (.arr n xs dp)) (hb0 : Nat.ble 1 b = true) (hl : off + len ≤ xs.length) :
  Weak e h ((k, .d (.lst ((xs.drop off).take len))) :: dropE [b] e) ((dropK [b] h).set b (.arr n [] true)) := fun B X N M a w R => by
 have hb1 := Nat.le_of_ble_eq_true hb0
 have hr := R.env k
 rw [hk] at hr
 obtain ⟨M', R', hd⟩ := R.give (by omega) hb hl (rep_own.1 hr)
 exact ⟨M', R'.know (rep_of_rep1 (v := .d (.lst ((xs.drop off).take len))) hd)⟩
theorem Weak.freezeA {e : Env} {h : List Blk} (k : Nat) {b n len : Nat} {xs : List D} {dp : Bool} (hk : gt e k = .own b 0 len) (hb : h[b]? = some (.arr n xs dp)) (hb0 : Nat.ble 1 b = true) (hl : len = xs.length) :
  Weak e h ((k, .d (.lst xs)) :: dropE [b] e) ((dropK [b] h).set b (.arr n [] true)) := by
 have := Weak.freeze k hk hb hb0 (by omega)
 rwa [List.drop_zero, List.take_of_length_le (by omega)] at this
theorem PC.weak {P : Program} {f : FuncId} {As : List V} {v v' : V} {bs bs' : List Blk} (pc : PC P f As v bs) (hw : Weak [(0, v)] (.gone :: bs) [(0, v')] (.gone :: bs')) : PC P f As v' bs' where
 fn := pc.fn
 run w X args h1 h2 h3 := by
  refine (pc.run w X args h1 h2 h3).mono ?_
  rintro en w' ⟨cv, M', rfl, hx, hI, hr⟩
  have R : Rep w X 1 (mX X :: M') [(0, v)] (.gone :: bs) { tmps := #[cv], defers := [] } w' := ⟨hx, hI, fun k => by
   rw [gt_cons]
   by_cases hk : 0 = k
   ·subst hk; rw [if_pos rfl]; exact hr
   ·rw [if_neg hk]; trivial, rfl, rfl, rfl, rfl⟩
  obtain ⟨M2, R2⟩ := hw _ _ _ _ _ _ R
  have hf := R2.fr
  have hl := R2.inv.len
  match M2, hf, R2 with
  | m :: M3, hf, R2 =>
   have hm : m = mX X := by simpa using hf
   subst hm
   exact ⟨cv, M3, rfl, hx, R2.inv, R2.env 0⟩
theorem Weak.pushE {e : Env} {h : List Blk} (n : Nat) (dp : Bool) : Weak e h e (h ++ [.arr n [] dp]) := by
 intro B X N M a w R
 have hO : MM.O [none] = [] := rfl
 have mv : Mv (fun _ => True) w M h w (M ++ [none]) (h ++ [.arr n [] dp]) := push_mv R.inv.len (Ext.refl w) R.inv.hi (by rw [hO]; simp)
 exact ⟨_, R.step R.ext (R.inv.push R.base (Ext.refl w) (Mn := [none]) (hn := [.arr n [] dp]) rfl (by rw [hO]; simp) (by rw [hO]; simp) (by rw [hO]; simp) (by
  intro b k m hk hm
  cases b with
  | zero => simp at hk hm; subst hk; subst hm; exact rfl
  | succ b => simp at hk)) mv (fr_push R.fr _) (fr_push R.fh _)⟩
theorem repC_nilE {w : World} {M : MM} {h : List Blk} (b : Nat) {cs : List Value} (H : repC w M h .nils cs) : repC w M h (.own b 0 0) cs := by
 have : cs = [.slice none 0 0] := H
 subst this
 exact ⟨_, rfl, none, 0, rfl, Nat.le_refl _, Nat.zero_le _, fun _ => rfl, .inl rfl⟩
theorem repCs_lastE {w : World} {M : MM} {h : List Blk} (b : Nat) : ∀ (vs : List V) (cs : List Value), repCs w M h (vs ++ [.nils]) cs → repCs w M h (vs ++ [.own b 0 0]) cs
 | [], cs, H => by
  obtain ⟨c1, c2, e, h1, h2⟩ := H
  exact ⟨c1, c2, e, repC_nilE b h1, h2⟩
 | v :: vs, cs, H => by
  obtain ⟨c1, c2, e, h1, h2⟩ := H
  exact ⟨c1, c2, e, h1, repCs_lastE b vs c2 h2⟩
theorem Weak.adoptL {e : Env} {h : List Blk} (b : Nat) (vs : List V) (hb : h[b]? = some (.box (.st (vs ++ [.nils])))) (hb0 : Nat.ble 1 b = true) (n : Nat) (dp : Bool) : Weak e h e ((h ++ [Blk.arr n [] dp]).set b (.box (.st (vs ++ [.own h.length 0 0])))) :=
 Weak.trans (Weak.pushE n dp) (Weak.box b (v := .st (vs ++ [V.nils])) (v' := .st (vs ++ [V.own h.length 0 0])) (by rw [List.getElem?_append_left (List.getElem?_eq_some_iff.1 hb).1]; exact hb) hb0 (fun w M h' cs H => repCs_lastE _ vs cs H))
theorem repCs_midE {w : World} {M : MM} {h : List Blk} (b : Nat) : ∀ (us vs : List V) (cs : List Value), repCs w M h (us ++ V.nils :: vs) cs → repCs w M h (us ++ V.own b 0 0 :: vs) cs
 | [], vs, cs, H => by
  obtain ⟨c1, c2, e, h1, h2⟩ := H
  exact ⟨c1, c2, e, repC_nilE b h1, h2⟩
 | u :: us, vs, cs, H => by
  obtain ⟨c1, c2, e, h1, h2⟩ := H
  exact ⟨c1, c2, e, h1, repCs_midE b us vs c2 h2⟩
theorem Weak.adoptM {e : Env} {h : List Blk} (b : Nat) (us vs : List V) (hb : h[b]? = some (.box (.st (us ++ V.nils :: vs)))) (hb0 : Nat.ble 1 b = true) (n : Nat) (dp : Bool) : Weak e h e ((h ++ [Blk.arr n [] dp]).set b (.box (.st (us ++ V.own h.length 0 0 :: vs)))) :=
 Weak.trans (Weak.pushE n dp) (Weak.box b (v := .st (us ++ V.nils :: vs)) (v' := .st (us ++ V.own h.length 0 0 :: vs)) (by rw [List.getElem?_append_left (List.getElem?_eq_some_iff.1 hb).1]; exact hb) hb0 (fun w M h' cs H => repCs_midE _ us vs cs H))
def VS : Nat := 1000003
def actV (a : Act) (cv : Value) : Act := { a with tmps := ((List.range (max a.tmps.size (VS + 1))).map fun k => if k = VS then cv else a.tmps.getD k Go.undef).toArray }
theorem actV_get (a : Act) (cv : Value) (k : Nat) : (actV a cv).tmps.getD k Go.undef = if k = VS then cv else a.tmps.getD k Go.undef := by
 unfold actV
 simp only [Array.getD_eq_getD_getElem?, List.getElem?_toArray, List.getElem?_map]
 by_cases hk : k < max a.tmps.size (VS + 1)
 ·rw [List.getElem?_range hk]; rfl
 ·have h1 : (List.range (max a.tmps.size (VS + 1)))[k]? = none := List.getElem?_eq_none (by rw [List.length_range]; omega)
  rw [h1, if_neg (by omega), Array.getElem?_eq_none (by omega)]; rfl
theorem CallM.post {P : Program} {f : FuncId} {vs : List V} {e : Env} {h : List Blk} {K K1 : V → Env → List Blk → Prop} (H : CallM P f vs e h K1)
  (HX : ∀ v e1 h1, K1 v e1 h1 → WeakX ((VS, v) :: e1) h1 fun e0 h0 => ∃ v0 e2, e0 = (VS, v0) :: e2 ∧ gt e2 VS = .top ∧ K v0 e2 h0) : CallM P f vs e h K where
 fn := H.fn
 run B X N M a w args R hargs := by
  refine (H.run B X N M a w args R hargs).mono ?_
  rintro en w' ⟨v, cv, e', h', M', rfl, hK, R', hr'⟩
  have R1 : Rep B X (actV a cv).tmps.size M' ((VS, v) :: e') h' (actV a cv) w' := {
   ext := R'.ext
   inv := R'.inv
   env := fun k => by
    rw [actV_get]
    show rep w' M' h' (bif Nat.beq VS k then v else gt e' k) _
    cases hq : Nat.beq VS k with
    | true =>
     have := Nat.eq_of_beq_eq_true hq
     subst this
     rw [if_pos rfl]; exact hr'
    | false =>
     have hne : k ≠ VS := fun q => by subst q; simp at hq
     rw [if_neg hne]; exact R'.env k
   sz := rfl
   df := R'.df
   fr := R'.fr
   fh := R'.fh }
  obtain ⟨e0, h0, M2, ⟨v0, e2, rfl, h2, hK2⟩, R2⟩ := HX v e' h' hK _ _ _ _ _ _ R1
  refine ⟨v0, cv, e2, h0, M2, rfl, hK2, {
   ext := R2.ext
   inv := R2.inv
   env := fun k => ?_
   sz := R'.sz
   df := R'.df
   fr := R2.fr
   fh := R2.fh }, ?_⟩
  ·by_cases hk : k = VS
   ·subst hk; rw [h2]; trivial
   ·have := R2.env k
    rw [actV_get, if_neg hk] at this
    have e1 : gt ((VS, v0) :: e2) k = gt e2 k := by
     show (bif Nat.beq VS k then v0 else gt e2 k) = _
     cases hq : Nat.beq VS k with
     | true => exact absurd (Nat.eq_of_beq_eq_true hq).symm hk
     | false => rfl
    rw [e1] at this
    exact this
  ·have := R2.env VS
   rw [actV_get, if_pos rfl] at this
   exact this
theorem clX_ {P : Program} {f : FuncId} {vs : List V} {e : Env} {h : List Blk} {K : V → Env → List Blk → Prop} {As : List V} {v : V} {bs : List Blk} (pc : PC P f As v bs)
  (HX : WeakX ((VS, v.shift (h.length - 1)) :: e) (h ++ shiftBs (h.length - 1) bs) fun e0 h0 => ∃ v0 e2, e0 = (VS, v0) :: e2 ∧ gt e2 VS = .top ∧ K v0 e2 h0)
  (hb : borVs h vs As := by ((repeat' (first | exact trivial | with_reducible rfl | ((conv => whnf); first | done | exact trivial | with_reducible rfl | (exact Or.inr ⟨rfl, rfl, rfl, rfl⟩) | (refine Or.inl ⟨_, rfl, ?_⟩) | (refine ⟨rfl, _, rfl, ?_⟩) | (refine ⟨_, _, rfl, ?_, ?_⟩) | (refine ⟨_, rfl, ?_⟩) | ((refine ⟨?_, ?_⟩); (focus (first | (simp; done) | omega)); (focus ((first | rw [List.drop_zero, List.take_of_length_le (Nat.le_of_eq (List.length_map _))] | rw [List.drop_zero, List.take_of_length_le (by omega)] | rfl); done))) | rfl))); (first | done | fail))) (hf : (v.fit (!V.exts vs) && fitBs (!V.exts vs) bs && Nat.ble 1 h.length) = true := by rfl) : CallW P false f vs e h K :=
 ⟨.inr ⟨rfl, CallM.post (K1 := fun v0 e1 h1 => v0 = v.shift (h.length - 1) ∧ e1 = e ∧ h1 = h ++ shiftBs (h.length - 1) bs) ⟨pc.fn, fun B X N M a w args R hargs => by
  refine (callW_sound R hargs (CallW.use (dr := false) (K := fun v0 e1 h1 => v0 = v.shift (h.length - 1) ∧ e1 = e ∧ h1 = h ++ shiftBs (h.length - 1) bs) (e := e) pc hb hf ⟨rfl, rfl, rfl⟩)).2.mono ?_
  rintro en w' ⟨v', cv, e', h', M', k1, k2, _, k3, k4⟩
  exact ⟨v', cv, e', h', M', k1, k2, k3, k4⟩⟩ (by rintro v0 e1 h1 ⟨rfl, rfl, rfl⟩; exact HX)⟩⟩
theorem CallW.res {P : Program} {f : FuncId} {vs : List V} {e : Env} {h : List Blk} {K K1 : V → Env → List Blk → Prop} (H : CallM P f vs e h K1)
  (HX : ∀ v e1 h1, K1 v e1 h1 → v.resOK = true ∧ WeakX e1 h1 (K v)) : CallW P false f vs e h K := ⟨.inr ⟨rfl, {
 fn := H.fn
 run := fun B X N M a w args R hargs => by
  refine (H.run B X N M a w args R hargs).mono ?_
  rintro en w' ⟨v, cv, e', h', M', rfl, hK, R', hr'⟩
  obtain ⟨h1, h2⟩ := HX v e' h' hK
  obtain ⟨e0, h0, M2, hS, R2⟩ := h2 _ _ _ _ _ _ R'
  exact ⟨v, cv, e0, h0, M2, rfl, hS, R2, res_rep h1 hr'⟩ }⟩⟩
theorem Weak.nilD {e : Env} {h : List Blk} (k : Nat) (hk : gt e k = .nils) : Weak e h ((k, .d (.lst [])) :: e) h := fun B X N M a w R => by
 have hr := R.env k
 rw [hk] at hr
 have h1 : a.tmps.getD k Go.undef = .slice none 0 0 := by
  have : [a.tmps.getD k Go.undef] = [Value.slice none 0 0] := hr
  injection this
 refine ⟨M, R.know ?_⟩
 rw [h1]
 show repD M.O w (.lst []) [_]
 exact ⟨none, 0, 0, rfl, Nat.le_refl _, Nat.zero_le _, fun _ => rfl, trivial⟩
theorem Weak.row {e : Env} {h : List Blk} (b : Nat) {n : Nat} {xs ys : List D} (hb : h[b]? = some (.arr n xs true)) (hb0 : Nat.ble 1 b = true) (hl : ys.length = xs.length) (H : ∀ (w : World) (arr : Array Value) (F : List Nat), ownDe w arr n xs 0 F → ownDe w arr n ys 0 F) :
  Weak e h e (h.set b (.arr n ys true)) := by
 intro B X N M a w R
 have hb1 := Nat.le_of_ble_eq_true hb0
 have hbh : b < h.length := (List.getElem?_eq_some_iff.1 hb).1
 have hnf : ∀ c, nOf (h.set b (.arr n ys true)) c = nOf h c := fun c => by
  unfold nOf
  by_cases hc : c = b
  ·subst hc
   rw [List.getElem?_set_self hbh, hb]
  ·rw [List.getElem?_set_ne (Ne.symm hc)]
 have mv : Mv (fun _ => True) w M h w M (h.set b (.arr n ys true)) := {
  ext := fun x hx _ => ⟨hx, rfl⟩
  ids := fun c g F _ hc => ⟨F, hc⟩
  row := fun c g F arr t _ _ hg => ⟨arr, hg, rfl⟩
  nof := fun c _ _ _ _ => hnf c
  sz := Nat.le_refl _ }
 refine ⟨M, R.step R.ext ⟨by simp [R.inv.len], fun c k m hk' hm => ?_, R.inv.nd, fun c k m hk' hm hl x hx => ?_, R.inv.hi⟩ mv rfl (by rw [List.getElem?_set_ne (by omega)])⟩
 ·by_cases hcb : c = b
  ·subst hcb
   rw [List.getElem?_set_self hbh] at hk'
   cases hk'
   have hB := R.inv.blk c _ _ hb hm
   cases m with
   | none =>
    have : xs = [] := hB
    subst this
    exact List.eq_nil_of_length_eq_zero hl
   | some p =>
    obtain ⟨g, F⟩ := p
    obtain ⟨arr, t, k1, k2, k3⟩ := hB
    rw [if_pos rfl] at k3
    exact ⟨arr, t, k1, by rw [hl]; exact k2, by rw [if_pos rfl]; exact H w arr F k3⟩
  ·rw [List.getElem?_set_ne (Ne.symm hcb)] at hk'
   exact BRep_mv mv (by cases k <;> first | trivial | exact V.inS_all _ | exact inSE_all _) (fun _ _ => rfl) (R.inv.blk c k m hk' hm)
 ·by_cases hcb : c = b
  ·subst hcb
   exact R.inv.lo c _ _ hb hm rfl x hx
  ·rw [List.getElem?_set_ne (Ne.symm hcb)] at hk'
   exact R.inv.lo c k m hk' hm hl x hx
theorem Weak.pushP {e : Env} {h : List Blk} (c g : Nat) (t : TypeId) : Weak e h e (h ++ [.pin c g 0 t]) := by
 intro B X N M a w R
 have hO : MM.O [none] = [] := rfl
 have mv : Mv (fun _ => True) w M h w (M ++ [none]) (h ++ [.pin c g 0 t]) := push_mv R.inv.len (Ext.refl w) R.inv.hi (by rw [hO]; simp)
 exact ⟨_, R.step R.ext (R.inv.push R.base (Ext.refl w) (Mn := [none]) (hn := [.pin c g 0 t]) rfl (by rw [hO]; simp) (by rw [hO]; simp) (by rw [hO]; simp) (by
  intro b k m hk hm
  cases b with
  | zero => simp at hk hm; subst hk; subst hm; exact .inl rfl
  | succ b => simp at hk)) mv (fr_push R.fr _) (fr_push R.fh _)⟩
theorem CallW.pre {P : Program} {f : FuncId} {vs : List V} {e : Env} {h : List Blk} {K : V → Env → List Blk → Prop} (hfn : ∃ fn, P.funcs[f]? = some fn ∧ (fn.name == "runtime.NumGoroutine") = false ∧ fn.body.isNone = false)
  (HX : WeakX ((VS, .tup vs) :: e) h fun e0 h0 => ∃ vs0 e2, e0 = (VS, .tup vs0) :: e2 ∧ gt e2 VS = .top ∧ CallW P false f vs0 e2 h0 K) : CallW P false f vs e h K := ⟨.inr ⟨rfl, {
 fn := hfn
 run := fun B X N M a w args R hargs => by
  have R1 : Rep B X (actV a (.tuple args.toArray)).tmps.size M ((VS, .tup vs) :: e) h (actV a (.tuple args.toArray)) w := {
   ext := R.ext
   inv := R.inv
   env := fun k => by
    rw [actV_get]
    show rep w M h (bif Nat.beq VS k then .tup vs else gt e k) _
    cases hq : Nat.beq VS k with
    | true =>
     have := Nat.eq_of_beq_eq_true hq
     subst this
     rw [if_pos rfl]
     exact ⟨args, rfl, hargs⟩
    | false =>
     have hne : k ≠ VS := fun q => by subst q; simp at hq
     rw [if_neg hne]; exact R.env k
   sz := rfl
   df := R.df
   fr := R.fr
   fh := R.fh }
  obtain ⟨e0, h0, M2, ⟨vs0, e2, rfl, h2, hC⟩, R2⟩ := HX _ _ _ _ _ _ R1
  have hr := R2.env VS
  rw [actV_get, if_pos rfl] at hr
  obtain ⟨args', q1, q2⟩ := hr
  have q3 : args = args' := by
   injection q1 with q1
   exact List.toArray_inj q1
  subst q3
  have R3 : Rep B X N M2 e2 h0 a w := {
   ext := R2.ext
   inv := R2.inv
   env := fun k => by
    by_cases hk : k = VS
    ·subst hk; rw [h2]; trivial
    ·have := R2.env k
     rw [actV_get, if_neg hk] at this
     have e1 : gt ((VS, V.tup vs0) :: e2) k = gt e2 k := by
      show (bif Nat.beq VS k then V.tup vs0 else gt e2 k) = _
      cases hq : Nat.beq VS k with
      | true => exact absurd (Nat.eq_of_beq_eq_true hq).symm hk
      | false => rfl
     rw [e1] at this
     exact this
   sz := R.sz
   df := R.df
   fr := R2.fr
   fh := R2.fh }
  refine (callW_sound R3 q2 hC).2.mono ?_
  rintro en w' ⟨v', cv, e', h', M', k1, k2, _, k3, k4⟩
  exact ⟨v', cv, e', h', M', k1, k2, k3, k4⟩ }⟩⟩
theorem Weak.giveV {e : Env} {h : List Blk} (k a : Nat) {n n1 : Nat} {xs : List D} {dp : Bool} {V0 V1 : V} (hk : gt e k = V0) (ha : h[a]? = some (.arr n xs dp)) (ha0 : Nat.ble 1 a = true) (hl : n1 = xs.length)
  (H : ∀ (w : World) (M : MM) (h : List Blk) (cv : Value), rep w M h V0 cv → ∃ c', ownR w M h a 0 n1 c' ∧ ∀ (M' : MM) (h' : List Blk), repD M'.O w (.lst xs) [c'] → rep w M' h' (V0.kill a) cv → rep w M' h' V1 cv) :
  Weak e h ((k, V1) :: dropE [a] e) ((dropK [a] h).set a (.arr n [] true)) := fun B X N M ac w R => by
 have hb1 := Nat.le_of_ble_eq_true ha0
 have hr0 := R.env k
 rw [hk] at hr0
 obtain ⟨c', q1, q2⟩ := H _ _ _ _ hr0
 obtain ⟨M', R', hd⟩ := R.give (by omega) ha (off := 0) (len := n1) (by omega) q1
 rw [List.drop_zero, List.take_of_length_le (by omega)] at hd
 have h3 := R'.env k
 rw [gt_drop, hk] at h3
 exact ⟨M', R'.know (q2 M' _ hd h3)⟩
theorem giv_l4 {a n1 : Nat} {xs : List D} {x y z x' y' z' : V} (hx : x.kill a = x') (hy : y.kill a = y') (hz : z.kill a = z') (w : World) (M : MM) (h : List Blk) (cv : Value) (H : rep w M h (.tup [x, y, z, .own a 0 n1]) cv) :
  ∃ c', ownR w M h a 0 n1 c' ∧ ∀ (M' : MM) (h' : List Blk), repD M'.O w (.lst xs) [c'] → rep w M' h' ((V.tup [x, y, z, .own a 0 n1]).kill a) cv → rep w M' h' (.tup [x', y', z', .d (.lst xs)]) cv := by
 obtain ⟨cvs, rfl, c, cs, rfl, h1, c2, cs2, rfl, h2, c3, cs3, rfl, h3, c4, cs4, rfl, h4, h5⟩ := H
 obtain ⟨c4', e4, h4⟩ : ∃ cv, [c4] = [cv] ∧ ownR w M h a 0 n1 cv := h4
 cases e4
 refine ⟨c4, h4, fun M' h' hd hk => ?_⟩
 obtain ⟨cvs', e, d1, ds, rfl, g1, d2, ds2, rfl, g2, d3, ds3, rfl, g3, d4, ds4, rfl, g4, g5⟩ : ∃ cvs' : List Value, Value.tuple (c :: c2 :: c3 :: c4 :: cs4).toArray = .tuple cvs'.toArray ∧ repT w M' h' [x.kill a, y.kill a, z.kill a, (V.own a 0 n1).kill a] cvs' := hk
 have e2 : c :: c2 :: c3 :: c4 :: cs4 = d1 :: d2 :: d3 :: d4 :: ds4 := by
  injection e with e
  exact List.toArray_inj e
 simp only [List.cons.injEq] at e2
 obtain ⟨rfl, rfl, rfl, rfl, rfl⟩ := e2
 rw [hx] at g1
 rw [hy] at g2
 rw [hz] at g3
 exact ⟨_, rfl, c, _, rfl, g1, c2, _, rfl, g2, c3, _, rfl, g3, c4, _, rfl, hd, h5⟩
theorem giv_m4 {a n1 : Nat} {xs : List D} {x y z u : D} (w : World) (M : MM) (h : List Blk) (cv : Value) (H : rep w M h (.tup [.d x, .st [.d y, .own a 0 n1], .d z, .d u]) cv) :
  ∃ c', ownR w M h a 0 n1 c' ∧ ∀ (M' : MM) (h' : List Blk), repD M'.O w (.lst xs) [c'] → rep w M' h' ((V.tup [.d x, .st [.d y, .own a 0 n1], .d z, .d u]).kill a) cv → rep w M' h' (.tup [.d x, .d (.st [y, .lst xs]), .d z, .d u]) cv := by
 obtain ⟨cvs, rfl, c, cs, rfl, h1, c2, cs2, rfl, h2, c3, cs3, rfl, h3, c4, cs4, rfl, h4, h5⟩ := H
 obtain ⟨us, rfl, u1, u2, rfl, k1, u3, u4, rfl, k2, k3⟩ : ∃ cs : List Value, c2 = .agg cs.toArray ∧ repCs w M h [.d y, .own a 0 n1] cs := h2
 obtain ⟨c', rfl, k2⟩ := k2
 obtain rfl : u4 = [] := k3
 have l1 : u1.length = y.size := repD_len y u1 k1
 refine ⟨c', k2, fun M' h' hd hk => ?_⟩
 obtain ⟨cvs', e, d1, ds, rfl, g1, d2, ds2, rfl, g2, d3, ds3, rfl, g3, d4, ds4, rfl, g4, g5⟩ : ∃ cvs' : List Value, Value.tuple (c :: Value.agg (u1 ++ ([c'] ++ []) : List Value).toArray :: c3 :: c4 :: cs4).toArray = .tuple cvs'.toArray ∧ repT w M' h' [.d x, .st [.d y, (V.own a 0 n1).kill a], .d z, .d u] cvs' := hk
 have e2 : c :: Value.agg (u1 ++ ([c'] ++ []) : List Value).toArray :: c3 :: c4 :: cs4 = d1 :: d2 :: d3 :: d4 :: ds4 := by
  injection e with e
  exact List.toArray_inj e
 simp only [List.cons.injEq] at e2
 obtain ⟨rfl, rfl, rfl, rfl, rfl⟩ := e2
 obtain ⟨us', e3, t1, t2, rfl, m1, t3, t4, rfl, m2, m3⟩ : ∃ cs : List Value, Value.agg (u1 ++ ([c'] ++ []) : List Value).toArray = .agg cs.toArray ∧ repCs w M' h' [.d y, (V.own a 0 n1).kill a] cs := g2
 have e4 : u1 ++ ([c'] ++ []) = t1 ++ (t3 ++ t4) := by
  injection e3 with e3
  exact List.toArray_inj e3
 have l2 : t1.length = y.size := repD_len y t1 m1
 obtain ⟨rfl, _⟩ := List.append_inj e4 (by omega)
 exact ⟨_, rfl, c, _, rfl, g1, _, _, rfl, (show ∃ cs : List Value, Value.agg (u1 ++ ([c'] ++ []) : List Value).toArray = .agg cs.toArray ∧ repDs M'.O w [y, .lst xs] cs from ⟨_, rfl, u1, _, rfl, m1, [c'], [], rfl, hd, rfl⟩), c3, _, rfl, g3, c4, _, rfl, g4, h5⟩
theorem a2Long_v (xs ys : List UInt8) : PC Tryz.prog 4 [.d (.lst (xs.map bD)), .d (.lst (ys.map bD))] (.d (.bool (decide (3000 < xs.length) || decide (3000 < ys.length)))) [] := by
 refine pc_intro ttOk (by kernel_rfl) Tryz.func4 rfl (by kernel_rfl) (by kernel_rfl) (by kernel_rfl) (fun hw => ?_)
 have h1 : (xs.map bD).length = xs.length := List.length_map _
 have h2 : (ys.map bD).length = ys.length := List.length_map _
 (conv => whnf)
 (repeat' (first | (refine stg_ ?_) | fail | (refine br_ (fun hbr => ?_) (fun hbr => ?_))))
 all_goals ((refine RetOK.d rfl rfl ?_; conv => whnf); simp_all; try omega)
 all_goals (rw [decide_eq_false (p := 3000 < xs.length) (by omega), Bool.false_or, decide_eq_decide]; omega)
theorem floorDiv_v (n d : Int) (h0 : 0 < d) : PC Tryz.prog 118 [.d (.int .i64 n), .d (.int .i64 d)] (.d (.int .i64 (n / d))) [] := by
 refine pc_intro ttOk (by kernel_rfl) Tryz.func118 rfl (by kernel_rfl) (by kernel_rfl) (by kernel_rfl) (fun hw => ?_)
 have hn1 : -9223372036854775808 ≤ n ∧ n ≤ 9223372036854775807 := hw.1
 have hd1 : -9223372036854775808 ≤ d ∧ d ≤ 9223372036854775807 := hw.2.1
 obtain ⟨n1, n2⟩ := hn1
 obtain ⟨d1, d2⟩ := hd1
 obtain ⟨f1, f2, f3, f4, f5⟩ := div_facts h0 n1 n2
 have ht := tdiv_facts (n := n) h0
 have hq : -9223372036854775808 ≤ n.tdiv d ∧ n.tdiv d ≤ 9223372036854775807 := by
  by_cases hm : n.tmod d < 0
  ·have := ht.1 hm; have := f5 this.2.2.2; omega
  ·have := ht.2 (by omega); omega
 by_cases hm : n.tmod d < 0
 ·obtain ⟨t1, t2, t3, t4⟩ := ht.1 hm
  have f5 := f5 t4
  clear ht
  (conv => whnf)
  (repeat' (first | (refine stg_ ?_) | (split <;> (conv => whnf))))
  all_goals first | (exfalso; simp_all; done) | (exfalso; simp_all; omega) | ((refine RetOK.d rfl rfl ?_; conv => whnf); congr 1; omega)
 ·obtain ⟨t1, t2⟩ := ht.2 (by omega)
  clear ht f5
  (conv => whnf)
  (repeat' (first | (refine stg_ ?_) | (split <;> (conv => whnf))))
  all_goals first | (exfalso; simp_all; done) | (exfalso; simp_all; omega) | ((refine RetOK.d rfl rfl ?_; conv => whnf); congr 1; omega)
theorem DivRound_v (n d : Int) : PC Tryz.prog 75 [.d (.int .i64 n), .d (.int .i64 d)] (.d (.int .i64 (divR n d))) [] := by
 refine pc_intro ttOk (by kernel_rfl) Tryz.func75 rfl (by kernel_rfl) (by kernel_rfl) (by kernel_rfl) (fun hw => ?_)
 have hn1 : -9223372036854775808 ≤ n ∧ n ≤ 9223372036854775807 := hw.1
 have hd1 : -9223372036854775808 ≤ d ∧ d ≤ 9223372036854775807 := hw.2.1
 obtain ⟨n1, n2⟩ := hn1
 obtain ⟨d1, d2⟩ := hd1
 (conv => whnf)
 (split <;> rename_i h1 <;> simp only [decide_eq_true_eq, decide_eq_false_iff_not, Bool.not_eq_true', Bool.not_eq_false', bne_iff_ne, ne_eq, beq_iff_eq, bne_eq_false_iff_eq, beq_eq_false_iff_ne, Decidable.not_not, Nat.not_lt, Nat.not_le, Int.not_lt, Int.not_le, Bool.and_eq_true, Bool.and_eq_false_iff, Bool.or_eq_true, Bool.or_eq_false_iff] at h1 <;> (conv => whnf) <;> (repeat (refine stg_ ?_)))
 ·(refine RetOK.d rfl rfl ?_; conv => whnf)
  rw [divR, if_pos h1]
 ·obtain ⟨f1, f2, f3, f4, f5⟩ := div_facts h1 n1 n2
  have hR := divR_pos (n := n) h1
  have hm := Int.emod_add_mul_ediv n d
  rw [Int.mul_comm] at hm
  have hw' := wrap_rem h1 d2 n1 n2
  (refine cl_ (floorDiv_v n d h1) ?_)
  refine ⟨_, rfl, ?_⟩
  (conv => whnf)
  refine ⟨n % d, hw', ?_⟩
  (conv => whnf)
  (repeat (refine stg_ ?_))
  have f6 : n % d < d - n % d ∨ (-4611686018427387904 ≤ n / d ∧ n / d ≤ 4611686018427387903) := by
   by_cases hh : 2 ≤ d
   ·exact Or.inr (f5 hh)
   ·left; omega
  (refine br_ (fun h2 => ?_) (fun h2 => ?_) <;> (repeat (refine stg_ ?_)))
  ·(refine RetOK.d rfl rfl ?_; conv => whnf)
   rw [hR, if_pos (by omega)]
  ·(refine RetOK.d rfl rfl ?_; conv => whnf)
   rw [hR, if_neg (by omega)]
set_option maxHeartbeats 4000000 in
theorem l29Map_v (xs : List TAxisPoint) : PC Tryz.prog 152 [.d (.lst (xs.map TAxisPoint.D))] (.d (.bool (mapB xs))) [] := by
 refine pc_intro ttOk (by kernel_rfl) Tryz.func152 rfl (by kernel_rfl) (by kernel_rfl) (by kernel_rfl) (fun hw => ?_)
 have hL : (xs.map TAxisPoint.D).length = xs.length := List.length_map _
 have hm : (xs.map TAxisPoint.D).length ≤ 9223372036854775807 := hw.1.1
 (conv => whnf)
 (refine br_ (fun h1 => ?_) (fun h1 => ?_) <;> (repeat (refine stg_ ?_)))
 ·(refine RetOK.d rfl rfl ?_; conv => whnf)
  have : xs = [] := List.eq_nil_of_length_eq_zero (by omega)
  subst this
  rfl
 ·have h0 : 0 < xs.length := by omega
  refine LoopW.go (α := Nat) (fun k => [(0, .d (.lst (xs.map TAxisPoint.D))), (3, .d (.int .i64 (fixN (xs.take k)))), (4, .d (.int .i64 k))]) (fun _ => [.gone]) (fun k => k ≤ xs.length ∧ mpGo none xs = mpGo (pv xs k) (xs.drop k)) (fun k => xs.length - k) 0 (Weak.cov ⟨rfl, rfl, rfl, trivial⟩ ⟨trivial, trivial⟩ rfl) ⟨by omega, rfl⟩ (fun k hp => ?_)
  obtain ⟨hk, hg⟩ := hp
  have hfl := fixN_le (xs.take k)
  have hfl2 : (xs.take k).length ≤ k := List.length_take_le k xs
  (conv => whnf)
  (refine br_ (fun h2 => ?_) (fun h2 => ?_) <;> (repeat (refine stg_ ?_)))
  ·have h2' : k < xs.length := by omega
   obtain ⟨x, hx⟩ := at_lt' h2'
   rw [drop_at hx, mpGo_cons] at hg
   have hF := fixN_take hx
   cases hA : nrm x.fFrom with
   | false =>
    have c1 := l29Normal_v x.fFrom
    rw [hA] at c1
    (repeat (refine stg_ ?_))
    (refine cl_ (c1) ?_)
    (refine RetOK.d rfl rfl ?_; conv => whnf)
    rw [mapB_no h0 (by rw [hg, apB, hA]; rfl)]
   | true =>
    have c1 := l29Normal_v x.fFrom
    rw [hA] at c1
    cases hB : nrm x.fTo with
    | false =>
     have c2 := l29Normal_v x.fTo
     rw [hB] at c2
     (repeat (refine stg_ ?_))
     (refine cl_ (c1) ?_)
     (repeat (refine stg_ ?_))
     (refine cl_ (c2) ?_)
     (repeat (refine stg_ ?_))
     (refine RetOK.d rfl rfl ?_; conv => whnf)
     rw [mapB_no h0 (by rw [hg, apB, hA, hB]; rfl)]
    | true =>
     have c2 := l29Normal_v x.fTo
     rw [hB] at c2
     have hAB : apB x = true := by rw [apB, hA, hB]; rfl
     rw [hAB, Bool.true_and] at hg
     (repeat (refine stg_ ?_))
     (refine cl_ (c1) ?_)
     (repeat (refine stg_ ?_))
     (refine cl_ (c2) ?_)
     (repeat (refine stg_ ?_))
     (refine br_ (fun h3 => ?_) (fun h3 => ?_) <;> (repeat (refine stg_ ?_)))
     ·obtain ⟨y, hy⟩ := at_lt' (xs := xs) (k := k - 1) (by omega)
      rw [pv_pos xs (by omega), hy] at hg
      have hy' : (xs.map TAxisPoint.D)[((k : Int) - 1).toNat]? = some y.D := by
       have : ((k : Int) - 1).toNat = k - 1 := by omega
       rw [this, List.getElem?_map, hy]; rfl
      have hlt : ltO (some y) x = (decide (y.fFrom < x.fFrom) && decide (y.fTo ≤ x.fTo)) := rfl
      refine IxW.at (by omega) hy' ?_
      (conv => whnf)
      (refine br_ (fun h4 => ?_) (fun h4 => ?_) <;> (repeat (refine stg_ ?_)))
      ·(refine RetOK.d rfl rfl ?_; conv => whnf)
       rw [mapB_no h0 (by rw [hg, hlt, decide_eq_false (by omega)]; rfl)]
      ·(repeat (refine stg_ ?_))
       refine IxW.at (by omega) hy' ?_
       (conv => whnf)
       (refine br_ (fun h5 => ?_) (fun h5 => ?_) <;> (repeat (refine stg_ ?_)))
       ·(refine RetOK.d rfl rfl ?_; conv => whnf)
        rw [mapB_no h0 (by rw [hg, hlt, decide_eq_false (p := y.fTo ≤ x.fTo) (by omega), Bool.and_false, Bool.false_and])]
       ·rw [hlt, decide_eq_true (p := y.fFrom < x.fFrom) (by omega), decide_eq_true (by omega), Bool.true_and, Bool.true_and] at hg
        (repeat' (first | (refine stg_ ?_) | (split <;> (conv => whnf))))
        all_goals (first | (have hb : fixB x = true := (by simp_all [fixB]); refine NextW.go (k + 1) (Weak.cov ⟨rfl, (by (show _ = V.d (D.int .i64 ((fixN (xs.take (k + 1)) : Nat) : Int))); rw [hF, if_pos hb]; rfl), rfl, trivial⟩ ⟨trivial, trivial⟩ rfl) ⟨by omega, by rw [pv_succ, hx, hg]⟩ (by omega)) | (have hb : ¬ fixB x = true := (by simp_all [fixB]); refine NextW.go (k + 1) (Weak.cov ⟨rfl, (by (show _ = V.d (D.int .i64 ((fixN (xs.take (k + 1)) : Nat) : Int))); rw [hF, if_neg hb]; rfl), rfl, trivial⟩ ⟨trivial, trivial⟩ rfl) ⟨by omega, by rw [pv_succ, hx, hg]⟩ (by omega)))
     ·have : k = 0 := by omega
      have hlt : ltO (pv xs k) x = true := by rw [this]; rfl
      rw [hlt, Bool.true_and] at hg
      (repeat' (first | (refine stg_ ?_) | (split <;> (conv => whnf))))
      all_goals (first | (have hb : fixB x = true := (by simp_all [fixB]); refine NextW.go (k + 1) (Weak.cov ⟨rfl, (by (show _ = V.d (D.int .i64 ((fixN (xs.take (k + 1)) : Nat) : Int))); rw [hF, if_pos hb]; rfl), rfl, trivial⟩ ⟨trivial, trivial⟩ rfl) ⟨by omega, by rw [pv_succ, hx, hg]⟩ (by omega)) | (have hb : ¬ fixB x = true := (by simp_all [fixB]); refine NextW.go (k + 1) (Weak.cov ⟨rfl, (by (show _ = V.d (D.int .i64 ((fixN (xs.take (k + 1)) : Nat) : Int))); rw [hF, if_neg hb]; rfl), rfl, trivial⟩ ⟨trivial, trivial⟩ rfl) ⟨by omega, by rw [pv_succ, hx, hg]⟩ (by omega)))
  ·have : k = xs.length := by omega
   subst this
   rw [List.drop_length] at hg
   rw [List.take_length] at *
   have hg : mpGo none xs = true := by rw [hg]; cases pv xs xs.length <;> rfl
   (repeat' (first | (refine stg_ ?_) | (split <;> (conv => whnf))))
   ·rename_i he
    (refine RetOK.d rfl rfl ?_; conv => whnf)
    have he' : fixN xs = 3 := by simp at he; omega
    rw [mapB_yes h0 hg, decide_eq_true he', Bool.true_and, hL]
    congr 1
    exact decide_eq_decide.2 (by omega)
   ·rename_i he
    (refine RetOK.d rfl rfl ?_; conv => whnf)
    have he' : ¬ fixN xs = 3 := by simp at he; omega
    rw [mapB_yes h0 hg, decide_eq_false he', Bool.false_and]
def axB (a : TAxis) : Bool := nameB a.fName && inB a.fMin (-32000) a.fDefault && inB a.fMax a.fDefault 32000 && decide (a.fMin < a.fMax) && mapB a.fMap
theorem l29Axis_v (a : TAxis) : PC Tryz.prog 132 [.pX a.D] (.d (.bool (axB a))) [] := by
 refine pc_intro ttOk (by kernel_rfl) Tryz.func132 rfl (by kernel_rfl) (by kernel_rfl) (by kernel_rfl) (fun hw => ?_)
 have c1 := specIsName_v a.fName
 have c2 := l00In_v a.fMin (-32000) a.fDefault
 have c3 := l00In_v a.fMax a.fDefault 32000
 have c4 := l29Map_v a.fMap
 have hB : axB a = (nameB a.fName && inB a.fMin (-32000) a.fDefault && inB a.fMax a.fDefault 32000 && decide (a.fMin < a.fMax) && mapB a.fMap) := rfl
 generalize nameB a.fName = b1 at *
 generalize inB a.fMin (-32000) a.fDefault = b2 at *
 generalize inB a.fMax a.fDefault 32000 = b3 at *
 generalize mapB a.fMap = b4 at *
 rw [hB]
 clear hB
 cases b1
 ·(conv => whnf)
  (repeat (refine stg_ ?_))
  (refine cl_ (c1) ?_)
  (repeat' (first | (refine stg_ ?_) | (split <;> (conv => whnf))))
  all_goals ((refine RetOK.d rfl rfl ?_; conv => whnf); simp_all)
 ·cases b2
  ·(conv => whnf)
   (repeat (refine stg_ ?_))
   (refine cl_ (c1) ?_)
   (refine cl_ (c2) ?_)
   (repeat' (first | (refine stg_ ?_) | (split <;> (conv => whnf))))
   all_goals ((refine RetOK.d rfl rfl ?_; conv => whnf); simp_all)
  ·cases b3
   ·(conv => whnf)
    (repeat (refine stg_ ?_))
    (refine cl_ (c1) ?_)
    (refine cl_ (c2) ?_)
    (refine cl_ (c3) ?_)
    (repeat' (first | (refine stg_ ?_) | (split <;> (conv => whnf))))
    all_goals ((refine RetOK.d rfl rfl ?_; conv => whnf); simp_all)
   ·(conv => whnf)
    (repeat (refine stg_ ?_))
    (refine cl_ (c1) ?_)
    (refine cl_ (c2) ?_)
    (refine cl_ (c3) ?_)
    (refine br_ (fun h1 => ?_) (fun h1 => ?_) <;> (repeat (refine stg_ ?_)))
    ·(refine cl_ (c4) ?_)
     (repeat' (first | (refine stg_ ?_) | (split <;> (conv => whnf))))
     all_goals ((refine RetOK.d rfl rfl ?_; conv => whnf); simp_all)
    ·(repeat' (first | (refine stg_ ?_) | (split <;> (conv => whnf))))
     all_goals ((refine RetOK.d rfl rfl ?_; conv => whnf); rw [decide_eq_false (p := a.fMin < a.fMax) (by omega)]; rfl)
def apEq (p x : TAxisPoint) : Bool := p.fFrom == x.fFrom && (p.fTo == x.fTo && true)
def ixGo (p : TAxisPoint) : List TAxisPoint → Nat → Int
 | [], _ => -1
 | x :: t, k => if apEq p x = true then (k : Int) else ixGo p t (k + 1)
theorem ixGo_any (p : TAxisPoint) : ∀ (xs : List TAxisPoint) (k : Nat), decide (0 ≤ ixGo p xs k) = xs.any (apEq p)
 | [], _ => rfl
 | x :: t, k => by
  rw [List.any_cons, ixGo]
  by_cases h : apEq p x = true
  ·rw [if_pos h, h]
   simp
  ·rw [if_neg h, ixGo_any p t (k + 1)]
   simp [h]
theorem ix_v (xs : List TAxisPoint) (p : TAxisPoint) : PC Tryz.prog 163 [.d (.lst (xs.map TAxisPoint.D)), .d p.D] (.d (.int .i64 (ixGo p xs 0))) [] := by
 refine pc_intro ttOk (by kernel_rfl) Tryz.func163 rfl (by kernel_rfl) (by kernel_rfl) (by kernel_rfl) (fun hw => ?_)
 have hL : (xs.map TAxisPoint.D).length = xs.length := List.length_map _
 have hm : (xs.map TAxisPoint.D).length ≤ 9223372036854775807 := hw.1.1
 (conv => whnf)
 refine LoopW.go (α := Nat) (fun k => [(0, .d (.lst (xs.map TAxisPoint.D))), (3, .pB 1 [] 0), (7, .d (.int .i64 (xs.map TAxisPoint.D).length)), (8, .d (.int .i64 k))]) (fun _ => [.gone, .box (.d p.D)]) (fun k => k ≤ xs.length ∧ ixGo p xs 0 = ixGo p (xs.drop k) k) (fun k => xs.length - k) 0 (Weak.cov ⟨rfl, rfl, rfl, rfl, trivial⟩ ⟨trivial, rfl, trivial⟩ rfl) ⟨by omega, rfl⟩ (fun k hp => ?_)
 obtain ⟨hk1, hk2⟩ := hp
 (conv => whnf)
 (refine br_ (fun h1 => ?_) (fun h1 => ?_) <;> (repeat (refine stg_ ?_)))
 ·have h1' : k < xs.length := by omega
  obtain ⟨x, hx⟩ := at_lt' h1'
  rw [drop_at hx, ixGo] at hk2
  (repeat (refine stg_ ?_))
  split
  ·rename_i h2
   rw [if_pos (show apEq p x = true from h2)] at hk2
   (conv => whnf)
   (refine RetOK.d rfl rfl ?_; conv => whnf)
   rw [hk2]
  ·rename_i h2
   rw [if_neg (show ¬ apEq p x = true by rw [apEq, h2]; decide)] at hk2
   (conv => whnf)
   (repeat (refine stg_ ?_))
   exact NextW.go (k + 1) (Weak.cov ⟨rfl, rfl, rfl, rfl, trivial⟩ ⟨trivial, rfl, trivial⟩ rfl) ⟨by omega, hk2⟩ (by omega)
 ·(refine RetOK.d rfl rfl ?_; conv => whnf)
  rw [hk2, List.drop_eq_nil_of_le (by omega)]; rfl
theorem ct_v (xs : List TAxisPoint) (p : TAxisPoint) : PC Tryz.prog 142 [.d (.lst (xs.map TAxisPoint.D)), .d p.D] (.d (.bool (xs.any (apEq p)))) [] := by
 refine pc_intro ttOk (by kernel_rfl) Tryz.func142 rfl (by kernel_rfl) (by kernel_rfl) (by kernel_rfl) (fun hw => ?_)
 (conv => whnf)
 (refine cl_ (ix_v xs p) ?_)
 (refine RetOK.d rfl rfl ?_; conv => whnf)
 rw [ixGo_any]
set_option maxHeartbeats 4000000 in
theorem validAxisMap_v (xs : List TAxisPoint) : PC Tryz.prog 108 [.d (.lst (xs.map TAxisPoint.D))] (.d (.bool (mapB xs))) [] := by
 refine pc_intro ttOk (by kernel_rfl) Tryz.func108 rfl (by kernel_rfl) (by kernel_rfl) (by kernel_rfl) (fun hw => ?_)
 have hL : (xs.map TAxisPoint.D).length = xs.length := List.length_map _
 have hm : (xs.map TAxisPoint.D).length ≤ 9223372036854775807 := hw.1.1
 (conv => whnf)
 split
 ·rename_i h1
  (conv => whnf)
  (refine RetOK.d rfl rfl ?_; conv => whnf)
  have : xs = [] := List.eq_nil_of_length_eq_zero (by simp at h1; simpa using h1)
  subst this
  rfl
 ·rename_i h1
  have h0 : 0 < xs.length := by
   have : ¬ xs.length = 0 := by intro hz; simp [hz] at h1
   omega
  (conv => whnf)
  refine LoopW.go (α := Nat) (fun k => [(0, .d (.lst (xs.map TAxisPoint.D))), (10, .d (.lst (xs.map TAxisPoint.D))), (11, .d (.int .i64 (xs.map TAxisPoint.D).length)), (12, .d (.int .i64 k))]) (fun _ => [.gone]) (fun k => k ≤ xs.length ∧ mpGo none xs = mpGo (pv xs k) (xs.drop k)) (fun k => xs.length - k) 0 (Weak.cov ⟨rfl, rfl, rfl, rfl, trivial⟩ ⟨trivial, trivial⟩ rfl) ⟨by omega, rfl⟩ (fun k hp => ?_)
  obtain ⟨hk, hg⟩ := hp
  (conv => whnf)
  (refine br_ (fun h2 => ?_) (fun h2 => ?_) <;> (repeat (refine stg_ ?_)))
  ·have h2' : k < xs.length := by omega
   obtain ⟨x, hx⟩ := at_lt' h2'
   rw [drop_at hx, mpGo_cons] at hg
   cases hA : nrm x.fFrom with
   | false =>
    have c1 := isNormal_v x.fFrom
    rw [hA] at c1
    (repeat (refine stg_ ?_))
    (refine cl_ (c1) ?_)
    (refine RetOK.d rfl rfl ?_; conv => whnf)
    rw [mapB_no h0 (by rw [hg, apB, hA]; rfl)]
   | true =>
    have c1 := isNormal_v x.fFrom
    rw [hA] at c1
    cases hB : nrm x.fTo with
    | false =>
     have c2 := isNormal_v x.fTo
     rw [hB] at c2
     (repeat (refine stg_ ?_))
     (refine cl_ (c1) ?_)
     (repeat (refine stg_ ?_))
     (refine cl_ (c2) ?_)
     (repeat (refine stg_ ?_))
     (refine RetOK.d rfl rfl ?_; conv => whnf)
     rw [mapB_no h0 (by rw [hg, apB, hA, hB]; rfl)]
    | true =>
     have c2 := isNormal_v x.fTo
     rw [hB] at c2
     have hAB : apB x = true := by rw [apB, hA, hB]; rfl
     rw [hAB, Bool.true_and] at hg
     (repeat (refine stg_ ?_))
     (refine cl_ (c1) ?_)
     (repeat (refine stg_ ?_))
     (refine cl_ (c2) ?_)
     (repeat (refine stg_ ?_))
     (refine br_ (fun h3 => ?_) (fun h3 => ?_) <;> (repeat (refine stg_ ?_)))
     ·obtain ⟨y, hy⟩ := at_lt' (xs := xs) (k := k - 1) (by omega)
      rw [pv_pos xs (by omega), hy] at hg
      have hy' : (xs.map TAxisPoint.D)[((k : Int) - 1).toNat]? = some y.D := by
       have : ((k : Int) - 1).toNat = k - 1 := by omega
       rw [this, List.getElem?_map, hy]; rfl
      have hlt : ltO (some y) x = (decide (y.fFrom < x.fFrom) && decide (y.fTo ≤ x.fTo)) := rfl
      refine IxW.at (by omega) hy' ?_
      (conv => whnf)
      (refine br_ (fun h4 => ?_) (fun h4 => ?_) <;> (repeat (refine stg_ ?_)))
      ·(refine RetOK.d rfl rfl ?_; conv => whnf)
       rw [mapB_no h0 (by rw [hg, hlt, decide_eq_false (by omega)]; rfl)]
      ·(repeat (refine stg_ ?_))
       refine IxW.at (by omega) hy' ?_
       (conv => whnf)
       (refine br_ (fun h5 => ?_) (fun h5 => ?_) <;> (repeat (refine stg_ ?_)))
       ·(refine RetOK.d rfl rfl ?_; conv => whnf)
        rw [mapB_no h0 (by rw [hg, hlt, decide_eq_false (p := y.fTo ≤ x.fTo) (by omega), Bool.and_false, Bool.false_and])]
       ·rw [hlt, decide_eq_true (p := y.fFrom < x.fFrom) (by omega), decide_eq_true (by omega), Bool.true_and, Bool.true_and] at hg
        (repeat (refine stg_ ?_))
        exact NextW.go (k + 1) (Weak.cov ⟨rfl, rfl, rfl, rfl, trivial⟩ ⟨trivial, trivial⟩ rfl) ⟨by omega, by rw [pv_succ, hx, hg]⟩ (by omega)
     ·have : k = 0 := by omega
      have hlt : ltO (pv xs k) x = true := by rw [this]; rfl
      rw [hlt, Bool.true_and] at hg
      (repeat (refine stg_ ?_))
      exact NextW.go (k + 1) (Weak.cov ⟨rfl, rfl, rfl, rfl, trivial⟩ ⟨trivial, trivial⟩ rfl) ⟨by omega, by rw [pv_succ, hx, hg]⟩ (by omega)
  ·have : k = xs.length := by omega
   subst this
   rw [List.drop_length] at hg
   have hg : mpGo none xs = true := by rw [hg]; cases pv xs xs.length <;> rfl
   (repeat (refine stg_ ?_))
   have hH : ∀ n : Int, xs.any (apEq ⟨n, n⟩) = hasB n xs := fun n => by simp only [hasB]; congr 1; funext x; simp [apEq]
   have hM := mapB_yes h0 hg
   rw [mapB_has xs hg] at hM
   refine LoopW.go (α := Nat) (fun k => [(0, .d (.lst (xs.map TAxisPoint.D))), (54, .own 1 0 3), (55, .d (.int .i64 3)), (56, .d (.int .i64 k))]) (fun _ => [.gone, .arr 1 [.int .i64 (-16384), .int .i64 0, .int .i64 16384] true]) (fun k => k ≤ 3 ∧ (0 < k → hasB (-16384) xs = true) ∧ (1 < k → hasB 0 xs = true) ∧ (2 < k → hasB 16384 xs = true)) (fun k => 3 - k) 0 (Weak.cov ⟨rfl, rfl, rfl, rfl, trivial⟩ ⟨trivial, rfl, trivial⟩ rfl) ⟨by omega, by omega, by omega, by omega⟩ (fun k hp => ?_)
   obtain ⟨hk, h0', h1', h2'⟩ := hp
   (conv => whnf)
   (refine br_ (fun h6 => ?_) (fun h6 => ?_) <;> (repeat (refine stg_ ?_)))
   ·obtain rfl | rfl | rfl : k = 0 ∨ k = 1 ∨ k = 2 := by omega
    ·have c := ct_v xs ⟨-16384, -16384⟩
     rw [hH] at c
     cases hb : hasB (-16384) xs with
     | false =>
      rw [hb] at c
      (repeat (refine stg_ ?_))
      refine EoW.at (y := .int .i64 (-16384)) rfl ?_
      (conv => whnf)
      (repeat (refine stg_ ?_))
      (apply CallW.use c; (focus exact ⟨_, _, rfl, rfl, _, _, rfl, ⟨_, rfl, _, rfl, _, _, rfl, rfl, _, _, rfl, rfl, rfl⟩, rfl⟩); (focus rfl); (conv => whnf))
      (refine RetOK.d rfl rfl ?_; conv => whnf)
      rw [hM, hb]; simp
     | true =>
      rw [hb] at c
      (repeat (refine stg_ ?_))
      refine EoW.at (y := .int .i64 (-16384)) rfl ?_
      (conv => whnf)
      (repeat (refine stg_ ?_))
      (apply CallW.use c; (focus exact ⟨_, _, rfl, rfl, _, _, rfl, ⟨_, rfl, _, rfl, _, _, rfl, rfl, _, _, rfl, rfl, rfl⟩, rfl⟩); (focus rfl); (conv => whnf))
      (repeat (refine stg_ ?_))
      exact NextW.go 1 (Weak.cov ⟨rfl, rfl, rfl, rfl, trivial⟩ ⟨trivial, rfl, trivial⟩ rfl) ⟨by omega, by intro hh; first | exact hb | rfl | exact h0' (by omega), by intro hh; first | (exfalso; omega) | exact hb | rfl | exact h1' (by omega), by intro hh; first | (exfalso; omega) | exact hb | rfl⟩ (by omega)
    ·have c := ct_v xs ⟨0, 0⟩
     rw [hH] at c
     cases hb : hasB (0) xs with
     | false =>
      rw [hb] at c
      (repeat (refine stg_ ?_))
      refine EoW.at (y := .int .i64 (0)) rfl ?_
      (conv => whnf)
      (repeat (refine stg_ ?_))
      (apply CallW.use c; (focus exact ⟨_, _, rfl, rfl, _, _, rfl, ⟨_, rfl, _, rfl, _, _, rfl, rfl, _, _, rfl, rfl, rfl⟩, rfl⟩); (focus rfl); (conv => whnf))
      (refine RetOK.d rfl rfl ?_; conv => whnf)
      rw [hM, hb]; simp
     | true =>
      rw [hb] at c
      (repeat (refine stg_ ?_))
      refine EoW.at (y := .int .i64 (0)) rfl ?_
      (conv => whnf)
      (repeat (refine stg_ ?_))
      (apply CallW.use c; (focus exact ⟨_, _, rfl, rfl, _, _, rfl, ⟨_, rfl, _, rfl, _, _, rfl, rfl, _, _, rfl, rfl, rfl⟩, rfl⟩); (focus rfl); (conv => whnf))
      (repeat (refine stg_ ?_))
      exact NextW.go 2 (Weak.cov ⟨rfl, rfl, rfl, rfl, trivial⟩ ⟨trivial, rfl, trivial⟩ rfl) ⟨by omega, by intro hh; first | exact hb | rfl | exact h0' (by omega), by intro hh; first | (exfalso; omega) | exact hb | rfl | exact h1' (by omega), by intro hh; first | (exfalso; omega) | exact hb | rfl⟩ (by omega)
    ·have c := ct_v xs ⟨16384, 16384⟩
     rw [hH] at c
     cases hb : hasB (16384) xs with
     | false =>
      rw [hb] at c
      (repeat (refine stg_ ?_))
      refine EoW.at (y := .int .i64 (16384)) rfl ?_
      (conv => whnf)
      (repeat (refine stg_ ?_))
      (apply CallW.use c; (focus exact ⟨_, _, rfl, rfl, _, _, rfl, ⟨_, rfl, _, rfl, _, _, rfl, rfl, _, _, rfl, rfl, rfl⟩, rfl⟩); (focus rfl); (conv => whnf))
      (refine RetOK.d rfl rfl ?_; conv => whnf)
      rw [hM, hb]; simp
     | true =>
      rw [hb] at c
      (repeat (refine stg_ ?_))
      refine EoW.at (y := .int .i64 (16384)) rfl ?_
      (conv => whnf)
      (repeat (refine stg_ ?_))
      (apply CallW.use c; (focus exact ⟨_, _, rfl, rfl, _, _, rfl, ⟨_, rfl, _, rfl, _, _, rfl, rfl, _, _, rfl, rfl, rfl⟩, rfl⟩); (focus rfl); (conv => whnf))
      (repeat (refine stg_ ?_))
      exact NextW.go 3 (Weak.cov ⟨rfl, rfl, rfl, rfl, trivial⟩ ⟨trivial, rfl, trivial⟩ rfl) ⟨by omega, by intro hh; first | exact hb | rfl | exact h0' (by omega), by intro hh; first | (exfalso; omega) | exact hb | rfl | exact h1' (by omega), by intro hh; first | (exfalso; omega) | exact hb | rfl⟩ (by omega)
   ·(refine RetOK.d rfl rfl ?_; conv => whnf)
    rw [hM, h0' (by omega), h1' (by omega), h2' (by omega), hL]
    simp
    try omega
set_option maxHeartbeats 4000000 in
theorem ValidAxis_v (a : TAxis) : PC Tryz.prog 63 [.d a.D] (.d (.bool (axB a))) [] := by
 refine pc_intro ttOk (by kernel_rfl) Tryz.func63 rfl (by kernel_rfl) (by kernel_rfl) (by kernel_rfl) (fun hw => ?_)
 have c1 := IsName_v a.fName
 have c4 := validAxisMap_v a.fMap
 have hB : axB a = (nameB a.fName && (decide (-32000 ≤ a.fMin) && decide (a.fMin ≤ a.fDefault)) && (decide (a.fDefault ≤ a.fMax) && decide (a.fMax ≤ 32000)) && decide (a.fMin < a.fMax) && mapB a.fMap) := rfl
 generalize nameB a.fName = b1 at *
 generalize mapB a.fMap = b4 at *
 rw [hB]
 clear hB
 cases b1
 ·(conv => whnf)
  (repeat (refine stg_ ?_))
  (refine cl_ (c1) ?_)
  (repeat' (first | (refine stg_ ?_) | (split <;> (conv => whnf))))
  all_goals ((refine RetOK.d rfl rfl ?_; conv => whnf); simp_all)
 ·cases b4
  all_goals ((conv => whnf); (repeat (refine stg_ ?_)); ((refine cl_ (c1) ?_)); (repeat' (first | (refine stg_ ?_) | ((refine cl_ (c4) ?_)) | (split <;> (conv => whnf)))))
  all_goals ((refine RetOK.d rfl rfl ?_; conv => whnf); simp_all <;> (intros; omega))
def nmEq (s : ByteArray) (x : TAxis) : Bool := x.fName.toList == s.toList
def axsGo : List TAxis → List TAxis → Bool
 | _, [] => true
 | pre, x :: t => axB x && (!pre.any (nmEq x.fName) && axsGo (pre ++ [x]) t)
def axsB (xs : List TAxis) : Bool := decide (xs.length ≤ 3) && axsGo [] xs
theorem axsGo_at {xs : List TAxis} {k : Nat} {x : TAxis} (hx : xs[k]? = some x) : axsGo (xs.take k) (xs.drop k) = (axB x && (!(xs.take k).any (nmEq x.fName) && axsGo (xs.take (k + 1)) (xs.drop (k + 1)))) := by
 rw [drop_at hx, axsGo, take_snoc_get hx]
theorem axsGo_end {xs : List TAxis} {k : Nat} (hk : xs.length ≤ k) : axsGo (xs.take k) (xs.drop k) = true := by
 rw [List.drop_eq_nil_of_le hk]; rfl
theorem axNm1_v (x : TAxis) (s : ByteArray) : PC Tryz.prog 113 [.d x.D, .pX (.str s)] (.d (.bool (nmEq s x))) [] := by
 refine pc_intro ttOk (by kernel_rfl) Tryz.func113 rfl (by kernel_rfl) (by kernel_rfl) (by kernel_rfl) (fun hw => ?_)
 (conv => whnf)
 (refine RetOK.d rfl rfl ?_; conv => whnf)
 rfl
theorem ixAx_v (xs : List TAxis) (f : Nat) (y : D) (p : TAxis → Bool) (hf : ∀ x : TAxis, PC Tryz.prog f [.d x.D, .pX y] (.d (.bool (p x))) []) :
  PC Tryz.prog 112 [.d (.lst (xs.map TAxis.D)), .fn (.func f) [.pX y]] (.d (.int .i64 (fdx p xs 0))) [] := by
 refine pc_intro ttOk (by kernel_rfl) Tryz.func112 rfl (by kernel_rfl) (by kernel_rfl) (by kernel_rfl) (fun hw => ?_)
 have hL : (xs.map TAxis.D).length = xs.length := List.length_map _
 have hm : (xs.map TAxis.D).length ≤ 9223372036854775807 := hw.1.1
 (conv => whnf)
 refine LoopW.go (α := Nat) (fun k => [(0, .d (.lst (xs.map TAxis.D))), (1, .fn (.func f) [.pX y]), (7, .d (.int .i64 (xs.map TAxis.D).length)), (8, .d (.int .i64 k))]) (fun k => [.gone]) (fun k => k ≤ xs.length ∧ fdx p xs 0 = fdx p (xs.drop k) k) (fun k => xs.length - k) 0 covT_ ?_ (fun k hk => ?_)
 ·exact ⟨by omega, rfl⟩
 obtain ⟨hk1, hk2⟩ := hk
 (conv => whnf)
 (refine br_ (fun h2 => ?_) (fun h2 => ?_) <;> (repeat (refine stg_ ?_)))
 ·obtain ⟨x, hx⟩ := at_lt' (xs := xs) (k := k) (by omega)
  rw [fdx_at hx] at hk2
  (repeat (refine stg_ ?_))
  (refine cla_ (hf x) ?_)
  (refine br_ (fun h3 => ?_) (fun h3 => ?_) <;> (repeat (refine stg_ ?_)))
  ·(refine RetOK.d rfl rfl ?_; conv => whnf)
   rw [hk2, if_pos h3]
  ·(repeat (refine stg_ ?_))
   exact NextW.go (k + 1) covT_ ⟨by omega, by rw [hk2, h3]; rfl⟩ (by omega)
 ·(refine RetOK.d rfl rfl ?_; conv => whnf)
  rw [hk2, fdx_end (by omega)]
theorem axisNamed_v (xs : List TAxis) (s : ByteArray) : PC Tryz.prog 68 [.d (.lst (xs.map TAxis.D)), .d (.str s)] (.d (.int .i64 (fdx (nmEq s) xs 0))) [] := by
 refine pc_intro ttOk (by kernel_rfl) Tryz.func68 rfl (by kernel_rfl) (by kernel_rfl) (by kernel_rfl) (fun hw => ?_)
 (conv => whnf)
 (refine cla_ (ixAx_v xs _ (.str s) (nmEq s) (fun x => axNm1_v x s)) ?_)
 (refine RetOK.d rfl rfl ?_; conv => whnf)
set_option maxHeartbeats 1000000 in
theorem ValidAxes_v (xs : List TAxis) : PC Tryz.prog 29 [.d (.lst (xs.map TAxis.D))] (.d (.bool (axsB xs))) [] := by
 refine pc_intro ttOk (by kernel_rfl) Tryz.func29 rfl (by kernel_rfl) (by kernel_rfl) (by kernel_rfl) (fun hw => ?_)
 have hL : (xs.map TAxis.D).length = xs.length := List.length_map _
 have hm : (xs.map TAxis.D).length ≤ 9223372036854775807 := hw.1.1
 (conv => whnf)
 (refine br_ (fun h1 => ?_) (fun h1 => ?_) <;> (repeat (refine stg_ ?_)))
 ·(refine RetOK.d rfl rfl ?_; conv => whnf)
  rw [axsB, decide_eq_false (by omega)]; rfl
 ·refine LoopW.go (α := Nat) (fun k => [(0, .d (.lst (xs.map TAxis.D))), (8, .d (.lst (xs.map TAxis.D))), (9, .d (.int .i64 (xs.map TAxis.D).length)), (10, .d (.int .i64 k))]) (fun k => [.gone]) (fun k => k ≤ xs.length ∧ axsB xs = axsGo (xs.take k) (xs.drop k)) (fun k => xs.length - k) 0 covT_ ?_ (fun k hk => ?_)
  ·exact ⟨by omega, by rw [axsB, decide_eq_true (by omega)]; rfl⟩
  obtain ⟨hk1, hk2⟩ := hk
  (conv => whnf)
  (refine br_ (fun h2 => ?_) (fun h2 => ?_) <;> (repeat (refine stg_ ?_)))
  ·obtain ⟨x, hx⟩ := at_lt' (xs := xs) (k := k) (by omega)
   rw [axsGo_at hx] at hk2
   have hT : ((xs.map TAxis.D).drop 0).take (k - 0) = (xs.take k).map TAxis.D := by simp
   have hF := fdx_any (nmEq x.fName) (xs.take k) 0
   rw [← hF] at hk2
   (repeat' (first | (refine stg_ ?_) | (refine cla_ (ValidAxis_v x) ?_) | (refine SzW.map (fun y => rfl) ?_; (conv => whnf)) | (apply CallW.use (axisNamed_v (xs.take k) x.fName); (focus (refine ⟨_, _, rfl, ?_, _, _, rfl, rfl, rfl⟩; exact congrArg (fun z => V.d (.lst z)) hT.symm)); (focus rfl); (conv => whnf)) | (refine br_ (fun hbr => ?_) (fun hbr => ?_))))
   ·(refine RetOK.d rfl rfl ?_; conv => whnf)
    simp_all
   ·(refine RetOK.d rfl rfl ?_; conv => whnf)
    simp_all
   ·exact NextW.go (k + 1) covT_ ⟨by omega, by rw [hk2, decide_eq_false (by omega)]; simp_all⟩ (by omega)
  ·(refine RetOK.d rfl rfl ?_; conv => whnf)
   rw [hk2, axsGo_end (by omega)]
set_option maxHeartbeats 1000000 in
theorem l29Ok_v (xs : List TAxis) : PC Tryz.prog 98 [.d (.lst (xs.map TAxis.D))] (.d (.bool (axsB xs))) [] := by
 refine pc_intro ttOk (by kernel_rfl) Tryz.func98 rfl (by kernel_rfl) (by kernel_rfl) (by kernel_rfl) (fun hw => ?_)
 have hL : (xs.map TAxis.D).length = xs.length := List.length_map _
 have hm : (xs.map TAxis.D).length ≤ 9223372036854775807 := hw.1.1
 (conv => whnf)
 refine LoopW.go (α := Nat) (fun k => [(0, .d (.lst (xs.map TAxis.D))), (3, .d (.int .i64 k))]) (fun k => [.gone]) (fun k => k ≤ xs.length ∧ axsGo [] xs = axsGo (xs.take k) (xs.drop k)) (fun k => xs.length - k) 0 covT_ ?_ (fun k hk => ?_)
 ·exact ⟨by omega, rfl⟩
 obtain ⟨hk1, hk2⟩ := hk
 (conv => whnf)
 (refine br_ (fun h2 => ?_) (fun h2 => ?_) <;> (repeat (refine stg_ ?_)))
 ·obtain ⟨x, hx⟩ := at_lt' (xs := xs) (k := k) (by omega)
  rw [axsGo_at hx] at hk2
  (repeat (refine stg_ ?_))
  (refine cl_ (l29Axis_v x) ?_)
  (refine br_ (fun h3 => ?_) (fun h3 => ?_) <;> (repeat (refine stg_ ?_)))
  ·(refine RetOK.d rfl rfl ?_; conv => whnf)
   rw [axsB, hk2, h3, Bool.false_and, Bool.and_false]
  ·rw [h3, Bool.true_and] at hk2
   refine LoopW.go (α := Nat) (fun j => [(0, .d (.lst (xs.map TAxis.D))), (3, .d (.int .i64 k)), (4, .d (.int .i64 j))]) (fun _ => [.gone]) (fun j => j ≤ k ∧ (xs.take j).any (nmEq x.fName) = false) (fun j => k - j) 0 covT_ ?_ (fun j hj => ?_)
   ·exact ⟨by omega, rfl⟩
   obtain ⟨hj1, hj2⟩ := hj
   (conv => whnf)
   (refine br_ (fun h4 => ?_) (fun h4 => ?_) <;> (repeat (refine stg_ ?_)))
   ·obtain ⟨y, hy⟩ := at_lt' (xs := xs) (k := j) (by omega)
    (repeat (refine stg_ ?_))
    (refine br_ (fun h5 => ?_) (fun h5 => ?_) <;> (repeat (refine stg_ ?_)))
    ·(refine RetOK.d rfl rfl ?_; conv => whnf)
     rw [axsB, hk2, any_take hy (by omega) (show nmEq x.fName y = true by simp [nmEq, h5])]
     simp
    ·(repeat (refine stg_ ?_))
     exact NextW.go (j + 1) covT_ ⟨by omega, by rw [any_snoc hy, hj2]; simp [nmEq, h5]⟩ (by omega)
   ·have : j = k := by omega
    subst this
    rw [hj2] at hk2
    (repeat (refine stg_ ?_))
    exact NextW.go (j + 1) covT_ ⟨by omega, by rw [hk2]; rfl⟩ (by omega)
 ·(refine RetOK.d rfl rfl ?_; conv => whnf)
  rw [axsB, hk2, axsGo_end (by omega), Bool.and_true, hL]
  congr 1
  exact decide_eq_decide.2 (by omega)
theorem axB_facts {a : TAxis} (h : axB a = true) : a.fMin ≤ a.fDefault ∧ a.fDefault ≤ a.fMax ∧ -32000 ≤ a.fMin ∧ a.fMax ≤ 32000 ∧ a.fMin < a.fMax ∧ mapB a.fMap = true := by
 simp only [axB, inB, Bool.and_eq_true, decide_eq_true_eq] at h
 exact ⟨h.1.1.1.2.2, h.1.1.2.1, h.1.1.1.2.1, h.1.1.2.2, h.1.2, h.2⟩
def plainN (a : TAxis) (v : Int) : Int :=
 if a.fDefault < max a.fMin (min a.fMax v) then divR ((max a.fMin (min a.fMax v) - a.fDefault) * 16384) (a.fMax - a.fDefault)
 else if max a.fMin (min a.fMax v) < a.fDefault then divR ((max a.fMin (min a.fMax v) - a.fDefault) * 16384) (a.fDefault - a.fMin) else 0
theorem divR_le {n d c : Int} (hd : 0 < d) (h : n ≤ c * d) : divR n d ≤ c := by
 rw [divR_pos hd]
 have a := Int.emod_nonneg n (show d ≠ 0 by omega)
 have b := Int.emod_lt_of_pos n hd
 have e := Int.emod_add_mul_ediv n d
 have h1 : n / d ≤ c := by
  have := Int.ediv_le_ediv hd h
  rwa [Int.mul_ediv_cancel c (by omega)] at this
 split
 ·rcases Int.lt_or_eq_of_le h1 with h2 | h2
  ·omega
  ·exfalso
   rw [h2, Int.mul_comm] at e
   omega
 ·exact h1
theorem le_divR {n d c : Int} (hd : 0 < d) (h : c * d ≤ n) : c ≤ divR n d := by
 rw [divR_pos hd]
 have h1 : c ≤ n / d := (Int.le_ediv_iff_mul_le hd).2 h
 split <;> omega
theorem plainN_nrm {a : TAxis} (h : axB a = true) (v : Int) : nrm (plainN a v) = true := by
 obtain ⟨h1, h2, h3, h4, h5, -⟩ := axB_facts h
 simp only [nrm, Bool.and_eq_true, decide_eq_true_eq]
 unfold plainN
 generalize hu : max a.fMin (min a.fMax v) = u
 have hu1 : a.fMin ≤ u := by omega
 have hu2 : u ≤ a.fMax := by omega
 split
 ·exact ⟨le_divR (by omega) (by omega), divR_le (by omega) (by omega)⟩
 ·split
  ·exact ⟨le_divR (by omega) (by omega), divR_le (by omega) (by omega)⟩
  ·omega
def mapGo (n : Int) : Option TAxisPoint → List TAxisPoint → Int
 | _, [] => n
 | none, q :: t => if n = q.fFrom then q.fTo else mapGo n (some q) t
 | some p, q :: t => if n = q.fFrom then q.fTo else if n < q.fFrom then p.fTo + divR ((n - p.fFrom) * (q.fTo - p.fTo)) (q.fFrom - p.fFrom) else mapGo n (some q) t
def mapN (a : TAxis) (n : Int) : Int := mapGo n none a.fMap
theorem mapGo_at (n : Int) {xs : List TAxisPoint} {k : Nat} {q : TAxisPoint} (hq : xs[k]? = some q) :
  mapGo n (pv xs k) (xs.drop k) = if n = q.fFrom then q.fTo else match pv xs k with
   | none => mapGo n (pv xs (k + 1)) (xs.drop (k + 1))
   | some p => if n < q.fFrom then p.fTo + divR ((n - p.fFrom) * (q.fTo - p.fTo)) (q.fFrom - p.fFrom) else mapGo n (pv xs (k + 1)) (xs.drop (k + 1)) := by
 rw [drop_at hq, pv_succ, hq]
 cases pv xs k <;> rfl
theorem mapGo_end (n : Int) {xs : List TAxisPoint} {k : Nat} (o : Option TAxisPoint) (hk : xs.length ≤ k) : mapGo n o (xs.drop k) = n := by
 rw [List.drop_eq_nil_of_le hk]
 cases o <;> rfl
theorem mp_ap : ∀ (xs : List TAxisPoint) (o : Option TAxisPoint), mpGo o xs = true → ∀ (k : Nat) (q : TAxisPoint), xs[k]? = some q → apB q = true
 | [], _, _, k, q, h => by simp at h
 | x :: t, o, h, k, q, hq => by
  rw [mpGo_cons] at h
  simp only [Bool.and_eq_true] at h
  cases k with
  | zero => simp at hq; rw [← hq]; exact h.1.1
  | succ k => exact mp_ap t (some x) h.2 k q (by simpa using hq)
theorem mp_lt : ∀ (xs : List TAxisPoint) (o : Option TAxisPoint), mpGo o xs = true → ∀ (k : Nat) (p q : TAxisPoint), xs[k]? = some p → xs[k + 1]? = some q → apLt p q = true
 | [], _, _, k, p, q, h, _ => by simp at h
 | x :: t, o, h, k, p, q, hp, hq => by
  rw [mpGo_cons] at h
  simp only [Bool.and_eq_true] at h
  cases k with
  | zero =>
   simp at hp hq
   subst hp
   cases t with
   | nil => simp at hq
   | cons y t =>
    simp at hq
    subst hq
    have := h.2
    rw [mpGo_cons] at this
    simp only [Bool.and_eq_true, ltO] at this
    exact this.1.2
  | succ k => exact mp_lt t (some x) h.2 k p q (by simpa using hp) (by simpa using hq)
theorem mapB_first {xs : List TAxisPoint} {q : TAxisPoint} (h : mapB xs = true) (hq : xs[0]? = some q) : q.fFrom = -16384 := by
 cases xs with
 | nil => simp at hq
 | cons x t =>
  simp at hq
  subst hq
  simp only [mapB, List.isEmpty_cons, Bool.false_or, Bool.and_eq_true, decide_eq_true_eq] at h
  have h1 := mapB_has (x :: t) h.1.1
  rw [decide_eq_true h.1.2] at h1
  have h1 := h1.symm
  simp only [Bool.and_eq_true] at h1
  have h2 := h1.1.1
  rw [← cntN_has] at h2
  have h3 := h.1.1
  rw [mpGo_cons] at h3
  simp only [Bool.and_eq_true, apB, nrm, decide_eq_true_eq] at h3
  have h4 := mpGo_low t x h3.2 (-16384) (by omega)
  rw [cntN, h4] at h2
  split at h2
  ·rename_i h5
   simp only [Bool.and_eq_true, beq_iff_eq] at h5
   omega
  ·omega
theorem mapB_mp {xs : List TAxisPoint} (h : mapB xs = true) : mpGo none xs = true := by
 cases xs with
 | nil => rfl
 | cons x t =>
  simp only [mapB, List.isEmpty_cons, Bool.false_or, Bool.and_eq_true] at h
  exact h.1.1
theorem step_bnd {x y d : Int} (h1 : 0 ≤ x) (h2 : x ≤ d) (h3 : 0 < d) (h4 : d ≤ 32768) (h5 : 0 ≤ y) (h6 : y ≤ 32768) : 0 ≤ x * y ∧ x * y ≤ 1073741824 ∧ 0 ≤ divR (x * y) d ∧ divR (x * y) d ≤ y := by
 have a : 0 ≤ x * y := Int.mul_nonneg h1 h5
 have b : x * y ≤ d * y := Int.mul_le_mul_of_nonneg_right h2 h5
 have c : d * y ≤ 32768 * y := Int.mul_le_mul_of_nonneg_right h4 h5
 refine ⟨a, by omega, le_divR h3 (by omega), divR_le h3 (by rw [Int.mul_comm y d]; exact b)⟩
theorem plain_v (a : TAxis) (v : Int) (hA : axB a = true) : PC Tryz.prog 71 [.d a.D, .d (.int .i64 v)] (.d (.int .i64 (plainN a v))) [] := by
 refine pc_intro ttOk (by kernel_rfl) Tryz.func71 rfl (by kernel_rfl) (by kernel_rfl) (by kernel_rfl) (fun hw => ?_)
 obtain ⟨f1, f2, f3, f4, f5, -⟩ := axB_facts hA
 have hP : plainN a v = if a.fDefault < max a.fMin (min a.fMax v) then divR ((max a.fMin (min a.fMax v) - a.fDefault) * 16384) (a.fMax - a.fDefault)
  else if max a.fMin (min a.fMax v) < a.fDefault then divR ((max a.fMin (min a.fMax v) - a.fDefault) * 16384) (a.fDefault - a.fMin) else 0 := rfl
 have hu : max a.fMin (min a.fMax v) = min (max v a.fMin) a.fMax := by omega
 rw [hu] at hP
 have hu1 : a.fMin ≤ min (max v a.fMin) a.fMax := by omega
 have hu2 : min (max v a.fMin) a.fMax ≤ a.fMax := by omega
 rw [hP]
 (conv => whnf)
 (repeat' (first | (refine stg_ ?_) | (refine cl_ (DivRound_v _ _) ?_) | (refine br_ (fun hbr => ?_) (fun hbr => ?_))))
 all_goals ((refine RetOK.d rfl rfl ?_; conv => whnf))
 (all_goals (first | rfl | (congr 1; omega) | (simp_all; done) | (simp; omega) | (simp_all; omega) | grind))
set_option maxHeartbeats 2000000 in
theorem mapNormal_v (a : TAxis) (n : Int) (hA : axB a = true) (hn : nrm n = true) : PC Tryz.prog 70 [.d a.D, .d (.int .i64 n)] (.d (.int .i64 (mapN a n))) [] := by
 refine pc_intro ttOk (by kernel_rfl) Tryz.func70 rfl (by kernel_rfl) (by kernel_rfl) (by kernel_rfl) (fun hw => ?_)
 obtain ⟨f1, f2, f3, f4, f5, f6⟩ := axB_facts hA
 simp only [nrm, Bool.and_eq_true, decide_eq_true_eq] at hn
 have f7 := mapB_mp f6
 have hL : (a.fMap.map TAxisPoint.D).length = a.fMap.length := List.length_map _
 have hm : (a.fMap.map TAxisPoint.D).length ≤ 9223372036854775807 := hw.1.2.2.2.2.1.1
 (conv => whnf)
 refine LoopW.go (α := Nat) (fun k => [(1, .d (.int .i64 n)), (2, .pB 1 [] 0), (9, .d (.lst (a.fMap.map TAxisPoint.D))), (10, .d (.int .i64 (a.fMap.map TAxisPoint.D).length)), (11, .d (.int .i64 k))]) (fun k => [.gone, .box (.d a.D)]) (fun k => k ≤ a.fMap.length ∧ (∀ p, pv a.fMap k = some p → p.fFrom ≤ n) ∧ mapN a n = mapGo n (pv a.fMap k) (a.fMap.drop k)) (fun k => a.fMap.length - k) 0 covT_ ?_ (fun k hk => ?_)
 ·exact ⟨by omega, fun p hp => by simp [pv] at hp, rfl⟩
 obtain ⟨hk1, hk3, hk2⟩ := hk
 (conv => whnf)
 (refine br_ (fun h2 => ?_) (fun h2 => ?_) <;> (repeat (refine stg_ ?_)))
 ·obtain ⟨q, hq⟩ := at_lt' (xs := a.fMap) (k := k) (by omega)
  rw [mapGo_at n hq] at hk2
  have aq := mp_ap _ _ f7 k q hq
  simp only [apB, nrm, Bool.and_eq_true, decide_eq_true_eq] at aq
  (repeat (refine stg_ ?_))
  (refine br_ (fun h3 => ?_) (fun h3 => ?_) <;> (repeat (refine stg_ ?_)))
  ·(refine RetOK.d rfl rfl ?_; conv => whnf)
   rw [hk2, if_pos h3]
  ·rw [if_neg h3] at hk2
   rcases Nat.eq_zero_or_pos k with rfl | h0
   ·rw [pv_zero] at hk2
    have := mapB_first f6 hq
    (refine br_ (fun h4 => ?_) (fun h4 => ?_) <;> (repeat (refine stg_ ?_)))
    ·exfalso; omega
    ·exact NextW.go (0 + 1) covT_ ⟨by omega, fun p hp => by rw [pv_succ, hq] at hp; cases hp; omega, by rw [hk2]⟩ (by omega)
   ·obtain ⟨p, hp⟩ := at_lt' (xs := a.fMap) (k := k - 1) (by omega)
    have ap := mp_ap _ _ f7 (k - 1) p hp
    simp only [apB, nrm, Bool.and_eq_true, decide_eq_true_eq] at ap
    have lt := mp_lt _ _ f7 (k - 1) p q hp (by rw [show k - 1 + 1 = k by omega]; exact hq)
    simp only [apLt, Bool.and_eq_true, decide_eq_true_eq] at lt
    rw [pv_pos _ h0, hp] at hk2
    have hp' : (a.fMap.map TAxisPoint.D)[((k : Int) - 1).toNat]? = some p.D := by
     have : ((k : Int) - 1).toNat = k - 1 := by omega
     rw [this, List.getElem?_map, hp]; rfl
    by_cases h4 : n < q.fFrom
    ·have sb := fun hx => step_bnd (x := n - p.fFrom) (y := q.fTo - p.fTo) (d := q.fFrom - p.fFrom) hx (by omega) (by omega) (by omega) (by omega) (by omega)
     have : 0 ≤ n - p.fFrom := by have := hk3 p (by rw [pv_pos _ h0, hp]); omega
     have sb := sb this
     simp only [if_pos h4] at hk2
     (repeat' (first | (refine stg_ ?_) | (refine IxW.at (by omega) hp' ?_; (conv => whnf)) | (refine cl_ (DivRound_v _ _) ?_) | (refine br_ (fun hbr => ?_) (fun hbr => ?_))))
     all_goals first | (exfalso; omega) | ((refine RetOK.d rfl rfl ?_; conv => whnf); rw [hk2])
    ·simp only [if_neg h4] at hk2
     (repeat' (first | (refine stg_ ?_) | fail | (refine br_ (fun hbr => ?_) (fun hbr => ?_))))
     all_goals first | (exfalso; omega) | exact NextW.go (k + 1) covT_ ⟨by omega, fun p hp => by rw [pv_succ, hq] at hp; cases hp; omega, by rw [hk2]⟩ (by omega)
 ·(refine RetOK.d rfl rfl ?_; conv => whnf)
  rw [hk2, mapGo_end n _ (by omega)]
def nmI (a : TAxis) (v : Int) : Int := if axB a = true then mapN a (plainN a v) else 0
def dfL (xs : List TAxis) : List Int := xs.map (·.fDefault)
theorem map_take_succ {α β : Type} (f : α → β) {xs : List α} {k : Nat} {x : α} (hx : xs[k]? = some x) : (xs.take (k + 1)).map f = (xs.take k).map f ++ [f x] := by
 rw [take_snoc_get hx, List.map_append]; rfl
theorem DefaultsOf_no (xs : List TAxis) (h : axsB xs = false) : PC Tryz.prog 9 [.d (.lst (xs.map TAxis.D))] (.tup [.nils, .d (.int .i64 1)]) [] := by
 refine pc_intro ttOk (by kernel_rfl) Tryz.func9 rfl (by kernel_rfl) (by kernel_rfl) (by kernel_rfl) (fun hw => ?_)
 (conv => whnf)
 (refine cl_ (ValidAxes_v xs) ?_)
 (refine br_ (fun h1 => ?_) (fun h1 => ?_) <;> (repeat (refine stg_ ?_)))
 ·(refine ⟨⟨[], trivial, by decide, ⟨_, rfl, rfl, ⟨_, _, rfl, rfl, ⟨_, _, rfl, ⟨rfl, ?_⟩, rfl⟩⟩⟩⟩⟩; (conv => whnf))
 ·rw [h] at h1; cases h1
theorem DefaultsOf_v (xs : List TAxis) (h : axsB xs = true) : PC Tryz.prog 9 [.d (.lst (xs.map TAxis.D))] (.tup [.own 1 0 xs.length, .d (.int .i64 0)]) [.arr 1 ((dfL xs).map (D.int .i64)) true] := by
 refine pc_intro ttOk (by kernel_rfl) Tryz.func9 rfl (by kernel_rfl) (by kernel_rfl) (by kernel_rfl) (fun hw => ?_)
 have hL : (xs.map TAxis.D).length = xs.length := List.length_map _
 have hm : (xs.map TAxis.D).length ≤ 9223372036854775807 := hw.1.1
 have hl : xs.length ≤ 3 := by simp only [axsB, Bool.and_eq_true, decide_eq_true_eq] at h; exact h.1
 (conv => whnf)
 (refine cl_ (ValidAxes_v xs) ?_)
 (refine br_ (fun h1 => ?_) (fun h1 => ?_) <;> (repeat (refine stg_ ?_)))
 ·rw [h] at h1; cases h1
 ·refine LoopW.go (α := Nat) (fun k => [(4, .own 1 0 ((dfL (xs.take k)).map (D.int .i64)).length), (10, .d (.lst (xs.map TAxis.D))), (11, .d (.int .i64 xs.length)), (12, .d (.int .i64 k))]) (fun k => [.gone, .arr 1 ((dfL (xs.take k)).map (D.int .i64)) true]) (fun k => k ≤ xs.length) (fun k => xs.length - k) 0 (Weak.trans (Weak.adopt (k := 4) rfl 1 true) (Weak.cov ⟨rfl, rfl, by rw [← hL]; rfl, rfl, trivial⟩ ⟨trivial, rfl, trivial⟩ rfl)) (by omega) (fun k hk => ?_)
  have hd : ((dfL (xs.take k)).map (D.int .i64)).length = k := by simp [dfL]; omega
  have hd2 : (dfL (xs.take k)).length = k := by simp [dfL]; omega
  (conv => whnf)
  (refine br_ (fun h2 => ?_) (fun h2 => ?_) <;> (repeat (refine stg_ ?_)))
  ·obtain ⟨x, hx⟩ := at_lt' (xs := xs) (k := k) (by omega)
   have hS : (dfL (xs.take (k + 1))).map (D.int .i64) = (dfL (xs.take k)).map (D.int .i64) ++ [.int .i64 x.fDefault] := by rw [dfL, map_take_succ _ hx, List.map_append]; rfl
   (repeat' (first | (refine stg_ ?_) | fail | (refine br_ (fun hbr => ?_) (fun hbr => ?_))))
   refine NextW.go (k + 1) (Weak.cov ⟨?_, rfl, rfl, rfl, trivial⟩ ⟨trivial, ?_, trivial⟩ rfl) (by omega) (by omega)
   ·rw [hS]; simp only [List.length_append]; rfl
   ·rw [hS, List.take_length]
  ·obtain rfl : k = xs.length := by omega
   rw [List.take_length] at *
   (refine ⟨⟨[some 1], ⟨by decide, ?_, trivial, trivial⟩, by decide, ⟨_, rfl, rfl, ⟨_, _, rfl, ⟨by decide, ?_⟩, ⟨_, _, rfl, ⟨rfl, ?_⟩, rfl⟩⟩⟩⟩⟩)
   ·rfl
   ·rw [hd]; rfl
   ·rfl
def noL (xs : List TAxis) (vs : List Int) : List Int := List.zipWith (fun a v => mapN a (plainN a v)) xs vs
theorem noL_succ {xs : List TAxis} {vs : List Int} {k : Nat} {x : TAxis} {v : Int} (hx : xs[k]? = some x) (hv : vs[k]? = some v) : noL (xs.take (k + 1)) (vs.take (k + 1)) = noL (xs.take k) (vs.take k) ++ [mapN x (plainN x v)] := by
 rw [noL, take_snoc_get hx, take_snoc_get hv, List.zipWith_append]
 ·rfl
 ·have := (List.getElem?_eq_some_iff.1 hx).1
  have := (List.getElem?_eq_some_iff.1 hv).1
  simp; omega
theorem axs_ok {xs : List TAxis} (h : axsB xs = true) {k : Nat} {x : TAxis} (hx : xs[k]? = some x) : axB x = true := by
 have key : ∀ (ys pre : List TAxis), axsGo pre ys = true → ∀ (j : Nat) (y : TAxis), ys[j]? = some y → axB y = true := by
  intro ys
  induction ys with
  | nil => intro pre _ j y hy; simp at hy
  | cons z ys ih =>
   intro pre hp j y hy
   simp only [axsGo, Bool.and_eq_true] at hp
   cases j with
   | zero => simp at hy; subst hy; exact hp.1
   | succ j => exact ih _ hp.2.2 j y (by simpa using hy)
 simp only [axsB, Bool.and_eq_true] at h
 exact key xs [] h.2 k x hx
def noC (xs : List TAxis) (vs : List Int) : Int := if axsB xs = true then 2 else 1
theorem NormalsOf_no (xs : List TAxis) (vs : List Int) (h : axsB xs = false ∨ vs.length ≠ xs.length) : PC Tryz.prog 31 [.d (.lst (xs.map TAxis.D)), .d (.lst (vs.map (D.int .i64)))] (.tup [.nils, .d (.int .i64 (noC xs vs))]) [] := by
 refine pc_intro ttOk (by kernel_rfl) Tryz.func31 rfl (by kernel_rfl) (by kernel_rfl) (by kernel_rfl) (fun hw => ?_)
 have hL : (xs.map TAxis.D).length = xs.length := List.length_map _
 have hL2 : (vs.map (D.int .i64)).length = vs.length := List.length_map _
 have hC : noC xs vs = if axsB xs = true then 2 else 1 := rfl
 generalize noC xs vs = C at *
 (conv => whnf)
 (refine cl_ (ValidAxes_v xs) ?_)
 (refine br_ (fun h1 => ?_) (fun h1 => ?_) <;> (repeat (refine stg_ ?_)))
 ·rw [h1, if_neg (by decide)] at hC
  subst hC
  (refine ⟨⟨[], trivial, by decide, ⟨_, rfl, rfl, ⟨_, _, rfl, rfl, ⟨_, _, rfl, ⟨rfl, ?_⟩, rfl⟩⟩⟩⟩⟩; (conv => whnf))
 ·rw [h1, if_pos rfl] at hC
  subst hC
  (refine br_ (fun h2 => ?_) (fun h2 => ?_) <;> (repeat (refine stg_ ?_)))
  ·(refine ⟨⟨[], trivial, by decide, ⟨_, rfl, rfl, ⟨_, _, rfl, rfl, ⟨_, _, rfl, ⟨rfl, ?_⟩, rfl⟩⟩⟩⟩⟩; (conv => whnf))
  ·exfalso
   rcases h with h | h
   ·rw [h] at h1; cases h1
   ·omega
theorem NormalsOf_v (xs : List TAxis) (vs : List Int) (h : axsB xs = true) (hv : vs.length = xs.length) : PC Tryz.prog 31 [.d (.lst (xs.map TAxis.D)), .d (.lst (vs.map (D.int .i64)))] (.tup [.own 1 0 xs.length, .d (.int .i64 0)]) [.arr 1 ((noL xs vs).map (D.int .i64)) true] := by
 refine pc_intro ttOk (by kernel_rfl) Tryz.func31 rfl (by kernel_rfl) (by kernel_rfl) (by kernel_rfl) (fun hw => ?_)
 have hL : (xs.map TAxis.D).length = xs.length := List.length_map _
 have hL2 : (vs.map (D.int .i64)).length = vs.length := List.length_map _
 have hl : xs.length ≤ 3 := by simp only [axsB, Bool.and_eq_true, decide_eq_true_eq] at h; exact h.1
 (conv => whnf)
 (refine cl_ (ValidAxes_v xs) ?_)
 (refine br_ (fun h1 => ?_) (fun h1 => ?_) <;> (repeat (refine stg_ ?_)))
 ·rw [h] at h1; cases h1
 ·(refine br_ (fun h2 => ?_) (fun h2 => ?_) <;> (repeat (refine stg_ ?_)))
  ·exfalso; omega
  refine LoopW.go (α := Nat) (fun k => [(1, .d (.lst (vs.map (D.int .i64)))), (6, .own 1 0 ((noL (xs.take k) (vs.take k)).map (D.int .i64)).length), (17, .d (.lst (xs.map TAxis.D))), (18, .d (.int .i64 xs.length)), (19, .d (.int .i64 k))]) (fun k => [.gone, .arr 1 ((noL (xs.take k) (vs.take k)).map (D.int .i64)) true]) (fun k => k ≤ xs.length) (fun k => xs.length - k) 0 (Weak.trans (Weak.adopt (k := 6) rfl 1 true) (Weak.cov ⟨rfl, rfl, rfl, by rw [← hL]; rfl, rfl, trivial⟩ ⟨trivial, rfl, trivial⟩ rfl)) (by omega) (fun k hk => ?_)
  have hd : ((noL (xs.take k) (vs.take k)).map (D.int .i64)).length = k := by simp [noL]; omega
  have hd2 : (noL (xs.take k) (vs.take k)).length = k := by simp [noL]; omega
  (conv => whnf)
  (refine br_ (fun h3 => ?_) (fun h3 => ?_) <;> (repeat (refine stg_ ?_)))
  ·obtain ⟨x, hx⟩ := at_lt' (xs := xs) (k := k) (by omega)
   obtain ⟨v, hx2⟩ := at_lt' (xs := vs) (k := k) (by omega)
   have hA := axs_ok h hx
   have he1 : (xs.map TAxis.D)[k]? = some x.D := by rw [List.getElem?_map, hx]; rfl
   have he2 : (vs.map (D.int .i64))[k]? = some (.int .i64 v) := by rw [List.getElem?_map, hx2]; rfl
   have hS : (noL (xs.take (k + 1)) (vs.take (k + 1))).map (D.int .i64) = (noL (xs.take k) (vs.take k)).map (D.int .i64) ++ [.int .i64 (mapN x (plainN x v))] := by rw [noL_succ hx hx2, List.map_append]; rfl
   (repeat' (first | (refine stg_ ?_) | (refine cla_ (plain_v x v hA) ?_) | (refine cla_ (mapNormal_v x _ hA (plainN_nrm hA v)) ?_) | (refine br_ (fun hbr => ?_) (fun hbr => ?_))))
   refine NextW.go (k + 1) (Weak.cov ⟨rfl, ?_, rfl, rfl, rfl, trivial⟩ ⟨trivial, ?_, trivial⟩ rfl) (by omega) (by omega)
   ·rw [hS]; simp only [List.length_append]; rfl
   ·rw [hS, List.take_length]
  ·obtain rfl : k = xs.length := by omega
   rw [List.take_length] at *
   have hv2 : vs.take xs.length = vs := by rw [← hv, List.take_length]
   rw [hv2] at *
   have hd3 : ((noL xs vs).map (D.int .i64)).length = xs.length := by simp [noL]; omega
   (refine ⟨⟨[some 1], ⟨by decide, ?_, trivial, trivial⟩, by decide, ⟨_, rfl, rfl, ⟨_, _, rfl, ⟨by decide, ?_⟩, ⟨_, _, rfl, ⟨rfl, ?_⟩, rfl⟩⟩⟩⟩⟩)
   ·rfl
   ·rw [hd3]; rfl
   ·rfl

def pt0 : TPt := ⟨0, 0⟩
def pntB (p : TPt) : Bool := inB p.fX (-262144) 262144 && inB p.fY (-262144) 262144
def loopB (l : TLoop) : Bool := decide (1 ≤ l.fKnots.length) && (decide (l.fKnots.length ≤ 60) && (((l.fKnots[0]?).map (·.fOn)).getD false && l.fKnots.all (fun k => pntB k.fAt)))
def outB (o : TOutline) : Bool := decide (o.fLoops.length ≤ 12) && o.fLoops.all loopB
theorem pnt_in {p : TPt} (h : pntB p = true) : -262144 ≤ p.fX ∧ p.fX ≤ 262144 ∧ -262144 ≤ p.fY ∧ p.fY ≤ 262144 := by
 simp only [pntB, inB, Bool.and_eq_true, decide_eq_true_eq] at h; omega
theorem loop_in {l : TLoop} (h : loopB l = true) : 1 ≤ l.fKnots.length ∧ l.fKnots.length ≤ 60 ∧ ∀ k ∈ l.fKnots, pntB k.fAt = true := by
 simp only [loopB, Bool.and_eq_true, decide_eq_true_eq, List.all_eq_true] at h
 exact ⟨h.1, h.2.1, h.2.2.2⟩
theorem out_in {o : TOutline} (h : outB o = true) : o.fLoops.length ≤ 12 ∧ ∀ l ∈ o.fLoops, loopB l = true := by
 simp only [outB, Bool.and_eq_true, decide_eq_true_eq, List.all_eq_true] at h
 exact h
theorem mem_take' {α : Type} {xs : List α} {P : α → Prop} (h : ∀ x ∈ xs, P x) (k : Nat) : ∀ x ∈ xs.take k, P x := fun x hx => h x (List.mem_of_mem_take hx)
def gpB (p : TPart) : Bool := inB p.fGlyph 0 39 && pntB p.fMove
def anEq (s : ByteArray) (x : TAnchor) : Bool := x.fName.toList == s.toList
def anG (seen : List TAnchor) : List TAnchor → Bool
 | [] => true
 | x :: t => nameB x.fName && (pntB x.fAt && (!seen.any (anEq x.fName) && anG (seen ++ [x]) t))
theorem anG_at {xs : List TAnchor} {k : Nat} {x : TAnchor} (hx : xs[k]? = some x) : anG (xs.take k) (xs.drop k) = (nameB x.fName && (pntB x.fAt && (!(xs.take k).any (anEq x.fName) && anG (xs.take (k + 1)) (xs.drop (k + 1))))) := by
 rw [drop_at hx, anG, take_snoc_get hx]
theorem anG_end {xs : List TAnchor} {k : Nat} {o : List TAnchor} (hk : xs.length ≤ k) : anG o (xs.drop k) = true := by
 rw [List.drop_eq_nil_of_le hk]; rfl
def glB (g : TGlyph) : Bool :=
 nameB g.fName && (inB g.fCode (-1) 65535 && (inB g.fAdvance 0 262144 && (outB g.fOutline && ((decide (g.fParts.length = 0) || decide (g.fOutline.fLoops.length = 0)) && (decide (g.fParts.length ≤ 6) && (decide (g.fAnchors.length ≤ 6) && (decide (g.fHints.size ≤ 400) && (g.fParts.all gpB && anG [] g.fAnchors))))))))
def glC (x y : TGlyph) : Bool := y.fName.toList == x.fName.toList || (decide (0 ≤ x.fCode) && y.fCode == x.fCode)
def gsG (seen : List TGlyph) : List TGlyph → Bool
 | [] => true
 | x :: t => glB x && (!seen.any (glC x) && gsG (seen ++ [x]) t)
theorem gsG_at {xs : List TGlyph} {k : Nat} {x : TGlyph} (hx : xs[k]? = some x) : gsG (xs.take k) (xs.drop k) = (glB x && (!(xs.take k).any (glC x) && gsG (xs.take (k + 1)) (xs.drop (k + 1)))) := by
 rw [drop_at hx, gsG, take_snoc_get hx]
theorem gsG_end {xs : List TGlyph} {k : Nat} {o : List TGlyph} (hk : xs.length ≤ k) : gsG o (xs.drop k) = true := by
 rw [List.drop_eq_nil_of_le hk]; rfl
theorem gsG_all : ∀ {xs seen : List TGlyph}, gsG seen xs = true → ∀ g ∈ xs, glB g = true
 | [], _, _, g, hg => by simp at hg
 | x :: t, seen, h, g, hg => by
  simp only [gsG, Bool.and_eq_true] at h
  rcases List.mem_cons.1 hg with rfl | hg
  ·exact h.1
  ·exact gsG_all h.2.2 g hg
def gstp (ps : List (List Int)) (bs : List Bool) (i : Nat) : List Bool :=
 if bs.getD i false = true then bs else if (ps.getD i []).all (fun p => bs.getD p.toNat false) = true then bs.set i true else bs
def pas (ps : List (List Int)) (bs : List Bool) (k : Nat) : List Bool := (List.range k).foldl (gstp ps) bs
def gordF (ps : List (List Int)) : Nat → List Bool → List Bool
 | 0, bs => bs
 | f + 1, bs => gordF ps f (pas ps bs bs.length)
def gordB (ps : List (List Int)) : Bool := (gordF ps (ps.length + 1) (List.replicate ps.length false)).all id
def cnt (bs : List Bool) : Nat := bs.count true
theorem pas_succ (ps : List (List Int)) (bs : List Bool) (k : Nat) : pas ps bs (k + 1) = gstp ps (pas ps bs k) k := by
 rw [pas, pas, List.range_succ, List.foldl_append]; rfl
theorem stp_len (ps : List (List Int)) (bs : List Bool) (i : Nat) : (gstp ps bs i).length = bs.length := by
 unfold gstp; split
 ·rfl
 ·split
  ·simp
  ·rfl
theorem pas_len (ps : List (List Int)) (bs : List Bool) : ∀ k, (pas ps bs k).length = bs.length
 | 0 => rfl
 | k + 1 => by rw [pas_succ, stp_len, pas_len ps bs k]
theorem cnt_set {bs : List Bool} {i : Nat} (h : bs[i]? = some false) : cnt (bs.set i true) = cnt bs + 1 := by
 induction bs generalizing i with
 | nil => simp at h
 | cons b bs ih =>
  cases i with
  | zero => simp at h; subst h; simp [cnt]
  | succ i =>
   have := ih (by simpa using h)
   unfold cnt at this ⊢
   rw [List.set_cons_succ, List.count_cons, List.count_cons, this]
   omega
theorem cnt_le (bs : List Bool) : cnt bs ≤ bs.length := List.count_le_length
theorem cnt_all {bs : List Bool} (h : cnt bs = bs.length) : ∀ i, i < bs.length → bs.getD i false = true := by
 intro i hi
 have := List.count_eq_length.1 h bs[i] (List.getElem_mem hi)
 rw [List.getD_eq_getElem?_getD, List.getElem?_eq_getElem hi, Option.getD_some, ← this]
theorem all_cnt {bs : List Bool} (h : bs.all id = true) : cnt bs = bs.length := by
 refine List.count_eq_length.2 fun b hb => ?_
 exact (List.all_eq_true.1 h b hb).symm
theorem stp_cases {ps : List (List Int)} {bs : List Bool} {i : Nat} (hi : i < bs.length) : gstp ps bs i = bs ∨ (bs[i]? = some false ∧ (ps.getD i []).all (fun p => bs.getD p.toNat false) = true ∧ gstp ps bs i = bs.set i true) := by
 unfold gstp
 split
 ·exact .inl rfl
 ·rename_i h1
  split
  ·rename_i h2
   refine .inr ⟨?_, h2, rfl⟩
   rw [List.getD_eq_getElem?_getD, List.getElem?_eq_getElem hi] at h1
   rw [List.getElem?_eq_getElem hi]
   simpa using h1
  ·exact .inl rfl
theorem stp_cnt {ps : List (List Int)} {bs : List Bool} {i : Nat} (hi : i < bs.length) : cnt bs ≤ cnt (gstp ps bs i) ∧ (cnt (gstp ps bs i) = cnt bs → gstp ps bs i = bs) := by
 rcases stp_cases (ps := ps) hi with h | ⟨h1, h2, h3⟩
 ·rw [h]; exact ⟨Nat.le_refl _, fun _ => rfl⟩
 ·rw [h3, cnt_set h1]; exact ⟨by omega, fun h => by omega⟩
theorem pas_cnt (ps : List (List Int)) (bs : List Bool) : ∀ k, k ≤ bs.length → cnt bs ≤ cnt (pas ps bs k) ∧ (cnt (pas ps bs k) = cnt bs → pas ps bs k = bs)
 | 0, _ => ⟨Nat.le_refl _, fun _ => rfl⟩
 | k + 1, hk => by
  obtain ⟨h1, h2⟩ := pas_cnt ps bs k (by omega)
  obtain ⟨k1, k2⟩ := stp_cnt (ps := ps) (bs := pas ps bs k) (i := k) (by rw [pas_len]; omega)
  rw [pas_succ]
  refine ⟨by omega, fun h => ?_⟩
  rw [k2 (by omega), h2 (by omega)]
theorem gordF_fix {ps : List (List Int)} {bs : List Bool} (h : pas ps bs bs.length = bs) : ∀ f, gordF ps f bs = bs
 | 0 => rfl
 | f + 1 => by rw [gordF, h, gordF_fix h f]
theorem gordF_len (ps : List (List Int)) : ∀ f bs, (gordF ps f bs).length = bs.length
 | 0, _ => rfl
 | f + 1, bs => by rw [gordF, gordF_len ps f, pas_len]
theorem pas_all {ps : List (List Int)} {bs : List Bool} (h : cnt bs = bs.length) : pas ps bs bs.length = bs := by
 have h1 := pas_cnt ps bs bs.length (Nat.le_refl _)
 refine h1.2 ?_
 have := cnt_le (pas ps bs bs.length)
 rw [pas_len] at this
 omega
structure OrS (ps : List (List Int)) (bs : List Bool) (m : Nat) : Prop where
 len : bs.length = ps.length
 le : m ≤ cnt bs
 eq : gordF ps (ps.length + 1 - m) bs = gordF ps (ps.length + 1) (List.replicate ps.length false)
theorem OrS.start (ps : List (List Int)) : OrS ps (List.replicate ps.length false) 0 := ⟨by simp, Nat.zero_le _, by simp⟩
theorem OrS.next {ps : List (List Int)} {bs : List Bool} {m : Nat} (H : OrS ps bs m) (h : cnt (pas ps bs ps.length) ≠ cnt bs) : OrS ps (pas ps bs ps.length) (m + 1) := by
 have h1 := pas_cnt ps bs ps.length (Nat.le_of_eq H.len.symm)
 have h2 := H.le
 have h3 := cnt_le bs
 have h4 := H.len
 refine ⟨by rw [pas_len]; exact H.len, by omega, ?_⟩
 rw [← H.eq, show ps.length + 1 - m = (ps.length + 1 - (m + 1)) + 1 by omega, gordF, H.len]
theorem OrS.stop {ps : List (List Int)} {bs : List Bool} {m : Nat} (H : OrS ps bs m) (h : cnt (pas ps bs ps.length) = cnt bs) : gordB ps = decide (cnt bs = ps.length) := by
 have h1 := (pas_cnt ps bs ps.length (Nat.le_of_eq H.len.symm)).2 h
 have h2 := gordF_fix (ps := ps) (bs := bs) (by rw [H.len]; exact h1) (ps.length + 1 - m)
 unfold gordB
 rw [← H.eq, h2]
 cases hq : bs.all id with
 | true => rw [eq_comm, decide_eq_true_iff, all_cnt hq, H.len]
 | false =>
  rw [eq_comm, decide_eq_false_iff_not]
  intro he
  have := cnt_all (bs := bs) (by rw [he, H.len])
  rw [← Bool.not_eq_true] at hq
  refine hq (List.all_eq_true.2 fun b hb => ?_)
  obtain ⟨i, hi, rfl⟩ := List.getElem_of_mem hb
  have := this i hi
  rw [List.getD_eq_getElem?_getD, List.getElem?_eq_getElem hi] at this
  exact this
theorem OrS.full {ps : List (List Int)} {bs : List Bool} {m : Nat} (H : OrS ps bs m) (h : cnt bs = ps.length) : gordB ps = true := by
 have h1 := pas_all (ps := ps) (bs := bs) (by rw [h, H.len])
 rw [H.stop (by rw [H.len] at h1; rw [h1]), decide_eq_true_iff]
 exact h
theorem gord_lt {ps : List (List Int)} (h : gordB ps = true) : ∀ q ∈ ps, ∀ p ∈ q, p.toNat < ps.length := by
 have inv : ∀ (bs : List Bool), bs.length = ps.length → (∀ i, bs.getD i false = true → ∀ p ∈ ps.getD i [], p.toNat < ps.length) → ∀ k, k ≤ ps.length → ∀ i, (pas ps bs k).getD i false = true → ∀ p ∈ ps.getD i [], p.toNat < ps.length := by
  intro bs hl h0 k
  induction k with
  | zero => intro _; exact h0
  | succ k ih =>
   intro hk i hi p hp
   have ih := ih (by omega)
   rw [pas_succ] at hi
   rcases stp_cases (ps := ps) (bs := pas ps bs k) (i := k) (by rw [pas_len]; omega) with e | ⟨e1, e2, e3⟩
   ·rw [e] at hi; exact ih i hi p hp
   ·rw [e3] at hi
    by_cases hik : k = i
    ·subst hik
     have := List.all_eq_true.1 e2 p hp
     rcases Nat.lt_or_ge p.toNat ps.length with hlt | hge
     ·exact hlt
     ·rw [List.getD_eq_getElem?_getD, List.getElem?_eq_none (by rw [pas_len]; omega)] at this
      cases this
    ·refine ih i ?_ p hp
     rw [List.getD_eq_getElem?_getD, List.getElem?_set_ne hik] at hi
     rw [List.getD_eq_getElem?_getD]; exact hi
 have fin : ∀ (f : Nat) (bs : List Bool), bs.length = ps.length → (∀ i, bs.getD i false = true → ∀ p ∈ ps.getD i [], p.toNat < ps.length) → ∀ i, (gordF ps f bs).getD i false = true → ∀ p ∈ ps.getD i [], p.toNat < ps.length := by
  intro f
  induction f with
  | zero => intro bs _ h0; exact h0
  | succ f ih =>
   intro bs hl h0
   rw [gordF, hl]
   exact ih _ (by rw [pas_len]; exact hl) (inv bs hl h0 _ (Nat.le_refl _))
 have h0 := fin (ps.length + 1) (List.replicate ps.length false) (by simp) (fun i hi => by
  rw [List.getD_eq_getElem?_getD, List.getElem?_replicate] at hi
  split at hi <;> cases hi)
 intro q hq p hp
 obtain ⟨i, hi, rfl⟩ := List.getElem_of_mem hq
 have hl := gordF_len ps (ps.length + 1) (List.replicate ps.length false)
 rw [List.length_replicate] at hl
 refine h0 i (cnt_all (all_cnt h) i (by omega)) p ?_
 rw [List.getD_eq_getElem?_getD, List.getElem?_eq_getElem hi]; exact hp
def psG (gs : List TGlyph) : List (List Int) := gs.map fun g => g.fParts.map (·.fGlyph)
theorem psG_len (gs : List TGlyph) : (psG gs).length = gs.length := List.length_map _
theorem psG_at {gs : List TGlyph} {i : Nat} {x : TGlyph} (h : gs[i]? = some x) : (psG gs).getD i [] = x.fParts.map (·.fGlyph) := by
 rw [List.getD_eq_getElem?_getD, psG, List.getElem?_map, h]; rfl
theorem cnt_rep (n : Nat) : cnt (List.replicate n false) = 0 := by
 rw [cnt, List.count_eq_zero]; simp
structure DpS (ps : List (List Int)) (bs : List Bool) (ds : List Int) : Prop where
 dl : ds.length = ps.length
 bl : bs.length = ps.length
 iff : ∀ i, i < ps.length → (bs.getD i false = true ↔ 0 ≤ ds.getD i (-1))
 le : ∀ i, ds.getD i (-1) ≤ cnt bs
theorem DpS.start {ps : List (List Int)} {ds : List Int} (h : ds.length = ps.length) (h1 : ∀ i, i < ps.length → ds.getD i (-1) = -1) : DpS ps (List.replicate ps.length false) ds := by
 refine ⟨h, by simp, fun i hi => ?_, fun i => ?_⟩
 ·rw [h1 i hi, List.getD_eq_getElem?_getD, List.getElem?_replicate, if_pos hi]
  simp
 ·rw [cnt_rep]
  rcases Nat.lt_or_ge i ps.length with hi | hi
  ·rw [h1 i hi]; omega
  ·rw [List.getD_eq_getElem?_getD, List.getElem?_eq_none (by omega)]; simp
theorem DpS.put {ps : List (List Int)} {bs : List Bool} {ds : List Int} (H : DpS ps bs ds) {i : Nat} {d : Int} (hb : bs[i]? = some false) (h0 : 0 ≤ d) (h1 : d ≤ cnt bs + 1) : DpS ps (bs.set i true) (ds.set i d) := by
 have hi := (List.getElem?_eq_some_iff.1 hb).1
 have e1 := H.bl
 have e2 := H.dl
 refine ⟨by rw [List.length_set]; exact H.dl, by rw [List.length_set]; exact H.bl, fun j hj => ?_, fun j => ?_⟩
 ·by_cases e : i = j
  ·subst e
   rw [List.getD_eq_getElem?_getD, List.getD_eq_getElem?_getD, List.getElem?_set_self hi, List.getElem?_set_self (by omega)]
   simp [h0]
  ·have := H.iff j hj
   rw [List.getD_eq_getElem?_getD, List.getD_eq_getElem?_getD] at this ⊢
   rw [List.getElem?_set_ne e, List.getElem?_set_ne e]
   exact this
 ·rw [cnt_set hb]
  have h2 := H.le j
  by_cases e : i = j
  ·subst e
   rw [List.getD_eq_getElem?_getD, List.getElem?_set_self (by omega)]
   simp only [Option.getD_some]; omega
  ·rw [List.getD_eq_getElem?_getD] at h2 ⊢
   rw [List.getElem?_set_ne e]; omega
def gsB (s : TGlyphSet) : Bool := inB s.fUnit 16 16384 && (decide (s.fGlyphs.length ≤ 40) && (gsG [] s.fGlyphs && gordB (psG s.fGlyphs)))
end Go.Proofs.YtpdeibhedafcfaaGreatDoor