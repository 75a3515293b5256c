/- merged: several parts in one text. Leans on no more than they do. -/
import Derived.Test.YtaldaoagjbapkaaGreatDoorTT
import Derived.Test.YtaldaoagjbapkaaGreatDoorVM5
import Derived.Test.YtaldaoagjbapkaaGreatDoorVMLib
import Derived.Test.YtaldaoagjbapkaaGreatDoorTypes
import Derived.Test.YtaldaoagjbapkaaGreatDoorRows
set_option linter.unusedSimpArgs false
set_option linter.unusedVariables false
namespace Go.Proofs.YtaldaoagjbapkaaGreatDoor
open Go.RowKit
theorem l00In_v (n lo hi : Int) : PC Tryz.prog 125 [.d (.int .i64 n), .d (.int .i64 lo), .d (.int .i64 hi)] (.d (.bool (inB n lo hi))) [] := by
  refine pc_intro ttOk (by kernel_rfl) Tryz.func125 rfl (by kernel_rfl) (by kernel_rfl) (by kernel_rfl) (fun hw => ?_)
  (conv => whnf)
  (repeat' (first | (refine stg_ ?_) | (split <;> (conv => whnf))))
  (all_goals ((refine RetOK.d rfl rfl ?_; conv => whnf); (simp_all [inB]); (try omega)))
theorem l29Normal_v (n : Int) : PC Tryz.prog 173 [.d (.int .i64 n)] (.d (.bool (nrm n))) [] := by
  refine pc_intro ttOk (by kernel_rfl) Tryz.func173 rfl (by kernel_rfl) (by kernel_rfl) (by kernel_rfl) (fun hw => ?_)
  (conv => whnf)
  (refine cl_ (l00In_v n _ _) ?_)
  (refine RetOK.d rfl rfl ?_; conv => whnf)
  rfl
theorem isNormal_v (n : Int) : PC Tryz.prog 114 [.d (.int .i64 n)] (.d (.bool (nrm n))) [] := by
  refine pc_intro ttOk (by kernel_rfl) Tryz.func114 rfl (by kernel_rfl) (by kernel_rfl) (by kernel_rfl) (fun hw => ?_)
  (conv => whnf)
  (repeat' (first | (refine stg_ ?_) | (split <;> (conv => whnf))))
  (all_goals ((refine RetOK.d rfl rfl ?_; conv => whnf); (simp_all [nrm]); (try omega)))
theorem isSmall_v (c : UInt8) : PC Tryz.prog 187 [.d (.int .u8 c.toNat)] (.d (.bool (smB c))) [] := by
  refine pc_intro ttOk (by kernel_rfl) Tryz.func187 rfl (by kernel_rfl) (by kernel_rfl) (by kernel_rfl) (fun hw => ?_)
  (conv => whnf)
  (repeat' (first | (refine stg_ ?_) | (split <;> (conv => whnf))))
  (all_goals ((refine RetOK.d rfl rfl ?_; conv => whnf); (simp_all [smB]); (try omega)))
theorem isDigit_v (c : UInt8) : PC Tryz.prog 180 [.d (.int .u8 c.toNat)] (.d (.bool (dgB c))) [] := by
  refine pc_intro ttOk (by kernel_rfl) Tryz.func180 rfl (by kernel_rfl) (by kernel_rfl) (by kernel_rfl) (fun hw => ?_)
  (conv => whnf)
  (repeat' (first | (refine stg_ ?_) | (split <;> (conv => whnf))))
  (all_goals ((refine RetOK.d rfl rfl ?_; conv => whnf); (simp_all [dgB]); (try omega)))
theorem l01Small_v (c : UInt8) : PC Tryz.prog 172 [.d (.int .u8 c.toNat)] (.d (.bool (smB c))) [] := by
  refine pc_intro ttOk (by kernel_rfl) Tryz.func172 rfl (by kernel_rfl) (by kernel_rfl) (by kernel_rfl) (fun hw => ?_)
  (conv => whnf)
  (repeat' (first | (refine stg_ ?_) | (split <;> (conv => whnf))))
  (all_goals ((refine RetOK.d rfl rfl ?_; conv => whnf); (simp_all [smB]); (try omega)))
theorem l01Digit_v (c : UInt8) : PC Tryz.prog 123 [.d (.int .u8 c.toNat)] (.d (.bool (dgB c))) [] := by
  refine pc_intro ttOk (by kernel_rfl) Tryz.func123 rfl (by kernel_rfl) (by kernel_rfl) (by kernel_rfl) (fun hw => ?_)
  (conv => whnf)
  (repeat' (first | (refine stg_ ?_) | (split <;> (conv => whnf))))
  (all_goals ((refine RetOK.d rfl rfl ?_; conv => whnf); (simp_all [dgB]); (try omega)))
theorem IsName_v (s : ByteArray) : PC Tryz.prog 152 [.d (.str s)] (.d (.bool (nameB s))) [] := by
  refine pc_intro ttOk (by kernel_rfl) Tryz.func152 rfl (by kernel_rfl) (by kernel_rfl) (by kernel_rfl) (fun hw => ?_)
  have hs : s.size ≤ 9223372036854775807 := hw.1
  by_cases h0 : 0 < s.size
  · have HN := nameB_cons h0
    have hc := bget? h0
    (conv => whnf)
    (split <;> rename_i h1 <;> simp only [decide_eq_true_eq, decide_eq_false_iff_not, Bool.not_eq_true', Bool.not_eq_false', bne_iff_ne, ne_eq, beq_iff_eq, bne_eq_false_iff_eq, beq_eq_false_iff_ne, Decidable.not_not, Nat.not_lt, Nat.not_le, Int.not_lt, Int.not_le, Bool.and_eq_true, Bool.and_eq_false_iff, Bool.or_eq_true, Bool.or_eq_false_iff] at h1 <;> (conv => whnf) <;> (repeat (refine stg_ ?_)))
    · exfalso; omega
    · (split <;> rename_i h2 <;> simp only [decide_eq_true_eq, decide_eq_false_iff_not, Bool.not_eq_true', Bool.not_eq_false', bne_iff_ne, ne_eq, beq_iff_eq, bne_eq_false_iff_eq, beq_eq_false_iff_ne, Decidable.not_not, Nat.not_lt, Nat.not_le, Int.not_lt, Int.not_le, Bool.and_eq_true, Bool.and_eq_false_iff, Bool.or_eq_true, Bool.or_eq_false_iff] at h2 <;> (conv => whnf) <;> (repeat (refine stg_ ?_)))
      · (refine RetOK.d rfl rfl ?_; conv => whnf)
        rw [HN, decide_eq_false (by omega)]; rfl
      · (refine cl_ (isSmall_v _) ?_)
        rw [decide_eq_true (by omega), Bool.true_and] at HN
        (split <;> rename_i h3 <;> simp only [decide_eq_true_eq, decide_eq_false_iff_not, Bool.not_eq_true', Bool.not_eq_false', bne_iff_ne, ne_eq, beq_iff_eq, bne_eq_false_iff_eq, beq_eq_false_iff_ne, Decidable.not_not, Nat.not_lt, Nat.not_le, Int.not_lt, Int.not_le, Bool.and_eq_true, Bool.and_eq_false_iff, Bool.or_eq_true, Bool.or_eq_false_iff] at h3 <;> (conv => whnf) <;> (repeat (refine stg_ ?_)))
        · (refine RetOK.d rfl rfl ?_; conv => whnf)
          rw [HN, h3]; rfl
        · rw [h3, Bool.true_and] at HN
          refine LoopW.go (α := Nat) (fun k => [(0, .d (.str s)), (3, .d (.int .i64 k))]) (fun _ => [.gone]) (fun k => 1 ≤ k ∧ k ≤ s.size ∧ nameB s = (s.data.toList.drop k).all nmC) (fun k => s.size - k) 1 (Weak.cov ⟨rfl, rfl, trivial⟩ ⟨trivial, trivial⟩ rfl) ⟨by omega, by omega, HN⟩ (fun k hk => ?_)
          obtain ⟨hk1, hk2, hk3⟩ := hk
          (conv => whnf)
          clear hc
          (split <;> rename_i h4 <;> simp only [decide_eq_true_eq, decide_eq_false_iff_not, Bool.not_eq_true', Bool.not_eq_false', bne_iff_ne, ne_eq, beq_iff_eq, bne_eq_false_iff_eq, beq_eq_false_iff_ne, Decidable.not_not, Nat.not_lt, Nat.not_le, Int.not_lt, Int.not_le, Bool.and_eq_true, Bool.and_eq_false_iff, Bool.or_eq_true, Bool.or_eq_false_iff] at h4 <;> (conv => whnf) <;> (repeat (refine stg_ ?_)))
          · have h4' : k < s.size := by omega
            have hc := bget? h4'
            rw [dropN h4', List.all_cons] at hk3
            (repeat (refine stg_ ?_))
            (refine cl_ (isSmall_v _) ?_)
            (repeat' (first | (refine stg_ ?_) | ((refine cl_ (isDigit_v _) ?_)) | (split <;> (conv => whnf)))); all_goals (first | (exfalso; simp_all; done) | (refine NextW.go (k + 1) (Weak.cov ⟨rfl, rfl, trivial⟩ ⟨trivial, trivial⟩ rfl) ⟨by omega, by omega, ?_⟩ (by omega); rw [hk3, Bool.and_eq_right_iff_imp]; intro _; simp_all [nmC]; done) | ((refine RetOK.d rfl rfl ?_; conv => whnf); rw [hk3]; simp_all [nmC]; done) | skip)
          · (refine RetOK.d rfl rfl ?_; conv => whnf)
            rw [hk3, List.drop_eq_nil_of_le (by show s.size ≤ k; omega)]; rfl
  · have HN := nameB_nil (s := s) (by omega)
    (conv => whnf)
    (split <;> rename_i h1 <;> simp only [decide_eq_true_eq, decide_eq_false_iff_not, Bool.not_eq_true', Bool.not_eq_false', bne_iff_ne, ne_eq, beq_iff_eq, bne_eq_false_iff_eq, beq_eq_false_iff_ne, Decidable.not_not, Nat.not_lt, Nat.not_le, Int.not_lt, Int.not_le, Bool.and_eq_true, Bool.and_eq_false_iff, Bool.or_eq_true, Bool.or_eq_false_iff] at h1 <;> (conv => whnf) <;> (repeat (refine stg_ ?_)))
    · (refine RetOK.d rfl rfl ?_; conv => whnf)
      rw [HN]
    · exfalso; omega
theorem specIsName_v (s : ByteArray) : PC Tryz.prog 124 [.d (.str s)] (.d (.bool (nameB s))) [] := by
  refine pc_intro ttOk (by kernel_rfl) Tryz.func124 rfl (by kernel_rfl) (by kernel_rfl) (by kernel_rfl) (fun hw => ?_)
  have hs : s.size ≤ 9223372036854775807 := hw.1
  by_cases h0 : 0 < s.size
  · have HN := nameB_cons h0
    have hc := bget? h0
    (conv => whnf)
    (split <;> rename_i h1 <;> simp only [decide_eq_true_eq, decide_eq_false_iff_not, Bool.not_eq_true', Bool.not_eq_false', bne_iff_ne, ne_eq, beq_iff_eq, bne_eq_false_iff_eq, beq_eq_false_iff_ne, Decidable.not_not, Nat.not_lt, Nat.not_le, Int.not_lt, Int.not_le, Bool.and_eq_true, Bool.and_eq_false_iff, Bool.or_eq_true, Bool.or_eq_false_iff] at h1 <;> (conv => whnf) <;> (repeat (refine stg_ ?_)))
    · exfalso; rw [toL_inj h1] at h0; exact absurd h0 (by decide)
    · (split <;> rename_i h2 <;> simp only [decide_eq_true_eq, decide_eq_false_iff_not, Bool.not_eq_true', Bool.not_eq_false', bne_iff_ne, ne_eq, beq_iff_eq, bne_eq_false_iff_eq, beq_eq_false_iff_ne, Decidable.not_not, Nat.not_lt, Nat.not_le, Int.not_lt, Int.not_le, Bool.and_eq_true, Bool.and_eq_false_iff, Bool.or_eq_true, Bool.or_eq_false_iff] at h2 <;> (conv => whnf) <;> (repeat (refine stg_ ?_)))
      · (refine RetOK.d rfl rfl ?_; conv => whnf)
        rw [HN, decide_eq_false (by omega)]; rfl
      · (refine cl_ (l01Small_v _) ?_)
        rw [decide_eq_true (by omega), Bool.true_and] at HN
        (split <;> rename_i h3 <;> simp only [decide_eq_true_eq, decide_eq_false_iff_not, Bool.not_eq_true', Bool.not_eq_false', bne_iff_ne, ne_eq, beq_iff_eq, bne_eq_false_iff_eq, beq_eq_false_iff_ne, Decidable.not_not, Nat.not_lt, Nat.not_le, Int.not_lt, Int.not_le, Bool.and_eq_true, Bool.and_eq_false_iff, Bool.or_eq_true, Bool.or_eq_false_iff] at h3 <;> (conv => whnf) <;> (repeat (refine stg_ ?_)))
        · (refine RetOK.d rfl rfl ?_; conv => whnf)
          rw [HN, h3]; rfl
        · rw [h3, Bool.true_and] at HN
          refine LoopW.go (α := Nat) (fun k => [(0, .d (.str s)), (3, .d (.int .i64 k))]) (fun _ => [.gone]) (fun k => 0 ≤ k ∧ k ≤ s.size ∧ nameB s = (s.data.toList.drop k).all nmC) (fun k => s.size - k) 0 (Weak.cov ⟨rfl, rfl, trivial⟩ ⟨trivial, trivial⟩ rfl) ⟨by omega, by omega, by rw [HN, dropN h0, List.all_cons, smB_nmC h3, Bool.true_and]⟩ (fun k hk => ?_)
          obtain ⟨hk1, hk2, hk3⟩ := hk
          (conv => whnf)
          clear hc
          (split <;> rename_i h4 <;> simp only [decide_eq_true_eq, decide_eq_false_iff_not, Bool.not_eq_true', Bool.not_eq_false', bne_iff_ne, ne_eq, beq_iff_eq, bne_eq_false_iff_eq, beq_eq_false_iff_ne, Decidable.not_not, Nat.not_lt, Nat.not_le, Int.not_lt, Int.not_le, Bool.and_eq_true, Bool.and_eq_false_iff, Bool.or_eq_true, Bool.or_eq_false_iff] at h4 <;> (conv => whnf) <;> (repeat (refine stg_ ?_)))
          · have h4' : k < s.size := by omega
            have hc := bget? h4'
            rw [dropN h4', List.all_cons] at hk3
            (repeat (refine stg_ ?_))
            (refine cl_ (l01Small_v _) ?_)
            (repeat' (first | (refine stg_ ?_) | ((refine cl_ (l01Digit_v _) ?_)) | (split <;> (conv => whnf)))); all_goals (first | (exfalso; simp_all; done) | (refine NextW.go (k + 1) (Weak.cov ⟨rfl, rfl, trivial⟩ ⟨trivial, trivial⟩ rfl) ⟨by omega, by omega, ?_⟩ (by omega); rw [hk3, Bool.and_eq_right_iff_imp]; intro _; simp_all [nmC]; done) | ((refine RetOK.d rfl rfl ?_; conv => whnf); rw [hk3]; simp_all [nmC]; done) | skip)
          · (refine RetOK.d rfl rfl ?_; conv => whnf)
            rw [hk3, List.drop_eq_nil_of_le (by show s.size ≤ k; omega)]; rfl
  · have HN := nameB_nil (s := s) (by omega)
    (conv => whnf)
    (split <;> rename_i h1 <;> simp only [decide_eq_true_eq, decide_eq_false_iff_not, Bool.not_eq_true', Bool.not_eq_false', bne_iff_ne, ne_eq, beq_iff_eq, bne_eq_false_iff_eq, beq_eq_false_iff_ne, Decidable.not_not, Nat.not_lt, Nat.not_le, Int.not_lt, Int.not_le, Bool.and_eq_true, Bool.and_eq_false_iff, Bool.or_eq_true, Bool.or_eq_false_iff] at h1 <;> (conv => whnf) <;> (repeat (refine stg_ ?_)))
    · (refine RetOK.d rfl rfl ?_; conv => whnf)
      rw [HN]
    · exfalso; exact h1 (congrArg ByteArray.toList (ByteArray.ext (Array.eq_empty_of_size_eq_zero (by show s.size = 0; omega))))
section
variable {α : Type}
def fdx (p : α → Bool) : List α → Nat → Int
  | [], _ => -1
  | x :: t, k => if p x = true then (k : Int) else fdx p t (k + 1)
theorem fdx_at {p : α → Bool} {xs : List α} {k : Nat} {x : α} (hx : xs[k]? = some x) : fdx p (xs.drop k) k = if p x = true then (k : Int) else fdx p (xs.drop (k + 1)) (k + 1) := by
  rw [drop_at hx, fdx]
theorem fdx_end {p : α → Bool} {xs : List α} {k : Nat} (hx : xs.length ≤ k) : fdx p (xs.drop k) k = -1 := by
  rw [List.drop_eq_nil_of_le hx, fdx]
theorem fdx_any (p : α → Bool) : ∀ (xs : List α) (k : Nat), decide (0 ≤ fdx p xs k) = xs.any p
  | [], _ => rfl
  | x :: t, k => by
    rw [List.any_cons, fdx]
    by_cases h : p x = true
    · rw [if_pos h, h]; simp
    · rw [if_neg h, fdx_any p t (k + 1)]; simp [h]
theorem any_snoc {p : α → Bool} {xs : List α} {j : Nat} {y : α} (hy : xs[j]? = some y) : (xs.take (j + 1)).any p = ((xs.take j).any p || p y) := by
  rw [take_snoc_get hy, List.any_append]; simp
theorem any_take {p : α → Bool} {xs : List α} {j k : Nat} {y : α} (hy : xs[j]? = some y) (hjk : j < k) (hp : p y = true) : (xs.take k).any p = true := by
  rw [List.any_eq_true]
  refine ⟨y, ?_, hp⟩
  apply List.mem_of_getElem? (i := j)
  rw [List.getElem?_take, if_pos hjk, hy]
theorem set_drop {l : List α} {k : Nat} {x : α} (h : k < l.length) : (l.set k x).drop k = x :: l.drop (k + 1) := by
  have e : (l.set k x)[k]? = some x := by simp [h]
  rw [drop_at e, List.drop_set_of_lt (by omega)]
end
def mkS (l : List UInt8) : ByteArray := ⟨l.toArray⟩
theorem mkS_toList (l : List UInt8) : (mkS l).data.toList = l := by simp [mkS]
theorem mkS_size (l : List UInt8) : (mkS l).size = l.length := by simp [mkS, ByteArray.size]
theorem mkS_of (s : ByteArray) : mkS s.data.toList = s := by
  apply ByteArray.ext
  simp [mkS]
theorem mkS_app (a b : List UInt8) : mkS a ++ mkS b = mkS (a ++ b) := by
  apply ByteArray.ext
  simp [mkS]
def dgC (d : Nat) : UInt8 := UInt8.ofNat (48 + d)
def decL (u : Nat) : List UInt8 := if u < 10 then [dgC u] else decL (u / 10) ++ [dgC (u % 10)]
termination_by u
theorem decL_lo {u : Nat} (h : u < 10) : decL u = [dgC u] := by rw [decL, if_pos h]
theorem decL_hi {u : Nat} (h : ¬ u < 10) : decL u = decL (u / 10) ++ [dgC (u % 10)] := by rw [decL, if_neg h]
theorem decL_pos (u : Nat) : 0 < (decL u).length := by
  rw [decL]; split <;> simp
theorem decL_len : ∀ (k u : Nat), u < 10 ^ (k + 1) → (decL u).length ≤ k + 1
  | 0, u, h => by rw [decL_lo (by simpa using h)]; simp
  | k + 1, u, h => by
    by_cases h1 : u < 10
    · rw [decL_lo h1]; simp
    · rw [decL_hi h1]
      have := decL_len k (u / 10) (by rw [Nat.div_lt_iff_lt_mul (by omega)]; rw [Nat.pow_succ] at h; exact h)
      simp; omega
def decS (n : Int) : List UInt8 := (if n < 0 then [45] else []) ++ decL n.natAbs
def decB (n : Int) : ByteArray := mkS (decS n)
theorem dgC_toNat {d : Nat} (h : d < 10) : (dgC d).toNat = 48 + d := by simp [dgC]; omega
theorem decB_size (n : Int) (h : n.natAbs < 10 ^ 20) : (decB n).size ≤ 21 := by
  rw [decB, mkS_size, decS, List.length_append]
  have := decL_len 19 n.natAbs h
  split <;> simp <;> omega
theorem natAbs_bnd {n : Int} (h1 : -9223372036854775808 ≤ n) (h2 : n ≤ 9223372036854775807) : n.natAbs < 10 ^ 20 := by omega
set_option maxHeartbeats 1000000 in
theorem Decimal_v (n : Int) : PC Tryz.prog 41 [.d (.int .i64 n)] (.d (.str (decB n))) [] := by
  refine pc_intro ttOk (by kernel_rfl) Tryz.func41 rfl (by kernel_rfl) (by kernel_rfl) (by kernel_rfl) (fun hw => ?_)
  have hn : -9223372036854775808 ≤ n ∧ n ≤ 9223372036854775807 := hw.1
  by_cases hn0 : n < 0
  · (conv => whnf)
    refine ⟨n + 18446744073709551616, by simp only [IntKind.wrap, IntKind.bits, IntKind.signed, Bool.false_and, Bool.false_eq_true, if_false, Int.reducePow]; omega, ?_⟩
    (conv => whnf)
    (refine br_ (fun h1 => ?_) (fun h1 => ?_) <;> (repeat (refine stg_ ?_)))
    · refine ⟨(n.natAbs : Int), by simp only [IntKind.wrap, IntKind.bits, IntKind.signed, Bool.false_and, Bool.false_eq_true, if_false, Int.reducePow]; omega, ?_⟩
      (conv => whnf)
      refine LoopW.go (α := Nat × Nat × List UInt8) (fun p => [(0, .d (.int .i64 n)), (3, .pL 1 0 [] 0), (4, .d (.int .i64 (p.1 : Nat))), (5, .d (.int .u64 (p.2.1 : Nat)))]) (fun p => [.gone, .arr 1 (p.2.2.map bD) true]) (fun p => p.1 ≤ 20 ∧ p.2.2.length = 20 ∧ decL n.natAbs = decL p.2.1 ++ p.2.2.drop p.1 ∧ p.2.1 < 10 ^ (p.1 - 1) ∧ 1 < p.1 ∧ p.2.1 ≤ n.natAbs) (fun p => p.1) (20, n.natAbs, List.replicate 20 0) covT_ ⟨by omega, rfl, by rw [List.drop_eq_nil_of_le (by simp)]; simp, by simp only; omega, by show 1 < 20; decide, Nat.le_refl _⟩ ?_; rintro ⟨at', u, bs⟩ ⟨k1, k2, k3, k4, k5, k6⟩; dsimp only at k1 k2 k3 k4 k5 k6 ⊢
      (have hu : u ≤ 18446744073709551615 := by omega); (have ht : (u : Int).tmod 10 = ((u % 10 : Nat) : Int) := by rw [Int.tmod_eq_emod_of_nonneg (by omega)]; rfl); (have hd : (u : Int).tdiv 10 = ((u / 10 : Nat) : Int) := by rw [Int.tdiv_eq_ediv_of_nonneg (by omega)]; rfl); (obtain ⟨c0, hc0⟩ := at_lt' (xs := bs) (k := at' - 1) (by omega)); (have he : (bs.map bD)[at' - 1]? = some (bD c0) := by rw [List.getElem?_map, hc0]; rfl)
      (conv => whnf)
      (refine ArW.i64e ((at' - 1 : Nat) : Int) (by omega) (by omega) ?_; (conv => whnf); (refine stg_ ?_); rw [ht]; (refine stg_ ?_); refine ArW.u8e ((dgC (u % 10)).toNat : Int) (by rw [dgC_toNat (by omega)]; omega) (by have := (dgC (u % 10)).toNat_lt; omega) ?_; (conv => whnf); (repeat (refine stg_ ?_)); rw [hd])
      have hs := set_drop (l := bs) (k := at' - 1) (x := dgC (u % 10)) (by omega)
      rw [show at' - 1 + 1 = at' by omega] at hs
      have hm : (bs.set (at' - 1) (dgC (u % 10))).map bD = (bs.map bD).set (at' - 1) (bD (dgC (u % 10))) := List.map_set
      (refine br_ (fun h2 => ?_) (fun h2 => ?_) <;> (repeat (refine stg_ ?_)))
      · (conv => whnf)
        have hu0 : u < 10 := by omega
        obtain ⟨c1, hc1⟩ := at_lt' (xs := bs.set (at' - 1) (dgC (u % 10))) (k := at' - 1 - 1) (by simp only [List.length_set]; omega)
        have he1 : ((bs.map bD).set (at' - 1) (bD (dgC (u % 10))))[at' - 1 - 1]? = some (bD c1) := by rw [← hm, List.getElem?_map, hc1]; rfl
        (refine br_ (fun h3 => ?_) (fun h3 => ?_))
        · refine ArW.i64e ((at' - 1 - 1 : Nat) : Int) (by omega) (by omega) ?_
          (conv => whnf)
          (repeat (refine stg_ ?_))
          refine EqW.at (by simp only [List.length_set, List.length_map]; exact k2) ?_
          (conv => whnf)
          (repeat (refine stg_ ?_))
          refine StW.at (s := decB n) ?_ ?_
          · show List.take (20 - (at' - 1 - 1)) (List.drop (at' - 1 - 1) (((bs.map bD).set (at' - 1) (bD (dgC (u % 10)))).set (at' - 1 - 1) (bD 45))) = _
            rw [← hm, ← List.map_set, ← List.map_drop, set_drop (by simp only [List.length_set]; omega), show at' - 1 - 1 + 1 = at' - 1 by omega, hs, List.take_of_length_le (by simp; omega), decB, mkS_toList, decS, if_pos hn0, k3, decL_lo hu0, Nat.mod_eq_of_lt hu0]
            rfl
          · (conv => whnf)
            (refine RetOK.d rfl rfl ?_; conv => whnf)
        · exfalso; omega
      · (refine NextW.go (at' - 1, u / 10, bs.set (at' - 1) (dgC (u % 10))) (Weak.cov ⟨rfl, rfl, rfl, rfl, trivial⟩ ⟨trivial, by rw [hm]; rfl, trivial⟩ rfl) ⟨by simp only; omega, by simp only [List.length_set]; omega, ?_, ?_, ?_, by show u / 10 ≤ n.natAbs; omega⟩ (by show at' - 1 < at'; omega); (focus (show decL n.natAbs = decL (u / 10) ++ (bs.set (at' - 1) (dgC (u % 10))).drop (at' - 1); rw [hs, k3, decL_hi (by omega)]; simp)); (focus (show u / 10 < 10 ^ (at' - 1 - 1); rw [Nat.div_lt_iff_lt_mul (by omega), ← Nat.pow_succ]; rwa [show (at' - 1 - 1).succ = at' - 1 by omega])); (focus (show 1 < at' - 1; rcases Nat.lt_or_ge 1 (at' - 1) with h | h; (focus exact h); exfalso; (have e : at' - 1 = 1 := by omega); (rw [e] at k4); (have : u < 10 := by simpa using k4); omega)))
    · exfalso; omega
  · (conv => whnf)
    refine ⟨(n.natAbs : Int), by simp only [IntKind.wrap, IntKind.bits, IntKind.signed, Bool.false_and, Bool.false_eq_true, if_false, Int.reducePow]; omega, ?_⟩
    (conv => whnf)
    (refine br_ (fun h1 => ?_) (fun h1 => ?_))
    · exfalso; omega
    · refine LoopW.go (α := Nat × Nat × List UInt8) (fun p => [(0, .d (.int .i64 n)), (3, .pL 1 0 [] 0), (4, .d (.int .i64 (p.1 : Nat))), (5, .d (.int .u64 (p.2.1 : Nat)))]) (fun p => [.gone, .arr 1 (p.2.2.map bD) true]) (fun p => p.1 ≤ 20 ∧ p.2.2.length = 20 ∧ decL n.natAbs = decL p.2.1 ++ p.2.2.drop p.1 ∧ p.2.1 < 10 ^ (p.1 - 0) ∧ 0 < p.1 ∧ p.2.1 ≤ n.natAbs) (fun p => p.1) (20, n.natAbs, List.replicate 20 0) covT_ ⟨by omega, rfl, by rw [List.drop_eq_nil_of_le (by simp)]; simp, by simp only; omega, by show 0 < 20; decide, Nat.le_refl _⟩ ?_; rintro ⟨at', u, bs⟩ ⟨k1, k2, k3, k4, k5, k6⟩; dsimp only at k1 k2 k3 k4 k5 k6 ⊢
      (have hu : u ≤ 18446744073709551615 := by omega); (have ht : (u : Int).tmod 10 = ((u % 10 : Nat) : Int) := by rw [Int.tmod_eq_emod_of_nonneg (by omega)]; rfl); (have hd : (u : Int).tdiv 10 = ((u / 10 : Nat) : Int) := by rw [Int.tdiv_eq_ediv_of_nonneg (by omega)]; rfl); (obtain ⟨c0, hc0⟩ := at_lt' (xs := bs) (k := at' - 1) (by omega)); (have he : (bs.map bD)[at' - 1]? = some (bD c0) := by rw [List.getElem?_map, hc0]; rfl)
      (conv => whnf)
      (refine ArW.i64e ((at' - 1 : Nat) : Int) (by omega) (by omega) ?_; (conv => whnf); (refine stg_ ?_); rw [ht]; (refine stg_ ?_); refine ArW.u8e ((dgC (u % 10)).toNat : Int) (by rw [dgC_toNat (by omega)]; omega) (by have := (dgC (u % 10)).toNat_lt; omega) ?_; (conv => whnf); (repeat (refine stg_ ?_)); rw [hd])
      have hs := set_drop (l := bs) (k := at' - 1) (x := dgC (u % 10)) (by omega)
      rw [show at' - 1 + 1 = at' by omega] at hs
      have hm : (bs.set (at' - 1) (dgC (u % 10))).map bD = (bs.map bD).set (at' - 1) (bD (dgC (u % 10))) := List.map_set
      (refine br_ (fun h2 => ?_) (fun h2 => ?_) <;> (repeat (refine stg_ ?_)))
      · (conv => whnf)
        have hu0 : u < 10 := by omega
        (refine br_ (fun h3 => ?_) (fun h3 => ?_))
        · exfalso; omega
        · refine EqW.at (by simp only [List.length_set, List.length_map]; exact k2) ?_
          (conv => whnf)
          (repeat (refine stg_ ?_))
          refine StW.at (s := decB n) ?_ ?_
          · show List.take (20 - (at' - 1)) (List.drop (at' - 1) ((bs.map bD).set (at' - 1) (bD (dgC (u % 10))))) = _
            rw [← hm, ← List.map_drop, hs, List.take_of_length_le (by simp; omega), decB, mkS_toList, decS, if_neg hn0, k3, decL_lo hu0, Nat.mod_eq_of_lt hu0]
            rfl
          · (conv => whnf)
            (refine RetOK.d rfl rfl ?_; conv => whnf)
      · (refine NextW.go (at' - 1, u / 10, bs.set (at' - 1) (dgC (u % 10))) (Weak.cov ⟨rfl, rfl, rfl, rfl, trivial⟩ ⟨trivial, by rw [hm]; rfl, trivial⟩ rfl) ⟨by simp only; omega, by simp only [List.length_set]; omega, ?_, ?_, ?_, by show u / 10 ≤ n.natAbs; omega⟩ (by show at' - 1 < at'; omega); (focus (show decL n.natAbs = decL (u / 10) ++ (bs.set (at' - 1) (dgC (u % 10))).drop (at' - 1); rw [hs, k3, decL_hi (by omega)]; simp)); (focus (show u / 10 < 10 ^ (at' - 1 - 0); rw [Nat.div_lt_iff_lt_mul (by omega), ← Nat.pow_succ]; rwa [show (at' - 1 - 0).succ = at' - 0 by omega])); (focus (show 0 < at' - 1; rcases Nat.lt_or_ge 0 (at' - 1) with h | h; (focus exact h); exfalso; (have e : at' - 0 = 1 := by omega); (rw [e] at k4); (have : u < 10 := by simpa using k4); omega)))
theorem decS_pre {n k : Int} {L : List UInt8} (h : (if k = 0 then [] else decL k.natAbs) ++ L = (if n = 0 then [] else decL n.natAbs)) (hk : k ≠ 0) : (if k.tdiv 10 = 0 then [] else decL (k.tdiv 10).natAbs) ++ (dgC (k.natAbs % 10) :: L) = (if n = 0 then [] else decL n.natAbs) := by
  rw [← h, if_neg hk]
  have e : (k.tdiv 10).natAbs = k.natAbs / 10 := by rw [Int.natAbs_tdiv]; rfl
  by_cases h1 : k.natAbs < 10
  · rw [decL_lo h1, if_pos (by omega), Nat.mod_eq_of_lt h1]; rfl
  · rw [decL_hi h1, if_neg (by omega), e]; simp
set_option maxHeartbeats 1000000 in
theorem l01Dec_v (n : Int) : PC Tryz.prog 68 [.d (.int .i64 n)] (.d (.str (decB n))) [] := by
  refine pc_intro ttOk (by kernel_rfl) Tryz.func68 rfl (by kernel_rfl) (by kernel_rfl) (by kernel_rfl) (fun hw => ?_)
  have hn : -9223372036854775808 ≤ n ∧ n ≤ 9223372036854775807 := hw.1
  have hlen : (if n = 0 then [] else decL n.natAbs).length ≤ 20 := by
    split
    · simp
    · exact decL_len 19 _ (by omega)
  (conv => whnf)
  refine LoopW.go (α := Int × List UInt8) (fun p => [(0, .d (.int .i64 n)), (3, .own 1 0 p.2.length), (4, .d (.int .i64 p.1))]) (fun p => [.gone, .arr 1 (p.2.map bD) true]) (fun p => (-9223372036854775808 ≤ p.1 ∧ p.1 ≤ 9223372036854775807) ∧ (if p.1 = 0 then [] else decL p.1.natAbs) ++ p.2 = (if n = 0 then [] else decL n.natAbs)) (fun p => p.1.natAbs) (n, []) covT_ ⟨hn, by simp⟩ ?_
  rintro ⟨k, L⟩ ⟨k1, k2⟩
  dsimp only at k1 k2 ⊢
  have k3 := congrArg List.length k2
  rw [List.length_append] at k3
  have hLm : (L.map bD).length = L.length := List.length_map _
  (conv => whnf)
  (refine br_ (fun h1 => ?_) (fun h1 => ?_) <;> (repeat (refine stg_ ?_)))
  · have e1 : (k.tmod 10).natAbs = k.natAbs % 10 := by rw [Int.natAbs_tmod]; rfl
    have e2 : (k.tdiv 10).natAbs = k.natAbs / 10 := by rw [Int.natAbs_tdiv]; rfl
    have hc := (dgC (k.natAbs % 10)).toNat_lt
    have hc2 := dgC_toNat (d := k.natAbs % 10) (by omega)
    have fin : ∀ {e : Env} {h : List Blk}, Weak e h [(0, .d (.int .i64 n)), (3, .own 1 0 (1 + (L.map bD).length)), (4, .d (.int .i64 (k.tdiv 10)))] [.gone, .arr 1 (bD (dgC (k.natAbs % 10)) :: L.map bD) true] → NextW (α := Int × List UInt8) (fun p => [(0, .d (.int .i64 n)), (3, .own 1 0 p.2.length), (4, .d (.int .i64 p.1))]) (fun p => [.gone, .arr 1 (p.2.map bD) true]) (fun p => (-9223372036854775808 ≤ p.1 ∧ p.1 ≤ 9223372036854775807) ∧ (if p.1 = 0 then [] else decL p.1.natAbs) ++ p.2 = (if n = 0 then [] else decL n.natAbs)) (fun p => p.1.natAbs) (k, L) e h := by
      intro e h H
      refine NextW.go (k.tdiv 10, dgC (k.natAbs % 10) :: L) ?_ ⟨by show _ ∧ _; omega, decS_pre k2 h1⟩ (by show (k.tdiv 10).natAbs < k.natAbs; omega)
      rw [hLm, Nat.add_comm] at H
      exact H
    (refine br_ (fun h2 => ?_) (fun h2 => ?_))
    · refine ArW.i64 (by omega) ?_
      (conv => whnf)
      (refine stg_ ?_)
      refine ArW.u8e ((dgC (k.natAbs % 10)).toNat : Int) (by omega) (by omega) ?_
      (conv => whnf)
      (repeat (refine stg_ ?_))
      refine fin ?_
      (refine Weak.trans (Weak.swap 1 2 ?_) (Weak.cov ?_ ?_ ?_); (focus rfl); (focus (repeat' (first | exact trivial | with_reducible rfl | (refine ⟨?_, ?_⟩) | rfl))); (focus (repeat' (first | exact trivial | with_reducible rfl | (refine ⟨?_, ?_⟩) | rfl))); (focus rfl))
    · (refine stg_ ?_)
      refine ArW.u8e ((dgC (k.natAbs % 10)).toNat : Int) (by omega) (by omega) ?_
      (conv => whnf)
      (repeat (refine stg_ ?_))
      refine fin ?_
      (refine Weak.trans (Weak.swap 1 2 ?_) (Weak.cov ?_ ?_ ?_); (focus rfl); (focus (repeat' (first | exact trivial | with_reducible rfl | (refine ⟨?_, ?_⟩) | rfl))); (focus (repeat' (first | exact trivial | with_reducible rfl | (refine ⟨?_, ?_⟩) | rfl))); (focus rfl))
  · rw [if_pos h1] at k2
    have hB : decB n = mkS ((if n < 0 then [45] else []) ++ decL n.natAbs) := rfl
    simp only [List.nil_append] at k2
    (repeat' (first | (refine stg_ ?_) | fail | (refine br_ (fun hbr => ?_) (fun hbr => ?_))))
    · (refine RetOK.d rfl rfl ?_; conv => whnf)
      have hz : n = 0 := by
        rcases Int.lt_trichotomy n 0 with h | h | h
        · rw [if_neg (by omega)] at k2
          have := decL_pos n.natAbs
          rw [← k2] at this; omega
        · exact h
        · rw [if_neg (by omega)] at k2
          have := decL_pos n.natAbs
          rw [← k2] at this; omega
      subst hz
      rw [hB, if_neg (by omega), Int.natAbs_zero, decL_lo (by omega)]; rfl
    · refine StW.at (s := mkS L) (by rw [List.drop_zero, List.take_of_length_le (by omega), mkS_toList]) ?_
      (conv => whnf)
      refine CatW.at (by rw [mkS_size]; show 1 + L.length ≤ 9223372036854775807; omega) ?_
      (conv => whnf)
      (refine RetOK.d rfl rfl ?_; conv => whnf)
      rw [if_neg (by omega)] at k2
      rw [hB, if_pos hbr, ← k2]
      exact congrArg D.str (mkS_app [45] L).symm
    · refine StW.at (s := mkS L) (by rw [List.drop_zero, List.take_of_length_le (by omega), mkS_toList]) ?_
      (conv => whnf)
      (refine RetOK.d rfl rfl ?_; conv => whnf)
      rw [if_neg (by intro h; subst h; simp at k2; subst k2; simp at *)] at k2
      rw [hB, if_neg (by omega), ← k2]; rfl
open Go.RowKit Go.ChangeShapes Go.WideShapes
def RdD (P : Program) (T : TypeId) (n : Nat) (p : D → Prop) : Prop :=
  P.cellsOf T = n ∧ ∀ (H : Type) (enc : TypeId × Value → H) (w : World) (fuel : Nat) (cs : List Value) (x : DataW H × List MemPlace),
    DataW.trod enc P w 0 (fun _ => true) true fuel T cs = some x → ∃ d, p d ∧ d.size = n ∧ repD [] w d cs
section
variable {P : Program} {T : TypeId}
theorem rd2_str (hT : P.underlying T = some .string) (hc : P.cellsOf T = 1) : RdD P T 1 fun d => ∃ s, d = .str s :=
  ⟨hc, fun H enc w fuel cs x h => by
    obtain ⟨n, rfl, _, hw⟩ := DataW.trod_string hT h
    exact ⟨_, ⟨n, rfl⟩, rfl, rfl, hw⟩⟩
structure FRd where
  t : TypeId
  n : Nat
  p : D → Prop
end
def ArgRd (P : Program) (T : TypeId) (p : D → Prop) : Prop :=
  ∀ (H : Type) (enc : TypeId × Value → H) (w : World) (base : Nat) (v : Value) (d : DataW H) (pl : List MemPlace), Value.okWide P w .any base T v → DataW.Trod enc P w 0 (fun _ => true) true T v d pl →
    ∃ y, p y ∧ rep1 w [none] [.gone] (.d y) v
section
variable {P : Program} {T : TypeId} {n : Nat} {p : D → Prop}
theorem arg_cell (hR : RdD P T n p) (ha : ∀ y, p y → y.agg = false) (hv : ∀ (w : World) base v, Value.okWide P w .any base T v → v.cells.toList = [v]) : ArgRd P T p := fun H enc w base v d pl hok ht => by
  obtain ⟨fuel, hf⟩ := ht
  obtain ⟨y, h1, _, h2⟩ := hR.2 _ _ _ _ _ _ hf
  refine ⟨y, h1, ?_⟩
  rw [hv w base v hok] at h2
  unfold rep1
  rw [if_neg (by show ¬ (y.agg = true); rw [ha y h1]; simp)]
  exact h2
theorem arg_str (hT : P.underlying T = some .string) (hR : RdD P T n p) (ha : ∀ y, p y → y.agg = false) : ArgRd P T p := arg_cell hR ha fun w base v h => by
  obtain ⟨m, rfl⟩ := okWide_string hT h
  rfl
end
def args2 : List (D → Prop) → List D → Prop
  | [], ds => ds = []
  | p :: ps, ds => ∃ d ds', ds = d :: ds' ∧ p d ∧ args2 ps ds'
def argRds (P : Program) : List TypeId → List (D → Prop) → Prop
  | [], ps => ps = []
  | t :: ts, ps => ∃ p ps', ps = p :: ps' ∧ ArgRd P t p ∧ argRds P ts ps'
theorem law_of_pc {P : Program} {f : FuncId} {ts : List TypeId} {ps : List (D → Prop)} (hR : argRds P ts ps) (hpc : ∀ ds, args2 ps ds → PC P f (toVs ds) (.d (.bool true)) []) : LawCalls P f ts := by
  intro H enc W base args ds p hval hA
  have key : ∀ (ts : List TypeId) (ps : List (D → Prop)) (args : List Value) (ds : List (DataW H)) (pl : List MemPlace), argRds P ts ps → (∀ (j : Nat) t v, ts[j]? = some t → args[j]? = some v → Value.okWide P W .any base t v) →
      DataW.TrodAll enc P W 0 (fun _ => true) true ts args ds pl → ∃ ys, args2 ps ys ∧ repT W [none] [.gone] (toVs ys) args := by
    intro ts
    induction ts with
    | nil =>
      intro ps args ds pl hr _ hA
      obtain ⟨rfl, rfl, rfl⟩ := trodAll_nil hA
      cases hr
      exact ⟨[], rfl, rfl⟩
    | cons t ts ih =>
      intro ps args ds pl hr hv hA
      obtain ⟨v, vs, d, ds', p1, q1, rfl, rfl, rfl, h, r⟩ := ChangeShapes.trodAll_cons hA
      obtain ⟨p, ps', rfl, h1, h2⟩ := hr
      obtain ⟨y, y1, y2⟩ := h1 H enc W base v d p1 (hv 0 _ _ rfl rfl) h
      obtain ⟨ys, k1, k2⟩ := ih ps' vs ds' q1 h2 (fun j t v ht hv' => hv (j + 1) t v (by simpa using ht) (by simpa using hv')) r
      exact ⟨y :: ys, ⟨y, ys, rfl, y1, k1⟩, ⟨v, vs, rfl, y2, k2⟩⟩
  obtain ⟨ys, k1, k2⟩ := key ts ps args ds p hR hval hA
  refine ((hpc ys k1).run W [] args (by simp) (by simp) k2).mono ?_
  rintro e w' ⟨cv, M', rfl, hx, _, hr⟩
  exact ⟨by rw [rep_bool.1 hr], hx⟩
abbrev lstD {α : Type} (f : α → D) (xs : List α) : D := .lst (xs.map f)
def TPeak.D (x : TPeak) : D := .st [.int .i64 x.fStart, .int .i64 x.fTop, .int .i64 x.fEnd]
def TCharRange.D (x : TCharRange) : D := .st [.int .i64 x.fFrom, .int .i64 x.fCount, .int .i64 x.fGlyph]
def TSlot.D (x : TSlot) : D := .st [.int .i64 x.fGlyph, .int .i64 x.fX, .int .i64 x.fY, .int .i64 x.fAdvance, .int .i64 x.fFrom, .int .i64 x.fLen]
def TTable.D (x : TTable) : D := .st [.str x.fTag, .str x.fData]
def TAxisPoint.D (x : TAxisPoint) : D := .st [.int .i64 x.fFrom, .int .i64 x.fTo]
def TAxis.D (x : TAxis) : D := .st [.str x.fName, .int .i64 x.fMin, .int .i64 x.fDefault, .int .i64 x.fMax, .lst (x.fMap.map TAxisPoint.D)]
def TPt.D (x : TPt) : D := .st [.int .i64 x.fX, .int .i64 x.fY]
def TGlyphDelta.D (x : TGlyphDelta) : D := .st [.int .i64 x.fGlyph, .lst (x.fKnots.map (D.int .i64)), .lst (x.fMoves.map TPt.D), .int .i64 x.fAdvance]
def TMaster.D (x : TMaster) : D := .st [.lst (x.fPeaks.map TPeak.D), .lst (x.fDeltas.map TGlyphDelta.D)]
def TVariation.D (x : TVariation) : D := .st [.lst (x.fAxes.map TAxis.D), .lst (x.fMasters.map TMaster.D)]
def TKnot.D (x : TKnot) : D := .st [x.fAt.D, .bool x.fOn]
def TLoop.D (x : TLoop) : D := .st [.lst (x.fKnots.map TKnot.D)]
def TOutline.D (x : TOutline) : D := .st [.lst (x.fLoops.map TLoop.D)]
def TPart.D (x : TPart) : D := .st [.int .i64 x.fGlyph, x.fMove.D]
def TAnchor.D (x : TAnchor) : D := .st [.str x.fName, x.fAt.D]
def TGlyph.D (x : TGlyph) : D := .st [.str x.fName, .int .i64 x.fCode, .int .i64 x.fAdvance, x.fOutline.D, .lst (x.fParts.map TPart.D), .lst (x.fAnchors.map TAnchor.D), .str x.fHints]
def TGlyphSet.D (x : TGlyphSet) : D := .st [.int .i64 x.fUnit, .lst (x.fGlyphs.map TGlyph.D)]
def TRule.D (x : TRule) : D := .st [.lst (x.fBefore.map (lstD (D.int .i64))), .lst (x.fInput.map (lstD (D.int .i64))), .lst (x.fAfter.map (lstD (D.int .i64))), .lst (x.fOutput.map (D.int .i64))]
def TLookup.D (x : TLookup) : D := .st [.str x.fName, .lst (x.fRules.map TRule.D)]
def TKern.D (x : TKern) : D := .st [.lst (x.fLeft.map (D.int .i64)), .lst (x.fRight.map (D.int .i64)), .int .i64 x.fValue]
def TMarkRule.D (x : TMarkRule) : D := .st [.lst (x.fMarks.map (D.int .i64)), .lst (x.fBases.map (D.int .i64)), .str x.fAnchor]
def TJoin.D (x : TJoin) : D := .st [.int .i64 x.fGlyph, .int .i64 x.fKind, .int .i64 x.fInit, .int .i64 x.fMedi, .int .i64 x.fFina]
def TFeatures.D (x : TFeatures) : D := .st [.lst (x.fLookups.map TLookup.D), .lst (x.fKerns.map TKern.D), .lst (x.fMarks.map TMarkRule.D), .lst (x.fJoins.map TJoin.D)]
def TItem.D (x : TItem) : D := .st [.int .i64 x.fGlyph, .int .i64 x.fFrom, .int .i64 x.fLen]
theorem own : ownKnob Tryz.prog.godebug = none := by kernel_rfl
theorem laidOut : laidOutB Tryz.prog = true := by kernel_rfl
theorem rdt_str : RdD Tryz.prog 9 1 fun d => ∃ x : ByteArray, d = .str x := rd2_str Tryz.underlying9 (by kernel_rfl)
section
variable {α : Type} (f : α → D) (z : D) (xs : List α)
end
end Go.Proofs.YtaldaoagjbapkaaGreatDoor