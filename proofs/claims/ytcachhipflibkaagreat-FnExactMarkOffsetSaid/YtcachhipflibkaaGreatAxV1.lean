/- Leaf functions of the axes, by the machine. -/
import Derived.Test.YtcachhipflibkaaGreatTT
import Derived.Test.YtcachhipflibkaaGreatAxPl
set_option linter.unusedSimpArgs false
set_option linter.unusedVariables false
namespace Go.Proofs.YtcachhipflibkaaGreat
open Go.RowKit
theorem l00In_v (n lo hi : Int) : PC Tryz.prog 70 [.d (.int .i64 n), .d (.int .i64 lo), .d (.int .i64 hi)] (.d (.bool (inB n lo hi))) [] := by
  refine pc_intro ttOk (by kernel_rfl) Tryz.func70 rfl (by kernel_rfl) (by kernel_rfl) (by kernel_rfl) (fun hw => ?_)
  (conv => whnf)
  (repeat' (first | (refine stg_ ?_) | (split <;> (conv => whnf))))
  (all_goals ((refine RetOK.d rfl rfl ?_; conv => whnf); (simp_all [inB]); (try omega)))
theorem isSmall_v (c : UInt8) : PC Tryz.prog 157 [.d (.int .u8 c.toNat)] (.d (.bool (smB c))) [] := by
  refine pc_intro ttOk (by kernel_rfl) Tryz.func157 rfl (by kernel_rfl) (by kernel_rfl) (by kernel_rfl) (fun hw => ?_)
  (conv => whnf)
  (repeat' (first | (refine stg_ ?_) | (split <;> (conv => whnf))))
  (all_goals ((refine RetOK.d rfl rfl ?_; conv => whnf); (simp_all [smB]); (try omega)))
theorem isDigit_v (c : UInt8) : PC Tryz.prog 158 [.d (.int .u8 c.toNat)] (.d (.bool (dgB c))) [] := by
  refine pc_intro ttOk (by kernel_rfl) Tryz.func158 rfl (by kernel_rfl) (by kernel_rfl) (by kernel_rfl) (fun hw => ?_)
  (conv => whnf)
  (repeat' (first | (refine stg_ ?_) | (split <;> (conv => whnf))))
  (all_goals ((refine RetOK.d rfl rfl ?_; conv => whnf); (simp_all [dgB]); (try omega)))
theorem l01Small_v (c : UInt8) : PC Tryz.prog 149 [.d (.int .u8 c.toNat)] (.d (.bool (smB c))) [] := by
  refine pc_intro ttOk (by kernel_rfl) Tryz.func149 rfl (by kernel_rfl) (by kernel_rfl) (by kernel_rfl) (fun hw => ?_)
  (conv => whnf)
  (repeat' (first | (refine stg_ ?_) | (split <;> (conv => whnf))))
  (all_goals ((refine RetOK.d rfl rfl ?_; conv => whnf); (simp_all [smB]); (try omega)))
theorem l01Digit_v (c : UInt8) : PC Tryz.prog 150 [.d (.int .u8 c.toNat)] (.d (.bool (dgB c))) [] := by
  refine pc_intro ttOk (by kernel_rfl) Tryz.func150 rfl (by kernel_rfl) (by kernel_rfl) (by kernel_rfl) (fun hw => ?_)
  (conv => whnf)
  (repeat' (first | (refine stg_ ?_) | (split <;> (conv => whnf))))
  (all_goals ((refine RetOK.d rfl rfl ?_; conv => whnf); (simp_all [dgB]); (try omega)))
theorem IsName_v (s : ByteArray) : PC Tryz.prog 106 [.d (.str s)] (.d (.bool (nameB s))) [] := by
  refine pc_intro ttOk (by kernel_rfl) Tryz.func106 rfl (by kernel_rfl) (by kernel_rfl) (by kernel_rfl) (fun hw => ?_)
  have hs : s.size ≤ 9223372036854775807 := hw.1
  by_cases h0 : 0 < s.size
  · have HN := nameB_cons h0
    have hc := bget? h0
    (conv => whnf)
    (split <;> rename_i h1 <;> simp only [decide_eq_true_eq, decide_eq_false_iff_not, Bool.not_eq_true', Bool.not_eq_false', bne_iff_ne, ne_eq, beq_iff_eq, bne_eq_false_iff_eq, beq_eq_false_iff_ne, Decidable.not_not, Nat.not_lt, Nat.not_le, Int.not_lt, Int.not_le, Bool.and_eq_true, Bool.and_eq_false_iff, Bool.or_eq_true, Bool.or_eq_false_iff] at h1 <;> (conv => whnf) <;> (repeat (refine stg_ ?_)))
    · exfalso; omega
    · (split <;> rename_i h2 <;> simp only [decide_eq_true_eq, decide_eq_false_iff_not, Bool.not_eq_true', Bool.not_eq_false', bne_iff_ne, ne_eq, beq_iff_eq, bne_eq_false_iff_eq, beq_eq_false_iff_ne, Decidable.not_not, Nat.not_lt, Nat.not_le, Int.not_lt, Int.not_le, Bool.and_eq_true, Bool.and_eq_false_iff, Bool.or_eq_true, Bool.or_eq_false_iff] at h2 <;> (conv => whnf) <;> (repeat (refine stg_ ?_)))
      · (refine RetOK.d rfl rfl ?_; conv => whnf)
        rw [HN, decide_eq_false (by omega)]; rfl
      · (refine cl_ (isSmall_v _) ?_)
        rw [decide_eq_true (by omega), Bool.true_and] at HN
        (split <;> rename_i h3 <;> simp only [decide_eq_true_eq, decide_eq_false_iff_not, Bool.not_eq_true', Bool.not_eq_false', bne_iff_ne, ne_eq, beq_iff_eq, bne_eq_false_iff_eq, beq_eq_false_iff_ne, Decidable.not_not, Nat.not_lt, Nat.not_le, Int.not_lt, Int.not_le, Bool.and_eq_true, Bool.and_eq_false_iff, Bool.or_eq_true, Bool.or_eq_false_iff] at h3 <;> (conv => whnf) <;> (repeat (refine stg_ ?_)))
        · (refine RetOK.d rfl rfl ?_; conv => whnf)
          rw [HN, h3]; rfl
        · rw [h3, Bool.true_and] at HN
          refine LoopW.go (α := Nat) (fun k => [(0, .d (.str s)), (3, .d (.int .i64 k))]) (fun _ => [.gone]) (fun k => 1 ≤ k ∧ k ≤ s.size ∧ nameB s = (s.data.toList.drop k).all nmC) (fun k => s.size - k) 1 (Weak.cov ⟨rfl, rfl, trivial⟩ ⟨trivial, trivial⟩ rfl) ⟨by omega, by omega, HN⟩ (fun k hk => ?_)
          obtain ⟨hk1, hk2, hk3⟩ := hk
          (conv => whnf)
          clear hc
          (split <;> rename_i h4 <;> simp only [decide_eq_true_eq, decide_eq_false_iff_not, Bool.not_eq_true', Bool.not_eq_false', bne_iff_ne, ne_eq, beq_iff_eq, bne_eq_false_iff_eq, beq_eq_false_iff_ne, Decidable.not_not, Nat.not_lt, Nat.not_le, Int.not_lt, Int.not_le, Bool.and_eq_true, Bool.and_eq_false_iff, Bool.or_eq_true, Bool.or_eq_false_iff] at h4 <;> (conv => whnf) <;> (repeat (refine stg_ ?_)))
          · have h4' : k < s.size := by omega
            have hc := bget? h4'
            rw [dropN h4', List.all_cons] at hk3
            (repeat (refine stg_ ?_))
            (refine cl_ (isSmall_v _) ?_)
            (repeat' (first | (refine stg_ ?_) | ((refine cl_ (isDigit_v _) ?_)) | (split <;> (conv => whnf)))); all_goals (first | (exfalso; simp_all; done) | (refine NextW.go (k + 1) (Weak.cov ⟨rfl, rfl, trivial⟩ ⟨trivial, trivial⟩ rfl) ⟨by omega, by omega, ?_⟩ (by omega); rw [hk3, Bool.and_eq_right_iff_imp]; intro _; simp_all [nmC]; done) | ((refine RetOK.d rfl rfl ?_; conv => whnf); rw [hk3]; simp_all [nmC]; done) | skip)
          · (refine RetOK.d rfl rfl ?_; conv => whnf)
            rw [hk3, List.drop_eq_nil_of_le (by show s.size ≤ k; omega)]; rfl
  · have HN := nameB_nil (s := s) (by omega)
    (conv => whnf)
    (split <;> rename_i h1 <;> simp only [decide_eq_true_eq, decide_eq_false_iff_not, Bool.not_eq_true', Bool.not_eq_false', bne_iff_ne, ne_eq, beq_iff_eq, bne_eq_false_iff_eq, beq_eq_false_iff_ne, Decidable.not_not, Nat.not_lt, Nat.not_le, Int.not_lt, Int.not_le, Bool.and_eq_true, Bool.and_eq_false_iff, Bool.or_eq_true, Bool.or_eq_false_iff] at h1 <;> (conv => whnf) <;> (repeat (refine stg_ ?_)))
    · (refine RetOK.d rfl rfl ?_; conv => whnf)
      rw [HN]
    · exfalso; omega
theorem specIsName_v (s : ByteArray) : PC Tryz.prog 96 [.d (.str s)] (.d (.bool (nameB s))) [] := by
  refine pc_intro ttOk (by kernel_rfl) Tryz.func96 rfl (by kernel_rfl) (by kernel_rfl) (by kernel_rfl) (fun hw => ?_)
  have hs : s.size ≤ 9223372036854775807 := hw.1
  by_cases h0 : 0 < s.size
  · have HN := nameB_cons h0
    have hc := bget? h0
    (conv => whnf)
    (split <;> rename_i h1 <;> simp only [decide_eq_true_eq, decide_eq_false_iff_not, Bool.not_eq_true', Bool.not_eq_false', bne_iff_ne, ne_eq, beq_iff_eq, bne_eq_false_iff_eq, beq_eq_false_iff_ne, Decidable.not_not, Nat.not_lt, Nat.not_le, Int.not_lt, Int.not_le, Bool.and_eq_true, Bool.and_eq_false_iff, Bool.or_eq_true, Bool.or_eq_false_iff] at h1 <;> (conv => whnf) <;> (repeat (refine stg_ ?_)))
    · exfalso; rw [toL_inj h1] at h0; exact absurd h0 (by decide)
    · (split <;> rename_i h2 <;> simp only [decide_eq_true_eq, decide_eq_false_iff_not, Bool.not_eq_true', Bool.not_eq_false', bne_iff_ne, ne_eq, beq_iff_eq, bne_eq_false_iff_eq, beq_eq_false_iff_ne, Decidable.not_not, Nat.not_lt, Nat.not_le, Int.not_lt, Int.not_le, Bool.and_eq_true, Bool.and_eq_false_iff, Bool.or_eq_true, Bool.or_eq_false_iff] at h2 <;> (conv => whnf) <;> (repeat (refine stg_ ?_)))
      · (refine RetOK.d rfl rfl ?_; conv => whnf)
        rw [HN, decide_eq_false (by omega)]; rfl
      · (refine cl_ (l01Small_v _) ?_)
        rw [decide_eq_true (by omega), Bool.true_and] at HN
        (split <;> rename_i h3 <;> simp only [decide_eq_true_eq, decide_eq_false_iff_not, Bool.not_eq_true', Bool.not_eq_false', bne_iff_ne, ne_eq, beq_iff_eq, bne_eq_false_iff_eq, beq_eq_false_iff_ne, Decidable.not_not, Nat.not_lt, Nat.not_le, Int.not_lt, Int.not_le, Bool.and_eq_true, Bool.and_eq_false_iff, Bool.or_eq_true, Bool.or_eq_false_iff] at h3 <;> (conv => whnf) <;> (repeat (refine stg_ ?_)))
        · (refine RetOK.d rfl rfl ?_; conv => whnf)
          rw [HN, h3]; rfl
        · rw [h3, Bool.true_and] at HN
          refine LoopW.go (α := Nat) (fun k => [(0, .d (.str s)), (3, .d (.int .i64 k))]) (fun _ => [.gone]) (fun k => 0 ≤ k ∧ k ≤ s.size ∧ nameB s = (s.data.toList.drop k).all nmC) (fun k => s.size - k) 0 (Weak.cov ⟨rfl, rfl, trivial⟩ ⟨trivial, trivial⟩ rfl) ⟨by omega, by omega, by rw [HN, dropN h0, List.all_cons, smB_nmC h3, Bool.true_and]⟩ (fun k hk => ?_)
          obtain ⟨hk1, hk2, hk3⟩ := hk
          (conv => whnf)
          clear hc
          (split <;> rename_i h4 <;> simp only [decide_eq_true_eq, decide_eq_false_iff_not, Bool.not_eq_true', Bool.not_eq_false', bne_iff_ne, ne_eq, beq_iff_eq, bne_eq_false_iff_eq, beq_eq_false_iff_ne, Decidable.not_not, Nat.not_lt, Nat.not_le, Int.not_lt, Int.not_le, Bool.and_eq_true, Bool.and_eq_false_iff, Bool.or_eq_true, Bool.or_eq_false_iff] at h4 <;> (conv => whnf) <;> (repeat (refine stg_ ?_)))
          · have h4' : k < s.size := by omega
            have hc := bget? h4'
            rw [dropN h4', List.all_cons] at hk3
            (repeat (refine stg_ ?_))
            (refine cl_ (l01Small_v _) ?_)
            (repeat' (first | (refine stg_ ?_) | ((refine cl_ (l01Digit_v _) ?_)) | (split <;> (conv => whnf)))); all_goals (first | (exfalso; simp_all; done) | (refine NextW.go (k + 1) (Weak.cov ⟨rfl, rfl, trivial⟩ ⟨trivial, trivial⟩ rfl) ⟨by omega, by omega, ?_⟩ (by omega); rw [hk3, Bool.and_eq_right_iff_imp]; intro _; simp_all [nmC]; done) | ((refine RetOK.d rfl rfl ?_; conv => whnf); rw [hk3]; simp_all [nmC]; done) | skip)
          · (refine RetOK.d rfl rfl ?_; conv => whnf)
            rw [hk3, List.drop_eq_nil_of_le (by show s.size ≤ k; omega)]; rfl
  · have HN := nameB_nil (s := s) (by omega)
    (conv => whnf)
    (split <;> rename_i h1 <;> simp only [decide_eq_true_eq, decide_eq_false_iff_not, Bool.not_eq_true', Bool.not_eq_false', bne_iff_ne, ne_eq, beq_iff_eq, bne_eq_false_iff_eq, beq_eq_false_iff_ne, Decidable.not_not, Nat.not_lt, Nat.not_le, Int.not_lt, Int.not_le, Bool.and_eq_true, Bool.and_eq_false_iff, Bool.or_eq_true, Bool.or_eq_false_iff] at h1 <;> (conv => whnf) <;> (repeat (refine stg_ ?_)))
    · (refine RetOK.d rfl rfl ?_; conv => whnf)
      rw [HN]
    · exfalso; exact h1 (congrArg ByteArray.toList (ByteArray.ext (Array.eq_empty_of_size_eq_zero (by show s.size = 0; omega))))
end Go.Proofs.YtcachhipflibkaaGreat
