/- DivRound, by the machine. -/
import Derived.Test.YtdjdkkacbkfmeaaTT
import Derived.Test.YtdjdkkacbkfmeaaAxV1
set_option linter.unusedSimpArgs false
set_option linter.unusedVariables false
namespace Go.Proofs.Ytdjdkkacbkfmeaa
open Go.RowKit

theorem l03Round_v (n d : Int) (h0 : 0 < d) : PC Try.prog 197 [.d (.int .i64 n), .d (.int .i64 d)] (.d (.int .i64 (divR n d))) [] := by
  refine pc_intro ttOk (by kernel_rfl) Try.func197 rfl (by kernel_rfl) (by kernel_rfl) (by kernel_rfl) (fun hw => ?_)
  have hn1 : -9223372036854775808 ≤ n ∧ n ≤ 9223372036854775807 := hw.1
  have hd1 : -9223372036854775808 ≤ d ∧ d ≤ 9223372036854775807 := hw.2.1
  obtain ⟨n1, n2⟩ := hn1
  obtain ⟨d1, d2⟩ := hd1
  have hf := div_facts h0 n1 n2
  have ht := tdiv_facts (n := n) h0
  have hR := Lib.hid (divR_pos (n := n) h0)
  obtain ⟨f1, f2, f3, f4, f5⟩ := hf
  have hq : -9223372036854775808 ≤ n.tdiv d ∧ n.tdiv d ≤ 9223372036854775807 := by
    by_cases hm : n.tmod d < 0
    · have := ht.1 hm; have := f5 this.2.2.2; omega
    · have := ht.2 (by omega); omega
  by_cases hm : n.tmod d < 0
  · obtain ⟨t1, t2, t3, t4⟩ := ht.1 hm
    have f5 := f5 t4
    clear ht
    (conv => whnf)
    (repeat (refine stg_ ?_))
    (refine br_ (fun h1 => ?_) (fun h1 => ?_) <;> (repeat (refine stg_ ?_)))
    · (refine br_ (fun h2 => ?_) (fun h2 => ?_) <;> (repeat (refine stg_ ?_)))
      · (refine RetOK.d rfl rfl ?_; conv => whnf)
        rw [hR.out, if_pos (by omega)]
        congr 1; omega
      · (refine RetOK.d rfl rfl ?_; conv => whnf)
        rw [hR.out, if_neg (by omega)]
        congr 1; omega
    · exfalso; omega
  · obtain ⟨t1, t2⟩ := ht.2 (by omega)
    clear ht
    have f6 : n % d < d - n % d ∨ (-4611686018427387904 ≤ n / d ∧ n / d ≤ 4611686018427387903) := by
      by_cases hh : 2 ≤ d
      · exact Or.inr (f5 hh)
      · left; omega
    clear f5
    (conv => whnf)
    (repeat (refine stg_ ?_))
    (refine br_ (fun h1 => ?_) (fun h1 => ?_) <;> (repeat (refine stg_ ?_)))
    · exfalso; omega
    · (refine br_ (fun h2 => ?_) (fun h2 => ?_) <;> (repeat (refine stg_ ?_)))
      · (refine RetOK.d rfl rfl ?_; conv => whnf)
        rw [hR.out, if_pos (by omega)]
        congr 1; omega
      · (refine RetOK.d rfl rfl ?_; conv => whnf)
        rw [hR.out, if_neg (by omega)]
        congr 1; omega
theorem specDivRound_v (n d : Int) : PC Try.prog 189 [.d (.int .i64 n), .d (.int .i64 d)] (.d (.int .i64 (divR n d))) [] := by
  refine pc_intro ttOk (by kernel_rfl) Try.func189 rfl (by kernel_rfl) (by kernel_rfl) (by kernel_rfl) (fun hw => ?_)
  (conv => whnf)
  (split <;> rename_i h1 <;> simp only [decide_eq_true_eq, decide_eq_false_iff_not, Bool.not_eq_true', Bool.not_eq_false', bne_iff_ne, ne_eq, beq_iff_eq, bne_eq_false_iff_eq, beq_eq_false_iff_ne, Decidable.not_not, Nat.not_lt, Nat.not_le, Int.not_lt, Int.not_le, Bool.and_eq_true, Bool.and_eq_false_iff, Bool.or_eq_true, Bool.or_eq_false_iff] at h1 <;> (conv => whnf) <;> (repeat (refine stg_ ?_)))
  · (refine RetOK.d rfl rfl ?_; conv => whnf)
    rw [divR, if_pos h1]
  · (refine cl_ (l03Round_v n d h1) ?_)
    (refine RetOK.d rfl rfl ?_; conv => whnf)
theorem floorDiv_v (n d : Int) (h0 : 0 < d) : PC Try.prog 191 [.d (.int .i64 n), .d (.int .i64 d)] (.d (.int .i64 (n / d))) [] := by
  refine pc_intro ttOk (by kernel_rfl) Try.func191 rfl (by kernel_rfl) (by kernel_rfl) (by kernel_rfl) (fun hw => ?_)
  have hn1 : -9223372036854775808 ≤ n ∧ n ≤ 9223372036854775807 := hw.1
  have hd1 : -9223372036854775808 ≤ d ∧ d ≤ 9223372036854775807 := hw.2.1
  obtain ⟨n1, n2⟩ := hn1
  obtain ⟨d1, d2⟩ := hd1
  obtain ⟨f1, f2, f3, f4, f5⟩ := div_facts h0 n1 n2
  have ht := tdiv_facts (n := n) h0
  have hq : -9223372036854775808 ≤ n.tdiv d ∧ n.tdiv d ≤ 9223372036854775807 := by
    by_cases hm : n.tmod d < 0
    · have := ht.1 hm; have := f5 this.2.2.2; omega
    · have := ht.2 (by omega); omega
  by_cases hm : n.tmod d < 0
  · obtain ⟨t1, t2, t3, t4⟩ := ht.1 hm
    have f5 := f5 t4
    clear ht
    (conv => whnf)
    (repeat' (first | (refine stg_ ?_) | (split <;> (conv => whnf))))
    all_goals first | (exfalso; simp_all; done) | (exfalso; simp_all; omega) | ((refine RetOK.d rfl rfl ?_; conv => whnf); congr 1; omega)
  · obtain ⟨t1, t2⟩ := ht.2 (by omega)
    clear ht f5
    (conv => whnf)
    (repeat' (first | (refine stg_ ?_) | (split <;> (conv => whnf))))
    all_goals first | (exfalso; simp_all; done) | (exfalso; simp_all; omega) | ((refine RetOK.d rfl rfl ?_; conv => whnf); congr 1; omega)
theorem DivRound_v (n d : Int) : PC Try.prog 167 [.d (.int .i64 n), .d (.int .i64 d)] (.d (.int .i64 (divR n d))) [] := by
  refine pc_intro ttOk (by kernel_rfl) Try.func167 rfl (by kernel_rfl) (by kernel_rfl) (by kernel_rfl) (fun hw => ?_)
  have hn1 : -9223372036854775808 ≤ n ∧ n ≤ 9223372036854775807 := hw.1
  have hd1 : -9223372036854775808 ≤ d ∧ d ≤ 9223372036854775807 := hw.2.1
  obtain ⟨n1, n2⟩ := hn1
  obtain ⟨d1, d2⟩ := hd1
  (conv => whnf)
  (split <;> rename_i h1 <;> simp only [decide_eq_true_eq, decide_eq_false_iff_not, Bool.not_eq_true', Bool.not_eq_false', bne_iff_ne, ne_eq, beq_iff_eq, bne_eq_false_iff_eq, beq_eq_false_iff_ne, Decidable.not_not, Nat.not_lt, Nat.not_le, Int.not_lt, Int.not_le, Bool.and_eq_true, Bool.and_eq_false_iff, Bool.or_eq_true, Bool.or_eq_false_iff] at h1 <;> (conv => whnf) <;> (repeat (refine stg_ ?_)))
  · (refine RetOK.d rfl rfl ?_; conv => whnf)
    rw [divR, if_pos h1]
  · obtain ⟨f1, f2, f3, f4, f5⟩ := div_facts h1 n1 n2
    have hR := divR_pos (n := n) h1
    have hm := Int.emod_add_mul_ediv n d
    rw [Int.mul_comm] at hm
    have hw' := wrap_rem h1 d2 n1 n2
    (refine cl_ (floorDiv_v n d h1) ?_)
    refine ⟨_, rfl, ?_⟩
    (conv => whnf)
    refine ⟨n % d, hw', ?_⟩
    (conv => whnf)
    (repeat (refine stg_ ?_))
    have f6 : n % d < d - n % d ∨ (-4611686018427387904 ≤ n / d ∧ n / d ≤ 4611686018427387903) := by
      by_cases hh : 2 ≤ d
      · exact Or.inr (f5 hh)
      · left; omega
    (refine br_ (fun h2 => ?_) (fun h2 => ?_) <;> (repeat (refine stg_ ?_)))
    · (refine RetOK.d rfl rfl ?_; conv => whnf)
      rw [hR, if_pos (by omega)]
    · (refine RetOK.d rfl rfl ?_; conv => whnf)
      rw [hR, if_neg (by omega)]
end Go.Proofs.Ytdjdkkacbkfmeaa
