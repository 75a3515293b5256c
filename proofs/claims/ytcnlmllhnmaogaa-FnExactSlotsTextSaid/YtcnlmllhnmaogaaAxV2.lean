/- DivRound, by the machine. -/
import Derived.Test.YtcnlmllhnmaogaaTT
import Derived.Test.YtcnlmllhnmaogaaAxV1
set_option linter.unusedSimpArgs false
set_option linter.unusedVariables false
namespace Go.Proofs.Ytcnlmllhnmaogaa
open Go.RowKit

theorem floorDiv_v (n d : Int) (h0 : 0 < d) : PC Try.prog 73 [.d (.int .i64 n), .d (.int .i64 d)] (.d (.int .i64 (n / d))) [] := by
  refine pc_intro ttOk (by kernel_rfl) Try.func73 rfl (by kernel_rfl) (by kernel_rfl) (by kernel_rfl) (fun hw => ?_)
  have hn1 : -9223372036854775808 ≤ n ∧ n ≤ 9223372036854775807 := hw.1
  have hd1 : -9223372036854775808 ≤ d ∧ d ≤ 9223372036854775807 := hw.2.1
  obtain ⟨n1, n2⟩ := hn1
  obtain ⟨d1, d2⟩ := hd1
  obtain ⟨f1, f2, f3, f4, f5⟩ := div_facts h0 n1 n2
  have ht := tdiv_facts (n := n) h0
  have hq : -9223372036854775808 ≤ n.tdiv d ∧ n.tdiv d ≤ 9223372036854775807 := by
    by_cases hm : n.tmod d < 0
    · have := ht.1 hm; have := f5 this.2.2.2; omega
    · have := ht.2 (by omega); omega
  by_cases hm : n.tmod d < 0
  · obtain ⟨t1, t2, t3, t4⟩ := ht.1 hm
    have f5 := f5 t4
    clear ht
    (conv => whnf)
    (repeat' (first | (refine stg_ ?_) | (split <;> (conv => whnf))))
    all_goals first | (exfalso; simp_all; done) | (exfalso; simp_all; omega) | ((refine RetOK.d rfl rfl ?_; conv => whnf); congr 1; omega)
  · obtain ⟨t1, t2⟩ := ht.2 (by omega)
    clear ht f5
    (conv => whnf)
    (repeat' (first | (refine stg_ ?_) | (split <;> (conv => whnf))))
    all_goals first | (exfalso; simp_all; done) | (exfalso; simp_all; omega) | ((refine RetOK.d rfl rfl ?_; conv => whnf); congr 1; omega)
end Go.Proofs.Ytcnlmllhnmaogaa
