/- Features: rules, lookups, joins, both sides, by the machine. -/
import Derived.Test.YtbnopcnlbcgdlaaFtV
set_option linter.unusedSimpArgs false
set_option linter.unusedVariables false
namespace Go.Proofs.Ytbnopcnlbcgdlaa
open Go.RowKit
theorem ValidRule1_v (n : Int) : PC Try.prog 56 [.d (.int .i64 n)] (.d (.bool (!inB n 0 39))) [] := by
  refine pc_intro ttOk (by kernel_rfl) Try.func56 rfl (by kernel_rfl) (by kernel_rfl) (by kernel_rfl) (fun hw => ?_)
  (conv => whnf)
  (repeat' (first | (refine stg_ ?_) | (refine cl_ (isGlyphNumber_v n) ?_) | (refine br_ (fun hbr => ?_) (fun hbr => ?_))))
  all_goals ((refine RetOK.d rfl rfl ?_; conv => whnf); try rfl)
theorem ValidRule_v (r : TRule) : PC Try.prog 36 [.d r.D] (.d (.bool (ruB r))) [] := by
  refine pc_intro ttOk (by kernel_rfl) Try.func36 rfl (by kernel_rfl) (by kernel_rfl) (by kernel_rfl) (fun hw => ?_)
  have hL : (r.fOutput.map (D.int .i64)).length = r.fOutput.length := List.length_map _
  have hA : (r.fOutput.all fun g => inB g 0 39) = !r.fOutput.any (fun x => !inB x 0 39) := by simp [List.all_eq_not_any_not]
  have c1 := fullClasses_v r.fBefore 0 (by omega)
  have c2 := fullClasses_v r.fInput 1 (by omega)
  have c3 := fullClasses_v r.fAfter 0 (by omega)
  have c4 := ctint64_v r.fOutput _ (fun x => !inB x 0 39) ValidRule1_v
  rw [ruB, hA]
  generalize (r.fOutput.any fun x => !inB x 0 39) = q at *
  (conv => whnf)
  (repeat' (first | (refine stg_ ?_) | (refine cla_ (c1) ?_) | (refine cla_ (c2) ?_) | (refine cla_ (c3) ?_) | (refine cla_ (c4) ?_) | (refine br_ (fun hbr => ?_) (fun hbr => ?_))))
  all_goals ((refine RetOK.d rfl rfl ?_; conv => whnf); simp_all; try omega)
theorem l25Rule_v (r : TRule) : PC Try.prog 46 [.pX r.D] (.d (.bool (ruB r))) [] := by
  refine pc_intro ttOk (by kernel_rfl) Try.func46 rfl (by kernel_rfl) (by kernel_rfl) (by kernel_rfl) (fun hw => ?_)
  have hL : (r.fOutput.map (D.int .i64)).length = r.fOutput.length := List.length_map _
  have hm : (r.fOutput.map (D.int .i64)).length ≤ 9223372036854775807 := hw.1.2.2.2.1.1
  have c1 := l25Classes_v r.fBefore 0 (by omega)
  have c2 := l25Classes_v r.fInput 1 (by omega)
  have c3 := l25Classes_v r.fAfter 0 (by omega)
  (conv => whnf)
  refine LoopW.go (α := Nat) (fun k => [(0, .pX r.D), (3, .d (.int .i64 k))]) (fun k => [.gone]) (fun k => k ≤ r.fOutput.length ∧ (r.fOutput.all fun g => inB g 0 39) = (r.fOutput.drop k).all (fun g => inB g 0 39)) (fun k => r.fOutput.length - k) 0 covT_ ?_ (fun k hk => ?_)
  · exact ⟨by omega, rfl⟩
  obtain ⟨hk1, hk2⟩ := hk
  (conv => whnf)
  (refine br_ (fun h2 => ?_) (fun h2 => ?_) <;> (repeat (refine stg_ ?_)))
  · obtain ⟨x, hx⟩ := at_lt' (xs := r.fOutput) (k := k) (by omega)
    rw [drop_at hx, List.all_cons] at hk2
    (repeat' (first | (refine stg_ ?_) | (refine cl_ (l00In_v x _ _) ?_) | (refine br_ (fun hbr => ?_) (fun hbr => ?_))))
    all_goals first | ((refine RetOK.d rfl rfl ?_; conv => whnf); rw [ruB, hk2]; simp_all; done) | skip
    all_goals exact NextW.go (k + 1) covT_ ⟨by omega, by rw [hk2]; simp_all⟩ (by omega)
  · rw [List.drop_eq_nil_of_le (by omega)] at hk2
    (repeat' (first | (refine stg_ ?_) | (refine cla_ (c1) ?_) | (refine cla_ (c2) ?_) | (refine cla_ (c3) ?_) | (refine br_ (fun hbr => ?_) (fun hbr => ?_))))
    all_goals ((refine RetOK.d rfl rfl ?_; conv => whnf); rw [ruB, hk2]; simp_all; try omega)
theorem validLk1_v (r : TRule) : PC Try.prog 35 [.d r.D] (.d (.bool (!ruB r))) [] := by
  refine pc_intro ttOk (by kernel_rfl) Try.func35 rfl (by kernel_rfl) (by kernel_rfl) (by kernel_rfl) (fun hw => ?_)
  (conv => whnf)
  (repeat' (first | (refine stg_ ?_) | (refine cla_ (ValidRule_v r) ?_) | (refine br_ (fun hbr => ?_) (fun hbr => ?_))))
  all_goals ((refine RetOK.d rfl rfl ?_; conv => whnf); try rfl)
theorem validLookup_v (l : TLookup) : PC Try.prog 21 [.d l.D] (.d (.bool (lkB l))) [] := by
  refine pc_intro ttOk (by kernel_rfl) Try.func21 rfl (by kernel_rfl) (by kernel_rfl) (by kernel_rfl) (fun hw => ?_)
  have hL : (l.fRules.map TRule.D).length = l.fRules.length := List.length_map _
  have hA : l.fRules.all ruB = !l.fRules.any (fun x => !ruB x) := by simp [List.all_eq_not_any_not]
  have c1 := IsName_v l.fName
  have c4 := ctRule_v l.fRules _ (fun x => !ruB x) validLk1_v
  rw [lkB, hA]
  generalize (l.fRules.any fun x => !ruB x) = q at *
  (conv => whnf)
  (repeat' (first | (refine stg_ ?_) | (refine cla_ (c1) ?_) | (refine cla_ (c4) ?_) | (refine br_ (fun hbr => ?_) (fun hbr => ?_))))
  all_goals ((refine RetOK.d rfl rfl ?_; conv => whnf); simp_all; try omega)
set_option maxHeartbeats 2000000 in
theorem l25Lookups_v (xs : List TLookup) : PC Try.prog 28 [.d (.lst (xs.map TLookup.D))] (.d (.bool (lksB xs))) [] := by
  refine pc_intro ttOk (by kernel_rfl) Try.func28 rfl (by kernel_rfl) (by kernel_rfl) (by kernel_rfl) (fun hw => ?_)
  have hL : (xs.map TLookup.D).length = xs.length := List.length_map _
  have hm : (xs.map TLookup.D).length ≤ 9223372036854775807 := hw.1.1
  (conv => whnf)
  refine LoopW.go (α := Nat) (fun k => [(0, .d (.lst (xs.map TLookup.D))), (3, .d (.int .i64 k))]) (fun k => [.gone]) (fun k => k ≤ xs.length ∧ lkG [] xs = lkG (xs.take k) (xs.drop k)) (fun k => xs.length - k) 0 covT_ ?_ (fun k hk => ?_)
  · exact ⟨by omega, rfl⟩
  obtain ⟨hk1, hk2⟩ := hk
  (conv => whnf)
  (refine br_ (fun h2 => ?_) (fun h2 => ?_) <;> (repeat (refine stg_ ?_)))
  · obtain ⟨x, hx⟩ := at_lt' (xs := xs) (k := k) (by omega)
    rw [lkG_at hx] at hk2
    have hR : (x.fRules.map TRule.D).length = x.fRules.length := List.length_map _
    have hx' : (xs.map TLookup.D)[k]? = some x.D := by rw [List.getElem?_map, hx]; rfl
    have c1 := specIsName_v x.fName
    (repeat' (first | (refine stg_ ?_) | (refine cla_ (c1) ?_) | (refine br_ (fun hbr => ?_) (fun hbr => ?_))))
    all_goals first | ((refine RetOK.d rfl rfl ?_; conv => whnf); rw [lksB, hk2, lkB]; simp_all; done) | ((refine RetOK.d rfl rfl ?_; conv => whnf); rw [lksB, hk2, lkB, show decide (x.fRules.length ≤ 40) = false by (rw [decide_eq_false_iff_not]; omega)]; simp; done) | skip
    refine LoopW.go (α := Nat) (fun m => [(0, .d (.lst (xs.map TLookup.D))), (3, .d (.int .i64 k)), (4, .d (.int .i64 m))]) (fun _ => [.gone]) (fun m => m ≤ k ∧ (xs.take m).any (nmEq x.fName) = false) (fun m => k - m) 0 covT_ ⟨by omega, rfl⟩ (fun m hm => ?_)
    obtain ⟨hm1, hm2⟩ := hm
    (conv => whnf)
    (refine br_ (fun h3 => ?_) (fun h3 => ?_) <;> (repeat (refine stg_ ?_)))
    · obtain ⟨y, hy⟩ := at_lt' (xs := xs) (k := m) (by omega)
      have hS := any_snoc (p := nmEq x.fName) hy
      (repeat' (first | (refine stg_ ?_) | fail | (refine br_ (fun hbr => ?_) (fun hbr => ?_))))
      · (refine RetOK.d rfl rfl ?_; conv => whnf)
        have h4 := any_take (p := nmEq x.fName) hy (k := k) (by omega) (by simp_all [nmEq])
        rw [lksB, hk2, h4]; simp
      · exact NextW.go (m + 1) covT_ ⟨by omega, by rw [hS, hm2]; simp_all [nmEq]⟩ (by omega)
    · obtain rfl : m = k := by omega
      rw [hm2] at hk2
      refine LoopW.go (α := Nat) (fun j => [(0, .d (.lst (xs.map TLookup.D))), (3, .d (.int .i64 m)), (5, .d (.int .i64 j))]) (fun _ => [.gone]) (fun j => j ≤ x.fRules.length ∧ x.fRules.all ruB = (x.fRules.drop j).all ruB) (fun j => x.fRules.length - j) 0 covT_ ⟨by omega, rfl⟩ (fun j hj => ?_)
      obtain ⟨hj1, hj2⟩ := hj
      (conv => whnf)
      (repeat (refine stg_ ?_))
      (refine br_ (fun h4 => ?_) (fun h4 => ?_) <;> (repeat (refine stg_ ?_)))
      · obtain ⟨r, hr⟩ := at_lt' (xs := x.fRules) (k := j) (by omega)
        rw [drop_at hr, List.all_cons] at hj2
        (repeat' (first | (refine stg_ ?_) | (refine cla_ (l25Rule_v r) ?_) | (refine br_ (fun hbr => ?_) (fun hbr => ?_))))
        all_goals first | ((refine RetOK.d rfl rfl ?_; conv => whnf); rw [lksB, hk2, lkB, hj2]; simp_all; done) | skip
        all_goals exact NextW.go (j + 1) covT_ ⟨by omega, by rw [hj2]; simp_all⟩ (by omega)
      · rw [List.drop_eq_nil_of_le (by omega)] at hj2
        (repeat (refine stg_ ?_))
        exact NextW.go (m + 1) covT_ ⟨by omega, by rw [hk2, lkB, hj2]; simp_all; try omega⟩ (by omega)
  · (refine RetOK.d rfl rfl ?_; conv => whnf)
    rw [lksB, hk2, lkG_end (by omega), Bool.and_true]
    congr 1
    rw [Bool.eq_iff_iff]; simp; try omega
end Go.Proofs.Ytbnopcnlbcgdlaa
