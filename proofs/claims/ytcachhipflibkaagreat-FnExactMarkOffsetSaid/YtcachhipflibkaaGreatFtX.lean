/- Features: the reference's validity, by the machine. -/
import Derived.Test.YtcachhipflibkaaGreatFtW
set_option linter.unusedSimpArgs false
set_option linter.unusedVariables false
namespace Go.Proofs.YtcachhipflibkaaGreat
open Go.RowKit
set_option maxHeartbeats 4000000 in
theorem l25Ok_v (f : TFeatures) : PC Tryz.prog 42 [.pX f.D] (.d (.bool (ftB f))) [] := by
  refine pc_intro ttOk (by kernel_rfl) Tryz.func42 rfl (by kernel_rfl) (by kernel_rfl) (by kernel_rfl) (fun hw => ?_)
  have hK : (f.fKerns.map TKern.D).length = f.fKerns.length := List.length_map _
  have hM : (f.fMarks.map TMarkRule.D).length = f.fMarks.length := List.length_map _
  have hJ : (f.fJoins.map TJoin.D).length = f.fJoins.length := List.length_map _
  have hJm : (f.fJoins.map TJoin.D).length ≤ 9223372036854775807 := hw.1.2.2.2.1.1
  have c1 := l25Lookups_v f.fLookups
  have hF : ftB f = (lksB f.fLookups && (decide (f.fKerns.length ≤ 40) && (decide (f.fMarks.length ≤ 12) && (f.fKerns.all knB && (f.fMarks.all mkB && jnG none f.fJoins))))) := rfl
  generalize ftB f = R at hF ⊢
  (conv => whnf)
  (repeat' (first | (refine stg_ ?_) | (refine cla_ (c1) ?_) | (refine br_ (fun hbr => ?_) (fun hbr => ?_))))
  all_goals first | ((refine RetOK.d rfl rfl ?_; conv => whnf); rw [hF]; simp_all; done) | ((refine RetOK.d rfl rfl ?_; conv => whnf); rw [hF, show decide (f.fKerns.length ≤ 40) = false by (rw [decide_eq_false_iff_not]; omega)]; simp; done) | ((refine RetOK.d rfl rfl ?_; conv => whnf); rw [hF, show decide (f.fMarks.length ≤ 12) = false by (rw [decide_eq_false_iff_not]; omega)]; simp; done) | skip
  have hk40 : f.fKerns.length ≤ 40 := by omega
  have hm12 : f.fMarks.length ≤ 12 := by omega
  have hl8 : lksB f.fLookups = true := by assumption
  rw [hl8, decide_eq_true hk40, decide_eq_true hm12, Bool.true_and, Bool.true_and, Bool.true_and] at hF
  clear c1 hl8
  refine LoopW.go (α := Nat) (fun k => [(0, .pX f.D), (3, .d (.int .i64 k))]) (fun k => [.gone]) (fun k => k ≤ f.fKerns.length ∧ f.fKerns.all knB = (f.fKerns.drop k).all knB) (fun k => f.fKerns.length - k) 0 covT_ ?_ (fun k hk => ?_)
  · exact ⟨by omega, rfl⟩
  obtain ⟨hk1, hk2⟩ := hk
  (conv => whnf)
  (repeat (refine stg_ ?_))
  (refine br_ (fun h2 => ?_) (fun h2 => ?_) <;> (repeat (refine stg_ ?_)))
  · obtain ⟨x, hx⟩ := at_lt' (xs := f.fKerns) (k := k) (by omega)
    rw [drop_at hx, List.all_cons] at hk2
    (repeat' (first | (refine stg_ ?_) | (refine cla_ (l25Class_v x.fLeft) ?_) | (refine cla_ (l25Class_v x.fRight) ?_) | (refine cl_ (l00In_v _ _ _) ?_) | (refine br_ (fun hbr => ?_) (fun hbr => ?_))))
    all_goals first | ((refine RetOK.d rfl rfl ?_; conv => whnf); rw [hF, hk2, knB]; simp_all; done) | skip
    all_goals exact NextW.go (k + 1) covT_ ⟨by omega, by rw [hk2, knB]; simp_all⟩ (by omega)
  rw [List.drop_eq_nil_of_le (by omega), List.all_nil] at hk2
  rw [hk2, Bool.true_and] at hF
  clear hk2 h2 hk1
  (repeat (refine stg_ ?_))
  refine LoopW.go (α := Nat) (fun j => [(0, .pX f.D), (5, .d (.int .i64 j))]) (fun _ => [.gone]) (fun j => j ≤ f.fMarks.length ∧ f.fMarks.all mkB = (f.fMarks.drop j).all mkB) (fun j => f.fMarks.length - j) 0 covT_ ⟨by omega, rfl⟩ (fun j hj => ?_)
  obtain ⟨hj1, hj2⟩ := hj
  (conv => whnf)
  (repeat (refine stg_ ?_))
  (refine br_ (fun h2 => ?_) (fun h2 => ?_) <;> (repeat (refine stg_ ?_)))
  · obtain ⟨x, hx⟩ := at_lt' (xs := f.fMarks) (k := j) (by omega)
    rw [drop_at hx, List.all_cons] at hj2
    (repeat' (first | (refine stg_ ?_) | (refine cla_ (l25Class_v x.fMarks) ?_) | (refine cla_ (l25Class_v x.fBases) ?_) | (refine cla_ (specIsName_v x.fAnchor) ?_) | (refine br_ (fun hbr => ?_) (fun hbr => ?_))))
    all_goals first | ((refine RetOK.d rfl rfl ?_; conv => whnf); rw [hF, hj2, mkB]; simp_all; done) | skip
    all_goals exact NextW.go (j + 1) covT_ ⟨by omega, by rw [hj2, mkB]; simp_all⟩ (by omega)
  rw [List.drop_eq_nil_of_le (by omega), List.all_nil] at hj2
  rw [hj2, Bool.true_and] at hF
  clear hj2 h2 hj1
  (repeat (refine stg_ ?_))
  refine LoopW.go (α := Nat) (fun j => [(0, .pX f.D), (7, .d (.int .i64 j))]) (fun _ => [.gone]) (fun j => j ≤ f.fJoins.length ∧ R = jnG (pv f.fJoins j) (f.fJoins.drop j)) (fun j => f.fJoins.length - j) 0 covT_ ⟨by omega, hF⟩ (fun j hj => ?_)
  clear hF
  obtain ⟨hj1, hj2⟩ := hj
  (conv => whnf)
  (repeat (refine stg_ ?_))
  (refine br_ (fun h2 => ?_) (fun h2 => ?_) <;> (repeat (refine stg_ ?_)))
  · obtain ⟨x, hx⟩ := at_lt' (xs := f.fJoins) (k := j) (by omega)
    rw [jnG_at hx] at hj2
    rcases Nat.eq_zero_or_pos j with rfl | h0
    · rw [pv_zero, ltJ, Bool.true_and] at hj2
      (repeat' (first | (refine stg_ ?_) | (refine cla_ (l25Join_v x) ?_) | (refine br_ (fun hbr => ?_) (fun hbr => ?_))))
      all_goals first | (exfalso; omega) | ((refine RetOK.d rfl rfl ?_; conv => whnf); simp_all; done) | skip
      all_goals exact NextW.go (0 + 1) covT_ ⟨by omega, by simp_all⟩ (by omega)
    · obtain ⟨p, hp⟩ := at_lt' (xs := f.fJoins) (k := j - 1) (by omega)
      have hp' : (f.fJoins.map TJoin.D)[((j : Int) - 1).toNat]? = some p.D := by
        have : ((j : Int) - 1).toNat = j - 1 := by omega
        rw [this, List.getElem?_map, hp]; rfl
      rw [pv_pos _ h0, hp, ltJ] at hj2
      (repeat' (first | (refine stg_ ?_) | (refine cla_ (l25Join_v x) ?_) | (refine IxW.at (by omega) hp' ?_; (conv => whnf)) | (refine br_ (fun hbr => ?_) (fun hbr => ?_))))
      all_goals first | (exfalso; omega) | ((refine RetOK.d rfl rfl ?_; conv => whnf); simp_all; done) | ((refine RetOK.d rfl rfl ?_; conv => whnf); rw [hj2, show decide (p.fGlyph < x.fGlyph) = false by (rw [decide_eq_false_iff_not]; omega)]; simp; done) | skip
      all_goals exact NextW.go (j + 1) covT_ ⟨by omega, by simp_all⟩ (by omega)
  · (refine RetOK.d rfl rfl ?_; conv => whnf)
    rw [hj2, jnG_end (by omega)]
end Go.Proofs.YtcachhipflibkaaGreat
