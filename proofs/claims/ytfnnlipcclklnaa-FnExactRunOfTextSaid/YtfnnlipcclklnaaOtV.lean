/- Points and outlines: validity, both, by the machine. -/
import Derived.Test.YtfnnlipcclklnaaEncP
import Derived.Test.YtfnnlipcclklnaaAxV1
import Derived.Test.YtfnnlipcclklnaaDt
set_option linter.unusedSimpArgs false
set_option linter.unusedVariables false
namespace Go.Proofs.Ytfnnlipcclklnaa
open Go.RowKit
theorem ValidPt_v (p : TPt) : PC Try.prog 50 [.d p.D] (.d (.bool (pntB p))) [] := by
  refine pc_intro ttOk (by kernel_rfl) Try.func50 rfl (by kernel_rfl) (by kernel_rfl) (by kernel_rfl) (fun hw => ?_)
  (conv => whnf)
  (repeat' (first | (refine stg_ ?_) | fail | (refine br_ (fun hbr => ?_) (fun hbr => ?_))))
  all_goals ((refine RetOK.d rfl rfl ?_; conv => whnf); (try simp_all [pntB, inB]); (try (rw [Bool.eq_iff_iff]; simp)); (try omega))
theorem l03Ok_v (p : TPt) : PC Try.prog 43 [.d p.D] (.d (.bool (pntB p))) [] := by
  refine pc_intro ttOk (by kernel_rfl) Try.func43 rfl (by kernel_rfl) (by kernel_rfl) (by kernel_rfl) (fun hw => ?_)
  (conv => whnf)
  (repeat' (first | (refine stg_ ?_) | (refine cl_ (l00In_v _ _ _) ?_) | (refine br_ (fun hbr => ?_) (fun hbr => ?_))))
  all_goals ((refine RetOK.d rfl rfl ?_; conv => whnf); (try simp_all [pntB]))
set_option maxHeartbeats 1000000 in
theorem ixKnot_v (xs : List TKnot) (f : Nat) (p : TKnot → Bool) (hf : ∀ x : TKnot, PC Try.prog f [.d x.D] (.d (.bool (p x))) []) :
    PC Try.prog 84 [.d (.lst (xs.map TKnot.D)), .fn (.func f) []] (.d (.int .i64 (fdx p xs 0))) [] := by
  refine pc_intro ttOk (by kernel_rfl) Try.func84 rfl (by kernel_rfl) (by kernel_rfl) (by kernel_rfl) (fun hw => ?_)
  have hL : (xs.map TKnot.D).length = xs.length := List.length_map _
  have hm : (xs.map TKnot.D).length ≤ 9223372036854775807 := hw.1.1
  (conv => whnf)
  refine LoopW.go (α := Nat) (fun k => [(0, .d (.lst (xs.map TKnot.D))), (1, .fn (.func f) []), (7, .d (.int .i64 (xs.map TKnot.D).length)), (8, .d (.int .i64 k))]) (fun k => [.gone]) (fun k => k ≤ xs.length ∧ fdx p xs 0 = fdx p (xs.drop k) k) (fun k => xs.length - k) 0 covT_ ?_ (fun k hk => ?_)
  · exact ⟨by omega, rfl⟩
  obtain ⟨hk1, hk2⟩ := hk
  (conv => whnf)
  (refine br_ (fun h2 => ?_) (fun h2 => ?_) <;> (repeat (refine stg_ ?_)))
  · obtain ⟨x, hx⟩ := at_lt' (xs := xs) (k := k) (by omega)
    rw [fdx_at hx] at hk2
    (repeat (refine stg_ ?_))
    (refine cla_ (hf x) ?_)
    (refine br_ (fun h3 => ?_) (fun h3 => ?_) <;> (repeat (refine stg_ ?_)))
    · (refine RetOK.d rfl rfl ?_; conv => whnf)
      rw [hk2, if_pos h3]
    · (repeat (refine stg_ ?_))
      exact NextW.go (k + 1) covT_ ⟨by omega, by rw [hk2, h3]; rfl⟩ (by omega)
  · (refine RetOK.d rfl rfl ?_; conv => whnf)
    rw [hk2, fdx_end (by omega)]
theorem ctKnot_v (xs : List TKnot) (f : Nat) (p : TKnot → Bool) (hf : ∀ x : TKnot, PC Try.prog f [.d x.D] (.d (.bool (p x))) []) :
    PC Try.prog 78 [.d (.lst (xs.map TKnot.D)), .fn (.func f) []] (.d (.bool (xs.any p))) [] := by
  refine pc_intro ttOk (by kernel_rfl) Try.func78 rfl (by kernel_rfl) (by kernel_rfl) (by kernel_rfl) (fun hw => ?_)
  (conv => whnf)
  (refine cla_ (ixKnot_v xs f p hf) ?_)
  (refine RetOK.d rfl rfl ?_; conv => whnf)
  rw [← fdx_any p xs 0]

theorem vlN_v (k : TKnot) : PC Try.prog 79 [.d k.D] (.d (.bool (!pntB k.fAt))) [] := by
  refine pc_intro ttOk (by kernel_rfl) Try.func79 rfl (by kernel_rfl) (by kernel_rfl) (by kernel_rfl) (fun hw => ?_)
  (conv => whnf)
  (repeat' (first | (refine stg_ ?_) | (refine cla_ (ValidPt_v k.fAt) ?_) | (refine br_ (fun hbr => ?_) (fun hbr => ?_))))
  all_goals ((refine RetOK.d rfl rfl ?_; conv => whnf); try rfl)
theorem ValidLoop_v (l : TLoop) : PC Try.prog 68 [.d l.D] (.d (.bool (loopB l))) [] := by
  refine pc_intro ttOk (by kernel_rfl) Try.func68 rfl (by kernel_rfl) (by kernel_rfl) (by kernel_rfl) (fun hw => ?_)
  have hL : (l.fKnots.map TKnot.D).length = l.fKnots.length := List.length_map _
  have hA : l.fKnots.all (fun k => pntB k.fAt) = !l.fKnots.any (fun k => !pntB k.fAt) := by rw [List.all_eq_not_any_not]
  rcases Nat.eq_zero_or_pos l.fKnots.length with h0 | h0
  · (conv => whnf)
    (repeat' (first | (refine stg_ ?_) | fail | (refine br_ (fun hbr => ?_) (fun hbr => ?_))))
    all_goals first | (exfalso; omega) | ((refine RetOK.d rfl rfl ?_; conv => whnf); simp [loopB, h0])
  · obtain ⟨x, hx⟩ := at_lt' (xs := l.fKnots) (k := 0) h0
    have hx' : (l.fKnots.map TKnot.D)[0]? = some x.D := by rw [List.getElem?_map, hx]; rfl
    (conv => whnf)
    (repeat' (first | (refine stg_ ?_) | (refine cla_ (ctKnot_v l.fKnots _ (fun k => !pntB k.fAt) vlN_v) ?_) | (refine br_ (fun hbr => ?_) (fun hbr => ?_))))
    all_goals ((refine RetOK.d rfl rfl ?_; conv => whnf); rw [loopB, hA, hx, decide_eq_true (show 1 ≤ l.fKnots.length by omega)]; (first | rw [decide_eq_true (show l.fKnots.length ≤ 60 by omega)] | rw [decide_eq_false (show ¬ l.fKnots.length ≤ 60 by omega)]); first | (simp_all; done) | (simp_all; omega))
set_option maxHeartbeats 1000000 in
theorem ixLoop_v (xs : List TLoop) (f : Nat) (p : TLoop → Bool) (hf : ∀ x : TLoop, PC Try.prog f [.d x.D] (.d (.bool (p x))) []) :
    PC Try.prog 77 [.d (.lst (xs.map TLoop.D)), .fn (.func f) []] (.d (.int .i64 (fdx p xs 0))) [] := by
  refine pc_intro ttOk (by kernel_rfl) Try.func77 rfl (by kernel_rfl) (by kernel_rfl) (by kernel_rfl) (fun hw => ?_)
  have hL : (xs.map TLoop.D).length = xs.length := List.length_map _
  have hm : (xs.map TLoop.D).length ≤ 9223372036854775807 := hw.1.1
  (conv => whnf)
  refine LoopW.go (α := Nat) (fun k => [(0, .d (.lst (xs.map TLoop.D))), (1, .fn (.func f) []), (7, .d (.int .i64 (xs.map TLoop.D).length)), (8, .d (.int .i64 k))]) (fun k => [.gone]) (fun k => k ≤ xs.length ∧ fdx p xs 0 = fdx p (xs.drop k) k) (fun k => xs.length - k) 0 covT_ ?_ (fun k hk => ?_)
  · exact ⟨by omega, rfl⟩
  obtain ⟨hk1, hk2⟩ := hk
  (conv => whnf)
  (refine br_ (fun h2 => ?_) (fun h2 => ?_) <;> (repeat (refine stg_ ?_)))
  · obtain ⟨x, hx⟩ := at_lt' (xs := xs) (k := k) (by omega)
    rw [fdx_at hx] at hk2
    (repeat (refine stg_ ?_))
    (refine cla_ (hf x) ?_)
    (refine br_ (fun h3 => ?_) (fun h3 => ?_) <;> (repeat (refine stg_ ?_)))
    · (refine RetOK.d rfl rfl ?_; conv => whnf)
      rw [hk2, if_pos h3]
    · (repeat (refine stg_ ?_))
      exact NextW.go (k + 1) covT_ ⟨by omega, by rw [hk2, h3]; rfl⟩ (by omega)
  · (refine RetOK.d rfl rfl ?_; conv => whnf)
    rw [hk2, fdx_end (by omega)]
theorem ctLoop_v (xs : List TLoop) (f : Nat) (p : TLoop → Bool) (hf : ∀ x : TLoop, PC Try.prog f [.d x.D] (.d (.bool (p x))) []) :
    PC Try.prog 66 [.d (.lst (xs.map TLoop.D)), .fn (.func f) []] (.d (.bool (xs.any p))) [] := by
  refine pc_intro ttOk (by kernel_rfl) Try.func66 rfl (by kernel_rfl) (by kernel_rfl) (by kernel_rfl) (fun hw => ?_)
  (conv => whnf)
  (refine cla_ (ixLoop_v xs f p hf) ?_)
  (refine RetOK.d rfl rfl ?_; conv => whnf)
  rw [← fdx_any p xs 0]

theorem voN_v (l : TLoop) : PC Try.prog 67 [.d l.D] (.d (.bool (!loopB l))) [] := by
  refine pc_intro ttOk (by kernel_rfl) Try.func67 rfl (by kernel_rfl) (by kernel_rfl) (by kernel_rfl) (fun hw => ?_)
  (conv => whnf)
  (repeat' (first | (refine stg_ ?_) | (refine cla_ (ValidLoop_v l) ?_) | (refine br_ (fun hbr => ?_) (fun hbr => ?_))))
  all_goals ((refine RetOK.d rfl rfl ?_; conv => whnf); try rfl)
theorem ValidOutline_v (o : TOutline) : PC Try.prog 49 [.d o.D] (.d (.bool (outB o))) [] := by
  refine pc_intro ttOk (by kernel_rfl) Try.func49 rfl (by kernel_rfl) (by kernel_rfl) (by kernel_rfl) (fun hw => ?_)
  have hL : (o.fLoops.map TLoop.D).length = o.fLoops.length := List.length_map _
  have hA : o.fLoops.all loopB = !o.fLoops.any (fun l => !loopB l) := by rw [List.all_eq_not_any_not]
  (conv => whnf)
  (repeat' (first | (refine stg_ ?_) | (refine cla_ (ctLoop_v o.fLoops _ (fun l => !loopB l) voN_v) ?_) | (refine br_ (fun hbr => ?_) (fun hbr => ?_))))
  all_goals ((refine RetOK.d rfl rfl ?_; conv => whnf); rw [outB, hA]; first | (simp_all; done) | (simp_all; omega))
theorem l10Loop_v (l : TLoop) : PC Try.prog 60 [.pX l.D] (.d (.bool (loopB l))) [] := by
  refine pc_intro ttOk (by kernel_rfl) Try.func60 rfl (by kernel_rfl) (by kernel_rfl) (by kernel_rfl) (fun hw => ?_)
  have hL : (l.fKnots.map TKnot.D).length = l.fKnots.length := List.length_map _
  have hm : (l.fKnots.map TKnot.D).length ≤ 9223372036854775807 := hw.1.1.1
  rcases Nat.eq_zero_or_pos l.fKnots.length with h0 | h0
  · (conv => whnf)
    (try (refine RegD.auto (by kernel_rfl) ?_; conv => whnf))
    (repeat' (first | (refine stg_ ?_) | (refine cl_ (l00In_v _ _ _) ?_) | (refine br_ (fun hbr => ?_) (fun hbr => ?_))))
    all_goals first | (exfalso; simp_all [inB]; done) | ((refine RetOK.d rfl rfl ?_; conv => whnf); simp [loopB, h0])
  · obtain ⟨x, hx⟩ := at_lt' (xs := l.fKnots) (k := 0) h0
    have hx' : (l.fKnots.map TKnot.D)[0]? = some x.D := by rw [List.getElem?_map, hx]; rfl
    (conv => whnf)
    (try (refine RegD.auto (by kernel_rfl) ?_; conv => whnf))
    (repeat' (first | (refine stg_ ?_) | (refine cl_ (l00In_v _ _ _) ?_) | (refine br_ (fun hbr => ?_) (fun hbr => ?_))))
    all_goals first | ((refine RetOK.d rfl rfl ?_; conv => whnf); rw [loopB, hx]; simp_all [inB]; done) | ((refine RetOK.d rfl rfl ?_; conv => whnf); rw [loopB, hx]; simp_all [inB]; omega) | skip
    have hE : loopB l = l.fKnots.all (fun k => pntB k.fAt) := by
      have h6 : l.fKnots.length ≤ 60 := by
        apply Classical.byContradiction
        intro h6
        simp_all [inB]
        omega
      rw [loopB, hx, decide_eq_true (show 1 ≤ l.fKnots.length by omega), decide_eq_true h6]; simp_all
    refine LoopW.go (α := Nat) (fun k => [(0, .pX l.D), (3, .d (.int .i64 k))]) (fun k => [.gone]) (fun k => k ≤ l.fKnots.length ∧ loopB l = (l.fKnots.drop k).all (fun k => pntB k.fAt)) (fun k => l.fKnots.length - k) 0 covT_ ?_ (fun k hk => ?_)
    · exact ⟨by omega, hE⟩
    obtain ⟨hk1, hk2⟩ := hk
    (conv => whnf)
    (refine br_ (fun h2 => ?_) (fun h2 => ?_) <;> (repeat (refine stg_ ?_)))
    · obtain ⟨y, hy⟩ := at_lt' (xs := l.fKnots) (k := k) (by omega)
      rw [drop_at hy, List.all_cons] at hk2
      (repeat' (first | (refine stg_ ?_) | (refine cla_ (l03Ok_v y.fAt) ?_) | (refine br_ (fun hbr => ?_) (fun hbr => ?_))))
      all_goals first | ((refine RetOK.d rfl rfl ?_; conv => whnf); simp_all; done) | exact NextW.go (k + 1) covT_ ⟨by omega, by simp_all⟩ (by omega)
    · (refine RetOK.d rfl rfl ?_; conv => whnf)
      rw [hk2, List.drop_eq_nil_of_le (by omega)]; rfl
theorem l10Ok_v (o : TOutline) : PC Try.prog 42 [.pX o.D] (.d (.bool (outB o))) [] := by
  refine pc_intro ttOk (by kernel_rfl) Try.func42 rfl (by kernel_rfl) (by kernel_rfl) (by kernel_rfl) (fun hw => ?_)
  have hL : (o.fLoops.map TLoop.D).length = o.fLoops.length := List.length_map _
  have hm : (o.fLoops.map TLoop.D).length ≤ 9223372036854775807 := hw.1.1.1
  (conv => whnf)
  refine LoopW.go (α := Nat) (fun k => [(0, .pX o.D), (3, .d (.int .i64 k))]) (fun k => [.gone]) (fun k => k ≤ o.fLoops.length ∧ o.fLoops.all loopB = (o.fLoops.drop k).all loopB) (fun k => o.fLoops.length - k) 0 covT_ ?_ (fun k hk => ?_)
  · exact ⟨by omega, rfl⟩
  obtain ⟨hk1, hk2⟩ := hk
  (conv => whnf)
  (refine br_ (fun h2 => ?_) (fun h2 => ?_) <;> (repeat (refine stg_ ?_)))
  · obtain ⟨y, hy⟩ := at_lt' (xs := o.fLoops) (k := k) (by omega)
    rw [drop_at hy, List.all_cons] at hk2
    (repeat' (first | (refine stg_ ?_) | (refine cla_ (l10Loop_v y) ?_) | (refine br_ (fun hbr => ?_) (fun hbr => ?_))))
    all_goals first | ((refine RetOK.d rfl rfl ?_; conv => whnf); rw [outB]; simp_all; done) | exact NextW.go (k + 1) covT_ ⟨by omega, by simp_all⟩ (by omega)
  · (refine RetOK.d rfl rfl ?_; conv => whnf)
    rw [outB, hk2, List.drop_eq_nil_of_le (by omega), List.all_nil, Bool.and_true]
    congr 1
    rw [Bool.eq_iff_iff]; simp; try omega
end Go.Proofs.Ytfnnlipcclklnaa
