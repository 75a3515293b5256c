/- The map of an axis (reference), by the machine. -/
import Derived.Test.YtdjdkkacbkfmeaaAxV2
import Derived.Test.YtdjdkkacbkfmeaaDt
set_option linter.unusedSimpArgs false
set_option linter.unusedVariables false
namespace Go.Proofs.Ytdjdkkacbkfmeaa
open Go.RowKit
set_option maxHeartbeats 4000000 in
theorem l29Map_v (xs : List TAxisPoint) : PC Try.prog 181 [.d (.lst (xs.map TAxisPoint.D))] (.d (.bool (mapB xs))) [] := by
  refine pc_intro ttOk (by kernel_rfl) Try.func181 rfl (by kernel_rfl) (by kernel_rfl) (by kernel_rfl) (fun hw => ?_)
  have hL : (xs.map TAxisPoint.D).length = xs.length := List.length_map _
  have hm : (xs.map TAxisPoint.D).length ≤ 9223372036854775807 := hw.1.1
  (conv => whnf)
  (refine br_ (fun h1 => ?_) (fun h1 => ?_) <;> (repeat (refine stg_ ?_)))
  · (refine RetOK.d rfl rfl ?_; conv => whnf)
    have : xs = [] := List.eq_nil_of_length_eq_zero (by omega)
    subst this
    rfl
  · have h0 : 0 < xs.length := by omega
    refine LoopW.go (α := Nat) (fun k => [(0, .d (.lst (xs.map TAxisPoint.D))), (3, .d (.int .i64 (fixN (xs.take k)))), (4, .d (.int .i64 k))]) (fun _ => [.gone]) (fun k => k ≤ xs.length ∧ mpGo none xs = mpGo (pv xs k) (xs.drop k)) (fun k => xs.length - k) 0 (Weak.cov ⟨rfl, rfl, rfl, trivial⟩ ⟨trivial, trivial⟩ rfl) ⟨by omega, rfl⟩ (fun k hp => ?_)
    obtain ⟨hk, hg⟩ := hp
    have hfl := fixN_le (xs.take k)
    have hfl2 : (xs.take k).length ≤ k := List.length_take_le k xs
    (conv => whnf)
    (refine br_ (fun h2 => ?_) (fun h2 => ?_) <;> (repeat (refine stg_ ?_)))
    · have h2' : k < xs.length := by omega
      obtain ⟨x, hx⟩ := at_lt' h2'
      rw [drop_at hx, mpGo_cons] at hg
      have hF := fixN_take hx
      cases hA : nrm x.fFrom with
      | false =>
        have c1 := l29Normal_v x.fFrom
        rw [hA] at c1
        (repeat (refine stg_ ?_))
        (refine cl_ (c1) ?_)
        (refine RetOK.d rfl rfl ?_; conv => whnf)
        rw [mapB_no h0 (by rw [hg, apB, hA]; rfl)]
      | true =>
        have c1 := l29Normal_v x.fFrom
        rw [hA] at c1
        cases hB : nrm x.fTo with
        | false =>
          have c2 := l29Normal_v x.fTo
          rw [hB] at c2
          (repeat (refine stg_ ?_))
          (refine cl_ (c1) ?_)
          (repeat (refine stg_ ?_))
          (refine cl_ (c2) ?_)
          (repeat (refine stg_ ?_))
          (refine RetOK.d rfl rfl ?_; conv => whnf)
          rw [mapB_no h0 (by rw [hg, apB, hA, hB]; rfl)]
        | true =>
          have c2 := l29Normal_v x.fTo
          rw [hB] at c2
          have hAB : apB x = true := by rw [apB, hA, hB]; rfl
          rw [hAB, Bool.true_and] at hg
          (repeat (refine stg_ ?_))
          (refine cl_ (c1) ?_)
          (repeat (refine stg_ ?_))
          (refine cl_ (c2) ?_)
          (repeat (refine stg_ ?_))
          (refine br_ (fun h3 => ?_) (fun h3 => ?_) <;> (repeat (refine stg_ ?_)))
          · obtain ⟨y, hy⟩ := at_lt' (xs := xs) (k := k - 1) (by omega)
            rw [pv_pos xs (by omega), hy] at hg
            have hy' : (xs.map TAxisPoint.D)[((k : Int) - 1).toNat]? = some y.D := by
              have : ((k : Int) - 1).toNat = k - 1 := by omega
              rw [this, List.getElem?_map, hy]; rfl
            have hlt : ltO (some y) x = (decide (y.fFrom < x.fFrom) && decide (y.fTo ≤ x.fTo)) := rfl
            refine IxW.at (by omega) hy' ?_
            (conv => whnf)
            (refine br_ (fun h4 => ?_) (fun h4 => ?_) <;> (repeat (refine stg_ ?_)))
            · (refine RetOK.d rfl rfl ?_; conv => whnf)
              rw [mapB_no h0 (by rw [hg, hlt, decide_eq_false (by omega)]; rfl)]
            · (repeat (refine stg_ ?_))
              refine IxW.at (by omega) hy' ?_
              (conv => whnf)
              (refine br_ (fun h5 => ?_) (fun h5 => ?_) <;> (repeat (refine stg_ ?_)))
              · (refine RetOK.d rfl rfl ?_; conv => whnf)
                rw [mapB_no h0 (by rw [hg, hlt, decide_eq_false (p := y.fTo ≤ x.fTo) (by omega), Bool.and_false, Bool.false_and])]
              · rw [hlt, decide_eq_true (p := y.fFrom < x.fFrom) (by omega), decide_eq_true (by omega), Bool.true_and, Bool.true_and] at hg
                (repeat' (first | (refine stg_ ?_) | (split <;> (conv => whnf))))
                all_goals (first | (have hb : fixB x = true := (by simp_all [fixB]); refine NextW.go (k + 1) (Weak.cov ⟨rfl, (by (show _ = V.d (D.int .i64 ((fixN (xs.take (k + 1)) : Nat) : Int))); rw [hF, if_pos hb]; rfl), rfl, trivial⟩ ⟨trivial, trivial⟩ rfl) ⟨by omega, by rw [pv_succ, hx, hg]⟩ (by omega)) | (have hb : ¬ fixB x = true := (by simp_all [fixB]); refine NextW.go (k + 1) (Weak.cov ⟨rfl, (by (show _ = V.d (D.int .i64 ((fixN (xs.take (k + 1)) : Nat) : Int))); rw [hF, if_neg hb]; rfl), rfl, trivial⟩ ⟨trivial, trivial⟩ rfl) ⟨by omega, by rw [pv_succ, hx, hg]⟩ (by omega)))
          · have : k = 0 := by omega
            have hlt : ltO (pv xs k) x = true := by rw [this]; rfl
            rw [hlt, Bool.true_and] at hg
            (repeat' (first | (refine stg_ ?_) | (split <;> (conv => whnf))))
            all_goals (first | (have hb : fixB x = true := (by simp_all [fixB]); refine NextW.go (k + 1) (Weak.cov ⟨rfl, (by (show _ = V.d (D.int .i64 ((fixN (xs.take (k + 1)) : Nat) : Int))); rw [hF, if_pos hb]; rfl), rfl, trivial⟩ ⟨trivial, trivial⟩ rfl) ⟨by omega, by rw [pv_succ, hx, hg]⟩ (by omega)) | (have hb : ¬ fixB x = true := (by simp_all [fixB]); refine NextW.go (k + 1) (Weak.cov ⟨rfl, (by (show _ = V.d (D.int .i64 ((fixN (xs.take (k + 1)) : Nat) : Int))); rw [hF, if_neg hb]; rfl), rfl, trivial⟩ ⟨trivial, trivial⟩ rfl) ⟨by omega, by rw [pv_succ, hx, hg]⟩ (by omega)))
    · have : k = xs.length := by omega
      subst this
      rw [List.drop_length] at hg
      rw [List.take_length] at *
      have hg : mpGo none xs = true := by rw [hg]; cases pv xs xs.length <;> rfl
      (repeat' (first | (refine stg_ ?_) | (split <;> (conv => whnf))))
      · rename_i he
        (refine RetOK.d rfl rfl ?_; conv => whnf)
        have he' : fixN xs = 3 := by simp at he; omega
        rw [mapB_yes h0 hg, decide_eq_true he', Bool.true_and, hL]
        congr 1
        exact decide_eq_decide.2 (by omega)
      · rename_i he
        (refine RetOK.d rfl rfl ?_; conv => whnf)
        have he' : ¬ fixN xs = 3 := by simp at he; omega
        rw [mapB_yes h0 hg, decide_eq_false he', Bool.false_and]
end Go.Proofs.Ytdjdkkacbkfmeaa
