/- The map of an axis (the program's own function), by the machine. -/
import Derived.Test.YtdjdkkacbkfmeaaAxV5
set_option linter.unusedSimpArgs false
set_option linter.unusedVariables false
namespace Go.Proofs.Ytdjdkkacbkfmeaa
open Go.RowKit
set_option maxHeartbeats 4000000 in
theorem validAxisMap_v (xs : List TAxisPoint) : PC Try.prog 161 [.d (.lst (xs.map TAxisPoint.D))] (.d (.bool (mapB xs))) [] := by
  refine pc_intro ttOk (by kernel_rfl) Try.func161 rfl (by kernel_rfl) (by kernel_rfl) (by kernel_rfl) (fun hw => ?_)
  have hL : (xs.map TAxisPoint.D).length = xs.length := List.length_map _
  have hm : (xs.map TAxisPoint.D).length ≤ 9223372036854775807 := hw.1.1
  (conv => whnf)
  split
  · rename_i h1
    (conv => whnf)
    (refine RetOK.d rfl rfl ?_; conv => whnf)
    have : xs = [] := List.eq_nil_of_length_eq_zero (by simp at h1; simpa using h1)
    subst this
    rfl
  · rename_i h1
    have h0 : 0 < xs.length := by
      have : ¬ xs.length = 0 := by intro hz; simp [hz] at h1
      omega
    (conv => whnf)
    refine LoopW.go (α := Nat) (fun k => [(0, .d (.lst (xs.map TAxisPoint.D))), (10, .d (.lst (xs.map TAxisPoint.D))), (11, .d (.int .i64 (xs.map TAxisPoint.D).length)), (12, .d (.int .i64 k))]) (fun _ => [.gone]) (fun k => k ≤ xs.length ∧ mpGo none xs = mpGo (pv xs k) (xs.drop k)) (fun k => xs.length - k) 0 (Weak.cov ⟨rfl, rfl, rfl, rfl, trivial⟩ ⟨trivial, trivial⟩ rfl) ⟨by omega, rfl⟩ (fun k hp => ?_)
    obtain ⟨hk, hg⟩ := hp
    (conv => whnf)
    (refine br_ (fun h2 => ?_) (fun h2 => ?_) <;> (repeat (refine stg_ ?_)))
    · have h2' : k < xs.length := by omega
      obtain ⟨x, hx⟩ := at_lt' h2'
      rw [drop_at hx, mpGo_cons] at hg
      cases hA : nrm x.fFrom with
      | false =>
        have c1 := isNormal_v x.fFrom
        rw [hA] at c1
        (repeat (refine stg_ ?_))
        (refine cl_ (c1) ?_)
        (refine RetOK.d rfl rfl ?_; conv => whnf)
        rw [mapB_no h0 (by rw [hg, apB, hA]; rfl)]
      | true =>
        have c1 := isNormal_v x.fFrom
        rw [hA] at c1
        cases hB : nrm x.fTo with
        | false =>
          have c2 := isNormal_v x.fTo
          rw [hB] at c2
          (repeat (refine stg_ ?_))
          (refine cl_ (c1) ?_)
          (repeat (refine stg_ ?_))
          (refine cl_ (c2) ?_)
          (repeat (refine stg_ ?_))
          (refine RetOK.d rfl rfl ?_; conv => whnf)
          rw [mapB_no h0 (by rw [hg, apB, hA, hB]; rfl)]
        | true =>
          have c2 := isNormal_v x.fTo
          rw [hB] at c2
          have hAB : apB x = true := by rw [apB, hA, hB]; rfl
          rw [hAB, Bool.true_and] at hg
          (repeat (refine stg_ ?_))
          (refine cl_ (c1) ?_)
          (repeat (refine stg_ ?_))
          (refine cl_ (c2) ?_)
          (repeat (refine stg_ ?_))
          (refine br_ (fun h3 => ?_) (fun h3 => ?_) <;> (repeat (refine stg_ ?_)))
          · obtain ⟨y, hy⟩ := at_lt' (xs := xs) (k := k - 1) (by omega)
            rw [pv_pos xs (by omega), hy] at hg
            have hy' : (xs.map TAxisPoint.D)[((k : Int) - 1).toNat]? = some y.D := by
              have : ((k : Int) - 1).toNat = k - 1 := by omega
              rw [this, List.getElem?_map, hy]; rfl
            have hlt : ltO (some y) x = (decide (y.fFrom < x.fFrom) && decide (y.fTo ≤ x.fTo)) := rfl
            refine IxW.at (by omega) hy' ?_
            (conv => whnf)
            (refine br_ (fun h4 => ?_) (fun h4 => ?_) <;> (repeat (refine stg_ ?_)))
            · (refine RetOK.d rfl rfl ?_; conv => whnf)
              rw [mapB_no h0 (by rw [hg, hlt, decide_eq_false (by omega)]; rfl)]
            · (repeat (refine stg_ ?_))
              refine IxW.at (by omega) hy' ?_
              (conv => whnf)
              (refine br_ (fun h5 => ?_) (fun h5 => ?_) <;> (repeat (refine stg_ ?_)))
              · (refine RetOK.d rfl rfl ?_; conv => whnf)
                rw [mapB_no h0 (by rw [hg, hlt, decide_eq_false (p := y.fTo ≤ x.fTo) (by omega), Bool.and_false, Bool.false_and])]
              · rw [hlt, decide_eq_true (p := y.fFrom < x.fFrom) (by omega), decide_eq_true (by omega), Bool.true_and, Bool.true_and] at hg
                (repeat (refine stg_ ?_))
                exact NextW.go (k + 1) (Weak.cov ⟨rfl, rfl, rfl, rfl, trivial⟩ ⟨trivial, trivial⟩ rfl) ⟨by omega, by rw [pv_succ, hx, hg]⟩ (by omega)
          · have : k = 0 := by omega
            have hlt : ltO (pv xs k) x = true := by rw [this]; rfl
            rw [hlt, Bool.true_and] at hg
            (repeat (refine stg_ ?_))
            exact NextW.go (k + 1) (Weak.cov ⟨rfl, rfl, rfl, rfl, trivial⟩ ⟨trivial, trivial⟩ rfl) ⟨by omega, by rw [pv_succ, hx, hg]⟩ (by omega)
    · have : k = xs.length := by omega
      subst this
      rw [List.drop_length] at hg
      have hg : mpGo none xs = true := by rw [hg]; cases pv xs xs.length <;> rfl
      (repeat (refine stg_ ?_))
      have hH : ∀ n : Int, xs.any (apEq ⟨n, n⟩) = hasB n xs := fun n => by simp only [hasB]; congr 1; funext x; simp [apEq]
      have hM := mapB_yes h0 hg
      rw [mapB_has xs hg] at hM
      refine LoopW.go (α := Nat) (fun k => [(0, .d (.lst (xs.map TAxisPoint.D))), (54, .own 1 0 3), (55, .d (.int .i64 3)), (56, .d (.int .i64 k))]) (fun _ => [.gone, .arr 1 [.int .i64 (-16384), .int .i64 0, .int .i64 16384] true]) (fun k => k ≤ 3 ∧ (0 < k → hasB (-16384) xs = true) ∧ (1 < k → hasB 0 xs = true) ∧ (2 < k → hasB 16384 xs = true)) (fun k => 3 - k) 0 (Weak.cov ⟨rfl, rfl, rfl, rfl, trivial⟩ ⟨trivial, rfl, trivial⟩ rfl) ⟨by omega, by omega, by omega, by omega⟩ (fun k hp => ?_)
      obtain ⟨hk, h0', h1', h2'⟩ := hp
      (conv => whnf)
      (refine br_ (fun h6 => ?_) (fun h6 => ?_) <;> (repeat (refine stg_ ?_)))
      · obtain rfl | rfl | rfl : k = 0 ∨ k = 1 ∨ k = 2 := by omega
        · have c := ct_v xs ⟨-16384, -16384⟩
          rw [hH] at c
          cases hb : hasB (-16384) xs with
          | false =>
            rw [hb] at c
            (repeat (refine stg_ ?_))
            refine EoW.at (y := .int .i64 (-16384)) rfl ?_
            (conv => whnf)
            (repeat (refine stg_ ?_))
            (apply CallW.use c; (focus exact ⟨_, _, rfl, rfl, _, _, rfl, ⟨_, rfl, _, rfl, _, _, rfl, rfl, _, _, rfl, rfl, rfl⟩, rfl⟩); (focus rfl); (conv => whnf))
            (refine RetOK.d rfl rfl ?_; conv => whnf)
            rw [hM, hb]; simp
          | true =>
            rw [hb] at c
            (repeat (refine stg_ ?_))
            refine EoW.at (y := .int .i64 (-16384)) rfl ?_
            (conv => whnf)
            (repeat (refine stg_ ?_))
            (apply CallW.use c; (focus exact ⟨_, _, rfl, rfl, _, _, rfl, ⟨_, rfl, _, rfl, _, _, rfl, rfl, _, _, rfl, rfl, rfl⟩, rfl⟩); (focus rfl); (conv => whnf))
            (repeat (refine stg_ ?_))
            exact NextW.go 1 (Weak.cov ⟨rfl, rfl, rfl, rfl, trivial⟩ ⟨trivial, rfl, trivial⟩ rfl) ⟨by omega, by intro hh; first | exact hb | rfl | exact h0' (by omega), by intro hh; first | (exfalso; omega) | exact hb | rfl | exact h1' (by omega), by intro hh; first | (exfalso; omega) | exact hb | rfl⟩ (by omega)
        · have c := ct_v xs ⟨0, 0⟩
          rw [hH] at c
          cases hb : hasB (0) xs with
          | false =>
            rw [hb] at c
            (repeat (refine stg_ ?_))
            refine EoW.at (y := .int .i64 (0)) rfl ?_
            (conv => whnf)
            (repeat (refine stg_ ?_))
            (apply CallW.use c; (focus exact ⟨_, _, rfl, rfl, _, _, rfl, ⟨_, rfl, _, rfl, _, _, rfl, rfl, _, _, rfl, rfl, rfl⟩, rfl⟩); (focus rfl); (conv => whnf))
            (refine RetOK.d rfl rfl ?_; conv => whnf)
            rw [hM, hb]; simp
          | true =>
            rw [hb] at c
            (repeat (refine stg_ ?_))
            refine EoW.at (y := .int .i64 (0)) rfl ?_
            (conv => whnf)
            (repeat (refine stg_ ?_))
            (apply CallW.use c; (focus exact ⟨_, _, rfl, rfl, _, _, rfl, ⟨_, rfl, _, rfl, _, _, rfl, rfl, _, _, rfl, rfl, rfl⟩, rfl⟩); (focus rfl); (conv => whnf))
            (repeat (refine stg_ ?_))
            exact NextW.go 2 (Weak.cov ⟨rfl, rfl, rfl, rfl, trivial⟩ ⟨trivial, rfl, trivial⟩ rfl) ⟨by omega, by intro hh; first | exact hb | rfl | exact h0' (by omega), by intro hh; first | (exfalso; omega) | exact hb | rfl | exact h1' (by omega), by intro hh; first | (exfalso; omega) | exact hb | rfl⟩ (by omega)
        · have c := ct_v xs ⟨16384, 16384⟩
          rw [hH] at c
          cases hb : hasB (16384) xs with
          | false =>
            rw [hb] at c
            (repeat (refine stg_ ?_))
            refine EoW.at (y := .int .i64 (16384)) rfl ?_
            (conv => whnf)
            (repeat (refine stg_ ?_))
            (apply CallW.use c; (focus exact ⟨_, _, rfl, rfl, _, _, rfl, ⟨_, rfl, _, rfl, _, _, rfl, rfl, _, _, rfl, rfl, rfl⟩, rfl⟩); (focus rfl); (conv => whnf))
            (refine RetOK.d rfl rfl ?_; conv => whnf)
            rw [hM, hb]; simp
          | true =>
            rw [hb] at c
            (repeat (refine stg_ ?_))
            refine EoW.at (y := .int .i64 (16384)) rfl ?_
            (conv => whnf)
            (repeat (refine stg_ ?_))
            (apply CallW.use c; (focus exact ⟨_, _, rfl, rfl, _, _, rfl, ⟨_, rfl, _, rfl, _, _, rfl, rfl, _, _, rfl, rfl, rfl⟩, rfl⟩); (focus rfl); (conv => whnf))
            (repeat (refine stg_ ?_))
            exact NextW.go 3 (Weak.cov ⟨rfl, rfl, rfl, rfl, trivial⟩ ⟨trivial, rfl, trivial⟩ rfl) ⟨by omega, by intro hh; first | exact hb | rfl | exact h0' (by omega), by intro hh; first | (exfalso; omega) | exact hb | rfl | exact h1' (by omega), by intro hh; first | (exfalso; omega) | exact hb | rfl⟩ (by omega)
      · (refine RetOK.d rfl rfl ?_; conv => whnf)
        rw [hM, h0' (by omega), h1' (by omega), h2' (by omega), hL]
        simp
        try omega
end Go.Proofs.Ytdjdkkacbkfmeaa
