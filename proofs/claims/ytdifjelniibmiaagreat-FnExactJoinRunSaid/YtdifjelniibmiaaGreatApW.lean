/- Where rules apply, which rule applies: both sides, by the machine. -/
import Derived.Test.YtdifjelniibmiaaGreatApV
set_option linter.unusedSimpArgs false
set_option linter.unusedVariables false
namespace Go.Proofs.YtdifjelniibmiaaGreat
open Go.RowKit
theorem inClasses_v (cs : List (List Int)) (xs : List TItem) : PC Tryz.prog 156 [.d (.lst (cs.map (lstD (D.int .i64)))), .d (.lst (xs.map TItem.D))] (.d (.bool (inC cs xs))) [] := by
  refine pc_intro ttOk (by kernel_rfl) Tryz.func156 rfl (by kernel_rfl) (by kernel_rfl) (by kernel_rfl) (fun hw => ?_)
  have hL : (xs.map TItem.D).length = xs.length := List.length_map _
  have hC : (cs.map (lstD (D.int .i64))).length = cs.length := List.length_map _
  have hm : (cs.map (lstD (D.int .i64))).length ≤ 9223372036854775807 := hw.1.1
  (conv => whnf)
  (repeat (refine stg_ ?_))
  (refine br_ (fun h1 => ?_) (fun h1 => ?_) <;> (repeat (refine stg_ ?_)))
  · (repeat (refine stg_ ?_))
    (refine RetOK.d rfl rfl ?_; conv => whnf)
    rw [inC_len (by omega)]
  · have h1 : xs.length = cs.length := by omega
    refine LoopW.go (α := Nat) (fun k => [(1, .d (.lst (xs.map TItem.D))), (12, .d (.lst (cs.map (lstD (D.int .i64))))), (13, .d (.int .i64 (cs.map (lstD (D.int .i64))).length)), (14, .d (.int .i64 k))]) (fun k => [.gone]) (fun k => k ≤ cs.length ∧ inC cs xs = inC (cs.drop k) (xs.drop k)) (fun k => cs.length - k) 0 covT_ ?_ (fun k hk => ?_)
    · exact ⟨by omega, rfl⟩
    obtain ⟨hk1, hk2⟩ := hk
    (conv => whnf)
    (refine br_ (fun h2 => ?_) (fun h2 => ?_) <;> (repeat (refine stg_ ?_)))
    · obtain ⟨c, hc⟩ := at_lt' (xs := cs) (k := k) (by omega)
      obtain ⟨x, hx⟩ := at_lt' (xs := xs) (k := k) (by omega)
      rw [inC_at hc hx] at hk2
      (repeat' (first | (refine stg_ ?_) | (refine cla_ (containsI_v c x.fGlyph) ?_) | (refine br_ (fun hbr => ?_) (fun hbr => ?_))))
      all_goals first | ((refine RetOK.d rfl rfl ?_; conv => whnf); rw [hk2]; simp_all; done) | skip
      all_goals exact NextW.go (k + 1) covT_ ⟨by omega, by rw [hk2]; simp_all⟩ (by omega)
    · (refine RetOK.d rfl rfl ?_; conv => whnf)
      rw [hk2, inC_end (by omega) (by omega)]
theorem cut_map (xs : List TItem) (a n : Nat) : (cut xs a n).map TItem.D = ((xs.map TItem.D).drop a).take n := by rw [cut, List.map_take, List.map_drop]
set_option maxHeartbeats 2000000 in
theorem applies_v (r : TRule) (xs : List TItem) (a : Nat) (hr : ruB r = true) (hx : xs.length ≤ 1000) (ha : a ≤ 1000) : PC Tryz.prog 147 [.d r.D, .d (.lst (xs.map TItem.D)), .d (.int .i64 a)] (.d (.bool (apRu r xs a))) [] := by
  refine pc_intro ttOk (by kernel_rfl) Tryz.func147 rfl (by kernel_rfl) (by kernel_rfl) (by kernel_rfl) (fun hw => ?_)
  have hL : (xs.map TItem.D).length = xs.length := List.length_map _
  have hB : (r.fBefore.map (lstD (D.int .i64))).length = r.fBefore.length := List.length_map _
  have hI : (r.fInput.map (lstD (D.int .i64))).length = r.fInput.length := List.length_map _
  have hA : (r.fAfter.map (lstD (D.int .i64))).length = r.fAfter.length := List.length_map _
  have hn : r.fBefore.length ≤ 4 ∧ r.fInput.length ≤ 4 ∧ r.fAfter.length ≤ 4 := by
    simp only [ruB, fcsB, Bool.and_eq_true, decide_eq_true_eq] at hr
    exact ⟨hr.1.2.1, hr.2.1.2.1, hr.2.2.1.2.1⟩
  have hV : apRu r xs a = (fit r.fInput xs a && (fit r.fBefore xs ((a : Int) - r.fBefore.length) && fit r.fAfter xs ((a : Int) + r.fInput.length))) := rfl
  generalize apRu r xs a = R at hV ⊢
  by_cases h1 : r.fBefore.length ≤ a
  · by_cases h2 : a + r.fInput.length + r.fAfter.length ≤ xs.length
    · have c1 := inClasses_v r.fBefore (cut xs (a - r.fBefore.length) r.fBefore.length)
      have c2 := inClasses_v r.fInput (cut xs a r.fInput.length)
      have c3 := inClasses_v r.fAfter (cut xs (a + r.fInput.length) r.fAfter.length)
      have f1 : fit r.fBefore xs ((a : Int) - r.fBefore.length) = inC r.fBefore (cut xs (a - r.fBefore.length) r.fBefore.length) := by
        rw [fit, decide_eq_true (by omega), decide_eq_true (by omega), Bool.true_and, Bool.true_and, show ((a : Int) - r.fBefore.length).toNat = a - r.fBefore.length by omega]
      have f2 : fit r.fInput xs a = inC r.fInput (cut xs a r.fInput.length) := by
        rw [fit, decide_eq_true (by omega), decide_eq_true (by omega), Bool.true_and, Bool.true_and, Int.toNat_natCast]
      have f3 : fit r.fAfter xs ((a : Int) + r.fInput.length) = inC r.fAfter (cut xs (a + r.fInput.length) r.fAfter.length) := by
        rw [fit, decide_eq_true (by omega), decide_eq_true (by omega), Bool.true_and, Bool.true_and, show ((a : Int) + r.fInput.length).toNat = a + r.fInput.length by omega]
      rw [f1, f2, f3] at hV
      rw [cut_map] at c1 c2 c3
      generalize inC r.fBefore (cut xs (a - r.fBefore.length) r.fBefore.length) = q1 at *
      generalize inC r.fInput (cut xs a r.fInput.length) = q2 at *
      generalize inC r.fAfter (cut xs (a + r.fInput.length) r.fAfter.length) = q3 at *
      (conv => whnf)
      (repeat' (first | (refine stg_ ?_) | (refine cla_ (c1) ?_ (hb := ⟨_, _, rfl, rfl, ⟨_, _, rfl, congrArg (fun l => V.d (D.lst l)) (by (congr 1 <;> first | omega | (congr 1; omega))), rfl⟩⟩)) | (refine cla_ (c2) ?_ (hb := ⟨_, _, rfl, rfl, ⟨_, _, rfl, congrArg (fun l => V.d (D.lst l)) (by (congr 1 <;> first | omega | (congr 1; omega))), rfl⟩⟩)) | (refine cla_ (c3) ?_ (hb := ⟨_, _, rfl, rfl, ⟨_, _, rfl, congrArg (fun l => V.d (D.lst l)) (by (congr 1 <;> first | omega | (congr 1; omega))), rfl⟩⟩)) | (refine br_ (fun hbr => ?_) (fun hbr => ?_))))
      all_goals first | (exfalso; omega) | ((refine RetOK.d rfl rfl ?_; conv => whnf); rw [hV]; simp_all; done) | skip
    · have hf : R = false := by
        rw [hV]
        by_cases h3 : a + r.fInput.length ≤ xs.length
        · rw [show fit r.fAfter xs ((a : Int) + r.fInput.length) = false by rw [fit, decide_eq_true (by omega), decide_eq_false (by omega)]; rfl]
          simp
        · rw [show fit r.fInput xs a = false by rw [fit, decide_eq_true (by omega), decide_eq_false (by omega)]; rfl]
          rfl
      subst hf
      (conv => whnf)
      (repeat' (first | (refine stg_ ?_) | fail | (refine br_ (fun hbr => ?_) (fun hbr => ?_))))
      all_goals first | (exfalso; omega) | (refine RetOK.d rfl rfl ?_; conv => whnf)
  · have hf : R = false := by
      rw [hV, show fit r.fBefore xs ((a : Int) - r.fBefore.length) = false by rw [fit, decide_eq_false (by omega)]; rfl]
      simp
    subst hf
    (conv => whnf)
    (repeat' (first | (refine stg_ ?_) | fail | (refine br_ (fun hbr => ?_) (fun hbr => ?_))))
    all_goals first | (exfalso; omega) | (refine RetOK.d rfl rfl ?_; conv => whnf)
set_option maxHeartbeats 2000000 in
theorem l26Fit_v (cs : List (List Int)) (xs : List TItem) (a : Int) (hc : cs.length ≤ 1000) (h1 : -1000000 ≤ a) (h2 : a ≤ 1000000) : PC Tryz.prog 155 [.d (.lst (cs.map (lstD (D.int .i64)))), .d (.lst (xs.map TItem.D)), .d (.int .i64 a)] (.d (.bool (fit cs xs a))) [] := by
  refine pc_intro ttOk (by kernel_rfl) Tryz.func155 rfl (by kernel_rfl) (by kernel_rfl) (by kernel_rfl) (fun hw => ?_)
  have hL : (xs.map TItem.D).length = xs.length := List.length_map _
  have hC : (cs.map (lstD (D.int .i64))).length = cs.length := List.length_map _
  by_cases h0 : 0 ≤ a
  · obtain ⟨n, rfl⟩ := Int.eq_ofNat_of_zero_le h0
    by_cases h3 : n + cs.length ≤ xs.length
    · have hF : fit cs xs (n : Int) = inC cs (cut xs n cs.length) := by
        rw [fit, decide_eq_true (by omega), decide_eq_true (by omega), Bool.true_and, Bool.true_and, Int.toNat_natCast]
      rw [hF]
      have hcl : (cut xs n cs.length).length = cs.length := by rw [cut, List.length_take, List.length_drop]; omega
      (conv => whnf)
      (repeat' (first | (refine stg_ ?_) | fail | (refine br_ (fun hbr => ?_) (fun hbr => ?_))))
      all_goals first | (exfalso; omega) | skip
      refine LoopW.go (α := Nat) (fun i => [(0, .d (.lst (cs.map (lstD (D.int .i64))))), (1, .d (.lst (xs.map TItem.D))), (2, .d (.int .i64 n)), (7, .d (.int .i64 i))]) (fun _ => [.gone]) (fun i => i ≤ cs.length ∧ inC cs (cut xs n cs.length) = inC (cs.drop i) ((cut xs n cs.length).drop i)) (fun i => cs.length - i) 0 covT_ ⟨by omega, rfl⟩ (fun i hi => ?_)
      obtain ⟨hi1, hi2⟩ := hi
      (conv => whnf)
      (repeat (refine stg_ ?_))
      (refine br_ (fun h4 => ?_) (fun h4 => ?_) <;> (repeat (refine stg_ ?_)))
      · obtain ⟨c, hcx⟩ := at_lt' (xs := cs) (k := i) (by omega)
        obtain ⟨x, hx⟩ := at_lt' (xs := xs) (k := n + i) (by omega)
        have hxc : (cut xs n cs.length)[i]? = some x := by rw [cut, List.getElem?_take, if_pos (by omega), List.getElem?_drop]; exact hx
        rw [inC_at hcx hxc] at hi2
        have hx' : (xs.map TItem.D)[((n : Int) + (i : Int)).toNat]? = some x.D := by
          have : ((n : Int) + (i : Int)).toNat = n + i := by omega
          rw [this, List.getElem?_map, hx]; rfl
        (repeat' (first | (refine stg_ ?_) | (refine cla_ (l00Has_v c x.fGlyph) ?_) | (refine IxW.at (by omega) hx' ?_; (conv => whnf)) | (refine br_ (fun hbr => ?_) (fun hbr => ?_))))
        all_goals first | ((refine RetOK.d rfl rfl ?_; conv => whnf); rw [hi2]; simp_all; done) | skip
        all_goals exact NextW.go (i + 1) covT_ ⟨by omega, by rw [hi2]; simp_all⟩ (by omega)
      · (repeat (refine stg_ ?_))
        (refine RetOK.d rfl rfl ?_; conv => whnf)
        rw [hi2, inC_end (by omega) (by omega)]
    · have hF : fit cs xs (n : Int) = false := by rw [fit, decide_eq_true (by omega), decide_eq_false (by omega)]; rfl
      rw [hF]
      (conv => whnf)
      (repeat' (first | (refine stg_ ?_) | fail | (refine br_ (fun hbr => ?_) (fun hbr => ?_))))
      all_goals first | (exfalso; omega) | (refine RetOK.d rfl rfl ?_; conv => whnf)
  · have hF : fit cs xs a = false := by rw [fit, decide_eq_false (by omega)]; rfl
    rw [hF]
    (conv => whnf)
    (repeat' (first | (refine stg_ ?_) | fail | (refine br_ (fun hbr => ?_) (fun hbr => ?_))))
    all_goals first | (exfalso; omega) | (refine RetOK.d rfl rfl ?_; conv => whnf)
set_option maxHeartbeats 2000000 in
theorem l26Matches_v (r : TRule) (xs : List TItem) (a : Nat) (hr : ruB r = true) (ha : a ≤ 1000) : PC Tryz.prog 145 [.pX r.D, .d (.lst (xs.map TItem.D)), .d (.int .i64 a)] (.d (.bool (apRu r xs a))) [] := by
  refine pc_intro ttOk (by kernel_rfl) Tryz.func145 rfl (by kernel_rfl) (by kernel_rfl) (by kernel_rfl) (fun hw => ?_)
  have hB : (r.fBefore.map (lstD (D.int .i64))).length = r.fBefore.length := List.length_map _
  have hI : (r.fInput.map (lstD (D.int .i64))).length = r.fInput.length := List.length_map _
  have hn : r.fBefore.length ≤ 4 ∧ r.fInput.length ≤ 4 ∧ r.fAfter.length ≤ 4 := by
    simp only [ruB, fcsB, Bool.and_eq_true, decide_eq_true_eq] at hr
    exact ⟨hr.1.2.1, hr.2.1.2.1, hr.2.2.1.2.1⟩
  have hV : apRu r xs a = (fit r.fInput xs a && (fit r.fBefore xs ((a : Int) - (r.fBefore.map (lstD (D.int .i64))).length) && fit r.fAfter xs ((a : Int) + (r.fInput.map (lstD (D.int .i64))).length))) := by rw [hB, hI]; rfl
  generalize apRu r xs a = R at hV ⊢
  have c1 := l26Fit_v r.fInput xs a (by omega) (by omega) (by omega)
  have c2 := l26Fit_v r.fBefore xs ((a : Int) - (r.fBefore.map (lstD (D.int .i64))).length) (by omega) (by omega) (by omega)
  have c3 := l26Fit_v r.fAfter xs ((a : Int) + (r.fInput.map (lstD (D.int .i64))).length) (by omega) (by omega) (by omega)
  generalize fit r.fInput xs a = q1 at *
  generalize fit r.fBefore xs _ = q2 at *
  generalize fit r.fAfter xs _ = q3 at *
  (conv => whnf)
  (repeat' (first | (refine stg_ ?_) | (refine cla_ (c1) ?_) | (refine cla_ (c2) ?_) | (refine cla_ (c3) ?_) | (refine br_ (fun hbr => ?_) (fun hbr => ?_))))
  all_goals ((refine RetOK.d rfl rfl ?_; conv => whnf); rw [hV]; simp_all)

theorem l26For_v (l : TLookup) (xs : List TItem) (a : Nat) (hl : ∀ r ∈ l.fRules, ruB r = true) (ha : a ≤ 1000) : PC Tryz.prog 129 [.pX l.D, .d (.lst (xs.map TItem.D)), .d (.int .i64 a)] (.d (.int .i64 (ruI l xs a))) [] := by
  refine pc_intro ttOk (by kernel_rfl) Tryz.func129 rfl (by kernel_rfl) (by kernel_rfl) (by kernel_rfl) (fun hw => ?_)
  have hL : (l.fRules.map TRule.D).length = l.fRules.length := List.length_map _
  have hm : (l.fRules.map TRule.D).length ≤ 9223372036854775807 := hw.1.2.1.1
  have hV : ruI l xs a = fdx (fun r => apRu r xs a) l.fRules 0 := rfl
  generalize ruI l xs a = R at hV ⊢
  (conv => whnf)
  refine LoopW.go (α := Nat) (fun k => [(0, .pX l.D), (1, .d (.lst (xs.map TItem.D))), (2, .d (.int .i64 a)), (7, .d (.int .i64 k))]) (fun k => [.gone]) (fun k => k ≤ l.fRules.length ∧ R = fdx (fun r => apRu r xs a) (l.fRules.drop k) k) (fun k => l.fRules.length - k) 0 covT_ ?_ (fun k hk => ?_)
  · exact ⟨by omega, hV⟩
  clear hV
  obtain ⟨hk1, hk2⟩ := hk
  (conv => whnf)
  (repeat (refine stg_ ?_))
  (refine br_ (fun h2 => ?_) (fun h2 => ?_) <;> (repeat (refine stg_ ?_)))
  · obtain ⟨r, hr⟩ := at_lt' (xs := l.fRules) (k := k) (by omega)
    rw [fdx_at hr] at hk2
    (repeat' (first | (refine stg_ ?_) | (refine cla_ (l26Matches_v r xs a (hl r (List.mem_of_getElem? hr)) ha) ?_) | (refine br_ (fun hbr => ?_) (fun hbr => ?_))))
    all_goals first | ((refine RetOK.d rfl rfl ?_; conv => whnf); rw [hk2, if_pos (by assumption)]; done) | skip
    all_goals exact NextW.go (k + 1) covT_ ⟨by omega, by rw [hk2, if_neg (by simp_all)]⟩ (by omega)
  · (repeat (refine stg_ ?_))
    (refine RetOK.d rfl rfl ?_; conv => whnf)
    rw [hk2, fdx_end (by omega)]
theorem l26Any_v (xs : List TItem) : PC Tryz.prog 33 [.d (.lst (xs.map TItem.D))] (.d (.bool (vrB xs 40))) [] := by
  refine pc_intro ttOk (by kernel_rfl) Tryz.func33 rfl (by kernel_rfl) (by kernel_rfl) (by kernel_rfl) (fun hw => ?_)
  (conv => whnf)
  (repeat' (first | (refine stg_ ?_) | (refine cla_ (l26Run_v xs 40 (by omega) (by omega)) ?_) | (refine br_ (fun hbr => ?_) (fun hbr => ?_))))
  (refine RetOK.d rfl rfl ?_; conv => whnf)
end Go.Proofs.YtdifjelniibmiaaGreat
