/- Runs and where rules apply: both sides, by the machine. -/
import Derived.Test.YtcachhipflibkaaGreatApP
import Derived.Test.YtcachhipflibkaaGreatFtW
set_option linter.unusedSimpArgs false
set_option linter.unusedVariables false
namespace Go.Proofs.YtcachhipflibkaaGreat
open Go.RowKit
theorem indexI_v (xs : List Int) (x : Int) : PC Tryz.prog 212 [.d (.lst (xs.map (D.int .i64))), .d (.int .i64 x)] (.d (.int .i64 (fdx (fun y => y == x) xs 0))) [] := by
  refine pc_intro ttOk (by kernel_rfl) Tryz.func212 rfl (by kernel_rfl) (by kernel_rfl) (by kernel_rfl) (fun hw => ?_)
  have hL : (xs.map (D.int .i64)).length = xs.length := List.length_map _
  have hm : (xs.map (D.int .i64)).length ≤ 9223372036854775807 := hw.1.1
  (conv => whnf)
  refine LoopW.go (α := Nat) (fun k => [(0, .d (.lst (xs.map (D.int .i64)))), (1, .d (.int .i64 x)), (7, .d (.int .i64 (xs.map (D.int .i64)).length)), (8, .d (.int .i64 k))]) (fun k => [.gone]) (fun k => k ≤ xs.length ∧ fdx (fun y => y == x) xs 0 = fdx (fun y => y == x) (xs.drop k) k) (fun k => xs.length - k) 0 covT_ ?_ (fun k hk => ?_)
  · exact ⟨by omega, rfl⟩
  obtain ⟨hk1, hk2⟩ := hk
  (conv => whnf)
  (refine br_ (fun h2 => ?_) (fun h2 => ?_) <;> (repeat (refine stg_ ?_)))
  · obtain ⟨y, hy⟩ := at_lt' (xs := xs) (k := k) (by omega)
    rw [fdx_at hy] at hk2
    (repeat (refine stg_ ?_))
    (refine br_ (fun h3 => ?_) (fun h3 => ?_) <;> (repeat (refine stg_ ?_)))
    · (refine RetOK.d rfl rfl ?_; conv => whnf)
      rw [hk2, if_pos (by simp; omega)]
    · (repeat (refine stg_ ?_))
      exact NextW.go (k + 1) covT_ ⟨by omega, by rw [hk2, if_neg (by simp; omega)]⟩ (by omega)
  · (refine RetOK.d rfl rfl ?_; conv => whnf)
    rw [hk2, fdx_end (by omega)]
theorem containsI_v (xs : List Int) (x : Int) : PC Tryz.prog 176 [.d (.lst (xs.map (D.int .i64))), .d (.int .i64 x)] (.d (.bool (hasI xs x))) [] := by
  refine pc_intro ttOk (by kernel_rfl) Tryz.func176 rfl (by kernel_rfl) (by kernel_rfl) (by kernel_rfl) (fun hw => ?_)
  (conv => whnf)
  (refine cla_ (indexI_v xs x) ?_)
  (refine RetOK.d rfl rfl ?_; conv => whnf)
  rw [hasI, ← fdx_any _ xs 0]
theorem l00Has_v (xs : List Int) (x : Int) : PC Tryz.prog 47 [.d (.lst (xs.map (D.int .i64))), .d (.int .i64 x)] (.d (.bool (hasI xs x))) [] := by
  refine pc_intro ttOk (by kernel_rfl) Tryz.func47 rfl (by kernel_rfl) (by kernel_rfl) (by kernel_rfl) (fun hw => ?_)
  have hL : (xs.map (D.int .i64)).length = xs.length := List.length_map _
  have hm : (xs.map (D.int .i64)).length ≤ 9223372036854775807 := hw.1.1
  (conv => whnf)
  refine LoopW.go (α := Nat) (fun k => [(0, .d (.lst (xs.map (D.int .i64)))), (1, .d (.int .i64 x)), (5, .d (.int .i64 k))]) (fun k => [.gone]) (fun k => k ≤ xs.length ∧ hasI xs x = hasI (xs.drop k) x) (fun k => xs.length - k) 0 covT_ ?_ (fun k hk => ?_)
  · exact ⟨by omega, rfl⟩
  obtain ⟨hk1, hk2⟩ := hk
  (conv => whnf)
  (refine br_ (fun h2 => ?_) (fun h2 => ?_) <;> (repeat (refine stg_ ?_)))
  · obtain ⟨y, hy⟩ := at_lt' (xs := xs) (k := k) (by omega)
    rw [drop_at hy] at hk2
    change _ = ((y == x) || hasI (xs.drop (k + 1)) x) at hk2
    (repeat' (first | (refine stg_ ?_) | fail | (refine br_ (fun hbr => ?_) (fun hbr => ?_))))
    all_goals first | ((refine RetOK.d rfl rfl ?_; conv => whnf); rw [hk2]; simp_all; done) | skip
    all_goals exact NextW.go (k + 1) covT_ ⟨by omega, by rw [hk2]; simp_all⟩ (by omega)
  · (refine RetOK.d rfl rfl ?_; conv => whnf)
    rw [hk2, List.drop_eq_nil_of_le (by omega)]; rfl
theorem itB_bnd {g : Int} {x : TItem} (h : itB g x = true) : (0 ≤ x.fGlyph ∧ x.fGlyph ≤ g - 1) ∧ (0 ≤ x.fFrom ∧ x.fFrom ≤ 262144) ∧ (0 ≤ x.fLen ∧ x.fLen ≤ 262144) := by
  simpa [itB, inB] using h
set_option maxHeartbeats 2000000 in
theorem ValidRun_v (xs : List TItem) (g : Int) : PC Tryz.prog 81 [.d (.lst (xs.map TItem.D)), .d (.int .i64 g)] (.d (.bool (vrB xs g))) [] := by
  refine pc_intro ttOk (by kernel_rfl) Tryz.func81 rfl (by kernel_rfl) (by kernel_rfl) (by kernel_rfl) (fun hw => ?_)
  have hL : (xs.map TItem.D).length = xs.length := List.length_map _
  have hV : vrB xs g = (decide (g ≤ 40) && (decide (xs.length ≤ 60) && rnG g none xs)) := rfl
  generalize vrB xs g = R at hV ⊢
  (conv => whnf)
  (repeat' (first | (refine stg_ ?_) | fail | (refine br_ (fun hbr => ?_) (fun hbr => ?_))))
  all_goals first | ((refine RetOK.d rfl rfl ?_; conv => whnf); rw [hV, show decide (g ≤ 40) = false by (rw [decide_eq_false_iff_not]; omega)]; rfl) | ((refine RetOK.d rfl rfl ?_; conv => whnf); rw [hV, show decide (xs.length ≤ 60) = false by (rw [decide_eq_false_iff_not]; omega)]; simp; done) | skip
  have hg : g ≤ 40 := by omega
  have hl : xs.length ≤ 60 := by omega
  rw [decide_eq_true hg, decide_eq_true hl, Bool.true_and, Bool.true_and] at hV
  refine LoopW.go (α := Nat) (fun k => [(1, .d (.int .i64 g)), (0, .d (.lst (xs.map TItem.D))), (14, .d (.lst (xs.map TItem.D))), (15, .d (.int .i64 (xs.map TItem.D).length)), (16, .d (.int .i64 k))]) (fun k => [.gone]) (fun k => k ≤ xs.length ∧ R = rnG g (pv xs k) (xs.drop k) ∧ (∀ p, pv xs k = some p → itB g p = true)) (fun k => xs.length - k) 0 covT_ ?_ (fun k hk => ?_)
  · exact ⟨by omega, hV, by intro p hp; cases hp⟩
  clear hV
  obtain ⟨hk1, hk2, hk3⟩ := hk
  (conv => whnf)
  (refine br_ (fun h2 => ?_) (fun h2 => ?_) <;> (repeat (refine stg_ ?_)))
  · obtain ⟨x, hx⟩ := at_lt' (xs := xs) (k := k) (by omega)
    rw [rnG_at hx] at hk2
    have hI : itB g x = (inB x.fGlyph 0 (g - 1) && (inB x.fFrom 0 262144 && inB x.fLen 0 262144)) := rfl
    have hnext : ∀ p, pv xs (k + 1) = some p → p = x := fun p hp => by rw [pv_succ, hx] at hp; cases hp; rfl
    rcases Nat.eq_zero_or_pos k with rfl | h0
    · rw [pv_zero, enO, Bool.true_and] at hk2
      (repeat' (first | (refine stg_ ?_) | fail | (refine br_ (fun hbr => ?_) (fun hbr => ?_))))
      all_goals first | (exfalso; omega) | ((refine RetOK.d rfl rfl ?_; conv => whnf); rw [hk2, show itB g x = false by (rw [hI]; simp [inB]; omega)]; rfl) | skip
      all_goals (have hT : itB g x = true := by (rw [hI]; simp [inB]; omega)); exact NextW.go (0 + 1) covT_ ⟨by omega, by rw [hk2, hT, Bool.true_and], fun p hp => by rw [hnext p hp]; exact hT⟩ (by omega)
    · obtain ⟨p, hp⟩ := at_lt' (xs := xs) (k := k - 1) (by omega)
      have hp' : (xs.map TItem.D)[((k : Int) - 1).toNat]? = some p.D := by
        have : ((k : Int) - 1).toNat = k - 1 := by omega
        rw [this, List.getElem?_map, hp]; rfl
      have hb := itB_bnd (hk3 p (by rw [pv_pos _ h0, hp]))
      rw [pv_pos _ h0, hp, enO] at hk2
      (repeat' (first | (refine stg_ ?_) | (refine IxW.at (by omega) hp' ?_; (conv => whnf)) | (refine br_ (fun hbr => ?_) (fun hbr => ?_))))
      all_goals first | (exfalso; omega) | ((refine RetOK.d rfl rfl ?_; conv => whnf); rw [hk2, show itB g x = false by (rw [hI]; simp [inB]; omega)]; rfl) | ((refine RetOK.d rfl rfl ?_; conv => whnf); rw [hk2, show decide (p.fFrom + p.fLen ≤ x.fFrom) = false by (rw [decide_eq_false_iff_not]; omega)]; simp; done) | skip
      all_goals (have hT : itB g x = true := by (rw [hI]; simp [inB]; omega)); exact NextW.go (k + 1) covT_ ⟨by omega, by rw [hk2, hT, decide_eq_true (by omega), Bool.true_and, Bool.true_and], fun p hp => by rw [hnext p hp]; exact hT⟩ (by omega)
  · (refine RetOK.d rfl rfl ?_; conv => whnf)
    rw [hk2, rnG_end (by omega)]
set_option maxHeartbeats 2000000 in
theorem l26Run_v (xs : List TItem) (g : Int) (hg0 : -1000 ≤ g) (hg1 : g ≤ 1000000) : PC Tryz.prog 77 [.d (.lst (xs.map TItem.D)), .d (.int .i64 g)] (.d (.bool (vrB xs g))) [] := by
  refine pc_intro ttOk (by kernel_rfl) Tryz.func77 rfl (by kernel_rfl) (by kernel_rfl) (by kernel_rfl) (fun hw => ?_)
  have hL : (xs.map TItem.D).length = xs.length := List.length_map _
  have hm : (xs.map TItem.D).length ≤ 9223372036854775807 := hw.1.1
  have hV : vrB xs g = (decide (g ≤ 40) && (decide (xs.length ≤ 60) && rnG g none xs)) := rfl
  generalize vrB xs g = R at hV ⊢
  (conv => whnf)
  refine LoopW.go (α := Nat × Int) (fun p => [(1, .d (.int .i64 g)), (0, .d (.lst (xs.map TItem.D))), (5, .d (.int .i64 p.2)), (6, .d (.int .i64 p.1))]) (fun _ => [.gone]) (fun p => p.1 ≤ xs.length ∧ rnG g none xs = rnG g (pv xs p.1) (xs.drop p.1) ∧ (0 ≤ p.2 ∧ p.2 ≤ 524288) ∧ (match pv xs p.1 with | none => p.2 = 0 | some q => p.2 = q.fFrom + q.fLen)) (fun p => xs.length - p.1) (0, 0) covT_ ⟨by omega, rfl, by decide, rfl⟩ ?_
  rintro ⟨k, e⟩ ⟨hk1, hk2, hk3, hk4⟩
  dsimp only at hk1 hk2 hk3 hk4 ⊢
  (conv => whnf)
  (refine br_ (fun h2 => ?_) (fun h2 => ?_) <;> (repeat (refine stg_ ?_)))
  · obtain ⟨x, hx⟩ := at_lt' (xs := xs) (k := k) (by omega)
    rw [rnG_at hx] at hk2
    have hE : (itB g x && enO (pv xs k) x) = (inB x.fGlyph 0 (g - 1) && (inB x.fFrom e 262144 && inB x.fLen 0 262144)) := by
      cases hp : pv xs k with
      | none => rw [hp] at hk4; simp only at hk4; subst hk4; simp [itB, enO]
      | some q =>
        rw [hp] at hk4; simp only at hk4
        rw [Bool.eq_iff_iff]
        simp only [itB, enO, inB, Bool.and_eq_true, decide_eq_true_eq]
        constructor <;> intro h <;> omega
    have hk5 : rnG g none xs = ((itB g x && enO (pv xs k) x) && rnG g (pv xs (k + 1)) (xs.drop (k + 1))) := by rw [hk2, Bool.and_assoc]
    rw [hE] at hk5
    clear hk2 hE
    (repeat' (first | (refine stg_ ?_) | (refine cl_ (l00In_v _ _ _) ?_) | (refine br_ (fun hbr => ?_) (fun hbr => ?_))))
    all_goals first | ((refine RetOK.d rfl rfl ?_; conv => whnf); rw [hV, hk5]; simp_all; done) | skip
    all_goals first | (exfalso; simp_all [inB]; omega) | skip
    all_goals (have hb1 : inB x.fFrom e 262144 = true := by assumption); (have hb2 : inB x.fLen 0 262144 = true := by assumption); simp only [inB, Bool.and_eq_true, decide_eq_true_eq] at hb1 hb2
    (repeat (refine stg_ ?_))
    refine NextW.go (k + 1, x.fFrom + x.fLen) covT_ ⟨by show k + 1 ≤ xs.length; omega, by rw [hk5]; simp_all, by show 0 ≤ x.fFrom + x.fLen ∧ _; omega, by show (match pv xs (k + 1) with | none => _ | some q => _); rw [pv_succ, hx]⟩ (by show xs.length - (k + 1) < xs.length - k; omega)
  · rw [rnG_end (by omega)] at hk2
    rw [hk2] at hV
    (repeat' (first | (refine stg_ ?_) | fail | (refine br_ (fun hbr => ?_) (fun hbr => ?_))))
    all_goals ((refine RetOK.d rfl rfl ?_; conv => whnf); rw [hV]; simp_all; try omega)
end Go.Proofs.YtcachhipflibkaaGreat
