/- merged: several parts in one text. Leans on no more than they do. -/
import Derived.Test.YtcachhipflibkaaGreatFtP
import Derived.Test.YtcachhipflibkaaGreatCoV
/- Features: what is valid, both sides, by the machine. -/
set_option linter.unusedSimpArgs false
set_option linter.unusedVariables false
namespace Go.Proofs.YtcachhipflibkaaGreat
open Go.RowKit
theorem isGlyphNumber_v (n : Int) : PC Tryz.prog 109 [.d (.int .i64 n)] (.d (.bool (inB n 0 39))) [] := by
  refine pc_intro ttOk (by kernel_rfl) Tryz.func109 rfl (by kernel_rfl) (by kernel_rfl) (by kernel_rfl) (fun hw => ?_)
  (conv => whnf)
  (repeat' (first | (refine stg_ ?_) | fail | (refine br_ (fun hbr => ?_) (fun hbr => ?_))))
  all_goals ((refine RetOK.d rfl rfl ?_; conv => whnf); simp_all [inB]; try omega)
theorem ValidClass_v (xs : List Int) : PC Tryz.prog 53 [.d (.lst (xs.map (D.int .i64)))] (.d (.bool (clsB xs))) [] := by
  refine pc_intro ttOk (by kernel_rfl) Tryz.func53 rfl (by kernel_rfl) (by kernel_rfl) (by kernel_rfl) (fun hw => ?_)
  have hL : (xs.map (D.int .i64)).length = xs.length := List.length_map _
  have hm : (xs.map (D.int .i64)).length ≤ 9223372036854775807 := hw.1.1
  (conv => whnf)
  refine LoopW.go (α := Nat) (fun k => [(0, .d (.lst (xs.map (D.int .i64)))), (5, .d (.lst (xs.map (D.int .i64)))), (6, .d (.int .i64 (xs.map (D.int .i64)).length)), (7, .d (.int .i64 k))]) (fun k => [.gone]) (fun k => k ≤ xs.length ∧ clsB xs = clG (pv xs k) (xs.drop k)) (fun k => xs.length - k) 0 covT_ ?_ (fun k hk => ?_)
  · exact ⟨by omega, rfl⟩
  obtain ⟨hk1, hk2⟩ := hk
  (conv => whnf)
  (refine br_ (fun h2 => ?_) (fun h2 => ?_) <;> (repeat (refine stg_ ?_)))
  · obtain ⟨x, hx⟩ := at_lt' (xs := xs) (k := k) (by omega)
    rw [clG_at hx] at hk2
    rcases Nat.eq_zero_or_pos k with rfl | h0
    · rw [pv_zero, ltQ, Bool.true_and] at hk2
      (repeat' (first | (refine stg_ ?_) | (refine cl_ (isGlyphNumber_v x) ?_) | (refine br_ (fun hbr => ?_) (fun hbr => ?_))))
      all_goals first | (exfalso; omega) | ((refine RetOK.d rfl rfl ?_; conv => whnf); simp_all; done) | skip
      all_goals exact NextW.go (0 + 1) covT_ ⟨by omega, by simp_all⟩ (by omega)
    · obtain ⟨p, hp⟩ := at_lt' (xs := xs) (k := k - 1) (by omega)
      have hp' : (xs.map (D.int .i64))[((k : Int) - 1).toNat]? = some (.int .i64 p) := by
        have : ((k : Int) - 1).toNat = k - 1 := by omega
        rw [this, List.getElem?_map, hp]; rfl
      rw [pv_pos _ h0, hp, ltQ] at hk2
      (repeat' (first | (refine stg_ ?_) | (refine cl_ (isGlyphNumber_v x) ?_) | (refine IxW.at (by omega) hp' ?_; (conv => whnf)) | (refine br_ (fun hbr => ?_) (fun hbr => ?_))))
      all_goals first | (exfalso; omega) | ((refine RetOK.d rfl rfl ?_; conv => whnf); simp_all; done) | ((refine RetOK.d rfl rfl ?_; conv => whnf); rw [hk2, show decide (p < x) = false by (rw [decide_eq_false_iff_not]; omega)]; simp; done) | skip
      all_goals exact NextW.go (k + 1) covT_ ⟨by omega, by simp_all⟩ (by omega)
  · (refine RetOK.d rfl rfl ?_; conv => whnf)
    rw [hk2, clG_end (by omega)]
theorem l23Ok_v (xs : List Int) : PC Tryz.prog 43 [.d (.lst (xs.map (D.int .i64)))] (.d (.bool (clsB xs))) [] := by
  refine pc_intro ttOk (by kernel_rfl) Tryz.func43 rfl (by kernel_rfl) (by kernel_rfl) (by kernel_rfl) (fun hw => ?_)
  have hL : (xs.map (D.int .i64)).length = xs.length := List.length_map _
  have hm : (xs.map (D.int .i64)).length ≤ 9223372036854775807 := hw.1.1
  (conv => whnf)
  refine LoopW.go (α := Nat) (fun k => [(0, .d (.lst (xs.map (D.int .i64)))), (3, .d (.int .i64 k))]) (fun k => [.gone]) (fun k => k ≤ xs.length ∧ clsB xs = clG (pv xs k) (xs.drop k)) (fun k => xs.length - k) 0 covT_ ?_ (fun k hk => ?_)
  · exact ⟨by omega, rfl⟩
  obtain ⟨hk1, hk2⟩ := hk
  (conv => whnf)
  (refine br_ (fun h2 => ?_) (fun h2 => ?_) <;> (repeat (refine stg_ ?_)))
  · obtain ⟨x, hx⟩ := at_lt' (xs := xs) (k := k) (by omega)
    rw [clG_at hx] at hk2
    rcases Nat.eq_zero_or_pos k with rfl | h0
    · rw [pv_zero, ltQ, Bool.true_and] at hk2
      (repeat' (first | (refine stg_ ?_) | (refine cl_ (l00In_v x _ _) ?_) | (refine br_ (fun hbr => ?_) (fun hbr => ?_))))
      all_goals first | (exfalso; omega) | ((refine RetOK.d rfl rfl ?_; conv => whnf); simp_all; done) | skip
      all_goals exact NextW.go (0 + 1) covT_ ⟨by omega, by simp_all⟩ (by omega)
    · obtain ⟨p, hp⟩ := at_lt' (xs := xs) (k := k - 1) (by omega)
      have hp' : (xs.map (D.int .i64))[((k : Int) - 1).toNat]? = some (.int .i64 p) := by
        have : ((k : Int) - 1).toNat = k - 1 := by omega
        rw [this, List.getElem?_map, hp]; rfl
      rw [pv_pos _ h0, hp, ltQ] at hk2
      (repeat' (first | (refine stg_ ?_) | (refine cl_ (l00In_v x _ _) ?_) | (refine IxW.at (by omega) hp' ?_; (conv => whnf)) | (refine br_ (fun hbr => ?_) (fun hbr => ?_))))
      all_goals first | (exfalso; omega) | ((refine RetOK.d rfl rfl ?_; conv => whnf); simp_all; done) | ((refine RetOK.d rfl rfl ?_; conv => whnf); rw [hk2, show decide (p < x) = false by (rw [decide_eq_false_iff_not]; omega)]; simp; done) | skip
      all_goals exact NextW.go (k + 1) covT_ ⟨by omega, by simp_all⟩ (by omega)
  · (refine RetOK.d rfl rfl ?_; conv => whnf)
    rw [hk2, clG_end (by omega)]
theorem fullClass_v (xs : List Int) : PC Tryz.prog 105 [.d (.lst (xs.map (D.int .i64)))] (.d (.bool (fcB xs))) [] := by
  refine pc_intro ttOk (by kernel_rfl) Tryz.func105 rfl (by kernel_rfl) (by kernel_rfl) (by kernel_rfl) (fun hw => ?_)
  have hL : (xs.map (D.int .i64)).length = xs.length := List.length_map _
  (conv => whnf)
  (repeat' (first | (refine stg_ ?_) | (refine cla_ (ValidClass_v xs) ?_) | (refine br_ (fun hbr => ?_) (fun hbr => ?_))))
  all_goals ((refine RetOK.d rfl rfl ?_; conv => whnf); simp_all [fcB]; try omega)
theorem l25Class_v (xs : List Int) : PC Tryz.prog 95 [.d (.lst (xs.map (D.int .i64)))] (.d (.bool (fcB xs))) [] := by
  refine pc_intro ttOk (by kernel_rfl) Tryz.func95 rfl (by kernel_rfl) (by kernel_rfl) (by kernel_rfl) (fun hw => ?_)
  have hL : (xs.map (D.int .i64)).length = xs.length := List.length_map _
  (conv => whnf)
  (repeat' (first | (refine stg_ ?_) | (refine cla_ (l23Ok_v xs) ?_) | (refine br_ (fun hbr => ?_) (fun hbr => ?_))))
  all_goals ((refine RetOK.d rfl rfl ?_; conv => whnf); simp_all [fcB]; try omega)
set_option maxHeartbeats 1000000 in
theorem ixL_v (xs : List (List Int)) (f : Nat) (p : (List Int) → Bool) (hf : ∀ x : (List Int), PC Tryz.prog f [.d (.lst (x.map (D.int .i64)))] (.d (.bool (p x))) []) :
    PC Tryz.prog 110 [.d (.lst (xs.map (lstD (D.int .i64)))), .fn (.func f) []] (.d (.int .i64 (fdx p xs 0))) [] := by
  refine pc_intro ttOk (by kernel_rfl) Tryz.func110 rfl (by kernel_rfl) (by kernel_rfl) (by kernel_rfl) (fun hw => ?_)
  have hL : (xs.map (lstD (D.int .i64))).length = xs.length := List.length_map _
  have hm : (xs.map (lstD (D.int .i64))).length ≤ 9223372036854775807 := hw.1.1
  (conv => whnf)
  refine LoopW.go (α := Nat) (fun k => [(0, .d (.lst (xs.map (lstD (D.int .i64))))), (1, .fn (.func f) []), (7, .d (.int .i64 (xs.map (lstD (D.int .i64))).length)), (8, .d (.int .i64 k))]) (fun k => [.gone]) (fun k => k ≤ xs.length ∧ fdx p xs 0 = fdx p (xs.drop k) k) (fun k => xs.length - k) 0 covT_ ?_ (fun k hk => ?_)
  · exact ⟨by omega, rfl⟩
  obtain ⟨hk1, hk2⟩ := hk
  (conv => whnf)
  (refine br_ (fun h2 => ?_) (fun h2 => ?_) <;> (repeat (refine stg_ ?_)))
  · obtain ⟨x, hx⟩ := at_lt' (xs := xs) (k := k) (by omega)
    rw [fdx_at hx] at hk2
    (repeat (refine stg_ ?_))
    (refine cla_ (hf x) ?_)
    (refine br_ (fun h3 => ?_) (fun h3 => ?_) <;> (repeat (refine stg_ ?_)))
    · (refine RetOK.d rfl rfl ?_; conv => whnf)
      rw [hk2, if_pos h3]
    · (repeat (refine stg_ ?_))
      exact NextW.go (k + 1) covT_ ⟨by omega, by rw [hk2, h3]; rfl⟩ (by omega)
  · (refine RetOK.d rfl rfl ?_; conv => whnf)
    rw [hk2, fdx_end (by omega)]
theorem ctL_v (xs : List (List Int)) (f : Nat) (p : (List Int) → Bool) (hf : ∀ x : (List Int), PC Tryz.prog f [.d (.lst (x.map (D.int .i64)))] (.d (.bool (p x))) []) :
    PC Tryz.prog 55 [.d (.lst (xs.map (lstD (D.int .i64)))), .fn (.func f) []] (.d (.bool (xs.any p))) [] := by
  refine pc_intro ttOk (by kernel_rfl) Tryz.func55 rfl (by kernel_rfl) (by kernel_rfl) (by kernel_rfl) (fun hw => ?_)
  (conv => whnf)
  (refine cla_ (ixL_v xs f p hf) ?_)
  (refine RetOK.d rfl rfl ?_; conv => whnf)
  rw [← fdx_any p xs 0]

set_option maxHeartbeats 1000000 in
theorem ixint64_v (xs : List Int) (f : Nat) (p : Int → Bool) (hf : ∀ x : Int, PC Tryz.prog f [.d (.int .i64 x)] (.d (.bool (p x))) []) :
    PC Tryz.prog 111 [.d (.lst (xs.map (D.int .i64))), .fn (.func f) []] (.d (.int .i64 (fdx p xs 0))) [] := by
  refine pc_intro ttOk (by kernel_rfl) Tryz.func111 rfl (by kernel_rfl) (by kernel_rfl) (by kernel_rfl) (fun hw => ?_)
  have hL : (xs.map (D.int .i64)).length = xs.length := List.length_map _
  have hm : (xs.map (D.int .i64)).length ≤ 9223372036854775807 := hw.1.1
  (conv => whnf)
  refine LoopW.go (α := Nat) (fun k => [(0, .d (.lst (xs.map (D.int .i64)))), (1, .fn (.func f) []), (7, .d (.int .i64 (xs.map (D.int .i64)).length)), (8, .d (.int .i64 k))]) (fun k => [.gone]) (fun k => k ≤ xs.length ∧ fdx p xs 0 = fdx p (xs.drop k) k) (fun k => xs.length - k) 0 covT_ ?_ (fun k hk => ?_)
  · exact ⟨by omega, rfl⟩
  obtain ⟨hk1, hk2⟩ := hk
  (conv => whnf)
  (refine br_ (fun h2 => ?_) (fun h2 => ?_) <;> (repeat (refine stg_ ?_)))
  · obtain ⟨x, hx⟩ := at_lt' (xs := xs) (k := k) (by omega)
    rw [fdx_at hx] at hk2
    (repeat (refine stg_ ?_))
    (refine cla_ (hf x) ?_)
    (refine br_ (fun h3 => ?_) (fun h3 => ?_) <;> (repeat (refine stg_ ?_)))
    · (refine RetOK.d rfl rfl ?_; conv => whnf)
      rw [hk2, if_pos h3]
    · (repeat (refine stg_ ?_))
      exact NextW.go (k + 1) covT_ ⟨by omega, by rw [hk2, h3]; rfl⟩ (by omega)
  · (refine RetOK.d rfl rfl ?_; conv => whnf)
    rw [hk2, fdx_end (by omega)]
theorem ctint64_v (xs : List Int) (f : Nat) (p : Int → Bool) (hf : ∀ x : Int, PC Tryz.prog f [.d (.int .i64 x)] (.d (.bool (p x))) []) :
    PC Tryz.prog 57 [.d (.lst (xs.map (D.int .i64))), .fn (.func f) []] (.d (.bool (xs.any p))) [] := by
  refine pc_intro ttOk (by kernel_rfl) Tryz.func57 rfl (by kernel_rfl) (by kernel_rfl) (by kernel_rfl) (fun hw => ?_)
  (conv => whnf)
  (refine cla_ (ixint64_v xs f p hf) ?_)
  (refine RetOK.d rfl rfl ?_; conv => whnf)
  rw [← fdx_any p xs 0]

set_option maxHeartbeats 1000000 in
theorem ixRule_v (xs : List TRule) (f : Nat) (p : TRule → Bool) (hf : ∀ x : TRule, PC Tryz.prog f [.d x.D] (.d (.bool (p x))) []) :
    PC Tryz.prog 197 [.d (.lst (xs.map TRule.D)), .fn (.func f) []] (.d (.int .i64 (fdx p xs 0))) [] := by
  refine pc_intro ttOk (by kernel_rfl) Tryz.func197 rfl (by kernel_rfl) (by kernel_rfl) (by kernel_rfl) (fun hw => ?_)
  have hL : (xs.map TRule.D).length = xs.length := List.length_map _
  have hm : (xs.map TRule.D).length ≤ 9223372036854775807 := hw.1.1
  (conv => whnf)
  refine LoopW.go (α := Nat) (fun k => [(0, .d (.lst (xs.map TRule.D))), (1, .fn (.func f) []), (7, .d (.int .i64 (xs.map TRule.D).length)), (8, .d (.int .i64 k))]) (fun k => [.gone]) (fun k => k ≤ xs.length ∧ fdx p xs 0 = fdx p (xs.drop k) k) (fun k => xs.length - k) 0 covT_ ?_ (fun k hk => ?_)
  · exact ⟨by omega, rfl⟩
  obtain ⟨hk1, hk2⟩ := hk
  (conv => whnf)
  (refine br_ (fun h2 => ?_) (fun h2 => ?_) <;> (repeat (refine stg_ ?_)))
  · obtain ⟨x, hx⟩ := at_lt' (xs := xs) (k := k) (by omega)
    rw [fdx_at hx] at hk2
    (repeat (refine stg_ ?_))
    (refine cla_ (hf x) ?_)
    (refine br_ (fun h3 => ?_) (fun h3 => ?_) <;> (repeat (refine stg_ ?_)))
    · (refine RetOK.d rfl rfl ?_; conv => whnf)
      rw [hk2, if_pos h3]
    · (repeat (refine stg_ ?_))
      exact NextW.go (k + 1) covT_ ⟨by omega, by rw [hk2, h3]; rfl⟩ (by omega)
  · (refine RetOK.d rfl rfl ?_; conv => whnf)
    rw [hk2, fdx_end (by omega)]
theorem ctRule_v (xs : List TRule) (f : Nat) (p : TRule → Bool) (hf : ∀ x : TRule, PC Tryz.prog f [.d x.D] (.d (.bool (p x))) []) :
    PC Tryz.prog 152 [.d (.lst (xs.map TRule.D)), .fn (.func f) []] (.d (.bool (xs.any p))) [] := by
  refine pc_intro ttOk (by kernel_rfl) Tryz.func152 rfl (by kernel_rfl) (by kernel_rfl) (by kernel_rfl) (fun hw => ?_)
  (conv => whnf)
  (refine cla_ (ixRule_v xs f p hf) ?_)
  (refine RetOK.d rfl rfl ?_; conv => whnf)
  rw [← fdx_any p xs 0]

set_option maxHeartbeats 1000000 in
theorem ixLookupp_v (xs : List TLookup) (f : Nat) (y0 : D) (p : TLookup → Bool) (hf : ∀ x : TLookup, PC Tryz.prog f [.d x.D, .pX y0] (.d (.bool (p x))) []) :
    PC Tryz.prog 155 [.d (.lst (xs.map TLookup.D)), .fn (.func f) [.pX y0]] (.d (.int .i64 (fdx p xs 0))) [] := by
  refine pc_intro ttOk (by kernel_rfl) Tryz.func155 rfl (by kernel_rfl) (by kernel_rfl) (by kernel_rfl) (fun hw => ?_)
  have hL : (xs.map TLookup.D).length = xs.length := List.length_map _
  have hm : (xs.map TLookup.D).length ≤ 9223372036854775807 := hw.1.1
  (conv => whnf)
  refine LoopW.go (α := Nat) (fun k => [(0, .d (.lst (xs.map TLookup.D))), (1, .fn (.func f) [.pX y0]), (7, .d (.int .i64 (xs.map TLookup.D).length)), (8, .d (.int .i64 k))]) (fun k => [.gone]) (fun k => k ≤ xs.length ∧ fdx p xs 0 = fdx p (xs.drop k) k) (fun k => xs.length - k) 0 covT_ ?_ (fun k hk => ?_)
  · exact ⟨by omega, rfl⟩
  obtain ⟨hk1, hk2⟩ := hk
  (conv => whnf)
  (refine br_ (fun h2 => ?_) (fun h2 => ?_) <;> (repeat (refine stg_ ?_)))
  · obtain ⟨x, hx⟩ := at_lt' (xs := xs) (k := k) (by omega)
    rw [fdx_at hx] at hk2
    (repeat (refine stg_ ?_))
    (refine cla_ (hf x) ?_)
    (refine br_ (fun h3 => ?_) (fun h3 => ?_) <;> (repeat (refine stg_ ?_)))
    · (refine RetOK.d rfl rfl ?_; conv => whnf)
      rw [hk2, if_pos h3]
    · (repeat (refine stg_ ?_))
      exact NextW.go (k + 1) covT_ ⟨by omega, by rw [hk2, h3]; rfl⟩ (by omega)
  · (refine RetOK.d rfl rfl ?_; conv => whnf)
    rw [hk2, fdx_end (by omega)]

theorem fullCs1_v (x : List Int) : PC Tryz.prog 234 [.d (.lst (x.map (D.int .i64)))] (.d (.bool (!fcB x))) [] := by
  refine pc_intro ttOk (by kernel_rfl) Tryz.func234 rfl (by kernel_rfl) (by kernel_rfl) (by kernel_rfl) (fun hw => ?_)
  (conv => whnf)
  (repeat' (first | (refine stg_ ?_) | (refine cla_ (fullClass_v x) ?_) | (refine br_ (fun hbr => ?_) (fun hbr => ?_))))
  all_goals ((refine RetOK.d rfl rfl ?_; conv => whnf); try rfl)
theorem fullClasses_v (xs : List (List Int)) (lo : Nat) (hlo : lo ≤ 1) : PC Tryz.prog 198 [.d (.lst (xs.map (lstD (D.int .i64)))), .d (.int .i64 lo), .d (.int .i64 4)] (.d (.bool (fcsB lo xs))) [] := by
  refine pc_intro ttOk (by kernel_rfl) Tryz.func198 rfl (by kernel_rfl) (by kernel_rfl) (by kernel_rfl) (fun hw => ?_)
  have hL : (xs.map (lstD (D.int .i64))).length = xs.length := List.length_map _
  have hA : xs.all fcB = !xs.any (fun x => !fcB x) := by simp [List.all_eq_not_any_not]
  (conv => whnf)
  (repeat' (first | (refine stg_ ?_) | (refine cla_ (ctL_v xs _ (fun x => !fcB x) fullCs1_v) ?_) | (refine br_ (fun hbr => ?_) (fun hbr => ?_))))
  all_goals ((refine RetOK.d rfl rfl ?_; conv => whnf); rw [fcsB, hA]; generalize (xs.any fun x => !fcB x) = q at *; simp_all; try omega)
theorem l25Classes_v (xs : List (List Int)) (lo : Nat) (hlo : lo ≤ 1) : PC Tryz.prog 195 [.d (.lst (xs.map (lstD (D.int .i64)))), .d (.int .i64 lo)] (.d (.bool (fcsB lo xs))) [] := by
  refine pc_intro ttOk (by kernel_rfl) Tryz.func195 rfl (by kernel_rfl) (by kernel_rfl) (by kernel_rfl) (fun hw => ?_)
  have hL : (xs.map (lstD (D.int .i64))).length = xs.length := List.length_map _
  have hm : (xs.map (lstD (D.int .i64))).length ≤ 9223372036854775807 := hw.1.1
  (conv => whnf)
  refine LoopW.go (α := Nat) (fun k => [(0, .d (.lst (xs.map (lstD (D.int .i64))))), (1, .d (.int .i64 lo)), (5, .d (.int .i64 k))]) (fun k => [.gone]) (fun k => k ≤ xs.length ∧ xs.all fcB = (xs.drop k).all fcB) (fun k => xs.length - k) 0 covT_ ?_ (fun k hk => ?_)
  · exact ⟨by omega, rfl⟩
  obtain ⟨hk1, hk2⟩ := hk
  (conv => whnf)
  (refine br_ (fun h2 => ?_) (fun h2 => ?_) <;> (repeat (refine stg_ ?_)))
  · obtain ⟨x, hx⟩ := at_lt' (xs := xs) (k := k) (by omega)
    rw [drop_at hx, List.all_cons] at hk2
    (repeat' (first | (refine stg_ ?_) | (refine cla_ (l25Class_v x) ?_) | (refine br_ (fun hbr => ?_) (fun hbr => ?_))))
    all_goals first | ((refine RetOK.d rfl rfl ?_; conv => whnf); rw [fcsB, hk2]; simp_all; done) | skip
    all_goals exact NextW.go (k + 1) covT_ ⟨by omega, by rw [hk2]; simp_all⟩ (by omega)
  · rw [List.drop_eq_nil_of_le (by omega)] at hk2
    (repeat' (first | (refine stg_ ?_) | (refine cl_ (l00In_v _ _ _) ?_) | (refine br_ (fun hbr => ?_) (fun hbr => ?_))))
    (refine RetOK.d rfl rfl ?_; conv => whnf)
    rw [fcsB, hk2, hL, List.all_nil, Bool.and_true, inB]
    congr 2 <;> (congr 1; simp; try omega)
end Go.Proofs.YtcachhipflibkaaGreat

/- Features: rules, lookups, joins, both sides, by the machine. -/
set_option linter.unusedSimpArgs false
set_option linter.unusedVariables false
namespace Go.Proofs.YtcachhipflibkaaGreat
open Go.RowKit
theorem ValidRule1_v (n : Int) : PC Tryz.prog 199 [.d (.int .i64 n)] (.d (.bool (!inB n 0 39))) [] := by
  refine pc_intro ttOk (by kernel_rfl) Tryz.func199 rfl (by kernel_rfl) (by kernel_rfl) (by kernel_rfl) (fun hw => ?_)
  (conv => whnf)
  (repeat' (first | (refine stg_ ?_) | (refine cl_ (isGlyphNumber_v n) ?_) | (refine br_ (fun hbr => ?_) (fun hbr => ?_))))
  all_goals ((refine RetOK.d rfl rfl ?_; conv => whnf); try rfl)
theorem ValidRule_v (r : TRule) : PC Tryz.prog 154 [.d r.D] (.d (.bool (ruB r))) [] := by
  refine pc_intro ttOk (by kernel_rfl) Tryz.func154 rfl (by kernel_rfl) (by kernel_rfl) (by kernel_rfl) (fun hw => ?_)
  have hL : (r.fOutput.map (D.int .i64)).length = r.fOutput.length := List.length_map _
  have hA : (r.fOutput.all fun g => inB g 0 39) = !r.fOutput.any (fun x => !inB x 0 39) := by simp [List.all_eq_not_any_not]
  have c1 := fullClasses_v r.fBefore 0 (by omega)
  have c2 := fullClasses_v r.fInput 1 (by omega)
  have c3 := fullClasses_v r.fAfter 0 (by omega)
  have c4 := ctint64_v r.fOutput _ (fun x => !inB x 0 39) ValidRule1_v
  rw [ruB, hA]
  generalize (r.fOutput.any fun x => !inB x 0 39) = q at *
  (conv => whnf)
  (repeat' (first | (refine stg_ ?_) | (refine cla_ (c1) ?_) | (refine cla_ (c2) ?_) | (refine cla_ (c3) ?_) | (refine cla_ (c4) ?_) | (refine br_ (fun hbr => ?_) (fun hbr => ?_))))
  all_goals ((refine RetOK.d rfl rfl ?_; conv => whnf); simp_all; try omega)
theorem l25Rule_v (r : TRule) : PC Tryz.prog 148 [.pX r.D] (.d (.bool (ruB r))) [] := by
  refine pc_intro ttOk (by kernel_rfl) Tryz.func148 rfl (by kernel_rfl) (by kernel_rfl) (by kernel_rfl) (fun hw => ?_)
  have hL : (r.fOutput.map (D.int .i64)).length = r.fOutput.length := List.length_map _
  have hm : (r.fOutput.map (D.int .i64)).length ≤ 9223372036854775807 := hw.1.2.2.2.1.1
  have c1 := l25Classes_v r.fBefore 0 (by omega)
  have c2 := l25Classes_v r.fInput 1 (by omega)
  have c3 := l25Classes_v r.fAfter 0 (by omega)
  (conv => whnf)
  refine LoopW.go (α := Nat) (fun k => [(0, .pX r.D), (3, .d (.int .i64 k))]) (fun k => [.gone]) (fun k => k ≤ r.fOutput.length ∧ (r.fOutput.all fun g => inB g 0 39) = (r.fOutput.drop k).all (fun g => inB g 0 39)) (fun k => r.fOutput.length - k) 0 covT_ ?_ (fun k hk => ?_)
  · exact ⟨by omega, rfl⟩
  obtain ⟨hk1, hk2⟩ := hk
  (conv => whnf)
  (refine br_ (fun h2 => ?_) (fun h2 => ?_) <;> (repeat (refine stg_ ?_)))
  · obtain ⟨x, hx⟩ := at_lt' (xs := r.fOutput) (k := k) (by omega)
    rw [drop_at hx, List.all_cons] at hk2
    (repeat' (first | (refine stg_ ?_) | (refine cl_ (l00In_v x _ _) ?_) | (refine br_ (fun hbr => ?_) (fun hbr => ?_))))
    all_goals first | ((refine RetOK.d rfl rfl ?_; conv => whnf); rw [ruB, hk2]; simp_all; done) | skip
    all_goals exact NextW.go (k + 1) covT_ ⟨by omega, by rw [hk2]; simp_all⟩ (by omega)
  · rw [List.drop_eq_nil_of_le (by omega)] at hk2
    (repeat' (first | (refine stg_ ?_) | (refine cla_ (c1) ?_) | (refine cla_ (c2) ?_) | (refine cla_ (c3) ?_) | (refine br_ (fun hbr => ?_) (fun hbr => ?_))))
    all_goals ((refine RetOK.d rfl rfl ?_; conv => whnf); rw [ruB, hk2]; simp_all; try omega)
theorem validLk1_v (r : TRule) : PC Tryz.prog 153 [.d r.D] (.d (.bool (!ruB r))) [] := by
  refine pc_intro ttOk (by kernel_rfl) Tryz.func153 rfl (by kernel_rfl) (by kernel_rfl) (by kernel_rfl) (fun hw => ?_)
  (conv => whnf)
  (repeat' (first | (refine stg_ ?_) | (refine cla_ (ValidRule_v r) ?_) | (refine br_ (fun hbr => ?_) (fun hbr => ?_))))
  all_goals ((refine RetOK.d rfl rfl ?_; conv => whnf); try rfl)
theorem validLookup_v (l : TLookup) : PC Tryz.prog 103 [.d l.D] (.d (.bool (lkB l))) [] := by
  refine pc_intro ttOk (by kernel_rfl) Tryz.func103 rfl (by kernel_rfl) (by kernel_rfl) (by kernel_rfl) (fun hw => ?_)
  have hL : (l.fRules.map TRule.D).length = l.fRules.length := List.length_map _
  have hA : l.fRules.all ruB = !l.fRules.any (fun x => !ruB x) := by simp [List.all_eq_not_any_not]
  have c1 := IsName_v l.fName
  have c4 := ctRule_v l.fRules _ (fun x => !ruB x) validLk1_v
  rw [lkB, hA]
  generalize (l.fRules.any fun x => !ruB x) = q at *
  (conv => whnf)
  (repeat' (first | (refine stg_ ?_) | (refine cla_ (c1) ?_) | (refine cla_ (c4) ?_) | (refine br_ (fun hbr => ?_) (fun hbr => ?_))))
  all_goals ((refine RetOK.d rfl rfl ?_; conv => whnf); simp_all; try omega)
theorem lookupNm1_v (x : TLookup) (s : ByteArray) : PC Tryz.prog 156 [.d x.D, .pX (.str s)] (.d (.bool (nmEq s x))) [] := by
  refine pc_intro ttOk (by kernel_rfl) Tryz.func156 rfl (by kernel_rfl) (by kernel_rfl) (by kernel_rfl) (fun hw => ?_)
  (conv => whnf)
  (refine RetOK.d rfl rfl ?_; conv => whnf)
  rfl
theorem lookupNamed_v (xs : List TLookup) (s : ByteArray) : PC Tryz.prog 104 [.d (.lst (xs.map TLookup.D)), .d (.str s)] (.d (.int .i64 (fdx (nmEq s) xs 0))) [] := by
  refine pc_intro ttOk (by kernel_rfl) Tryz.func104 rfl (by kernel_rfl) (by kernel_rfl) (by kernel_rfl) (fun hw => ?_)
  (conv => whnf)
  (repeat' (first | (refine stg_ ?_) | (refine cla_ (ixLookupp_v xs _ (.str s) (nmEq s) (fun x => lookupNm1_v x s)) ?_) | (refine br_ (fun hbr => ?_) (fun hbr => ?_))))
  (refine RetOK.d rfl rfl ?_; conv => whnf)
theorem validJoin_v (j : TJoin) : PC Tryz.prog 107 [.d j.D] (.d (.bool (jnB j))) [] := by
  refine pc_intro ttOk (by kernel_rfl) Tryz.func107 rfl (by kernel_rfl) (by kernel_rfl) (by kernel_rfl) (fun hw => ?_)
  have hB : jnB j = (inB j.fGlyph 0 39 && inB j.fKind 1 3 && [j.fInit, j.fMedi, j.fFina].all (fmB j.fKind)) := by simp [jnB, Bool.and_assoc]
  have hl : [j.fInit, j.fMedi, j.fFina].length = 3 := rfl
  obtain ⟨AL, hA⟩ : ∃ AL, AL = [j.fInit, j.fMedi, j.fFina].all (fmB j.fKind) := ⟨_, rfl⟩
  rw [← hA] at hB
  (conv => whnf)
  refine LoopW.go (α := Nat) (fun k => [(1, .pB 1 [] 0), (11, .own 2 0 3), (12, .d (.int .i64 3)), (13, .d (.int .i64 k))]) (fun k => [.gone, .box (.d j.D), .arr 1 ([j.fInit, j.fMedi, j.fFina].map (D.int .i64)) true]) (fun k => k ≤ 3 ∧ AL = ([j.fInit, j.fMedi, j.fFina].drop k).all (fmB j.fKind)) (fun k => 3 - k) 0 covT_ ?_ (fun k hk => ?_)
  · exact ⟨by omega, hA⟩
  clear hA
  obtain ⟨hk1, hk2⟩ := hk
  (conv => whnf)
  (refine br_ (fun h2 => ?_) (fun h2 => ?_) <;> (repeat (refine stg_ ?_)))
  · obtain ⟨x, hx⟩ := at_lt' (xs := [j.fInit, j.fMedi, j.fFina]) (k := k) (by omega)
    have hx' : ([j.fInit, j.fMedi, j.fFina].map (D.int .i64))[k]? = some (.int .i64 x) := by rw [List.getElem?_map, hx]; rfl
    rw [drop_at hx, List.all_cons] at hk2
    generalize [j.fInit, j.fMedi, j.fFina] = fs at *
    (repeat' (first | (refine stg_ ?_) | fail | (refine br_ (fun hbr => ?_) (fun hbr => ?_))))
    all_goals first | ((refine RetOK.d rfl rfl ?_; conv => whnf); rw [hB, hk2]; simp_all [fmB, inB]; done) | ((refine RetOK.d rfl rfl ?_; conv => whnf); rw [hB, hk2]; simp_all [fmB, inB]; omega) | skip
    all_goals exact NextW.go (k + 1) covT_ ⟨by omega, by (rw [hk2]; clear hk2; simp_all [fmB, inB] <;> (try omega) <;> (try (intro _; omega)))⟩ (by omega)
  · rw [List.drop_eq_nil_of_le (by omega)] at hk2
    rw [hk2] at hB
    (repeat' (first | (refine stg_ ?_) | (refine cl_ (isGlyphNumber_v _) ?_) | (refine br_ (fun hbr => ?_) (fun hbr => ?_))))
    all_goals ((refine RetOK.d rfl rfl ?_; conv => whnf); rw [hB]; simp_all [inB]; try omega)
theorem l25Join_v (j : TJoin) : PC Tryz.prog 97 [.pX j.D] (.d (.bool (jnB j))) [] := by
  refine pc_intro ttOk (by kernel_rfl) Tryz.func97 rfl (by kernel_rfl) (by kernel_rfl) (by kernel_rfl) (fun hw => ?_)
  (conv => whnf)
  (repeat' (first | (refine stg_ ?_) | (refine cl_ (l00In_v _ _ _) ?_) | (refine br_ (fun hbr => ?_) (fun hbr => ?_))))
  all_goals ((refine RetOK.d rfl rfl ?_; conv => whnf); simp_all [jnB, fmB])
set_option maxHeartbeats 2000000 in
theorem l25Lookups_v (xs : List TLookup) : PC Tryz.prog 94 [.d (.lst (xs.map TLookup.D))] (.d (.bool (lksB xs))) [] := by
  refine pc_intro ttOk (by kernel_rfl) Tryz.func94 rfl (by kernel_rfl) (by kernel_rfl) (by kernel_rfl) (fun hw => ?_)
  have hL : (xs.map TLookup.D).length = xs.length := List.length_map _
  have hm : (xs.map TLookup.D).length ≤ 9223372036854775807 := hw.1.1
  (conv => whnf)
  refine LoopW.go (α := Nat) (fun k => [(0, .d (.lst (xs.map TLookup.D))), (3, .d (.int .i64 k))]) (fun k => [.gone]) (fun k => k ≤ xs.length ∧ lkG [] xs = lkG (xs.take k) (xs.drop k)) (fun k => xs.length - k) 0 covT_ ?_ (fun k hk => ?_)
  · exact ⟨by omega, rfl⟩
  obtain ⟨hk1, hk2⟩ := hk
  (conv => whnf)
  (refine br_ (fun h2 => ?_) (fun h2 => ?_) <;> (repeat (refine stg_ ?_)))
  · obtain ⟨x, hx⟩ := at_lt' (xs := xs) (k := k) (by omega)
    rw [lkG_at hx] at hk2
    have hR : (x.fRules.map TRule.D).length = x.fRules.length := List.length_map _
    have hx' : (xs.map TLookup.D)[k]? = some x.D := by rw [List.getElem?_map, hx]; rfl
    have c1 := specIsName_v x.fName
    (repeat' (first | (refine stg_ ?_) | (refine cla_ (c1) ?_) | (refine br_ (fun hbr => ?_) (fun hbr => ?_))))
    all_goals first | ((refine RetOK.d rfl rfl ?_; conv => whnf); rw [lksB, hk2, lkB]; simp_all; done) | ((refine RetOK.d rfl rfl ?_; conv => whnf); rw [lksB, hk2, lkB, show decide (x.fRules.length ≤ 40) = false by (rw [decide_eq_false_iff_not]; omega)]; simp; done) | skip
    refine LoopW.go (α := Nat) (fun m => [(0, .d (.lst (xs.map TLookup.D))), (3, .d (.int .i64 k)), (4, .d (.int .i64 m))]) (fun _ => [.gone]) (fun m => m ≤ k ∧ (xs.take m).any (nmEq x.fName) = false) (fun m => k - m) 0 covT_ ⟨by omega, rfl⟩ (fun m hm => ?_)
    obtain ⟨hm1, hm2⟩ := hm
    (conv => whnf)
    (refine br_ (fun h3 => ?_) (fun h3 => ?_) <;> (repeat (refine stg_ ?_)))
    · obtain ⟨y, hy⟩ := at_lt' (xs := xs) (k := m) (by omega)
      have hS := any_snoc (p := nmEq x.fName) hy
      (repeat' (first | (refine stg_ ?_) | fail | (refine br_ (fun hbr => ?_) (fun hbr => ?_))))
      · (refine RetOK.d rfl rfl ?_; conv => whnf)
        have h4 := any_take (p := nmEq x.fName) hy (k := k) (by omega) (by simp_all [nmEq])
        rw [lksB, hk2, h4]; simp
      · exact NextW.go (m + 1) covT_ ⟨by omega, by rw [hS, hm2]; simp_all [nmEq]⟩ (by omega)
    · obtain rfl : m = k := by omega
      rw [hm2] at hk2
      refine LoopW.go (α := Nat) (fun j => [(0, .d (.lst (xs.map TLookup.D))), (3, .d (.int .i64 m)), (5, .d (.int .i64 j))]) (fun _ => [.gone]) (fun j => j ≤ x.fRules.length ∧ x.fRules.all ruB = (x.fRules.drop j).all ruB) (fun j => x.fRules.length - j) 0 covT_ ⟨by omega, rfl⟩ (fun j hj => ?_)
      obtain ⟨hj1, hj2⟩ := hj
      (conv => whnf)
      (repeat (refine stg_ ?_))
      (refine br_ (fun h4 => ?_) (fun h4 => ?_) <;> (repeat (refine stg_ ?_)))
      · obtain ⟨r, hr⟩ := at_lt' (xs := x.fRules) (k := j) (by omega)
        rw [drop_at hr, List.all_cons] at hj2
        (repeat' (first | (refine stg_ ?_) | (refine cla_ (l25Rule_v r) ?_) | (refine br_ (fun hbr => ?_) (fun hbr => ?_))))
        all_goals first | ((refine RetOK.d rfl rfl ?_; conv => whnf); rw [lksB, hk2, lkB, hj2]; simp_all; done) | skip
        all_goals exact NextW.go (j + 1) covT_ ⟨by omega, by rw [hj2]; simp_all⟩ (by omega)
      · rw [List.drop_eq_nil_of_le (by omega)] at hj2
        (repeat (refine stg_ ?_))
        exact NextW.go (m + 1) covT_ ⟨by omega, by rw [hk2, lkB, hj2]; simp_all; try omega⟩ (by omega)
  · (refine RetOK.d rfl rfl ?_; conv => whnf)
    rw [lksB, hk2, lkG_end (by omega), Bool.and_true]
    congr 1
    rw [Bool.eq_iff_iff]; simp; try omega
end Go.Proofs.YtcachhipflibkaaGreat
