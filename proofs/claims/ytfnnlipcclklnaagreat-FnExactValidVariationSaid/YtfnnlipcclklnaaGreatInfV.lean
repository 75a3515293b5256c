/- Inferred moves: parts of both, by the machine. -/
import Derived.Test.YtfnnlipcclklnaaGreatInfP
import Derived.Test.YtfnnlipcclklnaaGreatWfV
set_option linter.unusedSimpArgs false
set_option linter.unusedVariables false
namespace Go.Proofs.YtfnnlipcclklnaaGreat
open Go.RowKit
theorem isNaNi_v (n : Int) : PC Tryz.prog 167 [.d (.int .i64 n)] (.d (.bool false)) [] := by
  refine pc_intro ttOk (by kernel_rfl) Tryz.func167 rfl (by kernel_rfl) (by kernel_rfl) (by kernel_rfl) (fun hw => ?_)
  (conv => whnf)
  (repeat' (first | (refine stg_ ?_) | fail | (refine br_ (fun hbr => ?_) (fun hbr => ?_))))
  all_goals ((refine RetOK.d rfl rfl ?_; conv => whnf); simp)
theorem isNaNs_v (n : Int) : PC Tryz.prog 231 [.d (.int .i64 n)] (.d (.bool false)) [] := by
  refine pc_intro ttOk (by kernel_rfl) Tryz.func231 rfl (by kernel_rfl) (by kernel_rfl) (by kernel_rfl) (fun hw => ?_)
  (conv => whnf)
  (repeat' (first | (refine stg_ ?_) | fail | (refine br_ (fun hbr => ?_) (fun hbr => ?_))))
  all_goals ((refine RetOK.d rfl rfl ?_; conv => whnf); simp)
theorem less_v (a b : Int) : PC Tryz.prog 230 [.d (.int .i64 a), .d (.int .i64 b)] (.d (.bool (decide (a < b)))) [] := by
  refine pc_intro ttOk (by kernel_rfl) Tryz.func230 rfl (by kernel_rfl) (by kernel_rfl) (by kernel_rfl) (fun hw => ?_)
  (conv => whnf)
  (repeat' (first | (refine stg_ ?_) | (refine cla_ (isNaNi_v _) ?_) | (refine br_ (fun hbr => ?_) (fun hbr => ?_))))
  all_goals ((refine RetOK.d rfl rfl ?_; conv => whnf); try simp_all)
set_option maxHeartbeats 2000000 in
theorem bsr_v (xs : List Int) (b : Int) (hs : srt xs) (hl : xs.length ≤ 1048576) : PC Tryz.prog 182 [.d (.lst (xs.map (D.int .i64))), .d (.int .i64 b)] (.tup [.d (.int .i64 (cl xs b : Nat)), .d (.bool (fd xs b))]) [] := by
  refine pc_intro ttOk (by kernel_rfl) Tryz.func182 rfl (by kernel_rfl) (by kernel_rfl) (by kernel_rfl) (fun hw => ?_)
  have hL : (xs.map (D.int .i64)).length = xs.length := List.length_map _
  have hm : (xs.map (D.int .i64)).length ≤ 9223372036854775807 := hw.1.1
  have hc := cl_le xs b
  (conv => whnf)
  (repeat (refine stg_ ?_))
  refine LoopW.go (α := Nat × Nat) (fun p => [(0, .d (.lst (xs.map (D.int .i64)))), (1, .d (.int .i64 b)), (6, .d (.int .i64 (xs.map (D.int .i64)).length)), (7, .d (.int .i64 (p.1 : Nat))), (8, .d (.int .i64 (p.2 : Nat)))]) (fun _ => [.gone]) (fun p => p.1 ≤ cl xs b ∧ cl xs b ≤ p.2 ∧ p.2 ≤ xs.length) (fun p => p.2 - p.1) (0, xs.length) (Weak.cov ⟨rfl, rfl, rfl, rfl, by rw [← hL]; rfl, trivial⟩ ⟨trivial, trivial⟩ rfl) ⟨by simp, hc, Nat.le_refl _⟩ ?_
  rintro ⟨i, j⟩ ⟨k1, k2, k3⟩
  dsimp only at k1 k2 k3 ⊢
  (conv => whnf)
  (refine br_ (fun h1 => ?_) (fun h1 => ?_))
  · (repeat (refine stg_ ?_))
    refine ShW.at (q := 2) (by rfl) (by omega) ?_
    (conv => whnf)
    have hq : ((i : Int) + (j : Int)) / 2 = (((i + j) / 2 : Nat) : Int) := by omega
    rw [hq]
    generalize hh : (i + j) / 2 = m at *
    obtain ⟨y, hy⟩ := at_lt' (xs := xs) (k := m) (by omega)
    have c1 := less_v y b
    (repeat (refine stg_ ?_))
    (refine cla_ (c1) ?_)
    (repeat (refine stg_ ?_))
    (refine br_ (fun h2 => ?_) (fun h2 => ?_))
    · have hlt : m < cl xs b := by
        apply Classical.byContradiction
        intro h
        have := cl_ge (b := b) hs (by omega) hy
        omega
      (repeat (refine stg_ ?_))
      refine NextW.go (m + 1, j) covT_ ⟨by simp only; omega, by simp only; omega, by simp only; omega⟩ (by show j - (m + 1) < j - i; omega)
    · have hge : cl xs b ≤ m := by
        apply Classical.byContradiction
        intro h
        have := cl_lt (b := b) (by omega) hy
        omega
      (repeat (refine stg_ ?_))
      refine NextW.go (i, m) covT_ ⟨by simp only; omega, by simp only; omega, by simp only; omega⟩ (by show m - i < j - i; omega)
  · obtain rfl : i = cl xs b := by omega
    rcases Nat.lt_or_ge (cl xs b) xs.length with hlt | hge
    · obtain ⟨y, hy⟩ := at_lt' (xs := xs) (k := cl xs b) hlt
      have hf : fd xs b = decide (y = b) := by
        rw [fd, hy]
        by_cases h : y = b
        · subst h; simp
        · rw [decide_eq_false h]; simp [h]
      rw [hf]
      (repeat' (first | (refine stg_ ?_) | (refine cla_ (isNaNs_v _) ?_) | (refine br_ (fun hbr => ?_) (fun hbr => ?_))))
      all_goals first | (exfalso; omega) | skip
      all_goals ((refine RetOK.t rfl ?_; (repeat' ((conv => whnf); (first | done | (refine ⟨_, _, rfl, ⟨rfl, ?_⟩, ?_⟩) | fail))); (all_goals (conv => whnf))); (all_goals first | rfl | (simp_all; done) | skip))
    · have hf : fd xs b = false := by
        rw [fd, List.getElem?_eq_none hge]; rfl
      rw [hf]
      (repeat' (first | (refine stg_ ?_) | (refine cla_ (isNaNs_v _) ?_) | (refine br_ (fun hbr => ?_) (fun hbr => ?_))))
      all_goals first | (exfalso; omega) | skip
      all_goals ((refine RetOK.t rfl ?_; (repeat' ((conv => whnf); (first | done | (refine ⟨_, _, rfl, ⟨rfl, ?_⟩, ?_⟩) | fail))); (all_goals (conv => whnf))); (all_goals first | rfl | (simp_all; done) | skip))
theorem prodb (u v w : Int) (h1 : 0 < u) (h2 : u < w) (h3 : w ≤ 524288) (h4 : -524288 ≤ v) (h5 : v ≤ 524288) : (-274877906944 ≤ u * v ∧ u * v ≤ 274877906944) ∧ 0 < w ∧ -524288 ≤ divR (u * v) w ∧ divR (u * v) w ≤ 524288 := by
  have e3 : u * v ≤ u * 524288 := Int.mul_le_mul_of_nonneg_left h5 (by omega)
  have e4 : u * (-524288) ≤ u * v := Int.mul_le_mul_of_nonneg_left h4 (by omega)
  refine ⟨by omega, by omega, le_divR (by omega) (by omega), divR_le (by omega) (by omega)⟩
theorem inferred_v (x a b c d : Int) (hb : (-262144 ≤ x ∧ x ≤ 262144) ∧ (-262144 ≤ a ∧ a ≤ 262144) ∧ (-262144 ≤ b ∧ b ≤ 262144) ∧ (-262144 ≤ c ∧ c ≤ 262144) ∧ -262144 ≤ d ∧ d ≤ 262144) : PC Tryz.prog 183 [.d (.int .i64 x), .d (.int .i64 a), .d (.int .i64 b), .d (.int .i64 c), .d (.int .i64 d)] (.d (.int .i64 (bt x a b c d))) [] := by
  refine pc_intro ttOk (by kernel_rfl) Tryz.func183 rfl (by kernel_rfl) (by kernel_rfl) (by kernel_rfl) (fun hw => ?_)
  obtain ⟨b1, b2, b3, b4, b5⟩ := hb
  by_cases hab : b < a
  · rw [bt, if_pos hab]
    have d1 := DivRound_v ((x - b) * (c - d)) (a - b)
    by_cases h1 : b = a
    · by_cases h2 : d = c
      · rw [bt0, if_pos h1, if_pos h2]
        (conv => whnf)
        (repeat' (first | (refine stg_ ?_) | fail | (refine br_ (fun hbr => ?_) (fun hbr => ?_))))
        all_goals first | (exfalso; omega) | ((refine RetOK.d rfl rfl ?_; conv => whnf); done) | ((refine RetOK.d rfl rfl ?_; conv => whnf); congr 1)
      · rw [bt0, if_pos h1, if_neg h2]
        (conv => whnf)
        (repeat' (first | (refine stg_ ?_) | fail | (refine br_ (fun hbr => ?_) (fun hbr => ?_))))
        all_goals first | (exfalso; omega) | ((refine RetOK.d rfl rfl ?_; conv => whnf); done)
    by_cases h2 : x ≤ b
    · rw [bt0, if_neg h1, if_pos h2]
      (conv => whnf)
      (repeat' (first | (refine stg_ ?_) | fail | (refine br_ (fun hbr => ?_) (fun hbr => ?_))))
      all_goals first | (exfalso; omega) | ((refine RetOK.d rfl rfl ?_; conv => whnf); done)
    by_cases h3 : a ≤ x
    · rw [bt0, if_neg h1, if_neg h2, if_pos h3]
      (conv => whnf)
      (repeat' (first | (refine stg_ ?_) | fail | (refine br_ (fun hbr => ?_) (fun hbr => ?_))))
      all_goals first | (exfalso; omega) | ((refine RetOK.d rfl rfl ?_; conv => whnf); done)
    · rw [bt0, if_neg h1, if_neg h2, if_neg h3]
      obtain ⟨e1, e2, e3, e4⟩ := prodb (x - b) (c - d) (a - b) (by omega) (by omega) (by omega) (by omega) (by omega)
      (conv => whnf)
      (repeat' (first | (refine stg_ ?_) | (refine cla_ (d1) ?_) | (refine br_ (fun hbr => ?_) (fun hbr => ?_))))
      all_goals first | (exfalso; omega) | ((refine RetOK.d rfl rfl ?_; conv => whnf); done)
  · rw [bt, if_neg hab]
    have d1 := DivRound_v ((x - a) * (d - c)) (b - a)
    by_cases h1 : a = b
    · by_cases h2 : c = d
      · rw [bt0, if_pos h1, if_pos h2]
        (conv => whnf)
        (repeat' (first | (refine stg_ ?_) | fail | (refine br_ (fun hbr => ?_) (fun hbr => ?_))))
        all_goals first | (exfalso; omega) | ((refine RetOK.d rfl rfl ?_; conv => whnf); done) | ((refine RetOK.d rfl rfl ?_; conv => whnf); congr 1)
      · rw [bt0, if_pos h1, if_neg h2]
        (conv => whnf)
        (repeat' (first | (refine stg_ ?_) | fail | (refine br_ (fun hbr => ?_) (fun hbr => ?_))))
        all_goals first | (exfalso; omega) | ((refine RetOK.d rfl rfl ?_; conv => whnf); done)
    by_cases h2 : x ≤ a
    · rw [bt0, if_neg h1, if_pos h2]
      (conv => whnf)
      (repeat' (first | (refine stg_ ?_) | fail | (refine br_ (fun hbr => ?_) (fun hbr => ?_))))
      all_goals first | (exfalso; omega) | ((refine RetOK.d rfl rfl ?_; conv => whnf); done)
    by_cases h3 : b ≤ x
    · rw [bt0, if_neg h1, if_neg h2, if_pos h3]
      (conv => whnf)
      (repeat' (first | (refine stg_ ?_) | fail | (refine br_ (fun hbr => ?_) (fun hbr => ?_))))
      all_goals first | (exfalso; omega) | ((refine RetOK.d rfl rfl ?_; conv => whnf); done)
    · rw [bt0, if_neg h1, if_neg h2, if_neg h3]
      obtain ⟨e1, e2, e3, e4⟩ := prodb (x - a) (d - c) (b - a) (by omega) (by omega) (by omega) (by omega) (by omega)
      (conv => whnf)
      (repeat' (first | (refine stg_ ?_) | (refine cla_ (d1) ?_) | (refine br_ (fun hbr => ?_) (fun hbr => ?_))))
      all_goals first | (exfalso; omega) | ((refine RetOK.d rfl rfl ?_; conv => whnf); done)
set_option maxHeartbeats 1000000 in
theorem l30Between_v (x a b c d : Int) (hb : (-262144 ≤ x ∧ x ≤ 262144) ∧ (-262144 ≤ a ∧ a ≤ 262144) ∧ (-262144 ≤ b ∧ b ≤ 262144) ∧ (-262144 ≤ c ∧ c ≤ 262144) ∧ -262144 ≤ d ∧ d ≤ 262144) : PC Tryz.prog 225 [.d (.int .i64 x), .d (.int .i64 a), .d (.int .i64 b), .d (.int .i64 c), .d (.int .i64 d)] (.d (.int .i64 (bt x a b c d))) [] := by
  refine pc_intro ttOk (by kernel_rfl) Tryz.func225 rfl (by kernel_rfl) (by kernel_rfl) (by kernel_rfl) (fun hw => ?_)
  obtain ⟨b1, b2, b3, b4, b5⟩ := hb
  by_cases hab : b < a
  · rw [bt, if_pos hab]
    have d1 := specDivRound_v ((x - b) * (c - d)) (a - b)
    by_cases h1 : b = a
    · by_cases h2 : d = c
      · rw [bt0, if_pos h1, if_pos h2]
        (conv => whnf)
        (repeat' (first | (refine stg_ ?_) | fail | (refine br_ (fun hbr => ?_) (fun hbr => ?_))))
        all_goals first | (exfalso; omega) | ((refine RetOK.d rfl rfl ?_; conv => whnf); done) | ((refine RetOK.d rfl rfl ?_; conv => whnf); congr 1)
      · rw [bt0, if_pos h1, if_neg h2]
        (conv => whnf)
        (repeat' (first | (refine stg_ ?_) | fail | (refine br_ (fun hbr => ?_) (fun hbr => ?_))))
        all_goals first | (exfalso; omega) | ((refine RetOK.d rfl rfl ?_; conv => whnf); done)
    by_cases h2 : x ≤ b
    · rw [bt0, if_neg h1, if_pos h2]
      (conv => whnf)
      (repeat' (first | (refine stg_ ?_) | fail | (refine br_ (fun hbr => ?_) (fun hbr => ?_))))
      all_goals first | (exfalso; omega) | ((refine RetOK.d rfl rfl ?_; conv => whnf); done)
    by_cases h3 : a ≤ x
    · rw [bt0, if_neg h1, if_neg h2, if_pos h3]
      (conv => whnf)
      (repeat' (first | (refine stg_ ?_) | fail | (refine br_ (fun hbr => ?_) (fun hbr => ?_))))
      all_goals first | (exfalso; omega) | ((refine RetOK.d rfl rfl ?_; conv => whnf); done)
    · rw [bt0, if_neg h1, if_neg h2, if_neg h3]
      obtain ⟨e1, e2, e3, e4⟩ := prodb (x - b) (c - d) (a - b) (by omega) (by omega) (by omega) (by omega) (by omega)
      (conv => whnf)
      (repeat' (first | (refine stg_ ?_) | (refine cla_ (d1) ?_) | (refine br_ (fun hbr => ?_) (fun hbr => ?_))))
      all_goals first | (exfalso; omega) | ((refine RetOK.d rfl rfl ?_; conv => whnf); done)
  · rw [bt, if_neg hab]
    have d1 := specDivRound_v ((x - a) * (d - c)) (b - a)
    by_cases h1 : a = b
    · by_cases h2 : c = d
      · rw [bt0, if_pos h1, if_pos h2]
        (conv => whnf)
        (repeat' (first | (refine stg_ ?_) | fail | (refine br_ (fun hbr => ?_) (fun hbr => ?_))))
        all_goals first | (exfalso; omega) | ((refine RetOK.d rfl rfl ?_; conv => whnf); done) | ((refine RetOK.d rfl rfl ?_; conv => whnf); congr 1)
      · rw [bt0, if_pos h1, if_neg h2]
        (conv => whnf)
        (repeat' (first | (refine stg_ ?_) | fail | (refine br_ (fun hbr => ?_) (fun hbr => ?_))))
        all_goals first | (exfalso; omega) | ((refine RetOK.d rfl rfl ?_; conv => whnf); done)
    by_cases h2 : x ≤ a
    · rw [bt0, if_neg h1, if_pos h2]
      (conv => whnf)
      (repeat' (first | (refine stg_ ?_) | fail | (refine br_ (fun hbr => ?_) (fun hbr => ?_))))
      all_goals first | (exfalso; omega) | ((refine RetOK.d rfl rfl ?_; conv => whnf); done)
    by_cases h3 : b ≤ x
    · rw [bt0, if_neg h1, if_neg h2, if_pos h3]
      (conv => whnf)
      (repeat' (first | (refine stg_ ?_) | fail | (refine br_ (fun hbr => ?_) (fun hbr => ?_))))
      all_goals first | (exfalso; omega) | ((refine RetOK.d rfl rfl ?_; conv => whnf); done)
    · rw [bt0, if_neg h1, if_neg h2, if_neg h3]
      obtain ⟨e1, e2, e3, e4⟩ := prodb (x - a) (d - c) (b - a) (by omega) (by omega) (by omega) (by omega) (by omega)
      (conv => whnf)
      (repeat' (first | (refine stg_ ?_) | (refine cla_ (d1) ?_) | (refine br_ (fun hbr => ?_) (fun hbr => ?_))))
      all_goals first | (exfalso; omega) | ((refine RetOK.d rfl rfl ?_; conv => whnf); done)
theorem knotCount_v (o : TOutline) (ho : outB o = true) : PC Tryz.prog 40 [.d o.D] (.d (.int .i64 (cnK o.fLoops : Nat))) [] := by
  refine pc_intro ttOk (by kernel_rfl) Tryz.func40 rfl (by kernel_rfl) (by kernel_rfl) (by kernel_rfl) (fun hw => ?_)
  obtain ⟨ho1, ho2⟩ := out_in ho
  have hL : (o.fLoops.map TLoop.D).length = o.fLoops.length := List.length_map _
  have hC := cnK_le ho2
  (conv => whnf)
  (repeat (refine stg_ ?_))
  refine LoopW.go (α := Nat) (fun k => [(3, .d (.int .i64 (cnK (o.fLoops.take k) : Nat))), (7, .d (.lst (o.fLoops.map TLoop.D))), (8, .d (.int .i64 (o.fLoops.map TLoop.D).length)), (9, .d (.int .i64 k))]) (fun _ => [.gone]) (fun k => k ≤ o.fLoops.length) (fun k => o.fLoops.length - k) 0 covT_ (by omega) (fun k hk => ?_)
  have hT := cnK_take o.fLoops k
  (conv => whnf)
  (refine br_ (fun h1 => ?_) (fun h1 => ?_))
  · obtain ⟨l, hl⟩ := at_lt' (xs := o.fLoops) (k := k) (by omega)
    have hS : cnK (o.fLoops.take (k + 1)) = cnK (o.fLoops.take k) + l.fKnots.length := by rw [take_snoc_get hl, cnK_snoc]
    have hLk : (l.fKnots.map TKnot.D).length = l.fKnots.length := List.length_map _
    have hT2 := cnK_take o.fLoops (k + 1)
    (repeat (refine stg_ ?_))
    refine NextW.go (k + 1) (Weak.cov ⟨?_, rfl, rfl, rfl, trivial⟩ ⟨trivial, trivial⟩ rfl) (by omega) (by omega)
    rw [hS, ← hLk]; rfl
  · (repeat (refine stg_ ?_))
    (refine RetOK.d rfl rfl ?_; conv => whnf)
    rw [List.take_of_length_le (by omega)]
theorem l30Count_v (o : TOutline) (ho : outB o = true) : PC Tryz.prog 77 [.pX o.D] (.d (.int .i64 (cnK o.fLoops : Nat))) [] := by
  refine pc_intro ttOk (by kernel_rfl) Tryz.func77 rfl (by kernel_rfl) (by kernel_rfl) (by kernel_rfl) (fun hw => ?_)
  obtain ⟨ho1, ho2⟩ := out_in ho
  have hL : (o.fLoops.map TLoop.D).length = o.fLoops.length := List.length_map _
  have hC := cnK_le ho2
  (conv => whnf)
  (repeat (refine stg_ ?_))
  refine LoopW.go (α := Nat) (fun k => [(0, .pX o.D), (3, .d (.int .i64 (cnK (o.fLoops.take k) : Nat))), (4, .d (.int .i64 k))]) (fun _ => [.gone]) (fun k => k ≤ o.fLoops.length) (fun k => o.fLoops.length - k) 0 covT_ (by omega) (fun k hk => ?_)
  have hT := cnK_take o.fLoops k
  (conv => whnf)
  (refine br_ (fun h1 => ?_) (fun h1 => ?_))
  · obtain ⟨l, hl⟩ := at_lt' (xs := o.fLoops) (k := k) (by omega)
    have hS : cnK (o.fLoops.take (k + 1)) = cnK (o.fLoops.take k) + l.fKnots.length := by rw [take_snoc_get hl, cnK_snoc]
    have hLk : (l.fKnots.map TKnot.D).length = l.fKnots.length := List.length_map _
    have hT2 := cnK_take o.fLoops (k + 1)
    (repeat (refine stg_ ?_))
    refine NextW.go (k + 1) (Weak.cov ⟨rfl, ?_, rfl, trivial⟩ ⟨trivial, trivial⟩ rfl) (by omega) (by omega)
    rw [hS, ← hLk]; rfl
  · (repeat (refine stg_ ?_))
    (refine RetOK.d rfl rfl ?_; conv => whnf)
    rw [List.take_of_length_le (by omega)]
end Go.Proofs.YtfnnlipcclklnaaGreat
