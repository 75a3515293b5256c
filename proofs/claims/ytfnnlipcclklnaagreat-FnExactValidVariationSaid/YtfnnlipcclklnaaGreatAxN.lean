/- merged: several parts in one text. Leans on no more than they do. -/
import Derived.Test.YtfnnlipcclklnaaGreatTT
import Derived.Test.YtfnnlipcclklnaaGreatAxV1
import Derived.Test.YtfnnlipcclklnaaGreatDt
import Derived.Test.YtfnnlipcclklnaaGreatGen
/- DivRound, by the machine. -/
set_option linter.unusedSimpArgs false
set_option linter.unusedVariables false
namespace Go.Proofs.YtfnnlipcclklnaaGreat
open Go.RowKit

theorem l03Round_v (n d : Int) (h0 : 0 < d) : PC Tryz.prog 173 [.d (.int .i64 n), .d (.int .i64 d)] (.d (.int .i64 (divR n d))) [] := by
  refine pc_intro ttOk (by kernel_rfl) Tryz.func173 rfl (by kernel_rfl) (by kernel_rfl) (by kernel_rfl) (fun hw => ?_)
  have hn1 : -9223372036854775808 ≤ n ∧ n ≤ 9223372036854775807 := hw.1
  have hd1 : -9223372036854775808 ≤ d ∧ d ≤ 9223372036854775807 := hw.2.1
  obtain ⟨n1, n2⟩ := hn1
  obtain ⟨d1, d2⟩ := hd1
  have hf := div_facts h0 n1 n2
  have ht := tdiv_facts (n := n) h0
  have hR := Lib.hid (divR_pos (n := n) h0)
  obtain ⟨f1, f2, f3, f4, f5⟩ := hf
  have hq : -9223372036854775808 ≤ n.tdiv d ∧ n.tdiv d ≤ 9223372036854775807 := by
    by_cases hm : n.tmod d < 0
    · have := ht.1 hm; have := f5 this.2.2.2; omega
    · have := ht.2 (by omega); omega
  by_cases hm : n.tmod d < 0
  · obtain ⟨t1, t2, t3, t4⟩ := ht.1 hm
    have f5 := f5 t4
    clear ht
    (conv => whnf)
    (repeat (refine stg_ ?_))
    (refine br_ (fun h1 => ?_) (fun h1 => ?_) <;> (repeat (refine stg_ ?_)))
    · (refine br_ (fun h2 => ?_) (fun h2 => ?_) <;> (repeat (refine stg_ ?_)))
      · (refine RetOK.d rfl rfl ?_; conv => whnf)
        rw [hR.out, if_pos (by omega)]
        congr 1; omega
      · (refine RetOK.d rfl rfl ?_; conv => whnf)
        rw [hR.out, if_neg (by omega)]
        congr 1; omega
    · exfalso; omega
  · obtain ⟨t1, t2⟩ := ht.2 (by omega)
    clear ht
    have f6 : n % d < d - n % d ∨ (-4611686018427387904 ≤ n / d ∧ n / d ≤ 4611686018427387903) := by
      by_cases hh : 2 ≤ d
      · exact Or.inr (f5 hh)
      · left; omega
    clear f5
    (conv => whnf)
    (repeat (refine stg_ ?_))
    (refine br_ (fun h1 => ?_) (fun h1 => ?_) <;> (repeat (refine stg_ ?_)))
    · exfalso; omega
    · (refine br_ (fun h2 => ?_) (fun h2 => ?_) <;> (repeat (refine stg_ ?_)))
      · (refine RetOK.d rfl rfl ?_; conv => whnf)
        rw [hR.out, if_pos (by omega)]
        congr 1; omega
      · (refine RetOK.d rfl rfl ?_; conv => whnf)
        rw [hR.out, if_neg (by omega)]
        congr 1; omega
theorem specDivRound_v (n d : Int) : PC Tryz.prog 113 [.d (.int .i64 n), .d (.int .i64 d)] (.d (.int .i64 (divR n d))) [] := by
  refine pc_intro ttOk (by kernel_rfl) Tryz.func113 rfl (by kernel_rfl) (by kernel_rfl) (by kernel_rfl) (fun hw => ?_)
  (conv => whnf)
  (split <;> rename_i h1 <;> simp only [decide_eq_true_eq, decide_eq_false_iff_not, Bool.not_eq_true', Bool.not_eq_false', bne_iff_ne, ne_eq, beq_iff_eq, bne_eq_false_iff_eq, beq_eq_false_iff_ne, Decidable.not_not, Nat.not_lt, Nat.not_le, Int.not_lt, Int.not_le, Bool.and_eq_true, Bool.and_eq_false_iff, Bool.or_eq_true, Bool.or_eq_false_iff] at h1 <;> (conv => whnf) <;> (repeat (refine stg_ ?_)))
  · (refine RetOK.d rfl rfl ?_; conv => whnf)
    rw [divR, if_pos h1]
  · (refine cl_ (l03Round_v n d h1) ?_)
    (refine RetOK.d rfl rfl ?_; conv => whnf)
theorem floorDiv_v (n d : Int) (h0 : 0 < d) : PC Tryz.prog 184 [.d (.int .i64 n), .d (.int .i64 d)] (.d (.int .i64 (n / d))) [] := by
  refine pc_intro ttOk (by kernel_rfl) Tryz.func184 rfl (by kernel_rfl) (by kernel_rfl) (by kernel_rfl) (fun hw => ?_)
  have hn1 : -9223372036854775808 ≤ n ∧ n ≤ 9223372036854775807 := hw.1
  have hd1 : -9223372036854775808 ≤ d ∧ d ≤ 9223372036854775807 := hw.2.1
  obtain ⟨n1, n2⟩ := hn1
  obtain ⟨d1, d2⟩ := hd1
  obtain ⟨f1, f2, f3, f4, f5⟩ := div_facts h0 n1 n2
  have ht := tdiv_facts (n := n) h0
  have hq : -9223372036854775808 ≤ n.tdiv d ∧ n.tdiv d ≤ 9223372036854775807 := by
    by_cases hm : n.tmod d < 0
    · have := ht.1 hm; have := f5 this.2.2.2; omega
    · have := ht.2 (by omega); omega
  by_cases hm : n.tmod d < 0
  · obtain ⟨t1, t2, t3, t4⟩ := ht.1 hm
    have f5 := f5 t4
    clear ht
    (conv => whnf)
    (repeat' (first | (refine stg_ ?_) | (split <;> (conv => whnf))))
    all_goals first | (exfalso; simp_all; done) | (exfalso; simp_all; omega) | ((refine RetOK.d rfl rfl ?_; conv => whnf); congr 1; omega)
  · obtain ⟨t1, t2⟩ := ht.2 (by omega)
    clear ht f5
    (conv => whnf)
    (repeat' (first | (refine stg_ ?_) | (split <;> (conv => whnf))))
    all_goals first | (exfalso; simp_all; done) | (exfalso; simp_all; omega) | ((refine RetOK.d rfl rfl ?_; conv => whnf); congr 1; omega)
theorem DivRound_v (n d : Int) : PC Tryz.prog 123 [.d (.int .i64 n), .d (.int .i64 d)] (.d (.int .i64 (divR n d))) [] := by
  refine pc_intro ttOk (by kernel_rfl) Tryz.func123 rfl (by kernel_rfl) (by kernel_rfl) (by kernel_rfl) (fun hw => ?_)
  have hn1 : -9223372036854775808 ≤ n ∧ n ≤ 9223372036854775807 := hw.1
  have hd1 : -9223372036854775808 ≤ d ∧ d ≤ 9223372036854775807 := hw.2.1
  obtain ⟨n1, n2⟩ := hn1
  obtain ⟨d1, d2⟩ := hd1
  (conv => whnf)
  (split <;> rename_i h1 <;> simp only [decide_eq_true_eq, decide_eq_false_iff_not, Bool.not_eq_true', Bool.not_eq_false', bne_iff_ne, ne_eq, beq_iff_eq, bne_eq_false_iff_eq, beq_eq_false_iff_ne, Decidable.not_not, Nat.not_lt, Nat.not_le, Int.not_lt, Int.not_le, Bool.and_eq_true, Bool.and_eq_false_iff, Bool.or_eq_true, Bool.or_eq_false_iff] at h1 <;> (conv => whnf) <;> (repeat (refine stg_ ?_)))
  · (refine RetOK.d rfl rfl ?_; conv => whnf)
    rw [divR, if_pos h1]
  · obtain ⟨f1, f2, f3, f4, f5⟩ := div_facts h1 n1 n2
    have hR := divR_pos (n := n) h1
    have hm := Int.emod_add_mul_ediv n d
    rw [Int.mul_comm] at hm
    have hw' := wrap_rem h1 d2 n1 n2
    (refine cl_ (floorDiv_v n d h1) ?_)
    refine ⟨_, rfl, ?_⟩
    (conv => whnf)
    refine ⟨n % d, hw', ?_⟩
    (conv => whnf)
    (repeat (refine stg_ ?_))
    have f6 : n % d < d - n % d ∨ (-4611686018427387904 ≤ n / d ∧ n / d ≤ 4611686018427387903) := by
      by_cases hh : 2 ≤ d
      · exact Or.inr (f5 hh)
      · left; omega
    (refine br_ (fun h2 => ?_) (fun h2 => ?_) <;> (repeat (refine stg_ ?_)))
    · (refine RetOK.d rfl rfl ?_; conv => whnf)
      rw [hR, if_pos (by omega)]
    · (refine RetOK.d rfl rfl ?_; conv => whnf)
      rw [hR, if_neg (by omega)]
end Go.Proofs.YtfnnlipcclklnaaGreat

/- The map of an axis (reference), by the machine. -/
set_option linter.unusedSimpArgs false
set_option linter.unusedVariables false
namespace Go.Proofs.YtfnnlipcclklnaaGreat
open Go.RowKit
set_option maxHeartbeats 4000000 in
theorem l29Map_v (xs : List TAxisPoint) : PC Tryz.prog 213 [.d (.lst (xs.map TAxisPoint.D))] (.d (.bool (mapB xs))) [] := by
  refine pc_intro ttOk (by kernel_rfl) Tryz.func213 rfl (by kernel_rfl) (by kernel_rfl) (by kernel_rfl) (fun hw => ?_)
  have hL : (xs.map TAxisPoint.D).length = xs.length := List.length_map _
  have hm : (xs.map TAxisPoint.D).length ≤ 9223372036854775807 := hw.1.1
  (conv => whnf)
  (refine br_ (fun h1 => ?_) (fun h1 => ?_) <;> (repeat (refine stg_ ?_)))
  · (refine RetOK.d rfl rfl ?_; conv => whnf)
    have : xs = [] := List.eq_nil_of_length_eq_zero (by omega)
    subst this
    rfl
  · have h0 : 0 < xs.length := by omega
    refine LoopW.go (α := Nat) (fun k => [(0, .d (.lst (xs.map TAxisPoint.D))), (3, .d (.int .i64 (fixN (xs.take k)))), (4, .d (.int .i64 k))]) (fun _ => [.gone]) (fun k => k ≤ xs.length ∧ mpGo none xs = mpGo (pv xs k) (xs.drop k)) (fun k => xs.length - k) 0 (Weak.cov ⟨rfl, rfl, rfl, trivial⟩ ⟨trivial, trivial⟩ rfl) ⟨by omega, rfl⟩ (fun k hp => ?_)
    obtain ⟨hk, hg⟩ := hp
    have hfl := fixN_le (xs.take k)
    have hfl2 : (xs.take k).length ≤ k := List.length_take_le k xs
    (conv => whnf)
    (refine br_ (fun h2 => ?_) (fun h2 => ?_) <;> (repeat (refine stg_ ?_)))
    · have h2' : k < xs.length := by omega
      obtain ⟨x, hx⟩ := at_lt' h2'
      rw [drop_at hx, mpGo_cons] at hg
      have hF := fixN_take hx
      cases hA : nrm x.fFrom with
      | false =>
        have c1 := l29Normal_v x.fFrom
        rw [hA] at c1
        (repeat (refine stg_ ?_))
        (refine cl_ (c1) ?_)
        (refine RetOK.d rfl rfl ?_; conv => whnf)
        rw [mapB_no h0 (by rw [hg, apB, hA]; rfl)]
      | true =>
        have c1 := l29Normal_v x.fFrom
        rw [hA] at c1
        cases hB : nrm x.fTo with
        | false =>
          have c2 := l29Normal_v x.fTo
          rw [hB] at c2
          (repeat (refine stg_ ?_))
          (refine cl_ (c1) ?_)
          (repeat (refine stg_ ?_))
          (refine cl_ (c2) ?_)
          (repeat (refine stg_ ?_))
          (refine RetOK.d rfl rfl ?_; conv => whnf)
          rw [mapB_no h0 (by rw [hg, apB, hA, hB]; rfl)]
        | true =>
          have c2 := l29Normal_v x.fTo
          rw [hB] at c2
          have hAB : apB x = true := by rw [apB, hA, hB]; rfl
          rw [hAB, Bool.true_and] at hg
          (repeat (refine stg_ ?_))
          (refine cl_ (c1) ?_)
          (repeat (refine stg_ ?_))
          (refine cl_ (c2) ?_)
          (repeat (refine stg_ ?_))
          (refine br_ (fun h3 => ?_) (fun h3 => ?_) <;> (repeat (refine stg_ ?_)))
          · obtain ⟨y, hy⟩ := at_lt' (xs := xs) (k := k - 1) (by omega)
            rw [pv_pos xs (by omega), hy] at hg
            have hy' : (xs.map TAxisPoint.D)[((k : Int) - 1).toNat]? = some y.D := by
              have : ((k : Int) - 1).toNat = k - 1 := by omega
              rw [this, List.getElem?_map, hy]; rfl
            have hlt : ltO (some y) x = (decide (y.fFrom < x.fFrom) && decide (y.fTo ≤ x.fTo)) := rfl
            refine IxW.at (by omega) hy' ?_
            (conv => whnf)
            (refine br_ (fun h4 => ?_) (fun h4 => ?_) <;> (repeat (refine stg_ ?_)))
            · (refine RetOK.d rfl rfl ?_; conv => whnf)
              rw [mapB_no h0 (by rw [hg, hlt, decide_eq_false (by omega)]; rfl)]
            · (repeat (refine stg_ ?_))
              refine IxW.at (by omega) hy' ?_
              (conv => whnf)
              (refine br_ (fun h5 => ?_) (fun h5 => ?_) <;> (repeat (refine stg_ ?_)))
              · (refine RetOK.d rfl rfl ?_; conv => whnf)
                rw [mapB_no h0 (by rw [hg, hlt, decide_eq_false (p := y.fTo ≤ x.fTo) (by omega), Bool.and_false, Bool.false_and])]
              · rw [hlt, decide_eq_true (p := y.fFrom < x.fFrom) (by omega), decide_eq_true (by omega), Bool.true_and, Bool.true_and] at hg
                (repeat' (first | (refine stg_ ?_) | (split <;> (conv => whnf))))
                all_goals (first | (have hb : fixB x = true := (by simp_all [fixB]); refine NextW.go (k + 1) (Weak.cov ⟨rfl, (by (show _ = V.d (D.int .i64 ((fixN (xs.take (k + 1)) : Nat) : Int))); rw [hF, if_pos hb]; rfl), rfl, trivial⟩ ⟨trivial, trivial⟩ rfl) ⟨by omega, by rw [pv_succ, hx, hg]⟩ (by omega)) | (have hb : ¬ fixB x = true := (by simp_all [fixB]); refine NextW.go (k + 1) (Weak.cov ⟨rfl, (by (show _ = V.d (D.int .i64 ((fixN (xs.take (k + 1)) : Nat) : Int))); rw [hF, if_neg hb]; rfl), rfl, trivial⟩ ⟨trivial, trivial⟩ rfl) ⟨by omega, by rw [pv_succ, hx, hg]⟩ (by omega)))
          · have : k = 0 := by omega
            have hlt : ltO (pv xs k) x = true := by rw [this]; rfl
            rw [hlt, Bool.true_and] at hg
            (repeat' (first | (refine stg_ ?_) | (split <;> (conv => whnf))))
            all_goals (first | (have hb : fixB x = true := (by simp_all [fixB]); refine NextW.go (k + 1) (Weak.cov ⟨rfl, (by (show _ = V.d (D.int .i64 ((fixN (xs.take (k + 1)) : Nat) : Int))); rw [hF, if_pos hb]; rfl), rfl, trivial⟩ ⟨trivial, trivial⟩ rfl) ⟨by omega, by rw [pv_succ, hx, hg]⟩ (by omega)) | (have hb : ¬ fixB x = true := (by simp_all [fixB]); refine NextW.go (k + 1) (Weak.cov ⟨rfl, (by (show _ = V.d (D.int .i64 ((fixN (xs.take (k + 1)) : Nat) : Int))); rw [hF, if_neg hb]; rfl), rfl, trivial⟩ ⟨trivial, trivial⟩ rfl) ⟨by omega, by rw [pv_succ, hx, hg]⟩ (by omega)))
    · have : k = xs.length := by omega
      subst this
      rw [List.drop_length] at hg
      rw [List.take_length] at *
      have hg : mpGo none xs = true := by rw [hg]; cases pv xs xs.length <;> rfl
      (repeat' (first | (refine stg_ ?_) | (split <;> (conv => whnf))))
      · rename_i he
        (refine RetOK.d rfl rfl ?_; conv => whnf)
        have he' : fixN xs = 3 := by simp at he; omega
        rw [mapB_yes h0 hg, decide_eq_true he', Bool.true_and, hL]
        congr 1
        exact decide_eq_decide.2 (by omega)
      · rename_i he
        (refine RetOK.d rfl rfl ?_; conv => whnf)
        have he' : ¬ fixN xs = 3 := by simp at he; omega
        rw [mapB_yes h0 hg, decide_eq_false he', Bool.false_and]
end Go.Proofs.YtfnnlipcclklnaaGreat

/- Axes: the reference's own validity, by the machine. -/
set_option linter.unusedSimpArgs false
set_option linter.unusedVariables false
namespace Go.Proofs.YtfnnlipcclklnaaGreat
open Go.RowKit
/-- is this an axis? -/
def axB (a : TAxis) : Bool := nameB a.fName && inB a.fMin (-32000) a.fDefault && inB a.fMax a.fDefault 32000 && decide (a.fMin < a.fMax) && mapB a.fMap
theorem l29Axis_v (a : TAxis) : PC Tryz.prog 160 [.pX a.D] (.d (.bool (axB a))) [] := by
  refine pc_intro ttOk (by kernel_rfl) Tryz.func160 rfl (by kernel_rfl) (by kernel_rfl) (by kernel_rfl) (fun hw => ?_)
  have c1 := specIsName_v a.fName
  have c2 := l00In_v a.fMin (-32000) a.fDefault
  have c3 := l00In_v a.fMax a.fDefault 32000
  have c4 := l29Map_v a.fMap
  have hB : axB a = (nameB a.fName && inB a.fMin (-32000) a.fDefault && inB a.fMax a.fDefault 32000 && decide (a.fMin < a.fMax) && mapB a.fMap) := rfl
  generalize nameB a.fName = b1 at *
  generalize inB a.fMin (-32000) a.fDefault = b2 at *
  generalize inB a.fMax a.fDefault 32000 = b3 at *
  generalize mapB a.fMap = b4 at *
  rw [hB]
  clear hB
  cases b1
  · (conv => whnf)
    (repeat (refine stg_ ?_))
    (refine cl_ (c1) ?_)
    (repeat' (first | (refine stg_ ?_) | (split <;> (conv => whnf))))
    all_goals ((refine RetOK.d rfl rfl ?_; conv => whnf); simp_all)
  · cases b2
    · (conv => whnf)
      (repeat (refine stg_ ?_))
      (refine cl_ (c1) ?_)
      (refine cl_ (c2) ?_)
      (repeat' (first | (refine stg_ ?_) | (split <;> (conv => whnf))))
      all_goals ((refine RetOK.d rfl rfl ?_; conv => whnf); simp_all)
    · cases b3
      · (conv => whnf)
        (repeat (refine stg_ ?_))
        (refine cl_ (c1) ?_)
        (refine cl_ (c2) ?_)
        (refine cl_ (c3) ?_)
        (repeat' (first | (refine stg_ ?_) | (split <;> (conv => whnf))))
        all_goals ((refine RetOK.d rfl rfl ?_; conv => whnf); simp_all)
      · (conv => whnf)
        (repeat (refine stg_ ?_))
        (refine cl_ (c1) ?_)
        (refine cl_ (c2) ?_)
        (refine cl_ (c3) ?_)
        (refine br_ (fun h1 => ?_) (fun h1 => ?_) <;> (repeat (refine stg_ ?_)))
        · (refine cl_ (c4) ?_)
          (repeat' (first | (refine stg_ ?_) | (split <;> (conv => whnf))))
          all_goals ((refine RetOK.d rfl rfl ?_; conv => whnf); simp_all)
        · (repeat' (first | (refine stg_ ?_) | (split <;> (conv => whnf))))
          all_goals ((refine RetOK.d rfl rfl ?_; conv => whnf); rw [decide_eq_false (p := a.fMin < a.fMax) (by omega)]; rfl)
end Go.Proofs.YtfnnlipcclklnaaGreat

/- slices.Index and slices.Contains at points of a map, by the machine. -/
set_option linter.unusedSimpArgs false
set_option linter.unusedVariables false
namespace Go.Proofs.YtfnnlipcclklnaaGreat
open Go.RowKit
def apEq (p x : TAxisPoint) : Bool := p.fFrom == x.fFrom && (p.fTo == x.fTo && true)
def ixGo (p : TAxisPoint) : List TAxisPoint → Nat → Int
  | [], _ => -1
  | x :: t, k => if apEq p x = true then (k : Int) else ixGo p t (k + 1)
theorem ixGo_any (p : TAxisPoint) : ∀ (xs : List TAxisPoint) (k : Nat), decide (0 ≤ ixGo p xs k) = xs.any (apEq p)
  | [], _ => rfl
  | x :: t, k => by
    rw [List.any_cons, ixGo]
    by_cases h : apEq p x = true
    · rw [if_pos h, h]
      simp
    · rw [if_neg h, ixGo_any p t (k + 1)]
      simp [h]
theorem ix_v (xs : List TAxisPoint) (p : TAxisPoint) : PC Tryz.prog 254 [.d (.lst (xs.map TAxisPoint.D)), .d p.D] (.d (.int .i64 (ixGo p xs 0))) [] := by
  refine pc_intro ttOk (by kernel_rfl) Tryz.func254 rfl (by kernel_rfl) (by kernel_rfl) (by kernel_rfl) (fun hw => ?_)
  have hL : (xs.map TAxisPoint.D).length = xs.length := List.length_map _
  have hm : (xs.map TAxisPoint.D).length ≤ 9223372036854775807 := hw.1.1
  (conv => whnf)
  refine LoopW.go (α := Nat) (fun k => [(0, .d (.lst (xs.map TAxisPoint.D))), (3, .pB 1 [] 0), (7, .d (.int .i64 (xs.map TAxisPoint.D).length)), (8, .d (.int .i64 k))]) (fun _ => [.gone, .box (.d p.D)]) (fun k => k ≤ xs.length ∧ ixGo p xs 0 = ixGo p (xs.drop k) k) (fun k => xs.length - k) 0 (Weak.cov ⟨rfl, rfl, rfl, rfl, trivial⟩ ⟨trivial, rfl, trivial⟩ rfl) ⟨by omega, rfl⟩ (fun k hp => ?_)
  obtain ⟨hk1, hk2⟩ := hp
  (conv => whnf)
  (refine br_ (fun h1 => ?_) (fun h1 => ?_) <;> (repeat (refine stg_ ?_)))
  · have h1' : k < xs.length := by omega
    obtain ⟨x, hx⟩ := at_lt' h1'
    rw [drop_at hx, ixGo] at hk2
    (repeat (refine stg_ ?_))
    split
    · rename_i h2
      rw [if_pos (show apEq p x = true from h2)] at hk2
      (conv => whnf)
      (refine RetOK.d rfl rfl ?_; conv => whnf)
      rw [hk2]
    · rename_i h2
      rw [if_neg (show ¬ apEq p x = true by rw [apEq, h2]; decide)] at hk2
      (conv => whnf)
      (repeat (refine stg_ ?_))
      exact NextW.go (k + 1) (Weak.cov ⟨rfl, rfl, rfl, rfl, trivial⟩ ⟨trivial, rfl, trivial⟩ rfl) ⟨by omega, hk2⟩ (by omega)
  · (refine RetOK.d rfl rfl ?_; conv => whnf)
    rw [hk2, List.drop_eq_nil_of_le (by omega)]; rfl
theorem ct_v (xs : List TAxisPoint) (p : TAxisPoint) : PC Tryz.prog 241 [.d (.lst (xs.map TAxisPoint.D)), .d p.D] (.d (.bool (xs.any (apEq p)))) [] := by
  refine pc_intro ttOk (by kernel_rfl) Tryz.func241 rfl (by kernel_rfl) (by kernel_rfl) (by kernel_rfl) (fun hw => ?_)
  (conv => whnf)
  (refine cl_ (ix_v xs p) ?_)
  (refine RetOK.d rfl rfl ?_; conv => whnf)
  rw [ixGo_any]
end Go.Proofs.YtfnnlipcclklnaaGreat

/- The map of an axis (the program's own function), by the machine. -/
set_option linter.unusedSimpArgs false
set_option linter.unusedVariables false
namespace Go.Proofs.YtfnnlipcclklnaaGreat
open Go.RowKit
set_option maxHeartbeats 4000000 in
theorem validAxisMap_v (xs : List TAxisPoint) : PC Tryz.prog 200 [.d (.lst (xs.map TAxisPoint.D))] (.d (.bool (mapB xs))) [] := by
  refine pc_intro ttOk (by kernel_rfl) Tryz.func200 rfl (by kernel_rfl) (by kernel_rfl) (by kernel_rfl) (fun hw => ?_)
  have hL : (xs.map TAxisPoint.D).length = xs.length := List.length_map _
  have hm : (xs.map TAxisPoint.D).length ≤ 9223372036854775807 := hw.1.1
  (conv => whnf)
  split
  · rename_i h1
    (conv => whnf)
    (refine RetOK.d rfl rfl ?_; conv => whnf)
    have : xs = [] := List.eq_nil_of_length_eq_zero (by simp at h1; simpa using h1)
    subst this
    rfl
  · rename_i h1
    have h0 : 0 < xs.length := by
      have : ¬ xs.length = 0 := by intro hz; simp [hz] at h1
      omega
    (conv => whnf)
    refine LoopW.go (α := Nat) (fun k => [(0, .d (.lst (xs.map TAxisPoint.D))), (10, .d (.lst (xs.map TAxisPoint.D))), (11, .d (.int .i64 (xs.map TAxisPoint.D).length)), (12, .d (.int .i64 k))]) (fun _ => [.gone]) (fun k => k ≤ xs.length ∧ mpGo none xs = mpGo (pv xs k) (xs.drop k)) (fun k => xs.length - k) 0 (Weak.cov ⟨rfl, rfl, rfl, rfl, trivial⟩ ⟨trivial, trivial⟩ rfl) ⟨by omega, rfl⟩ (fun k hp => ?_)
    obtain ⟨hk, hg⟩ := hp
    (conv => whnf)
    (refine br_ (fun h2 => ?_) (fun h2 => ?_) <;> (repeat (refine stg_ ?_)))
    · have h2' : k < xs.length := by omega
      obtain ⟨x, hx⟩ := at_lt' h2'
      rw [drop_at hx, mpGo_cons] at hg
      cases hA : nrm x.fFrom with
      | false =>
        have c1 := isNormal_v x.fFrom
        rw [hA] at c1
        (repeat (refine stg_ ?_))
        (refine cl_ (c1) ?_)
        (refine RetOK.d rfl rfl ?_; conv => whnf)
        rw [mapB_no h0 (by rw [hg, apB, hA]; rfl)]
      | true =>
        have c1 := isNormal_v x.fFrom
        rw [hA] at c1
        cases hB : nrm x.fTo with
        | false =>
          have c2 := isNormal_v x.fTo
          rw [hB] at c2
          (repeat (refine stg_ ?_))
          (refine cl_ (c1) ?_)
          (repeat (refine stg_ ?_))
          (refine cl_ (c2) ?_)
          (repeat (refine stg_ ?_))
          (refine RetOK.d rfl rfl ?_; conv => whnf)
          rw [mapB_no h0 (by rw [hg, apB, hA, hB]; rfl)]
        | true =>
          have c2 := isNormal_v x.fTo
          rw [hB] at c2
          have hAB : apB x = true := by rw [apB, hA, hB]; rfl
          rw [hAB, Bool.true_and] at hg
          (repeat (refine stg_ ?_))
          (refine cl_ (c1) ?_)
          (repeat (refine stg_ ?_))
          (refine cl_ (c2) ?_)
          (repeat (refine stg_ ?_))
          (refine br_ (fun h3 => ?_) (fun h3 => ?_) <;> (repeat (refine stg_ ?_)))
          · obtain ⟨y, hy⟩ := at_lt' (xs := xs) (k := k - 1) (by omega)
            rw [pv_pos xs (by omega), hy] at hg
            have hy' : (xs.map TAxisPoint.D)[((k : Int) - 1).toNat]? = some y.D := by
              have : ((k : Int) - 1).toNat = k - 1 := by omega
              rw [this, List.getElem?_map, hy]; rfl
            have hlt : ltO (some y) x = (decide (y.fFrom < x.fFrom) && decide (y.fTo ≤ x.fTo)) := rfl
            refine IxW.at (by omega) hy' ?_
            (conv => whnf)
            (refine br_ (fun h4 => ?_) (fun h4 => ?_) <;> (repeat (refine stg_ ?_)))
            · (refine RetOK.d rfl rfl ?_; conv => whnf)
              rw [mapB_no h0 (by rw [hg, hlt, decide_eq_false (by omega)]; rfl)]
            · (repeat (refine stg_ ?_))
              refine IxW.at (by omega) hy' ?_
              (conv => whnf)
              (refine br_ (fun h5 => ?_) (fun h5 => ?_) <;> (repeat (refine stg_ ?_)))
              · (refine RetOK.d rfl rfl ?_; conv => whnf)
                rw [mapB_no h0 (by rw [hg, hlt, decide_eq_false (p := y.fTo ≤ x.fTo) (by omega), Bool.and_false, Bool.false_and])]
              · rw [hlt, decide_eq_true (p := y.fFrom < x.fFrom) (by omega), decide_eq_true (by omega), Bool.true_and, Bool.true_and] at hg
                (repeat (refine stg_ ?_))
                exact NextW.go (k + 1) (Weak.cov ⟨rfl, rfl, rfl, rfl, trivial⟩ ⟨trivial, trivial⟩ rfl) ⟨by omega, by rw [pv_succ, hx, hg]⟩ (by omega)
          · have : k = 0 := by omega
            have hlt : ltO (pv xs k) x = true := by rw [this]; rfl
            rw [hlt, Bool.true_and] at hg
            (repeat (refine stg_ ?_))
            exact NextW.go (k + 1) (Weak.cov ⟨rfl, rfl, rfl, rfl, trivial⟩ ⟨trivial, trivial⟩ rfl) ⟨by omega, by rw [pv_succ, hx, hg]⟩ (by omega)
    · have : k = xs.length := by omega
      subst this
      rw [List.drop_length] at hg
      have hg : mpGo none xs = true := by rw [hg]; cases pv xs xs.length <;> rfl
      (repeat (refine stg_ ?_))
      have hH : ∀ n : Int, xs.any (apEq ⟨n, n⟩) = hasB n xs := fun n => by simp only [hasB]; congr 1; funext x; simp [apEq]
      have hM := mapB_yes h0 hg
      rw [mapB_has xs hg] at hM
      refine LoopW.go (α := Nat) (fun k => [(0, .d (.lst (xs.map TAxisPoint.D))), (54, .own 1 0 3), (55, .d (.int .i64 3)), (56, .d (.int .i64 k))]) (fun _ => [.gone, .arr 1 [.int .i64 (-16384), .int .i64 0, .int .i64 16384] true]) (fun k => k ≤ 3 ∧ (0 < k → hasB (-16384) xs = true) ∧ (1 < k → hasB 0 xs = true) ∧ (2 < k → hasB 16384 xs = true)) (fun k => 3 - k) 0 (Weak.cov ⟨rfl, rfl, rfl, rfl, trivial⟩ ⟨trivial, rfl, trivial⟩ rfl) ⟨by omega, by omega, by omega, by omega⟩ (fun k hp => ?_)
      obtain ⟨hk, h0', h1', h2'⟩ := hp
      (conv => whnf)
      (refine br_ (fun h6 => ?_) (fun h6 => ?_) <;> (repeat (refine stg_ ?_)))
      · obtain rfl | rfl | rfl : k = 0 ∨ k = 1 ∨ k = 2 := by omega
        · have c := ct_v xs ⟨-16384, -16384⟩
          rw [hH] at c
          cases hb : hasB (-16384) xs with
          | false =>
            rw [hb] at c
            (repeat (refine stg_ ?_))
            refine EoW.at (y := .int .i64 (-16384)) rfl ?_
            (conv => whnf)
            (repeat (refine stg_ ?_))
            (apply CallW.use c; (focus exact ⟨_, _, rfl, rfl, _, _, rfl, ⟨_, rfl, _, rfl, _, _, rfl, rfl, _, _, rfl, rfl, rfl⟩, rfl⟩); (focus rfl); (conv => whnf))
            (refine RetOK.d rfl rfl ?_; conv => whnf)
            rw [hM, hb]; simp
          | true =>
            rw [hb] at c
            (repeat (refine stg_ ?_))
            refine EoW.at (y := .int .i64 (-16384)) rfl ?_
            (conv => whnf)
            (repeat (refine stg_ ?_))
            (apply CallW.use c; (focus exact ⟨_, _, rfl, rfl, _, _, rfl, ⟨_, rfl, _, rfl, _, _, rfl, rfl, _, _, rfl, rfl, rfl⟩, rfl⟩); (focus rfl); (conv => whnf))
            (repeat (refine stg_ ?_))
            exact NextW.go 1 (Weak.cov ⟨rfl, rfl, rfl, rfl, trivial⟩ ⟨trivial, rfl, trivial⟩ rfl) ⟨by omega, by intro hh; first | exact hb | rfl | exact h0' (by omega), by intro hh; first | (exfalso; omega) | exact hb | rfl | exact h1' (by omega), by intro hh; first | (exfalso; omega) | exact hb | rfl⟩ (by omega)
        · have c := ct_v xs ⟨0, 0⟩
          rw [hH] at c
          cases hb : hasB (0) xs with
          | false =>
            rw [hb] at c
            (repeat (refine stg_ ?_))
            refine EoW.at (y := .int .i64 (0)) rfl ?_
            (conv => whnf)
            (repeat (refine stg_ ?_))
            (apply CallW.use c; (focus exact ⟨_, _, rfl, rfl, _, _, rfl, ⟨_, rfl, _, rfl, _, _, rfl, rfl, _, _, rfl, rfl, rfl⟩, rfl⟩); (focus rfl); (conv => whnf))
            (refine RetOK.d rfl rfl ?_; conv => whnf)
            rw [hM, hb]; simp
          | true =>
            rw [hb] at c
            (repeat (refine stg_ ?_))
            refine EoW.at (y := .int .i64 (0)) rfl ?_
            (conv => whnf)
            (repeat (refine stg_ ?_))
            (apply CallW.use c; (focus exact ⟨_, _, rfl, rfl, _, _, rfl, ⟨_, rfl, _, rfl, _, _, rfl, rfl, _, _, rfl, rfl, rfl⟩, rfl⟩); (focus rfl); (conv => whnf))
            (repeat (refine stg_ ?_))
            exact NextW.go 2 (Weak.cov ⟨rfl, rfl, rfl, rfl, trivial⟩ ⟨trivial, rfl, trivial⟩ rfl) ⟨by omega, by intro hh; first | exact hb | rfl | exact h0' (by omega), by intro hh; first | (exfalso; omega) | exact hb | rfl | exact h1' (by omega), by intro hh; first | (exfalso; omega) | exact hb | rfl⟩ (by omega)
        · have c := ct_v xs ⟨16384, 16384⟩
          rw [hH] at c
          cases hb : hasB (16384) xs with
          | false =>
            rw [hb] at c
            (repeat (refine stg_ ?_))
            refine EoW.at (y := .int .i64 (16384)) rfl ?_
            (conv => whnf)
            (repeat (refine stg_ ?_))
            (apply CallW.use c; (focus exact ⟨_, _, rfl, rfl, _, _, rfl, ⟨_, rfl, _, rfl, _, _, rfl, rfl, _, _, rfl, rfl, rfl⟩, rfl⟩); (focus rfl); (conv => whnf))
            (refine RetOK.d rfl rfl ?_; conv => whnf)
            rw [hM, hb]; simp
          | true =>
            rw [hb] at c
            (repeat (refine stg_ ?_))
            refine EoW.at (y := .int .i64 (16384)) rfl ?_
            (conv => whnf)
            (repeat (refine stg_ ?_))
            (apply CallW.use c; (focus exact ⟨_, _, rfl, rfl, _, _, rfl, ⟨_, rfl, _, rfl, _, _, rfl, rfl, _, _, rfl, rfl, rfl⟩, rfl⟩); (focus rfl); (conv => whnf))
            (repeat (refine stg_ ?_))
            exact NextW.go 3 (Weak.cov ⟨rfl, rfl, rfl, rfl, trivial⟩ ⟨trivial, rfl, trivial⟩ rfl) ⟨by omega, by intro hh; first | exact hb | rfl | exact h0' (by omega), by intro hh; first | (exfalso; omega) | exact hb | rfl | exact h1' (by omega), by intro hh; first | (exfalso; omega) | exact hb | rfl⟩ (by omega)
      · (refine RetOK.d rfl rfl ?_; conv => whnf)
        rw [hM, h0' (by omega), h1' (by omega), h2' (by omega), hL]
        simp
        try omega
end Go.Proofs.YtfnnlipcclklnaaGreat

/- ValidAxis (the program's own), by the machine. -/
set_option linter.unusedSimpArgs false
set_option linter.unusedVariables false
namespace Go.Proofs.YtfnnlipcclklnaaGreat
open Go.RowKit
set_option maxHeartbeats 4000000 in
theorem ValidAxis_v (a : TAxis) : PC Tryz.prog 147 [.d a.D] (.d (.bool (axB a))) [] := by
  refine pc_intro ttOk (by kernel_rfl) Tryz.func147 rfl (by kernel_rfl) (by kernel_rfl) (by kernel_rfl) (fun hw => ?_)
  have c1 := IsName_v a.fName
  have c4 := validAxisMap_v a.fMap
  have hB : axB a = (nameB a.fName && (decide (-32000 ≤ a.fMin) && decide (a.fMin ≤ a.fDefault)) && (decide (a.fDefault ≤ a.fMax) && decide (a.fMax ≤ 32000)) && decide (a.fMin < a.fMax) && mapB a.fMap) := rfl
  generalize nameB a.fName = b1 at *
  generalize mapB a.fMap = b4 at *
  rw [hB]
  clear hB
  cases b1
  · (conv => whnf)
    (repeat (refine stg_ ?_))
    (refine cl_ (c1) ?_)
    (repeat' (first | (refine stg_ ?_) | (split <;> (conv => whnf))))
    all_goals ((refine RetOK.d rfl rfl ?_; conv => whnf); simp_all)
  · cases b4
    all_goals ((conv => whnf); (repeat (refine stg_ ?_)); ((refine cl_ (c1) ?_)); (repeat' (first | (refine stg_ ?_) | ((refine cl_ (c4) ?_)) | (split <;> (conv => whnf)))))
    all_goals ((refine RetOK.d rfl rfl ?_; conv => whnf); simp_all <;> (intros; omega))
end Go.Proofs.YtfnnlipcclklnaaGreat

/- Lists of axes: ValidAxes, AxisNamed, both, by the machine. -/
set_option linter.unusedSimpArgs false
set_option linter.unusedVariables false
namespace Go.Proofs.YtfnnlipcclklnaaGreat
open Go.RowKit
def nmEq (s : ByteArray) (x : TAxis) : Bool := x.fName.toList == s.toList
/-- the rest of a list of axes, behind those that were seen -/
def axsGo : List TAxis → List TAxis → Bool
  | _, [] => true
  | pre, x :: t => axB x && (!pre.any (nmEq x.fName) && axsGo (pre ++ [x]) t)
def axsB (xs : List TAxis) : Bool := decide (xs.length ≤ 3) && axsGo [] xs
theorem axsGo_at {xs : List TAxis} {k : Nat} {x : TAxis} (hx : xs[k]? = some x) : axsGo (xs.take k) (xs.drop k) = (axB x && (!(xs.take k).any (nmEq x.fName) && axsGo (xs.take (k + 1)) (xs.drop (k + 1)))) := by
  rw [drop_at hx, axsGo, take_snoc_get hx]
theorem axsGo_end {xs : List TAxis} {k : Nat} (hk : xs.length ≤ k) : axsGo (xs.take k) (xs.drop k) = true := by
  rw [List.drop_eq_nil_of_le hk]; rfl
theorem axNm1_v (x : TAxis) (s : ByteArray) : PC Tryz.prog 202 [.d x.D, .pX (.str s)] (.d (.bool (nmEq s x))) [] := by
  refine pc_intro ttOk (by kernel_rfl) Tryz.func202 rfl (by kernel_rfl) (by kernel_rfl) (by kernel_rfl) (fun hw => ?_)
  (conv => whnf)
  (refine RetOK.d rfl rfl ?_; conv => whnf)
  rfl
theorem ixAx_v (xs : List TAxis) (f : Nat) (y : D) (p : TAxis → Bool) (hf : ∀ x : TAxis, PC Tryz.prog f [.d x.D, .pX y] (.d (.bool (p x))) []) :
    PC Tryz.prog 201 [.d (.lst (xs.map TAxis.D)), .fn (.func f) [.pX y]] (.d (.int .i64 (fdx p xs 0))) [] := by
  refine pc_intro ttOk (by kernel_rfl) Tryz.func201 rfl (by kernel_rfl) (by kernel_rfl) (by kernel_rfl) (fun hw => ?_)
  have hL : (xs.map TAxis.D).length = xs.length := List.length_map _
  have hm : (xs.map TAxis.D).length ≤ 9223372036854775807 := hw.1.1
  (conv => whnf)
  refine LoopW.go (α := Nat) (fun k => [(0, .d (.lst (xs.map TAxis.D))), (1, .fn (.func f) [.pX y]), (7, .d (.int .i64 (xs.map TAxis.D).length)), (8, .d (.int .i64 k))]) (fun k => [.gone]) (fun k => k ≤ xs.length ∧ fdx p xs 0 = fdx p (xs.drop k) k) (fun k => xs.length - k) 0 covT_ ?_ (fun k hk => ?_)
  · exact ⟨by omega, rfl⟩
  obtain ⟨hk1, hk2⟩ := hk
  (conv => whnf)
  (refine br_ (fun h2 => ?_) (fun h2 => ?_) <;> (repeat (refine stg_ ?_)))
  · obtain ⟨x, hx⟩ := at_lt' (xs := xs) (k := k) (by omega)
    rw [fdx_at hx] at hk2
    (repeat (refine stg_ ?_))
    (refine cla_ (hf x) ?_)
    (refine br_ (fun h3 => ?_) (fun h3 => ?_) <;> (repeat (refine stg_ ?_)))
    · (refine RetOK.d rfl rfl ?_; conv => whnf)
      rw [hk2, if_pos h3]
    · (repeat (refine stg_ ?_))
      exact NextW.go (k + 1) covT_ ⟨by omega, by rw [hk2, h3]; rfl⟩ (by omega)
  · (refine RetOK.d rfl rfl ?_; conv => whnf)
    rw [hk2, fdx_end (by omega)]
theorem axisNamed_v (xs : List TAxis) (s : ByteArray) : PC Tryz.prog 148 [.d (.lst (xs.map TAxis.D)), .d (.str s)] (.d (.int .i64 (fdx (nmEq s) xs 0))) [] := by
  refine pc_intro ttOk (by kernel_rfl) Tryz.func148 rfl (by kernel_rfl) (by kernel_rfl) (by kernel_rfl) (fun hw => ?_)
  (conv => whnf)
  (refine cla_ (ixAx_v xs _ (.str s) (nmEq s) (fun x => axNm1_v x s)) ?_)
  (refine RetOK.d rfl rfl ?_; conv => whnf)
set_option maxHeartbeats 1000000 in
theorem ValidAxes_v (xs : List TAxis) : PC Tryz.prog 81 [.d (.lst (xs.map TAxis.D))] (.d (.bool (axsB xs))) [] := by
  refine pc_intro ttOk (by kernel_rfl) Tryz.func81 rfl (by kernel_rfl) (by kernel_rfl) (by kernel_rfl) (fun hw => ?_)
  have hL : (xs.map TAxis.D).length = xs.length := List.length_map _
  have hm : (xs.map TAxis.D).length ≤ 9223372036854775807 := hw.1.1
  (conv => whnf)
  (refine br_ (fun h1 => ?_) (fun h1 => ?_) <;> (repeat (refine stg_ ?_)))
  · (refine RetOK.d rfl rfl ?_; conv => whnf)
    rw [axsB, decide_eq_false (by omega)]; rfl
  · refine LoopW.go (α := Nat) (fun k => [(0, .d (.lst (xs.map TAxis.D))), (8, .d (.lst (xs.map TAxis.D))), (9, .d (.int .i64 (xs.map TAxis.D).length)), (10, .d (.int .i64 k))]) (fun k => [.gone]) (fun k => k ≤ xs.length ∧ axsB xs = axsGo (xs.take k) (xs.drop k)) (fun k => xs.length - k) 0 covT_ ?_ (fun k hk => ?_)
    · exact ⟨by omega, by rw [axsB, decide_eq_true (by omega)]; rfl⟩
    obtain ⟨hk1, hk2⟩ := hk
    (conv => whnf)
    (refine br_ (fun h2 => ?_) (fun h2 => ?_) <;> (repeat (refine stg_ ?_)))
    · obtain ⟨x, hx⟩ := at_lt' (xs := xs) (k := k) (by omega)
      rw [axsGo_at hx] at hk2
      have hT : ((xs.map TAxis.D).drop 0).take (k - 0) = (xs.take k).map TAxis.D := by simp
      have hF := fdx_any (nmEq x.fName) (xs.take k) 0
      rw [← hF] at hk2
      (repeat' (first | (refine stg_ ?_) | (refine cla_ (ValidAxis_v x) ?_) | (refine SzW.map (fun y => rfl) ?_; (conv => whnf)) | (apply CallW.use (axisNamed_v (xs.take k) x.fName); (focus (refine ⟨_, _, rfl, ?_, _, _, rfl, rfl, rfl⟩; exact congrArg (fun z => V.d (.lst z)) hT.symm)); (focus rfl); (conv => whnf)) | (refine br_ (fun hbr => ?_) (fun hbr => ?_))))
      · (refine RetOK.d rfl rfl ?_; conv => whnf)
        simp_all
      · (refine RetOK.d rfl rfl ?_; conv => whnf)
        simp_all
      · exact NextW.go (k + 1) covT_ ⟨by omega, by rw [hk2, decide_eq_false (by omega)]; simp_all⟩ (by omega)
    · (refine RetOK.d rfl rfl ?_; conv => whnf)
      rw [hk2, axsGo_end (by omega)]
set_option maxHeartbeats 1000000 in
theorem l29Ok_v (xs : List TAxis) : PC Tryz.prog 90 [.d (.lst (xs.map TAxis.D))] (.d (.bool (axsB xs))) [] := by
  refine pc_intro ttOk (by kernel_rfl) Tryz.func90 rfl (by kernel_rfl) (by kernel_rfl) (by kernel_rfl) (fun hw => ?_)
  have hL : (xs.map TAxis.D).length = xs.length := List.length_map _
  have hm : (xs.map TAxis.D).length ≤ 9223372036854775807 := hw.1.1
  (conv => whnf)
  refine LoopW.go (α := Nat) (fun k => [(0, .d (.lst (xs.map TAxis.D))), (3, .d (.int .i64 k))]) (fun k => [.gone]) (fun k => k ≤ xs.length ∧ axsGo [] xs = axsGo (xs.take k) (xs.drop k)) (fun k => xs.length - k) 0 covT_ ?_ (fun k hk => ?_)
  · exact ⟨by omega, rfl⟩
  obtain ⟨hk1, hk2⟩ := hk
  (conv => whnf)
  (refine br_ (fun h2 => ?_) (fun h2 => ?_) <;> (repeat (refine stg_ ?_)))
  · obtain ⟨x, hx⟩ := at_lt' (xs := xs) (k := k) (by omega)
    rw [axsGo_at hx] at hk2
    (repeat (refine stg_ ?_))
    (refine cl_ (l29Axis_v x) ?_)
    (refine br_ (fun h3 => ?_) (fun h3 => ?_) <;> (repeat (refine stg_ ?_)))
    · (refine RetOK.d rfl rfl ?_; conv => whnf)
      rw [axsB, hk2, h3, Bool.false_and, Bool.and_false]
    · rw [h3, Bool.true_and] at hk2
      refine LoopW.go (α := Nat) (fun j => [(0, .d (.lst (xs.map TAxis.D))), (3, .d (.int .i64 k)), (4, .d (.int .i64 j))]) (fun _ => [.gone]) (fun j => j ≤ k ∧ (xs.take j).any (nmEq x.fName) = false) (fun j => k - j) 0 covT_ ?_ (fun j hj => ?_)
      · exact ⟨by omega, rfl⟩
      obtain ⟨hj1, hj2⟩ := hj
      (conv => whnf)
      (refine br_ (fun h4 => ?_) (fun h4 => ?_) <;> (repeat (refine stg_ ?_)))
      · obtain ⟨y, hy⟩ := at_lt' (xs := xs) (k := j) (by omega)
        (repeat (refine stg_ ?_))
        (refine br_ (fun h5 => ?_) (fun h5 => ?_) <;> (repeat (refine stg_ ?_)))
        · (refine RetOK.d rfl rfl ?_; conv => whnf)
          rw [axsB, hk2, any_take hy (by omega) (show nmEq x.fName y = true by simp [nmEq, h5])]
          simp
        · (repeat (refine stg_ ?_))
          exact NextW.go (j + 1) covT_ ⟨by omega, by rw [any_snoc hy, hj2]; simp [nmEq, h5]⟩ (by omega)
      · have : j = k := by omega
        subst this
        rw [hj2] at hk2
        (repeat (refine stg_ ?_))
        exact NextW.go (j + 1) covT_ ⟨by omega, by rw [hk2]; rfl⟩ (by omega)
  · (refine RetOK.d rfl rfl ?_; conv => whnf)
    rw [axsB, hk2, axsGo_end (by omega), Bool.and_true, hL]
    congr 1
    exact decide_eq_decide.2 (by omega)
def naB (xs : List TAxis) (s : ByteArray) : Bool := axsB xs && decide (0 ≤ fdx (nmEq s) xs 0)
def naI (xs : List TAxis) (s : ByteArray) : Int := if naB xs s = true then fdx (nmEq s) xs 0 else 0
end Go.Proofs.YtfnnlipcclklnaaGreat

/- Normal coordinates: plain law and walks (plainNormal, mapNormal, both sides). -/
set_option linter.unusedSimpArgs false
set_option linter.unusedVariables false
namespace Go.Proofs.YtfnnlipcclklnaaGreat
open Go.RowKit
theorem axB_facts {a : TAxis} (h : axB a = true) : a.fMin ≤ a.fDefault ∧ a.fDefault ≤ a.fMax ∧ -32000 ≤ a.fMin ∧ a.fMax ≤ 32000 ∧ a.fMin < a.fMax ∧ mapB a.fMap = true := by
  simp only [axB, inB, Bool.and_eq_true, decide_eq_true_eq] at h
  exact ⟨h.1.1.1.2.2, h.1.1.2.1, h.1.1.1.2.1, h.1.1.2.2, h.1.2, h.2⟩
def plainN (a : TAxis) (v : Int) : Int :=
  if a.fDefault < max a.fMin (min a.fMax v) then divR ((max a.fMin (min a.fMax v) - a.fDefault) * 16384) (a.fMax - a.fDefault)
  else if max a.fMin (min a.fMax v) < a.fDefault then divR ((max a.fMin (min a.fMax v) - a.fDefault) * 16384) (a.fDefault - a.fMin) else 0
theorem divR_le {n d c : Int} (hd : 0 < d) (h : n ≤ c * d) : divR n d ≤ c := by
  rw [divR_pos hd]
  have a := Int.emod_nonneg n (show d ≠ 0 by omega)
  have b := Int.emod_lt_of_pos n hd
  have e := Int.emod_add_mul_ediv n d
  have h1 : n / d ≤ c := by
    have := Int.ediv_le_ediv hd h
    rwa [Int.mul_ediv_cancel c (by omega)] at this
  split
  · rcases Int.lt_or_eq_of_le h1 with h2 | h2
    · omega
    · exfalso
      rw [h2, Int.mul_comm] at e
      omega
  · exact h1
theorem le_divR {n d c : Int} (hd : 0 < d) (h : c * d ≤ n) : c ≤ divR n d := by
  rw [divR_pos hd]
  have h1 : c ≤ n / d := (Int.le_ediv_iff_mul_le hd).2 h
  split <;> omega
theorem plainN_nrm {a : TAxis} (h : axB a = true) (v : Int) : nrm (plainN a v) = true := by
  obtain ⟨h1, h2, h3, h4, h5, -⟩ := axB_facts h
  simp only [nrm, Bool.and_eq_true, decide_eq_true_eq]
  unfold plainN
  generalize hu : max a.fMin (min a.fMax v) = u
  have hu1 : a.fMin ≤ u := by omega
  have hu2 : u ≤ a.fMax := by omega
  split
  · exact ⟨le_divR (by omega) (by omega), divR_le (by omega) (by omega)⟩
  · split
    · exact ⟨le_divR (by omega) (by omega), divR_le (by omega) (by omega)⟩
    · omega
def mapGo (n : Int) : Option TAxisPoint → List TAxisPoint → Int
  | _, [] => n
  | none, q :: t => if n = q.fFrom then q.fTo else mapGo n (some q) t
  | some p, q :: t => if n = q.fFrom then q.fTo else if n < q.fFrom then p.fTo + divR ((n - p.fFrom) * (q.fTo - p.fTo)) (q.fFrom - p.fFrom) else mapGo n (some q) t
def mapN (a : TAxis) (n : Int) : Int := mapGo n none a.fMap
theorem mapGo_at (n : Int) {xs : List TAxisPoint} {k : Nat} {q : TAxisPoint} (hq : xs[k]? = some q) :
    mapGo n (pv xs k) (xs.drop k) = if n = q.fFrom then q.fTo else match pv xs k with
      | none => mapGo n (pv xs (k + 1)) (xs.drop (k + 1))
      | some p => if n < q.fFrom then p.fTo + divR ((n - p.fFrom) * (q.fTo - p.fTo)) (q.fFrom - p.fFrom) else mapGo n (pv xs (k + 1)) (xs.drop (k + 1)) := by
  rw [drop_at hq, pv_succ, hq]
  cases pv xs k <;> rfl
theorem mapGo_end (n : Int) {xs : List TAxisPoint} {k : Nat} (o : Option TAxisPoint) (hk : xs.length ≤ k) : mapGo n o (xs.drop k) = n := by
  rw [List.drop_eq_nil_of_le hk]
  cases o <;> rfl
theorem mp_ap : ∀ (xs : List TAxisPoint) (o : Option TAxisPoint), mpGo o xs = true → ∀ (k : Nat) (q : TAxisPoint), xs[k]? = some q → apB q = true
  | [], _, _, k, q, h => by simp at h
  | x :: t, o, h, k, q, hq => by
    rw [mpGo_cons] at h
    simp only [Bool.and_eq_true] at h
    cases k with
    | zero => simp at hq; rw [← hq]; exact h.1.1
    | succ k => exact mp_ap t (some x) h.2 k q (by simpa using hq)
theorem mp_lt : ∀ (xs : List TAxisPoint) (o : Option TAxisPoint), mpGo o xs = true → ∀ (k : Nat) (p q : TAxisPoint), xs[k]? = some p → xs[k + 1]? = some q → apLt p q = true
  | [], _, _, k, p, q, h, _ => by simp at h
  | x :: t, o, h, k, p, q, hp, hq => by
    rw [mpGo_cons] at h
    simp only [Bool.and_eq_true] at h
    cases k with
    | zero =>
      simp at hp hq
      subst hp
      cases t with
      | nil => simp at hq
      | cons y t =>
        simp at hq
        subst hq
        have := h.2
        rw [mpGo_cons] at this
        simp only [Bool.and_eq_true, ltO] at this
        exact this.1.2
    | succ k => exact mp_lt t (some x) h.2 k p q (by simpa using hp) (by simpa using hq)
theorem mapB_first {xs : List TAxisPoint} {q : TAxisPoint} (h : mapB xs = true) (hq : xs[0]? = some q) : q.fFrom = -16384 := by
  cases xs with
  | nil => simp at hq
  | cons x t =>
    simp at hq
    subst hq
    simp only [mapB, List.isEmpty_cons, Bool.false_or, Bool.and_eq_true, decide_eq_true_eq] at h
    have h1 := mapB_has (x :: t) h.1.1
    rw [decide_eq_true h.1.2] at h1
    have h1 := h1.symm
    simp only [Bool.and_eq_true] at h1
    have h2 := h1.1.1
    rw [← cntN_has] at h2
    have h3 := h.1.1
    rw [mpGo_cons] at h3
    simp only [Bool.and_eq_true, apB, nrm, decide_eq_true_eq] at h3
    have h4 := mpGo_low t x h3.2 (-16384) (by omega)
    rw [cntN, h4] at h2
    split at h2
    · rename_i h5
      simp only [Bool.and_eq_true, beq_iff_eq] at h5
      omega
    · omega
theorem mapB_mp {xs : List TAxisPoint} (h : mapB xs = true) : mpGo none xs = true := by
  cases xs with
  | nil => rfl
  | cons x t =>
    simp only [mapB, List.isEmpty_cons, Bool.false_or, Bool.and_eq_true] at h
    exact h.1.1
/-- what a step between two points of a map stays within -/
theorem step_bnd {x y d : Int} (h1 : 0 ≤ x) (h2 : x ≤ d) (h3 : 0 < d) (h4 : d ≤ 32768) (h5 : 0 ≤ y) (h6 : y ≤ 32768) : 0 ≤ x * y ∧ x * y ≤ 1073741824 ∧ 0 ≤ divR (x * y) d ∧ divR (x * y) d ≤ y := by
  have a : 0 ≤ x * y := Int.mul_nonneg h1 h5
  have b : x * y ≤ d * y := Int.mul_le_mul_of_nonneg_right h2 h5
  have c : d * y ≤ 32768 * y := Int.mul_le_mul_of_nonneg_right h4 h5
  refine ⟨a, by omega, le_divR h3 (by omega), divR_le h3 (by rw [Int.mul_comm y d]; exact b)⟩
theorem specPlain_v (a : TAxis) (v : Int) (hA : axB a = true) : PC Tryz.prog 190 [.pX a.D, .d (.int .i64 v)] (.d (.int .i64 (plainN a v))) [] := by
  refine pc_intro ttOk (by kernel_rfl) Tryz.func190 rfl (by kernel_rfl) (by kernel_rfl) (by kernel_rfl) (fun hw => ?_)
  obtain ⟨f1, f2, f3, f4, f5, -⟩ := axB_facts hA
  have hP : plainN a v = if a.fDefault < max a.fMin (min a.fMax v) then divR ((max a.fMin (min a.fMax v) - a.fDefault) * 16384) (a.fMax - a.fDefault)
    else if max a.fMin (min a.fMax v) < a.fDefault then divR ((max a.fMin (min a.fMax v) - a.fDefault) * 16384) (a.fDefault - a.fMin) else 0 := rfl
  generalize hu : max a.fMin (min a.fMax v) = u at *
  have hu1 : a.fMin ≤ u := by omega
  have hu2 : u ≤ a.fMax := by omega
  have c2 := l00Max_v a.fMin (min a.fMax v)
  rw [hu] at c2
  rw [hP]
  (conv => whnf)
  (repeat' (first | (refine stg_ ?_) | (refine cl_ (l00Min_v a.fMax v) ?_) | (refine cl_ (c2) ?_) | (refine cl_ (specDivRound_v _ _) ?_) | (refine br_ (fun hbr => ?_) (fun hbr => ?_))))
  all_goals ((refine RetOK.d rfl rfl ?_; conv => whnf))
  (all_goals (first | rfl | (congr 1; omega) | (simp_all; done) | (simp; omega) | (simp_all; omega) | grind))
theorem plain_v (a : TAxis) (v : Int) (hA : axB a = true) : PC Tryz.prog 132 [.d a.D, .d (.int .i64 v)] (.d (.int .i64 (plainN a v))) [] := by
  refine pc_intro ttOk (by kernel_rfl) Tryz.func132 rfl (by kernel_rfl) (by kernel_rfl) (by kernel_rfl) (fun hw => ?_)
  obtain ⟨f1, f2, f3, f4, f5, -⟩ := axB_facts hA
  have hP : plainN a v = if a.fDefault < max a.fMin (min a.fMax v) then divR ((max a.fMin (min a.fMax v) - a.fDefault) * 16384) (a.fMax - a.fDefault)
    else if max a.fMin (min a.fMax v) < a.fDefault then divR ((max a.fMin (min a.fMax v) - a.fDefault) * 16384) (a.fDefault - a.fMin) else 0 := rfl
  have hu : max a.fMin (min a.fMax v) = min (max v a.fMin) a.fMax := by omega
  rw [hu] at hP
  have hu1 : a.fMin ≤ min (max v a.fMin) a.fMax := by omega
  have hu2 : min (max v a.fMin) a.fMax ≤ a.fMax := by omega
  rw [hP]
  (conv => whnf)
  (repeat' (first | (refine stg_ ?_) | (refine cl_ (DivRound_v _ _) ?_) | (refine br_ (fun hbr => ?_) (fun hbr => ?_))))
  all_goals ((refine RetOK.d rfl rfl ?_; conv => whnf))
  (all_goals (first | rfl | (congr 1; omega) | (simp_all; done) | (simp; omega) | (simp_all; omega) | grind))
set_option maxHeartbeats 2000000 in
theorem specMapped_v (a : TAxis) (n : Int) (hA : axB a = true) (hn : nrm n = true) : PC Tryz.prog 189 [.pX a.D, .d (.int .i64 n)] (.d (.int .i64 (mapN a n))) [] := by
  refine pc_intro ttOk (by kernel_rfl) Tryz.func189 rfl (by kernel_rfl) (by kernel_rfl) (by kernel_rfl) (fun hw => ?_)
  obtain ⟨f1, f2, f3, f4, f5, f6⟩ := axB_facts hA
  simp only [nrm, Bool.and_eq_true, decide_eq_true_eq] at hn
  have f7 := mapB_mp f6
  have hL : (a.fMap.map TAxisPoint.D).length = a.fMap.length := List.length_map _
  have hm : (a.fMap.map TAxisPoint.D).length ≤ 9223372036854775807 := hw.1.2.2.2.2.1.1
  (conv => whnf)
  refine LoopW.go (α := Nat) (fun k => [(0, .pX a.D), (1, .d (.int .i64 n)), (5, .d (.int .i64 k))]) (fun k => [.gone]) (fun k => k ≤ a.fMap.length ∧ (∀ p, pv a.fMap k = some p → p.fFrom ≤ n) ∧ mapN a n = mapGo n (pv a.fMap k) (a.fMap.drop k)) (fun k => a.fMap.length - k) 0 covT_ ?_ (fun k hk => ?_)
  · exact ⟨by omega, fun p hp => by simp [pv] at hp, rfl⟩
  obtain ⟨hk1, hk3, hk2⟩ := hk
  (conv => whnf)
  (refine br_ (fun h2 => ?_) (fun h2 => ?_) <;> (repeat (refine stg_ ?_)))
  · obtain ⟨q, hq⟩ := at_lt' (xs := a.fMap) (k := k) (by omega)
    rw [mapGo_at n hq] at hk2
    have aq := mp_ap _ _ f7 k q hq
    simp only [apB, nrm, Bool.and_eq_true, decide_eq_true_eq] at aq
    (repeat (refine stg_ ?_))
    (refine br_ (fun h3 => ?_) (fun h3 => ?_) <;> (repeat (refine stg_ ?_)))
    · (refine RetOK.d rfl rfl ?_; conv => whnf)
      rw [hk2, if_pos h3]
    · rw [if_neg h3] at hk2
      rcases Nat.eq_zero_or_pos k with rfl | h0
      · rw [pv_zero] at hk2
        (repeat' (first | (refine stg_ ?_) | fail | (refine br_ (fun hbr => ?_) (fun hbr => ?_))))
        all_goals first | (exfalso; omega) | exact NextW.go (0 + 1) covT_ ⟨by omega, fun p hp => by rw [pv_succ, hq] at hp; cases hp; have := mapB_first f6 hq; omega, by rw [hk2]⟩ (by omega)
      · obtain ⟨p, hp⟩ := at_lt' (xs := a.fMap) (k := k - 1) (by omega)
        have ap := mp_ap _ _ f7 (k - 1) p hp
        simp only [apB, nrm, Bool.and_eq_true, decide_eq_true_eq] at ap
        have lt := mp_lt _ _ f7 (k - 1) p q hp (by rw [show k - 1 + 1 = k by omega]; exact hq)
        simp only [apLt, Bool.and_eq_true, decide_eq_true_eq] at lt
        rw [pv_pos _ h0, hp] at hk2
        have hp' : (a.fMap.map TAxisPoint.D)[((k : Int) - 1).toNat]? = some p.D := by
          have : ((k : Int) - 1).toNat = k - 1 := by omega
          rw [this, List.getElem?_map, hp]; rfl
        by_cases h4 : n < q.fFrom
        · have sb := fun hx => step_bnd (x := n - p.fFrom) (y := q.fTo - p.fTo) (d := q.fFrom - p.fFrom) hx (by omega) (by omega) (by omega) (by omega) (by omega)
          have : 0 ≤ n - p.fFrom := by have := hk3 p (by rw [pv_pos _ h0, hp]); omega
          have sb := sb this
          simp only [if_pos h4] at hk2
          (repeat' (first | (refine stg_ ?_) | (refine IxW.at (by omega) hp' ?_; (conv => whnf)) | (refine cl_ (specDivRound_v _ _) ?_) | (refine br_ (fun hbr => ?_) (fun hbr => ?_))))
          all_goals first | (exfalso; omega) | ((refine RetOK.d rfl rfl ?_; conv => whnf); rw [hk2])
        · simp only [if_neg h4] at hk2
          (repeat' (first | (refine stg_ ?_) | fail | (refine br_ (fun hbr => ?_) (fun hbr => ?_))))
          all_goals first | (exfalso; omega) | exact NextW.go (k + 1) covT_ ⟨by omega, fun p hp => by rw [pv_succ, hq] at hp; cases hp; omega, by rw [hk2]⟩ (by omega)
  · (refine RetOK.d rfl rfl ?_; conv => whnf)
    rw [hk2, mapGo_end n _ (by omega)]
set_option maxHeartbeats 2000000 in
theorem mapNormal_v (a : TAxis) (n : Int) (hA : axB a = true) (hn : nrm n = true) : PC Tryz.prog 131 [.d a.D, .d (.int .i64 n)] (.d (.int .i64 (mapN a n))) [] := by
  refine pc_intro ttOk (by kernel_rfl) Tryz.func131 rfl (by kernel_rfl) (by kernel_rfl) (by kernel_rfl) (fun hw => ?_)
  obtain ⟨f1, f2, f3, f4, f5, f6⟩ := axB_facts hA
  simp only [nrm, Bool.and_eq_true, decide_eq_true_eq] at hn
  have f7 := mapB_mp f6
  have hL : (a.fMap.map TAxisPoint.D).length = a.fMap.length := List.length_map _
  have hm : (a.fMap.map TAxisPoint.D).length ≤ 9223372036854775807 := hw.1.2.2.2.2.1.1
  (conv => whnf)
  refine LoopW.go (α := Nat) (fun k => [(1, .d (.int .i64 n)), (2, .pB 1 [] 0), (9, .d (.lst (a.fMap.map TAxisPoint.D))), (10, .d (.int .i64 (a.fMap.map TAxisPoint.D).length)), (11, .d (.int .i64 k))]) (fun k => [.gone, .box (.d a.D)]) (fun k => k ≤ a.fMap.length ∧ (∀ p, pv a.fMap k = some p → p.fFrom ≤ n) ∧ mapN a n = mapGo n (pv a.fMap k) (a.fMap.drop k)) (fun k => a.fMap.length - k) 0 covT_ ?_ (fun k hk => ?_)
  · exact ⟨by omega, fun p hp => by simp [pv] at hp, rfl⟩
  obtain ⟨hk1, hk3, hk2⟩ := hk
  (conv => whnf)
  (refine br_ (fun h2 => ?_) (fun h2 => ?_) <;> (repeat (refine stg_ ?_)))
  · obtain ⟨q, hq⟩ := at_lt' (xs := a.fMap) (k := k) (by omega)
    rw [mapGo_at n hq] at hk2
    have aq := mp_ap _ _ f7 k q hq
    simp only [apB, nrm, Bool.and_eq_true, decide_eq_true_eq] at aq
    (repeat (refine stg_ ?_))
    (refine br_ (fun h3 => ?_) (fun h3 => ?_) <;> (repeat (refine stg_ ?_)))
    · (refine RetOK.d rfl rfl ?_; conv => whnf)
      rw [hk2, if_pos h3]
    · rw [if_neg h3] at hk2
      rcases Nat.eq_zero_or_pos k with rfl | h0
      · rw [pv_zero] at hk2
        have := mapB_first f6 hq
        (refine br_ (fun h4 => ?_) (fun h4 => ?_) <;> (repeat (refine stg_ ?_)))
        · exfalso; omega
        · exact NextW.go (0 + 1) covT_ ⟨by omega, fun p hp => by rw [pv_succ, hq] at hp; cases hp; omega, by rw [hk2]⟩ (by omega)
      · obtain ⟨p, hp⟩ := at_lt' (xs := a.fMap) (k := k - 1) (by omega)
        have ap := mp_ap _ _ f7 (k - 1) p hp
        simp only [apB, nrm, Bool.and_eq_true, decide_eq_true_eq] at ap
        have lt := mp_lt _ _ f7 (k - 1) p q hp (by rw [show k - 1 + 1 = k by omega]; exact hq)
        simp only [apLt, Bool.and_eq_true, decide_eq_true_eq] at lt
        rw [pv_pos _ h0, hp] at hk2
        have hp' : (a.fMap.map TAxisPoint.D)[((k : Int) - 1).toNat]? = some p.D := by
          have : ((k : Int) - 1).toNat = k - 1 := by omega
          rw [this, List.getElem?_map, hp]; rfl
        by_cases h4 : n < q.fFrom
        · have sb := fun hx => step_bnd (x := n - p.fFrom) (y := q.fTo - p.fTo) (d := q.fFrom - p.fFrom) hx (by omega) (by omega) (by omega) (by omega) (by omega)
          have : 0 ≤ n - p.fFrom := by have := hk3 p (by rw [pv_pos _ h0, hp]); omega
          have sb := sb this
          simp only [if_pos h4] at hk2
          (repeat' (first | (refine stg_ ?_) | (refine IxW.at (by omega) hp' ?_; (conv => whnf)) | (refine cl_ (DivRound_v _ _) ?_) | (refine br_ (fun hbr => ?_) (fun hbr => ?_))))
          all_goals first | (exfalso; omega) | ((refine RetOK.d rfl rfl ?_; conv => whnf); rw [hk2])
        · simp only [if_neg h4] at hk2
          (repeat' (first | (refine stg_ ?_) | fail | (refine br_ (fun hbr => ?_) (fun hbr => ?_))))
          all_goals first | (exfalso; omega) | exact NextW.go (k + 1) covT_ ⟨by omega, fun p hp => by rw [pv_succ, hq] at hp; cases hp; omega, by rw [hk2]⟩ (by omega)
  · (refine RetOK.d rfl rfl ?_; conv => whnf)
    rw [hk2, mapGo_end n _ (by omega)]
/-! the functions at the top -/
def cdA (b : Bool) : Int := if b = true then 0 else 1
def plI (a : TAxis) (v : Int) : Int := if axB a = true then plainN a v else 0
def nmI (a : TAxis) (v : Int) : Int := if axB a = true then mapN a (plainN a v) else 0
def mpI (a : TAxis) (n : Int) : Int := if axB a = true then (if nrm n = true then mapN a n else 0) else 0
def mpC (a : TAxis) (n : Int) : Int := if axB a = true then (if nrm n = true then 0 else 2) else 1
end Go.Proofs.YtfnnlipcclklnaaGreat
