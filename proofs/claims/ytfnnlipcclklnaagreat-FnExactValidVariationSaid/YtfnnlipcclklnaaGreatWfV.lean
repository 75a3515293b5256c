/- Well formed variations, both, by the machine. -/
import Derived.Test.YtfnnlipcclklnaaGreatWfP
import Derived.Test.YtfnnlipcclklnaaGreatGsV
set_option linter.unusedSimpArgs false
set_option linter.unusedVariables false
namespace Go.Proofs.YtfnnlipcclklnaaGreat
open Go.RowKit
theorem ri_one (xs : List Int) : riG none xs = riG (pvI xs 1) (xs.drop 1) := by cases xs <;> simp [riG, pvI, ltI]
theorem isGlyphNumber_v (n : Int) : PC Tryz.prog 150 [.d (.int .i64 n)] (.d (.bool (inB n 0 39))) [] := by
  refine pc_intro ttOk (by kernel_rfl) Tryz.func150 rfl (by kernel_rfl) (by kernel_rfl) (by kernel_rfl) (fun hw => ?_)
  (conv => whnf)
  (repeat' (first | (refine stg_ ?_) | fail | (refine br_ (fun hbr => ?_) (fun hbr => ?_))))
  all_goals ((refine RetOK.d rfl rfl ?_; conv => whnf); (try simp_all [inB]); (try (rw [Bool.eq_iff_iff]; simp)); (try omega))
theorem increasing_v (xs : List Int) : PC Tryz.prog 151 [.d (.lst (xs.map (D.int .i64)))] (.d (.bool (riG none xs))) [] := by
  refine pc_intro ttOk (by kernel_rfl) Tryz.func151 rfl (by kernel_rfl) (by kernel_rfl) (by kernel_rfl) (fun hw => ?_)
  have hL : (xs.map (D.int .i64)).length = xs.length := List.length_map _
  have hm : (xs.map (D.int .i64)).length ≤ 9223372036854775807 := hw.1.1
  (conv => whnf)
  refine LoopW.go (α := Nat) (fun k => [(0, .d (.lst (xs.map (D.int .i64)))), (3, .d (.int .i64 k))]) (fun k => [.gone]) (fun k => 1 ≤ k ∧ k ≤ xs.length + 1 ∧ riG none xs = riG (pvI xs k) (xs.drop k)) (fun k => xs.length - k) 1 covT_ ?_ (fun k hk => ?_)
  · exact ⟨by omega, by omega, ri_one xs⟩
  obtain ⟨hk0, hk1, hk2⟩ := hk
  (conv => whnf)
  (refine br_ (fun h2 => ?_) (fun h2 => ?_) <;> (repeat (refine stg_ ?_)))
  · obtain ⟨x, hx⟩ := at_lt' (xs := xs) (k := k) (by omega)
    obtain ⟨p, hp⟩ := at_lt' (xs := xs) (k := k - 1) (by omega)
    have hp' : (xs.map (D.int .i64))[((k : Int) - 1).toNat]? = some (.int .i64 p) := by
      have : ((k : Int) - 1).toNat = k - 1 := by omega
      rw [this, List.getElem?_map, hp]; rfl
    rw [riG_at hx, pvI_pos hk0 hp, ltI] at hk2
    (repeat' (first | (refine stg_ ?_) | (refine IxW.at (by omega) hp' ?_; (conv => whnf)) | (refine br_ (fun hbr => ?_) (fun hbr => ?_))))
    all_goals first | ((refine RetOK.d rfl rfl ?_; conv => whnf); rw [hk2]; simp_all; done) | ((refine RetOK.d rfl rfl ?_; conv => whnf); rw [hk2, decide_eq_false (by omega)]; rfl) | exact NextW.go (k + 1) covT_ ⟨by omega, by omega, by rw [hk2, decide_eq_true (by omega)]; rfl⟩ (by omega)
  · (refine RetOK.d rfl rfl ?_; conv => whnf)
    rw [hk2, riG_end (by omega)]
set_option maxHeartbeats 2000000 in
theorem validDelta_v (d : TGlyphDelta) : PC Tryz.prog 85 [.d d.D] (.d (.bool (gdB d))) [] := by
  refine pc_intro ttOk (by kernel_rfl) Tryz.func85 rfl (by kernel_rfl) (by kernel_rfl) (by kernel_rfl) (fun hw => ?_)
  have hL : (d.fKnots.map (D.int .i64)).length = d.fKnots.length := List.length_map _
  have hL2 : (d.fMoves.map TPt.D).length = d.fMoves.length := List.length_map _
  have hm : (d.fKnots.map (D.int .i64)).length ≤ 9223372036854775807 := hw.1.2.1.1
  have c1 := isGlyphNumber_v d.fGlyph
  have c2 := increasing_v d.fKnots
  have c3 := validPts_v d.fMoves
  have hF : knG none d.fKnots = true → riG none d.fKnots = true := fun h => (knG_ri _ _ h).1
  have hG : gdB d = (inB d.fGlyph 0 39 && (knG none d.fKnots && (decide (d.fKnots.length = d.fMoves.length) && (d.fMoves.all pntB && inB d.fAdvance (-262144) 262144)))) := rfl
  cases hg : inB d.fGlyph 0 39 <;> rw [hg] at c1 hG
  · (conv => whnf)
    (repeat' (first | (refine stg_ ?_) | (refine cla_ (c1) ?_) | (refine cla_ (c2) ?_) | (refine cla_ (c3) ?_) | (refine br_ (fun hbr => ?_) (fun hbr => ?_))))
    all_goals ((refine RetOK.d rfl rfl ?_; conv => whnf); rw [hG]; rfl)
  cases hr : riG none d.fKnots <;> rw [hr] at c2 hF
  · have hk : knG none d.fKnots = false := by
      cases hk : knG none d.fKnots
      · rfl
      · exact absurd (hF hk) (by decide)
    rw [hk] at hG
    (conv => whnf)
    (repeat' (first | (refine stg_ ?_) | (refine cla_ (c1) ?_) | (refine cla_ (c2) ?_) | (refine cla_ (c3) ?_) | (refine br_ (fun hbr => ?_) (fun hbr => ?_))))
    all_goals ((refine RetOK.d rfl rfl ?_; conv => whnf); rw [hG]; rfl)
  by_cases hq : d.fKnots.length = d.fMoves.length
  rotate_left
  · rw [decide_eq_false hq] at hG
    (conv => whnf)
    (repeat' (first | (refine stg_ ?_) | (refine cla_ (c1) ?_) | (refine cla_ (c2) ?_) | (refine cla_ (c3) ?_) | (refine br_ (fun hbr => ?_) (fun hbr => ?_))))
    all_goals first | (exfalso; omega) | ((refine RetOK.d rfl rfl ?_; conv => whnf); rw [hG]; simp)
  rw [decide_eq_true hq] at hG
  cases hp : d.fMoves.all pntB <;> rw [hp] at c3 hG
  · (conv => whnf)
    (repeat' (first | (refine stg_ ?_) | (refine cla_ (c1) ?_) | (refine cla_ (c2) ?_) | (refine cla_ (c3) ?_) | (refine br_ (fun hbr => ?_) (fun hbr => ?_))))
    all_goals first | (exfalso; omega) | ((refine RetOK.d rfl rfl ?_; conv => whnf); rw [hG]; simp)
  rcases Nat.eq_zero_or_pos d.fKnots.length with h0 | h0
  · have hkn : d.fKnots = [] := List.eq_nil_of_length_eq_zero h0
    have e1 : knG none d.fKnots = true := by rw [hkn]; rfl
    rw [e1] at hG
    (conv => whnf)
    (repeat' (first | (refine stg_ ?_) | (refine cla_ (c1) ?_) | (refine cla_ (c2) ?_) | (refine cla_ (c3) ?_) | (refine br_ (fun hbr => ?_) (fun hbr => ?_))))
    all_goals first | (exfalso; omega) | ((refine RetOK.d rfl rfl ?_; conv => whnf); rw [hG]; (try simp_all [inB]); (try (rw [Bool.eq_iff_iff]; simp)); (try omega))
  · obtain ⟨a, ha⟩ := at_lt' (xs := d.fKnots) (k := 0) h0
    obtain ⟨z, hz⟩ := at_lt' (xs := d.fKnots) (k := d.fKnots.length - 1) (by omega)
    have hK := kn_eq ha hz
    rw [hK, hr] at hG
    have ha' : (d.fKnots.map (D.int .i64))[0]? = some (.int .i64 a) := by rw [List.getElem?_map, ha]; rfl
    have hz' : (d.fKnots.map (D.int .i64))[(((d.fKnots.map (D.int .i64)).length : Int) - 1).toNat]? = some (.int .i64 z) := by
      have : (((d.fKnots.map (D.int .i64)).length : Int) - 1).toNat = d.fKnots.length - 1 := by omega
      rw [this, List.getElem?_map, hz]; rfl
    (conv => whnf)
    (repeat' (first | (refine stg_ ?_) | (refine cla_ (c1) ?_) | (refine cla_ (c2) ?_) | (refine cla_ (c3) ?_) | (refine IxW.at (by omega) hz' ?_; (conv => whnf)) | (refine br_ (fun hbr => ?_) (fun hbr => ?_))))
    all_goals first | (exfalso; omega) | skip
    all_goals ((refine RetOK.d rfl rfl ?_; conv => whnf); rw [hG])
    all_goals first | (rw [decide_eq_false (show ¬ 0 ≤ a by omega)]; simp; done) | (rw [decide_eq_false (show ¬ z ≤ 719 by omega)]; simp; done) | (rw [decide_eq_true (show 0 ≤ a by omega), decide_eq_true (show z ≤ 719 by omega)]; (try simp_all [inB]); (try (rw [Bool.eq_iff_iff]; simp)); (try omega))
set_option maxHeartbeats 1000000 in
theorem l30Knots_v (ks : List Int) (ms : List TPt) : PC Tryz.prog 162 [.d (.lst (ks.map (D.int .i64))), .d (.lst (ms.map TPt.D))] (.d (.bool (knG none ks && (decide (ks.length = ms.length) && ms.all pntB)))) [] := by
  refine pc_intro ttOk (by kernel_rfl) Tryz.func162 rfl (by kernel_rfl) (by kernel_rfl) (by kernel_rfl) (fun hw => ?_)
  have hL : (ks.map (D.int .i64)).length = ks.length := List.length_map _
  have hL2 : (ms.map TPt.D).length = ms.length := List.length_map _
  have hm : (ks.map (D.int .i64)).length ≤ 9223372036854775807 := hw.1.1
  (conv => whnf)
  refine LoopW.go (α := Nat) (fun k => [(0, .d (.lst (ks.map (D.int .i64)))), (1, .d (.lst (ms.map TPt.D))), (5, .d (.int .i64 k))]) (fun k => [.gone]) (fun k => k ≤ ks.length ∧ knG none ks = knG (pvI ks k) (ks.drop k)) (fun k => ks.length - k) 0 covT_ ?_ (fun k hk => ?_)
  · exact ⟨by omega, rfl⟩
  obtain ⟨hk1, hk2⟩ := hk
  (conv => whnf)
  (refine br_ (fun h2 => ?_) (fun h2 => ?_) <;> (repeat (refine stg_ ?_)))
  · obtain ⟨x, hx⟩ := at_lt' (xs := ks) (k := k) (by omega)
    rw [knG_at hx] at hk2
    rcases Nat.eq_zero_or_pos k with rfl | h0
    · rw [show pvI ks 0 = none from rfl, ltI, Bool.true_and] at hk2
      (repeat' (first | (refine stg_ ?_) | (refine cl_ (l00In_v _ _ _) ?_) | (refine br_ (fun hbr => ?_) (fun hbr => ?_))))
      all_goals first | (exfalso; omega) | ((refine RetOK.d rfl rfl ?_; conv => whnf); simp_all; done) | skip
      all_goals exact NextW.go (0 + 1) covT_ ⟨by omega, by simp_all⟩ (by omega)
    · obtain ⟨p, hp⟩ := at_lt' (xs := ks) (k := k - 1) (by omega)
      have hp' : (ks.map (D.int .i64))[((k : Int) - 1).toNat]? = some (.int .i64 p) := by
        have : ((k : Int) - 1).toNat = k - 1 := by omega
        rw [this, List.getElem?_map, hp]; rfl
      rw [pvI_pos h0 hp, ltI] at hk2
      (repeat' (first | (refine stg_ ?_) | (refine cl_ (l00In_v _ _ _) ?_) | (refine IxW.at (by omega) hp' ?_; (conv => whnf)) | (refine br_ (fun hbr => ?_) (fun hbr => ?_))))
      all_goals first | (exfalso; omega) | ((refine RetOK.d rfl rfl ?_; conv => whnf); simp_all; done) | ((refine RetOK.d rfl rfl ?_; conv => whnf); rw [hk2, decide_eq_false (show ¬ p < x by omega)]; simp; done) | skip
      all_goals exact NextW.go (k + 1) covT_ ⟨by omega, by rw [hk2, decide_eq_true (show p < x by omega)]; simp_all⟩ (by omega)
  · rw [knG_end (by omega)] at hk2
    (repeat' (first | (refine stg_ ?_) | (refine cla_ (l13Points_v ms) ?_) | (refine br_ (fun hbr => ?_) (fun hbr => ?_))))
    all_goals ((refine RetOK.d rfl rfl ?_; conv => whnf); rw [hk2]; first | (simp_all; done) | (rw [decide_eq_true (show ks.length = ms.length by omega)]; simp_all; done) | (rw [decide_eq_false (show ¬ ks.length = ms.length by omega)]; simp_all; done))
theorem l30Delta_v (d : TGlyphDelta) : PC Tryz.prog 92 [.pX d.D] (.d (.bool (gdB d))) [] := by
  refine pc_intro ttOk (by kernel_rfl) Tryz.func92 rfl (by kernel_rfl) (by kernel_rfl) (by kernel_rfl) (fun hw => ?_)
  have hG : gdB d = (inB d.fGlyph 0 39 && ((knG none d.fKnots && (decide (d.fKnots.length = d.fMoves.length) && d.fMoves.all pntB)) && inB d.fAdvance (-262144) 262144)) := by rw [gdB]; simp only [Bool.and_assoc]
  rw [hG]
  have c1 := l00In_v d.fGlyph 0 39
  have c2 := l30Knots_v d.fKnots d.fMoves
  have c3 := l00In_v d.fAdvance (-262144) 262144
  generalize inB d.fGlyph 0 39 = A at *
  generalize (knG none d.fKnots && (decide (d.fKnots.length = d.fMoves.length) && d.fMoves.all pntB)) = B at *
  generalize inB d.fAdvance (-262144) 262144 = C at *
  clear hG
  cases A <;> cases B <;> cases C <;> ((conv => whnf); (repeat' (first | (refine stg_ ?_) | (refine cla_ (c1) ?_) | (refine cla_ (c2) ?_) | (refine cla_ (c3) ?_) | (refine RegD.auto (by kernel_rfl) ?_; conv => whnf) | (refine br_ (fun hbr => ?_) (fun hbr => ?_)))); all_goals ((refine RetOK.d rfl rfl ?_; conv => whnf); rfl))
theorem wfN_v (p : TPeak) : PC Tryz.prog 83 [.d p.D] (.d (.bool (!pkB p))) [] := by
  refine pc_intro ttOk (by kernel_rfl) Tryz.func83 rfl (by kernel_rfl) (by kernel_rfl) (by kernel_rfl) (fun hw => ?_)
  (conv => whnf)
  (repeat' (first | (refine stg_ ?_) | (refine cla_ (ValidPeak_v p) ?_) | (refine br_ (fun hbr => ?_) (fun hbr => ?_))))
  all_goals ((refine RetOK.d rfl rfl ?_; conv => whnf); try rfl)
set_option maxHeartbeats 4000000 in
theorem wellFormed_v (v : TVariation) : PC Tryz.prog 38 [.d v.D] (.d (.bool (wfB v))) [] := by
  refine pc_intro ttOk (by kernel_rfl) Tryz.func38 rfl (by kernel_rfl) (by kernel_rfl) (by kernel_rfl) (fun hw => ?_)
  have hL : (v.fMasters.map TMaster.D).length = v.fMasters.length := List.length_map _
  have hLa : (v.fAxes.map TAxis.D).length = v.fAxes.length := List.length_map _
  have hm : (v.fMasters.map TMaster.D).length ≤ 9223372036854775807 := hw.1.2.1.1
  have c0 := ValidAxes_v v.fAxes
  have hG : wfB v = (axsB v.fAxes && (decide (v.fMasters.length ≤ 8) && v.fMasters.all (maB v.fAxes.length))) := rfl
  cases hB : axsB v.fAxes <;> rw [hB] at c0 hG
  · (conv => whnf)
    (repeat' (first | (refine stg_ ?_) | (refine cla_ (c0) ?_) | (refine br_ (fun hbr => ?_) (fun hbr => ?_))))
    all_goals ((refine RetOK.d rfl rfl ?_; conv => whnf); rw [hG]; rfl)
  by_cases h8 : v.fMasters.length ≤ 8
  rotate_left
  · rw [decide_eq_false h8] at hG
    (conv => whnf)
    (repeat' (first | (refine stg_ ?_) | (refine cla_ (c0) ?_) | (refine br_ (fun hbr => ?_) (fun hbr => ?_))))
    all_goals first | (exfalso; omega) | ((refine RetOK.d rfl rfl ?_; conv => whnf); rw [hG]; rfl)
  rw [decide_eq_true h8, Bool.true_and, Bool.true_and] at hG
  (conv => whnf)
  (repeat' (first | (refine stg_ ?_) | (refine cla_ (c0) ?_) | (refine br_ (fun hbr => ?_) (fun hbr => ?_))))
  all_goals first | (exfalso; omega) | skip
  refine LoopW.go (α := Nat) (fun k => [(1, .pB 1 [] 0), (18, .d (.lst (v.fMasters.map TMaster.D))), (19, .d (.int .i64 (v.fMasters.map TMaster.D).length)), (20, .d (.int .i64 k))]) (fun k => [.gone, .box (.d v.D)]) (fun k => k ≤ v.fMasters.length ∧ wfB v = (v.fMasters.drop k).all (maB v.fAxes.length)) (fun k => v.fMasters.length - k) 0 covT_ ?_ (fun k hk => ?_)
  · exact ⟨by omega, hG⟩
  obtain ⟨hk1, hk2⟩ := hk
  (conv => whnf)
  (refine br_ (fun h2 => ?_) (fun h2 => ?_) <;> (repeat (refine stg_ ?_)))
  · obtain ⟨m, hx⟩ := at_lt' (xs := v.fMasters) (k := k) (by omega)
    rw [drop_at hx, List.all_cons] at hk2
    have hP : m.fPeaks.all pkB = !m.fPeaks.any (fun p => !pkB p) := by rw [List.all_eq_not_any_not]
    have hLp : (m.fPeaks.map TPeak.D).length = m.fPeaks.length := List.length_map _
    have hLd : (m.fDeltas.map TGlyphDelta.D).length = m.fDeltas.length := List.length_map _
    have hany : m.fPeaks.any (fun p => !pkB p) = !(m.fPeaks.all pkB) := by rw [List.all_eq_not_any_not, Bool.not_not]
    have c := ctPeak_v m.fPeaks _ (fun p => !pkB p) wfN_v
    rw [hany] at c
    have hM : maB v.fAxes.length m = (decide (m.fPeaks.length = v.fAxes.length) && (decide (m.fDeltas.length ≤ 20) && (m.fPeaks.all pkB && dsG none m.fDeltas))) := rfl
    rw [hM] at hk2
    cases hpk : m.fPeaks.all pkB <;> rw [hpk] at c hk2
    · (repeat' (first | (refine stg_ ?_) | (refine cla_ (c) ?_) | (refine br_ (fun hbr => ?_) (fun hbr => ?_))))
      all_goals ((refine RetOK.d rfl rfl ?_; conv => whnf); rw [hk2]; simp)
    by_cases hq : m.fPeaks.length = v.fAxes.length ∧ m.fDeltas.length ≤ 20
    rotate_left
    · have hz : (decide (m.fPeaks.length = v.fAxes.length) && decide (m.fDeltas.length ≤ 20)) = false := by
        rw [Bool.and_eq_false_iff, decide_eq_false_iff_not, decide_eq_false_iff_not]; omega
      rw [← Bool.and_assoc, hz] at hk2
      (repeat' (first | (refine stg_ ?_) | (refine cla_ (c) ?_) | (refine br_ (fun hbr => ?_) (fun hbr => ?_))))
      all_goals first | (exfalso; omega) | ((refine RetOK.d rfl rfl ?_; conv => whnf); rw [hk2]; simp)
    rw [decide_eq_true hq.1, decide_eq_true hq.2, Bool.true_and, Bool.true_and, Bool.true_and] at hk2
    (repeat' (first | (refine stg_ ?_) | (refine cla_ (c) ?_) | (refine br_ (fun hbr => ?_) (fun hbr => ?_))))
    all_goals first | (exfalso; omega) | skip
    refine LoopW.go (α := Nat) (fun j => [(1, .pB 1 [] 0), (4, .pB 2 [] 0), (18, .d (.lst (v.fMasters.map TMaster.D))), (19, .d (.int .i64 (v.fMasters.map TMaster.D).length)), (20, .d (.int .i64 k)), (43, .d (.lst (m.fDeltas.map TGlyphDelta.D))), (44, .d (.int .i64 (m.fDeltas.map TGlyphDelta.D).length)), (45, .d (.int .i64 j))]) (fun j => [.gone, .box (.d v.D), .box (.d m.D)]) (fun j => j ≤ m.fDeltas.length ∧ dsG none m.fDeltas = dsG (pv m.fDeltas j) (m.fDeltas.drop j)) (fun j => m.fDeltas.length - j) 0 covT_ ⟨by omega, rfl⟩ (fun j hj => ?_)
    obtain ⟨hj1, hj2⟩ := hj
    (conv => whnf)
    (refine br_ (fun h3 => ?_) (fun h3 => ?_) <;> (repeat (refine stg_ ?_)))
    · obtain ⟨d, hd⟩ := at_lt' (xs := m.fDeltas) (k := j) (by omega)
      rw [dsG_at hd] at hj2
      rcases Nat.eq_zero_or_pos j with rfl | h0
      · rw [pv_zero, ltG, Bool.true_and] at hj2
        (repeat' (first | (refine stg_ ?_) | (refine cla_ (validDelta_v d) ?_) | (refine br_ (fun hbr => ?_) (fun hbr => ?_))))
        all_goals first | (exfalso; omega) | ((refine RetOK.d rfl rfl ?_; conv => whnf); simp_all; done) | skip
        all_goals exact NextW.go (0 + 1) covT_ ⟨by omega, by simp_all⟩ (by omega)
      · obtain ⟨p, hp⟩ := at_lt' (xs := m.fDeltas) (k := j - 1) (by omega)
        have hp' : (m.fDeltas.map TGlyphDelta.D)[((j : Int) - 1).toNat]? = some p.D := by
          have : ((j : Int) - 1).toNat = j - 1 := by omega
          rw [this, List.getElem?_map, hp]; rfl
        rw [pv_pos _ h0, hp, ltG] at hj2
        (repeat' (first | (refine stg_ ?_) | (refine cla_ (validDelta_v d) ?_) | (refine IxW.at (by omega) hp' ?_; (conv => whnf)) | (refine br_ (fun hbr => ?_) (fun hbr => ?_))))
        all_goals first | (exfalso; omega) | ((refine RetOK.d rfl rfl ?_; conv => whnf); simp_all; done) | ((refine RetOK.d rfl rfl ?_; conv => whnf); rw [hk2, hj2, decide_eq_false (show ¬ p.fGlyph < d.fGlyph by omega)]; simp; done) | skip
        all_goals exact NextW.go (j + 1) covT_ ⟨by omega, by rw [hj2, decide_eq_true (show p.fGlyph < d.fGlyph by omega)]; simp_all⟩ (by omega)
    · rw [dsG_end (by omega)] at hj2
      rw [hj2, Bool.true_and] at hk2
      (repeat (refine stg_ ?_))
      exact NextW.go (k + 1) covT_ ⟨by omega, hk2⟩ (by omega)
  · (refine RetOK.d rfl rfl ?_; conv => whnf)
    rw [hk2, List.drop_eq_nil_of_le (by omega)]; rfl
set_option maxHeartbeats 4000000 in
theorem l30Formed_v (v : TVariation) : PC Tryz.prog 44 [.pX v.D] (.d (.bool (wfB v))) [] := by
  refine pc_intro ttOk (by kernel_rfl) Tryz.func44 rfl (by kernel_rfl) (by kernel_rfl) (by kernel_rfl) (fun hw => ?_)
  have hL : (v.fMasters.map TMaster.D).length = v.fMasters.length := List.length_map _
  have hLa : (v.fAxes.map TAxis.D).length = v.fAxes.length := List.length_map _
  have hm : (v.fMasters.map TMaster.D).length ≤ 9223372036854775807 := hw.1.2.1.1
  have c0 := l29Ok_v v.fAxes
  have hG : wfB v = (axsB v.fAxes && (decide (v.fMasters.length ≤ 8) && v.fMasters.all (maB v.fAxes.length))) := rfl
  cases hB : axsB v.fAxes <;> rw [hB] at c0 hG
  · (conv => whnf)
    (repeat' (first | (refine stg_ ?_) | (refine cla_ (c0) ?_) | (refine br_ (fun hbr => ?_) (fun hbr => ?_))))
    all_goals ((refine RetOK.d rfl rfl ?_; conv => whnf); rw [hG]; rfl)
  have hx3 : v.fAxes.length ≤ 3 := by
    simp only [axsB, Bool.and_eq_true, decide_eq_true_eq] at hB
    exact hB.1
  by_cases h8 : v.fMasters.length ≤ 8
  rotate_left
  · rw [decide_eq_false h8] at hG
    (conv => whnf)
    (repeat' (first | (refine stg_ ?_) | (refine cla_ (c0) ?_) | (refine br_ (fun hbr => ?_) (fun hbr => ?_))))
    all_goals first | (exfalso; omega) | ((refine RetOK.d rfl rfl ?_; conv => whnf); rw [hG]; rfl)
  rw [decide_eq_true h8, Bool.true_and, Bool.true_and] at hG
  (conv => whnf)
  (repeat' (first | (refine stg_ ?_) | (refine cla_ (c0) ?_) | (refine br_ (fun hbr => ?_) (fun hbr => ?_))))
  all_goals first | (exfalso; omega) | skip
  refine LoopW.go (α := Nat) (fun k => [(0, .pX v.D), (3, .d (.int .i64 k))]) (fun k => [.gone]) (fun k => k ≤ v.fMasters.length ∧ wfB v = (v.fMasters.drop k).all (maB v.fAxes.length)) (fun k => v.fMasters.length - k) 0 covT_ ?_ (fun k hk => ?_)
  · exact ⟨by omega, hG⟩
  obtain ⟨hk1, hk2⟩ := hk
  (conv => whnf)
  (refine br_ (fun h2 => ?_) (fun h2 => ?_) <;> (repeat (refine stg_ ?_)))
  · obtain ⟨m, hx⟩ := at_lt' (xs := v.fMasters) (k := k) (by omega)
    rw [drop_at hx, List.all_cons] at hk2
    have hLp : (m.fPeaks.map TPeak.D).length = m.fPeaks.length := List.length_map _
    have hLd : (m.fDeltas.map TGlyphDelta.D).length = m.fDeltas.length := List.length_map _
    have hPk : pksB m.fPeaks = (decide (m.fPeaks.length ≤ 3) && m.fPeaks.all pkB) := rfl
    have c := l30Peaks_v m.fPeaks
    rw [hPk] at c
    have hM : maB v.fAxes.length m = (decide (m.fPeaks.length = v.fAxes.length) && (decide (m.fDeltas.length ≤ 20) && (m.fPeaks.all pkB && dsG none m.fDeltas))) := rfl
    rw [hM] at hk2
    cases hpk : m.fPeaks.all pkB <;> rw [hpk] at c hk2
    · rw [Bool.and_false] at c
      (repeat' (first | (refine stg_ ?_) | (refine cla_ (c) ?_) | (refine br_ (fun hbr => ?_) (fun hbr => ?_))))
      all_goals ((refine RetOK.d rfl rfl ?_; conv => whnf); rw [hk2]; simp)
    rw [Bool.and_true] at c
    by_cases hq : m.fPeaks.length = v.fAxes.length ∧ m.fDeltas.length ≤ 20
    rotate_left
    · have hz : (decide (m.fPeaks.length = v.fAxes.length) && decide (m.fDeltas.length ≤ 20)) = false := by
        rw [Bool.and_eq_false_iff, decide_eq_false_iff_not, decide_eq_false_iff_not]; omega
      rw [← Bool.and_assoc, hz] at hk2
      (repeat' (first | (refine stg_ ?_) | (refine cla_ (c) ?_) | (refine br_ (fun hbr => ?_) (fun hbr => ?_))))
      all_goals first | (exfalso; omega) | ((refine RetOK.d rfl rfl ?_; conv => whnf); rw [hk2]; simp)
    rw [decide_eq_true hq.1, decide_eq_true hq.2, Bool.true_and, Bool.true_and, Bool.true_and] at hk2
    rw [decide_eq_true (show m.fPeaks.length ≤ 3 by omega)] at c
    (repeat' (first | (refine stg_ ?_) | (refine cla_ (c) ?_) | (refine br_ (fun hbr => ?_) (fun hbr => ?_))))
    all_goals first | (exfalso; omega) | skip
    refine LoopW.go (α := Nat) (fun j => [(0, .pX v.D), (3, .d (.int .i64 k)), (4, .pX m.D), (5, .d (.int .i64 j))]) (fun j => [.gone]) (fun j => j ≤ m.fDeltas.length ∧ dsG none m.fDeltas = dsG (pv m.fDeltas j) (m.fDeltas.drop j)) (fun j => m.fDeltas.length - j) 0 covT_ ⟨by omega, rfl⟩ (fun j hj => ?_)
    obtain ⟨hj1, hj2⟩ := hj
    (conv => whnf)
    (refine br_ (fun h3 => ?_) (fun h3 => ?_) <;> (repeat (refine stg_ ?_)))
    · obtain ⟨d, hd⟩ := at_lt' (xs := m.fDeltas) (k := j) (by omega)
      rw [dsG_at hd] at hj2
      rcases Nat.eq_zero_or_pos j with rfl | h0
      · rw [pv_zero, ltG, Bool.true_and] at hj2
        (repeat' (first | (refine stg_ ?_) | (refine cla_ (l30Delta_v d) ?_) | (refine br_ (fun hbr => ?_) (fun hbr => ?_))))
        all_goals first | (exfalso; omega) | ((refine RetOK.d rfl rfl ?_; conv => whnf); simp_all; done) | skip
        all_goals exact NextW.go (0 + 1) covT_ ⟨by omega, by simp_all⟩ (by omega)
      · obtain ⟨p, hp⟩ := at_lt' (xs := m.fDeltas) (k := j - 1) (by omega)
        have hp' : (m.fDeltas.map TGlyphDelta.D)[((j : Int) - 1).toNat]? = some p.D := by
          have : ((j : Int) - 1).toNat = j - 1 := by omega
          rw [this, List.getElem?_map, hp]; rfl
        rw [pv_pos _ h0, hp, ltG] at hj2
        (repeat' (first | (refine stg_ ?_) | (refine cla_ (l30Delta_v d) ?_) | (refine IxW.at (by omega) hp' ?_; (conv => whnf)) | (refine br_ (fun hbr => ?_) (fun hbr => ?_))))
        all_goals first | (exfalso; omega) | ((refine RetOK.d rfl rfl ?_; conv => whnf); simp_all; done) | ((refine RetOK.d rfl rfl ?_; conv => whnf); rw [hk2, hj2, decide_eq_false (show ¬ p.fGlyph < d.fGlyph by omega)]; simp; done) | skip
        all_goals exact NextW.go (j + 1) covT_ ⟨by omega, by rw [hj2, decide_eq_true (show p.fGlyph < d.fGlyph by omega)]; simp_all⟩ (by omega)
    · rw [dsG_end (by omega)] at hj2
      rw [hj2, Bool.true_and] at hk2
      (repeat (refine stg_ ?_))
      exact NextW.go (k + 1) covT_ ⟨by omega, hk2⟩ (by omega)
  · (refine RetOK.d rfl rfl ?_; conv => whnf)
    rw [hk2, List.drop_eq_nil_of_le (by omega)]; rfl
end Go.Proofs.YtfnnlipcclklnaaGreat
