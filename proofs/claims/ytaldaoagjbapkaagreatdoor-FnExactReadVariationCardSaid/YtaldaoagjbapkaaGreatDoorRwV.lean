/- merged: several parts in one text. Leans on no more than they do. -/
import Derived.Test.YtaldaoagjbapkaaGreatDoorVtP
import Derived.Test.YtaldaoagjbapkaaGreatDoorBldS
set_option linter.unusedSimpArgs false
set_option linter.unusedVariables false
namespace Go.Proofs.YtaldaoagjbapkaaGreatDoor
open Go.RowKit
theorem ri_one (xs : List Int) : riG none xs = riG (pvI xs 1) (xs.drop 1) := by cases xs <;> simp [riG, pvI, ltI]
theorem isGlyphNumber_v (n : Int) : PC Tryz.prog 135 [.d (.int .i64 n)] (.d (.bool (inB n 0 39))) [] := by
  refine pc_intro ttOk (by kernel_rfl) Tryz.func135 rfl (by kernel_rfl) (by kernel_rfl) (by kernel_rfl) (fun hw => ?_)
  (conv => whnf)
  (repeat' (first | (refine stg_ ?_) | fail | (refine br_ (fun hbr => ?_) (fun hbr => ?_))))
  all_goals ((refine RetOK.d rfl rfl ?_; conv => whnf); (try simp_all [inB]); (try (rw [Bool.eq_iff_iff]; simp)); (try omega))
theorem increasing_v (xs : List Int) : PC Tryz.prog 57 [.d (.lst (xs.map (D.int .i64)))] (.d (.bool (riG none xs))) [] := by
  refine pc_intro ttOk (by kernel_rfl) Tryz.func57 rfl (by kernel_rfl) (by kernel_rfl) (by kernel_rfl) (fun hw => ?_)
  have hL : (xs.map (D.int .i64)).length = xs.length := List.length_map _
  have hm : (xs.map (D.int .i64)).length ≤ 9223372036854775807 := hw.1.1
  (conv => whnf)
  refine LoopW.go (α := Nat) (fun k => [(0, .d (.lst (xs.map (D.int .i64)))), (3, .d (.int .i64 k))]) (fun k => [.gone]) (fun k => 1 ≤ k ∧ k ≤ xs.length + 1 ∧ riG none xs = riG (pvI xs k) (xs.drop k)) (fun k => xs.length - k) 1 covT_ ?_ (fun k hk => ?_)
  · exact ⟨by omega, by omega, ri_one xs⟩
  obtain ⟨hk0, hk1, hk2⟩ := hk
  (conv => whnf)
  (refine br_ (fun h2 => ?_) (fun h2 => ?_) <;> (repeat (refine stg_ ?_)))
  · obtain ⟨x, hx⟩ := at_lt' (xs := xs) (k := k) (by omega)
    obtain ⟨p, hp⟩ := at_lt' (xs := xs) (k := k - 1) (by omega)
    have hp' : (xs.map (D.int .i64))[((k : Int) - 1).toNat]? = some (.int .i64 p) := by
      have : ((k : Int) - 1).toNat = k - 1 := by omega
      rw [this, List.getElem?_map, hp]; rfl
    rw [riG_at hx, pvI_pos hk0 hp, ltI] at hk2
    (repeat' (first | (refine stg_ ?_) | (refine IxW.at (by omega) hp' ?_; (conv => whnf)) | (refine br_ (fun hbr => ?_) (fun hbr => ?_))))
    all_goals first | ((refine RetOK.d rfl rfl ?_; conv => whnf); rw [hk2]; simp_all; done) | ((refine RetOK.d rfl rfl ?_; conv => whnf); rw [hk2, decide_eq_false (by omega)]; rfl) | exact NextW.go (k + 1) covT_ ⟨by omega, by omega, by rw [hk2, decide_eq_true (by omega)]; rfl⟩ (by omega)
  · (refine RetOK.d rfl rfl ?_; conv => whnf)
    rw [hk2, riG_end (by omega)]
set_option maxHeartbeats 2000000 in
theorem validDelta_v (d : TGlyphDelta) : PC Tryz.prog 76 [.d d.D] (.d (.bool (gdB d))) [] := by
  refine pc_intro ttOk (by kernel_rfl) Tryz.func76 rfl (by kernel_rfl) (by kernel_rfl) (by kernel_rfl) (fun hw => ?_)
  have hL : (d.fKnots.map (D.int .i64)).length = d.fKnots.length := List.length_map _
  have hL2 : (d.fMoves.map TPt.D).length = d.fMoves.length := List.length_map _
  have hm : (d.fKnots.map (D.int .i64)).length ≤ 9223372036854775807 := hw.1.2.1.1
  have c1 := isGlyphNumber_v d.fGlyph
  have c2 := increasing_v d.fKnots
  have c3 := validPts_v d.fMoves
  have hF : knG none d.fKnots = true → riG none d.fKnots = true := fun h => (knG_ri _ _ h).1
  have hG : gdB d = (inB d.fGlyph 0 39 && (knG none d.fKnots && (decide (d.fKnots.length = d.fMoves.length) && (d.fMoves.all pntB && inB d.fAdvance (-262144) 262144)))) := rfl
  cases hg : inB d.fGlyph 0 39 <;> rw [hg] at c1 hG
  · (conv => whnf)
    (repeat' (first | (refine stg_ ?_) | (refine cla_ (c1) ?_) | (refine cla_ (c2) ?_) | (refine cla_ (c3) ?_) | (refine br_ (fun hbr => ?_) (fun hbr => ?_))))
    all_goals ((refine RetOK.d rfl rfl ?_; conv => whnf); rw [hG]; rfl)
  cases hr : riG none d.fKnots <;> rw [hr] at c2 hF
  · have hk : knG none d.fKnots = false := by
      cases hk : knG none d.fKnots
      · rfl
      · exact absurd (hF hk) (by decide)
    rw [hk] at hG
    (conv => whnf)
    (repeat' (first | (refine stg_ ?_) | (refine cla_ (c1) ?_) | (refine cla_ (c2) ?_) | (refine cla_ (c3) ?_) | (refine br_ (fun hbr => ?_) (fun hbr => ?_))))
    all_goals ((refine RetOK.d rfl rfl ?_; conv => whnf); rw [hG]; rfl)
  by_cases hq : d.fKnots.length = d.fMoves.length
  rotate_left
  · rw [decide_eq_false hq] at hG
    (conv => whnf)
    (repeat' (first | (refine stg_ ?_) | (refine cla_ (c1) ?_) | (refine cla_ (c2) ?_) | (refine cla_ (c3) ?_) | (refine br_ (fun hbr => ?_) (fun hbr => ?_))))
    all_goals first | (exfalso; omega) | ((refine RetOK.d rfl rfl ?_; conv => whnf); rw [hG]; simp)
  rw [decide_eq_true hq] at hG
  cases hp : d.fMoves.all pntB <;> rw [hp] at c3 hG
  · (conv => whnf)
    (repeat' (first | (refine stg_ ?_) | (refine cla_ (c1) ?_) | (refine cla_ (c2) ?_) | (refine cla_ (c3) ?_) | (refine br_ (fun hbr => ?_) (fun hbr => ?_))))
    all_goals first | (exfalso; omega) | ((refine RetOK.d rfl rfl ?_; conv => whnf); rw [hG]; simp)
  rcases Nat.eq_zero_or_pos d.fKnots.length with h0 | h0
  · have hkn : d.fKnots = [] := List.eq_nil_of_length_eq_zero h0
    have e1 : knG none d.fKnots = true := by rw [hkn]; rfl
    rw [e1] at hG
    (conv => whnf)
    (repeat' (first | (refine stg_ ?_) | (refine cla_ (c1) ?_) | (refine cla_ (c2) ?_) | (refine cla_ (c3) ?_) | (refine br_ (fun hbr => ?_) (fun hbr => ?_))))
    all_goals first | (exfalso; omega) | ((refine RetOK.d rfl rfl ?_; conv => whnf); rw [hG]; (try simp_all [inB]); (try (rw [Bool.eq_iff_iff]; simp)); (try omega))
  · obtain ⟨a, ha⟩ := at_lt' (xs := d.fKnots) (k := 0) h0
    obtain ⟨z, hz⟩ := at_lt' (xs := d.fKnots) (k := d.fKnots.length - 1) (by omega)
    have hK := kn_eq ha hz
    rw [hK, hr] at hG
    have ha' : (d.fKnots.map (D.int .i64))[0]? = some (.int .i64 a) := by rw [List.getElem?_map, ha]; rfl
    have hz' : (d.fKnots.map (D.int .i64))[(((d.fKnots.map (D.int .i64)).length : Int) - 1).toNat]? = some (.int .i64 z) := by
      have : (((d.fKnots.map (D.int .i64)).length : Int) - 1).toNat = d.fKnots.length - 1 := by omega
      rw [this, List.getElem?_map, hz]; rfl
    (conv => whnf)
    (repeat' (first | (refine stg_ ?_) | (refine cla_ (c1) ?_) | (refine cla_ (c2) ?_) | (refine cla_ (c3) ?_) | (refine IxW.at (by omega) hz' ?_; (conv => whnf)) | (refine br_ (fun hbr => ?_) (fun hbr => ?_))))
    all_goals first | (exfalso; omega) | skip
    all_goals ((refine RetOK.d rfl rfl ?_; conv => whnf); rw [hG])
    all_goals first | (rw [decide_eq_false (show ¬ 0 ≤ a by omega)]; simp; done) | (rw [decide_eq_false (show ¬ z ≤ 719 by omega)]; simp; done) | (rw [decide_eq_true (show 0 ≤ a by omega), decide_eq_true (show z ≤ 719 by omega)]; (try simp_all [inB]); (try (rw [Bool.eq_iff_iff]; simp)); (try omega))
set_option maxHeartbeats 1000000 in
theorem l30Knots_v (ks : List Int) (ms : List TPt) : PC Tryz.prog 130 [.d (.lst (ks.map (D.int .i64))), .d (.lst (ms.map TPt.D))] (.d (.bool (knG none ks && (decide (ks.length = ms.length) && ms.all pntB)))) [] := by
  refine pc_intro ttOk (by kernel_rfl) Tryz.func130 rfl (by kernel_rfl) (by kernel_rfl) (by kernel_rfl) (fun hw => ?_)
  have hL : (ks.map (D.int .i64)).length = ks.length := List.length_map _
  have hL2 : (ms.map TPt.D).length = ms.length := List.length_map _
  have hm : (ks.map (D.int .i64)).length ≤ 9223372036854775807 := hw.1.1
  (conv => whnf)
  refine LoopW.go (α := Nat) (fun k => [(0, .d (.lst (ks.map (D.int .i64)))), (1, .d (.lst (ms.map TPt.D))), (5, .d (.int .i64 k))]) (fun k => [.gone]) (fun k => k ≤ ks.length ∧ knG none ks = knG (pvI ks k) (ks.drop k)) (fun k => ks.length - k) 0 covT_ ?_ (fun k hk => ?_)
  · exact ⟨by omega, rfl⟩
  obtain ⟨hk1, hk2⟩ := hk
  (conv => whnf)
  (refine br_ (fun h2 => ?_) (fun h2 => ?_) <;> (repeat (refine stg_ ?_)))
  · obtain ⟨x, hx⟩ := at_lt' (xs := ks) (k := k) (by omega)
    rw [knG_at hx] at hk2
    rcases Nat.eq_zero_or_pos k with rfl | h0
    · rw [show pvI ks 0 = none from rfl, ltI, Bool.true_and] at hk2
      (repeat' (first | (refine stg_ ?_) | (refine cl_ (l00In_v _ _ _) ?_) | (refine br_ (fun hbr => ?_) (fun hbr => ?_))))
      all_goals first | (exfalso; omega) | ((refine RetOK.d rfl rfl ?_; conv => whnf); simp_all; done) | skip
      all_goals exact NextW.go (0 + 1) covT_ ⟨by omega, by simp_all⟩ (by omega)
    · obtain ⟨p, hp⟩ := at_lt' (xs := ks) (k := k - 1) (by omega)
      have hp' : (ks.map (D.int .i64))[((k : Int) - 1).toNat]? = some (.int .i64 p) := by
        have : ((k : Int) - 1).toNat = k - 1 := by omega
        rw [this, List.getElem?_map, hp]; rfl
      rw [pvI_pos h0 hp, ltI] at hk2
      (repeat' (first | (refine stg_ ?_) | (refine cl_ (l00In_v _ _ _) ?_) | (refine IxW.at (by omega) hp' ?_; (conv => whnf)) | (refine br_ (fun hbr => ?_) (fun hbr => ?_))))
      all_goals first | (exfalso; omega) | ((refine RetOK.d rfl rfl ?_; conv => whnf); simp_all; done) | ((refine RetOK.d rfl rfl ?_; conv => whnf); rw [hk2, decide_eq_false (show ¬ p < x by omega)]; simp; done) | skip
      all_goals exact NextW.go (k + 1) covT_ ⟨by omega, by rw [hk2, decide_eq_true (show p < x by omega)]; simp_all⟩ (by omega)
  · rw [knG_end (by omega)] at hk2
    (repeat' (first | (refine stg_ ?_) | (refine cla_ (l13Points_v ms) ?_) | (refine br_ (fun hbr => ?_) (fun hbr => ?_))))
    all_goals ((refine RetOK.d rfl rfl ?_; conv => whnf); rw [hk2]; first | (simp_all; done) | (rw [decide_eq_true (show ks.length = ms.length by omega)]; simp_all; done) | (rw [decide_eq_false (show ¬ ks.length = ms.length by omega)]; simp_all; done))
theorem l30Delta_v (d : TGlyphDelta) : PC Tryz.prog 66 [.pX d.D] (.d (.bool (gdB d))) [] := by
  refine pc_intro ttOk (by kernel_rfl) Tryz.func66 rfl (by kernel_rfl) (by kernel_rfl) (by kernel_rfl) (fun hw => ?_)
  have hG : gdB d = (inB d.fGlyph 0 39 && ((knG none d.fKnots && (decide (d.fKnots.length = d.fMoves.length) && d.fMoves.all pntB)) && inB d.fAdvance (-262144) 262144)) := by rw [gdB]; simp only [Bool.and_assoc]
  rw [hG]
  have c1 := l00In_v d.fGlyph 0 39
  have c2 := l30Knots_v d.fKnots d.fMoves
  have c3 := l00In_v d.fAdvance (-262144) 262144
  generalize inB d.fGlyph 0 39 = A at *
  generalize (knG none d.fKnots && (decide (d.fKnots.length = d.fMoves.length) && d.fMoves.all pntB)) = B at *
  generalize inB d.fAdvance (-262144) 262144 = C at *
  clear hG
  cases A <;> cases B <;> cases C <;> ((conv => whnf); (repeat' (first | (refine stg_ ?_) | (refine cla_ (c1) ?_) | (refine cla_ (c2) ?_) | (refine cla_ (c3) ?_) | (refine RegD.auto (by kernel_rfl) ?_; conv => whnf) | (refine br_ (fun hbr => ?_) (fun hbr => ?_)))); all_goals ((refine RetOK.d rfl rfl ?_; conv => whnf); rfl))
theorem wfN_v (p : TPeak) : PC Tryz.prog 75 [.d p.D] (.d (.bool (!pkB p))) [] := by
  refine pc_intro ttOk (by kernel_rfl) Tryz.func75 rfl (by kernel_rfl) (by kernel_rfl) (by kernel_rfl) (fun hw => ?_)
  (conv => whnf)
  (repeat' (first | (refine stg_ ?_) | (refine cla_ (ValidPeak_v p) ?_) | (refine br_ (fun hbr => ?_) (fun hbr => ?_))))
  all_goals ((refine RetOK.d rfl rfl ?_; conv => whnf); try rfl)
set_option maxHeartbeats 4000000 in
theorem wellFormed_v (v : TVariation) : PC Tryz.prog 28 [.d v.D] (.d (.bool (wfB v))) [] := by
  refine pc_intro ttOk (by kernel_rfl) Tryz.func28 rfl (by kernel_rfl) (by kernel_rfl) (by kernel_rfl) (fun hw => ?_)
  have hL : (v.fMasters.map TMaster.D).length = v.fMasters.length := List.length_map _
  have hLa : (v.fAxes.map TAxis.D).length = v.fAxes.length := List.length_map _
  have hm : (v.fMasters.map TMaster.D).length ≤ 9223372036854775807 := hw.1.2.1.1
  have c0 := ValidAxes_v v.fAxes
  have hG : wfB v = (axsB v.fAxes && (decide (v.fMasters.length ≤ 8) && v.fMasters.all (maB v.fAxes.length))) := rfl
  cases hB : axsB v.fAxes <;> rw [hB] at c0 hG
  · (conv => whnf)
    (repeat' (first | (refine stg_ ?_) | (refine cla_ (c0) ?_) | (refine br_ (fun hbr => ?_) (fun hbr => ?_))))
    all_goals ((refine RetOK.d rfl rfl ?_; conv => whnf); rw [hG]; rfl)
  by_cases h8 : v.fMasters.length ≤ 8
  rotate_left
  · rw [decide_eq_false h8] at hG
    (conv => whnf)
    (repeat' (first | (refine stg_ ?_) | (refine cla_ (c0) ?_) | (refine br_ (fun hbr => ?_) (fun hbr => ?_))))
    all_goals first | (exfalso; omega) | ((refine RetOK.d rfl rfl ?_; conv => whnf); rw [hG]; rfl)
  rw [decide_eq_true h8, Bool.true_and, Bool.true_and] at hG
  (conv => whnf)
  (repeat' (first | (refine stg_ ?_) | (refine cla_ (c0) ?_) | (refine br_ (fun hbr => ?_) (fun hbr => ?_))))
  all_goals first | (exfalso; omega) | skip
  refine LoopW.go (α := Nat) (fun k => [(1, .pB 1 [] 0), (18, .d (.lst (v.fMasters.map TMaster.D))), (19, .d (.int .i64 (v.fMasters.map TMaster.D).length)), (20, .d (.int .i64 k))]) (fun k => [.gone, .box (.d v.D)]) (fun k => k ≤ v.fMasters.length ∧ wfB v = (v.fMasters.drop k).all (maB v.fAxes.length)) (fun k => v.fMasters.length - k) 0 covT_ ?_ (fun k hk => ?_)
  · exact ⟨by omega, hG⟩
  obtain ⟨hk1, hk2⟩ := hk
  (conv => whnf)
  (refine br_ (fun h2 => ?_) (fun h2 => ?_) <;> (repeat (refine stg_ ?_)))
  · obtain ⟨m, hx⟩ := at_lt' (xs := v.fMasters) (k := k) (by omega)
    rw [drop_at hx, List.all_cons] at hk2
    have hP : m.fPeaks.all pkB = !m.fPeaks.any (fun p => !pkB p) := by rw [List.all_eq_not_any_not]
    have hLp : (m.fPeaks.map TPeak.D).length = m.fPeaks.length := List.length_map _
    have hLd : (m.fDeltas.map TGlyphDelta.D).length = m.fDeltas.length := List.length_map _
    have hany : m.fPeaks.any (fun p => !pkB p) = !(m.fPeaks.all pkB) := by rw [List.all_eq_not_any_not, Bool.not_not]
    have c := ctPeak_v m.fPeaks _ (fun p => !pkB p) wfN_v
    rw [hany] at c
    have hM : maB v.fAxes.length m = (decide (m.fPeaks.length = v.fAxes.length) && (decide (m.fDeltas.length ≤ 20) && (m.fPeaks.all pkB && dsG none m.fDeltas))) := rfl
    rw [hM] at hk2
    cases hpk : m.fPeaks.all pkB <;> rw [hpk] at c hk2
    · (repeat' (first | (refine stg_ ?_) | (refine cla_ (c) ?_) | (refine br_ (fun hbr => ?_) (fun hbr => ?_))))
      all_goals ((refine RetOK.d rfl rfl ?_; conv => whnf); rw [hk2]; simp)
    by_cases hq : m.fPeaks.length = v.fAxes.length ∧ m.fDeltas.length ≤ 20
    rotate_left
    · have hz : (decide (m.fPeaks.length = v.fAxes.length) && decide (m.fDeltas.length ≤ 20)) = false := by
        rw [Bool.and_eq_false_iff, decide_eq_false_iff_not, decide_eq_false_iff_not]; omega
      rw [← Bool.and_assoc, hz] at hk2
      (repeat' (first | (refine stg_ ?_) | (refine cla_ (c) ?_) | (refine br_ (fun hbr => ?_) (fun hbr => ?_))))
      all_goals first | (exfalso; omega) | ((refine RetOK.d rfl rfl ?_; conv => whnf); rw [hk2]; simp)
    rw [decide_eq_true hq.1, decide_eq_true hq.2, Bool.true_and, Bool.true_and, Bool.true_and] at hk2
    (repeat' (first | (refine stg_ ?_) | (refine cla_ (c) ?_) | (refine br_ (fun hbr => ?_) (fun hbr => ?_))))
    all_goals first | (exfalso; omega) | skip
    refine LoopW.go (α := Nat) (fun j => [(1, .pB 1 [] 0), (4, .pB 2 [] 0), (18, .d (.lst (v.fMasters.map TMaster.D))), (19, .d (.int .i64 (v.fMasters.map TMaster.D).length)), (20, .d (.int .i64 k)), (43, .d (.lst (m.fDeltas.map TGlyphDelta.D))), (44, .d (.int .i64 (m.fDeltas.map TGlyphDelta.D).length)), (45, .d (.int .i64 j))]) (fun j => [.gone, .box (.d v.D), .box (.d m.D)]) (fun j => j ≤ m.fDeltas.length ∧ dsG none m.fDeltas = dsG (pv m.fDeltas j) (m.fDeltas.drop j)) (fun j => m.fDeltas.length - j) 0 covT_ ⟨by omega, rfl⟩ (fun j hj => ?_)
    obtain ⟨hj1, hj2⟩ := hj
    (conv => whnf)
    (refine br_ (fun h3 => ?_) (fun h3 => ?_) <;> (repeat (refine stg_ ?_)))
    · obtain ⟨d, hd⟩ := at_lt' (xs := m.fDeltas) (k := j) (by omega)
      rw [dsG_at hd] at hj2
      rcases Nat.eq_zero_or_pos j with rfl | h0
      · rw [pv_zero, ltG, Bool.true_and] at hj2
        (repeat' (first | (refine stg_ ?_) | (refine cla_ (validDelta_v d) ?_) | (refine br_ (fun hbr => ?_) (fun hbr => ?_))))
        all_goals first | (exfalso; omega) | ((refine RetOK.d rfl rfl ?_; conv => whnf); simp_all; done) | skip
        all_goals exact NextW.go (0 + 1) covT_ ⟨by omega, by simp_all⟩ (by omega)
      · obtain ⟨p, hp⟩ := at_lt' (xs := m.fDeltas) (k := j - 1) (by omega)
        have hp' : (m.fDeltas.map TGlyphDelta.D)[((j : Int) - 1).toNat]? = some p.D := by
          have : ((j : Int) - 1).toNat = j - 1 := by omega
          rw [this, List.getElem?_map, hp]; rfl
        rw [pv_pos _ h0, hp, ltG] at hj2
        (repeat' (first | (refine stg_ ?_) | (refine cla_ (validDelta_v d) ?_) | (refine IxW.at (by omega) hp' ?_; (conv => whnf)) | (refine br_ (fun hbr => ?_) (fun hbr => ?_))))
        all_goals first | (exfalso; omega) | ((refine RetOK.d rfl rfl ?_; conv => whnf); simp_all; done) | ((refine RetOK.d rfl rfl ?_; conv => whnf); rw [hk2, hj2, decide_eq_false (show ¬ p.fGlyph < d.fGlyph by omega)]; simp; done) | skip
        all_goals exact NextW.go (j + 1) covT_ ⟨by omega, by rw [hj2, decide_eq_true (show p.fGlyph < d.fGlyph by omega)]; simp_all⟩ (by omega)
    · rw [dsG_end (by omega)] at hj2
      rw [hj2, Bool.true_and] at hk2
      (repeat (refine stg_ ?_))
      exact NextW.go (k + 1) covT_ ⟨by omega, hk2⟩ (by omega)
  · (refine RetOK.d rfl rfl ?_; conv => whnf)
    rw [hk2, List.drop_eq_nil_of_le (by omega)]; rfl
set_option maxHeartbeats 4000000 in
theorem l30Formed_v (v : TVariation) : PC Tryz.prog 24 [.pX v.D] (.d (.bool (wfB v))) [] := by
  refine pc_intro ttOk (by kernel_rfl) Tryz.func24 rfl (by kernel_rfl) (by kernel_rfl) (by kernel_rfl) (fun hw => ?_)
  have hL : (v.fMasters.map TMaster.D).length = v.fMasters.length := List.length_map _
  have hLa : (v.fAxes.map TAxis.D).length = v.fAxes.length := List.length_map _
  have hm : (v.fMasters.map TMaster.D).length ≤ 9223372036854775807 := hw.1.2.1.1
  have c0 := l29Ok_v v.fAxes
  have hG : wfB v = (axsB v.fAxes && (decide (v.fMasters.length ≤ 8) && v.fMasters.all (maB v.fAxes.length))) := rfl
  cases hB : axsB v.fAxes <;> rw [hB] at c0 hG
  · (conv => whnf)
    (repeat' (first | (refine stg_ ?_) | (refine cla_ (c0) ?_) | (refine br_ (fun hbr => ?_) (fun hbr => ?_))))
    all_goals ((refine RetOK.d rfl rfl ?_; conv => whnf); rw [hG]; rfl)
  have hx3 : v.fAxes.length ≤ 3 := by
    simp only [axsB, Bool.and_eq_true, decide_eq_true_eq] at hB
    exact hB.1
  by_cases h8 : v.fMasters.length ≤ 8
  rotate_left
  · rw [decide_eq_false h8] at hG
    (conv => whnf)
    (repeat' (first | (refine stg_ ?_) | (refine cla_ (c0) ?_) | (refine br_ (fun hbr => ?_) (fun hbr => ?_))))
    all_goals first | (exfalso; omega) | ((refine RetOK.d rfl rfl ?_; conv => whnf); rw [hG]; rfl)
  rw [decide_eq_true h8, Bool.true_and, Bool.true_and] at hG
  (conv => whnf)
  (repeat' (first | (refine stg_ ?_) | (refine cla_ (c0) ?_) | (refine br_ (fun hbr => ?_) (fun hbr => ?_))))
  all_goals first | (exfalso; omega) | skip
  refine LoopW.go (α := Nat) (fun k => [(0, .pX v.D), (3, .d (.int .i64 k))]) (fun k => [.gone]) (fun k => k ≤ v.fMasters.length ∧ wfB v = (v.fMasters.drop k).all (maB v.fAxes.length)) (fun k => v.fMasters.length - k) 0 covT_ ?_ (fun k hk => ?_)
  · exact ⟨by omega, hG⟩
  obtain ⟨hk1, hk2⟩ := hk
  (conv => whnf)
  (refine br_ (fun h2 => ?_) (fun h2 => ?_) <;> (repeat (refine stg_ ?_)))
  · obtain ⟨m, hx⟩ := at_lt' (xs := v.fMasters) (k := k) (by omega)
    rw [drop_at hx, List.all_cons] at hk2
    have hLp : (m.fPeaks.map TPeak.D).length = m.fPeaks.length := List.length_map _
    have hLd : (m.fDeltas.map TGlyphDelta.D).length = m.fDeltas.length := List.length_map _
    have hPk : pksB m.fPeaks = (decide (m.fPeaks.length ≤ 3) && m.fPeaks.all pkB) := rfl
    have c := l30Peaks_v m.fPeaks
    rw [hPk] at c
    have hM : maB v.fAxes.length m = (decide (m.fPeaks.length = v.fAxes.length) && (decide (m.fDeltas.length ≤ 20) && (m.fPeaks.all pkB && dsG none m.fDeltas))) := rfl
    rw [hM] at hk2
    cases hpk : m.fPeaks.all pkB <;> rw [hpk] at c hk2
    · rw [Bool.and_false] at c
      (repeat' (first | (refine stg_ ?_) | (refine cla_ (c) ?_) | (refine br_ (fun hbr => ?_) (fun hbr => ?_))))
      all_goals ((refine RetOK.d rfl rfl ?_; conv => whnf); rw [hk2]; simp)
    rw [Bool.and_true] at c
    by_cases hq : m.fPeaks.length = v.fAxes.length ∧ m.fDeltas.length ≤ 20
    rotate_left
    · have hz : (decide (m.fPeaks.length = v.fAxes.length) && decide (m.fDeltas.length ≤ 20)) = false := by
        rw [Bool.and_eq_false_iff, decide_eq_false_iff_not, decide_eq_false_iff_not]; omega
      rw [← Bool.and_assoc, hz] at hk2
      (repeat' (first | (refine stg_ ?_) | (refine cla_ (c) ?_) | (refine br_ (fun hbr => ?_) (fun hbr => ?_))))
      all_goals first | (exfalso; omega) | ((refine RetOK.d rfl rfl ?_; conv => whnf); rw [hk2]; simp)
    rw [decide_eq_true hq.1, decide_eq_true hq.2, Bool.true_and, Bool.true_and, Bool.true_and] at hk2
    rw [decide_eq_true (show m.fPeaks.length ≤ 3 by omega)] at c
    (repeat' (first | (refine stg_ ?_) | (refine cla_ (c) ?_) | (refine br_ (fun hbr => ?_) (fun hbr => ?_))))
    all_goals first | (exfalso; omega) | skip
    refine LoopW.go (α := Nat) (fun j => [(0, .pX v.D), (3, .d (.int .i64 k)), (4, .pX m.D), (5, .d (.int .i64 j))]) (fun j => [.gone]) (fun j => j ≤ m.fDeltas.length ∧ dsG none m.fDeltas = dsG (pv m.fDeltas j) (m.fDeltas.drop j)) (fun j => m.fDeltas.length - j) 0 covT_ ⟨by omega, rfl⟩ (fun j hj => ?_)
    obtain ⟨hj1, hj2⟩ := hj
    (conv => whnf)
    (refine br_ (fun h3 => ?_) (fun h3 => ?_) <;> (repeat (refine stg_ ?_)))
    · obtain ⟨d, hd⟩ := at_lt' (xs := m.fDeltas) (k := j) (by omega)
      rw [dsG_at hd] at hj2
      rcases Nat.eq_zero_or_pos j with rfl | h0
      · rw [pv_zero, ltG, Bool.true_and] at hj2
        (repeat' (first | (refine stg_ ?_) | (refine cla_ (l30Delta_v d) ?_) | (refine br_ (fun hbr => ?_) (fun hbr => ?_))))
        all_goals first | (exfalso; omega) | ((refine RetOK.d rfl rfl ?_; conv => whnf); simp_all; done) | skip
        all_goals exact NextW.go (0 + 1) covT_ ⟨by omega, by simp_all⟩ (by omega)
      · obtain ⟨p, hp⟩ := at_lt' (xs := m.fDeltas) (k := j - 1) (by omega)
        have hp' : (m.fDeltas.map TGlyphDelta.D)[((j : Int) - 1).toNat]? = some p.D := by
          have : ((j : Int) - 1).toNat = j - 1 := by omega
          rw [this, List.getElem?_map, hp]; rfl
        rw [pv_pos _ h0, hp, ltG] at hj2
        (repeat' (first | (refine stg_ ?_) | (refine cla_ (l30Delta_v d) ?_) | (refine IxW.at (by omega) hp' ?_; (conv => whnf)) | (refine br_ (fun hbr => ?_) (fun hbr => ?_))))
        all_goals first | (exfalso; omega) | ((refine RetOK.d rfl rfl ?_; conv => whnf); simp_all; done) | ((refine RetOK.d rfl rfl ?_; conv => whnf); rw [hk2, hj2, decide_eq_false (show ¬ p.fGlyph < d.fGlyph by omega)]; simp; done) | skip
        all_goals exact NextW.go (j + 1) covT_ ⟨by omega, by rw [hj2, decide_eq_true (show p.fGlyph < d.fGlyph by omega)]; simp_all⟩ (by omega)
    · rw [dsG_end (by omega)] at hj2
      rw [hj2, Bool.true_and] at hk2
      (repeat (refine stg_ ?_))
      exact NextW.go (k + 1) covT_ ⟨by omega, hk2⟩ (by omega)
  · (refine RetOK.d rfl rfl ?_; conv => whnf)
    rw [hk2, List.drop_eq_nil_of_le (by omega)]; rfl
def ptT (p : TPt) : ByteArray := decB p.fX ++ ⟨#[44]⟩ ++ decB p.fY
theorem bs1 (c : UInt8) : ByteArray.size ⟨#[c]⟩ = 1 := rfl
theorem bs5 : ByteArray.size ⟨#[97, 120, 105, 115, 32]⟩ = 5 := rfl
theorem bs6 : ByteArray.size ⟨#[109, 97, 115, 116, 101, 114]⟩ = 6 := rfl
theorem bs6' : ByteArray.size ⟨#[100, 101, 108, 116, 97, 32]⟩ = 6 := rfl
theorem dcS (n : Int) : (decB n).size = (decS n).length := by rw [decB, mkS_size]
theorem ptT_size {p : TPt} (h : pntB p = true) : (ptT p).size ≤ 43 := by
  have a := pnt_in h
  have h2 := decS_l (n := p.fX) (by omega) (by omega)
  have h3 := decS_l (n := p.fY) (by omega) (by omega)
  rw [ptT, ByteArray.size_append, ByteArray.size_append, bs1, dcS, dcS]
  omega
theorem axT_bs (a : TAxis) : (⟨#[97, 120, 105, 115, 32]⟩ ++ textB a ++ ⟨#[10]⟩ : ByteArray).data.toList = axT a := by simp [axT]
theorem pkT_bs (p : TPeak) : (⟨#[32]⟩ ++ decB p.fStart ++ ⟨#[58]⟩ ++ decB p.fTop ++ ⟨#[58]⟩ ++ decB p.fEnd : ByteArray).data.toList = pkT p := by
  simp [pkT, decB, mkS]
theorem knT_bs (k : Int) (p : TPt) : (⟨#[32]⟩ ++ decB k ++ ⟨#[58]⟩ ++ ptT p : ByteArray).data.toList = knT k p := by
  simp [knT, ptT, decB, mkS]
theorem dhT_bs (d : TGlyphDelta) : (⟨#[100, 101, 108, 116, 97, 32]⟩ ++ decB d.fGlyph ++ ⟨#[32]⟩ ++ decB d.fAdvance : ByteArray).data.toList = [100, 101, 108, 116, 97, 32] ++ decS d.fGlyph ++ [32] ++ decS d.fAdvance := by
  simp [decB, mkS]
def vtS (v : TVariation) : ByteArray := if wfB v = true then mkS (vrT v) else .empty
theorem PtText_v (p : TPt) (h : pntB p = true) : PC Tryz.prog 42 [.d p.D] (.d (.str (ptT p))) [] := by
  refine pc_intro ttOk (by kernel_rfl) Tryz.func42 rfl (by kernel_rfl) (by kernel_rfl) (by kernel_rfl) (fun hw => ?_)
  have a := pnt_in h
  have h2 := decS_l (n := p.fX) (by omega) (by omega)
  have h3 := decS_l (n := p.fY) (by omega) (by omega)
  have c := ValidPt_v p
  rw [h] at c
  (conv => whnf)
  (repeat' (first | (refine stg_ ?_) | (refine cla_ (c) ?_) | (refine cla_ (Decimal_v _) ?_) | (refine CatW.at (by show _ ≤ 9223372036854775807; simp only [ByteArray.size_append, dcS, bs1]; omega) ?_; conv => whnf) | (refine br_ (fun hbr => ?_) (fun hbr => ?_))))
  (refine RetOK.d rfl rfl ?_; conv => whnf)
  rfl
theorem l03Text_v (p : TPt) (h : pntB p = true) : PC Tryz.prog 69 [.d p.D] (.d (.str (ptT p))) [] := by
  refine pc_intro ttOk (by kernel_rfl) Tryz.func69 rfl (by kernel_rfl) (by kernel_rfl) (by kernel_rfl) (fun hw => ?_)
  have a := pnt_in h
  have h2 := decS_l (n := p.fX) (by omega) (by omega)
  have h3 := decS_l (n := p.fY) (by omega) (by omega)
  (conv => whnf)
  (repeat' (first | (refine stg_ ?_) | (refine cla_ (l01Dec_v _) ?_) | (refine CatW.at (by show _ ≤ 9223372036854775807; simp only [ByteArray.size_append, dcS, bs1]; omega) ?_; conv => whnf) | (refine br_ (fun hbr => ?_) (fun hbr => ?_))))
  (refine RetOK.d rfl rfl ?_; conv => whnf)
  rfl
set_option maxHeartbeats 8000000 in
theorem VariationText_v (v : TVariation) : PC Tryz.prog 12 [.d v.D] (.d (.str (vtS v))) [] := by
  refine pc_intro ttOk (by kernel_rfl) Tryz.func12 rfl (by kernel_rfl) (by kernel_rfl) (by kernel_rfl) (fun hw => ?_)
  have hL : (v.fMasters.map TMaster.D).length = v.fMasters.length := List.length_map _
  have hLa : (v.fAxes.map TAxis.D).length = v.fAxes.length := List.length_map _
  have hT : vtS v = if wfB v = true then mkS (vrT v) else .empty := rfl
  have c0 := wellFormed_v v
  cases hB : wfB v <;> rw [hB] at c0 hT
  · rw [hT]
    (conv => whnf)
    (repeat' (first | (refine stg_ ?_) | (refine cla_ (c0) ?_) | (refine br_ (fun hbr => ?_) (fun hbr => ?_))))
    all_goals ((refine RetOK.d rfl rfl ?_; conv => whnf); rfl)
  rw [if_pos rfl] at hT
  rw [hT]
  obtain ⟨w1, w2, w3, w4⟩ := wf_in hB
  have hax : ∀ x ∈ v.fAxes, (axT x).length ≤ 1006 := fun x hx => by
    obtain ⟨k, hk⟩ := List.getElem?_of_mem hx
    exact axT_len (axs_at w1 hk)
  have hma : ∀ m ∈ v.fMasters, (maT m).length ≤ 1000300 := fun m hm => maT_len w2 (w4 m hm)
  (conv => whnf)
  (repeat' (first | (refine stg_ ?_) | (refine cla_ (c0) ?_) | (refine br_ (fun hbr => ?_) (fun hbr => ?_))))
  refine LoopW.go (α := Nat) (fun k => [(1, .pB 1 [] 0), (3, .pB 2 [] 0), (18, .d (.lst (v.fAxes.map TAxis.D))), (19, .d (.int .i64 (v.fAxes.map TAxis.D).length)), (20, .d (.int .i64 k))]) (fun k => [.gone, .box (.d v.D), .bld 106 5 ((v.fAxes.take k).flatMap axT)]) (fun k => k ≤ v.fAxes.length) (fun k => v.fAxes.length - k) 0 covT_ (by omega) (fun k hk => ?_)
  have hl1 := fm_take hax k
  (conv => whnf)
  (refine br_ (fun h1 => ?_) (fun h1 => ?_))
  · obtain ⟨a, ha⟩ := at_lt' (xs := v.fAxes) (k := k) (by omega)
    have hA := axs_at w1 ha
    have hts := textB_size hA
    have c1 := AxisText_v a
    rw [hA, if_pos rfl] at c1
    have c2 := ws_b ((v.fAxes.take k).flatMap axT) (⟨#[97, 120, 105, 115, 32]⟩ ++ textB a ++ ⟨#[10]⟩) (by simp only [ByteArray.size_append, bs1, bs5]; omega)
    rw [axT_bs] at c2
    (repeat' (first | (refine stg_ ?_) | (refine cla_ (c1) ?_) | (refine clb_ (c2) ?_) | (refine CatW.at (by show _ ≤ 9223372036854775807; simp only [ByteArray.size_append, bs1, bs5]; omega) ?_; conv => whnf) | (refine br_ (fun hbr => ?_) (fun hbr => ?_))))
    refine NextW.go (k + 1) (Weak.cov ⟨rfl, rfl, rfl, rfl, rfl, trivial⟩ ⟨trivial, rfl, ?_, trivial⟩ rfl) (by omega) (by omega)
    rw [fm_at axT ha]
  · obtain rfl : k = v.fAxes.length := by omega
    rw [List.take_length] at *
    (repeat (refine stg_ ?_))
    refine LoopW.go (α := Nat) (fun i => [(3, .pB 2 [] 0), (31, .d (.lst (v.fMasters.map TMaster.D))), (32, .d (.int .i64 (v.fMasters.map TMaster.D).length)), (33, .d (.int .i64 i))]) (fun i => [.gone, .gone, .bld 106 5 (v.fAxes.flatMap axT ++ (v.fMasters.take i).flatMap maT)]) (fun i => i ≤ v.fMasters.length) (fun i => v.fMasters.length - i) 0 (Weak.cov ⟨rfl, rfl, rfl, rfl, trivial⟩ ⟨trivial, trivial, by simp, trivial⟩ rfl) (by omega) (fun i hi => ?_)
    have hl2 := fm_take hma i
    generalize hB1 : v.fAxes.flatMap axT ++ (v.fMasters.take i).flatMap maT = B1 at *
    have hBl : B1.length ≤ 20000000 := by rw [← hB1, List.length_append]; omega
    (conv => whnf)
    (refine br_ (fun h2 => ?_) (fun h2 => ?_))
    · obtain ⟨m, hm⟩ := at_lt' (xs := v.fMasters) (k := i) (by omega)
      obtain ⟨m1, m2, m3, m4⟩ := w4 m (List.mem_of_getElem? hm)
      have hem : (v.fMasters.map TMaster.D)[i]? = some m.D := by rw [List.getElem?_map, hm]; rfl
      have hLp : (m.fPeaks.map TPeak.D).length = m.fPeaks.length := List.length_map _
      have hLd : (m.fDeltas.map TGlyphDelta.D).length = m.fDeltas.length := List.length_map _
      have c3 := ws_b B1 ⟨#[109, 97, 115, 116, 101, 114]⟩ (by rw [bs6]; omega)
      have hpl : ∀ p ∈ m.fPeaks, (pkT p).length ≤ 66 := fun p hp => pkT_len (m3 p hp)
      have hdl : ∀ d ∈ m.fDeltas, (dlT d).length ≤ 50000 := fun d hd => dlT_len (m4 d hd)
      (repeat' (first | (refine stg_ ?_) | (refine clb_ (c3) ?_) | (refine br_ (fun hbr => ?_) (fun hbr => ?_))))
      refine LoopW.go (α := Nat) (fun k => [(3, .pB 2 [] 0), (7, .pB 3 [] 0), (31, .d (.lst (v.fMasters.map TMaster.D))), (32, .d (.int .i64 (v.fMasters.map TMaster.D).length)), (33, .d (.int .i64 i)), (39, .d (.lst (m.fPeaks.map TPeak.D))), (40, .d (.int .i64 (m.fPeaks.map TPeak.D).length)), (41, .d (.int .i64 k))]) (fun k => [.gone, .gone, .bld 106 5 (B1 ++ mrT ++ (m.fPeaks.take k).flatMap pkT), .box (.d m.D)]) (fun k => k ≤ m.fPeaks.length) (fun k => m.fPeaks.length - k) 0 (Weak.cov ⟨rfl, rfl, rfl, rfl, rfl, rfl, rfl, rfl, trivial⟩ ⟨trivial, trivial, by simp [mrT], rfl, trivial⟩ rfl) (by omega) (fun k hk2 => ?_)
      have hl3 := fm_take hpl k
      have hmr : mrT.length = 6 := rfl
      generalize hB2 : B1 ++ mrT ++ (m.fPeaks.take k).flatMap pkT = B2 at *
      have hBl2 : B2.length ≤ 20001000 := by rw [← hB2, List.length_append, List.length_append]; omega
      (conv => whnf)
      (refine br_ (fun h3 => ?_) (fun h3 => ?_))
      · obtain ⟨p, hp⟩ := at_lt' (xs := m.fPeaks) (k := k) (by omega)
        have hep : (m.fPeaks.map TPeak.D)[k]? = some p.D := by rw [List.getElem?_map, hp]; rfl
        obtain ⟨p1, p2, p3⟩ := pk_l (m3 p (List.mem_of_getElem? hp))
        have c4 := ws_b B2 (⟨#[32]⟩ ++ decB p.fStart ++ ⟨#[58]⟩ ++ decB p.fTop ++ ⟨#[58]⟩ ++ decB p.fEnd) (by simp only [ByteArray.size_append, bs1, dcS]; omega)
        rw [pkT_bs] at c4
        (repeat' (first | (refine stg_ ?_) | (refine cla_ (Decimal_v _) ?_) | (refine clb_ (c4) ?_) | (refine CatW.at (by show _ ≤ 9223372036854775807; simp only [ByteArray.size_append, bs1, dcS]; omega) ?_; conv => whnf) | (refine br_ (fun hbr => ?_) (fun hbr => ?_))))
        refine NextW.go (k + 1) (Weak.cov ⟨rfl, rfl, rfl, rfl, rfl, rfl, rfl, rfl, trivial⟩ ⟨trivial, trivial, ?_, rfl, trivial⟩ rfl) (by omega) (by omega)
        rw [fm_at pkT hp, ← List.append_assoc, hB2]
      · obtain rfl : k = m.fPeaks.length := by omega
        rw [List.take_length] at *
        have c5 := ws_b B2 ⟨#[10]⟩ (by rw [bs1]; omega)
        (repeat' (first | (refine stg_ ?_) | (refine clb_ (c5) ?_) | (refine br_ (fun hbr => ?_) (fun hbr => ?_))))
        generalize hB3 : B2 ++ [10] = B3 at *
        have hBl3 : B3.length ≤ 20001001 := by rw [← hB3, List.length_append]; show B2.length + 1 ≤ _; omega
        refine LoopW.go (α := Nat) (fun j => [(3, .pB 2 [] 0), (31, .d (.lst (v.fMasters.map TMaster.D))), (32, .d (.int .i64 (v.fMasters.map TMaster.D).length)), (33, .d (.int .i64 i)), (63, .d (.lst (m.fDeltas.map TGlyphDelta.D))), (64, .d (.int .i64 (m.fDeltas.map TGlyphDelta.D).length)), (65, .d (.int .i64 j))]) (fun j => [.gone, .gone, .bld 106 5 (B3 ++ (m.fDeltas.take j).flatMap dlT)]) (fun j => j ≤ m.fDeltas.length) (fun j => m.fDeltas.length - j) 0 (Weak.cov ⟨rfl, rfl, rfl, rfl, rfl, rfl, rfl, trivial⟩ ⟨trivial, trivial, by rw [List.take_zero, List.flatMap_nil, List.append_nil, ← hB3], trivial⟩ rfl) (by omega) (fun j hj => ?_)
        have hl4 := fm_take hdl j
        generalize hB4 : B3 ++ (m.fDeltas.take j).flatMap dlT = B4 at *
        have hBl4 : B4.length ≤ 21001001 := by rw [← hB4, List.length_append]; omega
        (conv => whnf)
        (refine br_ (fun h4 => ?_) (fun h4 => ?_))
        · obtain ⟨d, hd⟩ := at_lt' (xs := m.fDeltas) (k := j) (by omega)
          have hed : (m.fDeltas.map TGlyphDelta.D)[j]? = some d.D := by rw [List.getElem?_map, hd]; rfl
          obtain ⟨g1, g2, g3, g4, g5, g6⟩ := gd_in (m4 d (List.mem_of_getElem? hd))
          have b1 := decS_l (n := d.fGlyph) (by omega) (by omega)
          have b2 := decS_l (n := d.fAdvance) (by omega) (by omega)
          have hLk : (d.fKnots.map (D.int .i64)).length = d.fKnots.length := List.length_map _
          have hLm : (d.fMoves.map TPt.D).length = d.fMoves.length := List.length_map _
          have c6 := ws_b B4 (⟨#[100, 101, 108, 116, 97, 32]⟩ ++ decB d.fGlyph ++ ⟨#[32]⟩ ++ decB d.fAdvance) (by simp only [ByteArray.size_append, bs1, bs6', dcS]; omega)
          rw [dhT_bs] at c6
          (repeat' (first | (refine stg_ ?_) | (refine cla_ (Decimal_v _) ?_) | (refine clb_ (c6) ?_) | (refine CatW.at (by show _ ≤ 9223372036854775807; simp only [ByteArray.size_append, bs1, bs6', dcS]; omega) ?_; conv => whnf) | (refine br_ (fun hbr => ?_) (fun hbr => ?_))))
          generalize hB5 : B4 ++ ([100, 101, 108, 116, 97, 32] ++ decS d.fGlyph ++ [32] ++ decS d.fAdvance) = B5 at *
          have hBl5 : B5.length ≤ 21001050 := by rw [← hB5]; simp only [List.length_append, List.length_cons, List.length_nil]; omega
          refine LoopW.go (α := Nat) (fun q => [(3, .pB 2 [] 0), (11, .pB 3 [] 0), (31, .d (.lst (v.fMasters.map TMaster.D))), (32, .d (.int .i64 (v.fMasters.map TMaster.D).length)), (33, .d (.int .i64 i)), (63, .d (.lst (m.fDeltas.map TGlyphDelta.D))), (64, .d (.int .i64 (m.fDeltas.map TGlyphDelta.D).length)), (65, .d (.int .i64 j)), (80, .d (.lst (d.fKnots.map (D.int .i64)))), (81, .d (.int .i64 (d.fKnots.map (D.int .i64)).length)), (82, .d (.int .i64 q))]) (fun q => [.gone, .gone, .bld 106 5 (B5 ++ knsT (d.fKnots.take q) (d.fMoves.take q)), .box (.d d.D)]) (fun q => q ≤ d.fKnots.length) (fun q => d.fKnots.length - q) 0 (Weak.cov ⟨rfl, rfl, rfl, rfl, rfl, rfl, rfl, rfl, rfl, rfl, rfl, trivial⟩ ⟨trivial, trivial, by simp [knsT], rfl, trivial⟩ rfl) (by omega) (fun q hq => ?_)
          have hl5 := knsT_len (ks := d.fKnots.take q) (ps := d.fMoves.take q) (mem_take' g3 q) (mem_take' g4 q)
          have hl6 : (d.fKnots.take q).length ≤ d.fKnots.length := by simp; omega
          generalize hB6 : B5 ++ knsT (d.fKnots.take q) (d.fMoves.take q) = B6 at *
          have hBl6 : B6.length ≤ 21101050 := by rw [← hB6, List.length_append]; omega
          (conv => whnf)
          (refine br_ (fun h5 => ?_) (fun h5 => ?_))
          · obtain ⟨k, hk'⟩ := at_lt' (xs := d.fKnots) (k := q) (by omega)
            obtain ⟨p, hp⟩ := at_lt' (xs := d.fMoves) (k := q) (by omega)
            have hek : (d.fKnots.map (D.int .i64))[q]? = some (.int .i64 k) := by rw [List.getElem?_map, hk']; rfl
            have hep : (d.fMoves.map TPt.D)[q]? = some p.D := by rw [List.getElem?_map, hp]; rfl
            have hkb := g3 k (List.mem_of_getElem? hk')
            have hpb := g4 p (List.mem_of_getElem? hp)
            have b3 := decS_l (n := k) (by omega) (by omega)
            have b4 := ptT_size hpb
            have c7 := PtText_v p hpb
            have c8 := ws_b B6 (⟨#[32]⟩ ++ decB k ++ ⟨#[58]⟩ ++ ptT p) (by simp only [ByteArray.size_append, bs1, dcS]; omega)
            rw [knT_bs] at c8
            (repeat' (first | (refine stg_ ?_) | (refine cla_ (Decimal_v _) ?_) | (refine cla_ (c7) ?_) | (refine clb_ (c8) ?_) | (refine CatW.at (by show _ ≤ 9223372036854775807; simp only [ByteArray.size_append, bs1, dcS]; omega) ?_; conv => whnf) | (refine br_ (fun hbr => ?_) (fun hbr => ?_))))
            refine NextW.go (q + 1) (Weak.cov ⟨rfl, rfl, rfl, rfl, rfl, rfl, rfl, rfl, rfl, rfl, rfl, trivial⟩ ⟨trivial, trivial, ?_, rfl, trivial⟩ rfl) (by omega) (by omega)
            rw [knsT_at hk' hp, ← List.append_assoc, hB6]
          · obtain rfl : q = d.fKnots.length := by omega
            rw [List.take_length, List.take_of_length_le (show d.fMoves.length ≤ d.fKnots.length by omega)] at hB6
            have c9 := ws_b B6 ⟨#[10]⟩ (by rw [bs1]; omega)
            (repeat' (first | (refine stg_ ?_) | (refine clb_ (c9) ?_) | (refine br_ (fun hbr => ?_) (fun hbr => ?_))))
            refine NextW.go (j + 1) (Weak.cov ⟨rfl, rfl, rfl, rfl, rfl, rfl, rfl, trivial⟩ ⟨trivial, trivial, ?_, trivial⟩ rfl) (by omega) (by omega)
            rw [fm_at dlT hd, ← List.append_assoc, hB4, ← hB6, ← hB5, dlT]
            simp only [List.append_assoc]
        · obtain rfl : j = m.fDeltas.length := by omega
          rw [List.take_length] at hB4
          (repeat (refine stg_ ?_))
          refine NextW.go (i + 1) (Weak.cov ⟨rfl, rfl, rfl, rfl, trivial⟩ ⟨trivial, trivial, ?_, trivial⟩ rfl) (by omega) (by omega)
          rw [fm_at maT hm, ← List.append_assoc, hB1, ← hB4, ← hB3, ← hB2, maT]
          simp only [List.append_assoc]
    · obtain rfl : i = v.fMasters.length := by omega
      rw [List.take_length] at *
      (refine clb_ (str_b _) ?_)
      (repeat (refine stg_ ?_))
      (refine RetOK.d rfl rfl ?_; conv => whnf)
      rw [← hB1]; rfl
def RvK (s : ByteArray) (ls : List ByteArray) (k : Nat) (v : TVariation) (w : ByteArray) : V → Env → List Blk → Prop := fun u e h =>
  (u = .d (.bool true) ∧ ∃ v', stp v w = some v' ∧ Weak e h [(0, .d (.str s)), (2, .pB 1 [] 0), (6, .pB 3 [] 0), (17, .own 2 0 ls.length), (18, .d (.int .i64 ls.length)), (19, .d (.int .i64 ((k : Nat) : Int)))] [.gone, .box (.st [.nils, .nils]), .arr 1 (ls.map D.str) true, .box (.st [.own 4 0 (v').fAxes.length, .own 5 0 (v').fMasters.length]), .arr 5 ((v').fAxes.map TAxis.D) true, .arr 2 ((v').fMasters.map mR) true]) ∨ (u = .d (.bool false) ∧ stp v w = none ∧ Weak e h [(2, .pB 1 [] 0)] [.gone, .box (.st [.nils, .nils])])
def trL8 : OT := .q 0 (.q 1 (.q 2 (.q 3 (.q 4 (.q 5 (.alt 6 (.alt 7 (.q 8 (.q 9 (.alt 10 .done .nil))) .nil) .nil))))))
set_option maxRecDepth 100000 in
set_option maxHeartbeats 8000000 in
theorem rvl_ax (s : ByteArray) (ls : List ByteArray) (k : Nat) (v : TVariation) (w kd rest : ByteArray) (more : Bool) {e : Env} (he : cov e [(0, .d (.str s)), (2, .pB 1 [] 0), (6, .pB 3 [] 0), (17, .own 2 0 ls.length), (18, .d (.int .i64 ls.length)), (19, .d (.int .i64 ((k : Nat) : Int)))]) (hw1 : w.size ≤ 1048576) (hr1 : rest.size ≤ 1048576) (hn1 : v.fAxes.length ≤ 1048577)
    (hc : PC Tryz.prog 71 [.d (.str w), .d (.str ⟨#[32]⟩)] (.tup [.d (.str kd), .d (.str rest), .d (.bool more)]) []) (hk : kd.toList = (⟨#[97, 120, 105, 115]⟩ : ByteArray).toList)
    (hstp : stp v w = match raA rest with | some a => some ⟨v.fAxes ++ [a], v.fMasters⟩ | none => none) :
    CallM Tryz.prog 27 [.pB 3 [] 0, .d (.str w)] e [.gone, .box (.st [.nils, .nils]), .arr 1 (ls.map D.str) true, .box (.st [.own 4 0 (v).fAxes.length, .own 5 0 (v).fMasters.length]), .arr 5 ((v).fAxes.map TAxis.D) true, .arr 2 ((v).fMasters.map mR) true] (RvK s ls k v w) := by
  (refine CallM.inl ttOk (by kernel_rfl) Tryz.func27 rfl (by kernel_rfl) (by kernel_rfl) (by rfl) [(0, .d (.str s)), (2, .pB 1 [] 0), (6, .pB 3 [] 0), (17, .own 2 0 ls.length), (18, .d (.int .i64 ls.length)), (19, .d (.int .i64 ((k : Nat) : Int)))] (cov_get _ he) (fun s0 => ?_); (conv => whnf))
  have c1 := Split_v rest ⟨#[32]⟩ 32 rfl hr1 rfl (by rw [← bTl, ← bTl]; rfl)
  have hd : (v.fAxes.map TAxis.D).length = v.fAxes.length := List.length_map _
  rcases hra : raA rest with _ | a
  · rw [hra] at hstp
    have c2 := ReadAxis_v rest hr1 (.tup [.st [.d (.str .empty), .d (.int .i64 0), .d (.int .i64 0), .d (.int .i64 0), .nils], .d (.bool false)]) [] ⟨(fun a h => by rw [hra] at h; cases h), fun _ => ⟨rfl, rfl⟩⟩
    have hls : (v.fAxes ++ [(⟨.empty, 0, 0, 0, []⟩ : TAxis)]).length = v.fAxes.length + 1 := by simp
    have hap : (v.fAxes.map TAxis.D).take v.fAxes.length ++ [TAxis.D ⟨.empty, 0, 0, 0, []⟩] = (v.fAxes ++ [(⟨.empty, 0, 0, 0, []⟩ : TAxis)]).map TAxis.D := by
      rw [List.take_of_length_le (by omega), List.map_append]; rfl
    cases more
    all_goals
      repeat' (first | ((fail_if_success (with_reducible apply RegD.id)); (refine stg_ ?_)) | (refine cla_ (hc) ?_) | (refine cla_ (c1) ?_) | (refine cla_ (c2) ?_) | (refine br_ (fun hbr => ?_) (fun hbr => ?_); rotate_left; (focus (exfalso; exact hbr hk))))
      refine RegD.cutT [(10, .d (.bool false))] [.gone, .box (.st [.nils, .nils]), .arr 1 (ls.map D.str) true, .box (.st [.own 4 0 (v.fAxes ++ [(⟨.empty, 0, 0, 0, []⟩ : TAxis)]).length, .own 5 0 v.fMasters.length]), .arr 5 ((v.fAxes ++ [(⟨.empty, 0, 0, 0, []⟩ : TAxis)]).map TAxis.D) true, .arr 2 (v.fMasters.map mR) true, .keep [(0, .d (.str s)), (2, .pB 1 [] 0), (6, .pB 3 [] 0), (17, .own 2 0 ls.length), (18, .d (.int .i64 ls.length)), (19, .d (.int .i64 ((k : Nat) : Int)))] s0] trL8 (by kernel_rfl) ?_ ?_
      · (conv => whnf)
        rw [hls, ← hap]
        repeat' (first | (refine stg_ ?_) | (refine And.intro ?_ ?_ <;> (conv => whnf)))
        all_goals (refine Weak.cov ?_ ?_ ?_; (focus (repeat' (first | exact trivial | with_reducible rfl | (refine ⟨?_, ?_⟩) | rfl))); (focus (repeat' (first | exact trivial | with_reducible rfl | (refine ⟨?_, ?_⟩) | rfl))); (focus rfl))
      (conv => whnf)
      (repeat (refine stg_ ?_))
      (refine And.intro rfl ?_; (conv => whnf))
      refine .inr ⟨rfl, hstp, ?_⟩
      (refine Weak.cov ?_ ?_ ?_; (focus (repeat' (first | exact trivial | with_reducible rfl | (refine ⟨?_, ?_⟩) | rfl))); (focus (repeat' (first | exact trivial | with_reducible rfl | (refine ⟨?_, ?_⟩) | rfl))); (focus rfl))
  · rw [hra] at hstp
    have c2 := ReadAxis_v rest hr1 (.tup [.st [.d (.str a.fName), .d (.int .i64 a.fMin), .d (.int .i64 a.fDefault), .d (.int .i64 a.fMax), .own 1 0 a.fMap.length], .d (.bool true)]) [.arr 2 (a.fMap.map TAxisPoint.D) true] ⟨(fun b h => by rw [hra] at h; cases h; exact ⟨rfl, rfl⟩), fun h => by rw [hra] at h; cases h⟩
    have hls : (v.fAxes ++ [a]).length = v.fAxes.length + 1 := by simp
    have hap : (v.fAxes.map TAxis.D).take v.fAxes.length ++ [a.D] = (v.fAxes ++ [a]).map TAxis.D := by
      rw [List.take_of_length_le (by omega), List.map_append]; rfl
    cases more
    all_goals
      repeat' (first | ((fail_if_success (with_reducible apply RegD.id)); (refine stg_ ?_)) | (refine cla_ (hc) ?_) | (refine cla_ (c1) ?_) | (refine cla_ (c2) ?_) | (refine br_ (fun hbr => ?_) (fun hbr => ?_); rotate_left; (focus (exfalso; exact hbr hk))))
      refine RegD.cutT [(10, .d (.bool true))] [.gone, .box (.st [.nils, .nils]), .arr 1 (ls.map D.str) true, .box (.st [.own 4 0 (v.fAxes ++ [a]).length, .own 5 0 v.fMasters.length]), .arr 5 ((v.fAxes ++ [a]).map TAxis.D) true, .arr 2 (v.fMasters.map mR) true, .keep [(0, .d (.str s)), (2, .pB 1 [] 0), (6, .pB 3 [] 0), (17, .own 2 0 ls.length), (18, .d (.int .i64 ls.length)), (19, .d (.int .i64 ((k : Nat) : Int)))] s0] trL8 (by kernel_rfl) ?_ ?_
      · (conv => whnf)
        rw [hls, ← hap]
        repeat' (first | (refine stg_ ?_) | (refine And.intro ?_ ?_ <;> (conv => whnf)))
        all_goals (refine Weak.cov ?_ ?_ ?_; (focus (repeat' (first | exact trivial | with_reducible rfl | (refine ⟨?_, ?_⟩) | rfl))); (focus (repeat' (first | exact trivial | with_reducible rfl | (refine ⟨?_, ?_⟩) | rfl))); (focus rfl))
      (conv => whnf)
      (repeat (refine stg_ ?_))
      (refine And.intro rfl ?_; (conv => whnf))
      refine .inl ⟨rfl, _, hstp, ?_⟩
      (refine Weak.cov ?_ ?_ ?_; (focus (repeat' (first | exact trivial | with_reducible rfl | (refine ⟨?_, ?_⟩) | rfl))); (focus (repeat' (first | exact trivial | with_reducible rfl | (refine ⟨?_, ?_⟩) | rfl))); (focus rfl))
theorem pkR_bad {us : List ByteArray} {w : ByteArray} (hus : us = spB 58 w) {q : List Int} (h : rnL us = some q) (hl : q.length ≠ 3) : pkR w = none := by
  rw [pkR, ← hus, h]
  match q, hl with
  | [], _ => rfl
  | [_], _ => rfl
  | [_, _], _ => rfl
  | [_, _, _], h => exact absurd rfl h
  | _ :: _ :: _ :: _ :: _, _ => rfl
theorem Weak.nilR {e : Env} {h : List Blk} (b : Nat) {x : V} (hb : h[b]? = some (.box (.st [x, .nils]))) (hb0 : Nat.ble 1 b = true) : Weak e h e (h.set b (.box (.st [x, .d nilC]))) :=
  Weak.box b (v := .st [x, .nils]) (v' := .st [x, .d nilC]) hb hb0 (fun w M h' cs H => by
    obtain ⟨c1, c2, e1, h1, c3, c4, e2, h3, h4⟩ := H
    refine ⟨c1, c2, e1, h1, c3, c4, e2, ?_, h4⟩
    have : c3 = [.slice none 0 0] := h3
    subst this
    exact ⟨rfl, rfl⟩)
def trL18 : OT := .q 0 (.q 1 (.q 2 (.q 3 (.q 4 (.q 5 (.q 6 (.q 7 (.q 8 (.q 9 (.q 10 (.alt 11 (.alt 12 (.alt 13 (.q 14 (.alt 15 .done .nil)) .nil) .nil) .nil)))))))))))
def trL20 : OT := .q 0 (.q 1 (.q 2 (.q 3 (.q 4 (.q 5 (.alt 6 (.alt 7 (.q 8 (.q 9 (.alt 10 .done .nil))) .nil) .nil))))))
set_option maxRecDepth 100000 in
set_option maxHeartbeats 8000000 in
theorem rvl_ma (s : ByteArray) (ls : List ByteArray) (k : Nat) (v : TVariation) (w kd rest : ByteArray) (more : Bool) (r : List ByteArray) {e : Env} (he : cov e [(0, .d (.str s)), (2, .pB 1 [] 0), (6, .pB 3 [] 0), (17, .own 2 0 ls.length), (18, .d (.int .i64 ls.length)), (19, .d (.int .i64 ((k : Nat) : Int)))]) (hw1 : w.size ≤ 1048576) (hr1 : rest.size ≤ 1048576) (hn1 : v.fMasters.length ≤ 1048577)
    (hc : PC Tryz.prog 71 [.d (.str w), .d (.str ⟨#[32]⟩)] (.tup [.d (.str kd), .d (.str rest), .d (.bool more)]) []) (hA : ¬ kd.toList = (⟨#[97, 120, 105, 115]⟩ : ByteArray).toList) (hk : kd.toList = (⟨#[109, 97, 115, 116, 101, 114]⟩ : ByteArray).toList)
    (hr0 : more = false → r = []) (hr2 : more = true → r = spB 32 rest)
    (hstp : stp v w = match mapO pkR r with | some ps => some ⟨v.fAxes, v.fMasters ++ [⟨ps, []⟩]⟩ | none => none) :
    CallM Tryz.prog 27 [.pB 3 [] 0, .d (.str w)] e [.gone, .box (.st [.nils, .nils]), .arr 1 (ls.map D.str) true, .box (.st [.own 4 0 (v).fAxes.length, .own 5 0 (v).fMasters.length]), .arr 5 ((v).fAxes.map TAxis.D) true, .arr 2 ((v).fMasters.map mR) true] (RvK s ls k v w) := by
  (refine CallM.inl ttOk (by kernel_rfl) Tryz.func27 rfl (by kernel_rfl) (by kernel_rfl) (by rfl) [(0, .d (.str s)), (2, .pB 1 [] 0), (6, .pB 3 [] 0), (17, .own 2 0 ls.length), (18, .d (.int .i64 ls.length)), (19, .d (.int .i64 ((k : Nat) : Int)))] (cov_get _ he) (fun s0 => ?_); (conv => whnf))
  have c1 := Split_v rest ⟨#[32]⟩ 32 rfl hr1 rfl (by rw [← bTl, ← bTl]; rfl)
  have hd : (v.fMasters.map mR).length = v.fMasters.length := List.length_map _
  have hl : rest.data.toList.length = rest.size := Array.length_toList
  have hcl := List.count_le_length (a := (32 : UInt8)) (l := rest.data.toList)
  have hsn := spB_len 32 rest
  have hrn : r.length ≤ 1048577 := by
    cases more
    · rw [hr0 rfl]; simp
    · rw [hr2 rfl]; omega
  have hrz : ∀ x ∈ r, x.size ≤ 1048576 := fun x hx => by
    cases more
    · rw [hr0 rfl] at hx; simp at hx
    · rw [hr2 rfl] at hx; exact Nat.le_trans (spB_le 32 rest x hx) hr1
  have hLr : (r.map D.str).length = r.length := List.length_map _
  cases more
  all_goals
    repeat' (first | ((fail_if_success (with_reducible apply RegD.id)); (refine stg_ ?_)) | (refine cla_ (hc) ?_) | (refine cla_ (c1) ?_) | (refine br_ (fun hbr => ?_) (fun hbr => ?_); rotate_left; (focus (exfalso; exact hbr hk))) | (refine br_ (fun hbr => ?_) (fun hbr => ?_); (focus (exfalso; exact hA hbr))))
  rotate_left
  · obtain rfl := hr2 rfl
    refine LoopW.go (α := Nat × List TPeak) (fun p => [(0, .pB 3 [] 0), (11, .pB 8 [] 0), (50, .d (.lst ((spB 32 rest).map D.str))), (51, .d (.int .i64 (spB 32 rest).length)), (52, .d (.int .i64 p.1))]) (fun p => [.gone, .box (.st [.nils, .nils]), .arr 1 (ls.map D.str) true, .box (.st [.own 4 0 v.fAxes.length, .own 5 0 v.fMasters.length]), .arr 5 (v.fAxes.map TAxis.D) true, .arr 2 (v.fMasters.map mR) true, .keep [(0, .d (.str s)), (2, .pB 1 [] 0), (6, .pB 3 [] 0), (17, .own 2 0 ls.length), (18, .d (.int .i64 ls.length)), (19, .d (.int .i64 ((k : Nat) : Int)))] s0, .gone, .box (.st [.own 9 0 p.2.length, .d nilC]), .arr 3 (p.2.map TPeak.D) true]) (fun p => p.1 ≤ (spB 32 rest).length ∧ mapO pkR ((spB 32 rest).take p.1) = some p.2) (fun p => (spB 32 rest).length - p.1) (0, [])
      (Weak.trans (Weak.adoptM 8 [] [.nils] rfl rfl 3 true) (Weak.trans (Weak.nilR 8 rfl rfl) (Weak.trans (Weak.freezeA 50 rfl rfl rfl (List.length_map _).symm) (Weak.cov ?_ ?_ ?_)))) ⟨by simp, rfl⟩ ?_
    · (repeat' (first | exact trivial | with_reducible rfl | (refine ⟨?_, ?_⟩) | rfl))
    · (repeat' (first | exact trivial | with_reducible rfl | (refine ⟨?_, ?_⟩) | rfl))
    · rfl
    generalize spB 32 rest = r at *
    rintro ⟨j, ps⟩ ⟨k1, k2⟩
    dsimp only at k1 k2 ⊢
    have hpl := mapO_len k2
    rw [List.length_take] at hpl
    have hdp : (ps.map TPeak.D).length = ps.length := List.length_map _
    (conv => whnf)
    (repeat (refine stg_ ?_))
    (refine br_ (fun h3 => ?_) (fun h3 => ?_))
    · obtain ⟨x, hx⟩ := at_lt' (xs := r) (k := j) (by omega)
      have hex : (r.map D.str)[j]? = some (.str x) := by rw [List.getElem?_map, hx]; rfl
      have hxz := hrz x (List.mem_of_getElem? hx)
      have c2 := Split_v x ⟨#[58]⟩ 58 rfl hxz rfl (by rw [← bTl, ← bTl]; rfl)
      have hxl : x.data.toList.length = x.size := Array.length_toList
      have hxc := List.count_le_length (a := (58 : UInt8)) (l := x.data.toList)
      have hxn := spB_len 58 x
      have hpk : pkR x = match rnL (spB 58 x) with
        | some [a, b, c] => some ⟨a, b, c⟩
        | _ => none := rfl
      obtain ⟨us, hus⟩ : ∃ us, us = spB 58 x := ⟨_, rfl⟩
      rw [← hus] at c2 hxn hpk
      have hbad : pkR x = none → stp v w = none := fun h => by rw [hstp, mapO_bad hx h]
      have hLu : (us.map D.str).length = us.length := List.length_map _
      rcases hq : rnL us with _ | q
      · have c3 := readNumbers_v us (by omega) _ _ (fun ns h => by rw [hq] at h; cases h) (fun _ => ⟨rfl, rfl⟩)
        have hno := hbad (by rw [hpk, hq])
        (repeat' (first | (refine stg_ ?_) | (refine cla_ (c2) ?_) | (refine cla_ (c3) ?_) | (refine br_ (fun hbr => ?_) (fun hbr => ?_))))
        all_goals try (exfalso; simp_all; done)
        all_goals ((refine And.intro rfl ?_; (conv => whnf)); refine .inr ⟨rfl, hno, ?_⟩; (refine Weak.cov ?_ ?_ ?_; (focus (repeat' (first | exact trivial | with_reducible rfl | (refine ⟨?_, ?_⟩) | rfl))); (focus (repeat' (first | exact trivial | with_reducible rfl | (refine ⟨?_, ?_⟩) | rfl))); (focus rfl)))
      have c3 := readNumbers_v us (by omega) (.tup [.own 1 0 q.length, .d (.bool true)]) [.arr 1 (q.map (D.int .i64)) true] (fun ns h => by rw [hq] at h; cases h; exact ⟨rfl, rfl⟩) (fun h => by rw [hq] at h; cases h)
      by_cases hq3 : q.length = 3
      rotate_left
      · have hno := hbad (pkR_bad hus hq hq3)
        (repeat' (first | (refine stg_ ?_) | (refine cla_ (c2) ?_) | (refine cla_ (c3) ?_) | (refine br_ (fun hbr => ?_) (fun hbr => ?_))))
        all_goals try (exfalso; omega)
        all_goals ((refine And.intro rfl ?_; (conv => whnf)); refine .inr ⟨rfl, hno, ?_⟩; (refine Weak.cov ?_ ?_ ?_; (focus (repeat' (first | exact trivial | with_reducible rfl | (refine ⟨?_, ?_⟩) | rfl))); (focus (repeat' (first | exact trivial | with_reducible rfl | (refine ⟨?_, ?_⟩) | rfl))); (focus rfl)))
      obtain ⟨a, b, c, rfl⟩ : ∃ a b c, q = [a, b, c] := by
        match q, hq3 with
        | [a, b, c], _ => exact ⟨a, b, c, rfl⟩
      have f0 : ([a, b, c].map (D.int .i64))[0]? = some (.int .i64 a) := rfl
      have f1 : ([a, b, c].map (D.int .i64))[1]? = some (.int .i64 b) := rfl
      have f2 : ([a, b, c].map (D.int .i64))[2]? = some (.int .i64 c) := rfl
      rw [hq] at hpk
      repeat' (first | ((fail_if_success (with_reducible apply RegD.id)); (refine stg_ ?_)) | (refine cla_ (c2) ?_) | (refine cla_ (c3) ?_) | (refine br_ (fun hbr => ?_) (fun hbr => ?_); (focus (exfalso; omega))))
      have hps : (ps ++ [(⟨a, b, c⟩ : TPeak)]).length = ps.length + 1 := by simp
      have hap : (ps.map TPeak.D).take ps.length ++ [TPeak.D ⟨a, b, c⟩] = (ps ++ [(⟨a, b, c⟩ : TPeak)]).map TPeak.D := by
        rw [List.take_of_length_le (by omega), List.map_append]; rfl
      refine RegD.cutT [(0, .pB 3 [] 0), (11, .pB 8 [] 0), (50, .d (.lst (r.map D.str))), (51, .d (.int .i64 r.length)), (52, .d (.int .i64 ((j : Nat) : Int)))] [.gone, .box (.st [.nils, .nils]), .arr 1 (ls.map D.str) true, .box (.st [.own 4 0 v.fAxes.length, .own 5 0 v.fMasters.length]), .arr 5 (v.fAxes.map TAxis.D) true, .arr 2 (v.fMasters.map mR) true, .keep [(0, .d (.str s)), (2, .pB 1 [] 0), (6, .pB 3 [] 0), (17, .own 2 0 ls.length), (18, .d (.int .i64 ls.length)), (19, .d (.int .i64 ((k : Nat) : Int)))] s0, .gone, .box (.st [.own 9 0 (ps ++ [(⟨a, b, c⟩ : TPeak)]).length, .d nilC]), .arr 3 ((ps ++ [(⟨a, b, c⟩ : TPeak)]).map TPeak.D) true] trL18 (by kernel_rfl) ?_ ?_
      · (conv => whnf)
        rw [hps, ← hap]
        repeat' (first | (refine stg_ ?_) | (refine And.intro ?_ ?_ <;> (conv => whnf)))
        all_goals (refine Weak.cov ?_ ?_ ?_; (focus (repeat' (first | exact trivial | with_reducible rfl | (refine ⟨?_, ?_⟩) | rfl))); (focus (repeat' (first | exact trivial | with_reducible rfl | (refine ⟨?_, ?_⟩) | rfl))); (focus rfl))
      (conv => whnf)
      (repeat (refine stg_ ?_))
      exact NextW.go (j + 1, ps ++ [⟨a, b, c⟩]) covT_ ⟨by dsimp only; omega, by dsimp only; rw [take_snoc_get hx]; exact mapO_snoc k2 hpk⟩ (by dsimp only; omega)
    · have hj : j = r.length := by omega
      rw [hj, List.take_length] at k2
      rw [k2] at hstp
      (repeat ((fail_if_success (with_reducible apply RegD.id)); (refine stg_ ?_)))
      have hms : (v.fMasters ++ [(⟨ps, []⟩ : TMaster)]).length = v.fMasters.length + 1 := by simp
      have hap : (v.fMasters.map mR).take v.fMasters.length ++ [mR ⟨ps, []⟩] = (v.fMasters ++ [(⟨ps, []⟩ : TMaster)]).map mR := by
        rw [List.take_of_length_le (by omega), List.map_append]; rfl
      refine RegD.cutT [] [.gone, .box (.st [.nils, .nils]), .arr 1 (ls.map D.str) true, .box (.st [.own 4 0 v.fAxes.length, .own 5 0 (v.fMasters ++ [(⟨ps, []⟩ : TMaster)]).length]), .arr 5 (v.fAxes.map TAxis.D) true, .arr 2 ((v.fMasters ++ [(⟨ps, []⟩ : TMaster)]).map mR) true, .keep [(0, .d (.str s)), (2, .pB 1 [] 0), (6, .pB 3 [] 0), (17, .own 2 0 ls.length), (18, .d (.int .i64 ls.length)), (19, .d (.int .i64 ((k : Nat) : Int)))] s0] trL20 (by kernel_rfl) ?_ ?_
      · (conv => whnf)
        rw [hms, ← hap]
        repeat' (first | (refine stg_ ?_) | (refine And.intro ?_ ?_ <;> (conv => whnf)))
        all_goals (refine Weak.cov ?_ ?_ ?_; (focus (repeat' (first | exact trivial | with_reducible rfl | (refine ⟨?_, ?_⟩) | rfl))); (focus (repeat' (first | exact trivial | with_reducible rfl | (refine ⟨?_, ?_⟩) | rfl))); (focus rfl))
      (conv => whnf)
      (repeat (refine stg_ ?_))
      (refine And.intro rfl ?_; (conv => whnf))
      refine .inl ⟨rfl, _, hstp, ?_⟩
      (refine Weak.cov ?_ ?_ ?_; (focus (repeat' (first | exact trivial | with_reducible rfl | (refine ⟨?_, ?_⟩) | rfl))); (focus (repeat' (first | exact trivial | with_reducible rfl | (refine ⟨?_, ?_⟩) | rfl))); (focus rfl))
  · obtain rfl := hr0 rfl
    refine LoopW.go (α := Nat × List TPeak) (fun p => [(0, .pB 3 [] 0), (11, .pB 8 [] 0), (50, .d (.lst (([] : List ByteArray).map D.str))), (51, .d (.int .i64 ([] : List ByteArray).length)), (52, .d (.int .i64 p.1))]) (fun p => [.gone, .box (.st [.nils, .nils]), .arr 1 (ls.map D.str) true, .box (.st [.own 4 0 v.fAxes.length, .own 5 0 v.fMasters.length]), .arr 5 (v.fAxes.map TAxis.D) true, .arr 2 (v.fMasters.map mR) true, .keep [(0, .d (.str s)), (2, .pB 1 [] 0), (6, .pB 3 [] 0), (17, .own 2 0 ls.length), (18, .d (.int .i64 ls.length)), (19, .d (.int .i64 ((k : Nat) : Int)))] s0, .gone, .box (.st [.own 9 0 p.2.length, .d nilC]), .arr 3 (p.2.map TPeak.D) true]) (fun p => p.1 ≤ ([] : List ByteArray).length ∧ mapO pkR (([] : List ByteArray).take p.1) = some p.2) (fun p => ([] : List ByteArray).length - p.1) (0, [])
      (Weak.trans (Weak.adoptM 8 [] [.nils] rfl rfl 3 true) (Weak.trans (Weak.nilR 8 rfl rfl) (Weak.trans (Weak.nilD 50 rfl) (Weak.cov ?_ ?_ ?_)))) ⟨by simp, rfl⟩ ?_
    · (repeat' (first | exact trivial | with_reducible rfl | (refine ⟨?_, ?_⟩) | rfl))
    · (repeat' (first | exact trivial | with_reducible rfl | (refine ⟨?_, ?_⟩) | rfl))
    · rfl
    generalize ([] : List ByteArray) = r at *
    rintro ⟨j, ps⟩ ⟨k1, k2⟩
    dsimp only at k1 k2 ⊢
    have hpl := mapO_len k2
    rw [List.length_take] at hpl
    have hdp : (ps.map TPeak.D).length = ps.length := List.length_map _
    (conv => whnf)
    (repeat (refine stg_ ?_))
    (refine br_ (fun h3 => ?_) (fun h3 => ?_))
    · obtain ⟨x, hx⟩ := at_lt' (xs := r) (k := j) (by omega)
      have hex : (r.map D.str)[j]? = some (.str x) := by rw [List.getElem?_map, hx]; rfl
      have hxz := hrz x (List.mem_of_getElem? hx)
      have c2 := Split_v x ⟨#[58]⟩ 58 rfl hxz rfl (by rw [← bTl, ← bTl]; rfl)
      have hxl : x.data.toList.length = x.size := Array.length_toList
      have hxc := List.count_le_length (a := (58 : UInt8)) (l := x.data.toList)
      have hxn := spB_len 58 x
      have hpk : pkR x = match rnL (spB 58 x) with
        | some [a, b, c] => some ⟨a, b, c⟩
        | _ => none := rfl
      obtain ⟨us, hus⟩ : ∃ us, us = spB 58 x := ⟨_, rfl⟩
      rw [← hus] at c2 hxn hpk
      have hbad : pkR x = none → stp v w = none := fun h => by rw [hstp, mapO_bad hx h]
      have hLu : (us.map D.str).length = us.length := List.length_map _
      rcases hq : rnL us with _ | q
      · have c3 := readNumbers_v us (by omega) _ _ (fun ns h => by rw [hq] at h; cases h) (fun _ => ⟨rfl, rfl⟩)
        have hno := hbad (by rw [hpk, hq])
        (repeat' (first | (refine stg_ ?_) | (refine cla_ (c2) ?_) | (refine cla_ (c3) ?_) | (refine br_ (fun hbr => ?_) (fun hbr => ?_))))
        all_goals try (exfalso; simp_all; done)
        all_goals ((refine And.intro rfl ?_; (conv => whnf)); refine .inr ⟨rfl, hno, ?_⟩; (refine Weak.cov ?_ ?_ ?_; (focus (repeat' (first | exact trivial | with_reducible rfl | (refine ⟨?_, ?_⟩) | rfl))); (focus (repeat' (first | exact trivial | with_reducible rfl | (refine ⟨?_, ?_⟩) | rfl))); (focus rfl)))
      have c3 := readNumbers_v us (by omega) (.tup [.own 1 0 q.length, .d (.bool true)]) [.arr 1 (q.map (D.int .i64)) true] (fun ns h => by rw [hq] at h; cases h; exact ⟨rfl, rfl⟩) (fun h => by rw [hq] at h; cases h)
      by_cases hq3 : q.length = 3
      rotate_left
      · have hno := hbad (pkR_bad hus hq hq3)
        (repeat' (first | (refine stg_ ?_) | (refine cla_ (c2) ?_) | (refine cla_ (c3) ?_) | (refine br_ (fun hbr => ?_) (fun hbr => ?_))))
        all_goals try (exfalso; omega)
        all_goals ((refine And.intro rfl ?_; (conv => whnf)); refine .inr ⟨rfl, hno, ?_⟩; (refine Weak.cov ?_ ?_ ?_; (focus (repeat' (first | exact trivial | with_reducible rfl | (refine ⟨?_, ?_⟩) | rfl))); (focus (repeat' (first | exact trivial | with_reducible rfl | (refine ⟨?_, ?_⟩) | rfl))); (focus rfl)))
      obtain ⟨a, b, c, rfl⟩ : ∃ a b c, q = [a, b, c] := by
        match q, hq3 with
        | [a, b, c], _ => exact ⟨a, b, c, rfl⟩
      have f0 : ([a, b, c].map (D.int .i64))[0]? = some (.int .i64 a) := rfl
      have f1 : ([a, b, c].map (D.int .i64))[1]? = some (.int .i64 b) := rfl
      have f2 : ([a, b, c].map (D.int .i64))[2]? = some (.int .i64 c) := rfl
      rw [hq] at hpk
      repeat' (first | ((fail_if_success (with_reducible apply RegD.id)); (refine stg_ ?_)) | (refine cla_ (c2) ?_) | (refine cla_ (c3) ?_) | (refine br_ (fun hbr => ?_) (fun hbr => ?_); (focus (exfalso; omega))))
      have hps : (ps ++ [(⟨a, b, c⟩ : TPeak)]).length = ps.length + 1 := by simp
      have hap : (ps.map TPeak.D).take ps.length ++ [TPeak.D ⟨a, b, c⟩] = (ps ++ [(⟨a, b, c⟩ : TPeak)]).map TPeak.D := by
        rw [List.take_of_length_le (by omega), List.map_append]; rfl
      refine RegD.cutT [(0, .pB 3 [] 0), (11, .pB 8 [] 0), (50, .d (.lst (r.map D.str))), (51, .d (.int .i64 r.length)), (52, .d (.int .i64 ((j : Nat) : Int)))] [.gone, .box (.st [.nils, .nils]), .arr 1 (ls.map D.str) true, .box (.st [.own 4 0 v.fAxes.length, .own 5 0 v.fMasters.length]), .arr 5 (v.fAxes.map TAxis.D) true, .arr 2 (v.fMasters.map mR) true, .keep [(0, .d (.str s)), (2, .pB 1 [] 0), (6, .pB 3 [] 0), (17, .own 2 0 ls.length), (18, .d (.int .i64 ls.length)), (19, .d (.int .i64 ((k : Nat) : Int)))] s0, .gone, .box (.st [.own 9 0 (ps ++ [(⟨a, b, c⟩ : TPeak)]).length, .d nilC]), .arr 3 ((ps ++ [(⟨a, b, c⟩ : TPeak)]).map TPeak.D) true] trL18 (by kernel_rfl) ?_ ?_
      · (conv => whnf)
        rw [hps, ← hap]
        repeat' (first | (refine stg_ ?_) | (refine And.intro ?_ ?_ <;> (conv => whnf)))
        all_goals (refine Weak.cov ?_ ?_ ?_; (focus (repeat' (first | exact trivial | with_reducible rfl | (refine ⟨?_, ?_⟩) | rfl))); (focus (repeat' (first | exact trivial | with_reducible rfl | (refine ⟨?_, ?_⟩) | rfl))); (focus rfl))
      (conv => whnf)
      (repeat (refine stg_ ?_))
      exact NextW.go (j + 1, ps ++ [⟨a, b, c⟩]) covT_ ⟨by dsimp only; omega, by dsimp only; rw [take_snoc_get hx]; exact mapO_snoc k2 hpk⟩ (by dsimp only; omega)
    · have hj : j = r.length := by omega
      rw [hj, List.take_length] at k2
      rw [k2] at hstp
      (repeat ((fail_if_success (with_reducible apply RegD.id)); (refine stg_ ?_)))
      have hms : (v.fMasters ++ [(⟨ps, []⟩ : TMaster)]).length = v.fMasters.length + 1 := by simp
      have hap : (v.fMasters.map mR).take v.fMasters.length ++ [mR ⟨ps, []⟩] = (v.fMasters ++ [(⟨ps, []⟩ : TMaster)]).map mR := by
        rw [List.take_of_length_le (by omega), List.map_append]; rfl
      refine RegD.cutT [] [.gone, .box (.st [.nils, .nils]), .arr 1 (ls.map D.str) true, .box (.st [.own 4 0 v.fAxes.length, .own 5 0 (v.fMasters ++ [(⟨ps, []⟩ : TMaster)]).length]), .arr 5 (v.fAxes.map TAxis.D) true, .arr 2 ((v.fMasters ++ [(⟨ps, []⟩ : TMaster)]).map mR) true, .keep [(0, .d (.str s)), (2, .pB 1 [] 0), (6, .pB 3 [] 0), (17, .own 2 0 ls.length), (18, .d (.int .i64 ls.length)), (19, .d (.int .i64 ((k : Nat) : Int)))] s0] trL20 (by kernel_rfl) ?_ ?_
      · (conv => whnf)
        rw [hms, ← hap]
        repeat' (first | (refine stg_ ?_) | (refine And.intro ?_ ?_ <;> (conv => whnf)))
        all_goals (refine Weak.cov ?_ ?_ ?_; (focus (repeat' (first | exact trivial | with_reducible rfl | (refine ⟨?_, ?_⟩) | rfl))); (focus (repeat' (first | exact trivial | with_reducible rfl | (refine ⟨?_, ?_⟩) | rfl))); (focus rfl))
      (conv => whnf)
      (repeat (refine stg_ ?_))
      (refine And.intro rfl ?_; (conv => whnf))
      refine .inl ⟨rfl, _, hstp, ?_⟩
      (refine Weak.cov ?_ ?_ ?_; (focus (repeat' (first | exact trivial | with_reducible rfl | (refine ⟨?_, ?_⟩) | rfl))); (focus (repeat' (first | exact trivial | with_reducible rfl | (refine ⟨?_, ?_⟩) | rfl))); (focus rfl))
theorem adD_at {ms : List TMaster} {m : TMaster} (h : ms[ms.length - 1]? = some m) (d : TGlyphDelta) : adD ms d = ms.set (ms.length - 1) ⟨m.fPeaks, m.fDeltas ++ [d]⟩ := by
  rw [adD, h]
theorem adD_len (ms : List TMaster) (d : TGlyphDelta) : (adD ms d).length = ms.length := by
  rw [adD]
  split <;> simp
theorem HoW.id {h : List Blk} {g len cap : Nat} {K : V → Prop} (H : HoW h g len cap K) : HoW h g len cap K := H
def trL26 : OT := .q 0 (.q 1 (.q 2 (.q 3 (.q 4 (.q 5 (.q 6 (.q 7 (.q 8 (.q 9 (.q 10 (.q 11 .done)))))))))))
set_option maxRecDepth 100000 in
set_option maxHeartbeats 8000000 in
theorem rvl_dl (s : ByteArray) (ls : List ByteArray) (k : Nat) (v : TVariation) (w kd rest : ByteArray) (more : Bool) (r : List ByteArray) {e : Env} (he : cov e [(0, .d (.str s)), (2, .pB 1 [] 0), (6, .pB 3 [] 0), (17, .own 2 0 ls.length), (18, .d (.int .i64 ls.length)), (19, .d (.int .i64 ((k : Nat) : Int)))]) (hw1 : w.size ≤ 1048576) (hr1 : rest.size ≤ 1048576) (hn1 : v.fMasters.length ≤ 1048577) (hn2 : ∀ m ∈ v.fMasters, m.fDeltas.length ≤ 1048577)
    (hc : PC Tryz.prog 71 [.d (.str w), .d (.str ⟨#[32]⟩)] (.tup [.d (.str kd), .d (.str rest), .d (.bool more)]) []) (hA : ¬ kd.toList = (⟨#[97, 120, 105, 115]⟩ : ByteArray).toList) (hB : ¬ kd.toList = (⟨#[109, 97, 115, 116, 101, 114]⟩ : ByteArray).toList) (hk : kd.toList = (⟨#[100, 101, 108, 116, 97]⟩ : ByteArray).toList)
    (hr0 : more = false → r = []) (hr2 : more = true → r = spB 32 rest)
    (hstp : stp v w = match dlR r with | some d => if v.fMasters.length = 0 then none else some ⟨v.fAxes, adD v.fMasters d⟩ | none => none) :
    CallM Tryz.prog 27 [.pB 3 [] 0, .d (.str w)] e [.gone, .box (.st [.nils, .nils]), .arr 1 (ls.map D.str) true, .box (.st [.own 4 0 (v).fAxes.length, .own 5 0 (v).fMasters.length]), .arr 5 ((v).fAxes.map TAxis.D) true, .arr 2 ((v).fMasters.map mR) true] (RvK s ls k v w) := by
  (refine CallM.inl ttOk (by kernel_rfl) Tryz.func27 rfl (by kernel_rfl) (by kernel_rfl) (by rfl) [(0, .d (.str s)), (2, .pB 1 [] 0), (6, .pB 3 [] 0), (17, .own 2 0 ls.length), (18, .d (.int .i64 ls.length)), (19, .d (.int .i64 ((k : Nat) : Int)))] (cov_get _ he) (fun s0 => ?_); (conv => whnf))
  have c1 := Split_v rest ⟨#[32]⟩ 32 rfl hr1 rfl (by rw [← bTl, ← bTl]; rfl)
  have hd : (v.fMasters.map mR).length = v.fMasters.length := List.length_map _
  have hl : rest.data.toList.length = rest.size := Array.length_toList
  have hcl := List.count_le_length (a := (32 : UInt8)) (l := rest.data.toList)
  have hsn := spB_len 32 rest
  have hrn : r.length ≤ 1048577 := by
    cases more
    · rw [hr0 rfl]; simp
    · rw [hr2 rfl]; omega
  have hrz : ∀ x ∈ r, x.size ≤ 1048576 := fun x hx => by
    cases more
    · rw [hr0 rfl] at hx; simp at hx
    · rw [hr2 rfl] at hx; exact Nat.le_trans (spB_le 32 rest x hx) hr1
  cases more
  · obtain rfl := hr0 rfl
    have c2 := readDelta_v [] (by simp) (by simp) _ _ (fun d h => by cases h) (fun _ => ⟨rfl, rfl⟩)
    repeat' (first | ((fail_if_success (with_reducible apply RegD.id)); (refine stg_ ?_)) | (refine cla_ (hc) ?_) | (refine cla_ (c1) ?_) | (refine cla_ (c2) ?_) | (refine br_ (fun hbr => ?_) (fun hbr => ?_); rotate_left; (focus (exfalso; exact hbr hk))) | (refine br_ (fun hbr => ?_) (fun hbr => ?_); (focus (exfalso; first | exact hA hbr | exact hB hbr))))
    (refine And.intro rfl ?_; (conv => whnf))
    refine .inr ⟨rfl, hstp, ?_⟩
    (refine Weak.cov ?_ ?_ ?_; (focus (repeat' (first | exact trivial | with_reducible rfl | (refine ⟨?_, ?_⟩) | rfl))); (focus (repeat' (first | exact trivial | with_reducible rfl | (refine ⟨?_, ?_⟩) | rfl))); (focus rfl))
  obtain rfl := hr2 rfl
  rcases hq : dlR (spB 32 rest) with _ | d
  · rw [hq] at hstp
    have c2 := readDelta_v (spB 32 rest) hrz hrn _ _ (fun d h => by rw [hq] at h; cases h) (fun _ => ⟨rfl, rfl⟩)
    repeat' (first | ((fail_if_success (with_reducible apply RegD.id)); (refine stg_ ?_)) | (refine cla_ (hc) ?_) | (refine cla_ (c1) ?_) | (refine cla_ (c2) ?_) | (refine br_ (fun hbr => ?_) (fun hbr => ?_); rotate_left; (focus (exfalso; exact hbr hk))) | (refine br_ (fun hbr => ?_) (fun hbr => ?_); (focus (exfalso; first | exact hA hbr | exact hB hbr))))
    (refine And.intro rfl ?_; (conv => whnf))
    refine .inr ⟨rfl, hstp, ?_⟩
    (refine Weak.cov ?_ ?_ ?_; (focus (repeat' (first | exact trivial | with_reducible rfl | (refine ⟨?_, ?_⟩) | rfl))); (focus (repeat' (first | exact trivial | with_reducible rfl | (refine ⟨?_, ?_⟩) | rfl))); (focus rfl))
  rw [hq] at hstp
  have c2 := readDelta_v (spB 32 rest) hrz hrn (.tup [.st [.d (.int .i64 d.fGlyph), .own 1 0 d.fKnots.length, .own 2 0 d.fMoves.length, .d (.int .i64 d.fAdvance)], .d (.bool true)]) [.arr 1 (d.fKnots.map (D.int .i64)) true, .arr 2 (d.fMoves.map TPt.D) true] (fun d' h => by rw [hq] at h; cases h; exact ⟨rfl, rfl⟩) (fun h => by rw [hq] at h; cases h)
  by_cases hm0 : v.fMasters.length = 0
  · dsimp only at hstp
    rw [if_pos hm0] at hstp
    repeat' (first | ((fail_if_success (with_reducible apply RegD.id)); (refine stg_ ?_)) | (refine cla_ (hc) ?_) | (refine cla_ (c1) ?_) | (refine cla_ (c2) ?_) | (refine br_ (fun hbr => ?_) (fun hbr => ?_); rotate_left; (focus (exfalso; first | exact hbr hk | omega))) | (refine br_ (fun hbr => ?_) (fun hbr => ?_); (focus (exfalso; first | exact hA hbr | exact hB hbr))))
    (refine And.intro rfl ?_; (conv => whnf))
    refine .inr ⟨rfl, hstp, ?_⟩
    (refine Weak.cov ?_ ?_ ?_; (focus (repeat' (first | exact trivial | with_reducible rfl | (refine ⟨?_, ?_⟩) | rfl))); (focus (repeat' (first | exact trivial | with_reducible rfl | (refine ⟨?_, ?_⟩) | rfl))); (focus rfl))
  dsimp only at hstp
  rw [if_neg hm0] at hstp
  obtain ⟨m, hm⟩ := at_lt' (xs := v.fMasters) (k := v.fMasters.length - 1) (by omega)
  have hms := hn2 m (List.mem_of_getElem? hm)
  have hex : (v.fMasters.map mR)[v.fMasters.length - 1]? = some (mR m) := by rw [List.getElem?_map, hm]; rfl
  have hdm : (m.fDeltas.map TGlyphDelta.D).length = m.fDeltas.length := List.length_map _
  repeat' (first | ((fail_if_success (with_reducible apply RegD.id)); (refine stg_ ?_)) | (refine cla_ (hc) ?_) | (refine cla_ (c1) ?_) | (refine br_ (fun hbr => ?_) (fun hbr => ?_); rotate_left; (focus (exfalso; first | exact hbr hk | omega))) | (refine br_ (fun hbr => ?_) (fun hbr => ?_); (focus (exfalso; first | exact hA hbr | exact hB hbr))))
  refine clX_ c2 (WeakX.pre (e0 := [(VS, .tup [.st [.d (.int .i64 d.fGlyph), .own 8 0 d.fKnots.length, .own 9 0 d.fMoves.length, .d (.int .i64 d.fAdvance)], .d (.bool true)]), (0, .pB 3 [] 0)]) (h0 := [.gone, .box (.st [.nils, .nils]), .arr 1 (ls.map D.str) true, .box (.st [.own 4 0 v.fAxes.length, .own 5 0 v.fMasters.length]), .arr 5 (v.fAxes.map TAxis.D) true, .arr 2 (v.fMasters.map mR) true, .keep [(0, .d (.str s)), (2, .pB 1 [] 0), (6, .pB 3 [] 0), (17, .own 2 0 ls.length), (18, .d (.int .i64 ls.length)), (19, .d (.int .i64 ((k : Nat) : Int)))] s0, .gone, .arr 1 (d.fKnots.map (D.int .i64)) true, .arr 2 (d.fMoves.map TPt.D) true]) (Weak.cov ?_ ?_ ?_) (WeakX.outM (b := 5) rfl rfl hm (fun g cap sz t hcap => WeakX.of (Weak.refl _ _) ⟨_, _, rfl, rfl, ?_⟩)))
  · (repeat' (first | exact trivial | with_reducible rfl | (refine ⟨?_, ?_⟩) | rfl))
  · (repeat' (first | exact trivial | with_reducible rfl | (refine ⟨?_, ?_⟩) | rfl))
  · rfl
  (conv => whnf)
  refine br_ (fun hbr => ?_) (fun hbr => ?_)
  · exfalso; omega
  repeat ((fail_if_success (with_reducible apply RegD.id)); (refine stg_ ?_))
  have hexs : ((v.fMasters.map mR).set (v.fMasters.length - 1) (.st [.lst (m.fPeaks.map TPeak.D), .hole g m.fDeltas.length cap]))[v.fMasters.length - 1]? = some (.st [.lst (m.fPeaks.map TPeak.D), .hole g m.fDeltas.length cap]) := List.getElem?_set_self (by rw [hd]; omega)
  have hds : ((v.fMasters.map mR).set (v.fMasters.length - 1) (.st [.lst (m.fPeaks.map TPeak.D), .hole g m.fDeltas.length cap])).length = v.fMasters.length := by rw [List.length_set]; exact hd
  (refine RegD.treeT trL26 (by kernel_rfl) ?_; (conv => whnf))
  refine ArW.i64e ((v.fMasters.length - 1 : Nat) : Int) (by omega) (by omega) ?_
  (conv => whnf)
  (repeat (refine stg_ ?_))
  refine HoW.mk ⟨11, 10, 4, _, true, sz, t, rfl, rfl, hcap, ?_⟩
  (conv => whnf)
  repeat (first | ((with_reducible apply HlW.id); (refine HlW.at (fun g2 cap2 sz2 ty2 hcap2 => ?_)); (conv => whnf)) | ((fail_if_success (with_reducible apply RegD.id)); (refine stg_ ?_)))
  (refine And.intro rfl ?_; (conv => whnf))
  refine .inl ⟨rfl, _, hstp, ?_⟩
  have hXi : (((v.fMasters.map mR).set (v.fMasters.length - 1) (.st [.lst (m.fPeaks.map TPeak.D), .hole g m.fDeltas.length cap])).set (v.fMasters.length - 1) (.st [.lst (m.fPeaks.map TPeak.D), .hole g2 (m.fDeltas.length + 1) cap2]))[v.fMasters.length - 1]? = some (.st [.lst (m.fPeaks.map TPeak.D), .hole g2 (m.fDeltas.length + 1) cap2]) := List.getElem?_set_self (by rw [List.length_set, hd]; omega)
  have hne : m.fDeltas ++ [d] ≠ [] := by simp
  have hfin : (((v.fMasters.map mR).set (v.fMasters.length - 1) (.st [.lst (m.fPeaks.map TPeak.D), .hole g m.fDeltas.length cap])).set (v.fMasters.length - 1) (.st [.lst (m.fPeaks.map TPeak.D), .hole g2 (m.fDeltas.length + 1) cap2])).set (v.fMasters.length - 1) (.st [.lst (m.fPeaks.map TPeak.D), .lst ((m.fDeltas.map TGlyphDelta.D).take m.fDeltas.length ++ [d.D])]) = (adD v.fMasters d).map mR := by
    rw [adD_at hm, List.set_set, List.set_set, List.map_set]
    congr 1
    show _ = D.st [.lst (m.fPeaks.map TPeak.D), dlD (m.fDeltas ++ [d])]
    rw [dlD_some hne, List.map_append, List.take_of_length_le (by omega)]; rfl
  have hfb : Blk.arr 2 ((((v.fMasters.map mR).set (v.fMasters.length - 1) (.st [.lst (m.fPeaks.map TPeak.D), .hole g m.fDeltas.length cap])).set (v.fMasters.length - 1) (.st [.lst (m.fPeaks.map TPeak.D), .hole g2 (m.fDeltas.length + 1) cap2])).set (v.fMasters.length - 1) (.st [.lst (m.fPeaks.map TPeak.D), .lst ((m.fDeltas.map TGlyphDelta.D).take m.fDeltas.length ++ [d.D])])) true = Blk.arr 2 ((adD v.fMasters d).map mR) true := by rw [hfin]
  have hL := adD_len v.fMasters d
  refine Weak.trans (Weak.cov (e' := [(0, .d (.str s)), (2, .pB 1 [] 0), (6, .pB 3 [] 0), (17, .own 2 0 ls.length), (18, .d (.int .i64 ls.length)), (19, .d (.int .i64 ((k : Nat) : Int)))]) (h' := [.gone, .box (.st [.nils, .nils]), .arr 1 (ls.map D.str) true, .box (.st [.own 4 0 v.fAxes.length, .own 5 0 v.fMasters.length]), .arr 5 (v.fAxes.map TAxis.D) true, .arr 2 (((v.fMasters.map mR).set (v.fMasters.length - 1) (.st [.lst (m.fPeaks.map TPeak.D), .hole g m.fDeltas.length cap])).set (v.fMasters.length - 1) (.st [.lst (m.fPeaks.map TPeak.D), .hole g2 (m.fDeltas.length + 1) cap2])) true, .gone, .gone, .gone, .gone, .arr 4 ((m.fDeltas.map TGlyphDelta.D).take m.fDeltas.length ++ [d.D]) true, .gone, .gone, .gone, .pin 10 g2 sz2 ty2]) ?_ ?_ ?_)
    (Weak.trans (Weak.inn (b := 5) (c := 10) (j := 14) (k := v.fMasters.length - 1) (p := [1]) (o := 1) (U := fun u => .st [.lst (m.fPeaks.map TPeak.D), u]) rfl rfl (by decide) rfl hXi rfl (fun _ => rfl) rfl rfl (by rw [List.length_append, List.length_take, hdm, Nat.min_self]; rfl) hcap2) (Weak.cov ?_ ?_ ?_))
  · (repeat' (first | exact trivial | with_reducible rfl | (refine ⟨?_, ?_⟩) | rfl))
  · (repeat' (first | exact trivial | with_reducible rfl | (refine ⟨?_, ?_⟩) | rfl))
  · rfl
  · (repeat' (first | exact trivial | with_reducible rfl | (refine ⟨?_, ?_⟩) | rfl))
  · dsimp only
    rw [hL]
    (repeat' (first | exact trivial | with_reducible rfl | with_reducible exact hfb | (refine ⟨?_, ?_⟩) | exact hfb | rfl))
  · rfl
structure RvR (s : ByteArray) (v : V) (bs : List Blk) : Prop where
  own : ∀ x, rvR s = some x → v = .tup [.st [.own 1 0 x.fAxes.length, .own 2 0 x.fMasters.length], .d (.bool true)] ∧ bs = [.arr 5 (x.fAxes.map TAxis.D) true, .arr 2 (x.fMasters.map TMaster.D) true]
  no : rvR s = none → v = .tup [.st [.nils, .nils], .d (.bool false)] ∧ bs = []
theorem textLines_e : PC Tryz.prog 26 [.d (.str .empty)] (.tup [.nils, .d (.bool true)]) [] := by
  refine pc_intro ttOk (by kernel_rfl) Tryz.func26 rfl (by kernel_rfl) (by kernel_rfl) (by kernel_rfl) (fun hw => ?_)
  (conv => whnf)
  (repeat' (first | (refine stg_ ?_) | fail | (refine br_ (fun hbr => ?_) (fun hbr => ?_))))
  all_goals first | (exfalso; exact hbr rfl) | (refine RetOK.t rfl ?_; (repeat' (first | ((conv => whnf); done) | ((conv => whnf); (first | (exact ⟨by decide, rfl⟩) | (exact ⟨rfl, rfl⟩) | (refine ⟨_, _, rfl, ?_, ?_⟩) | (refine ⟨_, rfl, ?_⟩) | rfl)))); done)
theorem textLines_no (s : ByteArray) (hs : s.size ≤ 1048576) {t : List UInt8} {c : UInt8} (e : s.data.toList = t ++ [c]) (hc : c ≠ 10) : PC Tryz.prog 26 [.d (.str s)] (.tup [.nils, .d (.bool false)]) [] := by
  refine pc_intro ttOk (by kernel_rfl) Tryz.func26 rfl (by kernel_rfl) (by kernel_rfl) (by kernel_rfl) (fun hw => ?_)
  have hl : s.data.toList.length = s.size := Array.length_toList
  have hlen := congrArg List.length e
  rw [List.length_append, List.length_singleton, hl] at hlen
  have hch : s[(((s.size : Nat) : Int) - 1).toNat]? = some c := by
    rw [show (((s.size : Nat) : Int) - 1).toNat = s.size - 1 by omega, bL', e, List.getElem?_append_right (by omega), show s.size - 1 - t.length = 0 by omega]; rfl
  have hcn : ¬ ((c.toNat : Nat) : Int) = 10 := fun q => hc (UInt8.toNat_inj.1 (by rw [show (10 : UInt8).toNat = 10 from rfl]; omega))
  have hne : ¬ s.toList = ByteArray.empty.toList := fun h => by
    have := congrArg ByteArray.size (toL_inj h)
    rw [show ByteArray.empty.size = 0 from rfl] at this
    omega
  (conv => whnf)
  (repeat' (first | (refine stg_ ?_) | fail | (refine br_ (fun hbr => ?_) (fun hbr => ?_))))
  all_goals first | (exfalso; exact hne (by assumption)) | (exfalso; exact hcn (by assumption)) | (refine RetOK.t rfl ?_; (repeat' (first | ((conv => whnf); done) | ((conv => whnf); (first | (exact ⟨by decide, rfl⟩) | (exact ⟨rfl, rfl⟩) | (refine ⟨_, _, rfl, ?_, ?_⟩) | (refine ⟨_, rfl, ?_⟩) | rfl)))); done)
theorem textLines_v (s : ByteArray) (hs : s.size ≤ 1048576) {t : List UInt8} (e : s.data.toList = t ++ [10]) : PC Tryz.prog 26 [.d (.str s)] (.tup [.own 1 0 (spB 10 (mkS t)).length, .d (.bool true)]) [.arr 1 ((spB 10 (mkS t)).map D.str) true] := by
  refine pc_intro ttOk (by kernel_rfl) Tryz.func26 rfl (by kernel_rfl) (by kernel_rfl) (by kernel_rfl) (fun hw => ?_)
  have hl : s.data.toList.length = s.size := Array.length_toList
  have hlen := congrArg List.length e
  rw [List.length_append, List.length_singleton, hl] at hlen
  have hch : s[(((s.size : Nat) : Int) - 1).toNat]? = some 10 := by
    rw [show (((s.size : Nat) : Int) - 1).toNat = s.size - 1 by omega, bL', e, List.getElem?_append_right (by omega), show s.size - 1 - t.length = 0 by omega]; rfl
  have hne : ¬ s.toList = ByteArray.empty.toList := fun h => by
    have := congrArg ByteArray.size (toL_inj h)
    rw [show ByteArray.empty.size = 0 from rfl] at this
    omega
  have c1 := Split_v (mkS t) ⟨#[10]⟩ 10 rfl (by rw [mkS_size]; omega) rfl (by rw [← bTl, ← bTl]; rfl)
  have hex : s.extract 0 (((s.size : Nat) : Int) - 1).toNat = mkS t := by
    rw [show (((s.size : Nat) : Int) - 1).toNat = t.length by omega]; exact bx_take e
  have c1 : PC Tryz.prog 70 [.d (.str (s.extract 0 (((s.size : Nat) : Int) - 1).toNat)), .d (.str ⟨#[10]⟩)] (.own 1 0 (spB 10 (mkS t)).length) [.arr 1 ((spB 10 (mkS t)).map D.str) true] := by rw [hex]; exact c1
  (conv => whnf)
  (repeat' (first | (refine stg_ ?_) | (refine cla_ (c1) ?_) | (refine br_ (fun hbr => ?_) (fun hbr => ?_))))
  all_goals first | (exfalso; exact hne (by assumption)) | (exfalso; simp_all; done) | skip
  all_goals (refine ⟨⟨[some 1], ⟨by decide, rfl, trivial, trivial⟩, by decide, ⟨_, rfl, rfl, ?_⟩⟩⟩; (repeat' (first | ((conv => whnf); done) | ((conv => whnf); (first | (exact ⟨by decide, rfl⟩) | (exact ⟨rfl, rfl⟩) | (refine ⟨_, _, rfl, ?_, ?_⟩) | (refine ⟨_, rfl, ?_⟩) | rfl)))))
theorem rvl_no (s : ByteArray) (ls : List ByteArray) (k : Nat) (v : TVariation) (w kd rest : ByteArray) (more : Bool) {e : Env} (he : cov e [(0, .d (.str s)), (2, .pB 1 [] 0), (6, .pB 3 [] 0), (17, .own 2 0 ls.length), (18, .d (.int .i64 ls.length)), (19, .d (.int .i64 ((k : Nat) : Int)))]) (hr1 : rest.size ≤ 1048576)
    (hc : PC Tryz.prog 71 [.d (.str w), .d (.str ⟨#[32]⟩)] (.tup [.d (.str kd), .d (.str rest), .d (.bool more)]) []) (hA : ¬ kd.toList = (⟨#[97, 120, 105, 115]⟩ : ByteArray).toList) (hB : ¬ kd.toList = (⟨#[109, 97, 115, 116, 101, 114]⟩ : ByteArray).toList) (hk : ¬ kd.toList = (⟨#[100, 101, 108, 116, 97]⟩ : ByteArray).toList)
    (hstp : stp v w = none) : CallM Tryz.prog 27 [.pB 3 [] 0, .d (.str w)] e [.gone, .box (.st [.nils, .nils]), .arr 1 (ls.map D.str) true, .box (.st [.own 4 0 (v).fAxes.length, .own 5 0 (v).fMasters.length]), .arr 5 ((v).fAxes.map TAxis.D) true, .arr 2 ((v).fMasters.map mR) true] (RvK s ls k v w) := by
  (refine CallM.inl ttOk (by kernel_rfl) Tryz.func27 rfl (by kernel_rfl) (by kernel_rfl) (by rfl) [(0, .d (.str s)), (2, .pB 1 [] 0), (6, .pB 3 [] 0), (17, .own 2 0 ls.length), (18, .d (.int .i64 ls.length)), (19, .d (.int .i64 ((k : Nat) : Int)))] (cov_get _ he) (fun s0 => ?_); (conv => whnf))
  have c1 := Split_v rest ⟨#[32]⟩ 32 rfl hr1 rfl (by rw [← bTl, ← bTl]; rfl)
  cases more
  all_goals
    repeat' (first | ((fail_if_success (with_reducible apply RegD.id)); (refine stg_ ?_)) | (refine cla_ (hc) ?_) | (refine cla_ (c1) ?_) | (refine br_ (fun hbr => ?_) (fun hbr => ?_); (focus (exfalso; first | exact hA hbr | exact hB hbr | exact hk hbr))))
    (refine And.intro rfl ?_; (conv => whnf))
    refine .inr ⟨rfl, hstp, ?_⟩
    (refine Weak.cov ?_ ?_ ?_; (focus (repeat' (first | exact trivial | with_reducible rfl | (refine ⟨?_, ?_⟩) | rfl))); (focus (repeat' (first | exact trivial | with_reducible rfl | (refine ⟨?_, ?_⟩) | rfl))); (focus rfl))
theorem toL_lit {b : ByteArray} {l : List UInt8} (h : b.data.toList = l) (a : Array UInt8) (ha : a.toList = l) : b.toList = (⟨a⟩ : ByteArray).toList := by
  rw [← bTl, ← bTl, h]; exact ha.symm
theorem toL_no {b : ByteArray} {l : List UInt8} (h : ¬ b.data.toList = l) (a : Array UInt8) (ha : a.toList = l) : ¬ b.toList = (⟨a⟩ : ByteArray).toList := fun q => h (by
  rw [← bTl, ← bTl] at q
  rw [q]; exact ha)
theorem rvl_v (s : ByteArray) (ls : List ByteArray) (k : Nat) (v : TVariation) (w : ByteArray) {e : Env} (he : cov e [(0, .d (.str s)), (2, .pB 1 [] 0), (6, .pB 3 [] 0), (17, .own 2 0 ls.length), (18, .d (.int .i64 ls.length)), (19, .d (.int .i64 ((k : Nat) : Int)))]) (hw1 : w.size ≤ 1048576) (hn0 : v.fAxes.length ≤ 1048577) (hn1 : v.fMasters.length ≤ 1048577) (hn2 : ∀ m ∈ v.fMasters, m.fDeltas.length ≤ 1048577) :
    CallM Tryz.prog 27 [.pB 3 [] 0, .d (.str w)] e [.gone, .box (.st [.nils, .nils]), .arr 1 (ls.map D.str) true, .box (.st [.own 4 0 (v).fAxes.length, .own 5 0 (v).fMasters.length]), .arr 5 ((v).fAxes.map TAxis.D) true, .arr 2 ((v).fMasters.map mR) true] (RvK s ls k v w) := by
  obtain ⟨kd, rest, more, r, hc, hr1, hsp, hr0, hr2⟩ : ∃ (kd rest : ByteArray) (more : Bool) (r : List ByteArray), PC Tryz.prog 71 [.d (.str w), .d (.str ⟨#[32]⟩)] (.tup [.d (.str kd), .d (.str rest), .d (.bool more)]) [] ∧ rest.size ≤ 1048576 ∧ spB 32 w = kd :: r ∧ (more = false → r = [] ∧ rest = .empty) ∧ (more = true → r = spB 32 rest) := by
    rcases cut_cases 32 w with h | ⟨a, b, e, ha⟩
    · exact ⟨w, .empty, false, [], Cut_no w ⟨#[32]⟩ 32 rfl hw1 h, by decide, spB_none h, fun _ => ⟨rfl, rfl⟩, fun h => by cases h⟩
    · have hlz := congrArg List.length e
      have hlw : w.data.toList.length = w.size := Array.length_toList
      rw [List.length_append, List.length_cons, hlw] at hlz
      exact ⟨mkS a, mkS b, true, spB 32 (mkS b), Cut_at w ⟨#[32]⟩ 32 rfl hw1 e ha, by rw [mkS_size]; omega, spB_at e ha, fun h => (by cases h), fun _ => rfl⟩
  have hstp : stp v w = if kd.data.toList = kAx then (match aP r with
      | some a => if axB a = true then some ⟨v.fAxes ++ [a], v.fMasters⟩ else none
      | none => none)
    else if kd.data.toList = mrT then (match mapO pkR r with
      | some ps => some ⟨v.fAxes, v.fMasters ++ [⟨ps, []⟩]⟩
      | none => none)
    else if kd.data.toList = kDl then (match dlR r with
      | some d => if v.fMasters.length = 0 then none else some ⟨v.fAxes, adD v.fMasters d⟩
      | none => none)
    else none := by rw [stp, hsp]; rfl
  by_cases h1 : kd.data.toList = kAx
  · rw [if_pos h1] at hstp
    refine rvl_ax s ls k v w kd rest more he hw1 hr1 hn0 hc (toL_lit h1 _ rfl) ?_
    rw [hstp]
    cases more with
    | false =>
      obtain ⟨rfl, rfl⟩ := hr0 rfl
      rfl
    | true =>
      obtain rfl := hr2 rfl
      rw [raA]
      cases aP (spB 32 rest) with
      | none => rfl
      | some a =>
        dsimp only
        cases axB a <;> rfl
  rw [if_neg h1] at hstp
  by_cases h2 : kd.data.toList = mrT
  · rw [if_pos h2] at hstp
    exact rvl_ma s ls k v w kd rest more r he hw1 hr1 hn1 hc (toL_no h1 _ rfl) (toL_lit h2 _ rfl) (fun h => (hr0 h).1) hr2 hstp
  rw [if_neg h2] at hstp
  by_cases h3 : kd.data.toList = kDl
  · rw [if_pos h3] at hstp
    exact rvl_dl s ls k v w kd rest more r he hw1 hr1 hn1 hn2 hc (toL_no h1 _ rfl) (toL_no h2 _ rfl) (toL_lit h3 _ rfl) (fun h => (hr0 h).1) hr2 hstp
  rw [if_neg h3] at hstp
  exact rvl_no s ls k v w kd rest more he hr1 hc (toL_no h1 _ rfl) (toL_no h2 _ rfl) (toL_no h3 _ rfl) hstp
structure SzV (v : TVariation) (k : Nat) : Prop where
  a : v.fAxes.length ≤ k
  m : v.fMasters.length ≤ k
  d : ∀ m ∈ v.fMasters, m.fDeltas.length ≤ k
theorem szV_stp {v v' : TVariation} {w : ByteArray} {k : Nat} (h : SzV v k) (hs : stp v w = some v') : SzV v' (k + 1) := by
  have ha := h.a
  have hm := h.m
  have hd := h.d
  unfold stp at hs
  split at hs
  · cases hs
  · split at hs
    · split at hs
      · split at hs
        · cases hs
          exact ⟨by simp; omega, by dsimp only; omega, fun m hmm => by have := hd m hmm; omega⟩
        · cases hs
      · cases hs
    · split at hs
      · split at hs
        · cases hs
          refine ⟨by dsimp only; omega, by simp; omega, fun m hmm => ?_⟩
          rcases List.mem_append.1 hmm with hmm | hmm
          · have := hd m hmm; omega
          · obtain rfl := List.mem_singleton.1 hmm
            simp
        · cases hs
      · split at hs
        · split at hs
          · split at hs
            · cases hs
            · cases hs
              refine ⟨by dsimp only; omega, by dsimp only; rw [adD_len]; omega, fun m hmm => ?_⟩
              dsimp only at hmm
              rw [adD] at hmm
              split at hmm
              · rename_i z hz
                rcases List.mem_or_eq_of_mem_set hmm with q | q
                · have := hd m q; omega
                · subst q
                  have := hd z (List.mem_of_getElem? hz)
                  simp; omega
              · have := hd m hmm; omega
          · cases hs
        · cases hs
set_option maxRecDepth 100000 in
set_option maxHeartbeats 8000000 in
theorem ReadVariation_v (s : ByteArray) (hs : s.size ≤ 1048576) (v : V) (bs : List Blk) (hR : RvR s v bs) : PC Tryz.prog 6 [.d (.str s)] v bs := by
  refine pc_intro ttOk (by kernel_rfl) Tryz.func6 rfl (by kernel_rfl) (by kernel_rfl) (by kernel_rfl) (fun hw => ?_)
  have hl : s.data.toList.length = s.size := Array.length_toList
  rcases List.eq_nil_or_concat s.data.toList with h0 | ⟨t, c, e⟩
  rotate_left
  rw [List.concat_eq_append] at e
  rotate_left
  · obtain rfl : s = .empty := by
      apply bs_ext
      rw [h0]; rfl
    have c1 := textLines_e
    have c2 := wellFormed_v v0R
    have c3 := VariationText_v v0R
    have hw0 : wfB v0R = true := rfl
    have hv0 : vtS v0R = .empty := rfl
    rw [hv0] at c3
    obtain ⟨rfl, rfl⟩ := hR.own v0R (by rw [rv_some (v := v0R) rfl, if_pos hw0, if_pos (show txR v0R = ByteArray.empty from rfl)])
    (conv => whnf)
    repeat' (first | ((fail_if_success (with_reducible apply RegD.id)); (refine stg_ ?_)) | (refine cla_ (c1) ?_))
    refine LoopW.go (α := Unit) (fun _ => [(0, .d (.str .empty)), (2, .pB 1 [] 0), (6, .pB 2 [] 0), (18, .d (.int .i64 0)), (19, .d (.int .i64 0))]) (fun _ => [.gone, .box (.st [.nils, .nils]), .box (.st [.own 3 0 0, .own 4 0 0]), .arr 5 (v0R.fAxes.map TAxis.D) true, .arr 2 (v0R.fMasters.map TMaster.D) true]) (fun _ => True) (fun _ => 0) ()
      (Weak.trans (Weak.adoptM 2 [] [.nils] rfl rfl 5 true) (Weak.trans (Weak.adoptM 2 [.own 3 0 0] [] rfl rfl 2 true) (Weak.cov ?_ ?_ ?_))) trivial ?_
    · (repeat' (first | exact trivial | with_reducible rfl | (refine ⟨?_, ?_⟩) | rfl))
    · (repeat' (first | exact trivial | with_reducible rfl | (refine ⟨?_, ?_⟩) | rfl))
    · rfl
    intro _ _
    (conv => whnf)
    (repeat' (first | (refine stg_ ?_) | (refine cla_ (c2) ?_) | (refine cla_ (c3) ?_) | (refine br_ (fun hbr => ?_) (fun hbr => ?_))))
    all_goals try (exfalso; omega)
    all_goals first | (exfalso; exact hbr trivial) | (refine ⟨⟨[some 3, some 4], ⟨by decide, rfl, trivial, by decide, rfl, trivial, trivial⟩, by decide, ⟨_, rfl, rfl, ?_⟩⟩⟩; (repeat' (first | ((conv => whnf); done) | ((conv => whnf); (first | (exact ⟨by decide, rfl⟩) | (exact ⟨rfl, rfl⟩) | (refine ⟨_, _, rfl, ?_, ?_⟩) | (refine ⟨_, rfl, ?_⟩) | rfl)))))
  by_cases hc : c = 10
  rotate_left
  · have c1 := textLines_no s hs e hc
    obtain ⟨rfl, rfl⟩ := hR.no (rv_end e hc)
    (conv => whnf)
    (repeat' (first | (refine stg_ ?_) | (refine cla_ (c1) ?_) | (refine br_ (fun hbr => ?_) (fun hbr => ?_))))
    all_goals (refine RetOK.t rfl ?_; (repeat' (first | ((conv => whnf); done) | ((conv => whnf); (first | (exact ⟨by decide, rfl⟩) | (exact ⟨rfl, rfl⟩) | (refine ⟨_, _, rfl, ?_, ?_⟩) | (refine ⟨_, rfl, ?_⟩) | rfl)))))
  subst hc
  have c1 := textLines_v s hs e
  have hln := lnR_at e
  rw [← hln] at c1
  have hlc : (lnR s).length ≤ 1048577 := by
    rw [hln, spB_len, mkS_toList]
    have := List.count_le_length (a := (10 : UInt8)) (l := t)
    have h2 := congrArg List.length e
    simp at h2
    omega
  have hlz : ∀ w ∈ lnR s, w.size ≤ 1048576 := fun w hw => by
    rw [hln] at hw
    have h1 := spB_le 10 (mkS t) w hw
    rw [mkS_size] at h1
    have h2 := congrArg List.length e
    simp at h2
    omega
  obtain ⟨ls, hls⟩ : ∃ ls, ls = lnR s := ⟨_, rfl⟩
  rw [← hls] at c1 hlc hlz
  have hLl : (ls.map D.str).length = ls.length := List.length_map _
  (conv => whnf)
  repeat' (first | ((fail_if_success (with_reducible apply RegD.id)); (refine stg_ ?_)) | (refine cla_ (c1) ?_))
  refine LoopW.go (α := Nat × TVariation) (fun p => [(0, .d (.str s)), (2, .pB 1 [] 0), (6, .pB 3 [] 0), (17, .own 2 0 ls.length), (18, .d (.int .i64 ls.length)), (19, .d (.int .i64 ((p.1 : Nat) : Int)))]) (fun p => [.gone, .box (.st [.nils, .nils]), .arr 1 (ls.map D.str) true, .box (.st [.own 4 0 p.2.fAxes.length, .own 5 0 p.2.fMasters.length]), .arr 5 (p.2.fAxes.map TAxis.D) true, .arr 2 (p.2.fMasters.map mR) true]) (fun p => p.1 ≤ ls.length ∧ foldO v0R (ls.take p.1) = some p.2 ∧ SzV p.2 p.1) (fun p => ls.length - p.1) (0, v0R)
    (Weak.trans (Weak.adoptM 3 [] [.nils] rfl rfl 5 true) (Weak.trans (Weak.adoptM 3 [.own 4 0 0] [] rfl rfl 2 true) (Weak.cov ?_ ?_ ?_))) ⟨by simp, rfl, ⟨by simp [v0R], by simp [v0R], by simp [v0R]⟩⟩ ?_
  · (repeat' (first | exact trivial | with_reducible rfl | (refine ⟨?_, ?_⟩) | rfl))
  · (repeat' (first | exact trivial | with_reducible rfl | (refine ⟨?_, ?_⟩) | rfl))
  · rfl
  rintro ⟨k, v⟩ ⟨k1, k2, k3⟩
  dsimp only at k1 k2 k3 ⊢
  have ha := k3.a
  have hm := k3.m
  (conv => whnf)
  (repeat (refine stg_ ?_))
  (refine br_ (fun h3 => ?_) (fun h3 => ?_))
  · obtain ⟨w, hw'⟩ := at_lt' (xs := ls) (k := k) (by omega)
    have hew : (ls.map D.str)[k]? = some (.str w) := by rw [List.getElem?_map, hw']; rfl
    have hwz := hlz w (List.mem_of_getElem? hw')
    (repeat (refine stg_ ?_))
    refine CallW.res (rvl_v s ls k v w ?_ hwz (by omega) (by omega) (fun m hmm => by have := k3.d m hmm; omega)) ?_
    · (repeat' (first | exact trivial | with_reducible rfl | (refine ⟨?_, ?_⟩) | rfl))
    rintro u e1 h1 (⟨rfl, v', hst, hW⟩ | ⟨rfl, hst, hW⟩)
    · refine ⟨rfl, WeakX.of hW ?_⟩
      (conv => whnf)
      (repeat (refine stg_ ?_))
      exact NextW.go (k + 1, v') covT_ ⟨by dsimp only; omega, by dsimp only; rw [take_snoc_get hw', foldO_snoc k2, hst], szV_stp k3 hst⟩ (by dsimp only; omega)
    · refine ⟨rfl, WeakX.of hW ?_⟩
      obtain ⟨rfl, rfl⟩ := hR.no (rv_no (by rw [← hls]; exact foldO_bad k2 hw' hst))
      (conv => whnf)
      (repeat (refine stg_ ?_))
      (refine RetOK.t rfl ?_; (repeat' (first | ((conv => whnf); done) | ((conv => whnf); (first | (exact ⟨by decide, rfl⟩) | (exact ⟨rfl, rfl⟩) | (refine ⟨_, _, rfl, ?_, ?_⟩) | (refine ⟨_, rfl, ?_⟩) | rfl)))))
  · have hk : k = ls.length := by omega
    rw [hk, List.take_length, hls] at k2
    have hrv := rv_some k2
    have hLa : (v.fAxes.map TAxis.D).length = v.fAxes.length := List.length_map _
    have hLm : (v.fMasters.map TMaster.D).length = v.fMasters.length := List.length_map _
    have c2 := wellFormed_v v
    have c3 := VariationText_v v
    (repeat ((fail_if_success (with_reducible apply RegD.id)); (refine stg_ ?_)))
    (repeat (refine stg_ ?_))
    refine CallW.pre c2.fn (WeakX.of (e0 := [(VS, .tup [.st [.own 4 0 v.fAxes.length, .own 5 0 v.fMasters.length]]), (0, .d (.str s)), (2, .pB 1 [] 0), (6, .pB 3 [] 0)]) (h0 := [.gone, .box (.st [.nils, .nils]), .gone, .box (.st [.own 4 0 v.fAxes.length, .own 5 0 v.fMasters.length]), .arr 5 (v.fAxes.map TAxis.D) true, .arr 2 (v.fMasters.map TMaster.D) true]) (Weak.trans (Weak.cov (e' := [(VS, .tup [.st [.own 4 0 v.fAxes.length, .own 5 0 v.fMasters.length]]), (0, .d (.str s)), (2, .pB 1 [] 0), (6, .pB 3 [] 0)]) (h' := [.gone, .box (.st [.nils, .nils]), .gone, .box (.st [.own 4 0 v.fAxes.length, .own 5 0 v.fMasters.length]), .arr 5 (v.fAxes.map TAxis.D) true, .arr 2 (v.fMasters.map mR) true]) ?_ ?_ ?_) (Weak.rowM 5 rfl rfl)) ⟨_, _, rfl, rfl, ?_⟩)
    · (repeat' (first | exact trivial | with_reducible rfl | (refine ⟨?_, ?_⟩) | rfl))
    · (repeat' (first | exact trivial | with_reducible rfl | (refine ⟨?_, ?_⟩) | rfl))
    · rfl
    cases hwf : wfB v
    · rw [hwf] at c2
      rw [hwf, if_neg (by decide)] at hrv
      obtain ⟨rfl, rfl⟩ := hR.no hrv
      (repeat' (first | (refine stg_ ?_) | (refine cla_ (c2) ?_) | (refine br_ (fun hbr => ?_) (fun hbr => ?_))))
      (refine RetOK.t rfl ?_; (repeat' (first | ((conv => whnf); done) | ((conv => whnf); (first | (exact ⟨by decide, rfl⟩) | (exact ⟨rfl, rfl⟩) | (refine ⟨_, _, rfl, ?_, ?_⟩) | (refine ⟨_, rfl, ?_⟩) | rfl)))))
    rw [hwf] at c2
    rw [hwf, if_pos rfl] at hrv
    rw [show vtS v = txR v by rw [vtS, if_pos hwf]; rfl] at c3
    by_cases ht : txR v = s
    · rw [if_pos ht] at hrv
      obtain ⟨rfl, rfl⟩ := hR.own v hrv
      rw [ht] at c3
      (repeat' (first | (refine stg_ ?_) | (refine cla_ (c2) ?_) | (refine cla_ (c3) ?_) | (refine br_ (fun hbr => ?_) (fun hbr => ?_))))
      all_goals first | (exfalso; exact hbr trivial) | (refine ⟨⟨[some 4, some 5], ⟨by decide, rfl, trivial, by decide, rfl, trivial, trivial⟩, by decide, ⟨_, rfl, rfl, ?_⟩⟩⟩; (repeat' (first | ((conv => whnf); done) | ((conv => whnf); (first | (exact ⟨by decide, rfl⟩) | (exact ⟨rfl, rfl⟩) | (refine ⟨_, _, rfl, ?_, ?_⟩) | (refine ⟨_, rfl, ?_⟩) | rfl)))))
    · rw [if_neg ht] at hrv
      obtain ⟨rfl, rfl⟩ := hR.no hrv
      (repeat' (first | (refine stg_ ?_) | (refine cla_ (c2) ?_) | (refine cla_ (c3) ?_) | (refine br_ (fun hbr => ?_) (fun hbr => ?_))))
      all_goals first | (exfalso; exact ht (toL_inj hbr)) | (refine RetOK.t rfl ?_; (repeat' (first | ((conv => whnf); done) | ((conv => whnf); (first | (exact ⟨by decide, rfl⟩) | (exact ⟨rfl, rfl⟩) | (refine ⟨_, _, rfl, ?_, ?_⟩) | (refine ⟨_, rfl, ?_⟩) | rfl)))); done)
theorem pr_ends {us : List ByteArray} {u0 u1 : ByteArray} (h0 : us[0]? = some u0) (h1 : us[us.length - 1]? = some u1) : (match rnL us with
    | some [p, q] => some (⟨p, q⟩ : TAxisPoint)
    | _ => none) = if us.length = 2 then (match rdN u0.data.toList, rdN u1.data.toList with
      | some p, some q => some ⟨p, q⟩
      | _, _ => none) else none := by
  split
  · rename_i p q e
    have hl := rnL_len e
    rw [if_pos (show us.length = 2 from hl.symm)]
    match us, hl with
    | [v0, v1], _ =>
      obtain rfl : v0 = u0 := by simpa using h0
      obtain rfl : v1 = u1 := by simpa using h1
      rw [rnL] at e
      split at e
      · cases e
      · rename_i n hn
        rw [rnL] at e
        split at e
        · cases e
        · rename_i r hr
          split at hr
          · cases hr
          · rename_i m hm
            simp only [rnL] at hr
            cases hr
            cases e
            rw [hn, hm]
  · rename_i hno
    by_cases hl : us.length = 2
    · rw [if_pos hl]
      match us, hl, hno with
      | [v0, v1], _, hno =>
        obtain rfl : v0 = u0 := by simpa using h0
        obtain rfl : v1 = u1 := by simpa using h1
        cases ha : rdN v0.data.toList with
        | none => rfl
        | some p =>
          cases hb : rdN v1.data.toList with
          | none => rfl
          | some q =>
            exfalso
            refine hno p q ?_
            simp only [rnL, ha, hb]
    · rw [if_neg hl]
structure RwR (ws : List ByteArray) (v : V) (bs : List Blk) : Prop where
  own : ∀ a, aP ws = some a → axB a = true → v = .tup [.st [.d (.str a.fName), .d (.int .i64 a.fMin), .d (.int .i64 a.fDefault), .d (.int .i64 a.fMax), .own 1 0 a.fMap.length], .d (.bool true)] ∧ bs = [.arr 2 (a.fMap.map TAxisPoint.D) true]
  no : (∀ a, aP ws = some a → axB a = false) → v = .tup [.st [.d (.str .empty), .d (.int .i64 0), .d (.int .i64 0), .d (.int .i64 0), .nils], .d (.bool false)] ∧ bs = []
set_option maxHeartbeats 8000000 in
theorem l29Read_v (ws : List ByteArray) (hsz : ∀ w ∈ ws, w.size ≤ 1048576) (v : V) (bs : List Blk) (hR : RwR ws v bs) : PC Tryz.prog 21 [.d (.lst (ws.map D.str))] v bs := by
  refine pc_intro ttOk (by kernel_rfl) Tryz.func21 rfl (by kernel_rfl) (by kernel_rfl) (by kernel_rfl) (fun hw => ?_)
  have hL : (ws.map D.str).length = ws.length := List.length_map _
  by_cases h4 : ws.length < 4 ∨ 10 < ws.length
  · have hno : ∀ a, aP ws = some a → axB a = false := fun a ha => by
      have h1 := congrArg List.length (aP_text ha)
      rw [words_len] at h1
      cases hx : axB a with
      | false => rfl
      | true => have := (ax_sizes hx).2; omega
    obtain ⟨rfl, rfl⟩ := hR.no hno
    (conv => whnf)
    (repeat' (first | (refine stg_ ?_) | fail | (refine br_ (fun hbr => ?_) (fun hbr => ?_))))
    all_goals first | (exfalso; omega) | (refine ⟨⟨[], trivial, by decide, ⟨_, rfl, rfl, ?_⟩⟩⟩; (repeat' (first | ((conv => whnf); done) | ((conv => whnf); (first | (exact ⟨by decide, rfl⟩) | (exact ⟨rfl, rfl⟩) | (refine ⟨_, _, rfl, ?_, ?_⟩) | (refine ⟨_, rfl, ?_⟩) | rfl)))))
  obtain ⟨n, a, b, c, r, rfl⟩ : ∃ n a b c r, ws = n :: a :: b :: c :: r := by
    match ws, h4 with
    | n :: a :: b :: c :: r, _ => exact ⟨n, a, b, c, r, rfl⟩
    | [], h => exact absurd (by simp) h
    | [_], h => exact absurd (by simp) h
    | [_, _], h => exact absurd (by simp) h
    | [_, _, _], h => exact absurd (by simp) h
  have hwl : (n :: a :: b :: c :: r).length = r.length + 4 := rfl
  have hL' : ((n :: a :: b :: c :: r).map D.str).length = r.length + 4 := by simp
  have g0 : (n :: a :: b :: c :: r)[(0 : Int).toNat]? = some n := rfl
  have g1 : (n :: a :: b :: c :: r)[(1 : Int).toNat]? = some a := rfl
  have g2 : (n :: a :: b :: c :: r)[(2 : Int).toNat]? = some b := rfl
  have g3 : (n :: a :: b :: c :: r)[(3 : Int).toNat]? = some c := rfl
  have c1 := l01Number_v a
  have c2 := l01Number_v b
  have c3 := l01Number_v c
  have haP : aP (n :: a :: b :: c :: r) = match rnL [a, b, c] with
    | some [x, y, z] => match ptsL r with
      | some m => some ⟨n, x, y, z, m⟩
      | none => none
    | _ => none := rfl
  have hr3 : rnL [a, b, c] = match rdN a.data.toList, rdN b.data.toList, rdN c.data.toList with
    | some x, some y, some z => some [x, y, z]
    | _, _, _ => none := by
    simp only [rnL]
    cases rdN a.data.toList <;> cases rdN b.data.toList <;> cases rdN c.data.toList <;> rfl
  generalize rdN a.data.toList = oa at c1 hr3
  generalize rdN b.data.toList = ob at c2 hr3
  generalize rdN c.data.toList = oc at c3 hr3
  have hLr : (r.map D.str).length = r.length := List.length_map _
  rcases oa with _ | x
  rotate_left
  rcases ob with _ | y
  rotate_left
  rcases oc with _ | z
  rotate_left
  · have c1 : PC Tryz.prog 61 [.d (.str a)] (.tup [.d (.int .i64 x), .d (.bool true)]) [] := c1
    have c2 : PC Tryz.prog 61 [.d (.str b)] (.tup [.d (.int .i64 y), .d (.bool true)]) [] := c2
    have c3 : PC Tryz.prog 61 [.d (.str c)] (.tup [.d (.int .i64 z), .d (.bool true)]) [] := c3
    rw [hr3] at haP
    (conv => whnf)
    (repeat' (first | (refine stg_ ?_) | (refine cla_ (c1) ?_) | (refine cla_ (c2) ?_) | (refine cla_ (c3) ?_) | (refine br_ (fun hbr => ?_) (fun hbr => ?_))))
    all_goals try (exfalso; omega)
    refine LoopW.go (α := Nat × List TAxisPoint × Bool) (fun p => [(0, .d (.lst ((n :: a :: b :: c :: r).map D.str))), (2, .pB 1 [] 0), (10, .pB 2 [] 0), (11, .d (.bool p.2.2)), (12, .d (.int .i64 ((p.1 + 4 : Nat) : Int)))]) (fun p => [.gone, .box (.st [.d (.str .empty), .d (.int .i64 0), .d (.int .i64 0), .d (.int .i64 0), .nils]), .box (.st [.d (.str n), .d (.int .i64 x), .d (.int .i64 y), .d (.int .i64 z), .own 3 0 p.2.1.length]), .arr 2 (p.2.1.map TAxisPoint.D) true])
      (fun p => p.1 ≤ r.length ∧ p.2.1.length = p.1 ∧ (p.2.2 = true → ptsL (r.take p.1) = some p.2.1) ∧ (p.2.2 = false → ptsL r = none)) (fun p => r.length - p.1) (0, [], true) (Weak.trans (Weak.adoptL 2 [.d (.str n), .d (.int .i64 x), .d (.int .i64 y), .d (.int .i64 z)] rfl rfl 2 true) (Weak.cov ⟨rfl, rfl, rfl, rfl, rfl, trivial⟩ ⟨trivial, rfl, rfl, rfl, trivial⟩ rfl)) ⟨by simp, rfl, fun _ => rfl, fun h => by cases h⟩ ?_
    rintro ⟨k, ps, ok⟩ ⟨k1, k0, k2, k3⟩
    dsimp only at k1 k0 k2 k3 ⊢
    have hd : (ps.map TAxisPoint.D).length = ps.length := List.length_map _
    cases ok with
    | false =>
      obtain ⟨rfl, rfl⟩ := hR.no (fun q hq => by rw [haP, k3 rfl] at hq; cases hq)
      (conv => whnf)
      (repeat' (first | (refine stg_ ?_) | fail | (refine br_ (fun hbr => ?_) (fun hbr => ?_))))
      all_goals (refine ⟨⟨[], trivial, by decide, ⟨_, rfl, rfl, ?_⟩⟩⟩; (repeat' (first | ((conv => whnf); done) | ((conv => whnf); (first | (exact ⟨by decide, rfl⟩) | (exact ⟨rfl, rfl⟩) | (refine ⟨_, _, rfl, ?_, ?_⟩) | (refine ⟨_, rfl, ?_⟩) | rfl)))))
    | true =>
      have k2 := k2 rfl
      (conv => whnf)
      (repeat (refine stg_ ?_))
      (refine br_ (fun h2 => ?_) (fun h2 => ?_))
      · obtain ⟨w, hw'⟩ := at_lt' (xs := r) (k := k) (by omega)
        have he : (n :: a :: b :: c :: r)[k + 4]? = some w := hw'
        have hwz := hsz w (by simp [List.mem_of_getElem? hw'])
        have c4 := l01Split_v w 58 hwz
        have hwc := spB_len 58 w
        have hwc2 := List.count_le_length (a := (58 : UInt8)) (l := w.data.toList)
        have hwl2 : w.data.toList.length = w.size := Array.length_toList
        obtain ⟨us, hus⟩ : ∃ us, us = spB 58 w := ⟨_, rfl⟩
        rw [← hus] at c4 hwc
        have hbad : ptO w = none → ptsL r = none := fun h => ptsL_bad hw' h
        have hLu : (us.map D.str).length = us.length := List.length_map _
        obtain ⟨u0, hu0⟩ := at_lt' (xs := us) (k := 0) (by omega)
        obtain ⟨u1, hu1⟩ := at_lt' (xs := us) (k := us.length - 1) (by omega)
        have f0 : (us.map D.str)[0]? = some (.str u0) := by rw [List.getElem?_map, hu0]; rfl
        have f1 : (us.map D.str)[us.length - 1]? = some (.str u1) := by rw [List.getElem?_map, hu1]; rfl
        have f2 : (us.map D.str)[(((us.length : Nat) : Int) - 1).toNat]? = some (.str u1) := by rw [show (((us.length : Nat) : Int) - 1).toNat = us.length - 1 by omega]; exact f1
        have c5 := l01Number_v u0
        have c6 := l01Number_v u1
        have hpt : ptO w = if us.length = 2 then (match rdN u0.data.toList, rdN u1.data.toList with
          | some p, some q => some ⟨p, q⟩
          | _, _ => none) else none := by
          have := pr_ends hu0 hu1
          rw [hus] at this ⊢
          exact this
        generalize rdN u0.data.toList = o0 at c5 hpt
        generalize rdN u1.data.toList = o1 at c6 hpt
        (repeat' (first | (refine stg_ ?_) | (refine cla_ (c4) ?_) | (refine cla_ (c5) ?_) | (refine cla_ (c6) ?_) | (refine br_ (fun hbr => ?_) (fun hbr => ?_))))
        · by_cases h2l : us.length = 2
          · obtain ⟨p0, rfl⟩ := Option.isSome_iff_exists.1 (by assumption : o0.isSome = true)
            obtain ⟨p1, rfl⟩ := Option.isSome_iff_exists.1 (by assumption : o1.isSome = true)
            have hpo : ptO w = some ⟨p0, p1⟩ := by rw [hpt, if_pos h2l]
            refine NextW.go (k + 1, ps ++ [⟨p0, p1⟩], true) (Weak.cov ⟨rfl, rfl, rfl, ?_, rfl, trivial⟩ ⟨trivial, rfl, ?_, ?_, trivial⟩ rfl) ⟨by dsimp only; omega, by simp [k0], fun _ => by dsimp only; rw [take_snoc_get hw']; exact ptsL_snoc k2 hpo, fun h => by cases h⟩ (by dsimp only; omega)
            · exact congrArg (fun b => V.d (D.bool b)) (show (((us.length : Nat) : Int) == 2) = true by simp [h2l])
            · show _ = Blk.box (.st [_, _, _, _, .own 3 0 (ps ++ [_]).length])
              rw [List.length_append]; rfl
            · show _ = Blk.arr 2 ((ps ++ [_]).map TAxisPoint.D) true
              rw [List.map_append, ← hd, List.take_length]; rfl
          · have hpo : ptO w = none := by rw [hpt, if_neg h2l]
            refine NextW.go (k + 1, ps ++ [⟨o0.getD 0, o1.getD 0⟩], false) (Weak.cov ⟨rfl, rfl, rfl, ?_, rfl, trivial⟩ ⟨trivial, rfl, ?_, ?_, trivial⟩ rfl) ⟨by dsimp only; omega, by simp [k0], (fun h => by cases h), fun _ => hbad hpo⟩ (by dsimp only; omega)
            · exact congrArg (fun b => V.d (D.bool b)) (show (((us.length : Nat) : Int) == 2) = false by rw [beq_eq_false_iff_ne]; omega)
            · show _ = Blk.box (.st [_, _, _, _, .own 3 0 (ps ++ [_]).length])
              rw [List.length_append]; rfl
            · show _ = Blk.arr 2 ((ps ++ [_]).map TAxisPoint.D) true
              rw [List.map_append, ← hd, List.take_length]; rfl
        all_goals (
          have hpo : ptO w = none := by
            rw [hpt]
            split
            · revert hbr; cases o0 <;> cases o1 <;> first | (intro _; rfl) | (intro h; simp at h)
            · rfl
          refine NextW.go (k + 1, ps ++ [⟨o0.getD 0, o1.getD 0⟩], false) (Weak.cov ⟨rfl, rfl, rfl, ?_, rfl, trivial⟩ ⟨trivial, rfl, ?_, ?_, trivial⟩ rfl) ⟨by dsimp only; omega, by simp [k0], (fun h => by cases h), fun _ => hbad hpo⟩ (by dsimp only; omega)
          · first
            | rfl
            | (exact congrArg (fun b => V.d (D.bool b)) hbr)
          · show _ = Blk.box (.st [_, _, _, _, .own 3 0 (ps ++ [_]).length])
            rw [List.length_append]; rfl
          · show _ = Blk.arr 2 ((ps ++ [_]).map TAxisPoint.D) true
            rw [List.map_append, ← hd, List.take_length]; rfl)
      · have hk : k = r.length := by omega
        rw [hk, List.take_length] at k2
        rw [k2] at haP
        have haP' : aP (n :: a :: b :: c :: r) = some ⟨n, x, y, z, ps⟩ := haP
        have c7 := l29Axis_v ⟨n, x, y, z, ps⟩
        cases hax : axB ⟨n, x, y, z, ps⟩
        · obtain ⟨rfl, rfl⟩ := hR.no (fun q hq => by rw [haP'] at hq; cases hq; exact hax)
          rw [hax] at c7
          (repeat' (first | (refine stg_ ?_) | (refine cla_ (c7) ?_) | (refine br_ (fun hbr => ?_) (fun hbr => ?_))))
          all_goals (refine ⟨⟨[], trivial, by decide, ⟨_, rfl, rfl, ?_⟩⟩⟩; (repeat' (first | ((conv => whnf); done) | ((conv => whnf); (first | (exact ⟨by decide, rfl⟩) | (exact ⟨rfl, rfl⟩) | (refine ⟨_, _, rfl, ?_, ?_⟩) | (refine ⟨_, rfl, ?_⟩) | rfl)))))
        · obtain ⟨rfl, rfl⟩ := hR.own _ haP' hax
          rw [hax] at c7
          (repeat' (first | (refine stg_ ?_) | (refine cla_ (c7) ?_) | (refine br_ (fun hbr => ?_) (fun hbr => ?_))))
          all_goals (refine ⟨⟨[some 3], ⟨by decide, rfl, trivial, trivial⟩, by decide, ⟨_, rfl, rfl, ?_⟩⟩⟩; (repeat' (first | ((conv => whnf); done) | ((conv => whnf); (first | (exact ⟨by decide, rfl⟩) | (exact ⟨rfl, rfl⟩) | (refine ⟨_, _, rfl, ?_, ?_⟩) | (refine ⟨_, rfl, ?_⟩) | rfl)))))
  all_goals (obtain ⟨rfl, rfl⟩ := hR.no (fun q hq => by rw [haP, hr3] at hq; cases hq))
  all_goals (conv => whnf)
  all_goals ((repeat' (first | (refine stg_ ?_) | (refine cla_ (c1) ?_) | (refine cla_ (c2) ?_) | (refine cla_ (c3) ?_) | (refine br_ (fun hbr => ?_) (fun hbr => ?_)))))
  all_goals try (exfalso; omega)
  all_goals (refine LoopW.go (α := Unit) (fun _ => [(0, .d (.lst ((n :: a :: b :: c :: r).map D.str))), (2, .pB 1 [] 0), (11, .d (.bool false)), (12, .d (.int .i64 4))]) (fun p => [.gone, .box (.st [.d (.str .empty), .d (.int .i64 0), .d (.int .i64 0), .d (.int .i64 0), .nils])]) (fun _ => True) (fun _ => 0) () (Weak.cov ⟨rfl, rfl, rfl, rfl, trivial⟩ ⟨trivial, rfl, trivial⟩ rfl) trivial ?_)
  all_goals (intro _ _)
  all_goals (conv => whnf)
  all_goals ((repeat' (first | (refine stg_ ?_) | fail | (refine br_ (fun hbr => ?_) (fun hbr => ?_)))))
  all_goals (refine ⟨⟨[], trivial, by decide, ⟨_, rfl, rfl, ?_⟩⟩⟩; (repeat' (first | ((conv => whnf); done) | ((conv => whnf); (first | (exact ⟨by decide, rfl⟩) | (exact ⟨rfl, rfl⟩) | (refine ⟨_, _, rfl, ?_, ?_⟩) | (refine ⟨_, rfl, ?_⟩) | rfl)))))

theorem specReadDecimal_v (s : ByteArray) : PC Tryz.prog 127 [.d (.str s)] (.tup [.d (.int .i64 ((rdN s.data.toList).getD 0)), .d (.bool (rdN s.data.toList).isSome)]) [] := by
  refine pc_intro ttOk (by kernel_rfl) Tryz.func127 rfl (by kernel_rfl) (by kernel_rfl) (by kernel_rfl) (fun hw => ?_)
  have c1 := l01Number_v s
  (conv => whnf)
  (repeat' (first | (refine stg_ ?_) | (refine cla_ (c1) ?_) | (refine br_ (fun hbr => ?_) (fun hbr => ?_))))
  all_goals (refine RetOK.t rfl ?_; (repeat' (first | ((conv => whnf); done) | ((conv => whnf); (first | (exact ⟨by decide, rfl⟩) | (exact ⟨rfl, rfl⟩) | (refine ⟨_, _, rfl, ?_, ?_⟩) | (refine ⟨_, rfl, ?_⟩) | rfl)))))
set_option maxRecDepth 100000 in
set_option maxHeartbeats 4000000 in
theorem specReadPt_v (s : ByteArray) (hs : s.size ≤ 1048576) : PC Tryz.prog 63 [.d (.str s)] (.tup [.d ((ptR s).getD ⟨0, 0⟩).D, .d (.bool (ptR s).isSome)]) [] := by
  refine pc_intro ttOk (by kernel_rfl) Tryz.func63 rfl (by kernel_rfl) (by kernel_rfl) (by kernel_rfl) (fun hw => ?_)
  have c1 := l01Split_v s 44 hs
  have hn := spB_len 44 s
  have hl : s.data.toList.length = s.size := Array.length_toList
  have hcl := List.count_le_length (a := (44 : UInt8)) (l := s.data.toList)
  have hp : ptR s = match rnL (spB 44 s) with
    | some [x, y] => if pntB ⟨x, y⟩ = true then some ⟨x, y⟩ else none
    | _ => none := rfl
  obtain ⟨us, hus⟩ : ∃ us, us = spB 44 s := ⟨_, rfl⟩
  rw [← hus] at c1 hn hp
  have hLu : (us.map D.str).length = us.length := List.length_map _
  by_cases h2 : us.length = 2
  rotate_left
  · have hno : ptR s = none := by
      rw [hp]
      split
      · rename_i x y e
        have := rnL_len e
        exact absurd this.symm h2
      · rfl
    rw [hno]
    (conv => whnf)
    (repeat' (first | (refine stg_ ?_) | (refine cla_ (c1) ?_) | (refine br_ (fun hbr => ?_) (fun hbr => ?_))))
    all_goals first | (exfalso; omega) | (refine RetOK.t rfl ?_; (repeat' (first | ((conv => whnf); done) | ((conv => whnf); (first | (exact ⟨by decide, rfl⟩) | (exact ⟨rfl, rfl⟩) | (refine ⟨_, _, rfl, ?_, ?_⟩) | (refine ⟨_, rfl, ?_⟩) | (refine ⟨rfl, ?_⟩) | rfl)))); done)
  obtain ⟨a, b, rfl⟩ : ∃ a b, us = [a, b] := by
    match us, h2 with
    | [a, b], _ => exact ⟨a, b, rfl⟩
  have e0 : ([a, b].map D.str)[(0 : Int).toNat]? = some (.str a) := rfl
  have e1 : ([a, b].map D.str)[(1 : Int).toNat]? = some (.str b) := rfl
  have c2 := specReadDecimal_v a
  have c3 := specReadDecimal_v b
  rw [rnL_two] at hp
  rw [hp]
  generalize rdN a.data.toList = oa at c2 ⊢
  generalize rdN b.data.toList = ob at c3 ⊢
  have c4 := l03Ok_v ⟨oa.getD 0, ob.getD 0⟩
  rcases oa with _ | x
  · (conv => whnf)
    (repeat' (first | (refine stg_ ?_) | (refine cla_ (c1) ?_) | (refine cla_ (c2) ?_) | (refine cla_ (c3) ?_) | (refine cla_ (c4) ?_) | (refine br_ (fun hbr => ?_) (fun hbr => ?_))))
    all_goals first | (exfalso; simp_all; done) | (refine RetOK.t rfl ?_; (repeat' (first | ((conv => whnf); done) | ((conv => whnf); (first | (exact ⟨by decide, rfl⟩) | (exact ⟨rfl, rfl⟩) | (refine ⟨_, _, rfl, ?_, ?_⟩) | (refine ⟨_, rfl, ?_⟩) | (refine ⟨rfl, ?_⟩) | rfl)))); done)
  rcases ob with _ | y
  · (conv => whnf)
    (repeat' (first | (refine stg_ ?_) | (refine cla_ (c1) ?_) | (refine cla_ (c2) ?_) | (refine cla_ (c3) ?_) | (refine cla_ (c4) ?_) | (refine br_ (fun hbr => ?_) (fun hbr => ?_))))
    all_goals first | (exfalso; simp_all; done) | (refine RetOK.t rfl ?_; (repeat' (first | ((conv => whnf); done) | ((conv => whnf); (first | (exact ⟨by decide, rfl⟩) | (exact ⟨rfl, rfl⟩) | (refine ⟨_, _, rfl, ?_, ?_⟩) | (refine ⟨_, rfl, ?_⟩) | (refine ⟨rfl, ?_⟩) | rfl)))); done)
  have c4 : PC Tryz.prog 128 [.d (TPt.D ⟨x, y⟩)] (.d (.bool (pntB ⟨x, y⟩))) [] := c4
  cases hpn : pntB ⟨x, y⟩ <;> rw [hpn] at c4
  · (conv => whnf)
    (repeat' (first | (refine stg_ ?_) | (refine cla_ (c1) ?_) | (refine cla_ (c2) ?_) | (refine cla_ (c3) ?_) | (refine cla_ (c4) ?_) | (refine br_ (fun hbr => ?_) (fun hbr => ?_))))
    all_goals first | (exfalso; simp_all; done) | (dsimp only; rw [hpn]; refine RetOK.t rfl ?_; (repeat' (first | ((conv => whnf); done) | ((conv => whnf); (first | (exact ⟨by decide, rfl⟩) | (exact ⟨rfl, rfl⟩) | (refine ⟨_, _, rfl, ?_, ?_⟩) | (refine ⟨_, rfl, ?_⟩) | (refine ⟨rfl, ?_⟩) | rfl)))); done)
  · (conv => whnf)
    (repeat' (first | (refine stg_ ?_) | (refine cla_ (c1) ?_) | (refine cla_ (c2) ?_) | (refine cla_ (c3) ?_) | (refine cla_ (c4) ?_) | (refine br_ (fun hbr => ?_) (fun hbr => ?_))))
    all_goals first | (exfalso; simp_all; done) | (dsimp only; rw [hpn]; refine RetOK.t rfl ?_; (repeat' (first | ((conv => whnf); done) | ((conv => whnf); (first | (exact ⟨by decide, rfl⟩) | (exact ⟨rfl, rfl⟩) | (refine ⟨_, _, rfl, ?_, ?_⟩) | (refine ⟨_, rfl, ?_⟩) | (refine ⟨rfl, ?_⟩) | rfl)))); done)
theorem pkR_at {us : List ByteArray} {w a b c : ByteArray} (hus : us = spB 58 w) (h : us = [a, b, c]) : pkR w = match rdN a.data.toList, rdN b.data.toList, rdN c.data.toList with
    | some x, some y, some z => some ⟨x, y, z⟩
    | _, _, _ => none := by
  rw [pkR, ← hus, h]
  simp only [rnL]
  cases rdN a.data.toList <;> cases rdN b.data.toList <;> cases rdN c.data.toList <;> rfl
theorem pkR_len {us : List ByteArray} {w : ByteArray} (hus : us = spB 58 w) (h : us.length ≠ 3) : pkR w = none := by
  rw [pkR, ← hus]
  split
  · rename_i a b c e
    exact absurd (rnL_len e).symm h
  · rfl
set_option maxRecDepth 100000 in
set_option maxHeartbeats 8000000 in
theorem l30Master_v (k0 : ByteArray) (r : List ByteArray) (hsz : ∀ w ∈ r, w.size ≤ 1048576) (hn : r.length ≤ 1048577) (v : V) (bs : List Blk)
    (h0 : ∀ ps, mapO pkR r = some ps → r.length ≤ 3 → v = .tup [.st [.own 1 0 ps.length, .nils], .d (.bool true)] ∧ bs = [.arr 3 (ps.map TPeak.D) true])
    (h1 : mapO pkR r = none ∨ 3 < r.length → v = .tup [.st [.nils, .nils], .d (.bool false)] ∧ bs = []) : PC Tryz.prog 22 [.d (.lst ((k0 :: r).map D.str))] v bs := by
  refine pc_intro ttOk (by kernel_rfl) Tryz.func22 rfl (by kernel_rfl) (by kernel_rfl) (by kernel_rfl) (fun hw => ?_)
  have hL : ((k0 :: r).map D.str).length = r.length + 1 := by simp
  (conv => whnf)
  (repeat (refine stg_ ?_))
  refine LoopW.go (α := Nat × List TPeak) (fun p => [(0, .d (.lst ((k0 :: r).map D.str))), (2, .pB 1 [] 0), (4, .pB 2 [] 0), (5, .d (.int .i64 ((p.1 + 1 : Nat) : Int)))]) (fun p => [.gone, .box (.st [.nils, .nils]), .box (.st [.own 3 0 p.2.length, .nils]), .arr 3 (p.2.map TPeak.D) true])
    (fun p => p.1 ≤ r.length ∧ p.1 ≤ 3 ∧ mapO pkR (r.take p.1) = some p.2) (fun p => r.length - p.1) (0, []) (Weak.trans (Weak.adoptM 2 [] [.nils] rfl rfl 3 true) (Weak.cov ?_ ?_ ?_)) ⟨by simp, by simp, rfl⟩ ?_
  · (repeat' (first | exact trivial | with_reducible rfl | (refine ⟨?_, ?_⟩) | rfl))
  · (repeat' (first | exact trivial | with_reducible rfl | (refine ⟨?_, ?_⟩) | rfl))
  · rfl
  rintro ⟨k, ps⟩ ⟨k1, k3, k2⟩
  dsimp only at k1 k2 k3 ⊢
  have hpl := mapO_len k2
  rw [List.length_take] at hpl
  have hdp : (ps.map TPeak.D).length = ps.length := List.length_map _
  (conv => whnf)
  (repeat (refine stg_ ?_))
  (refine br_ (fun h3 => ?_) (fun h3 => ?_))
  · obtain ⟨x, hx⟩ := at_lt' (xs := r) (k := k) (by omega)
    have hex : ((k0 :: r).map D.str)[k + 1]? = some (.str x) := by
      show (r.map D.str)[k]? = _
      rw [List.getElem?_map, hx]; rfl
    have hxz := hsz x (List.mem_of_getElem? hx)
    have c1 := l01Split_v x 58 hxz
    have hxl : x.data.toList.length = x.size := Array.length_toList
    have hxc := List.count_le_length (a := (58 : UInt8)) (l := x.data.toList)
    have hxn := spB_len 58 x
    obtain ⟨us, hus⟩ : ∃ us, us = spB 58 x := ⟨_, rfl⟩
    rw [← hus] at c1 hxn
    have hbad : pkR x = none → mapO pkR r = none := fun h => mapO_bad hx h
    have hLu : (us.map D.str).length = us.length := List.length_map _
    by_cases hu3 : us.length = 3 ∧ k + 1 ≤ 3
    rotate_left
    · have hno : mapO pkR r = none ∨ 3 < r.length := by
        by_cases h : us.length = 3
        · exact .inr (by omega)
        · exact .inl (hbad (pkR_len hus h))
      obtain ⟨rfl, rfl⟩ := h1 hno
      (repeat' (first | (refine stg_ ?_) | (refine cla_ (c1) ?_) | (refine br_ (fun hbr => ?_) (fun hbr => ?_))))
      all_goals first | (exfalso; omega) | (refine RetOK.t rfl ?_; (repeat' (first | ((conv => whnf); done) | ((conv => whnf); (first | (exact ⟨by decide, rfl⟩) | (exact ⟨rfl, rfl⟩) | (refine ⟨_, _, rfl, ?_, ?_⟩) | (refine ⟨_, rfl, ?_⟩) | rfl)))); done)
    obtain ⟨hu3, hk3⟩ := hu3
    obtain ⟨a, b, c, hue⟩ : ∃ a b c, us = [a, b, c] := by
      match us, hu3 with
      | [a, b, c], _ => exact ⟨a, b, c, rfl⟩
    have hpk := pkR_at hus hue
    have e0 : (us.map D.str)[(0 : Int).toNat]? = some (.str a) := by rw [hue]; rfl
    have e1 : (us.map D.str)[(1 : Int).toNat]? = some (.str b) := by rw [hue]; rfl
    have e2 : (us.map D.str)[(2 : Int).toNat]? = some (.str c) := by rw [hue]; rfl
    have c2 := l01Number_v a
    have c3 := l01Number_v b
    have c4 := l01Number_v c
    generalize rdN a.data.toList = oa at c2 hpk
    generalize rdN b.data.toList = ob at c3 hpk
    generalize rdN c.data.toList = oc at c4 hpk
    by_cases hall : oa.isSome = true ∧ ob.isSome = true ∧ oc.isSome = true
    · obtain ⟨h5, h6, h7⟩ := hall
      obtain ⟨x1, rfl⟩ := Option.isSome_iff_exists.1 h5
      obtain ⟨x2, rfl⟩ := Option.isSome_iff_exists.1 h6
      obtain ⟨x3, rfl⟩ := Option.isSome_iff_exists.1 h7
      have hap : (ps.map TPeak.D).take ps.length ++ [TPeak.D ⟨x1, x2, x3⟩] = (ps ++ [(⟨x1, x2, x3⟩ : TPeak)]).map TPeak.D := by
        rw [List.take_of_length_le (by omega), List.map_append]; rfl
      have hab : Blk.arr 3 ((ps.map TPeak.D).take ps.length ++ [TPeak.D ⟨x1, x2, x3⟩]) true = Blk.arr 3 ((ps ++ [(⟨x1, x2, x3⟩ : TPeak)]).map TPeak.D) true := by rw [hap]
      (repeat' (first | (refine stg_ ?_) | (refine cla_ (c1) ?_) | (refine cla_ (c2) ?_) | (refine cla_ (c3) ?_) | (refine cla_ (c4) ?_) | (refine br_ (fun hbr => ?_) (fun hbr => ?_))))
      all_goals try (exfalso; omega)
      refine NextW.go (k + 1, ps ++ [⟨x1, x2, x3⟩]) (Weak.cov ?_ ?_ ?_) ⟨by dsimp only; omega, by dsimp only; omega, by dsimp only; rw [take_snoc_get hx]; exact mapO_snoc k2 hpk⟩ (by dsimp only; omega)
      · (repeat' (first | exact trivial | with_reducible rfl | (refine ⟨?_, ?_⟩) | rfl))
      · dsimp only
        rw [List.length_append, List.length_singleton]
        (repeat' (first | exact trivial | with_reducible rfl | with_reducible exact hab | (refine ⟨?_, ?_⟩) | exact hab | rfl))
      · rfl
    · have hno := hbad (by
        rw [hpk]
        revert hall
        cases oa <;> cases ob <;> cases oc <;> first | (intro _; rfl) | (intro h; simp at h))
      obtain ⟨rfl, rfl⟩ := h1 (.inl hno)
      revert hall
      cases oa <;> cases ob <;> cases oc
      all_goals intro hall
      all_goals try (exfalso; exact hall ⟨rfl, rfl, rfl⟩)
      all_goals ((repeat' (first | (refine stg_ ?_) | (refine cla_ (c1) ?_) | (refine cla_ (c2) ?_) | (refine cla_ (c3) ?_) | (refine cla_ (c4) ?_) | (refine br_ (fun hbr => ?_) (fun hbr => ?_)))))
      all_goals first | (exfalso; omega) | (refine RetOK.t rfl ?_; (repeat' (first | ((conv => whnf); done) | ((conv => whnf); (first | (exact ⟨by decide, rfl⟩) | (exact ⟨rfl, rfl⟩) | (refine ⟨_, _, rfl, ?_, ?_⟩) | (refine ⟨_, rfl, ?_⟩) | rfl)))); done)
  · have hk : k = r.length := by omega
    rw [hk, List.take_length] at k2
    obtain ⟨rfl, rfl⟩ := h0 ps k2 (by omega)
    (repeat' (first | (refine stg_ ?_) | fail | (refine br_ (fun hbr => ?_) (fun hbr => ?_))))
    refine ⟨⟨[some 3], ⟨by decide, rfl, trivial, trivial⟩, by decide, ⟨_, rfl, rfl, ?_⟩⟩⟩
    (repeat' (first | ((conv => whnf); done) | ((conv => whnf); (first | (exact ⟨by decide, rfl⟩) | (exact ⟨rfl, rfl⟩) | (refine ⟨_, _, rfl, ?_, ?_⟩) | (refine ⟨_, rfl, ?_⟩) | rfl))))
end Go.Proofs.YtaldaoagjbapkaaGreatDoor