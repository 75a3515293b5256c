/- ValidVariation: both sides, by the machine. -/
import Derived.Test.YtfnnlipcclklnaaGreatInfY
import Derived.Test.YtfnnlipcclklnaaGreatGsZ
set_option linter.unusedSimpArgs false
set_option linter.unusedVariables false
namespace Go.Proofs.YtfnnlipcclklnaaGreat
open Go.RowKit
/-- a delta fits its glyph -/
def ltB (ns : List Int) (n : Int) : Bool := match ns[ns.length - 1]? with
  | some z => decide (z < n)
  | none => true
def dvB (gs : List TGlyph) (d : TGlyphDelta) : Bool := match gs[d.fGlyph.toNat]? with
  | none => false
  | some g => ltB d.fKnots (cnK g.fOutline.fLoops : Nat)
theorem l30Lst_v (ns : List Int) (n : Int) : PC Tryz.prog 76 [.d (.lst (ns.map (D.int .i64))), .d (.int .i64 n)] (.d (.bool (ltB ns n))) [] := l30Last_v ns n
/-- strictly rising numbers in bounds are not many -/
theorem knG_cnt : ∀ (ks : List Int) (o : Option Int) (b : Int), knG o ks = true → (∀ q, o = some q → b ≤ q + 1) → (∀ k ∈ ks, b ≤ k) → b ≤ 720 → (ks.length : Int) ≤ 720 - b
  | [], _, b, _, _, _, h => by simp; omega
  | x :: t, o, b, h, ho, hk, hb => by
    have h1 := knG_ri _ _ h
    simp only [knG, Bool.and_eq_true] at h
    have hx := h1.2 x (by simp)
    have hr := riG_lt (knG_ri _ _ h.2.2).1
    have := knG_cnt t (some x) (x + 1) h.2.2 (fun q e => by cases e; omega) (fun k hk => by have := hr k hk; omega) (by omega)
    have := hk x (by simp)
    rw [List.length_cons]
    omega
theorem gd_len {d : TGlyphDelta} (h : gdB d = true) : d.fKnots.length ≤ 720 := by
  have h1 : gdB d = (inB d.fGlyph 0 39 && (knG none d.fKnots && (decide (d.fKnots.length = d.fMoves.length) && (d.fMoves.all pntB && inB d.fAdvance (-262144) 262144)))) := rfl
  rw [h1] at h
  simp only [Bool.and_eq_true] at h
  have h2 := knG_ri _ _ h.2.1
  have := knG_cnt d.fKnots none 0 h.2.1 (fun q e => by cases e) (fun k hk => (h2.2 k hk).1) (by omega)
  omega
def vvB (v : TVariation) (s : TGlyphSet) : Bool := wfB v && (gsB s && v.fMasters.all fun m => m.fDeltas.all (dvB s.fGlyphs))
theorem wf_delta {v : TVariation} (h : wfB v = true) {m : TMaster} (hm : m ∈ v.fMasters) {d : TGlyphDelta} (hd : d ∈ m.fDeltas) : gdB d = true := by
  have h1 : wfB v = (axsB v.fAxes && (decide (v.fMasters.length ≤ 8) && v.fMasters.all (maB v.fAxes.length))) := rfl
  rw [h1] at h
  simp only [Bool.and_eq_true, List.all_eq_true] at h
  have h2 := h.2.2 m hm
  have h3 : maB v.fAxes.length m = (decide (m.fPeaks.length = v.fAxes.length) && (decide (m.fDeltas.length ≤ 20) && (m.fPeaks.all pkB && dsG none m.fDeltas))) := rfl
  rw [h3] at h2
  simp only [Bool.and_eq_true] at h2
  have key : ∀ (ds : List TGlyphDelta) (o : Option TGlyphDelta), dsG o ds = true → ∀ d ∈ ds, gdB d = true := by
    intro ds
    induction ds with
    | nil => intro _ _ d hd; simp at hd
    | cons x ds ih =>
      intro o h d hd
      simp only [dsG, Bool.and_eq_true] at h
      rcases List.mem_cons.1 hd with rfl | hd
      · exact h.1
      · exact ih _ h.2.2 d hd
  exact key _ _ h2.2.2.2 d hd
theorem wf_dlen {v : TVariation} (h : wfB v = true) {m : TMaster} (hm : m ∈ v.fMasters) : m.fPeaks.length = v.fAxes.length ∧ m.fDeltas.length ≤ 20 ∧ m.fPeaks.all pkB = true := by
  have h1 : wfB v = (axsB v.fAxes && (decide (v.fMasters.length ≤ 8) && v.fMasters.all (maB v.fAxes.length))) := rfl
  rw [h1] at h
  simp only [Bool.and_eq_true, List.all_eq_true] at h
  have h2 := h.2.2 m hm
  have h3 : maB v.fAxes.length m = (decide (m.fPeaks.length = v.fAxes.length) && (decide (m.fDeltas.length ≤ 20) && (m.fPeaks.all pkB && dsG none m.fDeltas))) := rfl
  rw [h3] at h2
  simp only [Bool.and_eq_true, decide_eq_true_eq] at h2
  exact ⟨h2.1, h2.2.1, h2.2.2.1⟩
theorem gd_glyph {d : TGlyphDelta} (h : gdB d = true) : 0 ≤ d.fGlyph ∧ d.fGlyph ≤ 39 := by
  have h1 : gdB d = (inB d.fGlyph 0 39 && (knG none d.fKnots && (decide (d.fKnots.length = d.fMoves.length) && (d.fMoves.all pntB && inB d.fAdvance (-262144) 262144)))) := rfl
  rw [h1] at h
  simp only [Bool.and_eq_true, inB, decide_eq_true_eq] at h
  omega
theorem gs_glyph {s : TGlyphSet} (h : gsB s = true) {g : TGlyph} (hg : g ∈ s.fGlyphs) : glB g = true := by
  have h1 : gsB s = (inB s.fUnit 16 16384 && (decide (s.fGlyphs.length ≤ 40) && (gsG [] s.fGlyphs && gordB (psG s.fGlyphs)))) := rfl
  rw [h1] at h
  simp only [Bool.and_eq_true] at h
  exact gsG_all h.2.2.1 g hg
theorem gl_out {g : TGlyph} (h : glB g = true) : outB g.fOutline = true := by
  simp only [glB, Bool.and_eq_true] at h
  exact h.2.2.2.1
set_option maxHeartbeats 4000000 in
theorem ValidVariation_v (v : TVariation) (s : TGlyphSet) : PC Tryz.prog 12 [.d v.D, .d s.D] (.d (.bool (vvB v s))) [] := by
  refine pc_intro ttOk (by kernel_rfl) Tryz.func12 rfl (by kernel_rfl) (by kernel_rfl) (by kernel_rfl) (fun hw => ?_)
  have hL : (v.fMasters.map TMaster.D).length = v.fMasters.length := List.length_map _
  have hLg : (s.fGlyphs.map TGlyph.D).length = s.fGlyphs.length := List.length_map _
  have hm : (v.fMasters.map TMaster.D).length ≤ 9223372036854775807 := hw.1.2.1.1
  have hm2 : (s.fGlyphs.map TGlyph.D).length ≤ 9223372036854775807 := hw.2.1.2.1.1
  have c0 := wellFormed_v v
  have c1 := ValidGlyphSet_v s
  have hG : vvB v s = (wfB v && (gsB s && v.fMasters.all fun m => m.fDeltas.all (dvB s.fGlyphs))) := rfl
  generalize vvB v s = RR at *
  cases hB : wfB v <;> rw [hB] at c0 hG
  · (conv => whnf)
    (repeat' (first | (refine stg_ ?_) | (refine cla_ (c0) ?_) | (refine cla_ (c1) ?_) | (refine br_ (fun hbr => ?_) (fun hbr => ?_))))
    all_goals first | (exfalso; simp_all; done) | ((refine RetOK.d rfl rfl ?_; conv => whnf); rw [hG]; rfl)
  cases hB2 : gsB s <;> rw [hB2] at c1 hG
  · (conv => whnf)
    (repeat' (first | (refine stg_ ?_) | (refine cla_ (c0) ?_) | (refine cla_ (c1) ?_) | (refine br_ (fun hbr => ?_) (fun hbr => ?_))))
    all_goals first | (exfalso; simp_all; done) | ((refine RetOK.d rfl rfl ?_; conv => whnf); rw [hG]; rfl)
  rw [Bool.true_and, Bool.true_and] at hG
  (conv => whnf)
  (repeat' (first | (refine stg_ ?_) | (refine cla_ (c0) ?_) | (refine cla_ (c1) ?_) | (refine br_ (fun hbr => ?_) (fun hbr => ?_))))
  all_goals first | (exfalso; simp_all; done) | skip
  clear c0 c1
  refine LoopW.go (α := Nat) (fun k => [(2, .pB 1 [] 0), (3, .pB 2 [] 0), (19, .d (.lst (v.fMasters.map TMaster.D))), (20, .d (.int .i64 (v.fMasters.map TMaster.D).length)), (21, .d (.int .i64 k))]) (fun k => [.gone, .box (.d v.D), .box (.d s.D)]) (fun k => k ≤ v.fMasters.length ∧ RR = (v.fMasters.drop k).all (fun m => m.fDeltas.all (dvB s.fGlyphs))) (fun k => v.fMasters.length - k) 0 covT_ ?_ (fun k hk => ?_)
  · exact ⟨by omega, hG⟩
  obtain ⟨hk1, hk2⟩ := hk
  (conv => whnf)
  (refine br_ (fun h2 => ?_) (fun h2 => ?_) <;> (repeat (refine stg_ ?_)))
  · obtain ⟨m, hx⟩ := at_lt' (xs := v.fMasters) (k := k) (by omega)
    rw [drop_at hx, List.all_cons] at hk2
    have hmm := List.mem_of_getElem? hx
    have hd20 := (wf_dlen hB hmm).2.1
    have hLd : (m.fDeltas.map TGlyphDelta.D).length = m.fDeltas.length := List.length_map _
    (repeat (refine stg_ ?_))
    refine LoopW.go (α := Nat) (fun j => [(2, .pB 1 [] 0), (3, .pB 2 [] 0), (19, .d (.lst (v.fMasters.map TMaster.D))), (20, .d (.int .i64 (v.fMasters.map TMaster.D).length)), (21, .d (.int .i64 k)), (26, .d (.lst (m.fDeltas.map TGlyphDelta.D))), (27, .d (.int .i64 (m.fDeltas.map TGlyphDelta.D).length)), (28, .d (.int .i64 j))]) (fun j => [.gone, .box (.d v.D), .box (.d s.D)]) (fun j => j ≤ m.fDeltas.length ∧ m.fDeltas.all (dvB s.fGlyphs) = (m.fDeltas.drop j).all (dvB s.fGlyphs)) (fun j => m.fDeltas.length - j) 0 covT_ ⟨by omega, rfl⟩ (fun j hj => ?_)
    obtain ⟨hj1, hj2⟩ := hj
    (conv => whnf)
    (refine br_ (fun h3 => ?_) (fun h3 => ?_) <;> (repeat (refine stg_ ?_)))
    · obtain ⟨d, hd⟩ := at_lt' (xs := m.fDeltas) (k := j) (by omega)
      rw [drop_at hd, List.all_cons] at hj2
      have hdB := gd_glyph (wf_delta hB hmm (List.mem_of_getElem? hd))
      have hk720 := gd_len (wf_delta hB hmm (List.mem_of_getElem? hd))
      have hLk : (d.fKnots.map (D.int .i64)).length = d.fKnots.length := List.length_map _
      rcases Nat.lt_or_ge d.fGlyph.toNat s.fGlyphs.length with hlt | hge
      · obtain ⟨g, hg⟩ := at_lt' (xs := s.fGlyphs) (k := d.fGlyph.toNat) hlt
        have c2 := knotCount_v g.fOutline (gl_out (gs_glyph hB2 (List.mem_of_getElem? hg)))
        have hg' : (s.fGlyphs.map TGlyph.D)[d.fGlyph.toNat]? = some g.D := by rw [List.getElem?_map, hg]; rfl
        rcases Nat.eq_zero_or_pos d.fKnots.length with hz | hz
        · have hv : dvB s.fGlyphs d = true := by rw [dvB, hg]; dsimp only; rw [ltB, List.getElem?_eq_none (by omega)]
          rw [hv, Bool.true_and] at hj2
          (repeat' (first | (refine stg_ ?_) | (refine cla_ (c2) ?_) | (refine IxW.at (by omega) hg' ?_; (conv => whnf)) | (refine br_ (fun hbr => ?_) (fun hbr => ?_))))
          all_goals first | (exfalso; omega) | (exact NextW.go (j + 1) covT_ ⟨by omega, hj2⟩ (by omega))
        · obtain ⟨z, hz1⟩ := at_lt' (xs := d.fKnots) (k := d.fKnots.length - 1) (by omega)
          have hz2 : (d.fKnots.map (D.int .i64))[(((d.fKnots.map (D.int .i64)).length : Int) - 1).toNat]? = some (.int .i64 z) := by
            have : (((d.fKnots.map (D.int .i64)).length : Int) - 1).toNat = d.fKnots.length - 1 := by omega
            rw [this, List.getElem?_map, hz1]; rfl
          have hv : dvB s.fGlyphs d = decide (z < (cnK g.fOutline.fLoops : Nat)) := by rw [dvB, hg]; dsimp only; rw [ltB, hz1]
          rw [hv] at hj2
          (repeat' (first | (refine stg_ ?_) | (refine cla_ (c2) ?_) | (refine IxW.at (by omega) hg' ?_; (conv => whnf)) | (refine IxW.at (by omega) hz2 ?_; (conv => whnf)) | (refine br_ (fun hbr => ?_) (fun hbr => ?_))))
          all_goals first | (exfalso; omega) | skip
          all_goals first | (exact NextW.go (j + 1) covT_ ⟨by omega, by rw [hj2, decide_eq_true (by omega)]; rfl⟩ (by omega)) | ((refine RetOK.d rfl rfl ?_; conv => whnf); rw [hk2, hj2, decide_eq_false (by omega)]; rfl)
      · have hv : dvB s.fGlyphs d = false := by rw [dvB, List.getElem?_eq_none hge]
        rw [hv] at hj2
        (repeat' (first | (refine stg_ ?_) | fail | (refine br_ (fun hbr => ?_) (fun hbr => ?_))))
        all_goals first | (exfalso; omega) | ((refine RetOK.d rfl rfl ?_; conv => whnf); rw [hk2, hj2]; rfl)
    · rw [List.drop_eq_nil_of_le (by omega)] at hj2
      rw [hj2] at hk2
      (repeat (refine stg_ ?_))
      exact NextW.go (k + 1) covT_ ⟨by omega, hk2⟩ (by omega)
  · (refine RetOK.d rfl rfl ?_; conv => whnf)
    rw [hk2, List.drop_eq_nil_of_le (by omega)]; rfl
set_option maxHeartbeats 4000000 in
theorem l30Ok_v (v : TVariation) (s : TGlyphSet) : PC Tryz.prog 34 [.pX v.D, .pX s.D] (.d (.bool (vvB v s))) [] := by
  refine pc_intro ttOk (by kernel_rfl) Tryz.func34 rfl (by kernel_rfl) (by kernel_rfl) (by kernel_rfl) (fun hw => ?_)
  have hL : (v.fMasters.map TMaster.D).length = v.fMasters.length := List.length_map _
  have hLg : (s.fGlyphs.map TGlyph.D).length = s.fGlyphs.length := List.length_map _
  have hm : (v.fMasters.map TMaster.D).length ≤ 9223372036854775807 := hw.1.2.1.1
  have hm2 : (s.fGlyphs.map TGlyph.D).length ≤ 9223372036854775807 := hw.2.1.2.1.1
  have c0 := l30Formed_v v
  have c1 := l17Ok_v s
  have hG : vvB v s = (wfB v && (gsB s && v.fMasters.all fun m => m.fDeltas.all (dvB s.fGlyphs))) := rfl
  generalize vvB v s = RR at *
  cases hB : wfB v <;> rw [hB] at c0 hG
  · (conv => whnf)
    (repeat' (first | (refine stg_ ?_) | (refine cla_ (c0) ?_) | (refine cla_ (c1) ?_) | (refine br_ (fun hbr => ?_) (fun hbr => ?_))))
    all_goals first | (exfalso; simp_all; done) | ((refine RetOK.d rfl rfl ?_; conv => whnf); rw [hG]; rfl)
  cases hB2 : gsB s <;> rw [hB2] at c1 hG
  · (conv => whnf)
    (repeat' (first | (refine stg_ ?_) | (refine cla_ (c0) ?_) | (refine cla_ (c1) ?_) | (refine br_ (fun hbr => ?_) (fun hbr => ?_))))
    all_goals first | (exfalso; simp_all; done) | ((refine RetOK.d rfl rfl ?_; conv => whnf); rw [hG]; rfl)
  rw [Bool.true_and, Bool.true_and] at hG
  (conv => whnf)
  (repeat' (first | (refine stg_ ?_) | (refine cla_ (c0) ?_) | (refine cla_ (c1) ?_) | (refine br_ (fun hbr => ?_) (fun hbr => ?_))))
  all_goals first | (exfalso; simp_all; done) | skip
  clear c0 c1
  refine LoopW.go (α := Nat) (fun k => [(0, .pX v.D), (1, .pX s.D), (5, .d (.int .i64 k))]) (fun k => [.gone]) (fun k => k ≤ v.fMasters.length ∧ RR = (v.fMasters.drop k).all (fun m => m.fDeltas.all (dvB s.fGlyphs))) (fun k => v.fMasters.length - k) 0 covT_ ?_ (fun k hk => ?_)
  · exact ⟨by omega, hG⟩
  obtain ⟨hk1, hk2⟩ := hk
  (conv => whnf)
  (refine br_ (fun h2 => ?_) (fun h2 => ?_) <;> (repeat (refine stg_ ?_)))
  · obtain ⟨m, hx⟩ := at_lt' (xs := v.fMasters) (k := k) (by omega)
    rw [drop_at hx, List.all_cons] at hk2
    have hmm := List.mem_of_getElem? hx
    have hd20 := (wf_dlen hB hmm).2.1
    have hLd : (m.fDeltas.map TGlyphDelta.D).length = m.fDeltas.length := List.length_map _
    (repeat (refine stg_ ?_))
    refine LoopW.go (α := Nat) (fun j => [(0, .pX v.D), (1, .pX s.D), (5, .d (.int .i64 k)), (6, .d (.int .i64 j))]) (fun j => [.gone]) (fun j => j ≤ m.fDeltas.length ∧ m.fDeltas.all (dvB s.fGlyphs) = (m.fDeltas.drop j).all (dvB s.fGlyphs)) (fun j => m.fDeltas.length - j) 0 covT_ ⟨by omega, rfl⟩ (fun j hj => ?_)
    obtain ⟨hj1, hj2⟩ := hj
    (conv => whnf)
    (repeat (refine stg_ ?_))
    (refine br_ (fun h3 => ?_) (fun h3 => ?_) <;> (repeat (refine stg_ ?_)))
    · obtain ⟨d, hd⟩ := at_lt' (xs := m.fDeltas) (k := j) (by omega)
      rw [drop_at hd, List.all_cons] at hj2
      have hdB := gd_glyph (wf_delta hB hmm (List.mem_of_getElem? hd))
      have hk720 := gd_len (wf_delta hB hmm (List.mem_of_getElem? hd))
      have hLk : (d.fKnots.map (D.int .i64)).length = d.fKnots.length := List.length_map _
      rcases Nat.lt_or_ge d.fGlyph.toNat s.fGlyphs.length with hlt | hge
      · obtain ⟨g, hg⟩ := at_lt' (xs := s.fGlyphs) (k := d.fGlyph.toNat) hlt
        have c2 := l30Count_v g.fOutline (gl_out (gs_glyph hB2 (List.mem_of_getElem? hg)))
        have c3 := l30Lst_v d.fKnots (cnK g.fOutline.fLoops : Nat)
        have hg' : (s.fGlyphs.map TGlyph.D)[d.fGlyph.toNat]? = some g.D := by rw [List.getElem?_map, hg]; rfl
        have hv : dvB s.fGlyphs d = ltB d.fKnots (cnK g.fOutline.fLoops : Nat) := by rw [dvB, hg]
        rw [hv] at hj2
        generalize ltB d.fKnots (cnK g.fOutline.fLoops : Nat) = LL at *
        cases LL
        · (repeat' (first | (refine stg_ ?_) | (refine cla_ (c2) ?_) | (refine cla_ (c3) ?_) | (refine IxW.at (by omega) hg' ?_; (conv => whnf)) | (refine br_ (fun hbr => ?_) (fun hbr => ?_))))
          all_goals first | (exfalso; omega) | (exfalso; simp_all; done) | ((refine RetOK.d rfl rfl ?_; conv => whnf); rw [hk2, hj2]; rfl)
        · rw [Bool.true_and] at hj2
          (repeat' (first | (refine stg_ ?_) | (refine cla_ (c2) ?_) | (refine cla_ (c3) ?_) | (refine IxW.at (by omega) hg' ?_; (conv => whnf)) | (refine br_ (fun hbr => ?_) (fun hbr => ?_))))
          all_goals first | (exfalso; omega) | (exfalso; simp_all; done) | (exact NextW.go (j + 1) covT_ ⟨by omega, hj2⟩ (by omega))
      · have hv : dvB s.fGlyphs d = false := by rw [dvB, List.getElem?_eq_none hge]
        rw [hv] at hj2
        (repeat' (first | (refine stg_ ?_) | fail | (refine br_ (fun hbr => ?_) (fun hbr => ?_))))
        all_goals first | (exfalso; omega) | ((refine RetOK.d rfl rfl ?_; conv => whnf); rw [hk2, hj2]; rfl)
    · rw [List.drop_eq_nil_of_le (by omega)] at hj2
      rw [hj2] at hk2
      (repeat (refine stg_ ?_))
      exact NextW.go (k + 1) covT_ ⟨by omega, hk2⟩ (by omega)
  · (refine RetOK.d rfl rfl ?_; conv => whnf)
    rw [hk2, List.drop_eq_nil_of_le (by omega)]; rfl
theorem specValidVariation_v (v : TVariation) (s : TGlyphSet) : PC Tryz.prog 9 [.d v.D, .d s.D] (.d (.bool (vvB v s))) [] := by
  refine pc_intro ttOk (by kernel_rfl) Tryz.func9 rfl (by kernel_rfl) (by kernel_rfl) (by kernel_rfl) (fun hw => ?_)
  (conv => whnf)
  (repeat' (first | (refine stg_ ?_) | (refine cla_ (l30Ok_v v s) ?_) | (refine br_ (fun hbr => ?_) (fun hbr => ?_))))
  (refine RetOK.d rfl rfl ?_; conv => whnf)
end Go.Proofs.YtfnnlipcclklnaaGreat
