/- merged: several parts in one text. Leans on no more than they do. -/
import Derived.Test.YtfnnlipcclklnaaGreatVarS
import Derived.Test.YtfnnlipcclklnaaGreatLVBase
import Derived.Test.YtfnnlipcclklnaaGreatLM
import Derived.Test.YtfnnlipcclklnaaGreatOtV
set_option linter.unusedSimpArgs false
set_option linter.unusedVariables false
namespace Go.Proofs.YtfnnlipcclklnaaGreat
open Go.RowKit
def ltB (ns : List Int) (n : Int) : Bool := match ns[ns.length - 1]? with
  | some z => decide (z < n)
  | none => true
def dvB (gs : List TGlyph) (d : TGlyphDelta) : Bool := match gs[d.fGlyph.toNat]? with
  | none => false
  | some g => ltB d.fKnots (cnK g.fOutline.fLoops : Nat)
theorem l30Lst_v (ns : List Int) (n : Int) : PC Tryz.prog 76 [.d (.lst (ns.map (D.int .i64))), .d (.int .i64 n)] (.d (.bool (ltB ns n))) [] := l30Last_v ns n
theorem knG_cnt : ∀ (ks : List Int) (o : Option Int) (b : Int), knG o ks = true → (∀ q, o = some q → b ≤ q + 1) → (∀ k ∈ ks, b ≤ k) → b ≤ 720 → (ks.length : Int) ≤ 720 - b
  | [], _, b, _, _, _, h => by simp; omega
  | x :: t, o, b, h, ho, hk, hb => by
    have h1 := knG_ri _ _ h
    simp only [knG, Bool.and_eq_true] at h
    have hx := h1.2 x (by simp)
    have hr := riG_lt (knG_ri _ _ h.2.2).1
    have := knG_cnt t (some x) (x + 1) h.2.2 (fun q e => by cases e; omega) (fun k hk => by have := hr k hk; omega) (by omega)
    have := hk x (by simp)
    rw [List.length_cons]
    omega
theorem gd_len {d : TGlyphDelta} (h : gdB d = true) : d.fKnots.length ≤ 720 := by
  have h1 : gdB d = (inB d.fGlyph 0 39 && (knG none d.fKnots && (decide (d.fKnots.length = d.fMoves.length) && (d.fMoves.all pntB && inB d.fAdvance (-262144) 262144)))) := rfl
  rw [h1] at h
  simp only [Bool.and_eq_true] at h
  have h2 := knG_ri _ _ h.2.1
  have := knG_cnt d.fKnots none 0 h.2.1 (fun q e => by cases e) (fun k hk => (h2.2 k hk).1) (by omega)
  omega
def vvB (v : TVariation) (s : TGlyphSet) : Bool := wfB v && (gsB s && v.fMasters.all fun m => m.fDeltas.all (dvB s.fGlyphs))
theorem wf_delta {v : TVariation} (h : wfB v = true) {m : TMaster} (hm : m ∈ v.fMasters) {d : TGlyphDelta} (hd : d ∈ m.fDeltas) : gdB d = true := by
  have h1 : wfB v = (axsB v.fAxes && (decide (v.fMasters.length ≤ 8) && v.fMasters.all (maB v.fAxes.length))) := rfl
  rw [h1] at h
  simp only [Bool.and_eq_true, List.all_eq_true] at h
  have h2 := h.2.2 m hm
  have h3 : maB v.fAxes.length m = (decide (m.fPeaks.length = v.fAxes.length) && (decide (m.fDeltas.length ≤ 20) && (m.fPeaks.all pkB && dsG none m.fDeltas))) := rfl
  rw [h3] at h2
  simp only [Bool.and_eq_true] at h2
  have key : ∀ (ds : List TGlyphDelta) (o : Option TGlyphDelta), dsG o ds = true → ∀ d ∈ ds, gdB d = true := by
    intro ds
    induction ds with
    | nil => intro _ _ d hd; simp at hd
    | cons x ds ih =>
      intro o h d hd
      simp only [dsG, Bool.and_eq_true] at h
      rcases List.mem_cons.1 hd with rfl | hd
      · exact h.1
      · exact ih _ h.2.2 d hd
  exact key _ _ h2.2.2.2 d hd
theorem wf_dlen {v : TVariation} (h : wfB v = true) {m : TMaster} (hm : m ∈ v.fMasters) : m.fPeaks.length = v.fAxes.length ∧ m.fDeltas.length ≤ 20 ∧ m.fPeaks.all pkB = true := by
  have h1 : wfB v = (axsB v.fAxes && (decide (v.fMasters.length ≤ 8) && v.fMasters.all (maB v.fAxes.length))) := rfl
  rw [h1] at h
  simp only [Bool.and_eq_true, List.all_eq_true] at h
  have h2 := h.2.2 m hm
  have h3 : maB v.fAxes.length m = (decide (m.fPeaks.length = v.fAxes.length) && (decide (m.fDeltas.length ≤ 20) && (m.fPeaks.all pkB && dsG none m.fDeltas))) := rfl
  rw [h3] at h2
  simp only [Bool.and_eq_true, decide_eq_true_eq] at h2
  exact ⟨h2.1, h2.2.1, h2.2.2.1⟩
theorem gd_glyph {d : TGlyphDelta} (h : gdB d = true) : 0 ≤ d.fGlyph ∧ d.fGlyph ≤ 39 := by
  have h1 : gdB d = (inB d.fGlyph 0 39 && (knG none d.fKnots && (decide (d.fKnots.length = d.fMoves.length) && (d.fMoves.all pntB && inB d.fAdvance (-262144) 262144)))) := rfl
  rw [h1] at h
  simp only [Bool.and_eq_true, inB, decide_eq_true_eq] at h
  omega
theorem gs_glyph {s : TGlyphSet} (h : gsB s = true) {g : TGlyph} (hg : g ∈ s.fGlyphs) : glB g = true := by
  have h1 : gsB s = (inB s.fUnit 16 16384 && (decide (s.fGlyphs.length ≤ 40) && (gsG [] s.fGlyphs && gordB (psG s.fGlyphs)))) := rfl
  rw [h1] at h
  simp only [Bool.and_eq_true] at h
  exact gsG_all h.2.2.1 g hg
theorem gl_out {g : TGlyph} (h : glB g = true) : outB g.fOutline = true := by
  simp only [glB, Bool.and_eq_true] at h
  exact h.2.2.2.1
set_option maxHeartbeats 4000000 in
theorem ValidVariation_v (v : TVariation) (s : TGlyphSet) : PC Tryz.prog 12 [.d v.D, .d s.D] (.d (.bool (vvB v s))) [] := by
  refine pc_intro ttOk (by kernel_rfl) Tryz.func12 rfl (by kernel_rfl) (by kernel_rfl) (by kernel_rfl) (fun hw => ?_)
  have hL : (v.fMasters.map TMaster.D).length = v.fMasters.length := List.length_map _
  have hLg : (s.fGlyphs.map TGlyph.D).length = s.fGlyphs.length := List.length_map _
  have hm : (v.fMasters.map TMaster.D).length ≤ 9223372036854775807 := hw.1.2.1.1
  have hm2 : (s.fGlyphs.map TGlyph.D).length ≤ 9223372036854775807 := hw.2.1.2.1.1
  have c0 := wellFormed_v v
  have c1 := ValidGlyphSet_v s
  have hG : vvB v s = (wfB v && (gsB s && v.fMasters.all fun m => m.fDeltas.all (dvB s.fGlyphs))) := rfl
  generalize vvB v s = RR at *
  cases hB : wfB v <;> rw [hB] at c0 hG
  · (conv => whnf)
    (repeat' (first | (refine stg_ ?_) | (refine cla_ (c0) ?_) | (refine cla_ (c1) ?_) | (refine br_ (fun hbr => ?_) (fun hbr => ?_))))
    all_goals first | (exfalso; simp_all; done) | ((refine RetOK.d rfl rfl ?_; conv => whnf); rw [hG]; rfl)
  cases hB2 : gsB s <;> rw [hB2] at c1 hG
  · (conv => whnf)
    (repeat' (first | (refine stg_ ?_) | (refine cla_ (c0) ?_) | (refine cla_ (c1) ?_) | (refine br_ (fun hbr => ?_) (fun hbr => ?_))))
    all_goals first | (exfalso; simp_all; done) | ((refine RetOK.d rfl rfl ?_; conv => whnf); rw [hG]; rfl)
  rw [Bool.true_and, Bool.true_and] at hG
  (conv => whnf)
  (repeat' (first | (refine stg_ ?_) | (refine cla_ (c0) ?_) | (refine cla_ (c1) ?_) | (refine br_ (fun hbr => ?_) (fun hbr => ?_))))
  all_goals first | (exfalso; simp_all; done) | skip
  clear c0 c1
  refine LoopW.go (α := Nat) (fun k => [(2, .pB 1 [] 0), (3, .pB 2 [] 0), (19, .d (.lst (v.fMasters.map TMaster.D))), (20, .d (.int .i64 (v.fMasters.map TMaster.D).length)), (21, .d (.int .i64 k))]) (fun k => [.gone, .box (.d v.D), .box (.d s.D)]) (fun k => k ≤ v.fMasters.length ∧ RR = (v.fMasters.drop k).all (fun m => m.fDeltas.all (dvB s.fGlyphs))) (fun k => v.fMasters.length - k) 0 covT_ ?_ (fun k hk => ?_)
  · exact ⟨by omega, hG⟩
  obtain ⟨hk1, hk2⟩ := hk
  (conv => whnf)
  (refine br_ (fun h2 => ?_) (fun h2 => ?_) <;> (repeat (refine stg_ ?_)))
  · obtain ⟨m, hx⟩ := at_lt' (xs := v.fMasters) (k := k) (by omega)
    rw [drop_at hx, List.all_cons] at hk2
    have hmm := List.mem_of_getElem? hx
    have hd20 := (wf_dlen hB hmm).2.1
    have hLd : (m.fDeltas.map TGlyphDelta.D).length = m.fDeltas.length := List.length_map _
    (repeat (refine stg_ ?_))
    refine LoopW.go (α := Nat) (fun j => [(2, .pB 1 [] 0), (3, .pB 2 [] 0), (19, .d (.lst (v.fMasters.map TMaster.D))), (20, .d (.int .i64 (v.fMasters.map TMaster.D).length)), (21, .d (.int .i64 k)), (26, .d (.lst (m.fDeltas.map TGlyphDelta.D))), (27, .d (.int .i64 (m.fDeltas.map TGlyphDelta.D).length)), (28, .d (.int .i64 j))]) (fun j => [.gone, .box (.d v.D), .box (.d s.D)]) (fun j => j ≤ m.fDeltas.length ∧ m.fDeltas.all (dvB s.fGlyphs) = (m.fDeltas.drop j).all (dvB s.fGlyphs)) (fun j => m.fDeltas.length - j) 0 covT_ ⟨by omega, rfl⟩ (fun j hj => ?_)
    obtain ⟨hj1, hj2⟩ := hj
    (conv => whnf)
    (refine br_ (fun h3 => ?_) (fun h3 => ?_) <;> (repeat (refine stg_ ?_)))
    · obtain ⟨d, hd⟩ := at_lt' (xs := m.fDeltas) (k := j) (by omega)
      rw [drop_at hd, List.all_cons] at hj2
      have hdB := gd_glyph (wf_delta hB hmm (List.mem_of_getElem? hd))
      have hk720 := gd_len (wf_delta hB hmm (List.mem_of_getElem? hd))
      have hLk : (d.fKnots.map (D.int .i64)).length = d.fKnots.length := List.length_map _
      rcases Nat.lt_or_ge d.fGlyph.toNat s.fGlyphs.length with hlt | hge
      · obtain ⟨g, hg⟩ := at_lt' (xs := s.fGlyphs) (k := d.fGlyph.toNat) hlt
        have c2 := knotCount_v g.fOutline (gl_out (gs_glyph hB2 (List.mem_of_getElem? hg)))
        have hg' : (s.fGlyphs.map TGlyph.D)[d.fGlyph.toNat]? = some g.D := by rw [List.getElem?_map, hg]; rfl
        rcases Nat.eq_zero_or_pos d.fKnots.length with hz | hz
        · have hv : dvB s.fGlyphs d = true := by rw [dvB, hg]; dsimp only; rw [ltB, List.getElem?_eq_none (by omega)]
          rw [hv, Bool.true_and] at hj2
          (repeat' (first | (refine stg_ ?_) | (refine cla_ (c2) ?_) | (refine IxW.at (by omega) hg' ?_; (conv => whnf)) | (refine br_ (fun hbr => ?_) (fun hbr => ?_))))
          all_goals first | (exfalso; omega) | (exact NextW.go (j + 1) covT_ ⟨by omega, hj2⟩ (by omega))
        · obtain ⟨z, hz1⟩ := at_lt' (xs := d.fKnots) (k := d.fKnots.length - 1) (by omega)
          have hz2 : (d.fKnots.map (D.int .i64))[(((d.fKnots.map (D.int .i64)).length : Int) - 1).toNat]? = some (.int .i64 z) := by
            have : (((d.fKnots.map (D.int .i64)).length : Int) - 1).toNat = d.fKnots.length - 1 := by omega
            rw [this, List.getElem?_map, hz1]; rfl
          have hv : dvB s.fGlyphs d = decide (z < (cnK g.fOutline.fLoops : Nat)) := by rw [dvB, hg]; dsimp only; rw [ltB, hz1]
          rw [hv] at hj2
          (repeat' (first | (refine stg_ ?_) | (refine cla_ (c2) ?_) | (refine IxW.at (by omega) hg' ?_; (conv => whnf)) | (refine IxW.at (by omega) hz2 ?_; (conv => whnf)) | (refine br_ (fun hbr => ?_) (fun hbr => ?_))))
          all_goals first | (exfalso; omega) | skip
          all_goals first | (exact NextW.go (j + 1) covT_ ⟨by omega, by rw [hj2, decide_eq_true (by omega)]; rfl⟩ (by omega)) | ((refine RetOK.d rfl rfl ?_; conv => whnf); rw [hk2, hj2, decide_eq_false (by omega)]; rfl)
      · have hv : dvB s.fGlyphs d = false := by rw [dvB, List.getElem?_eq_none hge]
        rw [hv] at hj2
        (repeat' (first | (refine stg_ ?_) | fail | (refine br_ (fun hbr => ?_) (fun hbr => ?_))))
        all_goals first | (exfalso; omega) | ((refine RetOK.d rfl rfl ?_; conv => whnf); rw [hk2, hj2]; rfl)
    · rw [List.drop_eq_nil_of_le (by omega)] at hj2
      rw [hj2] at hk2
      (repeat (refine stg_ ?_))
      exact NextW.go (k + 1) covT_ ⟨by omega, hk2⟩ (by omega)
  · (refine RetOK.d rfl rfl ?_; conv => whnf)
    rw [hk2, List.drop_eq_nil_of_le (by omega)]; rfl
set_option maxHeartbeats 4000000 in
theorem l30Ok_v (v : TVariation) (s : TGlyphSet) : PC Tryz.prog 34 [.pX v.D, .pX s.D] (.d (.bool (vvB v s))) [] := by
  refine pc_intro ttOk (by kernel_rfl) Tryz.func34 rfl (by kernel_rfl) (by kernel_rfl) (by kernel_rfl) (fun hw => ?_)
  have hL : (v.fMasters.map TMaster.D).length = v.fMasters.length := List.length_map _
  have hLg : (s.fGlyphs.map TGlyph.D).length = s.fGlyphs.length := List.length_map _
  have hm : (v.fMasters.map TMaster.D).length ≤ 9223372036854775807 := hw.1.2.1.1
  have hm2 : (s.fGlyphs.map TGlyph.D).length ≤ 9223372036854775807 := hw.2.1.2.1.1
  have c0 := l30Formed_v v
  have c1 := l17Ok_v s
  have hG : vvB v s = (wfB v && (gsB s && v.fMasters.all fun m => m.fDeltas.all (dvB s.fGlyphs))) := rfl
  generalize vvB v s = RR at *
  cases hB : wfB v <;> rw [hB] at c0 hG
  · (conv => whnf)
    (repeat' (first | (refine stg_ ?_) | (refine cla_ (c0) ?_) | (refine cla_ (c1) ?_) | (refine br_ (fun hbr => ?_) (fun hbr => ?_))))
    all_goals first | (exfalso; simp_all; done) | ((refine RetOK.d rfl rfl ?_; conv => whnf); rw [hG]; rfl)
  cases hB2 : gsB s <;> rw [hB2] at c1 hG
  · (conv => whnf)
    (repeat' (first | (refine stg_ ?_) | (refine cla_ (c0) ?_) | (refine cla_ (c1) ?_) | (refine br_ (fun hbr => ?_) (fun hbr => ?_))))
    all_goals first | (exfalso; simp_all; done) | ((refine RetOK.d rfl rfl ?_; conv => whnf); rw [hG]; rfl)
  rw [Bool.true_and, Bool.true_and] at hG
  (conv => whnf)
  (repeat' (first | (refine stg_ ?_) | (refine cla_ (c0) ?_) | (refine cla_ (c1) ?_) | (refine br_ (fun hbr => ?_) (fun hbr => ?_))))
  all_goals first | (exfalso; simp_all; done) | skip
  clear c0 c1
  refine LoopW.go (α := Nat) (fun k => [(0, .pX v.D), (1, .pX s.D), (5, .d (.int .i64 k))]) (fun k => [.gone]) (fun k => k ≤ v.fMasters.length ∧ RR = (v.fMasters.drop k).all (fun m => m.fDeltas.all (dvB s.fGlyphs))) (fun k => v.fMasters.length - k) 0 covT_ ?_ (fun k hk => ?_)
  · exact ⟨by omega, hG⟩
  obtain ⟨hk1, hk2⟩ := hk
  (conv => whnf)
  (refine br_ (fun h2 => ?_) (fun h2 => ?_) <;> (repeat (refine stg_ ?_)))
  · obtain ⟨m, hx⟩ := at_lt' (xs := v.fMasters) (k := k) (by omega)
    rw [drop_at hx, List.all_cons] at hk2
    have hmm := List.mem_of_getElem? hx
    have hd20 := (wf_dlen hB hmm).2.1
    have hLd : (m.fDeltas.map TGlyphDelta.D).length = m.fDeltas.length := List.length_map _
    (repeat (refine stg_ ?_))
    refine LoopW.go (α := Nat) (fun j => [(0, .pX v.D), (1, .pX s.D), (5, .d (.int .i64 k)), (6, .d (.int .i64 j))]) (fun j => [.gone]) (fun j => j ≤ m.fDeltas.length ∧ m.fDeltas.all (dvB s.fGlyphs) = (m.fDeltas.drop j).all (dvB s.fGlyphs)) (fun j => m.fDeltas.length - j) 0 covT_ ⟨by omega, rfl⟩ (fun j hj => ?_)
    obtain ⟨hj1, hj2⟩ := hj
    (conv => whnf)
    (repeat (refine stg_ ?_))
    (refine br_ (fun h3 => ?_) (fun h3 => ?_) <;> (repeat (refine stg_ ?_)))
    · obtain ⟨d, hd⟩ := at_lt' (xs := m.fDeltas) (k := j) (by omega)
      rw [drop_at hd, List.all_cons] at hj2
      have hdB := gd_glyph (wf_delta hB hmm (List.mem_of_getElem? hd))
      have hk720 := gd_len (wf_delta hB hmm (List.mem_of_getElem? hd))
      have hLk : (d.fKnots.map (D.int .i64)).length = d.fKnots.length := List.length_map _
      rcases Nat.lt_or_ge d.fGlyph.toNat s.fGlyphs.length with hlt | hge
      · obtain ⟨g, hg⟩ := at_lt' (xs := s.fGlyphs) (k := d.fGlyph.toNat) hlt
        have c2 := l30Count_v g.fOutline (gl_out (gs_glyph hB2 (List.mem_of_getElem? hg)))
        have c3 := l30Lst_v d.fKnots (cnK g.fOutline.fLoops : Nat)
        have hg' : (s.fGlyphs.map TGlyph.D)[d.fGlyph.toNat]? = some g.D := by rw [List.getElem?_map, hg]; rfl
        have hv : dvB s.fGlyphs d = ltB d.fKnots (cnK g.fOutline.fLoops : Nat) := by rw [dvB, hg]
        rw [hv] at hj2
        generalize ltB d.fKnots (cnK g.fOutline.fLoops : Nat) = LL at *
        cases LL
        · (repeat' (first | (refine stg_ ?_) | (refine cla_ (c2) ?_) | (refine cla_ (c3) ?_) | (refine IxW.at (by omega) hg' ?_; (conv => whnf)) | (refine br_ (fun hbr => ?_) (fun hbr => ?_))))
          all_goals first | (exfalso; omega) | (exfalso; simp_all; done) | ((refine RetOK.d rfl rfl ?_; conv => whnf); rw [hk2, hj2]; rfl)
        · rw [Bool.true_and] at hj2
          (repeat' (first | (refine stg_ ?_) | (refine cla_ (c2) ?_) | (refine cla_ (c3) ?_) | (refine IxW.at (by omega) hg' ?_; (conv => whnf)) | (refine br_ (fun hbr => ?_) (fun hbr => ?_))))
          all_goals first | (exfalso; omega) | (exfalso; simp_all; done) | (exact NextW.go (j + 1) covT_ ⟨by omega, hj2⟩ (by omega))
      · have hv : dvB s.fGlyphs d = false := by rw [dvB, List.getElem?_eq_none hge]
        rw [hv] at hj2
        (repeat' (first | (refine stg_ ?_) | fail | (refine br_ (fun hbr => ?_) (fun hbr => ?_))))
        all_goals first | (exfalso; omega) | ((refine RetOK.d rfl rfl ?_; conv => whnf); rw [hk2, hj2]; rfl)
    · rw [List.drop_eq_nil_of_le (by omega)] at hj2
      rw [hj2] at hk2
      (repeat (refine stg_ ?_))
      exact NextW.go (k + 1) covT_ ⟨by omega, hk2⟩ (by omega)
  · (refine RetOK.d rfl rfl ?_; conv => whnf)
    rw [hk2, List.drop_eq_nil_of_le (by omega)]; rfl
theorem divR_ge {n d c : Int} (hd : 0 < d) (h : c * d ≤ n) : c ≤ divR n d := by
  have h1 : c ≤ n / d := Int.le_ediv_of_mul_le hd h
  rw [divR_pos hd]
  split <;> omega
theorem divR_le' {n d c : Int} (hd : 0 < d) (h : n ≤ c * d) : divR n d ≤ c := divR_le hd h
theorem bt0_bnd {x a b c d m : Int} (hc : -m ≤ c ∧ c ≤ m) (hd : -m ≤ d ∧ d ≤ m) : -(3 * m) ≤ bt0 x a b c d ∧ bt0 x a b c d ≤ 3 * m := by
  unfold bt0
  split
  · split <;> omega
  · split
    · omega
    · split
      · omega
      · have hq : 0 < b - a := by omega
        have h1 : 0 ≤ x - a ∧ x - a ≤ b - a := by omega
        have h2 : -(2 * m) ≤ d - c ∧ d - c ≤ 2 * m := by omega
        have hm : 0 ≤ 2 * m := by omega
        have h3 : (x - a) * (d - c) ≤ (2 * m) * (b - a) := by
          have e1 : (x - a) * (d - c) ≤ (x - a) * (2 * m) := Int.mul_le_mul_of_nonneg_left h2.2 h1.1
          have e2 : (x - a) * (2 * m) ≤ (b - a) * (2 * m) := Int.mul_le_mul_of_nonneg_right h1.2 hm
          rw [Int.mul_comm (2 * m)]
          omega
        have h4 : -(2 * m) * (b - a) ≤ (x - a) * (d - c) := by
          have e1 : (x - a) * (-(2 * m)) ≤ (x - a) * (d - c) := Int.mul_le_mul_of_nonneg_left h2.1 h1.1
          have e2 : (x - a) * (2 * m) ≤ (b - a) * (2 * m) := Int.mul_le_mul_of_nonneg_right h1.2 hm
          rw [Int.mul_neg] at e1
          rw [Int.neg_mul, Int.mul_comm (2 * m)]
          omega
        have h5 := divR_le' hq h3
        have h6 := divR_ge hq h4
        omega
theorem bt_bnd {x a b c d m : Int} (hc : -m ≤ c ∧ c ≤ m) (hd : -m ≤ d ∧ d ≤ m) : -(3 * m) ≤ bt x a b c d ∧ bt x a b c d ≤ 3 * m := by
  unfold bt
  split
  · exact bt0_bnd hd hc
  · exact bt0_bnd hc hd
def ptN (p : TPt) : Prop := (-786432 ≤ p.fX ∧ p.fX ≤ 786432) ∧ -786432 ≤ p.fY ∧ p.fY ≤ 786432
theorem atB_bnd {bs : List TPt} (h : ∀ p ∈ bs, pntB p = true) (n : Nat) : pntB (atB bs n) = true := by
  unfold atB
  cases hq : bs[n]? with
  | none => rfl
  | some p => exact h p (List.mem_of_getElem? hq)
theorem mv1_bnd {ks : List TKnot} {b : Nat} {fs : List Int} {bs : List TPt} (h : ∀ p ∈ bs, pntB p = true) (i : Nat) : ptN (mv1 ks b fs bs i) := by
  unfold mv1
  split
  · exact ⟨⟨by decide, by decide⟩, by decide, by decide⟩
  · split
    · have := pnt_in (atB_bnd h (cl fs ((b + i : Nat) : Int)))
      exact ⟨⟨by omega, by omega⟩, by omega, by omega⟩
    · have h1 := pnt_in (atB_bnd h ((cl fs ((b + i : Nat) : Int) + fs.length - 1) % fs.length))
      have h2 := pnt_in (atB_bnd h (cl fs ((b + i : Nat) : Int) % fs.length))
      exact ⟨bt_bnd (m := 262144) ⟨h1.1, h1.2.1⟩ ⟨h2.1, h2.2.1⟩, bt_bnd (m := 262144) ⟨h1.2.2.1, h1.2.2.2⟩ ⟨h2.2.2.1, h2.2.2.2⟩⟩
theorem inL_bnd {ns : List Int} {ms : List TPt} (h : ∀ p ∈ ms, pntB p = true) : ∀ (b : Nat) (ls : List TLoop), ∀ p ∈ inL ns ms b ls, ptN p
  | _, [], p, hp => by simp [inL] at hp
  | b, l :: t, p, hp => by
    rw [inL, List.mem_append] at hp
    rcases hp with hp | hp
    · unfold rsL at hp
      obtain ⟨i, _, rfl⟩ := List.mem_map.1 hp
      exact mv1_bnd (fun q hq => h q (by unfold slF at hq; exact List.mem_of_mem_drop (List.mem_of_mem_take hq))) i
    · exact inL_bnd h _ t p hp
def adP (f : Int) (s p : TPt) : TPt := ⟨s.fX + f * p.fX, s.fY + f * p.fY⟩
def adS (f : Int) (S M : List TPt) : List TPt := S.zipWith (adP f) M
theorem adS_len {f : Int} {S M : List TPt} (h : S.length = M.length) : (adS f S M).length = S.length := by simp [adS, h]
def adK (f : Int) (S M : List TPt) (j : Nat) : List TPt := (adS f S M).take j ++ S.drop j
theorem adK_zero (f : Int) (S M : List TPt) : adK f S M 0 = S := by simp [adK]
theorem adK_all {f : Int} {S M : List TPt} (h : S.length = M.length) : adK f S M S.length = adS f S M := by
  unfold adK
  rw [List.drop_length, List.append_nil, List.take_of_length_le (by rw [adS_len h]; exact Nat.le_refl _)]
theorem adK_len {f : Int} {S M : List TPt} (h : S.length = M.length) (j : Nat) : (adK f S M j).length = S.length := by
  unfold adK
  rw [List.length_append, List.length_take, List.length_drop, adS_len h]; omega
theorem adK_at {f : Int} {S M : List TPt} (h : S.length = M.length) {j : Nat} {s : TPt} (hs : S[j]? = some s) : (adK f S M j)[j]? = some s := by
  have hj := (List.getElem?_eq_some_iff.1 hs).1
  unfold adK
  rw [List.getElem?_append_right (by rw [List.length_take, adS_len h]; omega), List.length_take, adS_len h, List.getElem?_drop]
  rw [show j + (j - min j S.length) = j by omega]
  exact hs
theorem adK_set {f : Int} {S M : List TPt} (h : S.length = M.length) {j : Nat} {s p : TPt} (hs : S[j]? = some s) (hp : M[j]? = some p) : (adK f S M j).set j (adP f s p) = adK f S M (j + 1) := by
  have hj := (List.getElem?_eq_some_iff.1 hs).1
  have ha : (adS f S M)[j]? = some (adP f s p) := by unfold adS; rw [List.getElem?_zipWith, hs, hp]
  unfold adK
  rw [take_snoc_get ha, List.append_assoc]
  have hl : ((adS f S M).take j).length = j := by rw [List.length_take, adS_len h]; omega
  rw [List.set_append, if_neg (by omega), hl, Nat.sub_self, drop_at hs]
  rfl
def bdS (c : Nat) (S : List TPt) : Prop := ∀ s ∈ S, (-(12884901888 * (c : Int)) ≤ s.fX ∧ s.fX ≤ 12884901888 * (c : Int)) ∧ -(12884901888 * (c : Int)) ≤ s.fY ∧ s.fY ≤ 12884901888 * (c : Int)
theorem mulN {f x m : Int} (h1 : 0 ≤ f) (h2 : f ≤ 16384) (h3 : -m ≤ x) (h4 : x ≤ m) : -(16384 * m) ≤ f * x ∧ f * x ≤ 16384 * m := by
  have hm : 0 ≤ m := by omega
  have e1 : f * x ≤ f * m := Int.mul_le_mul_of_nonneg_left h4 h1
  have e2 : f * m ≤ 16384 * m := Int.mul_le_mul_of_nonneg_right h2 hm
  have e3 : f * (-m) ≤ f * x := Int.mul_le_mul_of_nonneg_left h3 h1
  rw [Int.mul_neg] at e3
  omega
theorem adP_bnd {f : Int} {p : TPt} (h1 : 0 ≤ f) (h2 : f ≤ 16384) (h : ptN p) : (-12884901888 ≤ f * p.fX ∧ f * p.fX ≤ 12884901888) ∧ -12884901888 ≤ f * p.fY ∧ f * p.fY ≤ 12884901888 :=
  ⟨mulN (m := 786432) h1 h2 h.1.1 h.1.2, mulN (m := 786432) h1 h2 h.2.1 h.2.2⟩
theorem bdS_mono {c c' : Nat} {S : List TPt} (h : c ≤ c') (H : bdS c S) : bdS c' S := fun s hs => by
  have := H s hs
  have hc : (c : Int) ≤ (c' : Int) := by omega
  omega
theorem bdS_ad {c : Nat} {f : Int} {S M : List TPt} (h1 : 0 ≤ f) (h2 : f ≤ 16384) (hM : ∀ p ∈ M, ptN p) (H : bdS c S) : bdS (c + 1) (adS f S M) := fun q hq => by
  unfold adS at hq
  obtain ⟨i, hi⟩ := List.mem_iff_getElem?.1 hq
  rw [List.getElem?_zipWith] at hi
  cases hs : S[i]? with
  | none => rw [hs] at hi; simp at hi
  | some s =>
    cases hp : M[i]? with
    | none => rw [hs, hp] at hi; simp at hi
    | some p =>
      rw [hs, hp] at hi
      simp only [Option.some.injEq] at hi
      subst hi
      have b1 := H s (List.mem_of_getElem? hs)
      have b2 := adP_bnd h1 h2 (hM p (List.mem_of_getElem? hp))
      unfold adP
      dsimp only
      omega
theorem bdS_zero (n : Nat) : bdS 0 (List.replicate n pt0) := fun s hs => by
  rw [List.eq_of_mem_replicate hs]
  exact ⟨⟨by decide, by decide⟩, by decide, by decide⟩
abbrev SA : Type := List TPt × Int
def dlF (f : Int) (ls : List TLoop) (d : TGlyphDelta) (p : SA) : SA := (adS f p.1 (inL d.fKnots d.fMoves 0 ls), p.2 + f * d.fAdvance)
def dsF (f g : Int) (ls : List TLoop) : List TGlyphDelta → SA → SA
  | [], p => p
  | d :: t, p => dsF f g ls t (if d.fGlyph = g then dlF f ls d p else p)
def maF (ns : List Int) (m : TMaster) : Int := mfK m.fPeaks ns m.fPeaks.length
def msF (ns : List Int) (g : Int) (ls : List TLoop) : List TMaster → SA → SA
  | [], p => p
  | m :: t, p => msF ns g ls t (dsF (maF ns m) g ls m.fDeltas p)
theorem dsF_none {f g : Int} {ls : List TLoop} : ∀ {ds : List TGlyphDelta} {p : SA}, (∀ d ∈ ds, d.fGlyph ≠ g) → dsF f g ls ds p = p
  | [], p, _ => rfl
  | d :: t, p, h => by
    rw [dsF, if_neg (h d (by simp)), dsF_none (fun x hx => h x (by simp [hx]))]
theorem dsG_gt : ∀ {ds : List TGlyphDelta} {o : TGlyphDelta}, dsG (some o) ds = true → ∀ d ∈ ds, o.fGlyph < d.fGlyph
  | [], _, _, d, hd => by simp at hd
  | x :: t, o, h, d, hd => by
    simp only [dsG, ltG, Bool.and_eq_true, decide_eq_true_eq] at h
    rcases List.mem_cons.1 hd with rfl | hd
    · exact h.2.1
    · have := dsG_gt h.2.2 d hd; omega
theorem dsF_fdx {f g : Int} {ls : List TLoop} : ∀ {ds : List TGlyphDelta} {o : Option TGlyphDelta} {p : SA} (k : Nat), dsG o ds = true →
    (fdx (fun d => d.fGlyph == g) ds k = -1 ∧ dsF f g ls ds p = p) ∨ ∃ i d, fdx (fun d => d.fGlyph == g) ds k = ((k + i : Nat) : Int) ∧ ds[i]? = some d ∧ d.fGlyph = g ∧ dsF f g ls ds p = dlF f ls d p
  | [], _, p, k, _ => .inl ⟨rfl, rfl⟩
  | x :: t, o, p, k, h => by
    have h0 := h
    simp only [dsG, Bool.and_eq_true] at h
    by_cases hx : x.fGlyph = g
    · refine .inr ⟨0, x, ?_, rfl, hx, ?_⟩
      · rw [fdx, if_pos (by simpa using hx)]; rfl
      · rw [dsF, if_pos hx, dsF_none (fun d hd => ?_)]
        have := dsG_gt h.2.2 d hd; omega
    · rw [fdx, if_neg (by simpa using hx), dsF, if_neg hx]
      rcases dsF_fdx (f := f) (g := g) (ls := ls) (p := p) (k + 1) h.2.2 with h1 | ⟨i, d, h1, h2, h3, h4⟩
      · exact .inl h1
      · refine .inr ⟨i + 1, d, ?_, by simpa using h2, h3, h4⟩
        rw [h1]; congr 1; omega
theorem dsF_at {f g : Int} {ls : List TLoop} {ds : List TGlyphDelta} {k : Nat} {d : TGlyphDelta} (hd : ds[k]? = some d) (p : SA) : dsF f g ls (ds.drop k) p = dsF f g ls (ds.drop (k + 1)) (if d.fGlyph = g then dlF f ls d p else p) := by
  rw [drop_at hd, dsF]
theorem msF_at {ns : List Int} {g : Int} {ls : List TLoop} {xs : List TMaster} {k : Nat} {m : TMaster} (hm : xs[k]? = some m) (p : SA) : msF ns g ls (xs.drop k) p = msF ns g ls (xs.drop (k + 1)) (dsF (maF ns m) g ls m.fDeltas p) := by
  rw [drop_at hm, msF]
def mvK (S : List TPt) (a : Nat) (k : TKnot) : TKnot := ⟨⟨k.fAt.fX + divR (atB S a).fX 16384, k.fAt.fY + divR (atB S a).fY 16384⟩, k.fOn⟩
def vgK (S : List TPt) : Nat → List TKnot → List TKnot
  | _, [] => []
  | a, k :: t => mvK S a k :: vgK S (a + 1) t
def vgL (S : List TPt) : Nat → List TLoop → List TLoop
  | _, [] => []
  | a, l :: t => ⟨vgK S a l.fKnots⟩ :: vgL S (a + l.fKnots.length) t
theorem vgK_len (S : List TPt) : ∀ (a : Nat) (ks : List TKnot), (vgK S a ks).length = ks.length
  | _, [] => rfl
  | a, k :: t => by simp [vgK, vgK_len S (a + 1) t]
theorem vgL_len (S : List TPt) : ∀ (a : Nat) (ls : List TLoop), (vgL S a ls).length = ls.length
  | _, [] => rfl
  | a, l :: t => by simp [vgL, vgL_len S _ t]
theorem vgK_get (S : List TPt) : ∀ (a : Nat) (ks : List TKnot) (j : Nat) (k : TKnot), ks[j]? = some k → (vgK S a ks)[j]? = some (mvK S (a + j) k)
  | _, [], j, k, h => by simp at h
  | a, x :: t, 0, k, h => by simp at h; subst h; rfl
  | a, x :: t, j + 1, k, h => by
    have := vgK_get S (a + 1) t j k (by simpa using h)
    rw [vgK, List.getElem?_cons_succ, this]
    congr 2; omega
theorem vgL_get (S : List TPt) : ∀ (a : Nat) (ls : List TLoop) (j : Nat) (l : TLoop), ls[j]? = some l → (vgL S a ls)[j]? = some ⟨vgK S (a + cnK (ls.take j)) l.fKnots⟩
  | _, [], j, k, h => by simp at h
  | a, x :: t, 0, k, h => by simp at h; subst h; rfl
  | a, x :: t, j + 1, k, h => by
    have := vgL_get S (a + x.fKnots.length) t j k (by simpa using h)
    rw [vgL, List.getElem?_cons_succ, this, List.take_succ_cons, cnK]
    rw [show a + x.fKnots.length + cnK (t.take j) = a + (x.fKnots.length + cnK (t.take j)) by omega]
def upTo {α : Type} (N O : List α) (j : Nat) : List α := N.take j ++ O.drop j
theorem upTo_zero {α : Type} (N O : List α) : upTo N O 0 = O := by simp [upTo]
theorem upTo_all {α : Type} {N O : List α} (h : N.length = O.length) : upTo N O O.length = N := by
  unfold upTo
  rw [List.drop_length, List.append_nil, List.take_of_length_le (by omega)]
theorem upTo_len {α : Type} {N O : List α} (h : N.length = O.length) (j : Nat) : (upTo N O j).length = O.length := by
  unfold upTo
  rw [List.length_append, List.length_take, List.length_drop]; omega
theorem upTo_at {α : Type} {N O : List α} (h : N.length = O.length) {j : Nat} {o : α} (ho : O[j]? = some o) : (upTo N O j)[j]? = some o := by
  have hj := (List.getElem?_eq_some_iff.1 ho).1
  unfold upTo
  rw [List.getElem?_append_right (by rw [List.length_take]; omega), List.length_take, List.getElem?_drop]
  rw [show j + (j - min j N.length) = j by omega]
  exact ho
theorem upTo_set {α : Type} {N O : List α} (h : N.length = O.length) {j : Nat} {o n : α} (ho : O[j]? = some o) (hn : N[j]? = some n) : (upTo N O j).set j n = upTo N O (j + 1) := by
  have hj := (List.getElem?_eq_some_iff.1 ho).1
  unfold upTo
  rw [take_snoc_get hn, List.append_assoc]
  have hl : (N.take j).length = j := by rw [List.length_take]; omega
  rw [List.set_append, if_neg (by omega), hl, Nat.sub_self, drop_at ho]
  rfl
def vgF (s : TGlyph) (p : SA) : TGlyph := ⟨s.fName, s.fCode, s.fAdvance + divR p.2 16384, ⟨vgL p.1 0 s.fOutline.fLoops⟩, s.fParts, s.fAnchors, s.fHints⟩
def vgS (s : TGlyph) (ms : List TMaster) (g : Int) (ns : List Int) : SA := msF ns g s.fOutline.fLoops ms (List.replicate (cnK s.fOutline.fLoops) pt0, 0)
theorem InF_of {g : TGlyph} {d : TGlyphDelta} (hg : outB g.fOutline = true) (hd : gdB d = true) (hl : ltB d.fKnots (cnK g.fOutline.fLoops : Nat) = true) : InF g.fOutline d.fKnots d.fMoves := by
  have hn := gd_len hd
  have h1 : gdB d = (inB d.fGlyph 0 39 && (knG none d.fKnots && (decide (d.fKnots.length = d.fMoves.length) && (d.fMoves.all pntB && inB d.fAdvance (-262144) 262144)))) := rfl
  rw [h1] at hd
  simp only [Bool.and_eq_true, decide_eq_true_eq, List.all_eq_true] at hd
  have h2 := knG_ri _ _ hd.2.1
  have hs : srt d.fKnots := ri_srt h2.1
  refine ⟨hg, hs, hd.2.2.1, hd.2.2.2.1, fun x hx => ⟨(h2.2 x hx).1, ?_⟩, by omega⟩
  obtain ⟨i, hi⟩ := List.mem_iff_getElem?.1 hx
  have hil := (List.getElem?_eq_some_iff.1 hi).1
  obtain ⟨z, hz⟩ := at_lt' (xs := d.fKnots) (k := d.fKnots.length - 1) (by omega)
  unfold ltB at hl
  rw [hz] at hl
  simp only [decide_eq_true_eq] at hl
  rcases Nat.lt_or_ge i (d.fKnots.length - 1) with h | h
  · have := hs i _ x z h hi hz; omega
  · obtain rfl : i = d.fKnots.length - 1 := by omega
    rw [hi] at hz; cases hz; exact hl
theorem gd_adv {d : TGlyphDelta} (hd : gdB d = true) : -262144 ≤ d.fAdvance ∧ d.fAdvance ≤ 262144 := by
  have h1 : gdB d = (inB d.fGlyph 0 39 && (knG none d.fKnots && (decide (d.fKnots.length = d.fMoves.length) && (d.fMoves.all pntB && inB d.fAdvance (-262144) 262144)))) := rfl
  rw [h1] at hd
  simp only [Bool.and_eq_true, inB, decide_eq_true_eq] at hd
  exact hd.2.2.2.2
structure VaH (s : TGlyphSet) (v : TVariation) (gi : Nat) (g : TGlyph) (ns : List Int) : Prop where
  wf : wfB v = true
  gl : glB g = true
  ls : gi < 40
  at' : s.fGlyphs[gi]? = some g
  nm : nmsB ns v.fAxes.length = true
  dv : ∀ m ∈ v.fMasters, ∀ d ∈ m.fDeltas, d.fGlyph = (gi : Int) → ltB d.fKnots (cnK g.fOutline.fLoops : Nat) = true
theorem VaH.ma {s : TGlyphSet} {v : TVariation} {gi : Nat} {g : TGlyph} {ns : List Int} (H : VaH s v gi g ns) : v.fMasters.length ≤ 8 ∧ ∀ m ∈ v.fMasters, m.fPeaks.all pkB = true ∧ nmsB ns m.fPeaks.length = true ∧ dsG none m.fDeltas = true ∧ m.fDeltas.length ≤ 20 := by
  have h1 : wfB v = (axsB v.fAxes && (decide (v.fMasters.length ≤ 8) && v.fMasters.all (maB v.fAxes.length))) := rfl
  have hw := H.wf
  rw [h1] at hw
  simp only [Bool.and_eq_true, List.all_eq_true, decide_eq_true_eq] at hw
  refine ⟨hw.2.1, fun m hm => ?_⟩
  have h2 := hw.2.2 m hm
  have h3 : maB v.fAxes.length m = (decide (m.fPeaks.length = v.fAxes.length) && (decide (m.fDeltas.length ≤ 20) && (m.fPeaks.all pkB && dsG none m.fDeltas))) := rfl
  rw [h3] at h2
  simp only [Bool.and_eq_true, decide_eq_true_eq] at h2
  exact ⟨h2.2.2.1, by rw [h2.1]; exact H.nm, h2.2.2.2, h2.2.1⟩
theorem VaH.out {s : TGlyphSet} {v : TVariation} {gi : Nat} {g : TGlyph} {ns : List Int} (H : VaH s v gi g ns) : outB g.fOutline = true := by
  have hg := H.gl
  have hF : glB g = (nameB g.fName && (inB g.fCode (-1) 65535 && (inB g.fAdvance 0 262144 && (outB g.fOutline && ((decide (g.fParts.length = 0) || decide (g.fOutline.fLoops.length = 0)) && (decide (g.fParts.length ≤ 6) && (decide (g.fAnchors.length ≤ 6) && (decide (g.fHints.size ≤ 400) && (g.fParts.all ptB && anG [] g.fAnchors))))))))) := rfl
  rw [hF] at hg
  simp only [Bool.and_eq_true] at hg
  exact hg.2.2.2.1
theorem VaH.adv {s : TGlyphSet} {v : TVariation} {gi : Nat} {g : TGlyph} {ns : List Int} (H : VaH s v gi g ns) : 0 ≤ g.fAdvance ∧ g.fAdvance ≤ 262144 := by
  have hg := H.gl
  have hF : glB g = (nameB g.fName && (inB g.fCode (-1) 65535 && (inB g.fAdvance 0 262144 && (outB g.fOutline && ((decide (g.fParts.length = 0) || decide (g.fOutline.fLoops.length = 0)) && (decide (g.fParts.length ≤ 6) && (decide (g.fAnchors.length ≤ 6) && (decide (g.fHints.size ≤ 400) && (g.fParts.all ptB && anG [] g.fAnchors))))))))) := rfl
  rw [hF] at hg
  simp only [Bool.and_eq_true, inB, decide_eq_true_eq] at hg
  exact hg.2.2.1
theorem VaH.inf {s : TGlyphSet} {v : TVariation} {gi : Nat} {g : TGlyph} {ns : List Int} (H : VaH s v gi g ns) {m : TMaster} (hm : m ∈ v.fMasters) {d : TGlyphDelta} (hd : d ∈ m.fDeltas) (hg : d.fGlyph = (gi : Int)) : InF g.fOutline d.fKnots d.fMoves ∧ gdB d = true :=
  ⟨InF_of H.out (wf_delta H.wf hm hd) (H.dv m hm d hd hg), wf_delta H.wf hm hd⟩
set_option maxHeartbeats 1000000 in
theorem ixGlyphDeltap_v (xs : List TGlyphDelta) (f : Nat) (y0 : D) (p : TGlyphDelta → Bool) (hf : ∀ x : TGlyphDelta, PC Tryz.prog f [.d x.D, .pX y0] (.d (.bool (p x))) []) :
    PC Tryz.prog 119 [.d (.lst (xs.map TGlyphDelta.D)), .fn (.func f) [.pX y0]] (.d (.int .i64 (fdx p xs 0))) [] := by
  refine pc_intro ttOk (by kernel_rfl) Tryz.func119 rfl (by kernel_rfl) (by kernel_rfl) (by kernel_rfl) (fun hw => ?_)
  have hL : (xs.map TGlyphDelta.D).length = xs.length := List.length_map _
  have hm : (xs.map TGlyphDelta.D).length ≤ 9223372036854775807 := hw.1.1
  (conv => whnf)
  refine LoopW.go (α := Nat) (fun k => [(0, .d (.lst (xs.map TGlyphDelta.D))), (1, .fn (.func f) [.pX y0]), (7, .d (.int .i64 (xs.map TGlyphDelta.D).length)), (8, .d (.int .i64 k))]) (fun k => [.gone]) (fun k => k ≤ xs.length ∧ fdx p xs 0 = fdx p (xs.drop k) k) (fun k => xs.length - k) 0 covT_ ?_ (fun k hk => ?_)
  · exact ⟨by omega, rfl⟩
  obtain ⟨hk1, hk2⟩ := hk
  (conv => whnf)
  (refine br_ (fun h2 => ?_) (fun h2 => ?_) <;> (repeat (refine stg_ ?_)))
  · obtain ⟨x, hx⟩ := at_lt' (xs := xs) (k := k) (by omega)
    rw [fdx_at hx] at hk2
    (repeat (refine stg_ ?_))
    (refine cla_ (hf x) ?_)
    (refine br_ (fun h3 => ?_) (fun h3 => ?_) <;> (repeat (refine stg_ ?_)))
    · (refine RetOK.d rfl rfl ?_; conv => whnf)
      rw [hk2, if_pos h3]
    · (repeat (refine stg_ ?_))
      exact NextW.go (k + 1) covT_ ⟨by omega, by rw [hk2, h3]; rfl⟩ (by omega)
  · (refine RetOK.d rfl rfl ?_; conv => whnf)
    rw [hk2, fdx_end (by omega)]
theorem varyGlyph1_v (x : TGlyphDelta) (n : Int) : PC Tryz.prog 120 [.d x.D, .pX (.int .i64 n)] (.d (.bool (x.fGlyph == n))) [] := by
  refine pc_intro ttOk (by kernel_rfl) Tryz.func120 rfl (by kernel_rfl) (by kernel_rfl) (by kernel_rfl) (fun hw => ?_)
  (conv => whnf)
  (repeat' (first | (refine stg_ ?_) | fail | (refine br_ (fun hbr => ?_) (fun hbr => ?_))))
  all_goals (refine RetOK.d rfl rfl ?_; conv => whnf)
  all_goals rfl
theorem divPt_v (p : TPt) (d : Int) : PC Tryz.prog 124 [.d p.D, .d (.int .i64 d)] (.d (TPt.D ⟨divR p.fX d, divR p.fY d⟩)) [] := by
  refine pc_intro ttOk (by kernel_rfl) Tryz.func124 rfl (by kernel_rfl) (by kernel_rfl) (by kernel_rfl) (fun hw => ?_)
  have c1 := DivRound_v p.fX d
  have c2 := DivRound_v p.fY d
  (conv => whnf)
  (repeat' (first | (refine stg_ ?_) | (refine cla_ (c1) ?_) | (refine cla_ (c2) ?_) | (refine br_ (fun hbr => ?_) (fun hbr => ?_))))
  all_goals (refine RetOK.d rfl rfl ?_; conv => whnf)
  all_goals (all_goals first | rfl | exact ⟨_, rfl, _, _, rfl, rfl, _, _, rfl, rfl, rfl⟩)
def trVa : OT := .q 0 (.q 1 (.q 3 (.q 4 (.q 5 (.q 6 (.q 7 (.alt 2 (.alt 8 (.q 9 (.alt 10 .done .nil)) .nil) (.alt 8 (.alt 2 (.q 9 (.alt 10 .done .nil)) .nil) .nil))))))))
set_option maxHeartbeats 4000000 in
theorem varyGlyph_v (s : TGlyphSet) (v : TVariation) (gi : Nat) (g : TGlyph) (ns : List Int) (H : VaH s v gi g ns) : PC Tryz.prog 58 [.d s.D, .d v.D, .d (.int .i64 gi), .d (.lst (ns.map (D.int .i64)))] (.tup [.st [.d (.str g.fName), .d (.int .i64 g.fCode), .d (.int .i64 (vgF g (vgS g v.fMasters gi ns)).fAdvance), .st [.own 1 0 g.fOutline.fLoops.length], .own 2 0 g.fParts.length, .own 3 0 g.fAnchors.length, .d (.str g.fHints)], .d (.bool (glB (vgF g (vgS g v.fMasters gi ns))))]) [.arr 1 ((vgF g (vgS g v.fMasters gi ns)).fOutline.fLoops.map TLoop.D) true, .arr 3 (g.fParts.map TPart.D) true, .arr 3 (g.fAnchors.map TAnchor.D) true] := by
  refine pc_intro ttOk (by kernel_rfl) Tryz.func58 rfl (by kernel_rfl) (by kernel_rfl) (by kernel_rfl) (fun hw => ?_)
  have hLg : (s.fGlyphs.map TGlyph.D).length = s.fGlyphs.length := List.length_map _
  have hLm : (v.fMasters.map TMaster.D).length = v.fMasters.length := List.length_map _
  have hgi := H.ls
  have hgl : gi < s.fGlyphs.length := (List.getElem?_eq_some_iff.1 H.at').1
  have hg' : (s.fGlyphs.map TGlyph.D)[((gi : Nat) : Int).toNat]? = some g.D := by rw [Int.toNat_natCast, List.getElem?_map, H.at']; rfl
  have c1 := copyGlyph_v g H.gl
  have hout := H.out
  have c2 := knotCount_v g.fOutline hout
  have hout' := out_in hout
  have hcn := cnK_le hout'.2
  have hadv := H.adv
  obtain ⟨hm8, hma⟩ := H.ma
  (conv => whnf)
  (repeat' (first | (refine stg_ ?_) | (refine IxW.at (by omega) hg' ?_; (conv => whnf)) | (refine cla_ (c1) ?_) | (refine cla_ (c2) ?_) | (refine MkW.at (by omega) (by omega) (by show ((16 : Nat) : Int) * _ ≤ 2 ^ 48; omega) ?_; (conv => whnf)) | (refine br_ (fun hbr => ?_) (fun hbr => ?_))))
  let L0 : List TLoop := g.fOutline.fLoops
  refine LoopW.go (α := Nat × List TPt × Int) (fun p => [(3, .d (.lst (ns.map (D.int .i64)))), (6, .pB 3 [] 0), (8, .pB 4 [] 0), (10, .pB 8 [] 0), (11, .own 9 0 p.2.1.length), (12, .d (.int .i64 p.2.2)), (36, .d (.lst (v.fMasters.map TMaster.D))), (37, .d (.int .i64 (v.fMasters.map TMaster.D).length)), (38, .d (.int .i64 (p.1 : Nat)))])
    (fun p => [.gone, .gone, .gone, .box (.d (.int .i64 gi)), .box (.st [.d (.str .empty), .d (.int .i64 0), .d (.int .i64 0), .st [.nils], .nils, .nils, .d (.str .empty)]), .arr 1 (g.fOutline.fLoops.map TLoop.D) true, .arr 3 (g.fParts.map TPart.D) true, .arr 3 (g.fAnchors.map TAnchor.D) true,
      .box (.st [.d (.str g.fName), .d (.int .i64 g.fCode), .d (.int .i64 g.fAdvance), .st [.own 5 0 g.fOutline.fLoops.length], .own 6 0 g.fParts.length, .own 7 0 g.fAnchors.length, .d (.str g.fHints)]), .arr 2 (p.2.1.map TPt.D) true])
    (fun p => p.1 ≤ v.fMasters.length ∧ p.2.1.length = cnK g.fOutline.fLoops ∧ bdS (20 * p.1) p.2.1 ∧ (-(4294967296 * (20 * (p.1 : Int))) ≤ p.2.2 ∧ p.2.2 ≤ 4294967296 * (20 * (p.1 : Int))) ∧ msF ns gi g.fOutline.fLoops (v.fMasters.drop p.1) p.2 = vgS g v.fMasters gi ns)
    (fun p => v.fMasters.length - p.1) (0, List.replicate (cnK g.fOutline.fLoops) pt0, 0) (Weak.cov ⟨rfl, rfl, rfl, rfl, by (show _ = V.own 9 0 (List.replicate _ pt0).length; rw [List.length_replicate]; rfl), rfl, rfl, rfl, rfl, trivial⟩ ⟨trivial, trivial, trivial, rfl, rfl, rfl, rfl, rfl, rfl, by (show _ = Blk.arr 2 ((List.replicate _ pt0).map TPt.D) true; rw [List.map_replicate]; rfl), trivial⟩ rfl)
    ⟨Nat.zero_le _, List.length_replicate, bdS_zero _, ⟨by (show -(4294967296 * (20 * ((0 : Nat) : Int))) ≤ (0 : Int); decide), by (show (0 : Int) ≤ 4294967296 * (20 * ((0 : Nat) : Int)); decide)⟩, by rfl⟩ ?_
  rintro ⟨k, S, a⟩ ⟨hk, hS, hb, ha, hV⟩
  dsimp only at hk hS hb ha hV ⊢
  have hLS : (S.map TPt.D).length = S.length := List.length_map _
  (conv => whnf)
  (refine br_ (fun h2 => ?_) (fun h2 => ?_))
  · obtain ⟨m, hm⟩ := at_lt' (xs := v.fMasters) (k := k) (by omega)
    have hmm := List.mem_of_getElem? hm
    obtain ⟨hp1, hp2, hp3, hp4⟩ := hma m hmm
    have c3 := ixGlyphDeltap_v m.fDeltas 120 (.int .i64 gi) (fun d => d.fGlyph == (gi : Int)) (fun x => varyGlyph1_v x gi)
    have c4 := masterFactor_v m ns hp1 hp2
    have hLd : (m.fDeltas.map TGlyphDelta.D).length = m.fDeltas.length := List.length_map _
    rw [msF_at hm] at hV
    rcases dsF_fdx (f := maF ns m) (g := (gi : Int)) (ls := g.fOutline.fLoops) (p := (S, a)) 0 hp3 with ⟨e1, e2⟩ | ⟨i, d, e1, e2, hde, e3⟩
    · rw [e1] at c3
      rw [e2] at hV
      (repeat' (first | (refine stg_ ?_) | (refine cla_ (c3) ?_) | (refine br_ (fun hbr => ?_) (fun hbr => ?_))))
      all_goals first | (exfalso; omega) | skip
      exact NextW.go (k + 1, S, a) covT_ ⟨by (show k + 1 ≤ _); omega, hS, bdS_mono (by (show 20 * k ≤ 20 * (k + 1)); omega) hb, ⟨by (show -(4294967296 * (20 * ((k + 1 : Nat) : Int))) ≤ a); omega, by (show a ≤ 4294967296 * (20 * ((k + 1 : Nat) : Int))); omega⟩, hV⟩ (by dsimp only; omega)
    · rw [e1] at c3
      rw [e3] at hV
      have hdm := List.mem_of_getElem? e2
      have hdl := (List.getElem?_eq_some_iff.1 e2).1
      obtain ⟨hI, hgd⟩ := H.inf hmm hdm hde
      have hd' : (m.fDeltas.map TGlyphDelta.D)[(((0 + i : Nat)) : Int).toNat]? = some d.D := by rw [Int.toNat_natCast, Nat.zero_add, List.getElem?_map, e2]; rfl
      have c5 := inferMoves_v g.fOutline d.fKnots d.fMoves hI
      have hb1 := mfK_bnd (ns := ns) hp1 m.fPeaks.length
      have hda := gd_adv hgd
      have hfa := mulN hb1.1 hb1.2 hda.1 hda.2
      have hMl : (inL d.fKnots d.fMoves 0 g.fOutline.fLoops).length = cnK g.fOutline.fLoops := inL_len _ _ _ _
      have hMb := inL_bnd (ns := d.fKnots) hI.mv 0 g.fOutline.fLoops
      repeat' (first | ((fail_if_success (with_reducible apply RegD.id)); (first | (refine stg_ ?_) | (refine cla_ (c3) ?_) | (refine br_ (fun hbr => ?_) (fun hbr => ?_)))))
      all_goals first | (exfalso; omega) | skip
      refine RegD.cutT [(3, .d (.lst (ns.map (D.int .i64)))), (6, .pB 3 [] 0), (8, .pB 4 [] 0), (10, .pB 8 [] 0), (11, .own 9 0 S.length), (12, .d (.int .i64 a)), (16, .d (.int .i64 (maF ns m))), (17, .pB 11 [] 0), (36, .d (.lst (v.fMasters.map TMaster.D))), (37, .d (.int .i64 (v.fMasters.map TMaster.D).length)), (38, .d (.int .i64 (k : Nat)))]
        [.gone, .gone, .gone, .box (.d (.int .i64 gi)), .box (.st [.d (.str .empty), .d (.int .i64 0), .d (.int .i64 0), .st [.nils], .nils, .nils, .d (.str .empty)]), .arr 1 (g.fOutline.fLoops.map TLoop.D) true, .arr 3 (g.fParts.map TPart.D) true, .arr 3 (g.fAnchors.map TAnchor.D) true,
      .box (.st [.d (.str g.fName), .d (.int .i64 g.fCode), .d (.int .i64 g.fAdvance), .st [.own 5 0 g.fOutline.fLoops.length], .own 6 0 g.fParts.length, .own 7 0 g.fAnchors.length, .d (.str g.fHints)]), .arr 2 (S.map TPt.D) true, .gone, .box (.d d.D)] trVa (by kernel_rfl) ?_ ?_
      · (conv => whnf)
        repeat' (first | (refine stg_ ?_) | (refine cla_ (c4) ?_) | (refine IxW.at (by omega) hd' ?_; (conv => whnf)) | (refine And.intro ?_ ?_ <;> (conv => whnf)))
        all_goals (refine Weak.cov ?_ ?_ ?_; (focus (repeat' (first | exact trivial | with_reducible rfl | (refine ⟨?_, ?_⟩) | rfl))); (focus (repeat' (first | exact trivial | with_reducible rfl | (refine ⟨?_, ?_⟩) | rfl))); (focus rfl))
      generalize hf : maF ns m = f at *
      have hf1 : 0 ≤ f ∧ f ≤ 16384 := by rw [← hf]; exact hb1
      have hfa' : -(16384 * 262144) ≤ f * d.fAdvance ∧ f * d.fAdvance ≤ 16384 * 262144 := by rw [← hf]; exact hfa
      (conv => whnf)
      (repeat' (first | (refine stg_ ?_) | (refine cla_ (c5) ?_) | (refine br_ (fun hbr => ?_) (fun hbr => ?_))))
      generalize hMM : inL d.fKnots d.fMoves 0 g.fOutline.fLoops = MM at *
      have hSM : S.length = MM.length := by omega
      refine LoopW.go (α := Nat) (fun j => [(3, .d (.lst (ns.map (D.int .i64)))), (6, .pB 3 [] 0), (8, .pB 4 [] 0), (10, .pB 8 [] 0), (11, .own 9 0 S.length), (12, .d (.int .i64 (a + f * d.fAdvance))), (16, .d (.int .i64 f)), (36, .d (.lst (v.fMasters.map TMaster.D))), (37, .d (.int .i64 (v.fMasters.map TMaster.D).length)), (38, .d (.int .i64 (k : Nat))), (68, .own 12 0 (cnK g.fOutline.fLoops)), (69, .d (.int .i64 (cnK g.fOutline.fLoops : Nat))), (70, .d (.int .i64 (j : Nat)))])
        (fun j => [.gone, .gone, .gone, .box (.d (.int .i64 gi)), .box (.st [.d (.str .empty), .d (.int .i64 0), .d (.int .i64 0), .st [.nils], .nils, .nils, .d (.str .empty)]), .arr 1 (g.fOutline.fLoops.map TLoop.D) true, .arr 3 (g.fParts.map TPart.D) true, .arr 3 (g.fAnchors.map TAnchor.D) true,
          .box (.st [.d (.str g.fName), .d (.int .i64 g.fCode), .d (.int .i64 g.fAdvance), .st [.own 5 0 g.fOutline.fLoops.length], .own 6 0 g.fParts.length, .own 7 0 g.fAnchors.length, .d (.str g.fHints)]), .arr 2 ((adK f S MM j).map TPt.D) true, .gone, .gone, .arr 2 (MM.map TPt.D) true])
        (fun j => j ≤ S.length) (fun j => S.length - j) 0 (Weak.cov ⟨rfl, rfl, rfl, rfl, rfl, rfl, rfl, rfl, rfl, rfl, rfl, rfl, rfl, trivial⟩ ⟨trivial, trivial, trivial, rfl, rfl, rfl, rfl, rfl, rfl, by rw [adK_zero], trivial, trivial, rfl, trivial⟩ rfl) (Nat.zero_le _) (fun j hj => ?_)
      have hLM : (MM.map TPt.D).length = MM.length := List.length_map _
      have hLK : ((adK f S MM j).map TPt.D).length = S.length := by rw [List.length_map, adK_len hSM]
      (conv => whnf)
      (refine br_ (fun h3 => ?_) (fun h3 => ?_))
      · obtain ⟨q, hq⟩ := at_lt' (xs := MM) (k := j) (by omega)
        obtain ⟨t, ht⟩ := at_lt' (xs := S) (k := j) (by omega)
        have hgM : (MM.map TPt.D)[j]? = some q.D := by rw [List.getElem?_map, hq]; rfl
        have hgS : ((adK f S MM j).map TPt.D)[j]? = some t.D := by rw [List.getElem?_map, adK_at hSM ht]; rfl
        have b1 := adP_bnd hf1.1 hf1.2 (hMb q (List.mem_of_getElem? hq))
        have b2 := hb t (List.mem_of_getElem? ht)
        (repeat' (first | (refine stg_ ?_) | (refine IoW.at (by omega) (by omega) ?_; (conv => whnf)) | (refine EoW.at hgM ?_; (conv => whnf)) | (refine EoW.at hgS ?_; (conv => whnf)) | (refine br_ (fun hbr => ?_) (fun hbr => ?_))))
        exact NextW.go (j + 1) (Weak.cov ⟨rfl, rfl, rfl, rfl, rfl, rfl, rfl, rfl, rfl, rfl, rfl, rfl, rfl, trivial⟩ ⟨trivial, trivial, trivial, rfl, rfl, rfl, rfl, rfl, rfl, by (rw [← adK_set hSM ht hq, List.map_set]; rfl), trivial, trivial, rfl, trivial⟩ rfl) (by omega) (by omega)
      · obtain rfl : j = S.length := by omega
        rw [adK_all hSM]
        (repeat' (first | (refine stg_ ?_) | fail | (refine br_ (fun hbr => ?_) (fun hbr => ?_))))
        have hdl2 : dlF f g.fOutline.fLoops d (S, a) = (adS f S MM, a + f * d.fAdvance) := by rw [← hMM]; rfl
        rw [hdl2] at hV
        exact NextW.go (k + 1, adS f S MM, a + f * d.fAdvance) (Weak.cov ⟨rfl, rfl, rfl, rfl, by (show V.own 9 0 S.length = V.own 9 0 (adS f S MM).length; rw [adS_len hSM]), rfl, rfl, rfl, rfl, trivial⟩ ⟨trivial, trivial, trivial, rfl, rfl, rfl, rfl, rfl, rfl, rfl, trivial⟩ rfl)
          ⟨by (show k + 1 ≤ _); omega, by (show (adS f S MM).length = _); rw [adS_len hSM, hS], bdS_mono (by (show 20 * k + 1 ≤ 20 * (k + 1)); omega) (bdS_ad hf1.1 hf1.2 hMb hb), ⟨by (show -(4294967296 * (20 * ((k + 1 : Nat) : Int))) ≤ a + f * d.fAdvance); omega, by (show a + f * d.fAdvance ≤ 4294967296 * (20 * ((k + 1 : Nat) : Int))); omega⟩, hV⟩ (by dsimp only; omega)
  · obtain rfl : k = v.fMasters.length := by omega
    rw [List.drop_length, msF] at hV
    have c6 := DivRound_v a 16384
    have d1 : divR a 16384 ≤ 41943040 := divR_le' (by decide) (by omega)
    have d2 : -41943040 ≤ divR a 16384 := divR_ge (by decide) (by omega)
    (repeat' (first | (refine stg_ ?_) | (refine cla_ (c6) ?_) | (refine br_ (fun hbr => ?_) (fun hbr => ?_))))
    generalize hLL : g.fOutline.fLoops = L at *
    have hVl : (vgL S 0 L).length = L.length := vgL_len S 0 L
    have hb' : bdS 160 S := bdS_mono (by (show 20 * v.fMasters.length ≤ 160); omega) hb
    have hfl : ∀ i, ((upTo (vgL S 0 L) L i).map TLoop.D).length = L.length := fun i => by rw [List.length_map, upTo_len hVl]
    let E0 : Nat → Env := fun i => [(8, .pB 4 [] 0), (10, .pB 8 [] 0), (11, .own 9 0 S.length), (20, .d (.int .i64 (cnK (L.take i) : Nat))), (109, .own 5 0 L.length), (110, .d (.int .i64 (L.length : Nat))), (111, .d (.int .i64 (i : Nat)))]
    let H0 : Nat → List Blk := fun i => [.gone, .gone, .gone, .gone, .box (.st [.d (.str .empty), .d (.int .i64 0), .d (.int .i64 0), .st [.nils], .nils, .nils, .d (.str .empty)]), .arr 1 ((upTo (vgL S 0 L) L i).map TLoop.D) true, .arr 3 (g.fParts.map TPart.D) true, .arr 3 (g.fAnchors.map TAnchor.D) true, .box (.st [.d (.str g.fName), .d (.int .i64 g.fCode), .d (.int .i64 (g.fAdvance + divR a 16384)), .st [.own 5 0 L.length], .own 6 0 g.fParts.length, .own 7 0 g.fAnchors.length, .d (.str g.fHints)]), .arr 2 (S.map TPt.D) true]
    let mkH : Nat × Option (TLoop × Tk) → List Blk := fun p => match p with
      | (i, none) => H0 i
      | (i, some (x, τ)) => [.gone, .gone, .gone, .gone, .box (.st [.d (.str .empty), .d (.int .i64 0), .d (.int .i64 0), .st [.nils], .nils, .nils, .d (.str .empty)]), .arr 1 (((upTo (vgL S 0 L) L i).map TLoop.D).set i (.st [.hole τ.g (x.fKnots.map TKnot.D).length τ.cap])) true, .arr 3 (g.fParts.map TPart.D) true, .arr 3 (g.fAnchors.map TAnchor.D) true, .box (.st [.d (.str g.fName), .d (.int .i64 g.fCode), .d (.int .i64 (g.fAdvance + divR a 16384)), .st [.own 5 0 L.length], .own 6 0 g.fParts.length, .own 7 0 g.fAnchors.length, .d (.str g.fHints)]), .arr 2 (S.map TPt.D) true, .arr τ.n (x.fKnots.map TKnot.D) true, .pin 10 τ.g τ.sz τ.t]
    let I : Nat × Option (TLoop × Tk) → Prop := fun p => (p.2 = none ∧ p.1 = L.length) ∨ ∃ x τ, p.2 = some (x, τ) ∧ L[p.1]? = some x ∧ τ.ok 3 (x.fKnots.map TKnot.D)
    have enter : ∀ i, i ≤ L.length → ∀ (B : World) (X : List Nat) (N : Nat) (M : MM) (a : Act) (w : World), Rep B X N M (E0 i) (H0 i) a w → ∃ p M', Rep B X N M' (E0 p.1) (mkH p) a w ∧ I p ∧ p.1 = i := fun i hi B X N M a w R => by
      rcases Nat.lt_or_ge i L.length with hlt | hge
      · obtain ⟨x, hx⟩ := at_lt' (xs := L) (k := i) hlt
        have he : ((upTo (vgL S 0 L) L i).map TLoop.D)[i]? = some x.D := by rw [List.getElem?_map, upTo_at hVl hx]; rfl
        obtain ⟨g0, cap0, sz0, t0, n0, M0, p0, q0, R0⟩ := R.out (b := 5) (k := i) (p := [0]) (U := fun u => D.st [u]) (n1 := 3) (by decide) rfl he rfl (fun _ => rfl) (by intro y hy; obtain ⟨z, _, rfl⟩ := List.mem_map.1 hy; rfl)
        exact ⟨(i, some (x, ⟨g0, cap0, sz0, t0, n0⟩)), M0, R0, .inr ⟨x, _, rfl, hx, ⟨p0, q0⟩⟩, rfl⟩
      · exact ⟨(i, none), M, R, .inl ⟨rfl, by show i = _; omega⟩, rfl⟩
    (conv => whnf)
    refine LoopW.goX (fun p => E0 p.1) mkH I (fun p => L.length - p.1) (fun B X N M a w R => ?_) (fun p hp E H' hE hH => ?_)
    · obtain ⟨M1, R1⟩ := R.cov (e' := E0 0) (h' := H0 0) (show cov _ [_, _, _, _, _, _, _] from ⟨rfl, rfl, rfl, rfl, rfl, rfl, rfl, trivial⟩) (show covH _ [_, _, _, _, _, _, _, _, _, _] from ⟨trivial, trivial, trivial, trivial, rfl, by rw [upTo_zero], rfl, rfl, rfl, rfl, trivial⟩) rfl
      obtain ⟨p, M2, R2, hI, _⟩ := enter 0 (by omega) _ _ _ _ _ _ R1
      exact ⟨p, M2, R2, hI⟩
    · rcases hp with ⟨hp, hl⟩ | ⟨x, τ, hp, hx, hq, hc⟩
      · obtain ⟨i, q⟩ := p
        dsimp only at hp hl
        subst hp
        subst hl
        subst hE
        subst hH
        (conv => whnf)
        (refine br_ (fun h2 => ?_) (fun h2 => ?_))
        · exfalso; omega
        · have c8 := ValidGlyph_v ⟨g.fName, g.fCode, g.fAdvance + divR a 16384, ⟨upTo (vgL S 0 L) L L.length⟩, g.fParts, g.fAnchors, g.fHints⟩
          have hfi := hfl L.length
          have hfp : (g.fParts.map TPart.D).length = g.fParts.length := List.length_map _
          have hfa : (g.fAnchors.map TAnchor.D).length = g.fAnchors.length := List.length_map _
          (conv => whnf)
          (repeat' (first | (refine stg_ ?_) | (refine cla_ (c8) ?_) | (refine br_ (fun hbr => ?_) (fun hbr => ?_))))
          rw [← hV]
          have hvg : vgF g (S, a) = ⟨g.fName, g.fCode, g.fAdvance + divR a 16384, ⟨upTo (vgL S 0 L) L L.length⟩, g.fParts, g.fAnchors, g.fHints⟩ := by rw [upTo_all hVl, vgF, hLL]
          rw [hvg]
          refine ⟨⟨[some 5, some 6, some 7], ⟨by decide, rfl, trivial, by decide, rfl, trivial, by decide, rfl, trivial, trivial⟩, by decide, ⟨_, rfl, rfl, ?_⟩⟩⟩
          (repeat' (first | ((conv => whnf); done) | ((conv => whnf); (first | (exact ⟨by decide, rfl⟩) | (exact ⟨rfl, rfl⟩) | (refine ⟨_, _, rfl, ?_, ?_⟩) | (refine ⟨_, rfl, ?_⟩) | rfl))))
      · obtain ⟨i, q⟩ := p
        dsimp only at hp hx
        subst hp
        have hfi := hfl i
        have hi : i < L.length := (List.getElem?_eq_some_iff.1 hx).1
        have hxl := loop_in (hout'.2 x (List.mem_of_getElem? hx))
        obtain ⟨tg, tc, ts, tt', tn⟩ := τ
        dsimp only at hq hc
        obtain rfl : tn = 3 := hq (by intro e; rw [List.map_eq_nil_iff] at e; rw [e] at hxl; exact absurd hxl.1 (by decide))
        have hgE : (((upTo (vgL S 0 L) L i).map TLoop.D).set i (.st [.hole tg (x.fKnots.map TKnot.D).length tc]))[i]? = some (.st [.hole tg (x.fKnots.map TKnot.D).length tc]) := List.getElem?_set_self (by rw [hfi]; exact hi)
        subst hE
        subst hH
        (conv => whnf)
        (refine br_ (fun h2 => ?_) (fun h2 => ?_))
        · have hii : ((i : Nat) : Int) < ((L.length : Nat) : Int) := by omega
          (repeat' (first | (refine stg_ ?_) | (refine IoW.at (by omega) hii ?_; (conv => whnf)) | (refine EoW.at hgE ?_; (conv => whnf)) | (refine ⟨⟨11, 10, _, _, _, _, _, rfl, rfl, hc, ?_⟩⟩; (conv => whnf)) | (refine br_ (fun hbr => ?_) (fun hbr => ?_))))
          have hSm : cnK (L.take (i + 1)) = cnK (L.take i) + x.fKnots.length := by rw [take_snoc_get hx, cnK_snoc]
          have hSt := cnK_take L (i + 1)
          have hVK : (vgK S (cnK (L.take i)) x.fKnots).length = x.fKnots.length := vgK_len _ _ _
          have hkl : (x.fKnots.map TKnot.D).length = x.fKnots.length := List.length_map _
          refine LoopW.go (α := Nat) (fun j => [(8, .pB 4 [] 0), (10, .pB 8 [] 0), (11, .own 9 0 S.length), (20, .d (.int .i64 ((cnK (L.take i) + j : Nat)))), (22, .pB 12 [] 0), (109, .own 5 0 L.length), (110, .d (.int .i64 (L.length : Nat))), (111, .d (.int .i64 (i : Nat))), (117, .d (.int .i64 (x.fKnots.map TKnot.D).length)), (118, .d (.int .i64 (j : Nat)))])
            (fun j => [.gone, .gone, .gone, .gone, .box (.st [.d (.str .empty), .d (.int .i64 0), .d (.int .i64 0), .st [.nils], .nils, .nils, .d (.str .empty)]), .arr 1 (((upTo (vgL S 0 L) L i).map TLoop.D).set i (.st [.hole tg (x.fKnots.map TKnot.D).length tc])) true, .arr 3 (g.fParts.map TPart.D) true, .arr 3 (g.fAnchors.map TAnchor.D) true, .box (.st [.d (.str g.fName), .d (.int .i64 g.fCode), .d (.int .i64 (g.fAdvance + divR a 16384)), .st [.own 5 0 L.length], .own 6 0 g.fParts.length, .own 7 0 g.fAnchors.length, .d (.str g.fHints)]), .arr 2 (S.map TPt.D) true, .arr 3 ((upTo (vgK S (cnK (L.take i)) x.fKnots) x.fKnots j).map TKnot.D) true, .pin 10 tg ts tt', .box (.d (.st [.hole tg (x.fKnots.map TKnot.D).length tc]))])
            (fun j => j ≤ x.fKnots.length) (fun j => x.fKnots.length - j) 0 (Weak.cov ⟨rfl, rfl, rfl, rfl, rfl, rfl, rfl, rfl, rfl, rfl, trivial⟩ ⟨trivial, trivial, trivial, trivial, rfl, rfl, rfl, rfl, rfl, rfl, by (rw [upTo_zero]), rfl, rfl, trivial⟩ rfl) (Nat.zero_le _) (fun j hj => ?_)
          (conv => whnf)
          (refine br_ (fun h3 => ?_) (fun h3 => ?_))
          · obtain ⟨kn, hkn⟩ := at_lt' (xs := x.fKnots) (k := j) (by omega)
            obtain ⟨q, hq'⟩ := at_lt' (xs := S) (k := cnK (L.take i) + j) (by omega)
            have hgS : (S.map TPt.D)[cnK (L.take i) + j]? = some q.D := by rw [List.getElem?_map, hq']; rfl
            have hgK : ((upTo (vgK S (cnK (L.take i)) x.fKnots) x.fKnots j).map TKnot.D)[j]? = some kn.D := by rw [List.getElem?_map, upTo_at hVK hkn]; rfl
            have b1 := pnt_in (hxl.2.2 kn (List.mem_of_getElem? hkn))
            have b2 := hb' q (List.mem_of_getElem? hq')
            have c9 : PC Tryz.prog 124 [.d q.D, .d (.int .i64 16384)] (.d (.st [.int .i64 (divR q.fX 16384), .int .i64 (divR q.fY 16384)])) [] := divPt_v q 16384
            have r1 : divR q.fX 16384 ≤ 125829120 := divR_le' (by decide) (by omega)
            have r2 : -125829120 ≤ divR q.fX 16384 := divR_ge (by decide) (by omega)
            have r3 : divR q.fY 16384 ≤ 125829120 := divR_le' (by decide) (by omega)
            have r4 : -125829120 ≤ divR q.fY 16384 := divR_ge (by decide) (by omega)
            (repeat' (first | (refine stg_ ?_) | (refine cla_ (c9) ?_) | (refine IoW.at (by omega) (by omega) ?_; (conv => whnf)) | (refine EoW.at hgS ?_; (conv => whnf)) | (refine EoW.at hgK ?_; (conv => whnf)) | (refine ⟨⟨11, 10, _, _, _, _, _, rfl, rfl, hc, ?_⟩⟩; (conv => whnf)) | (refine br_ (fun hbr => ?_) (fun hbr => ?_))))
            have hVg := vgK_get S (cnK (L.take i)) x.fKnots j kn hkn
            have hmv : mvK S (cnK (L.take i) + j) kn = ⟨⟨kn.fAt.fX + divR q.fX 16384, kn.fAt.fY + divR q.fY 16384⟩, kn.fOn⟩ := by unfold mvK atB; rw [hq']; rfl
            exact NextW.go (j + 1) (Weak.cov ⟨rfl, rfl, rfl, rfl, rfl, rfl, rfl, rfl, rfl, rfl, trivial⟩ ⟨trivial, trivial, trivial, trivial, rfl, rfl, rfl, rfl, rfl, rfl, by (rw [← upTo_set hVK hkn hVg, List.map_set, hmv]; rfl), rfl, rfl, trivial⟩ rfl) (by omega) (by omega)
          · obtain rfl : j = x.fKnots.length := by omega
            rw [upTo_all hVK]
            (repeat' (first | (refine stg_ ?_) | fail | (refine br_ (fun hbr => ?_) (fun hbr => ?_))))
            refine ⟨fun B X N M a w R => ?_⟩
            obtain ⟨M0, R0⟩ := R.inn (b := 5) (c := 10) (j := 11) (k := i) (p := [0]) (U := fun u => D.st [u]) (by decide) (by decide) (by decide) rfl hgE rfl (fun _ => rfl) rfl rfl (by rw [List.length_map, List.length_map, hVK]) hc
            have hy : (vgL S 0 L)[i]? = some ⟨vgK S (cnK (L.take i)) x.fKnots⟩ := by have := vgL_get S 0 L i x hx; rwa [Nat.zero_add] at this
            obtain ⟨MZ, RZ⟩ := R0.cov (e' := E0 (i + 1)) (h' := H0 (i + 1)) (show cov _ [_, _, _, _, _, _, _] from ⟨rfl, rfl, rfl, congrArg (fun z : Nat => V.d (.int .i64 (z : Int))) (by rw [hSm]), rfl, rfl, rfl, trivial⟩) (show covH _ [_, _, _, _, _, Blk.arr 1 _ true, _, _, _, _] from ⟨trivial, trivial, trivial, trivial, rfl, by
              have : (upTo (vgL S 0 L) L (i + 1)).map TLoop.D = ((upTo (vgL S 0 L) L i).map TLoop.D).set i (TLoop.D ⟨vgK S (cnK (L.take i)) x.fKnots⟩) := by rw [← upTo_set hVl hx hy, List.map_set]
              rw [this]
              simp only [Int.toNat_natCast, Nat.add_zero, List.set_set]
              rfl, rfl, rfl, rfl, rfl, trivial⟩) rfl
            obtain ⟨p, M3, R3, hI, hp⟩ := enter (i + 1) (by omega) _ _ _ _ _ _ RZ
            exact ⟨p, M3, R3, hI, by show L.length - p.1 < L.length - i; omega⟩
        · exfalso; omega
set_option maxHeartbeats 4000000 in
theorem l30Vary_v (s : TGlyphSet) (v : TVariation) (gi : Nat) (g : TGlyph) (ns : List Int) (H : VaH s v gi g ns) (z : V) (bs : List Blk) (h0 : glB (vgF g (vgS g v.fMasters gi ns)) = true → z = .tup [.st [.d (.str g.fName), .d (.int .i64 g.fCode), .d (.int .i64 (vgF g (vgS g v.fMasters gi ns)).fAdvance), .st [.own 1 0 g.fOutline.fLoops.length], .own 2 0 g.fParts.length, .own 3 0 g.fAnchors.length, .d (.str g.fHints)], .d (.int .i64 0)] ∧ bs = [.arr 1 ((vgF g (vgS g v.fMasters gi ns)).fOutline.fLoops.map TLoop.D) true, .arr 3 (g.fParts.map TPart.D) true, .arr 3 (g.fAnchors.map TAnchor.D) true])
    (h1 : ¬ glB (vgF g (vgS g v.fMasters gi ns)) = true → z = .tup [.st [.d (.str .empty), .d (.int .i64 0), .d (.int .i64 0), .st [.nils], .nils, .nils, .d (.str .empty)], .d (.int .i64 2)] ∧ bs = []) : PC Tryz.prog 56 [.pX s.D, .pX v.D, .d (.int .i64 gi), .d (.lst (ns.map (D.int .i64)))] z bs := by
  refine pc_intro ttOk (by kernel_rfl) Tryz.func56 rfl (by kernel_rfl) (by kernel_rfl) (by kernel_rfl) (fun hw => ?_)
  have hLg : (s.fGlyphs.map TGlyph.D).length = s.fGlyphs.length := List.length_map _
  have hLm : (v.fMasters.map TMaster.D).length = v.fMasters.length := List.length_map _
  have hgi := H.ls
  have hgl : gi < s.fGlyphs.length := (List.getElem?_eq_some_iff.1 H.at').1
  have hg' : (s.fGlyphs.map TGlyph.D)[((gi : Nat) : Int).toNat]? = some g.D := by rw [Int.toNat_natCast, List.getElem?_map, H.at']; rfl
  have c1 := l17OwnGlyph_v g H.gl
  have hout := H.out
  have c2 := l30Count_v g.fOutline hout
  have hout' := out_in hout
  have hcn := cnK_le hout'.2
  have hadv := H.adv
  obtain ⟨hm8, hma⟩ := H.ma
  (conv => whnf)
  (repeat' (first | (refine stg_ ?_) | (refine IxW.at (by omega) hg' ?_; (conv => whnf)) | (refine cla_ (c1) ?_) | (refine cla_ (c2) ?_) | (refine MkW.at (by omega) (by omega) (by show ((16 : Nat) : Int) * _ ≤ 2 ^ 48; omega) ?_; (conv => whnf)) | (refine br_ (fun hbr => ?_) (fun hbr => ?_))))
  refine LoopW.go (α := Nat × List TPt × Int) (fun p => [(1, .pX v.D), (2, .d (.int .i64 gi)), (3, .d (.lst (ns.map (D.int .i64)))), (8, .pB 1 [] 0), (10, .pB 5 [] 0), (11, .own 6 0 p.2.1.length), (12, .d (.int .i64 p.2.2)), (13, .d (.int .i64 (p.1 : Nat)))])
    (fun p => [.gone, .box (.st [.d (.str .empty), .d (.int .i64 0), .d (.int .i64 0), .st [.nils], .nils, .nils, .d (.str .empty)]), .arr 1 (g.fOutline.fLoops.map TLoop.D) true, .arr 3 (g.fParts.map TPart.D) true, .arr 3 (g.fAnchors.map TAnchor.D) true, .box (.st [.d (.str g.fName), .d (.int .i64 g.fCode), .d (.int .i64 (g.fAdvance)), .st [.own 2 0 g.fOutline.fLoops.length], .own 3 0 g.fParts.length, .own 4 0 g.fAnchors.length, .d (.str g.fHints)]), .arr 2 (p.2.1.map TPt.D) true])
    (fun p => p.1 ≤ v.fMasters.length ∧ p.2.1.length = cnK g.fOutline.fLoops ∧ bdS (20 * p.1) p.2.1 ∧ (-(4294967296 * (20 * (p.1 : Int))) ≤ p.2.2 ∧ p.2.2 ≤ 4294967296 * (20 * (p.1 : Int))) ∧ msF ns gi g.fOutline.fLoops (v.fMasters.drop p.1) p.2 = vgS g v.fMasters gi ns)
    (fun p => v.fMasters.length - p.1) (0, List.replicate (cnK g.fOutline.fLoops) pt0, 0) (Weak.cov ⟨rfl, rfl, rfl, rfl, rfl, by (show _ = V.own 6 0 (List.replicate _ pt0).length; rw [List.length_replicate]; rfl), rfl, rfl, trivial⟩ ⟨trivial, rfl, rfl, rfl, rfl, rfl, by (show _ = Blk.arr 2 ((List.replicate _ pt0).map TPt.D) true; rw [List.map_replicate]; rfl), trivial⟩ rfl)
    ⟨Nat.zero_le _, List.length_replicate, bdS_zero _, ⟨by (show -(4294967296 * (20 * ((0 : Nat) : Int))) ≤ (0 : Int); decide), by (show (0 : Int) ≤ 4294967296 * (20 * ((0 : Nat) : Int)); decide)⟩, by rfl⟩ ?_
  rintro ⟨k, S, a⟩ ⟨hk, hS, hb, ha, hV⟩
  dsimp only at hk hS hb ha hV ⊢
  (conv => whnf)
  (refine br_ (fun h2 => ?_) (fun h2 => ?_))
  · obtain ⟨m, hm⟩ := at_lt' (xs := v.fMasters) (k := k) (by omega)
    have hmm := List.mem_of_getElem? hm
    obtain ⟨hp1, hp2, hp3, hp4⟩ := hma m hmm
    have c4 := l30Effect_v m.fPeaks ns hp1 hp2
    have hLd : (m.fDeltas.map TGlyphDelta.D).length = m.fDeltas.length := List.length_map _
    have hm' : (v.fMasters.map TMaster.D)[((k : Nat) : Int).toNat]? = some m.D := by rw [Int.toNat_natCast, List.getElem?_map, hm]; rfl
    rw [msF_at hm] at hV
    have hb1 := mfK_bnd (ns := ns) hp1 m.fPeaks.length
    (repeat' (first | (refine stg_ ?_) | (refine cla_ (c4) ?_) | (refine IxW.at (by omega) hm' ?_; (conv => whnf)) | (refine br_ (fun hbr => ?_) (fun hbr => ?_))))
    have hfd : mfK m.fPeaks ns m.fPeaks.length = maF ns m := rfl
    rw [hfd] at hb1
    generalize hf : maF ns m = f at *
    refine LoopW.go (α := Nat × List TPt × Int) (fun p => [(1, .pX v.D), (2, .d (.int .i64 gi)), (3, .d (.lst (ns.map (D.int .i64)))), (8, .pB 1 [] 0), (10, .pB 5 [] 0), (11, .own 6 0 p.2.1.length), (12, .d (.int .i64 p.2.2)), (13, .d (.int .i64 (k : Nat))), (14, .pX m.D), (15, .d (.int .i64 f)), (16, .d (.int .i64 (p.1 : Nat)))])
      (fun p => [.gone, .box (.st [.d (.str .empty), .d (.int .i64 0), .d (.int .i64 0), .st [.nils], .nils, .nils, .d (.str .empty)]), .arr 1 (g.fOutline.fLoops.map TLoop.D) true, .arr 3 (g.fParts.map TPart.D) true, .arr 3 (g.fAnchors.map TAnchor.D) true, .box (.st [.d (.str g.fName), .d (.int .i64 g.fCode), .d (.int .i64 (g.fAdvance)), .st [.own 2 0 g.fOutline.fLoops.length], .own 3 0 g.fParts.length, .own 4 0 g.fAnchors.length, .d (.str g.fHints)]), .arr 2 (p.2.1.map TPt.D) true])
      (fun p => p.1 ≤ m.fDeltas.length ∧ p.2.1.length = cnK g.fOutline.fLoops ∧ bdS (20 * k + p.1) p.2.1 ∧ (-(4294967296 * (20 * (k : Int) + (p.1 : Int))) ≤ p.2.2 ∧ p.2.2 ≤ 4294967296 * (20 * (k : Int) + (p.1 : Int))) ∧ msF ns gi g.fOutline.fLoops (v.fMasters.drop (k + 1)) (dsF f gi g.fOutline.fLoops (m.fDeltas.drop p.1) p.2) = vgS g v.fMasters gi ns)
      (fun p => m.fDeltas.length - p.1) (0, S, a) (Weak.cov ⟨rfl, rfl, rfl, rfl, rfl, rfl, rfl, rfl, rfl, by (show V.d (.int .i64 (mfK m.fPeaks ns m.fPeaks.length)) = _; rw [hfd]), rfl, trivial⟩ ⟨trivial, rfl, rfl, rfl, rfl, rfl, rfl, trivial⟩ rfl)
      ⟨Nat.zero_le _, hS, bdS_mono (Nat.le_refl _) hb, ⟨by (show -(4294967296 * (20 * (k : Int) + ((0 : Nat) : Int))) ≤ a); omega, by (show a ≤ 4294967296 * (20 * (k : Int) + ((0 : Nat) : Int))); omega⟩, hV⟩ ?_
    clear hV ha hb hS
    rintro ⟨kd, S1, a1⟩ ⟨hkd, hS, hb, ha, hV⟩
    dsimp only at hkd hS hb ha hV ⊢
    (conv => whnf)
    (refine br_ (fun h3 => ?_) (fun h3 => ?_))
    · obtain ⟨d, hd⟩ := at_lt' (xs := m.fDeltas) (k := kd) (by omega)
      have hdm := List.mem_of_getElem? hd
      have hd' : (m.fDeltas.map TGlyphDelta.D)[((kd : Nat) : Int).toNat]? = some d.D := by rw [Int.toNat_natCast, List.getElem?_map, hd]; rfl
      rw [dsF_at hd] at hV
      by_cases hde : d.fGlyph = (gi : Int)
      · rw [if_pos hde] at hV
        obtain ⟨hI, hgd⟩ := H.inf hmm hdm hde
        have c5 := l30Infer_v g.fOutline d.fKnots d.fMoves hI
        have hda := gd_adv hgd
        have hfa := mulN hb1.1 hb1.2 hda.1 hda.2
        have hMl : (inL d.fKnots d.fMoves 0 g.fOutline.fLoops).length = cnK g.fOutline.fLoops := inL_len _ _ _ _
        have hMb := inL_bnd (ns := d.fKnots) hI.mv 0 g.fOutline.fLoops
        (repeat' (first | (refine stg_ ?_) | (refine cla_ (c5) ?_) | (refine IxW.at (by omega) hd' ?_; (conv => whnf)) | (refine br_ (fun hbr => ?_) (fun hbr => ?_))))
        all_goals first | (exfalso; omega) | skip
        generalize hMM : inL d.fKnots d.fMoves 0 g.fOutline.fLoops = MM at *
        have hSM : S1.length = MM.length := by omega
        refine LoopW.go (α := Nat) (fun j => [(1, .pX v.D), (2, .d (.int .i64 gi)), (3, .d (.lst (ns.map (D.int .i64)))), (8, .pB 1 [] 0), (10, .pB 5 [] 0), (11, .own 6 0 S1.length), (12, .d (.int .i64 a1)), (13, .d (.int .i64 (k : Nat))), (14, .pX m.D), (15, .d (.int .i64 f)), (16, .d (.int .i64 (kd : Nat))), (17, .own 7 0 (cnK g.fOutline.fLoops)), (18, .d (.int .i64 (j : Nat)))])
          (fun j => [.gone, .box (.st [.d (.str .empty), .d (.int .i64 0), .d (.int .i64 0), .st [.nils], .nils, .nils, .d (.str .empty)]), .arr 1 (g.fOutline.fLoops.map TLoop.D) true, .arr 3 (g.fParts.map TPart.D) true, .arr 3 (g.fAnchors.map TAnchor.D) true, .box (.st [.d (.str g.fName), .d (.int .i64 g.fCode), .d (.int .i64 (g.fAdvance)), .st [.own 2 0 g.fOutline.fLoops.length], .own 3 0 g.fParts.length, .own 4 0 g.fAnchors.length, .d (.str g.fHints)]), .arr 2 ((adK f S1 MM j).map TPt.D) true, .arr 2 (MM.map TPt.D) true]) (fun j => j ≤ S1.length) (fun j => S1.length - j) 0 (Weak.cov ⟨rfl, rfl, rfl, rfl, rfl, rfl, rfl, rfl, rfl, rfl, rfl, rfl, rfl, trivial⟩ ⟨trivial, rfl, rfl, rfl, rfl, rfl, by rw [adK_zero], rfl, trivial⟩ rfl) (Nat.zero_le _) (fun j hj => ?_)
        have hLM : (MM.map TPt.D).length = MM.length := List.length_map _
        have hLK : ((adK f S1 MM j).map TPt.D).length = S1.length := by rw [List.length_map, adK_len hSM]
        (conv => whnf)
        (refine br_ (fun h4 => ?_) (fun h4 => ?_))
        · obtain ⟨q, hq⟩ := at_lt' (xs := MM) (k := j) (by omega)
          obtain ⟨t, ht⟩ := at_lt' (xs := S1) (k := j) (by omega)
          have hgM : (MM.map TPt.D)[j]? = some q.D := by rw [List.getElem?_map, hq]; rfl
          have hgS : ((adK f S1 MM j).map TPt.D)[j]? = some t.D := by rw [List.getElem?_map, adK_at hSM ht]; rfl
          have b1 := adP_bnd hb1.1 hb1.2 (hMb q (List.mem_of_getElem? hq))
          have b2 := hb t (List.mem_of_getElem? ht)
          (repeat' (first | (refine stg_ ?_) | (refine IoW.at (by omega) (by omega) ?_; (conv => whnf)) | (refine EoW.at hgM ?_; (conv => whnf)) | (refine EoW.at hgS ?_; (conv => whnf)) | (refine br_ (fun hbr => ?_) (fun hbr => ?_))))
          exact NextW.go (j + 1) (Weak.cov ⟨rfl, rfl, rfl, rfl, rfl, rfl, rfl, rfl, rfl, rfl, rfl, rfl, rfl, trivial⟩ ⟨trivial, rfl, rfl, rfl, rfl, rfl, by (rw [← adK_set hSM ht hq, List.map_set]; rfl), rfl, trivial⟩ rfl) (by omega) (by omega)
        · obtain rfl : j = S1.length := by omega
          rw [adK_all hSM]
          (repeat' (first | (refine stg_ ?_) | (refine IxW.at (by omega) hd' ?_; (conv => whnf)) | (refine br_ (fun hbr => ?_) (fun hbr => ?_))))
          have hdl2 : dlF f g.fOutline.fLoops d (S1, a1) = (adS f S1 MM, a1 + f * d.fAdvance) := by rw [← hMM]; rfl
          rw [hdl2] at hV
          exact NextW.go (kd + 1, adS f S1 MM, a1 + f * d.fAdvance) (Weak.cov ⟨rfl, rfl, rfl, rfl, rfl, by (show V.own 6 0 S1.length = V.own 6 0 (adS f S1 MM).length; rw [adS_len hSM]), rfl, rfl, rfl, rfl, rfl, trivial⟩ ⟨trivial, rfl, rfl, rfl, rfl, rfl, rfl, trivial⟩ rfl)
            ⟨by (show kd + 1 ≤ _); omega, by (show (adS f S1 MM).length = _); rw [adS_len hSM, hS], bdS_mono (by (show 20 * k + kd + 1 ≤ 20 * k + (kd + 1)); omega) (bdS_ad hb1.1 hb1.2 hMb hb), ⟨by (show -(4294967296 * (20 * (k : Int) + ((kd + 1 : Nat) : Int))) ≤ a1 + f * d.fAdvance); omega, by (show a1 + f * d.fAdvance ≤ 4294967296 * (20 * (k : Int) + ((kd + 1 : Nat) : Int))); omega⟩, hV⟩ (by dsimp only; omega)
      · rw [if_neg hde] at hV
        (repeat' (first | (refine stg_ ?_) | (refine IxW.at (by omega) hd' ?_; (conv => whnf)) | (refine br_ (fun hbr => ?_) (fun hbr => ?_))))
        all_goals first | (exfalso; omega) | skip
        exact NextW.go (kd + 1, S1, a1) (Weak.cov ⟨rfl, rfl, rfl, rfl, rfl, rfl, rfl, rfl, rfl, rfl, rfl, trivial⟩ ⟨trivial, rfl, rfl, rfl, rfl, rfl, rfl, trivial⟩ rfl) ⟨by (show kd + 1 ≤ _); omega, hS, bdS_mono (by (show 20 * k + kd ≤ 20 * k + (kd + 1)); omega) hb, ⟨by (show -(4294967296 * (20 * (k : Int) + ((kd + 1 : Nat) : Int))) ≤ a1); omega, by (show a1 ≤ 4294967296 * (20 * (k : Int) + ((kd + 1 : Nat) : Int))); omega⟩, hV⟩ (by dsimp only; omega)
    · obtain rfl : kd = m.fDeltas.length := by omega
      rw [List.drop_length, dsF] at hV
      (repeat' (first | (refine stg_ ?_) | fail | (refine br_ (fun hbr => ?_) (fun hbr => ?_))))
      exact NextW.go (k + 1, S1, a1) (Weak.cov ⟨rfl, rfl, rfl, rfl, rfl, rfl, rfl, rfl, trivial⟩ ⟨trivial, rfl, rfl, rfl, rfl, rfl, rfl, trivial⟩ rfl) ⟨by (show k + 1 ≤ _); omega, hS, bdS_mono (by (show 20 * k + m.fDeltas.length ≤ 20 * (k + 1)); omega) hb, ⟨by (show -(4294967296 * (20 * ((k + 1 : Nat) : Int))) ≤ a1); omega, by (show a1 ≤ 4294967296 * (20 * ((k + 1 : Nat) : Int))); omega⟩, hV⟩ (by dsimp only; omega)
  · obtain rfl : k = v.fMasters.length := by omega
    rw [List.drop_length, msF] at hV
    have c6 := specDivRound_v a 16384
    have d1 : divR a 16384 ≤ 41943040 := divR_le' (by decide) (by omega)
    have d2 : -41943040 ≤ divR a 16384 := divR_ge (by decide) (by omega)
    generalize hLL : g.fOutline.fLoops = L at *
    have hVl : (vgL S 0 L).length = L.length := vgL_len S 0 L
    have hb' : bdS 160 S := bdS_mono (by (show 20 * v.fMasters.length ≤ 160); omega) hb
    have hfl : ∀ i, ((upTo (vgL S 0 L) L i).map TLoop.D).length = L.length := fun i => by rw [List.length_map, upTo_len hVl]
    let E0 : Nat → Env := fun i => [(8, .pB 1 [] 0), (10, .pB 5 [] 0), (11, .own 6 0 S.length), (12, .d (.int .i64 a)), (19, .d (.int .i64 (cnK (L.take i) : Nat))), (20, .d (.int .i64 (i : Nat)))]
    let H0 : Nat → List Blk := fun i => [.gone, .box (.st [.d (.str .empty), .d (.int .i64 0), .d (.int .i64 0), .st [.nils], .nils, .nils, .d (.str .empty)]), .arr 1 ((upTo (vgL S 0 L) L i).map TLoop.D) true, .arr 3 (g.fParts.map TPart.D) true, .arr 3 (g.fAnchors.map TAnchor.D) true, .box (.st [.d (.str g.fName), .d (.int .i64 g.fCode), .d (.int .i64 (g.fAdvance)), .st [.own 2 0 L.length], .own 3 0 g.fParts.length, .own 4 0 g.fAnchors.length, .d (.str g.fHints)]), .arr 2 (S.map TPt.D) true]
    let mkH : Nat × Option (TLoop × Tk) → List Blk := fun p => match p with
      | (i, none) => H0 i
      | (i, some (x, τ)) => [.gone, .box (.st [.d (.str .empty), .d (.int .i64 0), .d (.int .i64 0), .st [.nils], .nils, .nils, .d (.str .empty)]), .arr 1 (((upTo (vgL S 0 L) L i).map TLoop.D).set i (.st [.hole τ.g (x.fKnots.map TKnot.D).length τ.cap])) true, .arr 3 (g.fParts.map TPart.D) true, .arr 3 (g.fAnchors.map TAnchor.D) true, .box (.st [.d (.str g.fName), .d (.int .i64 g.fCode), .d (.int .i64 (g.fAdvance)), .st [.own 2 0 L.length], .own 3 0 g.fParts.length, .own 4 0 g.fAnchors.length, .d (.str g.fHints)]), .arr 2 (S.map TPt.D) true, .arr τ.n (x.fKnots.map TKnot.D) true, .pin 7 τ.g τ.sz τ.t]
    let I : Nat × Option (TLoop × Tk) → Prop := fun p => (p.2 = none ∧ p.1 = L.length) ∨ ∃ x τ, p.2 = some (x, τ) ∧ L[p.1]? = some x ∧ τ.ok 3 (x.fKnots.map TKnot.D)
    have enter : ∀ i, i ≤ L.length → ∀ (B : World) (X : List Nat) (N : Nat) (M : MM) (a : Act) (w : World), Rep B X N M (E0 i) (H0 i) a w → ∃ p M', Rep B X N M' (E0 p.1) (mkH p) a w ∧ I p ∧ p.1 = i := fun i hi B X N M a w R => by
      rcases Nat.lt_or_ge i L.length with hlt | hge
      · obtain ⟨x, hx⟩ := at_lt' (xs := L) (k := i) hlt
        have he : ((upTo (vgL S 0 L) L i).map TLoop.D)[i]? = some x.D := by rw [List.getElem?_map, upTo_at hVl hx]; rfl
        obtain ⟨g0, cap0, sz0, t0, n0, M0, p0, q0, R0⟩ := R.out (b := 2) (k := i) (p := [0]) (U := fun u => D.st [u]) (n1 := 3) (by decide) rfl he rfl (fun _ => rfl) (by intro y hy; obtain ⟨z, _, rfl⟩ := List.mem_map.1 hy; rfl)
        exact ⟨(i, some (x, ⟨g0, cap0, sz0, t0, n0⟩)), M0, R0, .inr ⟨x, _, rfl, hx, ⟨p0, q0⟩⟩, rfl⟩
      · exact ⟨(i, none), M, R, .inl ⟨rfl, by show i = _; omega⟩, rfl⟩
    (conv => whnf)
    (repeat' (first | (refine stg_ ?_) | fail | (refine br_ (fun hbr => ?_) (fun hbr => ?_))))
    refine LoopW.goX (fun p => E0 p.1) mkH I (fun p => L.length - p.1) (fun B X N M a w R => ?_) (fun p hp E H' hE hH => ?_)
    · obtain ⟨M1, R1⟩ := R.cov (e' := E0 0) (h' := H0 0) (show cov _ [_, _, _, _, _, _] from ⟨rfl, rfl, rfl, rfl, rfl, rfl, trivial⟩) (show covH _ [_, _, _, _, _, _, _] from ⟨trivial, rfl, by rw [upTo_zero], rfl, rfl, rfl, rfl, trivial⟩) rfl
      obtain ⟨p, M2, R2, hI, _⟩ := enter 0 (by omega) _ _ _ _ _ _ R1
      exact ⟨p, M2, R2, hI⟩
    · rcases hp with ⟨hp, hl⟩ | ⟨x, τ, hp, hx, hq, hc⟩
      · obtain ⟨i, q⟩ := p
        dsimp only at hp hl
        subst hp
        subst hl
        subst hE
        subst hH
        (conv => whnf)
        (refine br_ (fun h2 => ?_) (fun h2 => ?_))
        · exfalso; omega
        · have c8 := l17Glyph_v ⟨g.fName, g.fCode, g.fAdvance + divR a 16384, ⟨upTo (vgL S 0 L) L L.length⟩, g.fParts, g.fAnchors, g.fHints⟩
          have hfi := hfl L.length
          have hfp : (g.fParts.map TPart.D).length = g.fParts.length := List.length_map _
          have hfa : (g.fAnchors.map TAnchor.D).length = g.fAnchors.length := List.length_map _
          have hvg : vgF g (S, a) = ⟨g.fName, g.fCode, g.fAdvance + divR a 16384, ⟨upTo (vgL S 0 L) L L.length⟩, g.fParts, g.fAnchors, g.fHints⟩ := by rw [upTo_all hVl, vgF, hLL]
          rw [← hV, hvg] at h0 h1
          (conv => whnf)
          cases hgb : glB ⟨g.fName, g.fCode, g.fAdvance + divR a 16384, ⟨upTo (vgL S 0 L) L L.length⟩, g.fParts, g.fAnchors, g.fHints⟩
          · rw [hgb] at c8
            obtain ⟨rfl, rfl⟩ := h1 (by rw [hgb]; decide)
            (repeat' (first | (refine stg_ ?_) | (refine cla_ (c6) ?_) | (refine cla_ (c8) ?_) | (refine br_ (fun hbr => ?_) (fun hbr => ?_))))
            refine ⟨⟨[], trivial, by decide, ⟨_, rfl, rfl, ?_⟩⟩⟩
            (repeat' (first | ((conv => whnf); done) | ((conv => whnf); (first | (exact ⟨by decide, rfl⟩) | (exact ⟨rfl, rfl⟩) | (refine ⟨_, _, rfl, ?_, ?_⟩) | (refine ⟨_, rfl, ?_⟩) | rfl))))
          · rw [hgb] at c8
            obtain ⟨rfl, rfl⟩ := h0 hgb
            (repeat' (first | (refine stg_ ?_) | (refine cla_ (c6) ?_) | (refine cla_ (c8) ?_) | (refine br_ (fun hbr => ?_) (fun hbr => ?_))))
            refine ⟨⟨[some 2, some 3, some 4], ⟨by decide, rfl, trivial, by decide, rfl, trivial, by decide, rfl, trivial, trivial⟩, by decide, ⟨_, rfl, rfl, ?_⟩⟩⟩
            (repeat' (first | ((conv => whnf); done) | ((conv => whnf); (first | (exact ⟨by decide, rfl⟩) | (exact ⟨rfl, rfl⟩) | (refine ⟨_, _, rfl, ?_, ?_⟩) | (refine ⟨_, rfl, ?_⟩) | rfl))))
      · obtain ⟨i, q⟩ := p
        dsimp only at hp hx
        subst hp
        have hfi := hfl i
        have hi : i < L.length := (List.getElem?_eq_some_iff.1 hx).1
        have hxl := loop_in (hout'.2 x (List.mem_of_getElem? hx))
        obtain ⟨tg, tc, ts, tt', tn⟩ := τ
        dsimp only at hq hc
        obtain rfl : tn = 3 := hq (by intro e; rw [List.map_eq_nil_iff] at e; rw [e] at hxl; exact absurd hxl.1 (by decide))
        have hgE : (((upTo (vgL S 0 L) L i).map TLoop.D).set i (.st [.hole tg (x.fKnots.map TKnot.D).length tc]))[i]? = some (.st [.hole tg (x.fKnots.map TKnot.D).length tc]) := List.getElem?_set_self (by rw [hfi]; exact hi)
        subst hE
        subst hH
        (conv => whnf)
        (refine br_ (fun h2 => ?_) (fun h2 => ?_))
        · have hii : ((i : Nat) : Int) < ((L.length : Nat) : Int) := by omega
          (repeat' (first | (refine stg_ ?_) | (refine IoW.at (by omega) hii ?_; (conv => whnf)) | (refine EoW.at hgE ?_; (conv => whnf)) | (refine ⟨⟨8, 7, _, _, _, _, _, rfl, rfl, hc, ?_⟩⟩; (conv => whnf)) | (refine br_ (fun hbr => ?_) (fun hbr => ?_))))
          have hSm : cnK (L.take (i + 1)) = cnK (L.take i) + x.fKnots.length := by rw [take_snoc_get hx, cnK_snoc]
          have hSt := cnK_take L (i + 1)
          have hVK : (vgK S (cnK (L.take i)) x.fKnots).length = x.fKnots.length := vgK_len _ _ _
          have hkl : (x.fKnots.map TKnot.D).length = x.fKnots.length := List.length_map _
          refine LoopW.go (α := Nat) (fun j => [(8, .pB 1 [] 0), (10, .pB 5 [] 0), (11, .own 6 0 S.length), (12, .d (.int .i64 a)), (19, .d (.int .i64 (cnK (L.take i) + j : Nat))), (20, .d (.int .i64 (i : Nat))), (21, .own 7 0 (x.fKnots.map TKnot.D).length), (22, .d (.int .i64 (j : Nat)))])
            (fun j => [.gone, .box (.st [.d (.str .empty), .d (.int .i64 0), .d (.int .i64 0), .st [.nils], .nils, .nils, .d (.str .empty)]), .arr 1 (((upTo (vgL S 0 L) L i).map TLoop.D).set i (.st [.hole tg (x.fKnots.map TKnot.D).length tc])) true, .arr 3 (g.fParts.map TPart.D) true, .arr 3 (g.fAnchors.map TAnchor.D) true, .box (.st [.d (.str g.fName), .d (.int .i64 g.fCode), .d (.int .i64 (g.fAdvance)), .st [.own 2 0 L.length], .own 3 0 g.fParts.length, .own 4 0 g.fAnchors.length, .d (.str g.fHints)]), .arr 2 (S.map TPt.D) true, .arr 3 ((upTo (vgK S (cnK (L.take i)) x.fKnots) x.fKnots j).map TKnot.D) true, .pin 7 tg ts tt']) (fun j => j ≤ x.fKnots.length) (fun j => x.fKnots.length - j) 0 (Weak.cov ⟨rfl, rfl, rfl, rfl, rfl, rfl, rfl, rfl, trivial⟩ ⟨trivial, rfl, rfl, rfl, rfl, rfl, rfl, by (rw [upTo_zero]), rfl, trivial⟩ rfl) (Nat.zero_le _) (fun j hj => ?_)
          (conv => whnf)
          (refine br_ (fun h3 => ?_) (fun h3 => ?_))
          · obtain ⟨kn, hkn⟩ := at_lt' (xs := x.fKnots) (k := j) (by omega)
            obtain ⟨q, hq'⟩ := at_lt' (xs := S) (k := cnK (L.take i) + j) (by omega)
            have hgS : (S.map TPt.D)[cnK (L.take i) + j]? = some q.D := by rw [List.getElem?_map, hq']; rfl
            have hgK : ((upTo (vgK S (cnK (L.take i)) x.fKnots) x.fKnots j).map TKnot.D)[j]? = some kn.D := by rw [List.getElem?_map, upTo_at hVK hkn]; rfl
            have b1 := pnt_in (hxl.2.2 kn (List.mem_of_getElem? hkn))
            have b2 := hb' q (List.mem_of_getElem? hq')
            have c9 := specDivRound_v q.fX 16384
            have c10 := specDivRound_v q.fY 16384
            have r1 : divR q.fX 16384 ≤ 125829120 := divR_le' (by decide) (by omega)
            have r2 : -125829120 ≤ divR q.fX 16384 := divR_ge (by decide) (by omega)
            have r3 : divR q.fY 16384 ≤ 125829120 := divR_le' (by decide) (by omega)
            have r4 : -125829120 ≤ divR q.fY 16384 := divR_ge (by decide) (by omega)
            have hVg := vgK_get S (cnK (L.take i)) x.fKnots j kn hkn
            have hmv : mvK S (cnK (L.take i) + j) kn = ⟨⟨kn.fAt.fX + divR q.fX 16384, kn.fAt.fY + divR q.fY 16384⟩, kn.fOn⟩ := by unfold mvK atB; rw [hq']; rfl
            (repeat' (first | (refine stg_ ?_) | (refine cla_ (c9) ?_) | (refine cla_ (c10) ?_) | (refine IoW.at (by omega) (by omega) ?_; (conv => whnf)) | (refine EoW.at hgS ?_; (conv => whnf)) | (refine EoW.at hgK ?_; (conv => whnf)) | (refine br_ (fun hbr => ?_) (fun hbr => ?_))))
            exact NextW.go (j + 1) (Weak.cov ⟨rfl, rfl, rfl, rfl, rfl, rfl, rfl, rfl, trivial⟩ ⟨trivial, rfl, rfl, rfl, rfl, rfl, rfl, by (rw [← upTo_set hVK hkn hVg, List.map_set, hmv]; rfl), rfl, trivial⟩ rfl) (by omega) (by omega)
          · obtain rfl : j = x.fKnots.length := by omega
            rw [upTo_all hVK]
            (repeat' (first | (refine stg_ ?_) | fail | (refine br_ (fun hbr => ?_) (fun hbr => ?_))))
            refine ⟨fun B X N M a w R => ?_⟩
            obtain ⟨M0, R0⟩ := R.inn (b := 2) (c := 7) (j := 8) (k := i) (p := [0]) (U := fun u => D.st [u]) (by decide) (by decide) (by decide) rfl hgE rfl (fun _ => rfl) rfl rfl (by rw [List.length_map, List.length_map, hVK]) hc
            have hy : (vgL S 0 L)[i]? = some ⟨vgK S (cnK (L.take i)) x.fKnots⟩ := by have := vgL_get S 0 L i x hx; rwa [Nat.zero_add] at this
            obtain ⟨MZ, RZ⟩ := R0.cov (e' := E0 (i + 1)) (h' := H0 (i + 1)) (show cov _ [_, _, _, _, _, _] from ⟨rfl, rfl, rfl, rfl, congrArg (fun z : Nat => V.d (.int .i64 (z : Int))) (by rw [hSm]), rfl, trivial⟩) (show covH _ [_, _, Blk.arr 1 _ true, _, _, _, _] from ⟨trivial, rfl, by
              have : (upTo (vgL S 0 L) L (i + 1)).map TLoop.D = ((upTo (vgL S 0 L) L i).map TLoop.D).set i (TLoop.D ⟨vgK S (cnK (L.take i)) x.fKnots⟩) := by rw [← upTo_set hVl hx hy, List.map_set]
              rw [this]
              simp only [Int.toNat_natCast, Nat.add_zero, List.set_set]
              rfl, rfl, rfl, rfl, rfl, trivial⟩) rfl
            obtain ⟨p, M3, R3, hI, hp⟩ := enter (i + 1) (by omega) _ _ _ _ _ _ RZ
            exact ⟨p, M3, R3, hI, by show L.length - p.1 < L.length - i; omega⟩
        · exfalso; omega
theorem VaH_of {s : TGlyphSet} {v : TVariation} {gi : Nat} {g : TGlyph} {ns : List Int} (hv : vvB v s = true) (hg : s.fGlyphs[gi]? = some g) (hn : nmsB ns v.fAxes.length = true) : VaH s v gi g ns := by
  have h1 : vvB v s = (wfB v && (gsB s && v.fMasters.all fun m => m.fDeltas.all (dvB s.fGlyphs))) := rfl
  rw [h1] at hv
  simp only [Bool.and_eq_true, List.all_eq_true] at hv
  have h2 : gsB s = (inB s.fUnit 16 16384 && (decide (s.fGlyphs.length ≤ 40) && (gsG [] s.fGlyphs && gordB (psG s.fGlyphs)))) := rfl
  have h3 := hv.2.1
  rw [h2] at h3
  simp only [Bool.and_eq_true, decide_eq_true_eq] at h3
  have hl := (List.getElem?_eq_some_iff.1 hg).1
  refine ⟨hv.1, gsG_all h3.2.2.1 g (List.mem_of_getElem? hg), by omega, hg, hn, fun m hm d hd he => ?_⟩
  have h4 := hv.2.2 m hm d hd
  unfold dvB at h4
  rw [he, Int.toNat_natCast, hg] at h4
  exact h4
theorem vv_len {s : TGlyphSet} {v : TVariation} (hv : vvB v s = true) : s.fGlyphs.length ≤ 40 := by
  have h1 : vvB v s = (wfB v && (gsB s && v.fMasters.all fun m => m.fDeltas.all (dvB s.fGlyphs))) := rfl
  rw [h1] at hv
  simp only [Bool.and_eq_true, List.all_eq_true] at hv
  have h2 : gsB s = (inB s.fUnit 16 16384 && (decide (s.fGlyphs.length ≤ 40) && (gsG [] s.fGlyphs && gordB (psG s.fGlyphs)))) := rfl
  have h3 := hv.2.1
  rw [h2] at h3
  simp only [Bool.and_eq_true, decide_eq_true_eq] at h3
  exact h3.2.1
def vgC (s : TGlyphSet) (v : TVariation) (gl : Int) (ns : List Int) : Int :=
  if vvB v s = true then (if 0 ≤ gl ∧ gl < (s.fGlyphs.length : Nat) then (if nmsB ns v.fAxes.length = true then (match s.fGlyphs[gl.toNat]? with
    | some g => if glB (vgF g (vgS g v.fMasters gl ns)) = true then 0 else 2
    | none => 2) else 2) else 2) else 1
theorem vg_cases (s : TGlyphSet) (v : TVariation) (gl : Int) (ns : List Int) : (∃ c, vgC s v gl ns = c ∧ c ≠ 0) ∨ ∃ g, s.fGlyphs[gl.toNat]? = some g ∧ vgC s v gl ns = 0 ∧ glB g = true := by
  by_cases h : vgC s v gl ns = 0
  · refine .inr ?_
    have h' := h
    unfold vgC at h'
    split at h'
    · rename_i hv
      split at h'
      · split at h'
        · rename_i hn
          split at h'
          · rename_i g hg
            exact ⟨g, hg, h, (VaH_of hv hg hn).gl⟩
          · omega
        · omega
      · omega
    · omega
  · exact .inl ⟨_, rfl, h⟩
theorem wSum_bd {α : Type} {w : α → Nat} {c : Nat} : ∀ {xs : List α}, (∀ x ∈ xs, w x ≤ c) → wSum w xs ≤ c * xs.length
  | [], _ => by simp [wSum]
  | x :: t, h => by
    have h1 := h x (by simp)
    have h2 := wSum_bd (w := w) (xs := t) (fun y hy => h y (by simp [hy]))
    simp only [wSum, List.map_cons, List.sum_cons, List.length_cons, Nat.mul_add, Nat.mul_one] at *
    omega
theorem vgL_kn (S : List TPt) : ∀ (a : Nat) (ls : List TLoop), (∀ l ∈ ls, loopB l = true) → ∀ l ∈ vgL S a ls, l.fKnots.length ≤ 60
  | _, [], _, l, hl => by simp [vgL] at hl
  | a, x :: t, h, l, hl => by
    rw [vgL] at hl
    rcases List.mem_cons.1 hl with rfl | hl
    · have := (loop_in (h x (by simp))).2.1
      show (vgK S a x.fKnots).length ≤ 60
      rw [vgK_len]; exact this
    · exact vgL_kn S _ t (fun y hy => h y (by simp [hy])) l hl
theorem vg_wgt {g : TGlyph} {p : SA} (h : glB g = true) : wSum wgtLoop (vgF g p).fOutline.fLoops ≤ 100000 := by
  have h1 := out_in (gl_out h)
  have h2 : wSum wgtLoop (vgL p.1 0 g.fOutline.fLoops) ≤ 180 * (vgL p.1 0 g.fOutline.fLoops).length := wSum_bd (fun x hx => by
    have := vgL_kn p.1 0 _ h1.2 x hx
    have : wgtLoop x = 0 + 3 * x.fKnots.length := rfl
    omega)
  rw [vgL_len] at h2
  show wSum wgtLoop (vgL p.1 0 g.fOutline.fLoops) ≤ 100000
  omega
theorem vg_parts {g : TGlyph} (h : glB g = true) : g.fParts.length ≤ 6 ∧ g.fAnchors.length ≤ 6 := by
  simp only [glB, Bool.and_eq_true, decide_eq_true_eq] at h
  exact ⟨h.2.2.2.2.2.1, h.2.2.2.2.2.2.1⟩
set_option maxHeartbeats 4000000 in
theorem VaryGlyph_v (s : TGlyphSet) (v : TVariation) (gl : Int) (ns : List Int) (z : V) (bs : List Blk) (h0 : vgC s v gl ns = 0 → ∀ g, s.fGlyphs[gl.toNat]? = some g → z = .tup [.st [.d (.str g.fName), .d (.int .i64 g.fCode), .d (.int .i64 (vgF g (vgS g v.fMasters gl ns)).fAdvance), .st [.own 1 0 g.fOutline.fLoops.length], .own 2 0 g.fParts.length, .own 3 0 g.fAnchors.length, .d (.str g.fHints)], .d (.int .i64 0)] ∧ bs = [.arr 1 ((vgF g (vgS g v.fMasters gl ns)).fOutline.fLoops.map TLoop.D) true, .arr 3 (g.fParts.map TPart.D) true, .arr 3 (g.fAnchors.map TAnchor.D) true])
    (h1 : vgC s v gl ns ≠ 0 → z = .tup [.st [.d (.str .empty), .d (.int .i64 0), .d (.int .i64 0), .st [.nils], .nils, .nils, .d (.str .empty)], .d (.int .i64 (vgC s v gl ns))] ∧ bs = []) : PC Tryz.prog 23 [.d s.D, .d v.D, .d (.int .i64 gl), .d (.lst (ns.map (D.int .i64)))] z bs := by
  refine pc_intro ttOk (by kernel_rfl) Tryz.func23 rfl (by kernel_rfl) (by kernel_rfl) (by kernel_rfl) (fun hw => ?_)
  have hLg : (s.fGlyphs.map TGlyph.D).length = s.fGlyphs.length := List.length_map _
  have hLa : (v.fAxes.map TAxis.D).length = v.fAxes.length := List.length_map _
  have c1 := ValidVariation_v v s
  have c2 := areNormals_v ns v.fAxes.length
  rw [← hLa] at c2
  have hC : vgC s v gl ns = if vvB v s = true then (if 0 ≤ gl ∧ gl < (s.fGlyphs.length : Nat) then (if nmsB ns v.fAxes.length = true then (match s.fGlyphs[gl.toNat]? with
    | some g => if glB (vgF g (vgS g v.fMasters gl ns)) = true then 0 else 2
    | none => 2) else 2) else 2) else 1 := rfl
  cases q1 : vvB v s
  · rw [q1, if_neg (by decide)] at hC
    rw [q1] at c1
    obtain ⟨rfl, rfl⟩ := h1 (by omega)
    rw [hC]
    (conv => whnf)
    (repeat' (first | (refine stg_ ?_) | (refine cla_ (c1) ?_) | (refine br_ (fun hbr => ?_) (fun hbr => ?_))))
    all_goals (refine ⟨⟨[], trivial, by decide, ⟨_, rfl, rfl, ?_⟩⟩⟩; (repeat' (first | ((conv => whnf); done) | ((conv => whnf); (first | (exact ⟨by decide, rfl⟩) | (exact ⟨rfl, rfl⟩) | (refine ⟨_, _, rfl, ?_, ?_⟩) | (refine ⟨_, rfl, ?_⟩) | rfl)))))
  rw [q1, if_pos rfl] at hC
  have hl40 := vv_len q1
  rw [q1] at c1
  by_cases q2 : 0 ≤ gl ∧ gl < (s.fGlyphs.length : Nat)
  rotate_left
  · rw [if_neg q2] at hC
    obtain ⟨rfl, rfl⟩ := h1 (by omega)
    rw [hC]
    (conv => whnf)
    (repeat' (first | (refine stg_ ?_) | (refine cla_ (c1) ?_) | (refine cla_ (c2) ?_) | (refine br_ (fun hbr => ?_) (fun hbr => ?_))))
    all_goals first | (exfalso; omega) | skip
    all_goals (refine ⟨⟨[], trivial, by decide, ⟨_, rfl, rfl, ?_⟩⟩⟩; (repeat' (first | ((conv => whnf); done) | ((conv => whnf); (first | (exact ⟨by decide, rfl⟩) | (exact ⟨rfl, rfl⟩) | (refine ⟨_, _, rfl, ?_, ?_⟩) | (refine ⟨_, rfl, ?_⟩) | rfl)))))
  rw [if_pos q2] at hC
  cases q3 : nmsB ns v.fAxes.length
  · rw [q3, if_neg (by decide)] at hC
    rw [← hLa] at q3
    rw [q3] at c2
    obtain ⟨rfl, rfl⟩ := h1 (by omega)
    rw [hC]
    (conv => whnf)
    (repeat' (first | (refine stg_ ?_) | (refine cla_ (c1) ?_) | (refine cla_ (c2) ?_) | (refine br_ (fun hbr => ?_) (fun hbr => ?_))))
    all_goals first | (exfalso; omega) | skip
    all_goals (refine ⟨⟨[], trivial, by decide, ⟨_, rfl, rfl, ?_⟩⟩⟩; (repeat' (first | ((conv => whnf); done) | ((conv => whnf); (first | (exact ⟨by decide, rfl⟩) | (exact ⟨rfl, rfl⟩) | (refine ⟨_, _, rfl, ?_, ?_⟩) | (refine ⟨_, rfl, ?_⟩) | rfl)))))
  rw [q3, if_pos rfl] at hC
  obtain ⟨g, hg⟩ := at_lt' (xs := s.fGlyphs) (k := gl.toNat) (by omega)
  have H := VaH_of q1 hg q3
  have c3 := varyGlyph_v s v gl.toNat g ns H
  rw [Int.toNat_of_nonneg q2.1] at c3
  rw [hg] at hC
  dsimp only at hC
  rw [← hLa] at q3
  rw [q3] at c2
  cases q4 : glB (vgF g (vgS g v.fMasters gl ns))
  · rw [q4, if_neg (by decide)] at hC
    rw [q4] at c3
    obtain ⟨rfl, rfl⟩ := h1 (by omega)
    rw [hC]
    (conv => whnf)
    (repeat' (first | (refine stg_ ?_) | (refine cla_ (c1) ?_) | (refine cla_ (c2) ?_) | (refine cla_ (c3) ?_) | (refine br_ (fun hbr => ?_) (fun hbr => ?_))))
    all_goals first | (exfalso; omega) | skip
    all_goals (refine ⟨⟨[], trivial, by decide, ⟨_, rfl, rfl, ?_⟩⟩⟩; (repeat' (first | ((conv => whnf); done) | ((conv => whnf); (first | (exact ⟨by decide, rfl⟩) | (exact ⟨rfl, rfl⟩) | (refine ⟨_, _, rfl, ?_, ?_⟩) | (refine ⟨_, rfl, ?_⟩) | rfl)))))
  · rw [q4, if_pos rfl] at hC
    rw [q4] at c3
    obtain ⟨rfl, rfl⟩ := h0 hC g hg
    (conv => whnf)
    (repeat' (first | (refine stg_ ?_) | (refine cla_ (c1) ?_) | (refine cla_ (c2) ?_) | (refine cla_ (c3) ?_) | (refine br_ (fun hbr => ?_) (fun hbr => ?_))))
    all_goals first | (exfalso; omega) | skip
    all_goals (refine ⟨⟨[some 4, some 5, some 6], ⟨by decide, rfl, trivial, by decide, rfl, trivial, by decide, rfl, trivial, trivial⟩, by decide, ⟨_, rfl, rfl, ?_⟩⟩⟩; (repeat' (first | ((conv => whnf); done) | ((conv => whnf); (first | (exact ⟨by decide, rfl⟩) | (exact ⟨rfl, rfl⟩) | (refine ⟨_, _, rfl, ?_, ?_⟩) | (refine ⟨_, rfl, ?_⟩) | rfl)))))
set_option maxHeartbeats 4000000 in
theorem specVaryGlyph_v (s : TGlyphSet) (v : TVariation) (gl : Int) (ns : List Int) (z : V) (bs : List Blk) (h0 : vgC s v gl ns = 0 → ∀ g, s.fGlyphs[gl.toNat]? = some g → z = .tup [.st [.d (.str g.fName), .d (.int .i64 g.fCode), .d (.int .i64 (vgF g (vgS g v.fMasters gl ns)).fAdvance), .st [.own 1 0 g.fOutline.fLoops.length], .own 2 0 g.fParts.length, .own 3 0 g.fAnchors.length, .d (.str g.fHints)], .d (.int .i64 0)] ∧ bs = [.arr 1 ((vgF g (vgS g v.fMasters gl ns)).fOutline.fLoops.map TLoop.D) true, .arr 3 (g.fParts.map TPart.D) true, .arr 3 (g.fAnchors.map TAnchor.D) true])
    (h1 : vgC s v gl ns ≠ 0 → z = .tup [.st [.d (.str .empty), .d (.int .i64 0), .d (.int .i64 0), .st [.nils], .nils, .nils, .d (.str .empty)], .d (.int .i64 (vgC s v gl ns))] ∧ bs = []) : PC Tryz.prog 22 [.d s.D, .d v.D, .d (.int .i64 gl), .d (.lst (ns.map (D.int .i64)))] z bs := by
  refine pc_intro ttOk (by kernel_rfl) Tryz.func22 rfl (by kernel_rfl) (by kernel_rfl) (by kernel_rfl) (fun hw => ?_)
  have hLg : (s.fGlyphs.map TGlyph.D).length = s.fGlyphs.length := List.length_map _
  have hLa : (v.fAxes.map TAxis.D).length = v.fAxes.length := List.length_map _
  have c1 := l30Ok_v v s
  have c0 := l00In_v gl 0 ((s.fGlyphs.map TGlyph.D).length - 1)
  have hIn : inB gl 0 (((s.fGlyphs.map TGlyph.D).length : Nat) - 1) = decide (0 ≤ gl ∧ gl < (s.fGlyphs.length : Nat)) := by (rw [hLg]; unfold inB; rw [Bool.eq_iff_iff]; simp only [Bool.and_eq_true, decide_eq_true_eq]; omega)
  rw [hIn] at c0
  have c2 := l30Normals_v ns v.fAxes.length
  rw [← hLa] at c2
  have hC : vgC s v gl ns = if vvB v s = true then (if 0 ≤ gl ∧ gl < (s.fGlyphs.length : Nat) then (if nmsB ns v.fAxes.length = true then (match s.fGlyphs[gl.toNat]? with
    | some g => if glB (vgF g (vgS g v.fMasters gl ns)) = true then 0 else 2
    | none => 2) else 2) else 2) else 1 := rfl
  cases q1 : vvB v s
  · rw [q1, if_neg (by decide)] at hC
    rw [q1] at c1
    obtain ⟨rfl, rfl⟩ := h1 (by omega)
    rw [hC]
    (conv => whnf)
    (repeat' (first | (refine stg_ ?_) | (refine cla_ (c1) ?_) | (refine br_ (fun hbr => ?_) (fun hbr => ?_))))
    all_goals (refine ⟨⟨[], trivial, by decide, ⟨_, rfl, rfl, ?_⟩⟩⟩; (repeat' (first | ((conv => whnf); done) | ((conv => whnf); (first | (exact ⟨by decide, rfl⟩) | (exact ⟨rfl, rfl⟩) | (refine ⟨_, _, rfl, ?_, ?_⟩) | (refine ⟨_, rfl, ?_⟩) | rfl)))))
  rw [q1, if_pos rfl] at hC
  have hl40 := vv_len q1
  rw [q1] at c1
  by_cases q2 : 0 ≤ gl ∧ gl < (s.fGlyphs.length : Nat)
  rotate_left
  · rw [if_neg q2] at hC
    rw [decide_eq_false q2] at c0
    obtain ⟨rfl, rfl⟩ := h1 (by omega)
    rw [hC]
    (conv => whnf)
    (repeat' (first | (refine stg_ ?_) | (refine cla_ (c1) ?_) | (refine cla_ (c0) ?_) | (refine cla_ (c2) ?_) | (refine br_ (fun hbr => ?_) (fun hbr => ?_))))
    all_goals first | (exfalso; omega) | skip
    all_goals (refine ⟨⟨[], trivial, by decide, ⟨_, rfl, rfl, ?_⟩⟩⟩; (repeat' (first | ((conv => whnf); done) | ((conv => whnf); (first | (exact ⟨by decide, rfl⟩) | (exact ⟨rfl, rfl⟩) | (refine ⟨_, _, rfl, ?_, ?_⟩) | (refine ⟨_, rfl, ?_⟩) | rfl)))))
  rw [if_pos q2] at hC
  rw [decide_eq_true q2] at c0
  cases q3 : nmsB ns v.fAxes.length
  · rw [q3, if_neg (by decide)] at hC
    rw [← hLa] at q3
    rw [q3] at c2
    obtain ⟨rfl, rfl⟩ := h1 (by omega)
    rw [hC]
    (conv => whnf)
    (repeat' (first | (refine stg_ ?_) | (refine cla_ (c1) ?_) | (refine cla_ (c0) ?_) | (refine cla_ (c2) ?_) | (refine br_ (fun hbr => ?_) (fun hbr => ?_))))
    all_goals first | (exfalso; omega) | skip
    all_goals (refine ⟨⟨[], trivial, by decide, ⟨_, rfl, rfl, ?_⟩⟩⟩; (repeat' (first | ((conv => whnf); done) | ((conv => whnf); (first | (exact ⟨by decide, rfl⟩) | (exact ⟨rfl, rfl⟩) | (refine ⟨_, _, rfl, ?_, ?_⟩) | (refine ⟨_, rfl, ?_⟩) | rfl)))))
  rw [q3, if_pos rfl] at hC
  obtain ⟨g, hg⟩ := at_lt' (xs := s.fGlyphs) (k := gl.toNat) (by omega)
  have H := VaH_of q1 hg q3
  rw [hg] at hC
  dsimp only at hC
  rw [← hLa] at q3
  rw [q3] at c2
  cases q4 : glB (vgF g (vgS g v.fMasters gl ns))
  · rw [q4, if_neg (by decide)] at hC
    have c3 := l30Vary_v s v gl.toNat g ns H (.tup [.st [.d (.str .empty), .d (.int .i64 0), .d (.int .i64 0), .st [.nils], .nils, .nils, .d (.str .empty)], .d (.int .i64 2)]) [] (by rw [Int.toNat_of_nonneg q2.1, q4]; intro e; cases e) (fun _ => ⟨rfl, rfl⟩)
    rw [Int.toNat_of_nonneg q2.1] at c3
    obtain ⟨rfl, rfl⟩ := h1 (by omega)
    rw [hC]
    (conv => whnf)
    (repeat' (first | (refine stg_ ?_) | (refine cla_ (c1) ?_) | (refine cla_ (c0) ?_) | (refine cla_ (c2) ?_) | (refine cla_ (c3) ?_) | (refine br_ (fun hbr => ?_) (fun hbr => ?_))))
    all_goals first | (exfalso; omega) | skip
    all_goals (refine ⟨⟨[], trivial, by decide, ⟨_, rfl, rfl, ?_⟩⟩⟩; (repeat' (first | ((conv => whnf); done) | ((conv => whnf); (first | (exact ⟨by decide, rfl⟩) | (exact ⟨rfl, rfl⟩) | (refine ⟨_, _, rfl, ?_, ?_⟩) | (refine ⟨_, rfl, ?_⟩) | rfl)))))
  · rw [q4, if_pos rfl] at hC
    have c3 := l30Vary_v s v gl.toNat g ns H (.tup [.st [.d (.str g.fName), .d (.int .i64 g.fCode), .d (.int .i64 (vgF g (vgS g v.fMasters gl ns)).fAdvance), .st [.own 1 0 g.fOutline.fLoops.length], .own 2 0 g.fParts.length, .own 3 0 g.fAnchors.length, .d (.str g.fHints)], .d (.int .i64 0)]) [.arr 1 ((vgF g (vgS g v.fMasters gl ns)).fOutline.fLoops.map TLoop.D) true, .arr 3 (g.fParts.map TPart.D) true, .arr 3 (g.fAnchors.map TAnchor.D) true] (by rw [Int.toNat_of_nonneg q2.1]; exact fun _ => ⟨rfl, rfl⟩) (by rw [Int.toNat_of_nonneg q2.1, q4]; exact fun e => absurd rfl e)
    rw [Int.toNat_of_nonneg q2.1] at c3
    obtain ⟨rfl, rfl⟩ := h0 hC g hg
    (conv => whnf)
    (repeat' (first | (refine stg_ ?_) | (refine cla_ (c1) ?_) | (refine cla_ (c0) ?_) | (refine cla_ (c2) ?_) | (refine cla_ (c3) ?_) | (refine br_ (fun hbr => ?_) (fun hbr => ?_))))
    all_goals first | (exfalso; omega) | skip
    all_goals (refine ⟨⟨[some 4, some 5, some 6], ⟨by decide, rfl, trivial, by decide, rfl, trivial, by decide, rfl, trivial, trivial⟩, by decide, ⟨_, rfl, rfl, ?_⟩⟩⟩; (repeat' (first | ((conv => whnf); done) | ((conv => whnf); (first | (exact ⟨by decide, rfl⟩) | (exact ⟨rfl, rfl⟩) | (refine ⟨_, _, rfl, ?_, ?_⟩) | (refine ⟨_, rfl, ?_⟩) | rfl)))))
theorem mapGo_nrm {n : Int} (hn : nrm n = true) : ∀ (xs : List TAxisPoint) (o : Option TAxisPoint), mpGo o xs = true → (∀ q, o = none → xs[0]? = some q → q.fFrom ≤ n) → (∀ p, o = some p → p.fFrom ≤ n ∧ apB p = true) → nrm (mapGo n o xs) = true
  | [], none, _, _, _ => hn
  | [], some _, _, _, _ => hn
  | q :: t, none, h, h0, _ => by
    rw [mpGo_cons] at h
    simp only [Bool.and_eq_true] at h
    have hq := h.1.1
    have hq' := hq
    simp only [apB, Bool.and_eq_true] at hq'
    rw [mapGo]
    split
    · exact hq'.2
    · exact mapGo_nrm hn t (some q) h.2 (fun _ e => by cases e) (fun p e => by cases e; exact ⟨h0 q rfl rfl, hq⟩)
  | q :: t, some p, h, _, h1 => by
    rw [mpGo_cons] at h
    simp only [Bool.and_eq_true] at h
    have hq := h.1.1
    have hq' := hq
    simp only [apB, Bool.and_eq_true] at hq'
    obtain ⟨h2, h3⟩ := h1 p rfl
    simp only [apB, Bool.and_eq_true] at h3
    rw [mapGo]
    split
    · exact hq'.2
    · split
      · have h4 : apLt p q = true := h.1.2
        simp only [apLt, Bool.and_eq_true, decide_eq_true_eq] at h4
        simp only [nrm, Bool.and_eq_true, decide_eq_true_eq] at h3 hq' ⊢
        have h5 := step_bnd (x := n - p.fFrom) (y := q.fTo - p.fTo) (d := q.fFrom - p.fFrom) (by omega) (by omega) (by omega) (by omega) (by omega) (by omega)
        omega
      · exact mapGo_nrm hn t (some q) h.2 (fun _ e => by cases e) (fun p e => by cases e; exact ⟨by omega, hq⟩)
theorem mapN_nrm {a : TAxis} (h : axB a = true) {n : Int} (hn : nrm n = true) : nrm (mapN a n) = true := by
  have hm : mapB a.fMap = true := by simp only [axB, Bool.and_eq_true] at h; exact h.2
  refine mapGo_nrm hn _ none (mapB_mp hm) (fun q _ hq => ?_) (fun _ e => by cases e)
  have := mapB_first hm hq
  simp only [nrm, Bool.and_eq_true, decide_eq_true_eq] at hn
  omega
theorem noL_nms {xs : List TAxis} {vs : List Int} (h : axsB xs = true) (hv : vs.length = xs.length) : nmsB (noL xs vs) xs.length = true := by
  unfold nmsB
  rw [Bool.and_eq_true]
  refine ⟨decide_eq_true (by simp [noL]; omega), List.all_eq_true.2 (fun y hy => ?_)⟩
  obtain ⟨i, hi⟩ := List.mem_iff_getElem?.1 hy
  unfold noL at hi
  rw [List.getElem?_zipWith] at hi
  cases hx : xs[i]? with
  | none => rw [hx] at hi; simp at hi
  | some x =>
    cases hz : vs[i]? with
    | none => rw [hx, hz] at hi; simp at hi
    | some z =>
      rw [hx, hz] at hi
      simp only [Option.some.injEq] at hi
      subst hi
      have hA := axs_ok h hx
      exact mapN_nrm hA (plainN_nrm hA z)
def inG (ms : List TMaster) (ns : List Int) : Nat → List TGlyph → List TGlyph
  | _, [] => []
  | i, g :: t => vgF g (vgS g ms (i : Nat) ns) :: inG ms ns (i + 1) t
theorem inG_len (ms : List TMaster) (ns : List Int) : ∀ (i : Nat) (gs : List TGlyph), (inG ms ns i gs).length = gs.length
  | _, [] => rfl
  | i, g :: t => by simp [inG, inG_len ms ns (i + 1) t]
theorem inG_at (ms : List TMaster) (ns : List Int) : ∀ (i : Nat) (gs : List TGlyph) (k : Nat) (g : TGlyph), gs[k]? = some g → (inG ms ns i gs)[k]? = some (vgF g (vgS g ms ((i + k : Nat) : Int) ns))
  | _, [], k, g, h => by simp at h
  | i, x :: t, 0, g, h => by simp at h; subst h; rfl
  | i, x :: t, k + 1, g, h => by
    have := inG_at ms ns (i + 1) t k g (by simpa using h)
    rw [inG, List.getElem?_cons_succ, this]
    rw [show i + 1 + k = i + (k + 1) by omega]
theorem all_take_succ {α : Type} {p : α → Bool} {xs : List α} {k : Nat} {x : α} (hx : xs[k]? = some x) (h : (xs.take k).all p = true) (hp : p x = true) : (xs.take (k + 1)).all p = true := by
  rw [take_snoc_get hx, List.all_append, h]; simp [hp]
theorem all_false_at {α : Type} {p : α → Bool} {xs : List α} {k : Nat} {x : α} (hx : xs[k]? = some x) (hp : p x = false) : xs.all p = false := by
  cases h : xs.all p
  · rfl
  · rw [List.all_eq_true.1 h x (List.mem_of_getElem? hx)] at hp; cases hp
def inA (s : TGlyphSet) (v : TVariation) (vs : List Int) : List TGlyph := inG v.fMasters (noL v.fAxes vs) 0 s.fGlyphs
def inC (s : TGlyphSet) (v : TVariation) (vs : List Int) : Int :=
  if vvB v s = true then (if vs.length = v.fAxes.length then (if (inA s v vs).all glB = true then 0 else 2) else 2) else 1
theorem vv_wf {s : TGlyphSet} {v : TVariation} (hv : vvB v s = true) : axsB v.fAxes = true := by
  have h1 : vvB v s = (wfB v && (gsB s && v.fMasters.all fun m => m.fDeltas.all (dvB s.fGlyphs))) := rfl
  rw [h1] at hv
  simp only [Bool.and_eq_true] at hv
  have h2 : wfB v = (axsB v.fAxes && (decide (v.fMasters.length ≤ 8) && v.fMasters.all (maB v.fAxes.length))) := rfl
  have h3 := hv.1
  rw [h2] at h3
  simp only [Bool.and_eq_true] at h3
  exact h3.1
theorem in_cases (s : TGlyphSet) (v : TVariation) (vs : List Int) : (∃ c, inC s v vs = c ∧ c ≠ 0) ∨ (inC s v vs = 0 ∧ vvB v s = true ∧ vs.length = v.fAxes.length ∧ (inA s v vs).all glB = true) := by
  by_cases h : inC s v vs = 0
  · refine .inr ⟨h, ?_⟩
    unfold inC at h
    split at h
    · rename_i h1
      split at h
      · rename_i h2
        split at h
        · rename_i h3
          exact ⟨h1, h2, h3⟩
        · omega
      · omega
    · omega
  · exact .inl ⟨_, rfl, h⟩
theorem inA_len (s : TGlyphSet) (v : TVariation) (vs : List Int) : (inA s v vs).length = s.fGlyphs.length := inG_len _ _ _ _
theorem Weak.adoptB2 {e : Env} {h : List Blk} (b : Nat) {x : D} (hb : h[b]? = some (.box (.st [.d x, .nils]))) (hb0 : Nat.ble 1 b = true) (n : Nat) (dp : Bool) : Weak e h e ((h ++ [Blk.arr n [] dp]).set b (.box (.st [.d x, .own h.length 0 0]))) :=
  Weak.trans (Weak.push0 n dp) (Weak.box b (v := .st [.d x, .nils]) (v' := .st [.d x, .own h.length 0 0]) (by rw [List.getElem?_append_left (List.getElem?_eq_some_iff.1 hb).1]; exact hb) hb0 (fun w M h' cs H => by
    obtain ⟨c1, c2, e1, h1, c3, c4, e2, h3, h4⟩ := H
    exact ⟨c1, c2, e1, h1, c3, c4, e2, repC_nil_own _ h3, h4⟩))
set_option maxHeartbeats 4000000 in
theorem InstanceOf_v (s : TGlyphSet) (v : TVariation) (vs : List Int) (z : V) (bs : List Blk) (h0 : inC s v vs = 0 → z = .tup [.st [.d (.int .i64 s.fUnit), .own 1 0 s.fGlyphs.length], .d (.int .i64 0)] ∧ bs = [.arr 7 ((inA s v vs).map TGlyph.D) true])
    (h1 : inC s v vs ≠ 0 → z = .tup [.st [.d (.int .i64 0), .nils], .d (.int .i64 (inC s v vs))] ∧ bs = []) : PC Tryz.prog 29 [.d s.D, .d v.D, .d (.lst (vs.map (D.int .i64)))] z bs := by
  refine pc_intro ttOk (by kernel_rfl) Tryz.func29 rfl (by kernel_rfl) (by kernel_rfl) (by kernel_rfl) (fun hw => ?_)
  have hLg : (s.fGlyphs.map TGlyph.D).length = s.fGlyphs.length := List.length_map _
  have hLa : (v.fAxes.map TAxis.D).length = v.fAxes.length := List.length_map _
  have c1 := ValidVariation_v v s
  have hC : inC s v vs = if vvB v s = true then (if vs.length = v.fAxes.length then (if (inA s v vs).all glB = true then 0 else 2) else 2) else 1 := rfl
  cases q1 : vvB v s
  · rw [q1, if_neg (by decide)] at hC
    rw [q1] at c1
    obtain ⟨rfl, rfl⟩ := h1 (by omega)
    rw [hC]
    (conv => whnf)
    (repeat' (first | (refine stg_ ?_) | (refine cla_ (c1) ?_) | (refine br_ (fun hbr => ?_) (fun hbr => ?_))))
    all_goals (refine ⟨⟨[], trivial, by decide, ⟨_, rfl, rfl, ?_⟩⟩⟩; (repeat' (first | ((conv => whnf); done) | ((conv => whnf); (first | (exact ⟨by decide, rfl⟩) | (exact ⟨rfl, rfl⟩) | (refine ⟨_, _, rfl, ?_, ?_⟩) | (refine ⟨_, rfl, ?_⟩) | rfl)))))
  rw [q1, if_pos rfl] at hC
  have hl40 := vv_len q1
  have hax := vv_wf q1
  rw [q1] at c1
  by_cases q2 : vs.length = v.fAxes.length
  rotate_left
  · rw [if_neg q2] at hC
    have c2 := NormalsOf_no v.fAxes vs (.inr q2)
    have hno : noC v.fAxes vs = 2 := by unfold noC; rw [if_pos hax]
    rw [hno] at c2
    obtain ⟨rfl, rfl⟩ := h1 (by omega)
    rw [hC]
    (conv => whnf)
    (repeat' (first | (refine stg_ ?_) | (refine cla_ (c1) ?_) | (refine cla_ (c2) ?_) | (refine br_ (fun hbr => ?_) (fun hbr => ?_))))
    all_goals first | (exfalso; omega) | skip
    all_goals (refine ⟨⟨[], trivial, by decide, ⟨_, rfl, rfl, ?_⟩⟩⟩; (repeat' (first | ((conv => whnf); done) | ((conv => whnf); (first | (exact ⟨by decide, rfl⟩) | (exact ⟨rfl, rfl⟩) | (refine ⟨_, _, rfl, ?_, ?_⟩) | (refine ⟨_, rfl, ?_⟩) | rfl)))))
  rw [if_pos q2] at hC
  have c2 := NormalsOf_v v.fAxes vs hax q2
  have hnm := noL_nms hax q2
  have hlN : (noL v.fAxes vs).length = v.fAxes.length := by simp [noL]; omega
  have hlA := inA_len s v vs
  have hAt : ∀ (k : Nat) (g : TGlyph), s.fGlyphs[k]? = some g → (inA s v vs)[k]? = some (vgF g (vgS g v.fMasters (k : Nat) (noL v.fAxes vs))) := fun k g hg => by have := inG_at v.fMasters (noL v.fAxes vs) 0 s.fGlyphs k g hg; rwa [Nat.zero_add] at this
  generalize hns : noL v.fAxes vs = ns at *
  generalize inA s v vs = A at *
  have hLn : (ns.map (D.int .i64)).length = v.fAxes.length := by rw [List.length_map, hlN]
  (conv => whnf)
  (repeat' (first | (refine stg_ ?_) | (refine cla_ (c1) ?_) | (refine cla_ (c2) ?_) | (refine br_ (fun hbr => ?_) (fun hbr => ?_))))
  refine LoopW.go (α := Nat) (fun k => [(3, .pB 1 [] 0), (4, .pB 2 [] 0), (6, .pB 3 [] 0), (8, .own 4 0 v.fAxes.length), (10, .pB 5 [] 0), (34, .d (.int .i64 s.fGlyphs.length)), (35, .d (.int .i64 k))])
    (fun k => [.gone, .box (.d s.D), .box (.d v.D), .box (.st [.d (.int .i64 0), .nils]), .arr 1 (ns.map (D.int .i64)) true, .box (.st [.d (.int .i64 s.fUnit), .own 6 0 ((A.take k).map TGlyph.D).length]), .arr 7 ((A.take k).map TGlyph.D) true])
    (fun k => k ≤ s.fGlyphs.length ∧ (A.take k).all glB = true) (fun k => s.fGlyphs.length - k) 0 (Weak.trans (Weak.adoptB2 5 rfl rfl 7 true) (Weak.cov ⟨rfl, rfl, rfl, rfl, rfl, by rw [← hLg]; rfl, rfl, trivial⟩ ⟨trivial, rfl, rfl, rfl, rfl, rfl, rfl, trivial⟩ rfl)) ⟨Nat.zero_le _, rfl⟩ (fun k hk => ?_)
  obtain ⟨hk, hka⟩ := hk
  have hd : ((A.take k).map TGlyph.D).length = k := by simp; omega
  (conv => whnf)
  (refine br_ (fun h2 => ?_) (fun h2 => ?_))
  · obtain ⟨g, hg⟩ := at_lt' (xs := s.fGlyphs) (k := k) (by omega)
    have H := VaH_of q1 hg hnm
    have c3 := varyGlyph_v s v k g ns H
    have ha := hAt k g hg
    cases q4 : glB (vgF g (vgS g v.fMasters k ns))
    · rw [q4] at c3
      rw [if_neg (by rw [all_false_at ha q4]; decide)] at hC
      obtain ⟨rfl, rfl⟩ := h1 (by omega)
      rw [hC]
      (repeat' (first | (refine stg_ ?_) | (refine cla_ (c3) ?_) | (refine br_ (fun hbr => ?_) (fun hbr => ?_))))
      all_goals first | (exfalso; omega) | skip
      all_goals (refine ⟨⟨[], trivial, by decide, ⟨_, rfl, rfl, ?_⟩⟩⟩; (repeat' (first | ((conv => whnf); done) | ((conv => whnf); (first | (exact ⟨by decide, rfl⟩) | (exact ⟨rfl, rfl⟩) | (refine ⟨_, _, rfl, ?_, ?_⟩) | (refine ⟨_, rfl, ?_⟩) | rfl)))))
    · rw [q4] at c3
      have hF : (A.take (k + 1)).map TGlyph.D = (A.take k).map TGlyph.D ++ [(vgF g (vgS g v.fMasters k ns)).D] := by rw [take_snoc_get ha, List.map_append]; rfl
      have hvl : (List.map TLoop.D (vgF g (vgS g v.fMasters k ns)).fOutline.fLoops).length = g.fOutline.fLoops.length := by rw [List.length_map]; exact vgL_len _ _ _
      (repeat' (first | (refine stg_ ?_) | (refine cla_ (c3) ?_) | (refine TkW.at (by first | exact hvl.symm | (rw [List.length_map]; done)) ?_; (conv => whnf)) | (refine br_ (fun hbr => ?_) (fun hbr => ?_))))
      all_goals first | (exfalso; omega) | skip
      refine NextW.go (k + 1) (Weak.cov ⟨rfl, rfl, rfl, rfl, rfl, rfl, rfl, trivial⟩ ⟨trivial, rfl, rfl, rfl, rfl, ?_, ?_, trivial⟩ rfl) ⟨by omega, all_take_succ ha hka q4⟩ (by omega)
      · rw [hF, List.length_append]; rfl
      · rw [hF, ← hd, List.take_length]; rfl
  · obtain rfl : k = s.fGlyphs.length := by omega
    have hAA : A.take s.fGlyphs.length = A := List.take_of_length_le (by omega)
    have hka2 : A.all glB = true := by rw [hAA] at hka; exact hka
    rw [if_pos hka2] at hC
    rw [hAA] at *
    have hd2 : (A.map TGlyph.D).length = s.fGlyphs.length := by rw [List.length_map]; exact hlA
    obtain ⟨rfl, rfl⟩ := h0 hC
    (repeat' (first | (refine stg_ ?_) | fail | (refine br_ (fun hbr => ?_) (fun hbr => ?_))))
    refine ⟨⟨[some 6], ⟨by decide, rfl, trivial, trivial⟩, by decide, ⟨_, rfl, rfl, ?_⟩⟩⟩
    rw [← hd2]
    (repeat' (first | ((conv => whnf); done) | ((conv => whnf); (first | (exact ⟨by decide, rfl⟩) | (exact ⟨rfl, rfl⟩) | (refine ⟨_, _, rfl, ?_, ?_⟩) | (refine ⟨_, rfl, ?_⟩) | rfl))))
set_option maxHeartbeats 4000000 in
theorem specInstanceOf_v (s : TGlyphSet) (v : TVariation) (vs : List Int) (z : V) (bs : List Blk) (h0 : inC s v vs = 0 → z = .tup [.st [.d (.int .i64 s.fUnit), .own 1 0 s.fGlyphs.length], .d (.int .i64 0)] ∧ bs = [.arr 7 ((inA s v vs).map TGlyph.D) true])
    (h1 : inC s v vs ≠ 0 → z = .tup [.st [.d (.int .i64 0), .nils], .d (.int .i64 (inC s v vs))] ∧ bs = []) : PC Tryz.prog 28 [.d s.D, .d v.D, .d (.lst (vs.map (D.int .i64)))] z bs := by
  refine pc_intro ttOk (by kernel_rfl) Tryz.func28 rfl (by kernel_rfl) (by kernel_rfl) (by kernel_rfl) (fun hw => ?_)
  have hLg : (s.fGlyphs.map TGlyph.D).length = s.fGlyphs.length := List.length_map _
  have hLa : (v.fAxes.map TAxis.D).length = v.fAxes.length := List.length_map _
  have hLv : (vs.map (D.int .i64)).length = vs.length := List.length_map _
  have c1 := l30Ok_v v s
  have hC : inC s v vs = if vvB v s = true then (if vs.length = v.fAxes.length then (if (inA s v vs).all glB = true then 0 else 2) else 2) else 1 := rfl
  cases q1 : vvB v s
  · rw [q1, if_neg (by decide)] at hC
    rw [q1] at c1
    obtain ⟨rfl, rfl⟩ := h1 (by omega)
    rw [hC]
    (conv => whnf)
    (repeat' (first | (refine stg_ ?_) | (refine cla_ (c1) ?_) | (refine br_ (fun hbr => ?_) (fun hbr => ?_))))
    all_goals (refine ⟨⟨[], trivial, by decide, ⟨_, rfl, rfl, ?_⟩⟩⟩; (repeat' (first | ((conv => whnf); done) | ((conv => whnf); (first | (exact ⟨by decide, rfl⟩) | (exact ⟨rfl, rfl⟩) | (refine ⟨_, _, rfl, ?_, ?_⟩) | (refine ⟨_, rfl, ?_⟩) | rfl)))))
  rw [q1, if_pos rfl] at hC
  have hl40 := vv_len q1
  have hax := vv_wf q1
  rw [q1] at c1
  by_cases q2 : vs.length = v.fAxes.length
  rotate_left
  · rw [if_neg q2] at hC
    obtain ⟨rfl, rfl⟩ := h1 (by omega)
    rw [hC]
    (conv => whnf)
    (repeat' (first | (refine stg_ ?_) | (refine cla_ (c1) ?_) | (refine br_ (fun hbr => ?_) (fun hbr => ?_))))
    all_goals first | (exfalso; omega) | skip
    all_goals (refine ⟨⟨[], trivial, by decide, ⟨_, rfl, rfl, ?_⟩⟩⟩; (repeat' (first | ((conv => whnf); done) | ((conv => whnf); (first | (exact ⟨by decide, rfl⟩) | (exact ⟨rfl, rfl⟩) | (refine ⟨_, _, rfl, ?_, ?_⟩) | (refine ⟨_, rfl, ?_⟩) | rfl)))))
  rw [if_pos q2] at hC
  have c2 := l29All_v v.fAxes vs hax q2
  have hnm := noL_nms hax q2
  have hlN : (noL v.fAxes vs).length = v.fAxes.length := by simp [noL]; omega
  have hlA := inA_len s v vs
  have hAt : ∀ (k : Nat) (g : TGlyph), s.fGlyphs[k]? = some g → (inA s v vs)[k]? = some (vgF g (vgS g v.fMasters (k : Nat) (noL v.fAxes vs))) := fun k g hg => by have := inG_at v.fMasters (noL v.fAxes vs) 0 s.fGlyphs k g hg; rwa [Nat.zero_add] at this
  generalize hns : noL v.fAxes vs = ns at *
  generalize inA s v vs = A at *
  have hLn : (ns.map (D.int .i64)).length = v.fAxes.length := by rw [List.length_map, hlN]
  (conv => whnf)
  (repeat' (first | (refine stg_ ?_) | (refine cla_ (c1) ?_) | (refine cla_ (c2) ?_) | (refine br_ (fun hbr => ?_) (fun hbr => ?_))))
  all_goals first | (exfalso; omega) | skip
  refine LoopW.go (α := Nat) (fun k => [(3, .pB 1 [] 0), (4, .pB 2 [] 0), (6, .pB 3 [] 0), (8, .own 4 0 v.fAxes.length), (9, .pB 6 [] 0), (10, .d (.int .i64 k))])
    (fun k => [.gone, .box (.d s.D), .box (.d v.D), .box (.st [.d (.int .i64 0), .nils]), .arr 1 (ns.map (D.int .i64)) true, .arr 7 ((A.take k).map TGlyph.D) true, .box (.st [.d (.int .i64 s.fUnit), .own 5 0 ((A.take k).map TGlyph.D).length])])
    (fun k => k ≤ s.fGlyphs.length ∧ (A.take k).all glB = true) (fun k => s.fGlyphs.length - k) 0 covT_ ⟨Nat.zero_le _, rfl⟩ (fun k hk => ?_)
  obtain ⟨hk, hka⟩ := hk
  have hd : ((A.take k).map TGlyph.D).length = k := by simp; omega
  (conv => whnf)
  (refine br_ (fun h2 => ?_) (fun h2 => ?_))
  · obtain ⟨g, hg⟩ := at_lt' (xs := s.fGlyphs) (k := k) (by omega)
    have H := VaH_of q1 hg hnm
    have ha := hAt k g hg
    cases q4 : glB (vgF g (vgS g v.fMasters k ns))
    · have c3 := l30Vary_v s v k g ns H (.tup [.st [.d (.str .empty), .d (.int .i64 0), .d (.int .i64 0), .st [.nils], .nils, .nils, .d (.str .empty)], .d (.int .i64 2)]) [] (fun e => by rw [q4] at e; cases e) (fun _ => ⟨rfl, rfl⟩)
      rw [if_neg (by rw [all_false_at ha q4]; decide)] at hC
      obtain ⟨rfl, rfl⟩ := h1 (by omega)
      rw [hC]
      (repeat' (first | (refine stg_ ?_) | (refine cla_ (c3) ?_) | (refine br_ (fun hbr => ?_) (fun hbr => ?_))))
      all_goals first | (exfalso; omega) | skip
      all_goals (refine ⟨⟨[], trivial, by decide, ⟨_, rfl, rfl, ?_⟩⟩⟩; (repeat' (first | ((conv => whnf); done) | ((conv => whnf); (first | (exact ⟨by decide, rfl⟩) | (exact ⟨rfl, rfl⟩) | (refine ⟨_, _, rfl, ?_, ?_⟩) | (refine ⟨_, rfl, ?_⟩) | rfl)))))
    · have c3 := l30Vary_v s v k g ns H (.tup [.st [.d (.str g.fName), .d (.int .i64 g.fCode), .d (.int .i64 (vgF g (vgS g v.fMasters k ns)).fAdvance), .st [.own 1 0 g.fOutline.fLoops.length], .own 2 0 g.fParts.length, .own 3 0 g.fAnchors.length, .d (.str g.fHints)], .d (.int .i64 0)]) [.arr 1 ((vgF g (vgS g v.fMasters k ns)).fOutline.fLoops.map TLoop.D) true, .arr 3 (g.fParts.map TPart.D) true, .arr 3 (g.fAnchors.map TAnchor.D) true] (fun _ => ⟨rfl, rfl⟩) (fun e => absurd q4 e)
      have hF : (A.take (k + 1)).map TGlyph.D = (A.take k).map TGlyph.D ++ [(vgF g (vgS g v.fMasters k ns)).D] := by rw [take_snoc_get ha, List.map_append]; rfl
      have hvl : (List.map TLoop.D (vgF g (vgS g v.fMasters k ns)).fOutline.fLoops).length = g.fOutline.fLoops.length := by rw [List.length_map]; exact vgL_len _ _ _
      (repeat' (first | (refine stg_ ?_) | (refine cla_ (c3) ?_) | (refine TkW.at (by first | exact hvl.symm | (rw [List.length_map]; done)) ?_; (conv => whnf)) | (refine br_ (fun hbr => ?_) (fun hbr => ?_))))
      all_goals first | (exfalso; omega) | skip
      refine NextW.go (k + 1) (Weak.cov ⟨rfl, rfl, rfl, rfl, rfl, rfl, trivial⟩ ⟨trivial, rfl, rfl, rfl, rfl, ?_, ?_, trivial⟩ rfl) ⟨by omega, all_take_succ ha hka q4⟩ (by omega)
      · rw [hF, ← hd, List.take_length]; rfl
      · rw [hF, List.length_append]; rfl
  · obtain rfl : k = s.fGlyphs.length := by omega
    have hAA : A.take s.fGlyphs.length = A := List.take_of_length_le (by omega)
    have hka2 : A.all glB = true := by rw [hAA] at hka; exact hka
    rw [if_pos hka2] at hC
    rw [hAA] at *
    have hd2 : (A.map TGlyph.D).length = s.fGlyphs.length := by rw [List.length_map]; exact hlA
    obtain ⟨rfl, rfl⟩ := h0 hC
    (repeat' (first | (refine stg_ ?_) | fail | (refine br_ (fun hbr => ?_) (fun hbr => ?_))))
    refine ⟨⟨[some 5], ⟨by decide, rfl, trivial, trivial⟩, by decide, ⟨_, rfl, rfl, ?_⟩⟩⟩
    rw [← hd2]
    (repeat' (first | ((conv => whnf); done) | ((conv => whnf); (first | (exact ⟨by decide, rfl⟩) | (exact ⟨rfl, rfl⟩) | (refine ⟨_, _, rfl, ?_, ?_⟩) | (refine ⟨_, rfl, ?_⟩) | rfl))))
end Go.Proofs.YtfnnlipcclklnaaGreat