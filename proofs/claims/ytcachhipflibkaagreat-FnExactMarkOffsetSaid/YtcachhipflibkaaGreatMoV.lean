/- MarkOffset: both sides, by the machine. -/
import Derived.Test.YtcachhipflibkaaGreatAnW
set_option linter.unusedSimpArgs false
set_option linter.unusedVariables false
namespace Go.Proofs.YtcachhipflibkaaGreat
open Go.RowKit
theorem name_sz {s : ByteArray} (h : nameB s = true) : s.size ≤ 12 := by
  simp only [nameB, Bool.and_eq_true, decide_eq_true_eq] at h
  exact h.1
theorem mk_anchor {f : TFeatures} (h : ftB f = true) {k : TMarkRule} (hk : k ∈ f.fMarks) : k.fAnchor.size ≤ 12 := by
  have h1 := (ftB_F h).mar k hk
  simp only [mkB, Bool.and_eq_true] at h1
  exact name_sz h1.2.2
theorem markN_sz : markN.size = 5 := rfl
theorem l06Sub_v (a b : TPt) (ha : pntB a = true) (hb : pntB b = true) : PC Tryz.prog 124 [.d a.D, .d b.D] (.d (TPt.D ⟨a.fX - b.fX, a.fY - b.fY⟩)) [] := by
  refine pc_intro ttOk (by kernel_rfl) Tryz.func124 rfl (by kernel_rfl) (by kernel_rfl) (by kernel_rfl) (fun hw => ?_)
  have h1 := pnt_in ha
  have h2 := pnt_in hb
  (conv => whnf)
  (repeat' (first | (refine stg_ ?_) | fail | (refine br_ (fun hbr => ?_) (fun hbr => ?_))))
  (refine RetOK.d rfl rfl ?_; conv => whnf)
  (all_goals first | rfl | exact ⟨_, rfl, _, _, rfl, rfl, _, _, rfl, rfl, rfl⟩)
set_option maxHeartbeats 4000000 in
theorem markOffset_v (s : TGlyphSet) (K : GsK s) (f : TFeatures) (hf : ftB f = true) (m b : Int) (hm0 : 0 ≤ m) (hm1 : m.toNat < s.fGlyphs.length) (hb0 : 0 ≤ b) (hb1 : b.toNat < s.fGlyphs.length) :
    PC Tryz.prog 74 [.d s.D, .d f.D, .d (.int .i64 m), .d (.int .i64 b)] (.tup [.d (anPt (moV s.fGlyphs f m b)).D, .d (.bool (moV s.fGlyphs f m b).isSome)]) [] := by
  refine pc_intro ttOk (by kernel_rfl) Tryz.func74 rfl (by kernel_rfl) (by kernel_rfl) (by kernel_rfl) (fun hw => ?_)
  have hL : (f.fMarks.map TMarkRule.D).length = f.fMarks.length := List.length_map _
  have c1 := markFor_v f m b
  have hV : moV s.fGlyphs f m b = match f.fMarks.find? (maP m b) with | none => none | some k => moR s.fGlyphs k m b := rfl
  generalize moV s.fGlyphs f m b = R at *
  rcases fdx_find (maP m b) f.fMarks 0 with ⟨f1, f2⟩ | ⟨j, k, f1, f2, f3⟩
  · rw [f2] at hV
    dsimp only at hV
    subst hV
    rw [f1] at c1
    (conv => whnf)
    (repeat' (first | (refine stg_ ?_) | (refine cla_ (c1) ?_) | (refine br_ (fun hbr => ?_) (fun hbr => ?_))))
    all_goals first | (exfalso; omega) | ((refine RetOK.t rfl ?_; (repeat' ((conv => whnf); (first | done | (refine ⟨_, _, rfl, ⟨rfl, ?_⟩, ?_⟩) | fail))); (all_goals (conv => whnf))); (all_goals first | rfl | exact ⟨_, rfl, _, _, rfl, rfl, _, _, rfl, rfl, rfl⟩))
  · rw [f3] at hV
    dsimp only at hV
    rw [f1, Nat.zero_add] at c1
    have hk' : (f.fMarks.map TMarkRule.D)[j]? = some k.D := by rw [List.getElem?_map, f2]; rfl
    have hsz := mk_anchor hf (List.mem_of_getElem? f2)
    obtain ⟨kb, hkb⟩ := K.pos hb0 hb1
    obtain ⟨km, hkm⟩ := K.pos hm0 hm1
    have p1 := anchorOf_pm s K k.fAnchor kb b hkb [] (MemoOK.nil _ _)
    have p2 := anchorOf_pm s K (markN ++ k.fAnchor) km m hkm [] (MemoOK.nil _ _)
    rw [moR] at hV
    generalize anV s.fGlyphs k.fAnchor b = o1 at *
    generalize anV s.fGlyphs (markN ++ k.fAnchor) m = o2 at *
    have c3 := validPts_v [anPt o1, anPt o2]
    have hV' : R = if (o1.isSome && (o2.isSome && (pntB (anPt o1) && pntB (anPt o2)))) = true then some ⟨(anPt o1).fX - (anPt o2).fX, (anPt o1).fY - (anPt o2).fY⟩ else none := by
      rw [hV]
      cases o1 <;> cases o2 <;> simp [anPt]
    clear hV
    have hall : [anPt o1, anPt o2].all pntB = (pntB (anPt o1) && (pntB (anPt o2) && true)) := rfl
    rw [hall] at c3
    have hb1 := @pnt_in (anPt o1)
    have hb2 := @pnt_in (anPt o2)
    generalize pntB (anPt o1) = P1 at *
    generalize pntB (anPt o2) = P2 at *
    clear hall
    generalize hQ1 : o1.isSome = Q1 at *
    generalize hQ2 : o2.isSome = Q2 at *
    generalize anPt o1 = t at *
    generalize anPt o2 = u at *
    rw [Bool.and_true] at c3
    cases hall : (Q1 && (Q2 && (P1 && P2))) with
    | false =>
      rw [hall, if_neg (by simp)] at hV'
      subst hV'
      (conv => whnf)
      (repeat' (first | (refine stg_ ?_) | (refine cla_ (c1) ?_) | (refine IxW.at (by omega) hk' ?_; (conv => whnf)) | (refine CallW.useM p1 rfl rfl rfl rfl rfl (fun _ _ => ?_); (conv => whnf)) | (refine CallW.useM p2 rfl rfl rfl rfl rfl (fun _ _ => ?_); (conv => whnf)) | (refine CatW.at (by show _ ≤ 9223372036854775807; (show 5 + k.fAnchor.size ≤ 9223372036854775807); omega) ?_; (conv => whnf)) | (refine cla_ (c3) ?_) | (refine br_ (fun hbr => ?_) (fun hbr => ?_))))
      all_goals first | (exfalso; omega) | (exfalso; simp_all; done) | ((refine RetOK.t rfl ?_; (repeat' ((conv => whnf); (first | done | (refine ⟨_, _, rfl, ⟨rfl, ?_⟩, ?_⟩) | fail))); (all_goals (conv => whnf))); (all_goals first | rfl | exact ⟨_, rfl, _, _, rfl, rfl, _, _, rfl, rfl, rfl⟩))
    | true =>
      rw [hall, if_pos rfl] at hV'
      subst hV'
      simp only [Bool.and_eq_true] at hall
      obtain ⟨rfl, rfl, rfl, rfl⟩ := hall
      have hb1 := hb1 rfl
      have hb2 := hb2 rfl
      (conv => whnf)
      (repeat' (first | (refine stg_ ?_) | (refine cla_ (c1) ?_) | (refine IxW.at (by omega) hk' ?_; (conv => whnf)) | (refine CallW.useM p1 rfl rfl rfl rfl rfl (fun _ _ => ?_); (conv => whnf)) | (refine CallW.useM p2 rfl rfl rfl rfl rfl (fun _ _ => ?_); (conv => whnf)) | (refine CatW.at (by show _ ≤ 9223372036854775807; (show 5 + k.fAnchor.size ≤ 9223372036854775807); omega) ?_; (conv => whnf)) | (refine cla_ (c3) ?_) | (refine br_ (fun hbr => ?_) (fun hbr => ?_))))
      all_goals first | (exfalso; omega) | (exfalso; simp_all; done) | skip
      all_goals ((refine RetOK.t rfl ?_; (repeat' ((conv => whnf); (first | done | (refine ⟨_, _, rfl, ⟨rfl, ?_⟩, ?_⟩) | fail))); (all_goals (conv => whnf))); (all_goals first | rfl | exact ⟨_, rfl, _, _, rfl, rfl, _, _, rfl, rfl, rfl⟩))
theorem aaV_ok {s : TGlyphSet} {nm : ByteArray} {i : Int} (h : ((anV s.fGlyphs nm i).isSome && pntB (anPt (anV s.fGlyphs nm i))) = true) : aaV s nm i = (anPt (anV s.fGlyphs nm i), 0) := by
  unfold aaV
  cases hV : anV s.fGlyphs nm i with
  | none => rw [hV] at h; cases h
  | some r =>
    rw [hV] at h
    simp only [Bool.and_eq_true] at h
    dsimp only
    rw [if_pos (show pntB r = true from h.2)]
    rfl
theorem aaV_no {s : TGlyphSet} {nm : ByteArray} {i : Int} (h : ((anV s.fGlyphs nm i).isSome && pntB (anPt (anV s.fGlyphs nm i))) = false) : (aaV s nm i).1 = ⟨0, 0⟩ ∧ ((aaV s nm i).2 = 2 ∨ (aaV s nm i).2 = 3) := by
  unfold aaV
  cases hV : anV s.fGlyphs nm i with
  | none => exact ⟨rfl, .inr rfl⟩
  | some r =>
    rw [hV] at h
    dsimp only
    rw [if_neg (by intro q; rw [show pntB (anPt (some r)) = true from q] at h; cases h)]
    exact ⟨rfl, .inl rfl⟩
set_option maxHeartbeats 4000000 in
theorem l27Offset_v (s : TGlyphSet) (K : GsK s) (f : TFeatures) (hf : ftB f = true) (m b : Int) (hm0 : 0 ≤ m) (hm1 : m.toNat < s.fGlyphs.length) (hb0 : 0 ≤ b) (hb1 : b.toNat < s.fGlyphs.length) :
    PC Tryz.prog 71 [.pX s.D, .pX f.D, .d (.int .i64 m), .d (.int .i64 b)] (.tup [.d (anPt (moV s.fGlyphs f m b)).D, .d (.bool (moV s.fGlyphs f m b).isSome)]) [] := by
  refine pc_intro ttOk (by kernel_rfl) Tryz.func71 rfl (by kernel_rfl) (by kernel_rfl) (by kernel_rfl) (fun hw => ?_)
  have hL : (f.fMarks.map TMarkRule.D).length = f.fMarks.length := List.length_map _
  have c1 := l27Mark_v f m b
  have hV : moV s.fGlyphs f m b = match f.fMarks.find? (maP m b) with | none => none | some k => moR s.fGlyphs k m b := rfl
  generalize moV s.fGlyphs f m b = R at *
  rcases fdx_find (maP m b) f.fMarks 0 with ⟨f1, f2⟩ | ⟨j, k, f1, f2, f3⟩
  · rw [f2] at hV
    dsimp only at hV
    subst hV
    rw [f1] at c1
    (conv => whnf)
    (repeat' (first | (refine stg_ ?_) | (refine cla_ (c1) ?_) | (refine br_ (fun hbr => ?_) (fun hbr => ?_))))
    all_goals first | (exfalso; omega) | ((refine RetOK.t rfl ?_; (repeat' ((conv => whnf); (first | done | (refine ⟨_, _, rfl, ⟨rfl, ?_⟩, ?_⟩) | fail))); (all_goals (conv => whnf))); (all_goals first | rfl | exact ⟨_, rfl, _, _, rfl, rfl, _, _, rfl, rfl, rfl⟩))
  · rw [f3] at hV
    dsimp only at hV
    rw [f1, Nat.zero_add] at c1
    have hk' : (f.fMarks.map TMarkRule.D)[j]? = some k.D := by rw [List.getElem?_map, f2]; rfl
    have hsz := mk_anchor hf (List.mem_of_getElem? f2)
    have p1 := l17AnchorAt_v s K b k.fAnchor hb0 hb1
    have p2 := l17AnchorAt_v s K m (markN ++ k.fAnchor) hm0 hm1
    rw [moR] at hV
    have y1 := @aaV_ok s k.fAnchor b
    have n1 := @aaV_no s k.fAnchor b
    have y2 := @aaV_ok s (markN ++ k.fAnchor) m
    have n2 := @aaV_no s (markN ++ k.fAnchor) m
    generalize anV s.fGlyphs k.fAnchor b = o1 at *
    generalize anV s.fGlyphs (markN ++ k.fAnchor) m = o2 at *
    generalize aaV s k.fAnchor b = a1 at *
    generalize aaV s (markN ++ k.fAnchor) m = a2 at *
    have hV' : R = if ((o1.isSome && pntB (anPt o1)) && (o2.isSome && pntB (anPt o2))) = true then some ⟨(anPt o1).fX - (anPt o2).fX, (anPt o1).fY - (anPt o2).fY⟩ else none := by
      rw [hV]
      cases o1 <;> cases o2 <;> simp [anPt]
    clear hV
    have c5 := l06Sub_v (anPt o1) (anPt o2)
    cases q1 : (o1.isSome && pntB (anPt o1)) with
    | false =>
      obtain ⟨e1, e2⟩ := n1 q1
      rw [q1, Bool.false_and, if_neg (by simp)] at hV'
      subst hV'
      obtain ⟨a11, a12⟩ := a1
      obtain ⟨a21, a22⟩ := a2
      dsimp only at e1 e2
      subst e1
      rcases e2 with rfl | rfl <;> (conv => whnf) <;> (repeat' (first | (refine stg_ ?_) | (refine cla_ (c1) ?_) | (refine IxW.at (by omega) hk' ?_; (conv => whnf)) | (refine CatW.at (by show _ ≤ 9223372036854775807; (show 5 + k.fAnchor.size ≤ 9223372036854775807); omega) ?_; (conv => whnf)) | (refine cla_ (p1) ?_) | (refine cla_ (p2) ?_) | (refine br_ (fun hbr => ?_) (fun hbr => ?_)))) <;> first | (exfalso; omega) | (exfalso; simp_all; done) | ((refine RetOK.t rfl ?_; (repeat' ((conv => whnf); (first | done | (refine ⟨_, _, rfl, ⟨rfl, ?_⟩, ?_⟩) | fail))); (all_goals (conv => whnf))); (all_goals first | rfl | exact ⟨_, rfl, _, _, rfl, rfl, _, _, rfl, rfl, rfl⟩))
    | true =>
      have e1 := y1 q1
      subst e1
      cases q2 : (o2.isSome && pntB (anPt o2)) with
      | false =>
        obtain ⟨e1, e2⟩ := n2 q2
        rw [q1, q2, Bool.true_and, if_neg (by simp)] at hV'
        subst hV'
        obtain ⟨a21, a22⟩ := a2
        dsimp only at e1 e2
        subst e1
        rcases e2 with rfl | rfl <;> (conv => whnf) <;> (repeat' (first | (refine stg_ ?_) | (refine cla_ (c1) ?_) | (refine IxW.at (by omega) hk' ?_; (conv => whnf)) | (refine CatW.at (by show _ ≤ 9223372036854775807; (show 5 + k.fAnchor.size ≤ 9223372036854775807); omega) ?_; (conv => whnf)) | (refine cla_ (p1) ?_) | (refine cla_ (p2) ?_) | (refine br_ (fun hbr => ?_) (fun hbr => ?_)))) <;> first | (exfalso; omega) | (exfalso; simp_all; done) | ((refine RetOK.t rfl ?_; (repeat' ((conv => whnf); (first | done | (refine ⟨_, _, rfl, ⟨rfl, ?_⟩, ?_⟩) | fail))); (all_goals (conv => whnf))); (all_goals first | rfl | exact ⟨_, rfl, _, _, rfl, rfl, _, _, rfl, rfl, rfl⟩))
      | true =>
        have e2 := y2 q2
        subst e2
        rw [q1, q2, Bool.true_and, if_pos rfl] at hV'
        subst hV'
        simp only [Bool.and_eq_true] at q1 q2
        have c5 := c5 q1.2 q2.2
        (conv => whnf)
        (repeat' (first | (refine stg_ ?_) | (refine cla_ (c1) ?_) | (refine IxW.at (by omega) hk' ?_; (conv => whnf)) | (refine CatW.at (by show _ ≤ 9223372036854775807; (show 5 + k.fAnchor.size ≤ 9223372036854775807); omega) ?_; (conv => whnf)) | (refine cla_ (p1) ?_) | (refine cla_ (p2) ?_) | (refine cla_ (c5) ?_) | (refine br_ (fun hbr => ?_) (fun hbr => ?_))))
        all_goals first | (exfalso; omega) | (exfalso; simp_all; done) | ((refine RetOK.t rfl ?_; (repeat' ((conv => whnf); (first | done | (refine ⟨_, _, rfl, ⟨rfl, ?_⟩, ?_⟩) | fail))); (all_goals (conv => whnf))); (all_goals first | rfl | exact ⟨_, rfl, _, _, rfl, rfl, _, _, rfl, rfl, rfl⟩))
/-- as a code -/
def cgI (s : TGlyphSet) (i : Int) : Int := if gsB s = true then (if 0 ≤ i ∧ i < (s.fGlyphs.length : Nat) then 0 else 2) else 1
theorem checkGlyph_v (s : TGlyphSet) (i : Int) : PC Tryz.prog 73 [.d s.D, .d (.int .i64 i)] (.d (.int .i64 (cgI s i))) [] := by
  refine pc_intro ttOk (by kernel_rfl) Tryz.func73 rfl (by kernel_rfl) (by kernel_rfl) (by kernel_rfl) (fun hw => ?_)
  have hL : (s.fGlyphs.map TGlyph.D).length = s.fGlyphs.length := List.length_map _
  have hm : (s.fGlyphs.map TGlyph.D).length ≤ 9223372036854775807 := hw.1.2.1.1
  have c0 := ValidGlyphSet_v s
  unfold cgI
  cases hB : gsB s
  · rw [hB] at c0
    rw [if_neg (by simp)]
    (conv => whnf)
    (repeat' (first | (refine stg_ ?_) | (refine cla_ (c0) ?_) | (refine br_ (fun hbr => ?_) (fun hbr => ?_))))
    all_goals first | (exfalso; simp_all; done) | ((refine RetOK.d rfl rfl ?_; conv => whnf); try rfl)
  · rw [hB] at c0
    rw [if_pos rfl]
    by_cases hi : 0 ≤ i ∧ i < (s.fGlyphs.length : Nat)
    · rw [if_pos hi]
      (conv => whnf)
      (repeat' (first | (refine stg_ ?_) | (refine cla_ (c0) ?_) | (refine br_ (fun hbr => ?_) (fun hbr => ?_))))
      all_goals first | (exfalso; simp_all; done) | (exfalso; omega) | ((refine RetOK.d rfl rfl ?_; conv => whnf); try rfl)
    · rw [if_neg hi]
      (conv => whnf)
      (repeat' (first | (refine stg_ ?_) | (refine cla_ (c0) ?_) | (refine br_ (fun hbr => ?_) (fun hbr => ?_))))
      all_goals first | (exfalso; simp_all; done) | (exfalso; omega) | ((refine RetOK.d rfl rfl ?_; conv => whnf); try rfl)
def moOK (s : TGlyphSet) (f : TFeatures) (m b : Int) : Prop := gsB s = true ∧ ftB f = true ∧ (0 ≤ m ∧ m < (s.fGlyphs.length : Nat)) ∧ 0 ≤ b ∧ b < (s.fGlyphs.length : Nat)
instance (s : TGlyphSet) (f : TFeatures) (m b : Int) : Decidable (moOK s f m b) := by unfold moOK; exact inferInstance
def moF (s : TGlyphSet) (f : TFeatures) (m b : Int) : Option TPt := if moOK s f m b then moV s.fGlyphs f m b else none
set_option maxHeartbeats 4000000 in
theorem MarkOffset_v (s : TGlyphSet) (f : TFeatures) (m b : Int) : PC Tryz.prog 21 [.d s.D, .d f.D, .d (.int .i64 m), .d (.int .i64 b)] (.tup [.d (anPt (moF s f m b)).D, .d (.bool (moF s f m b).isSome)]) [] := by
  refine pc_intro ttOk (by kernel_rfl) Tryz.func21 rfl (by kernel_rfl) (by kernel_rfl) (by kernel_rfl) (fun hw => ?_)
  have c1 := checkGlyph_v s m
  have c2 := checkGlyph_v s b
  have c3 := ValidFeatures_v f 40
  rw [vfB_40] at c3
  unfold moF
  by_cases h : moOK s f m b
  · rw [if_pos h]
    obtain ⟨h1, h2, h3, h4⟩ := h
    have c4 := markOffset_v s (gsK h1) f h2 m b h3.1 (by omega) h4.1 (by omega)
    rw [cgI, if_pos h1, if_pos h3] at c1
    rw [cgI, if_pos h1, if_pos h4] at c2
    rw [h2] at c3
    (conv => whnf)
    (repeat' (first | (refine stg_ ?_) | (refine cla_ (c1) ?_) | (refine cla_ (c2) ?_) | (refine cla_ (c3) ?_) | (refine cla_ (c4) ?_) | (refine br_ (fun hbr => ?_) (fun hbr => ?_))))
    all_goals first | (exfalso; simp_all; done) | (exfalso; omega) | ((refine RetOK.t rfl ?_; (repeat' ((conv => whnf); (first | done | (refine ⟨_, _, rfl, ⟨rfl, ?_⟩, ?_⟩) | fail))); (all_goals (conv => whnf))); (all_goals first | rfl | exact ⟨_, rfl, _, _, rfl, rfl, _, _, rfl, rfl, rfl⟩))
  · rw [if_neg h]
    unfold cgI at c1 c2
    unfold moOK at h
    by_cases h1 : gsB s = true
    · rw [if_pos h1] at c1 c2
      by_cases h3 : 0 ≤ m ∧ m < (s.fGlyphs.length : Nat)
      · rw [if_pos h3] at c1
        by_cases h4 : 0 ≤ b ∧ b < (s.fGlyphs.length : Nat)
        · rw [if_pos h4] at c2
          have h2 : ftB f = false := by
            cases hq : ftB f with
            | false => rfl
            | true => exact absurd ⟨h1, hq, h3, h4⟩ h
          rw [h2] at c3
          (conv => whnf)
          (repeat' (first | (refine stg_ ?_) | (refine cla_ (c1) ?_) | (refine cla_ (c2) ?_) | (refine cla_ (c3) ?_) | (refine br_ (fun hbr => ?_) (fun hbr => ?_))))
          all_goals first | (exfalso; simp_all; done) | (exfalso; omega) | ((refine RetOK.t rfl ?_; (repeat' ((conv => whnf); (first | done | (refine ⟨_, _, rfl, ⟨rfl, ?_⟩, ?_⟩) | fail))); (all_goals (conv => whnf))); (all_goals first | rfl | exact ⟨_, rfl, _, _, rfl, rfl, _, _, rfl, rfl, rfl⟩))
        · rw [if_neg h4] at c2
          (conv => whnf)
          (repeat' (first | (refine stg_ ?_) | (refine cla_ (c1) ?_) | (refine cla_ (c2) ?_) | (refine cla_ (c3) ?_) | (refine br_ (fun hbr => ?_) (fun hbr => ?_))))
          all_goals first | (exfalso; omega) | ((refine RetOK.t rfl ?_; (repeat' ((conv => whnf); (first | done | (refine ⟨_, _, rfl, ⟨rfl, ?_⟩, ?_⟩) | fail))); (all_goals (conv => whnf))); (all_goals first | rfl | exact ⟨_, rfl, _, _, rfl, rfl, _, _, rfl, rfl, rfl⟩))
      · rw [if_neg h3] at c1
        (conv => whnf)
        (repeat' (first | (refine stg_ ?_) | (refine cla_ (c1) ?_) | (refine cla_ (c2) ?_) | (refine cla_ (c3) ?_) | (refine br_ (fun hbr => ?_) (fun hbr => ?_))))
        all_goals first | (exfalso; omega) | ((refine RetOK.t rfl ?_; (repeat' ((conv => whnf); (first | done | (refine ⟨_, _, rfl, ⟨rfl, ?_⟩, ?_⟩) | fail))); (all_goals (conv => whnf))); (all_goals first | rfl | exact ⟨_, rfl, _, _, rfl, rfl, _, _, rfl, rfl, rfl⟩))
    · rw [if_neg h1] at c1
      (conv => whnf)
      (repeat' (first | (refine stg_ ?_) | (refine cla_ (c1) ?_) | (refine cla_ (c2) ?_) | (refine cla_ (c3) ?_) | (refine br_ (fun hbr => ?_) (fun hbr => ?_))))
      all_goals first | (exfalso; omega) | ((refine RetOK.t rfl ?_; (repeat' ((conv => whnf); (first | done | (refine ⟨_, _, rfl, ⟨rfl, ?_⟩, ?_⟩) | fail))); (all_goals (conv => whnf))); (all_goals first | rfl | exact ⟨_, rfl, _, _, rfl, rfl, _, _, rfl, rfl, rfl⟩))
set_option maxHeartbeats 4000000 in
theorem specMarkOffset_v (s : TGlyphSet) (f : TFeatures) (m b : Int) : PC Tryz.prog 19 [.d s.D, .d f.D, .d (.int .i64 m), .d (.int .i64 b)] (.tup [.d (anPt (moF s f m b)).D, .d (.bool (moF s f m b).isSome)]) [] := by
  refine pc_intro ttOk (by kernel_rfl) Tryz.func19 rfl (by kernel_rfl) (by kernel_rfl) (by kernel_rfl) (fun hw => ?_)
  have hL : (s.fGlyphs.map TGlyph.D).length = s.fGlyphs.length := List.length_map _
  have hm : (s.fGlyphs.map TGlyph.D).length ≤ 9223372036854775807 := hw.1.2.1.1
  have c1 := l17Ok_v s
  have c2 := l25Ok_v f
  have c3 := l00In_v m 0 ((s.fGlyphs.length : Nat) - 1)
  have c4 := l00In_v b 0 ((s.fGlyphs.length : Nat) - 1)
  have i3 : inB m 0 ((s.fGlyphs.length : Nat) - 1) = decide (0 ≤ m ∧ m < (s.fGlyphs.length : Nat)) := by rw [Bool.eq_iff_iff, inB_iff, decide_eq_true_iff]; omega
  have i4 : inB b 0 ((s.fGlyphs.length : Nat) - 1) = decide (0 ≤ b ∧ b < (s.fGlyphs.length : Nat)) := by rw [Bool.eq_iff_iff, inB_iff, decide_eq_true_iff]; omega
  rw [i3] at c3
  rw [i4] at c4
  clear i3 i4
  rw [← hL] at c3 c4
  unfold moF
  by_cases h : moOK s f m b
  · rw [if_pos h]
    obtain ⟨h1, h2, h3, h4⟩ := h
    have c5 := l27Offset_v s (gsK h1) f h2 m b h3.1 (by omega) h4.1 (by omega)
    rw [h1] at c1
    rw [h2] at c2
    rw [decide_eq_true (by rw [hL]; exact h3)] at c3
    rw [decide_eq_true (by rw [hL]; exact h4)] at c4
    (conv => whnf)
    (repeat' (first | (refine stg_ ?_) | (refine cla_ (c1) ?_) | (refine cla_ (c2) ?_) | (refine cla_ (c3) ?_) | (refine cla_ (c4) ?_) | (refine cla_ (c5) ?_) | (refine br_ (fun hbr => ?_) (fun hbr => ?_))))
    all_goals first | (exfalso; simp_all; done) | (exfalso; omega) | ((refine RetOK.t rfl ?_; (repeat' ((conv => whnf); (first | done | (refine ⟨_, _, rfl, ⟨rfl, ?_⟩, ?_⟩) | fail))); (all_goals (conv => whnf))); (all_goals first | rfl | exact ⟨_, rfl, _, _, rfl, rfl, _, _, rfl, rfl, rfl⟩))
  · rw [if_neg h]
    unfold moOK at h
    rw [hL] at c3 c4
    have h' : (gsB s && (ftB f && (decide (0 ≤ m ∧ m < (s.fGlyphs.length : Nat)) && decide (0 ≤ b ∧ b < (s.fGlyphs.length : Nat))))) = false := by
      rw [← Bool.not_eq_true]
      intro q
      simp only [Bool.and_eq_true, decide_eq_true_eq] at q
      exact h ⟨q.1, q.2.1, q.2.2.1, q.2.2.2⟩
    rw [← hL] at c3 c4 h'
    generalize gsB s = b1 at *
    generalize ftB f = b2 at *
    generalize decide (0 ≤ m ∧ m < ((s.fGlyphs.map TGlyph.D).length : Nat)) = b3 at *
    generalize decide (0 ≤ b ∧ b < ((s.fGlyphs.map TGlyph.D).length : Nat)) = b4 at *
    clear h
    (conv => whnf)
    (repeat' (first | (refine stg_ ?_) | (refine cla_ (c1) ?_) | (refine cla_ (c2) ?_) | (refine cla_ (c3) ?_) | (refine cla_ (c4) ?_) | (refine br_ (fun hbr => ?_) (fun hbr => ?_))))
    all_goals first | (exfalso; simp_all; done) | ((refine RetOK.t rfl ?_; (repeat' ((conv => whnf); (first | done | (refine ⟨_, _, rfl, ⟨rfl, ?_⟩, ?_⟩) | fail))); (all_goals (conv => whnf))); (all_goals first | rfl | exact ⟨_, rfl, _, _, rfl, rfl, _, _, rfl, rfl, rfl⟩))
end Go.Proofs.YtcachhipflibkaaGreat
