/- Features: ValidFeatures, by the machine. -/
import Derived.Test.YtcachhipflibkaaGreatGuV
set_option linter.unusedSimpArgs false
set_option linter.unusedVariables false
namespace Go.Proofs.YtcachhipflibkaaGreat
open Go.RowKit
def vfB (f : TFeatures) (g : Int) : Bool := ftB f && (usG f).all fun x => decide (x < g)
theorem vfB_40 (f : TFeatures) : vfB f 40 = ftB f := by
  unfold vfB
  cases h : ftB f with
  | false => rfl
  | true => rw [usG_all h]; rfl
theorem usG_len {f : TFeatures} (h : ftB f = true) : (usG f).length ≤ 200000 := by
  have F := ftB_F h
  have h1 := flatMap_len (m := 19360) (f := lkGl) f.fLookups (fun x hx => lkGl_len (F.lk x hx))
  have h2 := flatMap_len (m := 80) (f := knGl) f.fKerns (fun x hx => by
    obtain ⟨h1, h2⟩ := knB_l (F.kn x hx)
    have := fcB_len h1
    have := fcB_len h2
    rw [knGl, List.length_append]; omega)
  have h3 := flatMap_len (m := 80) (f := mkGl) f.fMarks (fun x hx => by
    obtain ⟨h1, h2⟩ := mkB_l (F.mar x hx)
    have := fcB_len h1
    have := fcB_len h2
    rw [mkGl, List.length_append]; omega)
  have h4 := flatMap_len (m := 4) (f := jnGl) f.fJoins (fun x _ => jnGl_len x)
  have n1 := F.lkn
  have n2 := F.knn
  have n3 := F.marn
  have n4 := F.jnn
  rw [usG, List.length_append, List.length_append, List.length_append]
  omega
set_option maxHeartbeats 8000000 in
theorem ValidFeatures_v (f : TFeatures) (g : Int) : PC Tryz.prog 52 [.d f.D, .d (.int .i64 g)] (.d (.bool (vfB f g))) [] := by
  refine pc_intro ttOk (by kernel_rfl) Tryz.func52 rfl (by kernel_rfl) (by kernel_rfl) (by kernel_rfl) (fun hw => ?_)
  have hLk : (f.fLookups.map TLookup.D).length = f.fLookups.length := List.length_map _
  have hK : (f.fKerns.map TKern.D).length = f.fKerns.length := List.length_map _
  have hM : (f.fMarks.map TMarkRule.D).length = f.fMarks.length := List.length_map _
  have hJ : (f.fJoins.map TJoin.D).length = f.fJoins.length := List.length_map _
  have hJm : (f.fJoins.map TJoin.D).length ≤ 9223372036854775807 := hw.1.2.2.2.1.1
  have hF : ftB f = (lksB f.fLookups && (decide (f.fKerns.length ≤ 40) && (decide (f.fMarks.length ≤ 12) && (f.fKerns.all knB && (f.fMarks.all mkB && jnG none f.fJoins))))) := rfl
  have hG := fun h => glyphsUsed_v f h
  have hV : vfB f g = (ftB f && (usG f).all fun x => decide (x < g)) := rfl
  generalize vfB f g = R at hV ⊢
  generalize hFB : ftB f = FB at *
  (conv => whnf)
  (repeat' (first | (refine stg_ ?_) | fail | (refine br_ (fun hbr => ?_) (fun hbr => ?_))))
  all_goals first | ((refine RetOK.d rfl rfl ?_; conv => whnf); rw [hV, hF, lksB, show decide (f.fLookups.length ≤ 8) = false by (rw [decide_eq_false_iff_not]; omega)]; simp; done) | ((refine RetOK.d rfl rfl ?_; conv => whnf); rw [hV, hF, show decide (f.fKerns.length ≤ 40) = false by (rw [decide_eq_false_iff_not]; omega)]; simp; done) | ((refine RetOK.d rfl rfl ?_; conv => whnf); rw [hV, hF, show decide (f.fMarks.length ≤ 12) = false by (rw [decide_eq_false_iff_not]; omega)]; simp; done) | skip
  have hl8 : f.fLookups.length ≤ 8 := by omega
  have hk40 : f.fKerns.length ≤ 40 := by omega
  have hm12 : f.fMarks.length ≤ 12 := by omega
  rw [lksB, decide_eq_true hl8, decide_eq_true hk40, decide_eq_true hm12, Bool.true_and, Bool.true_and, Bool.true_and] at hF
  refine LoopW.go (α := Nat) (fun k => [(1, .d (.int .i64 g)), (2, .pB 1 [] 0), (31, .d (.lst (f.fLookups.map TLookup.D))), (32, .d (.int .i64 (f.fLookups.map TLookup.D).length)), (33, .d (.int .i64 k))]) (fun _ => [.gone, .box (.d f.D)]) (fun k => k ≤ f.fLookups.length ∧ lkG [] f.fLookups = lkG (f.fLookups.take k) (f.fLookups.drop k)) (fun k => f.fLookups.length - k) 0 covT_ ⟨by omega, rfl⟩ (fun k hk => ?_)
  obtain ⟨hk1, hk2⟩ := hk
  (conv => whnf)
  (refine br_ (fun h1 => ?_) (fun h1 => ?_) <;> (repeat (refine stg_ ?_)))
  · obtain ⟨l, hl⟩ := at_lt' (xs := f.fLookups) (k := k) (by omega)
    rw [lkG_at hl] at hk2
    have c1 := validLookup_v l
    have c2 := lookupNamed_v (f.fLookups.take k) l.fName
    have hsl : (f.fLookups.take k).map TLookup.D = ((f.fLookups.map TLookup.D).drop 0).take ((k : Int).toNat - 0) := by simp [List.map_take]
    rw [hsl] at c2
    have hq := fdx_any (nmEq l.fName) (f.fLookups.take k) 0
    rw [← hq] at hk2
    generalize fdx (nmEq l.fName) (f.fLookups.take k) 0 = q at *
    (repeat' (first | (refine stg_ ?_) | (refine cla_ (c1) ?_) | (refine cla_ (c2) ?_) | (refine br_ (fun hbr => ?_) (fun hbr => ?_))))
    all_goals first | (exfalso; omega) | ((refine RetOK.d rfl rfl ?_; conv => whnf); rw [hV, hF, hk2]; simp_all; done) | ((refine RetOK.d rfl rfl ?_; conv => whnf); rw [hV, hF, hk2, show decide (0 ≤ q) = true by (rw [decide_eq_true_eq]; omega)]; simp; done) | skip
    all_goals exact NextW.go (k + 1) covT_ ⟨by omega, by rw [hk2, show decide (0 ≤ q) = false by (rw [decide_eq_false_iff_not]; omega)]; simp_all⟩ (by omega)
  rw [hk2, lkG_end (by omega), Bool.true_and] at hF
  clear hk2 h1 hk1
  (repeat (refine stg_ ?_))
  refine LoopW.go (α := Nat) (fun k => [(1, .d (.int .i64 g)), (2, .pB 1 [] 0), (53, .d (.lst (f.fKerns.map TKern.D))), (54, .d (.int .i64 (f.fKerns.map TKern.D).length)), (55, .d (.int .i64 k))]) (fun _ => [.gone, .box (.d f.D)]) (fun k => k ≤ f.fKerns.length ∧ f.fKerns.all knB = (f.fKerns.drop k).all knB) (fun k => f.fKerns.length - k) 0 covT_ ⟨by omega, rfl⟩ (fun k hk => ?_)
  obtain ⟨hk1, hk2⟩ := hk
  (conv => whnf)
  (refine br_ (fun h1 => ?_) (fun h1 => ?_) <;> (repeat (refine stg_ ?_)))
  · obtain ⟨x, hx⟩ := at_lt' (xs := f.fKerns) (k := k) (by omega)
    rw [drop_at hx, List.all_cons] at hk2
    (repeat' (first | (refine stg_ ?_) | (refine cla_ (fullClass_v x.fLeft) ?_) | (refine cla_ (fullClass_v x.fRight) ?_) | (refine br_ (fun hbr => ?_) (fun hbr => ?_))))
    all_goals first | ((refine RetOK.d rfl rfl ?_; conv => whnf); rw [hV, hF, hk2, knB, inB]; simp_all; done) | ((refine RetOK.d rfl rfl ?_; conv => whnf); rw [hV, hF, hk2, knB, show inB x.fValue (-262144) 262144 = false by (rw [inB, Bool.and_eq_false_iff, decide_eq_false_iff_not, decide_eq_false_iff_not]; omega)]; simp; done) | skip
    all_goals exact NextW.go (k + 1) covT_ ⟨by omega, by rw [hk2, knB, show inB x.fValue (-262144) 262144 = true by (rw [inB, Bool.and_eq_true, decide_eq_true_eq, decide_eq_true_eq]; omega)]; simp_all⟩ (by omega)
  rw [hk2, List.drop_eq_nil_of_le (by omega), List.all_nil, Bool.true_and] at hF
  clear hk2 h1 hk1
  (repeat (refine stg_ ?_))
  refine LoopW.go (α := Nat) (fun k => [(1, .d (.int .i64 g)), (2, .pB 1 [] 0), (81, .d (.lst (f.fMarks.map TMarkRule.D))), (82, .d (.int .i64 (f.fMarks.map TMarkRule.D).length)), (83, .d (.int .i64 k))]) (fun _ => [.gone, .box (.d f.D)]) (fun k => k ≤ f.fMarks.length ∧ f.fMarks.all mkB = (f.fMarks.drop k).all mkB) (fun k => f.fMarks.length - k) 0 covT_ ⟨by omega, rfl⟩ (fun k hk => ?_)
  obtain ⟨hk1, hk2⟩ := hk
  (conv => whnf)
  (refine br_ (fun h1 => ?_) (fun h1 => ?_) <;> (repeat (refine stg_ ?_)))
  · obtain ⟨x, hx⟩ := at_lt' (xs := f.fMarks) (k := k) (by omega)
    rw [drop_at hx, List.all_cons] at hk2
    (repeat' (first | (refine stg_ ?_) | (refine cla_ (fullClass_v x.fMarks) ?_) | (refine cla_ (fullClass_v x.fBases) ?_) | (refine cla_ (IsName_v x.fAnchor) ?_) | (refine br_ (fun hbr => ?_) (fun hbr => ?_))))
    all_goals first | ((refine RetOK.d rfl rfl ?_; conv => whnf); rw [hV, hF, hk2, mkB]; simp_all; done) | skip
    all_goals exact NextW.go (k + 1) covT_ ⟨by omega, by rw [hk2, mkB]; simp_all⟩ (by omega)
  rw [hk2, List.drop_eq_nil_of_le (by omega), List.all_nil, Bool.true_and] at hF
  clear hk2 h1 hk1
  (repeat (refine stg_ ?_))
  refine LoopW.go (α := Nat) (fun j => [(1, .d (.int .i64 g)), (2, .pB 1 [] 0), (105, .d (.lst (f.fJoins.map TJoin.D))), (106, .d (.int .i64 (f.fJoins.map TJoin.D).length)), (107, .d (.int .i64 j))]) (fun _ => [.gone, .box (.d f.D)]) (fun j => j ≤ f.fJoins.length ∧ FB = jnG (pv f.fJoins j) (f.fJoins.drop j)) (fun j => f.fJoins.length - j) 0 covT_ ⟨by omega, hF⟩ (fun j hj => ?_)
  clear hF
  obtain ⟨hj1, hj2⟩ := hj
  (conv => whnf)
  (refine br_ (fun h2 => ?_) (fun h2 => ?_) <;> (repeat (refine stg_ ?_)))
  · obtain ⟨x, hx⟩ := at_lt' (xs := f.fJoins) (k := j) (by omega)
    rw [jnG_at hx] at hj2
    rcases Nat.eq_zero_or_pos j with rfl | h0
    · rw [pv_zero, ltJ, Bool.true_and] at hj2
      (repeat' (first | (refine stg_ ?_) | (refine cla_ (validJoin_v x) ?_) | (refine br_ (fun hbr => ?_) (fun hbr => ?_))))
      all_goals first | (exfalso; omega) | ((refine RetOK.d rfl rfl ?_; conv => whnf); rw [hV, hj2]; simp_all; done) | skip
      all_goals exact NextW.go (0 + 1) covT_ ⟨by omega, by rw [hj2]; simp_all⟩ (by omega)
    · obtain ⟨p, hp⟩ := at_lt' (xs := f.fJoins) (k := j - 1) (by omega)
      have hp' : (f.fJoins.map TJoin.D)[((j : Int) - 1).toNat]? = some p.D := by
        have : ((j : Int) - 1).toNat = j - 1 := by omega
        rw [this, List.getElem?_map, hp]; rfl
      rw [pv_pos _ h0, hp, ltJ] at hj2
      (repeat' (first | (refine stg_ ?_) | (refine cla_ (validJoin_v x) ?_) | (refine IxW.at (by omega) hp' ?_; (conv => whnf)) | (refine br_ (fun hbr => ?_) (fun hbr => ?_))))
      all_goals first | (exfalso; omega) | ((refine RetOK.d rfl rfl ?_; conv => whnf); rw [hV, hj2]; simp_all; done) | ((refine RetOK.d rfl rfl ?_; conv => whnf); rw [hV, hj2, show decide (p.fGlyph < x.fGlyph) = false by (rw [decide_eq_false_iff_not]; omega)]; simp; done) | skip
      all_goals exact NextW.go (j + 1) covT_ ⟨by omega, by rw [hj2]; simp_all⟩ (by omega)
  · rw [jnG_end (by omega)] at hj2
    have c1 := hG hj2
    have hlast := fun k z => cls_last (xs := usG f) (k := k) (z := z)
    have hmem := fun x => cls_mem (xs := usG f) (x := x)
    have hlen := cls_len (usG f)
    have hul := usG_len (by rw [hFB, hj2] : ftB f = true)
    rw [hj2, Bool.true_and] at hV
    generalize usG f = us at *
    have hn : cls us = [] → us = [] := fun e => List.eq_nil_iff_forall_not_mem.2 fun x hx => by
      have := (hmem x).2 hx; rw [e] at this; simp at this
    generalize cls us = cs at *
    (repeat (refine stg_ ?_))
    (refine cla_ (c1) ?_)
    have hcl : ((cs ++ List.replicate (us.length - cs.length) 0).map (D.int .i64)).length = us.length := by simp; omega
    by_cases h0 : cs = []
    · have := hn h0
      subst h0
      subst this
      (repeat' (first | (refine stg_ ?_) | fail | (refine br_ (fun hbr => ?_) (fun hbr => ?_))))
      (refine RetOK.d rfl rfl ?_; conv => whnf)
      rw [hV]; rfl
    · have hpos : 0 < cs.length := List.length_pos_iff.2 h0
      obtain ⟨z, hz⟩ := at_lt' (xs := cs) (k := cs.length - 1) (by omega)
      have hz' : ((cs ++ List.replicate (us.length - cs.length) 0).map (D.int .i64))[((cs.length : Int) - 1).toNat + 0]? = some (.int .i64 z) := by
        have : ((cs.length : Int) - 1).toNat + 0 = cs.length - 1 := by omega
        rw [this, List.getElem?_map, List.getElem?_append_left (by omega), hz]; rfl
      have hmax := hlast (cs.length - 1) z (by omega) hz
      have hzu : z ∈ us := (hmem z).1 (List.mem_of_getElem? hz)
      have hA : (us.all fun x => decide (x < g)) = decide (z < g) := by
        rw [Bool.eq_iff_iff, List.all_eq_true]
        constructor
        · intro h; exact h z hzu
        · intro h x hx
          have := hmax x hx
          simp at h ⊢; omega
      rw [hA] at hV
      (repeat' (first | (refine stg_ ?_) | (refine EoW.at hz' ?_; (conv => whnf)) | (refine br_ (fun hbr => ?_) (fun hbr => ?_))))
      all_goals first | (exfalso; omega) | ((refine RetOK.d rfl rfl ?_; conv => whnf); rw [hV]; done) | ((refine RetOK.d rfl rfl ?_; conv => whnf); rw [hV]; simp_all; done) | skip
end Go.Proofs.YtcachhipflibkaaGreat
