/- Sets of glyphs: the program's validity, by the machine. -/
import Derived.Test.YtcachhipflibkaaGreatGsW
import Derived.Test.YtcachhipflibkaaGreatVMMask
set_option linter.unusedSimpArgs false
set_option linter.unusedVariables false
namespace Go.Proofs.YtcachhipflibkaaGreat
open Go.RowKit
def trGs : OT := .q 0 (.q 1 (.q 2 (.q 3 (.q 4 (.alt 5 (.alt 6 (.alt 7 .done .nil) .nil) (.alt 6 (.q 5 (.alt 7 .done .nil)) .nil))))))
def nmD (g : TGlyph) : D := .str g.fName
def cdD (g : TGlyph) : D := .int .i64 g.fCode
theorem nm_any (x : TGlyph) (gs : List TGlyph) : lkD (setM (gs.map nmD)) (.str x.fName) = if (gs.any fun y => y.fName.toList == x.fName.toList) = true then some (.bool true) else none := by
  rw [lkD_setM, List.any_map]
  have : (gs.any (keyE (.str x.fName) ∘ nmD)) = gs.any fun y => y.fName.toList == x.fName.toList := by
    congr 1
    funext y
    show (x.fName == y.fName) = (y.fName.toList == x.fName.toList)
    rw [Bool.eq_iff_iff, Go.MapKept.bytes_beq, beq_iff_eq]
    constructor
    · intro e; rw [e]
    · intro e; exact (toL_inj e).symm
  rw [this]
theorem cd_any (x : TGlyph) (gs : List TGlyph) : lkD (setM (gs.map cdD)) (.int .i64 x.fCode) = if (gs.any fun y => y.fCode == x.fCode) = true then some (.bool true) else none := by
  rw [lkD_setM, List.any_map]
  have : (gs.any (keyE (.int .i64 x.fCode) ∘ cdD)) = gs.any fun y => y.fCode == x.fCode := by
    congr 1
    funext y
    show (x.fCode == y.fCode) = (y.fCode == x.fCode)
    rw [Bool.eq_iff_iff, beq_iff_eq, beq_iff_eq, eq_comm]
  rw [this]
theorem glC_any (x : TGlyph) (gs : List TGlyph) : gs.any (glC x) = ((gs.any fun y => y.fName.toList == x.fName.toList) || (decide (0 ≤ x.fCode) && gs.any fun y => y.fCode == x.fCode)) := by
  induction gs with
  | nil => simp
  | cons y gs ih =>
    rw [List.any_cons, List.any_cons, List.any_cons, ih, glC]
    cases (y.fName.toList == x.fName.toList) <;> cases decide (0 ≤ x.fCode) <;> cases (y.fCode == x.fCode) <;> cases (gs.any fun y => y.fName.toList == x.fName.toList) <;> cases (gs.any fun y => y.fCode == x.fCode) <;> rfl
theorem glB_parts {g : TGlyph} (h : glB g = true) : g.fParts.length ≤ 6 ∧ ∀ p ∈ g.fParts, 0 ≤ p.fGlyph ∧ p.fGlyph ≤ 39 := by
  simp only [glB, Bool.and_eq_true, decide_eq_true_eq, List.all_eq_true] at h
  refine ⟨h.2.2.2.2.2.1, fun p hp => ?_⟩
  have := h.2.2.2.2.2.2.2.2.1 p hp
  simp only [ptB, Bool.and_eq_true] at this
  exact inB_iff.1 this.1
theorem gs_lt {gs : List TGlyph} (h : gordB (psG gs) = true) {i : Nat} {x : TGlyph} (hx : gs[i]? = some x) {p : TPart} (hp : p ∈ x.fParts) : p.fGlyph.toNat < gs.length := by
  have := gord_lt h (x.fParts.map (·.fGlyph)) (List.mem_map.2 ⟨x, List.mem_of_getElem? hx, rfl⟩) p.fGlyph (List.mem_map.2 ⟨p, hp, rfl⟩)
  rwa [psG_len] at this
set_option maxHeartbeats 4000000 in
theorem ValidGlyphSet_v (s : TGlyphSet) : PC Tryz.prog 80 [.d s.D] (.d (.bool (gsB s))) [] := by
  refine pc_intro ttOk (by kernel_rfl) Tryz.func80 rfl (by kernel_rfl) (by kernel_rfl) (by kernel_rfl) (fun hw => ?_)
  have hL : (s.fGlyphs.map TGlyph.D).length = s.fGlyphs.length := List.length_map _
  have hF : gsB s = (inB s.fUnit 16 16384 && (decide (s.fGlyphs.length ≤ 40) && (gsG [] s.fGlyphs && gordB (psG s.fGlyphs)))) := rfl
  generalize gsB s = R at hF ⊢
  (conv => whnf)
  (repeat' (first | (refine stg_ ?_) | fail | (refine br_ (fun hbr => ?_) (fun hbr => ?_))))
  all_goals first | ((refine RetOK.d rfl rfl ?_; conv => whnf); rw [hF, show inB s.fUnit 16 16384 = false by (rw [← Bool.not_eq_true, inB_iff]; omega)]; simp; done) | ((refine RetOK.d rfl rfl ?_; conv => whnf); rw [hF, decide_eq_false (show ¬ s.fGlyphs.length ≤ 40 by omega)]; simp; done) | skip
  rw [show inB s.fUnit 16 16384 = true by (rw [inB_iff]; omega), decide_eq_true (show s.fGlyphs.length ≤ 40 by omega), Bool.true_and, Bool.true_and] at hF
  (repeat (refine stg_ ?_))
  refine LoopW.go (α := Nat) (fun k => [(1, .pB 1 [] 0), (3, .pB 2 [] 1000000007), (4, .pB 3 [] 1000000007), (28, .d (.lst (s.fGlyphs.map TGlyph.D))), (29, .d (.int .i64 (s.fGlyphs.map TGlyph.D).length)), (30, .d (.int .i64 k))])
    (fun k => [.gone, .box (.d s.D), .mp none (setM ((s.fGlyphs.take k).map nmD)), .mp (some .i64) (setM ((s.fGlyphs.take k).map cdD))])
    (fun k => k ≤ s.fGlyphs.length ∧ gsG [] s.fGlyphs = gsG (s.fGlyphs.take k) (s.fGlyphs.drop k) ∧ ∀ g ∈ s.fGlyphs.take k, glB g = true ∧ ∀ p ∈ g.fParts, p.fGlyph < s.fGlyphs.length) (fun k => s.fGlyphs.length - k) 0 covT_ ⟨by omega, rfl, by simp⟩ (fun k hk => ?_)
  obtain ⟨hk1, hk2, hk3⟩ := hk
  (conv => whnf)
  (refine br_ (fun h2 => ?_) (fun h2 => ?_) <;> (repeat (refine stg_ ?_)))
  · obtain ⟨x, hx⟩ := at_lt' (xs := s.fGlyphs) (k := k) (by omega)
    rw [gsG_at hx, glC_any] at hk2
    have c1 := ValidGlyph_v x
    have n1 := nm_any x (s.fGlyphs.take k)
    have n2 := cd_any x (s.fGlyphs.take k)
    generalize (s.fGlyphs.take k).any (fun y => y.fName.toList == x.fName.toList) = q1 at *
    generalize (s.fGlyphs.take k).any (fun y => y.fCode == x.fCode) = q2 at *
    have e1 : updD (setM ((s.fGlyphs.take k).map nmD)) (.str x.fName) (.bool true) = setM ((s.fGlyphs.take (k + 1)).map nmD) := by rw [take_snoc_get hx, List.map_append, List.map_singleton, setM_snoc]; rfl
    have e2 : updD (setM ((s.fGlyphs.take k).map cdD)) (.int .i64 x.fCode) (.bool true) = setM ((s.fGlyphs.take (k + 1)).map cdD) := by rw [take_snoc_get hx, List.map_append, List.map_singleton, setM_snoc]; rfl
    repeat' (first | ((fail_if_success (with_reducible apply RegD.id)); (first | (refine stg_ ?_) | (refine cla_ (c1) ?_) | (refine LkW.has q1 _ n1 (fun hn => ?_) (fun hn => ?_) <;> (conv => whnf)) | (refine LkW.has q2 _ n2 (fun hm => ?_) (fun hm => ?_) <;> (conv => whnf)) | (refine br_ (fun hbr => ?_) (fun hbr => ?_)))))
    all_goals first | (exfalso; omega) | ((refine RetOK.d rfl rfl ?_; conv => whnf); rw [hF, hk2]; simp_all; done) | skip
    all_goals refine RegD.cutT [(1, .pB 1 [] 0), (3, .pB 2 [] 1000000007), (4, .pB 3 [] 1000000007), (6, .pB 4 [] 0), (28, .d (.lst (s.fGlyphs.map TGlyph.D))), (29, .d (.int .i64 (s.fGlyphs.map TGlyph.D).length)), (30, .d (.int .i64 k))] [.gone, .box (.d s.D), .mp none (setM ((s.fGlyphs.take (k + 1)).map nmD)), .mp (some .i64) (setM ((s.fGlyphs.take (k + 1)).map cdD)), .box (.d x.D)] trGs (treeOK_bits (tab _) (by kernel_rfl) rfl (by kernel_rfl)) ?_ ?_
    all_goals first
      | ((conv => whnf)
         repeat' (first | (refine stg_ ?_) | (refine And.intro ?_ ?_ <;> (conv => whnf)))
         all_goals (refine Weak.cov ?_ ⟨trivial, rfl, by rw [e1], by rw [e2], rfl, trivial⟩ rfl; (focus ((repeat' (first | exact trivial | with_reducible rfl | (refine ⟨?_, ?_⟩) | rfl)); done))))
      | skip
    all_goals have hgx : glB x = true := by assumption
    all_goals have hq1 : q1 = false := by assumption
    all_goals (have hcl : (decide (0 ≤ x.fCode) && q2) = false := by first | (rw [show q2 = false by assumption, Bool.and_false]; done) | (rw [show decide (0 ≤ x.fCode) = false by (rw [decide_eq_false_iff_not]; omega)]; rfl))
    all_goals rw [hgx, hq1, hcl, Bool.true_and, Bool.false_or, Bool.not_false, Bool.true_and] at hk2
    all_goals clear e1 e2 n1 n2
    all_goals have hPl : (x.fParts.map TPart.D).length = x.fParts.length := List.length_map _
    all_goals have hp6 : x.fParts.length ≤ 6 := (glB_parts hgx).1
    all_goals (conv => whnf)
    all_goals (repeat (refine stg_ ?_))
    all_goals refine LoopW.go (α := Nat) (fun j => [(1, .pB 1 [] 0), (3, .pB 2 [] 1000000007), (4, .pB 3 [] 1000000007), (28, .d (.lst (s.fGlyphs.map TGlyph.D))), (29, .d (.int .i64 (s.fGlyphs.map TGlyph.D).length)), (30, .d (.int .i64 k)), (61, .d (.lst (x.fParts.map TPart.D))), (62, .d (.int .i64 (x.fParts.map TPart.D).length)), (63, .d (.int .i64 j))] ) (fun _ => [.gone, .box (.d s.D), .mp none (setM ((s.fGlyphs.take (k + 1)).map nmD)), .mp (some .i64) (setM ((s.fGlyphs.take (k + 1)).map cdD))]) (fun j => j ≤ x.fParts.length ∧ ∀ p ∈ x.fParts.take j, p.fGlyph < s.fGlyphs.length) (fun j => x.fParts.length - j) 0 covT_ ⟨by omega, by simp⟩ (fun j hj => ?_)
    all_goals obtain ⟨hj1, hj2⟩ := hj
    all_goals (conv => whnf)
    all_goals (refine br_ (fun h4 => ?_) (fun h4 => ?_))
    all_goals first
      | ((repeat (refine stg_ ?_))
         refine NextW.go (k + 1) covT_ ⟨by omega, hk2, ?_⟩ (by omega)
         rw [List.take_of_length_le (by omega)] at hj2
         rw [take_snoc_get hx]
         intro g hg
         rcases List.mem_append.1 hg with hg | hg
         · exact hk3 g hg
         · rw [List.mem_singleton] at hg; subst hg; exact ⟨hgx, hj2⟩)
      | (obtain ⟨y, hy⟩ := at_lt' (xs := x.fParts) (k := j) (by omega)
         (repeat' (first | (refine stg_ ?_) | fail | (refine br_ (fun hbr => ?_) (fun hbr => ?_))))
         all_goals first
           | ((refine RetOK.d rfl rfl ?_; conv => whnf)
              rw [hF]
              have hno : gordB (psG s.fGlyphs) = false := by
                rw [← Bool.not_eq_true]
                intro hg
                have := gs_lt hg hx (List.mem_of_getElem? hy)
                omega
              rw [hno, Bool.and_false])
           | (refine NextW.go (j + 1) covT_ ⟨by omega, fun p hp => ?_⟩ (by omega)
              rw [take_snoc_get hy] at hp
              rcases List.mem_append.1 hp with hp | hp
              · exact hj2 p hp
              · rw [List.mem_singleton] at hp; subst hp; omega))
  rw [gsG_end (by omega)] at hk2
  rw [List.take_of_length_le (by omega)] at hk3
  rw [hk2, Bool.true_and] at hF
  have hAll : ∀ g ∈ s.fGlyphs, g.fParts.length ≤ 6 ∧ ∀ p ∈ g.fParts, 0 ≤ p.fGlyph ∧ p.fGlyph < s.fGlyphs.length := fun g hg => ⟨(glB_parts (hk3 g hg).1).1, fun p hp => ⟨((glB_parts (hk3 g hg).1).2 p hp).1, (hk3 g hg).2 p hp⟩⟩
  have c9 := depthsOf_v s.fGlyphs hAll (by omega)
  (repeat' (first | (refine stg_ ?_) | (refine cla_ (c9) ?_) | (refine br_ (fun hbr => ?_) (fun hbr => ?_))))
  all_goals ((refine RetOK.d rfl rfl ?_; conv => whnf); rw [hF])
end Go.Proofs.YtcachhipflibkaaGreat
