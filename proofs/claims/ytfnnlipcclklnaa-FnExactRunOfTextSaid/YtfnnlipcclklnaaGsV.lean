/- Glyphs: validity, both sides, by the machine. -/
import Derived.Test.YtfnnlipcclklnaaGsP
import Derived.Test.YtfnnlipcclklnaaOtV
import Derived.Test.YtfnnlipcclklnaaVMMp
set_option linter.unusedSimpArgs false
set_option linter.unusedVariables false
namespace Go.Proofs.Ytfnnlipcclklnaa
open Go.RowKit
theorem any_snoc' {α : Type} {p : α → Bool} {xs : List α} {k : Nat} {x : α} (h : xs[k]? = some x) : (xs.take (k + 1)).any p = ((xs.take k).any p || p x) := by
  rw [take_snoc_get h, List.any_append]; simp
theorem inB_iff {n lo hi : Int} : inB n lo hi = true ↔ lo ≤ n ∧ n ≤ hi := by simp [inB]
set_option maxHeartbeats 1000000 in
theorem ixAnchorp_v (xs : List TAnchor) (f : Nat) (y0 : D) (p : TAnchor → Bool) (hf : ∀ x : TAnchor, PC Try.prog f [.d x.D, .pX y0] (.d (.bool (p x))) []) :
    PC Try.prog 69 [.d (.lst (xs.map TAnchor.D)), .fn (.func f) [.pX y0]] (.d (.int .i64 (fdx p xs 0))) [] := by
  refine pc_intro ttOk (by kernel_rfl) Try.func69 rfl (by kernel_rfl) (by kernel_rfl) (by kernel_rfl) (fun hw => ?_)
  have hL : (xs.map TAnchor.D).length = xs.length := List.length_map _
  have hm : (xs.map TAnchor.D).length ≤ 9223372036854775807 := hw.1.1
  (conv => whnf)
  refine LoopW.go (α := Nat) (fun k => [(0, .d (.lst (xs.map TAnchor.D))), (1, .fn (.func f) [.pX y0]), (7, .d (.int .i64 (xs.map TAnchor.D).length)), (8, .d (.int .i64 k))]) (fun k => [.gone]) (fun k => k ≤ xs.length ∧ fdx p xs 0 = fdx p (xs.drop k) k) (fun k => xs.length - k) 0 covT_ ?_ (fun k hk => ?_)
  · exact ⟨by omega, rfl⟩
  obtain ⟨hk1, hk2⟩ := hk
  (conv => whnf)
  (refine br_ (fun h2 => ?_) (fun h2 => ?_) <;> (repeat (refine stg_ ?_)))
  · obtain ⟨x, hx⟩ := at_lt' (xs := xs) (k := k) (by omega)
    rw [fdx_at hx] at hk2
    (repeat (refine stg_ ?_))
    (refine cla_ (hf x) ?_)
    (refine br_ (fun h3 => ?_) (fun h3 => ?_) <;> (repeat (refine stg_ ?_)))
    · (refine RetOK.d rfl rfl ?_; conv => whnf)
      rw [hk2, if_pos h3]
    · (repeat (refine stg_ ?_))
      exact NextW.go (k + 1) covT_ ⟨by omega, by rw [hk2, h3]; rfl⟩ (by omega)
  · (refine RetOK.d rfl rfl ?_; conv => whnf)
    rw [hk2, fdx_end (by omega)]

theorem anchorAt1_v (x : TAnchor) (s : ByteArray) : PC Try.prog 70 [.d x.D, .pX (.str s)] (.d (.bool (anEq s x))) [] := by
  refine pc_intro ttOk (by kernel_rfl) Try.func70 rfl (by kernel_rfl) (by kernel_rfl) (by kernel_rfl) (fun hw => ?_)
  (conv => whnf)
  (refine RetOK.d rfl rfl ?_; conv => whnf)
  rfl
theorem anchorAt_v (xs : List TAnchor) (s : ByteArray) : PC Try.prog 51 [.d (.lst (xs.map TAnchor.D)), .d (.str s)] (.d (.int .i64 (fdx (anEq s) xs 0))) [] := by
  refine pc_intro ttOk (by kernel_rfl) Try.func51 rfl (by kernel_rfl) (by kernel_rfl) (by kernel_rfl) (fun hw => ?_)
  (conv => whnf)
  (repeat' (first | (refine stg_ ?_) | (refine cla_ (ixAnchorp_v xs _ (.str s) (anEq s) (fun x => anchorAt1_v x s)) ?_) | (refine br_ (fun hbr => ?_) (fun hbr => ?_))))
  (refine RetOK.d rfl rfl ?_; conv => whnf)
set_option maxHeartbeats 4000000 in
theorem ValidGlyph_v (g : TGlyph) : PC Try.prog 29 [.d g.D] (.d (.bool (glB g))) [] := by
  refine pc_intro ttOk (by kernel_rfl) Try.func29 rfl (by kernel_rfl) (by kernel_rfl) (by kernel_rfl) (fun hw => ?_)
  have hL : (g.fParts.map TPart.D).length = g.fParts.length := List.length_map _
  have hA : (g.fAnchors.map TAnchor.D).length = g.fAnchors.length := List.length_map _
  have hO : (g.fOutline.fLoops.map TLoop.D).length = g.fOutline.fLoops.length := List.length_map _
  have c1 := IsName_v g.fName
  have c2 := ValidOutline_v g.fOutline
  have hF : glB g = (nameB g.fName && (inB g.fCode (-1) 65535 && (inB g.fAdvance 0 262144 && (outB g.fOutline && ((decide (g.fParts.length = 0) || decide (g.fOutline.fLoops.length = 0)) && (decide (g.fParts.length ≤ 6) && (decide (g.fAnchors.length ≤ 6) && (decide (g.fHints.size ≤ 400) && (g.fParts.all ptB && anG [] g.fAnchors))))))))) := rfl
  generalize glB g = R at hF ⊢
  (conv => whnf)
  (repeat' (first | (refine stg_ ?_) | (refine cla_ (c1) ?_) | (refine cla_ (c2) ?_) | (refine br_ (fun hbr => ?_) (fun hbr => ?_))))
  all_goals first | ((refine RetOK.d rfl rfl ?_; conv => whnf); rw [hF]; simp_all [inB]; done) | ((refine RetOK.d rfl rfl ?_; conv => whnf); rw [hF]; simp_all [inB]; omega) | ((refine RetOK.d rfl rfl ?_; conv => whnf); rw [hF, show (decide (g.fParts.length = 0) || decide (g.fOutline.fLoops.length = 0)) = false by (rw [Bool.or_eq_false_iff, decide_eq_false_iff_not, decide_eq_false_iff_not]; omega)]; simp; done) | ((refine RetOK.d rfl rfl ?_; conv => whnf); rw [hF, decide_eq_false (show ¬ g.fParts.length ≤ 6 by omega)]; simp; done) | ((refine RetOK.d rfl rfl ?_; conv => whnf); rw [hF, decide_eq_false (show ¬ g.fAnchors.length ≤ 6 by omega)]; simp; done) | ((refine RetOK.d rfl rfl ?_; conv => whnf); rw [hF, decide_eq_false (show ¬ g.fHints.size ≤ 400 by omega)]; simp; done) | skip
  all_goals (have hR : R = (g.fParts.all ptB && anG [] g.fAnchors) := by (rw [hF, show nameB g.fName = true by assumption, show inB g.fCode (-1) 65535 = true by (rw [inB_iff]; omega), show inB g.fAdvance 0 262144 = true by (rw [inB_iff]; omega), show outB g.fOutline = true by assumption, show (decide (g.fParts.length = 0) || decide (g.fOutline.fLoops.length = 0)) = true by (rw [Bool.or_eq_true, decide_eq_true_iff, decide_eq_true_iff]; omega), decide_eq_true (show g.fParts.length ≤ 6 by omega), decide_eq_true (show g.fAnchors.length ≤ 6 by omega), decide_eq_true (show g.fHints.size ≤ 400 by omega)]; first | done | simp only [Bool.true_and]))
  all_goals clear hF c1 c2
  all_goals refine LoopW.go (α := Nat) (fun k => [(1, .pB 1 [] 0), (67, .d (.lst (g.fParts.map TPart.D))), (68, .d (.int .i64 (g.fParts.map TPart.D).length)), (69, .d (.int .i64 k))]) (fun _ => [.gone, .box (.d g.D)]) (fun k => k ≤ g.fParts.length ∧ g.fParts.all ptB = (g.fParts.drop k).all ptB) (fun k => g.fParts.length - k) 0 covT_ ⟨by omega, rfl⟩ (fun k hk => ?_)
  all_goals obtain ⟨hk1, hk2⟩ := hk
  all_goals (conv => whnf)
  all_goals (refine br_ (fun h2 => ?_) (fun h2 => ?_) <;> (repeat (refine stg_ ?_)))
  all_goals first
    | (obtain ⟨x, hx⟩ := at_lt' (xs := g.fParts) (k := k) (by omega)
       rw [drop_at hx, List.all_cons] at hk2
       (repeat (refine stg_ ?_))
       have c3 := ValidPt_v x.fMove
       (repeat' (first | (refine stg_ ?_) | (refine cla_ (c3) ?_) | (refine br_ (fun hbr => ?_) (fun hbr => ?_))))
       all_goals first | ((refine RetOK.d rfl rfl ?_; conv => whnf); rw [hR, hk2, ptB]; simp_all [inB]; done) | ((refine RetOK.d rfl rfl ?_; conv => whnf); rw [hR, hk2, ptB, show inB x.fGlyph 0 39 = false by (rw [← Bool.not_eq_true, inB_iff]; omega)]; simp; done) | (exact NextW.go (k + 1) covT_ ⟨by omega, by (rw [hk2, ptB, show inB x.fGlyph 0 39 = true by (rw [inB_iff]; omega)]; simp_all)⟩ (by omega)))
    | skip
  all_goals rw [List.drop_eq_nil_of_le (by omega), List.all_nil] at hk2
  all_goals rw [hk2, Bool.true_and] at hR
  all_goals clear hk2 h2 hk1
  all_goals refine LoopW.go (α := Nat) (fun k => [(1, .pB 1 [] 0), (89, .d (.lst (g.fAnchors.map TAnchor.D))), (90, .d (.int .i64 (g.fAnchors.map TAnchor.D).length)), (91, .d (.int .i64 k))]) (fun _ => [.gone, .box (.d g.D)]) (fun k => k ≤ g.fAnchors.length ∧ R = anG (g.fAnchors.take k) (g.fAnchors.drop k)) (fun k => g.fAnchors.length - k) 0 covT_ ⟨by omega, hR⟩ (fun k hk => ?_)
  all_goals clear hR
  all_goals obtain ⟨hk1, hk2⟩ := hk
  all_goals (conv => whnf)
  all_goals (refine br_ (fun h2 => ?_) (fun h2 => ?_) <;> (repeat (refine stg_ ?_)))
  all_goals first
    | ((refine RetOK.d rfl rfl ?_; conv => whnf)
       rw [hk2, anG_end (by omega)])
    | (obtain ⟨x, hx⟩ := at_lt' (xs := g.fAnchors) (k := k) (by omega)
       rw [anG_at hx] at hk2
       have c1 := IsName_v x.fName
       have c2 := ValidPt_v x.fAt
       have c3 := anchorAt_v (g.fAnchors.take k) x.fName
       have hsl : (g.fAnchors.take k).map TAnchor.D = ((g.fAnchors.map TAnchor.D).drop 0).take ((k : Int).toNat - 0) := by simp [List.map_take]
       rw [hsl] at c3
       have hq := fdx_any (anEq x.fName) (g.fAnchors.take k) 0
       rw [← hq] at hk2
       generalize fdx (anEq x.fName) (g.fAnchors.take k) 0 = q at *
       (repeat (refine stg_ ?_))
       (repeat' (first | (refine stg_ ?_) | (refine cla_ (c1) ?_) | (refine cla_ (c2) ?_) | (refine cla_ (c3) ?_) | (refine br_ (fun hbr => ?_) (fun hbr => ?_))))
       all_goals first | (exfalso; omega) | ((refine RetOK.d rfl rfl ?_; conv => whnf); rw [hk2]; simp_all; done) | ((refine RetOK.d rfl rfl ?_; conv => whnf); rw [hk2, show decide (0 ≤ q) = true by (rw [decide_eq_true_eq]; omega)]; simp; done) | (exact NextW.go (k + 1) covT_ ⟨by omega, by (rw [hk2, show decide (0 ≤ q) = false by (rw [decide_eq_false_iff_not]; omega)]; simp_all)⟩ (by omega)) | fail)
end Go.Proofs.Ytfnnlipcclklnaa
