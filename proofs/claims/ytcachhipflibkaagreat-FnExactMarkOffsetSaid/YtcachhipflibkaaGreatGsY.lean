/- Glyphs and sets of glyphs: the reference's validity, by the machine. -/
import Derived.Test.YtcachhipflibkaaGreatGsX
set_option linter.unusedSimpArgs false
set_option linter.unusedVariables false
namespace Go.Proofs.YtcachhipflibkaaGreat
open Go.RowKit
set_option maxHeartbeats 4000000 in
theorem l17Glyph_v (g : TGlyph) : PC Tryz.prog 119 [.pX g.D] (.d (.bool (glB g))) [] := by
  refine pc_intro ttOk (by kernel_rfl) Tryz.func119 rfl (by kernel_rfl) (by kernel_rfl) (by kernel_rfl) (fun hw => ?_)
  have hL : (g.fParts.map TPart.D).length = g.fParts.length := List.length_map _
  have hA : (g.fAnchors.map TAnchor.D).length = g.fAnchors.length := List.length_map _
  have hO : (g.fOutline.fLoops.map TLoop.D).length = g.fOutline.fLoops.length := List.length_map _
  have c1 := specIsName_v g.fName
  have c2 := l10Ok_v g.fOutline
  have hF : glB g = (nameB g.fName && (inB g.fCode (-1) 65535 && (inB g.fAdvance 0 262144 && (outB g.fOutline && ((decide (g.fParts.length = 0) || decide (g.fOutline.fLoops.length = 0)) && (decide (g.fParts.length ≤ 6) && (decide (g.fAnchors.length ≤ 6) && (decide (g.fHints.size ≤ 400) && (g.fParts.all ptB && anG [] g.fAnchors))))))))) := rfl
  generalize glB g = R at hF ⊢
  (conv => whnf)
  (repeat' (first | (refine stg_ ?_) | (refine cla_ (c1) ?_) | (refine cla_ (c2) ?_) | (refine cl_ (l00In_v _ _ _) ?_) | (refine br_ (fun hbr => ?_) (fun hbr => ?_))))
  all_goals first | ((refine RetOK.d rfl rfl ?_; conv => whnf); rw [hF]; simp_all; done) | ((refine RetOK.d rfl rfl ?_; conv => whnf); rw [hF, decide_eq_false (show ¬ g.fParts.length ≤ 6 by omega)]; simp; done) | ((refine RetOK.d rfl rfl ?_; conv => whnf); rw [hF, decide_eq_false (show ¬ g.fAnchors.length ≤ 6 by omega)]; simp; done) | ((refine RetOK.d rfl rfl ?_; conv => whnf); rw [hF, decide_eq_false (show ¬ g.fHints.size ≤ 400 by omega)]; simp; done) | skip
  have hR : R = ((decide (g.fParts.length = 0) || decide (g.fOutline.fLoops.length = 0)) && (g.fParts.all ptB && anG [] g.fAnchors)) := by (rw [hF, show nameB g.fName = true by assumption, show inB g.fCode (-1) 65535 = true by assumption, show inB g.fAdvance 0 262144 = true by assumption, show outB g.fOutline = true by assumption, decide_eq_true (show g.fParts.length ≤ 6 by omega), decide_eq_true (show g.fAnchors.length ≤ 6 by omega), decide_eq_true (show g.fHints.size ≤ 400 by omega)]; first | done | simp only [Bool.true_and])
  clear hF c1 c2
  refine LoopW.go (α := Nat) (fun k => [(0, .pX g.D), (3, .d (.int .i64 k))]) (fun _ => [.gone]) (fun k => k ≤ g.fParts.length ∧ g.fParts.all ptB = (g.fParts.drop k).all ptB) (fun k => g.fParts.length - k) 0 covT_ ⟨by omega, rfl⟩ (fun k hk => ?_)
  obtain ⟨hk1, hk2⟩ := hk
  (conv => whnf)
  (repeat (refine stg_ ?_))
  (refine br_ (fun h2 => ?_) (fun h2 => ?_) <;> (repeat (refine stg_ ?_)))
  · obtain ⟨x, hx⟩ := at_lt' (xs := g.fParts) (k := k) (by omega)
    rw [drop_at hx, List.all_cons] at hk2
    have c3 := l03Ok_v x.fMove
    (repeat' (first | (refine stg_ ?_) | (refine cla_ (c3) ?_) | (refine cl_ (l00In_v _ _ _) ?_) | (refine br_ (fun hbr => ?_) (fun hbr => ?_))))
    all_goals first | ((refine RetOK.d rfl rfl ?_; conv => whnf); rw [hR, hk2, ptB]; simp_all; done) | (exact NextW.go (k + 1) covT_ ⟨by omega, by (rw [hk2, ptB]; simp_all)⟩ (by omega))
  rw [List.drop_eq_nil_of_le (by omega), List.all_nil] at hk2
  rw [hk2, Bool.true_and] at hR
  clear hk2 h2 hk1
  (repeat (refine stg_ ?_))
  refine LoopW.go (α := Nat) (fun k => [(0, .pX g.D), (4, .d (.int .i64 k))]) (fun _ => [.gone]) (fun k => k ≤ g.fAnchors.length ∧ anG [] g.fAnchors = anG (g.fAnchors.take k) (g.fAnchors.drop k)) (fun k => g.fAnchors.length - k) 0 covT_ ⟨by omega, rfl⟩ (fun k hk => ?_)
  obtain ⟨hk1, hk2⟩ := hk
  (conv => whnf)
  (repeat (refine stg_ ?_))
  (refine br_ (fun h2 => ?_) (fun h2 => ?_) <;> (repeat (refine stg_ ?_)))
  · obtain ⟨x, hx⟩ := at_lt' (xs := g.fAnchors) (k := k) (by omega)
    rw [anG_at hx] at hk2
    have hx' : (g.fAnchors.map TAnchor.D)[k]? = some x.D := by rw [List.getElem?_map, hx]; rfl
    have c1 := specIsName_v x.fName
    have c2 := l03Ok_v x.fAt
    (repeat' (first | (refine stg_ ?_) | (refine cla_ (c1) ?_) | (refine cla_ (c2) ?_) | (refine br_ (fun hbr => ?_) (fun hbr => ?_))))
    all_goals first | ((refine RetOK.d rfl rfl ?_; conv => whnf); rw [hR, hk2]; simp_all; done) | skip
    refine LoopW.go (α := Nat) (fun m => [(0, .pX g.D), (4, .d (.int .i64 k)), (5, .d (.int .i64 m))]) (fun _ => [.gone]) (fun m => m ≤ k ∧ (g.fAnchors.take m).any (anEq x.fName) = false) (fun m => k - m) 0 covT_ ⟨by omega, rfl⟩ (fun m hm => ?_)
    obtain ⟨hm1, hm2⟩ := hm
    (conv => whnf)
    (refine br_ (fun h3 => ?_) (fun h3 => ?_) <;> (repeat (refine stg_ ?_)))
    · obtain ⟨y, hy⟩ := at_lt' (xs := g.fAnchors) (k := m) (by omega)
      have hS := any_snoc' (p := anEq x.fName) hy
      (repeat' (first | (refine stg_ ?_) | fail | (refine br_ (fun hbr => ?_) (fun hbr => ?_))))
      · (refine RetOK.d rfl rfl ?_; conv => whnf)
        have h4 := any_take (p := anEq x.fName) hy (k := k) (by omega) (by simp_all [anEq])
        rw [hR, hk2, h4]; simp
      · exact NextW.go (m + 1) covT_ ⟨by omega, by rw [hS, hm2]; simp_all [anEq]⟩ (by omega)
    · obtain rfl : m = k := by omega
      rw [hm2] at hk2
      (repeat (refine stg_ ?_))
      exact NextW.go (m + 1) covT_ ⟨by omega, by rw [hk2]; simp_all⟩ (by omega)
  · rw [anG_end (by omega)] at hk2
    rw [hk2, Bool.and_true] at hR
    (repeat' (first | (refine stg_ ?_) | fail | (refine br_ (fun hbr => ?_) (fun hbr => ?_))))
    all_goals ((refine RetOK.d rfl rfl ?_; conv => whnf); rw [hR]; congr 1; rw [Bool.eq_iff_iff]; simp only [Bool.or_eq_true, decide_eq_true_eq, beq_iff_eq]; (first | omega | (simp only [iff_true]; omega)))
theorem l17Clash_v (y x : TGlyph) : PC Tryz.prog 120 [.pX y.D, .pX x.D] (.d (.bool (glC x y))) [] := by
  refine pc_intro ttOk (by kernel_rfl) Tryz.func120 rfl (by kernel_rfl) (by kernel_rfl) (by kernel_rfl) (fun hw => ?_)
  (conv => whnf)
  (repeat' (first | (refine stg_ ?_) | fail | (refine br_ (fun hbr => ?_) (fun hbr => ?_))))
  all_goals ((refine RetOK.d rfl rfl ?_; conv => whnf); rw [glC]; congr 1)
  all_goals (rcases Decidable.em (y.fCode = x.fCode) with e | e)
  all_goals first
    | ((have e' : (y.fCode == x.fCode) = false := by simpa using e); rw [e', Bool.and_false, Bool.or_false]; first | assumption | (simp_all; done))
    | ((have e' : (y.fCode == x.fCode) = true := by simpa using e); rw [e', Bool.and_true, ← e]; first | (simp_all; done) | (simp_all; omega))
    | (simp_all; done)
    | (simp_all; omega)
end Go.Proofs.YtcachhipflibkaaGreat
