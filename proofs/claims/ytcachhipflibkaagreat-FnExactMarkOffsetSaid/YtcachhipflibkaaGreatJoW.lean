/- Forms of glyphs, kerns and marks of features: both sides, by the machine. -/
import Derived.Test.YtcachhipflibkaaGreatJoV
import Derived.Test.YtcachhipflibkaaGreatApV
set_option linter.unusedSimpArgs false
set_option linter.unusedVariables false
namespace Go.Proofs.YtcachhipflibkaaGreat
open Go.RowKit
def fgO (f : TFeatures) (g form : Int) : Int := if ftB f = true then gfO (jnO f g) g form else g
set_option maxHeartbeats 1000000 in
theorem l28Glyph_v (f : TFeatures) (g form : Int) : PC Tryz.prog 186 [.pX f.D, .d (.int .i64 g), .d (.int .i64 form)] (.d (.int .i64 (gfO (jnO f g) g form))) [] := by
  refine pc_intro ttOk (by kernel_rfl) Tryz.func186 rfl (by kernel_rfl) (by kernel_rfl) (by kernel_rfl) (fun hw => ?_)
  have hJ : (f.fJoins.map TJoin.D).length = f.fJoins.length := List.length_map _
  have c2 := l28Join_v f g
  have c3 := l00In_v form 1 3
  rcases fdx_find (jnP g) f.fJoins 0 with ⟨h1, h2⟩ | ⟨i, x, h1, h2, h3⟩
  · rw [jnO, h2]
    rw [h1] at c2
    (conv => whnf)
    (repeat' (first | (refine stg_ ?_) | (refine cla_ (c2) ?_) | (refine cl_ (c3) ?_) | (refine br_ (fun hbr => ?_) (fun hbr => ?_))))
    all_goals first | (exfalso; omega) | (refine RetOK.d rfl rfl ?_; conv => whnf)
    all_goals rfl
  · rw [jnO, h3]
    rw [h1, Nat.zero_add] at c2
    by_cases hf : inB form 1 3 = true
    · rw [hf] at c3
      have hf' : form = 1 ∨ form = 2 ∨ form = 3 := by simp [inB] at hf; omega
      have hx' : (f.fJoins.map TJoin.D)[i]? = some x.D := by rw [List.getElem?_map, h2]; rfl
      rcases hf' with rfl | rfl | rfl
      · have hv : gfO (some x) g 1 = if x.fInit < 0 then g else x.fInit := rfl
        rw [hv]
        have he : [D.int .i64 x.fInit, D.int .i64 x.fMedi, D.int .i64 x.fFina][0]? = some (D.int .i64 x.fInit) := rfl
        (conv => whnf)
        (repeat' (first | (refine stg_ ?_) | (refine cla_ (c2) ?_) | (refine cl_ (c3) ?_) | (refine EoW.at he ?_; (conv => whnf)) | (refine br_ (fun hbr => ?_) (fun hbr => ?_))))
        all_goals first | (exfalso; omega) | (exfalso; simp_all; done) | ((refine RetOK.d rfl rfl ?_; conv => whnf); simp_all; done) | ((refine RetOK.d rfl rfl ?_; conv => whnf); rw [if_neg (by omega)])
      · have hv : gfO (some x) g 2 = if x.fMedi < 0 then g else x.fMedi := rfl
        rw [hv]
        have he : [D.int .i64 x.fInit, D.int .i64 x.fMedi, D.int .i64 x.fFina][1]? = some (D.int .i64 x.fMedi) := rfl
        (conv => whnf)
        (repeat' (first | (refine stg_ ?_) | (refine cla_ (c2) ?_) | (refine cl_ (c3) ?_) | (refine EoW.at he ?_; (conv => whnf)) | (refine br_ (fun hbr => ?_) (fun hbr => ?_))))
        all_goals first | (exfalso; omega) | (exfalso; simp_all; done) | ((refine RetOK.d rfl rfl ?_; conv => whnf); simp_all; done) | ((refine RetOK.d rfl rfl ?_; conv => whnf); rw [if_neg (by omega)])
      · have hv : gfO (some x) g 3 = if x.fFina < 0 then g else x.fFina := rfl
        rw [hv]
        have he : [D.int .i64 x.fInit, D.int .i64 x.fMedi, D.int .i64 x.fFina][2]? = some (D.int .i64 x.fFina) := rfl
        (conv => whnf)
        (repeat' (first | (refine stg_ ?_) | (refine cla_ (c2) ?_) | (refine cl_ (c3) ?_) | (refine EoW.at he ?_; (conv => whnf)) | (refine br_ (fun hbr => ?_) (fun hbr => ?_))))
        all_goals first | (exfalso; omega) | (exfalso; simp_all; done) | ((refine RetOK.d rfl rfl ?_; conv => whnf); simp_all; done) | ((refine RetOK.d rfl rfl ?_; conv => whnf); rw [if_neg (by omega)])
    · have hf0 : inB form 1 3 = false := by simpa using hf
      rw [hf0] at c3
      have hv : gfO (some x) g form = g := by
        simp [inB] at hf
        have n1 : ¬ form = 1 := by omega
        have n2 : ¬ form = 2 := by omega
        have n3 : ¬ form = 3 := by omega
        simp only [gfO]
        rw [if_neg n1, if_neg n2, if_neg n3]
        rfl
      rw [hv]
      (conv => whnf)
      (repeat' (first | (refine stg_ ?_) | (refine cla_ (c2) ?_) | (refine cl_ (c3) ?_) | (refine br_ (fun hbr => ?_) (fun hbr => ?_))))
      all_goals first | (exfalso; omega) | (exfalso; simp_all; done) | (refine RetOK.d rfl rfl ?_; conv => whnf)
/-! ### kerns -/
def kaP (l r : Int) (k : TKern) : Bool := hasI k.fLeft l && hasI k.fRight r
def kaN (f : TFeatures) (l r : Int) : Int := match f.fKerns.find? (kaP l r) with | some k => k.fValue | none => 0
theorem find_at {α : Type} {p : α → Bool} {xs : List α} {k : Nat} {x : α} (hx : xs[k]? = some x) : (xs.drop k).find? p = if p x = true then some x else (xs.drop (k + 1)).find? p := by
  rw [drop_at hx, List.find?_cons]
  by_cases h : p x = true
  · rw [if_pos h, h]
  · rw [if_neg h, show p x = false by simpa using h]
theorem kernFor_v (f : TFeatures) (l r : Int) : PC Tryz.prog 134 [.d f.D, .d (.int .i64 l), .d (.int .i64 r)] (.d (.int .i64 (kaN f l r))) [] := by
  refine pc_intro ttOk (by kernel_rfl) Tryz.func134 rfl (by kernel_rfl) (by kernel_rfl) (by kernel_rfl) (fun hw => ?_)
  have hL : (f.fKerns.map TKern.D).length = f.fKerns.length := List.length_map _
  have hm : (f.fKerns.map TKern.D).length ≤ 9223372036854775807 := hw.1.2.1.1
  have hN : kaN f l r = match f.fKerns.find? (kaP l r) with | some k => k.fValue | none => 0 := rfl
  generalize kaN f l r = R at hN ⊢
  (conv => whnf)
  refine LoopW.go (α := Nat) (fun k => [(1, .d (.int .i64 l)), (2, .d (.int .i64 r)), (10, .d (.lst (f.fKerns.map TKern.D))), (11, .d (.int .i64 (f.fKerns.map TKern.D).length)), (12, .d (.int .i64 k))]) (fun k => [.gone]) (fun k => k ≤ f.fKerns.length ∧ f.fKerns.find? (kaP l r) = (f.fKerns.drop k).find? (kaP l r)) (fun k => f.fKerns.length - k) 0 covT_ ?_ (fun k hk => ?_)
  · exact ⟨by omega, rfl⟩
  obtain ⟨hk1, hk2⟩ := hk
  (conv => whnf)
  (refine br_ (fun h2 => ?_) (fun h2 => ?_) <;> (repeat (refine stg_ ?_)))
  · obtain ⟨x, hx⟩ := at_lt' (xs := f.fKerns) (k := k) (by omega)
    rw [find_at hx] at hk2
    (repeat' (first | (refine stg_ ?_) | (refine cla_ (containsI_v x.fLeft l) ?_) | (refine cla_ (containsI_v x.fRight r) ?_) | (refine br_ (fun hbr => ?_) (fun hbr => ?_))))
    all_goals first | ((refine RetOK.d rfl rfl ?_; conv => whnf); rw [hN, hk2, kaP]; simp_all; done) | skip
    all_goals exact NextW.go (k + 1) covT_ ⟨by omega, by rw [hk2, kaP]; simp_all⟩ (by omega)
  · (refine RetOK.d rfl rfl ?_; conv => whnf)
    rw [hN, hk2, List.drop_eq_nil_of_le (by omega)]; rfl
theorem l27Kern_v (f : TFeatures) (l r : Int) : PC Tryz.prog 131 [.pX f.D, .d (.int .i64 l), .d (.int .i64 r)] (.d (.int .i64 (kaN f l r))) [] := by
  refine pc_intro ttOk (by kernel_rfl) Tryz.func131 rfl (by kernel_rfl) (by kernel_rfl) (by kernel_rfl) (fun hw => ?_)
  have hL : (f.fKerns.map TKern.D).length = f.fKerns.length := List.length_map _
  have hm : (f.fKerns.map TKern.D).length ≤ 9223372036854775807 := hw.1.2.1.1
  have hN : kaN f l r = match f.fKerns.find? (kaP l r) with | some k => k.fValue | none => 0 := rfl
  generalize kaN f l r = R at hN ⊢
  (conv => whnf)
  refine LoopW.go (α := Nat) (fun k => [(0, .pX f.D), (1, .d (.int .i64 l)), (2, .d (.int .i64 r)), (7, .d (.int .i64 k))]) (fun k => [.gone]) (fun k => k ≤ f.fKerns.length ∧ f.fKerns.find? (kaP l r) = (f.fKerns.drop k).find? (kaP l r)) (fun k => f.fKerns.length - k) 0 covT_ ?_ (fun k hk => ?_)
  · exact ⟨by omega, rfl⟩
  obtain ⟨hk1, hk2⟩ := hk
  (conv => whnf)
  (repeat (refine stg_ ?_))
  (refine br_ (fun h2 => ?_) (fun h2 => ?_) <;> (repeat (refine stg_ ?_)))
  · obtain ⟨x, hx⟩ := at_lt' (xs := f.fKerns) (k := k) (by omega)
    rw [find_at hx] at hk2
    (repeat' (first | (refine stg_ ?_) | (refine cla_ (l00Has_v x.fLeft l) ?_) | (refine cla_ (l00Has_v x.fRight r) ?_) | (refine br_ (fun hbr => ?_) (fun hbr => ?_))))
    all_goals first | ((refine RetOK.d rfl rfl ?_; conv => whnf); rw [hN, hk2, kaP]; simp_all; done) | skip
    all_goals exact NextW.go (k + 1) covT_ ⟨by omega, by rw [hk2, kaP]; simp_all⟩ (by omega)
  · (refine RetOK.d rfl rfl ?_; conv => whnf)
    rw [hN, hk2, List.drop_eq_nil_of_le (by omega)]; rfl
def kfN (f : TFeatures) (l r : Int) : Int := if ftB f = true then kaN f l r else 0
/-! ### marks -/
def maP (m b : Int) (k : TMarkRule) : Bool := hasI k.fMarks m && hasI k.fBases b
set_option maxHeartbeats 1000000 in
theorem ixMarkRulepp_v (xs : List TMarkRule) (f : Nat) (y0 : D) (y1 : D) (p : TMarkRule → Bool) (hf : ∀ x : TMarkRule, PC Tryz.prog f [.d x.D, .pX y0, .pX y1] (.d (.bool (p x))) []) :
    PC Tryz.prog 174 [.d (.lst (xs.map TMarkRule.D)), .fn (.func f) [.pX y0, .pX y1]] (.d (.int .i64 (fdx p xs 0))) [] := by
  refine pc_intro ttOk (by kernel_rfl) Tryz.func174 rfl (by kernel_rfl) (by kernel_rfl) (by kernel_rfl) (fun hw => ?_)
  have hL : (xs.map TMarkRule.D).length = xs.length := List.length_map _
  have hm : (xs.map TMarkRule.D).length ≤ 9223372036854775807 := hw.1.1
  (conv => whnf)
  refine LoopW.go (α := Nat) (fun k => [(0, .d (.lst (xs.map TMarkRule.D))), (1, .fn (.func f) [.pX y0, .pX y1]), (7, .d (.int .i64 (xs.map TMarkRule.D).length)), (8, .d (.int .i64 k))]) (fun k => [.gone]) (fun k => k ≤ xs.length ∧ fdx p xs 0 = fdx p (xs.drop k) k) (fun k => xs.length - k) 0 covT_ ?_ (fun k hk => ?_)
  · exact ⟨by omega, rfl⟩
  obtain ⟨hk1, hk2⟩ := hk
  (conv => whnf)
  (refine br_ (fun h2 => ?_) (fun h2 => ?_) <;> (repeat (refine stg_ ?_)))
  · obtain ⟨x, hx⟩ := at_lt' (xs := xs) (k := k) (by omega)
    rw [fdx_at hx] at hk2
    (repeat (refine stg_ ?_))
    (refine cla_ (hf x) ?_)
    (refine br_ (fun h3 => ?_) (fun h3 => ?_) <;> (repeat (refine stg_ ?_)))
    · (refine RetOK.d rfl rfl ?_; conv => whnf)
      rw [hk2, if_pos h3]
    · (repeat (refine stg_ ?_))
      exact NextW.go (k + 1) covT_ ⟨by omega, by rw [hk2, h3]; rfl⟩ (by omega)
  · (refine RetOK.d rfl rfl ?_; conv => whnf)
    rw [hk2, fdx_end (by omega)]

theorem markFor1_v (x : TMarkRule) (m b : Int) : PC Tryz.prog 175 [.d x.D, .pX (.int .i64 m), .pX (.int .i64 b)] (.d (.bool (maP m b x))) [] := by
  refine pc_intro ttOk (by kernel_rfl) Tryz.func175 rfl (by kernel_rfl) (by kernel_rfl) (by kernel_rfl) (fun hw => ?_)
  (conv => whnf)
  (repeat' (first | (refine stg_ ?_) | (refine cla_ (containsI_v x.fMarks m) ?_) | (refine cla_ (containsI_v x.fBases b) ?_) | (refine br_ (fun hbr => ?_) (fun hbr => ?_))))
  all_goals ((refine RetOK.d rfl rfl ?_; conv => whnf); simp_all [maP])
theorem markFor_v (f : TFeatures) (m b : Int) : PC Tryz.prog 126 [.d f.D, .d (.int .i64 m), .d (.int .i64 b)] (.d (.int .i64 (fdx (maP m b) f.fMarks 0))) [] := by
  refine pc_intro ttOk (by kernel_rfl) Tryz.func126 rfl (by kernel_rfl) (by kernel_rfl) (by kernel_rfl) (fun hw => ?_)
  have c1 := ixMarkRulepp_v f.fMarks _ (.int .i64 m) (.int .i64 b) (maP m b) (fun x => markFor1_v x m b)
  (conv => whnf)
  (repeat' (first | (refine stg_ ?_) | (refine cla_ (c1) ?_) | (refine br_ (fun hbr => ?_) (fun hbr => ?_))))
  (refine RetOK.d rfl rfl ?_; conv => whnf)
theorem l27Mark_v (f : TFeatures) (m b : Int) : PC Tryz.prog 122 [.pX f.D, .d (.int .i64 m), .d (.int .i64 b)] (.d (.int .i64 (fdx (maP m b) f.fMarks 0))) [] := by
  refine pc_intro ttOk (by kernel_rfl) Tryz.func122 rfl (by kernel_rfl) (by kernel_rfl) (by kernel_rfl) (fun hw => ?_)
  have hL : (f.fMarks.map TMarkRule.D).length = f.fMarks.length := List.length_map _
  have hm : (f.fMarks.map TMarkRule.D).length ≤ 9223372036854775807 := hw.1.2.2.1.1
  (conv => whnf)
  refine LoopW.go (α := Nat) (fun k => [(0, .pX f.D), (1, .d (.int .i64 m)), (2, .d (.int .i64 b)), (7, .d (.int .i64 k))]) (fun k => [.gone]) (fun k => k ≤ f.fMarks.length ∧ fdx (maP m b) f.fMarks 0 = fdx (maP m b) (f.fMarks.drop k) k) (fun k => f.fMarks.length - k) 0 covT_ ?_ (fun k hk => ?_)
  · exact ⟨by omega, rfl⟩
  obtain ⟨hk1, hk2⟩ := hk
  (conv => whnf)
  (repeat (refine stg_ ?_))
  (refine br_ (fun h2 => ?_) (fun h2 => ?_) <;> (repeat (refine stg_ ?_)))
  · obtain ⟨x, hx⟩ := at_lt' (xs := f.fMarks) (k := k) (by omega)
    rw [fdx_at hx] at hk2
    (repeat' (first | (refine stg_ ?_) | (refine cla_ (l00Has_v x.fMarks m) ?_) | (refine cla_ (l00Has_v x.fBases b) ?_) | (refine br_ (fun hbr => ?_) (fun hbr => ?_))))
    all_goals first | ((refine RetOK.d rfl rfl ?_; conv => whnf); rw [hk2, maP]; simp_all; done) | skip
    all_goals exact NextW.go (k + 1) covT_ ⟨by omega, by rw [hk2, maP]; simp_all⟩ (by omega)
  · (refine RetOK.d rfl rfl ?_; conv => whnf)
    rw [hk2, fdx_end (by omega)]
def mfI (f : TFeatures) (m b : Int) : Int := if ftB f = true then fdx (maP m b) f.fMarks 0 else -1
end Go.Proofs.YtcachhipflibkaaGreat
