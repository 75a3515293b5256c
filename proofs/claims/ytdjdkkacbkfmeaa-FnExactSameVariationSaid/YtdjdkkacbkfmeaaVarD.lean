/- SameVariation, both, by the machine. -/
import Derived.Test.YtdjdkkacbkfmeaaSameV
set_option linter.unusedSimpArgs false
set_option linter.unusedVariables false
namespace Go.Proofs.Ytdjdkkacbkfmeaa
open Go.RowKit
def qsint64 (a b : Int) : Bool := a == b
set_option maxHeartbeats 1000000 in
theorem eqsint64_v (xs ys : List Int) : PC Try.prog 41 [.d (.lst (xs.map (D.int .i64))), .d (.lst (ys.map (D.int .i64)))] (.d (.bool (eqL qsint64 xs ys))) [] := by
  refine pc_intro ttOk (by kernel_rfl) Try.func41 rfl (by kernel_rfl) (by kernel_rfl) (by kernel_rfl) (fun hw => ?_)
  have hL : (xs.map (D.int .i64)).length = xs.length := List.length_map _
  have hL' : (ys.map (D.int .i64)).length = ys.length := List.length_map _
  have hm : (xs.map (D.int .i64)).length ≤ 9223372036854775807 := hw.1.1
  (conv => whnf)
  (refine br_ (fun h1 => ?_) (fun h1 => ?_) <;> (repeat (refine stg_ ?_)))
  · (refine RetOK.d rfl rfl ?_; conv => whnf)
    rw [eqL_len (by omega)]
  · refine LoopW.go (α := Nat) (fun k => [(0, .d (.lst (xs.map (D.int .i64)))), (1, .d (.lst (ys.map (D.int .i64)))), (12, .d (.int .i64 (xs.map (D.int .i64)).length)), (13, .d (.int .i64 k))]) (fun k => [.gone]) (fun k => k ≤ xs.length ∧ eqL qsint64 xs ys = eqL qsint64 (xs.drop k) (ys.drop k)) (fun k => xs.length - k) 0 covT_ ?_ (fun k hk => ?_)
    · exact ⟨by omega, rfl⟩
    obtain ⟨hk1, hk2⟩ := hk
    (conv => whnf)
    (refine br_ (fun h2 => ?_) (fun h2 => ?_) <;> (repeat (refine stg_ ?_)))
    · obtain ⟨x, hx⟩ := at_lt' (xs := xs) (k := k) (by omega)
      obtain ⟨y, hy⟩ := at_lt' (xs := ys) (k := k) (by omega)
      rw [eqL_at hx hy] at hk2
      (repeat (refine stg_ ?_))
      cases hq : qsint64 x y
      · refine BIf.mk (fun h3 => ?_) (fun h3 => ?_)
        · (conv => whnf)
          (repeat (refine stg_ ?_))
          (refine RetOK.d rfl rfl ?_; conv => whnf)
          rw [hk2, hq]; rfl
        · exfalso
          simp only [qsint64] at hq
          first | (simp_all; done) | (simp_all; omega) | grind
      · refine BIf.mk (fun h3 => ?_) (fun h3 => ?_)
        · exfalso
          simp only [qsint64] at hq
          first | (simp_all; done) | (simp_all; omega) | grind
        · (conv => whnf)
          (repeat (refine stg_ ?_))
          exact NextW.go (k + 1) covT_ ⟨by omega, by rw [hk2, hq]; rfl⟩ (by omega)
    · (refine RetOK.d rfl rfl ?_; conv => whnf)
      rw [hk2, eqL_end (by omega) (by omega)]
def qsPt (a b : TPt) : Bool :=  a.fX == b.fX && ( a.fY == b.fY && true)
set_option maxHeartbeats 1000000 in
theorem eqsPt_v (xs ys : List TPt) : PC Try.prog 42 [.d (.lst (xs.map TPt.D)), .d (.lst (ys.map TPt.D))] (.d (.bool (eqL qsPt xs ys))) [] := by
  refine pc_intro ttOk (by kernel_rfl) Try.func42 rfl (by kernel_rfl) (by kernel_rfl) (by kernel_rfl) (fun hw => ?_)
  have hL : (xs.map TPt.D).length = xs.length := List.length_map _
  have hL' : (ys.map TPt.D).length = ys.length := List.length_map _
  have hm : (xs.map TPt.D).length ≤ 9223372036854775807 := hw.1.1
  (conv => whnf)
  (refine br_ (fun h1 => ?_) (fun h1 => ?_) <;> (repeat (refine stg_ ?_)))
  · (refine RetOK.d rfl rfl ?_; conv => whnf)
    rw [eqL_len (by omega)]
  · refine LoopW.go (α := Nat) (fun k => [(0, .d (.lst (xs.map TPt.D))), (1, .d (.lst (ys.map TPt.D))), (12, .d (.int .i64 (xs.map TPt.D).length)), (13, .d (.int .i64 k))]) (fun k => [.gone]) (fun k => k ≤ xs.length ∧ eqL qsPt xs ys = eqL qsPt (xs.drop k) (ys.drop k)) (fun k => xs.length - k) 0 covT_ ?_ (fun k hk => ?_)
    · exact ⟨by omega, rfl⟩
    obtain ⟨hk1, hk2⟩ := hk
    (conv => whnf)
    (refine br_ (fun h2 => ?_) (fun h2 => ?_) <;> (repeat (refine stg_ ?_)))
    · obtain ⟨x, hx⟩ := at_lt' (xs := xs) (k := k) (by omega)
      obtain ⟨y, hy⟩ := at_lt' (xs := ys) (k := k) (by omega)
      rw [eqL_at hx hy] at hk2
      (repeat (refine stg_ ?_))
      cases hq : qsPt x y
      · refine BIf.mk (fun h3 => ?_) (fun h3 => ?_)
        · (conv => whnf)
          (repeat (refine stg_ ?_))
          (refine RetOK.d rfl rfl ?_; conv => whnf)
          rw [hk2, hq]; rfl
        · exfalso
          simp only [qsPt] at hq
          first | (simp_all; done) | (simp_all; omega) | grind
      · refine BIf.mk (fun h3 => ?_) (fun h3 => ?_)
        · exfalso
          simp only [qsPt] at hq
          first | (simp_all; done) | (simp_all; omega) | grind
        · (conv => whnf)
          (repeat (refine stg_ ?_))
          exact NextW.go (k + 1) covT_ ⟨by omega, by rw [hk2, hq]; rfl⟩ (by omega)
    · (refine RetOK.d rfl rfl ?_; conv => whnf)
      rw [hk2, eqL_end (by omega) (by omega)]
def qsPeak (a b : TPeak) : Bool :=  a.fStart == b.fStart && ( a.fTop == b.fTop && ( a.fEnd == b.fEnd && true))
set_option maxHeartbeats 1000000 in
theorem eqsPeak_v (xs ys : List TPeak) : PC Try.prog 46 [.d (.lst (xs.map TPeak.D)), .d (.lst (ys.map TPeak.D))] (.d (.bool (eqL qsPeak xs ys))) [] := by
  refine pc_intro ttOk (by kernel_rfl) Try.func46 rfl (by kernel_rfl) (by kernel_rfl) (by kernel_rfl) (fun hw => ?_)
  have hL : (xs.map TPeak.D).length = xs.length := List.length_map _
  have hL' : (ys.map TPeak.D).length = ys.length := List.length_map _
  have hm : (xs.map TPeak.D).length ≤ 9223372036854775807 := hw.1.1
  (conv => whnf)
  (refine br_ (fun h1 => ?_) (fun h1 => ?_) <;> (repeat (refine stg_ ?_)))
  · (refine RetOK.d rfl rfl ?_; conv => whnf)
    rw [eqL_len (by omega)]
  · refine LoopW.go (α := Nat) (fun k => [(0, .d (.lst (xs.map TPeak.D))), (1, .d (.lst (ys.map TPeak.D))), (12, .d (.int .i64 (xs.map TPeak.D).length)), (13, .d (.int .i64 k))]) (fun k => [.gone]) (fun k => k ≤ xs.length ∧ eqL qsPeak xs ys = eqL qsPeak (xs.drop k) (ys.drop k)) (fun k => xs.length - k) 0 covT_ ?_ (fun k hk => ?_)
    · exact ⟨by omega, rfl⟩
    obtain ⟨hk1, hk2⟩ := hk
    (conv => whnf)
    (refine br_ (fun h2 => ?_) (fun h2 => ?_) <;> (repeat (refine stg_ ?_)))
    · obtain ⟨x, hx⟩ := at_lt' (xs := xs) (k := k) (by omega)
      obtain ⟨y, hy⟩ := at_lt' (xs := ys) (k := k) (by omega)
      rw [eqL_at hx hy] at hk2
      (repeat (refine stg_ ?_))
      cases hq : qsPeak x y
      · refine BIf.mk (fun h3 => ?_) (fun h3 => ?_)
        · (conv => whnf)
          (repeat (refine stg_ ?_))
          (refine RetOK.d rfl rfl ?_; conv => whnf)
          rw [hk2, hq]; rfl
        · exfalso
          simp only [qsPeak] at hq
          first | (simp_all; done) | (simp_all; omega) | grind
      · refine BIf.mk (fun h3 => ?_) (fun h3 => ?_)
        · exfalso
          simp only [qsPeak] at hq
          first | (simp_all; done) | (simp_all; omega) | grind
        · (conv => whnf)
          (repeat (refine stg_ ?_))
          exact NextW.go (k + 1) covT_ ⟨by omega, by rw [hk2, hq]; rfl⟩ (by omega)
    · (refine RetOK.d rfl rfl ?_; conv => whnf)
      rw [hk2, eqL_end (by omega) (by omega)]

def gdEq (x y : TGlyphDelta) : Bool := (x.fGlyph == y.fGlyph) && (eqL qsint64 x.fKnots y.fKnots && (eqL qsPt x.fMoves y.fMoves && (x.fAdvance == y.fAdvance)))
def maEq (x y : TMaster) : Bool := eqL qsPeak x.fPeaks y.fPeaks && eqL gdEq x.fDeltas y.fDeltas
def vaEq (x y : TVariation) : Bool := eqL axEq x.fAxes y.fAxes && eqL maEq x.fMasters y.fMasters
theorem sv1_v (x y : TGlyphDelta) : PC Try.prog 40 [.d x.D, .d y.D] (.d (.bool (gdEq x y))) [] := by
  refine pc_intro ttOk (by kernel_rfl) Try.func40 rfl (by kernel_rfl) (by kernel_rfl) (by kernel_rfl) (fun hw => ?_)
  (conv => whnf)
  (repeat' (first | (refine stg_ ?_) | (refine cla_ (eqsint64_v x.fKnots y.fKnots) ?_) | (refine cla_ (eqsPt_v x.fMoves y.fMoves) ?_) | (refine br_ (fun hbr => ?_) (fun hbr => ?_))))
  all_goals ((refine RetOK.d rfl rfl ?_; conv => whnf); simp_all [gdEq])
set_option maxHeartbeats 1000000 in
theorem evGlyphDelta_v (xs ys : List TGlyphDelta) (f : Nat) (p : TGlyphDelta → TGlyphDelta → Bool) (hf : ∀ x y : TGlyphDelta, PC Try.prog f [.d x.D, .d y.D] (.d (.bool (p x y))) []) :
    PC Try.prog 47 [.d (.lst (xs.map TGlyphDelta.D)), .d (.lst (ys.map TGlyphDelta.D)), .d (.fnv (.func f))] (.d (.bool (eqL p xs ys))) [] := by
  refine pc_intro ttOk (by kernel_rfl) Try.func47 rfl (by kernel_rfl) (by kernel_rfl) (by kernel_rfl) (fun hw => ?_)
  have hL : (xs.map TGlyphDelta.D).length = xs.length := List.length_map _
  have hL' : (ys.map TGlyphDelta.D).length = ys.length := List.length_map _
  have hm : (xs.map TGlyphDelta.D).length ≤ 9223372036854775807 := hw.1.1
  (conv => whnf)
  (refine br_ (fun h1 => ?_) (fun h1 => ?_) <;> (repeat (refine stg_ ?_)))
  · (refine RetOK.d rfl rfl ?_; conv => whnf)
    rw [eqL_len (by omega)]
  · refine LoopW.go (α := Nat) (fun k => [(0, .d (.lst (xs.map TGlyphDelta.D))), (1, .d (.lst (ys.map TGlyphDelta.D))), (2, .d (.fnv (.func f))), (15, .d (.lst (xs.map TGlyphDelta.D))), (16, .d (.int .i64 (xs.map TGlyphDelta.D).length)), (17, .d (.int .i64 k))]) (fun k => [.gone]) (fun k => k ≤ xs.length ∧ eqL p xs ys = eqL p (xs.drop k) (ys.drop k)) (fun k => xs.length - k) 0 covT_ ?_ (fun k hk => ?_)
    · exact ⟨by omega, rfl⟩
    obtain ⟨hk1, hk2⟩ := hk
    (conv => whnf)
    (refine br_ (fun h2 => ?_) (fun h2 => ?_) <;> (repeat (refine stg_ ?_)))
    · obtain ⟨x, hx⟩ := at_lt' (xs := xs) (k := k) (by omega)
      obtain ⟨y, hy⟩ := at_lt' (xs := ys) (k := k) (by omega)
      rw [eqL_at hx hy] at hk2
      (repeat (refine stg_ ?_))
      (refine cla_ (hf x y) ?_)
      (refine br_ (fun h3 => ?_) (fun h3 => ?_) <;> (repeat (refine stg_ ?_)))
      · (refine RetOK.d rfl rfl ?_; conv => whnf)
        rw [hk2, h3]; rfl
      · (repeat (refine stg_ ?_))
        exact NextW.go (k + 1) covT_ ⟨by omega, by rw [hk2, h3]; rfl⟩ (by omega)
    · (refine RetOK.d rfl rfl ?_; conv => whnf)
      rw [hk2, eqL_end (by omega) (by omega)]

theorem sv2_v (x y : TMaster) : PC Try.prog 45 [.d x.D, .d y.D, .pX (.fnv (.func 40))] (.d (.bool (maEq x y))) [] := by
  refine pc_intro ttOk (by kernel_rfl) Try.func45 rfl (by kernel_rfl) (by kernel_rfl) (by kernel_rfl) (fun hw => ?_)
  (conv => whnf)
  (repeat' (first | (refine stg_ ?_) | (refine cla_ (eqsPeak_v x.fPeaks y.fPeaks) ?_) | (refine cla_ (evGlyphDelta_v x.fDeltas y.fDeltas _ gdEq sv1_v) ?_) | (refine br_ (fun hbr => ?_) (fun hbr => ?_))))
  all_goals ((refine RetOK.d rfl rfl ?_; conv => whnf); simp_all [maEq])
set_option maxHeartbeats 1000000 in
theorem efMasterp_v (xs ys : List TMaster) (f : Nat) (y0 : D) (p : TMaster → TMaster → Bool) (hf : ∀ x y : TMaster, PC Try.prog f [.d x.D, .d y.D, .pX y0] (.d (.bool (p x y))) []) :
    PC Try.prog 44 [.d (.lst (xs.map TMaster.D)), .d (.lst (ys.map TMaster.D)), .fn (.func f) [.pX y0]] (.d (.bool (eqL p xs ys))) [] := by
  refine pc_intro ttOk (by kernel_rfl) Try.func44 rfl (by kernel_rfl) (by kernel_rfl) (by kernel_rfl) (fun hw => ?_)
  have hL : (xs.map TMaster.D).length = xs.length := List.length_map _
  have hL' : (ys.map TMaster.D).length = ys.length := List.length_map _
  have hm : (xs.map TMaster.D).length ≤ 9223372036854775807 := hw.1.1
  (conv => whnf)
  (refine br_ (fun h1 => ?_) (fun h1 => ?_) <;> (repeat (refine stg_ ?_)))
  · (refine RetOK.d rfl rfl ?_; conv => whnf)
    rw [eqL_len (by omega)]
  · refine LoopW.go (α := Nat) (fun k => [(0, .d (.lst (xs.map TMaster.D))), (1, .d (.lst (ys.map TMaster.D))), (2, .fn (.func f) [.pX y0]), (15, .d (.lst (xs.map TMaster.D))), (16, .d (.int .i64 (xs.map TMaster.D).length)), (17, .d (.int .i64 k))]) (fun k => [.gone]) (fun k => k ≤ xs.length ∧ eqL p xs ys = eqL p (xs.drop k) (ys.drop k)) (fun k => xs.length - k) 0 covT_ ?_ (fun k hk => ?_)
    · exact ⟨by omega, rfl⟩
    obtain ⟨hk1, hk2⟩ := hk
    (conv => whnf)
    (refine br_ (fun h2 => ?_) (fun h2 => ?_) <;> (repeat (refine stg_ ?_)))
    · obtain ⟨x, hx⟩ := at_lt' (xs := xs) (k := k) (by omega)
      obtain ⟨y, hy⟩ := at_lt' (xs := ys) (k := k) (by omega)
      rw [eqL_at hx hy] at hk2
      (repeat (refine stg_ ?_))
      (refine cla_ (hf x y) ?_)
      (refine br_ (fun h3 => ?_) (fun h3 => ?_) <;> (repeat (refine stg_ ?_)))
      · (refine RetOK.d rfl rfl ?_; conv => whnf)
        rw [hk2, h3]; rfl
      · (repeat (refine stg_ ?_))
        exact NextW.go (k + 1) covT_ ⟨by omega, by rw [hk2, h3]; rfl⟩ (by omega)
    · (refine RetOK.d rfl rfl ?_; conv => whnf)
      rw [hk2, eqL_end (by omega) (by omega)]

theorem SameVariation_v (a b : TVariation) : PC Try.prog 11 [.d a.D, .d b.D] (.d (.bool (vaEq a b))) [] := by
  refine pc_intro ttOk (by kernel_rfl) Try.func11 rfl (by kernel_rfl) (by kernel_rfl) (by kernel_rfl) (fun hw => ?_)
  (conv => whnf)
  (repeat' (first | (refine stg_ ?_) | (refine cla_ (SameAxes_v a.fAxes b.fAxes) ?_) | (refine cla_ (efMasterp_v a.fMasters b.fMasters _ _ maEq sv2_v) ?_) | (refine br_ (fun hbr => ?_) (fun hbr => ?_))))
  all_goals ((refine RetOK.d rfl rfl ?_; conv => whnf); simp_all [vaEq])
theorem l00Same_v (xs ys : List Int) : PC Try.prog 136 [.d (.lst (xs.map (D.int .i64))), .d (.lst (ys.map (D.int .i64)))] (.d (.bool (eqL qsint64 xs ys))) [] := by
  refine pc_intro ttOk (by kernel_rfl) Try.func136 rfl (by kernel_rfl) (by kernel_rfl) (by kernel_rfl) (fun hw => ?_)
  have hL : (xs.map (D.int .i64)).length = xs.length := List.length_map _
  have hL' : (ys.map (D.int .i64)).length = ys.length := List.length_map _
  have hm : (xs.map (D.int .i64)).length ≤ 9223372036854775807 := hw.1.1
  (conv => whnf)
  (refine br_ (fun h1 => ?_) (fun h1 => ?_) <;> (repeat (refine stg_ ?_)))
  · (refine RetOK.d rfl rfl ?_; conv => whnf)
    rw [eqL_len (by omega)]
  · refine LoopW.go (α := Nat) (fun k => [(0, .d (.lst (xs.map (D.int .i64)))), (1, .d (.lst (ys.map (D.int .i64)))), (5, .d (.int .i64 k))]) (fun k => [.gone]) (fun k => k ≤ xs.length ∧ eqL qsint64 xs ys = eqL qsint64 (xs.drop k) (ys.drop k)) (fun k => xs.length - k) 0 covT_ ?_ (fun k hk => ?_)
    · exact ⟨by omega, rfl⟩
    obtain ⟨hk1, hk2⟩ := hk
    (conv => whnf)
    (refine br_ (fun h2 => ?_) (fun h2 => ?_) <;> (repeat (refine stg_ ?_)))
    · obtain ⟨x, hx⟩ := at_lt' (xs := xs) (k := k) (by omega)
      obtain ⟨y, hy⟩ := at_lt' (xs := ys) (k := k) (by omega)
      rw [eqL_at hx hy] at hk2
      (repeat (refine stg_ ?_))
      (refine br_ (fun h3 => ?_) (fun h3 => ?_) <;> (repeat (refine stg_ ?_)))
      · (refine RetOK.d rfl rfl ?_; conv => whnf)
        rw [hk2, show qsint64 x y = false by rw [qsint64]; simp; first | omega | grind]; rfl
      · (repeat (refine stg_ ?_))
        exact NextW.go (k + 1) covT_ ⟨by omega, by rw [hk2, show qsint64 x y = true by rw [qsint64]; simp; first | omega | grind]; rfl⟩ (by omega)
    · (refine RetOK.d rfl rfl ?_; conv => whnf)
      rw [hk2, eqL_end (by omega) (by omega)]
theorem l08SamePoints_v (xs ys : List TPt) : PC Try.prog 137 [.d (.lst (xs.map TPt.D)), .d (.lst (ys.map TPt.D))] (.d (.bool (eqL qsPt xs ys))) [] := by
  refine pc_intro ttOk (by kernel_rfl) Try.func137 rfl (by kernel_rfl) (by kernel_rfl) (by kernel_rfl) (fun hw => ?_)
  have hL : (xs.map TPt.D).length = xs.length := List.length_map _
  have hL' : (ys.map TPt.D).length = ys.length := List.length_map _
  have hm : (xs.map TPt.D).length ≤ 9223372036854775807 := hw.1.1
  (conv => whnf)
  (refine br_ (fun h1 => ?_) (fun h1 => ?_) <;> (repeat (refine stg_ ?_)))
  · (refine RetOK.d rfl rfl ?_; conv => whnf)
    rw [eqL_len (by omega)]
  · refine LoopW.go (α := Nat) (fun k => [(0, .d (.lst (xs.map TPt.D))), (1, .d (.lst (ys.map TPt.D))), (5, .d (.int .i64 k))]) (fun k => [.gone]) (fun k => k ≤ xs.length ∧ eqL qsPt xs ys = eqL qsPt (xs.drop k) (ys.drop k)) (fun k => xs.length - k) 0 covT_ ?_ (fun k hk => ?_)
    · exact ⟨by omega, rfl⟩
    obtain ⟨hk1, hk2⟩ := hk
    (conv => whnf)
    (refine br_ (fun h2 => ?_) (fun h2 => ?_) <;> (repeat (refine stg_ ?_)))
    · obtain ⟨x, hx⟩ := at_lt' (xs := xs) (k := k) (by omega)
      obtain ⟨y, hy⟩ := at_lt' (xs := ys) (k := k) (by omega)
      rw [eqL_at hx hy] at hk2
      (repeat (refine stg_ ?_))
      (refine br_ (fun h3 => ?_) (fun h3 => ?_) <;> (repeat (refine stg_ ?_)))
      · (refine RetOK.d rfl rfl ?_; conv => whnf)
        rw [hk2, show qsPt x y = false by rw [qsPt]; simp; first | omega | grind]; rfl
      · (repeat (refine stg_ ?_))
        exact NextW.go (k + 1) covT_ ⟨by omega, by rw [hk2, show qsPt x y = true by rw [qsPt]; simp; first | omega | grind]; rfl⟩ (by omega)
    · (refine RetOK.d rfl rfl ?_; conv => whnf)
      rw [hk2, eqL_end (by omega) (by omega)]
theorem l30SameDelta_v (x y : TGlyphDelta) : PC Try.prog 84 [.pX x.D, .pX y.D] (.d (.bool (gdEq x y))) [] := by
  refine pc_intro ttOk (by kernel_rfl) Try.func84 rfl (by kernel_rfl) (by kernel_rfl) (by kernel_rfl) (fun hw => ?_)
  (conv => whnf)
  (repeat' (first | (refine stg_ ?_) | (refine cla_ (l00Same_v x.fKnots y.fKnots) ?_) | (refine cla_ (l08SamePoints_v x.fMoves y.fMoves) ?_) | (refine RegD.auto (by kernel_rfl) ?_; conv => whnf) | (refine br_ (fun hbr => ?_) (fun hbr => ?_))))
  all_goals ((refine RetOK.d rfl rfl ?_; conv => whnf); simp_all [gdEq])
theorem l30SameMaster_v (x y : TMaster) : PC Try.prog 37 [.pX x.D, .pX y.D] (.d (.bool (maEq x y))) [] := by
  refine pc_intro ttOk (by kernel_rfl) Try.func37 rfl (by kernel_rfl) (by kernel_rfl) (by kernel_rfl) (fun hw => ?_)
  have hL : (x.fPeaks.map TPeak.D).length = x.fPeaks.length := List.length_map _
  have hL' : (y.fPeaks.map TPeak.D).length = y.fPeaks.length := List.length_map _
  have hL2 : (x.fDeltas.map TGlyphDelta.D).length = x.fDeltas.length := List.length_map _
  have hL2' : (y.fDeltas.map TGlyphDelta.D).length = y.fDeltas.length := List.length_map _
  have hm1 : (x.fPeaks.map TPeak.D).length ≤ 9223372036854775807 := hw.1.1.1
  have hm2 : (x.fDeltas.map TGlyphDelta.D).length ≤ 9223372036854775807 := hw.1.2.1.1
  (conv => whnf)
  (try (refine RegD.auto (by kernel_rfl) ?_; conv => whnf))
  (repeat' (first | (refine stg_ ?_) | fail | (refine br_ (fun hbr => ?_) (fun hbr => ?_))))
  all_goals first | ((refine RetOK.d rfl rfl ?_; conv => whnf); first | (rw [maEq, eqL_len (xs := x.fPeaks) (by omega)]; done) | (rw [maEq, eqL_len (xs := x.fPeaks) (by omega)]; rfl) | (rw [maEq, eqL_len (xs := x.fDeltas) (by omega), Bool.and_false])) | skip
  refine LoopW.go (α := Nat) (fun k => [(0, .pX x.D), (1, .pX y.D), (5, .d (.int .i64 k))]) (fun k => [.gone]) (fun k => k ≤ x.fPeaks.length ∧ eqL qsPeak x.fPeaks y.fPeaks = eqL qsPeak (x.fPeaks.drop k) (y.fPeaks.drop k)) (fun k => x.fPeaks.length - k) 0 covT_ ?_ (fun k hk => ?_)
  · exact ⟨by omega, rfl⟩
  obtain ⟨hk1, hk2⟩ := hk
  (conv => whnf)
  (refine br_ (fun h2 => ?_) (fun h2 => ?_) <;> (repeat (refine stg_ ?_)))
  · obtain ⟨p, hx⟩ := at_lt' (xs := x.fPeaks) (k := k) (by omega)
    obtain ⟨q, hy⟩ := at_lt' (xs := y.fPeaks) (k := k) (by omega)
    rw [eqL_at hx hy] at hk2
    (repeat (refine stg_ ?_))
    cases hq : qsPeak p q
    · refine BIf.mk (fun h3 => ?_) (fun h3 => ?_)
      · (conv => whnf)
        (repeat (refine stg_ ?_))
        (refine RetOK.d rfl rfl ?_; conv => whnf)
        rw [maEq, hk2, hq]; rfl
      · exfalso
        simp only [qsPeak] at hq
        first | (simp_all; done) | (simp_all; omega) | grind
    · refine BIf.mk (fun h3 => ?_) (fun h3 => ?_)
      · exfalso
        simp only [qsPeak] at hq
        first | (simp_all; done) | (simp_all; omega) | grind
      · (conv => whnf)
        (repeat (refine stg_ ?_))
        exact NextW.go (k + 1) covT_ ⟨by omega, by rw [hk2, hq]; rfl⟩ (by omega)
  · rw [eqL_end (by omega) (by omega)] at hk2
    have hE : maEq x y = eqL gdEq x.fDeltas y.fDeltas := by rw [maEq, hk2]; rfl
    refine LoopW.go (α := Nat) (fun k => [(0, .pX x.D), (1, .pX y.D), (6, .d (.int .i64 k))]) (fun k => [.gone]) (fun k => k ≤ x.fDeltas.length ∧ maEq x y = eqL gdEq (x.fDeltas.drop k) (y.fDeltas.drop k)) (fun k => x.fDeltas.length - k) 0 covT_ ?_ (fun k hk => ?_)
    · exact ⟨by omega, hE⟩
    obtain ⟨hk3, hk4⟩ := hk
    (conv => whnf)
    (refine br_ (fun h4 => ?_) (fun h4 => ?_) <;> (repeat (refine stg_ ?_)))
    · obtain ⟨p, hx⟩ := at_lt' (xs := x.fDeltas) (k := k) (by omega)
      obtain ⟨q, hy⟩ := at_lt' (xs := y.fDeltas) (k := k) (by omega)
      rw [eqL_at hx hy] at hk4
      (repeat (refine stg_ ?_))
      (refine cla_ (l30SameDelta_v p q) ?_)
      (repeat (refine stg_ ?_))
      (refine br_ (fun h5 => ?_) (fun h5 => ?_) <;> (repeat (refine stg_ ?_)))
      · (refine RetOK.d rfl rfl ?_; conv => whnf)
        rw [hk4, h5]; rfl
      · (repeat (refine stg_ ?_))
        exact NextW.go (k + 1) covT_ ⟨by omega, by rw [hk4, h5]; rfl⟩ (by omega)
    · (refine RetOK.d rfl rfl ?_; conv => whnf)
      rw [hk4, eqL_end (by omega) (by omega)]
theorem specSameVariation_v (a b : TVariation) : PC Try.prog 9 [.d a.D, .d b.D] (.d (.bool (vaEq a b))) [] := by
  refine pc_intro ttOk (by kernel_rfl) Try.func9 rfl (by kernel_rfl) (by kernel_rfl) (by kernel_rfl) (fun hw => ?_)
  have hL : (a.fMasters.map TMaster.D).length = a.fMasters.length := List.length_map _
  have hL' : (b.fMasters.map TMaster.D).length = b.fMasters.length := List.length_map _
  have hm : (a.fMasters.map TMaster.D).length ≤ 9223372036854775807 := hw.1.2.1.1
  (conv => whnf)
  (repeat' (first | (refine stg_ ?_) | (refine cla_ (specSameAxes_v a.fAxes b.fAxes) ?_) | (refine br_ (fun hbr => ?_) (fun hbr => ?_))))
  all_goals first | ((refine RetOK.d rfl rfl ?_; conv => whnf); first | (simp_all [vaEq]; done) | (rw [vaEq, eqL_len (xs := a.fMasters) (by omega), Bool.and_false])) | skip
  have hE : vaEq a b = eqL maEq a.fMasters b.fMasters := by simp_all [vaEq]
  refine LoopW.go (α := Nat) (fun k => [(2, .pB 1 [] 0), (3, .pB 2 [] 0), (5, .d (.int .i64 k))]) (fun k => [.gone, .box (.d a.D), .box (.d b.D)]) (fun k => k ≤ a.fMasters.length ∧ vaEq a b = eqL maEq (a.fMasters.drop k) (b.fMasters.drop k)) (fun k => a.fMasters.length - k) 0 covT_ ?_ (fun k hk => ?_)
  · exact ⟨by omega, hE⟩
  obtain ⟨hk1, hk2⟩ := hk
  (conv => whnf)
  (refine br_ (fun h2 => ?_) (fun h2 => ?_) <;> (repeat (refine stg_ ?_)))
  · obtain ⟨p, hx⟩ := at_lt' (xs := a.fMasters) (k := k) (by omega)
    obtain ⟨q, hy⟩ := at_lt' (xs := b.fMasters) (k := k) (by omega)
    rw [eqL_at hx hy] at hk2
    (repeat (refine stg_ ?_))
    (refine cla_ (l30SameMaster_v p q) ?_)
    (repeat (refine stg_ ?_))
    (refine br_ (fun h3 => ?_) (fun h3 => ?_) <;> (repeat (refine stg_ ?_)))
    · (refine RetOK.d rfl rfl ?_; conv => whnf)
      rw [hk2, h3]; rfl
    · (repeat (refine stg_ ?_))
      exact NextW.go (k + 1) covT_ ⟨by omega, by rw [hk2, h3]; rfl⟩ (by omega)
  · (refine RetOK.d rfl rfl ?_; conv => whnf)
    rw [hk2, eqL_end (by omega) (by omega)]
end Go.Proofs.Ytdjdkkacbkfmeaa
