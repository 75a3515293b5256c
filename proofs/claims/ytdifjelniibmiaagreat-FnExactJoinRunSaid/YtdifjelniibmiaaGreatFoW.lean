/- The forms of the items of a run: the reference's side; FormsOf, JoinRun, both, by the machine. -/
import Derived.Test.YtdifjelniibmiaaGreatFoV
import Derived.Test.YtdifjelniibmiaaGreatApX
import Derived.Test.YtdifjelniibmiaaGreatFtX
import Derived.Test.YtdifjelniibmiaaGreatFtY
set_option linter.unusedSimpArgs false
set_option linter.unusedVariables false
namespace Go.Proofs.YtdifjelniibmiaaGreat
open Go.RowKit
theorem ksL_len (f : TFeatures) (xs : List TItem) : (ksL f xs).length = xs.length := by rw [ksL, List.length_map, joL, List.length_map]
theorem l28Bf_v (n : Int) : PC Tryz.prog 78 [.d (.int .i64 n)] (.d (.bool (bfr n))) [] := by
  refine pc_intro ttOk (by kernel_rfl) Tryz.func78 rfl (by kernel_rfl) (by kernel_rfl) (by kernel_rfl) (fun hw => ?_)
  (conv => whnf)
  (repeat' (first | (refine stg_ ?_) | fail | (refine br_ (fun hbr => ?_) (fun hbr => ?_))))
  all_goals ((refine RetOK.d rfl rfl ?_; conv => whnf); simp_all [bfr])
theorem nearL_v (f : TFeatures) (xs : List TItem) (a : Nat) (ha : a < xs.length) (hx : xs.length ≤ 1000) : PC Tryz.prog 79 [.pX f.D, .d (.lst (xs.map TItem.D)), .d (.int .i64 a), .d (.int .i64 (-1))] (.d (.int .i64 (lastF 0 ((ksL f xs).take a)))) [] := by
  refine pc_intro ttOk (by kernel_rfl) Tryz.func79 rfl (by kernel_rfl) (by kernel_rfl) (by kernel_rfl) (fun hw => ?_)
  have hL : (xs.map TItem.D).length = xs.length := List.length_map _
  (conv => whnf)
  (repeat (refine stg_ ?_))
  refine LoopW.go (α := Nat) (fun n => [(0, .pX f.D), (1, .d (.lst (xs.map TItem.D))), (3, .d (.int .i64 (-1))), (9, .d (.int .i64 ((n : Int) - 1)))]) (fun _ => [.gone]) (fun n => n ≤ a ∧ lastF 0 ((ksL f xs).take a) = lastF 0 ((ksL f xs).take n)) (fun n => n) a (Weak.cov ⟨rfl, rfl, rfl, rfl, trivial⟩ ⟨trivial, trivial⟩ rfl) ⟨Nat.le_refl _, rfl⟩ (fun n hn => ?_)
  obtain ⟨hn1, hn2⟩ := hn
  cases n with
  | zero =>
    (conv => whnf)
    (repeat' (first | (refine stg_ ?_) | fail | (refine br_ (fun hbr => ?_) (fun hbr => ?_))))
    all_goals first | (exfalso; omega) | skip
    (refine RetOK.d rfl rfl ?_; conv => whnf)
    rw [hn2]; rfl
  | succ n =>
    obtain ⟨x, hkx⟩ := at_lt' (xs := xs) (k := n) (by omega)
    have c1 := l28Kind_v f x.fGlyph
    have hkx' : (xs.map TItem.D)[(((n + 1 : Nat) : Int) - 1).toNat]? = some x.D := by
      have : (((n + 1 : Nat) : Int) - 1).toNat = n := by omega
      rw [this, List.getElem?_map, hkx]; rfl
    rw [take_snoc_get (ksL_at (f := f) hkx), lastF_snoc] at hn2
    (conv => whnf)
    (repeat' (first | (refine stg_ ?_) | (refine cla_ (c1) ?_) | (refine IxW.at (by omega) hkx' ?_; (conv => whnf)) | (refine br_ (fun hbr => ?_) (fun hbr => ?_))))
    all_goals first | (exfalso; omega) | skip
    · (refine RetOK.d rfl rfl ?_; conv => whnf)
      rw [hn2, if_neg (by assumption)]
    · refine NextW.go n (Weak.cov ⟨rfl, rfl, rfl, (by (show V.d (.int .i64 _) = V.d (.int .i64 _)); congr 2; omega), trivial⟩ ⟨trivial, trivial⟩ rfl) ⟨by omega, by rw [hn2, if_pos (by assumption)]⟩ (by omega)
theorem nearR_v (f : TFeatures) (xs : List TItem) (a : Nat) (ha : a < xs.length) (hx : xs.length ≤ 1000) : PC Tryz.prog 79 [.pX f.D, .d (.lst (xs.map TItem.D)), .d (.int .i64 a), .d (.int .i64 1)] (.d (.int .i64 (nxtK ((ksL f xs).drop (a + 1))))) [] := by
  refine pc_intro ttOk (by kernel_rfl) Tryz.func79 rfl (by kernel_rfl) (by kernel_rfl) (by kernel_rfl) (fun hw => ?_)
  have hL : (xs.map TItem.D).length = xs.length := List.length_map _
  (conv => whnf)
  (repeat (refine stg_ ?_))
  refine LoopW.go (α := Nat) (fun n => [(0, .pX f.D), (1, .d (.lst (xs.map TItem.D))), (3, .d (.int .i64 1)), (9, .d (.int .i64 (n : Int)))]) (fun _ => [.gone]) (fun n => n ≤ xs.length ∧ nxtK ((ksL f xs).drop (a + 1)) = nxtK ((ksL f xs).drop n)) (fun n => xs.length - n) (a + 1) (Weak.cov ⟨rfl, rfl, rfl, rfl, trivial⟩ ⟨trivial, trivial⟩ rfl) ⟨by omega, rfl⟩ (fun n hn => ?_)
  obtain ⟨hn1, hn2⟩ := hn
  by_cases hlt : n < xs.length
  · obtain ⟨x, hkx⟩ := at_lt' (xs := xs) (k := n) hlt
    have c1 := l28Kind_v f x.fGlyph
    rw [drop_at (ksL_at (f := f) hkx), nxtK] at hn2
    (conv => whnf)
    (repeat' (first | (refine stg_ ?_) | (refine cla_ (c1) ?_) | (refine br_ (fun hbr => ?_) (fun hbr => ?_))))
    all_goals first | (exfalso; omega) | skip
    · (refine RetOK.d rfl rfl ?_; conv => whnf)
      rw [hn2, if_neg (by assumption)]
    · refine NextW.go (n + 1) (Weak.cov ⟨rfl, rfl, rfl, rfl, trivial⟩ ⟨trivial, trivial⟩ rfl) ⟨by omega, by rw [hn2, if_pos (by assumption)]⟩ (by omega)
  · (conv => whnf)
    (repeat' (first | (refine stg_ ?_) | fail | (refine br_ (fun hbr => ?_) (fun hbr => ?_))))
    all_goals first | (exfalso; omega) | skip
    (refine RetOK.d rfl rfl ?_; conv => whnf)
    rw [hn2, List.drop_eq_nil_of_le (by rw [ksL_len]; omega)]; rfl
theorem forms_at {f : TFeatures} {xs : List TItem} {k : Nat} {x : TItem} (hx : xs[k]? = some x) : (forms (ksL f xs))[k]? = some (formN (lastF 0 ((ksL f xs).take k)) (jnD f x.fGlyph).fKind (nxtK ((ksL f xs).drop (k + 1)))) :=
  formsG_get _ _ _ _ (ksL_at hx)
set_option maxHeartbeats 4000000 in
theorem l28Forms_v (f : TFeatures) (xs : List TItem) (hx : xs.length ≤ 1000) : PC Tryz.prog 34 [.pX f.D, .d (.lst (xs.map TItem.D))] (.own 1 0 xs.length) [.arr 1 ((forms (ksL f xs)).map (D.int .i64)) true] := by
  refine pc_intro ttOk (by kernel_rfl) Tryz.func34 rfl (by kernel_rfl) (by kernel_rfl) (by kernel_rfl) (fun hw => ?_)
  have hL : (xs.map TItem.D).length = xs.length := List.length_map _
  have hFl : (forms (ksL f xs)).length = xs.length := by rw [forms, formsG_len, ksL_len]
  (conv => whnf)
  (repeat (refine stg_ ?_))
  refine LoopW.go (α := Nat) (fun k => [(0, .pX f.D), (1, .d (.lst (xs.map TItem.D))), (5, .own 1 0 k), (6, .d (.int .i64 k))]) (fun k => [.gone, .arr 1 (((forms (ksL f xs)).take k).map (D.int .i64)) true]) (fun k => k ≤ xs.length) (fun k => xs.length - k) 0 covT_ (by omega) (fun k hk => ?_)
  have hTl : (((forms (ksL f xs)).take k).map (D.int .i64)).length = k := by rw [List.length_map, List.length_take]; omega
  by_cases hlt : k < xs.length
  · obtain ⟨x, hkx⟩ := at_lt' (xs := xs) (k := k) hlt
    have c1 := l28Kind_v f x.fGlyph
    have c2 := l28Bf_v (jnD f x.fGlyph).fKind
    have c3 := nearL_v f xs k hlt hx
    have c4 := nearR_v f xs k hlt hx
    have c5 := l28Bf_v (nxtK ((ksL f xs).drop (k + 1)))
    have hS : ((forms (ksL f xs)).take (k + 1)).map (D.int .i64) = ((forms (ksL f xs)).take k).map (D.int .i64) ++ [.int .i64 (formN (lastF 0 ((ksL f xs).take k)) (jnD f x.fGlyph).fKind (nxtK ((ksL f xs).drop (k + 1))))] := by rw [take_snoc_get (forms_at hkx), List.map_append]; rfl
    have hN : ∀ p c n, formN p c n = if (bfr c && p == 1) = true then (if (c == 1 && bfr n) = true then 2 else 3) else if (c == 1 && bfr n) = true then 1 else 0 := fun _ _ _ => rfl
    rw [hN] at hS
    generalize lastF 0 ((ksL f xs).take k) = p at *
    generalize nxtK ((ksL f xs).drop (k + 1)) = n at *
    generalize (jnD f x.fGlyph).fKind = c at *
    generalize ((forms (ksL f xs)).take k).map (D.int .i64) = T0 at *
    (conv => whnf)
    (repeat' (first | (refine stg_ ?_) | (refine cla_ (c1) ?_) | (refine cla_ (c2) ?_) | (refine cla_ (c3) ?_) | (refine cla_ (c4) ?_) | (refine cla_ (c5) ?_) | (refine br_ (fun hbr => ?_) (fun hbr => ?_))))
    all_goals first | (exfalso; omega) | (exfalso; simp_all; done) | skip
    all_goals refine NextW.go (k + 1) (Weak.cov ⟨rfl, rfl, (by (show V.own 1 0 _ = V.own 1 0 (k + 1)); first | rfl | (congr 1)), rfl, trivial⟩ ⟨trivial, (by (rw [hS, List.take_of_length_le (by omega)]; simp_all; done)), trivial⟩ rfl) (by omega) (by omega)
  · (conv => whnf)
    (repeat' (first | (refine stg_ ?_) | fail | (refine br_ (fun hbr => ?_) (fun hbr => ?_))))
    all_goals first | (exfalso; omega) | skip
    obtain rfl : k = xs.length := by omega
    rw [List.take_of_length_le (by omega)]
    (refine ⟨⟨[some 1], ⟨by decide, rfl, trivial, trivial⟩, by decide, rfl, ?_⟩⟩; (conv => whnf); exact ⟨by decide, rfl⟩)
end Go.Proofs.YtdifjelniibmiaaGreat
