/- Rules applied: the program's side, by the machine. -/
import Derived.Test.YtdifjelniibmiaaGreatApW
set_option linter.unusedSimpArgs false
set_option linter.unusedVariables false
namespace Go.Proofs.YtdifjelniibmiaaGreat
open Go.RowKit
set_option maxHeartbeats 1000000 in
theorem ixRuleppm_v (xs : List TRule) (f : Nat) (y0 : D) (y1 : D) (p : TRule → Bool) (hf : ∀ x ∈ xs, PC Tryz.prog f [.d x.D, .pX y0, .pX y1] (.d (.bool (p x))) []) :
    PC Tryz.prog 136 [.d (.lst (xs.map TRule.D)), .fn (.func f) [.pX y0, .pX y1]] (.d (.int .i64 (fdx p xs 0))) [] := by
  refine pc_intro ttOk (by kernel_rfl) Tryz.func136 rfl (by kernel_rfl) (by kernel_rfl) (by kernel_rfl) (fun hw => ?_)
  have hL : (xs.map TRule.D).length = xs.length := List.length_map _
  have hm : (xs.map TRule.D).length ≤ 9223372036854775807 := hw.1.1
  (conv => whnf)
  refine LoopW.go (α := Nat) (fun k => [(0, .d (.lst (xs.map TRule.D))), (1, .fn (.func f) [.pX y0, .pX y1]), (7, .d (.int .i64 (xs.map TRule.D).length)), (8, .d (.int .i64 k))]) (fun k => [.gone]) (fun k => k ≤ xs.length ∧ fdx p xs 0 = fdx p (xs.drop k) k) (fun k => xs.length - k) 0 covT_ ?_ (fun k hk => ?_)
  · exact ⟨by omega, rfl⟩
  obtain ⟨hk1, hk2⟩ := hk
  (conv => whnf)
  (refine br_ (fun h2 => ?_) (fun h2 => ?_) <;> (repeat (refine stg_ ?_)))
  · obtain ⟨x, hx⟩ := at_lt' (xs := xs) (k := k) (by omega)
    rw [fdx_at hx] at hk2
    (repeat (refine stg_ ?_))
    (refine cla_ (hf x (List.mem_of_getElem? hx)) ?_)
    (refine br_ (fun h3 => ?_) (fun h3 => ?_) <;> (repeat (refine stg_ ?_)))
    · (refine RetOK.d rfl rfl ?_; conv => whnf)
      rw [hk2, if_pos h3]
    · (repeat (refine stg_ ?_))
      exact NextW.go (k + 1) covT_ ⟨by omega, by rw [hk2, h3]; rfl⟩ (by omega)
  · (refine RetOK.d rfl rfl ?_; conv => whnf)
    rw [hk2, fdx_end (by omega)]
theorem ctRuleppm_v (xs : List TRule) (f : Nat) (y0 : D) (y1 : D) (p : TRule → Bool) (hf : ∀ x ∈ xs, PC Tryz.prog f [.d x.D, .pX y0, .pX y1] (.d (.bool (p x))) []) :
    PC Tryz.prog 115 [.d (.lst (xs.map TRule.D)), .fn (.func f) [.pX y0, .pX y1]] (.d (.bool (xs.any p))) [] := by
  refine pc_intro ttOk (by kernel_rfl) Tryz.func115 rfl (by kernel_rfl) (by kernel_rfl) (by kernel_rfl) (fun hw => ?_)
  (conv => whnf)
  (refine cla_ (ixRuleppm_v xs f y0 y1 p hf) ?_)
  (refine RetOK.d rfl rfl ?_; conv => whnf)
  rw [← fdx_any p xs 0]

theorem fdx_mem {α : Type} {p : α → Bool} {xs : List α} (h : 0 ≤ fdx p xs 0) : ∃ (i : Nat) (x : α), fdx p xs 0 = (i : Int) ∧ xs[i]? = some x ∧ p x = true := by
  rcases fdx_find p xs 0 with ⟨h1, h2⟩ | ⟨i, x, h1, h2, h3⟩
  · omega
  · exact ⟨i, x, by rw [h1, Nat.zero_add], h2, by simpa using List.find?_some h3⟩
theorem ruleFor1_v (r : TRule) (xs : List TItem) (a : Nat) (hr : ruB r = true) (hx : xs.length ≤ 1000) (ha : a ≤ 1000) : PC Tryz.prog 146 [.d r.D, .pX (.lst (xs.map TItem.D)), .pX (.int .i64 a)] (.d (.bool (apRu r xs a))) [] := by
  refine pc_intro ttOk (by kernel_rfl) Tryz.func146 rfl (by kernel_rfl) (by kernel_rfl) (by kernel_rfl) (fun hw => ?_)
  have c1 := applies_v r xs a hr hx ha
  (conv => whnf)
  (repeat' (first | (refine stg_ ?_) | (refine cla_ (c1) ?_) | (refine br_ (fun hbr => ?_) (fun hbr => ?_))))
  (refine RetOK.d rfl rfl ?_; conv => whnf)
theorem ruleFor_v (l : TLookup) (xs : List TItem) (a : Nat) (hl : ∀ r ∈ l.fRules, ruB r = true) (hx : xs.length ≤ 1000) (ha : a ≤ 1000) : PC Tryz.prog 131 [.d l.D, .d (.lst (xs.map TItem.D)), .d (.int .i64 a)] (.d (.int .i64 (ruI l xs a))) [] := by
  refine pc_intro ttOk (by kernel_rfl) Tryz.func131 rfl (by kernel_rfl) (by kernel_rfl) (by kernel_rfl) (fun hw => ?_)
  have c1 := ixRuleppm_v l.fRules _ (.lst (xs.map TItem.D)) (.int .i64 a) (fun r => apRu r xs a) (fun r hr => ruleFor1_v r xs a (hl r hr) hx ha)
  (conv => whnf)
  (repeat' (first | (refine stg_ ?_) | (refine cla_ (c1) ?_) | (refine br_ (fun hbr => ?_) (fun hbr => ?_))))
  (refine RetOK.d rfl rfl ?_; conv => whnf)
  rfl
set_option maxHeartbeats 4000000 in
theorem applyRule_v (r : TRule) (xs : List TItem) (a : Nat) (hr : ruB r = true) (hx : xs.length ≤ 60) (hwk : ∀ x ∈ xs, wkI x) (h1 : 1 ≤ r.fInput.length) (h2 : a + r.fInput.length ≤ xs.length) :
    PC Tryz.prog 132 [.d r.D, .d (.lst (xs.map TItem.D)), .d (.int .i64 a)] (.own 1 0 (rplL r xs a).length) [.arr 3 ((rplL r xs a).map TItem.D) true] := by
  refine pc_intro ttOk (by kernel_rfl) Tryz.func132 rfl (by kernel_rfl) (by kernel_rfl) (by kernel_rfl) (fun hw => ?_)
  have hL : (xs.map TItem.D).length = xs.length := List.length_map _
  have hI : (r.fInput.map (lstD (D.int .i64))).length = r.fInput.length := List.length_map _
  have hOl : (r.fOutput.map (D.int .i64)).length = r.fOutput.length := List.length_map _
  obtain ⟨-, -, hO4, -, -⟩ := ruB_fcs hr
  obtain ⟨y, hy⟩ := at_lt' (xs := xs) (k := a) (by omega)
  obtain ⟨z, hz⟩ := at_lt' (xs := xs) (k := a + r.fInput.length - 1) (by omega)
  have wy := hwk y (List.mem_of_getElem? hy)
  have wz := hwk z (List.mem_of_getElem? hz)
  obtain ⟨wy1, -⟩ := wy
  obtain ⟨-, wz2⟩ := wz
  have hz' : (xs.map TItem.D)[((a : Int) + ((r.fInput.map (lstD (D.int .i64))).length : Nat) - 1).toNat]? = some z.D := by
    have : ((a : Int) + ((r.fInput.map (lstD (D.int .i64))).length : Nat) - 1).toNat = a + r.fInput.length - 1 := by omega
    rw [this, List.getElem?_map, hz]; rfl
  have hR : rplL r xs a = xs.take a ++ putL true y.fFrom (z.fFrom + z.fLen) r.fOutput ++ xs.drop (a + r.fInput.length) := by rw [rplL, fromO, endO, hy, hz]
  generalize rplL r xs a = RL at hR ⊢
  (conv => whnf)
  (repeat' (first | (refine stg_ ?_) | (refine IxW.at (by omega) hz' ?_; (conv => whnf)) | (refine br_ (fun hbr => ?_) (fun hbr => ?_))))
  refine LoopW.go (α := Nat) (fun k => [(1, .d (.lst (xs.map TItem.D))), (2, .d (.int .i64 a)), (3, .pB 1 [] 0), (8, .d (.int .i64 y.fFrom)), (9, .d (.int .i64 (z.fFrom + z.fLen))), (10, .own 3 0 ((putL true y.fFrom (z.fFrom + z.fLen) (r.fOutput.take k)).map TItem.D).length), (33, .d (.lst (r.fOutput.map (D.int .i64)))), (34, .d (.int .i64 (r.fOutput.map (D.int .i64)).length)), (35, .d (.int .i64 k))]) (fun k => [.gone, .box (.d r.D), .box (.d z.D), .arr 3 ((putL true y.fFrom (z.fFrom + z.fLen) (r.fOutput.take k)).map TItem.D) true]) (fun k => k ≤ r.fOutput.length) (fun k => r.fOutput.length - k) 0 (Weak.trans (Weak.adopt (k := 10) rfl 3 true) (Weak.cov ⟨rfl, rfl, rfl, rfl, rfl, rfl, rfl, rfl, rfl, trivial⟩ ⟨trivial, rfl, rfl, rfl, trivial⟩ rfl)) (by omega) (fun k hk => ?_)
  have hP : ((putL true y.fFrom (z.fFrom + z.fLen) (r.fOutput.take k)).map TItem.D).length = k := by rw [List.length_map, putL_len, List.length_take]; omega
  (conv => whnf)
  (refine br_ (fun h3 => ?_) (fun h3 => ?_) <;> (repeat (refine stg_ ?_)))
  · obtain ⟨g, hg⟩ := at_lt' (xs := r.fOutput) (k := k) (by omega)
    have hS := putL_succ (f := y.fFrom) (e := z.fFrom + z.fLen) hg
    generalize putL true y.fFrom (z.fFrom + z.fLen) (r.fOutput.take k) = P0 at *
    have hP0 : P0.length = k := by rw [List.length_map] at hP; exact hP
    (repeat' (first | (refine stg_ ?_) | fail | (refine br_ (fun hbr => ?_) (fun hbr => ?_))))
    · obtain rfl : k = 0 := by omega
      rw [if_pos rfl] at hS
      refine NextW.go (0 + 1) (Weak.cov ⟨rfl, rfl, rfl, rfl, rfl, ?_, rfl, rfl, rfl, trivial⟩ ⟨trivial, rfl, rfl, ?_, trivial⟩ rfl) (by omega) (by omega)
      · rw [hS, List.map_append]; simp only [List.length_append]; rfl
      · rw [hS, List.map_append, List.take_length]; rfl
    · rw [if_neg (by omega)] at hS
      refine NextW.go (k + 1) (Weak.cov ⟨rfl, rfl, rfl, rfl, rfl, ?_, rfl, rfl, rfl, trivial⟩ ⟨trivial, rfl, rfl, ?_, trivial⟩ rfl) (by omega) (by omega)
      · rw [hS, List.map_append]; simp only [List.length_append]; rfl
      · rw [hS, List.map_append, List.take_length]; rfl
  · obtain rfl : k = r.fOutput.length := by omega
    rw [List.take_length] at *
    have hP2 : (putL true y.fFrom (z.fFrom + z.fLen) r.fOutput).length = r.fOutput.length := putL_len _ _ _ _
    generalize putL true y.fFrom (z.fFrom + z.fLen) r.fOutput = P0 at *
    have e4 : [xs.take a, P0, xs.drop (a + r.fInput.length)].flatten = RL := by rw [hR]; simp
    have e5 : lenS [xs.take a, P0, xs.drop (a + r.fInput.length)] = RL.length := by rw [hR]; simp [lenS, Nat.add_assoc]
    have c1 := catItem_v [xs.take a, P0, xs.drop (a + r.fInput.length)] (by simp only [lenS, List.length_take, List.length_drop]; omega)
    rw [e4, e5] at c1
    clear hR
    have hE1 : ((xs.map TItem.D).drop 0).take ((a : Int).toNat - 0) = (xs.take a).map TItem.D := by simp [List.map_take]
    have hE2 : ((xs.map TItem.D).drop ((a : Int) + ((r.fInput.map (lstD (D.int .i64))).length : Nat)).toNat).take ((xs.map TItem.D).length - ((a : Int) + ((r.fInput.map (lstD (D.int .i64))).length : Nat)).toNat) = (xs.drop (a + r.fInput.length)).map TItem.D := by
      have : ((a : Int) + ((r.fInput.map (lstD (D.int .i64))).length : Nat)).toNat = a + r.fInput.length := by omega
      rw [this, List.take_of_length_le (by simp), List.map_drop]
    (repeat' (first | (refine stg_ ?_) | fail | (refine br_ (fun hbr => ?_) (fun hbr => ?_))))
    refine cla_ c1 ?_ (hb := ⟨_, _, rfl, ⟨_, rfl, rfl, rfl, _, rfl, ⟨_, _, rfl, ⟨congrArg D.lst hE1.symm, rfl⟩, ⟨_, _, rfl, ⟨by simp, by (show _ = D.lst (List.take _ (List.drop 0 _)); rw [List.drop_zero, List.take_of_length_le (by simp)])⟩, ⟨_, _, rfl, ⟨congrArg D.lst hE2.symm, rfl⟩, rfl⟩⟩⟩⟩, rfl⟩)
    (repeat (refine stg_ ?_))
    (refine ⟨⟨[some 5], ⟨by decide, rfl, trivial, trivial⟩, by decide, rfl, ?_⟩⟩; (conv => whnf); exact ⟨by decide, rfl⟩)
theorem ruI_some {l : TLookup} {xs : List TItem} {a : Nat} (h : 0 ≤ ruI l xs a) : ∃ (i : Nat) (r : TRule), ruI l xs a = (i : Int) ∧ l.fRules[i]? = some r ∧ apRu r xs a = true := fdx_mem h
def ApRes (o : Option (List TItem × List Int)) : V → List Blk → Prop := fun v bs =>
  match o with
  | none => v = .tup [.nils, .nils, .d (.int .i64 5)] ∧ bs = []
  | some (ys, tr) => v = .tup [.own 1 0 ys.length, .own 2 0 tr.length, .d (.int .i64 0)] ∧ bs = [.arr 3 (ys.map TItem.D) true, .arr 1 (tr.map (D.int .i64)) true]
set_option maxHeartbeats 4000000 in
theorem applyLookup_v (l : TLookup) (xs : List TItem) (hl : lkB l = true) (hx : xs.length ≤ 60) (hwk : ∀ x ∈ xs, wkI x) {v : V} {bs : List Blk} (hres : ApRes (apL l xs) v bs) : PC Tryz.prog 107 [.d l.D, .d (.lst (xs.map TItem.D))] v bs := by
  refine pc_intro ttOk (by kernel_rfl) Tryz.func107 rfl (by kernel_rfl) (by kernel_rfl) (by kernel_rfl) (fun hw => ?_)
  obtain ⟨hrB, hrN⟩ := lkB_ru hl
  have hrI : ∀ r ∈ l.fRules, 1 ≤ r.fInput.length := fun r hr => (ruB_fcs (hrB r hr)).2.2.2.2
  have hL : (xs.map TItem.D).length = xs.length := List.length_map _
  have c0 := cloneItem_v xs (by omega)
  (conv => whnf)
  (repeat' (first | (refine stg_ ?_) | (refine cla_ (c0) ?_) | (refine br_ (fun hbr => ?_) (fun hbr => ?_))))
  refine LoopW.go (α := List TItem × List Int × Nat) (fun p => [(2, .pB 1 [] 0), (7, .own 2 0 p.1.length), (8, .own 3 0 p.2.1.length), (9, .d (.int .i64 (p.2.2 : Nat)))]) (fun p => [.gone, .box (.d l.D), .arr 3 (p.1.map TItem.D) true, .arr 1 (p.2.1.map (D.int .i64)) true]) (fun p => (p.1.length ≤ 60 ∧ p.2.2 ≤ p.1.length ∧ p.2.1.length + (p.1.length - p.2.2) ≤ 60) ∧ (∀ x ∈ p.1, wkI x) ∧ apL l xs = apF l (p.1.length - p.2.2 + 1) p.1 p.2.1 p.2.2) (fun p => p.1.length - p.2.2) (xs, [], 0) (Weak.trans (Weak.adopt (k := 8) rfl 1 true) (Weak.cov ⟨rfl, rfl, rfl, rfl, trivial⟩ ⟨trivial, rfl, rfl, rfl, trivial⟩ rfl)) ⟨⟨hx, Nat.zero_le _, by simp; omega⟩, hwk, rfl⟩ ?_
  rintro ⟨ys, tr, a⟩ ⟨⟨i1, i2, i3⟩, i4, i5⟩
  dsimp only at i1 i2 i3 i4 i5 ⊢
  have hYl : (ys.map TItem.D).length = ys.length := List.length_map _
  have hTl : (tr.map (D.int .i64)).length = tr.length := List.length_map _
  clear c0 hL
  (conv => whnf)
  (repeat (refine stg_ ?_))
  (refine br_ (fun h1 => ?_) (fun h1 => ?_) <;> (repeat (refine stg_ ?_)))
  · have h1' : ¬ ys.length ≤ a := by omega
    rw [apF, if_neg h1'] at i5
    have c1 := ruleFor_v l ys a hrB (by omega) (by omega)
    by_cases hq : 0 ≤ ruI l ys a
    · obtain ⟨i, r, q1, q2, q3⟩ := ruI_some hq
      rw [if_neg (by omega), q1, Int.toNat_natCast, q2] at i5
      simp only at i5
      rw [q1] at c1
      have hr := List.mem_of_getElem? q2
      have hle := apRu_le q3
      have hrl := rpl_len hle
      have hri := hrI r hr
      have hOl : (r.fOutput.map (D.int .i64)).length = r.fOutput.length := List.length_map _
      have hO4 := (ruB_fcs (hrB r hr)).2.2.1
      have c2 := applyRule_v r ys a (hrB r hr) i1 i4 hri hle
      have hwk2 := rpl_wk i4 hri hle
      generalize rplL r ys a = RL at *
      (repeat' (first | (refine stg_ ?_) | (refine cla_ (c1) ?_) | (refine cla_ (c2) ?_) | (refine br_ (fun hbr => ?_) (fun hbr => ?_))))
      all_goals first | (exfalso; omega) | skip
      · rw [if_pos (by omega)] at i5
        rw [i5] at hres
        obtain ⟨rfl, rfl⟩ := hres
        (refine ⟨⟨[], trivial, by decide, ⟨_, rfl, rfl, ⟨_, _, rfl, rfl, ⟨_, _, rfl, rfl, ⟨_, _, rfl, ⟨rfl, ?_⟩, rfl⟩⟩⟩⟩⟩⟩; (conv => whnf))
      · rw [if_neg (by omega)] at i5
        rw [← apF_more l hrI (RL.length - (a + r.fOutput.length) + 1) (ys.length - a) RL (tr ++ [(i : Int)]) (a + r.fOutput.length) (by omega) (by omega)] at i5
        refine NextW.go (RL, tr ++ [(i : Int)], a + r.fOutput.length) (Weak.trans (Weak.swap 2 4 rfl) (Weak.cov ⟨rfl, rfl, ?_, ?_, trivial⟩ ⟨trivial, rfl, rfl, ?_, trivial⟩ rfl)) ⟨⟨by show RL.length ≤ 60; omega, by show a + r.fOutput.length ≤ RL.length; omega, by show (tr ++ [(i : Int)]).length + (RL.length - (a + r.fOutput.length)) ≤ 60; rw [List.length_append]; simp only [List.length_cons, List.length_nil]; omega⟩, hwk2, i5⟩ (by show RL.length - (a + r.fOutput.length) < ys.length - a; omega)
        · show V.own 3 0 (tr.length + 1) = V.own 3 0 (tr ++ [(i : Int)]).length
          rw [List.length_append]; rfl
        · show V.d (.int .i64 ((a : Int) + ((r.fOutput.map (D.int .i64)).length : Nat))) = V.d (.int .i64 ((a + r.fOutput.length : Nat) : Int))
          rw [hOl]; rfl
        · show Blk.arr 1 ((tr.map (D.int .i64)).take tr.length ++ [D.int .i64 (i : Int)]) true = Blk.arr 1 ((tr ++ [(i : Int)]).map (D.int .i64)) true
          rw [List.take_of_length_le (by omega), List.map_append]; rfl
    · rw [if_pos (by omega)] at i5
      generalize ruI l ys a = q at *
      (repeat' (first | (refine stg_ ?_) | (refine cla_ (c1) ?_) | (refine br_ (fun hbr => ?_) (fun hbr => ?_))))
      all_goals first | (exfalso; omega) | skip
      refine NextW.go (ys, tr, a + 1) covT_ ⟨⟨i1, by show a + 1 ≤ ys.length; omega, by show tr.length + (ys.length - (a + 1)) ≤ 60; omega⟩, i4, by show _ = apF l (ys.length - (a + 1) + 1) ys tr (a + 1); rw [i5]; congr 1; omega⟩ (by show ys.length - (a + 1) < ys.length - a; omega)
  · have h1' : ys.length ≤ a := by omega
    rw [apF, if_pos h1'] at i5
    rw [i5] at hres
    obtain ⟨rfl, rfl⟩ := hres
    (repeat (refine stg_ ?_))
    (refine ⟨⟨[some 2, some 3], ⟨by decide, ?_, trivial, by decide, ?_, trivial, trivial⟩, by decide, ⟨_, rfl, rfl, ⟨_, _, rfl, ⟨by decide, ?_⟩, ⟨_, _, rfl, ⟨by decide, ?_⟩, ⟨_, _, rfl, ⟨rfl, ?_⟩, rfl⟩⟩⟩⟩⟩⟩)
    all_goals rfl
def ApR2 (l : TLookup) (xs : List TItem) : V → List Blk → Prop := fun v bs =>
  if lkB l = true ∧ vrB xs 40 = true then (match apL l xs with
    | none => v = .tup [.nils, .d (.int .i64 5)] ∧ bs = []
    | some (ys, _) => v = .tup [.own 1 0 ys.length, .d (.int .i64 0)] ∧ bs = [.arr 3 (ys.map TItem.D) true])
  else v = .tup [.nils, .d (.int .i64 1)] ∧ bs = []
theorem vr_wk {xs : List TItem} {g : Int} (h : vrB xs g = true) : xs.length ≤ 60 ∧ ∀ x ∈ xs, wkI x := by
  simp only [vrB, Bool.and_eq_true, decide_eq_true_eq] at h
  refine ⟨h.2.1, fun x hx => ?_⟩
  have := itB_bnd (rnG_bnd xs none h.2.2 x hx)
  exact ⟨by omega, by omega⟩
end Go.Proofs.YtdifjelniibmiaaGreat
