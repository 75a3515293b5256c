/- Rules applied: the reference's side, by the machine. -/
import Derived.Test.YtdifjelniibmiaaGreatApX
set_option linter.unusedSimpArgs false
set_option linter.unusedVariables false
namespace Go.Proofs.YtdifjelniibmiaaGreat
open Go.RowKit
theorem l26Replace_no (r : TRule) (xs : List TItem) (a : Nat) (hr : ruB r = true) (hx : xs.length ≤ 60) (h2 : a + r.fInput.length ≤ xs.length) (h3 : 60 < (rplL r xs a).length) :
    PC Tryz.prog 130 [.pX r.D, .d (.lst (xs.map TItem.D)), .d (.int .i64 a)] (.tup [.nils, .d (.int .i64 5)]) [] := by
  refine pc_intro ttOk (by kernel_rfl) Tryz.func130 rfl (by kernel_rfl) (by kernel_rfl) (by kernel_rfl) (fun hw => ?_)
  have hL : (xs.map TItem.D).length = xs.length := List.length_map _
  have hI : (r.fInput.map (lstD (D.int .i64))).length = r.fInput.length := List.length_map _
  have hOl : (r.fOutput.map (D.int .i64)).length = r.fOutput.length := List.length_map _
  have hO4 := (ruB_fcs hr).2.2.1
  have hrl := rpl_len h2
  (conv => whnf)
  (repeat' (first | (refine stg_ ?_) | fail | (refine br_ (fun hbr => ?_) (fun hbr => ?_))))
  all_goals first | (exfalso; omega) | (refine ⟨⟨[], trivial, by decide, ⟨_, rfl, rfl, ⟨_, _, rfl, rfl, ⟨_, _, rfl, ⟨rfl, ?_⟩, rfl⟩⟩⟩⟩⟩; (conv => whnf))
  all_goals rfl
set_option maxHeartbeats 4000000 in
theorem l26Replace_v (r : TRule) (xs : List TItem) (a : Nat) (hr : ruB r = true) (hx : xs.length ≤ 60) (hwk : ∀ x ∈ xs, wkI x) (h1 : 1 ≤ r.fInput.length) (h2 : a + r.fInput.length ≤ xs.length) (h3 : (rplL r xs a).length ≤ 60) :
    PC Tryz.prog 130 [.pX r.D, .d (.lst (xs.map TItem.D)), .d (.int .i64 a)] (.tup [.own 1 0 (rplL r xs a).length, .d (.int .i64 0)]) [.arr 3 ((rplL r xs a).map TItem.D) true] := by
  refine pc_intro ttOk (by kernel_rfl) Tryz.func130 rfl (by kernel_rfl) (by kernel_rfl) (by kernel_rfl) (fun hw => ?_)
  have hL : (xs.map TItem.D).length = xs.length := List.length_map _
  have hI : (r.fInput.map (lstD (D.int .i64))).length = r.fInput.length := List.length_map _
  have hOl : (r.fOutput.map (D.int .i64)).length = r.fOutput.length := List.length_map _
  have hO4 := (ruB_fcs hr).2.2.1
  have hrl := rpl_len h2
  obtain ⟨y, hy⟩ := at_lt' (xs := xs) (k := a) (by omega)
  obtain ⟨z, hz⟩ := at_lt' (xs := xs) (k := a + r.fInput.length - 1) (by omega)
  have wy := hwk y (List.mem_of_getElem? hy)
  have wz := hwk z (List.mem_of_getElem? hz)
  obtain ⟨wy1, -⟩ := wy
  obtain ⟨-, wz2⟩ := wz
  have hz' : (xs.map TItem.D)[((a : Int) + ((r.fInput.map (lstD (D.int .i64))).length : Nat) - 1).toNat]? = some z.D := by
    have : ((a : Int) + ((r.fInput.map (lstD (D.int .i64))).length : Nat) - 1).toNat = a + r.fInput.length - 1 := by omega
    rw [this, List.getElem?_map, hz]; rfl
  have hE1 : ((xs.map TItem.D).drop 0).take ((a : Int).toNat - 0) = (xs.take a).map TItem.D := by simp [List.map_take]
  have hE2 : ((xs.map TItem.D).drop ((a : Int) + ((r.fInput.map (lstD (D.int .i64))).length : Nat)).toNat).take ((xs.map TItem.D).length - ((a : Int) + ((r.fInput.map (lstD (D.int .i64))).length : Nat)).toNat) = (xs.drop (a + r.fInput.length)).map TItem.D := by
    have : ((a : Int) + ((r.fInput.map (lstD (D.int .i64))).length : Nat)).toNat = a + r.fInput.length := by omega
    rw [this, List.take_of_length_le (by simp), List.map_drop]
  have hR : rplL r xs a = xs.take a ++ putL true y.fFrom (z.fFrom + z.fLen) r.fOutput ++ xs.drop (a + r.fInput.length) := by rw [rplL, fromO, endO, hy, hz]
  generalize rplL r xs a = RL at *
  have hTa : (xs.take a).length = a := by rw [List.length_take]; omega
  (conv => whnf)
  (repeat' (first | (refine stg_ ?_) | (refine IxW.at (by omega) hz' ?_; (conv => whnf)) | (refine br_ (fun hbr => ?_) (fun hbr => ?_))))
  all_goals first | (exfalso; omega) | skip
  rw [hE1]
  (repeat (refine stg_ ?_))
  refine LoopW.go (α := Nat) (fun k => [(0, .pX r.D), (1, .d (.lst (xs.map TItem.D))), (2, .d (.int .i64 a)), (9, .d (.int .i64 (z.fFrom + z.fLen))), (10, .own 2 0 ((xs.take a ++ putL true y.fFrom (z.fFrom + z.fLen) (r.fOutput.take k)).map TItem.D).length), (11, .d (.int .i64 k))]) (fun k => [.gone, .gone, .arr 3 ((xs.take a ++ putL true y.fFrom (z.fFrom + z.fLen) (r.fOutput.take k)).map TItem.D) true]) (fun k => k ≤ r.fOutput.length) (fun k => r.fOutput.length - k) 0 (Weak.cov ⟨rfl, rfl, rfl, rfl, ?_, rfl, trivial⟩ ⟨trivial, trivial, ?_, trivial⟩ rfl) (by omega) (fun k hk => ?_)
  · show V.own 2 0 (0 + ((xs.take a).map TItem.D).length) = V.own 2 0 ((xs.take a ++ []).map TItem.D).length
    simp
  · show Blk.arr 3 ([] ++ (xs.take a).map TItem.D) true = Blk.arr 3 ((xs.take a ++ []).map TItem.D) true
    simp
  have hP : ((xs.take a ++ putL true y.fFrom (z.fFrom + z.fLen) (r.fOutput.take k)).map TItem.D).length = a + k := by rw [List.length_map, List.length_append, putL_len, hTa, List.length_take]; omega
  (conv => whnf)
  (repeat (refine stg_ ?_))
  (refine br_ (fun h4 => ?_) (fun h4 => ?_) <;> (repeat (refine stg_ ?_)))
  · obtain ⟨g, hg⟩ := at_lt' (xs := r.fOutput) (k := k) (by omega)
    have hS : xs.take a ++ putL true y.fFrom (z.fFrom + z.fLen) (r.fOutput.take (k + 1)) = xs.take a ++ putL true y.fFrom (z.fFrom + z.fLen) (r.fOutput.take k) ++ [if k = 0 then ⟨g, y.fFrom, z.fFrom + z.fLen - y.fFrom⟩ else ⟨g, z.fFrom + z.fLen, 0⟩] := by rw [putL_succ hg, List.append_assoc]
    generalize xs.take a ++ putL true y.fFrom (z.fFrom + z.fLen) (r.fOutput.take k) = P0 at *
    have hP0 : P0.length = a + k := by rw [List.length_map] at hP; exact hP
    (repeat' (first | (refine stg_ ?_) | fail | (refine br_ (fun hbr => ?_) (fun hbr => ?_))))
    · obtain rfl : k = 0 := by omega
      rw [if_pos rfl] at hS
      refine NextW.go (0 + 1) (Weak.cov ⟨rfl, rfl, rfl, rfl, ?_, rfl, trivial⟩ ⟨trivial, trivial, ?_, trivial⟩ rfl) (by omega) (by omega)
      · rw [hS, List.map_append]; simp only [List.length_append]; rfl
      · rw [hS, List.map_append, List.take_length]; rfl
    · rw [if_neg (by omega)] at hS
      refine NextW.go (k + 1) (Weak.cov ⟨rfl, rfl, rfl, rfl, ?_, rfl, trivial⟩ ⟨trivial, trivial, ?_, trivial⟩ rfl) (by omega) (by omega)
      · rw [hS, List.map_append]; simp only [List.length_append]; rfl
      · rw [hS, List.map_append, List.take_length]; rfl
  · obtain rfl : k = r.fOutput.length := by omega
    rw [List.take_length] at *
    have hRm : RL.map TItem.D = (xs.take a ++ putL true y.fFrom (z.fFrom + z.fLen) r.fOutput).map TItem.D ++ (xs.drop (a + r.fInput.length)).map TItem.D := by rw [hR, List.map_append]
    have hRl : RL.length = ((xs.take a ++ putL true y.fFrom (z.fFrom + z.fLen) r.fOutput).map TItem.D).length + ((xs.drop (a + r.fInput.length)).map TItem.D).length := by rw [← List.length_append, ← hRm, List.length_map]
    generalize xs.take a ++ putL true y.fFrom (z.fFrom + z.fLen) r.fOutput = P0 at *
    have hP0 : P0.length = a + r.fOutput.length := by rw [List.length_map] at hP; exact hP
    have hD : (xs.drop (a + r.fInput.length)).length ≤ 60 := by rw [List.length_drop]; omega
    (repeat' (first | (refine stg_ ?_) | fail | (refine br_ (fun hbr => ?_) (fun hbr => ?_))))
    rw [hE2]
    (repeat (refine stg_ ?_))
    (refine ⟨⟨[some 2], ⟨by decide, ?_, trivial, trivial⟩, by decide, ⟨_, rfl, rfl, ⟨_, _, rfl, ⟨by decide, ?_⟩, ⟨_, _, rfl, ⟨rfl, ?_⟩, rfl⟩⟩⟩⟩⟩)
    · rw [hRm, List.take_length]; rfl
    · rw [hRl]; rfl
    · rfl
set_option maxHeartbeats 4000000 in
theorem l26Apply_v (l : TLookup) (xs : List TItem) (hl : lkB l = true) (hx : xs.length ≤ 60) (hwk : ∀ x ∈ xs, wkI x) {v : V} {bs : List Blk} (hres : ApRes (apL l xs) v bs) : PC Tryz.prog 106 [.pX l.D, .d (.lst (xs.map TItem.D))] v bs := by
  refine pc_intro ttOk (by kernel_rfl) Tryz.func106 rfl (by kernel_rfl) (by kernel_rfl) (by kernel_rfl) (fun hw => ?_)
  obtain ⟨hrB, hrN⟩ := lkB_ru hl
  have hrI : ∀ r ∈ l.fRules, 1 ≤ r.fInput.length := fun r hr => (ruB_fcs (hrB r hr)).2.2.2.2
  have hL : (xs.map TItem.D).length = xs.length := List.length_map _
  (conv => whnf)
  (repeat' (first | (refine stg_ ?_) | fail | (refine br_ (fun hbr => ?_) (fun hbr => ?_))))
  refine LoopW.go (α := List TItem × List Int × Nat) (fun p => [(0, .pX l.D), (7, .own 1 0 p.1.length), (8, .own 2 0 p.2.1.length), (9, .d (.int .i64 (p.2.2 : Nat)))]) (fun p => [.gone, .arr 3 (p.1.map TItem.D) true, .arr 1 (p.2.1.map (D.int .i64)) true]) (fun p => (p.1.length ≤ 60 ∧ p.2.2 ≤ p.1.length ∧ p.2.1.length + (p.1.length - p.2.2) ≤ 60) ∧ (∀ x ∈ p.1, wkI x) ∧ apL l xs = apF l (p.1.length - p.2.2 + 1) p.1 p.2.1 p.2.2) (fun p => p.1.length - p.2.2) (xs, [], 0) (Weak.cov ⟨rfl, by (show V.own 1 0 (0 + (xs.map TItem.D).length) = V.own 1 0 xs.length; rw [Nat.zero_add, hL]), rfl, rfl, trivial⟩ ⟨trivial, rfl, rfl, trivial⟩ rfl) ⟨⟨hx, Nat.zero_le _, by simp; omega⟩, hwk, rfl⟩ ?_
  rintro ⟨ys, tr, a⟩ ⟨⟨i1, i2, i3⟩, i4, i5⟩
  dsimp only at i1 i2 i3 i4 i5 ⊢
  have hYl : (ys.map TItem.D).length = ys.length := List.length_map _
  have hTl : (tr.map (D.int .i64)).length = tr.length := List.length_map _
  clear hL
  (conv => whnf)
  (repeat (refine stg_ ?_))
  (refine br_ (fun h1 => ?_) (fun h1 => ?_) <;> (repeat (refine stg_ ?_)))
  · have h1' : ¬ ys.length ≤ a := by omega
    rw [apF, if_neg h1'] at i5
    have c1 := l26For_v l ys a hrB (by omega)
    by_cases hq : 0 ≤ ruI l ys a
    · obtain ⟨i, r, q1, q2, q3⟩ := ruI_some hq
      rw [if_neg (by omega), q1, Int.toNat_natCast, q2] at i5
      simp only at i5
      rw [q1] at c1
      have hr := List.mem_of_getElem? q2
      have hle := apRu_le q3
      have hrl := rpl_len hle
      have hri := hrI r hr
      have hOl : (r.fOutput.map (D.int .i64)).length = r.fOutput.length := List.length_map _
      have hO4 := (ruB_fcs (hrB r hr)).2.2.1
      have hwk2 := rpl_wk i4 hri hle
      by_cases h60 : 60 < (rplL r ys a).length
      · have c2 := l26Replace_no r ys a (hrB r hr) i1 hle h60
        (repeat' (first | (refine stg_ ?_) | (refine cla_ (c1) ?_) | (refine cla_ (c2) ?_) | (refine br_ (fun hbr => ?_) (fun hbr => ?_))))
        all_goals first | (exfalso; omega) | (exfalso; simp_all; done) | skip
        rw [if_pos h60] at i5
        rw [i5] at hres
        obtain ⟨rfl, rfl⟩ := hres
        (refine ⟨⟨[], trivial, by decide, ⟨_, rfl, rfl, ⟨_, _, rfl, rfl, ⟨_, _, rfl, rfl, ⟨_, _, rfl, ⟨rfl, ?_⟩, rfl⟩⟩⟩⟩⟩⟩; (conv => whnf))
        all_goals rfl
      · have c2 := l26Replace_v r ys a (hrB r hr) i1 i4 hri hle (by omega)
        generalize rplL r ys a = RL at *
        (repeat' (first | (refine stg_ ?_) | (refine cla_ (c1) ?_) | (refine cla_ (c2) ?_) | (refine br_ (fun hbr => ?_) (fun hbr => ?_))))
        all_goals first | (exfalso; omega) | (exfalso; simp_all; done) | skip
        rw [if_neg h60] at i5
        rw [← apF_more l hrI (RL.length - (a + r.fOutput.length) + 1) (ys.length - a) RL (tr ++ [(i : Int)]) (a + r.fOutput.length) (by omega) (by omega)] at i5
        refine NextW.go (RL, tr ++ [(i : Int)], a + r.fOutput.length) (Weak.trans (Weak.swap 1 3 rfl) (Weak.cov ⟨rfl, rfl, ?_, ?_, trivial⟩ ⟨trivial, rfl, ?_, trivial⟩ rfl)) ⟨⟨by show RL.length ≤ 60; omega, by show a + r.fOutput.length ≤ RL.length; omega, by show (tr ++ [(i : Int)]).length + (RL.length - (a + r.fOutput.length)) ≤ 60; rw [List.length_append]; simp only [List.length_cons, List.length_nil]; omega⟩, hwk2, i5⟩ (by show RL.length - (a + r.fOutput.length) < ys.length - a; omega)
        · show V.own 2 0 (tr.length + 1) = V.own 2 0 (tr ++ [(i : Int)]).length
          rw [List.length_append]; rfl
        · show V.d (.int .i64 ((a : Int) + ((r.fOutput.map (D.int .i64)).length : Nat))) = V.d (.int .i64 ((a + r.fOutput.length : Nat) : Int))
          rw [hOl]; rfl
        · show Blk.arr 1 ((tr.map (D.int .i64)).take tr.length ++ [D.int .i64 (i : Int)]) true = Blk.arr 1 ((tr ++ [(i : Int)]).map (D.int .i64)) true
          rw [List.take_of_length_le (by omega), List.map_append]; rfl
    · rw [if_pos (by omega)] at i5
      generalize ruI l ys a = q at *
      (repeat' (first | (refine stg_ ?_) | (refine cla_ (c1) ?_) | (refine br_ (fun hbr => ?_) (fun hbr => ?_))))
      all_goals first | (exfalso; omega) | skip
      refine NextW.go (ys, tr, a + 1) covT_ ⟨⟨i1, by show a + 1 ≤ ys.length; omega, by show tr.length + (ys.length - (a + 1)) ≤ 60; omega⟩, i4, by show _ = apF l (ys.length - (a + 1) + 1) ys tr (a + 1); rw [i5]; congr 1; omega⟩ (by show ys.length - (a + 1) < ys.length - a; omega)
  · have h1' : ys.length ≤ a := by omega
    rw [apF, if_pos h1'] at i5
    rw [i5] at hres
    obtain ⟨rfl, rfl⟩ := hres
    (repeat (refine stg_ ?_))
    (refine ⟨⟨[some 1, some 2], ⟨by decide, ?_, trivial, by decide, ?_, trivial, trivial⟩, by decide, ⟨_, rfl, rfl, ⟨_, _, rfl, ⟨by decide, ?_⟩, ⟨_, _, rfl, ⟨by decide, ?_⟩, ⟨_, _, rfl, ⟨rfl, ?_⟩, rfl⟩⟩⟩⟩⟩⟩)
    all_goals rfl
end Go.Proofs.YtdifjelniibmiaaGreat
