/- InferMoves (spec), by the machine. -/
import Derived.Test.YtdjdkkacbkfmeaaInfY
set_option linter.unusedSimpArgs false
set_option linter.unusedVariables false
namespace Go.Proofs.Ytdjdkkacbkfmeaa
open Go.RowKit
theorem riG_snoc : ∀ (o : Option Int) (xs : List Int) (z y : Int), riG o (xs ++ [z] ++ [y]) = (riG o (xs ++ [z]) && decide (z < y))
  | o, [], z, y => by simp [riG, ltI]
  | o, x :: xs, z, y => by
    have := riG_snoc (some x) xs z y
    simp only [List.cons_append, riG, this, Bool.and_assoc]
theorem riG_take {ns : List Int} {k : Nat} {z y : Int} (hk : 1 ≤ k) (hz : ns[k - 1]? = some z) (hy : ns[k]? = some y) : riG none (ns.take (k + 1)) = (riG none (ns.take k) && decide (z < y)) := by
  have h1 : ns.take k = ns.take (k - 1) ++ [z] := by
    have := take_snoc_get hz
    rwa [show k - 1 + 1 = k by omega] at this
  rw [take_snoc_get hy, h1, riG_snoc]
theorem riG_take1 (ns : List Int) : riG none (ns.take 1) = true := by cases ns <;> simp [riG, ltI]
set_option maxHeartbeats 4000000 in
theorem specInferMoves_v (o : TOutline) (ns : List Int) (ms : List TPt) (hn : ns.length ≤ 1048576) (v : V) (bs : List Blk) (h0 : imC o ns ms = 0 → v = .tup [.own 1 0 (cnK o.fLoops), .d (.int .i64 0)] ∧ bs = [.arr 2 ((inL ns ms 0 o.fLoops).map TPt.D) true])
    (h1 : ¬ imC o ns ms = 0 → v = .tup [.nils, .d (.int .i64 (imC o ns ms))] ∧ bs = []) : PC Try.prog 21 [.d o.D, .d (.lst (ns.map (D.int .i64))), .d (.lst (ms.map TPt.D))] v bs := by
  refine pc_intro ttOk (by kernel_rfl) Try.func21 rfl (by kernel_rfl) (by kernel_rfl) (by kernel_rfl) (fun hw => ?_)
  have hLn : (ns.map (D.int .i64)).length = ns.length := List.length_map _
  have hLm : (ms.map TPt.D).length = ms.length := List.length_map _
  have c1 := l10Ok_v o
  have c3 := l13Points_v ms
  have hC : imC o ns ms = if imA o ns ms = true then (if imR o ns = true then 0 else 2) else 1 := rfl
  have hA : imA o ns ms = (outB o && (riG none ns && (decide (ms.length = ns.length) && ms.all pntB))) := rfl
  obtain ⟨A, hAA⟩ : ∃ A, A = (decide (ms.length = ns.length) && ms.all pntB) := ⟨_, rfl⟩
  rw [← hAA] at hA
  by_cases hq : ms.length = ns.length
  · have hAe : A = ms.all pntB := by rw [hAA, decide_eq_true hq, Bool.true_and]
    (conv => whnf)
    (repeat' (first | (refine stg_ ?_) | (refine cla_ (c3) ?_) | (refine br_ (fun hbr => ?_) (fun hbr => ?_))))
    rotate_left
    · exfalso; omega
    refine LoopW.go (α := Nat) (fun k => [(1, .d (.lst (ns.map (D.int .i64)))), (2, .d (.lst (ms.map TPt.D))), (3, .pB 1 [] 0), (8, .d (.bool (A && riG none (ns.take k)))), (9, .d (.int .i64 (k : Nat)))]) (fun _ => [.gone, .box (.d o.D)]) (fun k => 1 ≤ k ∧ k ≤ ns.length + 1) (fun k => ns.length - k) 1 (Weak.cov ⟨rfl, rfl, rfl, ?_, rfl, trivial⟩ ⟨trivial, rfl, trivial⟩ rfl) ⟨by omega, by omega⟩ (fun k hk => ?_)
    · rw [hAe, riG_take1, Bool.and_true]; rfl
    obtain ⟨hk1, hk2⟩ := hk
    (conv => whnf)
    (refine br_ (fun h3 => ?_) (fun h3 => ?_))
    · have hlt : k < ns.length := by omega
      obtain ⟨z, hz⟩ := at_lt' (xs := ns) (k := k - 1) (by omega)
      obtain ⟨y, hy⟩ := at_lt' (xs := ns) (k := k) hlt
      have hz' : (ns.map (D.int .i64))[((k : Int) - 1).toNat]? = some (.int .i64 z) := by
        have : ((k : Int) - 1).toNat = k - 1 := by omega
        rw [this, List.getElem?_map, hz]; rfl
      have hy' : (ns.map (D.int .i64))[k]? = some (.int .i64 y) := by rw [List.getElem?_map, hy]; rfl
      have hR := riG_take hk1 hz hy
      have hR' : (A && riG none (ns.take (k + 1))) = ((A && riG none (ns.take k)) && decide (z < y)) := by rw [hR, Bool.and_assoc]
      have hlt' : (k : Int) < ((ns.map (D.int .i64)).length : Int) := by omega
      (repeat' (first | (refine stg_ ?_) | (refine IxW.at (by omega) hz' ?_; (conv => whnf)) | (refine br_ (fun hbr => ?_) (fun hbr => ?_))))
      all_goals (refine NextW.go (k + 1) (Weak.cov ⟨rfl, rfl, rfl, ?_, rfl, trivial⟩ ⟨trivial, rfl, trivial⟩ rfl) ⟨by omega, by omega⟩ (by omega))
      · rw [hR', show (A && riG none (ns.take k)) = true by (rw [Bool.and_eq_true]; exact hbr), Bool.true_and]; rfl
      · rw [hR', show (A && riG none (ns.take k)) = false by (rw [Bool.and_eq_false_iff]; exact hbr), Bool.false_and]; rfl
    · have hge : ns.length ≤ k := by omega
      rw [List.take_of_length_le hge]
      have hA2 : imA o ns ms = (outB o && (A && riG none ns)) := by rw [hA, Bool.and_comm A]
      cases hv : (A && riG none ns)
      · rw [hv, Bool.and_false] at hA2
        rw [hA2, if_neg (by decide)] at hC
        obtain ⟨rfl, rfl⟩ := h1 (by omega)
        rw [hC]
        (conv => whnf)
        (repeat' (first | (refine stg_ ?_) | (refine cla_ (c1) ?_) | (refine br_ (fun hbr => ?_) (fun hbr => ?_))))
        all_goals first | (exfalso; omega) | ((refine ⟨⟨[], trivial, by decide, ⟨_, rfl, rfl, ⟨_, _, rfl, rfl, ⟨_, _, rfl, ⟨rfl, ?_⟩, rfl⟩⟩⟩⟩⟩; (conv => whnf)); all_goals rfl)
      rw [hv, Bool.and_true] at hA2
      cases ho : outB o
      · rw [ho] at c1 hA2
        rw [hA2, if_neg (by decide)] at hC
        obtain ⟨rfl, rfl⟩ := h1 (by omega)
        rw [hC]
        (conv => whnf)
        (repeat' (first | (refine stg_ ?_) | (refine cla_ (c1) ?_) | (refine br_ (fun hbr => ?_) (fun hbr => ?_))))
        all_goals first | (exfalso; omega) | ((refine ⟨⟨[], trivial, by decide, ⟨_, rfl, rfl, ⟨_, _, rfl, rfl, ⟨_, _, rfl, ⟨rfl, ?_⟩, rfl⟩⟩⟩⟩⟩; (conv => whnf)); all_goals rfl)
      rw [ho] at c1 hA2
      rw [hA2, if_pos rfl] at hC
      have hri : riG none ns = true := by
        rw [Bool.and_eq_true] at hv
        exact hv.2
      have cK := l30Count_v o ho
      have cL := l30Last_v ns ((cnK o.fLoops : Nat) : Int)
      rcases Nat.eq_zero_or_pos ns.length with hz | hz
      · have hR : imR o ns = true := by rw [List.eq_nil_of_length_eq_zero hz]; rfl
        rw [hR, if_pos rfl] at hC
        rw [List.getElem?_eq_none (by omega)] at cL
        have cI := l30Infer_v o ns ms (imC_in hn hC)
        obtain ⟨rfl, rfl⟩ := h0 hC
        (conv => whnf)
        (repeat' (first | (refine stg_ ?_) | (refine cla_ (c1) ?_) | (refine cla_ (cK) ?_) | (refine cla_ (cL) ?_) | (refine cla_ (cI) ?_) | (refine br_ (fun hbr => ?_) (fun hbr => ?_))))
        all_goals first | (exfalso; omega) | ((refine ⟨⟨[some 2], ⟨by decide, ?_, trivial, trivial⟩, by decide, ⟨_, rfl, rfl, ⟨_, _, rfl, ⟨by decide, ?_⟩, ⟨_, _, rfl, ⟨rfl, ?_⟩, rfl⟩⟩⟩⟩⟩); all_goals rfl)
      · obtain ⟨a, ha⟩ := at_lt' (xs := ns) (k := 0) hz
        obtain ⟨z, hz'⟩ := at_lt' (xs := ns) (k := ns.length - 1) (by omega)
        have hRe := imR_eq (o := o) hri ha hz'
        rw [hz'] at cL
        have ha2 : (ns.map (D.int .i64))[0]? = some (.int .i64 a) := by rw [List.getElem?_map, ha]; rfl
        by_cases hg : 0 ≤ a ∧ z < (cnK o.fLoops : Nat)
        · rw [decide_eq_true hg.1, decide_eq_true hg.2] at hRe
          rw [hRe, if_pos (by rfl)] at hC
          dsimp only at cL
          rw [decide_eq_true hg.2] at cL
          have cI := l30Infer_v o ns ms (imC_in hn hC)
          obtain ⟨rfl, rfl⟩ := h0 hC
          (conv => whnf)
          (repeat' (first | (refine stg_ ?_) | (refine cla_ (c1) ?_) | (refine cla_ (cK) ?_) | (refine cla_ (cL) ?_) | (refine cla_ (cI) ?_) | (refine br_ (fun hbr => ?_) (fun hbr => ?_))))
          all_goals first | (exfalso; omega) | ((refine ⟨⟨[some 2], ⟨by decide, ?_, trivial, trivial⟩, by decide, ⟨_, rfl, rfl, ⟨_, _, rfl, ⟨by decide, ?_⟩, ⟨_, _, rfl, ⟨rfl, ?_⟩, rfl⟩⟩⟩⟩⟩); all_goals rfl)
        · have hR : imR o ns = false := by
            rw [hRe, Bool.and_eq_false_iff, decide_eq_false_iff_not, decide_eq_false_iff_not]; omega
          rw [hR, if_neg (by decide)] at hC
          obtain ⟨rfl, rfl⟩ := h1 (by omega)
          rw [hC]
          dsimp only at cL
          by_cases hzc : z < (cnK o.fLoops : Nat)
          · rw [decide_eq_true hzc] at cL
            (conv => whnf)
            (repeat' (first | (refine stg_ ?_) | (refine cla_ (c1) ?_) | (refine cla_ (cK) ?_) | (refine cla_ (cL) ?_) | (refine br_ (fun hbr => ?_) (fun hbr => ?_))))
            all_goals first | (exfalso; omega) | ((refine ⟨⟨[], trivial, by decide, ⟨_, rfl, rfl, ⟨_, _, rfl, rfl, ⟨_, _, rfl, ⟨rfl, ?_⟩, rfl⟩⟩⟩⟩⟩; (conv => whnf)); all_goals rfl)
          · rw [decide_eq_false hzc] at cL
            (conv => whnf)
            (repeat' (first | (refine stg_ ?_) | (refine cla_ (c1) ?_) | (refine cla_ (cK) ?_) | (refine cla_ (cL) ?_) | (refine br_ (fun hbr => ?_) (fun hbr => ?_))))
            all_goals first | (exfalso; omega) | ((refine ⟨⟨[], trivial, by decide, ⟨_, rfl, rfl, ⟨_, _, rfl, rfl, ⟨_, _, rfl, ⟨rfl, ?_⟩, rfl⟩⟩⟩⟩⟩; (conv => whnf)); all_goals rfl)
  · have hAe : A = false := by rw [hAA, decide_eq_false hq, Bool.false_and]
    (conv => whnf)
    (repeat' (first | (refine stg_ ?_) | (refine cla_ (c3) ?_) | (refine br_ (fun hbr => ?_) (fun hbr => ?_))))
    · exfalso; omega
    refine LoopW.go (α := Nat) (fun k => [(1, .d (.lst (ns.map (D.int .i64)))), (2, .d (.lst (ms.map TPt.D))), (3, .pB 1 [] 0), (8, .d (.bool (A && riG none (ns.take k)))), (9, .d (.int .i64 (k : Nat)))]) (fun _ => [.gone, .box (.d o.D)]) (fun k => 1 ≤ k ∧ k ≤ ns.length + 1) (fun k => ns.length - k) 1 (Weak.cov ⟨rfl, rfl, rfl, ?_, rfl, trivial⟩ ⟨trivial, rfl, trivial⟩ rfl) ⟨by omega, by omega⟩ (fun k hk => ?_)
    · rw [hAe, riG_take1, Bool.and_true]; rfl
    obtain ⟨hk1, hk2⟩ := hk
    (conv => whnf)
    (refine br_ (fun h3 => ?_) (fun h3 => ?_))
    · have hlt : k < ns.length := by omega
      obtain ⟨z, hz⟩ := at_lt' (xs := ns) (k := k - 1) (by omega)
      obtain ⟨y, hy⟩ := at_lt' (xs := ns) (k := k) hlt
      have hz' : (ns.map (D.int .i64))[((k : Int) - 1).toNat]? = some (.int .i64 z) := by
        have : ((k : Int) - 1).toNat = k - 1 := by omega
        rw [this, List.getElem?_map, hz]; rfl
      have hy' : (ns.map (D.int .i64))[k]? = some (.int .i64 y) := by rw [List.getElem?_map, hy]; rfl
      have hR := riG_take hk1 hz hy
      have hR' : (A && riG none (ns.take (k + 1))) = ((A && riG none (ns.take k)) && decide (z < y)) := by rw [hR, Bool.and_assoc]
      have hlt' : (k : Int) < ((ns.map (D.int .i64)).length : Int) := by omega
      (repeat' (first | (refine stg_ ?_) | (refine IxW.at (by omega) hz' ?_; (conv => whnf)) | (refine br_ (fun hbr => ?_) (fun hbr => ?_))))
      all_goals (refine NextW.go (k + 1) (Weak.cov ⟨rfl, rfl, rfl, ?_, rfl, trivial⟩ ⟨trivial, rfl, trivial⟩ rfl) ⟨by omega, by omega⟩ (by omega))
      · rw [hR', show (A && riG none (ns.take k)) = true by (rw [Bool.and_eq_true]; exact hbr), Bool.true_and]; rfl
      · rw [hR', show (A && riG none (ns.take k)) = false by (rw [Bool.and_eq_false_iff]; exact hbr), Bool.false_and]; rfl
    · have hge : ns.length ≤ k := by omega
      rw [List.take_of_length_le hge]
      have hA2 : imA o ns ms = (outB o && (A && riG none ns)) := by rw [hA, Bool.and_comm A]
      cases hv : (A && riG none ns)
      · rw [hv, Bool.and_false] at hA2
        rw [hA2, if_neg (by decide)] at hC
        obtain ⟨rfl, rfl⟩ := h1 (by omega)
        rw [hC]
        (conv => whnf)
        (repeat' (first | (refine stg_ ?_) | (refine cla_ (c1) ?_) | (refine br_ (fun hbr => ?_) (fun hbr => ?_))))
        all_goals first | (exfalso; omega) | ((refine ⟨⟨[], trivial, by decide, ⟨_, rfl, rfl, ⟨_, _, rfl, rfl, ⟨_, _, rfl, ⟨rfl, ?_⟩, rfl⟩⟩⟩⟩⟩; (conv => whnf)); all_goals rfl)
      rw [hv, Bool.and_true] at hA2
      cases ho : outB o
      · rw [ho] at c1 hA2
        rw [hA2, if_neg (by decide)] at hC
        obtain ⟨rfl, rfl⟩ := h1 (by omega)
        rw [hC]
        (conv => whnf)
        (repeat' (first | (refine stg_ ?_) | (refine cla_ (c1) ?_) | (refine br_ (fun hbr => ?_) (fun hbr => ?_))))
        all_goals first | (exfalso; omega) | ((refine ⟨⟨[], trivial, by decide, ⟨_, rfl, rfl, ⟨_, _, rfl, rfl, ⟨_, _, rfl, ⟨rfl, ?_⟩, rfl⟩⟩⟩⟩⟩; (conv => whnf)); all_goals rfl)
      rw [ho] at c1 hA2
      rw [hA2, if_pos rfl] at hC
      have hri : riG none ns = true := by
        rw [Bool.and_eq_true] at hv
        exact hv.2
      have cK := l30Count_v o ho
      have cL := l30Last_v ns ((cnK o.fLoops : Nat) : Int)
      rcases Nat.eq_zero_or_pos ns.length with hz | hz
      · have hR : imR o ns = true := by rw [List.eq_nil_of_length_eq_zero hz]; rfl
        rw [hR, if_pos rfl] at hC
        rw [List.getElem?_eq_none (by omega)] at cL
        have cI := l30Infer_v o ns ms (imC_in hn hC)
        obtain ⟨rfl, rfl⟩ := h0 hC
        (conv => whnf)
        (repeat' (first | (refine stg_ ?_) | (refine cla_ (c1) ?_) | (refine cla_ (cK) ?_) | (refine cla_ (cL) ?_) | (refine cla_ (cI) ?_) | (refine br_ (fun hbr => ?_) (fun hbr => ?_))))
        all_goals first | (exfalso; omega) | ((refine ⟨⟨[some 2], ⟨by decide, ?_, trivial, trivial⟩, by decide, ⟨_, rfl, rfl, ⟨_, _, rfl, ⟨by decide, ?_⟩, ⟨_, _, rfl, ⟨rfl, ?_⟩, rfl⟩⟩⟩⟩⟩); all_goals rfl)
      · obtain ⟨a, ha⟩ := at_lt' (xs := ns) (k := 0) hz
        obtain ⟨z, hz'⟩ := at_lt' (xs := ns) (k := ns.length - 1) (by omega)
        have hRe := imR_eq (o := o) hri ha hz'
        rw [hz'] at cL
        have ha2 : (ns.map (D.int .i64))[0]? = some (.int .i64 a) := by rw [List.getElem?_map, ha]; rfl
        by_cases hg : 0 ≤ a ∧ z < (cnK o.fLoops : Nat)
        · rw [decide_eq_true hg.1, decide_eq_true hg.2] at hRe
          rw [hRe, if_pos (by rfl)] at hC
          dsimp only at cL
          rw [decide_eq_true hg.2] at cL
          have cI := l30Infer_v o ns ms (imC_in hn hC)
          obtain ⟨rfl, rfl⟩ := h0 hC
          (conv => whnf)
          (repeat' (first | (refine stg_ ?_) | (refine cla_ (c1) ?_) | (refine cla_ (cK) ?_) | (refine cla_ (cL) ?_) | (refine cla_ (cI) ?_) | (refine br_ (fun hbr => ?_) (fun hbr => ?_))))
          all_goals first | (exfalso; omega) | ((refine ⟨⟨[some 2], ⟨by decide, ?_, trivial, trivial⟩, by decide, ⟨_, rfl, rfl, ⟨_, _, rfl, ⟨by decide, ?_⟩, ⟨_, _, rfl, ⟨rfl, ?_⟩, rfl⟩⟩⟩⟩⟩); all_goals rfl)
        · have hR : imR o ns = false := by
            rw [hRe, Bool.and_eq_false_iff, decide_eq_false_iff_not, decide_eq_false_iff_not]; omega
          rw [hR, if_neg (by decide)] at hC
          obtain ⟨rfl, rfl⟩ := h1 (by omega)
          rw [hC]
          dsimp only at cL
          by_cases hzc : z < (cnK o.fLoops : Nat)
          · rw [decide_eq_true hzc] at cL
            (conv => whnf)
            (repeat' (first | (refine stg_ ?_) | (refine cla_ (c1) ?_) | (refine cla_ (cK) ?_) | (refine cla_ (cL) ?_) | (refine br_ (fun hbr => ?_) (fun hbr => ?_))))
            all_goals first | (exfalso; omega) | ((refine ⟨⟨[], trivial, by decide, ⟨_, rfl, rfl, ⟨_, _, rfl, rfl, ⟨_, _, rfl, ⟨rfl, ?_⟩, rfl⟩⟩⟩⟩⟩; (conv => whnf)); all_goals rfl)
          · rw [decide_eq_false hzc] at cL
            (conv => whnf)
            (repeat' (first | (refine stg_ ?_) | (refine cla_ (c1) ?_) | (refine cla_ (cK) ?_) | (refine cla_ (cL) ?_) | (refine br_ (fun hbr => ?_) (fun hbr => ?_))))
            all_goals first | (exfalso; omega) | ((refine ⟨⟨[], trivial, by decide, ⟨_, rfl, rfl, ⟨_, _, rfl, rfl, ⟨_, _, rfl, ⟨rfl, ?_⟩, rfl⟩⟩⟩⟩⟩; (conv => whnf)); all_goals rfl)
end Go.Proofs.Ytdjdkkacbkfmeaa
