/- InferMoves (impl), by the machine. -/
import Derived.Test.YtdjdkkacbkfmeaaInfW
set_option linter.unusedSimpArgs false
set_option linter.unusedVariables false
namespace Go.Proofs.Ytdjdkkacbkfmeaa
open Go.RowKit
def imA (o : TOutline) (ns : List Int) (ms : List TPt) : Bool := outB o && (riG none ns && (decide (ms.length = ns.length) && ms.all pntB))
def imR (o : TOutline) (ns : List Int) : Bool := ns.all fun x => decide (0 ≤ x) && decide (x < (cnK o.fLoops : Nat))
/-- the code of InferMoves -/
def imC (o : TOutline) (ns : List Int) (ms : List TPt) : Nat := if imA o ns ms = true then (if imR o ns = true then 0 else 2) else 1
theorem imR_eq {o : TOutline} {ns : List Int} {a z : Int} (h : riG none ns = true) (ha : ns[0]? = some a) (hz : ns[ns.length - 1]? = some z) : imR o ns = (decide (0 ≤ a) && decide (z < (cnK o.fLoops : Nat))) := by
  rw [imR, Bool.eq_iff_iff]
  simp only [List.all_eq_true, Bool.and_eq_true, decide_eq_true_eq]
  constructor
  · intro H
    exact ⟨(H a (List.mem_of_getElem? ha)).1, (H z (List.mem_of_getElem? hz)).2⟩
  · rintro ⟨h1, h2⟩ x hx
    have := riG_first h ha x hx
    have := riG_last h hz x hx
    omega
theorem imC_in {o : TOutline} {ns : List Int} {ms : List TPt} (hn : ns.length ≤ 1048576) (h : imC o ns ms = 0) : InF o ns ms := by
  unfold imC at h
  split at h
  · rename_i hA
    split at h
    · rename_i hR
      simp only [imA, Bool.and_eq_true, decide_eq_true_eq, List.all_eq_true] at hA
      simp only [imR, List.all_eq_true, Bool.and_eq_true, decide_eq_true_eq] at hR
      exact ⟨hA.1, ri_srt hA.2.1, hA.2.2.1.symm, hA.2.2.2, hR, hn⟩
    · omega
  · omega
set_option maxHeartbeats 4000000 in
theorem InferMoves_v (o : TOutline) (ns : List Int) (ms : List TPt) (hn : ns.length ≤ 1048576) (v : V) (bs : List Blk) (h0 : imC o ns ms = 0 → v = .tup [.own 1 0 (cnK o.fLoops), .d (.int .i64 0)] ∧ bs = [.arr 2 ((inL ns ms 0 o.fLoops).map TPt.D) true])
    (h1 : ¬ imC o ns ms = 0 → v = .tup [.nils, .d (.int .i64 (imC o ns ms))] ∧ bs = []) : PC Try.prog 24 [.d o.D, .d (.lst (ns.map (D.int .i64))), .d (.lst (ms.map TPt.D))] v bs := by
  refine pc_intro ttOk (by kernel_rfl) Try.func24 rfl (by kernel_rfl) (by kernel_rfl) (by kernel_rfl) (fun hw => ?_)
  have hLn : (ns.map (D.int .i64)).length = ns.length := List.length_map _
  have hLm : (ms.map TPt.D).length = ms.length := List.length_map _
  have c1 := ValidOutline_v o
  have c2 := increasing_v ns
  have c3 := validPts_v ms
  have hC : imC o ns ms = if imA o ns ms = true then (if imR o ns = true then 0 else 2) else 1 := rfl
  have hA : imA o ns ms = (outB o && (riG none ns && (decide (ms.length = ns.length) && ms.all pntB))) := rfl
  cases hA' : imA o ns ms
  · rw [hA', if_neg (by decide)] at hC
    obtain ⟨rfl, rfl⟩ := h1 (by omega)
    rw [hC]
    rw [hA'] at hA
    cases q1 : outB o <;> rw [q1] at c1 hA
    · (conv => whnf)
      (repeat' (first | (refine stg_ ?_) | (refine cla_ (c1) ?_) | (refine cla_ (c2) ?_) | (refine cla_ (c3) ?_) | (refine br_ (fun hbr => ?_) (fun hbr => ?_))))
      all_goals ((refine ⟨⟨[], trivial, by decide, ⟨_, rfl, rfl, ⟨_, _, rfl, rfl, ⟨_, _, rfl, ⟨rfl, ?_⟩, rfl⟩⟩⟩⟩⟩; (conv => whnf)); all_goals rfl)
    cases q2 : riG none ns <;> rw [q2] at c2 hA
    · (conv => whnf)
      (repeat' (first | (refine stg_ ?_) | (refine cla_ (c1) ?_) | (refine cla_ (c2) ?_) | (refine cla_ (c3) ?_) | (refine br_ (fun hbr => ?_) (fun hbr => ?_))))
      all_goals ((refine ⟨⟨[], trivial, by decide, ⟨_, rfl, rfl, ⟨_, _, rfl, rfl, ⟨_, _, rfl, ⟨rfl, ?_⟩, rfl⟩⟩⟩⟩⟩; (conv => whnf)); all_goals rfl)
    by_cases q3 : ms.length = ns.length
    rotate_left
    · (conv => whnf)
      (repeat' (first | (refine stg_ ?_) | (refine cla_ (c1) ?_) | (refine cla_ (c2) ?_) | (refine cla_ (c3) ?_) | (refine br_ (fun hbr => ?_) (fun hbr => ?_))))
      all_goals first | (exfalso; omega) | ((refine ⟨⟨[], trivial, by decide, ⟨_, rfl, rfl, ⟨_, _, rfl, rfl, ⟨_, _, rfl, ⟨rfl, ?_⟩, rfl⟩⟩⟩⟩⟩; (conv => whnf)); all_goals rfl)
    rw [decide_eq_true q3] at hA
    cases q4 : ms.all pntB <;> rw [q4] at c3 hA
    · (conv => whnf)
      (repeat' (first | (refine stg_ ?_) | (refine cla_ (c1) ?_) | (refine cla_ (c2) ?_) | (refine cla_ (c3) ?_) | (refine br_ (fun hbr => ?_) (fun hbr => ?_))))
      all_goals first | (exfalso; omega) | ((refine ⟨⟨[], trivial, by decide, ⟨_, rfl, rfl, ⟨_, _, rfl, rfl, ⟨_, _, rfl, ⟨rfl, ?_⟩, rfl⟩⟩⟩⟩⟩; (conv => whnf)); all_goals rfl)
    · cases hA
  · rw [hA', if_pos rfl] at hC
    have hA2 := hA'
    simp only [imA, Bool.and_eq_true, decide_eq_true_eq] at hA2
    obtain ⟨q1, q2, q3, q4⟩ := hA2
    rw [q1] at c1
    rw [q2] at c2
    rw [q4] at c3
    have cK := knotCount_v o q1
    rcases Nat.eq_zero_or_pos ns.length with hz | hz
    · have hR : imR o ns = true := by rw [List.eq_nil_of_length_eq_zero hz]; rfl
      rw [hR, if_pos rfl] at hC
      have cI := inferMoves_v o ns ms (imC_in hn hC)
      obtain ⟨rfl, rfl⟩ := h0 hC
      (conv => whnf)
      (repeat' (first | (refine stg_ ?_) | (refine cla_ (c1) ?_) | (refine cla_ (c2) ?_) | (refine cla_ (c3) ?_) | (refine cla_ (cK) ?_) | (refine cla_ (cI) ?_) | (refine br_ (fun hbr => ?_) (fun hbr => ?_))))
      all_goals first | (exfalso; omega) | skip
      all_goals ((refine ⟨⟨[some 2], ⟨by decide, ?_, trivial, trivial⟩, by decide, ⟨_, rfl, rfl, ⟨_, _, rfl, ⟨by decide, ?_⟩, ⟨_, _, rfl, ⟨rfl, ?_⟩, rfl⟩⟩⟩⟩⟩); all_goals rfl)
    · obtain ⟨a, ha⟩ := at_lt' (xs := ns) (k := 0) hz
      obtain ⟨z, hz'⟩ := at_lt' (xs := ns) (k := ns.length - 1) (by omega)
      have hRe := imR_eq (o := o) q2 ha hz'
      have ha2 : (ns.map (D.int .i64))[0]? = some (.int .i64 a) := by rw [List.getElem?_map, ha]; rfl
      have hz2 : (ns.map (D.int .i64))[(((ns.map (D.int .i64)).length : Int) - 1).toNat]? = some (.int .i64 z) := by
        have : (((ns.map (D.int .i64)).length : Int) - 1).toNat = ns.length - 1 := by omega
        rw [this, List.getElem?_map, hz']; rfl
      cases hR : imR o ns
      · rw [hR, if_neg (by decide)] at hC
        obtain ⟨rfl, rfl⟩ := h1 (by omega)
        rw [hC]
        rw [hR] at hRe
        have hbad : ¬ (0 ≤ a ∧ z < (cnK o.fLoops : Nat)) := fun h => by rw [decide_eq_true h.1, decide_eq_true h.2] at hRe; cases hRe
        (conv => whnf)
        (repeat' (first | (refine stg_ ?_) | (refine cla_ (c1) ?_) | (refine cla_ (c2) ?_) | (refine cla_ (c3) ?_) | (refine cla_ (cK) ?_) | (refine IxW.at (by omega) hz2 ?_; (conv => whnf)) | (refine br_ (fun hbr => ?_) (fun hbr => ?_))))
        all_goals first | (exfalso; omega) | ((refine ⟨⟨[], trivial, by decide, ⟨_, rfl, rfl, ⟨_, _, rfl, rfl, ⟨_, _, rfl, ⟨rfl, ?_⟩, rfl⟩⟩⟩⟩⟩; (conv => whnf)); all_goals rfl)
      · rw [hR, if_pos rfl] at hC
        rw [hR] at hRe
        have hgood : 0 ≤ a ∧ z < (cnK o.fLoops : Nat) := by
          have := hRe.symm
          simp only [Bool.and_eq_true, decide_eq_true_eq] at this
          exact this
        have cI := inferMoves_v o ns ms (imC_in hn hC)
        obtain ⟨rfl, rfl⟩ := h0 hC
        (conv => whnf)
        (repeat' (first | (refine stg_ ?_) | (refine cla_ (c1) ?_) | (refine cla_ (c2) ?_) | (refine cla_ (c3) ?_) | (refine cla_ (cK) ?_) | (refine IxW.at (by omega) hz2 ?_; (conv => whnf)) | (refine cla_ (cI) ?_) | (refine br_ (fun hbr => ?_) (fun hbr => ?_))))
        all_goals first | (exfalso; omega) | skip
        all_goals ((refine ⟨⟨[some 2], ⟨by decide, ?_, trivial, trivial⟩, by decide, ⟨_, rfl, rfl, ⟨_, _, rfl, ⟨by decide, ?_⟩, ⟨_, _, rfl, ⟨rfl, ?_⟩, rfl⟩⟩⟩⟩⟩); all_goals rfl)
end Go.Proofs.Ytdjdkkacbkfmeaa
