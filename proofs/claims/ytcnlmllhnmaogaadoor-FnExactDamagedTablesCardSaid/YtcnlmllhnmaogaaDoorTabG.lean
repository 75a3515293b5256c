/- l31Read (spec), by the machine. -/
import Derived.Test.YtcnlmllhnmaogaaDoorTabF
set_option linter.unusedSimpArgs false
set_option linter.unusedVariables false
namespace Go.Proofs.YtcnlmllhnmaogaaDoor
open Go.RowKit
def uL (s : ByteArray) (k : Nat) : List D := (List.range k).map (fun i => D.int .i64 (uK s i))
theorem uL_len (s : ByteArray) (k : Nat) : (uL s k).length = k := by simp [uL]
theorem uL_succ (s : ByteArray) (k : Nat) : uL s (k + 1) = uL s k ++ [.int .i64 (uK s k)] := by simp [uL, List.range_succ]
theorem uL_at {s : ByteArray} {n k : Nat} (h : k < n) : (uL s n)[k]? = some (.int .i64 (uK s k)) := by simp [uL, h]
set_option maxHeartbeats 4000000 in
theorem l31Read_v (s : ByteArray) (hsz : s.size ≤ 1048576) (v : V) (bs : List Blk) (h0 : rdE s = 0 → v = .tup [.own 1 0 (cnt s), .own 2 0 (cnt s), .d (.int .i64 0)] ∧ bs = [.arr 2 ((ents s (cnt s)).map TTable.D) true, .arr 1 (uL s (cnt s)) true])
    (h1 : ¬ rdE s = 0 → v = .tup [.nils, .nils, .d (.int .i64 (rdE s))] ∧ bs = []) : PC Tryd.prog 27 [.d (.str s)] v bs := by
  refine pc_intro ttOk (by kernel_rfl) Tryd.func27 rfl (by kernel_rfl) (by kernel_rfl) (by kernel_rfl) (fun hw => ?_)
  have hs : s.size ≤ 9223372036854775807 := hw.1
  (conv => whnf)
  (repeat (refine stg_ ?_))
  have hhd : ¬ hdE s = 0 → rdE s = hdE s := fun h => by rw [rdE, if_pos h]
  (refine br_ (fun p1 => ?_) (fun p1 => ?_))
  · have e : hdE s = 5 := by rw [hdE, if_pos (by omega)]
    have e2 := hhd (by omega)
    rw [e] at e2
    (obtain ⟨rfl, rfl⟩ := h1 (by omega); rw [e2]; (repeat (refine stg_ ?_)); (refine ⟨⟨[], trivial, by decide, ⟨_, rfl, rfl, ⟨_, _, rfl, rfl, ⟨_, _, rfl, rfl, ⟨_, _, rfl, ⟨rfl, ?_⟩, rfl⟩⟩⟩⟩⟩⟩; (conv => whnf)); (all_goals rfl))
  (repeat (refine stg_ ?_))
  (refine br_ (fun p2 => ?_) (fun p2 => ?_))
  · have e : hdE s = 11 := by rw [hdE, if_neg (by omega), if_pos (by omega)]
    have e2 := hhd (by omega)
    rw [e] at e2
    (obtain ⟨rfl, rfl⟩ := h1 (by omega); rw [e2]; (repeat (refine stg_ ?_)); (refine ⟨⟨[], trivial, by decide, ⟨_, rfl, rfl, ⟨_, _, rfl, rfl, ⟨_, _, rfl, rfl, ⟨_, _, rfl, ⟨rfl, ?_⟩, rfl⟩⟩⟩⟩⟩⟩; (conv => whnf)); (all_goals rfl))
  have c1 := l01Get_v s 4 4 (by omega) (by omega)
  have hg := gwK_lt s 4 4
  (repeat (refine stg_ ?_))
  (refine cla_ (c1) ?_)
  (repeat (refine stg_ ?_))
  (refine br_ (fun p3 => ?_) (fun p3 => ?_))
  · have e : hdE s = 9 := by rw [hdE, if_neg (by omega), if_neg (by omega), if_pos (.inl p3)]
    have e2 := hhd (by omega)
    rw [e] at e2
    (obtain ⟨rfl, rfl⟩ := h1 (by omega); rw [e2]; (repeat (refine stg_ ?_)); (refine ⟨⟨[], trivial, by decide, ⟨_, rfl, rfl, ⟨_, _, rfl, rfl, ⟨_, _, rfl, rfl, ⟨_, _, rfl, ⟨rfl, ?_⟩, rfl⟩⟩⟩⟩⟩⟩; (conv => whnf)); (all_goals rfl))
  have p3' : (s.extract 0 4).toList = mag.toList := p3
  (refine br_ (fun p4 => ?_) (fun p4 => ?_))
  · have e : hdE s = 9 := by rw [hdE, if_neg (by omega), if_neg (by omega), if_pos (.inr (by unfold cnt; omega))]
    have e2 := hhd (by omega)
    rw [e] at e2
    (obtain ⟨rfl, rfl⟩ := h1 (by omega); rw [e2]; (repeat (refine stg_ ?_)); (refine ⟨⟨[], trivial, by decide, ⟨_, rfl, rfl, ⟨_, _, rfl, rfl, ⟨_, _, rfl, rfl, ⟨_, _, rfl, ⟨rfl, ?_⟩, rfl⟩⟩⟩⟩⟩⟩; (conv => whnf)); (all_goals rfl))
  have p4' : cnt s ≤ 16 := by unfold cnt; omega
  have hcl : ((gwK s 4 4 : Nat) : Int) = ((cnt s : Nat) : Int) := rfl
  rw [hcl]
  (refine stg_ ?_)
  refine ArW.i64e ((12 + 16 * cnt s : Nat) : Int) (by omega) (by omega) ?_
  (conv => whnf)
  (repeat (refine stg_ ?_))
  (refine br_ (fun p5 => ?_) (fun p5 => ?_))
  · have e : hdE s = 11 := by rw [hdE, if_neg (by omega), if_neg (by omega), if_neg (by rintro (h | h); (focus exact h p3'); omega), if_pos (by omega)]
    have e2 := hhd (by omega)
    rw [e] at e2
    (obtain ⟨rfl, rfl⟩ := h1 (by omega); rw [e2]; (repeat (refine stg_ ?_)); (refine ⟨⟨[], trivial, by decide, ⟨_, rfl, rfl, ⟨_, _, rfl, rfl, ⟨_, _, rfl, rfl, ⟨_, _, rfl, ⟨rfl, ?_⟩, rfl⟩⟩⟩⟩⟩⟩; (conv => whnf)); (all_goals rfl))
  have c2 := l01Sum_v (s.extract 12 (12 + 16 * cnt s)) (by rw [ext_size s (by omega)]; omega)
  have c3 := l01Get_v s 8 4 (by omega) (by omega)
  obtain ⟨W, hW⟩ : ∃ W, W = gwK s 8 4 := ⟨_, rfl⟩
  obtain ⟨U, hU⟩ : ∃ U, U = sumB (s.extract 12 (12 + 16 * cnt s)) := ⟨_, rfl⟩
  rw [← hW] at c3
  rw [← hU] at c2
  (repeat (refine stg_ ?_))
  (refine cla_ (c2) ?_)
  (repeat (refine stg_ ?_))
  (refine cla_ (c3) ?_)
  (repeat (refine stg_ ?_))
  (refine br_ (fun p6 => ?_) (fun p6 => ?_))
  · have e : hdE s = 10 := by rw [hdE, if_neg (by omega), if_neg (by omega), if_neg (by rintro (h | h); (focus exact h p3'); omega), if_neg (by omega), if_pos (by omega)]
    have e2 := hhd (by omega)
    rw [e] at e2
    (obtain ⟨rfl, rfl⟩ := h1 (by omega); rw [e2]; (repeat (refine stg_ ?_)); (refine ⟨⟨[], trivial, by decide, ⟨_, rfl, rfl, ⟨_, _, rfl, rfl, ⟨_, _, rfl, rfl, ⟨_, _, rfl, ⟨rfl, ?_⟩, rfl⟩⟩⟩⟩⟩⟩; (conv => whnf)); (all_goals rfl))
  have hz : hdE s = 0 := by rw [hdE, if_neg (by omega), if_neg (by omega), if_neg (by rintro (h | h); (focus exact h p3'); omega), if_neg (by omega), if_neg (by omega)]
  (repeat (refine stg_ ?_))
  obtain ⟨hz1, hz2, hz3⟩ := hdE_zero hz
  refine LoopW.go (α := Nat) (fun k => [(0, .d (.str s)), (5, .d (.int .i64 (s.size : Nat))), (6, .d (.int .i64 (cnt s : Nat))), (7, .d (.int .i64 (aK s k : Nat))), (8, .own 1 0 ((ents s k).map TTable.D).length), (9, .own 2 0 (uL s k).length), (10, .d (.int .i64 k))]) (fun k => [.gone, .arr 2 ((ents s k).map TTable.D) true, .arr 1 (uL s k) true]) (fun k => k ≤ cnt s ∧ aK s k ≤ s.size ∧ lpE s (cnt s) 0 = lpE s (cnt s - k) k) (fun k => cnt s - k) 0 covT_ ⟨by omega, hz2, rfl⟩ (fun k hk => ?_)
  obtain ⟨hk1, hk2, hk3⟩ := hk
  have hd := ents_len s k
  have hd2 := uL_len s k
  have hd3 : (ents s k).length = k := by simp [ents]
  (conv => whnf)
  (refine br_ (fun q1 => ?_) (fun q1 => ?_))
  · have hlt : aK s k + (nK s k + 3) / 4 * 4 = aK s (k + 1) := rfl
    rw [show cnt s - k = (cnt s - (k + 1)) + 1 by omega, lpE] at hk3
    have hbad : ¬ stE s k = 0 → rdE s = stE s k := by
      intro h
      rw [if_neg h] at hk3
      rw [rdE, if_neg (by omega), if_pos (by omega), hk3]
    have d2 := l01Get_v s (12 + 16 * k + 8) 4 (by omega) (by omega)
    have d3 := l01Get_v s (12 + 16 * k + 12) 4 (by omega) (by omega)
    refine ArW.i64e ((16 * k : Nat) : Int) (by omega) (by omega) ?_
    (conv => whnf)
    refine ArW.i64e ((12 + 16 * k : Nat) : Int) (by omega) (by omega) ?_
    (conv => whnf)
    (repeat (refine stg_ ?_))
    have g2 : oK s k < 256 ^ 4 := gwK_lt s (12 + 16 * k + 8) 4
    have g3 : nK s k < 256 ^ 4 := gwK_lt s (12 + 16 * k + 12) 4
    obtain ⟨O, hO⟩ : ∃ O, O = oK s k := ⟨_, rfl⟩
    obtain ⟨M, hM⟩ : ∃ M, M = nK s k := ⟨_, rfl⟩
    rw [show gwK s (12 + 16 * k + 8) 4 = O from hO.symm] at d2
    rw [show gwK s (12 + 16 * k + 12) 4 = M from hM.symm] at d3
    (refine cla_ (d2) ?_)
    (repeat (refine stg_ ?_))
    (refine cla_ (d3) ?_)
    (repeat (refine stg_ ?_))
    (refine br_ (fun q2 => ?_) (fun q2 => ?_))
    · have e : stE s k = 9 := by rw [stE, if_pos (by omega)]
      have e2 := hbad (by omega)
      rw [e] at e2
      (obtain ⟨rfl, rfl⟩ := h1 (by omega); rw [e2]; (repeat (refine stg_ ?_)); (refine ⟨⟨[], trivial, by decide, ⟨_, rfl, rfl, ⟨_, _, rfl, rfl, ⟨_, _, rfl, rfl, ⟨_, _, rfl, ⟨rfl, ?_⟩, rfl⟩⟩⟩⟩⟩⟩; (conv => whnf)); (all_goals rfl))
    have d4 := l31Pad_v (M : Int) (by omega)
    (repeat (refine stg_ ?_))
    (refine br_ (fun q3 => ?_) (fun q3 => ?_))
    · have e : stE s k = 11 := by rw [stE, if_neg (by omega), if_pos (by omega)]
      have e2 := hbad (by omega)
      rw [e] at e2
      (obtain ⟨rfl, rfl⟩ := h1 (by omega); rw [e2]; (repeat (refine stg_ ?_)); (refine ⟨⟨[], trivial, by decide, ⟨_, rfl, rfl, ⟨_, _, rfl, rfl, ⟨_, _, rfl, rfl, ⟨_, _, rfl, ⟨rfl, ?_⟩, rfl⟩⟩⟩⟩⟩⟩; (conv => whnf)); (all_goals rfl))
    (repeat (refine stg_ ?_))
    (refine cla_ (d4) ?_)
    (repeat (refine stg_ ?_))
    (refine br_ (fun q4 => ?_) (fun q4 => ?_))
    · have e : stE s k = 11 := by rw [stE, if_neg (by omega), if_pos (by omega)]
      have e2 := hbad (by omega)
      rw [e] at e2
      (obtain ⟨rfl, rfl⟩ := h1 (by omega); rw [e2]; (repeat (refine stg_ ?_)); (refine ⟨⟨[], trivial, by decide, ⟨_, rfl, rfl, ⟨_, _, rfl, rfl, ⟨_, _, rfl, rfl, ⟨_, _, rfl, ⟨rfl, ?_⟩, rfl⟩⟩⟩⟩⟩⟩; (conv => whnf)); (all_goals rfl))
    have hle : aK s (k + 1) ≤ s.size := by omega
    have d5 := l01Get_v s (12 + 16 * k + 4) 4 (by omega) (by omega)
    rw [show gwK s (12 + 16 * k + 4) 4 = uK s k from rfl] at d5
    have hS := ents_succ s k
    have hS2 := uL_succ s k
    have h20 : cnt s < 20 := by omega
    (repeat (refine stg_ ?_))
    (refine cla_ (d5) ?_)
    (repeat (refine stg_ ?_))
    refine LoopW.go (α := Nat) (fun j => [(0, .d (.str s)), (5, .d (.int .i64 (s.size : Nat))), (6, .d (.int .i64 (cnt s : Nat))), (7, .d (.int .i64 (aK s k : Nat))), (8, .own 1 0 ((ents s (k + 1)).map TTable.D).length), (9, .own 2 0 (uL s (k + 1)).length), (10, .d (.int .i64 k)), (13, .d (.int .i64 (M : Nat))), (14, .d (.int .i64 (aK s k + M + j : Nat)))]) (fun j => [.gone, .arr 2 ((ents s (k + 1)).map TTable.D) true, .arr 1 (uL s (k + 1)) true]) (fun j => aK s k + M + j ≤ aK s (k + 1) ∧ ∀ i, aK s k + M ≤ i → i < aK s k + M + j → s[i]? = some 0) (fun j => aK s (k + 1) - (aK s k + M + j)) 0 (Weak.cov ⟨rfl, rfl, rfl, rfl, ?_, ?_, rfl, rfl, rfl, trivial⟩ ⟨trivial, ?_, ?_, trivial⟩ rfl) ⟨by omega, fun i _ _ => by omega⟩ (fun j hj => ?_)
    · rw [hS]; simp only [List.length_append]; rfl
    · rw [hS2]; simp only [List.length_append]; rfl
    · rw [hS, List.take_length, hM]; try rfl
    · rw [hS2, List.take_length]; try rfl
    obtain ⟨hj1, hj2⟩ := hj
    (conv => whnf)
    (repeat (refine stg_ ?_))
    (refine cla_ (d4) ?_)
    (repeat (refine stg_ ?_))
    (refine br_ (fun q5 => ?_) (fun q5 => ?_))
    · have hc := bget? (s := s) (k := aK s k + M + j) (by omega)
      (repeat (refine stg_ ?_))
      (refine br_ (fun q6 => ?_) (fun q6 => ?_))
      · have e : stE s k = 9 := by
          rw [stE, if_neg (by omega), if_neg (by omega), if_pos]
          rw [pdZ, decide_eq_false]
          rw [zR_pad s hle]
          intro H
          have := H (aK s k + M + j) (by omega) (by omega)
          rw [hc] at this
          injection this with this
          rw [this] at q6
          exact q6 rfl
        have e2 := hbad (by omega)
        rw [e] at e2
        (obtain ⟨rfl, rfl⟩ := h1 (by omega); rw [e2]; (repeat (refine stg_ ?_)); (refine ⟨⟨[], trivial, by decide, ⟨_, rfl, rfl, ⟨_, _, rfl, rfl, ⟨_, _, rfl, rfl, ⟨_, _, rfl, ⟨rfl, ?_⟩, rfl⟩⟩⟩⟩⟩⟩; (conv => whnf)); (all_goals rfl))
      · have h0' : s[aK s k + M + j]'(by omega) = 0 := UInt8.toNat_inj.1 (by have : (0 : UInt8).toNat = 0 := rfl; omega)
        (repeat (refine stg_ ?_))
        refine NextW.go (j + 1) covT_ ⟨by omega, fun i hi1 hi2 => ?_⟩ (by omega)
        rcases Nat.lt_or_ge i (aK s k + M + j) with hi | hi
        · exact hj2 i hi1 hi
        · obtain rfl : i = aK s k + M + j := by omega
          rw [hc, h0']
    · have hok : stE s k = 0 := by
        rw [stE, if_neg (by omega), if_neg (by omega), if_neg]
        rw [pdZ, decide_eq_true]
        · decide
        · rw [zR_pad s hle]
          intro i hi1 hi2
          exact hj2 i (by omega) (by omega)
      rw [if_pos hok] at hk3
      (repeat (refine stg_ ?_))
      (refine cla_ (d4) ?_)
      (refine stg_ ?_)
      refine ArW.i64e ((aK s (k + 1) : Nat) : Int) (by omega) (by omega) ?_
      (conv => whnf)
      (repeat (refine stg_ ?_))
      refine NextW.go (k + 1) covT_ ⟨by omega, hle, hk3⟩ (by omega)
  · obtain rfl : k = cnt s := by omega
    rw [Nat.sub_self, lpE] at hk3
    have hfin : rdE s = fnE s := by rw [rdE, if_neg (by omega), if_neg (by omega)]
    have c5 := l31Ok_v (ents s (cnt s))
    (repeat (refine stg_ ?_))
    (refine br_ (fun h5 => ?_) (fun h5 => ?_))
    · have e : rdE s = 9 := by rw [hfin, fnE, if_pos (by omega)]
      (obtain ⟨rfl, rfl⟩ := h1 (by omega); rw [e]; (repeat (refine stg_ ?_)); (refine ⟨⟨[], trivial, by decide, ⟨_, rfl, rfl, ⟨_, _, rfl, rfl, ⟨_, _, rfl, rfl, ⟨_, _, rfl, ⟨rfl, ?_⟩, rfl⟩⟩⟩⟩⟩⟩; (conv => whnf)); (all_goals rfl))
    (refine cla_ (c5) ?_)
    (repeat (refine stg_ ?_))
    (refine br_ (fun h6 => ?_) (fun h6 => ?_))
    · have e : rdE s = 9 := by rw [hfin, fnE, if_neg (by omega), if_pos h6]
      (obtain ⟨rfl, rfl⟩ := h1 (by omega); rw [e]; (repeat (refine stg_ ?_)); (refine ⟨⟨[], trivial, by decide, ⟨_, rfl, rfl, ⟨_, _, rfl, rfl, ⟨_, _, rfl, rfl, ⟨_, _, rfl, ⟨rfl, ?_⟩, rfl⟩⟩⟩⟩⟩⟩; (conv => whnf)); (all_goals rfl))
    · have e : rdE s = 0 := by rw [hfin, fnE, if_neg (by omega), if_neg (by rw [h6]; decide)]
      obtain ⟨rfl, rfl⟩ := h0 e
      (repeat (refine stg_ ?_))
      (refine ⟨⟨[some 1, some 2], ⟨by decide, ?_, trivial, by decide, ?_, trivial, trivial⟩, by decide, ⟨_, rfl, rfl, ⟨_, _, rfl, ⟨by decide, ?_⟩, ⟨_, _, rfl, ⟨by decide, ?_⟩, ⟨_, _, rfl, ⟨rfl, ?_⟩, rfl⟩⟩⟩⟩⟩⟩)
      · rfl
      · rfl
      · rw [hd]; rfl
      · rw [hd2]; rfl
      · rfl
end Go.Proofs.YtcnlmllhnmaogaaDoor
