/- Entries of files of tables (impl.readEntries) and what it computes. -/
import Derived.Test.YtcnlmllhnmaogaaDoorTabD
set_option linter.unusedSimpArgs false
set_option linter.unusedVariables false
namespace Go.Proofs.YtcnlmllhnmaogaaDoor
open Go.RowKit
def uK (s : ByteArray) (k : Nat) : Nat := gwK s (12 + 16 * k + 4) 4
def oK (s : ByteArray) (k : Nat) : Nat := gwK s (12 + 16 * k + 8) 4
def nK (s : ByteArray) (k : Nat) : Nat := gwK s (12 + 16 * k + 12) 4
def aK (s : ByteArray) : Nat → Nat
  | 0 => 12 + 16 * cnt s
  | k + 1 => aK s k + (nK s k + 3) / 4 * 4
def pdZ (s : ByteArray) (k : Nat) : Bool := decide (zR (s.extract (aK s k + nK s k) (aK s (k + 1))) (s.extract (aK s k + nK s k) (aK s (k + 1))).size = 0)
/-- the code of entry k -/
def stE (s : ByteArray) (k : Nat) : Nat := if ¬ oK s k = aK s k then 9 else if s.size < aK s (k + 1) then 11 else if pdZ s k = false then 9 else 0
/-- the code of the entries from k on -/
def lpE (s : ByteArray) : Nat → Nat → Nat
  | 0, _ => 0
  | f + 1, k => if stE s k = 0 then lpE s f (k + 1) else stE s k
def tgK (s : ByteArray) (k : Nat) : ByteArray := s.extract (12 + 16 * k) (12 + 16 * k + 4)
def dtK (s : ByteArray) (k : Nat) : ByteArray := s.extract (aK s k) (aK s k + nK s k)
def ents (s : ByteArray) (k : Nat) : List TTable := (List.range k).map (fun i => ⟨tgK s i, dtK s i⟩)
def entD (s : ByteArray) (k : Nat) : D := .st [.str (tgK s k), .int .i64 (uK s k), .int .i64 (oK s k), .int .i64 (nK s k), .str (dtK s k)]
def entL (s : ByteArray) (k : Nat) : List D := (List.range k).map (entD s)
theorem entL_len (s : ByteArray) (k : Nat) : (entL s k).length = k := by simp [entL]
theorem entL_succ (s : ByteArray) (k : Nat) : entL s (k + 1) = entL s k ++ [entD s k] := by simp [entL, List.range_succ]
theorem entL_at {s : ByteArray} {n k : Nat} (h : k < n) : (entL s n)[k]? = some (entD s k) := by simp [entL, h]
def fnE (s : ByteArray) : Nat := if ¬ aK s (cnt s) = s.size then 9 else if ordT (ents s (cnt s)) = false then 9 else 0
/-- the code of reading a file of tables -/
def rdE (s : ByteArray) : Nat := if ¬ hdE s = 0 then hdE s else if ¬ lpE s (cnt s) 0 = 0 then lpE s (cnt s) 0 else fnE s
theorem hdE_zero {s : ByteArray} (h : hdE s = 0) : s.size ≤ 65536 ∧ 12 + 16 * cnt s ≤ s.size ∧ cnt s ≤ 16 := by
  unfold hdE at h
  split at h
  · omega
  · split at h
    · omega
    · split at h
      · omega
      · rename_i h3
        split at h
        · omega
        · exact ⟨by omega, by omega, by have := fun e => h3 (.inr e); omega⟩
theorem tbGo_tag : ∀ (xs ys : List TTable) (o p : Option TTable), xs.map (·.fTag) = ys.map (·.fTag) → o.map (·.fTag) = p.map (·.fTag) → tbGo o xs = tbGo p ys
  | [], [], _, _, _, _ => by rw [tbGo, tbGo]
  | x :: xs, y :: ys, o, p, h, ho => by
    simp only [List.map_cons, List.cons.injEq] at h
    rw [tbGo, tbGo, h.1, tbGo_tag xs ys (some x) (some y) h.2 (by simp [h.1])]
    have : ltT o x = ltT p y := by
      cases o <;> cases p <;> simp_all [ltT]
    rw [this]
  | [], y :: ys, _, _, h, _ => by simp at h
  | x :: xs, [], _, _, h, _ => by simp at h
theorem ordT_tag {xs ys : List TTable} (h : xs.map (·.fTag) = ys.map (·.fTag)) : ordT xs = ordT ys := by
  have hl : xs.length = ys.length := by simpa using congrArg List.length h
  rw [ordT, ordT, hl, tbGo_tag xs ys none none h rfl]
/-- the tables of names alone -/
def entT (s : ByteArray) (k : Nat) : List TTable := (List.range k).map (fun i => ⟨tgK s i, ByteArray.mk #[]⟩)
theorem entT_len (s : ByteArray) (k : Nat) : ((entT s k).map TTable.D).length = k := by simp [entT]
theorem entT_succ (s : ByteArray) (k : Nat) : (entT s (k + 1)).map TTable.D = (entT s k).map TTable.D ++ [TTable.D ⟨tgK s k, ByteArray.mk #[]⟩] := by simp [entT, List.range_succ]
theorem entT_ord (s : ByteArray) (k : Nat) : ordT (entT s k) = ordT (ents s k) := ordT_tag (by simp [entT, ents])
theorem aK_mono (s : ByteArray) (k : Nat) : 12 + 16 * cnt s ≤ aK s k := by
  induction k with
  | zero => exact Nat.le_refl _
  | succ k ih => rw [aK]; omega
set_option maxHeartbeats 4000000 in
theorem readEntries_v (s : ByteArray) (v : V) (bs : List Blk) (h0 : rdE s = 0 → v = .tup [.own 1 0 (cnt s), .d (.int .i64 0)] ∧ bs = [.arr 5 (entL s (cnt s)) true])
    (h1 : ¬ rdE s = 0 → v = .tup [.nils, .d (.int .i64 (rdE s))] ∧ bs = []) : PC Tryd.prog 29 [.d (.str s)] v bs := by
  refine pc_intro ttOk (by kernel_rfl) Tryd.func29 rfl (by kernel_rfl) (by kernel_rfl) (by kernel_rfl) (fun hw => ?_)
  have hs : s.size ≤ 9223372036854775807 := hw.1
  have c0 := checkHead_v s
  (conv => whnf)
  (refine cla_ (c0) ?_)
  (refine br_ (fun h2 => ?_) (fun h2 => ?_) <;> (repeat (refine stg_ ?_)))
  · have e : rdE s = hdE s := by rw [rdE, if_pos (by omega)]
    obtain ⟨rfl, rfl⟩ := h1 (by omega)
    rw [e]
    (refine ⟨⟨[], trivial, by decide, ⟨_, rfl, rfl, ⟨_, _, rfl, rfl, ⟨_, _, rfl, ⟨rfl, ?_⟩, rfl⟩⟩⟩⟩⟩; (conv => whnf))
  have hz : hdE s = 0 := by omega
  obtain ⟨hz1, hz2, hz3⟩ := hdE_zero hz
  rw [if_pos hz]
  (repeat (refine stg_ ?_))
  refine LoopW.go (α := Nat) (fun k => [(0, .d (.str s)), (4, .d (.int .i64 (cnt s : Nat))), (6, .own 1 0 (entL s k).length), (7, .d (.int .i64 (aK s k : Nat))), (8, .d (.int .i64 k))]) (fun k => [.gone, .arr 5 (entL s k) true]) (fun k => k ≤ cnt s ∧ aK s k ≤ s.size ∧ lpE s (cnt s) 0 = lpE s (cnt s - k) k) (fun k => cnt s - k) 0 (Weak.trans (Weak.adopt (k := 6) rfl 5 true) covT_) ⟨by omega, hz2, rfl⟩ (fun k hk => ?_)
  obtain ⟨hk1, hk2, hk3⟩ := hk
  have hd := entL_len s k
  (conv => whnf)
  (refine br_ (fun h3 => ?_) (fun h3 => ?_))
  · have hlt : aK s k + (nK s k + 3) / 4 * 4 = aK s (k + 1) := rfl
    have g1 := gwK_lt s (12 + 16 * k + 4) 4
    have g2 := gwK_lt s (12 + 16 * k + 8) 4
    have g3 := gwK_lt s (12 + 16 * k + 12) 4
    have c1 := GetWord_v s (12 + 16 * k + 4) (by omega)
    have c2 := GetWord_v s (12 + 16 * k + 8) (by omega)
    have c3 := GetWord_v s (12 + 16 * k + 12) (by omega)
    rw [show cnt s - k = (cnt s - (k + 1)) + 1 by omega, lpE] at hk3
    have hbad : ¬ stE s k = 0 → rdE s = stE s k := by
      intro h
      rw [if_neg h] at hk3
      rw [rdE, if_neg (by omega), if_pos (by omega), hk3]
    refine ArW.i64e ((16 * k : Nat) : Int) (by omega) (by omega) ?_
    (conv => whnf)
    refine ArW.i64e ((12 + 16 * k : Nat) : Int) (by omega) (by omega) ?_
    (conv => whnf)
    (repeat (refine stg_ ?_))
    (refine cla_ (c1) ?_)
    (repeat (refine stg_ ?_))
    (refine cla_ (c2) ?_)
    (repeat (refine stg_ ?_))
    (refine cla_ (c3) ?_)
    (repeat (refine stg_ ?_))
    have hN : gwK s (12 + 16 * k + 12) 4 = nK s k := rfl
    rw [hN] at g3 ⊢
    have ed : ((nK s k : Int) + 3).tdiv 4 = (((nK s k + 3) / 4 : Nat) : Int) := by rw [Int.tdiv_eq_ediv_of_nonneg (by omega)]; omega
    (refine br_ (fun h4 => ?_) (fun h4 => ?_))
    · have e : stE s k = 9 := by rw [stE, if_pos (by unfold oK; omega)]
      have e2 := hbad (by omega)
      rw [e] at e2
      obtain ⟨rfl, rfl⟩ := h1 (by omega)
      rw [e2]
      (refine ⟨⟨[], trivial, by decide, ⟨_, rfl, rfl, ⟨_, _, rfl, rfl, ⟨_, _, rfl, ⟨rfl, ?_⟩, rfl⟩⟩⟩⟩⟩; (conv => whnf))
      all_goals rfl
    have h4' : oK s k = aK s k := by unfold oK; omega
    (refine stg_ ?_)
    (refine stg_ ?_)
    rw [ed]
    (refine stg_ ?_)
    refine ArW.i64e (((nK s k + 3) / 4 * 4 : Nat) : Int) (by omega) (by omega) ?_
    (conv => whnf)
    refine ArW.i64e ((aK s (k + 1) : Nat) : Int) (by omega) (by omega) ?_
    (conv => whnf)
    (repeat (refine stg_ ?_))
    (refine br_ (fun h5 => ?_) (fun h5 => ?_))
    · have e : stE s k = 11 := by rw [stE, if_neg (by omega), if_pos (by omega)]
      have e2 := hbad (by omega)
      rw [e] at e2
      obtain ⟨rfl, rfl⟩ := h1 (by omega)
      rw [e2]
      (refine ⟨⟨[], trivial, by decide, ⟨_, rfl, rfl, ⟨_, _, rfl, rfl, ⟨_, _, rfl, ⟨rfl, ?_⟩, rfl⟩⟩⟩⟩⟩; (conv => whnf))
      all_goals rfl
    (repeat (refine stg_ ?_))
    have hle : aK s (k + 1) ≤ s.size := by omega
    have c4 := Trim_v (s.extract (aK s k + nK s k) (aK s (k + 1)))
    (refine cla_ (c4) ?_)
    (repeat (refine stg_ ?_))
    (refine br_ (fun h6 => ?_) (fun h6 => ?_))
    · have e : stE s k = 9 := by
        rw [stE, if_neg (by omega), if_neg (by omega), if_pos]
        rw [pdZ, decide_eq_false]
        rw [← zT_nil]
        exact h6
      have e2 := hbad (by omega)
      rw [e] at e2
      obtain ⟨rfl, rfl⟩ := h1 (by omega)
      rw [e2]
      (refine ⟨⟨[], trivial, by decide, ⟨_, rfl, rfl, ⟨_, _, rfl, rfl, ⟨_, _, rfl, ⟨rfl, ?_⟩, rfl⟩⟩⟩⟩⟩; (conv => whnf))
      all_goals rfl
    have hok : stE s k = 0 := by
      rw [stE, if_neg (by omega), if_neg (by omega), if_neg]
      rw [pdZ, decide_eq_true]
      · decide
      · rw [← zT_nil]
        exact h6
    rw [if_pos hok] at hk3
    have hS := entL_succ s k
    have h20 : cnt s < 20 := by omega
    (repeat' (first | (refine stg_ ?_) | fail | (refine br_ (fun hbr => ?_) (fun hbr => ?_))))
    refine NextW.go (k + 1) (Weak.cov ⟨rfl, rfl, ?_, rfl, rfl, trivial⟩ ⟨trivial, ?_, trivial⟩ rfl) ⟨by omega, hle, hk3⟩ (by omega)
    · rw [hS]; simp only [List.length_append]; rfl
    · rw [hS, List.take_length]; try rfl
  · obtain rfl : k = cnt s := by omega
    rw [Nat.sub_self, lpE] at hk3
    have hfin : rdE s = fnE s := by rw [rdE, if_neg (by omega), if_neg (by omega)]
    (repeat (refine stg_ ?_))
    refine LoopW.go (α := Nat) (fun j => [(0, .d (.str s)), (6, .own 1 0 (entL s (cnt s)).length), (7, .d (.int .i64 (aK s (cnt s) : Nat))), (12, .own 2 0 ((entT s j).map TTable.D).length), (101, .own 1 0 (entL s (cnt s)).length), (102, .d (.int .i64 (entL s (cnt s)).length)), (103, .d (.int .i64 j))]) (fun j => [.gone, .arr 5 (entL s (cnt s)) true, .arr 2 ((entT s j).map TTable.D) true]) (fun j => j ≤ cnt s) (fun j => cnt s - j) 0 (Weak.trans (Weak.adopt (k := 12) rfl 2 true) covT_) (by omega) (fun j hj => ?_)
    have hd2 := entT_len s j
    have hd3 : (entT s j).length = j := by simp [entT]
    have h20 : cnt s < 20 := by omega
    (conv => whnf)
    (refine br_ (fun h4 => ?_) (fun h4 => ?_))
    · have hx := entL_at (s := s) (n := cnt s) (k := j) (by omega)
      have hS := entT_succ s j
      (repeat' (first | (refine stg_ ?_) | fail | (refine br_ (fun hbr => ?_) (fun hbr => ?_))))
      refine NextW.go (j + 1) (Weak.cov ⟨rfl, rfl, rfl, ?_, rfl, rfl, rfl, trivial⟩ ⟨trivial, rfl, ?_, trivial⟩ rfl) (by omega) (by omega)
      · rw [hS]; simp only [List.length_append]; rfl
      · rw [hS, List.take_length]; try rfl
    · obtain rfl : j = cnt s := by omega
      have c5 := tagsInOrder_v (entT s (cnt s))
      rw [entT_ord] at c5
      (repeat (refine stg_ ?_))
      (refine br_ (fun h5 => ?_) (fun h5 => ?_))
      · have e : rdE s = 9 := by rw [hfin, fnE, if_pos (by omega)]
        obtain ⟨rfl, rfl⟩ := h1 (by omega)
        rw [e]
        (repeat (refine stg_ ?_))
        (refine ⟨⟨[], trivial, by decide, ⟨_, rfl, rfl, ⟨_, _, rfl, rfl, ⟨_, _, rfl, ⟨rfl, ?_⟩, rfl⟩⟩⟩⟩⟩; (conv => whnf))
        all_goals rfl
      (refine cla_ (c5) ?_)
      (refine br_ (fun h6 => ?_) (fun h6 => ?_))
      · have e : rdE s = 9 := by rw [hfin, fnE, if_neg (by omega), if_pos h6]
        obtain ⟨rfl, rfl⟩ := h1 (by omega)
        rw [e]
        (repeat (refine stg_ ?_))
        (refine ⟨⟨[], trivial, by decide, ⟨_, rfl, rfl, ⟨_, _, rfl, rfl, ⟨_, _, rfl, ⟨rfl, ?_⟩, rfl⟩⟩⟩⟩⟩; (conv => whnf))
        all_goals rfl
      · have e : rdE s = 0 := by rw [hfin, fnE, if_neg (by omega), if_neg (by rw [h6]; decide)]
        obtain ⟨rfl, rfl⟩ := h0 e
        (repeat (refine stg_ ?_))
        (refine ⟨⟨[some 1], ⟨by decide, ?_, trivial, trivial⟩, by decide, ⟨_, rfl, rfl, ⟨_, _, rfl, ⟨by decide, ?_⟩, ⟨_, _, rfl, ⟨rfl, ?_⟩, rfl⟩⟩⟩⟩⟩)
        · rfl
        · rw [hd]; rfl
        · rfl
end Go.Proofs.YtcnlmllhnmaogaaDoor
