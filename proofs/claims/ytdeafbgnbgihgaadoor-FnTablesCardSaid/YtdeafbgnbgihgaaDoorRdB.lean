/- merged: several parts in one text. Leans on no more than they do. -/
import Derived.Test.YtdeafbgnbgihgaaDoorTabD
import Derived.Test.YtdeafbgnbgihgaaDoorVMTac
import Derived.Test.YtdeafbgnbgihgaaDoorVMOut
import Derived.Test.YtdeafbgnbgihgaaDoorEaV
import Derived.Test.YtdeafbgnbgihgaaDoorTT
import Derived.Test.YtdeafbgnbgihgaaDoorLVBase
import Derived.Laws.IdiomCopy
import Derived.Deep.RegionLaw
import Derived.Deep.LoopGhost
import Derived.Lib.SliceRun
import Derived.Shelf.RegionOpenPlain
import Derived.WalkKit
import Derived.Lib.Walk
import Derived.Laws.Bits64b
import Derived.Test.YtdeafbgnbgihgaaDoorLM
import Derived.Test.YtdeafbgnbgihgaaDoorVM5
import Derived.LaidMore
import Derived.Lay
set_option linter.unusedSimpArgs false
set_option linter.unusedVariables false
namespace Go.Proofs.YtdeafbgnbgihgaaDoor
open Go.RowKit
def uK (s : ByteArray) (k : Nat) : Nat := gwK s (12 + 16 * k + 4) 4
def oK (s : ByteArray) (k : Nat) : Nat := gwK s (12 + 16 * k + 8) 4
def nK (s : ByteArray) (k : Nat) : Nat := gwK s (12 + 16 * k + 12) 4
def aK (s : ByteArray) : Nat → Nat
  | 0 => 12 + 16 * cnt s
  | k + 1 => aK s k + (nK s k + 3) / 4 * 4
def pdZ (s : ByteArray) (k : Nat) : Bool := decide (zR (s.extract (aK s k + nK s k) (aK s (k + 1))) (s.extract (aK s k + nK s k) (aK s (k + 1))).size = 0)
def stE (s : ByteArray) (k : Nat) : Nat := if ¬ oK s k = aK s k then 9 else if s.size < aK s (k + 1) then 11 else if pdZ s k = false then 9 else 0
def lpE (s : ByteArray) : Nat → Nat → Nat
  | 0, _ => 0
  | f + 1, k => if stE s k = 0 then lpE s f (k + 1) else stE s k
def tgK (s : ByteArray) (k : Nat) : ByteArray := s.extract (12 + 16 * k) (12 + 16 * k + 4)
def dtK (s : ByteArray) (k : Nat) : ByteArray := s.extract (aK s k) (aK s k + nK s k)
def ents (s : ByteArray) (k : Nat) : List TTable := (List.range k).map (fun i => ⟨tgK s i, dtK s i⟩)
def entD (s : ByteArray) (k : Nat) : D := .st [.str (tgK s k), .int .i64 (uK s k), .int .i64 (oK s k), .int .i64 (nK s k), .str (dtK s k)]
def entL (s : ByteArray) (k : Nat) : List D := (List.range k).map (entD s)
theorem entL_len (s : ByteArray) (k : Nat) : (entL s k).length = k := by simp [entL]
theorem entL_succ (s : ByteArray) (k : Nat) : entL s (k + 1) = entL s k ++ [entD s k] := by simp [entL, List.range_succ]
theorem entL_at {s : ByteArray} {n k : Nat} (h : k < n) : (entL s n)[k]? = some (entD s k) := by simp [entL, h]
def fnE (s : ByteArray) : Nat := if ¬ aK s (cnt s) = s.size then 9 else if ordT (ents s (cnt s)) = false then 9 else 0
def rdE (s : ByteArray) : Nat := if ¬ hdE s = 0 then hdE s else if ¬ lpE s (cnt s) 0 = 0 then lpE s (cnt s) 0 else fnE s
theorem hdE_zero {s : ByteArray} (h : hdE s = 0) : s.size ≤ 65536 ∧ 12 + 16 * cnt s ≤ s.size ∧ cnt s ≤ 16 := by
  unfold hdE at h
  split at h
  · omega
  · split at h
    · omega
    · split at h
      · omega
      · rename_i h3
        split at h
        · omega
        · exact ⟨by omega, by omega, by have := fun e => h3 (.inr e); omega⟩
theorem tbGo_tag : ∀ (xs ys : List TTable) (o p : Option TTable), xs.map (·.fTag) = ys.map (·.fTag) → o.map (·.fTag) = p.map (·.fTag) → tbGo o xs = tbGo p ys
  | [], [], _, _, _, _ => by rw [tbGo, tbGo]
  | x :: xs, y :: ys, o, p, h, ho => by
    simp only [List.map_cons, List.cons.injEq] at h
    rw [tbGo, tbGo, h.1, tbGo_tag xs ys (some x) (some y) h.2 (by simp [h.1])]
    have : ltT o x = ltT p y := by
      cases o <;> cases p <;> simp_all [ltT]
    rw [this]
  | [], y :: ys, _, _, h, _ => by simp at h
  | x :: xs, [], _, _, h, _ => by simp at h
theorem ordT_tag {xs ys : List TTable} (h : xs.map (·.fTag) = ys.map (·.fTag)) : ordT xs = ordT ys := by
  have hl : xs.length = ys.length := by simpa using congrArg List.length h
  rw [ordT, ordT, hl, tbGo_tag xs ys none none h rfl]
def entT (s : ByteArray) (k : Nat) : List TTable := (List.range k).map (fun i => ⟨tgK s i, ByteArray.mk #[]⟩)
theorem entT_len (s : ByteArray) (k : Nat) : ((entT s k).map TTable.D).length = k := by simp [entT]
theorem entT_succ (s : ByteArray) (k : Nat) : (entT s (k + 1)).map TTable.D = (entT s k).map TTable.D ++ [TTable.D ⟨tgK s k, ByteArray.mk #[]⟩] := by simp [entT, List.range_succ]
theorem entT_ord (s : ByteArray) (k : Nat) : ordT (entT s k) = ordT (ents s k) := ordT_tag (by simp [entT, ents])
set_option maxHeartbeats 4000000 in
theorem readEntries_v (s : ByteArray) (v : V) (bs : List Blk) (h0 : rdE s = 0 → v = .tup [.own 1 0 (cnt s), .d (.int .i64 0)] ∧ bs = [.arr 5 (entL s (cnt s)) true])
    (h1 : ¬ rdE s = 0 → v = .tup [.nils, .d (.int .i64 (rdE s))] ∧ bs = []) : PC Tryd.prog 24 [.d (.str s)] v bs := by
  refine pc_intro ttOk (by kernel_rfl) Tryd.func24 rfl (by kernel_rfl) (by kernel_rfl) (by kernel_rfl) (fun hw => ?_)
  have hs : s.size ≤ 9223372036854775807 := hw.1
  have c0 := checkHead_v s
  (conv => whnf)
  (refine cla_ (c0) ?_)
  (refine br_ (fun h2 => ?_) (fun h2 => ?_) <;> (repeat (refine stg_ ?_)))
  · have e : rdE s = hdE s := by rw [rdE, if_pos (by omega)]
    obtain ⟨rfl, rfl⟩ := h1 (by omega)
    rw [e]
    (refine ⟨⟨[], trivial, by decide, ⟨_, rfl, rfl, ⟨_, _, rfl, rfl, ⟨_, _, rfl, ⟨rfl, ?_⟩, rfl⟩⟩⟩⟩⟩; (conv => whnf))
  have hz : hdE s = 0 := by omega
  obtain ⟨hz1, hz2, hz3⟩ := hdE_zero hz
  rw [if_pos hz]
  (repeat (refine stg_ ?_))
  refine LoopW.go (α := Nat) (fun k => [(0, .d (.str s)), (4, .d (.int .i64 (cnt s : Nat))), (6, .own 1 0 (entL s k).length), (7, .d (.int .i64 (aK s k : Nat))), (8, .d (.int .i64 k))]) (fun k => [.gone, .arr 5 (entL s k) true]) (fun k => k ≤ cnt s ∧ aK s k ≤ s.size ∧ lpE s (cnt s) 0 = lpE s (cnt s - k) k) (fun k => cnt s - k) 0 (Weak.trans (Weak.adopt (k := 6) rfl 5 true) covT_) ⟨by omega, hz2, rfl⟩ (fun k hk => ?_)
  obtain ⟨hk1, hk2, hk3⟩ := hk
  have hd := entL_len s k
  (conv => whnf)
  (refine br_ (fun h3 => ?_) (fun h3 => ?_))
  · have hlt : aK s k + (nK s k + 3) / 4 * 4 = aK s (k + 1) := rfl
    have g1 := gwK_lt s (12 + 16 * k + 4) 4
    have g2 := gwK_lt s (12 + 16 * k + 8) 4
    have g3 := gwK_lt s (12 + 16 * k + 12) 4
    have c1 := GetWord_v s (12 + 16 * k + 4) (by omega)
    have c2 := GetWord_v s (12 + 16 * k + 8) (by omega)
    have c3 := GetWord_v s (12 + 16 * k + 12) (by omega)
    rw [show cnt s - k = (cnt s - (k + 1)) + 1 by omega, lpE] at hk3
    have hbad : ¬ stE s k = 0 → rdE s = stE s k := by
      intro h
      rw [if_neg h] at hk3
      rw [rdE, if_neg (by omega), if_pos (by omega), hk3]
    refine ArW.i64e ((16 * k : Nat) : Int) (by omega) (by omega) ?_
    (conv => whnf)
    refine ArW.i64e ((12 + 16 * k : Nat) : Int) (by omega) (by omega) ?_
    (conv => whnf)
    (repeat (refine stg_ ?_))
    (refine cla_ (c1) ?_)
    (repeat (refine stg_ ?_))
    (refine cla_ (c2) ?_)
    (repeat (refine stg_ ?_))
    (refine cla_ (c3) ?_)
    (repeat (refine stg_ ?_))
    have hN : gwK s (12 + 16 * k + 12) 4 = nK s k := rfl
    rw [hN] at g3 ⊢
    have ed : ((nK s k : Int) + 3).tdiv 4 = (((nK s k + 3) / 4 : Nat) : Int) := by rw [Int.tdiv_eq_ediv_of_nonneg (by omega)]; omega
    (refine br_ (fun h4 => ?_) (fun h4 => ?_))
    · have e : stE s k = 9 := by rw [stE, if_pos (by unfold oK; omega)]
      have e2 := hbad (by omega)
      rw [e] at e2
      obtain ⟨rfl, rfl⟩ := h1 (by omega)
      rw [e2]
      (refine ⟨⟨[], trivial, by decide, ⟨_, rfl, rfl, ⟨_, _, rfl, rfl, ⟨_, _, rfl, ⟨rfl, ?_⟩, rfl⟩⟩⟩⟩⟩; (conv => whnf))
      all_goals rfl
    have h4' : oK s k = aK s k := by unfold oK; omega
    (refine stg_ ?_)
    (refine stg_ ?_)
    rw [ed]
    (refine stg_ ?_)
    refine ArW.i64e (((nK s k + 3) / 4 * 4 : Nat) : Int) (by omega) (by omega) ?_
    (conv => whnf)
    refine ArW.i64e ((aK s (k + 1) : Nat) : Int) (by omega) (by omega) ?_
    (conv => whnf)
    (repeat (refine stg_ ?_))
    (refine br_ (fun h5 => ?_) (fun h5 => ?_))
    · have e : stE s k = 11 := by rw [stE, if_neg (by omega), if_pos (by omega)]
      have e2 := hbad (by omega)
      rw [e] at e2
      obtain ⟨rfl, rfl⟩ := h1 (by omega)
      rw [e2]
      (refine ⟨⟨[], trivial, by decide, ⟨_, rfl, rfl, ⟨_, _, rfl, rfl, ⟨_, _, rfl, ⟨rfl, ?_⟩, rfl⟩⟩⟩⟩⟩; (conv => whnf))
      all_goals rfl
    (repeat (refine stg_ ?_))
    have hle : aK s (k + 1) ≤ s.size := by omega
    have c4 := Trim_v (s.extract (aK s k + nK s k) (aK s (k + 1)))
    (refine cla_ (c4) ?_)
    (repeat (refine stg_ ?_))
    (refine br_ (fun h6 => ?_) (fun h6 => ?_))
    · have e : stE s k = 9 := by
        rw [stE, if_neg (by omega), if_neg (by omega), if_pos]
        rw [pdZ, decide_eq_false]
        rw [← zT_nil]
        exact h6
      have e2 := hbad (by omega)
      rw [e] at e2
      obtain ⟨rfl, rfl⟩ := h1 (by omega)
      rw [e2]
      (refine ⟨⟨[], trivial, by decide, ⟨_, rfl, rfl, ⟨_, _, rfl, rfl, ⟨_, _, rfl, ⟨rfl, ?_⟩, rfl⟩⟩⟩⟩⟩; (conv => whnf))
      all_goals rfl
    have hok : stE s k = 0 := by
      rw [stE, if_neg (by omega), if_neg (by omega), if_neg]
      rw [pdZ, decide_eq_true]
      · decide
      · rw [← zT_nil]
        exact h6
    rw [if_pos hok] at hk3
    have hS := entL_succ s k
    have h20 : cnt s < 20 := by omega
    (repeat' (first | (refine stg_ ?_) | fail | (refine br_ (fun hbr => ?_) (fun hbr => ?_))))
    refine NextW.go (k + 1) (Weak.cov ⟨rfl, rfl, ?_, rfl, rfl, trivial⟩ ⟨trivial, ?_, trivial⟩ rfl) ⟨by omega, hle, hk3⟩ (by omega)
    · rw [hS]; simp only [List.length_append]; rfl
    · rw [hS, List.take_length]; try rfl
  · obtain rfl : k = cnt s := by omega
    rw [Nat.sub_self, lpE] at hk3
    have hfin : rdE s = fnE s := by rw [rdE, if_neg (by omega), if_neg (by omega)]
    (repeat (refine stg_ ?_))
    refine LoopW.go (α := Nat) (fun j => [(0, .d (.str s)), (6, .own 1 0 (entL s (cnt s)).length), (7, .d (.int .i64 (aK s (cnt s) : Nat))), (12, .own 2 0 ((entT s j).map TTable.D).length), (101, .own 1 0 (entL s (cnt s)).length), (102, .d (.int .i64 (entL s (cnt s)).length)), (103, .d (.int .i64 j))]) (fun j => [.gone, .arr 5 (entL s (cnt s)) true, .arr 2 ((entT s j).map TTable.D) true]) (fun j => j ≤ cnt s) (fun j => cnt s - j) 0 (Weak.trans (Weak.adopt (k := 12) rfl 2 true) covT_) (by omega) (fun j hj => ?_)
    have hd2 := entT_len s j
    have hd3 : (entT s j).length = j := by simp [entT]
    have h20 : cnt s < 20 := by omega
    (conv => whnf)
    (refine br_ (fun h4 => ?_) (fun h4 => ?_))
    · have hx := entL_at (s := s) (n := cnt s) (k := j) (by omega)
      have hS := entT_succ s j
      (repeat' (first | (refine stg_ ?_) | fail | (refine br_ (fun hbr => ?_) (fun hbr => ?_))))
      refine NextW.go (j + 1) (Weak.cov ⟨rfl, rfl, rfl, ?_, rfl, rfl, rfl, trivial⟩ ⟨trivial, rfl, ?_, trivial⟩ rfl) (by omega) (by omega)
      · rw [hS]; simp only [List.length_append]; rfl
      · rw [hS, List.take_length]; try rfl
    · obtain rfl : j = cnt s := by omega
      have c5 := tagsInOrder_v (entT s (cnt s))
      rw [entT_ord] at c5
      (repeat (refine stg_ ?_))
      (refine br_ (fun h5 => ?_) (fun h5 => ?_))
      · have e : rdE s = 9 := by rw [hfin, fnE, if_pos (by omega)]
        obtain ⟨rfl, rfl⟩ := h1 (by omega)
        rw [e]
        (repeat (refine stg_ ?_))
        (refine ⟨⟨[], trivial, by decide, ⟨_, rfl, rfl, ⟨_, _, rfl, rfl, ⟨_, _, rfl, ⟨rfl, ?_⟩, rfl⟩⟩⟩⟩⟩; (conv => whnf))
        all_goals rfl
      (refine cla_ (c5) ?_)
      (refine br_ (fun h6 => ?_) (fun h6 => ?_))
      · have e : rdE s = 9 := by rw [hfin, fnE, if_neg (by omega), if_pos h6]
        obtain ⟨rfl, rfl⟩ := h1 (by omega)
        rw [e]
        (repeat (refine stg_ ?_))
        (refine ⟨⟨[], trivial, by decide, ⟨_, rfl, rfl, ⟨_, _, rfl, rfl, ⟨_, _, rfl, ⟨rfl, ?_⟩, rfl⟩⟩⟩⟩⟩; (conv => whnf))
        all_goals rfl
      · have e : rdE s = 0 := by rw [hfin, fnE, if_neg (by omega), if_neg (by rw [h6]; decide)]
        obtain ⟨rfl, rfl⟩ := h0 e
        (repeat (refine stg_ ?_))
        (refine ⟨⟨[some 1], ⟨by decide, ?_, trivial, trivial⟩, by decide, ⟨_, rfl, rfl, ⟨_, _, rfl, ⟨by decide, ?_⟩, ⟨_, _, rfl, ⟨rfl, ?_⟩, rfl⟩⟩⟩⟩⟩)
        · rfl
        · rw [hd]; rfl
        · rfl
def upE (s : ByteArray) : Nat → Nat → Nat
  | 0, _ => 0
  | f + 1, k => if (uK s k : Int) = sumB (dtK s k) then upE s f (k + 1) else 10
def upC (s : ByteArray) : Nat := if rdE s = 0 then upE s (cnt s) 0 else rdE s
theorem rdE_zero {s : ByteArray} (h : rdE s = 0) : hdE s = 0 := by
  rw [rdE] at h
  split at h
  · omega
  · omega
theorem ents_succ (s : ByteArray) (k : Nat) : (ents s (k + 1)).map TTable.D = (ents s k).map TTable.D ++ [TTable.D ⟨tgK s k, dtK s k⟩] := by simp [ents, List.range_succ]
theorem ents_len (s : ByteArray) (k : Nat) : ((ents s k).map TTable.D).length = k := by simp [ents]
set_option maxHeartbeats 4000000 in
theorem UnpackTables_v (s : ByteArray) (v : V) (bs : List Blk) (h0 : upC s = 0 → v = .tup [.own 1 0 (cnt s), .d (.int .i64 0)] ∧ bs = [.arr 2 ((ents s (cnt s)).map TTable.D) true])
    (h1 : ¬ upC s = 0 → v = .tup [.nils, .d (.int .i64 (upC s))] ∧ bs = []) : PC Tryd.prog 7 [.d (.str s)] v bs := by
  refine pc_intro ttOk (by kernel_rfl) Tryd.func7 rfl (by kernel_rfl) (by kernel_rfl) (by kernel_rfl) (fun hw => ?_)
  have hs : s.size ≤ 9223372036854775807 := hw.1
  (conv => whnf)
  rcases Nat.eq_zero_or_pos (rdE s) with hr | hr
  · have c0 := readEntries_v s _ _ (fun _ => ⟨rfl, rfl⟩) (fun h => absurd hr h)
    obtain ⟨hz1, hz2, hz3⟩ := hdE_zero (rdE_zero hr)
    have hup : upC s = upE s (cnt s) 0 := by rw [upC, if_pos hr]
    have h20 : cnt s < 20 := by omega
    have hd := entL_len s (cnt s)
    (refine cla_ (c0) ?_)
    (repeat (refine stg_ ?_))
    refine LoopW.go (α := Nat) (fun k => [(6, .own 2 0 ((ents s k).map TTable.D).length), (17, .own 1 0 (cnt s)), (18, .d (.int .i64 (cnt s : Nat))), (19, .d (.int .i64 k))]) (fun k => [.gone, .arr 5 (entL s (cnt s)) true, .arr 2 ((ents s k).map TTable.D) true]) (fun k => k ≤ cnt s ∧ upE s (cnt s) 0 = upE s (cnt s - k) k) (fun k => cnt s - k) 0 (Weak.trans (Weak.adopt (k := 6) rfl 2 true) covT_) ⟨by omega, rfl⟩ (fun k hk => ?_)
    obtain ⟨hk1, hk2⟩ := hk
    have hd2 := ents_len s k
    have hd3 : (ents s k).length = k := by simp [ents]
    (conv => whnf)
    (refine br_ (fun h4 => ?_) (fun h4 => ?_))
    · have hx := entL_at (s := s) (n := cnt s) (k := k) (by omega)
      have hS := ents_succ s k
      have c1 := Sum32_v (dtK s k)
      rw [show cnt s - k = (cnt s - (k + 1)) + 1 by omega, upE] at hk2
      (repeat (refine stg_ ?_))
      (refine cla_ (c1) ?_)
      (repeat (refine stg_ ?_))
      (refine br_ (fun h5 => ?_) (fun h5 => ?_))
      · have e : upC s = 10 := by rw [hup, hk2, if_neg h5]
        obtain ⟨rfl, rfl⟩ := h1 (by omega)
        rw [e]
        (repeat (refine stg_ ?_))
        (refine ⟨⟨[], trivial, by decide, ⟨_, rfl, rfl, ⟨_, _, rfl, rfl, ⟨_, _, rfl, ⟨rfl, ?_⟩, rfl⟩⟩⟩⟩⟩; (conv => whnf))
        all_goals rfl
      · rw [if_pos h5] at hk2
        (repeat (refine stg_ ?_))
        refine NextW.go (k + 1) (Weak.cov ⟨?_, rfl, rfl, rfl, trivial⟩ ⟨trivial, rfl, ?_, trivial⟩ rfl) ⟨by omega, hk2⟩ (by omega)
        · rw [hS]; simp only [List.length_append]; rfl
        · rw [hS, List.take_length]; try rfl
    · obtain rfl : k = cnt s := by omega
      rw [Nat.sub_self, upE] at hk2
      obtain ⟨rfl, rfl⟩ := h0 (by omega)
      (repeat (refine stg_ ?_))
      (refine ⟨⟨[some 2], ⟨by decide, ?_, trivial, trivial⟩, by decide, ⟨_, rfl, rfl, ⟨_, _, rfl, ⟨by decide, ?_⟩, ⟨_, _, rfl, ⟨rfl, ?_⟩, rfl⟩⟩⟩⟩⟩)
      · rfl
      · rw [hd2]; rfl
      · rfl
  · have c0 := readEntries_v s _ _ (fun h => absurd h (by omega)) (fun _ => ⟨rfl, rfl⟩)
    have e : upC s = rdE s := by rw [upC, if_neg (by omega)]
    obtain ⟨rfl, rfl⟩ := h1 (by omega)
    rw [e]
    (refine cla_ (c0) ?_)
    (refine br_ (fun h2 => ?_) (fun h2 => ?_) <;> (repeat (refine stg_ ?_)))
    · (refine ⟨⟨[], trivial, by decide, ⟨_, rfl, rfl, ⟨_, _, rfl, rfl, ⟨_, _, rfl, ⟨rfl, ?_⟩, rfl⟩⟩⟩⟩⟩; (conv => whnf))
      all_goals rfl
    · exfalso; omega


def dmL (s : ByteArray) (k : Nat) : List ByteArray := ((List.range k).filter (fun i => !decide ((uK s i : Int) = sumB (dtK s i)))).map (tgK s)
theorem dmL_no {s : ByteArray} {k : Nat} (h : (uK s k : Int) = sumB (dtK s k)) : dmL s (k + 1) = dmL s k := by
  simp [dmL, List.range_succ, h]
theorem dmL_yes {s : ByteArray} {k : Nat} (h : ¬ (uK s k : Int) = sumB (dtK s k)) : (dmL s (k + 1)).map D.str = (dmL s k).map D.str ++ [.str (tgK s k)] := by
  simp [dmL, List.range_succ, h]
theorem dmL_len (s : ByteArray) (k : Nat) : (dmL s k).length ≤ k := by
  have := List.length_filter_le (fun i => !decide ((uK s i : Int) = sumB (dtK s i))) (List.range k)
  simp only [dmL, List.length_map, List.length_range] at *
  exact this
theorem upC_zero {s : ByteArray} (h : upC s = 0) : rdE s = 0 := by
  rw [upC] at h
  split at h
  · assumption
  · omega
theorem lpE_ok {s : ByteArray} : ∀ f k, lpE s f k = 0 → ∀ j, k ≤ j → j < k + f → stE s j = 0
  | 0, k, _, j, h1, h2 => by omega
  | f + 1, k, h, j, h1, h2 => by
    rw [lpE] at h
    split at h
    · rename_i h3
      rcases Nat.lt_or_ge k j with h4 | h4
      · exact lpE_ok f (k + 1) h j h4 (by omega)
      · obtain rfl : j = k := by omega
        exact h3
    · rename_i h3
      exact absurd h h3
theorem rd_ok {s : ByteArray} (h : rdE s = 0) {k : Nat} (hk : k < cnt s) : oK s k = aK s k ∧ aK s (k + 1) ≤ s.size := by
  have h1 : lpE s (cnt s) 0 = 0 := by
    rw [rdE] at h
    split at h
    · omega
    · split at h
      · omega
      · omega
  have h2 := lpE_ok _ _ h1 k (by omega) (by omega)
  rw [stE] at h2
  split at h2
  · omega
  · split at h2
    · omega
    · omega
set_option maxHeartbeats 4000000 in
theorem DamagedTables_v (s : ByteArray) (v : V) (bs : List Blk) (h0 : rdE s = 0 → v = .tup [.own 1 0 (dmL s (cnt s)).length, .d (.int .i64 0)] ∧ bs = [.arr 1 ((dmL s (cnt s)).map D.str) true])
    (h1 : ¬ rdE s = 0 → v = .tup [.nils, .d (.int .i64 (rdE s))] ∧ bs = []) : PC Tryd.prog 8 [.d (.str s)] v bs := by
  refine pc_intro ttOk (by kernel_rfl) Tryd.func8 rfl (by kernel_rfl) (by kernel_rfl) (by kernel_rfl) (fun hw => ?_)
  have hs : s.size ≤ 9223372036854775807 := hw.1
  (conv => whnf)
  rcases Nat.eq_zero_or_pos (rdE s) with hr | hr
  · have c0 := readEntries_v s _ _ (fun _ => ⟨rfl, rfl⟩) (fun h => absurd hr h)
    obtain ⟨hz1, hz2, hz3⟩ := hdE_zero (rdE_zero hr)
    have h20 : cnt s < 20 := by omega
    have hd := entL_len s (cnt s)
    (refine cla_ (c0) ?_)
    (repeat (refine stg_ ?_))
    refine LoopW.go (α := Nat) (fun k => [(6, .own 2 0 ((dmL s k).map D.str).length), (17, .own 1 0 (cnt s)), (18, .d (.int .i64 (cnt s : Nat))), (19, .d (.int .i64 k))]) (fun k => [.gone, .arr 5 (entL s (cnt s)) true, .arr 1 ((dmL s k).map D.str) true]) (fun k => k ≤ cnt s) (fun k => cnt s - k) 0 (Weak.trans (Weak.adopt (k := 6) rfl 1 true) covT_) (by omega) (fun k hk => ?_)
    have hd2 := dmL_len s k
    have hd3 : ((dmL s k).map D.str).length ≤ k := by rw [List.length_map]; exact hd2
    (conv => whnf)
    (refine br_ (fun h4 => ?_) (fun h4 => ?_))
    · have hx := entL_at (s := s) (n := cnt s) (k := k) (by omega)
      have c1 := Sum32_v (dtK s k)
      (repeat (refine stg_ ?_))
      (refine cla_ (c1) ?_)
      (repeat (refine stg_ ?_))
      (refine br_ (fun h5 => ?_) (fun h5 => ?_))
      · have hS := dmL_yes h5
        (repeat (refine stg_ ?_))
        refine NextW.go (k + 1) (Weak.cov ⟨?_, rfl, rfl, rfl, trivial⟩ ⟨trivial, rfl, ?_, trivial⟩ rfl) (by omega) (by omega)
        · rw [hS]; simp only [List.length_append]; rfl
        · rw [hS, List.take_length]; try rfl
      · have hS := dmL_no h5
        (repeat (refine stg_ ?_))
        refine NextW.go (k + 1) (Weak.cov ⟨?_, rfl, rfl, rfl, trivial⟩ ⟨trivial, rfl, ?_, trivial⟩ rfl) (by omega) (by omega)
        · rw [hS]; rfl
        · rw [hS]
    · obtain rfl : k = cnt s := by omega
      obtain ⟨rfl, rfl⟩ := h0 (by omega)
      (repeat (refine stg_ ?_))
      (refine ⟨⟨[some 2], ⟨by decide, ?_, trivial, trivial⟩, by decide, ⟨_, rfl, rfl, ⟨_, _, rfl, ⟨by decide, ?_⟩, ⟨_, _, rfl, ⟨rfl, ?_⟩, rfl⟩⟩⟩⟩⟩)
      · rfl
      · rw [List.length_map]; rfl
      · rfl
  · have c0 := readEntries_v s _ _ (fun h => absurd h (by omega)) (fun _ => ⟨rfl, rfl⟩)
    obtain ⟨rfl, rfl⟩ := h1 (by omega)
    (refine cla_ (c0) ?_)
    (refine br_ (fun h2 => ?_) (fun h2 => ?_) <;> (repeat (refine stg_ ?_)))
    · (refine ⟨⟨[], trivial, by decide, ⟨_, rfl, rfl, ⟨_, _, rfl, rfl, ⟨_, _, rfl, ⟨rfl, ?_⟩, rfl⟩⟩⟩⟩⟩; (conv => whnf))
      all_goals rfl
    · exfalso; omega
def srcD (code : List D) (pl sd : Int) : D := .st [.lst code, .int .i64 pl, .int .u64 sd]
def srcR (cc : Value) (pl sd : Int) : D := .st [.raw cc, .int .i64 pl, .int .u64 sd]
def stOK (pl sd : Int) : Prop := 0 ≤ pl ∧ pl ≤ 4611686018427387904 ∧ 0 ≤ sd ∧ sd ≤ 18446744073709551615
theorem stOK_in {pl sd : Int} (h : stOK pl sd) : inR .i64 pl ∧ inR .u64 sd := by
  obtain ⟨h1, h2, h3, h4⟩ := h
  have e1 : IntKind.i64.min = -9223372036854775808 := rfl
  have e2 : IntKind.i64.max = 9223372036854775807 := rfl
  have e3 : IntKind.u64.min = 0 := rfl
  have e4 : IntKind.u64.max = 18446744073709551615 := rfl
  unfold inR
  omega
structure PE (P : Program) (f : FuncId) (code : List D) (c : Int) (rest : List V) (Q : V → Prop) : Prop where
  fn : ∃ fn, P.funcs[f]? = some fn ∧ (fn.name == "runtime.NumGoroutine") = false ∧ fn.body.isNone = false
  run : ∀ (pl sd : Int) (w : World) (g : Nat) (t : TypeId) (cc : Value) (args : List Value), stOK pl sd → pl + c ≤ 4611686018427387904 → w.heap[g]? = some (.cells #[cc, .int .i64 pl, .int .u64 sd] t (0, 0)) → repD [g] w (.lst code) [cc] → repT w [none] [.gone] rest args →
    Calls P f (.pointer (some ⟨g, 0, none⟩) :: args).toArray w fun en w' => ∃ v cv pl' sd', Q v ∧ pl ≤ pl' ∧ pl' ≤ pl + c ∧ stOK pl' sd' ∧ en = .returned cv ∧ (∀ M h, rep w' M h v cv) ∧ w'.heap[g]? = some (.cells #[cc, .int .i64 pl', .int .u64 sd'] t (0, 0)) ∧ Kept w w' [g] [g]
theorem srcD_rep {O : List Nat} {w : World} {code : List D} {pl sd : Int} {cs : List Value} : repD O w (srcD code pl sd) cs ↔ ∃ cc, cs = [cc, .int .i64 pl, .int .u64 sd] ∧ repD O w (.lst code) [cc] ∧ inR .i64 pl ∧ inR .u64 sd := by
  constructor
  · intro H
    have H' : repDs O w [.lst code, .int .i64 pl, .int .u64 sd] cs := H
    obtain ⟨c1, c2, rfl, h1, c3, c4, rfl, ⟨rfl, h2⟩, c5, c6, rfl, ⟨rfl, h3⟩, rfl⟩ := H'
    have h1' := h1
    obtain ⟨a, cap, n, rfl, _⟩ := h1'
    exact ⟨_, rfl, h1, h2, h3⟩
  · rintro ⟨cc, rfl, h1, h2, h3⟩
    exact ⟨[cc], [.int .i64 pl, .int .u64 sd], rfl, h1, [.int .i64 pl], [.int .u64 sd], rfl, ⟨rfl, h2⟩, [.int .u64 sd], [], rfl, ⟨rfl, h3⟩, rfl⟩
theorem srcR_rep {O : List Nat} {w : World} {cc : Value} {pl sd : Int} {cs : List Value} : repD O w (srcR cc pl sd) cs ↔ cs = [cc, .int .i64 pl, .int .u64 sd] ∧ cc.oneCell' = true ∧ inR .i64 pl ∧ inR .u64 sd := by
  constructor
  · intro H
    have H' : repDs O w [.raw cc, .int .i64 pl, .int .u64 sd] cs := H
    obtain ⟨c1, c2, rfl, ⟨rfl, h1⟩, c3, c4, rfl, ⟨rfl, h2⟩, c5, c6, rfl, ⟨rfl, h3⟩, rfl⟩ := H'
    exact ⟨rfl, h1, h2, h3⟩
  · rintro ⟨rfl, h1, h2, h3⟩
    exact ⟨[cc], [.int .i64 pl, .int .u64 sd], rfl, ⟨rfl, h1⟩, [.int .i64 pl], [.int .u64 sd], rfl, ⟨rfl, h2⟩, [.int .u64 sd], [], rfl, ⟨rfl, h3⟩, rfl⟩
structure SrcB (code : List D) (h : List Blk) (D0 : Int → Int → D) : Prop where
  out : ∀ {B : Nat} {w : World} {M : MM}, MInv B w M h → ∀ {pl sd : Int} {cs : List Value}, repD M.O w (D0 pl sd) cs → ∃ cc, cs = [cc, .int .i64 pl, .int .u64 sd] ∧ repD M.O w (.lst code) [cc] ∧
    ∀ (O : List Nat) (w' : World) (pl' sd' : Int), (∀ y, y ∉ M.O → y < w.heap.size → y ∉ O ∧ w'.heap[y]? = w.heap[y]?) → stOK pl' sd' → repD O w' (D0 pl' sd') [cc, .int .i64 pl', .int .u64 sd']
theorem SrcB.d {code : List D} {h : List Blk} : SrcB code h (srcD code) where
  out {B w M} hI {pl sd cs} H := by
    obtain ⟨cc, rfl, h1, h2, h3⟩ := srcD_rep.1 H
    refine ⟨cc, rfl, h1, fun O w' pl' sd' hx hs => srcD_rep.2 ⟨cc, rfl, repD_mv hx _ _ h1, stOK_in hs⟩⟩
theorem SrcB.r {code : List D} {h : List Blk} {cc : Value} {k : Nat} {e0 : Env} {f0 : Nat → Value} (hk : h[k]? = some (.keep e0 f0)) (he : gt e0 0 = .d (.lst code)) (hf : f0 0 = cc) : SrcB code h (srcR cc) where
  out {B w M} hI {pl sd cs} H := by
    obtain ⟨rfl, h1, h2, h3⟩ := srcR_rep.1 H
    obtain ⟨m, hm⟩ := at_lt (xs := M) (k := k) (by rw [hI.len]; exact (List.getElem?_eq_some_iff.1 hk).1)
    have hkeep := hI.blk k _ _ hk hm
    have h4 : rep w M h (gt e0 0) (f0 0) := hkeep 0
    rw [he, hf] at h4
    have h5 : repD M.O w (.lst code) [cc] := by
      have := rep1_of_rep (v := .d (.lst code)) rfl h4
      exact this
    refine ⟨cc, rfl, h5, fun O w' pl' sd' hx hs => srcR_rep.2 ⟨rfl, h1, stOK_in hs⟩⟩
theorem PE.call {P : Program} {f : FuncId} {code : List D} {c : Int} {rest : List V} {Q : V → Prop} (pe : PE P f code c rest Q) {pl sd : Int} {D0 : Int → Int → D} {b : Nat} {e : Env} {h : List Blk} {K : V → Env → List Blk → Prop}
    (hs : SrcB code h D0) (hb : h[b]? = some (.box (.d (D0 pl sd)))) (hb0 : Nat.ble 1 b = true) (hr : plains rest = true) (hst : stOK pl sd) (hpl : pl + c ≤ 4611686018427387904)
    (H : ∀ v pl' sd', Q v → pl ≤ pl' → pl' ≤ pl + c → stOK pl' sd' → K v e (h.set b (.box (.d (D0 pl' sd'))))) : CallM P f (.pB b [] 0 :: rest) e h K where
  fn := pe.fn
  run B X N M a w args R hargs := by
    obtain ⟨c0, args, rfl, h1, h2⟩ := hargs
    have h2' := plains_rep (w' := w) (M' := [none]) (h' := [.gone]) rest args hr h2
    have hb1 : 1 ≤ b := Nat.le_of_ble_eq_true hb0
    obtain ⟨g, F, m1, rfl⟩ := rep_pB.1 (rep_of_rep1 h1)
    obtain ⟨rfl, arr, t, hg, hcs⟩ : F = [] ∧ ∃ arr t, w.heap[g]? = some (.cells arr t (0, 0)) ∧ repC w M h (.d (D0 pl sd)) arr.toList := R.inv.blk b _ _ hb m1
    obtain ⟨cc, ha, k1, k2⟩ := hs.out R.inv hcs
    obtain rfl : arr = #[cc, .int .i64 pl, .int .u64 sd] := by
      apply Array.toList_inj.1
      exact ha
    have hgO : g ∈ M.O := mem_O m1 (by simp [mO])
    have kg : repD [g] w (.lst code) [cc] := by
      refine repD_mv (fun y hy _ => ⟨fun q => ?_, rfl⟩) _ _ k1
      have hyg : y = g := by simpa using q
      exact hy (hyg ▸ hgO)
    refine (pe.run pl sd w g t cc args hst hpl hg kg h2').mono ?_
    rintro en w' ⟨v, cv, pl', sd', qv, p1, p2, p3, rfl, q1, q4, q2⟩
    have hxB : Ext B w' := by
      have hlo := R.inv.lo b _ _ hb m1 rfl
      refine Below.trans R.ext ⟨q2.os, q2.tape, q2.output, q2.size, fun k hk => q2.ch k (Nat.lt_of_lt_of_le hk R.base) (fun hm => ?_)⟩
      have := hlo k (by simpa [mO] using hm)
      omega
    obtain ⟨M', R', _, _⟩ := R.reset (w' := w') hxB m1 (by omega) hb (.inl rfl) [] [] (by simp) (by simp) (by simp) (by simp) (m' := some (g, [])) q2.nd
      (fun x hx => .inl hx) q2.hi q2.size (fun x hx hxm => q2.ch x hx hxm) (k' := .box (.d (D0 pl' sd'))) rfl
      (fun _ g1 F1 e1 => by
        cases e1
        refine ⟨⟨[], rfl⟩, ?_, fun arr1 t1 hg1 => ?_⟩
        · simp only [nOf, hb, List.getElem?_set_self (List.getElem?_eq_some_iff.1 hb).1]
        · rw [hg] at hg1
          cases hg1
          exact ⟨_, q4, rfl⟩)
      (fun M' h' hx => ⟨rfl, _, t, q4, k2 _ _ _ _ hx p3⟩)
    exact ⟨v, cv, e, _, M', rfl, H v pl' sd' qv p1 p2 p3, R', q1 _ _⟩
section
variable {P : Program} {f : FuncId} {code : List D} {c : Int} {rest : List V} {Q : V → Prop} {pl sd : Int} {b : Nat} {e : Env} {h : List Blk} {K : V → Env → List Blk → Prop}
theorem cls_ (pe : PE P f code c rest Q) (hst : stOK pl sd) (hpl : pl + c ≤ 4611686018427387904) {G : V → Int → Int → Prop} (H : ∀ v pl' sd', Q v → pl ≤ pl' → pl' ≤ pl + c → stOK pl' sd' → G v pl' sd') (hb : h[b]? = some (.box (.d (srcD code pl sd))) := by rfl)
    (hb0 : Nat.ble 1 b = true := by rfl) (hr : plains rest = true := by rfl) (hk : ∀ v pl' sd', G v pl' sd' → K v e (h.set b (.box (.d (srcD code pl' sd')))) := by (intro v pl' sd' H; (conv => whnf); exact H)) : CallW P false f (.pB b [] 0 :: rest) e h K :=
  ⟨.inr ⟨rfl, pe.call SrcB.d hb hb0 hr hst hpl (fun v pl' sd' q1 q2 q3 q4 => hk _ _ _ (H v pl' sd' q1 q2 q3 q4))⟩⟩
end
def eQ (tt : TT) (rs : List ResultVar) (c pl : Int) (Q : V → Prop) (cc : Value) (G : Blk) : Post
  | .normal => fun e h => retV tt rs e h fun va => Q va ∧ va.resOK = true ∧ ∃ pl' sd' r, pl ≤ pl' ∧ pl' ≤ pl + c ∧ stOK pl' sd' ∧ h = .gone :: G :: .box (.d (srcR cc pl' sd')) :: r
  | .ret => fun e h => retV tt rs e h fun va => Q va ∧ va.resOK = true ∧ ∃ pl' sd' r, pl ≤ pl' ∧ pl' ≤ pl + c ∧ stOK pl' sd' ∧ h = .gone :: G :: .box (.d (srcR cc pl' sd')) :: r
  | .exit _ => fun _ _ => False
theorem pe_intro {P : Program} {tt : TT} (hT : TOk P tt) (hm : P.follows .mixedOrders = true) {f : FuncId} {fn : Func} {cd : Code} (hf : P.funcs[f]? = some fn) (hb : fn.body = some cd) (hname : (fn.name == "runtime.NumGoroutine") = false)
    (hN : codeB fn.ntmps cd = true) {code : List D} {c : Int} {rest : List V} (hA : Nat.ble (rest.length + 1) fn.ntmps = true) {Q : V → Prop} (hrp : plains rest = true)
    (H : ∀ (k : Nat → Option Obj) (s g : Nat) (t : TypeId) (cc : Value) (pl sd : Int), wfVs rest → stOK pl sd → pl + c ≤ 4611686018427387904 →
      wpC P tt cd (eQ tt fn.results.toList c pl Q cc (.gho k s g 4 t)) (argE 0 (.pB 2 [] 0 :: rest)) [.gone, .gho k s g 4 t, .box (.d (srcR cc pl sd)), .keep [(0, .d (.lst code))] (fun _ => cc)]) : PE P f code c rest Q where
  fn := ⟨fn, hf, hname, by rw [hb]; rfl⟩
  run := fun pl sd w g t cc args hst hpl hg hcode hargs => by
    have hO : MM.O [none, none, some (g, []), none] = [g] := by simp [MM.O, mO]
    have hglt := lt_of_heap hg
    let fr : Nat → Option Obj := fun b => if b ∈ [g] then none else w.heap[b]?
    have hfr : ∀ b o, fr b = some o → b ∉ [g] ∧ w.heap[b]? = some o := fun b o hc => by
      simp only [fr] at hc
      split at hc
      · cases hc
      · rename_i hm'; exact ⟨hm', hc⟩
    have hlenT : ∀ (vs : List V) (cs : List Value), repT w [none] [.gone] vs cs → cs.length = vs.length := by
      intro vs
      induction vs with
      | nil => intro cs H; cases H; rfl
      | cons v vs ih => intro cs H; obtain ⟨c, cs', rfl, _, h2⟩ := H; simp [ih _ h2]
    have hl := hlenT rest args hargs
    have hA' := Nat.le_of_ble_eq_true hA
    have hcc1 : cc.oneCell' = true := repD_one (.lst code) [cc] hcode cc (by simp)
    have hargs2 : repT w [none, none, some (g, []), none] [.gone, .gho fr w.heap.size g 4 t, .box (.d (srcR cc pl sd)), .keep [(0, .d (.lst code))] (fun _ => cc)] (.pB 2 [] 0 :: rest) (.pointer (some ⟨g, 0, none⟩) :: args) := by
      refine ⟨_, args, rfl, rep1_of_rep rfl (rep_pB.2 ⟨g, [], rfl, rfl⟩), plains_rep rest args hrp hargs⟩
    have R : Rep { w with heap := #[] } [] fn.ntmps [none, none, some (g, []), none] (argE 0 (.pB 2 [] 0 :: rest)) [.gone, .gho fr w.heap.size g 4 t, .box (.d (srcR cc pl sd)), .keep [(0, .d (.lst code))] (fun _ => cc)]
        { tmps := (.pointer (some ⟨g, 0, none⟩) :: args).toArray ++ Array.replicate (fn.ntmps - (Value.pointer (some ⟨g, 0, none⟩) :: args).toArray.size) Go.undef, defers := [] } w := {
      ext := ⟨rfl, rfl, rfl, Nat.zero_le _, fun k hk => by simp at hk⟩
      inv := ⟨rfl, fun b k m hk hm => by
          match b, hk, hm with
          | 0, hk, hm => simp at hk; subst hk; trivial
          | 1, hk, hm =>
            simp at hk hm
            subst hk
            exact ⟨fun b o hc => by rw [hO]; exact hfr b o hc, Nat.le_refl _, [], rfl, .inr ⟨_, hg, rfl⟩⟩
          | 2, hk, hm =>
            simp at hk hm
            subst hk
            subst hm
            exact ⟨rfl, _, t, hg, srcR_rep.2 ⟨rfl, hcc1, stOK_in hst⟩⟩
          | 3, hk, hm =>
            simp at hk hm
            subst hk
            intro k
            cases k with
            | zero =>
              refine rep_of_rep1 ?_
              show repD (MM.O [none, none, some (g, []), none]) w (.lst code) [cc]
              rw [hO]; exact hcode
            | succ k => trivial
          | b + 4, hk, hm => simp at hk, by rw [hO]; simp, fun _ _ _ _ _ _ g' _ => Nat.zero_le _, by
          rw [hO]
          intro x hx
          have : x = g := by simpa using hx
          subst this
          exact hglt⟩
      env := fun k => by
        rw [argE_get, if_pos (Nat.zero_le _), Nat.sub_zero]
        split
        · rename_i v hv
          obtain ⟨cc', q1, q2⟩ := repT_get _ _ k v hargs2 hv
          have hk : k < (Value.pointer (some ⟨g, 0, none⟩) :: args).length := (List.getElem?_eq_some_iff.1 q1).1
          have : ((.pointer (some ⟨g, 0, none⟩) :: args).toArray ++ Array.replicate (fn.ntmps - (Value.pointer (some ⟨g, 0, none⟩) :: args).toArray.size) Go.undef).getD k Go.undef = cc' := by
            rw [Array.getD_eq_getD_getElem?, Array.getElem?_append_left (by simpa using hk)]
            simp only [List.getElem?_toArray, q1, Option.getD_some]
          dsimp only
          rw [this]
          exact rep_of_rep1 q2
        · trivial
      sz := by simp [hl]; omega
      df := rfl
      fr := rfl
      fh := rfl }
    have hwf : wfVs rest := repT_wf _ _ hargs
    refine calls_of_wp hf hb (wp_mono (code_sound hT hm cd _ _ _ _ _ _ hN (H fr w.heap.size g t cc pl sd hwf hst hpl) R) fun x a' w' hx => ?_)
    have fin : ∀ (e : Env) (h : List Blk) (M : MM), retV tt fn.results.toList e h (fun va => Q va ∧ va.resOK = true ∧ ∃ pl' sd' r, pl ≤ pl' ∧ pl' ≤ pl + c ∧ stOK pl' sd' ∧ h = .gone :: .gho fr w.heap.size g 4 t :: .box (.d (srcR cc pl' sd')) :: r) → Rep { w with heap := #[] } [] fn.ntmps M e h a' w' →
        a'.defers = [] ∧ ∃ cv, (results fn a'.tmps).run P w' = .ok cv w' ∧ ∃ v cv' pl' sd', Q v ∧ pl ≤ pl' ∧ pl' ≤ pl + c ∧ stOK pl' sd' ∧ Ending.returned cv = .returned cv' ∧ (∀ M h, rep w' M h v cv') ∧ w'.heap[g]? = some (.cells #[cc, .int .i64 pl', .int .u64 sd'] t (0, 0)) ∧ Kept w w' [g] [g] := by
      intro e h M hr R'
      have post : ∀ {va : V} {cv : Value}, rep w' M h va cv → (Q va ∧ va.resOK = true ∧ ∃ pl' sd' r, pl ≤ pl' ∧ pl' ≤ pl + c ∧ stOK pl' sd' ∧ h = .gone :: .gho fr w.heap.size g 4 t :: .box (.d (srcR cc pl' sd')) :: r) → ∃ v cv' pl' sd', Q v ∧ pl ≤ pl' ∧ pl' ≤ pl + c ∧ stOK pl' sd' ∧ Ending.returned cv = .returned cv' ∧ (∀ M h, rep w' M h v cv') ∧ w'.heap[g]? = some (.cells #[cc, .int .i64 pl', .int .u64 sd'] t (0, 0)) ∧ Kept w w' [g] [g] := by
        rintro va cv hva ⟨hq, hv, pl', sd', r, p1, p2, p3, rfl⟩
        obtain ⟨m1, hm1⟩ := at_lt (xs := M) (k := 1) (by rw [R'.inv.len]; simp)
        obtain ⟨q1, q2, F', q3, q45⟩ : (∀ b o, fr b = some o → b ∉ M.O ∧ w'.heap[b]? = some o) ∧ w.heap.size ≤ w'.heap.size ∧ ∃ F', M[2]? = some (some (g, F')) ∧ (4 = 0 ∨ ∃ arr', w'.heap[g]? = some (.cells arr' t (0, 0)) ∧ arr'.size + 1 = 4) := R'.inv.blk 1 _ _ rfl hm1
        obtain ⟨arr', q4, q5⟩ : ∃ arr', w'.heap[g]? = some (.cells arr' t (0, 0)) ∧ arr'.size + 1 = 4 := by
          rcases q45 with q | q
          · cases q
          · exact q
        obtain ⟨rfl, arr2, t2, z1, z2⟩ : F' = [] ∧ ∃ arr t, w'.heap[g]? = some (.cells arr t (0, 0)) ∧ repD M.O w' (srcR cc pl' sd') arr.toList := R'.inv.blk 2 _ _ rfl q3
        rw [q4] at z1
        cases z1
        obtain ⟨z3, _⟩ := srcR_rep.1 z2
        obtain rfl : arr' = #[cc, .int .i64 pl', .int .u64 sd'] := Array.toList_inj.1 z3
        have back : ∀ x, x < w.heap.size → x ∉ [g] → x ∉ M.O ∧ w'.heap[x]? = w.heap[x]? := fun x hx hxm => by
          have e1 : fr x = w.heap[x]? := by simp only [fr]; rw [if_neg hxm]
          have e2 : w.heap[x]? = some w.heap[x] := Array.getElem?_eq_getElem hx
          obtain ⟨u1, u2⟩ := q1 x _ (e1.trans e2)
          exact ⟨u1, by rw [u2, e2]⟩
        exact ⟨va, cv, pl', sd', hq, p1, p2, p3, rfl, fun M h => res_rep hv hva, q4, ⟨R'.ext.os, R'.ext.tape, R'.ext.output, q2, fun x hx hxm => (back x hx hxm).2, by simp, fun x hx => .inl hx, fun x hx => R'.inv.hi x (mem_O q3 hx)⟩⟩
      obtain ⟨vs, cvs, h1, h2, h3, h4⟩ := res_sound hT R' _ _ hr
      refine ⟨R'.df, _, run_results h4, ?_⟩
      match vs, cvs, h2 with
      | [va], [cv], _ =>
        obtain ⟨c', k1, k2⟩ := h3 0 va rfl
        cases k1
        exact post k2 h1
      | [], [], _ => exact post (va := .tup []) (cv := .tuple #[]) ⟨[], rfl, rfl⟩ h1
      | va :: vb :: vs, ca :: cb :: cvs, h2 =>
        exfalso
        dsimp only at h1
        cases hok : okTs (va :: vb :: vs) with
        | false => rw [hok] at h1; exact h1.elim
        | true =>
          rw [hok] at h1
          simp only [cond_true] at h1
          have := h1.2.1
          cases this
    cases x with
    | normal => obtain ⟨e, h, M, k1, k2⟩ := hx; exact fin e h M k1 k2
    | ret => obtain ⟨e, h, M, k1, k2⟩ := hx; exact fin e h M k1 k2
    | exit id => obtain ⟨e, h, M, k1, k2⟩ := hx; exact k1.elim
    | goto l => exact hx.elim
    | panic => exact hx.elim
    | outgrown => exact hx.elim
theorem clr_ {P : Program} {f : FuncId} {code : List D} {c : Int} {rest : List V} {Q : V → Prop} {pl sd : Int} {b : Nat} {e : Env} {h : List Blk} {K : V → Env → List Blk → Prop} {cc : Value} {e0 : Env} {f0 : Nat → Value}
    (pe : PE P f code c rest Q) (hst : stOK pl sd) (hpl : pl + c ≤ 4611686018427387904) {G : V → Int → Int → Prop} (H : ∀ v pl' sd', Q v → pl ≤ pl' → pl' ≤ pl + c → stOK pl' sd' → G v pl' sd') (hb : h[b]? = some (.box (.d (srcR cc pl sd))) := by rfl)
    (hk3 : h[3]? = some (.keep e0 f0) := by rfl) (he : gt e0 0 = .d (.lst code) := by rfl) (hf : f0 0 = cc := by rfl) (hb0 : Nat.ble 1 b = true := by rfl) (hr : plains rest = true := by rfl)
    (hk : ∀ v pl' sd', G v pl' sd' → K v e (h.set b (.box (.d (srcR cc pl' sd')))) := by (intro v pl' sd' H; (conv => whnf); exact H)) : CallW P false f (.pB b [] 0 :: rest) e h K :=
  ⟨.inr ⟨rfl, pe.call (SrcB.r hk3 he hf) hb hb0 hr hst hpl (fun v pl' sd' q1 q2 q3 q4 => hk _ _ _ (H v pl' sd' q1 q2 q3 q4))⟩⟩
set_option maxHeartbeats 4000000 in
set_option maxRecDepth 1000000 in
theorem next_p (n g cap : Nat) (pl sd : Int) (t : TypeId) (a : Option Addr) (w : World) (hg : w.heap[g]? = some (.cells #[.slice a n cap, .int .i64 pl, .int .u64 sd] t (0, 0))) (hpl0 : 0 ≤ pl) (hpl : pl < 4611686018427387904) (hsd0 : 0 ≤ sd) (hsd : sd ≤ 18446744073709551615)
   (b o : Nat) (c : Nat) (hcc : c < 256) (hk : pl < n → a = some ⟨b, o, none⟩ ∧ w.cell? ⟨b, o + pl.toNat, none⟩ = some (.int .u8 c)) :
  Calls Tryd.prog 60 #[.pointer (some ⟨g, 0, none⟩)] w (fun e w' => ∃ v sd' : Int, e = .returned (.int .i64 v) ∧ 0 ≤ v ∧ v < 256 ∧ 0 ≤ sd' ∧ sd' ≤ 18446744073709551615 ∧ w'.heap = ((w.setCell ⟨g, 1, none⟩ (.int .i64 (pl + 1))).setCell ⟨g, 2, none⟩ (.int .u64 sd')).heap ∧ w'.os = w.os ∧ w'.tape = w.tape ∧ w'.output = w.output) := by
  have hc0 : w.cell? ⟨g, 0, none⟩ = some (.slice a n cap) := by simp [World.cell?, hg]
  have hc1 : w.cell? ⟨g, 1, none⟩ = some (.int .i64 pl) := by simp [World.cell?, hg]
  have hc2 : w.cell? ⟨g, 2, none⟩ = some (.int .u64 sd) := by simp [World.cell?, hg]
  have hf1 : w.frozen? ⟨g, 1, none⟩ = false := by simp [World.frozen?, hg]
  have hw1 : IntKind.i64.wrap (pl + 1) = pl + 1 := by rw [IntKind.wrap_i64]; omega
  have mixed : Tryd.prog.follows .mixedOrders = true := by kernel_rfl
  have st1 := setCell_heap0 hg 1 (.int .i64 (pl + 1))
  have hd0 : (w.setCell ⟨g, 1, none⟩ (.int .i64 (pl + 1))).cell? ⟨g, 0, none⟩ = some (.slice a n cap) := by simp only [World.cell?, st1]; rfl
  have hd1 : (w.setCell ⟨g, 1, none⟩ (.int .i64 (pl + 1))).cell? ⟨g, 1, none⟩ = some (.int .i64 (pl + 1)) := by simp only [World.cell?, st1]; rfl
  have hd2 : (w.setCell ⟨g, 1, none⟩ (.int .i64 (pl + 1))).cell? ⟨g, 2, none⟩ = some (.int .u64 sd) := by simp only [World.cell?, st1]; rfl
  have he2 : (w.setCell ⟨g, 1, none⟩ (.int .i64 (pl + 1))).frozen? ⟨g, 2, none⟩ = false := by simp only [World.frozen?, st1]; rfl
  have hk0 : ∀ s, ((w.setCell ⟨g, 1, none⟩ (.int .i64 (pl + 1))).setCell ⟨g, 2, none⟩ (.int .u64 s)).cell? ⟨g, 0, none⟩ = some (.slice a n cap) := fun s => by simp only [World.cell?, setCell_heap0 st1]; rfl
  have hk1 : ∀ s, ((w.setCell ⟨g, 1, none⟩ (.int .i64 (pl + 1))).setCell ⟨g, 2, none⟩ (.int .u64 s)).cell? ⟨g, 1, none⟩ = some (.int .i64 (pl + 1)) := fun s => by simp only [World.cell?, setCell_heap0 st1]; rfl
  have hk2 : ∀ s, ((w.setCell ⟨g, 1, none⟩ (.int .i64 (pl + 1))).setCell ⟨g, 2, none⟩ (.int .u64 s)).cell? ⟨g, 2, none⟩ = some (.int .u64 s) := fun s => by simp only [World.cell?, setCell_heap0 st1]; rfl
  have hwr : ∀ x, 0 ≤ IntKind.u64.wrap x ∧ IntKind.u64.wrap x ≤ 18446744073709551615 := fun x => by rw [IntKind.wrap_u64]; omega
  have hand : ∀ x : Int, 0 ≤ x → x < 18446744073709551616 → 0 ≤ wrap64 (bits .and .u64 x 255) ∧ wrap64 (bits .and .u64 x 255) < 256 := fun x h1 h2 => by
    have e := bits_and_u64_nat x.toNat 255 (by omega) (by omega)
    rw [show ((x.toNat : Nat) : Int) = x by omega, show ((255 : Nat) : Int) = 255 from rfl, Nat.and_two_pow_sub_one_eq_mod x.toNat 8] at e
    rw [e]
    unfold wrap64
    omega
  by_cases hlt : pl < n
  · obtain ⟨rfl, hcb⟩ := hk hlt
    have hle : pl + 1 ≤ n := by omega
    have hs := hwr (IntKind.u64.wrap (IntKind.u64.wrap (sd * 6364136223846793005) + ↑c) + 1442695040888963407)
    have q0 := hk0 (IntKind.u64.wrap (IntKind.u64.wrap (IntKind.u64.wrap (sd * 6364136223846793005) + ↑c) + 1442695040888963407))
    have q1 := hk1 (IntKind.u64.wrap (IntKind.u64.wrap (IntKind.u64.wrap (sd * 6364136223846793005) + ↑c) + 1442695040888963407))
    have q2 := hk2 (IntKind.u64.wrap (IntKind.u64.wrap (IntKind.u64.wrap (sd * 6364136223846793005) + ↑c) + 1442695040888963407))
    go_enter Tryd.func60, Tryd.ntmps60
    go_wp2
    go_region_o
    go_wp2
    go_region_o
    go_wp2
    go_region_o
    go_wp2
    go_ret
    exact ⟨_, _, rfl, by omega, by omega, hs.1, hs.2, rfl, rfl, rfl, rfl⟩
  · have hle : ¬ pl + 1 ≤ n := by omega
    have hs := hwr (IntKind.u64.wrap (IntKind.u64.wrap (sd * 6364136223846793005)) + 1442695040888963407)
    have q0 := hk0 (IntKind.u64.wrap (IntKind.u64.wrap (IntKind.u64.wrap (sd * 6364136223846793005)) + 1442695040888963407))
    have q1 := hk1 (IntKind.u64.wrap (IntKind.u64.wrap (IntKind.u64.wrap (sd * 6364136223846793005)) + 1442695040888963407))
    have q2 := hk2 (IntKind.u64.wrap (IntKind.u64.wrap (IntKind.u64.wrap (sd * 6364136223846793005)) + 1442695040888963407))
    go_enter Tryd.func60, Tryd.ntmps60
    go_wp2
    go_region_o
    go_wp2
    go_region_o
    go_wp2
    go_ret
    have hb := hand (IntKind.u64.wrap (IntKind.u64.wrap (IntKind.u64.wrap (sd * 6364136223846793005)) + 1442695040888963407) / 1099511627776) (by omega) (by omega)
    exact ⟨_, _, rfl, hb.1, hb.2, hs.1, hs.2, rfl, rfl, rfl, rfl⟩
theorem next_e (code : List UInt8) : PE Tryd.prog 60 (code.map bD) 1 [] (fun v => ∃ x, v = .d (.int .i64 x) ∧ 0 ≤ x ∧ x < 256) where
  fn := ⟨_, Tryd.func60, rfl, rfl⟩
  run pl sd w g t cc args hst hpl hg hcc hargs := by
    cases (show args = [] from hargs)
    obtain ⟨a, cap, n, hcv, hc1, hc2, hc3, hel⟩ := hcc
    obtain rfl : cc = .slice a (code.map bD).length cap := by simpa using hcv
    obtain ⟨s1, s2, s3, s4⟩ := hst
    obtain ⟨b, o, c, hc, hk⟩ : ∃ b o c, c < 256 ∧ (pl < ((code.map bD).length : Nat) → a = some ⟨b, o, none⟩ ∧ w.cell? ⟨b, o + pl.toNat, none⟩ = some (.int .u8 (c : Nat))) := by
      by_cases hlt : pl < ((code.map bD).length : Nat)
      · obtain ⟨x, hx⟩ := at_lt' (xs := code) (k := pl.toNat) (by rw [List.length_map] at hlt; omega)
        obtain ⟨b, o, ces, q1, q2, q3, q4, q5, q6⟩ := (repDe_get _ 0).1 hel pl.toNat (bD x) (by rw [List.getElem?_map, hx]; rfl)
        obtain ⟨rfl, q7⟩ := q6
        have hn : n = 1 := q5.symm
        subst hn
        have := q4 0 _ rfl
        rw [Nat.zero_add, Nat.mul_one, Nat.add_zero] at this
        exact ⟨b, o, x.toNat, x.toNat_lt, fun _ => ⟨q1, this⟩⟩
      · exact ⟨0, 0, 0, by omega, fun h => absurd h hlt⟩
    refine (next_p _ g cap pl sd t a w hg s1 (by omega) s3 s4 b o c hc hk).mono ?_
    rintro en w' ⟨v, sd', rfl, v1, v2, d1, d2, hh, h1, h2, h3⟩
    have st1 := setCell_heap0 hg 1 (.int .i64 (pl + 1))
    have st2 := setCell_heap0 st1 2 (.int .u64 sd')
    have ho : ∀ x, x ≠ g → w'.heap[x]? = w.heap[x]? := fun x hx => by rw [hh, setCell_other0 hx, setCell_other0 hx]
    have hsz : w'.heap.size = w.heap.size := by rw [hh, setCell_size0, setCell_size0]
    refine ⟨_, _, pl + 1, sd', ⟨v, rfl, v1, v2⟩, by omega, by omega, ⟨by omega, by omega, d1, d2⟩, rfl, fun M h => ?_, ?_, ⟨h1, h2, h3, by omega, fun x _ hx => ho x (by simpa using hx), by simp, fun x hx => .inl hx, fun x hx => ?_⟩⟩
    · refine rep_of_rep1 (v := .d (.int .i64 v)) ?_
      exact ⟨rfl, by have e1 : IntKind.i64.min = -9223372036854775808 := rfl; have e2 : IntKind.i64.max = 9223372036854775807 := rfl; unfold inR; omega⟩
    · rw [hh, st2]; rfl
    · have : x = g := by simpa using hx
      subst this
      rw [hsz]; exact lt_of_heap hg
def PkQ (n : Int) (v : V) : Prop := ∃ x, v = .d (.int .i64 x) ∧ 0 ≤ x ∧ (x < n ∨ x = 0)
theorem pick_e (code : List UInt8) (n : Int) : PE Tryd.prog 59 (code.map bD) 2 [.d (.int .i64 n)] (PkQ n) := by
  refine pe_intro ttOk (by kernel_rfl) Tryd.func59 rfl (by kernel_rfl) (by kernel_rfl) (by rfl) (by rfl) (fun k s g t cc pl sd hw hst hpl => ?_)
  have c0 := next_e code
  (conv => whnf)
  (repeat (refine stg_ ?_))
  (refine br_ (fun h1 => ?_) (fun h1 => ?_))
  · (repeat (refine stg_ ?_))
    (refine ⟨⟨_, rfl, by omega, by omega⟩, rfl, _, _, _, ?_, ?_, ?_, rfl⟩ <;> first | omega | assumption)
  · (repeat (refine stg_ ?_))
    (refine clr_ c0 (by assumption) (by omega) ?_; rintro _ pl1 sd1 ⟨x, rfl, hx1, hx2⟩ hl1 hl2 hs1; (conv => whnf))
    (repeat (refine stg_ ?_))
    (refine br_ (fun h2 => ?_) (fun h2 => ?_))
    · (repeat (refine stg_ ?_))
      (refine clr_ c0 (by assumption) (by omega) ?_; rintro _ pl2 sd2 ⟨y, rfl, hy1, hy2⟩ hl3 hl4 hs2; (conv => whnf))
      (repeat (refine stg_ ?_))
      have ht : (x * 256 + y).tmod n = (x * 256 + y) % n := Int.tmod_eq_emod_of_nonneg (by omega)
      have hm := Int.emod_nonneg (x * 256 + y) (b := n) (by omega)
      have hm2 := Int.emod_lt_of_pos (x * 256 + y) (b := n) (by omega)
      (refine ⟨⟨_, rfl, by omega, by omega⟩, rfl, _, _, _, ?_, ?_, ?_, rfl⟩ <;> first | omega | assumption)
    · (repeat (refine stg_ ?_))
      have ht : x.tmod n = x % n := Int.tmod_eq_emod_of_nonneg (by omega)
      have hm := Int.emod_nonneg x (b := n) (by omega)
      have hm2 := Int.emod_lt_of_pos x (b := n) (by omega)
      (refine ⟨⟨_, rfl, by omega, by omega⟩, rfl, _, _, _, ?_, ?_, ?_, rfl⟩ <;> first | omega | assumption)
theorem one_e (code : List UInt8) (n : Int) : PE Tryd.prog 37 (code.map bD) 2 [.d (.int .i64 n)] (fun v => ∃ b, v = .d (.bool b)) := by
  refine pe_intro ttOk (by kernel_rfl) Tryd.func37 rfl (by kernel_rfl) (by kernel_rfl) (by rfl) (by rfl) (fun k s g t cc pl sd hw hst hpl => ?_)
  have c0 := pick_e code n
  (conv => whnf)
  (repeat (refine stg_ ?_))
  (refine clr_ c0 (by assumption) (by omega) ?_; rintro _ pl1 sd1 ⟨x, rfl, hx1, hx2⟩ hl1 hl2 hs1; (conv => whnf))
  (repeat (refine stg_ ?_))
  (refine ⟨⟨_, rfl⟩, rfl, _, _, _, ?_, ?_, ?_, rfl⟩ <;> first | omega | assumption)
theorem word_e (code : List UInt8) (n : Int) (hn1 : 1 ≤ n) (hn2 : n ≤ 1000) : PE Tryd.prog 38 (code.map bD) (2 + n) [.d (.int .i64 n)] (fun v => ∃ b : ByteArray, v = .d (.str b) ∧ b.size < n) := by
  refine pe_intro ttOk (by kernel_rfl) Tryd.func38 rfl (by kernel_rfl) (by kernel_rfl) (by rfl) (by rfl) (fun k s g t cc pl sd hw hst hpl => ?_)
  have c0 := pick_e code n
  have c1 := next_e code
  (conv => whnf)
  (repeat (refine stg_ ?_))
  (refine clr_ c0 (by assumption) (by omega) ?_; rintro _ pl1 sd1 ⟨x, rfl, hx1, hx2⟩ hl1 hl2 hs1; (conv => whnf))
  (repeat (refine stg_ ?_))
  refine LoopW.go (α := List UInt8 × Int × Int) (fun p => [(0, .pB 2 [] 0), (1, .d (.int .i64 n)), (5, .own 4 0 p.1.length), (6, .d (.int .i64 (x - p.1.length)))]) (fun p => [.gone, .gho k s g 4 t, .box (.d (srcR cc p.2.1 p.2.2)), .keep [(0, .d (.lst (code.map bD)))] (fun _ => cc), .arr 1 (p.1.map bD) true])
    (fun p => (p.1.length : Int) ≤ x ∧ pl1 ≤ p.2.1 ∧ p.2.1 ≤ pl1 + p.1.length ∧ stOK p.2.1 p.2.2) (fun p => (x - p.1.length).toNat) ([], pl1, sd1) (Weak.cov ⟨rfl, rfl, rfl, by (show _ = V.d (D.int .i64 (x - 0))); rw [Int.sub_zero]; rfl, trivial⟩ ⟨trivial, rfl, rfl, rfl, rfl, trivial⟩ rfl) ⟨by simp; omega, by simp, by simp, hs1⟩ ?_
  rintro ⟨bs, pl2, sd2⟩ ⟨k1, k2, k3, k4⟩
  dsimp only at k1 k2 k3 k4 ⊢
  have hL : (bs.map bD).length = bs.length := List.length_map _
  (conv => whnf)
  (repeat (refine stg_ ?_))
  (refine br_ (fun h1 => ?_) (fun h1 => ?_))
  · (repeat (refine stg_ ?_))
    (refine clr_ c1 (by assumption) (by omega) ?_; rintro _ pl3 sd3 ⟨y, rfl, hy1, hy2⟩ hl3 hl4 hs3; (conv => whnf))
    (repeat (refine stg_ ?_))
    obtain ⟨c, rfl⟩ : ∃ c : UInt8, y = (c.toNat : Nat) := ⟨UInt8.ofNat y.toNat, by simp only [UInt8.toNat_ofNat']; omega⟩
    have hl : ((bs ++ [c]).length : Int) = bs.length + 1 := by simp
    refine NextW.go (bs ++ [c], pl3, sd3) (Weak.cov ⟨rfl, rfl, ?_, ?_, trivial⟩ ⟨trivial, rfl, rfl, rfl, ?_, trivial⟩ rfl) ⟨by dsimp only; omega, by dsimp only; omega, by dsimp only; omega, hs3⟩ (by dsimp only; omega)
    · show _ = V.own 4 0 (bs ++ [c]).length
      rw [List.length_append]; rfl
    · show _ = V.d (D.int .i64 (x - ((bs ++ [c]).length : Nat)))
      rw [hl, ← Int.sub_sub]; rfl
    · show _ = Blk.arr 1 (List.map bD (bs ++ [c])) true
      rw [List.map_append, ← hL, List.take_length]; rfl
  · (repeat (refine stg_ ?_))
    refine StW.at (s := mkS bs) (by rw [List.drop_zero, List.take_of_length_le (by omega), mkS_toList]) ?_
    (conv => whnf)
    (repeat (refine stg_ ?_))
    (refine ⟨⟨_, rfl, by rw [mkS_size]; omega⟩, rfl, _, _, _, ?_, ?_, ?_, rfl⟩ <;> first | omega | assumption)
theorem bL (s : ByteArray) (k : Nat) : s[k]? = s.data.toList[k]? := by
  rcases Nat.lt_or_ge k s.size with h | h
  · rw [bget? h, bgetN h]
  · rw [List.getElem?_eq_none (by simpa using h)]
    simp [h]
theorem bsz (s : ByteArray) : s.data.toList.length = s.size := Array.length_toList
theorem bs_nil (s : ByteArray) : s ++ ⟨#[]⟩ = s := by
  apply ByteArray.ext
  apply Array.toList_inj.1
  rw [data_app]; exact List.append_nil _
theorem nil_bs (s : ByteArray) : ⟨#[]⟩ ++ s = s := by
  apply ByteArray.ext
  apply Array.toList_inj.1
  rw [data_app]; rfl
theorem app_get (a b c : ByteArray) {j : Nat} (h : j < b.size) : (a ++ b ++ c)[a.size + j]? = b[j]? := by
  have hb := bsz b
  rw [bL, bL, data_app, data_app, ← bsz a, List.append_assoc, List.getElem?_append_right (by omega), Nat.add_sub_cancel_left, List.getElem?_append_left (by omega)]
theorem ext_l (s : ByteArray) (i j : Nat) : (s.extract i j).data.toList = (s.data.toList.drop i).take (j - i) := by
  rw [ByteArray.data_extract, Array.toList_extract]
theorem app_ext (a b c : ByteArray) : (a ++ b ++ c).extract a.size (a.size + b.size) = b := by
  apply ByteArray.ext
  apply Array.toList_inj.1
  rw [ext_l, data_app, data_app, ← bsz a, ← bsz b, List.append_assoc, List.drop_left, show a.data.toList.length + b.data.toList.length - a.data.toList.length = b.data.toList.length by omega, List.take_left]
theorem w4_get (n : Int) (h0 : 0 ≤ n) (h1 : n < 4294967296) : (w4 n)[0]? = some (UInt8.ofNat (n.toNat / 16777216)) ∧ (w4 n)[1]? = some (UInt8.ofNat (n.toNat / 65536 % 256)) ∧ (w4 n)[2]? = some (UInt8.ofNat (n.toNat / 256 % 256)) ∧ (w4 n)[3]? = some (UInt8.ofNat (n.toNat % 256)) := by
  have e : (w4 n).data.toList = [UInt8.ofNat (n / 256 / 256 / 256 % 256).toNat, UInt8.ofNat (n / 256 / 256 % 256).toNat, UInt8.ofNat (n / 256 % 256).toNat, UInt8.ofNat (n % 256).toNat] := by
    rw [w4, mkS_toList]; rfl
  refine ⟨?_, ?_, ?_, ?_⟩ <;> rw [bL, e] <;> simp only [List.getElem?_cons_zero, List.getElem?_cons_succ, Option.some.injEq] <;> congr 1 <;> omega
theorem gw_4 (s : ByteArray) (a : Nat) {c0 c1 c2 c3 : UInt8} (h0 : s[a]? = some c0) (h1 : s[a + 1]? = some c1) (h2 : s[a + 2]? = some c2) (h3 : s[a + 3]? = some c3) : gwK s a 4 = ((c0.toNat * 256 + c1.toNat) * 256 + c2.toNat) * 256 + c3.toNat := by
  rw [gwK_at h3, gwK_at h2, gwK_at h1, gwK_at (j := 0) h0, gwK]
  omega
theorem gw_w4 (a c : ByteArray) {n : Int} (h0 : 0 ≤ n) (h1 : n < 4294967296) {p : Nat} (hp : p = a.size) : (gwK (a ++ w4 n ++ c) p 4 : Int) = n := by
  subst hp
  obtain ⟨e0, e1, e2, e3⟩ := w4_get n h0 h1
  have hs := w4_size n
  have g : ∀ j, j < 4 → (a ++ w4 n ++ c)[a.size + j]? = (w4 n)[j]? := fun j hj => app_get a (w4 n) c (by omega)
  rw [gw_4 _ a.size ((g 0 (by omega)).trans e0) ((g 1 (by omega)).trans e1) ((g 2 (by omega)).trans e2) ((g 3 (by omega)).trans e3)]
  simp only [UInt8.toNat_ofNat']
  omega
theorem gw_congr {s t : ByteArray} {a : Nat} : ∀ j, (∀ i, a ≤ i → i < a + j → s[i]? = t[i]?) → gwK s a j = gwK t a j
  | 0, _ => rfl
  | j + 1, h => by rw [gwK, gwK, gw_congr j (fun i h1 h2 => h i h1 (by omega)), h (a + j) (by omega) (by omega)]
theorem en_split (xs : List TTable) : ∀ m k, k ≤ m → ∃ r, enS xs m = enS xs k ++ r
  | 0, k, h => ⟨⟨#[]⟩, by (obtain rfl : k = 0 := by omega); rw [bs_nil]⟩
  | m + 1, k, h => by
    rcases Nat.lt_or_ge k (m + 1) with h1 | h1
    · obtain ⟨r, hr⟩ := en_split xs m k (by omega)
      rw [enS]
      split
      · exact ⟨r ++ entB xs m _, by rw [hr, ByteArray.append_assoc]⟩
      · exact ⟨r, hr⟩
    · obtain rfl : k = m + 1 := by omega
      exact ⟨⟨#[]⟩, by rw [bs_nil]⟩
theorem da_split (xs : List TTable) : ∀ m k, k ≤ m → ∃ r, daS xs m = daS xs k ++ r
  | 0, k, h => ⟨⟨#[]⟩, by (obtain rfl : k = 0 := by omega); rw [bs_nil]⟩
  | m + 1, k, h => by
    rcases Nat.lt_or_ge k (m + 1) with h1 | h1
    · obtain ⟨r, hr⟩ := da_split xs m k (by omega)
      rw [daS]
      split
      · exact ⟨r ++ daB _, by rw [hr, ByteArray.append_assoc]⟩
      · exact ⟨r, hr⟩
    · obtain rfl : k = m + 1 := by omega
      exact ⟨⟨#[]⟩, by rw [bs_nil]⟩
theorem en_size {xs : List TTable} (h4 : ∀ x ∈ xs, x.fTag.size = 4) : ∀ k, k ≤ xs.length → (enS xs k).size = 16 * k
  | 0, _ => rfl
  | k + 1, h => by
    obtain ⟨x, hx⟩ := at_lt' (xs := xs) (k := k) (by omega)
    rw [enS_at hx, ByteArray.size_append, entB_size, h4 x (List.mem_of_getElem? hx), en_size h4 k (by omega)]; omega
theorem head_size (xs : List TTable) : (headS xs).size = 12 := by
  simp only [headS, ByteArray.size_append, w4_size]; rfl
structure VT (xs : List TTable) : Prop where
  o : ordT xs = true
  z : szT xs ≤ 65536
section
variable {xs : List TTable} (hv : VT xs)
include hv
theorem xl16 : xs.length ≤ 16 := by
  have hO := hv.o
  simp only [ordT, Bool.and_eq_true, decide_eq_true_eq] at hO
  exact hO.1
theorem fi_size : (fileS xs).size = szT xs := by
  rw [fileS, ByteArray.size_append, ByteArray.size_append, head_size, en_size (tag4 hv.o) _ (Nat.le_refl _), daS_size _ _ (Nat.le_refl _), List.take_length, szT]
theorem fi_cnt : cnt (fileS xs) = xs.length := by
  have h := xl16 hv
  have e : fileS xs = ⟨#[80, 84, 70, 49]⟩ ++ w4 ((xs.length : Nat) : Int) ++ (w4 (sumB (enS xs xs.length)) ++ (enS xs xs.length ++ daS xs xs.length)) := by
    simp only [fileS, headS, ByteArray.append_assoc]
  have := gw_w4 ⟨#[80, 84, 70, 49]⟩ (w4 (sumB (enS xs xs.length)) ++ (enS xs xs.length ++ daS xs xs.length)) (n := ((xs.length : Nat) : Int)) (by omega) (by omega) (p := 4) rfl
  rw [← e] at this
  rw [cnt]; omega
omit hv in
theorem fi_mag (xs : List TTable) : (fileS xs).extract 0 4 = mag := by
  have e : fileS xs = ⟨#[]⟩ ++ mag ++ (w4 ((xs.length : Nat) : Int) ++ (w4 (sumB (enS xs xs.length)) ++ (enS xs xs.length ++ daS xs xs.length))) := by
    rw [nil_bs]
    simp only [fileS, headS, ByteArray.append_assoc, mag]
  rw [e]
  exact app_ext ⟨#[]⟩ mag _
theorem fi_sum : (gwK (fileS xs) 8 4 : Int) = sumB ((fileS xs).extract 12 (12 + 16 * xs.length)) := by
  have e : fileS xs = (⟨#[80, 84, 70, 49]⟩ ++ w4 ((xs.length : Nat) : Int)) ++ w4 (sumB (enS xs xs.length)) ++ (enS xs xs.length ++ daS xs xs.length) := by
    simp only [fileS, headS, ByteArray.append_assoc]
  have h := sumB_lt (enS xs xs.length)
  have h1 := gw_w4 (⟨#[80, 84, 70, 49]⟩ ++ w4 ((xs.length : Nat) : Int)) (enS xs xs.length ++ daS xs xs.length) h.1 h.2 (p := 8) (by rw [ByteArray.size_append, w4_size]; rfl)
  rw [← e] at h1
  have h2 := app_ext (headS xs) (enS xs xs.length) (daS xs xs.length)
  rw [head_size, en_size (tag4 hv.o) _ (Nat.le_refl _)] at h2
  rw [h1, fileS, h2]
theorem fi_ent {k : Nat} {x : TTable} (hx : xs[k]? = some x) : tgK (fileS xs) k = x.fTag ∧ (uK (fileS xs) k : Int) = sumB x.fData ∧ oK (fileS xs) k = atT xs k ∧ nK (fileS xs) k = x.fData.size := by
  have hk := (List.getElem?_eq_some_iff.1 hx).1
  obtain ⟨r, hr⟩ := en_split xs xs.length (k + 1) (by omega)
  rw [enS_at hx] at hr
  have h4 := tag4 hv.o
  have hs1 := en_size h4 k (by omega)
  have ht := h4 x (List.mem_of_getElem? hx)
  have hb := sumB_lt x.fData
  have hZ := hv.z
  have h16 := xl16 hv
  have hT := sumT_le xs k
  have hT2 := sumT_le xs (k + 1)
  rw [sumT_at hx] at hT2
  have hpd := pd_ge x
  have hat : atT xs k < 4294967296 := by rw [atT]; rw [szT] at hZ; omega
  have hdl : x.fData.size < 4294967296 := by rw [szT] at hZ; omega
  obtain ⟨q, hq⟩ : ∃ q, q = headS xs ++ enS xs k := ⟨_, rfl⟩
  have hqs : q.size = 12 + 16 * k := by rw [hq, ByteArray.size_append, head_size, hs1]
  obtain ⟨z, hz⟩ : ∃ z, z = r ++ daS xs xs.length := ⟨_, rfl⟩
  have e : fileS xs = q ++ (x.fTag ++ (w4 (sumB x.fData) ++ (w4 ((atT xs k : Nat) : Int) ++ (w4 ((x.fData.size : Nat) : Int) ++ z)))) := by
    rw [fileS, hr, hq, hz, entB]; simp only [ByteArray.append_assoc]
  refine ⟨?_, ?_, ?_, ?_⟩
  · have := app_ext q x.fTag (w4 (sumB x.fData) ++ (w4 ((atT xs k : Nat) : Int) ++ (w4 ((x.fData.size : Nat) : Int) ++ z)))
    rw [ByteArray.append_assoc, ← e, ht, hqs] at this
    exact this
  · have := gw_w4 (q ++ x.fTag) (w4 ((atT xs k : Nat) : Int) ++ (w4 ((x.fData.size : Nat) : Int) ++ z)) hb.1 hb.2 (p := 12 + 16 * k + 4) (by rw [ByteArray.size_append, hqs, ht])
    simp only [ByteArray.append_assoc] at this
    rw [← e] at this
    exact this
  · have := gw_w4 (q ++ x.fTag ++ w4 (sumB x.fData)) (w4 ((x.fData.size : Nat) : Int) ++ z) (n := ((atT xs k : Nat) : Int)) (by omega) (by omega) (p := 12 + 16 * k + 8) (by rw [ByteArray.size_append, ByteArray.size_append, hqs, ht, w4_size])
    simp only [ByteArray.append_assoc] at this
    rw [← e] at this
    rw [oK]; omega
  · have := gw_w4 (q ++ x.fTag ++ w4 (sumB x.fData) ++ w4 ((atT xs k : Nat) : Int)) z (n := ((x.fData.size : Nat) : Int)) (by omega) (by omega) (p := 12 + 16 * k + 12) (by rw [ByteArray.size_append, ByteArray.size_append, ByteArray.size_append, hqs, ht, w4_size, w4_size])
    simp only [ByteArray.append_assoc] at this
    rw [← e] at this
    rw [nK]; omega
theorem fi_at : ∀ k, k ≤ xs.length → aK (fileS xs) k = atT xs k
  | 0, _ => by rw [aK, fi_cnt hv, atT]; simp [sumT]
  | k + 1, h => by
    obtain ⟨x, hx⟩ := at_lt' (xs := xs) (k := k) (by omega)
    rw [aK, fi_at k (by omega), (fi_ent hv hx).2.2.2, atT, atT, sumT_at hx, pd]; omega
theorem fi_dat {k : Nat} {x : TTable} (hx : xs[k]? = some x) : dtK (fileS xs) k = x.fData ∧ pdZ (fileS xs) k = true ∧ aK (fileS xs) (k + 1) ≤ (fileS xs).size := by
  have hk := (List.getElem?_eq_some_iff.1 hx).1
  obtain ⟨r, hr⟩ := da_split xs xs.length (k + 1) (by omega)
  rw [daS_at hx] at hr
  have e : fileS xs = (headS xs ++ enS xs xs.length ++ daS xs k) ++ x.fData ++ (zB (pn x) ++ r) := by
    rw [fileS, hr, daB]; simp only [ByteArray.append_assoc]
  have e2 : fileS xs = (headS xs ++ enS xs xs.length ++ daS xs k ++ x.fData) ++ zB (pn x) ++ r := by
    rw [e]; simp only [ByteArray.append_assoc]
  have hs : (headS xs ++ enS xs xs.length ++ daS xs k).size = aK (fileS xs) k := by
    rw [fi_at hv k (by omega), ByteArray.size_append, ByteArray.size_append, head_size, en_size (tag4 hv.o) _ (Nat.le_refl _), daS_size _ _ (by omega), atT]
  have hn := (fi_ent hv hx).2.2.2
  have hT2 := sumT_le xs (k + 1)
  have hle : aK (fileS xs) (k + 1) ≤ (fileS xs).size := by
    rw [fi_at hv (k + 1) (by omega), fi_size hv, atT, szT]; omega
  have ha : aK (fileS xs) (k + 1) = aK (fileS xs) k + nK (fileS xs) k + pn x := by
    have := pd_ge x
    rw [aK, hn, pn, pd]; rw [pd] at this; omega
  refine ⟨?_, ?_, hle⟩
  · have := app_ext (headS xs ++ enS xs xs.length ++ daS xs k) x.fData (zB (pn x) ++ r)
    rw [← e, hs, ← hn] at this
    exact this
  · rw [pdZ, decide_eq_true_eq, zR_pad _ hle]
    intro j h1 h2
    have := app_get (headS xs ++ enS xs xs.length ++ daS xs k ++ x.fData) (zB (pn x)) r (j := j - (aK (fileS xs) k + nK (fileS xs) k)) (by rw [zB_size]; omega)
    rw [← e2, ByteArray.size_append, hs, ← hn, show aK (fileS xs) k + nK (fileS xs) k + (j - (aK (fileS xs) k + nK (fileS xs) k)) = j by omega] at this
    rw [this, bL]
    simp only [zB, List.getElem?_replicate]
    rw [if_pos (by omega)]
theorem fi_rd : rdE (fileS xs) = 0 ∧ ents (fileS xs) xs.length = xs := by
  have hc := fi_cnt hv
  have h16 := xl16 hv
  have hZ := hv.z
  have hh : hdE (fileS xs) = 0 := by
    rw [hdE, fi_size hv, hc, if_neg (by omega), if_neg (by rw [szT]; omega), if_neg (by rw [fi_mag xs]; simp; omega), if_neg (by rw [szT]; omega), if_neg (by rw [fi_sum hv]; simp)]
  have hl : ∀ f k, k + f = xs.length → lpE (fileS xs) f k = 0 := by
    intro f
    induction f with
    | zero => intro k _; rfl
    | succ f ih =>
      intro k hk
      obtain ⟨x, hx⟩ := at_lt' (xs := xs) (k := k) (by omega)
      obtain ⟨_, _, h3, _⟩ := fi_ent hv hx
      obtain ⟨_, g2, g3⟩ := fi_dat hv hx
      have : stE (fileS xs) k = 0 := by
        rw [stE, h3, fi_at hv k (by omega), if_neg (by simp), if_neg (by omega), if_neg (by simp [g2])]
      rw [lpE, if_pos this, ih (k + 1) (by omega)]
  have he : ents (fileS xs) xs.length = xs := by
    apply List.ext_getElem?
    intro k
    rcases Nat.lt_or_ge k xs.length with h | h
    · obtain ⟨x, hx⟩ := at_lt' h
      rw [hx, ents, List.getElem?_map, List.getElem?_range h, Option.map_some, (fi_ent hv hx).1, (fi_dat hv hx).1]
    · rw [List.getElem?_eq_none h, List.getElem?_eq_none (by simp [ents]; omega)]
  refine ⟨?_, he⟩
  rw [rdE, if_neg (by simp [hh]), hc, hl _ 0 (by omega), if_neg (by simp), fnE, hc, fi_at hv _ (Nat.le_refl _), fi_size hv, he, hv.o, atT, szT, List.take_length]
  simp
theorem fi_up : upC (fileS xs) = 0 := by
  have hc := fi_cnt hv
  rw [upC, if_pos (fi_rd hv).1, hc]
  have : ∀ f k, k + f = xs.length → upE (fileS xs) f k = 0 := by
    intro f
    induction f with
    | zero => intro k _; rfl
    | succ f ih =>
      intro k hk
      obtain ⟨x, hx⟩ := at_lt' (xs := xs) (k := k) (by omega)
      rw [upE, if_pos (by rw [(fi_ent hv hx).2.1, (fi_dat hv hx).1]), ih (k + 1) (by omega)]
  exact this _ 0 (by omega)
theorem fi_dm : dmL (fileS xs) xs.length = [] := by
  rw [dmL]
  have : (List.range xs.length).filter (fun i => !decide ((uK (fileS xs) i : Int) = sumB (dtK (fileS xs) i))) = [] := by
    rw [List.filter_eq_nil_iff]
    intro k hk
    obtain ⟨x, hx⟩ := at_lt' (xs := xs) (k := k) (by simpa using hk)
    simp [(fi_ent hv hx).2.1, (fi_dat hv hx).1]
  rw [this]; rfl
end
theorem upE_all {s : ByteArray} : ∀ f k, upE s f k = 0 → ∀ j, k ≤ j → j < k + f → (uK s j : Int) = sumB (dtK s j)
  | 0, k, _, j, h1, h2 => by omega
  | f + 1, k, h, j, h1, h2 => by
    rw [upE] at h
    split at h
    · rename_i h0
      rcases Nat.lt_or_ge k j with q | q
      · exact upE_all f (k + 1) h j (by omega) (by omega)
      · obtain rfl : j = k := by omega
        exact h0
    · omega
theorem smK_congr {s t : ByteArray} : ∀ k, (∀ i, i < k → s[i]? = t[i]?) → smK s k = smK t k
  | 0, _ => rfl
  | k + 1, h => by rw [smK, smK, smK_congr k (fun i hi => h i (by omega)), h k (by omega)]
theorem smK_one {s t : ByteArray} {j : Nat} {c d : UInt8} (hs : s[j]? = some c) (ht : t[j]? = some d) (h : ∀ i, i ≠ j → s[i]? = t[i]?) : ∀ k, j < k → smK s k + d.toNat * wtN j = smK t k + c.toNat * wtN j
  | 0, hk => by omega
  | k + 1, hk => by
    rcases Nat.lt_or_ge j k with q | q
    · have ih := smK_one hs ht h k q
      rw [smK, smK, h k (by omega)]; omega
    · obtain rfl : j = k := by omega
      rw [smK_at hs, smK_at ht, smK_congr j (fun i hi => h i (by omega))]; omega
theorem sum_one {s t : ByteArray} {j : Nat} {c d : UInt8} (hl : s.size = t.size) (hs : s[j]? = some c) (ht : t[j]? = some d) (h : ∀ i, i ≠ j → s[i]? = t[i]?) (he : sumB s = sumB t) : c = d := by
  have hj : j < s.size := by
    rcases Nat.lt_or_ge j s.size with q | q
    · exact q
    · rw [getElem?_neg s j (by omega)] at hs; cases hs
  have h1 := smK_one hs ht h s.size hj
  rw [sumB, sumB, ← hl] at he
  have hw : wtN j = 16777216 ∨ wtN j = 65536 ∨ wtN j = 256 ∨ wtN j = 1 := by
    unfold wtN
    split
    · exact .inl rfl
    · split
      · exact .inr (.inl rfl)
      · split
        · exact .inr (.inr (.inl rfl))
        · exact .inr (.inr (.inr rfl))
  have hc := c.toNat_lt
  have hd := d.toNat_lt
  have : c.toNat = d.toNat := by
    rcases hw with w | w | w | w <;> rw [w] at h1 <;> omega
  exact UInt8.toNat_inj.1 this
theorem up_changed {s t : ByteArray} {p : Nat} (hl : s.size = t.size) (hs : upC s = 0) (ht : upC t = 0) (hp : 12 + 16 * cnt s ≤ p) (hp2 : p < s.size) (h : ∀ i, i ≠ p → s[i]? = t[i]?) : s[p]? = t[p]? := by
  have r1 := upC_zero hs
  have r2 := upC_zero ht
  obtain ⟨z1, z2, z3⟩ := hdE_zero (rdE_zero r1)
  have hc : cnt t = cnt s := (gw_congr 4 (fun i h1 h2 => h i (by omega))).symm
  have hN : ∀ k, k < cnt s → uK t k = uK s k ∧ nK t k = nK s k := fun k hk => ⟨(gw_congr 4 (fun i h1 h2 => h i (by omega))).symm, (gw_congr 4 (fun i h1 h2 => h i (by omega))).symm⟩
  have hA : ∀ k, k ≤ cnt s → aK t k = aK s k := by
    intro k
    induction k with
    | zero => intro _; rw [aK, aK, hc]
    | succ k ih => intro hk; rw [aK, aK, ih (by omega), (hN k (by omega)).2]
  have hup : ∀ {q : ByteArray}, upC q = 0 → upE q (cnt q) 0 = 0 := fun {q} hq => by rw [upC, if_pos (upC_zero hq)] at hq; exact hq
  have hfin : aK s (cnt s) = s.size := by
    rw [rdE, if_neg (by simp [rdE_zero r1])] at r1
    split at r1
    · rename_i q; exact absurd r1 q
    · rw [fnE] at r1
      split at r1
      · omega
      · rename_i q; omega
  have hlp : ∀ {q : ByteArray}, rdE q = 0 → ∀ k, k < cnt q → stE q k = 0 := fun {q} hq k hk => by
    have e : lpE q (cnt q) 0 = 0 := by
      rw [rdE, if_neg (by simp [rdE_zero hq])] at hq
      split at hq
      · rename_i z; exact absurd hq z
      · rename_i z; omega
    exact lpE_ok (cnt q) 0 e k (Nat.zero_le _) (by omega)
  have hk : ∃ k, k < cnt s ∧ aK s k ≤ p ∧ p < aK s (k + 1) := by
    have : ∀ m, m ≤ cnt s → p < aK s m → ∃ k, k < m ∧ aK s k ≤ p ∧ p < aK s (k + 1) := by
      intro m
      induction m with
      | zero => intro _ q; rw [aK] at q; omega
      | succ m ih =>
        intro hm q
        rcases Nat.lt_or_ge p (aK s m) with q1 | q1
        · obtain ⟨k, e1, e2, e3⟩ := ih (by omega) q1
          exact ⟨k, by omega, e2, e3⟩
        · exact ⟨m, by omega, q1, q⟩
    exact this (cnt s) (Nat.le_refl _) (by omega)
  obtain ⟨k, k1, k2, k3⟩ := hk
  have g1 := (rd_ok r1 k1).2
  obtain ⟨n1, n2⟩ := hN k k1
  have a1 := hA k (by omega)
  have a2 := hA (k + 1) (by omega)
  rcases Nat.lt_or_ge p (aK s k + nK s k) with q | q
  · have hle : aK s k + nK s k ≤ s.size := by rw [aK] at g1; omega
    have e1 := upE_all _ _ (hup hs) k (Nat.zero_le _) (by omega)
    have e2 := upE_all _ _ (hup ht) k (Nat.zero_le _) (by omega)
    rw [n1, e1] at e2
    have d1 : dtK s k = s.extract (aK s k) (aK s k + nK s k) := rfl
    have d2 : dtK t k = t.extract (aK s k) (aK s k + nK s k) := by rw [dtK, a1, n2]
    have l1 := ext_size s (a := aK s k) hle
    have l2 := ext_size t (a := aK s k) (b := aK s k + nK s k) (by omega)
    have b1 := bget? (s := s) (k := p) (by omega)
    have b2 := bget? (s := t) (k := p) (by omega)
    have hg : ∀ j, j < nK s k → (dtK s k)[j]? = s[aK s k + j]? ∧ (dtK t k)[j]? = t[aK s k + j]? := fun j hj => by
      rw [d1, d2]
      exact ⟨ext_get s hle (by omega), ext_get t (by omega) (by omega)⟩
    have hp3 : aK s k + (p - aK s k) = p := by omega
    have := sum_one (s := dtK s k) (t := dtK t k) (j := p - aK s k) (by rw [d1, d2, l1, l2]) ((hg _ (by omega)).1.trans (by rw [hp3]; exact b1)) ((hg _ (by omega)).2.trans (by rw [hp3]; exact b2)) (fun i hi => by
      rcases Nat.lt_or_ge i (nK s k) with w | w
      · rw [(hg i w).1, (hg i w).2, h _ (by omega)]
      · rw [getElem?_neg (dtK s k) i (by rw [d1, l1]; omega), getElem?_neg (dtK t k) i (by rw [d2, l2]; omega)]) e2
    rw [b1, b2, this]
  · have st1 := hlp r1 k k1
    have st2 := hlp r2 k (by omega)
    have pz : ∀ {q : ByteArray}, stE q k = 0 → pdZ q k = true := fun {q} hq => by
      unfold stE at hq
      split at hq
      · omega
      · split at hq
        · omega
        · split at hq
          · omega
          · rename_i w; simpa using w
    have p1 := pz st1
    have p2 := pz st2
    rw [pdZ, decide_eq_true_eq, zR_pad _ g1] at p1
    rw [pdZ, decide_eq_true_eq, zR_pad _ (by rw [a2]; omega)] at p2
    rw [p1 p q k3, p2 p (by omega) (by omega)]
def tg8 : List ByteArray := [⟨#[67, 104, 97, 114]⟩, ⟨#[71, 108, 121, 102]⟩, ⟨#[72, 105, 110, 116]⟩, ⟨#[75, 101, 114, 110]⟩, ⟨#[76, 111, 111, 107]⟩, ⟨#[78, 97, 109, 101]⟩, ⟨#[97, 49, 32, 50]⟩, ⟨#[122, 122, 122, 122]⟩]
def zmid : ByteArray := ⟨#[90, 109, 105, 100]⟩
def lsT (a b : ByteArray) : Prop := Op.bytesLess a.data.toList b.data.toList = true
instance (a b : ByteArray) : Decidable (lsT a b) := inferInstanceAs (Decidable (_ = true))
theorem tg8_tag : ∀ t ∈ tg8, tagB t = true := by decide
theorem tg8_ord : tg8.Pairwise lsT := by decide
theorem tg8_mid : ∀ t ∈ tg8, (lsT t zmid ∨ lsT zmid t) ∧ (t.data.toList == zmid.data.toList) = false := by decide
theorem ls_irr {a b : ByteArray} (h : lsT a b) : a.data.toList ≠ b.data.toList := fun e => by
  have h1 := (cmL_less _ _).2 h
  rw [(cmL_eq _ _).2 e] at h1
  omega
theorem tb_of : ∀ (xs : List TTable) (o : Option TTable), (∀ x ∈ xs, tagB x.fTag = true) → xs.Pairwise (fun x y => lsT x.fTag y.fTag) → (∀ y, o = some y → ∀ x ∈ xs, lsT y.fTag x.fTag) → tbGo o xs = true
  | [], _, _, _, _ => by rw [tbGo]
  | x :: t, o, h1, h2, h3 => by
    rw [List.pairwise_cons] at h2
    rw [tbGo, h1 x (by simp), tb_of t (some x) (fun y hy => h1 y (by simp [hy])) h2.2 (fun y e z hz => by cases e; exact h2.1 z hz)]
    have : ltT o x = true := by
      cases o with
      | none => rfl
      | some y =>
        have := h3 y rfl x (by simp)
        rw [ltT, ← bT, ← bT]; exact this
    rw [this]; rfl
structure DrT (xs : List TTable) : Prop where
  sub : (xs.map (·.fTag)).Sublist tg8
  dat : ∀ x ∈ xs, x.fData.size ≤ 11
section
variable {xs : List TTable} (hd : DrT xs)
include hd
theorem dr_len : xs.length ≤ 8 := by
  have := hd.sub.length_le
  rw [List.length_map] at this
  exact this
theorem dr_tag : ∀ x ∈ xs, x.fTag ∈ tg8 := fun x hx => hd.sub.subset (List.mem_map_of_mem hx)
theorem dr_pair : xs.Pairwise (fun x y => lsT x.fTag y.fTag) := by
  have := tg8_ord.sublist hd.sub
  rwa [List.pairwise_map] at this
theorem dr_ord : ordT xs = true := by
  have := dr_len hd
  rw [ordT, tb_of xs none (fun x hx => tg8_tag _ (dr_tag hd x hx)) (dr_pair hd) (fun y e => by cases e), decide_eq_true (by omega)]
  rfl
omit hd in
theorem sum_12 : ∀ ys : List TTable, (∀ x ∈ ys, x.fData.size ≤ 11) → sumT ys ≤ 12 * ys.length
  | [], _ => by simp [sumT]
  | y :: t, h => by
    have h1 := sum_12 t (fun x hx => h x (by simp [hx]))
    have h2 := h y (by simp)
    simp only [sumT, List.map_cons, List.sum_cons, List.length_cons, pd] at h1 ⊢
    omega
theorem dr_vt : VT xs := by
  have h1 := dr_len hd
  have h2 := sum_12 xs hd.dat
  exact ⟨dr_ord hd, by rw [szT]; omega⟩
theorem dr_v : vtB xs = true := by
  have h := dr_vt hd
  rw [vtB, h.o, decide_eq_true h.z]; rfl
omit hd in
theorem z_16 : ∀ ys : List TTable, (∀ x ∈ ys, x.fTag.size ≤ 4 ∧ x.fData.size ≤ 11) → zL zTable ys ≤ 16 * ys.length
  | [], _ => by simp [zL]
  | y :: t, h => by
    have h1 := z_16 t (fun x hx => h x (by simp [hx]))
    have h2 := h y (by simp)
    simp only [zL, zTable, List.map_cons, List.sum_cons, List.length_cons] at h1 ⊢
    omega
theorem dr_z : zL zTable xs ≤ 128 := by
  have h1 := dr_len hd
  have h2 := z_16 xs (fun x hx => ⟨Nat.le_of_eq (tag4 (dr_ord hd) x hx), hd.dat x hx⟩)
  omega
omit hd in
theorem fdx_ins {α : Type} {p : α → Bool} {x : α} {post : List α} (hx : p x = true) : ∀ (pre : List α) (k : Nat), (∀ y ∈ pre, p y = false) → fdx p (pre ++ x :: post) k = ((k + pre.length : Nat) : Int)
  | [], k, _ => by rw [List.nil_append, fdx, if_pos hx]; rfl
  | y :: t, k, h => by
    rw [List.cons_append, fdx, if_neg (by rw [h y (by simp)]; decide), fdx_ins hx t (k + 1) (fun z hz => h z (by simp [hz])), List.length_cons]
    congr 1; omega
theorem dr_find {i : Nat} {x : TTable} (hx : xs[i]? = some x) : fdx (tgEq x.fTag) xs 0 = (i : Int) := by
  have hi := (List.getElem?_eq_some_iff.1 hx).1
  have e : xs = xs.take i ++ x :: xs.drop (i + 1) := by rw [← drop_at hx, List.take_append_drop]
  have hp := dr_pair hd
  have hl : (xs.take i).length = i := by rw [List.length_take]; omega
  rw [e, List.pairwise_append] at hp
  have := fdx_ins (p := tgEq x.fTag) (x := x) (post := xs.drop (i + 1)) (by simp [tgEq]) (xs.take i) 0 (fun y hy => by
    have h := ls_irr (hp.2.2 y hy x (by simp))
    rw [bT, bT] at h
    rw [tgEq, beq_eq_false_iff_ne]
    exact h)
  rw [← e, hl, Nat.zero_add] at this
  exact this
theorem dr_tn {i : Nat} {x : TTable} (hx : xs[i]? = some x) : tnS xs x.fTag = x.fData ∧ tnC xs x.fTag = 0 := by
  have h := dr_find hd hx
  rw [tnS, tnC, if_pos (dr_v hd), if_pos (dr_v hd), h, if_neg (by omega), if_neg (by omega), Int.toNat_natCast, hx]
  exact ⟨rfl, rfl⟩
theorem mid_fd : fdT zmid xs = false := by
  unfold fdT
  split
  · rename_i x hx
    rw [decide_eq_false_iff_not]
    intro h
    have h1 := (tg8_mid _ (dr_tag hd x (List.mem_of_getElem? hx))).2
    rw [beq_eq_false_iff_ne] at h1
    exact h1 ((cmL_eq _ _).1 h)
  · rfl
theorem mid_set (dt : ByteArray) : setL ⟨zmid, dt⟩ xs = xs.take (posT zmid xs) ++ ⟨zmid, dt⟩ :: xs.drop (posT zmid xs) := by
  rw [setL, if_neg (by rw [mid_fd hd]; decide)]; rfl
theorem mid_len (dt : ByteArray) : (setL ⟨zmid, dt⟩ xs).length = xs.length + 1 := by
  rw [setL_len, if_neg (by rw [mid_fd hd]; decide)]
theorem mid_ord (dt : ByteArray) : ordT (setL ⟨zmid, dt⟩ xs) = true := by
  have h1 := dr_len hd
  have hl := mid_len hd dt
  have hp := dr_pair hd
  have h0 : ∀ x ∈ xs, (lsT x.fTag zmid ∨ lsT zmid x.fTag) := fun x hx => (tg8_mid _ (dr_tag hd x hx)).1
  have hpre : ∀ x ∈ xs.take (posT zmid xs), lsT x.fTag zmid := fun x hx => by
    obtain ⟨t, ht⟩ := List.getElem?_of_mem hx
    rw [List.getElem?_take] at ht
    split at ht
    · rename_i q
      exact (cmL_less _ _).1 (pos_lt zmid xs t x q ht)
    · cases ht
  have hpost : ∀ x ∈ xs.drop (posT zmid xs), lsT zmid x.fTag := fun x hx => by
    obtain ⟨t, ht⟩ := List.getElem?_of_mem hx
    rw [List.getElem?_drop] at ht
    rcases h0 x (List.mem_of_mem_drop hx) with h | h
    · exfalso
      cases t with
      | zero => exact pos_at zmid xs x ht ((cmL_less _ _).2 h)
      | succ t =>
        have := pos_gt (s := zmid) (dr_v hd) (j := posT zmid xs + (t + 1)) (by omega) ht
        have h2 := (cmL_less _ _).2 h
        unfold cmT at this
        omega
    · exact h
  have hp2 := hp
  rw [← List.take_append_drop (posT zmid xs) xs, List.pairwise_append] at hp2
  rw [ordT, decide_eq_true (by omega)]
  refine tb_of _ none ?_ ?_ (fun y e => by cases e)
  · intro x hx
    rw [mid_set hd] at hx
    rcases List.mem_append.1 hx with hx | hx
    · exact tg8_tag _ (dr_tag hd x (List.mem_of_mem_take hx))
    · rcases List.mem_cons.1 hx with rfl | hx
      · exact (show tagB zmid = true by decide)
      · exact tg8_tag _ (dr_tag hd x (List.mem_of_mem_drop hx))
  · rw [mid_set hd, List.pairwise_append, List.pairwise_cons]
    refine ⟨hp2.1, ⟨hpost, hp2.2.1⟩, fun x hx y hy => ?_⟩
    rcases List.mem_cons.1 hy with rfl | hy
    · exact hpre x hx
    · exact hp2.2.2 x hx y hy
theorem mid_v {dt : ByteArray} (h : dt.size ≤ 11) : vtB (setL ⟨zmid, dt⟩ xs) = true := by
  have h1 := dr_len hd
  have hl := mid_len hd dt
  have h2 := sum_12 (setL ⟨zmid, dt⟩ xs) (fun x hx => by
    rw [mid_set hd] at hx
    rcases List.mem_append.1 hx with hx | hx
    · exact hd.dat x (List.mem_of_mem_take hx)
    · rcases List.mem_cons.1 hx with rfl | hx
      · exact h
      · exact hd.dat x (List.mem_of_mem_drop hx))
  rw [vtB, mid_ord hd, decide_eq_true (by rw [szT]; omega)]; rfl
theorem mid_find (dt : ByteArray) : fdx (tgEq zmid) (setL ⟨zmid, dt⟩ xs) 0 = (posT zmid xs : Int) := by
  have hl : (xs.take (posT zmid xs)).length = posT zmid xs := by
    have := pos_le zmid xs
    rw [List.length_take]; omega
  rw [mid_set hd, fdx_ins (by simp [tgEq]) _ 0 (fun y hy => ?_), hl, Nat.zero_add]
  have h1 := (tg8_mid _ (dr_tag hd y (List.mem_of_mem_take hy))).2
  rw [bT, bT] at h1
  exact h1
theorem mid_drop (dt : ByteArray) : dpL (setL ⟨zmid, dt⟩ xs) (posT zmid xs) = xs := by
  have hl : (xs.take (posT zmid xs)).length = posT zmid xs := by
    have := pos_le zmid xs
    rw [List.length_take]; omega
  rw [mid_set hd, dpL, List.take_left' hl, ← List.drop_drop, List.drop_left' hl, List.drop_one, List.tail_cons, List.take_append_drop]
end
theorem Weak.box {e : Env} {h : List Blk} (b : Nat) {v v' : V} (hb : h[b]? = some (.box v)) (hb0 : Nat.ble 1 b = true) (hv : ∀ (w : World) (M : MM) (h : List Blk) (cs : List Value), repC w M h v cs → repC w M h v' cs) : Weak e h e (h.set b (.box v')) := fun B X N M a w R => by
  have hlt : b < h.length := (List.getElem?_eq_some_iff.1 hb).1
  have hnof : ∀ c, nOf (h.set b (.box v')) c = nOf h c := fun c => by
    unfold nOf
    by_cases hc : b = c
    · subst hc
      rw [List.getElem?_set_self hlt, hb]
    · rw [List.getElem?_set_ne hc]
  have mv' : Mv (fun _ => True) w M h w M (h.set b (.box v')) := {
    ext := fun b hb _ => ⟨hb, rfl⟩
    ids := fun b g F _ hb => ⟨F, hb⟩
    row := fun b g F arr t _ _ hg => ⟨arr, hg, rfl⟩
    nof := fun b g F _ _ => hnof b
    sz := Nat.le_refl _ }
  have hget : ∀ (c : Nat) (k : Blk), (h.set b (.box v'))[c]? = some k → (c = b ∧ k = .box v') ∨ h[c]? = some k := fun c k hk => by
    by_cases hc : b = c
    · subst hc
      rw [List.getElem?_set_self hlt] at hk
      cases hk
      exact .inl ⟨rfl, rfl⟩
    · rw [List.getElem?_set_ne hc] at hk
      exact .inr hk
  have hI' : MInv B.heap.size w M (h.set b (.box v')) := {
    len := by simp [R.inv.len]
    blk := fun c k m hk hm => by
      rcases hget c k hk with ⟨rfl, rfl⟩ | hk3
      · have h1 := R.inv.blk c _ m hb hm
        cases m with
        | none => exact h1
        | some gF =>
          obtain ⟨g, F⟩ := gF
          obtain ⟨h2, arr, t, h3, h4⟩ := h1
          exact ⟨h2, arr, t, h3, repC_mv mv' _ _ (V.inS_all _) (hv _ _ _ _ h4)⟩
      · exact BRep_mv mv' (by cases k <;> first | trivial | exact V.inS_all _ | exact inSE_all _) (fun _ _ => rfl) (R.inv.blk c k m hk3 hm)
    nd := R.inv.nd
    lo := fun c k m hk hm hl => by
      rcases hget c k hk with ⟨rfl, rfl⟩ | hk3
      · exact R.inv.lo c _ m hb hm rfl
      · exact R.inv.lo c k m hk3 hm hl
    hi := R.inv.hi }
  refine ⟨M, R.ext, hI', fun k => rep_mv mv' _ _ (V.inS_all _) (R.env k), R.sz, R.df, R.fr, ?_⟩
  rw [List.getElem?_set_ne (by intro e0; subst e0; cases hb0)]
  exact R.fh
theorem Weak.boxd {e : Env} {h : List Blk} (b : Nat) {xs : List D} (hb : h[b]? = some (.box (.st (xs.map V.d)))) (hb0 : Nat.ble 1 b = true) : Weak e h e (h.set b (.box (.d (.st xs)))) :=
  Weak.box b hb hb0 fun w M h cs H => by
    have key : ∀ (xs : List D) (cs : List Value), repCs w M h (xs.map V.d) cs → repDs M.O w xs cs := by
      intro xs
      induction xs with
      | nil => intro cs H; exact H
      | cons x xs ih =>
        intro cs H
        obtain ⟨c1, c2, e1, h1, h2⟩ := H
        exact ⟨c1, c2, e1, h1, ih c2 h2⟩
    exact key xs cs H
structure PX (P : Program) (f : FuncId) (As : List V) (Q : V → List Blk → Prop) : Prop where
  fn : ∃ fn, P.funcs[f]? = some fn ∧ (fn.name == "runtime.NumGoroutine") = false ∧ fn.body.isNone = false
  run : ∀ (w : World) (X : List Nat) (args : List Value), X.Nodup → (∀ b ∈ X, b < w.heap.size) → repT w [mX X] [.gone] As args →
    Calls P f args.toArray w fun e w' => ∃ v bs cv M', Q v bs ∧ e = .returned cv ∧ Ext w w' ∧ MInv w.heap.size w' (mX X :: M') (.gone :: bs) ∧ rep w' (mX X :: M') (.gone :: bs) v cv
theorem PX.of {P : Program} {f : FuncId} {As : List V} {v : V} {bs : List Blk} (pc : PC P f As v bs) {Q : V → List Blk → Prop} (hq : Q v bs) : PX P f As Q :=
  ⟨pc.fn, fun w X args h1 h2 h3 => (pc.run w X args h1 h2 h3).mono fun _ _ ⟨cv, M', k⟩ => ⟨v, bs, cv, M', hq, k⟩⟩
theorem PX.callE {P : Program} {f : FuncId} {As : List V} {Q : V → List Blk → Prop} (px : PX P f As Q) {vs : List V} {e : Env} {h : List Blk} {K : V → Env → List Blk → Prop} (hb : borVs h vs As) (h0 : Nat.ble 1 h.length = true)
    (hf : ∀ v bs, Q v bs → (v.fit (!V.exts vs) && fitBs (!V.exts vs) bs) = true) (hK : ∀ v bs, Q v bs → K (v.shift (h.length - 1)) e (h ++ shiftBs (h.length - 1) bs)) : CallE P f vs e h K := by
  refine ⟨px.fn, fun B X0 N M a w args R hargs => ?_⟩
  have h0 : 1 ≤ h.length := Nat.le_of_ble_eq_true h0
  have ⟨X, hX, hnd, hhi, S⟩ : ∃ X : List Nat, (X = [] ∨ V.exts vs = true ∧ X = M.O) ∧ X.Nodup ∧ (∀ b ∈ X, b < w.heap.size) ∧ Sh (!V.exts vs) X M h := by
    cases he : V.exts vs with
    | true => exact ⟨M.O, .inr ⟨rfl, rfl⟩, R.inv.nd, R.inv.hi, R.inv.len, h0, .inr rfl⟩
    | false => exact ⟨[], .inl rfl, by simp, by simp, R.inv.len, h0, .inl rfl⟩
  refine (px.run w X args hnd hhi (borT_sound R.inv vs args As hargs hX hb)).mono ?_
  rintro en w' ⟨v, bs, cv, M', hq, rfl, hx, hI, hr⟩
  have hf := hf v bs hq
  simp only [Bool.and_eq_true] at hf
  obtain ⟨hf1, hf2⟩ := hf
  have hlen : M'.length = bs.length := by have := hI.len; simpa using this
  have hlo : ∀ g ∈ (MM.O M'), w.heap.size ≤ g := fun g hg => by
    obtain ⟨b, m, hm, hgm⟩ := mem_O_get hg
    obtain ⟨k, hk⟩ := at_lt (xs := bs) (k := b) (by rw [← hlen]; exact (List.getElem?_eq_some_iff.1 hm).1)
    exact hI.lo (b + 1) k m (by simpa using hk) (by simpa using hm) (fit_live (fitBs_get bs b k hf2 hk)) g hgm
  have hnd' : (MM.O M').Nodup := by
    have := hI.nd
    rw [O_cons] at this
    exact (List.nodup_append.1 this).2.1
  have hhi' : ∀ g ∈ (MM.O M'), g < w'.heap.size := fun g hg => hI.hi g (by rw [O_cons]; exact List.mem_append_right _ hg)
  have mv : Mv (fun _ => True) w M h w' (M ++ M') (h ++ shiftBs (h.length - 1) bs) := push_mv R.inv.len hx R.inv.hi hlo
  refine ⟨_, cv, _, M ++ M', rfl, hK v bs hq, hx, R.step (R.ext.trans hx) (R.inv.push R.base hx (by rw [shiftBs_len]; exact hlen) hnd' hlo hhi' ?_) mv (fr_push R.fr _) (fr_push R.fh _), rep_sh S hf1 hr⟩
  intro b k m hk hm
  rw [shiftBs_get] at hk
  obtain ⟨k0, hk0, rfl⟩ := Option.map_eq_some_iff.1 hk
  exact BRep_sh S (fitBs_get bs b k0 hf2 hk0) (hI.blk (b + 1) k0 m (by simpa using hk0) (by simpa using hm))
def xQ (tt : TT) (rs : List ResultVar) (Q : V → List Blk → Prop) : Post
  | .normal => fun e h => retV tt rs e h fun va => ∃ v bs, Q v bs ∧ RetOK h va v bs
  | .ret => fun e h => retV tt rs e h fun va => ∃ v bs, Q v bs ∧ RetOK h va v bs
  | .exit _ => fun _ _ => False
theorem px_intro {P : Program} {tt : TT} (hT : TOk P tt) (hm : P.follows .mixedOrders = true) {f : FuncId} {fn : Func} {c : Code} (hf : P.funcs[f]? = some fn) (hb : fn.body = some c) (hname : (fn.name == "runtime.NumGoroutine") = false)
    (hN : codeB fn.ntmps c = true) {As : List V} (hA : Nat.ble As.length fn.ntmps = true) {Q : V → List Blk → Prop}
    (H : wfVs As → wpC P tt c (xQ tt fn.results.toList Q) (argE 0 As) [.gone]) : PX P f As Q := by
  refine ⟨⟨fn, hf, hname, by rw [hb]; rfl⟩, fun w X args hX1 hX2 hargs => ?_⟩
  have hlen : ∀ (vs : List V) (cs : List Value), repT w [mX X] [.gone] vs cs → cs.length = vs.length := by
    intro vs
    induction vs with
    | nil => intro cs H; cases H; rfl
    | cons v vs ih => intro cs H; obtain ⟨c, cs', rfl, _, h2⟩ := H; simp [ih _ h2]
  have hl := hlen As args hargs
  have hA' := Nat.le_of_ble_eq_true hA
  have hO : MM.O [mX X] = X := by rw [O_one, mO_mX]
  have R : Rep w X fn.ntmps [mX X] (argE 0 As) [.gone] { tmps := args.toArray ++ Array.replicate (fn.ntmps - args.toArray.size) Go.undef, defers := [] } w := {
    ext := Ext.refl w
    inv := ⟨rfl, fun b k m hk hm => by
        cases b with
        | zero => simp at hk; subst hk; trivial
        | succ b => simp at hk, by rw [hO]; exact hX1, fun b k m hk hm hl => by
        cases b with
        | zero => simp at hk; subst hk; cases hl
        | succ b => simp at hk, by rw [hO]; exact hX2⟩
    env := fun k => by
      rw [argE_get, if_pos (Nat.zero_le _), Nat.sub_zero]
      split
      · rename_i v hv
        obtain ⟨cc, k1, k2⟩ := repT_get As args k v hargs hv
        have hk : k < args.length := (List.getElem?_eq_some_iff.1 k1).1
        have : (args.toArray ++ Array.replicate (fn.ntmps - args.toArray.size) Go.undef).getD k Go.undef = cc := by
          rw [Array.getD_eq_getD_getElem?, Array.getElem?_append_left (by simpa using hk)]
          simp [k1]
        dsimp only
        rw [this]
        exact rep_of_rep1 k2
      · trivial
    sz := by simp; omega
    df := rfl
    fr := rfl
    fh := rfl }
  refine calls_of_wp hf hb (wp_mono (code_sound hT hm c _ _ _ _ _ _ hN (H (repT_wf _ _ hargs)) R) fun x a' w' hx => ?_)
  have fin : ∀ (e : Env) (h : List Blk) (M : MM), retV tt fn.results.toList e h (fun va => ∃ v bs, Q v bs ∧ RetOK h va v bs) → Rep w X fn.ntmps M e h a' w' →
      a'.defers = [] ∧ ∃ cv, (results fn a'.tmps).run P w' = .ok cv w' ∧ ∃ v bs cv' M', Q v bs ∧ Ending.returned cv = .returned cv' ∧ Ext w w' ∧ MInv w.heap.size w' (mX X :: M') (.gone :: bs) ∧ rep w' (mX X :: M') (.gone :: bs) v cv' := by
    intro e h M hr R'
    obtain ⟨vs, cvs, h1, h2, h3, h4⟩ := res_sound hT R' _ _ hr
    refine ⟨R'.df, _, run_results h4, ?_⟩
    match vs, cvs, h2 with
    | [va], [cv], _ =>
      obtain ⟨c', k1, k2⟩ := h3 0 va rfl
      cases k1
      obtain ⟨v, bs, hq, h1⟩ := h1
      obtain ⟨M', q1, q2⟩ := ret_sound R' k2 h1
      exact ⟨v, bs, cv, M', hq, rfl, R'.ext, q1, q2⟩
    | [], [], _ =>
      obtain ⟨v, bs, hq, h1⟩ := h1
      obtain ⟨M', q1, q2⟩ := ret_sound R' (va := .tup []) (cv := .tuple #[]) ⟨[], rfl, rfl⟩ h1
      exact ⟨v, bs, _, M', hq, rfl, R'.ext, q1, q2⟩
    | va :: vb :: vs, ca :: cb :: cvs, h2 =>
      dsimp only at h1
      cases hok : okTs (va :: vb :: vs) with
      | false => rw [hok] at h1; exact h1.elim
      | true =>
        rw [hok] at h1
        simp only [cond_true] at h1
        have hall : ∀ (vs : List V) (cs : List Value), vs.length = cs.length → okTs vs = true → (∀ (i : Nat) (v : V), vs[i]? = some v → ∃ c, cs[i]? = some c ∧ rep w' M h v c) → repT w' M h vs cs := by
          intro vs
          induction vs with
          | nil => intro cs hl _ _; cases cs with
            | nil => rfl
            | cons _ _ => simp at hl
          | cons v vs ih =>
            intro cs hl ho hg
            cases cs with
            | nil => simp at hl
            | cons c cs =>
              simp only [okTs, Bool.and_eq_true] at ho
              obtain ⟨c', k1, k2⟩ := hg 0 v rfl
              cases k1
              exact ⟨c, cs, rfl, rep1_of_rep ho.1 k2, ih cs (by simpa using hl) ho.2 fun i u hi => by simpa using hg (i + 1) u (by simpa using hi)⟩
        obtain ⟨v, bs, hq, h1⟩ := h1
        obtain ⟨M', q1, q2⟩ := ret_sound R' (va := .tup (va :: vb :: vs)) (cv := .tuple (ca :: cb :: cvs).toArray) ⟨_, rfl, hall _ _ h2 hok h3⟩ h1
        exact ⟨v, bs, _, M', hq, rfl, R'.ext, q1, q2⟩
  cases x with
  | normal => obtain ⟨e, h, M, k1, k2⟩ := hx; exact fin e h M k1 k2
  | ret => obtain ⟨e, h, M, k1, k2⟩ := hx; exact fin e h M k1 k2
  | exit id => obtain ⟨e, h, M, k1, k2⟩ := hx; exact k1.elim
  | goto l => exact hx.elim
  | panic => exact hx.elim
  | outgrown => exact hx.elim
section
variable {P : Program} {dr : Bool} {f : FuncId} {As vs : List V} {Q : V → List Blk → Prop} {e : Env} {h : List Blk} {K : V → Env → List Blk → Prop}
theorem clx_ (px : PX P f As Q) {G : V → List Blk → Prop} (H : ∀ v bs, Q v bs → (v.fit (!V.exts vs) && fitBs (!V.exts vs) bs) = true ∧ G v bs) (hb : borVs h vs As := by ((repeat' (first | exact trivial | with_reducible rfl | ((conv => whnf); first | done | exact trivial | with_reducible rfl | (exact Or.inr ⟨rfl, rfl, rfl, rfl⟩) | (refine Or.inl ⟨_, rfl, ?_⟩) | (refine ⟨rfl, _, rfl, ?_⟩) | (refine ⟨_, _, rfl, ?_, ?_⟩) | (refine ⟨_, rfl, ?_⟩) | ((refine ⟨?_, ?_⟩); (focus (first | (simp; done) | omega)); (focus ((first | rw [List.drop_zero, List.take_of_length_le (Nat.le_of_eq (List.length_map _))] | rw [List.drop_zero, List.take_of_length_le (by omega)] | rfl); done))) | rfl))); (first | done | fail))) (h0 : Nat.ble 1 h.length = true := by rfl)
    (hk : ∀ v bs, G v bs → K (v.shift (h.length - 1)) e (h ++ shiftBs (h.length - 1) bs) := by (intro v bs H; exact H)) : CallW P dr f vs e h K :=
  ⟨.inl (.inr (px.callE hb h0 (fun v bs q => (H v bs q).1) (fun v bs q => hk v bs (H v bs q).2)))⟩
end
theorem RegD.treeT {P : Program} {tt : TT} {l : List Oper} {K : Env → List Blk → Prop} {e : Env} {h : List Blk} (t : OT) (h1 : treeOK l t = true) (H : treeV P tt l t K e h) : RegD P tt l K e h := ⟨.inr (.inl ⟨t, h1, H⟩)⟩
def trE8 : OT := .q 0 (.q 1 (.q 2 (.q 3 (.q 5 (.alt 4 (.alt 6 (.alt 7 (.alt 8 (.alt 9 (.q 10 .done) .nil) .nil) .nil) .nil) (.alt 6 (.q 4 (.alt 7 (.alt 8 (.alt 9 (.q 10 .done) .nil) .nil) .nil)) .nil))))))
theorem E8Tables_x (code : List UInt8) : PX Tryd.prog 5 [.d (.lst (code.map bD))] (fun v bs => ∃ xs : List TTable, DrT xs ∧ v = .own 1 0 xs.length ∧ bs = [.arr 2 (xs.map TTable.D) true]) := by
  refine px_intro ttOk (by kernel_rfl) Tryd.func5 rfl (by kernel_rfl) (by kernel_rfl) (by kernel_rfl) (fun hw => ?_)
  have c0 := one_e code 2
  have c1 := word_e code 12 (by omega) (by omega)
  (conv => whnf)
  (refine CallW.inl ttOk (by kernel_rfl) Tryd.func14 rfl (by kernel_rfl) (by kernel_rfl) (by rfl) (fun s => ?_); (conv => whnf))
  (repeat (refine stg_ ?_))
  (refine And.intro rfl ?_; (conv => whnf))
  (refine CallW.inl' ttOk (by kernel_rfl) Tryd.func15 rfl (by kernel_rfl) (by kernel_rfl) (by rfl) [] (by (conv => whnf); (repeat' (first | exact trivial | (refine ⟨?_, ?_⟩) | rfl))) (fun s => ?_); (conv => whnf))
  (repeat (refine stg_ ?_))
  refine LoopW.go (α := Nat × List TTable × Int × Int) (fun p => [(0, .pB 2 [] 0), (3, .own 4 0 p.2.1.length), (4, .own 5 0 8), (5, .d (.int .i64 p.1))]) (fun p => [.gone, .gone, .box (.d (srcD (code.map bD) p.2.2.1 p.2.2.2)), .keep [] s, .arr 2 (p.2.1.map TTable.D) true, .arr 1 (tg8.map D.str) true])
    (fun p => p.1 ≤ 8 ∧ ((p.2.1.map (·.fTag)).Sublist (tg8.take p.1) ∧ ∀ x ∈ p.2.1, x.fData.size ≤ 11) ∧ p.2.2.1 ≤ 16 * p.1 ∧ stOK p.2.2.1 p.2.2.2) (fun p => 8 - p.1) (0, [], 0, 0) (Weak.trans (Weak.boxd 2 (xs := [.lst (code.map bD), .int .i64 0, .int .u64 0]) rfl rfl) (Weak.cov ⟨rfl, rfl, rfl, rfl, trivial⟩ ⟨trivial, trivial, rfl, rfl, rfl, rfl, trivial⟩ rfl)) ⟨by simp, by simp, by simp, by unfold stOK; simp⟩ ?_
  rintro ⟨i, xs, pl, sd⟩ ⟨k1, ⟨k4, k5⟩, k2, k3⟩
  dsimp only at k1 k2 k3 k4 k5 ⊢
  have hxl : xs.length ≤ 8 := by
    have := k4.length_le
    simp only [List.length_map, List.length_take] at this
    omega
  have hL : (xs.map TTable.D).length = xs.length := List.length_map _
  (conv => whnf)
  (repeat (refine stg_ ?_))
  (refine br_ (fun h1 => ?_) (fun h1 => ?_))
  · (repeat (refine stg_ ?_))
    (refine cls_ c0 (by assumption) (by omega) ?_; rintro _ pl1 sd1 ⟨b, rfl⟩ hl1 hl2 hs1; (conv => whnf))
    cases b
    · (conv => whnf)
      (repeat (refine stg_ ?_))
      refine NextW.go (i + 1, xs, pl1, sd1) covT_ ⟨by dsimp only; omega, ⟨k4.trans (List.take_sublist_take_left (by omega)), k5⟩, by dsimp only; omega, hs1⟩ (by dsimp only; omega)
    · (conv => whnf)
      obtain ⟨tg, htg⟩ := at_lt' (xs := tg8) (k := i) (by show i < 8; omega)
      have hx : (tg8.map D.str)[i]? = some (.str tg) := by rw [List.getElem?_map, htg]; rfl
      (repeat ((fail_if_success (with_reducible apply RegD.id)); (refine stg_ ?_)))
      (refine RegD.treeT trE8 (by kernel_rfl) ?_; (conv => whnf))
      repeat' (first | (refine stg_ ?_) | ((refine cls_ c1 (by assumption) (by omega) ?_; rintro _ pl2 sd2 ⟨dt, rfl, hdt⟩ hl3 hl4 hs2; (conv => whnf))) | (refine And.intro ?_ ?_ <;> (conv => whnf)))
      all_goals (refine NextW.go (i + 1, xs ++ [⟨tg, dt⟩], pl2, sd2) (Weak.cov ⟨rfl, ?_, rfl, rfl, trivial⟩ ⟨trivial, trivial, rfl, rfl, ?_, rfl, trivial⟩ rfl) ⟨by dsimp only; omega, ⟨?_, ?_⟩, by dsimp only; omega, hs2⟩ (by dsimp only; omega))
      all_goals first
        | (show _ = V.own 4 0 (xs ++ [_]).length; rw [List.length_append]; rfl)
        | (show _ = Blk.arr 2 (List.map TTable.D (xs ++ [_])) true; rw [List.map_append, ← hL, List.take_length]; rfl)
        | (dsimp only; rw [List.map_append, take_snoc_get htg]; exact k4.append (List.Sublist.refl _))
        | (intro x hx; rcases List.mem_append.1 hx with hx | hx; (focus exact k5 x hx); (obtain rfl : x = _ := by simpa using hx); dsimp only; omega)
  · (repeat (refine stg_ ?_))
    (refine And.intro rfl ?_; (conv => whnf))
    refine ⟨_, _, ⟨xs, ⟨k4.trans (List.take_sublist _ _), k5⟩, rfl, rfl⟩, ?_⟩
    (refine ⟨⟨[some 4], ⟨by decide, rfl, trivial, trivial⟩, by decide, rfl, ?_⟩⟩; (conv => whnf); exact ⟨by decide, rfl⟩)
set_option maxHeartbeats 8000000 in
theorem FnTables_v (xs ys : List UInt8) : PC Tryd.prog 3 [.d (.lst (xs.map bD)), .d (.lst (ys.map bD))] (.d (.bool true)) [] := by
  refine pc_intro ttOk (by kernel_rfl) Tryd.func3 rfl (by kernel_rfl) (by kernel_rfl) (by kernel_rfl) (fun hw => ?_)
  have hLx : (xs.map bD).length = xs.length := List.length_map _
  have hLy : (ys.map bD).length = ys.length := List.length_map _
  have c0 := e8Long_v xs ys
  have c1 := E8Tables_x xs
  (conv => whnf)
  by_cases hlong : 1048576 < xs.length ∨ 1048576 < ys.length
  · rw [show (decide (1048576 < xs.length) || decide (1048576 < ys.length)) = true by simpa using hlong] at c0
    (repeat' (first | (refine stg_ ?_) | (refine cla_ (c0) ?_) | (refine br_ (fun hbr => ?_) (fun hbr => ?_))))
    all_goals ((refine RetOK.d rfl rfl ?_; conv => whnf); done)
  rw [show (decide (1048576 < xs.length) || decide (1048576 < ys.length)) = false by simpa using hlong] at c0
  (repeat (refine stg_ ?_))
  (refine cla_ (c0) ?_)
  (repeat (refine stg_ ?_))
  refine clx_ c1 ?_
  rintro v bs ⟨ts, hd, rfl, rfl⟩
  refine ⟨rfl, ?_⟩
  have hz := dr_z hd
  have hvt := dr_vt hd
  have hlen := dr_len hd
  have hL : (ts.map TTable.D).length = ts.length := List.length_map _
  have c2 := PackTables_a ts (by omega)
  rw [show paS ts = fileS ts by rw [paS, if_pos ⟨hvt.o, hvt.z⟩], show paC ts = 0 by rw [paC, if_pos ⟨hvt.o, hvt.z⟩]] at c2
  have hcn := fi_cnt hvt
  have c3 := UnpackTables_v (fileS ts) _ _ (fun _ => ⟨rfl, rfl⟩) (fun h => absurd (fi_up hvt) h)
  rw [hcn, (fi_rd hvt).2] at c3
  have c4 := DamagedTables_v (fileS ts) _ _ (fun _ => ⟨rfl, rfl⟩) (fun h => absurd (fi_rd hvt).1 h)
  rw [hcn, fi_dm hvt] at c4
  (conv => whnf)
  (repeat' (first | (refine stg_ ?_) | (refine cla_ (c2) ?_) | (refine cla_ (c3) ?_) | (refine cla_ (c4) ?_) | (refine br_ (fun hbr => ?_) (fun hbr => ?_))))
  all_goals try (exfalso; exact hbr trivial)
  all_goals try (exfalso; simp_all; done)
  refine LoopW.go (α := Nat) (fun k => [(1, .d (.lst (ys.map bD))), (5, .own 1 0 ts.length), (8, .own 2 0 ts.length), (12, .d (.int .i64 k))]) (fun k => [.gone, .arr 2 (ts.map TTable.D) true, .arr 2 (ts.map TTable.D) true]) (fun k => k ≤ ts.length) (fun k => ts.length - k) 0 covT_ ?_ (fun k hk => ?_)
  · omega
  (conv => whnf)
  (refine br_ (fun h1 => ?_) (fun h1 => ?_))
  · obtain ⟨x, hx⟩ := at_lt' (xs := ts) (k := k) (by omega)
    have he : (ts.map TTable.D)[k]? = some x.D := by rw [List.getElem?_map, hx]; rfl
    have c5 := TableNamed_v ts x.fTag (by omega)
    rw [(dr_tn hd hx).1, (dr_tn hd hx).2] at c5
    (repeat' (first | (refine stg_ ?_) | (refine cla_ (c5) ?_) | (refine br_ (fun hbr => ?_) (fun hbr => ?_))))
    all_goals first | (exfalso; simp_all; done) | exact NextW.go (k + 1) covT_ (by omega) (by omega)
  obtain ⟨dt, hdt, hdt2⟩ : ∃ dt : ByteArray, dt = ⟨#[100, 97, 116, 97]⟩ ∧ dt.size = 4 := ⟨_, rfl, rfl⟩
  have hzs := setL_z ⟨zmid, dt⟩ ts
  have hz4 : zTable ⟨zmid, dt⟩ = 8 := by rw [zTable, hdt2]; rfl
  have hml := mid_len hd dt
  have c6 := SetTable_v ts ⟨zmid, dt⟩ (by omega) (by omega) (v := .tup [.own 1 0 (ts.length + 1), .d (.int .i64 0)]) (bs := [.arr 2 ((setL ⟨zmid, dt⟩ ts).map TTable.D) true]) (by
    rw [StR, if_pos ⟨dr_v hd, (show tagB zmid = true by decide)⟩, if_pos (mid_v hd (by omega)), hml]; exact ⟨rfl, rfl⟩)
  have c7 := DropTable_v (setL ⟨zmid, dt⟩ ts) zmid (by omega) (posT zmid ts) (mid_find hd dt) (mid_v hd (by omega))
  rw [mid_drop hd, hml] at c7
  rw [hdt] at c6 c7
  have hLm : ((setL ⟨zmid, ⟨#[100, 97, 116, 97]⟩⟩ ts).map TTable.D).length = ts.length + 1 := by rw [List.length_map, ← hdt, hml]
  (refine cla_ (c6) ?_)
  (repeat (refine stg_ ?_))
  (refine cla_ (c7) ?_)
  (repeat' (first | (refine stg_ ?_) | fail | (refine br_ (fun hbr => ?_) (fun hbr => ?_))))
  all_goals try (exfalso; simp_all; done)
  all_goals try (exfalso; omega)
  refine LoopW.go (α := Nat) (fun k => [(1, .d (.lst (ys.map bD))), (5, .own 1 0 ts.length), (18, .own 5 0 ts.length), (20, .d (.int .i64 k))]) (fun k => [.gone, .arr 2 (ts.map TTable.D) true, .gone, .gone, .gone, .arr 2 (ts.map TTable.D) true]) (fun k => k ≤ ts.length) (fun k => ts.length - k) 0 covT_ ?_ (fun k hk => ?_)
  · omega
  (conv => whnf)
  (refine br_ (fun h2 => ?_) (fun h2 => ?_))
  · obtain ⟨x, hx⟩ := at_lt' (xs := ts) (k := k) (by omega)
    have he : (ts.map TTable.D)[k]? = some x.D := by rw [List.getElem?_map, hx]; rfl
    (repeat' (first | (refine stg_ ?_) | fail | (refine br_ (fun hbr => ?_) (fun hbr => ?_))))
    all_goals first | (exfalso; simp_all; done) | exact NextW.go (k + 1) covT_ (by omega) (by omega)
  have c8 := specPackTables_a ts (by omega)
  rw [show paS ts = fileS ts by rw [paS, if_pos ⟨hvt.o, hvt.z⟩], show paC ts = 0 by rw [paC, if_pos ⟨hvt.o, hvt.z⟩]] at c8
  have hfs := fi_size hvt
  obtain ⟨fl, hfl⟩ : ∃ fl, fl = fileS ts := ⟨_, rfl⟩
  rw [← hfl] at c8 hfs
  have hsz := hvt.z
  (repeat (refine stg_ ?_))
  (refine cla_ (c8) ?_)
  (repeat (refine stg_ ?_))
  (refine br_ (fun h3 => ?_) (fun h3 => ?_))
  · (repeat (refine stg_ ?_))
    (refine RetOK.d rfl rfl ?_; conv => whnf)
  have c9 : PC Tryd.prog 13 [.d (.lst (ys.map bD)), .d (.int .i64 0), .d (.int .i64 (fl.size - (12 + 16 * ts.length)))] (.d (.int .i64 (e8N ys (0 : Nat) (fl.size - (12 + 16 * ts.length))))) [] := e8At_v ys 0 (fl.size - (12 + 16 * ts.length))
  have hq := e8N_in ys (0 : Nat) (fl.size - (12 + 16 * ts.length)) (by omega)
  generalize e8N ys (0 : Nat) (fl.size - (12 + 16 * ts.length)) = q at c9 hq
  have c10 : PC Tryd.prog 13 [.d (.lst (ys.map bD)), .d (.int .i64 1), .d (.int .i64 255)] (.d (.int .i64 (e8N ys (1 : Nat) 255))) [] := e8At_v ys 1 255
  have hr := e8N_in ys (1 : Nat) 255 (by omega)
  generalize e8N ys (1 : Nat) 255 = r at c10 hr
  (repeat (refine stg_ ?_))
  (refine cla_ (c9) ?_)
  (repeat (refine stg_ ?_))
  intro cap
  obtain ⟨p, hp⟩ : ∃ p : Nat, (12 + 16 * (ts.length : Int) + q) = (p : Nat) := ⟨(12 + 16 * (ts.length : Int) + q).toNat, by omega⟩
  have hpl : p < fl.size := by omega
  have hb0 := bget? hpl
  generalize fl[p]'hpl = b0 at hb0
  have hb1 : fl.data.toList[p]? = some b0 := by rw [← bL]; exact hb0
  have hbD : (fl.data.toList.map bD)[p]? = some (bD b0) := by rw [List.getElem?_map, hb1]; rfl
  have hlt := b0.toNat_lt
  obtain ⟨b1, hb1e⟩ : ∃ b1 : UInt8, b1 = b0 ^^^ UInt8.ofNat (1 + r).toNat := ⟨_, rfl⟩
  have hx : (((BitVec.ofInt IntKind.u8.bits ((b0.toNat : Nat) : Int) ^^^ BitVec.ofInt IntKind.u8.bits (1 + r)).toNat : Nat) : Int) = ((b1.toNat : Nat) : Int) := by
    show (((BitVec.ofInt 8 ((b0.toNat : Nat) : Int) ^^^ BitVec.ofInt 8 (1 + r)).toNat : Nat) : Int) = _
    have e1 : (((b0.toNat : Nat) : Int) % ((2 ^ 8 : Nat) : Int)).toNat = b0.toNat := by omega
    have e2 : ((1 + r) % ((2 ^ 8 : Nat) : Int)).toNat = (UInt8.ofNat (1 + r).toNat).toNat := by rw [UInt8.toNat_ofNat']; omega
    rw [hb1e, BitVec.toNat_xor, BitVec.toNat_ofInt, BitVec.toNat_ofInt, UInt8.toNat_xor, e1, e2]
  have hne : b1 ≠ b0 := fun h => by
    rw [hb1e] at h
    have h2 := congrArg (fun z => b0 ^^^ z) h
    simp only [← UInt8.xor_assoc, UInt8.xor_self, UInt8.zero_xor] at h2
    have h3 := congrArg UInt8.toNat h2
    rw [UInt8.toNat_ofNat'] at h3
    simp only [UInt8.toNat_zero] at h3
    omega
  have hlt1 := b1.toNat_lt
  rw [show (fl.size : Nat) = fl.data.toList.length from Array.length_toList.symm] at *
  (conv => whnf)
  rw [hp]
  (repeat (refine stg_ ?_))
  (refine cla_ (c10) ?_)
  (repeat (refine stg_ ?_))
  refine ⟨⟨by rw [Int.toNat_natCast]; exact (List.getElem?_eq_some_iff.1 hb1).1, b1, hx, ?_⟩⟩
  (conv => whnf)
  (repeat (refine stg_ ?_))
  obtain ⟨t, ht⟩ : ∃ t : ByteArray, t = ⟨(fl.data.toList.set ((p : Nat) : Int).toNat b1).toArray⟩ := ⟨_, rfl⟩
  have htl : t.data.toList = fl.data.toList.set p b1 := by rw [ht, Int.toNat_natCast]
  have hfs1 : fl.size = fl.data.toList.length := Array.length_toList.symm
  have hfs2 : t.size = t.data.toList.length := Array.length_toList.symm
  have hcf : cnt fl = ts.length := by rw [hfl]; exact hcn
  have hup : ¬ upC t = 0 := fun h => by
    have := up_changed (s := fl) (t := t) (p := p) (by rw [hfs1, hfs2, htl, List.length_set]) (by rw [hfl]; exact fi_up hvt) h (by rw [hcf]; omega) (by rw [hfs1]; exact hpl) (fun i hi => by rw [bL, bL, htl, List.getElem?_set_ne (Ne.symm hi)])
    rw [hb0, bL, htl, List.getElem?_set_self hpl] at this
    exact hne (Option.some.inj this).symm
  have c11 := UnpackTables_v t _ _ (fun h => absurd h hup) (fun _ => ⟨rfl, rfl⟩)
  have hu0 : ¬ ((upC t : Nat) : Int) = 0 := by omega
  generalize ((upC t : Nat) : Int) = u at c11 hu0
  rw [ht] at c11
  (refine cla_ (c11) ?_)
  (repeat (refine stg_ ?_))
  (refine RetOK.d rfl rfl ?_; conv => whnf)
  rw [bne_iff_ne.2 hu0]
open Go.ChangeShapes Go.WideShapes Go.ChangeAt Go.RowKit
theorem law_lift_laid {C : Checked} {f : FuncId} {fn : Func} {s : ChangeSpec} {ts : List TypeId} {T : TypeId} {conds : List PathCond} (X : World → Array Value → Prop) (hX : ∀ (w w' : World) (args : Array Value), w.heap = w'.heap → X w args → X w' args)
    (own : ownKnob C.prog.godebug = none) (hl : laidOutB C.prog = true)
    (noInit : C.prog.inits.idxOf? f = none) (hfn : C.prog.funcs[f]? = some fn) (hp : fn.params.toList = ts) (hr : fn.resultTypes = #[T]) (hT : C.prog.underlying T = some .bool)
    (hts : ∀ t ∈ ts, C.prog.readableRec t = true ∧ t < C.prog.types.size) (hv : s.vars = [])
    (hs : ∀ (H : Type) (ds : List (DataW H)), ds.length = ts.length → (s.fn H ds).results = [.lit (.bool true)] ∧ (s.fn H ds).args = ds ∧ (s.fn H ds).vars = [])
    (hc : LawCalls C.prog f ts) (os : Os) (started : os.Started) (H : Type) (enc : TypeId × Value → H)
    (witness : ∃ (w : World) (tape : Tape) (i : Input), w.os = os ∧ (w.forCall tape i).Shaped C.prog ∧ i.vars = [] ∧ Input.okWide C.prog (w.forCall tape i) .any w.heap.size f i ∧
      ((s.pre enc C.prog fn conds false (w.forCall tape i).memory i.args ∧ X (w.forCall tape i).memory i.args) ∧ sizedMet enc C.prog fn (OpenSpec.ofChange s) false (w.forCall tape i).memory i.args) ∧ ({} : Assume).holds C.prog (lone (Frame.enter C.prog f i.args .normal) [] (w.forCall tape i))) :
    ReturnsInHanded {} C os f .any (fun w args => (s.pre enc C.prog fn conds false w args ∧ X w args) ∧ sizedMet enc C.prog fn (OpenSpec.ofChange s) false w args) (s.post enc C.prog fn false true false false) := by
  refine returnsInHanded_of_change_and (X := X) hX own started noInit hfn witness ?_
  intro W base args ds gs before hval hW _ _ _ _
  have hW' := hW
  obtain ⟨p, q, hA, hV, rfl, hfz, hnd⟩ := hW
  rw [hv] at hV
  obtain ⟨rfl, rfl⟩ := trodVars_none hV
  rw [hp] at hA
  have hlen : ∀ (ts : List TypeId) (vs : List Value) (ds : List (DataW H)) (ps : List MemPlace), DataW.TrodAll enc C.prog W 0 (fun _ => true) true ts vs ds ps → ds.length = ts.length := by
    intro ts
    induction ts with
    | nil => intro vs ds ps h; obtain ⟨_, rfl, _⟩ := trodAll_nil h; rfl
    | cons t ts ih =>
      intro vs ds ps h
      obtain ⟨v, vs', d, ds', p, q, _, rfl, _, _, h'⟩ := ChangeShapes.trodAll_cons h
      simp [ih _ _ _ h']
  have hd := hlen _ _ _ _ hA
  obtain ⟨hs1, hs2, hs3⟩ := hs H ds hd
  have hval' : ∀ (j : Nat) t v, ts[j]? = some t → args.toList[j]? = some v → Value.okWide C.prog W .any base t v := fun j t v h1 h2 => hval j t v (by rw [← hp] at h1; simpa using h1) (by simpa using h2)
  have hcall := hc H enc W base args.toList ds p hval' hA
  rw [Array.toArray_toList] at hcall
  refine hcall.mono fun e W' ⟨he, bel⟩ => ⟨_, he, ds, [], _, [], p, [], hW', ?_, ?_, ?_, bel.below.frame _, fun h => by cases h⟩
  · rw [List.append_nil, hs1, hr]
    exact trodAll_mk1 (shut_bool hT _)
  · rw [List.append_nil, hs2, hp]
    exact trodAll_below hl bel.below _ _ _ _ hts hA
  · rw [List.append_nil, hs3, hv]
    rfl
theorem rdt_byte : RdD Tryd.prog 5 1 fun d => ∃ x : UInt8, d = bD x :=
  ⟨by kernel_rfl, fun H enc w fuel cs x h => by
    obtain ⟨n, rfl, _, hw⟩ := DataW.trod_int Tryd.underlying5 h
    have hr := inR_wf hw
    have e1 : IntKind.u8.min = 0 := rfl
    have e2 : IntKind.u8.max = 255 := rfl
    obtain ⟨x, rfl⟩ : ∃ x : UInt8, n = (x.toNat : Nat) := ⟨UInt8.ofNat n.toNat, by
      unfold inR at hr
      simp only [UInt8.toNat_ofNat']
      omega⟩
    exact ⟨_, ⟨x, rfl⟩, rfl, rfl, hr⟩⟩
theorem rdt_byteS : RdD Tryd.prog 22 1 fun d => ∃ x : List UInt8, d = .lst (x.map bD) := rd2_list Tryd.underlying22 (by kernel_rfl) (by decide) rdt_byte
end Go.Proofs.YtdeafbgnbgihgaaDoor