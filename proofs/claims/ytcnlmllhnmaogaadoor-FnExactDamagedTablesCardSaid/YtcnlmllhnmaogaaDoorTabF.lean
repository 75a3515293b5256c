/- UnpackTables (impl), by the machine. -/
import Derived.Test.YtcnlmllhnmaogaaDoorTabE
set_option linter.unusedSimpArgs false
set_option linter.unusedVariables false
namespace Go.Proofs.YtcnlmllhnmaogaaDoor
open Go.RowKit
def upE (s : ByteArray) : Nat → Nat → Nat
  | 0, _ => 0
  | f + 1, k => if (uK s k : Int) = sumB (dtK s k) then upE s f (k + 1) else 10
/-- the code of UnpackTables -/
def upC (s : ByteArray) : Nat := if rdE s = 0 then upE s (cnt s) 0 else rdE s
theorem rdE_zero {s : ByteArray} (h : rdE s = 0) : hdE s = 0 := by
  rw [rdE] at h
  split at h
  · omega
  · omega
theorem ents_succ (s : ByteArray) (k : Nat) : (ents s (k + 1)).map TTable.D = (ents s k).map TTable.D ++ [TTable.D ⟨tgK s k, dtK s k⟩] := by simp [ents, List.range_succ]
theorem ents_len (s : ByteArray) (k : Nat) : ((ents s k).map TTable.D).length = k := by simp [ents]
set_option maxHeartbeats 4000000 in
theorem UnpackTables_v (s : ByteArray) (v : V) (bs : List Blk) (h0 : upC s = 0 → v = .tup [.own 1 0 (cnt s), .d (.int .i64 0)] ∧ bs = [.arr 2 ((ents s (cnt s)).map TTable.D) true])
    (h1 : ¬ upC s = 0 → v = .tup [.nils, .d (.int .i64 (upC s))] ∧ bs = []) : PC Tryd.prog 13 [.d (.str s)] v bs := by
  refine pc_intro ttOk (by kernel_rfl) Tryd.func13 rfl (by kernel_rfl) (by kernel_rfl) (by kernel_rfl) (fun hw => ?_)
  have hs : s.size ≤ 9223372036854775807 := hw.1
  (conv => whnf)
  rcases Nat.eq_zero_or_pos (rdE s) with hr | hr
  · have c0 := readEntries_v s _ _ (fun _ => ⟨rfl, rfl⟩) (fun h => absurd hr h)
    obtain ⟨hz1, hz2, hz3⟩ := hdE_zero (rdE_zero hr)
    have hup : upC s = upE s (cnt s) 0 := by rw [upC, if_pos hr]
    have h20 : cnt s < 20 := by omega
    have hd := entL_len s (cnt s)
    (refine cla_ (c0) ?_)
    (repeat (refine stg_ ?_))
    refine LoopW.go (α := Nat) (fun k => [(6, .own 2 0 ((ents s k).map TTable.D).length), (17, .own 1 0 (cnt s)), (18, .d (.int .i64 (cnt s : Nat))), (19, .d (.int .i64 k))]) (fun k => [.gone, .arr 5 (entL s (cnt s)) true, .arr 2 ((ents s k).map TTable.D) true]) (fun k => k ≤ cnt s ∧ upE s (cnt s) 0 = upE s (cnt s - k) k) (fun k => cnt s - k) 0 (Weak.trans (Weak.adopt (k := 6) rfl 2 true) covT_) ⟨by omega, rfl⟩ (fun k hk => ?_)
    obtain ⟨hk1, hk2⟩ := hk
    have hd2 := ents_len s k
    have hd3 : (ents s k).length = k := by simp [ents]
    (conv => whnf)
    (refine br_ (fun h4 => ?_) (fun h4 => ?_))
    · have hx := entL_at (s := s) (n := cnt s) (k := k) (by omega)
      have hS := ents_succ s k
      have c1 := Sum32_v (dtK s k)
      rw [show cnt s - k = (cnt s - (k + 1)) + 1 by omega, upE] at hk2
      (repeat (refine stg_ ?_))
      (refine cla_ (c1) ?_)
      (repeat (refine stg_ ?_))
      (refine br_ (fun h5 => ?_) (fun h5 => ?_))
      · have e : upC s = 10 := by rw [hup, hk2, if_neg h5]
        obtain ⟨rfl, rfl⟩ := h1 (by omega)
        rw [e]
        (repeat (refine stg_ ?_))
        (refine ⟨⟨[], trivial, by decide, ⟨_, rfl, rfl, ⟨_, _, rfl, rfl, ⟨_, _, rfl, ⟨rfl, ?_⟩, rfl⟩⟩⟩⟩⟩; (conv => whnf))
        all_goals rfl
      · rw [if_pos h5] at hk2
        (repeat (refine stg_ ?_))
        refine NextW.go (k + 1) (Weak.cov ⟨?_, rfl, rfl, rfl, trivial⟩ ⟨trivial, rfl, ?_, trivial⟩ rfl) ⟨by omega, hk2⟩ (by omega)
        · rw [hS]; simp only [List.length_append]; rfl
        · rw [hS, List.take_length]; try rfl
    · obtain rfl : k = cnt s := by omega
      rw [Nat.sub_self, upE] at hk2
      obtain ⟨rfl, rfl⟩ := h0 (by omega)
      (repeat (refine stg_ ?_))
      (refine ⟨⟨[some 2], ⟨by decide, ?_, trivial, trivial⟩, by decide, ⟨_, rfl, rfl, ⟨_, _, rfl, ⟨by decide, ?_⟩, ⟨_, _, rfl, ⟨rfl, ?_⟩, rfl⟩⟩⟩⟩⟩)
      · rfl
      · rw [hd2]; rfl
      · rfl
  · have c0 := readEntries_v s _ _ (fun h => absurd h (by omega)) (fun _ => ⟨rfl, rfl⟩)
    have e : upC s = rdE s := by rw [upC, if_neg (by omega)]
    obtain ⟨rfl, rfl⟩ := h1 (by omega)
    rw [e]
    (refine cla_ (c0) ?_)
    (refine br_ (fun h2 => ?_) (fun h2 => ?_) <;> (repeat (refine stg_ ?_)))
    · (refine ⟨⟨[], trivial, by decide, ⟨_, rfl, rfl, ⟨_, _, rfl, rfl, ⟨_, _, rfl, ⟨rfl, ?_⟩, rfl⟩⟩⟩⟩⟩; (conv => whnf))
      all_goals rfl
    · exfalso; omega
end Go.Proofs.YtcnlmllhnmaogaaDoor
