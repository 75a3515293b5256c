/- UnpackTables (spec), DamagedTables, DirectoryOf, by the machine. -/
import Derived.Test.YtcnlmllhnmaogaaDoorTabG
set_option linter.unusedSimpArgs false
set_option linter.unusedVariables false
namespace Go.Proofs.YtcnlmllhnmaogaaDoor
open Go.RowKit
theorem ents_at {s : ByteArray} {n k : Nat} (h : k < n) : ((ents s n).map TTable.D)[k]? = some (TTable.D ⟨tgK s k, dtK s k⟩) := by simp [ents, h]
theorem dtK_size (s : ByteArray) (k : Nat) (h : s.size ≤ 1048576) : (dtK s k).size ≤ 1048576 := by rw [dtK, ByteArray.size_extract]; omega
set_option maxHeartbeats 4000000 in
theorem specUnpackTables_v (s : ByteArray) (hsz : s.size ≤ 1048576) (v : V) (bs : List Blk) (h0 : upC s = 0 → v = .tup [.own 1 0 (cnt s), .d (.int .i64 0)] ∧ bs = [.arr 2 ((ents s (cnt s)).map TTable.D) true])
    (h1 : ¬ upC s = 0 → v = .tup [.nils, .d (.int .i64 (upC s))] ∧ bs = []) : PC Tryd.prog 12 [.d (.str s)] v bs := by
  refine pc_intro ttOk (by kernel_rfl) Tryd.func12 rfl (by kernel_rfl) (by kernel_rfl) (by kernel_rfl) (fun hw => ?_)
  have hs : s.size ≤ 9223372036854775807 := hw.1
  (conv => whnf)
  rcases Nat.eq_zero_or_pos (rdE s) with hr | hr
  · have c0 := l31Read_v s hsz _ _ (fun _ => ⟨rfl, rfl⟩) (fun h => absurd hr h)
    obtain ⟨hz1, hz2, hz3⟩ := hdE_zero (rdE_zero hr)
    have hup : upC s = upE s (cnt s) 0 := by rw [upC, if_pos hr]
    have h20 : cnt s < 20 := by omega
    have hd := ents_len s (cnt s)
    have hd2 := uL_len s (cnt s)
    (refine cla_ (c0) ?_)
    (repeat (refine stg_ ?_))
    refine LoopW.go (α := Nat) (fun k => [(4, .own 1 0 (cnt s)), (5, .own 2 0 (cnt s)), (7, .d (.int .i64 k))]) (fun _ => [.gone, .arr 2 ((ents s (cnt s)).map TTable.D) true, .arr 1 (uL s (cnt s)) true]) (fun k => k ≤ cnt s ∧ upE s (cnt s) 0 = upE s (cnt s - k) k) (fun k => cnt s - k) 0 covT_ ⟨by omega, rfl⟩ (fun k hk => ?_)
    obtain ⟨hk1, hk2⟩ := hk
    (conv => whnf)
    (refine br_ (fun h4 => ?_) (fun h4 => ?_))
    · have hx := ents_at (s := s) (n := cnt s) (k := k) (by omega)
      have hy := uL_at (s := s) (n := cnt s) (k := k) (by omega)
      have c1 := l01Sum_v (dtK s k) (dtK_size s k hsz)
      rw [show cnt s - k = (cnt s - (k + 1)) + 1 by omega, upE] at hk2
      (repeat (refine stg_ ?_))
      (refine cla_ (c1) ?_)
      (repeat (refine stg_ ?_))
      (refine br_ (fun h5 => ?_) (fun h5 => ?_))
      · have e : upC s = 10 := by rw [hup, hk2, if_neg (fun h => h5 h.symm)]
        obtain ⟨rfl, rfl⟩ := h1 (by omega)
        rw [e]
        (repeat (refine stg_ ?_))
        (refine ⟨⟨[], trivial, by decide, ⟨_, rfl, rfl, ⟨_, _, rfl, rfl, ⟨_, _, rfl, ⟨rfl, ?_⟩, rfl⟩⟩⟩⟩⟩; (conv => whnf))
        all_goals rfl
      · rw [if_pos h5.symm] at hk2
        (repeat (refine stg_ ?_))
        refine NextW.go (k + 1) covT_ ⟨by omega, hk2⟩ (by omega)
    · obtain rfl : k = cnt s := by omega
      rw [Nat.sub_self, upE] at hk2
      obtain ⟨rfl, rfl⟩ := h0 (by omega)
      (repeat (refine stg_ ?_))
      (refine ⟨⟨[some 1], ⟨by decide, ?_, trivial, trivial⟩, by decide, ⟨_, rfl, rfl, ⟨_, _, rfl, ⟨by decide, ?_⟩, ⟨_, _, rfl, ⟨rfl, ?_⟩, rfl⟩⟩⟩⟩⟩)
      · rfl
      · rfl
      · rfl
  · have c0 := l31Read_v s hsz _ _ (fun h => absurd h (by omega)) (fun _ => ⟨rfl, rfl⟩)
    have e : upC s = rdE s := by rw [upC, if_neg (by omega)]
    obtain ⟨rfl, rfl⟩ := h1 (by omega)
    rw [e]
    (refine cla_ (c0) ?_)
    (refine br_ (fun h2 => ?_) (fun h2 => ?_) <;> (repeat (refine stg_ ?_)))
    · (refine ⟨⟨[], trivial, by decide, ⟨_, rfl, rfl, ⟨_, _, rfl, rfl, ⟨_, _, rfl, ⟨rfl, ?_⟩, rfl⟩⟩⟩⟩⟩; (conv => whnf))
      all_goals rfl
    · exfalso; omega
end Go.Proofs.YtcnlmllhnmaogaaDoor
