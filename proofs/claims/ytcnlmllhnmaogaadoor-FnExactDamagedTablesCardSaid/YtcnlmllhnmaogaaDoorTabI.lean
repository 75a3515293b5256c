/- DamagedTables and DirectoryOf, both, by the machine. -/
import Derived.Test.YtcnlmllhnmaogaaDoorTabH
set_option linter.unusedSimpArgs false
set_option linter.unusedVariables false
namespace Go.Proofs.YtcnlmllhnmaogaaDoor
open Go.RowKit
def dmL (s : ByteArray) (k : Nat) : List ByteArray := ((List.range k).filter (fun i => !decide ((uK s i : Int) = sumB (dtK s i)))).map (tgK s)
theorem dmL_no {s : ByteArray} {k : Nat} (h : (uK s k : Int) = sumB (dtK s k)) : dmL s (k + 1) = dmL s k := by
  simp [dmL, List.range_succ, h]
theorem dmL_yes {s : ByteArray} {k : Nat} (h : ¬ (uK s k : Int) = sumB (dtK s k)) : (dmL s (k + 1)).map D.str = (dmL s k).map D.str ++ [.str (tgK s k)] := by
  simp [dmL, List.range_succ, h]
theorem dmL_len (s : ByteArray) (k : Nat) : (dmL s k).length ≤ k := by
  have := List.length_filter_le (fun i => !decide ((uK s i : Int) = sumB (dtK s i))) (List.range k)
  simp only [dmL, List.length_map, List.length_range] at *
  exact this
def dirS (s : ByteArray) (k : Nat) : ByteArray := tgK s k ++ ⟨#[32]⟩ ++ decB (aK s k : Nat) ++ ⟨#[32]⟩ ++ decB (nK s k : Nat) ++ ⟨#[32]⟩ ++ decB (uK s k : Nat)
def dirL (s : ByteArray) (k : Nat) : List ByteArray := (List.range k).map (dirS s)
theorem dirL_succ (s : ByteArray) (k : Nat) : (dirL s (k + 1)).map D.str = (dirL s k).map D.str ++ [.str (dirS s k)] := by simp [dirL, List.range_succ]
theorem dirL_len (s : ByteArray) (k : Nat) : ((dirL s k).map D.str).length = k := by simp [dirL]
theorem upC_zero {s : ByteArray} (h : upC s = 0) : rdE s = 0 := by
  rw [upC] at h
  split at h
  · assumption
  · omega
theorem lpE_ok {s : ByteArray} : ∀ f k, lpE s f k = 0 → ∀ j, k ≤ j → j < k + f → stE s j = 0
  | 0, k, _, j, h1, h2 => by omega
  | f + 1, k, h, j, h1, h2 => by
    rw [lpE] at h
    split at h
    · rename_i h3
      rcases Nat.lt_or_ge k j with h4 | h4
      · exact lpE_ok f (k + 1) h j h4 (by omega)
      · obtain rfl : j = k := by omega
        exact h3
    · rename_i h3
      exact absurd h h3
theorem rd_ok {s : ByteArray} (h : rdE s = 0) {k : Nat} (hk : k < cnt s) : oK s k = aK s k ∧ aK s (k + 1) ≤ s.size := by
  have h1 : lpE s (cnt s) 0 = 0 := by
    rw [rdE] at h
    split at h
    · omega
    · split at h
      · omega
      · omega
  have h2 := lpE_ok _ _ h1 k (by omega) (by omega)
  rw [stE] at h2
  split at h2
  · omega
  · split at h2
    · omega
    · omega
theorem tgK_size (s : ByteArray) (k : Nat) : (tgK s k).size ≤ 4 := by rw [tgK, ByteArray.size_extract]; omega
theorem szSp (c : UInt8) : ByteArray.size ⟨#[c]⟩ = 1 := rfl
theorem decN_size {n : Nat} (h : n < 4611686018427387904) : (decB (n : Int)).size ≤ 21 := decB_size n (by omega)
theorem uK_lt (s : ByteArray) (k : Nat) : uK s k < 4294967296 := gwK_lt s (12 + 16 * k + 4) 4
theorem nK_lt (s : ByteArray) (k : Nat) : nK s k < 4294967296 := gwK_lt s (12 + 16 * k + 12) 4
set_option maxHeartbeats 4000000 in
theorem DamagedTables_v (s : ByteArray) (v : V) (bs : List Blk) (h0 : rdE s = 0 → v = .tup [.own 1 0 (dmL s (cnt s)).length, .d (.int .i64 0)] ∧ bs = [.arr 1 ((dmL s (cnt s)).map D.str) true])
    (h1 : ¬ rdE s = 0 → v = .tup [.nils, .d (.int .i64 (rdE s))] ∧ bs = []) : PC Tryd.prog 8 [.d (.str s)] v bs := by
  refine pc_intro ttOk (by kernel_rfl) Tryd.func8 rfl (by kernel_rfl) (by kernel_rfl) (by kernel_rfl) (fun hw => ?_)
  have hs : s.size ≤ 9223372036854775807 := hw.1
  (conv => whnf)
  rcases Nat.eq_zero_or_pos (rdE s) with hr | hr
  · have c0 := readEntries_v s _ _ (fun _ => ⟨rfl, rfl⟩) (fun h => absurd hr h)
    obtain ⟨hz1, hz2, hz3⟩ := hdE_zero (rdE_zero hr)
    have h20 : cnt s < 20 := by omega
    have hd := entL_len s (cnt s)
    (refine cla_ (c0) ?_)
    (repeat (refine stg_ ?_))
    refine LoopW.go (α := Nat) (fun k => [(6, .own 2 0 ((dmL s k).map D.str).length), (17, .own 1 0 (cnt s)), (18, .d (.int .i64 (cnt s : Nat))), (19, .d (.int .i64 k))]) (fun k => [.gone, .arr 5 (entL s (cnt s)) true, .arr 1 ((dmL s k).map D.str) true]) (fun k => k ≤ cnt s) (fun k => cnt s - k) 0 (Weak.trans (Weak.adopt (k := 6) rfl 1 true) covT_) (by omega) (fun k hk => ?_)
    have hd2 := dmL_len s k
    have hd3 : ((dmL s k).map D.str).length ≤ k := by rw [List.length_map]; exact hd2
    (conv => whnf)
    (refine br_ (fun h4 => ?_) (fun h4 => ?_))
    · have hx := entL_at (s := s) (n := cnt s) (k := k) (by omega)
      have c1 := Sum32_v (dtK s k)
      (repeat (refine stg_ ?_))
      (refine cla_ (c1) ?_)
      (repeat (refine stg_ ?_))
      (refine br_ (fun h5 => ?_) (fun h5 => ?_))
      · have hS := dmL_yes h5
        (repeat (refine stg_ ?_))
        refine NextW.go (k + 1) (Weak.cov ⟨?_, rfl, rfl, rfl, trivial⟩ ⟨trivial, rfl, ?_, trivial⟩ rfl) (by omega) (by omega)
        · rw [hS]; simp only [List.length_append]; rfl
        · rw [hS, List.take_length]; try rfl
      · have hS := dmL_no h5
        (repeat (refine stg_ ?_))
        refine NextW.go (k + 1) (Weak.cov ⟨?_, rfl, rfl, rfl, trivial⟩ ⟨trivial, rfl, ?_, trivial⟩ rfl) (by omega) (by omega)
        · rw [hS]; rfl
        · rw [hS]
    · obtain rfl : k = cnt s := by omega
      obtain ⟨rfl, rfl⟩ := h0 (by omega)
      (repeat (refine stg_ ?_))
      (refine ⟨⟨[some 2], ⟨by decide, ?_, trivial, trivial⟩, by decide, ⟨_, rfl, rfl, ⟨_, _, rfl, ⟨by decide, ?_⟩, ⟨_, _, rfl, ⟨rfl, ?_⟩, rfl⟩⟩⟩⟩⟩)
      · rfl
      · rw [List.length_map]; rfl
      · rfl
  · have c0 := readEntries_v s _ _ (fun h => absurd h (by omega)) (fun _ => ⟨rfl, rfl⟩)
    obtain ⟨rfl, rfl⟩ := h1 (by omega)
    (refine cla_ (c0) ?_)
    (refine br_ (fun h2 => ?_) (fun h2 => ?_) <;> (repeat (refine stg_ ?_)))
    · (refine ⟨⟨[], trivial, by decide, ⟨_, rfl, rfl, ⟨_, _, rfl, rfl, ⟨_, _, rfl, ⟨rfl, ?_⟩, rfl⟩⟩⟩⟩⟩; (conv => whnf))
      all_goals rfl
    · exfalso; omega
set_option maxHeartbeats 4000000 in
theorem DirectoryOf_v (s : ByteArray) (v : V) (bs : List Blk) (h0 : rdE s = 0 → v = .tup [.own 1 0 (cnt s), .d (.int .i64 0)] ∧ bs = [.arr 1 ((dirL s (cnt s)).map D.str) true])
    (h1 : ¬ rdE s = 0 → v = .tup [.nils, .d (.int .i64 (rdE s))] ∧ bs = []) : PC Tryd.prog 18 [.d (.str s)] v bs := by
  refine pc_intro ttOk (by kernel_rfl) Tryd.func18 rfl (by kernel_rfl) (by kernel_rfl) (by kernel_rfl) (fun hw => ?_)
  have hs : s.size ≤ 9223372036854775807 := hw.1
  (conv => whnf)
  rcases Nat.eq_zero_or_pos (rdE s) with hr | hr
  · have c0 := readEntries_v s _ _ (fun _ => ⟨rfl, rfl⟩) (fun h => absurd hr h)
    obtain ⟨hz1, hz2, hz3⟩ := hdE_zero (rdE_zero hr)
    have h20 : cnt s < 20 := by omega
    have hd := entL_len s (cnt s)
    (refine cla_ (c0) ?_)
    (repeat (refine stg_ ?_))
    refine LoopW.go (α := Nat) (fun k => [(6, .own 2 0 ((dirL s k).map D.str).length), (17, .own 1 0 (cnt s)), (18, .d (.int .i64 (cnt s : Nat))), (19, .d (.int .i64 k))]) (fun k => [.gone, .arr 5 (entL s (cnt s)) true, .arr 1 ((dirL s k).map D.str) true]) (fun k => k ≤ cnt s) (fun k => cnt s - k) 0 (Weak.trans (Weak.adopt (k := 6) rfl 1 true) covT_) (by omega) (fun k hk => ?_)
    have hd2 := dirL_len s k
    have hd3 : (dirL s k).length = k := by simp [dirL]
    (conv => whnf)
    (refine br_ (fun h4 => ?_) (fun h4 => ?_))
    · have hx := entL_at (s := s) (n := cnt s) (k := k) (by omega)
      obtain ⟨g1, g2⟩ := rd_ok hr (k := k) (by omega)
      have gU := uK_lt s k
      have gN := nK_lt s k
      have gA : aK s k ≤ 65536 := by rw [aK] at g2; omega
      have q1 := decN_size (n := aK s k) (by omega)
      have q2 := decN_size (n := nK s k) (by omega)
      have q3 := decN_size (n := uK s k) (by omega)
      have q4 := tgK_size s k
      have hx' : (entL s (cnt s))[k]? = some (.st [.str (tgK s k), .int .i64 (uK s k), .int .i64 (aK s k), .int .i64 (nK s k), .str (dtK s k)]) := by rw [hx, entD, g1]
      have hS := dirL_succ s k
      (repeat (refine stg_ ?_))
      (repeat' (first | (refine stg_ ?_) | (refine cla_ (Decimal_v _) ?_) | (refine CatW.at (by show _ ≤ 9223372036854775807; simp only [ByteArray.size_append, szSp]; omega) ?_; conv => whnf) | (refine br_ (fun hbr => ?_) (fun hbr => ?_))))
      refine NextW.go (k + 1) (Weak.cov ⟨?_, rfl, rfl, rfl, trivial⟩ ⟨trivial, rfl, ?_, trivial⟩ rfl) (by omega) (by omega)
      · rw [hS]; simp only [List.length_append]; rfl
      · rw [hS, List.take_length]; try rfl
    · obtain rfl : k = cnt s := by omega
      obtain ⟨rfl, rfl⟩ := h0 (by omega)
      (repeat (refine stg_ ?_))
      (refine ⟨⟨[some 2], ⟨by decide, ?_, trivial, trivial⟩, by decide, ⟨_, rfl, rfl, ⟨_, _, rfl, ⟨by decide, ?_⟩, ⟨_, _, rfl, ⟨rfl, ?_⟩, rfl⟩⟩⟩⟩⟩)
      · rfl
      · rw [hd2]; rfl
      · rfl
  · have c0 := readEntries_v s _ _ (fun h => absurd h (by omega)) (fun _ => ⟨rfl, rfl⟩)
    obtain ⟨rfl, rfl⟩ := h1 (by omega)
    (refine cla_ (c0) ?_)
    (refine br_ (fun h2 => ?_) (fun h2 => ?_) <;> (repeat (refine stg_ ?_)))
    · (refine ⟨⟨[], trivial, by decide, ⟨_, rfl, rfl, ⟨_, _, rfl, rfl, ⟨_, _, rfl, ⟨rfl, ?_⟩, rfl⟩⟩⟩⟩⟩; (conv => whnf))
      all_goals rfl
    · exfalso; omega
set_option maxHeartbeats 4000000 in
theorem specDamagedTables_v (s : ByteArray) (hsz : s.size ≤ 1048576) (v : V) (bs : List Blk) (h0 : rdE s = 0 → v = .tup [.own 1 0 (dmL s (cnt s)).length, .d (.int .i64 0)] ∧ bs = [.arr 1 ((dmL s (cnt s)).map D.str) true])
    (h1 : ¬ rdE s = 0 → v = .tup [.nils, .d (.int .i64 (rdE s))] ∧ bs = []) : PC Tryd.prog 7 [.d (.str s)] v bs := by
  refine pc_intro ttOk (by kernel_rfl) Tryd.func7 rfl (by kernel_rfl) (by kernel_rfl) (by kernel_rfl) (fun hw => ?_)
  have hs : s.size ≤ 9223372036854775807 := hw.1
  (conv => whnf)
  rcases Nat.eq_zero_or_pos (rdE s) with hr | hr
  · have c0 := l31Read_v s hsz _ _ (fun _ => ⟨rfl, rfl⟩) (fun h => absurd hr h)
    obtain ⟨hz1, hz2, hz3⟩ := hdE_zero (rdE_zero hr)
    have h20 : cnt s < 20 := by omega
    have hd := ents_len s (cnt s)
    have hdu := uL_len s (cnt s)
    (refine cla_ (c0) ?_)
    (repeat (refine stg_ ?_))
    refine LoopW.go (α := Nat) (fun k => [(4, .own 1 0 (cnt s)), (5, .own 2 0 (cnt s)), (7, .own 3 0 ((dmL s k).map D.str).length), (8, .d (.int .i64 k))]) (fun k => [.gone, .arr 2 ((ents s (cnt s)).map TTable.D) true, .arr 1 (uL s (cnt s)) true, .arr 1 ((dmL s k).map D.str) true]) (fun k => k ≤ cnt s) (fun k => cnt s - k) 0 covT_ (by omega) (fun k hk => ?_)
    have hd2 := dmL_len s k
    have hd3 : ((dmL s k).map D.str).length ≤ k := by rw [List.length_map]; exact hd2
    (conv => whnf)
    (refine br_ (fun h4 => ?_) (fun h4 => ?_))
    · have hx := ents_at (s := s) (n := cnt s) (k := k) (by omega)
      have hy := uL_at (s := s) (n := cnt s) (k := k) (by omega)
      have c1 := l01Sum_v (dtK s k) (dtK_size s k hsz)
      (repeat (refine stg_ ?_))
      (refine cla_ (c1) ?_)
      (repeat (refine stg_ ?_))
      (refine br_ (fun h5 => ?_) (fun h5 => ?_))
      · have hS := dmL_yes (s := s) (k := k) (fun h => h5 h.symm)
        (repeat (refine stg_ ?_))
        refine NextW.go (k + 1) (Weak.cov ⟨rfl, rfl, ?_, rfl, trivial⟩ ⟨trivial, rfl, rfl, ?_, trivial⟩ rfl) (by omega) (by omega)
        · rw [hS]; simp only [List.length_append]; rfl
        · rw [hS, List.take_length]; try rfl
      · have hS := dmL_no (s := s) (k := k) h5.symm
        (repeat (refine stg_ ?_))
        refine NextW.go (k + 1) (Weak.cov ⟨rfl, rfl, ?_, rfl, trivial⟩ ⟨trivial, rfl, rfl, ?_, trivial⟩ rfl) (by omega) (by omega)
        · rw [hS]; rfl
        · rw [hS]
    · obtain rfl : k = cnt s := by omega
      obtain ⟨rfl, rfl⟩ := h0 (by omega)
      (repeat (refine stg_ ?_))
      (refine ⟨⟨[some 3], ⟨by decide, ?_, trivial, trivial⟩, by decide, ⟨_, rfl, rfl, ⟨_, _, rfl, ⟨by decide, ?_⟩, ⟨_, _, rfl, ⟨rfl, ?_⟩, rfl⟩⟩⟩⟩⟩)
      · rfl
      · rw [List.length_map]; rfl
      · rfl
  · have c0 := l31Read_v s hsz _ _ (fun h => absurd h (by omega)) (fun _ => ⟨rfl, rfl⟩)
    obtain ⟨rfl, rfl⟩ := h1 (by omega)
    (refine cla_ (c0) ?_)
    (refine br_ (fun h2 => ?_) (fun h2 => ?_) <;> (repeat (refine stg_ ?_)))
    · (refine ⟨⟨[], trivial, by decide, ⟨_, rfl, rfl, ⟨_, _, rfl, rfl, ⟨_, _, rfl, ⟨rfl, ?_⟩, rfl⟩⟩⟩⟩⟩; (conv => whnf))
      all_goals rfl
    · exfalso; omega
set_option maxHeartbeats 4000000 in
theorem specDirectoryOf_v (s : ByteArray) (hsz : s.size ≤ 1048576) (v : V) (bs : List Blk) (h0 : rdE s = 0 → v = .tup [.own 1 0 (cnt s), .d (.int .i64 0)] ∧ bs = [.arr 1 ((dirL s (cnt s)).map D.str) true])
    (h1 : ¬ rdE s = 0 → v = .tup [.nils, .d (.int .i64 (rdE s))] ∧ bs = []) : PC Tryd.prog 17 [.d (.str s)] v bs := by
  refine pc_intro ttOk (by kernel_rfl) Tryd.func17 rfl (by kernel_rfl) (by kernel_rfl) (by kernel_rfl) (fun hw => ?_)
  have hs : s.size ≤ 9223372036854775807 := hw.1
  (conv => whnf)
  rcases Nat.eq_zero_or_pos (rdE s) with hr | hr
  · have c0 := l31Read_v s hsz _ _ (fun _ => ⟨rfl, rfl⟩) (fun h => absurd hr h)
    obtain ⟨hz1, hz2, hz3⟩ := hdE_zero (rdE_zero hr)
    have h20 : cnt s < 20 := by omega
    have hd := ents_len s (cnt s)
    have hdu := uL_len s (cnt s)
    (refine cla_ (c0) ?_)
    (repeat (refine stg_ ?_))
    refine LoopW.go (α := Nat) (fun k => [(4, .own 1 0 (cnt s)), (5, .own 2 0 (cnt s)), (7, .own 3 0 ((dirL s k).map D.str).length), (8, .d (.int .i64 (aK s k : Nat))), (9, .d (.int .i64 k))]) (fun k => [.gone, .arr 2 ((ents s (cnt s)).map TTable.D) true, .arr 1 (uL s (cnt s)) true, .arr 1 ((dirL s k).map D.str) true]) (fun k => k ≤ cnt s) (fun k => cnt s - k) 0 covT_ (by omega) (fun k hk => ?_)
    have hd2 := dirL_len s k
    have hd3 : (dirL s k).length = k := by simp [dirL]
    (conv => whnf)
    (refine br_ (fun h4 => ?_) (fun h4 => ?_))
    · have hx := ents_at (s := s) (n := cnt s) (k := k) (by omega)
      have hy := uL_at (s := s) (n := cnt s) (k := k) (by omega)
      obtain ⟨g1, g2⟩ := rd_ok hr (k := k) (by omega)
      have gU := uK_lt s k
      have gN := nK_lt s k
      have gE : aK s (k + 1) = aK s k + (nK s k + 3) / 4 * 4 := rfl
      have gA : aK s k ≤ 65536 := by omega
      have q1 := decN_size (n := aK s k) (by omega)
      have q2 := decN_size (n := nK s k) (by omega)
      have q3 := decN_size (n := uK s k) (by omega)
      have q4 := tgK_size s k
      have hS := dirL_succ s k
      have qD : (dtK s k).size = nK s k := by rw [dtK, ext_size s (by omega)]; omega
      (repeat (refine stg_ ?_))
      rw [qD]
      have d4 := l31Pad_v (nK s k : Int) (by omega)
      (repeat' (first | (refine stg_ ?_) | (refine cla_ (l01Dec_v _) ?_) | (refine CatW.at (by show _ ≤ 9223372036854775807; simp only [ByteArray.size_append, szSp]; omega) ?_; conv => whnf) | (refine br_ (fun hbr => ?_) (fun hbr => ?_))))
      (refine cla_ (d4) ?_)
      (refine stg_ ?_)
      refine ArW.i64e ((aK s (k + 1) : Nat) : Int) (by omega) (by omega) ?_
      (conv => whnf)
      (repeat (refine stg_ ?_))
      refine NextW.go (k + 1) (Weak.cov ⟨rfl, rfl, ?_, rfl, rfl, trivial⟩ ⟨trivial, rfl, rfl, ?_, trivial⟩ rfl) (by omega) (by omega)
      · rw [hS]; simp only [List.length_append]; rfl
      · rw [hS, List.take_length]; try rfl
    · obtain rfl : k = cnt s := by omega
      obtain ⟨rfl, rfl⟩ := h0 (by omega)
      (repeat (refine stg_ ?_))
      (refine ⟨⟨[some 3], ⟨by decide, ?_, trivial, trivial⟩, by decide, ⟨_, rfl, rfl, ⟨_, _, rfl, ⟨by decide, ?_⟩, ⟨_, _, rfl, ⟨rfl, ?_⟩, rfl⟩⟩⟩⟩⟩)
      · rfl
      · rw [hd2]; rfl
      · rfl
  · have c0 := l31Read_v s hsz _ _ (fun h => absurd h (by omega)) (fun _ => ⟨rfl, rfl⟩)
    obtain ⟨rfl, rfl⟩ := h1 (by omega)
    (refine cla_ (c0) ?_)
    (refine br_ (fun h2 => ?_) (fun h2 => ?_) <;> (repeat (refine stg_ ?_)))
    · (refine ⟨⟨[], trivial, by decide, ⟨_, rfl, rfl, ⟨_, _, rfl, rfl, ⟨_, _, rfl, ⟨rfl, ?_⟩, rfl⟩⟩⟩⟩⟩; (conv => whnf))
      all_goals rfl
    · exfalso; omega
end Go.Proofs.YtcnlmllhnmaogaaDoor
