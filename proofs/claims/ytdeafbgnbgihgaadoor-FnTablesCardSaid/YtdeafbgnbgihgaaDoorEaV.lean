/- merged: several parts in one text. Leans on no more than they do. -/
import Derived.Test.YtdeafbgnbgihgaaDoorTT
import Derived.Test.YtdeafbgnbgihgaaDoorLVBase
import Derived.Test.YtdeafbgnbgihgaaDoorLV
import Derived.Test.YtdeafbgnbgihgaaDoorVMTac
import Derived.Test.YtdeafbgnbgihgaaDoorVMOut
set_option linter.unusedSimpArgs false
set_option linter.unusedVariables false
namespace Go.Proofs.YtdeafbgnbgihgaaDoor
open Go.RowKit
theorem isSmall_v (c : UInt8) : PC Tryd.prog 73 [.d (.int .u8 c.toNat)] (.d (.bool (smB c))) [] := by
  refine pc_intro ttOk (by kernel_rfl) Tryd.func73 rfl (by kernel_rfl) (by kernel_rfl) (by kernel_rfl) (fun hw => ?_)
  (conv => whnf)
  (repeat' (first | (refine stg_ ?_) | (split <;> (conv => whnf))))
  (all_goals ((refine RetOK.d rfl rfl ?_; conv => whnf); (simp_all [smB]); (try omega)))
theorem isDigit_v (c : UInt8) : PC Tryd.prog 50 [.d (.int .u8 c.toNat)] (.d (.bool (dgB c))) [] := by
  refine pc_intro ttOk (by kernel_rfl) Tryd.func50 rfl (by kernel_rfl) (by kernel_rfl) (by kernel_rfl) (fun hw => ?_)
  (conv => whnf)
  (repeat' (first | (refine stg_ ?_) | (split <;> (conv => whnf))))
  (all_goals ((refine RetOK.d rfl rfl ?_; conv => whnf); (simp_all [dgB]); (try omega)))
theorem l01Digit_v (c : UInt8) : PC Tryd.prog 76 [.d (.int .u8 c.toNat)] (.d (.bool (dgB c))) [] := by
  refine pc_intro ttOk (by kernel_rfl) Tryd.func76 rfl (by kernel_rfl) (by kernel_rfl) (by kernel_rfl) (fun hw => ?_)
  (conv => whnf)
  (repeat' (first | (refine stg_ ?_) | (split <;> (conv => whnf))))
  (all_goals ((refine RetOK.d rfl rfl ?_; conv => whnf); (simp_all [dgB]); (try omega)))
def letB (c : UInt8) : Bool := smB c || (decide ((65 : Int) ≤ c.toNat) && decide ((c.toNat : Int) ≤ 90))
def tcB (c : UInt8) : Bool := letB c || dgB c || decide ((c.toNat : Int) = 32)
def tgL : List UInt8 → Bool
  | [] => true
  | c :: t => letB c && t.all tcB
def tagB (s : ByteArray) : Bool := decide (s.size = 4) && tgL s.data.toList
theorem isLetter_v (c : UInt8) : PC Tryd.prog 49 [.d (.int .u8 c.toNat)] (.d (.bool (letB c))) [] := by
  refine pc_intro ttOk (by kernel_rfl) Tryd.func49 rfl (by kernel_rfl) (by kernel_rfl) (by kernel_rfl) (fun hw => ?_)
  (conv => whnf)
  (repeat' (first | (refine stg_ ?_) | (refine cl_ (isSmall_v _) ?_) | (refine br_ (fun hbr => ?_) (fun hbr => ?_))))
  all_goals ((refine RetOK.d rfl rfl ?_; conv => whnf); simp_all [letB]; try omega)
theorem tgL_one {s : ByteArray} (h : 0 < s.size) : tgL s.data.toList = (letB (s[0]'h) && (s.data.toList.drop 1).all tcB) := by
  conv => lhs; rw [← List.drop_zero (l := s.data.toList), dropN h]
  rfl
theorem letB_tc {c : UInt8} (h : letB c = true) : tcB c = true := by simp [tcB, h]
set_option maxHeartbeats 1000000 in
theorem ValidTag_v (s : ByteArray) : PC Tryd.prog 27 [.d (.str s)] (.d (.bool (tagB s))) [] := by
  refine pc_intro ttOk (by kernel_rfl) Tryd.func27 rfl (by kernel_rfl) (by kernel_rfl) (by kernel_rfl) (fun hw => ?_)
  by_cases h0 : s.size = 4
  · have HN := tgL_one (s := s) (by omega)
    have hc := bget? (s := s) (k := 0) (by omega)
    have hT : tagB s = tgL s.data.toList := by rw [tagB, decide_eq_true h0, Bool.true_and]
    (conv => whnf)
    (repeat' (first | (refine stg_ ?_) | (refine cl_ (isLetter_v _) ?_) | (refine br_ (fun hbr => ?_) (fun hbr => ?_))))
    · (refine RetOK.d rfl rfl ?_; conv => whnf)
      simp_all
    · (refine RetOK.d rfl rfl ?_; conv => whnf)
      simp_all
    · refine LoopW.go (α := Nat) (fun k => [(0, .d (.str s)), (3, .d (.int .i64 k))]) (fun _ => [.gone]) (fun k => 1 ≤ k ∧ k ≤ 4 ∧ tgL s.data.toList = (s.data.toList.drop k).all tcB) (fun k => 4 - k) 1 covT_ ⟨by omega, by omega, by simp_all⟩ (fun k hk => ?_)
      obtain ⟨hk1, hk2, hk3⟩ := hk
      clear hc
      (conv => whnf)
      (refine br_ (fun h4 => ?_) (fun h4 => ?_) <;> (repeat (refine stg_ ?_)))
      · have hc := bget? (s := s) (k := k) (by omega)
        rw [dropN (k := k) (by omega), List.all_cons] at hk3
        (repeat' (first | (refine stg_ ?_) | (refine cl_ (isLetter_v _) ?_) | (refine cl_ (isDigit_v _) ?_) | (refine br_ (fun hbr => ?_) (fun hbr => ?_))))
        all_goals first | (exfalso; omega) | ((refine RetOK.d rfl rfl ?_; conv => whnf); simp_all [tcB]; try omega) | skip
        all_goals exact NextW.go (k + 1) covT_ ⟨by omega, by omega, by simp_all [tcB]⟩ (by omega)
      · (refine RetOK.d rfl rfl ?_; conv => whnf)
        rw [hT, hk3, List.drop_eq_nil_of_le (by show s.size ≤ k; omega)]; rfl
  · have hT : tagB s = false := by rw [tagB, decide_eq_false h0, Bool.false_and]
    (conv => whnf)
    (repeat' (first | (refine stg_ ?_) | fail | (refine br_ (fun hbr => ?_) (fun hbr => ?_))))
    · (refine RetOK.d rfl rfl ?_; conv => whnf)
      rw [hT]
    all_goals (exfalso; omega)
def tgA : List UInt8 → Nat → Bool
  | [], _ => true
  | c :: t, 0 => letB c && tgA t 1
  | c :: t, k + 1 => tcB c && tgA t (k + 2)
theorem tgA_all : ∀ (t : List UInt8) (k : Nat), tgA t (k + 1) = t.all tcB
  | [], _ => rfl
  | c :: t, k => by rw [tgA, List.all_cons, tgA_all t (k + 1)]
theorem tgA_L (t : List UInt8) : tgA t 0 = tgL t := by
  cases t with
  | nil => rfl
  | cons c t => rw [tgA, tgL, tgA_all]
set_option maxHeartbeats 2000000 in
theorem l31Tag_v (s : ByteArray) : PC Tryd.prog 54 [.d (.str s)] (.d (.bool (tagB s))) [] := by
  refine pc_intro ttOk (by kernel_rfl) Tryd.func54 rfl (by kernel_rfl) (by kernel_rfl) (by kernel_rfl) (fun hw => ?_)
  have hs : s.size ≤ 9223372036854775807 := hw.1
  have hT : tagB s = (decide (s.size = 4) && tgA s.data.toList 0) := by rw [tgA_L]; rfl
  (conv => whnf)
  refine LoopW.go (α := Nat) (fun k => [(0, .d (.str s)), (3, .d (.int .i64 k))]) (fun _ => [.gone]) (fun k => k ≤ s.size ∧ tgA s.data.toList 0 = tgA (s.data.toList.drop k) k) (fun k => s.size - k) 0 covT_ ⟨by omega, rfl⟩ (fun k hk => ?_)
  obtain ⟨hk2, hk3⟩ := hk
  (conv => whnf)
  (refine br_ (fun h4 => ?_) (fun h4 => ?_) <;> (repeat (refine stg_ ?_)))
  · have hc := bget? (s := s) (k := k) (by omega)
    rw [dropN (k := k) (by omega)] at hk3
    cases hl : letB (s[k]'(by omega)) with
    | true =>
      have hk4 : tgA s.data.toList 0 = tgA (s.data.toList.drop (k + 1)) (k + 1) := by
        cases k with
        | zero => rw [hk3, tgA, hl]; rfl
        | succ k => rw [hk3, tgA, letB_tc hl]; rfl
      (repeat' (first | (refine stg_ ?_) | (refine cl_ (l01Digit_v _) ?_) | (refine br_ (fun hbr => ?_) (fun hbr => ?_))))
      all_goals first | exact NextW.go (k + 1) covT_ ⟨by omega, hk4⟩ (by omega) | (exfalso; simp_all [letB, smB]; done) | (exfalso; simp_all [letB, smB]; omega)
    | false =>
      cases k with
      | zero =>
        rw [tgA, hl, Bool.false_and] at hk3
        (repeat' (first | (refine stg_ ?_) | (refine cl_ (l01Digit_v _) ?_) | (refine br_ (fun hbr => ?_) (fun hbr => ?_))))
        all_goals first | ((refine RetOK.d rfl rfl ?_; conv => whnf); simp_all; done) | (exfalso; simp_all [letB, smB]; done) | (exfalso; simp_all [letB, smB]; omega)
      | succ k =>
        rw [tgA] at hk3
        (repeat' (first | (refine stg_ ?_) | (refine cl_ (l01Digit_v _) ?_) | (refine br_ (fun hbr => ?_) (fun hbr => ?_))))
        all_goals first | (exfalso; omega) | ((refine RetOK.d rfl rfl ?_; conv => whnf); simp_all [tcB]; done) | ((refine RetOK.d rfl rfl ?_; conv => whnf); simp_all [tcB]; omega) | (exfalso; simp_all [letB, smB]; done) | (exfalso; simp_all [letB, smB]; omega) | exact NextW.go (k + 1 + 1) covT_ ⟨by omega, by simp_all [tcB]⟩ (by omega)
  · (refine RetOK.d rfl rfl ?_; conv => whnf)
    rw [hT, hk3, List.drop_eq_nil_of_le (by show s.size ≤ k; omega), show tgA [] k = true by cases k <;> rfl, Bool.and_true]
    congr 1
    rw [Bool.eq_iff_iff]; simp; omega
def ltT : Option TTable → TTable → Bool
  | none, _ => true
  | some p, x => Op.bytesLess p.fTag.toList x.fTag.toList
def tbGo : Option TTable → List TTable → Bool
  | _, [] => true
  | o, x :: t => tagB x.fTag && (ltT o x && tbGo (some x) t)
theorem tbGo_at {xs : List TTable} {k : Nat} {x : TTable} (hx : xs[k]? = some x) : tbGo (pv xs k) (xs.drop k) = (tagB x.fTag && (ltT (pv xs k) x && tbGo (pv xs (k + 1)) (xs.drop (k + 1)))) := by
  rw [drop_at hx, tbGo, pv_succ, hx]
theorem tbGo_end {xs : List TTable} {k : Nat} {o : Option TTable} (hk : xs.length ≤ k) : tbGo o (xs.drop k) = true := by
  rw [List.drop_eq_nil_of_le hk]; cases o <;> rfl
def ordT (xs : List TTable) : Bool := decide (xs.length ≤ 16) && tbGo none xs
def pd (x : TTable) : Nat := (x.fData.size + 3) / 4 * 4
def sumT (xs : List TTable) : Nat := (xs.map pd).sum
def szT (xs : List TTable) : Nat := 12 + 16 * xs.length + sumT xs
theorem sumT_at {xs : List TTable} {k : Nat} {x : TTable} (hx : xs[k]? = some x) : sumT (xs.take (k + 1)) = sumT (xs.take k) + pd x := by
  rw [sumT, take_snoc_get hx, List.map_append, List.sum_append]; simp [sumT]
theorem sumT_le : ∀ (xs : List TTable) (k : Nat), sumT (xs.take k) ≤ sumT xs
  | [], k => by simp [sumT]
  | x :: t, 0 => by simp [sumT]
  | x :: t, k + 1 => by
    have := sumT_le t k
    simp only [sumT, List.take_succ_cons, List.map_cons, List.sum_cons] at this ⊢
    omega
theorem sumT_z : ∀ xs : List TTable, sumT xs ≤ 4 * zL zTable xs
  | [] => by simp [sumT, zL]
  | x :: t => by
    have := sumT_z t
    simp only [sumT, zL, List.map_cons, List.sum_cons, List.length_cons, pd, zTable] at this ⊢
    omega
theorem zT_at {xs : List TTable} {k : Nat} {x : TTable} (hx : xs[k]? = some x) : x.fTag.size + x.fData.size ≤ zL zTable xs := by
  have := sum_get zTable hx
  simp only [zL, zTable] at this ⊢
  omega
def vtB (xs : List TTable) : Bool := ordT xs && decide (szT xs ≤ 65536)
theorem pad_and {n : Int} (h0 : 0 ≤ n) (h1 : n ≤ 9223372036854775807) : (((BitVec.ofInt IntKind.i64.bits (0 - n) &&& BitVec.ofInt IntKind.i64.bits 3).toNat : Nat) : Int) = (0 - n) % 4 := by
  have e : BitVec.ofInt 64 3 = 3#64 := rfl
  show (((BitVec.ofInt 64 (0 - n) &&& BitVec.ofInt 64 3).toNat : Nat) : Int) = _
  rw [e, BitVec.toNat_and, BitVec.toNat_ofInt, show (3#64).toNat = 2 ^ 2 - 1 from rfl, Nat.and_two_pow_sub_one_eq_mod]
  omega
theorem l31Pad_v (n : Int) (h0 : 0 ≤ n) : PC Tryd.prog 55 [.d (.int .i64 n)] (.d (.int .i64 ((0 - n) % 4))) [] := by
  refine pc_intro ttOk (by kernel_rfl) Tryd.func55 rfl (by kernel_rfl) (by kernel_rfl) (by kernel_rfl) (fun hw => ?_)
  have hn : -9223372036854775808 ≤ n ∧ n ≤ 9223372036854775807 := hw.1
  (conv => whnf)
  (refine stg_ ?_)
  refine ArW.i64e ((0 - n) % 4) (pad_and h0 hn.2) (by omega) ?_
  (conv => whnf)
  (refine RetOK.d rfl rfl ?_; conv => whnf)
theorem paddedSize_v (n : Int) (h0 : 0 ≤ n) (h1 : n ≤ 9223372036854775000) : PC Tryd.prog 21 [.d (.int .i64 n)] (.d (.int .i64 ((n + 3) / 4 * 4))) [] := by
  refine pc_intro ttOk (by kernel_rfl) Tryd.func21 rfl (by kernel_rfl) (by kernel_rfl) (by kernel_rfl) (fun hw => ?_)
  have e : (n + 3).tdiv 4 = (n + 3) / 4 := Int.tdiv_eq_ediv_of_nonneg (by omega)
  (conv => whnf)
  (refine stg_ ?_)
  (refine stg_ ?_)
  rw [e]
  (repeat (refine stg_ ?_))
  (refine RetOK.d rfl rfl ?_; conv => whnf)
theorem fileSize_w (xs : List TTable) (hz : zL zTable xs ≤ 4194304) : PC Tryd.prog 17 [.d (.lst (xs.map TTable.D))] (.d (.int .i64 (szT xs : Nat))) [] := by
  refine pc_intro ttOk (by kernel_rfl) Tryd.func17 rfl (by kernel_rfl) (by kernel_rfl) (by kernel_rfl) (fun hw => ?_)
  have hL : (xs.map TTable.D).length = xs.length := List.length_map _
  have hS := sumT_z xs
  have hl : xs.length ≤ zL zTable xs := by simp only [zL]; omega
  (conv => whnf)
  (repeat (refine stg_ ?_))
  refine LoopW.go (α := Nat) (fun k => [(3, .d (.int .i64 ((12 + 16 * xs.length + sumT (xs.take k) : Nat)))), (10, .d (.lst (xs.map TTable.D))), (11, .d (.int .i64 (xs.map TTable.D).length)), (12, .d (.int .i64 k))]) (fun _ => [.gone]) (fun k => k ≤ xs.length) (fun k => xs.length - k) 0 (Weak.cov ⟨by rw [← hL]; exact congrArg (fun z => V.d (.int .i64 z)) (by simp [sumT] <;> omega), rfl, rfl, rfl, trivial⟩ ⟨trivial, trivial⟩ rfl) (by omega) (fun k hk => ?_)
  have h3 := sumT_le xs k
  (conv => whnf)
  (refine br_ (fun h2 => ?_) (fun h2 => ?_) <;> (repeat (refine stg_ ?_)))
  · obtain ⟨x, hx⟩ := at_lt' (xs := xs) (k := k) (by omega)
    have h4 := sumT_at hx
    have h5 := zT_at hx
    have h6 := sumT_le xs (k + 1)
    (repeat (refine stg_ ?_))
    (refine cl_ (paddedSize_v (x.fData.size : Int) (by omega) (by omega)) ?_)
    refine ArW.i64e ((12 + 16 * xs.length + sumT (xs.take (k + 1)) : Nat) : Int) (by rw [h4, pd]; omega) (by omega) ?_
    (conv => whnf)
    (repeat (refine stg_ ?_))
    exact NextW.go (k + 1) covT_ (by omega) (by omega)
  · (refine RetOK.d rfl rfl ?_; conv => whnf)
    rw [szT, List.take_of_length_le (by omega)]
theorem fileSize_v (xs : List TTable) (hz : zL zTable xs ≤ 1048576) : PC Tryd.prog 17 [.d (.lst (xs.map TTable.D))] (.d (.int .i64 (szT xs : Nat))) [] := fileSize_w xs (by omega)
theorem l31Size_w (xs : List TTable) (hz : zL zTable xs ≤ 4194304) : PC Tryd.prog 35 [.d (.lst (xs.map TTable.D))] (.d (.int .i64 (szT xs : Nat))) [] := by
  refine pc_intro ttOk (by kernel_rfl) Tryd.func35 rfl (by kernel_rfl) (by kernel_rfl) (by kernel_rfl) (fun hw => ?_)
  have hL : (xs.map TTable.D).length = xs.length := List.length_map _
  have hS := sumT_z xs
  have hl : xs.length ≤ zL zTable xs := by simp only [zL]; omega
  (conv => whnf)
  (repeat (refine stg_ ?_))
  refine LoopW.go (α := Nat) (fun k => [(0, .d (.lst (xs.map TTable.D))), (3, .d (.int .i64 ((12 + 16 * xs.length + sumT (xs.take k) : Nat)))), (4, .d (.int .i64 k))]) (fun _ => [.gone]) (fun k => k ≤ xs.length) (fun k => xs.length - k) 0 (Weak.cov ⟨rfl, by rw [← hL]; exact congrArg (fun z => V.d (.int .i64 z)) (by simp [sumT] <;> omega), rfl, trivial⟩ ⟨trivial, trivial⟩ rfl) (by omega) (fun k hk => ?_)
  have h3 := sumT_le xs k
  (conv => whnf)
  (refine br_ (fun h2 => ?_) (fun h2 => ?_) <;> (repeat (refine stg_ ?_)))
  · obtain ⟨x, hx⟩ := at_lt' (xs := xs) (k := k) (by omega)
    have h4 := sumT_at hx
    have h5 := zT_at hx
    have h6 := sumT_le xs (k + 1)
    (repeat (refine stg_ ?_))
    (refine cl_ (l31Pad_v (x.fData.size : Int) (by omega)) ?_)
    (refine stg_ ?_)
    refine ArW.i64e ((12 + 16 * xs.length + sumT (xs.take (k + 1)) : Nat) : Int) (by rw [h4, pd]; omega) (by omega) ?_
    (conv => whnf)
    (repeat (refine stg_ ?_))
    exact NextW.go (k + 1) covT_ (by omega) (by omega)
  · (refine RetOK.d rfl rfl ?_; conv => whnf)
    rw [szT, List.take_of_length_le (by omega)]
theorem l31Size_v (xs : List TTable) (hz : zL zTable xs ≤ 1048576) : PC Tryd.prog 35 [.d (.lst (xs.map TTable.D))] (.d (.int .i64 (szT xs : Nat))) [] := l31Size_w xs (by omega)
theorem tagsInOrder_v (xs : List TTable) : PC Tryd.prog 16 [.d (.lst (xs.map TTable.D))] (.d (.bool (ordT xs))) [] := by
  refine pc_intro ttOk (by kernel_rfl) Tryd.func16 rfl (by kernel_rfl) (by kernel_rfl) (by kernel_rfl) (fun hw => ?_)
  have hL : (xs.map TTable.D).length = xs.length := List.length_map _
  have hm : (xs.map TTable.D).length ≤ 9223372036854775807 := hw.1.1
  (conv => whnf)
  (refine br_ (fun h1 => ?_) (fun h1 => ?_) <;> (repeat (refine stg_ ?_)))
  · (refine RetOK.d rfl rfl ?_; conv => whnf)
    rw [ordT, decide_eq_false (by omega)]; rfl
  · refine LoopW.go (α := Nat) (fun k => [(0, .d (.lst (xs.map TTable.D))), (8, .d (.lst (xs.map TTable.D))), (9, .d (.int .i64 (xs.map TTable.D).length)), (10, .d (.int .i64 k))]) (fun k => [.gone]) (fun k => k ≤ xs.length ∧ ordT xs = tbGo (pv xs k) (xs.drop k)) (fun k => xs.length - k) 0 covT_ ?_ (fun k hk => ?_)
    · exact ⟨by omega, by rw [ordT, decide_eq_true (by omega)]; rfl⟩
    obtain ⟨hk1, hk2⟩ := hk
    (conv => whnf)
    (refine br_ (fun h2 => ?_) (fun h2 => ?_) <;> (repeat (refine stg_ ?_)))
    · obtain ⟨x, hx⟩ := at_lt' (xs := xs) (k := k) (by omega)
      rw [tbGo_at hx] at hk2
      rcases Nat.eq_zero_or_pos k with rfl | h0
      · rw [pv_zero, ltT, Bool.true_and] at hk2
        (repeat' (first | (refine stg_ ?_) | (refine cla_ (ValidTag_v x.fTag) ?_) | (refine br_ (fun hbr => ?_) (fun hbr => ?_))))
        all_goals first | (exfalso; omega) | ((refine RetOK.d rfl rfl ?_; conv => whnf); simp_all; done) | skip
        all_goals exact NextW.go (0 + 1) covT_ ⟨by omega, by simp_all⟩ (by omega)
      · obtain ⟨p, hp⟩ := at_lt' (xs := xs) (k := k - 1) (by omega)
        have hp' : (xs.map TTable.D)[((k : Int) - 1).toNat]? = some p.D := by
          have : ((k : Int) - 1).toNat = k - 1 := by omega
          rw [this, List.getElem?_map, hp]; rfl
        rw [pv_pos _ h0, hp, ltT] at hk2
        (repeat' (first | (refine stg_ ?_) | (refine cla_ (ValidTag_v x.fTag) ?_) | (refine IxW.at (by omega) hp' ?_; (conv => whnf)) | (refine br_ (fun hbr => ?_) (fun hbr => ?_))))
        all_goals first | (exfalso; omega) | ((refine RetOK.d rfl rfl ?_; conv => whnf); simp_all; done) | skip
        all_goals exact NextW.go (k + 1) covT_ ⟨by omega, by simp_all⟩ (by omega)
    · (refine RetOK.d rfl rfl ?_; conv => whnf)
      rw [hk2, tbGo_end (by omega)]
theorem l31Ok_v (xs : List TTable) : PC Tryd.prog 34 [.d (.lst (xs.map TTable.D))] (.d (.bool (ordT xs))) [] := by
  refine pc_intro ttOk (by kernel_rfl) Tryd.func34 rfl (by kernel_rfl) (by kernel_rfl) (by kernel_rfl) (fun hw => ?_)
  have hL : (xs.map TTable.D).length = xs.length := List.length_map _
  have hm : (xs.map TTable.D).length ≤ 9223372036854775807 := hw.1.1
  (conv => whnf)
  refine LoopW.go (α := Nat) (fun k => [(0, .d (.lst (xs.map TTable.D))), (3, .d (.int .i64 k))]) (fun k => [.gone]) (fun k => k ≤ xs.length ∧ tbGo none xs = tbGo (pv xs k) (xs.drop k)) (fun k => xs.length - k) 0 covT_ ?_ (fun k hk => ?_)
  · exact ⟨by omega, rfl⟩
  obtain ⟨hk1, hk2⟩ := hk
  (conv => whnf)
  (refine br_ (fun h2 => ?_) (fun h2 => ?_) <;> (repeat (refine stg_ ?_)))
  · obtain ⟨x, hx⟩ := at_lt' (xs := xs) (k := k) (by omega)
    rw [tbGo_at hx] at hk2
    rcases Nat.eq_zero_or_pos k with rfl | h0
    · rw [pv_zero, ltT, Bool.true_and] at hk2
      (repeat' (first | (refine stg_ ?_) | (refine cla_ (l31Tag_v x.fTag) ?_) | (refine br_ (fun hbr => ?_) (fun hbr => ?_))))
      all_goals first | (exfalso; omega) | ((refine RetOK.d rfl rfl ?_; conv => whnf); simp_all [ordT]; done) | skip
      all_goals exact NextW.go (0 + 1) covT_ ⟨by omega, by simp_all⟩ (by omega)
    · obtain ⟨p, hp⟩ := at_lt' (xs := xs) (k := k - 1) (by omega)
      have hp' : (xs.map TTable.D)[((k : Int) - 1).toNat]? = some p.D := by
        have : ((k : Int) - 1).toNat = k - 1 := by omega
        rw [this, List.getElem?_map, hp]; rfl
      rw [pv_pos _ h0, hp, ltT] at hk2
      (repeat' (first | (refine stg_ ?_) | (refine cla_ (l31Tag_v x.fTag) ?_) | (refine IxW.at (by omega) hp' ?_; (conv => whnf)) | (refine br_ (fun hbr => ?_) (fun hbr => ?_))))
      all_goals first | (exfalso; omega) | ((refine RetOK.d rfl rfl ?_; conv => whnf); simp_all [ordT]; done) | skip
      all_goals exact NextW.go (k + 1) covT_ ⟨by omega, by simp_all⟩ (by omega)
  · (refine RetOK.d rfl rfl ?_; conv => whnf)
    rw [ordT, hk2, tbGo_end (by omega), Bool.and_true]
    congr 1
    rw [Bool.eq_iff_iff]; simp; try omega
theorem ValidTables_w (xs : List TTable) (hz : zL zTable xs ≤ 4194304) : PC Tryd.prog 25 [.d (.lst (xs.map TTable.D))] (.d (.bool (vtB xs))) [] := by
  refine pc_intro ttOk (by kernel_rfl) Tryd.func25 rfl (by kernel_rfl) (by kernel_rfl) (by kernel_rfl) (fun hw => ?_)
  (conv => whnf)
  (repeat' (first | (refine stg_ ?_) | (refine cla_ (tagsInOrder_v xs) ?_) | (refine cla_ (fileSize_w xs hz) ?_) | (refine br_ (fun hbr => ?_) (fun hbr => ?_))))
  all_goals ((refine RetOK.d rfl rfl ?_; conv => whnf); simp_all [vtB]; try omega)
theorem ValidTables_v (xs : List TTable) (hz : zL zTable xs ≤ 1048576) : PC Tryd.prog 25 [.d (.lst (xs.map TTable.D))] (.d (.bool (vtB xs))) [] := ValidTables_w xs (by omega)
set_option maxHeartbeats 1000000 in
theorem ixTablep_v (xs : List TTable) (f : Nat) (y0 : D) (p : TTable → Bool) (hf : ∀ x : TTable, PC Tryd.prog f [.d x.D, .pX y0] (.d (.bool (p x))) []) :
    PC Tryd.prog 47 [.d (.lst (xs.map TTable.D)), .fn (.func f) [.pX y0]] (.d (.int .i64 (fdx p xs 0))) [] := by
  refine pc_intro ttOk (by kernel_rfl) Tryd.func47 rfl (by kernel_rfl) (by kernel_rfl) (by kernel_rfl) (fun hw => ?_)
  have hL : (xs.map TTable.D).length = xs.length := List.length_map _
  have hm : (xs.map TTable.D).length ≤ 9223372036854775807 := hw.1.1
  (conv => whnf)
  refine LoopW.go (α := Nat) (fun k => [(0, .d (.lst (xs.map TTable.D))), (1, .fn (.func f) [.pX y0]), (7, .d (.int .i64 (xs.map TTable.D).length)), (8, .d (.int .i64 k))]) (fun k => [.gone]) (fun k => k ≤ xs.length ∧ fdx p xs 0 = fdx p (xs.drop k) k) (fun k => xs.length - k) 0 covT_ ?_ (fun k hk => ?_)
  · exact ⟨by omega, rfl⟩
  obtain ⟨hk1, hk2⟩ := hk
  (conv => whnf)
  (refine br_ (fun h2 => ?_) (fun h2 => ?_) <;> (repeat (refine stg_ ?_)))
  · obtain ⟨x, hx⟩ := at_lt' (xs := xs) (k := k) (by omega)
    rw [fdx_at hx] at hk2
    (repeat (refine stg_ ?_))
    (refine cla_ (hf x) ?_)
    (refine br_ (fun h3 => ?_) (fun h3 => ?_) <;> (repeat (refine stg_ ?_)))
    · (refine RetOK.d rfl rfl ?_; conv => whnf)
      rw [hk2, if_pos h3]
    · (repeat (refine stg_ ?_))
      exact NextW.go (k + 1) covT_ ⟨by omega, by rw [hk2, h3]; rfl⟩ (by omega)
  · (refine RetOK.d rfl rfl ?_; conv => whnf)
    rw [hk2, fdx_end (by omega)]
def tgEq (s : ByteArray) (x : TTable) : Bool := x.fTag.toList == s.toList
theorem tabNm1_v (x : TTable) (s : ByteArray) : PC Tryd.prog 48 [.d x.D, .pX (.str s)] (.d (.bool (tgEq s x))) [] := by
  refine pc_intro ttOk (by kernel_rfl) Tryd.func48 rfl (by kernel_rfl) (by kernel_rfl) (by kernel_rfl) (fun hw => ?_)
  (conv => whnf)
  (refine RetOK.d rfl rfl ?_; conv => whnf)
  rfl
theorem findTable_v (xs : List TTable) (s : ByteArray) : PC Tryd.prog 26 [.d (.lst (xs.map TTable.D)), .d (.str s)] (.d (.int .i64 (fdx (tgEq s) xs 0))) [] := by
  refine pc_intro ttOk (by kernel_rfl) Tryd.func26 rfl (by kernel_rfl) (by kernel_rfl) (by kernel_rfl) (fun hw => ?_)
  (conv => whnf)
  (refine cla_ (ixTablep_v xs _ (.str s) (tgEq s) (fun x => tabNm1_v x s)) ?_)
  (refine RetOK.d rfl rfl ?_; conv => whnf)
def tnS (xs : List TTable) (s : ByteArray) : ByteArray := if vtB xs = true then if fdx (tgEq s) xs 0 < 0 then .empty else ((xs[(fdx (tgEq s) xs 0).toNat]?).map (·.fData)).getD .empty else .empty
def tnC (xs : List TTable) (s : ByteArray) : Int := if vtB xs = true then (if fdx (tgEq s) xs 0 < 0 then 3 else 0) else 1
theorem TableNamed_v (xs : List TTable) (s : ByteArray) (hz : zL zTable xs ≤ 1048576) : PC Tryd.prog 9 [.d (.lst (xs.map TTable.D)), .d (.str s)] (.tup [.d (.str (tnS xs s)), .d (.int .i64 (tnC xs s))]) [] := by
  refine pc_intro ttOk (by kernel_rfl) Tryd.func9 rfl (by kernel_rfl) (by kernel_rfl) (by kernel_rfl) (fun hw => ?_)
  have hL : (xs.map TTable.D).length = xs.length := List.length_map _
  obtain ⟨g1, g2⟩ := fdx_lt (tgEq s) xs 0
  cases hV : vtB xs
  · (conv => whnf)
    (repeat' (first | (refine stg_ ?_) | (refine cla_ (ValidTables_v xs hz) ?_) | (refine br_ (fun hbr => ?_) (fun hbr => ?_))))
    all_goals first | (exfalso; simp_all; done) | ((refine RetOK.t rfl ?_; (repeat' ((conv => whnf); (first | done | (refine ⟨_, _, rfl, ⟨rfl, ?_⟩, ?_⟩) | fail))); (all_goals (conv => whnf))); (all_goals (simp [tnS, tnC, hV]; try rfl)))
  · by_cases hf : fdx (tgEq s) xs 0 < 0
    · (conv => whnf)
      (repeat' (first | (refine stg_ ?_) | (refine cla_ (ValidTables_v xs hz) ?_) | (refine cla_ (findTable_v xs s) ?_) | (refine br_ (fun hbr => ?_) (fun hbr => ?_))))
      all_goals first | (exfalso; simp_all; done) | (exfalso; omega) | ((refine RetOK.t rfl ?_; (repeat' ((conv => whnf); (first | done | (refine ⟨_, _, rfl, ⟨rfl, ?_⟩, ?_⟩) | fail))); (all_goals (conv => whnf))); (all_goals (simp [tnS, tnC, hV, hf]; try rfl)))
      all_goals skip
    · obtain ⟨x, hx⟩ := at_lt' (xs := xs) (k := (fdx (tgEq s) xs 0).toNat) (by omega)
      have hx' : (xs.map TTable.D)[(fdx (tgEq s) xs 0).toNat]? = some x.D := by rw [List.getElem?_map, hx]; rfl
      (conv => whnf)
      (repeat' (first | (refine stg_ ?_) | (refine cla_ (ValidTables_v xs hz) ?_) | (refine cla_ (findTable_v xs s) ?_) | (refine IxW.at (by omega) hx' ?_; (conv => whnf)) | (refine br_ (fun hbr => ?_) (fun hbr => ?_))))
      all_goals first | (exfalso; simp_all; done) | (exfalso; omega) | ((refine RetOK.t rfl ?_; (repeat' ((conv => whnf); (first | done | (refine ⟨_, _, rfl, ⟨rfl, ?_⟩, ?_⟩) | fail))); (all_goals (conv => whnf))); (all_goals (simp [tnS, tnC, hV, hf, hx]; try omega)))
theorem Weak.freeze {e : Env} {h : List Blk} (k : Nat) {b n off len : Nat} {xs : List D} {dp : Bool} (hk : gt e k = .own b off len) (hb : h[b]? = some (.arr n xs dp)) (hb0 : Nat.ble 1 b = true) (hl : off + len ≤ xs.length) :
    Weak e h ((k, .d (.lst ((xs.drop off).take len))) :: dropE [b] e) ((dropK [b] h).set b (.arr n [] true)) := fun B X N M a w R => by
  have hb1 := Nat.le_of_ble_eq_true hb0
  have hr := R.env k
  rw [hk] at hr
  obtain ⟨M', R', hd⟩ := R.give (by omega) hb hl (rep_own.1 hr)
  exact ⟨M', R'.know (rep_of_rep1 (v := .d (.lst ((xs.drop off).take len))) hd)⟩
theorem Weak.freezeA {e : Env} {h : List Blk} (k : Nat) {b n len : Nat} {xs : List D} {dp : Bool} (hk : gt e k = .own b 0 len) (hb : h[b]? = some (.arr n xs dp)) (hb0 : Nat.ble 1 b = true) (hl : len = xs.length) :
    Weak e h ((k, .d (.lst xs)) :: dropE [b] e) ((dropK [b] h).set b (.arr n [] true)) := by
  have := Weak.freeze k hk hb hb0 (by omega)
  rwa [List.drop_zero, List.take_of_length_le (by omega)] at this
theorem PC.weak {P : Program} {f : FuncId} {As : List V} {v v' : V} {bs bs' : List Blk} (pc : PC P f As v bs) (hw : Weak [(0, v)] (.gone :: bs) [(0, v')] (.gone :: bs')) : PC P f As v' bs' where
  fn := pc.fn
  run w X args h1 h2 h3 := by
    refine (pc.run w X args h1 h2 h3).mono ?_
    rintro en w' ⟨cv, M', rfl, hx, hI, hr⟩
    have R : Rep w X 1 (mX X :: M') [(0, v)] (.gone :: bs) { tmps := #[cv], defers := [] } w' := ⟨hx, hI, fun k => by
      rw [gt_cons]
      by_cases hk : 0 = k
      · subst hk; rw [if_pos rfl]; exact hr
      · rw [if_neg hk]; trivial, rfl, rfl, rfl, rfl⟩
    obtain ⟨M2, R2⟩ := hw _ _ _ _ _ _ R
    have hf := R2.fr
    have hl := R2.inv.len
    match M2, hf, R2 with
    | m :: M3, hf, R2 =>
      have hm : m = mX X := by simpa using hf
      subst hm
      exact ⟨cv, M3, rfl, hx, R2.inv, R2.env 0⟩
theorem PC.freeze {P : Program} {f : FuncId} {As : List V} {n len : Nat} {xs : List D} {dp : Bool} (pc : PC P f As (.own 1 0 len) [.arr n xs dp]) (hl : len = xs.length) : PC P f As (.d (.lst xs)) [] :=
  pc.weak (Weak.trans (Weak.freezeA 0 rfl rfl rfl hl) (Weak.cov ⟨rfl, trivial⟩ ⟨trivial, trivial⟩ rfl))
theorem own_take {w : World} {arr : Array Value} {n : Nat} : ∀ (xs : List D) (i : Nat) (F : List Nat) (m : Nat), (∀ x ∈ xs, x.flat = true) → ownDe w arr n xs i F → F = [] ∧ ownDe w arr n (xs.take m) i []
  | [], i, F, m, _, h => ⟨h, by rw [List.take_nil]; rfl⟩
  | x :: t, i, F, m, hf, h => by
    obtain ⟨F1, F2, ces, rfl, h0, h1, h2, h3⟩ := h
    have e1 := flat_F x F1 ces (hf x (by simp)) h2
    subst e1
    obtain ⟨rfl, -⟩ := own_take t (i + 1) F2 0 (fun y hy => hf y (by simp [hy])) h3
    refine ⟨rfl, ?_⟩
    cases m with
    | zero => rfl
    | succ m =>
      rw [List.take_succ_cons]
      exact ⟨[], [], ces, rfl, h0, h1, h2, (own_take t (i + 1) [] m (fun y hy => hf y (by simp [hy])) h3).2⟩
theorem Weak.cutF {e : Env} {h : List Blk} (b m : Nat) {n : Nat} {xs : List D} (hb : h[b]? = some (.arr n xs true)) (hb0 : Nat.ble 1 b = true) (hf : ∀ x ∈ xs, x.flat = true) : Weak e h e (h.set b (.arr n (xs.take m) true)) := by
  intro B X N M a w R
  have hbl : b < M.length := by rw [R.inv.len]; exact (List.getElem?_eq_some_iff.1 hb).1
  have hM : M[b]? = some M[b] := List.getElem?_eq_getElem hbl
  have hb1 : b ≠ 0 := by have := Nat.le_of_ble_eq_true hb0; omega
  have hnf : nOf (h.set b (.arr n (xs.take m) true)) b = nOf h b := by
    unfold nOf; rw [List.getElem?_set_self (List.getElem?_eq_some_iff.1 hb).1, hb]
  generalize M[b] = m0 at hM
  cases m0 with
  | none =>
    have hx : xs = [] := R.inv.blk b _ _ hb hM
    obtain ⟨M', R', -⟩ := R.reset (w' := w) (m' := none) (k' := .arr n (xs.take m) true) R.ext hM hb1 hb (.inl rfl) [] [] (by simp) (by simp) (by simp) (by simp) (by simp [mO]) (by simp [mO]) (by simp [mO]) (Nat.le_refl _) (fun _ _ _ => rfl) rfl (by intro _ g F q; cases q) (fun _ _ _ => by show xs.take m = []; rw [hx, List.take_nil])
    simp only [dropE, dropK, goneL] at R'
    exact ⟨M', R'⟩
  | some gF =>
    obtain ⟨g, F⟩ := gF
    obtain ⟨arr, t, q1, q2, q3⟩ := R.inv.blk b _ _ hb hM
    rw [if_pos rfl] at q3
    have hgi : g ∈ M.O := mem_O hM (by simp [mO])
    obtain ⟨M', R', -⟩ := R.reset (w' := w) (m' := some (g, [])) (k' := .arr n (xs.take m) true) R.ext hM hb1 hb (.inl rfl) [] [] (by simp) (by simp) (by simp) (by simp) (by simp [mO]) (by simp [mO]) (by simpa [mO] using R.inv.hi g hgi) (Nat.le_refl _) (fun _ _ _ => rfl) rfl
      (by intro _ g' F' q; cases q; exact ⟨⟨[], rfl⟩, hnf, fun arr t h => ⟨arr, h, rfl⟩⟩)
      (fun M' h' _ => ⟨arr, t, q1, Nat.le_trans (Nat.mul_le_mul_right n (by rw [List.length_take]; omega)) q2, by rw [if_pos rfl]; exact (own_take xs 0 F m hf q3).2⟩)
    simp only [dropE, dropK, goneL] at R'
    exact ⟨M', R'⟩
def dpL (xs : List TTable) (i : Nat) : List TTable := xs.take i ++ xs.drop (i + 1)
theorem dpL_len {xs : List TTable} {i : Nat} (h : i < xs.length) : (dpL xs i).length = xs.length - 1 := by simp [dpL]; omega
theorem delL_take {xs : List TTable} {i : Nat} (h : i < xs.length) : (delL i (i + 1) xs).take (xs.length - 1) = dpL xs i := by
  have := dpL_len h
  show ((dpL xs i) ++ List.replicate (i + 1 - i) _).take _ = _
  rw [← this, List.take_left']
  rfl
theorem tab_flat (xs : List TTable) : ∀ x ∈ xs.map TTable.D, x.flat = true := by
  intro x hx
  obtain ⟨y, _, rfl⟩ := List.mem_map.1 hx
  rfl
theorem vt_len {xs : List TTable} (h : vtB xs = true) : xs.length ≤ 16 := by
  simp only [vtB, ordT, Bool.and_eq_true, decide_eq_true_eq] at h
  exact h.1.1
theorem DropTable_v (xs : List TTable) (s : ByteArray) (hz : zL zTable xs ≤ 1048576) (i : Nat) (hi : fdx (tgEq s) xs 0 = (i : Int)) (hV : vtB xs = true) : PC Tryd.prog 11 [.d (.lst (xs.map TTable.D)), .d (.str s)] (.tup [.own 1 0 (xs.length - 1), .d (.int .i64 0)]) [.arr 2 ((dpL xs i).map TTable.D) true] := by
  obtain ⟨g1, g2⟩ := fdx_lt (tgEq s) xs 0
  have hlt : i < xs.length := by omega
  have hL : (xs.map TTable.D).length = xs.length := List.length_map _
  have hl16 := vt_len hV
  have c1 := ValidTables_v xs hz
  have c2 := findTable_v xs s
  rw [hV] at c1
  rw [hi] at c2
  have c3 := cloneTable_v xs (by omega)
  have c4 := Delete_r xs i (i + 1) (by omega) (by omega)
  rw [show i + 1 - i = 1 by omega] at c4
  have pc : PC Tryd.prog 11 [.d (.lst (xs.map TTable.D)), .d (.str s)] (.tup [.own 1 0 (xs.length - 1), .d (.int .i64 0)]) [.arr 2 ((delL i (i + 1) xs).map TTable.D) true] := by
    refine pc_intro ttOk (by kernel_rfl) Tryd.func11 rfl (by kernel_rfl) (by kernel_rfl) (by kernel_rfl) (fun hw => ?_)
    (conv => whnf)
    (repeat' (first | (refine stg_ ?_) | (refine cla_ (c1) ?_) | (refine cla_ (c2) ?_) | (refine cla_ (c3) ?_) | (refine clp_ (c4) ?_) | (refine br_ (fun hbr => ?_) (fun hbr => ?_))))
    all_goals first | (exfalso; omega) | skip
    (refine ⟨⟨[some 1], ⟨by decide, ?_, trivial, trivial⟩, by decide, ⟨_, rfl, rfl, ⟨_, _, rfl, ⟨by decide, ?_⟩, ⟨_, _, rfl, ⟨rfl, ?_⟩, rfl⟩⟩⟩⟩⟩)
    all_goals rfl
  refine pc.weak (Weak.trans (Weak.cutF 1 (xs.length - 1) rfl rfl (tab_flat _)) (Weak.cov ⟨rfl, trivial⟩ ⟨trivial, ?_, trivial⟩ rfl))
  show Blk.arr 2 (List.take (xs.length - 1) ((delL i (i + 1) xs).map TTable.D)) true = _
  rw [← List.map_take, delL_take hlt]
def mkS (l : List UInt8) : ByteArray := ⟨l.toArray⟩
theorem mkS_toList (l : List UInt8) : (mkS l).data.toList = l := by simp [mkS]
theorem mkS_size (l : List UInt8) : (mkS l).size = l.length := by simp [mkS, ByteArray.size]
def e8N (code : List UInt8) (k n : Int) : Int := if n ≤ 1 ∨ (code.length : Int) ≤ k then 0 else (((code[k.toNat]?).map UInt8.toNat).getD 0 : Nat) % n
theorem e8N_in (code : List UInt8) (k n : Int) (hn : 1 ≤ n) : 0 ≤ e8N code k n ∧ e8N code k n < n := by
  unfold e8N
  split
  · omega
  · exact ⟨Int.emod_nonneg _ (by omega), Int.emod_lt_of_pos _ (by omega)⟩
theorem e8Long_v (xs ys : List UInt8) : PC Tryd.prog 4 [.d (.lst (xs.map bD)), .d (.lst (ys.map bD))] (.d (.bool (decide (1048576 < xs.length) || decide (1048576 < ys.length)))) [] := by
  refine pc_intro ttOk (by kernel_rfl) Tryd.func4 rfl (by kernel_rfl) (by kernel_rfl) (by kernel_rfl) (fun hw => ?_)
  have h1 : (xs.map bD).length = xs.length := List.length_map _
  have h2 : (ys.map bD).length = ys.length := List.length_map _
  (conv => whnf)
  (repeat' (first | (refine stg_ ?_) | fail | (refine br_ (fun hbr => ?_) (fun hbr => ?_))))
  all_goals ((refine RetOK.d rfl rfl ?_; conv => whnf); simp_all; try omega)
  all_goals (rw [decide_eq_false (p := 1048576 < xs.length) (by omega), Bool.false_or, decide_eq_decide]; omega)
theorem e8At_v (xs : List UInt8) (k : Nat) (n : Int) : PC Tryd.prog 13 [.d (.lst (xs.map bD)), .d (.int .i64 k), .d (.int .i64 n)] (.d (.int .i64 (e8N xs k n))) [] := by
  refine pc_intro ttOk (by kernel_rfl) Tryd.func13 rfl (by kernel_rfl) (by kernel_rfl) (by kernel_rfl) (fun hw => ?_)
  have h1 : (xs.map bD).length = xs.length := List.length_map _
  have hE : e8N xs k n = if n ≤ 1 ∨ (xs.length : Int) ≤ (k : Int) then 0 else (((xs[k]?).map UInt8.toNat).getD 0 : Nat) % n := rfl
  (conv => whnf)
  by_cases hn : n ≤ 1
  · rw [if_pos (.inl hn)] at hE
    rw [hE]
    (repeat' (first | (refine stg_ ?_) | fail | (refine br_ (fun hbr => ?_) (fun hbr => ?_))))
    all_goals first | (exfalso; omega) | ((refine RetOK.d rfl rfl ?_; conv => whnf); done)
  by_cases hk : (xs.length : Int) ≤ k
  · rw [if_pos (.inr hk)] at hE
    rw [hE]
    (repeat' (first | (refine stg_ ?_) | fail | (refine br_ (fun hbr => ?_) (fun hbr => ?_))))
    all_goals first | (exfalso; omega) | ((refine RetOK.d rfl rfl ?_; conv => whnf); done)
  rw [if_neg (by omega)] at hE
  obtain ⟨c, hc⟩ := at_lt' (xs := xs) (k := k) (by omega)
  have hx : (xs.map bD)[k]? = some (bD c) := by rw [List.getElem?_map, hc]; rfl
  have hcn := c.toNat_lt
  rw [hc] at hE
  rw [hE]
  have ht : ((c.toNat : Nat) : Int).tmod n = ((c.toNat : Nat) : Int) % n := Int.tmod_eq_emod_of_nonneg (by omega)
  (repeat' (first | (refine stg_ ?_) | fail | (refine br_ (fun hbr => ?_) (fun hbr => ?_))))
  all_goals first | (exfalso; omega) | ((refine RetOK.d rfl rfl ?_; conv => whnf); rw [ht]; rfl)
end Go.Proofs.YtdeafbgnbgihgaaDoor