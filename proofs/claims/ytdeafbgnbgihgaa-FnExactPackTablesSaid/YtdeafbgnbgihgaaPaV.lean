/- merged: several parts in one text. Leans on no more than they do. -/
import Derived.Test.YtdeafbgnbgihgaaTypes
import Derived.Test.YtdeafbgnbgihgaaTT
import Derived.Test.YtdeafbgnbgihgaaLVBase
import Derived.Test.YtdeafbgnbgihgaaLV
import Derived.Test.YtdeafbgnbgihgaaVMTac
import Derived.Test.YtdeafbgnbgihgaaRpV
set_option linter.unusedSimpArgs false
set_option linter.unusedVariables false
namespace Go.Proofs.Ytdeafbgnbgihgaa
open Go.RowKit
def smB (c : UInt8) : Bool := decide ((97 : Int) ≤ c.toNat) && decide ((c.toNat : Int) ≤ 122)
def dgB (c : UInt8) : Bool := decide ((48 : Int) ≤ c.toNat) && decide ((c.toNat : Int) ≤ 57)
theorem bgetN {s : ByteArray} {k : Nat} (h : k < s.size) : s.data.toList[k]? = some (s[k]'h) := by
  have h' : k < s.data.toList.length := h
  rw [List.getElem?_eq_getElem h']
  rfl
theorem bget? {s : ByteArray} {k : Nat} (h : k < s.size) : s[k]? = some (s[k]'h) := by simp [h]
theorem dropN {s : ByteArray} {k : Nat} (h : k < s.size) : s.data.toList.drop k = s[k]'h :: s.data.toList.drop (k + 1) := by
  have := bgetN h
  have h' : k < s.data.toList.length := h
  rw [List.drop_eq_getElem_cons h']
  rfl
def pv {α : Type} (xs : List α) (k : Nat) : Option α := if k = 0 then none else xs[k - 1]?
theorem pv_succ {α : Type} (xs : List α) (k : Nat) : pv xs (k + 1) = xs[k]? := by simp [pv]
theorem pv_zero {α : Type} (xs : List α) : pv xs 0 = none := rfl
theorem pv_pos {α : Type} (xs : List α) {k : Nat} (h : 0 < k) : pv xs k = xs[k - 1]? := by rw [pv, if_neg (by omega)]
theorem drop_at {α : Type} {xs : List α} {k : Nat} {x : α} (hx : xs[k]? = some x) : xs.drop k = x :: xs.drop (k + 1) := by
  obtain ⟨h, rfl⟩ := List.getElem?_eq_some_iff.1 hx
  exact List.drop_eq_getElem_cons h
theorem at_lt' {α : Type} {xs : List α} {k : Nat} (h : k < xs.length) : ∃ x, xs[k]? = some x := ⟨xs[k], by simp [h]⟩
theorem isSmall_v (c : UInt8) : PC Try.prog 61 [.d (.int .u8 c.toNat)] (.d (.bool (smB c))) [] := by
  refine pc_intro ttOk (by kernel_rfl) Try.func61 rfl (by kernel_rfl) (by kernel_rfl) (by kernel_rfl) (fun hw => ?_)
  (conv => whnf)
  (repeat' (first | (refine stg_ ?_) | (split <;> (conv => whnf))))
  (all_goals ((refine RetOK.d rfl rfl ?_; conv => whnf); (simp_all [smB]); (try omega)))
theorem isDigit_v (c : UInt8) : PC Try.prog 48 [.d (.int .u8 c.toNat)] (.d (.bool (dgB c))) [] := by
  refine pc_intro ttOk (by kernel_rfl) Try.func48 rfl (by kernel_rfl) (by kernel_rfl) (by kernel_rfl) (fun hw => ?_)
  (conv => whnf)
  (repeat' (first | (refine stg_ ?_) | (split <;> (conv => whnf))))
  (all_goals ((refine RetOK.d rfl rfl ?_; conv => whnf); (simp_all [dgB]); (try omega)))
theorem l01Digit_v (c : UInt8) : PC Try.prog 46 [.d (.int .u8 c.toNat)] (.d (.bool (dgB c))) [] := by
  refine pc_intro ttOk (by kernel_rfl) Try.func46 rfl (by kernel_rfl) (by kernel_rfl) (by kernel_rfl) (fun hw => ?_)
  (conv => whnf)
  (repeat' (first | (refine stg_ ?_) | (split <;> (conv => whnf))))
  (all_goals ((refine RetOK.d rfl rfl ?_; conv => whnf); (simp_all [dgB]); (try omega)))
section
variable {α : Type}
theorem set_drop {l : List α} {k : Nat} {x : α} (h : k < l.length) : (l.set k x).drop k = x :: l.drop (k + 1) := by
  have e : (l.set k x)[k]? = some x := by simp [h]
  rw [drop_at e, List.drop_set_of_lt (by omega)]
end
def letB (c : UInt8) : Bool := smB c || (decide ((65 : Int) ≤ c.toNat) && decide ((c.toNat : Int) ≤ 90))
def tcB (c : UInt8) : Bool := letB c || dgB c || decide ((c.toNat : Int) = 32)
def tgL : List UInt8 → Bool
  | [] => true
  | c :: t => letB c && t.all tcB
def tagB (s : ByteArray) : Bool := decide (s.size = 4) && tgL s.data.toList
theorem isLetter_v (c : UInt8) : PC Try.prog 47 [.d (.int .u8 c.toNat)] (.d (.bool (letB c))) [] := by
  refine pc_intro ttOk (by kernel_rfl) Try.func47 rfl (by kernel_rfl) (by kernel_rfl) (by kernel_rfl) (fun hw => ?_)
  (conv => whnf)
  (repeat' (first | (refine stg_ ?_) | (refine cl_ (isSmall_v _) ?_) | (refine br_ (fun hbr => ?_) (fun hbr => ?_))))
  all_goals ((refine RetOK.d rfl rfl ?_; conv => whnf); simp_all [letB]; try omega)
theorem tgL_one {s : ByteArray} (h : 0 < s.size) : tgL s.data.toList = (letB (s[0]'h) && (s.data.toList.drop 1).all tcB) := by
  conv => lhs; rw [← List.drop_zero (l := s.data.toList), dropN h]
  rfl
theorem letB_tc {c : UInt8} (h : letB c = true) : tcB c = true := by simp [tcB, h]
set_option maxHeartbeats 1000000 in
theorem ValidTag_v (s : ByteArray) : PC Try.prog 28 [.d (.str s)] (.d (.bool (tagB s))) [] := by
  refine pc_intro ttOk (by kernel_rfl) Try.func28 rfl (by kernel_rfl) (by kernel_rfl) (by kernel_rfl) (fun hw => ?_)
  by_cases h0 : s.size = 4
  · have HN := tgL_one (s := s) (by omega)
    have hc := bget? (s := s) (k := 0) (by omega)
    have hT : tagB s = tgL s.data.toList := by rw [tagB, decide_eq_true h0, Bool.true_and]
    (conv => whnf)
    (repeat' (first | (refine stg_ ?_) | (refine cl_ (isLetter_v _) ?_) | (refine br_ (fun hbr => ?_) (fun hbr => ?_))))
    · (refine RetOK.d rfl rfl ?_; conv => whnf)
      simp_all
    · (refine RetOK.d rfl rfl ?_; conv => whnf)
      simp_all
    · refine LoopW.go (α := Nat) (fun k => [(0, .d (.str s)), (3, .d (.int .i64 k))]) (fun _ => [.gone]) (fun k => 1 ≤ k ∧ k ≤ 4 ∧ tgL s.data.toList = (s.data.toList.drop k).all tcB) (fun k => 4 - k) 1 covT_ ⟨by omega, by omega, by simp_all⟩ (fun k hk => ?_)
      obtain ⟨hk1, hk2, hk3⟩ := hk
      clear hc
      (conv => whnf)
      (refine br_ (fun h4 => ?_) (fun h4 => ?_) <;> (repeat (refine stg_ ?_)))
      · have hc := bget? (s := s) (k := k) (by omega)
        rw [dropN (k := k) (by omega), List.all_cons] at hk3
        (repeat' (first | (refine stg_ ?_) | (refine cl_ (isLetter_v _) ?_) | (refine cl_ (isDigit_v _) ?_) | (refine br_ (fun hbr => ?_) (fun hbr => ?_))))
        all_goals first | (exfalso; omega) | ((refine RetOK.d rfl rfl ?_; conv => whnf); simp_all [tcB]; try omega) | skip
        all_goals exact NextW.go (k + 1) covT_ ⟨by omega, by omega, by simp_all [tcB]⟩ (by omega)
      · (refine RetOK.d rfl rfl ?_; conv => whnf)
        rw [hT, hk3, List.drop_eq_nil_of_le (by show s.size ≤ k; omega)]; rfl
  · have hT : tagB s = false := by rw [tagB, decide_eq_false h0, Bool.false_and]
    (conv => whnf)
    (repeat' (first | (refine stg_ ?_) | fail | (refine br_ (fun hbr => ?_) (fun hbr => ?_))))
    · (refine RetOK.d rfl rfl ?_; conv => whnf)
      rw [hT]
    all_goals (exfalso; omega)
def tgA : List UInt8 → Nat → Bool
  | [], _ => true
  | c :: t, 0 => letB c && tgA t 1
  | c :: t, k + 1 => tcB c && tgA t (k + 2)
theorem tgA_all : ∀ (t : List UInt8) (k : Nat), tgA t (k + 1) = t.all tcB
  | [], _ => rfl
  | c :: t, k => by rw [tgA, List.all_cons, tgA_all t (k + 1)]
theorem tgA_L (t : List UInt8) : tgA t 0 = tgL t := by
  cases t with
  | nil => rfl
  | cons c t => rw [tgA, tgL, tgA_all]
set_option maxHeartbeats 2000000 in
theorem l31Tag_v (s : ByteArray) : PC Try.prog 27 [.d (.str s)] (.d (.bool (tagB s))) [] := by
  refine pc_intro ttOk (by kernel_rfl) Try.func27 rfl (by kernel_rfl) (by kernel_rfl) (by kernel_rfl) (fun hw => ?_)
  have hs : s.size ≤ 9223372036854775807 := hw.1
  have hT : tagB s = (decide (s.size = 4) && tgA s.data.toList 0) := by rw [tgA_L]; rfl
  (conv => whnf)
  refine LoopW.go (α := Nat) (fun k => [(0, .d (.str s)), (3, .d (.int .i64 k))]) (fun _ => [.gone]) (fun k => k ≤ s.size ∧ tgA s.data.toList 0 = tgA (s.data.toList.drop k) k) (fun k => s.size - k) 0 covT_ ⟨by omega, rfl⟩ (fun k hk => ?_)
  obtain ⟨hk2, hk3⟩ := hk
  (conv => whnf)
  (refine br_ (fun h4 => ?_) (fun h4 => ?_) <;> (repeat (refine stg_ ?_)))
  · have hc := bget? (s := s) (k := k) (by omega)
    rw [dropN (k := k) (by omega)] at hk3
    cases hl : letB (s[k]'(by omega)) with
    | true =>
      have hk4 : tgA s.data.toList 0 = tgA (s.data.toList.drop (k + 1)) (k + 1) := by
        cases k with
        | zero => rw [hk3, tgA, hl]; rfl
        | succ k => rw [hk3, tgA, letB_tc hl]; rfl
      (repeat' (first | (refine stg_ ?_) | (refine cl_ (l01Digit_v _) ?_) | (refine br_ (fun hbr => ?_) (fun hbr => ?_))))
      all_goals first | exact NextW.go (k + 1) covT_ ⟨by omega, hk4⟩ (by omega) | (exfalso; simp_all [letB, smB]; done) | (exfalso; simp_all [letB, smB]; omega)
    | false =>
      cases k with
      | zero =>
        rw [tgA, hl, Bool.false_and] at hk3
        (repeat' (first | (refine stg_ ?_) | (refine cl_ (l01Digit_v _) ?_) | (refine br_ (fun hbr => ?_) (fun hbr => ?_))))
        all_goals first | ((refine RetOK.d rfl rfl ?_; conv => whnf); simp_all; done) | (exfalso; simp_all [letB, smB]; done) | (exfalso; simp_all [letB, smB]; omega)
      | succ k =>
        rw [tgA] at hk3
        (repeat' (first | (refine stg_ ?_) | (refine cl_ (l01Digit_v _) ?_) | (refine br_ (fun hbr => ?_) (fun hbr => ?_))))
        all_goals first | (exfalso; omega) | ((refine RetOK.d rfl rfl ?_; conv => whnf); simp_all [tcB]; done) | ((refine RetOK.d rfl rfl ?_; conv => whnf); simp_all [tcB]; omega) | (exfalso; simp_all [letB, smB]; done) | (exfalso; simp_all [letB, smB]; omega) | exact NextW.go (k + 1 + 1) covT_ ⟨by omega, by simp_all [tcB]⟩ (by omega)
  · (refine RetOK.d rfl rfl ?_; conv => whnf)
    rw [hT, hk3, List.drop_eq_nil_of_le (by show s.size ≤ k; omega), show tgA [] k = true by cases k <;> rfl, Bool.and_true]
    congr 1
    rw [Bool.eq_iff_iff]; simp; omega
def ltT : Option TTable → TTable → Bool
  | none, _ => true
  | some p, x => Op.bytesLess p.fTag.toList x.fTag.toList
def tbGo : Option TTable → List TTable → Bool
  | _, [] => true
  | o, x :: t => tagB x.fTag && (ltT o x && tbGo (some x) t)
theorem tbGo_at {xs : List TTable} {k : Nat} {x : TTable} (hx : xs[k]? = some x) : tbGo (pv xs k) (xs.drop k) = (tagB x.fTag && (ltT (pv xs k) x && tbGo (pv xs (k + 1)) (xs.drop (k + 1)))) := by
  rw [drop_at hx, tbGo, pv_succ, hx]
theorem tbGo_end {xs : List TTable} {k : Nat} {o : Option TTable} (hk : xs.length ≤ k) : tbGo o (xs.drop k) = true := by
  rw [List.drop_eq_nil_of_le hk]; cases o <;> rfl
def ordT (xs : List TTable) : Bool := decide (xs.length ≤ 16) && tbGo none xs
def pd (x : TTable) : Nat := (x.fData.size + 3) / 4 * 4
def sumT (xs : List TTable) : Nat := (xs.map pd).sum
def szT (xs : List TTable) : Nat := 12 + 16 * xs.length + sumT xs
theorem sumT_at {xs : List TTable} {k : Nat} {x : TTable} (hx : xs[k]? = some x) : sumT (xs.take (k + 1)) = sumT (xs.take k) + pd x := by
  rw [sumT, take_snoc_get hx, List.map_append, List.sum_append]; simp [sumT]
theorem sumT_le : ∀ (xs : List TTable) (k : Nat), sumT (xs.take k) ≤ sumT xs
  | [], k => by simp [sumT]
  | x :: t, 0 => by simp [sumT]
  | x :: t, k + 1 => by
    have := sumT_le t k
    simp only [sumT, List.take_succ_cons, List.map_cons, List.sum_cons] at this ⊢
    omega
theorem sumT_z : ∀ xs : List TTable, sumT xs ≤ 4 * zL zTable xs
  | [] => by simp [sumT, zL]
  | x :: t => by
    have := sumT_z t
    simp only [sumT, zL, List.map_cons, List.sum_cons, List.length_cons, pd, zTable] at this ⊢
    omega
theorem zT_at {xs : List TTable} {k : Nat} {x : TTable} (hx : xs[k]? = some x) : x.fTag.size + x.fData.size ≤ zL zTable xs := by
  have := sum_get zTable hx
  simp only [zL, zTable] at this ⊢
  omega
theorem pad_and {n : Int} (h0 : 0 ≤ n) (h1 : n ≤ 9223372036854775807) : (((BitVec.ofInt IntKind.i64.bits (0 - n) &&& BitVec.ofInt IntKind.i64.bits 3).toNat : Nat) : Int) = (0 - n) % 4 := by
  have e : BitVec.ofInt 64 3 = 3#64 := rfl
  show (((BitVec.ofInt 64 (0 - n) &&& BitVec.ofInt 64 3).toNat : Nat) : Int) = _
  rw [e, BitVec.toNat_and, BitVec.toNat_ofInt, show (3#64).toNat = 2 ^ 2 - 1 from rfl, Nat.and_two_pow_sub_one_eq_mod]
  omega
theorem l31Pad_v (n : Int) (h0 : 0 ≤ n) : PC Try.prog 52 [.d (.int .i64 n)] (.d (.int .i64 ((0 - n) % 4))) [] := by
  refine pc_intro ttOk (by kernel_rfl) Try.func52 rfl (by kernel_rfl) (by kernel_rfl) (by kernel_rfl) (fun hw => ?_)
  have hn : -9223372036854775808 ≤ n ∧ n ≤ 9223372036854775807 := hw.1
  (conv => whnf)
  (refine stg_ ?_)
  refine ArW.i64e ((0 - n) % 4) (pad_and h0 hn.2) (by omega) ?_
  (conv => whnf)
  (refine RetOK.d rfl rfl ?_; conv => whnf)
theorem paddedSize_v (n : Int) (h0 : 0 ≤ n) (h1 : n ≤ 9223372036854775000) : PC Try.prog 41 [.d (.int .i64 n)] (.d (.int .i64 ((n + 3) / 4 * 4))) [] := by
  refine pc_intro ttOk (by kernel_rfl) Try.func41 rfl (by kernel_rfl) (by kernel_rfl) (by kernel_rfl) (fun hw => ?_)
  have e : (n + 3).tdiv 4 = (n + 3) / 4 := Int.tdiv_eq_ediv_of_nonneg (by omega)
  (conv => whnf)
  (refine stg_ ?_)
  (refine stg_ ?_)
  rw [e]
  (repeat (refine stg_ ?_))
  (refine RetOK.d rfl rfl ?_; conv => whnf)
theorem fileSize_v (xs : List TTable) (hz : zL zTable xs ≤ 1048576) : PC Try.prog 37 [.d (.lst (xs.map TTable.D))] (.d (.int .i64 (szT xs : Nat))) [] := by
  refine pc_intro ttOk (by kernel_rfl) Try.func37 rfl (by kernel_rfl) (by kernel_rfl) (by kernel_rfl) (fun hw => ?_)
  have hL : (xs.map TTable.D).length = xs.length := List.length_map _
  have hS := sumT_z xs
  have hl : xs.length ≤ zL zTable xs := by simp only [zL]; omega
  (conv => whnf)
  (repeat (refine stg_ ?_))
  refine LoopW.go (α := Nat) (fun k => [(3, .d (.int .i64 ((12 + 16 * xs.length + sumT (xs.take k) : Nat)))), (10, .d (.lst (xs.map TTable.D))), (11, .d (.int .i64 (xs.map TTable.D).length)), (12, .d (.int .i64 k))]) (fun _ => [.gone]) (fun k => k ≤ xs.length) (fun k => xs.length - k) 0 (Weak.cov ⟨by rw [← hL]; exact congrArg (fun z => V.d (.int .i64 z)) (by simp [sumT] <;> omega), rfl, rfl, rfl, trivial⟩ ⟨trivial, trivial⟩ rfl) (by omega) (fun k hk => ?_)
  have h3 := sumT_le xs k
  (conv => whnf)
  (refine br_ (fun h2 => ?_) (fun h2 => ?_) <;> (repeat (refine stg_ ?_)))
  · obtain ⟨x, hx⟩ := at_lt' (xs := xs) (k := k) (by omega)
    have h4 := sumT_at hx
    have h5 := zT_at hx
    have h6 := sumT_le xs (k + 1)
    (repeat (refine stg_ ?_))
    (refine cl_ (paddedSize_v (x.fData.size : Int) (by omega) (by omega)) ?_)
    refine ArW.i64e ((12 + 16 * xs.length + sumT (xs.take (k + 1)) : Nat) : Int) (by rw [h4, pd]; omega) (by omega) ?_
    (conv => whnf)
    (repeat (refine stg_ ?_))
    exact NextW.go (k + 1) covT_ (by omega) (by omega)
  · (refine RetOK.d rfl rfl ?_; conv => whnf)
    rw [szT, List.take_of_length_le (by omega)]
theorem l31Size_v (xs : List TTable) (hz : zL zTable xs ≤ 1048576) : PC Try.prog 34 [.d (.lst (xs.map TTable.D))] (.d (.int .i64 (szT xs : Nat))) [] := by
  refine pc_intro ttOk (by kernel_rfl) Try.func34 rfl (by kernel_rfl) (by kernel_rfl) (by kernel_rfl) (fun hw => ?_)
  have hL : (xs.map TTable.D).length = xs.length := List.length_map _
  have hS := sumT_z xs
  have hl : xs.length ≤ zL zTable xs := by simp only [zL]; omega
  (conv => whnf)
  (repeat (refine stg_ ?_))
  refine LoopW.go (α := Nat) (fun k => [(0, .d (.lst (xs.map TTable.D))), (3, .d (.int .i64 ((12 + 16 * xs.length + sumT (xs.take k) : Nat)))), (4, .d (.int .i64 k))]) (fun _ => [.gone]) (fun k => k ≤ xs.length) (fun k => xs.length - k) 0 (Weak.cov ⟨rfl, by rw [← hL]; exact congrArg (fun z => V.d (.int .i64 z)) (by simp [sumT] <;> omega), rfl, trivial⟩ ⟨trivial, trivial⟩ rfl) (by omega) (fun k hk => ?_)
  have h3 := sumT_le xs k
  (conv => whnf)
  (refine br_ (fun h2 => ?_) (fun h2 => ?_) <;> (repeat (refine stg_ ?_)))
  · obtain ⟨x, hx⟩ := at_lt' (xs := xs) (k := k) (by omega)
    have h4 := sumT_at hx
    have h5 := zT_at hx
    have h6 := sumT_le xs (k + 1)
    (repeat (refine stg_ ?_))
    (refine cl_ (l31Pad_v (x.fData.size : Int) (by omega)) ?_)
    (refine stg_ ?_)
    refine ArW.i64e ((12 + 16 * xs.length + sumT (xs.take (k + 1)) : Nat) : Int) (by rw [h4, pd]; omega) (by omega) ?_
    (conv => whnf)
    (repeat (refine stg_ ?_))
    exact NextW.go (k + 1) covT_ (by omega) (by omega)
  · (refine RetOK.d rfl rfl ?_; conv => whnf)
    rw [szT, List.take_of_length_le (by omega)]
theorem tagsInOrder_v (xs : List TTable) : PC Try.prog 36 [.d (.lst (xs.map TTable.D))] (.d (.bool (ordT xs))) [] := by
  refine pc_intro ttOk (by kernel_rfl) Try.func36 rfl (by kernel_rfl) (by kernel_rfl) (by kernel_rfl) (fun hw => ?_)
  have hL : (xs.map TTable.D).length = xs.length := List.length_map _
  have hm : (xs.map TTable.D).length ≤ 9223372036854775807 := hw.1.1
  (conv => whnf)
  (refine br_ (fun h1 => ?_) (fun h1 => ?_) <;> (repeat (refine stg_ ?_)))
  · (refine RetOK.d rfl rfl ?_; conv => whnf)
    rw [ordT, decide_eq_false (by omega)]; rfl
  · refine LoopW.go (α := Nat) (fun k => [(0, .d (.lst (xs.map TTable.D))), (8, .d (.lst (xs.map TTable.D))), (9, .d (.int .i64 (xs.map TTable.D).length)), (10, .d (.int .i64 k))]) (fun k => [.gone]) (fun k => k ≤ xs.length ∧ ordT xs = tbGo (pv xs k) (xs.drop k)) (fun k => xs.length - k) 0 covT_ ?_ (fun k hk => ?_)
    · exact ⟨by omega, by rw [ordT, decide_eq_true (by omega)]; rfl⟩
    obtain ⟨hk1, hk2⟩ := hk
    (conv => whnf)
    (refine br_ (fun h2 => ?_) (fun h2 => ?_) <;> (repeat (refine stg_ ?_)))
    · obtain ⟨x, hx⟩ := at_lt' (xs := xs) (k := k) (by omega)
      rw [tbGo_at hx] at hk2
      rcases Nat.eq_zero_or_pos k with rfl | h0
      · rw [pv_zero, ltT, Bool.true_and] at hk2
        (repeat' (first | (refine stg_ ?_) | (refine cla_ (ValidTag_v x.fTag) ?_) | (refine br_ (fun hbr => ?_) (fun hbr => ?_))))
        all_goals first | (exfalso; omega) | ((refine RetOK.d rfl rfl ?_; conv => whnf); simp_all; done) | skip
        all_goals exact NextW.go (0 + 1) covT_ ⟨by omega, by simp_all⟩ (by omega)
      · obtain ⟨p, hp⟩ := at_lt' (xs := xs) (k := k - 1) (by omega)
        have hp' : (xs.map TTable.D)[((k : Int) - 1).toNat]? = some p.D := by
          have : ((k : Int) - 1).toNat = k - 1 := by omega
          rw [this, List.getElem?_map, hp]; rfl
        rw [pv_pos _ h0, hp, ltT] at hk2
        (repeat' (first | (refine stg_ ?_) | (refine cla_ (ValidTag_v x.fTag) ?_) | (refine IxW.at (by omega) hp' ?_; (conv => whnf)) | (refine br_ (fun hbr => ?_) (fun hbr => ?_))))
        all_goals first | (exfalso; omega) | ((refine RetOK.d rfl rfl ?_; conv => whnf); simp_all; done) | skip
        all_goals exact NextW.go (k + 1) covT_ ⟨by omega, by simp_all⟩ (by omega)
    · (refine RetOK.d rfl rfl ?_; conv => whnf)
      rw [hk2, tbGo_end (by omega)]
theorem l31Ok_v (xs : List TTable) : PC Try.prog 33 [.d (.lst (xs.map TTable.D))] (.d (.bool (ordT xs))) [] := by
  refine pc_intro ttOk (by kernel_rfl) Try.func33 rfl (by kernel_rfl) (by kernel_rfl) (by kernel_rfl) (fun hw => ?_)
  have hL : (xs.map TTable.D).length = xs.length := List.length_map _
  have hm : (xs.map TTable.D).length ≤ 9223372036854775807 := hw.1.1
  (conv => whnf)
  refine LoopW.go (α := Nat) (fun k => [(0, .d (.lst (xs.map TTable.D))), (3, .d (.int .i64 k))]) (fun k => [.gone]) (fun k => k ≤ xs.length ∧ tbGo none xs = tbGo (pv xs k) (xs.drop k)) (fun k => xs.length - k) 0 covT_ ?_ (fun k hk => ?_)
  · exact ⟨by omega, rfl⟩
  obtain ⟨hk1, hk2⟩ := hk
  (conv => whnf)
  (refine br_ (fun h2 => ?_) (fun h2 => ?_) <;> (repeat (refine stg_ ?_)))
  · obtain ⟨x, hx⟩ := at_lt' (xs := xs) (k := k) (by omega)
    rw [tbGo_at hx] at hk2
    rcases Nat.eq_zero_or_pos k with rfl | h0
    · rw [pv_zero, ltT, Bool.true_and] at hk2
      (repeat' (first | (refine stg_ ?_) | (refine cla_ (l31Tag_v x.fTag) ?_) | (refine br_ (fun hbr => ?_) (fun hbr => ?_))))
      all_goals first | (exfalso; omega) | ((refine RetOK.d rfl rfl ?_; conv => whnf); simp_all [ordT]; done) | skip
      all_goals exact NextW.go (0 + 1) covT_ ⟨by omega, by simp_all⟩ (by omega)
    · obtain ⟨p, hp⟩ := at_lt' (xs := xs) (k := k - 1) (by omega)
      have hp' : (xs.map TTable.D)[((k : Int) - 1).toNat]? = some p.D := by
        have : ((k : Int) - 1).toNat = k - 1 := by omega
        rw [this, List.getElem?_map, hp]; rfl
      rw [pv_pos _ h0, hp, ltT] at hk2
      (repeat' (first | (refine stg_ ?_) | (refine cla_ (l31Tag_v x.fTag) ?_) | (refine IxW.at (by omega) hp' ?_; (conv => whnf)) | (refine br_ (fun hbr => ?_) (fun hbr => ?_))))
      all_goals first | (exfalso; omega) | ((refine RetOK.d rfl rfl ?_; conv => whnf); simp_all [ordT]; done) | skip
      all_goals exact NextW.go (k + 1) covT_ ⟨by omega, by simp_all⟩ (by omega)
  · (refine RetOK.d rfl rfl ?_; conv => whnf)
    rw [ordT, hk2, tbGo_end (by omega), Bool.and_true]
    congr 1
    rw [Bool.eq_iff_iff]; simp; try omega
def wtN (k : Nat) : Nat := if k % 4 = 0 then 16777216 else if k % 4 = 1 then 65536 else if k % 4 = 2 then 256 else 1
theorem wtN_le (k : Nat) : 1 ≤ wtN k ∧ wtN k ≤ 16777216 := by unfold wtN; split <;> (try split) <;> (try split) <;> omega
theorem wtN_pow (k b : Nat) (hb : 32 ≤ b) : ((wtN k : Nat) : Int) = 2 ^ min (8 * (3 - ((k % 4 : Nat) : Int))).toNat b := by
  have h4 : k % 4 < 4 := Nat.mod_lt _ (by decide)
  unfold wtN
  rcases (show k % 4 = 0 ∨ k % 4 = 1 ∨ k % 4 = 2 ∨ k % 4 = 3 by omega) with h | h | h | h <;> rw [h] <;> simp <;> (rw [Nat.min_eq_left (by omega)]) <;> rfl
def smK (s : ByteArray) : Nat → Nat
  | 0 => 0
  | k + 1 => smK s k + ((s[k]?).map UInt8.toNat).getD 0 * wtN k
theorem smK_at {s : ByteArray} {k : Nat} {c : UInt8} (h : s[k]? = some c) : smK s (k + 1) = smK s k + c.toNat * wtN k := by rw [smK, h]; rfl
theorem smK_le (s : ByteArray) : ∀ k, smK s k ≤ k * 4294967296
  | 0 => by simp [smK]
  | k + 1 => by
    have ih := smK_le s k
    have hw := wtN_le k
    have hc : ((s[k]?).map UInt8.toNat).getD 0 ≤ 255 := by
      cases s[k]? with
      | none => simp
      | some c => have := c.toNat_lt; simp; omega
    have : ((s[k]?).map UInt8.toNat).getD 0 * wtN k ≤ 255 * 16777216 := Nat.mul_le_mul hc hw.2
    rw [smK]; omega
def sumB (s : ByteArray) : Int := ((smK s s.size % 4294967296 : Nat) : Int)
theorem Sum32_v (s : ByteArray) : PC Try.prog 40 [.d (.str s)] (.d (.int .i64 (sumB s))) [] := by
  refine pc_intro ttOk (by kernel_rfl) Try.func40 rfl (by kernel_rfl) (by kernel_rfl) (by kernel_rfl) (fun hw => ?_)
  have hs : s.size ≤ 9223372036854775807 := hw.1
  (conv => whnf)
  refine LoopW.go (α := Nat) (fun k => [(0, .d (.str s)), (3, .d (.int .u32 ((smK s k % 4294967296 : Nat)))), (4, .d (.int .i64 k))]) (fun _ => [.gone]) (fun k => k ≤ s.size) (fun k => s.size - k) 0 covT_ (by omega) (fun k hk => ?_)
  (conv => whnf)
  (refine br_ (fun h1 => ?_) (fun h1 => ?_))
  · have hc := bget? (s := s) (k := k) (by omega)
    have hcl := (s[k]'(by omega)).toNat_lt
    have hwt := wtN_le k
    have hm : (s[k]'(by omega)).toNat * wtN k ≤ 255 * 16777216 := Nat.mul_le_mul (by omega) hwt.2
    have ht : (k : Int).tmod 4 = ((k % 4 : Nat) : Int) := by rw [Int.tmod_eq_emod_of_nonneg (by omega)]; rfl
    have hp := wtN_pow k 32 (by omega)
    have hk4 : k % 4 < 4 := Nat.mod_lt _ (by decide)
    obtain ⟨P, hP⟩ : ∃ P : Nat, P = (s[k]'(by omega)).toNat * wtN k := ⟨_, rfl⟩
    have e : (((s[k]'(by omega)).toNat : Nat) : Int) * ((wtN k : Nat) : Int) = (P : Int) := by rw [hP]; simp
    rw [← hP] at hm
    have hS := smK_at hc
    rw [← hP] at hS
    repeat (first | (refine stg_ ?_) | (rw [ht]; (refine stg_ ?_)))
    refine ShW.at (q := ((wtN k : Nat) : Int)) hp (by omega) ?_
    (conv => whnf)
    rw [e]
    (refine stg_ ?_)
    refine ⟨((smK s (k + 1) % 4294967296 : Nat) : Int), by simp only [IntKind.wrap, IntKind.bits, IntKind.signed, Bool.false_and, Bool.false_eq_true, if_false, Int.reducePow]; omega, ?_⟩
    (conv => whnf)
    (repeat (refine stg_ ?_))
    exact NextW.go (k + 1) covT_ (by omega) (by omega)
  · obtain rfl : k = s.size := by omega
    (repeat (refine stg_ ?_))
    (refine RetOK.d rfl rfl ?_; conv => whnf)
    rfl
theorem l01Sum_v (s : ByteArray) (hz : s.size ≤ 1048576) : PC Try.prog 55 [.d (.str s)] (.d (.int .i64 (sumB s))) [] := by
  refine pc_intro ttOk (by kernel_rfl) Try.func55 rfl (by kernel_rfl) (by kernel_rfl) (by kernel_rfl) (fun hw => ?_)
  (conv => whnf)
  refine LoopW.go (α := Nat) (fun k => [(0, .d (.str s)), (3, .d (.int .i64 (smK s k : Nat))), (4, .d (.int .i64 k))]) (fun _ => [.gone]) (fun k => k ≤ s.size) (fun k => s.size - k) 0 covT_ (by omega) (fun k hk => ?_)
  have hle := smK_le s k
  (conv => whnf)
  (refine br_ (fun h1 => ?_) (fun h1 => ?_))
  · have hc := bget? (s := s) (k := k) (by omega)
    have hcl := (s[k]'(by omega)).toNat_lt
    have hwt := wtN_le k
    have hm : (s[k]'(by omega)).toNat * wtN k ≤ 255 * 16777216 := Nat.mul_le_mul (by omega) hwt.2
    have ht : (k : Int).tmod 4 = ((k % 4 : Nat) : Int) := by rw [Int.tmod_eq_emod_of_nonneg (by omega)]; rfl
    have hp := wtN_pow k 64 (by omega)
    have hk4 : k % 4 < 4 := Nat.mod_lt _ (by decide)
    obtain ⟨P, hP⟩ : ∃ P : Nat, P = (s[k]'(by omega)).toNat * wtN k := ⟨_, rfl⟩
    have e : (((s[k]'(by omega)).toNat : Nat) : Int) * ((wtN k : Nat) : Int) = (P : Int) := by rw [hP]; simp
    rw [← hP] at hm
    have hS := smK_at hc
    rw [← hP] at hS
    repeat (first | (refine stg_ ?_) | (rw [ht]; (refine stg_ ?_)))
    refine ShW.at (q := ((wtN k : Nat) : Int)) hp (by omega) ?_
    (conv => whnf)
    rw [e]
    (refine stg_ ?_)
    refine ArW.i64e ((smK s (k + 1) : Nat) : Int) (by omega) (by omega) ?_
    (conv => whnf)
    (repeat (refine stg_ ?_))
    exact NextW.go (k + 1) covT_ (by omega) (by omega)
  · obtain rfl : k = s.size := by omega
    refine ArW.i64e (sumB s) ?_ (by unfold sumB; omega) ?_
    · show (((BitVec.ofInt 64 ((smK s s.size : Nat) : Int) &&& BitVec.ofInt 64 4294967295).toNat : Nat) : Int) = _
      rw [show BitVec.ofInt 64 4294967295 = 4294967295#64 from rfl, BitVec.toNat_and, BitVec.toNat_ofInt, show (4294967295#64).toNat = 2 ^ 32 - 1 from rfl, Nat.and_two_pow_sub_one_eq_mod]
      unfold sumB
      omega
    · (conv => whnf)
      (refine RetOK.d rfl rfl ?_; conv => whnf)
def mkS (l : List UInt8) : ByteArray := ⟨l.toArray⟩
theorem mkS_toList (l : List UInt8) : (mkS l).data.toList = l := by simp [mkS]
theorem mkS_size (l : List UInt8) : (mkS l).size = l.length := by simp [mkS, ByteArray.size]
def wdL : Nat → Int → List UInt8
  | 0, _ => []
  | b + 1, n => wdL b (n / 256) ++ [UInt8.ofNat (n % 256).toNat]
theorem wdL_len : ∀ b n, (wdL b n).length = b
  | 0, _ => rfl
  | b + 1, n => by rw [wdL, List.length_append, wdL_len b]; rfl
theorem wdL_per : ∀ (b : Nat) (n t : Int), wdL b (n + 256 ^ b * t) = wdL b n
  | 0, _, _ => rfl
  | b + 1, n, t => by
    have e : (256 : Int) ^ (b + 1) * t = 256 * (256 ^ b * t) := by rw [Int.pow_succ, Int.mul_comm (256 ^ b) 256, Int.mul_assoc]
    rw [wdL, wdL, e, Int.add_mul_ediv_left _ _ (by omega), Int.add_mul_emod_self_left, wdL_per b]
theorem wdL_mod (b : Nat) (n : Int) (h : b ≤ 8) : wdL b (n % 18446744073709551616) = wdL b n := by
  have e : (18446744073709551616 : Int) = 256 ^ b * 256 ^ (8 - b) := by rw [← Int.pow_add, show b + (8 - b) = 8 by omega]; rfl
  have e2 : n = n % 18446744073709551616 + 256 ^ b * (256 ^ (8 - b) * (n / 18446744073709551616)) := by rw [← Int.mul_assoc, ← e]; omega
  conv => rhs; rw [e2, wdL_per]
theorem and255 (n : Int) : (((BitVec.ofInt IntKind.i64.bits n &&& BitVec.ofInt IntKind.i64.bits 255).toNat : Nat) : Int) = n % 256 := by
  have e : BitVec.ofInt 64 255 = 255#64 := rfl
  show (((BitVec.ofInt 64 n &&& BitVec.ofInt 64 255).toNat : Nat) : Int) = _
  rw [e, BitVec.toNat_and, BitVec.toNat_ofInt, show (255#64).toNat = 2 ^ 8 - 1 from rfl, Nat.and_two_pow_sub_one_eq_mod]
  omega
theorem bD_lo (n : Int) : D.int .u8 (n % 256) = bD (UInt8.ofNat (n % 256).toNat) := by
  have h1 : 0 ≤ n % 256 := by omega
  have h2 : n % 256 < 256 := by omega
  have : (UInt8.ofNat (n % 256).toNat).toNat = (n % 256).toNat := by rw [UInt8.toNat_ofNat']; omega
  rw [bD, this, Int.toNat_of_nonneg h1]
def iz : Nat → Int
  | 0 => -1
  | j + 1 => ((j : Nat) : Int)
theorem iz_eq (b : Nat) : ((b : Nat) : Int) - 1 = iz b := by cases b <;> simp [iz] <;> omega
theorem l01Word_v (n : Int) (b : Nat) (hb : b ≤ 4) : PC Try.prog 54 [.d (.int .i64 n), .d (.int .i64 b)] (.d (.str (mkS (wdL b n)))) [] := by
  refine pc_intro ttOk (by kernel_rfl) Try.func54 rfl (by kernel_rfl) (by kernel_rfl) (by kernel_rfl) (fun hw => ?_)
  have hn : -9223372036854775808 ≤ n ∧ n ≤ 9223372036854775807 := hw.1
  (conv => whnf)
  refine MkW.at (by omega) (by omega) (by show ((1 : Nat) : Int) * _ ≤ _; omega) ?_
  (conv => whnf)
  (repeat (refine stg_ ?_))
  refine LoopW.go (α := Nat × Int × List UInt8) (fun p => [(0, .d (.int .i64 p.2.1)), (5, .own 1 0 b), (6, .d (.int .i64 (iz p.1)))]) (fun p => [.gone, .arr 1 (p.2.2.map bD) true]) (fun p => p.1 ≤ b ∧ p.2.2.length = b ∧ (-9223372036854775808 ≤ p.2.1 ∧ p.2.1 ≤ 9223372036854775807) ∧ wdL b n = wdL p.1 p.2.1 ++ p.2.2.drop p.1) (fun p => p.1) (b, n, List.replicate b 0) ?_ ⟨Nat.le_refl _, by simp, hn, by rw [List.drop_eq_nil_of_le (by simp), List.append_nil]⟩ ?_
  · refine Weak.cov ⟨rfl, rfl, ?_, trivial⟩ ⟨trivial, ?_, trivial⟩ rfl
    · rw [← iz_eq]; rfl
    · rw [List.map_replicate]; rfl
  rintro ⟨j, u, bs⟩ ⟨k1, k2, k3, k4⟩
  dsimp only at k1 k2 k3 k4 ⊢
  have hm : (bs.map bD).length = bs.length := List.length_map _
  rcases j with _ | m
  · (conv => whnf)
    (repeat (refine stg_ ?_))
    refine StW.at (s := mkS (wdL b n)) (by rw [mkS_toList, k4, List.drop_zero, List.take_of_length_le (by omega), wdL, List.drop_zero, List.nil_append]) ?_
    (conv => whnf)
    (refine RetOK.d rfl rfl ?_; conv => whnf)
  · (conv => whnf)
    refine ArW.i64e (u % 256) (and255 u) (by omega) ?_
    (conv => whnf)
    obtain ⟨c0, hc0⟩ := at_lt' (xs := bs) (k := m) (by omega)
    have he : (bs.map bD)[m]? = some (bD c0) := by rw [List.getElem?_map, hc0]; rfl
    (refine stg_ ?_)
    refine IoW.at (by show (0 : Int) ≤ ((m : Nat) : Int); omega) (by show ((m : Nat) : Int) < _; omega) ?_
    (conv => whnf)
    (try (refine EoW.at he ?_; (conv => whnf)))
    (repeat (refine stg_ ?_))
    refine ShW.at (q := 256) (by rfl) (by omega) ?_
    (conv => whnf)
    (repeat (refine stg_ ?_))
    refine ArW.i64e (iz m) (by rw [← iz_eq m]; rfl) (by have := iz_eq m; omega) ?_
    (conv => whnf)
    (repeat (refine stg_ ?_))
    refine NextW.go (m, u / 256, bs.set m (UInt8.ofNat (u % 256).toNat)) (Weak.cov ⟨rfl, rfl, rfl, trivial⟩ ⟨trivial, ?_, trivial⟩ rfl) ⟨by simp only; omega, by simp only [List.length_set]; omega, by simp only; omega, ?_⟩ (by show m < m + 1; omega)
    · show Blk.arr 1 _ true = Blk.arr 1 _ true
      rw [bD_lo, List.map_set]; rfl
    · show wdL b n = wdL m (u / 256) ++ (bs.set m (UInt8.ofNat (u % 256).toNat)).drop m
      rw [k4, wdL, set_drop (by omega)]; simp
theorem PutWord_v (n : Int) (b : Nat) (h1 : 1 ≤ b) (h2 : b ≤ 4) (hr : -(256 ^ b / 2) ≤ n ∧ n < 256 ^ b) : PC Try.prog 39 [.d (.int .i64 n), .d (.int .i64 b)] (.d (.str (mkS (wdL b n)))) [] := by
  refine pc_intro ttOk (by kernel_rfl) Try.func39 rfl (by kernel_rfl) (by kernel_rfl) (by kernel_rfl) (fun hw => ?_)
  have hn : -9223372036854775808 ≤ n ∧ n ≤ 9223372036854775807 := hw.1
  have hp : (256 : Int) ^ b = ((256 ^ b : Nat) : Int) := by simp
  have hq : 256 ≤ 256 ^ b ∧ 256 ^ b ≤ 4294967296 := by
    have a1 : 256 ^ 1 ≤ 256 ^ b := Nat.pow_le_pow_right (by omega) h1
    have a2 : 256 ^ b ≤ 256 ^ 4 := Nat.pow_le_pow_right (by omega) h2
    omega
  have hS : (2 : Int) ^ min (8 * (b : Int)).toNat IntKind.i64.bits = ((256 ^ b : Nat) : Int) := by
    have : (8 * (b : Int)).toNat = 8 * b := by omega
    rw [this, show IntKind.i64.bits = 64 from rfl, show min (8 * b) 64 = 8 * b by omega, Int.pow_mul, ← hp]
    rfl
  rw [hp] at hr
  generalize 256 ^ b = p at *
  have ed : (0 - (p : Int)).tdiv 2 = -((p / 2 : Nat) : Int) := by rw [Int.zero_sub, Int.neg_tdiv, Int.tdiv_eq_ediv_of_nonneg (by omega)]; rfl
  (conv => whnf)
  (repeat' (first | (refine stg_ ?_) | fail | (refine br_ (fun hbr => ?_) (fun hbr => ?_))))
  all_goals first | (exfalso; omega) | skip
  refine ShW.at (q := (p : Int)) hS.symm (by omega) ?_
  (conv => whnf)
  refine ArW.i64e (p : Int) (by omega) (by omega) ?_
  (conv => whnf)
  (repeat (refine stg_ ?_))
  rw [ed]
  (repeat' (first | (refine stg_ ?_) | fail | (refine br_ (fun hbr => ?_) (fun hbr => ?_))))
  all_goals first | (exfalso; omega) | skip
  refine MkW.at (by omega) (by omega) (by show ((1 : Nat) : Int) * _ ≤ _; omega) ?_
  (conv => whnf)
  (repeat (refine stg_ ?_))
  obtain ⟨U, hU⟩ : ∃ U, U = n % 18446744073709551616 := ⟨_, rfl⟩
  refine ⟨U, by rw [hU]; simp only [IntKind.wrap, IntKind.bits, IntKind.signed, Bool.false_and, Bool.false_eq_true, if_false, Int.reducePow], ?_⟩
  (conv => whnf)
  (repeat (refine stg_ ?_))
  have hW : wdL b U = wdL b n := by rw [hU]; exact wdL_mod b n (by omega)
  rw [← hW]
  refine LoopW.go (α := Nat × Int × List UInt8) (fun p => [(6, .own 1 0 b), (7, .d (.int .u64 p.2.1)), (8, .d (.int .i64 (iz p.1)))]) (fun p => [.gone, .arr 1 (p.2.2.map bD) true]) (fun p => p.1 ≤ b ∧ p.2.2.length = b ∧ (0 ≤ p.2.1 ∧ p.2.1 < 18446744073709551616) ∧ wdL b U = wdL p.1 p.2.1 ++ p.2.2.drop p.1) (fun p => p.1) (b, U, List.replicate b 0) ?_ ⟨Nat.le_refl _, by simp, by simp only; omega, by rw [List.drop_eq_nil_of_le (by simp), List.append_nil]⟩ ?_
  · refine Weak.cov ⟨rfl, rfl, ?_, trivial⟩ ⟨trivial, ?_, trivial⟩ rfl
    · rw [← iz_eq]; rfl
    · rw [List.map_replicate]; rfl
  rintro ⟨j, u, bs⟩ ⟨k1, k2, k3, k4⟩
  dsimp only at k1 k2 k3 k4 ⊢
  have hm : (bs.map bD).length = bs.length := List.length_map _
  rcases j with _ | m
  · (conv => whnf)
    (repeat (refine stg_ ?_))
    refine StW.at (s := mkS (wdL b U)) (by rw [mkS_toList, k4, List.drop_zero, List.take_of_length_le (by omega), wdL, List.drop_zero, List.nil_append]) ?_
    (conv => whnf)
    (refine RetOK.d rfl rfl ?_; conv => whnf)
  · (conv => whnf)
    obtain ⟨c0, hc0⟩ := at_lt' (xs := bs) (k := m) (by omega)
    have he : (bs.map bD)[m]? = some (bD c0) := by rw [List.getElem?_map, hc0]; rfl
    refine ⟨u % 256, by simp only [IntKind.wrap, IntKind.bits, IntKind.signed, Bool.false_and, Bool.false_eq_true, if_false, Int.reducePow], ?_⟩
    (conv => whnf)
    refine IoW.at (by show (0 : Int) ≤ ((m : Nat) : Int); omega) (by show ((m : Nat) : Int) < _; omega) ?_
    (conv => whnf)
    (try (refine EoW.at he ?_; (conv => whnf)))
    (repeat (refine stg_ ?_))
    refine ShW.at (q := 256) (by rfl) (by omega) ?_
    (conv => whnf)
    (repeat (refine stg_ ?_))
    refine ArW.i64e (iz m) (by rw [← iz_eq m]; rfl) (by have := iz_eq m; omega) ?_
    (conv => whnf)
    (repeat (refine stg_ ?_))
    refine NextW.go (m, u / 256, bs.set m (UInt8.ofNat (u % 256).toNat)) (Weak.cov ⟨rfl, rfl, rfl, trivial⟩ ⟨trivial, ?_, trivial⟩ rfl) ⟨by simp only; omega, by simp only [List.length_set]; omega, by simp only; omega, ?_⟩ (by show m < m + 1; omega)
    · show Blk.arr 1 _ true = Blk.arr 1 _ true
      rw [bD_lo, List.map_set]; rfl
    · show wdL b U = wdL m (u / 256) ++ (bs.set m (UInt8.ofNat (u % 256).toNat)).drop m
      rw [k4, wdL, set_drop (by omega)]; simp
def atT (xs : List TTable) (k : Nat) : Nat := 12 + 16 * xs.length + sumT (xs.take k)
def w4 (n : Int) : ByteArray := mkS (wdL 4 n)
theorem w4_size (n : Int) : (w4 n).size = 4 := by rw [w4, mkS_size, wdL_len]
def entB (xs : List TTable) (k : Nat) (x : TTable) : ByteArray := x.fTag ++ w4 (sumB x.fData) ++ w4 ((atT xs k : Nat) : Int) ++ w4 ((x.fData.size : Nat) : Int)
theorem entB_size (xs : List TTable) (k : Nat) (x : TTable) : (entB xs k x).size = x.fTag.size + 12 := by simp only [entB, ByteArray.size_append, w4_size]
def enS (xs : List TTable) : Nat → ByteArray
  | 0 => ⟨#[]⟩
  | k + 1 => match xs[k]? with
    | some x => enS xs k ++ entB xs k x
    | none => enS xs k
theorem enS_at {xs : List TTable} {k : Nat} {x : TTable} (h : xs[k]? = some x) : enS xs (k + 1) = enS xs k ++ entB xs k x := by rw [enS, h]
def pn (x : TTable) : Nat := pd x - x.fData.size
theorem pd_ge (x : TTable) : x.fData.size ≤ pd x ∧ pd x ≤ x.fData.size + 3 := by unfold pd; omega
theorem pn_le (x : TTable) : pn x ≤ 3 := by have := pd_ge x; unfold pn; omega
def daB (x : TTable) : ByteArray := x.fData ++ zB (pn x)
theorem daB_size (x : TTable) : (daB x).size = pd x := by
  have := pd_ge x
  simp only [daB, ByteArray.size_append, zB_size, pn]; omega
def daS (xs : List TTable) : Nat → ByteArray
  | 0 => ⟨#[]⟩
  | k + 1 => match xs[k]? with
    | some x => daS xs k ++ daB x
    | none => daS xs k
theorem daS_at {xs : List TTable} {k : Nat} {x : TTable} (h : xs[k]? = some x) : daS xs (k + 1) = daS xs k ++ daB x := by rw [daS, h]
theorem daS_size (xs : List TTable) : ∀ k, k ≤ xs.length → (daS xs k).size = sumT (xs.take k)
  | 0, _ => rfl
  | k + 1, h => by
    obtain ⟨x, hx⟩ := at_lt' (xs := xs) (k := k) (by omega)
    rw [daS_at hx, ByteArray.size_append, daB_size, daS_size xs k (by omega), sumT_at hx]
theorem enS_size (xs : List TTable) (c : Nat) (hc : ∀ x ∈ xs, x.fTag.size ≤ c) : ∀ k, k ≤ xs.length → (enS xs k).size ≤ (c + 12) * k
  | 0, _ => Nat.zero_le _
  | k + 1, h => by
    obtain ⟨x, hx⟩ := at_lt' (xs := xs) (k := k) (by omega)
    have h1 := hc x (List.mem_of_getElem? hx)
    have h2 := enS_size xs c hc k (by omega)
    rw [enS_at hx, ByteArray.size_append, entB_size, Nat.mul_add, Nat.mul_one]; omega
def headS (xs : List TTable) : ByteArray := ⟨#[80, 84, 70, 49]⟩ ++ w4 ((xs.length : Nat) : Int) ++ w4 (sumB (enS xs xs.length))
def fileS (xs : List TTable) : ByteArray := headS xs ++ enS xs xs.length ++ daS xs xs.length
theorem tag4 {xs : List TTable} (h : ordT xs = true) : ∀ x ∈ xs, x.fTag.size = 4 := by
  have key : ∀ (xs : List TTable) (o : Option TTable), tbGo o xs = true → ∀ x ∈ xs, x.fTag.size = 4 := by
    intro xs
    induction xs with
    | nil => intro o _ x hx; simp at hx
    | cons y t ih =>
      intro o h x hx
      rw [tbGo] at h
      simp only [Bool.and_eq_true] at h
      rcases List.mem_cons.1 hx with rfl | hx
      · have := h.1
        simp only [tagB, Bool.and_eq_true, decide_eq_true_eq] at this
        exact this.1
      · exact ih _ h.2.2 x hx
  simp only [ordT, Bool.and_eq_true] at h
  exact key xs none h.2
theorem data_app (s t : ByteArray) : (s ++ t).data.toList = s.data.toList ++ t.data.toList := by simp
theorem sumB_lt (s : ByteArray) : 0 ≤ sumB s ∧ sumB s < 4294967296 := by unfold sumB; omega
theorem mag_size : ByteArray.size ⟨#[80, 84, 70, 49]⟩ = 4 := rfl
set_option maxHeartbeats 4000000 in
theorem PackTables_v (xs : List TTable) (hz : zL zTable xs ≤ 1048576) (hV : ordT xs = true) (hs : szT xs ≤ 65536) : PC Try.prog 18 [.d (.lst (xs.map TTable.D))] (.tup [.d (.str (fileS xs)), .d (.int .i64 0)]) [] := by
  have hL : (xs.map TTable.D).length = xs.length := List.length_map _
  have hl16 : xs.length ≤ 16 := by
    have := hV
    simp only [ordT, Bool.and_eq_true, decide_eq_true_eq] at this
    exact this.1
  have hT4 := tag4 hV
  have hsz : szT xs = 12 + 16 * xs.length + sumT xs := rfl
  have c1 := tagsInOrder_v xs
  rw [hV] at c1
  have c2 := fileSize_v xs hz
  have hE := fun k (hk : k ≤ xs.length) => enS_size xs 4 (fun x hx => Nat.le_of_eq (hT4 x hx)) k hk
  have hD := fun k (hk : k ≤ xs.length) => daS_size xs k hk
  have hS := sumT_le xs
  refine pc_intro ttOk (by kernel_rfl) Try.func18 rfl (by kernel_rfl) (by kernel_rfl) (by kernel_rfl) (fun hw => ?_)
  (conv => whnf)
  (repeat' (first | (refine stg_ ?_) | (refine cla_ (c1) ?_) | (refine cla_ (c2) ?_) | (refine br_ (fun hbr => ?_) (fun hbr => ?_))))
  all_goals first | (exfalso; omega) | skip
  refine LoopW.go (α := Nat) (fun k => [(0, .d (.lst (xs.map TTable.D))), (4, .pB 1 [] 0), (5, .pB 2 [] 0), (6, .d (.int .i64 ((atT xs k : Nat) : Int))), (21, .d (.lst (xs.map TTable.D))), (22, .d (.int .i64 xs.length)), (23, .d (.int .i64 k))])
    (fun k => [.gone, .bld 59 5 (enS xs k).data.toList, .bld 59 5 (daS xs k).data.toList]) (fun k => k ≤ xs.length) (fun k => xs.length - k) 0
    (Weak.cov ⟨rfl, rfl, rfl, ?_, rfl, by rw [← hL]; rfl, rfl, trivial⟩ ⟨trivial, rfl, rfl, trivial⟩ rfl) (Nat.zero_le _) (fun k hk => ?_)
  · exact congrArg (fun z => V.d (D.int .i64 z)) (by rw [hL]; show _ = ((12 + 16 * xs.length + sumT (xs.take 0) : Nat) : Int); simp [sumT])
  have hle1 : (enS xs k).data.toList.length = (enS xs k).size := Array.length_toList
  have hle2 : (daS xs k).data.toList.length = (daS xs k).size := Array.length_toList
  have hEk := hE k hk
  have hDk := hD k hk
  have hSk := hS k
  (conv => whnf)
  (repeat (refine stg_ ?_))
  (refine br_ (fun h1 => ?_) (fun h1 => ?_) <;> (repeat (refine stg_ ?_)))
  · obtain ⟨x, hx⟩ := at_lt' (xs := xs) (k := k) (by omega)
    have hxt := hT4 x (List.mem_of_getElem? hx)
    have hp := pd_ge x
    have hpn := pn_le x
    have hzx := zT_at hx
    have hsb := sumB_lt x.fData
    have hat : atT xs k = 12 + 16 * xs.length + sumT (xs.take k) := rfl
    have d1 := Sum32_v x.fData
    have d2 := PutWord_v (sumB x.fData) 4 (by omega) (by omega) (by omega)
    have d3 := PutWord_v ((atT xs k : Nat) : Int) 4 (by omega) (by omega) (by omega)
    have d4 := PutWord_v ((x.fData.size : Nat) : Int) 4 (by omega) (by omega) (by omega)
    have d5 := paddedSize_v ((x.fData.size : Nat) : Int) (by omega) (by omega)
    rw [show (((x.fData.size : Nat) : Int) + 3) / 4 * 4 = ((pd x : Nat) : Int) by unfold pd; omega] at d5
    have d6 : PC Try.prog 42 [.d (.str ⟨#[0]⟩), .d (.int .i64 (((pd x : Nat) : Int) - ((x.fData.size : Nat) : Int)))] (.d (.str (zB (pn x)))) [] := by
      rw [show ((pd x : Nat) : Int) - ((x.fData.size : Nat) : Int) = ((pn x : Nat) : Int) by unfold pn; omega]
      exact Repeat_c (pn x) hpn
    change PC _ _ _ (.d (.str (w4 _))) _ at d2
    change PC _ _ _ (.d (.str (w4 _))) _ at d3
    change PC _ _ _ (.d (.str (w4 _))) _ at d4
    have d7 := ws_b (enS xs k).data.toList (entB xs k x) (by rw [entB_size]; omega)
    have d8 := ws_b (daS xs k).data.toList (daB x) (by rw [daB_size]; omega)
    rw [← data_app, ← enS_at hx] at d7
    rw [← data_app, ← daS_at hx] at d8
    have w1 := w4_size (sumB x.fData)
    have w2 := w4_size ((atT xs k : Nat) : Int)
    have w3 := w4_size ((x.fData.size : Nat) : Int)
    have w5 := zB_size (pn x)
    (repeat' (first | (refine stg_ ?_) | (refine cla_ (d1) ?_) | (refine cla_ (d2) ?_) | (refine cla_ (d3) ?_) | (refine cla_ (d4) ?_) | (refine cla_ (d5) ?_) | (refine cla_ (d6) ?_) | (refine clb_ (d7) ?_) | (refine clb_ (d8) ?_) | (refine CatW.at (by show _ ≤ 9223372036854775807; simp only [ByteArray.size_append, w1, w2, w3, w5]; omega) ?_; conv => whnf) | (refine br_ (fun hbr => ?_) (fun hbr => ?_))))
    have hat2 : atT xs (k + 1) = atT xs k + pd x := by unfold atT; rw [sumT_at hx]; omega
    exact NextW.go (k + 1) (Weak.cov ⟨rfl, rfl, rfl, congrArg (fun z => V.d (D.int .i64 z)) (by rw [hat2]; omega), rfl, rfl, rfl, trivial⟩ ⟨trivial, rfl, rfl, trivial⟩ rfl) (by omega) (by omega)
  · obtain rfl : k = xs.length := by omega
    have hsb := sumB_lt (enS xs xs.length)
    have e1 : PC Try.prog 39 [.d (.int .i64 (((xs.map TTable.D).length : Nat) : Int)), .d (.int .i64 (4 : Nat))] (.d (.str (w4 ((xs.length : Nat) : Int)))) [] := by rw [hL]; exact PutWord_v _ 4 (by omega) (by omega) (by omega)
    have e2 := str_b (enS xs xs.length).data.toList
    change BC _ _ _ _ _ _ (.d (.str (enS xs xs.length))) _ at e2
    have e3 := Sum32_v (enS xs xs.length)
    have e4 := PutWord_v (sumB (enS xs xs.length)) 4 (by omega) (by omega) (by omega)
    change PC _ _ _ (.d (.str (w4 _))) _ at e4
    have e5 := str_b (daS xs xs.length).data.toList
    change BC _ _ _ _ _ _ (.d (.str (daS xs xs.length))) _ at e5
    have w1 := w4_size ((xs.length : Nat) : Int)
    have w2 := w4_size (sumB (enS xs xs.length))
    (repeat' (first | (refine stg_ ?_) | (refine cla_ (e1) ?_) | (refine clb_ (e2) ?_) | (refine cla_ (e3) ?_) | (refine cla_ (e4) ?_) | (refine clb_ (e5) ?_) | (refine CatW.at (by show _ ≤ 9223372036854775807; simp only [ByteArray.size_append, w1, w2, mag_size]; omega) ?_; conv => whnf) | (refine br_ (fun hbr => ?_) (fun hbr => ?_))))
    (refine RetOK.t rfl ?_; (repeat' ((conv => whnf); (first | done | (refine ⟨_, _, rfl, ⟨rfl, ?_⟩, ?_⟩) | fail))); (all_goals (conv => whnf)))
    all_goals rfl
theorem PackTables_no (xs : List TTable) (hz : zL zTable xs ≤ 1048576) (h : ¬ (ordT xs = true ∧ szT xs ≤ 65536)) : PC Try.prog 18 [.d (.lst (xs.map TTable.D))] (.tup [.d (.str ⟨#[]⟩), .d (.int .i64 (if ordT xs = true then 5 else 1))]) [] := by
  have c1 := tagsInOrder_v xs
  have c2 := fileSize_v xs hz
  cases hV : ordT xs with
  | false =>
    rw [hV] at c1
    refine pc_intro ttOk (by kernel_rfl) Try.func18 rfl (by kernel_rfl) (by kernel_rfl) (by kernel_rfl) (fun hw => ?_)
    (conv => whnf)
    (repeat' (first | (refine stg_ ?_) | (refine cla_ (c1) ?_) | (refine cla_ (c2) ?_) | (refine br_ (fun hbr => ?_) (fun hbr => ?_))))
    all_goals first | (exfalso; simp_all; done) | skip
    (refine RetOK.t rfl ?_; (repeat' ((conv => whnf); (first | done | (refine ⟨_, _, rfl, ⟨rfl, ?_⟩, ?_⟩) | fail))); (all_goals (conv => whnf)))
    all_goals rfl
  | true =>
    rw [hV] at c1
    have hs : ¬ szT xs ≤ 65536 := fun q => h ⟨hV, q⟩
    refine pc_intro ttOk (by kernel_rfl) Try.func18 rfl (by kernel_rfl) (by kernel_rfl) (by kernel_rfl) (fun hw => ?_)
    (conv => whnf)
    (repeat' (first | (refine stg_ ?_) | (refine cla_ (c1) ?_) | (refine cla_ (c2) ?_) | (refine br_ (fun hbr => ?_) (fun hbr => ?_))))
    all_goals first | (exfalso; omega) | skip
    (refine RetOK.t rfl ?_; (repeat' ((conv => whnf); (first | done | (refine ⟨_, _, rfl, ⟨rfl, ?_⟩, ?_⟩) | fail))); (all_goals (conv => whnf)))
    all_goals rfl
theorem zB_row (n : Nat) : List.replicate n (D.int .u8 0) = (zB n).data.toList.map bD := by
  show _ = (List.replicate n (0 : UInt8)).map bD
  rw [List.map_replicate]; rfl
set_option maxHeartbeats 4000000 in
theorem l31Entries_v (xs : List TTable) (hz : zL zTable xs ≤ 1048576) (hV : ordT xs = true) (hs : szT xs ≤ 65536) : PC Try.prog 53 [.d (.lst (xs.map TTable.D))] (.d (.str (enS xs xs.length))) [] := by
  have hL : (xs.map TTable.D).length = xs.length := List.length_map _
  have hl16 : xs.length ≤ 16 := by
    have := hV
    simp only [ordT, Bool.and_eq_true, decide_eq_true_eq] at this
    exact this.1
  have hT4 := tag4 hV
  have hsz : szT xs = 12 + 16 * xs.length + sumT xs := rfl
  have hE := fun k (hk : k ≤ xs.length) => enS_size xs 4 (fun x hx => Nat.le_of_eq (hT4 x hx)) k hk
  have hS := sumT_le xs
  refine pc_intro ttOk (by kernel_rfl) Try.func53 rfl (by kernel_rfl) (by kernel_rfl) (by kernel_rfl) (fun hw => ?_)
  (conv => whnf)
  (repeat' (first | (refine stg_ ?_) | fail | (refine br_ (fun hbr => ?_) (fun hbr => ?_))))
  refine LoopW.go (α := Nat) (fun k => [(0, .d (.lst (xs.map TTable.D))), (3, .d (.str (enS xs k))), (4, .d (.int .i64 ((atT xs k : Nat) : Int))), (5, .d (.int .i64 k))])
    (fun k => [.gone]) (fun k => k ≤ xs.length) (fun k => xs.length - k) 0
    (Weak.cov ⟨rfl, rfl, ?_, rfl, trivial⟩ ⟨trivial, trivial⟩ rfl) (Nat.zero_le _) (fun k hk => ?_)
  · exact congrArg (fun z => V.d (D.int .i64 z)) (by rw [hL]; show _ = ((12 + 16 * xs.length + sumT (xs.take 0) : Nat) : Int); simp [sumT])
  have hEk := hE k hk
  have hSk := hS k
  (conv => whnf)
  (repeat (refine stg_ ?_))
  (refine br_ (fun h1 => ?_) (fun h1 => ?_) <;> (repeat (refine stg_ ?_)))
  · obtain ⟨x, hx⟩ := at_lt' (xs := xs) (k := k) (by omega)
    have hxt := hT4 x (List.mem_of_getElem? hx)
    have hp := pd_ge x
    have hpn := pn_le x
    have hzx := zT_at hx
    have hsb := sumB_lt x.fData
    have hat : atT xs k = 12 + 16 * xs.length + sumT (xs.take k) := rfl
    have d1 := l01Sum_v x.fData (by omega)
    have d2 := l01Word_v (sumB x.fData) 4 (by omega)
    have d3 := l01Word_v ((atT xs k : Nat) : Int) 4 (by omega)
    have d4 := l01Word_v ((x.fData.size : Nat) : Int) 4 (by omega)
    have d5 := l31Pad_v ((x.fData.size : Nat) : Int) (by omega)
    rw [show (0 - ((x.fData.size : Nat) : Int)) % 4 = ((pn x : Nat) : Int) by unfold pn pd; omega] at d5
    change PC _ _ _ (.d (.str (w4 _))) _ at d2
    change PC _ _ _ (.d (.str (w4 _))) _ at d3
    change PC _ _ _ (.d (.str (w4 _))) _ at d4
    have w1 := w4_size (sumB x.fData)
    have w2 := w4_size ((atT xs k : Nat) : Int)
    have w3 := w4_size ((x.fData.size : Nat) : Int)
    have hat2 : atT xs (k + 1) = atT xs k + pd x := by unfold atT; rw [sumT_at hx]; omega
    have hpp : pd x = x.fData.size + pn x := by unfold pn; omega
    have hEn := enS_at hx
    (repeat' (first | (refine stg_ ?_) | (refine cla_ (d1) ?_) | (refine cla_ (d2) ?_) | (refine cla_ (d3) ?_) | (refine cla_ (d4) ?_) | (refine cla_ (d5) ?_) | (refine CatW.at (by show _ ≤ 9223372036854775807; simp only [ByteArray.size_append, w1, w2, w3]; omega) ?_; conv => whnf) | (refine br_ (fun hbr => ?_) (fun hbr => ?_))))
    exact NextW.go (k + 1) (Weak.cov ⟨rfl, (by show _ = V.d (.str (enS xs (k + 1))); rw [hEn]; rfl), congrArg (fun z => V.d (D.int .i64 z)) (by rw [hat2]; omega), rfl, trivial⟩ ⟨trivial, trivial⟩ rfl) (by omega) (by omega)
  · obtain rfl : k = xs.length := by omega
    (repeat' (first | (refine stg_ ?_) | fail | (refine br_ (fun hbr => ?_) (fun hbr => ?_))))
    (refine RetOK.d rfl rfl ?_; conv => whnf)
theorem bs_assoc (a b c : ByteArray) : a ++ b ++ c = a ++ (b ++ c) := by
  apply ByteArray.ext
  simp [Array.append_assoc]
set_option maxHeartbeats 4000000 in
theorem l31Pack_v (xs : List TTable) (hz : zL zTable xs ≤ 1048576) (hV : ordT xs = true) (hs : szT xs ≤ 65536) : PC Try.prog 35 [.d (.lst (xs.map TTable.D))] (.d (.str (fileS xs))) [] := by
  have hL : (xs.map TTable.D).length = xs.length := List.length_map _
  have hl16 : xs.length ≤ 16 := by
    have := hV
    simp only [ordT, Bool.and_eq_true, decide_eq_true_eq] at this
    exact this.1
  have hT4 := tag4 hV
  have hsz : szT xs = 12 + 16 * xs.length + sumT xs := rfl
  have hE := enS_size xs 4 (fun x hx => Nat.le_of_eq (hT4 x hx)) xs.length (Nat.le_refl _)
  have hD := fun k (hk : k ≤ xs.length) => daS_size xs k hk
  have hS := sumT_le xs
  have c1 := l31Entries_v xs hz hV hs
  have hsb := sumB_lt (enS xs xs.length)
  have e1 : PC Try.prog 54 [.d (.int .i64 (((xs.map TTable.D).length : Nat) : Int)), .d (.int .i64 (4 : Nat))] (.d (.str (w4 ((xs.length : Nat) : Int)))) [] := by rw [hL]; exact l01Word_v _ 4 (by omega)
  have e3 := l01Sum_v (enS xs xs.length) (by omega)
  have e4 := l01Word_v (sumB (enS xs xs.length)) 4 (by omega)
  change PC _ _ _ (.d (.str (w4 _))) _ at e4
  have w1 := w4_size ((xs.length : Nat) : Int)
  have w2 := w4_size (sumB (enS xs xs.length))
  have hh : (headS xs ++ enS xs xs.length).size ≤ 1000 := by simp only [headS, ByteArray.size_append, w1, w2, mag_size]; omega
  refine pc_intro ttOk (by kernel_rfl) Try.func35 rfl (by kernel_rfl) (by kernel_rfl) (by kernel_rfl) (fun hw => ?_)
  (conv => whnf)
  (repeat' (first | (refine stg_ ?_) | (refine cla_ (c1) ?_) | (refine cla_ (e1) ?_) | (refine cla_ (e3) ?_) | (refine cla_ (e4) ?_) | (refine CatW.at (by show _ ≤ 9223372036854775807; simp only [ByteArray.size_append, w1, w2, mag_size]; omega) ?_; conv => whnf) | (refine br_ (fun hbr => ?_) (fun hbr => ?_))))
  refine LoopW.go (α := Nat) (fun k => [(0, .d (.lst (xs.map TTable.D))), (4, .d (.str (headS xs ++ enS xs xs.length ++ daS xs k))), (5, .d (.int .i64 k))])
    (fun k => [.gone]) (fun k => k ≤ xs.length) (fun k => xs.length - k) 0
    (Weak.cov ⟨rfl, ?_, rfl, trivial⟩ ⟨trivial, trivial⟩ rfl) (Nat.zero_le _) (fun k hk => ?_)
  · show _ = V.d (.str (headS xs ++ enS xs xs.length ++ ⟨#[]⟩))
    rw [show headS xs ++ enS xs xs.length ++ (⟨#[]⟩ : ByteArray) = headS xs ++ enS xs xs.length by apply ByteArray.ext; simp]
    rfl
  have hDk := hD k hk
  have hSk := hS k
  have hF : fileS xs = headS xs ++ enS xs xs.length ++ daS xs xs.length := rfl
  generalize headS xs ++ enS xs xs.length = HE at *
  (conv => whnf)
  (repeat (refine stg_ ?_))
  (refine br_ (fun h1 => ?_) (fun h1 => ?_) <;> (repeat (refine stg_ ?_)))
  · obtain ⟨x, hx⟩ := at_lt' (xs := xs) (k := k) (by omega)
    have hp := pd_ge x
    have hpn := pn_le x
    have hzx := zT_at hx
    have d5 := l31Pad_v ((x.fData.size : Nat) : Int) (by omega)
    rw [show (0 - ((x.fData.size : Nat) : Int)) % 4 = ((pn x : Nat) : Int) by unfold pn pd; omega] at d5
    have w5 := zB_size (pn x)
    have hDn := daS_at hx
    have hassoc : HE ++ daS xs k ++ (x.fData ++ zB (pn x)) = HE ++ daS xs (k + 1) := by rw [hDn, bs_assoc]; rfl
    (repeat' (first | (refine stg_ ?_) | (refine cla_ (d5) ?_) | (refine br_ (fun hbr => ?_) (fun hbr => ?_))))
    refine MkW.at (by omega) (by omega) (by show ((1 : Nat) : Int) * _ ≤ 2 ^ 48; omega) ?_
    (conv => whnf)
    (repeat' (first | (refine stg_ ?_) | fail | (refine br_ (fun hbr => ?_) (fun hbr => ?_))))
    refine StW.at (s := zB (pn x)) (by rw [Int.toNat_natCast, List.drop_zero, List.take_of_length_le (by simp)]; exact zB_row _) ?_
    (conv => whnf)
    (repeat' (first | (refine stg_ ?_) | (refine CatW.at (by show _ ≤ 9223372036854775807; simp only [ByteArray.size_append, w5]; omega) ?_; conv => whnf) | (refine br_ (fun hbr => ?_) (fun hbr => ?_))))
    exact NextW.go (k + 1) (Weak.cov ⟨rfl, (by show _ = V.d (.str (HE ++ daS xs (k + 1))); rw [← hassoc]; rfl), rfl, trivial⟩ ⟨trivial, trivial⟩ rfl) (by omega) (by omega)
  · obtain rfl : k = xs.length := by omega
    (repeat' (first | (refine stg_ ?_) | fail | (refine br_ (fun hbr => ?_) (fun hbr => ?_))))
    (refine RetOK.d rfl rfl ?_; conv => whnf)
    rw [hF]
theorem specPackTables_v (xs : List TTable) (hz : zL zTable xs ≤ 1048576) (hV : ordT xs = true) (hs : szT xs ≤ 65536) : PC Try.prog 17 [.d (.lst (xs.map TTable.D))] (.tup [.d (.str (fileS xs)), .d (.int .i64 0)]) [] := by
  have c1 := l31Ok_v xs
  rw [hV] at c1
  have c2 := l31Size_v xs hz
  have c3 := l31Pack_v xs hz hV hs
  refine pc_intro ttOk (by kernel_rfl) Try.func17 rfl (by kernel_rfl) (by kernel_rfl) (by kernel_rfl) (fun hw => ?_)
  (conv => whnf)
  (repeat' (first | (refine stg_ ?_) | (refine cla_ (c1) ?_) | (refine cla_ (c2) ?_) | (refine cla_ (c3) ?_) | (refine br_ (fun hbr => ?_) (fun hbr => ?_))))
  all_goals first | (exfalso; omega) | skip
  (refine RetOK.t rfl ?_; (repeat' ((conv => whnf); (first | done | (refine ⟨_, _, rfl, ⟨rfl, ?_⟩, ?_⟩) | fail))); (all_goals (conv => whnf)))
  all_goals rfl
theorem specPackTables_no (xs : List TTable) (hz : zL zTable xs ≤ 1048576) (h : ¬ (ordT xs = true ∧ szT xs ≤ 65536)) : PC Try.prog 17 [.d (.lst (xs.map TTable.D))] (.tup [.d (.str ⟨#[]⟩), .d (.int .i64 (if ordT xs = true then 5 else 1))]) [] := by
  have c1 := l31Ok_v xs
  have c2 := l31Size_v xs hz
  cases hV : ordT xs with
  | false =>
    rw [hV] at c1
    refine pc_intro ttOk (by kernel_rfl) Try.func17 rfl (by kernel_rfl) (by kernel_rfl) (by kernel_rfl) (fun hw => ?_)
    (conv => whnf)
    (repeat' (first | (refine stg_ ?_) | (refine cla_ (c1) ?_) | (refine cla_ (c2) ?_) | (refine br_ (fun hbr => ?_) (fun hbr => ?_))))
    all_goals first | (exfalso; simp_all; done) | skip
    (refine RetOK.t rfl ?_; (repeat' ((conv => whnf); (first | done | (refine ⟨_, _, rfl, ⟨rfl, ?_⟩, ?_⟩) | fail))); (all_goals (conv => whnf)))
    all_goals rfl
  | true =>
    rw [hV] at c1
    have hs : ¬ szT xs ≤ 65536 := fun q => h ⟨hV, q⟩
    refine pc_intro ttOk (by kernel_rfl) Try.func17 rfl (by kernel_rfl) (by kernel_rfl) (by kernel_rfl) (fun hw => ?_)
    (conv => whnf)
    (repeat' (first | (refine stg_ ?_) | (refine cla_ (c1) ?_) | (refine cla_ (c2) ?_) | (refine br_ (fun hbr => ?_) (fun hbr => ?_))))
    all_goals first | (exfalso; omega) | skip
    (refine RetOK.t rfl ?_; (repeat' ((conv => whnf); (first | done | (refine ⟨_, _, rfl, ⟨rfl, ?_⟩, ?_⟩) | fail))); (all_goals (conv => whnf)))
    all_goals rfl
def paS (xs : List TTable) : ByteArray := if ordT xs = true ∧ szT xs ≤ 65536 then fileS xs else ⟨#[]⟩
def paC (xs : List TTable) : Int := if ordT xs = true ∧ szT xs ≤ 65536 then 0 else if ordT xs = true then 5 else 1
theorem PackTables_a (xs : List TTable) (hz : zL zTable xs ≤ 1048576) : PC Try.prog 18 [.d (.lst (xs.map TTable.D))] (.tup [.d (.str (paS xs)), .d (.int .i64 (paC xs))]) [] := by
  unfold paS paC
  by_cases h : ordT xs = true ∧ szT xs ≤ 65536
  · rw [if_pos h, if_pos h]; exact PackTables_v xs hz h.1 h.2
  · rw [if_neg h, if_neg h]; exact PackTables_no xs hz h
theorem specPackTables_a (xs : List TTable) (hz : zL zTable xs ≤ 1048576) : PC Try.prog 17 [.d (.lst (xs.map TTable.D))] (.tup [.d (.str (paS xs)), .d (.int .i64 (paC xs))]) [] := by
  unfold paS paC
  by_cases h : ordT xs = true ∧ szT xs ≤ 65536
  · rw [if_pos h, if_pos h]; exact specPackTables_v xs hz h.1 h.2
  · rw [if_neg h, if_neg h]; exact specPackTables_no xs hz h
end Go.Proofs.Ytdeafbgnbgihgaa