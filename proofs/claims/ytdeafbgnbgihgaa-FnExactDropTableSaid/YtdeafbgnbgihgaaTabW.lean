/- Tables: order, size of the file, ValidTables, TableNamed. -/
import Derived.Test.YtdeafbgnbgihgaaTabV
import Derived.Test.YtdeafbgnbgihgaaLV
set_option linter.unusedSimpArgs false
set_option linter.unusedVariables false
namespace Go.Proofs.Ytdeafbgnbgihgaa
open Go.RowKit
def ltT : Option TTable → TTable → Bool
  | none, _ => true
  | some p, x => Op.bytesLess p.fTag.toList x.fTag.toList
def tbGo : Option TTable → List TTable → Bool
  | _, [] => true
  | o, x :: t => tagB x.fTag && (ltT o x && tbGo (some x) t)
theorem tbGo_at {xs : List TTable} {k : Nat} {x : TTable} (hx : xs[k]? = some x) : tbGo (pv xs k) (xs.drop k) = (tagB x.fTag && (ltT (pv xs k) x && tbGo (pv xs (k + 1)) (xs.drop (k + 1)))) := by
  rw [drop_at hx, tbGo, pv_succ, hx]
theorem tbGo_end {xs : List TTable} {k : Nat} {o : Option TTable} (hk : xs.length ≤ k) : tbGo o (xs.drop k) = true := by
  rw [List.drop_eq_nil_of_le hk]; cases o <;> rfl
def ordT (xs : List TTable) : Bool := decide (xs.length ≤ 16) && tbGo none xs
def pd (x : TTable) : Nat := (x.fData.size + 3) / 4 * 4
def sumT (xs : List TTable) : Nat := (xs.map pd).sum
def szT (xs : List TTable) : Nat := 12 + 16 * xs.length + sumT xs
theorem sumT_at {xs : List TTable} {k : Nat} {x : TTable} (hx : xs[k]? = some x) : sumT (xs.take (k + 1)) = sumT (xs.take k) + pd x := by
  rw [sumT, take_snoc_get hx, List.map_append, List.sum_append]; simp [sumT]
theorem sumT_le : ∀ (xs : List TTable) (k : Nat), sumT (xs.take k) ≤ sumT xs
  | [], k => by simp [sumT]
  | x :: t, 0 => by simp [sumT]
  | x :: t, k + 1 => by
    have := sumT_le t k
    simp only [sumT, List.take_succ_cons, List.map_cons, List.sum_cons] at this ⊢
    omega
theorem sumT_z : ∀ xs : List TTable, sumT xs ≤ 4 * zL zTable xs
  | [] => by simp [sumT, zL]
  | x :: t => by
    have := sumT_z t
    simp only [sumT, zL, List.map_cons, List.sum_cons, List.length_cons, pd, zTable] at this ⊢
    omega
theorem zT_at {xs : List TTable} {k : Nat} {x : TTable} (hx : xs[k]? = some x) : x.fTag.size + x.fData.size ≤ zL zTable xs := by
  have := sum_get zTable hx
  simp only [zL, zTable] at this ⊢
  omega
def vtB (xs : List TTable) : Bool := ordT xs && decide (szT xs ≤ 65536)
theorem pad_and {n : Int} (h0 : 0 ≤ n) (h1 : n ≤ 9223372036854775807) : (((BitVec.ofInt IntKind.i64.bits (0 - n) &&& BitVec.ofInt IntKind.i64.bits 3).toNat : Nat) : Int) = (0 - n) % 4 := by
  have e : BitVec.ofInt 64 3 = 3#64 := rfl
  show (((BitVec.ofInt 64 (0 - n) &&& BitVec.ofInt 64 3).toNat : Nat) : Int) = _
  rw [e, BitVec.toNat_and, BitVec.toNat_ofInt, show (3#64).toNat = 2 ^ 2 - 1 from rfl, Nat.and_two_pow_sub_one_eq_mod]
  omega
theorem l31Pad_v (n : Int) (h0 : 0 ≤ n) : PC Try.prog 52 [.d (.int .i64 n)] (.d (.int .i64 ((0 - n) % 4))) [] := by
  refine pc_intro ttOk (by kernel_rfl) Try.func52 rfl (by kernel_rfl) (by kernel_rfl) (by kernel_rfl) (fun hw => ?_)
  have hn : -9223372036854775808 ≤ n ∧ n ≤ 9223372036854775807 := hw.1
  (conv => whnf)
  (refine stg_ ?_)
  refine ArW.i64e ((0 - n) % 4) (pad_and h0 hn.2) (by omega) ?_
  (conv => whnf)
  (refine RetOK.d rfl rfl ?_; conv => whnf)
theorem paddedSize_v (n : Int) (h0 : 0 ≤ n) (h1 : n ≤ 9223372036854775000) : PC Try.prog 41 [.d (.int .i64 n)] (.d (.int .i64 ((n + 3) / 4 * 4))) [] := by
  refine pc_intro ttOk (by kernel_rfl) Try.func41 rfl (by kernel_rfl) (by kernel_rfl) (by kernel_rfl) (fun hw => ?_)
  have e : (n + 3).tdiv 4 = (n + 3) / 4 := Int.tdiv_eq_ediv_of_nonneg (by omega)
  (conv => whnf)
  (refine stg_ ?_)
  (refine stg_ ?_)
  rw [e]
  (repeat (refine stg_ ?_))
  (refine RetOK.d rfl rfl ?_; conv => whnf)
theorem fileSize_v (xs : List TTable) (hz : zL zTable xs ≤ 1048576) : PC Try.prog 37 [.d (.lst (xs.map TTable.D))] (.d (.int .i64 (szT xs : Nat))) [] := by
  refine pc_intro ttOk (by kernel_rfl) Try.func37 rfl (by kernel_rfl) (by kernel_rfl) (by kernel_rfl) (fun hw => ?_)
  have hL : (xs.map TTable.D).length = xs.length := List.length_map _
  have hS := sumT_z xs
  have hl : xs.length ≤ zL zTable xs := by simp only [zL]; omega
  (conv => whnf)
  (repeat (refine stg_ ?_))
  refine LoopW.go (α := Nat) (fun k => [(3, .d (.int .i64 ((12 + 16 * xs.length + sumT (xs.take k) : Nat)))), (10, .d (.lst (xs.map TTable.D))), (11, .d (.int .i64 (xs.map TTable.D).length)), (12, .d (.int .i64 k))]) (fun _ => [.gone]) (fun k => k ≤ xs.length) (fun k => xs.length - k) 0 (Weak.cov ⟨by rw [← hL]; exact congrArg (fun z => V.d (.int .i64 z)) (by simp [sumT] <;> omega), rfl, rfl, rfl, trivial⟩ ⟨trivial, trivial⟩ rfl) (by omega) (fun k hk => ?_)
  have h3 := sumT_le xs k
  (conv => whnf)
  (refine br_ (fun h2 => ?_) (fun h2 => ?_) <;> (repeat (refine stg_ ?_)))
  · obtain ⟨x, hx⟩ := at_lt' (xs := xs) (k := k) (by omega)
    have h4 := sumT_at hx
    have h5 := zT_at hx
    have h6 := sumT_le xs (k + 1)
    (repeat (refine stg_ ?_))
    (refine cl_ (paddedSize_v (x.fData.size : Int) (by omega) (by omega)) ?_)
    refine ArW.i64e ((12 + 16 * xs.length + sumT (xs.take (k + 1)) : Nat) : Int) (by rw [h4, pd]; omega) (by omega) ?_
    (conv => whnf)
    (repeat (refine stg_ ?_))
    exact NextW.go (k + 1) covT_ (by omega) (by omega)
  · (refine RetOK.d rfl rfl ?_; conv => whnf)
    rw [szT, List.take_of_length_le (by omega)]
theorem l31Size_v (xs : List TTable) (hz : zL zTable xs ≤ 1048576) : PC Try.prog 34 [.d (.lst (xs.map TTable.D))] (.d (.int .i64 (szT xs : Nat))) [] := by
  refine pc_intro ttOk (by kernel_rfl) Try.func34 rfl (by kernel_rfl) (by kernel_rfl) (by kernel_rfl) (fun hw => ?_)
  have hL : (xs.map TTable.D).length = xs.length := List.length_map _
  have hS := sumT_z xs
  have hl : xs.length ≤ zL zTable xs := by simp only [zL]; omega
  (conv => whnf)
  (repeat (refine stg_ ?_))
  refine LoopW.go (α := Nat) (fun k => [(0, .d (.lst (xs.map TTable.D))), (3, .d (.int .i64 ((12 + 16 * xs.length + sumT (xs.take k) : Nat)))), (4, .d (.int .i64 k))]) (fun _ => [.gone]) (fun k => k ≤ xs.length) (fun k => xs.length - k) 0 (Weak.cov ⟨rfl, by rw [← hL]; exact congrArg (fun z => V.d (.int .i64 z)) (by simp [sumT] <;> omega), rfl, trivial⟩ ⟨trivial, trivial⟩ rfl) (by omega) (fun k hk => ?_)
  have h3 := sumT_le xs k
  (conv => whnf)
  (refine br_ (fun h2 => ?_) (fun h2 => ?_) <;> (repeat (refine stg_ ?_)))
  · obtain ⟨x, hx⟩ := at_lt' (xs := xs) (k := k) (by omega)
    have h4 := sumT_at hx
    have h5 := zT_at hx
    have h6 := sumT_le xs (k + 1)
    (repeat (refine stg_ ?_))
    (refine cl_ (l31Pad_v (x.fData.size : Int) (by omega)) ?_)
    (refine stg_ ?_)
    refine ArW.i64e ((12 + 16 * xs.length + sumT (xs.take (k + 1)) : Nat) : Int) (by rw [h4, pd]; omega) (by omega) ?_
    (conv => whnf)
    (repeat (refine stg_ ?_))
    exact NextW.go (k + 1) covT_ (by omega) (by omega)
  · (refine RetOK.d rfl rfl ?_; conv => whnf)
    rw [szT, List.take_of_length_le (by omega)]
theorem tagsInOrder_v (xs : List TTable) : PC Try.prog 36 [.d (.lst (xs.map TTable.D))] (.d (.bool (ordT xs))) [] := by
  refine pc_intro ttOk (by kernel_rfl) Try.func36 rfl (by kernel_rfl) (by kernel_rfl) (by kernel_rfl) (fun hw => ?_)
  have hL : (xs.map TTable.D).length = xs.length := List.length_map _
  have hm : (xs.map TTable.D).length ≤ 9223372036854775807 := hw.1.1
  (conv => whnf)
  (refine br_ (fun h1 => ?_) (fun h1 => ?_) <;> (repeat (refine stg_ ?_)))
  · (refine RetOK.d rfl rfl ?_; conv => whnf)
    rw [ordT, decide_eq_false (by omega)]; rfl
  · refine LoopW.go (α := Nat) (fun k => [(0, .d (.lst (xs.map TTable.D))), (8, .d (.lst (xs.map TTable.D))), (9, .d (.int .i64 (xs.map TTable.D).length)), (10, .d (.int .i64 k))]) (fun k => [.gone]) (fun k => k ≤ xs.length ∧ ordT xs = tbGo (pv xs k) (xs.drop k)) (fun k => xs.length - k) 0 covT_ ?_ (fun k hk => ?_)
    · exact ⟨by omega, by rw [ordT, decide_eq_true (by omega)]; rfl⟩
    obtain ⟨hk1, hk2⟩ := hk
    (conv => whnf)
    (refine br_ (fun h2 => ?_) (fun h2 => ?_) <;> (repeat (refine stg_ ?_)))
    · obtain ⟨x, hx⟩ := at_lt' (xs := xs) (k := k) (by omega)
      rw [tbGo_at hx] at hk2
      rcases Nat.eq_zero_or_pos k with rfl | h0
      · rw [pv_zero, ltT, Bool.true_and] at hk2
        (repeat' (first | (refine stg_ ?_) | (refine cla_ (ValidTag_v x.fTag) ?_) | (refine br_ (fun hbr => ?_) (fun hbr => ?_))))
        all_goals first | (exfalso; omega) | ((refine RetOK.d rfl rfl ?_; conv => whnf); simp_all; done) | skip
        all_goals exact NextW.go (0 + 1) covT_ ⟨by omega, by simp_all⟩ (by omega)
      · obtain ⟨p, hp⟩ := at_lt' (xs := xs) (k := k - 1) (by omega)
        have hp' : (xs.map TTable.D)[((k : Int) - 1).toNat]? = some p.D := by
          have : ((k : Int) - 1).toNat = k - 1 := by omega
          rw [this, List.getElem?_map, hp]; rfl
        rw [pv_pos _ h0, hp, ltT] at hk2
        (repeat' (first | (refine stg_ ?_) | (refine cla_ (ValidTag_v x.fTag) ?_) | (refine IxW.at (by omega) hp' ?_; (conv => whnf)) | (refine br_ (fun hbr => ?_) (fun hbr => ?_))))
        all_goals first | (exfalso; omega) | ((refine RetOK.d rfl rfl ?_; conv => whnf); simp_all; done) | skip
        all_goals exact NextW.go (k + 1) covT_ ⟨by omega, by simp_all⟩ (by omega)
    · (refine RetOK.d rfl rfl ?_; conv => whnf)
      rw [hk2, tbGo_end (by omega)]
theorem l31Ok_v (xs : List TTable) : PC Try.prog 33 [.d (.lst (xs.map TTable.D))] (.d (.bool (ordT xs))) [] := by
  refine pc_intro ttOk (by kernel_rfl) Try.func33 rfl (by kernel_rfl) (by kernel_rfl) (by kernel_rfl) (fun hw => ?_)
  have hL : (xs.map TTable.D).length = xs.length := List.length_map _
  have hm : (xs.map TTable.D).length ≤ 9223372036854775807 := hw.1.1
  (conv => whnf)
  refine LoopW.go (α := Nat) (fun k => [(0, .d (.lst (xs.map TTable.D))), (3, .d (.int .i64 k))]) (fun k => [.gone]) (fun k => k ≤ xs.length ∧ tbGo none xs = tbGo (pv xs k) (xs.drop k)) (fun k => xs.length - k) 0 covT_ ?_ (fun k hk => ?_)
  · exact ⟨by omega, rfl⟩
  obtain ⟨hk1, hk2⟩ := hk
  (conv => whnf)
  (refine br_ (fun h2 => ?_) (fun h2 => ?_) <;> (repeat (refine stg_ ?_)))
  · obtain ⟨x, hx⟩ := at_lt' (xs := xs) (k := k) (by omega)
    rw [tbGo_at hx] at hk2
    rcases Nat.eq_zero_or_pos k with rfl | h0
    · rw [pv_zero, ltT, Bool.true_and] at hk2
      (repeat' (first | (refine stg_ ?_) | (refine cla_ (l31Tag_v x.fTag) ?_) | (refine br_ (fun hbr => ?_) (fun hbr => ?_))))
      all_goals first | (exfalso; omega) | ((refine RetOK.d rfl rfl ?_; conv => whnf); simp_all [ordT]; done) | skip
      all_goals exact NextW.go (0 + 1) covT_ ⟨by omega, by simp_all⟩ (by omega)
    · obtain ⟨p, hp⟩ := at_lt' (xs := xs) (k := k - 1) (by omega)
      have hp' : (xs.map TTable.D)[((k : Int) - 1).toNat]? = some p.D := by
        have : ((k : Int) - 1).toNat = k - 1 := by omega
        rw [this, List.getElem?_map, hp]; rfl
      rw [pv_pos _ h0, hp, ltT] at hk2
      (repeat' (first | (refine stg_ ?_) | (refine cla_ (l31Tag_v x.fTag) ?_) | (refine IxW.at (by omega) hp' ?_; (conv => whnf)) | (refine br_ (fun hbr => ?_) (fun hbr => ?_))))
      all_goals first | (exfalso; omega) | ((refine RetOK.d rfl rfl ?_; conv => whnf); simp_all [ordT]; done) | skip
      all_goals exact NextW.go (k + 1) covT_ ⟨by omega, by simp_all⟩ (by omega)
  · (refine RetOK.d rfl rfl ?_; conv => whnf)
    rw [ordT, hk2, tbGo_end (by omega), Bool.and_true]
    congr 1
    rw [Bool.eq_iff_iff]; simp; try omega
theorem ValidTables_v (xs : List TTable) (hz : zL zTable xs ≤ 1048576) : PC Try.prog 21 [.d (.lst (xs.map TTable.D))] (.d (.bool (vtB xs))) [] := by
  refine pc_intro ttOk (by kernel_rfl) Try.func21 rfl (by kernel_rfl) (by kernel_rfl) (by kernel_rfl) (fun hw => ?_)
  (conv => whnf)
  (repeat' (first | (refine stg_ ?_) | (refine cla_ (tagsInOrder_v xs) ?_) | (refine cla_ (fileSize_v xs hz) ?_) | (refine br_ (fun hbr => ?_) (fun hbr => ?_))))
  all_goals ((refine RetOK.d rfl rfl ?_; conv => whnf); simp_all [vtB]; try omega)
theorem specValidTables_v (xs : List TTable) (hz : zL zTable xs ≤ 1048576) : PC Try.prog 19 [.d (.lst (xs.map TTable.D))] (.d (.bool (vtB xs))) [] := by
  refine pc_intro ttOk (by kernel_rfl) Try.func19 rfl (by kernel_rfl) (by kernel_rfl) (by kernel_rfl) (fun hw => ?_)
  (conv => whnf)
  (repeat' (first | (refine stg_ ?_) | (refine cla_ (l31Ok_v xs) ?_) | (refine cla_ (l31Size_v xs hz) ?_) | (refine br_ (fun hbr => ?_) (fun hbr => ?_))))
  all_goals ((refine RetOK.d rfl rfl ?_; conv => whnf); simp_all [vtB]; try omega)
set_option maxHeartbeats 1000000 in
theorem ixTablep_v (xs : List TTable) (f : Nat) (y0 : D) (p : TTable → Bool) (hf : ∀ x : TTable, PC Try.prog f [.d x.D, .pX y0] (.d (.bool (p x))) []) :
    PC Try.prog 44 [.d (.lst (xs.map TTable.D)), .fn (.func f) [.pX y0]] (.d (.int .i64 (fdx p xs 0))) [] := by
  refine pc_intro ttOk (by kernel_rfl) Try.func44 rfl (by kernel_rfl) (by kernel_rfl) (by kernel_rfl) (fun hw => ?_)
  have hL : (xs.map TTable.D).length = xs.length := List.length_map _
  have hm : (xs.map TTable.D).length ≤ 9223372036854775807 := hw.1.1
  (conv => whnf)
  refine LoopW.go (α := Nat) (fun k => [(0, .d (.lst (xs.map TTable.D))), (1, .fn (.func f) [.pX y0]), (7, .d (.int .i64 (xs.map TTable.D).length)), (8, .d (.int .i64 k))]) (fun k => [.gone]) (fun k => k ≤ xs.length ∧ fdx p xs 0 = fdx p (xs.drop k) k) (fun k => xs.length - k) 0 covT_ ?_ (fun k hk => ?_)
  · exact ⟨by omega, rfl⟩
  obtain ⟨hk1, hk2⟩ := hk
  (conv => whnf)
  (refine br_ (fun h2 => ?_) (fun h2 => ?_) <;> (repeat (refine stg_ ?_)))
  · obtain ⟨x, hx⟩ := at_lt' (xs := xs) (k := k) (by omega)
    rw [fdx_at hx] at hk2
    (repeat (refine stg_ ?_))
    (refine cla_ (hf x) ?_)
    (refine br_ (fun h3 => ?_) (fun h3 => ?_) <;> (repeat (refine stg_ ?_)))
    · (refine RetOK.d rfl rfl ?_; conv => whnf)
      rw [hk2, if_pos h3]
    · (repeat (refine stg_ ?_))
      exact NextW.go (k + 1) covT_ ⟨by omega, by rw [hk2, h3]; rfl⟩ (by omega)
  · (refine RetOK.d rfl rfl ?_; conv => whnf)
    rw [hk2, fdx_end (by omega)]

def tgEq (s : ByteArray) (x : TTable) : Bool := x.fTag.toList == s.toList
theorem tabNm1_v (x : TTable) (s : ByteArray) : PC Try.prog 45 [.d x.D, .pX (.str s)] (.d (.bool (tgEq s x))) [] := by
  refine pc_intro ttOk (by kernel_rfl) Try.func45 rfl (by kernel_rfl) (by kernel_rfl) (by kernel_rfl) (fun hw => ?_)
  (conv => whnf)
  (refine RetOK.d rfl rfl ?_; conv => whnf)
  rfl
theorem findTable_v (xs : List TTable) (s : ByteArray) : PC Try.prog 22 [.d (.lst (xs.map TTable.D)), .d (.str s)] (.d (.int .i64 (fdx (tgEq s) xs 0))) [] := by
  refine pc_intro ttOk (by kernel_rfl) Try.func22 rfl (by kernel_rfl) (by kernel_rfl) (by kernel_rfl) (fun hw => ?_)
  (conv => whnf)
  (refine cla_ (ixTablep_v xs _ (.str s) (tgEq s) (fun x => tabNm1_v x s)) ?_)
  (refine RetOK.d rfl rfl ?_; conv => whnf)
theorem l31Find_v (xs : List TTable) (s : ByteArray) : PC Try.prog 20 [.d (.lst (xs.map TTable.D)), .d (.str s)] (.d (.int .i64 (fdx (tgEq s) xs 0))) [] := by
  refine pc_intro ttOk (by kernel_rfl) Try.func20 rfl (by kernel_rfl) (by kernel_rfl) (by kernel_rfl) (fun hw => ?_)
  have hL : (xs.map TTable.D).length = xs.length := List.length_map _
  have hm : (xs.map TTable.D).length ≤ 9223372036854775807 := hw.1.1
  (conv => whnf)
  refine LoopW.go (α := Nat) (fun k => [(0, .d (.lst (xs.map TTable.D))), (1, .d (.str s)), (5, .d (.int .i64 k))]) (fun k => [.gone]) (fun k => k ≤ xs.length ∧ fdx (tgEq s) xs 0 = fdx (tgEq s) (xs.drop k) k) (fun k => xs.length - k) 0 covT_ ?_ (fun k hk => ?_)
  · exact ⟨by omega, rfl⟩
  obtain ⟨hk1, hk2⟩ := hk
  (conv => whnf)
  (refine br_ (fun h2 => ?_) (fun h2 => ?_) <;> (repeat (refine stg_ ?_)))
  · obtain ⟨x, hx⟩ := at_lt' (xs := xs) (k := k) (by omega)
    rw [fdx_at hx] at hk2
    (repeat (refine stg_ ?_))
    (refine br_ (fun h5 => ?_) (fun h5 => ?_) <;> (repeat (refine stg_ ?_)))
    · (refine RetOK.d rfl rfl ?_; conv => whnf)
      rw [hk2, if_pos (show tgEq s x = true by simp [tgEq, h5])]
    · rw [if_neg (show ¬ tgEq s x = true by simp [tgEq, h5])] at hk2
      (repeat (refine stg_ ?_))
      exact NextW.go (k + 1) covT_ ⟨by omega, hk2⟩ (by omega)
  · (refine RetOK.d rfl rfl ?_; conv => whnf)
    rw [hk2, fdx_end (by omega)]
/-- what TableNamed returns -/
def tnS (xs : List TTable) (s : ByteArray) : ByteArray := if vtB xs = true then if fdx (tgEq s) xs 0 < 0 then .empty else ((xs[(fdx (tgEq s) xs 0).toNat]?).map (·.fData)).getD .empty else .empty
def tnC (xs : List TTable) (s : ByteArray) : Int := if vtB xs = true then (if fdx (tgEq s) xs 0 < 0 then 3 else 0) else 1
end Go.Proofs.Ytdeafbgnbgihgaa
