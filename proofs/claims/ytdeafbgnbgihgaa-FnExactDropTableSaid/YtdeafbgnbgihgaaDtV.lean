/- DropTable, both sides, by the machine. -/
import Derived.Test.YtdeafbgnbgihgaaDlV
import Derived.Test.YtdeafbgnbgihgaaVMCf
import Derived.Test.YtdeafbgnbgihgaaTabW
import Derived.Test.YtdeafbgnbgihgaaCoV
set_option linter.unusedSimpArgs false
set_option linter.unusedVariables false
namespace Go.Proofs.Ytdeafbgnbgihgaa
open Go.RowKit
def dpL (xs : List TTable) (i : Nat) : List TTable := xs.take i ++ xs.drop (i + 1)
theorem dpL_len {xs : List TTable} {i : Nat} (h : i < xs.length) : (dpL xs i).length = xs.length - 1 := by simp [dpL]; omega
theorem delL_take {xs : List TTable} {i : Nat} (h : i < xs.length) : (delL i (i + 1) xs).take (xs.length - 1) = dpL xs i := by
  have := dpL_len h
  show ((dpL xs i) ++ List.replicate (i + 1 - i) _).take _ = _
  rw [← this, List.take_left']
  rfl
theorem tab_flat (xs : List TTable) : ∀ x ∈ xs.map TTable.D, x.flat = true := by
  intro x hx
  obtain ⟨y, _, rfl⟩ := List.mem_map.1 hx
  rfl
theorem vt_len {xs : List TTable} (h : vtB xs = true) : xs.length ≤ 16 := by
  simp only [vtB, ordT, Bool.and_eq_true, decide_eq_true_eq] at h
  exact h.1.1
theorem dt_cases (xs : List TTable) (s : ByteArray) : (vtB xs = true → fdx (tgEq s) xs 0 < 0) ∨ ∃ i : Nat, fdx (tgEq s) xs 0 = (i : Int) ∧ vtB xs = true ∧ i < xs.length := by
  obtain ⟨g1, g2⟩ := fdx_lt (tgEq s) xs 0
  cases hV : vtB xs with
  | false => exact .inl (fun h => by cases h)
  | true =>
    rcases Int.lt_or_le (fdx (tgEq s) xs 0) 0 with h | h
    · exact .inl (fun _ => h)
    · exact .inr ⟨(fdx (tgEq s) xs 0).toNat, by omega, rfl, by omega⟩
theorem DropTable_v (xs : List TTable) (s : ByteArray) (hz : zL zTable xs ≤ 1048576) (i : Nat) (hi : fdx (tgEq s) xs 0 = (i : Int)) (hV : vtB xs = true) : PC Try.prog 9 [.d (.lst (xs.map TTable.D)), .d (.str s)] (.tup [.own 1 0 (xs.length - 1), .d (.int .i64 0)]) [.arr 2 ((dpL xs i).map TTable.D) true] := by
  obtain ⟨g1, g2⟩ := fdx_lt (tgEq s) xs 0
  have hlt : i < xs.length := by omega
  have hL : (xs.map TTable.D).length = xs.length := List.length_map _
  have hl16 := vt_len hV
  have c1 := ValidTables_v xs hz
  have c2 := findTable_v xs s
  rw [hV] at c1
  rw [hi] at c2
  have c3 := cloneTable_v xs (by omega)
  have c4 := Delete_r xs i (i + 1) (by omega) (by omega)
  rw [show i + 1 - i = 1 by omega] at c4
  have pc : PC Try.prog 9 [.d (.lst (xs.map TTable.D)), .d (.str s)] (.tup [.own 1 0 (xs.length - 1), .d (.int .i64 0)]) [.arr 2 ((delL i (i + 1) xs).map TTable.D) true] := by
    refine pc_intro ttOk (by kernel_rfl) Try.func9 rfl (by kernel_rfl) (by kernel_rfl) (by kernel_rfl) (fun hw => ?_)
    (conv => whnf)
    (repeat' (first | (refine stg_ ?_) | (refine cla_ (c1) ?_) | (refine cla_ (c2) ?_) | (refine cla_ (c3) ?_) | (refine clp_ (c4) ?_) | (refine br_ (fun hbr => ?_) (fun hbr => ?_))))
    all_goals first | (exfalso; omega) | skip
    (refine ⟨⟨[some 1], ⟨by decide, ?_, trivial, trivial⟩, by decide, ⟨_, rfl, rfl, ⟨_, _, rfl, ⟨by decide, ?_⟩, ⟨_, _, rfl, ⟨rfl, ?_⟩, rfl⟩⟩⟩⟩⟩)
    all_goals rfl
  refine pc.weak (Weak.trans (Weak.cutF 1 (xs.length - 1) rfl rfl (tab_flat _)) (Weak.cov ⟨rfl, trivial⟩ ⟨trivial, ?_, trivial⟩ rfl))
  show Blk.arr 2 (List.take (xs.length - 1) ((delL i (i + 1) xs).map TTable.D)) true = _
  rw [← List.map_take, delL_take hlt]
theorem DropTable_no (xs : List TTable) (s : ByteArray) (hz : zL zTable xs ≤ 1048576) (h : vtB xs = true → fdx (tgEq s) xs 0 < 0) : PC Try.prog 9 [.d (.lst (xs.map TTable.D)), .d (.str s)] (.tup [.nils, .d (.int .i64 (if vtB xs = true then 3 else 1))]) [] := by
  have c1 := ValidTables_v xs hz
  have c2 := findTable_v xs s
  cases hV : vtB xs with
  | false =>
    rw [hV] at c1
    refine pc_intro ttOk (by kernel_rfl) Try.func9 rfl (by kernel_rfl) (by kernel_rfl) (by kernel_rfl) (fun hw => ?_)
    (conv => whnf)
    (repeat' (first | (refine stg_ ?_) | (refine cla_ (c1) ?_) | (refine cla_ (c2) ?_) | (refine br_ (fun hbr => ?_) (fun hbr => ?_))))
    all_goals first | (exfalso; simp_all; done) | skip
    (refine ⟨⟨[], trivial, by decide, ⟨_, rfl, rfl, ⟨_, _, rfl, rfl, ⟨_, _, rfl, ⟨rfl, ?_⟩, rfl⟩⟩⟩⟩⟩; (conv => whnf))
    rfl
  | true =>
    have h := h hV
    rw [hV] at c1
    generalize fdx (tgEq s) xs 0 = d at *
    refine pc_intro ttOk (by kernel_rfl) Try.func9 rfl (by kernel_rfl) (by kernel_rfl) (by kernel_rfl) (fun hw => ?_)
    (conv => whnf)
    (repeat' (first | (refine stg_ ?_) | (refine cla_ (c1) ?_) | (refine cla_ (c2) ?_) | (refine br_ (fun hbr => ?_) (fun hbr => ?_))))
    all_goals first | (exfalso; omega) | skip
    (refine ⟨⟨[], trivial, by decide, ⟨_, rfl, rfl, ⟨_, _, rfl, rfl, ⟨_, _, rfl, ⟨rfl, ?_⟩, rfl⟩⟩⟩⟩⟩; (conv => whnf))
    rfl
theorem specDropTable_v (xs : List TTable) (s : ByteArray) (hz : zL zTable xs ≤ 1048576) (i : Nat) (hi : fdx (tgEq s) xs 0 = (i : Int)) (hV : vtB xs = true) : PC Try.prog 7 [.d (.lst (xs.map TTable.D)), .d (.str s)] (.tup [.own 1 0 (xs.length - 1), .d (.int .i64 0)]) [.arr 2 ((dpL xs i).map TTable.D) true] := by
  obtain ⟨g1, g2⟩ := fdx_lt (tgEq s) xs 0
  have hlt : i < xs.length := by omega
  have hL : (xs.map TTable.D).length = xs.length := List.length_map _
  have hl16 := vt_len hV
  have c1 := specValidTables_v xs hz
  have c2 := l31Find_v xs s
  rw [hV] at c1
  rw [hi] at c2
  refine pc_intro ttOk (by kernel_rfl) Try.func7 rfl (by kernel_rfl) (by kernel_rfl) (by kernel_rfl) (fun hw => ?_)
  (conv => whnf)
  (repeat' (first | (refine stg_ ?_) | (refine cla_ (c1) ?_) | (refine cla_ (c2) ?_) | (refine br_ (fun hbr => ?_) (fun hbr => ?_))))
  all_goals first | (exfalso; omega) | skip
  have hE : List.take ((i : Int).toNat - 0) (List.drop 0 (xs.map TTable.D)) = (xs.take i).map TTable.D := by simp
  rw [hE]
  have hE1 : ((xs.take i).map TTable.D).length = i := by simp; omega
  (repeat' (first | (refine stg_ ?_) | fail | (refine br_ (fun hbr => ?_) (fun hbr => ?_))))
  have hE2 : List.take ((xs.map TTable.D).length - ((i : Int) + 1).toNat) (List.drop ((i : Int) + 1).toNat (xs.map TTable.D)) = (xs.drop (i + 1)).map TTable.D := by
    rw [show ((i : Int) + 1).toNat = i + 1 by omega, ← List.map_drop, List.take_of_length_le (by simp)]
  rw [hE2]
  have hE3 : ((xs.drop (i + 1)).map TTable.D).length = xs.length - (i + 1) := by simp
  (repeat' (first | (refine stg_ ?_) | fail | (refine br_ (fun hbr => ?_) (fun hbr => ?_))))
  rw [show xs.length - 1 = 0 + ((xs.take i).map TTable.D).length + ((xs.drop (i + 1)).map TTable.D).length by omega, dpL, List.map_append]
  (refine ⟨⟨[some 1], ⟨by decide, ?_, trivial, trivial⟩, by decide, ⟨_, rfl, rfl, ⟨_, _, rfl, ⟨by decide, ?_⟩, ⟨_, _, rfl, ⟨rfl, ?_⟩, rfl⟩⟩⟩⟩⟩)
  · show some (Blk.arr 2 (List.take (0 + ((xs.take i).map TTable.D).length) ([] ++ (xs.take i).map TTable.D) ++ _) true) = _
    rw [Nat.zero_add, List.nil_append, List.take_length]
  all_goals rfl
theorem specDropTable_no (xs : List TTable) (s : ByteArray) (hz : zL zTable xs ≤ 1048576) (h : vtB xs = true → fdx (tgEq s) xs 0 < 0) : PC Try.prog 7 [.d (.lst (xs.map TTable.D)), .d (.str s)] (.tup [.nils, .d (.int .i64 (if vtB xs = true then 3 else 1))]) [] := by
  have c1 := specValidTables_v xs hz
  have c2 := l31Find_v xs s
  cases hV : vtB xs with
  | false =>
    rw [hV] at c1
    refine pc_intro ttOk (by kernel_rfl) Try.func7 rfl (by kernel_rfl) (by kernel_rfl) (by kernel_rfl) (fun hw => ?_)
    (conv => whnf)
    (repeat' (first | (refine stg_ ?_) | (refine cla_ (c1) ?_) | (refine cla_ (c2) ?_) | (refine br_ (fun hbr => ?_) (fun hbr => ?_))))
    all_goals first | (exfalso; simp_all; done) | skip
    (refine ⟨⟨[], trivial, by decide, ⟨_, rfl, rfl, ⟨_, _, rfl, rfl, ⟨_, _, rfl, ⟨rfl, ?_⟩, rfl⟩⟩⟩⟩⟩; (conv => whnf))
    rfl
  | true =>
    have h := h hV
    rw [hV] at c1
    generalize fdx (tgEq s) xs 0 = d at *
    refine pc_intro ttOk (by kernel_rfl) Try.func7 rfl (by kernel_rfl) (by kernel_rfl) (by kernel_rfl) (fun hw => ?_)
    (conv => whnf)
    (repeat' (first | (refine stg_ ?_) | (refine cla_ (c1) ?_) | (refine cla_ (c2) ?_) | (refine br_ (fun hbr => ?_) (fun hbr => ?_))))
    all_goals first | (exfalso; omega) | skip
    (refine ⟨⟨[], trivial, by decide, ⟨_, rfl, rfl, ⟨_, _, rfl, rfl, ⟨_, _, rfl, ⟨rfl, ?_⟩, rfl⟩⟩⟩⟩⟩; (conv => whnf))
    rfl
end Go.Proofs.Ytdeafbgnbgihgaa
