/- EncodeOutline: parts, flags, both, by the machine. -/
import Derived.Test.YtdjdkkacbkfmeaaOtV
import Derived.Test.YtdjdkkacbkfmeaaBldS
set_option linter.unusedSimpArgs false
set_option linter.unusedVariables false
namespace Go.Proofs.Ytdjdkkacbkfmeaa
open Go.RowKit
theorem differenceKind_v (d : Int) : PC Try.prog 105 [.d (.int .i64 d)] (.d (.int .u8 (kdN d))) [] := by
  refine pc_intro ttOk (by kernel_rfl) Try.func105 rfl (by kernel_rfl) (by kernel_rfl) (by kernel_rfl) (fun hw => ?_)
  (conv => whnf)
  (repeat' (first | (refine stg_ ?_) | fail | (refine br_ (fun hbr => ?_) (fun hbr => ?_))))
  all_goals ((refine RetOK.d rfl rfl ?_; conv => whnf); rw [kdN]; first | (rw [if_pos (by omega)]; done) | (rw [if_neg (by omega), if_pos (by omega)]; done) | (rw [if_neg (by omega), if_neg (by omega), if_pos (by omega)]; done) | (rw [if_neg (by omega), if_neg (by omega), if_neg (by omega)]; done))
theorem l32Kind_v (d : Int) : PC Try.prog 96 [.d (.int .i64 d)] (.d (.int .i64 (kdN d))) [] := by
  refine pc_intro ttOk (by kernel_rfl) Try.func96 rfl (by kernel_rfl) (by kernel_rfl) (by kernel_rfl) (fun hw => ?_)
  (conv => whnf)
  (repeat' (first | (refine stg_ ?_) | fail | (refine br_ (fun hbr => ?_) (fun hbr => ?_))))
  all_goals ((refine RetOK.d rfl rfl ?_; conv => whnf); rw [kdN]; first | (rw [if_pos (by omega)]; done) | (rw [if_neg (by omega), if_pos (by omega)]; done) | (rw [if_neg (by omega), if_neg (by omega), if_pos (by omega)]; done) | (rw [if_neg (by omega), if_neg (by omega), if_neg (by omega)]; done))
def trI (b : Bool) : Int := if b = true then 1 else 0
theorem truth_v (b : Bool) : PC Try.prog 104 [.d (.bool b)] (.d (.int .i64 (trI b))) [] := by
  refine pc_intro ttOk (by kernel_rfl) Try.func104 rfl (by kernel_rfl) (by kernel_rfl) (by kernel_rfl) (fun hw => ?_)
  cases b <;> ((conv => whnf); (try (repeat' (first | (refine stg_ ?_) | fail | (refine br_ (fun hbr => ?_) (fun hbr => ?_))))); (refine RetOK.d rfl rfl ?_; conv => whnf); rfl)
theorem l20Truth_v (b : Bool) : PC Try.prog 95 [.d (.bool b)] (.d (.int .i64 (trI b))) [] := by
  refine pc_intro ttOk (by kernel_rfl) Try.func95 rfl (by kernel_rfl) (by kernel_rfl) (by kernel_rfl) (fun hw => ?_)
  cases b <;> ((conv => whnf); (try (repeat' (first | (refine stg_ ?_) | fail | (refine br_ (fun hbr => ?_) (fun hbr => ?_))))); (refine RetOK.d rfl rfl ?_; conv => whnf); rfl)
theorem l32Put_v (d : Int) : PC Try.prog 97 [.d (.int .i64 d), .d (.int .i64 (kdN d))] (.d (.str (mkS (pdL d)))) [] := by
  refine pc_intro ttOk (by kernel_rfl) Try.func97 rfl (by kernel_rfl) (by kernel_rfl) (by kernel_rfl) (fun hw => ?_)
  have hd : -9223372036854775808 ≤ d ∧ d ≤ 9223372036854775807 := hw.1
  have hk := kdN_le d
  have h2 : kdN d = 2 → -255 ≤ d ∧ d ≤ -1 := by unfold kdN; split <;> (try split) <;> (try split) <;> omega
  have hP : pdL d = if kdN d = 1 then wdL 1 d else if kdN d = 2 then wdL 1 (0 - d) else if kdN d = 3 then wdL 3 d else [] := rfl
  rw [hP]
  generalize kdN d = K at *
  have c1 := l01Word_v d 1 (by omega)
  have c2 := l01Word_v (0 - d) 1 (by omega)
  have c3 := l01Word_v d 3 (by omega)
  (conv => whnf)
  (repeat' (first | (refine stg_ ?_) | (refine cla_ (c1) ?_) | (refine cla_ (c3) ?_) | (refine cla_ (c2) ?_) | (refine br_ (fun hbr => ?_) (fun hbr => ?_))))
  all_goals first | (exfalso; omega) | ((refine RetOK.d rfl rfl ?_; conv => whnf); first | (rw [if_pos (by omega)]; done) | (rw [if_neg (by omega), if_pos (by omega)]; done) | (rw [if_neg (by omega), if_neg (by omega), if_pos (by omega)]; done) | (rw [if_neg (by omega), if_neg (by omega), if_neg (by omega)]; rfl))
set_option maxHeartbeats 4000000 in
theorem l32Flags_v (fl : List Int) (hb : ∀ x ∈ fl, 0 ≤ x ∧ x ≤ 31) (hl : fl.length ≤ 1000) : PC Try.prog 98 [.d (.lst (fl.map (D.int .i64)))] (.d (.str (mkS (rle fl.length fl)))) [] := by
  refine pc_intro ttOk (by kernel_rfl) Try.func98 rfl (by kernel_rfl) (by kernel_rfl) (by kernel_rfl) (fun hw => ?_)
  have hL : (fl.map (D.int .i64)).length = fl.length := List.length_map _
  (conv => whnf)
  refine LoopW.go (α := Nat × List UInt8) (fun p => [(0, .d (.lst (fl.map (D.int .i64)))), (3, .d (.str (mkS p.2))), (4, .d (.int .i64 (p.1 : Nat)))]) (fun _ => [.gone]) (fun p => p.1 ≤ fl.length ∧ rle fl.length fl = p.2 ++ rle fl.length (fl.drop p.1) ∧ p.2.length ≤ 2 * p.1) (fun p => fl.length - p.1) (0, []) (Weak.cov ⟨rfl, rfl, rfl, trivial⟩ ⟨trivial, trivial⟩ rfl) ⟨by simp only; omega, by rw [List.drop_zero, List.nil_append], by simp⟩ ?_
  rintro ⟨i, out⟩ ⟨k1, k2, k3⟩
  dsimp only at k1 k2 k3 ⊢
  (conv => whnf)
  (refine br_ (fun h1 => ?_) (fun h1 => ?_))
  · obtain ⟨x, hx⟩ := at_lt' (xs := fl) (k := i) (by omega)
    have hxb := hb x (List.mem_of_getElem? hx)
    have hR := rle_at hx
    have hrl := runN_le x (fl.drop (i + 1))
    rw [List.length_drop] at hrl
    rw [hR] at k2
    refine LoopW.go (α := Nat) (fun n => [(0, .d (.lst (fl.map (D.int .i64)))), (3, .d (.str (mkS out))), (4, .d (.int .i64 (i : Nat))), (5, .d (.int .i64 (n : Nat)))]) (fun _ => [.gone]) (fun n => 1 ≤ n ∧ i + n ≤ fl.length ∧ runN x (fl.drop (i + 1)) + 1 = n + runN x (fl.drop (i + n))) (fun n => fl.length - n) 1 covT_ ⟨by omega, by omega, by omega⟩ (fun n hn => ?_)
    obtain ⟨n1, n2, n3⟩ := hn
    have fin : runN x (fl.drop (i + n)) = 0 → runN x (fl.drop (i + 1)) + 1 = n := by omega
    (conv => whnf)
    (repeat (refine stg_ ?_))
    (refine br_ (fun h2 => ?_) (fun h2 => ?_))
    · obtain ⟨y, hy⟩ := at_lt' (xs := fl) (k := i + n) (by omega)
      have hy' : (fl.map (D.int .i64))[((i : Int) + (n : Int)).toNat]? = some (.int .i64 y) := by
        have : ((i : Int) + (n : Int)).toNat = i + n := by omega
        rw [this, List.getElem?_map, hy]; rfl
      have hRy := runN_at (x := x) hy
      (repeat (refine stg_ ?_))
      cases hyx : (y == x)
      · rw [beq_eq_false_iff_ne] at hyx
        rw [if_neg hyx] at hRy
        (conv => whnf)
        (repeat (refine stg_ ?_))
        have hN := fin hRy
        have hrn : runN x (fl.drop (i + 1)) = n - 1 := by omega
        cases hn1 : ((n : Int) == 1)
        · rw [beq_eq_false_iff_ne] at hn1
          rw [hrn, if_neg (by omega), show i + 1 + (n - 1) = i + n by omega, show ((n - 1 : Nat) : Int) = (n : Int) - 1 by omega, ← List.append_assoc] at k2
          have c1 := l01Word_v (x + 128) 1 (by omega)
          have c2 := l01Word_v ((n : Int) - 1) 1 (by omega)
          (conv => whnf)
          (repeat' (first | (refine stg_ ?_) | (refine cla_ (c1) ?_) | (refine cla_ (c2) ?_) | (refine CatW.at (by show _ ≤ 9223372036854775807; simp only [ByteArray.size_append, mkS_size, wdL_len]; omega) ?_; conv => whnf) | (refine br_ (fun hbr => ?_) (fun hbr => ?_))))
          refine NextW.go (i + n, out ++ (wdL 1 (x + 128) ++ wdL 1 ((n : Int) - 1))) (Weak.cov ⟨rfl, ?_, rfl, trivial⟩ ⟨trivial, trivial⟩ rfl) ⟨n2, k2, by simp only [List.length_append, wdL_len]; omega⟩ (by show fl.length - (i + n) < fl.length - i; omega)
          rw [← mkS_app, ← mkS_app]; rfl
        · rw [beq_iff_eq] at hn1
          obtain rfl : n = 1 := by omega
          rw [hrn, if_pos (by omega), show i + 1 + (1 - 1) = i + 1 by omega, ← List.append_assoc] at k2
          have c1 := l01Word_v x 1 (by omega)
          (conv => whnf)
          (repeat' (first | (refine stg_ ?_) | (refine cla_ (c1) ?_) | (refine CatW.at (by show _ ≤ 9223372036854775807; simp only [ByteArray.size_append, mkS_size, wdL_len]; omega) ?_; conv => whnf) | (refine br_ (fun hbr => ?_) (fun hbr => ?_))))
          refine NextW.go (i + 1, out ++ wdL 1 x) (Weak.cov ⟨rfl, ?_, rfl, trivial⟩ ⟨trivial, trivial⟩ rfl) ⟨n2, k2, by simp only [List.length_append, wdL_len]; omega⟩ (by show fl.length - (i + 1) < fl.length - i; omega)
          rw [← mkS_app]; rfl
      · rw [beq_iff_eq] at hyx
        rw [if_pos hyx] at hRy
        (conv => whnf)
        (repeat (refine stg_ ?_))
        exact NextW.go (n + 1) covT_ ⟨by omega, by omega, by rw [show i + (n + 1) = i + n + 1 by omega]; omega⟩ (by omega)
    · have hR0 := runN_end (x := x) (xs := fl) (k := i + n) (by omega)
      (repeat (refine stg_ ?_))
      have hN := fin hR0
      have hrn : runN x (fl.drop (i + 1)) = n - 1 := by omega
      cases hn1 : ((n : Int) == 1)
      · rw [beq_eq_false_iff_ne] at hn1
        rw [hrn, if_neg (by omega), show i + 1 + (n - 1) = i + n by omega, show ((n - 1 : Nat) : Int) = (n : Int) - 1 by omega, ← List.append_assoc] at k2
        have c1 := l01Word_v (x + 128) 1 (by omega)
        have c2 := l01Word_v ((n : Int) - 1) 1 (by omega)
        (conv => whnf)
        (repeat' (first | (refine stg_ ?_) | (refine cla_ (c1) ?_) | (refine cla_ (c2) ?_) | (refine CatW.at (by show _ ≤ 9223372036854775807; simp only [ByteArray.size_append, mkS_size, wdL_len]; omega) ?_; conv => whnf) | (refine br_ (fun hbr => ?_) (fun hbr => ?_))))
        refine NextW.go (i + n, out ++ (wdL 1 (x + 128) ++ wdL 1 ((n : Int) - 1))) (Weak.cov ⟨rfl, ?_, rfl, trivial⟩ ⟨trivial, trivial⟩ rfl) ⟨n2, k2, by simp only [List.length_append, wdL_len]; omega⟩ (by show fl.length - (i + n) < fl.length - i; omega)
        rw [← mkS_app, ← mkS_app]; rfl
      · rw [beq_iff_eq] at hn1
        obtain rfl : n = 1 := by omega
        rw [hrn, if_pos (by omega), show i + 1 + (1 - 1) = i + 1 by omega, ← List.append_assoc] at k2
        have c1 := l01Word_v x 1 (by omega)
        (conv => whnf)
        (repeat' (first | (refine stg_ ?_) | (refine cla_ (c1) ?_) | (refine CatW.at (by show _ ≤ 9223372036854775807; simp only [ByteArray.size_append, mkS_size, wdL_len]; omega) ?_; conv => whnf) | (refine br_ (fun hbr => ?_) (fun hbr => ?_))))
        refine NextW.go (i + 1, out ++ wdL 1 x) (Weak.cov ⟨rfl, ?_, rfl, trivial⟩ ⟨trivial, trivial⟩ rfl) ⟨n2, k2, by simp only [List.length_append, wdL_len]; omega⟩ (by show fl.length - (i + 1) < fl.length - i; omega)
        rw [← mkS_app]; rfl
  · obtain rfl : i = fl.length := by omega
    rw [rle_end (Nat.le_refl _), List.append_nil] at k2
    (repeat (refine stg_ ?_))
    (refine RetOK.d rfl rfl ?_; conv => whnf)
    rw [k2]
end Go.Proofs.Ytdjdkkacbkfmeaa
