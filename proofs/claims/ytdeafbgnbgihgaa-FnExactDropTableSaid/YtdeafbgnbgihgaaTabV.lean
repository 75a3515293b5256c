/- Tables: tags, sizes, validity; plain law and both functions by the machine. -/
import Derived.Test.YtdeafbgnbgihgaaGen
import Derived.Test.YtdeafbgnbgihgaaAxV1
import Derived.Test.YtdeafbgnbgihgaaDt
set_option linter.unusedSimpArgs false
set_option linter.unusedVariables false
namespace Go.Proofs.Ytdeafbgnbgihgaa
open Go.RowKit
def letB (c : UInt8) : Bool := smB c || (decide ((65 : Int) ≤ c.toNat) && decide ((c.toNat : Int) ≤ 90))
def tcB (c : UInt8) : Bool := letB c || dgB c || decide ((c.toNat : Int) = 32)
def tgL : List UInt8 → Bool
  | [] => true
  | c :: t => letB c && t.all tcB
def tagB (s : ByteArray) : Bool := decide (s.size = 4) && tgL s.data.toList
theorem isLetter_v (c : UInt8) : PC Try.prog 47 [.d (.int .u8 c.toNat)] (.d (.bool (letB c))) [] := by
  refine pc_intro ttOk (by kernel_rfl) Try.func47 rfl (by kernel_rfl) (by kernel_rfl) (by kernel_rfl) (fun hw => ?_)
  (conv => whnf)
  (repeat' (first | (refine stg_ ?_) | (refine cl_ (isSmall_v _) ?_) | (refine br_ (fun hbr => ?_) (fun hbr => ?_))))
  all_goals ((refine RetOK.d rfl rfl ?_; conv => whnf); simp_all [letB]; try omega)
theorem tgL_one {s : ByteArray} (h : 0 < s.size) : tgL s.data.toList = (letB (s[0]'h) && (s.data.toList.drop 1).all tcB) := by
  conv => lhs; rw [← List.drop_zero (l := s.data.toList), dropN h]
  rfl
theorem letB_tc {c : UInt8} (h : letB c = true) : tcB c = true := by simp [tcB, h]
set_option maxHeartbeats 1000000 in
theorem ValidTag_v (s : ByteArray) : PC Try.prog 28 [.d (.str s)] (.d (.bool (tagB s))) [] := by
  refine pc_intro ttOk (by kernel_rfl) Try.func28 rfl (by kernel_rfl) (by kernel_rfl) (by kernel_rfl) (fun hw => ?_)
  by_cases h0 : s.size = 4
  · have HN := tgL_one (s := s) (by omega)
    have hc := bget? (s := s) (k := 0) (by omega)
    have hT : tagB s = tgL s.data.toList := by rw [tagB, decide_eq_true h0, Bool.true_and]
    (conv => whnf)
    (repeat' (first | (refine stg_ ?_) | (refine cl_ (isLetter_v _) ?_) | (refine br_ (fun hbr => ?_) (fun hbr => ?_))))
    · (refine RetOK.d rfl rfl ?_; conv => whnf)
      simp_all
    · (refine RetOK.d rfl rfl ?_; conv => whnf)
      simp_all
    · refine LoopW.go (α := Nat) (fun k => [(0, .d (.str s)), (3, .d (.int .i64 k))]) (fun _ => [.gone]) (fun k => 1 ≤ k ∧ k ≤ 4 ∧ tgL s.data.toList = (s.data.toList.drop k).all tcB) (fun k => 4 - k) 1 covT_ ⟨by omega, by omega, by simp_all⟩ (fun k hk => ?_)
      obtain ⟨hk1, hk2, hk3⟩ := hk
      clear hc
      (conv => whnf)
      (refine br_ (fun h4 => ?_) (fun h4 => ?_) <;> (repeat (refine stg_ ?_)))
      · have hc := bget? (s := s) (k := k) (by omega)
        rw [dropN (k := k) (by omega), List.all_cons] at hk3
        (repeat' (first | (refine stg_ ?_) | (refine cl_ (isLetter_v _) ?_) | (refine cl_ (isDigit_v _) ?_) | (refine br_ (fun hbr => ?_) (fun hbr => ?_))))
        all_goals first | (exfalso; omega) | ((refine RetOK.d rfl rfl ?_; conv => whnf); simp_all [tcB]; try omega) | skip
        all_goals exact NextW.go (k + 1) covT_ ⟨by omega, by omega, by simp_all [tcB]⟩ (by omega)
      · (refine RetOK.d rfl rfl ?_; conv => whnf)
        rw [hT, hk3, List.drop_eq_nil_of_le (by show s.size ≤ k; omega)]; rfl
  · have hT : tagB s = false := by rw [tagB, decide_eq_false h0, Bool.false_and]
    (conv => whnf)
    (repeat' (first | (refine stg_ ?_) | fail | (refine br_ (fun hbr => ?_) (fun hbr => ?_))))
    · (refine RetOK.d rfl rfl ?_; conv => whnf)
      rw [hT]
    all_goals (exfalso; omega)
def tgA : List UInt8 → Nat → Bool
  | [], _ => true
  | c :: t, 0 => letB c && tgA t 1
  | c :: t, k + 1 => tcB c && tgA t (k + 2)
theorem tgA_all : ∀ (t : List UInt8) (k : Nat), tgA t (k + 1) = t.all tcB
  | [], _ => rfl
  | c :: t, k => by rw [tgA, List.all_cons, tgA_all t (k + 1)]
theorem tgA_L (t : List UInt8) : tgA t 0 = tgL t := by
  cases t with
  | nil => rfl
  | cons c t => rw [tgA, tgL, tgA_all]
set_option maxHeartbeats 2000000 in
theorem l31Tag_v (s : ByteArray) : PC Try.prog 27 [.d (.str s)] (.d (.bool (tagB s))) [] := by
  refine pc_intro ttOk (by kernel_rfl) Try.func27 rfl (by kernel_rfl) (by kernel_rfl) (by kernel_rfl) (fun hw => ?_)
  have hs : s.size ≤ 9223372036854775807 := hw.1
  have hT : tagB s = (decide (s.size = 4) && tgA s.data.toList 0) := by rw [tgA_L]; rfl
  (conv => whnf)
  refine LoopW.go (α := Nat) (fun k => [(0, .d (.str s)), (3, .d (.int .i64 k))]) (fun _ => [.gone]) (fun k => k ≤ s.size ∧ tgA s.data.toList 0 = tgA (s.data.toList.drop k) k) (fun k => s.size - k) 0 covT_ ⟨by omega, rfl⟩ (fun k hk => ?_)
  obtain ⟨hk2, hk3⟩ := hk
  (conv => whnf)
  (refine br_ (fun h4 => ?_) (fun h4 => ?_) <;> (repeat (refine stg_ ?_)))
  · have hc := bget? (s := s) (k := k) (by omega)
    rw [dropN (k := k) (by omega)] at hk3
    cases hl : letB (s[k]'(by omega)) with
    | true =>
      have hk4 : tgA s.data.toList 0 = tgA (s.data.toList.drop (k + 1)) (k + 1) := by
        cases k with
        | zero => rw [hk3, tgA, hl]; rfl
        | succ k => rw [hk3, tgA, letB_tc hl]; rfl
      (repeat' (first | (refine stg_ ?_) | (refine cl_ (l01Digit_v _) ?_) | (refine br_ (fun hbr => ?_) (fun hbr => ?_))))
      all_goals first | exact NextW.go (k + 1) covT_ ⟨by omega, hk4⟩ (by omega) | (exfalso; simp_all [letB, smB]; done) | (exfalso; simp_all [letB, smB]; omega)
    | false =>
      cases k with
      | zero =>
        rw [tgA, hl, Bool.false_and] at hk3
        (repeat' (first | (refine stg_ ?_) | (refine cl_ (l01Digit_v _) ?_) | (refine br_ (fun hbr => ?_) (fun hbr => ?_))))
        all_goals first | ((refine RetOK.d rfl rfl ?_; conv => whnf); simp_all; done) | (exfalso; simp_all [letB, smB]; done) | (exfalso; simp_all [letB, smB]; omega)
      | succ k =>
        rw [tgA] at hk3
        (repeat' (first | (refine stg_ ?_) | (refine cl_ (l01Digit_v _) ?_) | (refine br_ (fun hbr => ?_) (fun hbr => ?_))))
        all_goals first | (exfalso; omega) | ((refine RetOK.d rfl rfl ?_; conv => whnf); simp_all [tcB]; done) | ((refine RetOK.d rfl rfl ?_; conv => whnf); simp_all [tcB]; omega) | (exfalso; simp_all [letB, smB]; done) | (exfalso; simp_all [letB, smB]; omega) | exact NextW.go (k + 1 + 1) covT_ ⟨by omega, by simp_all [tcB]⟩ (by omega)
  · (refine RetOK.d rfl rfl ?_; conv => whnf)
    rw [hT, hk3, List.drop_eq_nil_of_le (by show s.size ≤ k; omega), show tgA [] k = true by cases k <;> rfl, Bool.and_true]
    congr 1
    rw [Bool.eq_iff_iff]; simp; omega
end Go.Proofs.Ytdeafbgnbgihgaa
