/- Slots of a line: small numbers, widths, carets; plain law and both functions by the machine. -/
import Derived.Test.YtcnlmllhnmaogaaGen
import Derived.Test.YtcnlmllhnmaogaaAxV2
import Derived.Test.YtcnlmllhnmaogaaLV
set_option linter.unusedSimpArgs false
set_option linter.unusedVariables false
namespace Go.Proofs.Ytcnlmllhnmaogaa
open Go.RowKit
def snB (n : Int) : Bool := decide (-1073741824 ≤ n) && decide (n ≤ 1073741824)
def slB (x : TSlot) : Bool := snB x.fGlyph && (snB x.fX && (snB x.fY && (snB x.fAdvance && (snB x.fFrom && snB x.fLen))))
theorem isSmallNumber_v (n : Int) : PC Try.prog 112 [.d (.int .i64 n)] (.d (.bool (snB n))) [] := by
  refine pc_intro ttOk (by kernel_rfl) Try.func112 rfl (by kernel_rfl) (by kernel_rfl) (by kernel_rfl) (fun hw => ?_)
  (conv => whnf)
  (repeat' (first | (refine stg_ ?_) | (split <;> (conv => whnf))))
  (all_goals ((refine RetOK.d rfl rfl ?_; conv => whnf); (simp_all [snB]); (try omega)))
theorem l27Number_v (n : Int) : PC Try.prog 106 [.d (.int .i64 n)] (.d (.bool (snB n))) [] := by
  refine pc_intro ttOk (by kernel_rfl) Try.func106 rfl (by kernel_rfl) (by kernel_rfl) (by kernel_rfl) (fun hw => ?_)
  (conv => whnf)
  (repeat' (first | (refine stg_ ?_) | (refine cl_ (l00In_v n _ _) ?_) | (refine br_ (fun hbr => ?_) (fun hbr => ?_))))
  all_goals ((refine RetOK.d rfl rfl ?_; conv => whnf); first | rfl | simp_all [snB, inB])
set_option maxHeartbeats 1000000 in
theorem ixint64_v (xs : List Int) (f : Nat) (p : Int → Bool) (hf : ∀ x : Int, PC Try.prog f [.d (.int .i64 x)] (.d (.bool (p x))) []) :
    PC Try.prog 136 [.d (.lst (xs.map (D.int .i64))), .fn (.func f) []] (.d (.int .i64 (fdx p xs 0))) [] := by
  refine pc_intro ttOk (by kernel_rfl) Try.func136 rfl (by kernel_rfl) (by kernel_rfl) (by kernel_rfl) (fun hw => ?_)
  have hL : (xs.map (D.int .i64)).length = xs.length := List.length_map _
  have hm : (xs.map (D.int .i64)).length ≤ 9223372036854775807 := hw.1.1
  (conv => whnf)
  refine LoopW.go (α := Nat) (fun k => [(0, .d (.lst (xs.map (D.int .i64)))), (1, .fn (.func f) []), (7, .d (.int .i64 (xs.map (D.int .i64)).length)), (8, .d (.int .i64 k))]) (fun k => [.gone]) (fun k => k ≤ xs.length ∧ fdx p xs 0 = fdx p (xs.drop k) k) (fun k => xs.length - k) 0 covT_ ?_ (fun k hk => ?_)
  · exact ⟨by omega, rfl⟩
  obtain ⟨hk1, hk2⟩ := hk
  (conv => whnf)
  (refine br_ (fun h2 => ?_) (fun h2 => ?_) <;> (repeat (refine stg_ ?_)))
  · obtain ⟨x, hx⟩ := at_lt' (xs := xs) (k := k) (by omega)
    rw [fdx_at hx] at hk2
    (repeat (refine stg_ ?_))
    (refine cla_ (hf x) ?_)
    (refine br_ (fun h3 => ?_) (fun h3 => ?_) <;> (repeat (refine stg_ ?_)))
    · (refine RetOK.d rfl rfl ?_; conv => whnf)
      rw [hk2, if_pos h3]
    · (repeat (refine stg_ ?_))
      exact NextW.go (k + 1) covT_ ⟨by omega, by rw [hk2, h3]; rfl⟩ (by omega)
  · (refine RetOK.d rfl rfl ?_; conv => whnf)
    rw [hk2, fdx_end (by omega)]
theorem ctint64_v (xs : List Int) (f : Nat) (p : Int → Bool) (hf : ∀ x : Int, PC Try.prog f [.d (.int .i64 x)] (.d (.bool (p x))) []) :
    PC Try.prog 110 [.d (.lst (xs.map (D.int .i64))), .fn (.func f) []] (.d (.bool (xs.any p))) [] := by
  refine pc_intro ttOk (by kernel_rfl) Try.func110 rfl (by kernel_rfl) (by kernel_rfl) (by kernel_rfl) (fun hw => ?_)
  (conv => whnf)
  (refine cla_ (ixint64_v xs f p hf) ?_)
  (refine RetOK.d rfl rfl ?_; conv => whnf)
  rw [← fdx_any p xs 0]

set_option maxHeartbeats 1000000 in
theorem ixSlot_v (xs : List TSlot) (f : Nat) (p : TSlot → Bool) (hf : ∀ x : TSlot, PC Try.prog f [.d x.D] (.d (.bool (p x))) []) :
    PC Try.prog 135 [.d (.lst (xs.map TSlot.D)), .fn (.func f) []] (.d (.int .i64 (fdx p xs 0))) [] := by
  refine pc_intro ttOk (by kernel_rfl) Try.func135 rfl (by kernel_rfl) (by kernel_rfl) (by kernel_rfl) (fun hw => ?_)
  have hL : (xs.map TSlot.D).length = xs.length := List.length_map _
  have hm : (xs.map TSlot.D).length ≤ 9223372036854775807 := hw.1.1
  (conv => whnf)
  refine LoopW.go (α := Nat) (fun k => [(0, .d (.lst (xs.map TSlot.D))), (1, .fn (.func f) []), (7, .d (.int .i64 (xs.map TSlot.D).length)), (8, .d (.int .i64 k))]) (fun k => [.gone]) (fun k => k ≤ xs.length ∧ fdx p xs 0 = fdx p (xs.drop k) k) (fun k => xs.length - k) 0 covT_ ?_ (fun k hk => ?_)
  · exact ⟨by omega, rfl⟩
  obtain ⟨hk1, hk2⟩ := hk
  (conv => whnf)
  (refine br_ (fun h2 => ?_) (fun h2 => ?_) <;> (repeat (refine stg_ ?_)))
  · obtain ⟨x, hx⟩ := at_lt' (xs := xs) (k := k) (by omega)
    rw [fdx_at hx] at hk2
    (repeat (refine stg_ ?_))
    (refine cla_ (hf x) ?_)
    (refine br_ (fun h3 => ?_) (fun h3 => ?_) <;> (repeat (refine stg_ ?_)))
    · (refine RetOK.d rfl rfl ?_; conv => whnf)
      rw [hk2, if_pos h3]
    · (repeat (refine stg_ ?_))
      exact NextW.go (k + 1) covT_ ⟨by omega, by rw [hk2, h3]; rfl⟩ (by omega)
  · (refine RetOK.d rfl rfl ?_; conv => whnf)
    rw [hk2, fdx_end (by omega)]
theorem ctSlot_v (xs : List TSlot) (f : Nat) (p : TSlot → Bool) (hf : ∀ x : TSlot, PC Try.prog f [.d x.D] (.d (.bool (p x))) []) :
    PC Try.prog 108 [.d (.lst (xs.map TSlot.D)), .fn (.func f) []] (.d (.bool (xs.any p))) [] := by
  refine pc_intro ttOk (by kernel_rfl) Try.func108 rfl (by kernel_rfl) (by kernel_rfl) (by kernel_rfl) (fun hw => ?_)
  (conv => whnf)
  (refine cla_ (ixSlot_v xs f p hf) ?_)
  (refine RetOK.d rfl rfl ?_; conv => whnf)
  rw [← fdx_any p xs 0]

theorem smSl11_v (n : Int) : PC Try.prog 111 [.d (.int .i64 n)] (.d (.bool (!snB n))) [] := by
  refine pc_intro ttOk (by kernel_rfl) Try.func111 rfl (by kernel_rfl) (by kernel_rfl) (by kernel_rfl) (fun hw => ?_)
  (conv => whnf)
  (repeat' (first | (refine stg_ ?_) | (refine cl_ (isSmallNumber_v n) ?_) | (refine br_ (fun hbr => ?_) (fun hbr => ?_))))
  all_goals ((refine RetOK.d rfl rfl ?_; conv => whnf); try rfl)
theorem fields_v (x : TSlot) : PC Try.prog 77 [.d x.D] (.own 1 0 6) [.arr 1 ([x.fGlyph, x.fX, x.fY, x.fAdvance, x.fFrom, x.fLen].map (D.int .i64)) true] := by
  refine pc_intro ttOk (by kernel_rfl) Try.func77 rfl (by kernel_rfl) (by kernel_rfl) (by kernel_rfl) (fun hw => ?_)
  (conv => whnf)
  (refine ⟨⟨[some 2], ⟨by decide, rfl, trivial, trivial⟩, by decide, rfl, ?_⟩⟩; (conv => whnf); exact ⟨by decide, rfl⟩)
theorem smSl1_v (x : TSlot) : PC Try.prog 109 [.d x.D] (.d (.bool (!slB x))) [] := by
  refine pc_intro ttOk (by kernel_rfl) Try.func109 rfl (by kernel_rfl) (by kernel_rfl) (by kernel_rfl) (fun hw => ?_)
  (conv => whnf)
  (repeat' (first | (refine stg_ ?_) | (refine cl_ (fields_v x) ?_) | (refine cla_ (ctint64_v [x.fGlyph, x.fX, x.fY, x.fAdvance, x.fFrom, x.fLen] _ (fun n => !snB n) smSl11_v) ?_) | (refine br_ (fun hbr => ?_) (fun hbr => ?_))))
  (refine RetOK.d rfl rfl ?_; conv => whnf)
  simp [slB]
theorem smallSlots_v (xs : List TSlot) : PC Try.prog 72 [.d (.lst (xs.map TSlot.D))] (.d (.bool (xs.all slB))) [] := by
  refine pc_intro ttOk (by kernel_rfl) Try.func72 rfl (by kernel_rfl) (by kernel_rfl) (by kernel_rfl) (fun hw => ?_)
  (conv => whnf)
  (repeat' (first | (refine stg_ ?_) | (refine cla_ (ctSlot_v xs _ (fun x => !slB x) smSl1_v) ?_) | (refine br_ (fun hbr => ?_) (fun hbr => ?_))))
  (refine RetOK.d rfl rfl ?_; conv => whnf)
  simp [List.all_eq_not_any_not]
set_option maxHeartbeats 1000000 in
theorem l27Ok_v (xs : List TSlot) : PC Try.prog 67 [.d (.lst (xs.map TSlot.D))] (.d (.bool (xs.all slB))) [] := by
  refine pc_intro ttOk (by kernel_rfl) Try.func67 rfl (by kernel_rfl) (by kernel_rfl) (by kernel_rfl) (fun hw => ?_)
  have hL : (xs.map TSlot.D).length = xs.length := List.length_map _
  have hm : (xs.map TSlot.D).length ≤ 9223372036854775807 := hw.1.1
  (conv => whnf)
  refine LoopW.go (α := Nat) (fun k => [(0, .d (.lst (xs.map TSlot.D))), (3, .d (.int .i64 k))]) (fun k => [.gone]) (fun k => k ≤ xs.length ∧ xs.all slB = (xs.drop k).all slB) (fun k => xs.length - k) 0 covT_ ?_ (fun k hk => ?_)
  · exact ⟨by omega, rfl⟩
  obtain ⟨hk1, hk2⟩ := hk
  (conv => whnf)
  (refine br_ (fun h2 => ?_) (fun h2 => ?_) <;> (repeat (refine stg_ ?_)))
  · obtain ⟨x, hx⟩ := at_lt' (xs := xs) (k := k) (by omega)
    rw [drop_at hx, List.all_cons] at hk2
    (repeat' (first | (refine stg_ ?_) | (refine cl_ (l27Number_v _) ?_) | (refine br_ (fun hbr => ?_) (fun hbr => ?_))))
    all_goals first | ((refine RetOK.d rfl rfl ?_; conv => whnf); rw [hk2]; simp_all [slB]; done) | (exfalso; simp_all; done) | skip
    all_goals exact NextW.go (k + 1) covT_ ⟨by omega, by rw [hk2]; simp_all [slB]⟩ (by omega)
  · (refine RetOK.d rfl rfl ?_; conv => whnf)
    rw [hk2, List.drop_eq_nil_of_le (by omega)]; rfl
theorem sl_facts {x : TSlot} (h : slB x = true) : (-1073741824 ≤ x.fX ∧ x.fX ≤ 1073741824) ∧ (-1073741824 ≤ x.fAdvance ∧ x.fAdvance ≤ 1073741824) ∧ (-1073741824 ≤ x.fFrom ∧ x.fFrom ≤ 1073741824) ∧ (-1073741824 ≤ x.fLen ∧ x.fLen ≤ 1073741824) := by
  simp only [slB, snB, Bool.and_eq_true, decide_eq_true_eq] at h
  omega
theorem all_at {α : Type} {p : α → Bool} {xs : List α} {k : Nat} {x : α} (h : xs.all p = true) (hx : xs[k]? = some x) : p x = true := List.all_eq_true.1 h x (List.mem_of_getElem? hx)
def wdN : Int → List TSlot → Int
  | w, [] => w
  | w, x :: t => wdN (max w (x.fX + x.fAdvance)) t
def wdK (xs : List TSlot) (k : Nat) : Int := wdN 0 (xs.take k)
theorem wdN_app : ∀ (a b : List TSlot) (w : Int), wdN w (a ++ b) = wdN (wdN w a) b
  | [], b, w => rfl
  | x :: a, b, w => by rw [List.cons_append, wdN, wdN_app a b, wdN]
theorem wdK_at {xs : List TSlot} {k : Nat} {x : TSlot} (hx : xs[k]? = some x) : wdK xs (k + 1) = max (wdK xs k) (x.fX + x.fAdvance) := by
  rw [wdK, take_snoc_get hx, wdN_app]; rfl
def lwI (xs : List TSlot) : Int := if xs.all slB = true then wdN 0 xs else 0
theorem LineWidth_v (xs : List TSlot) : PC Try.prog 74 [.d (.lst (xs.map TSlot.D))] (.d (.int .i64 (lwI xs))) [] := by
  refine pc_intro ttOk (by kernel_rfl) Try.func74 rfl (by kernel_rfl) (by kernel_rfl) (by kernel_rfl) (fun hw => ?_)
  have hL : (xs.map TSlot.D).length = xs.length := List.length_map _
  have hm : (xs.map TSlot.D).length ≤ 9223372036854775807 := hw.1.1
  cases hA : xs.all slB
  · (conv => whnf)
    (repeat' (first | (refine stg_ ?_) | (refine cla_ (smallSlots_v xs) ?_) | (refine br_ (fun hbr => ?_) (fun hbr => ?_))))
    all_goals first | (exfalso; simp_all; done) | ((refine RetOK.d rfl rfl ?_; conv => whnf); rw [lwI, hA]; rfl)
  · (conv => whnf)
    (repeat' (first | (refine stg_ ?_) | (refine cla_ (smallSlots_v xs) ?_) | (refine br_ (fun hbr => ?_) (fun hbr => ?_))))
    all_goals first | (exfalso; simp_all; done) | skip
    refine LoopW.go (α := Nat) (fun k => [(3, .d (.int .i64 (wdK xs k))), (9, .d (.lst (xs.map TSlot.D))), (10, .d (.int .i64 (xs.map TSlot.D).length)), (11, .d (.int .i64 k))]) (fun k => [.gone]) (fun k => k ≤ xs.length) (fun k => xs.length - k) 0 covT_ ?_ (fun k hk => ?_)
    · omega
    (conv => whnf)
    (refine br_ (fun h2 => ?_) (fun h2 => ?_) <;> (repeat (refine stg_ ?_)))
    · obtain ⟨x, hx⟩ := at_lt' (xs := xs) (k := k) (by omega)
      obtain ⟨q1, q2, q3, q4⟩ := sl_facts (all_at hA hx)
      (repeat' (first | (refine stg_ ?_) | fail | (refine br_ (fun hbr => ?_) (fun hbr => ?_))))
      exact NextW.go (k + 1) (Weak.cov ⟨by rw [wdK_at hx]; rfl, rfl, rfl, rfl, trivial⟩ ⟨trivial, trivial⟩ rfl) (by omega) (by omega)
    · (refine RetOK.d rfl rfl ?_; conv => whnf)
      rw [lwI, hA, wdK, List.take_of_length_le (by omega)]; rfl
theorem l27Width_v (xs : List TSlot) (hA : xs.all slB = true) : PC Try.prog 70 [.d (.lst (xs.map TSlot.D))] (.d (.int .i64 (lwI xs))) [] := by
  refine pc_intro ttOk (by kernel_rfl) Try.func70 rfl (by kernel_rfl) (by kernel_rfl) (by kernel_rfl) (fun hw => ?_)
  have hL : (xs.map TSlot.D).length = xs.length := List.length_map _
  have hm : (xs.map TSlot.D).length ≤ 9223372036854775807 := hw.1.1
  (conv => whnf)
  refine LoopW.go (α := Nat) (fun k => [(0, .d (.lst (xs.map TSlot.D))), (3, .d (.int .i64 (wdK xs k))), (4, .d (.int .i64 k))]) (fun k => [.gone]) (fun k => k ≤ xs.length) (fun k => xs.length - k) 0 covT_ ?_ (fun k hk => ?_)
  · omega
  (conv => whnf)
  (refine br_ (fun h2 => ?_) (fun h2 => ?_) <;> (repeat (refine stg_ ?_)))
  · obtain ⟨x, hx⟩ := at_lt' (xs := xs) (k := k) (by omega)
    obtain ⟨q1, q2, q3, q4⟩ := sl_facts (all_at hA hx)
    (repeat' (first | (refine stg_ ?_) | (refine cl_ (l00Max_v _ _) ?_) | (refine br_ (fun hbr => ?_) (fun hbr => ?_))))
    exact NextW.go (k + 1) (Weak.cov ⟨rfl, by rw [wdK_at hx]; rfl, rfl, trivial⟩ ⟨trivial, trivial⟩ rfl) (by omega) (by omega)
  · (refine RetOK.d rfl rfl ?_; conv => whnf)
    rw [lwI, if_pos hA, wdK, List.take_of_length_le (by omega)]
theorem l02Div_v (n d : Int) (h0 : 0 < d) : PC Try.prog 69 [.d (.int .i64 n), .d (.int .i64 d)] (.d (.int .i64 (n / d))) [] := by
  refine pc_intro ttOk (by kernel_rfl) Try.func69 rfl (by kernel_rfl) (by kernel_rfl) (by kernel_rfl) (fun hw => ?_)
  have hn1 : -9223372036854775808 ≤ n ∧ n ≤ 9223372036854775807 := hw.1
  have hd1 : -9223372036854775808 ≤ d ∧ d ≤ 9223372036854775807 := hw.2.1
  obtain ⟨n1, n2⟩ := hn1
  obtain ⟨d1, d2⟩ := hd1
  obtain ⟨f1, f2, f3, f4, f5⟩ := div_facts h0 n1 n2
  have ht := tdiv_facts (n := n) h0
  have hq : -9223372036854775808 ≤ n.tdiv d ∧ n.tdiv d ≤ 9223372036854775807 := by
    by_cases hm : n.tmod d < 0
    · have := ht.1 hm; have := f5 this.2.2.2; omega
    · have := ht.2 (by omega); omega
  by_cases hm : n.tmod d < 0
  · obtain ⟨t1, t2, t3, t4⟩ := ht.1 hm
    have f5 := f5 t4
    clear ht
    (conv => whnf)
    (repeat' (first | (refine stg_ ?_) | fail | (refine br_ (fun hbr => ?_) (fun hbr => ?_))))
    all_goals first | (exfalso; omega) | ((refine RetOK.d rfl rfl ?_; conv => whnf); congr 1; omega)
  · obtain ⟨t1, t2⟩ := ht.2 (by omega)
    clear ht f5
    (conv => whnf)
    (repeat' (first | (refine stg_ ?_) | fail | (refine br_ (fun hbr => ?_) (fun hbr => ?_))))
    all_goals first | (exfalso; omega) | ((refine RetOK.d rfl rfl ?_; conv => whnf); congr 1; omega)
/-! carets -/
def crI (n : Int) : List TSlot → Option Int
  | [] => none
  | x :: t => if x.fFrom ≤ n ∧ n < x.fFrom + x.fLen then some (x.fX + (n - x.fFrom) * x.fAdvance / x.fLen) else crI n t
theorem crI_at {n : Int} {xs : List TSlot} {k : Nat} {x : TSlot} (hx : xs[k]? = some x) : crI n (xs.drop k) = if x.fFrom ≤ n ∧ n < x.fFrom + x.fLen then some (x.fX + (n - x.fFrom) * x.fAdvance / x.fLen) else crI n (xs.drop (k + 1)) := by
  rw [drop_at hx, crI]
def caretI (xs : List TSlot) (n : Int) : Int := if xs.all slB = true then (crI n xs).getD (lwI xs) else 0
/-- a product of small numbers, and its quotient -/
theorem prod_bnd {p a : Int} (h1 : 0 ≤ p) (h2 : p ≤ 1073741824) (h3 : -1073741824 ≤ a) (h4 : a ≤ 1073741824) : -1152921504606846976 ≤ p * a ∧ p * a ≤ 1152921504606846976 := by
  have e1 : p * a ≤ p * 1073741824 := Int.mul_le_mul_of_nonneg_left h4 h1
  have e2 : p * -1073741824 ≤ p * a := Int.mul_le_mul_of_nonneg_left h3 h1
  omega
theorem quo_bnd {m d : Int} (hd : 0 < d) (h1 : -1152921504606846976 ≤ m) (h2 : m ≤ 1152921504606846976) : -1152921504606846976 ≤ m / d ∧ m / d ≤ 1152921504606846976 := by
  constructor
  · rw [Int.le_ediv_iff_mul_le hd]
    have : -1152921504606846976 * d ≤ -1152921504606846976 * 1 := Int.mul_le_mul_of_nonpos_left (by omega) (by omega)
    omega
  · have : m / d < 1152921504606846977 := (Int.ediv_lt_iff_lt_mul hd).2 (by
      have : 1152921504606846977 * 1 ≤ 1152921504606846977 * d := Int.mul_le_mul_of_nonneg_left (by omega) (by omega)
      omega)
    omega
theorem CaretOf_v (xs : List TSlot) (n : Int) : PC Try.prog 31 [.d (.lst (xs.map TSlot.D)), .d (.int .i64 n)] (.d (.int .i64 (caretI xs n))) [] := by
  refine pc_intro ttOk (by kernel_rfl) Try.func31 rfl (by kernel_rfl) (by kernel_rfl) (by kernel_rfl) (fun hw => ?_)
  have hn : -9223372036854775808 ≤ n ∧ n ≤ 9223372036854775807 := hw.2.1
  have hL : (xs.map TSlot.D).length = xs.length := List.length_map _
  have hm : (xs.map TSlot.D).length ≤ 9223372036854775807 := hw.1.1
  cases hA : xs.all slB
  · (conv => whnf)
    (repeat' (first | (refine stg_ ?_) | (refine cla_ (smallSlots_v xs) ?_) | (refine br_ (fun hbr => ?_) (fun hbr => ?_))))
    all_goals first | (exfalso; simp_all; done) | ((refine RetOK.d rfl rfl ?_; conv => whnf); rw [caretI, hA]; rfl)
  · have hC : caretI xs n = (crI n xs).getD (lwI xs) := by rw [caretI, if_pos hA]
    (conv => whnf)
    (repeat' (first | (refine stg_ ?_) | (refine cla_ (smallSlots_v xs) ?_) | (refine br_ (fun hbr => ?_) (fun hbr => ?_))))
    all_goals first | (exfalso; simp_all; done) | skip
    refine LoopW.go (α := Nat) (fun k => [(0, .d (.lst (xs.map TSlot.D))), (1, .d (.int .i64 n)), (10, .d (.lst (xs.map TSlot.D))), (11, .d (.int .i64 (xs.map TSlot.D).length)), (12, .d (.int .i64 k))]) (fun k => [.gone]) (fun k => k ≤ xs.length ∧ crI n xs = crI n (xs.drop k)) (fun k => xs.length - k) 0 covT_ ?_ (fun k hk => ?_)
    · exact ⟨by omega, rfl⟩
    obtain ⟨hk1, hk2⟩ := hk
    (conv => whnf)
    (refine br_ (fun h2 => ?_) (fun h2 => ?_) <;> (repeat (refine stg_ ?_)))
    · obtain ⟨x, hx⟩ := at_lt' (xs := xs) (k := k) (by omega)
      obtain ⟨q1, q2, q3, q4⟩ := sl_facts (all_at hA hx)
      rw [crI_at hx] at hk2
      by_cases hin : x.fFrom ≤ n ∧ n < x.fFrom + x.fLen
      · obtain ⟨i1, i2⟩ := hin
        rw [if_pos ⟨i1, i2⟩] at hk2
        have b1 := prod_bnd (p := n - x.fFrom) (a := x.fAdvance) (by omega) (by omega) q2.1 q2.2
        have b2 := quo_bnd (d := x.fLen) (by omega) b1.1 b1.2
        (repeat' (first | (refine stg_ ?_) | (refine cl_ (floorDiv_v _ x.fLen (by omega)) ?_) | (refine br_ (fun hbr => ?_) (fun hbr => ?_))))
        all_goals first | (exfalso; omega) | ((refine RetOK.d rfl rfl ?_; conv => whnf); rw [hC, hk2]; rfl)
      · rw [if_neg hin] at hk2
        (repeat' (first | (refine stg_ ?_) | fail | (refine br_ (fun hbr => ?_) (fun hbr => ?_))))
        all_goals first | (exfalso; omega) | exact NextW.go (k + 1) covT_ ⟨by omega, hk2⟩ (by omega)
    · rw [List.drop_eq_nil_of_le (by omega)] at hk2
      (repeat' (first | (refine stg_ ?_) | (refine cla_ (LineWidth_v xs) ?_) | (refine br_ (fun hbr => ?_) (fun hbr => ?_))))
      (refine RetOK.d rfl rfl ?_; conv => whnf)
      rw [hC, hk2]; rfl
theorem tq_bnd {a d : Int} (h1 : -1073741824 ≤ a) (h2 : a ≤ 1073741824) : (-1073741824 ≤ a.tdiv d ∧ a.tdiv d ≤ 1073741824) ∧ (-1073741824 ≤ a.tmod d ∧ a.tmod d ≤ 1073741824) := by
  have e1 := Int.natAbs_tdiv a d
  have e2 := Int.natAbs_tmod a d
  have e3 := Nat.div_le_self a.natAbs d.natAbs
  have e4 := Nat.mod_le a.natAbs d.natAbs
  rw [← e2] at e4
  have e1' : (a.tdiv d).natAbs = a.natAbs / d.natAbs := e1
  rw [← e1'] at e3
  omega
theorem caret_eq {p a d : Int} (hd : 0 < d) : p * a.tdiv d + p * a.tmod d / d = p * a / d := by
  have e := Int.tmod_add_mul_tdiv a d
  have : p * a = p * a.tmod d + p * a.tdiv d * d := by
    conv => lhs; rw [← e]
    rw [Int.mul_add, Int.mul_comm d, ← Int.mul_assoc]
  rw [this, Int.add_mul_ediv_right _ _ (by omega)]
  omega
set_option maxHeartbeats 1000000 in
theorem specCaretOf_v (xs : List TSlot) (n : Int) : PC Try.prog 29 [.d (.lst (xs.map TSlot.D)), .d (.int .i64 n)] (.d (.int .i64 (caretI xs n))) [] := by
  refine pc_intro ttOk (by kernel_rfl) Try.func29 rfl (by kernel_rfl) (by kernel_rfl) (by kernel_rfl) (fun hw => ?_)
  have hn : -9223372036854775808 ≤ n ∧ n ≤ 9223372036854775807 := hw.2.1
  have hL : (xs.map TSlot.D).length = xs.length := List.length_map _
  have hm : (xs.map TSlot.D).length ≤ 9223372036854775807 := hw.1.1
  cases hA : xs.all slB
  · (conv => whnf)
    (repeat' (first | (refine stg_ ?_) | (refine cla_ (l27Ok_v xs) ?_) | (refine br_ (fun hbr => ?_) (fun hbr => ?_))))
    all_goals first | (exfalso; simp_all; done) | ((refine RetOK.d rfl rfl ?_; conv => whnf); rw [caretI, hA]; rfl)
  · have hC : caretI xs n = (crI n xs).getD (lwI xs) := by rw [caretI, if_pos hA]
    (conv => whnf)
    (repeat' (first | (refine stg_ ?_) | (refine cla_ (l27Ok_v xs) ?_) | (refine br_ (fun hbr => ?_) (fun hbr => ?_))))
    all_goals first | (exfalso; simp_all; done) | skip
    refine LoopW.go (α := Nat) (fun k => [(0, .d (.lst (xs.map TSlot.D))), (1, .d (.int .i64 n)), (5, .d (.int .i64 k))]) (fun k => [.gone]) (fun k => k ≤ xs.length ∧ crI n xs = crI n (xs.drop k)) (fun k => xs.length - k) 0 covT_ ?_ (fun k hk => ?_)
    · exact ⟨by omega, rfl⟩
    obtain ⟨hk1, hk2⟩ := hk
    (conv => whnf)
    (refine br_ (fun h2 => ?_) (fun h2 => ?_) <;> (repeat (refine stg_ ?_)))
    · obtain ⟨x, hx⟩ := at_lt' (xs := xs) (k := k) (by omega)
      obtain ⟨q1, q2, q3, q4⟩ := sl_facts (all_at hA hx)
      rw [crI_at hx] at hk2
      by_cases hin : x.fFrom ≤ n ∧ n < x.fFrom + x.fLen
      · obtain ⟨i1, i2⟩ := hin
        rw [if_pos ⟨i1, i2⟩] at hk2
        have c1 := l00In_v n x.fFrom (x.fFrom + x.fLen - 1)
        rw [show inB n x.fFrom (x.fFrom + x.fLen - 1) = true by simp [inB]; omega] at c1
        obtain ⟨t1, t2⟩ := tq_bnd (d := x.fLen) q2.1 q2.2
        have b1 := prod_bnd (p := n - x.fFrom) (a := x.fAdvance.tdiv x.fLen) (by omega) (by omega) t1.1 t1.2
        have b2 := prod_bnd (p := n - x.fFrom) (a := x.fAdvance.tmod x.fLen) (by omega) (by omega) t2.1 t2.2
        have b3 := quo_bnd (d := x.fLen) (by omega) b2.1 b2.2
        have b4 := prod_bnd (p := n - x.fFrom) (a := x.fAdvance) (by omega) (by omega) q2.1 q2.2
        have b5 := quo_bnd (d := x.fLen) (by omega) b4.1 b4.2
        have ce := caret_eq (p := n - x.fFrom) (a := x.fAdvance) (d := x.fLen) (by omega)
        (repeat' (first | (refine stg_ ?_) | (refine cl_ (c1) ?_) | (refine cl_ (l02Div_v _ x.fLen (by omega)) ?_) | (refine br_ (fun hbr => ?_) (fun hbr => ?_))))
        (refine RetOK.d rfl rfl ?_; conv => whnf)
        rw [hC, hk2]
        show D.int .i64 (x.fX + (n - x.fFrom) * x.fAdvance / x.fLen) = _
        congr 1
        omega
      · rw [if_neg hin] at hk2
        have c1 := l00In_v n x.fFrom (x.fFrom + x.fLen - 1)
        rw [show inB n x.fFrom (x.fFrom + x.fLen - 1) = false by simp [inB]; omega] at c1
        (repeat' (first | (refine stg_ ?_) | (refine cl_ (c1) ?_) | (refine br_ (fun hbr => ?_) (fun hbr => ?_))))
        all_goals first | (exfalso; omega) | exact NextW.go (k + 1) covT_ ⟨by omega, hk2⟩ (by omega)
    · rw [List.drop_eq_nil_of_le (by omega)] at hk2
      (repeat' (first | (refine stg_ ?_) | (refine cla_ (l27Width_v xs hA) ?_) | (refine br_ (fun hbr => ?_) (fun hbr => ?_))))
      (refine RetOK.d rfl rfl ?_; conv => whnf)
      rw [hC, hk2]; rfl
end Go.Proofs.Ytcnlmllhnmaogaa
