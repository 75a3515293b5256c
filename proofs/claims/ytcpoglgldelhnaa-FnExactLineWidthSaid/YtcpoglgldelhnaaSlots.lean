/- Slots of a line: what the program's and the reference's functions return, for every list. -/
import Derived.Test.YtcpoglgldelhnaaSlicesFn
import Derived.Test.YtcpoglgldelhnaaNorm
import Derived.Test.YtcpoglgldelhnaaNum
namespace Go.Proofs.Ytcpoglgldelhnaa
open Go.RowKit

def numB (n : Int) : Bool := decide (-1073741824 ≤ n ∧ n ≤ 1073741824)
def slB (s : TSlot) : Bool := numB s.fGlyph && numB s.fX && numB s.fY && numB s.fAdvance && numB s.fFrom && numB s.fLen
theorem numB_bd {n : Int} (h : numB n = true) : -1073741824 ≤ n ∧ n ≤ 1073741824 := by simpa [numB] using h
theorem slB_bd {s : TSlot} (h : slB s = true) : (-1073741824 ≤ s.fX ∧ s.fX ≤ 1073741824) ∧ (-1073741824 ≤ s.fAdvance ∧ s.fAdvance ≤ 1073741824) := by
  simp only [slB, Bool.and_eq_true] at h
  exact ⟨numB_bd h.1.1.1.1.2, numB_bd h.1.1.2⟩
theorem slB_at {xs : List TSlot} {k : Nat} {s : TSlot} (h : xs.all slB = true) (hs : xs[k]? = some s) : (-1073741824 ≤ s.fX ∧ s.fX ≤ 1073741824) ∧ (-1073741824 ≤ s.fAdvance ∧ s.fAdvance ≤ 1073741824) :=
  slB_bd (List.all_eq_true.1 h s (List.mem_of_getElem? hs))

theorem l27Number_c (n : Int) (w : World) : Calls Try.prog 53 #[.int .i64 n] w fun e w' => e = .returned (.bool (numB n)) ∧ w = w' := by
  go_enter Try.func53, Try.ntmps53
  go_wp2_with (go_at_call 34; refine (l00In_c _ _ _ _).mono ?_; rintro e w' ⟨rfl, rfl⟩)
  go_ret
  exact ⟨rfl, rfl⟩
theorem isSmallNumber_c (n : Int) (w : World) : Calls Try.prog 59 #[.int .i64 n] w fun e w' => e = .returned (.bool (numB n)) ∧ w = w' := by
  go_enter Try.func59, Try.ntmps59
  go_wp2
  all_goals (go_ret; refine ⟨ret_bool ?_, rfl⟩; simp_all [numB]; try omega)
set_option maxHeartbeats 1000000 in
theorem l27Ok_c (xs : List TSlot) (v : Value) (w : World) (h : Sl SlotC w v xs) : Calls Try.prog 41 #[v] w fun e w' => e = .returned (.bool (xs.all slB)) ∧ Ext w w' := by
  obtain ⟨a, cap, rfl, hl, hcap, _, hat⟩ := h
  have hlen : xs.length ≤ 9223372036854775807 := Nat.le_trans hl hcap
  clear hl hcap
  go_enter Try.func41, Try.ntmps41
  go_wp2
  go_loopw [3] (fun i wr => ∃ k : Nat, k ≤ xs.length ∧ i = .int .i64 k ∧ Hid (xs.all slB = (xs.drop k).all slB) ∧ Ext w wr) (fun i _ => xs.length - (intOf i).toNat)
  case atStart => exact ⟨0, Nat.zero_le _, rfl, rfl, Ext.refl _⟩
  case round =>
    obtain ⟨k, hk, rfl, HG, hinv⟩ := hrel
    by_cases hlt : k < xs.length
    · (obtain ⟨x, hx_c⟩ := at_lt (k := k) hlt; obtain ⟨bc, oc, csc, e_c, hc_c, hr_c⟩ := hat k x hx_c; cases e_c; have hr0_c := hr_c; obtain ⟨rfl, ch0, ch1, ch2, ch3, ch4, ch5⟩ := hr0_c; have c0 := (hc_c.keep hinv) 0 _ rfl; have c1 := (hc_c.keep hinv) 1 _ rfl; have c2 := (hc_c.keep hinv) 2 _ rfl; have c3 := (hc_c.keep hinv) 3 _ rfl; have c4 := (hc_c.keep hinv) 4 _ rfl; have c5 := (hc_c.keep hinv) 5 _ rfl; simp only [SlotC_n, Nat.add_zero, Nat.mul_one] at c0 c1 c2 c3 c4 c5; have HXc := Lib.hid hx_c; have HDc := Lib.hid (drop_cons hx_c); have HRc := Lib.hid (SlotC.keep _ _ _ _ hinv hr_c); clear hr_c; clear hx_c hc_c)
      clear hat
      go_wp2_with (go_at_call 53; refine (l27Number_c _ _).mono ?_; rintro e w' ⟨rfl, rfl⟩)
      all_goals first
        | (go_roundw
           case rel => exact ⟨k + 1, by omega, by go_num, (by show xs.all slB = _; rw [HG.out, HDc.out, List.all_cons, show slB x = true from by simp_all [slB]]; rfl), by (repeat (first | with_reducible exact Ext.refl _ | with_reducible assumption | with_reducible refine Ext.alloc ?_ _ | with_reducible refine Ext.drew ?_ | with_reducible refine Ext.drewN ?_ _ | (with_reducible refine Ext.setCell ?_ (by first | omega | (dsimp only; omega)) _) | with_reducible refine Ext.trans ?_ (by assumption)))⟩
           case measure => simp [intOf]; omega)
        | (go_ret; exact ⟨ret_bool (by rw [HG.out, HDc.out, List.all_cons, show slB x = false from by simp_all [slB]]; rfl), by (repeat (first | with_reducible exact Ext.refl _ | with_reducible assumption | with_reducible refine Ext.alloc ?_ _ | with_reducible refine Ext.drew ?_ | with_reducible refine Ext.drewN ?_ _ | (with_reducible refine Ext.setCell ?_ (by first | omega | (dsimp only; omega)) _) | with_reducible refine Ext.trans ?_ (by assumption)))⟩)
    · clear hat
      go_wp2
      go_ret
      exact ⟨ret_bool (by rw [HG.out, drop_nil (Nat.le_of_not_lt hlt)]; rfl), by (repeat (first | with_reducible exact Ext.refl _ | with_reducible assumption | with_reducible refine Ext.alloc ?_ _ | with_reducible refine Ext.drew ?_ | with_reducible refine Ext.drewN ?_ _ | (with_reducible refine Ext.setCell ?_ (by first | omega | (dsimp only; omega)) _) | with_reducible refine Ext.trans ?_ (by assumption)))⟩
theorem fields_c (x : TSlot) (cs : List Value) (w : World) (h : SlotC.rep w cs x) : Calls Try.prog 57 #[.agg cs.toArray] w (RSl intC [x.fGlyph, x.fX, x.fY, x.fAdvance, x.fFrom, x.fLen] id w) := by
  obtain ⟨rfl, h0, h1, h2, h3, h4, h5⟩ := h
  go_enter Try.func57, Try.ntmps57
  go_wp2
  go_ret
  refine RSl.intro (Sl.ints (xs := [x.fGlyph, x.fX, x.fY, x.fAdvance, x.fFrom, x.fLen]) (alloc_at (by simp)) rfl ?_ (by show 6 ≤ maxLen; decide)) (by (repeat (first | with_reducible exact Ext.refl _ | with_reducible assumption | with_reducible refine Ext.alloc ?_ _ | with_reducible refine Ext.drew ?_ | with_reducible refine Ext.drewN ?_ _ | (with_reducible refine Ext.setCell ?_ (by first | omega | (dsimp only; omega)) _) | with_reducible refine Ext.trans ?_ (by assumption))))
  intro y hy
  simp only [List.mem_cons, List.not_mem_nil, or_false] at hy
  rcases hy with rfl | rfl | rfl | rfl | rfl | rfl <;> assumption
theorem small1_c (n : Int) (w : World) : Calls Try.prog 58 #[.int .i64 n] w fun e w' => e = .returned (.bool (!numB n)) ∧ Ext w w' := by
  go_enter Try.func58, Try.ntmps58
  go_wp2_with (go_at_call 59; refine (isSmallNumber_c _ _).mono ?_; rintro e w' ⟨rfl, rfl⟩)
  go_ret
  exact ⟨rfl, by (repeat (first | with_reducible exact Ext.refl _ | with_reducible assumption | with_reducible refine Ext.alloc ?_ _ | with_reducible refine Ext.drew ?_ | with_reducible refine Ext.drewN ?_ _ | (with_reducible refine Ext.setCell ?_ (by first | omega | (dsimp only; omega)) _) | with_reducible refine Ext.trans ?_ (by assumption)))⟩
theorem small0_c (x : TSlot) (cs : List Value) (w : World) (h : SlotC.rep w cs x) : Calls Try.prog 55 #[.agg cs.toArray] w fun e w' => e = .returned (.bool (!slB x)) ∧ Ext w w' := by
  have HR := h
  obtain ⟨rfl, _⟩ := h
  go_enter Try.func55, Try.ntmps55
  go_wp2_with fail
  refine (fields_c x _ _ (SlotC.keep _ _ _ _ (by (repeat (first | with_reducible exact Ext.refl _ | with_reducible assumption | with_reducible refine Ext.alloc ?_ _ | with_reducible refine Ext.drew ?_ | with_reducible refine Ext.drewN ?_ _ | (with_reducible refine Ext.setCell ?_ (by first | omega | (dsimp only; omega)) _) | with_reducible refine Ext.trans ?_ (by assumption)))) HR)).mono ?_
  rintro e w1 ⟨v1, rfl, hv1, hb1⟩; dsimp only [id]
  go_wp2_with fail
  refine (ContainsFunc_Int64_c 58 #[] (fun n => !numB n) _ _ _ hv1 (fun _ _ => by kernel_rfl) (fun n wr _ _ => small1_c n wr)).mono ?_; rintro e w2 ⟨rfl, hb2⟩; obtain ⟨hc2, hf2⟩ := hb2.keeps
  go_wp2_with fail
  go_ret
  refine ⟨ret_bool ?_, by (repeat (first | with_reducible exact Ext.refl _ | with_reducible assumption | with_reducible refine Ext.alloc ?_ _ | with_reducible refine Ext.drew ?_ | with_reducible refine Ext.drewN ?_ _ | (with_reducible refine Ext.setCell ?_ (by first | omega | (dsimp only; omega)) _) | with_reducible refine Ext.trans ?_ (by assumption)))⟩
  simp [slB, Bool.or_assoc]
theorem smallSlots_c (xs : List TSlot) (v : Value) (w : World) (h : Sl SlotC w v xs) : Calls Try.prog 43 #[v] w fun e w' => e = .returned (.bool (xs.all slB)) ∧ Ext w w' := by
  have HS := Lib.hid h
  clear h
  go_enter Try.func43, Try.ntmps43
  go_wp2_with fail
  refine (ContainsFunc_Slot_c 55 #[] (fun s => !slB s) xs _ _ HS.out (fun _ _ => by kernel_rfl) (fun x cs wr _ _ hr => small0_c x cs wr hr)).mono ?_; rintro e w2 ⟨rfl, hb2⟩; obtain ⟨hc2, hf2⟩ := hb2.keeps
  go_wp2_with fail
  go_ret
  refine ⟨ret_bool ?_, by (repeat (first | with_reducible exact Ext.refl _ | with_reducible assumption | with_reducible refine Ext.alloc ?_ _ | with_reducible refine Ext.drew ?_ | with_reducible refine Ext.drewN ?_ _ | (with_reducible refine Ext.setCell ?_ (by first | omega | (dsimp only; omega)) _) | with_reducible refine Ext.trans ?_ (by assumption)))⟩
  simp [List.all_eq_not_any_not]
/-- the widths of a line, from acc on -/
def lwGo : Int → List TSlot → Int
  | acc, [] => acc
  | acc, x :: t => lwGo (max acc (x.fX + x.fAdvance)) t
def lwV (xs : List TSlot) : Int := if xs.all slB = true then lwGo 0 xs else 0
set_option maxHeartbeats 1000000 in
theorem l27Width_c (xs : List TSlot) (v : Value) (w : World) (h : Sl SlotC w v xs) (hok : xs.all slB = true) : Calls Try.prog 48 #[v] w fun e w' => e = .returned (.int .i64 (lwGo 0 xs)) ∧ Ext w w' := by
  obtain ⟨a, cap, rfl, hl, hcap, _, hat⟩ := h
  have hlen : xs.length ≤ 9223372036854775807 := Nat.le_trans hl hcap
  have HOK := Lib.hid hok
  clear hl hcap hok
  go_enter Try.func48, Try.ntmps48
  go_wp2
  go_loopw [3, 4] (fun o i wr => ∃ (k : Nat) (acc : Int), k ≤ xs.length ∧ i = .int .i64 k ∧ o = .int .i64 acc ∧ Hid (lwGo 0 xs = lwGo acc (xs.drop k)) ∧ Ext w wr) (fun _ i _ => xs.length - (intOf i).toNat)
  case atStart => exact ⟨0, 0, Nat.zero_le _, rfl, rfl, rfl, Ext.refl _⟩
  case round =>
    obtain ⟨k, acc, hk, rfl, rfl, HG, hinv⟩ := hrel
    by_cases hlt : k < xs.length
    · (obtain ⟨x, hx_c⟩ := at_lt (k := k) hlt; obtain ⟨bc, oc, csc, e_c, hc_c, hr_c⟩ := hat k x hx_c; cases e_c; have hr0_c := hr_c; obtain ⟨rfl, ch0, ch1, ch2, ch3, ch4, ch5⟩ := hr0_c; have c0 := (hc_c.keep hinv) 0 _ rfl; have c1 := (hc_c.keep hinv) 1 _ rfl; have c2 := (hc_c.keep hinv) 2 _ rfl; have c3 := (hc_c.keep hinv) 3 _ rfl; have c4 := (hc_c.keep hinv) 4 _ rfl; have c5 := (hc_c.keep hinv) 5 _ rfl; simp only [SlotC_n, Nat.add_zero, Nat.mul_one] at c0 c1 c2 c3 c4 c5; have HXc := Lib.hid hx_c; have HDc := Lib.hid (drop_cons hx_c); have HRc := Lib.hid (SlotC.keep _ _ _ _ hinv hr_c); clear hr_c; clear hx_c hc_c)
      obtain ⟨⟨g1, g2⟩, g3, g4⟩ := slB_at HOK.out HXc.out
      have hE := Ext.rule wr
      have hlt' : (k : Int) < (xs.length : Int) := by omega
      have hw1 : IntKind.i64.wrap (x.fX + x.fAdvance) = x.fX + x.fAdvance := IntWalk.i64_in _ (by omega)
      clear hat
      go_wp2_with fail
      go_region_held3 (fun w' => Ext wr w') ((repeat (first | with_reducible exact Ext.refl _ | with_reducible assumption | with_reducible refine Ext.alloc ?_ _ | with_reducible refine Ext.drew ?_ | with_reducible refine Ext.drewN ?_ _ | (with_reducible refine Ext.setCell ?_ (by first | omega | (dsimp only; omega)) _) | with_reducible refine Ext.trans ?_ (by assumption)))) ((first | (go_at_call 60; refine (l00Max_c _ _ _).mono ?_; rintro e w' ⟨rfl, rfl⟩)))
      go_wp2_with fail
      go_roundw
      case rel => exact ⟨k + 1, _, by omega, by go_num, rfl, (by show lwGo 0 xs = _; rw [HG.out, HDc.out]; rfl), by (repeat (first | with_reducible exact Ext.refl _ | with_reducible assumption | with_reducible refine Ext.alloc ?_ _ | with_reducible refine Ext.drew ?_ | with_reducible refine Ext.drewN ?_ _ | (with_reducible refine Ext.setCell ?_ (by first | omega | (dsimp only; omega)) _) | with_reducible refine Ext.trans ?_ (by assumption)))⟩
      case measure => simp [intOf]; omega
    · clear hat
      go_wp2
      go_ret
      exact ⟨ret_int (by rw [HG.out, drop_nil (Nat.le_of_not_lt hlt)]; rfl), by (repeat (first | with_reducible exact Ext.refl _ | with_reducible assumption | with_reducible refine Ext.alloc ?_ _ | with_reducible refine Ext.drew ?_ | with_reducible refine Ext.drewN ?_ _ | (with_reducible refine Ext.setCell ?_ (by first | omega | (dsimp only; omega)) _) | with_reducible refine Ext.trans ?_ (by assumption)))⟩
theorem specLineWidth_c (xs : List TSlot) (v : Value) (w : World) (h : Sl SlotC w v xs) : Calls Try.prog 26 #[v] w fun e w' => e = .returned (.int .i64 (lwV xs)) ∧ Ext w w' := by
  cases hok : xs.all slB
  · have HV : Hid (lwV xs = 0) := by show lwV xs = 0; rw [lwV, hok]; rfl
    go_enter Try.func26, Try.ntmps26
    go_wp2_with fail
    refine (l27Ok_c xs _ _ h).mono ?_; rintro e w1 ⟨rfl, hb1⟩; obtain ⟨hc1, hf1⟩ := hb1.keeps
    rw [hok]
    go_wp2_with fail
    go_ret
    exact ⟨ret_int HV.out.symm, by (repeat (first | with_reducible exact Ext.refl _ | with_reducible assumption | with_reducible refine Ext.alloc ?_ _ | with_reducible refine Ext.drew ?_ | with_reducible refine Ext.drewN ?_ _ | (with_reducible refine Ext.setCell ?_ (by first | omega | (dsimp only; omega)) _) | with_reducible refine Ext.trans ?_ (by assumption)))⟩
  · have HV : Hid (lwV xs = lwGo 0 xs) := by show lwV xs = _; rw [lwV, hok]; rfl
    have HOK := Lib.hid hok
    clear hok
    go_enter Try.func26, Try.ntmps26
    go_wp2_with fail
    refine (l27Ok_c xs _ _ h).mono ?_; rintro e w1 ⟨rfl, hb1⟩; obtain ⟨hc1, hf1⟩ := hb1.keeps
    rw [HOK.out]
    go_wp2_with fail
    refine (l27Width_c xs _ _ (h.keep (by (repeat (first | with_reducible exact Ext.refl _ | with_reducible assumption | with_reducible refine Ext.alloc ?_ _ | with_reducible refine Ext.drew ?_ | with_reducible refine Ext.drewN ?_ _ | (with_reducible refine Ext.setCell ?_ (by first | omega | (dsimp only; omega)) _) | with_reducible refine Ext.trans ?_ (by assumption))))) HOK.out).mono ?_; rintro e w2 ⟨rfl, hb2⟩; obtain ⟨hc2, hf2⟩ := hb2.keeps
    go_wp2_with fail
    go_ret
    exact ⟨ret_int HV.out.symm, by (repeat (first | with_reducible exact Ext.refl _ | with_reducible assumption | with_reducible refine Ext.alloc ?_ _ | with_reducible refine Ext.drew ?_ | with_reducible refine Ext.drewN ?_ _ | (with_reducible refine Ext.setCell ?_ (by first | omega | (dsimp only; omega)) _) | with_reducible refine Ext.trans ?_ (by assumption)))⟩
set_option maxHeartbeats 1000000 in
theorem LineWidth_c (xs : List TSlot) (v : Value) (w : World) (h : Sl SlotC w v xs) : Calls Try.prog 27 #[v] w fun e w' => e = .returned (.int .i64 (lwV xs)) ∧ Ext w w' := by
  have hS := h
  obtain ⟨a, cap, rfl, hl, hcap, _, hat⟩ := h
  have hlen : xs.length ≤ 9223372036854775807 := Nat.le_trans hl hcap
  clear hl hcap
  cases hok : xs.all slB
  · have HV : Hid (lwV xs = 0) := by show lwV xs = 0; rw [lwV, hok]; rfl
    clear hat
    go_enter Try.func27, Try.ntmps27
    go_wp2_with fail
    refine (smallSlots_c xs _ _ hS).mono ?_; rintro e w1 ⟨rfl, hb1⟩; obtain ⟨hc1, hf1⟩ := hb1.keeps
    rw [hok]
    go_wp2_with fail
    go_ret
    exact ⟨ret_int HV.out.symm, by (repeat (first | with_reducible exact Ext.refl _ | with_reducible assumption | with_reducible refine Ext.alloc ?_ _ | with_reducible refine Ext.drew ?_ | with_reducible refine Ext.drewN ?_ _ | (with_reducible refine Ext.setCell ?_ (by first | omega | (dsimp only; omega)) _) | with_reducible refine Ext.trans ?_ (by assumption)))⟩
  · have HV : Hid (lwV xs = lwGo 0 xs) := by show lwV xs = _; rw [lwV, hok]; rfl
    have HOK := Lib.hid hok
    clear hok
    go_enter Try.func27, Try.ntmps27
    go_wp2_with fail
    refine (smallSlots_c xs _ _ hS).mono ?_; rintro e w1 ⟨rfl, hb1⟩; obtain ⟨hc1, hf1⟩ := hb1.keeps
    rw [HOK.out]
    go_wp2_with fail
    go_loopw [3, 11] (fun o i wr => ∃ (k : Nat) (acc : Int), k ≤ xs.length ∧ i = .int .i64 k ∧ o = .int .i64 acc ∧ Hid (lwGo 0 xs = lwGo acc (xs.drop k)) ∧ Ext w wr) (fun _ i _ => xs.length - (intOf i).toNat)
    case atStart => exact ⟨0, 0, Nat.zero_le _, rfl, rfl, rfl, by (repeat (first | with_reducible exact Ext.refl _ | with_reducible assumption | with_reducible refine Ext.alloc ?_ _ | with_reducible refine Ext.drew ?_ | with_reducible refine Ext.drewN ?_ _ | (with_reducible refine Ext.setCell ?_ (by first | omega | (dsimp only; omega)) _) | with_reducible refine Ext.trans ?_ (by assumption)))⟩
    case round =>
      obtain ⟨k, acc, hk, rfl, rfl, HG, hinv⟩ := hrel
      by_cases hlt : k < xs.length
      · (obtain ⟨x, hx_c⟩ := at_lt (k := k) hlt; obtain ⟨bc, oc, csc, e_c, hc_c, hr_c⟩ := hat k x hx_c; cases e_c; have hr0_c := hr_c; obtain ⟨rfl, ch0, ch1, ch2, ch3, ch4, ch5⟩ := hr0_c; have c0 := (hc_c.keep hinv) 0 _ rfl; have c1 := (hc_c.keep hinv) 1 _ rfl; have c2 := (hc_c.keep hinv) 2 _ rfl; have c3 := (hc_c.keep hinv) 3 _ rfl; have c4 := (hc_c.keep hinv) 4 _ rfl; have c5 := (hc_c.keep hinv) 5 _ rfl; simp only [SlotC_n, Nat.add_zero, Nat.mul_one] at c0 c1 c2 c3 c4 c5; have HXc := Lib.hid hx_c; have HDc := Lib.hid (drop_cons hx_c); have HRc := Lib.hid (SlotC.keep _ _ _ _ hinv hr_c); clear hr_c; clear hx_c hc_c)
        obtain ⟨⟨g1, g2⟩, g3, g4⟩ := slB_at HOK.out HXc.out
        clear hat hc1 hf1 hS hb1
        go_wp2_with fail
        go_roundw
        case rel => exact ⟨k + 1, _, by omega, by go_num, rfl, (by show lwGo 0 xs = _; rw [HG.out, HDc.out, max_if]; rfl), by (repeat (first | with_reducible exact Ext.refl _ | with_reducible assumption | with_reducible refine Ext.alloc ?_ _ | with_reducible refine Ext.drew ?_ | with_reducible refine Ext.drewN ?_ _ | (with_reducible refine Ext.setCell ?_ (by first | omega | (dsimp only; omega)) _) | with_reducible refine Ext.trans ?_ (by assumption)))⟩
        case measure => simp [intOf]; omega
      · clear hat
        go_wp2
        go_ret
        exact ⟨ret_int (by rw [HV.out, HG.out, drop_nil (Nat.le_of_not_lt hlt)]; rfl), by (repeat (first | with_reducible exact Ext.refl _ | with_reducible assumption | with_reducible refine Ext.alloc ?_ _ | with_reducible refine Ext.drew ?_ | with_reducible refine Ext.drewN ?_ _ | (with_reducible refine Ext.setCell ?_ (by first | omega | (dsimp only; omega)) _) | with_reducible refine Ext.trans ?_ (by assumption)))⟩
/-- the answer of foundIndex -/
def fdV (i : Int) : Value := if i < 0 then .tuple #[.int .i64 0, .bool false] else .tuple #[.int .i64 i, .bool true]
theorem fdV_two (i : Int) : ∃ (u : Int) (b : Bool), fdV i = .tuple #[.int .i64 u, .bool b] := by
  unfold fdV
  split <;> exact ⟨_, _, rfl⟩
theorem foundIndex_c (i : Int) (w : World) : Calls Try.prog 44 #[.int .i64 i] w fun e w' => e = .returned (fdV i) ∧ w = w' := by
  by_cases h : i < 0
  · have HF : Hid (fdV i = .tuple #[.int .i64 0, .bool false]) := by show fdV i = _; rw [fdV, if_pos h]
    go_enter Try.func44, Try.ntmps44
    go_wp2
    go_ret2
    exact ⟨congrArg Ending.returned HF.out.symm, rfl⟩
  · have HF : Hid (fdV i = .tuple #[.int .i64 i, .bool true]) := by show fdV i = _; rw [fdV, if_neg h]
    go_enter Try.func44, Try.ntmps44
    go_wp2
    go_ret2
    exact ⟨congrArg Ending.returned HF.out.symm, rfl⟩
def hitB (x : Int) (s : TSlot) : Bool := decide (s.fX ≤ x ∧ x < s.fX + s.fAdvance)
def slV (xs : List TSlot) (x : Int) : Value := if xs.all slB = true then fdV (ixGo (hitB x) 0 xs) else .tuple #[.int .i64 0, .bool false]
theorem slV_two (xs : List TSlot) (x : Int) : ∃ (u : Int) (b : Bool), slV xs x = .tuple #[.int .i64 u, .bool b] := by
  unfold slV
  split
  · exact fdV_two _
  · exact ⟨_, _, rfl⟩
set_option maxHeartbeats 1000000 in
theorem specSlotAt_c (xs : List TSlot) (v : Value) (x : Int) (w : World) (h : Sl SlotC w v xs) : Calls Try.prog 22 #[v, .int .i64 x] w fun e w' => e = .returned (slV xs x) ∧ Ext w w' := by
  have hS := h
  obtain ⟨a, cap, rfl, hl, hcap, _, hat⟩ := h
  have hlen : xs.length ≤ 9223372036854775807 := Nat.le_trans hl hcap
  clear hl hcap
  cases hok : xs.all slB
  · have HV : Hid (slV xs x = .tuple #[.int .i64 0, .bool false]) := by show slV xs x = _; rw [slV, hok]; rfl
    clear hat
    go_enter Try.func22, Try.ntmps22
    go_wp2_with fail
    refine (l27Ok_c xs _ _ hS).mono ?_; rintro e w1 ⟨rfl, hb1⟩; obtain ⟨hc1, hf1⟩ := hb1.keeps
    rw [hok]
    go_wp2_with fail
    go_ret2
    exact ⟨congrArg Ending.returned HV.out.symm, by (repeat (first | with_reducible exact Ext.refl _ | with_reducible assumption | with_reducible refine Ext.alloc ?_ _ | with_reducible refine Ext.drew ?_ | with_reducible refine Ext.drewN ?_ _ | (with_reducible refine Ext.setCell ?_ (by first | omega | (dsimp only; omega)) _) | with_reducible refine Ext.trans ?_ (by assumption)))⟩
  · have HV : Hid (slV xs x = fdV (ixGo (hitB x) 0 xs)) := by show slV xs x = _; rw [slV, hok]; rfl
    have HOK := Lib.hid hok
    clear hok
    go_enter Try.func22, Try.ntmps22
    go_wp2_with fail
    refine (l27Ok_c xs _ _ hS).mono ?_; rintro e w1 ⟨rfl, hb1⟩; obtain ⟨hc1, hf1⟩ := hb1.keeps
    rw [HOK.out]
    go_wp2_with fail
    go_loopw [6] (fun i wr => ∃ k : Nat, k ≤ xs.length ∧ i = .int .i64 k ∧ Hid (ixGo (hitB x) 0 xs = ixGo (hitB x) k (xs.drop k)) ∧ Ext w wr) (fun i _ => xs.length - (intOf i).toNat)
    case atStart => exact ⟨0, Nat.zero_le _, rfl, rfl, by (repeat (first | with_reducible exact Ext.refl _ | with_reducible assumption | with_reducible refine Ext.alloc ?_ _ | with_reducible refine Ext.drew ?_ | with_reducible refine Ext.drewN ?_ _ | (with_reducible refine Ext.setCell ?_ (by first | omega | (dsimp only; omega)) _) | with_reducible refine Ext.trans ?_ (by assumption)))⟩
    case round =>
      obtain ⟨k, hk, rfl, HG, hinv⟩ := hrel
      by_cases hlt : k < xs.length
      · (obtain ⟨s, hx_c⟩ := at_lt (k := k) hlt; obtain ⟨bc, oc, csc, e_c, hc_c, hr_c⟩ := hat k s hx_c; cases e_c; have hr0_c := hr_c; obtain ⟨rfl, ch0, ch1, ch2, ch3, ch4, ch5⟩ := hr0_c; have c0 := (hc_c.keep hinv) 0 _ rfl; have c1 := (hc_c.keep hinv) 1 _ rfl; have c2 := (hc_c.keep hinv) 2 _ rfl; have c3 := (hc_c.keep hinv) 3 _ rfl; have c4 := (hc_c.keep hinv) 4 _ rfl; have c5 := (hc_c.keep hinv) 5 _ rfl; simp only [SlotC_n, Nat.add_zero, Nat.mul_one] at c0 c1 c2 c3 c4 c5; have HXc := Lib.hid hx_c; have HDc := Lib.hid (drop_cons hx_c); have HRc := Lib.hid (SlotC.keep _ _ _ _ hinv hr_c); clear hr_c; clear hx_c hc_c)
        obtain ⟨⟨g1, g2⟩, g3, g4⟩ := slB_at HOK.out HXc.out
        have hE := Ext.rule wr
        have hlt' : (k : Int) < (xs.length : Int) := by omega
        have hw1 : IntKind.i64.wrap (s.fX + s.fAdvance) = s.fX + s.fAdvance := IntWalk.i64_in _ (by omega)
        have hw2 : IntKind.i64.wrap (s.fX + s.fAdvance - 1) = s.fX + s.fAdvance - 1 := IntWalk.i64_in _ (by omega)
        clear hat hc1 hf1 hS hb1
        cases hin : inB x s.fX (s.fX + s.fAdvance - 1)
        · have HE : Hid (ixGo (hitB x) 0 xs = ixGo (hitB x) (k + 1) (xs.drop (k + 1))) := by
            show ixGo (hitB x) 0 xs = _
            rw [HG.out, HDc.out, ixGo, if_neg]
            simp [inB, hitB] at hin ⊢
            omega
          go_wp2_with fail
          go_region_held3 (fun w' => Ext wr w') ((repeat (first | with_reducible exact Ext.refl _ | with_reducible assumption | with_reducible refine Ext.alloc ?_ _ | with_reducible refine Ext.drew ?_ | with_reducible refine Ext.drewN ?_ _ | (with_reducible refine Ext.setCell ?_ (by first | omega | (dsimp only; omega)) _) | with_reducible refine Ext.trans ?_ (by assumption)))) ((first | (go_at_call 34; refine (l00In_c _ _ _ _).mono ?_; rintro e w' ⟨rfl, rfl⟩)))
          go_wp2_with fail
          go_roundw
          case rel => exact ⟨k + 1, by omega, by go_num, HE, by (repeat (first | with_reducible exact Ext.refl _ | with_reducible assumption | with_reducible refine Ext.alloc ?_ _ | with_reducible refine Ext.drew ?_ | with_reducible refine Ext.drewN ?_ _ | (with_reducible refine Ext.setCell ?_ (by first | omega | (dsimp only; omega)) _) | with_reducible refine Ext.trans ?_ (by assumption)))⟩
          case measure => simp [intOf]; omega
        · have HE : Hid (ixGo (hitB x) 0 xs = k) := by
            show ixGo (hitB x) 0 xs = _
            rw [HG.out, HDc.out, ixGo, if_pos]
            simp [inB, hitB] at hin ⊢
            omega
          go_wp2_with fail
          go_region_held3 (fun w' => Ext wr w') ((repeat (first | with_reducible exact Ext.refl _ | with_reducible assumption | with_reducible refine Ext.alloc ?_ _ | with_reducible refine Ext.drew ?_ | with_reducible refine Ext.drewN ?_ _ | (with_reducible refine Ext.setCell ?_ (by first | omega | (dsimp only; omega)) _) | with_reducible refine Ext.trans ?_ (by assumption)))) ((first | (go_at_call 34; refine (l00In_c _ _ _ _).mono ?_; rintro e w' ⟨rfl, rfl⟩)))
          go_wp2_with fail
          go_ret2
          exact ⟨congrArg Ending.returned (by rw [HV.out, HE.out, fdV, if_neg (by omega)]; rfl), by (repeat (first | with_reducible exact Ext.refl _ | with_reducible assumption | with_reducible refine Ext.alloc ?_ _ | with_reducible refine Ext.drew ?_ | with_reducible refine Ext.drewN ?_ _ | (with_reducible refine Ext.setCell ?_ (by first | omega | (dsimp only; omega)) _) | with_reducible refine Ext.trans ?_ (by assumption)))⟩
      · clear hat
        go_wp2
        go_ret2
        exact ⟨congrArg Ending.returned (by rw [HV.out, HG.out, drop_nil (Nat.le_of_not_lt hlt)]; rfl), by (repeat (first | with_reducible exact Ext.refl _ | with_reducible assumption | with_reducible refine Ext.alloc ?_ _ | with_reducible refine Ext.drew ?_ | with_reducible refine Ext.drewN ?_ _ | (with_reducible refine Ext.setCell ?_ (by first | omega | (dsimp only; omega)) _) | with_reducible refine Ext.trans ?_ (by assumption)))⟩
theorem hit_c (s : TSlot) (cs : List Value) (x : Int) (p : Addr) (w : World) (h : SlotC.rep w cs s) (hp : w.cell? p = some (.int .i64 x)) (hs : slB s = true) :
    Calls Try.prog 46 #[.agg cs.toArray, .pointer (some p)] w fun e w' => e = .returned (.bool (hitB x s)) ∧ Ext w w' := by
  obtain ⟨rfl, _⟩ := h
  obtain ⟨⟨g1, g2⟩, g3, g4⟩ := slB_bd hs
  have hpp := cell_spot hp
  obtain ⟨b, o, sp⟩ := p
  cases hpp
  have hlt : b < w.heap.size := World.block_lt_of_cell? w _ hp
  clear hs
  go_enter Try.func46, Try.ntmps46
  go_wp2
  all_goals (go_ret; refine ⟨ret_bool ?_, by (repeat (first | with_reducible exact Ext.refl _ | with_reducible assumption | with_reducible refine Ext.alloc ?_ _ | with_reducible refine Ext.drew ?_ | with_reducible refine Ext.drewN ?_ _ | (with_reducible refine Ext.setCell ?_ (by first | omega | (dsimp only; omega)) _) | with_reducible refine Ext.trans ?_ (by assumption)))⟩; simp_all [hitB]; try omega)
theorem SlotAt_c (xs : List TSlot) (v : Value) (x : Int) (w : World) (h : Sl SlotC w v xs) : Calls Try.prog 24 #[v, .int .i64 x] w fun e w' => e = .returned (slV xs x) ∧ Ext w w' := by
  cases hok : xs.all slB
  · have HV : Hid (slV xs x = .tuple #[.int .i64 0, .bool false]) := by show slV xs x = _; rw [slV, hok]; rfl
    have HS := Lib.hid h
    clear h
    go_enter Try.func24, Try.ntmps24
    go_wp2_with fail
    refine (smallSlots_c xs _ _ (HS.out.keep (by (repeat (first | with_reducible exact Ext.refl _ | with_reducible assumption | with_reducible refine Ext.alloc ?_ _ | with_reducible refine Ext.drew ?_ | with_reducible refine Ext.drewN ?_ _ | (with_reducible refine Ext.setCell ?_ (by first | omega | (dsimp only; omega)) _) | with_reducible refine Ext.trans ?_ (by assumption)))))).mono ?_; rintro e w1 ⟨rfl, hb1⟩; obtain ⟨hc1, hf1⟩ := hb1.keeps
    rw [hok]
    go_wp2_with fail
    go_ret2
    exact ⟨congrArg Ending.returned HV.out.symm, by (repeat (first | with_reducible exact Ext.refl _ | with_reducible assumption | with_reducible refine Ext.alloc ?_ _ | with_reducible refine Ext.drew ?_ | with_reducible refine Ext.drewN ?_ _ | (with_reducible refine Ext.setCell ?_ (by first | omega | (dsimp only; omega)) _) | with_reducible refine Ext.trans ?_ (by assumption)))⟩
  · have HV : Hid (slV xs x = fdV (ixGo (hitB x) 0 xs)) := by show slV xs x = _; rw [slV, hok]; rfl
    have HOK := Lib.hid hok
    have HS := Lib.hid h
    obtain ⟨u, b, hu⟩ := fdV_two (ixGo (hitB x) 0 xs)
    have HU := Lib.hid hu
    clear hok h hu
    go_enter Try.func24, Try.ntmps24
    go_wp2_with fail
    refine (smallSlots_c xs _ _ (HS.out.keep (by (repeat (first | with_reducible exact Ext.refl _ | with_reducible assumption | with_reducible refine Ext.alloc ?_ _ | with_reducible refine Ext.drew ?_ | with_reducible refine Ext.drewN ?_ _ | (with_reducible refine Ext.setCell ?_ (by first | omega | (dsimp only; omega)) _) | with_reducible refine Ext.trans ?_ (by assumption)))))).mono ?_; rintro e w1 ⟨rfl, hb1⟩; obtain ⟨hc1, hf1⟩ := hb1.keeps
    rw [HOK.out]
    go_wp2_with fail
    have hcell : w1.cell? ⟨w.heap.size, 0, none⟩ = some (.int .i64 x) := hb1.cellSome (by go_simp)
    refine (IndexFunc_Slot_c 46 #[.pointer (some ⟨w.heap.size, 0, none⟩)] (hitB x) xs _ _ (HS.out.keep (by (repeat (first | with_reducible exact Ext.refl _ | with_reducible assumption | with_reducible refine Ext.alloc ?_ _ | with_reducible refine Ext.drew ?_ | with_reducible refine Ext.drewN ?_ _ | (with_reducible refine Ext.setCell ?_ (by first | omega | (dsimp only; omega)) _) | with_reducible refine Ext.trans ?_ (by assumption))))) (fun _ _ => by kernel_rfl) (fun s cs wr hs hx hr => hit_c s cs x ⟨w.heap.size, 0, none⟩ wr hr (hx.cellSome hcell) (List.all_eq_true.1 HOK.out s hs))).mono ?_; rintro e w2 ⟨rfl, hb2⟩; obtain ⟨hc2, hf2⟩ := hb2.keeps
    go_wp2_with fail
    refine (foundIndex_c _ _).mono ?_; rintro e w' ⟨rfl, rfl⟩
    rw [HU.out]
    go_wp2_with fail
    go_ret2
    exact ⟨congrArg Ending.returned (by rw [HV.out, HU.out]; rfl), by (repeat (first | with_reducible exact Ext.refl _ | with_reducible assumption | with_reducible refine Ext.alloc ?_ _ | with_reducible refine Ext.drew ?_ | with_reducible refine Ext.drewN ?_ _ | (with_reducible refine Ext.setCell ?_ (by first | omega | (dsimp only; omega)) _) | with_reducible refine Ext.trans ?_ (by assumption)))⟩
end Go.Proofs.Ytcpoglgldelhnaa
