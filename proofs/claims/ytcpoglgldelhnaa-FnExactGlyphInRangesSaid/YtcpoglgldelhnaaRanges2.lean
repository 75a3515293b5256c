/- The glyph of a character by ranges: what the program's and the reference's functions return, for every list and number. -/
import Derived.Test.YtcpoglgldelhnaaRanges
namespace Go.Proofs.Ytcpoglgldelhnaa
open Go.RowKit

theorem rgGo_bd : ∀ (xs : List TCharRange) (last : Int), -1 ≤ last → rgGo last xs = true → ∀ x ∈ xs, 0 ≤ x.fFrom ∧ x.fFrom ≤ 65536 ∧ 1 ≤ x.fCount ∧ x.fCount ≤ 40 ∧ 0 ≤ x.fGlyph ∧ x.fGlyph ≤ 40
  | [], _, _, _, x, hx => by cases hx
  | y :: t, last, hl, h, x, hx => by
    simp only [rgGo, Bool.and_eq_true] at h
    have hb := rgOne_bd h.1
    rcases List.mem_cons.1 hx with rfl | hx
    · omega
    · exact rgGo_bd t _ (by omega) h.2 x hx
theorem rgOk_bd {xs : List TCharRange} {x : TCharRange} {k : Nat} (h : rgOk xs = true) (hx : xs[k]? = some x) : 0 ≤ x.fFrom ∧ x.fFrom ≤ 65536 ∧ 1 ≤ x.fCount ∧ x.fCount ≤ 40 ∧ 0 ≤ x.fGlyph ∧ x.fGlyph ≤ 40 := by
  simp only [rgOk, Bool.and_eq_true] at h
  exact rgGo_bd xs _ (by omega) h.2 x (List.mem_of_getElem? hx)

set_option maxHeartbeats 1000000 in
theorem specGlyphInRanges_c (xs : List TCharRange) (v : Value) (c : Int) (w : World) (h : Sl CharRangeC w v xs) : Calls Try.prog 15 #[v, .int .i64 c] w fun e w' => e = .returned (rgV xs c) ∧ Ext w w' := by
  have hS := h
  obtain ⟨a, cap, rfl, hl, hcap, _, hat⟩ := h
  have hlen : xs.length ≤ 9223372036854775807 := Nat.le_trans hl hcap
  clear hl hcap
  cases hok : rgOk xs
  · have HV : Hid (rgV xs c = .tuple #[.int .i64 0, .bool false]) := by show rgV xs c = _; rw [rgV, hok]; rfl
    clear hat
    go_enter Try.func15, Try.ntmps15
    go_wp2_with (go_at_call 33; refine (l32RangesOk_c _ _ _ hS).mono ?_; rintro e w1 ⟨rfl, hb1⟩; obtain ⟨hc1, hf1⟩ := hb1.keeps)
    go_ret2
    exact ⟨congrArg Ending.returned HV.out.symm, by (repeat (first | with_reducible exact Ext.refl _ | with_reducible assumption | with_reducible refine Ext.alloc ?_ _ | with_reducible refine Ext.drew ?_ | with_reducible refine Ext.drewN ?_ _ | (with_reducible refine Ext.setCell ?_ (by first | omega | (dsimp only; omega)) _) | with_reducible refine Ext.trans ?_ (by assumption)))⟩
  · have HV : Hid (rgV xs c = rgFind c xs) := by show rgV xs c = _; rw [rgV, hok]; rfl
    have HOK := Lib.hid hok
    go_enter Try.func15, Try.ntmps15
    go_wp2_with (go_at_call 33; refine (l32RangesOk_c _ _ _ hS).mono ?_; rintro e w1 ⟨rfl, hb1⟩; obtain ⟨hc1, hf1⟩ := hb1.keeps)
    clear hok
    go_loopw [6] (fun i wr => ∃ k : Nat, k ≤ xs.length ∧ i = .int .i64 k ∧ Hid (rgFind c xs = rgFind c (xs.drop k)) ∧ Ext w wr) (fun i _ => xs.length - (intOf i).toNat)
    case atStart => exact ⟨0, Nat.zero_le _, rfl, rfl, by (repeat (first | with_reducible exact Ext.refl _ | with_reducible assumption | with_reducible refine Ext.alloc ?_ _ | with_reducible refine Ext.drew ?_ | with_reducible refine Ext.drewN ?_ _ | (with_reducible refine Ext.setCell ?_ (by first | omega | (dsimp only; omega)) _) | with_reducible refine Ext.trans ?_ (by assumption)))⟩
    case round =>
      obtain ⟨k, hk, rfl, HG, hinv⟩ := hrel
      by_cases hlt : k < xs.length
      · (obtain ⟨x, hx_c⟩ := at_lt (k := k) hlt; obtain ⟨bc, oc, csc, e_c, hc_c, hr_c⟩ := hat k x hx_c; cases e_c; have hr0_c := hr_c; obtain ⟨rfl, ch0, ch1, ch2⟩ := hr0_c; have c0 := (hc_c.keep hinv) 0 _ rfl; have c1 := (hc_c.keep hinv) 1 _ rfl; have c2 := (hc_c.keep hinv) 2 _ rfl; simp only [CharRangeC_n, Nat.add_zero, Nat.mul_one] at c0 c1 c2; have HXc := Lib.hid hx_c; have HDc := Lib.hid (drop_cons hx_c); have HRc := Lib.hid (CharRangeC.keep _ _ _ _ hinv hr_c); clear hr_c; clear hx_c hc_c)
        obtain ⟨g1, g2, g3, g4, g5, g6⟩ := rgOk_bd HOK.out HXc.out
        have hE := Ext.rule wr
        have hlt' : (k : Int) < (xs.length : Int) := by omega
        have hw1 : IntKind.i64.wrap (x.fFrom + x.fCount) = x.fFrom + x.fCount := IntWalk.i64_in _ (by omega)
        have hw2 : IntKind.i64.wrap (x.fFrom + x.fCount - 1) = x.fFrom + x.fCount - 1 := IntWalk.i64_in _ (by omega)
        clear hat hc1 hf1 hS hb1
        cases hin : inB c x.fFrom (x.fFrom + x.fCount - 1)
        · have HE : Hid (rgFind c xs = rgFind c (xs.drop (k + 1))) := by
            show rgFind c xs = _
            rw [HG.out, HDc.out, rgFind, if_neg]
            simp [inB, inRg] at hin ⊢
            omega
          go_wp2_with fail
          go_region_held3 (fun w' => Ext wr w') ((repeat (first | with_reducible exact Ext.refl _ | with_reducible assumption | with_reducible refine Ext.alloc ?_ _ | with_reducible refine Ext.drew ?_ | with_reducible refine Ext.drewN ?_ _ | (with_reducible refine Ext.setCell ?_ (by first | omega | (dsimp only; omega)) _) | with_reducible refine Ext.trans ?_ (by assumption)))) ((first | (go_at_call 34; refine (l00In_c _ _ _ _).mono ?_; rintro e w' ⟨rfl, rfl⟩)))
          go_wp2_with fail
          go_roundw
          case rel => exact ⟨k + 1, by omega, by go_num, HE, by (repeat (first | with_reducible exact Ext.refl _ | with_reducible assumption | with_reducible refine Ext.alloc ?_ _ | with_reducible refine Ext.drew ?_ | with_reducible refine Ext.drewN ?_ _ | (with_reducible refine Ext.setCell ?_ (by first | omega | (dsimp only; omega)) _) | with_reducible refine Ext.trans ?_ (by assumption)))⟩
          case measure => simp [intOf]; omega
        · have HE : Hid (rgFind c xs = .tuple #[.int .i64 (x.fGlyph + c - x.fFrom), .bool true]) := by
            show rgFind c xs = _
            rw [HG.out, HDc.out, rgFind, if_pos]
            simp [inB, inRg] at hin ⊢
            omega
          have hcb : x.fFrom ≤ c ∧ c ≤ x.fFrom + x.fCount - 1 := by simpa [inB] using hin
          obtain ⟨b1, b2⟩ := hcb
          have hw3 : IntKind.i64.wrap (x.fGlyph + c) = x.fGlyph + c := IntWalk.i64_in _ (by omega)
          have hw4 : IntKind.i64.wrap (x.fGlyph + c - x.fFrom) = x.fGlyph + c - x.fFrom := IntWalk.i64_in _ (by omega)
          go_wp2_with fail
          go_region_held3 (fun w' => Ext wr w') ((repeat (first | with_reducible exact Ext.refl _ | with_reducible assumption | with_reducible refine Ext.alloc ?_ _ | with_reducible refine Ext.drew ?_ | with_reducible refine Ext.drewN ?_ _ | (with_reducible refine Ext.setCell ?_ (by first | omega | (dsimp only; omega)) _) | with_reducible refine Ext.trans ?_ (by assumption)))) ((first | (go_at_call 34; refine (l00In_c _ _ _ _).mono ?_; rintro e w' ⟨rfl, rfl⟩)))
          go_wp2_with fail
          go_quiet (fail)
          go_wp2_with fail
          go_ret2
          exact ⟨congrArg Ending.returned (by rw [HV.out, HE.out]; rfl), by (repeat (first | with_reducible exact Ext.refl _ | with_reducible assumption | with_reducible refine Ext.alloc ?_ _ | with_reducible refine Ext.drew ?_ | with_reducible refine Ext.drewN ?_ _ | (with_reducible refine Ext.setCell ?_ (by first | omega | (dsimp only; omega)) _) | with_reducible refine Ext.trans ?_ (by assumption)))⟩
      · clear hat
        go_wp2
        go_ret2
        exact ⟨congrArg Ending.returned (by rw [HV.out, HG.out, drop_nil (Nat.le_of_not_lt hlt)]; rfl), by (repeat (first | with_reducible exact Ext.refl _ | with_reducible assumption | with_reducible refine Ext.alloc ?_ _ | with_reducible refine Ext.drew ?_ | with_reducible refine Ext.drewN ?_ _ | (with_reducible refine Ext.setCell ?_ (by first | omega | (dsimp only; omega)) _) | with_reducible refine Ext.trans ?_ (by assumption)))⟩
set_option maxHeartbeats 1000000 in
theorem GlyphInRanges_c (xs : List TCharRange) (v : Value) (c : Int) (w : World) (h : Sl CharRangeC w v xs) : Calls Try.prog 17 #[v, .int .i64 c] w fun e w' => e = .returned (rgV xs c) ∧ Ext w w' := by
  have hS := h
  obtain ⟨a, cap, rfl, hl, hcap, _, hat⟩ := h
  have hlen : xs.length ≤ 9223372036854775807 := Nat.le_trans hl hcap
  clear hl hcap
  cases hok : rgOk xs
  · have HV : Hid (rgV xs c = .tuple #[.int .i64 0, .bool false]) := by show rgV xs c = _; rw [rgV, hok]; rfl
    clear hat
    go_enter Try.func17, Try.ntmps17
    go_wp2_with (go_at_call 36; refine (validRanges_c _ _ _ hS).mono ?_; rintro e w1 ⟨rfl, hb1⟩; obtain ⟨hc1, hf1⟩ := hb1.keeps)
    go_ret2
    exact ⟨congrArg Ending.returned HV.out.symm, by (repeat (first | with_reducible exact Ext.refl _ | with_reducible assumption | with_reducible refine Ext.alloc ?_ _ | with_reducible refine Ext.drew ?_ | with_reducible refine Ext.drewN ?_ _ | (with_reducible refine Ext.setCell ?_ (by first | omega | (dsimp only; omega)) _) | with_reducible refine Ext.trans ?_ (by assumption)))⟩
  · have HV : Hid (rgV xs c = rgFind c xs) := by show rgV xs c = _; rw [rgV, hok]; rfl
    have HOK := Lib.hid hok
    go_enter Try.func17, Try.ntmps17
    go_wp2_with (go_at_call 36; refine (validRanges_c _ _ _ hS).mono ?_; rintro e w1 ⟨rfl, hb1⟩; obtain ⟨hc1, hf1⟩ := hb1.keeps)
    clear hok
    go_loopw [13] (fun i wr => ∃ k : Nat, k ≤ xs.length ∧ i = .int .i64 k ∧ Hid (rgFind c xs = rgFind c (xs.drop k)) ∧ Ext w wr) (fun i _ => xs.length - (intOf i).toNat)
    case atStart => exact ⟨0, Nat.zero_le _, rfl, rfl, by (repeat (first | with_reducible exact Ext.refl _ | with_reducible assumption | with_reducible refine Ext.alloc ?_ _ | with_reducible refine Ext.drew ?_ | with_reducible refine Ext.drewN ?_ _ | (with_reducible refine Ext.setCell ?_ (by first | omega | (dsimp only; omega)) _) | with_reducible refine Ext.trans ?_ (by assumption)))⟩
    case round =>
      obtain ⟨k, hk, rfl, HG, hinv⟩ := hrel
      by_cases hlt : k < xs.length
      · (obtain ⟨x, hx_c⟩ := at_lt (k := k) hlt; obtain ⟨bc, oc, csc, e_c, hc_c, hr_c⟩ := hat k x hx_c; cases e_c; have hr0_c := hr_c; obtain ⟨rfl, ch0, ch1, ch2⟩ := hr0_c; have c0 := (hc_c.keep hinv) 0 _ rfl; have c1 := (hc_c.keep hinv) 1 _ rfl; have c2 := (hc_c.keep hinv) 2 _ rfl; simp only [CharRangeC_n, Nat.add_zero, Nat.mul_one] at c0 c1 c2; have HXc := Lib.hid hx_c; have HDc := Lib.hid (drop_cons hx_c); have HRc := Lib.hid (CharRangeC.keep _ _ _ _ hinv hr_c); clear hr_c; clear hx_c hc_c)
        obtain ⟨g1, g2, g3, g4, g5, g6⟩ := rgOk_bd HOK.out HXc.out
        clear hat hc1 hf1 hS hb1
        go_wp2_with fail
        all_goals first
          | (go_roundw
             case rel => exact ⟨k + 1, by omega, by go_num, (by show rgFind c xs = _; rw [HG.out, HDc.out, rgFind, if_neg (by simp [inRg]; omega)]), by (repeat (first | with_reducible exact Ext.refl _ | with_reducible assumption | with_reducible refine Ext.alloc ?_ _ | with_reducible refine Ext.drew ?_ | with_reducible refine Ext.drewN ?_ _ | (with_reducible refine Ext.setCell ?_ (by first | omega | (dsimp only; omega)) _) | with_reducible refine Ext.trans ?_ (by assumption)))⟩
             case measure => simp [intOf]; omega)
          | (go_ret2; exact ⟨congrArg Ending.returned (by rw [HV.out, HG.out, HDc.out, rgFind, if_pos (by simp [inRg]; omega)]; rfl), by (repeat (first | with_reducible exact Ext.refl _ | with_reducible assumption | with_reducible refine Ext.alloc ?_ _ | with_reducible refine Ext.drew ?_ | with_reducible refine Ext.drewN ?_ _ | (with_reducible refine Ext.setCell ?_ (by first | omega | (dsimp only; omega)) _) | with_reducible refine Ext.trans ?_ (by assumption)))⟩)
      · clear hat
        go_wp2
        go_ret2
        exact ⟨congrArg Ending.returned (by rw [HV.out, HG.out, drop_nil (Nat.le_of_not_lt hlt)]; rfl), by (repeat (first | with_reducible exact Ext.refl _ | with_reducible assumption | with_reducible refine Ext.alloc ?_ _ | with_reducible refine Ext.drew ?_ | with_reducible refine Ext.drewN ?_ _ | (with_reducible refine Ext.setCell ?_ (by first | omega | (dsimp only; omega)) _) | with_reducible refine Ext.trans ?_ (by assumption)))⟩
end Go.Proofs.Ytcpoglgldelhnaa
