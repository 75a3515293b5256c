/- Ranges of characters: what the program's and the reference's functions return, for every list. -/
import Derived.Test.YtcpoglgldelhnaaPeak
namespace Go.Proofs.Ytcpoglgldelhnaa
open Go.RowKit

def rgOne (last : Int) (x : TCharRange) : Bool := decide (last < x.fFrom ∧ 1 ≤ x.fCount ∧ x.fCount ≤ 40 ∧ x.fFrom ≤ 65536 - x.fCount ∧ 0 ≤ x.fGlyph ∧ x.fGlyph ≤ 40 - x.fCount)
def rgGo : Int → List TCharRange → Bool
  | _, [] => true
  | last, x :: t => rgOne last x && rgGo (x.fFrom + x.fCount - 1) t
/-- are these valid ranges? -/
def rgOk (xs : List TCharRange) : Bool := decide (xs.length ≤ 40) && rgGo (-1) xs
def inRg (c : Int) (x : TCharRange) : Bool := decide (x.fFrom ≤ c ∧ c < x.fFrom + x.fCount)
/-- the glyph of a character -/
def rgFind (c : Int) : List TCharRange → Value
  | [] => .tuple #[.int .i64 0, .bool false]
  | x :: t => if inRg c x = true then .tuple #[.int .i64 (x.fGlyph + c - x.fFrom), .bool true] else rgFind c t
def rgV (xs : List TCharRange) (c : Int) : Value := if rgOk xs = true then rgFind c xs else .tuple #[.int .i64 0, .bool false]

theorem rgOne_bd {l : Int} {x : TCharRange} (h : rgOne l x = true) : l < x.fFrom ∧ 1 ≤ x.fCount ∧ x.fCount ≤ 40 ∧ x.fFrom ≤ 65536 - x.fCount ∧ 0 ≤ x.fGlyph ∧ x.fGlyph ≤ 40 - x.fCount := by
  simpa [rgOne] using h

set_option maxHeartbeats 1000000 in
theorem l32RangesOk_c (xs : List TCharRange) (v : Value) (w : World) (h : Sl CharRangeC w v xs) : Calls Try.prog 33 #[v] w fun e w' => e = .returned (.bool (rgOk xs)) ∧ Ext w w' := by
  obtain ⟨a, cap, rfl, hl, hcap, _, hat⟩ := h
  have hlen : xs.length ≤ 9223372036854775807 := Nat.le_trans hl hcap
  clear hl hcap
  go_enter Try.func33, Try.ntmps33
  go_wp2
  go_loopw [3, 4] (fun l i wr => ∃ (k : Nat) (last : Int), k ≤ xs.length ∧ i = .int .i64 k ∧ l = .int .i64 last ∧ -1 ≤ last ∧ last ≤ 65536 ∧ Hid (rgGo (-1) xs = rgGo last (xs.drop k)) ∧ Ext w wr) (fun _ i _ => xs.length - (intOf i).toNat)
  case atStart => exact ⟨0, -1, Nat.zero_le _, rfl, rfl, by omega, by omega, rfl, Ext.refl _⟩
  case round =>
    obtain ⟨k, last, hk, rfl, rfl, l0, l1, HG, hinv⟩ := hrel
    by_cases hlt : k < xs.length
    · (obtain ⟨x, hx_c⟩ := at_lt (k := k) hlt; obtain ⟨bc, oc, csc, e_c, hc_c, hr_c⟩ := hat k x hx_c; cases e_c; have hr0_c := hr_c; obtain ⟨rfl, ch0, ch1, ch2⟩ := hr0_c; have c0 := (hc_c.keep hinv) 0 _ rfl; have c1 := (hc_c.keep hinv) 1 _ rfl; have c2 := (hc_c.keep hinv) 2 _ rfl; simp only [CharRangeC_n, Nat.add_zero, Nat.mul_one] at c0 c1 c2; have HXc := Lib.hid hx_c; have HDc := Lib.hid (drop_cons hx_c); have HRc := Lib.hid (CharRangeC.keep _ _ _ _ hinv hr_c); clear hr_c; clear hx_c hc_c)
      clear hat
      have HE : Hid (rgGo (-1) xs = (rgOne last x && rgGo (x.fFrom + x.fCount - 1) (xs.drop (k + 1)))) := by
        show rgGo (-1) xs = _
        rw [HG.out, HDc.out]; rfl
      by_cases hone : rgOne last x = true
      · obtain ⟨g1, g2, g3, g4, g5, g6⟩ := rgOne_bd hone
        have HO := Lib.hid hone
        have i1 : inB x.fCount 1 40 = true := by simp [inB]; omega
        have i2 : inB x.fGlyph 0 (40 - x.fCount) = true := by simp [inB]; omega
        clear hone
        go_wp2_with (go_at_call 34; refine (l00In_c _ _ _ _).mono ?_; rintro e w' ⟨rfl, rfl⟩)
        go_roundw
        case rel => exact ⟨k + 1, x.fFrom + x.fCount - 1, by omega, by go_num, rfl, by omega, by omega, by show rgGo (-1) xs = _; rw [HE.out, HO.out]; rfl, by (repeat (first | with_reducible exact Ext.refl _ | with_reducible assumption | with_reducible refine Ext.alloc ?_ _ | with_reducible refine Ext.drew ?_ | with_reducible refine Ext.drewN ?_ _ | (with_reducible refine Ext.setCell ?_ (by first | omega | (dsimp only; omega)) _) | with_reducible refine Ext.trans ?_ (by assumption)))⟩
        case measure => simp [intOf]; omega
      · have HF : Hid (rgOk xs = false) := by
          show rgOk xs = false
          rw [rgOk, HE.out, Bool.eq_false_iff.2 hone]; simp
        have hone' : ¬ (last < x.fFrom ∧ 1 ≤ x.fCount ∧ x.fCount ≤ 40 ∧ x.fFrom ≤ 65536 - x.fCount ∧ 0 ≤ x.fGlyph ∧ x.fGlyph ≤ 40 - x.fCount) := by simpa [rgOne] using hone
        have HO := Lib.hid hone'
        clear hone hone'
        by_cases hcnt : 1 ≤ x.fCount ∧ x.fCount ≤ 40
        · have i1 : inB x.fCount 1 40 = true := by simp [inB]; omega
          obtain ⟨q1, q2⟩ := hcnt
          go_wp2_with (go_at_call 34; refine (l00In_c _ _ _ _).mono ?_; rintro e w' ⟨rfl, rfl⟩)
          all_goals first
            | (go_ret; exact ⟨ret_bool HF.out.symm, by (repeat (first | with_reducible exact Ext.refl _ | with_reducible assumption | with_reducible refine Ext.alloc ?_ _ | with_reducible refine Ext.drew ?_ | with_reducible refine Ext.drewN ?_ _ | (with_reducible refine Ext.setCell ?_ (by first | omega | (dsimp only; omega)) _) | with_reducible refine Ext.trans ?_ (by assumption)))⟩)
            | (exfalso; have := HO.out; simp_all [inB]; try omega)
        · have i1 : inB x.fCount 1 40 = false := by simp [inB]; omega
          clear hcnt
          go_wp2_with (go_at_call 34; refine (l00In_c _ _ _ _).mono ?_; rintro e w' ⟨rfl, rfl⟩)
          all_goals (go_ret; exact ⟨ret_bool HF.out.symm, by (repeat (first | with_reducible exact Ext.refl _ | with_reducible assumption | with_reducible refine Ext.alloc ?_ _ | with_reducible refine Ext.drew ?_ | with_reducible refine Ext.drewN ?_ _ | (with_reducible refine Ext.setCell ?_ (by first | omega | (dsimp only; omega)) _) | with_reducible refine Ext.trans ?_ (by assumption)))⟩)
    · have HA : Hid (rgGo (-1) xs = true) := by show rgGo (-1) xs = true; rw [HG.out, drop_nil (Nat.le_of_not_lt hlt)]; rfl
      clear hat
      go_wp2
      go_ret
      exact ⟨ret_bool (by rw [rgOk, HA.out, Bool.and_true, Bool.eq_iff_iff]; simp; omega), by (repeat (first | with_reducible exact Ext.refl _ | with_reducible assumption | with_reducible refine Ext.alloc ?_ _ | with_reducible refine Ext.drew ?_ | with_reducible refine Ext.drewN ?_ _ | (with_reducible refine Ext.setCell ?_ (by first | omega | (dsimp only; omega)) _) | with_reducible refine Ext.trans ?_ (by assumption)))⟩
set_option maxHeartbeats 2000000 in
theorem validRanges_c (xs : List TCharRange) (v : Value) (w : World) (h : Sl CharRangeC w v xs) : Calls Try.prog 36 #[v] w fun e w' => e = .returned (.bool (rgOk xs)) ∧ Ext w w' := by
  obtain ⟨a, cap, rfl, hl, hcap, _, hat⟩ := h
  have hlen : xs.length ≤ 9223372036854775807 := Nat.le_trans hl hcap
  clear hl hcap
  by_cases hm : xs.length ≤ 40
  · have HM : Hid (rgOk xs = rgGo (-1) xs) := by show rgOk xs = _; rw [rgOk, decide_eq_true hm, Bool.true_and]
    have hm' : ¬ ((40 : Int) < xs.length) := by omega
    go_enter Try.func36, Try.ntmps36
    go_wp2
    go_loopw [10] (fun i wr => ∃ (k : Nat) (last : Int), k ≤ xs.length ∧ i = .int .i64 k ∧ -1 ≤ last ∧ (k = 0 → last = -1) ∧ (∀ j x, j + 1 = k → xs[j]? = some x → last = x.fFrom + x.fCount - 1 ∧ 0 ≤ x.fFrom ∧ x.fFrom ≤ 65536 ∧ 1 ≤ x.fCount ∧ x.fCount ≤ 40) ∧ Hid (rgGo (-1) xs = rgGo last (xs.drop k)) ∧ Ext w wr) (fun i _ => xs.length - (intOf i).toNat)
    case atStart => exact ⟨0, -1, Nat.zero_le _, rfl, by omega, fun _ => rfl, fun j x hj => by omega, rfl, Ext.refl _⟩
    case round =>
      obtain ⟨k, last, hk, rfl, l0, hz, hpre, HG, hinv⟩ := hrel
      by_cases hlt : k < xs.length
      · (obtain ⟨x, hx_c⟩ := at_lt (k := k) hlt; obtain ⟨bc, oc, csc, e_c, hc_c, hr_c⟩ := hat k x hx_c; cases e_c; have hr0_c := hr_c; obtain ⟨rfl, ch0, ch1, ch2⟩ := hr0_c; have c0 := (hc_c.keep hinv) 0 _ rfl; have c1 := (hc_c.keep hinv) 1 _ rfl; have c2 := (hc_c.keep hinv) 2 _ rfl; simp only [CharRangeC_n, Nat.add_zero, Nat.mul_one] at c0 c1 c2; have HXc := Lib.hid hx_c; have HDc := Lib.hid (drop_cons hx_c); have HRc := Lib.hid (CharRangeC.keep _ _ _ _ hinv hr_c); clear hr_c; clear hx_c hc_c)
        have HE : Hid (rgGo (-1) xs = (rgOne last x && rgGo (x.fFrom + x.fCount - 1) (xs.drop (k + 1)))) := by
          show rgGo (-1) xs = _
          rw [HG.out, HDc.out]; rfl
        have HN : Hid (rgOne last x = false → rgOk xs = false) := fun h => by rw [HM.out, HE.out, h]; rfl
        rcases Nat.eq_zero_or_pos k with hk0 | hk0
        · obtain rfl := hz hk0
          have hkb : decide ((0 : Int) < (k : Int)) = false := by simp [hk0]
          have hkn : decide (0 < k) = false := by simp [hk0]
          have HK := Lib.hid hk0
          clear hz hpre hat hk0
          go_wp2_with fail
          all_goals first
            | (go_ret; exact ⟨ret_bool (HN.out (by simp [rgOne]; omega)).symm, by (repeat (first | with_reducible exact Ext.refl _ | with_reducible assumption | with_reducible refine Ext.alloc ?_ _ | with_reducible refine Ext.drew ?_ | with_reducible refine Ext.drewN ?_ _ | (with_reducible refine Ext.setCell ?_ (by first | omega | (dsimp only; omega)) _) | with_reducible refine Ext.trans ?_ (by assumption)))⟩)
            | (go_quiet (fail)
               go_wp2_with fail
               go_roundw
               case rel => exact ⟨k + 1, x.fFrom + x.fCount - 1, by omega, by go_num, by omega, by omega, fun j y hj hy => (by
                    obtain rfl : j = k := by omega
                    rw [HXc.out] at hy
                    cases hy
                    exact ⟨rfl, by omega, by omega, by omega, by omega⟩), (by show rgGo (-1) xs = _; rw [HE.out, show rgOne (-1) x = true from by simp [rgOne]; omega]; rfl), by (repeat (first | with_reducible exact Ext.refl _ | with_reducible assumption | with_reducible refine Ext.alloc ?_ _ | with_reducible refine Ext.drew ?_ | with_reducible refine Ext.drewN ?_ _ | (with_reducible refine Ext.setCell ?_ (by first | omega | (dsimp only; omega)) _) | with_reducible refine Ext.trans ?_ (by assumption)))⟩
               case measure => simp [intOf]; omega)
        · have hlt1 : k - 1 < xs.length := by omega
          (obtain ⟨p, hx_d⟩ := at_lt (k := (k - 1)) hlt1; obtain ⟨bd, od, csd, e_d, hc_d, hr_d⟩ := hat (k - 1) p hx_d; cases e_d; have hr0_d := hr_d; obtain ⟨rfl, dh0, dh1, dh2⟩ := hr0_d; have d0 := (hc_d.keep hinv) 0 _ rfl; have d1 := (hc_d.keep hinv) 1 _ rfl; have d2 := (hc_d.keep hinv) 2 _ rfl; simp only [CharRangeC_n, Nat.add_zero, Nat.mul_one] at d0 d1 d2; have HXd := Lib.hid hx_d; have HDd := Lib.hid (drop_cons hx_d); have HRd := Lib.hid (CharRangeC.keep _ _ _ _ hinv hr_d); clear hr_d; clear hx_d hc_d)
          obtain ⟨e0, p1, p2, p3, p4⟩ := hpre (k - 1) p (by omega) HXd.out
          have E0 := Lib.hid e0
          have hkb : decide ((0 : Int) < (k : Int)) = true := by simp [hk0]
          have hkn : decide (0 < k) = true := by simp [hk0]
          have hw1 : IntKind.i64.wrap ((k : Int) - 1) = (k : Int) - 1 := IntWalk.i64_in _ (by omega)
          have hg1 : (0 : Int) ≤ (k : Int) - 1 := by omega
          have hg2 : (1 : Int) ≤ (k : Int) := by omega
          have hg3 : ((k : Int) - 1).toNat = k - 1 := by omega
          have hg4 : (k : Int) - 1 < (xs.length : Int) := by omega
          have hw2 : IntKind.i64.wrap (p.fFrom + p.fCount) = p.fFrom + p.fCount := IntWalk.i64_in _ (by omega)
          clear hz hpre hat hk0 e0
          go_wp2_with fail
          all_goals first
            | (go_ret; exact ⟨ret_bool (HN.out (by simp [rgOne]; omega)).symm, by (repeat (first | with_reducible exact Ext.refl _ | with_reducible assumption | with_reducible refine Ext.alloc ?_ _ | with_reducible refine Ext.drew ?_ | with_reducible refine Ext.drewN ?_ _ | (with_reducible refine Ext.setCell ?_ (by first | omega | (dsimp only; omega)) _) | with_reducible refine Ext.trans ?_ (by assumption)))⟩)
            | ((refine name_world ?_; intro w1 hb1; obtain ⟨hc1, hf1⟩ := hb1.keeps; have hE1 := Ext.rule w1; have hG1 := Ext.ruleF w1)
               have hx1 : Ext wr w1 := by (repeat (first | with_reducible exact Ext.refl _ | with_reducible assumption | with_reducible refine Ext.alloc ?_ _ | with_reducible refine Ext.drew ?_ | with_reducible refine Ext.drewN ?_ _ | (with_reducible refine Ext.setCell ?_ (by first | omega | (dsimp only; omega)) _) | with_reducible refine Ext.trans ?_ (by assumption)))
               have d0 := hx1.cellSome d0
               have d1 := hx1.cellSome d1
               go_region_held3 (fun w' => Ext w1 w') ((repeat (first | with_reducible exact Ext.refl _ | with_reducible assumption | with_reducible refine Ext.alloc ?_ _ | with_reducible refine Ext.drew ?_ | with_reducible refine Ext.drewN ?_ _ | (with_reducible refine Ext.setCell ?_ (by first | omega | (dsimp only; omega)) _) | with_reducible refine Ext.trans ?_ (by assumption)))) ((first | fail))
               go_wp2_with fail
               all_goals first
                 | (go_roundw
                    case rel => exact ⟨k + 1, x.fFrom + x.fCount - 1, by omega, by go_num, by omega, by omega, fun j y hj hy => (by
                      obtain rfl : j = k := by omega
                      rw [HXc.out] at hy
                      cases hy
                      exact ⟨rfl, by omega, by omega, by omega, by omega⟩), (by show rgGo (-1) xs = _; rw [HE.out, show rgOne last x = true from by (have := E0.out; simp [rgOne]; omega)]; rfl), by (repeat (first | with_reducible exact Ext.refl _ | with_reducible assumption | with_reducible refine Ext.alloc ?_ _ | with_reducible refine Ext.drew ?_ | with_reducible refine Ext.drewN ?_ _ | (with_reducible refine Ext.setCell ?_ (by first | omega | (dsimp only; omega)) _) | with_reducible refine Ext.trans ?_ (by assumption)))⟩
                    case measure => simp [intOf]; omega)
                 | (go_ret; exact ⟨ret_bool (HN.out (by (have := E0.out; simp [rgOne]; omega))).symm, by (repeat (first | with_reducible exact Ext.refl _ | with_reducible assumption | with_reducible refine Ext.alloc ?_ _ | with_reducible refine Ext.drew ?_ | with_reducible refine Ext.drewN ?_ _ | (with_reducible refine Ext.setCell ?_ (by first | omega | (dsimp only; omega)) _) | with_reducible refine Ext.trans ?_ (by assumption)))⟩))
      · have HA : Hid (rgGo (-1) xs = true) := by show rgGo (-1) xs = true; rw [HG.out, drop_nil (Nat.le_of_not_lt hlt)]; rfl
        clear hat hz hpre
        go_wp2
        go_ret
        exact ⟨ret_bool (by rw [HM.out, HA.out]), by (repeat (first | with_reducible exact Ext.refl _ | with_reducible assumption | with_reducible refine Ext.alloc ?_ _ | with_reducible refine Ext.drew ?_ | with_reducible refine Ext.drewN ?_ _ | (with_reducible refine Ext.setCell ?_ (by first | omega | (dsimp only; omega)) _) | with_reducible refine Ext.trans ?_ (by assumption)))⟩
  · have HM : Hid (rgOk xs = false) := by show rgOk xs = _; rw [rgOk, decide_eq_false hm, Bool.false_and]
    have hm' : (40 : Int) < xs.length := by omega
    clear hat
    go_enter Try.func36, Try.ntmps36
    go_wp2
    go_ret
    exact ⟨ret_bool HM.out.symm, by (repeat (first | with_reducible exact Ext.refl _ | with_reducible assumption | with_reducible refine Ext.alloc ?_ _ | with_reducible refine Ext.drew ?_ | with_reducible refine Ext.drewN ?_ _ | (with_reducible refine Ext.setCell ?_ (by first | omega | (dsimp only; omega)) _) | with_reducible refine Ext.trans ?_ (by assumption)))⟩
end Go.Proofs.Ytcpoglgldelhnaa
