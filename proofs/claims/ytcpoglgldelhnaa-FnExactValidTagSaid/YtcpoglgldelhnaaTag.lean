/- Tags: what the program's and the reference's functions return, for every string. -/
import Derived.Test.YtcpoglgldelhnaaLawFns
namespace Go.Proofs.Ytcpoglgldelhnaa
open Go.RowKit

def letB (c : UInt8) : Bool := (97 ≤ c && c ≤ 122) || (65 ≤ c && c ≤ 90)
def digB (c : UInt8) : Bool := 48 ≤ c && c ≤ 57
def tagT : Bool → List UInt8 → Bool
  | _, [] => true
  | first, c :: t => (letB c || (!first && (digB c || c.toNat == 32))) && tagT false t
/-- is this a tag? -/
def tagB (s : ByteArray) : Bool := decide (s.size = 4) && tagT true s.data.toList

theorem u8_le (a b : UInt8) : (a ≤ b) = ((a.toNat : Int) ≤ b.toNat) := by
  simp [UInt8.le_iff_toNat_le]
theorem isSmall_c (c : UInt8) (w : World) : Calls Try.prog 50 #[.int .u8 c.toNat] w fun e w' => e = .returned (.bool (97 ≤ c && c ≤ 122)) ∧ w = w' := by
  go_enter Try.func50, Try.ntmps50
  go_wp2
  all_goals (go_ret; refine ⟨?_, rfl⟩; simp_all [u8_le]; try omega)
theorem isLetter_c (c : UInt8) (w : World) : Calls Try.prog 31 #[.int .u8 c.toNat] w fun e w' => e = .returned (.bool (letB c)) ∧ w = w' := by
  go_enter Try.func31, Try.ntmps31
  go_wp2_with (go_at_call 50; refine (isSmall_c _ _).mono ?_; rintro e w' ⟨rfl, rfl⟩)
  all_goals (go_ret; refine ⟨?_, rfl⟩; simp_all [letB, u8_le]; try omega)
theorem isDigit_c (c : UInt8) (w : World) : Calls Try.prog 32 #[.int .u8 c.toNat] w fun e w' => e = .returned (.bool (digB c)) ∧ w = w' := by
  go_enter Try.func32, Try.ntmps32
  go_wp2
  all_goals (go_ret; refine ⟨?_, rfl⟩; simp_all [digB, u8_le]; try omega)
theorem l01Digit_c (c : UInt8) (w : World) : Calls Try.prog 49 #[.int .u8 c.toNat] w fun e w' => e = .returned (.bool (digB c)) ∧ w = w' := by
  go_enter Try.func49, Try.ntmps49
  go_wp2
  all_goals (go_ret; refine ⟨?_, rfl⟩; simp_all [digB, u8_le]; try omega)
theorem bget {s : ByteArray} {k : Nat} (h : k < s.size) : s.data.toList[k]? = some (s[k]'h) := by
  have h' : k < s.data.toList.length := h
  rw [List.getElem?_eq_getElem h']
  rfl
theorem tagT_cons {f : Bool} {c : UInt8} {t : List UInt8} : tagT f (c :: t) = ((letB c || (!f && (digB c || c.toNat == 32))) && tagT false t) := rfl
theorem ValidTag_c (s : ByteArray) (w : World) : Calls Try.prog 13 #[.string s] w fun e w' => e = .returned (.bool (tagB s)) ∧ Ext w w' := by
  by_cases h4 : s.size = 4
  · have hb0 : 0 < s.size := by omega
    have HF : Hid (tagB s = ((letB (s[0]'hb0)) && tagT false (s.data.toList.drop 1))) := by
      show tagB s = _
      rw [tagB, decide_eq_true h4, ← List.drop_zero (l := s.data.toList), drop_cons (bget hb0), tagT_cons]
      simp
    have hne : (((s.size : Nat) : Int) != 4) = false := by simp [h4]
    have hb1 : s.size ≤ 4 := by omega
    have hb2 : 4 ≤ s.size := by omega
    have H4 := Lib.hid h4
    clear h4
    by_cases hl0 : letB (s[0]'hb0) = true
    · go_enter Try.func13, Try.ntmps13
      go_wp2_with (go_at_call 31; refine (isLetter_c _ _).mono ?_; rintro e w' ⟨rfl, rfl⟩)
      go_loopw [3] (fun i wr => ∃ k : Nat, 1 ≤ k ∧ k ≤ 4 ∧ i = .int .i64 k ∧ Hid (tagB s = tagT false (s.data.toList.drop k)) ∧ Ext w wr) (fun i _ => 4 - (intOf i).toNat)
      case atStart => exact ⟨1, by omega, by omega, rfl, by show tagB s = _; rw [HF.out, hl0]; rfl, Ext.refl _⟩
      case round =>
        obtain ⟨k, hk1, hk, rfl, HT, hinv⟩ := hrel
        by_cases hlt : k < 4
        · have hks : k < s.size := by omega
          have HD := Lib.hid (drop_cons (bget hks))
          go_wp2_with (first | (go_at_call 31; refine (isLetter_c _ _).mono ?_; rintro e w' ⟨rfl, rfl⟩) | (go_at_call 32; refine (isDigit_c _ _).mono ?_; rintro e w' ⟨rfl, rfl⟩))
          all_goals first
            | (go_roundw
               case rel => exact ⟨k + 1, by omega, by omega, by go_num, by show tagB s = _; rw [HT.out, HD.out, tagT_cons]; clear HT HD HF; simp_all; try omega, by (repeat (first | with_reducible exact Ext.refl _ | with_reducible assumption | with_reducible refine Ext.alloc ?_ _ | with_reducible refine Ext.drew ?_ | with_reducible refine Ext.drewN ?_ _ | (with_reducible refine Ext.setCell ?_ (by first | omega | (dsimp only; omega)) _) | with_reducible refine Ext.trans ?_ (by assumption)))⟩
               case measure => simp [intOf]; omega)
            | (go_ret; exact ⟨ret_bool (by rw [HT.out, HD.out, tagT_cons]; clear HT HD HF; simp_all; try omega), by (repeat (first | with_reducible exact Ext.refl _ | with_reducible assumption | with_reducible refine Ext.alloc ?_ _ | with_reducible refine Ext.drew ?_ | with_reducible refine Ext.drewN ?_ _ | (with_reducible refine Ext.setCell ?_ (by first | omega | (dsimp only; omega)) _) | with_reducible refine Ext.trans ?_ (by assumption)))⟩)
        · obtain rfl : k = 4 := by omega
          go_wp2
          go_ret
          exact ⟨by rw [HT.out, drop_nil (by simpa using hb1)]; rfl, by (repeat (first | with_reducible exact Ext.refl _ | with_reducible assumption | with_reducible refine Ext.alloc ?_ _ | with_reducible refine Ext.drew ?_ | with_reducible refine Ext.drewN ?_ _ | (with_reducible refine Ext.setCell ?_ (by first | omega | (dsimp only; omega)) _) | with_reducible refine Ext.trans ?_ (by assumption)))⟩
    · go_enter Try.func13, Try.ntmps13
      go_wp2_with (go_at_call 31; refine (isLetter_c _ _).mono ?_; rintro e w' ⟨rfl, rfl⟩)
      go_ret
      exact ⟨by rw [HF.out]; simp_all, by (repeat (first | with_reducible exact Ext.refl _ | with_reducible assumption | with_reducible refine Ext.alloc ?_ _ | with_reducible refine Ext.drew ?_ | with_reducible refine Ext.drewN ?_ _ | (with_reducible refine Ext.setCell ?_ (by first | omega | (dsimp only; omega)) _) | with_reducible refine Ext.trans ?_ (by assumption)))⟩
  · have hne : (((s.size : Nat) : Int) != 4) = true := by simp; omega
    have H4 := Lib.hid h4
    clear h4
    go_enter Try.func13, Try.ntmps13
    go_wp2_with fail
    go_ret
    exact ⟨by rw [tagB, decide_eq_false H4.out]; rfl, by (repeat (first | with_reducible exact Ext.refl _ | with_reducible assumption | with_reducible refine Ext.alloc ?_ _ | with_reducible refine Ext.drew ?_ | with_reducible refine Ext.drewN ?_ _ | (with_reducible refine Ext.setCell ?_ (by first | omega | (dsimp only; omega)) _) | with_reducible refine Ext.trans ?_ (by assumption)))⟩
theorem letB_ways (c : UInt8) (h : letB c = false) :
    (decide ((65 : Int) ≤ c.toNat) = false ∧ decide ((c.toNat : Int) ≤ 90) = true ∧ decide ((97 : Int) ≤ c.toNat) = false ∧ decide ((c.toNat : Int) ≤ 122) = true) ∨
    (decide ((65 : Int) ≤ c.toNat) = true ∧ decide ((c.toNat : Int) ≤ 90) = false ∧ decide ((97 : Int) ≤ c.toNat) = false ∧ decide ((c.toNat : Int) ≤ 122) = true) ∨
    (decide ((65 : Int) ≤ c.toNat) = true ∧ decide ((c.toNat : Int) ≤ 90) = false ∧ decide ((97 : Int) ≤ c.toNat) = true ∧ decide ((c.toNat : Int) ≤ 122) = false) := by
  simp [letB, u8_le] at h
  simp
  omega
set_option maxHeartbeats 4000000 in
theorem l31Tag_c (s : ByteArray) (w : World) (hs : s.size ≤ maxLen) : Calls Try.prog 30 #[.string s] w fun e w' => e = .returned (.bool (tagB s)) ∧ Ext w w' := by
  have hs' : s.size ≤ 9223372036854775807 := hs
  clear hs
  go_enter Try.func30, Try.ntmps30
  go_wp2
  go_loopw [3] (fun i wr => ∃ k : Nat, k ≤ s.size ∧ i = .int .i64 k ∧ Hid (tagT true s.data.toList = tagT (decide (k = 0)) (s.data.toList.drop k)) ∧ Ext w wr) (fun i _ => s.size - (intOf i).toNat)
  case atStart => exact ⟨0, by omega, rfl, rfl, Ext.refl _⟩
  case round =>
    obtain ⟨k, hk, rfl, HT, hinv⟩ := hrel
    by_cases hlt : k < s.size
    · have HD := Lib.hid (drop_cons (bget hlt))
      have HB : Hid (tagB s = (decide (s.size = 4) && tagT true s.data.toList)) := rfl
      have hr0 : (0 : Int) ≤ ((s[k]'hlt).toNat : Int) := by omega
      by_cases hl : letB (s[k]'hlt) = true
      · have HR : Hid (tagT true s.data.toList = tagT (decide (k + 1 = 0)) (s.data.toList.drop (k + 1))) := by
          show tagT true s.data.toList = _
          rw [HT.out, HD.out, tagT_cons, hl]
          simp
        have hc : ((97 : Int) ≤ (s[k]'hlt).toNat ∧ ((s[k]'hlt).toNat : Int) ≤ 122) ∨ ((65 : Int) ≤ (s[k]'hlt).toNat ∧ ((s[k]'hlt).toNat : Int) ≤ 90) := by
          simpa [letB, u8_le] using hl
        clear hl
        rcases hc with ⟨c1, c2⟩ | ⟨c1, c2⟩
        all_goals
          go_wp2_with fail
          go_roundw
          case rel => exact ⟨k + 1, by omega, by go_num, HR, by (repeat (first | with_reducible exact Ext.refl _ | with_reducible assumption | with_reducible refine Ext.alloc ?_ _ | with_reducible refine Ext.drew ?_ | with_reducible refine Ext.drewN ?_ _ | (with_reducible refine Ext.setCell ?_ (by first | omega | (dsimp only; omega)) _) | with_reducible refine Ext.trans ?_ (by assumption)))⟩
          case measure => simp [intOf]; omega
      · have hc := letB_ways _ (Bool.eq_false_iff.2 hl)
        have HL : Hid (tagT true s.data.toList = ((!(decide (k = 0)) && (digB (s[k]'hlt) || (s[k]'hlt).toNat == 32)) && tagT false (s.data.toList.drop (k + 1)))) := by
          show tagT true s.data.toList = _
          rw [HT.out, HD.out, tagT_cons]
          simp [hl]
        clear hl
        by_cases hk0 : k = 0
        · have HN : Hid (tagB s = false) := by
            show tagB s = false
            rw [HB.out, HL.out]
            simp [hk0]
          clear HL
          have hkb : ((k : Int) == 0) = true := by simp [hk0]
          have HK := Lib.hid hk0
          clear hk0
          rcases hc with ⟨d1, d2, d3, d4⟩ | ⟨d1, d2, d3, d4⟩ | ⟨d1, d2, d3, d4⟩
          all_goals
            go_wp2_with fail
            go_ret
            exact ⟨ret_bool HN.out.symm, by (repeat (first | with_reducible exact Ext.refl _ | with_reducible assumption | with_reducible refine Ext.alloc ?_ _ | with_reducible refine Ext.drew ?_ | with_reducible refine Ext.drewN ?_ _ | (with_reducible refine Ext.setCell ?_ (by first | omega | (dsimp only; omega)) _) | with_reducible refine Ext.trans ?_ (by assumption)))⟩
        · have hkb : ((k : Int) == 0) = false := by simp [hk0]
          have HK := Lib.hid hk0
          clear hk0
          cases hd : digB (s[k]'hlt) <;> cases hsp : (((s[k]'hlt).toNat : Int) != 32)
          all_goals
            have HO : Hid (tagT true s.data.toList = ((digB (s[k]'hlt) || (s[k]'hlt).toNat == 32) && tagT false (s.data.toList.drop (k + 1)))) := by
              show tagT true s.data.toList = _
              rw [HL.out]
              simp [HK.out]
            have HS := Lib.hid hsp
            have HD' := Lib.hid hd
            rcases hc with ⟨d1, d2, d3, d4⟩ | ⟨d1, d2, d3, d4⟩ | ⟨d1, d2, d3, d4⟩
            all_goals
              go_wp2_with (go_at_call 49; refine (l01Digit_c _ _).mono ?_; rintro e w' ⟨rfl, rfl⟩; rw [HD'.out])
              first
              | (go_roundw
                 case rel => exact ⟨k + 1, by omega, by go_num, by show tagT true s.data.toList = _; rw [HO.out, HD'.out]; have h := HS.out; clear HT HD HB HL HO HS HD' HK; simp_all; try omega, by (repeat (first | with_reducible exact Ext.refl _ | with_reducible assumption | with_reducible refine Ext.alloc ?_ _ | with_reducible refine Ext.drew ?_ | with_reducible refine Ext.drewN ?_ _ | (with_reducible refine Ext.setCell ?_ (by first | omega | (dsimp only; omega)) _) | with_reducible refine Ext.trans ?_ (by assumption)))⟩
                 case measure => simp [intOf]; omega)
              | (go_ret; exact ⟨ret_bool (by rw [HB.out, HO.out, HD'.out]; have h := HS.out; clear HT HD HB HL HO HS HD' HK; simp_all; try omega), by (repeat (first | with_reducible exact Ext.refl _ | with_reducible assumption | with_reducible refine Ext.alloc ?_ _ | with_reducible refine Ext.drew ?_ | with_reducible refine Ext.drewN ?_ _ | (with_reducible refine Ext.setCell ?_ (by first | omega | (dsimp only; omega)) _) | with_reducible refine Ext.trans ?_ (by assumption)))⟩)
    · have HB : Hid (tagB s = (decide (s.size = 4) && tagT true s.data.toList)) := rfl
      have hTT : tagT true s.data.toList = true := by rw [HT.out, drop_nil (by simpa using hlt)]; rfl
      have HTT := Lib.hid hTT
      clear hTT
      go_wp2
      go_ret
      exact ⟨ret_bool (by rw [HB.out, HTT.out, Bool.and_true, Bool.eq_iff_iff]; simp; omega), by (repeat (first | with_reducible exact Ext.refl _ | with_reducible assumption | with_reducible refine Ext.alloc ?_ _ | with_reducible refine Ext.drew ?_ | with_reducible refine Ext.drewN ?_ _ | (with_reducible refine Ext.setCell ?_ (by first | omega | (dsimp only; omega)) _) | with_reducible refine Ext.trans ?_ (by assumption)))⟩
theorem specValidTag_c (s : ByteArray) (w : World) (hs : s.size ≤ maxLen) : Calls Try.prog 12 #[.string s] w fun e w' => e = .returned (.bool (tagB s)) ∧ Ext w w' := by
  have HS := Lib.hid hs
  clear hs
  go_enter Try.func12, Try.ntmps12
  go_wp2_with fail
  refine (l31Tag_c _ _ HS.out).mono ?_; rintro e w1 ⟨rfl, hb1⟩; obtain ⟨hc1, hf1⟩ := hb1.keeps
  go_wp2_with fail
  go_ret
  exact ⟨rfl, by (repeat (first | with_reducible exact Ext.refl _ | with_reducible assumption | with_reducible refine Ext.alloc ?_ _ | with_reducible refine Ext.drew ?_ | with_reducible refine Ext.drewN ?_ _ | (with_reducible refine Ext.setCell ?_ (by first | omega | (dsimp only; omega)) _) | with_reducible refine Ext.trans ?_ (by assumption)))⟩
end Go.Proofs.Ytcpoglgldelhnaa
