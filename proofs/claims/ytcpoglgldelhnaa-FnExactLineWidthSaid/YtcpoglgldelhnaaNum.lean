/- Rounded division, the lesser and the greater of two numbers: what the program's and the reference's functions return, for all numbers. -/
import Derived.Test.YtcpoglgldelhnaaLawFns
namespace Go.Proofs.Ytcpoglgldelhnaa
open Go.RowKit

/-- the rounded quotient -/
def divR (n d : Int) : Int := if d ≤ 0 then 0 else if d - n % d ≤ n % d then n / d + 1 else n / d

theorem div_facts {n d : Int} (hd : 0 < d) (hn : I64 n) : 0 ≤ n % d ∧ n % d < d ∧ -9223372036854775808 ≤ n / d ∧ n / d ≤ 9223372036854775807 ∧ (2 ≤ d → -4611686018427387904 ≤ n / d ∧ n / d ≤ 4611686018427387903) := by
  obtain ⟨h1, h2⟩ := hn
  have hm := Int.emod_add_mul_ediv n d
  have a := Int.emod_nonneg n (show d ≠ 0 by omega)
  have b := Int.emod_lt_of_pos n hd
  refine ⟨a, b, ?_, ?_, fun h => ⟨?_, ?_⟩⟩
  · exact (Int.le_ediv_iff_mul_le hd).2 (by have : -9223372036854775808 * d ≤ -9223372036854775808 * 1 := Int.mul_le_mul_of_nonpos_left (by omega) (by omega); omega)
  · have : n / d < 9223372036854775808 := (Int.ediv_lt_iff_lt_mul hd).2 (by have : 9223372036854775808 * 1 ≤ 9223372036854775808 * d := Int.mul_le_mul_of_nonneg_left (by omega) (by omega); omega)
    omega
  · exact (Int.le_ediv_iff_mul_le hd).2 (by have : -4611686018427387904 * d ≤ -4611686018427387904 * 2 := Int.mul_le_mul_of_nonpos_left (by omega) (by omega); omega)
  · have : n / d < 4611686018427387904 := (Int.ediv_lt_iff_lt_mul hd).2 (by have : 4611686018427387904 * 2 ≤ 4611686018427387904 * d := Int.mul_le_mul_of_nonneg_left (by omega) (by omega); omega)
    omega

/-- Go's own quotient and remainder against the floor's -/
theorem tdiv_facts {n d : Int} (hd : 0 < d) (hn : I64 n) :
    (n.tmod d < 0 → n.tdiv d - 1 = n / d ∧ n.tmod d + d = n % d ∧ -d < n.tmod d ∧ 2 ≤ d) ∧ (0 ≤ n.tmod d → n.tdiv d = n / d ∧ n.tmod d = n % d) := by
  have e := Int.tmod_add_mul_tdiv n d
  have e' := Int.emod_add_mul_ediv n d
  have a := Int.emod_nonneg n (show d ≠ 0 by omega)
  have b := Int.emod_lt_of_pos n hd
  have c := Int.lt_tmod_of_pos n hd
  have c' := Int.tmod_lt_of_pos n hd
  constructor
  · intro h
    have h1 : d * (n.tdiv d - 1) + (n.tmod d + d) = n := by rw [Int.mul_sub]; omega
    have h2 : n / d = n.tdiv d - 1 := by
      have := Int.ediv_emod_unique hd (a := n) (r := n.tmod d + d) (q := n.tdiv d - 1)
      exact (this.2 ⟨by rw [Int.add_comm]; exact h1, by omega, by omega⟩).1
    have h3 : n % d = n.tmod d + d := by
      have := Int.ediv_emod_unique hd (a := n) (r := n.tmod d + d) (q := n.tdiv d - 1)
      exact (this.2 ⟨by rw [Int.add_comm]; exact h1, by omega, by omega⟩).2
    exact ⟨h2.symm, h3.symm, c, by omega⟩
  · intro h
    have := Int.ediv_emod_unique hd (a := n) (r := n.tmod d) (q := n.tdiv d)
    have := this.2 ⟨e, h, c'⟩
    exact ⟨this.1.symm, this.2.symm⟩

theorem divR_pos {n d : Int} (hd : 0 < d) : divR n d = if d - n % d ≤ n % d then n / d + 1 else n / d := if_neg (by omega)

theorem l03Round_c (n d : Int) (w : World) (hn : I64 n) (hd : I64 d) (h0 : 0 < d) : Calls Try.prog 61 #[.int .i64 n, .int .i64 d] w fun e w' => e = .returned (.int .i64 (divR n d)) ∧ w = w' := by
  have hf := div_facts h0 hn
  have ht := tdiv_facts h0 hn
  have hR := Lib.hid (divR_pos (n := n) h0)
  obtain ⟨n1, n2⟩ := hn
  obtain ⟨d1, d2⟩ := hd
  obtain ⟨f1, f2, f3, f4, f5⟩ := hf
  by_cases hm : n.tmod d < 0
  · obtain ⟨t1, t2, t3, t4⟩ := ht.1 hm
    have hb := f5 t4
    have b1 : -4611686018427387905 ≤ n.tdiv d := by omega
    have b2 : n.tdiv d ≤ 4611686018427387904 := by omega
    have T1 := Lib.hid t1
    have T2 := Lib.hid t2
    clear t1 t2 ht f5
    go_enter Try.func61, Try.ntmps61
    go_wp2
    all_goals (go_ret; refine ⟨ret_int ?_, rfl⟩; rw [hR.out, ← T1.out, ← T2.out]; split <;> omega)
  · obtain ⟨t1, t2⟩ := ht.2 (by omega)
    have hm' : 0 ≤ n.tmod d := by omega
    have hq : 2 ≤ d ∨ d = 1 := by omega
    have T1 := Lib.hid t1
    have T2 := Lib.hid t2
    have b3 : n.tmod d < d := by omega
    rcases hq with hq | rfl
    · have hb := f5 hq
      have b1 : -4611686018427387905 ≤ n.tdiv d := by omega
      have b2 : n.tdiv d ≤ 4611686018427387904 := by omega
      clear t1 t2 ht f5
      go_enter Try.func61, Try.ntmps61
      go_wp2
      all_goals (go_ret; refine ⟨ret_int ?_, rfl⟩; rw [hR.out, ← T1.out, ← T2.out]; split <;> omega)
    · have hz : n.tmod 1 = 0 := Int.tmod_one n
      clear t1 t2 ht f5
      go_enter Try.func61, Try.ntmps61
      go_wp2
      all_goals (go_ret; refine ⟨ret_int ?_, rfl⟩; rw [hR.out]; simp)
theorem specDivRound_c (n d : Int) (w : World) (hn : I64 n) (hd : I64 d) : Calls Try.prog 51 #[.int .i64 n, .int .i64 d] w fun e w' => e = .returned (.int .i64 (divR n d)) ∧ w = w' := by
  by_cases h0 : 0 < d
  · have HN := Lib.hid hn
    have HD := Lib.hid hd
    go_enter Try.func51, Try.ntmps51
    go_wp2_with (go_at_call 61; refine (l03Round_c _ _ _ HN.out HD.out h0).mono ?_; rintro e w' ⟨rfl, rfl⟩)
    go_ret
    exact ⟨rfl, rfl⟩
  · go_enter Try.func51, Try.ntmps51
    go_wp2_with fail
    go_ret
    exact ⟨ret_int (by rw [divR, if_pos (by omega)]), rfl⟩
theorem floorDiv_c (n d : Int) (w : World) (hn : I64 n) (hd : I64 d) (h0 : 0 < d) : Calls Try.prog 62 #[.int .i64 n, .int .i64 d] w fun e w' => e = .returned (.int .i64 (n / d)) ∧ w = w' := by
  have hf := div_facts h0 hn
  have ht := tdiv_facts h0 hn
  obtain ⟨n1, n2⟩ := hn
  obtain ⟨d1, d2⟩ := hd
  obtain ⟨f1, f2, f3, f4, f5⟩ := hf
  by_cases hm : n.tmod d < 0
  · obtain ⟨t1, t2, t3, t4⟩ := ht.1 hm
    have hb := f5 t4
    have b1 : -4611686018427387905 ≤ n.tdiv d := by omega
    have b2 : n.tdiv d ≤ 4611686018427387904 := by omega
    have T1 := Lib.hid t1
    clear t1 t2 ht f5
    go_enter Try.func62, Try.ntmps62
    go_wp2
    go_ret
    exact ⟨ret_int T1.out, rfl⟩
  · obtain ⟨t1, t2⟩ := ht.2 (by omega)
    have hm' : 0 ≤ n.tmod d := by omega
    have T1 := Lib.hid t1
    clear t1 t2 ht f5
    go_enter Try.func62, Try.ntmps62
    go_wp2
    go_ret
    exact ⟨ret_int T1.out, rfl⟩
theorem wrap_rem {n d : Int} (h0 : 0 < d) (hd : d ≤ 9223372036854775807) (hn : I64 n) : wrap64 (n - wrap64 (n / d * d)) = n % d := by
  have a := Int.emod_nonneg n (show d ≠ 0 by omega)
  have b := Int.emod_lt_of_pos n h0
  have e := Int.emod_add_mul_ediv n d
  rw [Int.mul_comm] at e
  obtain ⟨n1, n2⟩ := hn
  generalize n / d * d = t at *
  generalize n % d = r at *
  obtain rfl : n = r + t := by omega
  simp only [wrap64, IntKind.wrap_i64]
  omega
theorem DivRound_c (n d : Int) (w : World) (hn : I64 n) (hd : I64 d) : Calls Try.prog 52 #[.int .i64 n, .int .i64 d] w fun e w' => e = .returned (.int .i64 (divR n d)) ∧ w = w' := by
  by_cases h0 : 0 < d
  · have hf := div_facts h0 hn
    have hR := Lib.hid (divR_pos (n := n) h0)
    obtain ⟨f1, f2, f3, f4, f5⟩ := hf
    have hw := wrap_rem h0 hd.2 hn
    have HN := Lib.hid hn
    have HD := Lib.hid hd
    have d2 := hd.2
    clear hd hn
    by_cases h1 : d - n % d ≤ n % d
    · have hb := f5 (by omega)
      go_enter Try.func52, Try.ntmps52
      go_wp2_with (go_at_call 62; refine (floorDiv_c _ _ _ HN.out HD.out h0).mono ?_; rintro e w' ⟨rfl, rfl⟩)
      go_ret
      exact ⟨ret_int (by rw [hR.out, if_pos h1]), rfl⟩
    · go_enter Try.func52, Try.ntmps52
      go_wp2_with (go_at_call 62; refine (floorDiv_c _ _ _ HN.out HD.out h0).mono ?_; rintro e w' ⟨rfl, rfl⟩)
      go_ret
      exact ⟨ret_int (by rw [hR.out, if_neg (by omega)]), rfl⟩
  · go_enter Try.func52, Try.ntmps52
    go_wp2_with fail
    go_ret
    exact ⟨ret_int (by rw [divR, if_pos (by omega)]), rfl⟩
theorem l00Max_c (a b : Int) (w : World) : Calls Try.prog 60 #[.int .i64 a, .int .i64 b] w fun e w' => e = .returned (.int .i64 (max a b)) ∧ w = w' := by
  go_enter Try.func60, Try.ntmps60
  go_wp2
  all_goals (go_ret; refine ⟨ret_int ?_, rfl⟩; omega)
end Go.Proofs.Ytcpoglgldelhnaa
