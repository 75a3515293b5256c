/- Normal coordinates and numbers in bounds: what the small functions return. -/
import Derived.Test.YtcpoglgldelhnaaLawFns
namespace Go.Proofs.Ytcpoglgldelhnaa
open Go.RowKit

def nrm (a : Int) : Bool := decide (-16384 ≤ a ∧ a ≤ 16384)
def inB (n lo hi : Int) : Bool := decide (lo ≤ n ∧ n ≤ hi)

theorem isNormal_c (a : Int) (w : World) : Calls Try.prog 29 #[.int .i64 a] w fun e w' => e = .returned (.bool (nrm a)) ∧ w = w' := by
  go_enter Try.func29, Try.ntmps29
  go_wp2
  all_goals (go_ret; refine ⟨?_, rfl⟩; simp_all [nrm]; try omega)

theorem l00In_c (n lo hi : Int) (w : World) : Calls Try.prog 34 #[.int .i64 n, .int .i64 lo, .int .i64 hi] w fun e w' => e = .returned (.bool (inB n lo hi)) ∧ w = w' := by
  go_enter Try.func34, Try.ntmps34
  go_wp2
  all_goals (go_ret; refine ⟨?_, rfl⟩; simp_all [inB]; try omega)

theorem l29Normal_c (n : Int) (w : World) : Calls Try.prog 38 #[.int .i64 n] w fun e w' => e = .returned (.bool (nrm n)) ∧ w = w' := by
  go_enter Try.func38, Try.ntmps38
  go_wp2_with (go_at_call 34; refine (l00In_c _ _ _ _).mono ?_; rintro e w' ⟨rfl, rfl⟩)
  all_goals (go_ret; refine ⟨?_, rfl⟩; simp_all [nrm, inB])

end Go.Proofs.Ytcpoglgldelhnaa
