/- How the arguments of the laws read, at this seat's type numbers. Written by a program (wip/tools/gen_rd.py). -/
import Derived.Test.YtcpoglgldelhnaaRows
import Derived.Test.YtcpoglgldelhnaaTypes
namespace Go.Proofs.Ytcpoglgldelhnaa
open Go.RowKit

theorem own : ownKnob Try.prog.godebug = none := by kernel_rfl
theorem laidOut : laidOutB Try.prog = true := by kernel_rfl
theorem rd_int : Reads Try.prog 2 intC := reads_int Try.underlying2 (by kernel_rfl)
theorem rd_bool : Reads Try.prog 4 boolC := reads_bool Try.underlying4 (by kernel_rfl)
theorem rd_str : Reads Try.prog 9 strC := reads_str Try.underlying9 (by kernel_rfl)
theorem rd_intS : Reads Try.prog 72 (slC intC) := reads_slice Try.underlying72 (by kernel_rfl) (by decide) rd_int
theorem rd_Peak : Reads Try.prog 23 PeakC := reads_Peak Try.underlying23 (by kernel_rfl) rfl rd_int rfl rd_int rfl rd_int
theorem rd_CharRange : Reads Try.prog 56 CharRangeC := reads_CharRange Try.underlying56 (by kernel_rfl) rfl rd_int rfl rd_int rfl rd_int
theorem rd_CharRangeS : Reads Try.prog 29 (slC CharRangeC) := reads_slice Try.underlying29 (by kernel_rfl) (by decide) rd_CharRange
theorem rd_Slot : Reads Try.prog 63 SlotC := reads_Slot Try.underlying63 (by kernel_rfl) rfl rd_int rfl rd_int rfl rd_int rfl rd_int rfl rd_int rfl rd_int
theorem rd_SlotS : Reads Try.prog 40 (slC SlotC) := reads_slice Try.underlying40 (by kernel_rfl) (by decide) rd_Slot
end Go.Proofs.Ytcpoglgldelhnaa
