/- The types of the program, as the abstract machine knows them, each checked against the program. Written by a program (wip/tools/gen_tt.py). -/
import Derived.Test.YtnbhanbpaeidbaaVMTac
import Derived.Test.YtnbhanbpaeidbaaChecked
set_option linter.unusedSimpArgs false
set_option linter.unusedVariables false
namespace Go.Proofs.Ytnbhanbpaeidbaa
open Go.RowKit
def ti2 : TI := ⟨(.int .i64), 1, 8, (.d (.int .i64 0)), false⟩
def ti3 : TI := ⟨(.int .i64), 1, 8, (.d (.int .i64 0)), false⟩
def ti4 : TI := ⟨.bool, 1, 1, (.d (.bool false)), false⟩
def ti5 : TI := ⟨(.int .u8), 1, 1, (.d (.int .u8 0)), false⟩
def ti6 : TI := ⟨(.int .u8), 1, 1, (.d (.int .u8 0)), false⟩
def ti7 : TI := ⟨(.strct [(0, 2), (1, 3), (2, 4), (3, 6)]), 4, 24, (.st [(.d (.int .i64 0)), (.d (.int .i64 0)), (.d (.bool false)), (.d (.int .u8 0))]), true⟩
def ti8 : TI := ⟨(.strct [(0, 2), (1, 3), (2, 4), (3, 6)]), 4, 24, (.st [(.d (.int .i64 0)), (.d (.int .i64 0)), (.d (.bool false)), (.d (.int .u8 0))]), true⟩
def ti9 : TI := ⟨.str, 1, 16, (.d (.str .empty)), false⟩
def ti10 : TI := ⟨.str, 1, 16, (.d (.str .empty)), false⟩
def ti11 : TI := ⟨.str, 1, 16, (.d (.str .empty)), false⟩
def ti12 : TI := ⟨(.int .u64), 1, 8, (.d (.int .u64 0)), false⟩
def ti13 : TI := ⟨(.strct [(0, 9), (1, 12)]), 2, 24, (.st [(.d (.str .empty)), (.d (.int .u64 0))]), false⟩
def ti14 : TI := ⟨(.strct [(0, 9), (1, 12)]), 2, 24, (.st [(.d (.str .empty)), (.d (.int .u64 0))]), false⟩
def ti15 : TI := ⟨(.ptr 106), 1, 8, .nilp, false⟩
def ti16 : TI := ⟨(.ptr 109), 1, 8, .nilp, false⟩
def ti17 : TI := ⟨(.ptr 118), 1, 8, .nilp, false⟩
def ti18 : TI := ⟨(.strct [(0, 17)]), 1, 8, (.st [.nilp]), false⟩
def ti19 : TI := ⟨(.strct [(0, 17)]), 1, 8, (.st [.nilp]), false⟩
def ti21 : TI := ⟨(.int .i32), 1, 4, (.d (.int .i32 0)), false⟩
def ti22 : TI := ⟨(.sl 82), 1, 24, .nils, false⟩
def ti23 : TI := ⟨(.strct [(0, 9), (1, 2), (2, 2), (3, 2), (4, 22)]), 5, 64, (.st [(.d (.str .empty)), (.d (.int .i64 0)), (.d (.int .i64 0)), (.d (.int .i64 0)), .nils]), false⟩
def ti24 : TI := ⟨(.strct [(0, 9), (1, 2), (2, 2), (3, 2), (4, 22)]), 5, 64, (.st [(.d (.str .empty)), (.d (.int .i64 0)), (.d (.int .i64 0)), (.d (.int .i64 0)), .nils]), false⟩
def ti27 : TI := ⟨(.sl 67), 1, 24, .nils, false⟩
def ti28 : TI := ⟨(.strct [(0, 9), (1, 2), (2, 2), (3, 2), (4, 27)]), 5, 64, (.st [(.d (.str .empty)), (.d (.int .i64 0)), (.d (.int .i64 0)), (.d (.int .i64 0)), .nils]), false⟩
def ti29 : TI := ⟨(.strct [(0, 9), (1, 2), (2, 2), (3, 2), (4, 27)]), 5, 64, (.st [(.d (.str .empty)), (.d (.int .i64 0)), (.d (.int .i64 0)), (.d (.int .i64 0)), .nils]), false⟩
def ti33 : TI := ⟨(.sl 24), 1, 24, .nils, false⟩
def ti36 : TI := ⟨(.sl 29), 1, 24, .nils, false⟩
def ti48 : TI := ⟨(.sl 2), 1, 24, .nils, false⟩
def ti59 : TI := ⟨(.ptr 29), 1, 8, .nilp, false⟩
def ti66 : TI := ⟨(.strct [(0, 2), (1, 2)]), 2, 16, (.st [(.d (.int .i64 0)), (.d (.int .i64 0))]), true⟩
def ti67 : TI := ⟨(.strct [(0, 2), (1, 2)]), 2, 16, (.st [(.d (.int .i64 0)), (.d (.int .i64 0))]), true⟩
def ti75 : TI := ⟨(.sl 9), 1, 24, .nils, false⟩
def ti82 : TI := ⟨(.strct [(0, 2), (1, 2)]), 2, 16, (.st [(.d (.int .i64 0)), (.d (.int .i64 0))]), true⟩
def ti88 : TI := ⟨(.ar 20 5), 20, 20, (.st [(.d (.int .u8 0)), (.d (.int .u8 0)), (.d (.int .u8 0)), (.d (.int .u8 0)), (.d (.int .u8 0)), (.d (.int .u8 0)), (.d (.int .u8 0)), (.d (.int .u8 0)), (.d (.int .u8 0)), (.d (.int .u8 0)), (.d (.int .u8 0)), (.d (.int .u8 0)), (.d (.int .u8 0)), (.d (.int .u8 0)), (.d (.int .u8 0)), (.d (.int .u8 0)), (.d (.int .u8 0)), (.d (.int .u8 0)), (.d (.int .u8 0)), (.d (.int .u8 0))]), false⟩
def ti89 : TI := ⟨(.int .u64), 1, 8, (.d (.int .u64 0)), false⟩
def ti90 : TI := ⟨(.sl 5), 1, 24, .nils, false⟩
def ti91 : TI := ⟨(.ptr 93), 1, 8, .nilp, false⟩
def ti92 : TI := ⟨(.strct [(0, 91), (1, 90)]), 2, 32, (.st [.nilp, .nils]), false⟩
def ti93 : TI := ⟨(.strct [(0, 91), (1, 90)]), 2, 32, (.st [.nilp, .nils]), false⟩
def ti101 : TI := ⟨(.ptr 5), 1, 8, .nilp, false⟩
def ti105 : TI := ⟨(.strct [(0, 17), (1, 17), (2, 17), (3, 9)]), 4, 40, (.st [.nilp, .nilp, .nilp, (.d (.str .empty))]), false⟩
def ti106 : TI := ⟨(.strct [(0, 17), (1, 17), (2, 17), (3, 9)]), 4, 40, (.st [.nilp, .nilp, .nilp, (.d (.str .empty))]), false⟩
def ti111 : TI := ⟨(.int .u32), 1, 4, (.d (.int .u32 0)), false⟩
def ti112 : TI := ⟨(.int .u8), 1, 1, (.d (.int .u8 0)), false⟩
def ti113 : TI := ⟨(.int .u8), 1, 1, (.d (.int .u8 0)), false⟩
def ti115 : TI := ⟨(.int .i32), 1, 4, (.d (.int .i32 0)), false⟩
def ti116 : TI := ⟨(.int .i32), 1, 4, (.d (.int .i32 0)), false⟩
def ttree : TTree := (.node (.node (.node (.node (.node (.node .leaf 2 ti2 .leaf) 3 ti3 .leaf) 4 ti4 (.node (.node .leaf 5 ti5 .leaf) 6 ti6 .leaf)) 7 ti7 (.node (.node (.node .leaf 8 ti8 .leaf) 9 ti9 .leaf) 10 ti10 (.node (.node .leaf 11 ti11 .leaf) 12 ti12 .leaf))) 13 ti13 (.node (.node (.node (.node .leaf 14 ti14 .leaf) 15 ti15 .leaf) 16 ti16 (.node (.node .leaf 17 ti17 .leaf) 18 ti18 .leaf)) 19 ti19 (.node (.node (.node .leaf 21 ti21 .leaf) 22 ti22 .leaf) 23 ti23 (.node (.node .leaf 24 ti24 .leaf) 27 ti27 .leaf)))) 28 ti28 (.node (.node (.node (.node (.node .leaf 29 ti29 .leaf) 33 ti33 .leaf) 36 ti36 (.node (.node .leaf 48 ti48 .leaf) 59 ti59 .leaf)) 66 ti66 (.node (.node (.node .leaf 67 ti67 .leaf) 75 ti75 .leaf) 82 ti82 (.node (.node .leaf 88 ti88 .leaf) 89 ti89 .leaf))) 90 ti90 (.node (.node (.node (.node .leaf 91 ti91 .leaf) 92 ti92 .leaf) 93 ti93 (.node (.node .leaf 101 ti101 .leaf) 105 ti105 .leaf)) 106 ti106 (.node (.node (.node .leaf 111 ti111 .leaf) 112 ti112 .leaf) 113 ti113 (.node (.node .leaf 115 ti115 .leaf) 116 ti116 .leaf)))))
def tt : TT := ttree.find
theorem tok2 : TIok Try.prog 2 ti2 := TIok.of (by kernel_rfl) (by kernel_rfl) (by kernel_rfl) (by kernel_rfl)
theorem tok3 : TIok Try.prog 3 ti3 := TIok.of (by kernel_rfl) (by kernel_rfl) (by kernel_rfl) (by kernel_rfl)
theorem tok4 : TIok Try.prog 4 ti4 := TIok.of (by kernel_rfl) (by kernel_rfl) (by kernel_rfl) (by kernel_rfl)
theorem tok5 : TIok Try.prog 5 ti5 := TIok.of (by kernel_rfl) (by kernel_rfl) (by kernel_rfl) (by kernel_rfl)
theorem tok6 : TIok Try.prog 6 ti6 := TIok.of (by kernel_rfl) (by kernel_rfl) (by kernel_rfl) (by kernel_rfl)
theorem tok7 : TIok Try.prog 7 ti7 := TIok.of (by kernel_rfl) (by kernel_rfl) (by kernel_rfl) (by kernel_rfl)
theorem tok8 : TIok Try.prog 8 ti8 := TIok.of (by kernel_rfl) (by kernel_rfl) (by kernel_rfl) (by kernel_rfl)
theorem tok9 : TIok Try.prog 9 ti9 := TIok.of (by kernel_rfl) (by kernel_rfl) (by kernel_rfl) (by kernel_rfl)
theorem tok10 : TIok Try.prog 10 ti10 := TIok.of (by kernel_rfl) (by kernel_rfl) (by kernel_rfl) (by kernel_rfl)
theorem tok11 : TIok Try.prog 11 ti11 := TIok.of (by kernel_rfl) (by kernel_rfl) (by kernel_rfl) (by kernel_rfl)
theorem tok12 : TIok Try.prog 12 ti12 := TIok.of (by kernel_rfl) (by kernel_rfl) (by kernel_rfl) (by kernel_rfl)
theorem tok13 : TIok Try.prog 13 ti13 := TIok.of (by kernel_rfl) (by kernel_rfl) (by kernel_rfl) (by kernel_rfl)
theorem tok14 : TIok Try.prog 14 ti14 := TIok.of (by kernel_rfl) (by kernel_rfl) (by kernel_rfl) (by kernel_rfl)
theorem tok15 : TIok Try.prog 15 ti15 := TIok.of (by kernel_rfl) (by kernel_rfl) (by kernel_rfl) (by kernel_rfl)
theorem tok16 : TIok Try.prog 16 ti16 := TIok.of (by kernel_rfl) (by kernel_rfl) (by kernel_rfl) (by kernel_rfl)
theorem tok17 : TIok Try.prog 17 ti17 := TIok.of (by kernel_rfl) (by kernel_rfl) (by kernel_rfl) (by kernel_rfl)
theorem tok18 : TIok Try.prog 18 ti18 := TIok.of (by kernel_rfl) (by kernel_rfl) (by kernel_rfl) (by kernel_rfl)
theorem tok19 : TIok Try.prog 19 ti19 := TIok.of (by kernel_rfl) (by kernel_rfl) (by kernel_rfl) (by kernel_rfl)
theorem tok21 : TIok Try.prog 21 ti21 := TIok.of (by kernel_rfl) (by kernel_rfl) (by kernel_rfl) (by kernel_rfl)
theorem tok22 : TIok Try.prog 22 ti22 := TIok.of (by kernel_rfl) (by kernel_rfl) (by kernel_rfl) (by kernel_rfl)
theorem tok23 : TIok Try.prog 23 ti23 := TIok.of (by kernel_rfl) (by kernel_rfl) (by kernel_rfl) (by kernel_rfl)
theorem tok24 : TIok Try.prog 24 ti24 := TIok.of (by kernel_rfl) (by kernel_rfl) (by kernel_rfl) (by kernel_rfl)
theorem tok27 : TIok Try.prog 27 ti27 := TIok.of (by kernel_rfl) (by kernel_rfl) (by kernel_rfl) (by kernel_rfl)
theorem tok28 : TIok Try.prog 28 ti28 := TIok.of (by kernel_rfl) (by kernel_rfl) (by kernel_rfl) (by kernel_rfl)
theorem tok29 : TIok Try.prog 29 ti29 := TIok.of (by kernel_rfl) (by kernel_rfl) (by kernel_rfl) (by kernel_rfl)
theorem tok33 : TIok Try.prog 33 ti33 := TIok.of (by kernel_rfl) (by kernel_rfl) (by kernel_rfl) (by kernel_rfl)
theorem tok36 : TIok Try.prog 36 ti36 := TIok.of (by kernel_rfl) (by kernel_rfl) (by kernel_rfl) (by kernel_rfl)
theorem tok48 : TIok Try.prog 48 ti48 := TIok.of (by kernel_rfl) (by kernel_rfl) (by kernel_rfl) (by kernel_rfl)
theorem tok59 : TIok Try.prog 59 ti59 := TIok.of (by kernel_rfl) (by kernel_rfl) (by kernel_rfl) (by kernel_rfl)
theorem tok66 : TIok Try.prog 66 ti66 := TIok.of (by kernel_rfl) (by kernel_rfl) (by kernel_rfl) (by kernel_rfl)
theorem tok67 : TIok Try.prog 67 ti67 := TIok.of (by kernel_rfl) (by kernel_rfl) (by kernel_rfl) (by kernel_rfl)
theorem tok75 : TIok Try.prog 75 ti75 := TIok.of (by kernel_rfl) (by kernel_rfl) (by kernel_rfl) (by kernel_rfl)
theorem tok82 : TIok Try.prog 82 ti82 := TIok.of (by kernel_rfl) (by kernel_rfl) (by kernel_rfl) (by kernel_rfl)
theorem tok88 : TIok Try.prog 88 ti88 := TIok.of (by kernel_rfl) (by kernel_rfl) (by kernel_rfl) (by kernel_rfl)
theorem tok89 : TIok Try.prog 89 ti89 := TIok.of (by kernel_rfl) (by kernel_rfl) (by kernel_rfl) (by kernel_rfl)
theorem tok90 : TIok Try.prog 90 ti90 := TIok.of (by kernel_rfl) (by kernel_rfl) (by kernel_rfl) (by kernel_rfl)
theorem tok91 : TIok Try.prog 91 ti91 := TIok.of (by kernel_rfl) (by kernel_rfl) (by kernel_rfl) (by kernel_rfl)
theorem tok92 : TIok Try.prog 92 ti92 := TIok.of (by kernel_rfl) (by kernel_rfl) (by kernel_rfl) (by kernel_rfl)
theorem tok93 : TIok Try.prog 93 ti93 := TIok.of (by kernel_rfl) (by kernel_rfl) (by kernel_rfl) (by kernel_rfl)
theorem tok101 : TIok Try.prog 101 ti101 := TIok.of (by kernel_rfl) (by kernel_rfl) (by kernel_rfl) (by kernel_rfl)
theorem tok105 : TIok Try.prog 105 ti105 := TIok.of (by kernel_rfl) (by kernel_rfl) (by kernel_rfl) (by kernel_rfl)
theorem tok106 : TIok Try.prog 106 ti106 := TIok.of (by kernel_rfl) (by kernel_rfl) (by kernel_rfl) (by kernel_rfl)
theorem tok111 : TIok Try.prog 111 ti111 := TIok.of (by kernel_rfl) (by kernel_rfl) (by kernel_rfl) (by kernel_rfl)
theorem tok112 : TIok Try.prog 112 ti112 := TIok.of (by kernel_rfl) (by kernel_rfl) (by kernel_rfl) (by kernel_rfl)
theorem tok113 : TIok Try.prog 113 ti113 := TIok.of (by kernel_rfl) (by kernel_rfl) (by kernel_rfl) (by kernel_rfl)
theorem tok115 : TIok Try.prog 115 ti115 := TIok.of (by kernel_rfl) (by kernel_rfl) (by kernel_rfl) (by kernel_rfl)
theorem tok116 : TIok Try.prog 116 ti116 := TIok.of (by kernel_rfl) (by kernel_rfl) (by kernel_rfl) (by kernel_rfl)
theorem ttOk : TOk Try.prog tt := TTree.ok (tr := ttree) ⟨⟨⟨⟨⟨⟨trivial, tok2, trivial⟩, tok3, trivial⟩, tok4, ⟨⟨trivial, tok5, trivial⟩, tok6, trivial⟩⟩, tok7, ⟨⟨⟨trivial, tok8, trivial⟩, tok9, trivial⟩, tok10, ⟨⟨trivial, tok11, trivial⟩, tok12, trivial⟩⟩⟩, tok13, ⟨⟨⟨⟨trivial, tok14, trivial⟩, tok15, trivial⟩, tok16, ⟨⟨trivial, tok17, trivial⟩, tok18, trivial⟩⟩, tok19, ⟨⟨⟨trivial, tok21, trivial⟩, tok22, trivial⟩, tok23, ⟨⟨trivial, tok24, trivial⟩, tok27, trivial⟩⟩⟩⟩, tok28, ⟨⟨⟨⟨⟨trivial, tok29, trivial⟩, tok33, trivial⟩, tok36, ⟨⟨trivial, tok48, trivial⟩, tok59, trivial⟩⟩, tok66, ⟨⟨⟨trivial, tok67, trivial⟩, tok75, trivial⟩, tok82, ⟨⟨trivial, tok88, trivial⟩, tok89, trivial⟩⟩⟩, tok90, ⟨⟨⟨⟨trivial, tok91, trivial⟩, tok92, trivial⟩, tok93, ⟨⟨trivial, tok101, trivial⟩, tok105, trivial⟩⟩, tok106, ⟨⟨⟨trivial, tok111, trivial⟩, tok112, trivial⟩, tok113, ⟨⟨trivial, tok115, trivial⟩, tok116, trivial⟩⟩⟩⟩⟩

end Go.Proofs.Ytnbhanbpaeidbaa
