/- The types of the program, as the abstract machine knows them, each checked against the program. Written by a program (wip/tools/gen_tt.py). -/
import Derived.Test.YtdeafbgnbgihgaaVMTac
import Derived.Test.YtdeafbgnbgihgaaChecked
set_option linter.unusedSimpArgs false
set_option linter.unusedVariables false
namespace Go.Proofs.Ytdeafbgnbgihgaa
open Go.RowKit
theorem TIok.ofF {P : Program} {t : Nat} {i : TI} (h1 : ((P.info? t).map fun f => (f.size, f.bytes, f.zero)) = some (i.size, i.bytes, some Value.nilFunc)) (h2 : (P.underlying t).map tkOf = some .fn) (hk : i.kind = .fn) (hz : i.zero = .top) (hs : i.size = 1) (h4 : i.eq = false) : TIok P t i := by
  obtain ⟨f, hf, hf'⟩ := Option.map_eq_some_iff.1 h1
  obtain ⟨d, hd, hd'⟩ := Option.map_eq_some_iff.1 h2
  simp only [Prod.mk.injEq] at hf'
  obtain ⟨f1, f2, f3⟩ := hf'
  refine ⟨⟨f, d, Value.nilFunc, hf, f1, f2, f3, hd, by rw [hk]; exact tk_ok hd' (fun e => by cases e), fun w M h => ?_, ?_, fun _ => hs⟩, fun he => ?_⟩
  · rw [hz]; exact ⟨_, rfl, rfl⟩
  · rw [hs]; rfl
  · rw [h4] at he; cases he
def isMapT : Option TypeDesc → Nat → Nat → Bool
  | some (.map k e), k', e' => Nat.beq k k' && Nat.beq e e'
  | _, _, _ => false
theorem TIok.ofM {P : Program} {t k e : Nat} {i : TI} (h1 : ((P.info? t).map fun f => (f.size, f.bytes, f.zero)) = some (i.size, i.bytes, some (Value.map none))) (h2 : isMapT (P.underlying t) k e = true) (hk : i.kind = .mp k e) (hz : i.zero = .top) (hs : i.size = 1) (h4 : i.eq = false) : TIok P t i := by
  obtain ⟨f, hf, hf'⟩ := Option.map_eq_some_iff.1 h1
  simp only [Prod.mk.injEq] at hf'
  obtain ⟨f1, f2, f3⟩ := hf'
  cases hd : P.underlying t with
  | none => rw [hd] at h2; cases h2
  | some d =>
    rw [hd] at h2
    cases d <;> first
      | (cases h2; done)
      | skip
    simp only [isMapT, Bool.and_eq_true, nbeq] at h2
    refine ⟨⟨f, _, Value.map none, hf, f1, f2, f3, hd, by rw [hk]; exact h2, fun w M h => ?_, ?_, fun _ => hs⟩, fun he => ?_⟩
    · rw [hz]; exact ⟨_, rfl, rfl⟩
    · rw [hs]; rfl
    · rw [h4] at he; cases he
theorem TIok.ofA {P : Program} {t : Nat} {i : TI} (h1 : ((P.info? t).map fun f => (f.size, f.bytes, f.zero)) = some (i.size, i.bytes, some (zVal i.zero)) := by kernel_rfl) (h2 : (P.underlying t).map tkOf = some i.kind := by kernel_rfl) (h3 : tiB i = true := by kernel_rfl) (h4 : eqChk P t i = true := by kernel_rfl) : TIok P t i := TIok.of h1 h2 h3 h4
def ti1 : TI := ⟨.fn, 1, 8, .top, false⟩
def ti2 : TI := ⟨(.int .i64), 1, 8, (.d (.int .i64 0)), false⟩
def ti3 : TI := ⟨(.int .i64), 1, 8, (.d (.int .i64 0)), false⟩
def ti4 : TI := ⟨.bool, 1, 1, (.d (.bool false)), false⟩
def ti5 : TI := ⟨(.int .u8), 1, 1, (.d (.int .u8 0)), false⟩
def ti6 : TI := ⟨(.int .u8), 1, 1, (.d (.int .u8 0)), false⟩
def ti7 : TI := ⟨(.strct [(0, 2), (1, 3), (2, 4), (3, 6)]), 4, 24, (.st [(.d (.int .i64 0)), (.d (.int .i64 0)), (.d (.bool false)), (.d (.int .u8 0))]), true⟩
def ti8 : TI := ⟨(.strct [(0, 2), (1, 3), (2, 4), (3, 6)]), 4, 24, (.st [(.d (.int .i64 0)), (.d (.int .i64 0)), (.d (.bool false)), (.d (.int .u8 0))]), true⟩
def ti9 : TI := ⟨.str, 1, 16, (.d (.str .empty)), false⟩
def ti10 : TI := ⟨.str, 1, 16, (.d (.str .empty)), false⟩
def ti11 : TI := ⟨.str, 1, 16, (.d (.str .empty)), false⟩
def ti12 : TI := ⟨(.int .u64), 1, 8, (.d (.int .u64 0)), false⟩
def ti13 : TI := ⟨(.strct [(0, 9), (1, 12)]), 2, 24, (.st [(.d (.str .empty)), (.d (.int .u64 0))]), false⟩
def ti14 : TI := ⟨(.strct [(0, 9), (1, 12)]), 2, 24, (.st [(.d (.str .empty)), (.d (.int .u64 0))]), false⟩
def ti15 : TI := ⟨(.ptr 92), 1, 8, .nilp, false⟩
def ti16 : TI := ⟨(.ptr 95), 1, 8, .nilp, false⟩
def ti17 : TI := ⟨(.ptr 102), 1, 8, .nilp, false⟩
def ti18 : TI := ⟨(.strct [(0, 17)]), 1, 8, (.st [.nilp]), false⟩
def ti19 : TI := ⟨(.strct [(0, 17)]), 1, 8, (.st [.nilp]), false⟩
def ti21 : TI := ⟨(.int .i32), 1, 4, (.d (.int .i32 0)), false⟩
def ti22 : TI := ⟨(.sl 32), 1, 24, .nils, false⟩
def ti23 : TI := ⟨.fn, 1, 8, .top, false⟩
def ti24 : TI := ⟨(.sl 35), 1, 24, .nils, false⟩
def ti26 : TI := ⟨.fn, 1, 8, .top, false⟩
def ti27 : TI := ⟨.fn, 1, 8, .top, false⟩
def ti28 : TI := ⟨.fn, 1, 8, .top, false⟩
def ti29 : TI := ⟨.fn, 1, 8, .top, false⟩
def ti30 : TI := ⟨.fn, 1, 8, .top, false⟩
def ti31 : TI := ⟨(.strct [(0, 9), (1, 9)]), 2, 32, (.st [(.d (.str .empty)), (.d (.str .empty))]), false⟩
def ti32 : TI := ⟨(.strct [(0, 9), (1, 9)]), 2, 32, (.st [(.d (.str .empty)), (.d (.str .empty))]), false⟩
def ti33 : TI := ⟨.fn, 1, 8, .top, false⟩
def ti34 : TI := ⟨.fn, 1, 8, .top, false⟩
def ti35 : TI := ⟨(.strct [(0, 9), (1, 9)]), 2, 32, (.st [(.d (.str .empty)), (.d (.str .empty))]), false⟩
def ti36 : TI := ⟨.fn, 1, 8, .top, false⟩
def ti37 : TI := ⟨.fn, 1, 8, .top, false⟩
def ti39 : TI := ⟨.fn, 1, 8, .top, false⟩
def ti40 : TI := ⟨.fn, 1, 8, .top, false⟩
def ti41 : TI := ⟨.fn, 1, 8, .top, false⟩
def ti42 : TI := ⟨.fn, 1, 8, .top, false⟩
def ti43 : TI := ⟨.fn, 1, 8, .top, false⟩
def ti44 : TI := ⟨.fn, 1, 8, .top, false⟩
def ti45 : TI := ⟨.fn, 1, 8, .top, false⟩
def ti46 : TI := ⟨.fn, 1, 8, .top, false⟩
def ti47 : TI := ⟨.fn, 1, 8, .top, false⟩
def ti49 : TI := ⟨.fn, 1, 8, .top, false⟩
def ti50 : TI := ⟨.fn, 1, 8, .top, false⟩
def ti51 : TI := ⟨.fn, 1, 8, .top, false⟩
def ti52 : TI := ⟨.fn, 1, 8, .top, false⟩
def ti53 : TI := ⟨.fn, 1, 8, .top, false⟩
def ti54 : TI := ⟨.fn, 1, 8, .top, false⟩
def ti55 : TI := ⟨.fn, 1, 8, .top, false⟩
def ti56 : TI := ⟨(.ptr 59), 1, 8, .nilp, false⟩
def ti57 : TI := ⟨(.sl 5), 1, 24, .nils, false⟩
def ti58 : TI := ⟨(.strct [(0, 56), (1, 57)]), 2, 32, (.st [.nilp, .nils]), false⟩
def ti59 : TI := ⟨(.bld 5), 2, 32, (.st [.nilp, .nils]), false⟩
def ti63 : TI := ⟨.fn, 1, 8, .top, false⟩
def ti64 : TI := ⟨.fn, 1, 8, .top, false⟩
def ti65 : TI := ⟨.fn, 1, 8, .top, false⟩
def ti66 : TI := ⟨.fn, 1, 8, .top, false⟩
def ti67 : TI := ⟨.fn, 1, 8, .top, false⟩
def ti68 : TI := ⟨.fn, 1, 8, .top, false⟩
def ti69 : TI := ⟨.fn, 1, 8, .top, false⟩
def ti70 : TI := ⟨.fn, 1, 8, .top, false⟩
def ti71 : TI := ⟨.fn, 1, 8, .top, false⟩
def ti72 : TI := ⟨(.int .u64), 1, 8, (.d (.int .u64 0)), false⟩
def ti73 : TI := ⟨.fn, 1, 8, .top, false⟩
def ti74 : TI := ⟨.fn, 1, 8, .top, false⟩
def ti75 : TI := ⟨(.int .u64), 1, 8, (.d (.int .u64 0)), false⟩
def ti76 : TI := ⟨(.int .u32), 1, 4, (.d (.int .u32 0)), false⟩
def ti78 : TI := ⟨.fn, 1, 8, .top, false⟩
def ti79 : TI := ⟨.fn, 1, 8, .top, false⟩
def ti80 : TI := ⟨.fn, 1, 8, .top, false⟩
def ti81 : TI := ⟨.fn, 1, 8, .top, false⟩
def ti82 : TI := ⟨(.ptr 5), 1, 8, .nilp, false⟩
def ti84 : TI := ⟨.fn, 1, 8, .top, false⟩
def ti86 : TI := ⟨.fn, 1, 8, .top, false⟩
def ti88 : TI := ⟨.fn, 1, 8, .top, false⟩
def ti89 : TI := ⟨.fn, 1, 8, .top, false⟩
def ti90 : TI := ⟨.fn, 1, 8, .top, false⟩
def ti91 : TI := ⟨(.strct [(0, 17), (1, 17), (2, 17), (3, 9)]), 4, 40, (.st [.nilp, .nilp, .nilp, (.d (.str .empty))]), false⟩
def ti92 : TI := ⟨(.strct [(0, 17), (1, 17), (2, 17), (3, 9)]), 4, 40, (.st [.nilp, .nilp, .nilp, (.d (.str .empty))]), false⟩
def ti96 : TI := ⟨(.int .u8), 1, 1, (.d (.int .u8 0)), false⟩
def ti97 : TI := ⟨(.int .u8), 1, 1, (.d (.int .u8 0)), false⟩
def ti98 : TI := ⟨.fn, 1, 8, .top, false⟩
def ti99 : TI := ⟨(.int .i32), 1, 4, (.d (.int .i32 0)), false⟩
def ti100 : TI := ⟨(.int .i32), 1, 4, (.d (.int .i32 0)), false⟩
def ttree : TTree := (.node (.node (.node (.node (.node (.node (.node .leaf 1 ti1 .leaf) 2 ti2 .leaf) 3 ti3 (.node (.node .leaf 4 ti4 .leaf) 5 ti5 .leaf)) 6 ti6 (.node (.node (.node .leaf 7 ti7 .leaf) 8 ti8 .leaf) 9 ti9 (.node .leaf 10 ti10 .leaf))) 11 ti11 (.node (.node (.node (.node .leaf 12 ti12 .leaf) 13 ti13 .leaf) 14 ti14 (.node (.node .leaf 15 ti15 .leaf) 16 ti16 .leaf)) 17 ti17 (.node (.node (.node .leaf 18 ti18 .leaf) 19 ti19 .leaf) 21 ti21 (.node .leaf 22 ti22 .leaf)))) 23 ti23 (.node (.node (.node (.node (.node .leaf 24 ti24 .leaf) 26 ti26 .leaf) 27 ti27 (.node (.node .leaf 28 ti28 .leaf) 29 ti29 .leaf)) 30 ti30 (.node (.node (.node .leaf 31 ti31 .leaf) 32 ti32 .leaf) 33 ti33 (.node .leaf 34 ti34 .leaf))) 35 ti35 (.node (.node (.node (.node .leaf 36 ti36 .leaf) 37 ti37 .leaf) 39 ti39 (.node (.node .leaf 40 ti40 .leaf) 41 ti41 .leaf)) 42 ti42 (.node (.node (.node .leaf 43 ti43 .leaf) 44 ti44 .leaf) 45 ti45 (.node .leaf 46 ti46 .leaf))))) 47 ti47 (.node (.node (.node (.node (.node (.node .leaf 49 ti49 .leaf) 50 ti50 .leaf) 51 ti51 (.node (.node .leaf 52 ti52 .leaf) 53 ti53 .leaf)) 54 ti54 (.node (.node (.node .leaf 55 ti55 .leaf) 56 ti56 .leaf) 57 ti57 (.node .leaf 58 ti58 .leaf))) 59 ti59 (.node (.node (.node (.node .leaf 63 ti63 .leaf) 64 ti64 .leaf) 65 ti65 (.node (.node .leaf 66 ti66 .leaf) 67 ti67 .leaf)) 68 ti68 (.node (.node (.node .leaf 69 ti69 .leaf) 70 ti70 .leaf) 71 ti71 (.node .leaf 72 ti72 .leaf)))) 73 ti73 (.node (.node (.node (.node (.node .leaf 74 ti74 .leaf) 75 ti75 .leaf) 76 ti76 (.node (.node .leaf 78 ti78 .leaf) 79 ti79 .leaf)) 80 ti80 (.node (.node (.node .leaf 81 ti81 .leaf) 82 ti82 .leaf) 84 ti84 (.node .leaf 86 ti86 .leaf))) 88 ti88 (.node (.node (.node (.node .leaf 89 ti89 .leaf) 90 ti90 .leaf) 91 ti91 (.node .leaf 92 ti92 .leaf)) 96 ti96 (.node (.node (.node .leaf 97 ti97 .leaf) 98 ti98 .leaf) 99 ti99 (.node .leaf 100 ti100 .leaf))))))
def tt : TT := ttree.find
theorem tok1 : TIok Try.prog 1 ti1 := TIok.ofF (by kernel_rfl) (by kernel_rfl) rfl rfl rfl rfl
theorem tok2 : TIok Try.prog 2 ti2 := TIok.ofA
theorem tok3 : TIok Try.prog 3 ti3 := TIok.ofA
theorem tok4 : TIok Try.prog 4 ti4 := TIok.ofA
theorem tok5 : TIok Try.prog 5 ti5 := TIok.ofA
theorem tok6 : TIok Try.prog 6 ti6 := TIok.ofA
theorem tok7 : TIok Try.prog 7 ti7 := TIok.ofA
theorem tok8 : TIok Try.prog 8 ti8 := TIok.ofA
theorem tok9 : TIok Try.prog 9 ti9 := TIok.ofA
theorem tok10 : TIok Try.prog 10 ti10 := TIok.ofA
theorem tok11 : TIok Try.prog 11 ti11 := TIok.ofA
theorem tok12 : TIok Try.prog 12 ti12 := TIok.ofA
theorem tok13 : TIok Try.prog 13 ti13 := TIok.ofA
theorem tok14 : TIok Try.prog 14 ti14 := TIok.ofA
theorem tok15 : TIok Try.prog 15 ti15 := TIok.ofA
theorem tok16 : TIok Try.prog 16 ti16 := TIok.ofA
theorem tok17 : TIok Try.prog 17 ti17 := TIok.ofA
theorem tok18 : TIok Try.prog 18 ti18 := TIok.ofA
theorem tok19 : TIok Try.prog 19 ti19 := TIok.ofA
theorem tok21 : TIok Try.prog 21 ti21 := TIok.ofA
theorem tok22 : TIok Try.prog 22 ti22 := TIok.ofA
theorem tok23 : TIok Try.prog 23 ti23 := TIok.ofF (by kernel_rfl) (by kernel_rfl) rfl rfl rfl rfl
theorem tok24 : TIok Try.prog 24 ti24 := TIok.ofA
theorem tok26 : TIok Try.prog 26 ti26 := TIok.ofF (by kernel_rfl) (by kernel_rfl) rfl rfl rfl rfl
theorem tok27 : TIok Try.prog 27 ti27 := TIok.ofF (by kernel_rfl) (by kernel_rfl) rfl rfl rfl rfl
theorem tok28 : TIok Try.prog 28 ti28 := TIok.ofF (by kernel_rfl) (by kernel_rfl) rfl rfl rfl rfl
theorem tok29 : TIok Try.prog 29 ti29 := TIok.ofF (by kernel_rfl) (by kernel_rfl) rfl rfl rfl rfl
theorem tok30 : TIok Try.prog 30 ti30 := TIok.ofF (by kernel_rfl) (by kernel_rfl) rfl rfl rfl rfl
theorem tok31 : TIok Try.prog 31 ti31 := TIok.ofA
theorem tok32 : TIok Try.prog 32 ti32 := TIok.ofA
theorem tok33 : TIok Try.prog 33 ti33 := TIok.ofF (by kernel_rfl) (by kernel_rfl) rfl rfl rfl rfl
theorem tok34 : TIok Try.prog 34 ti34 := TIok.ofF (by kernel_rfl) (by kernel_rfl) rfl rfl rfl rfl
theorem tok35 : TIok Try.prog 35 ti35 := TIok.ofA
theorem tok36 : TIok Try.prog 36 ti36 := TIok.ofF (by kernel_rfl) (by kernel_rfl) rfl rfl rfl rfl
theorem tok37 : TIok Try.prog 37 ti37 := TIok.ofF (by kernel_rfl) (by kernel_rfl) rfl rfl rfl rfl
theorem tok39 : TIok Try.prog 39 ti39 := TIok.ofF (by kernel_rfl) (by kernel_rfl) rfl rfl rfl rfl
theorem tok40 : TIok Try.prog 40 ti40 := TIok.ofF (by kernel_rfl) (by kernel_rfl) rfl rfl rfl rfl
theorem tok41 : TIok Try.prog 41 ti41 := TIok.ofF (by kernel_rfl) (by kernel_rfl) rfl rfl rfl rfl
theorem tok42 : TIok Try.prog 42 ti42 := TIok.ofF (by kernel_rfl) (by kernel_rfl) rfl rfl rfl rfl
theorem tok43 : TIok Try.prog 43 ti43 := TIok.ofF (by kernel_rfl) (by kernel_rfl) rfl rfl rfl rfl
theorem tok44 : TIok Try.prog 44 ti44 := TIok.ofF (by kernel_rfl) (by kernel_rfl) rfl rfl rfl rfl
theorem tok45 : TIok Try.prog 45 ti45 := TIok.ofF (by kernel_rfl) (by kernel_rfl) rfl rfl rfl rfl
theorem tok46 : TIok Try.prog 46 ti46 := TIok.ofF (by kernel_rfl) (by kernel_rfl) rfl rfl rfl rfl
theorem tok47 : TIok Try.prog 47 ti47 := TIok.ofF (by kernel_rfl) (by kernel_rfl) rfl rfl rfl rfl
theorem tok49 : TIok Try.prog 49 ti49 := TIok.ofF (by kernel_rfl) (by kernel_rfl) rfl rfl rfl rfl
theorem tok50 : TIok Try.prog 50 ti50 := TIok.ofF (by kernel_rfl) (by kernel_rfl) rfl rfl rfl rfl
theorem tok51 : TIok Try.prog 51 ti51 := TIok.ofF (by kernel_rfl) (by kernel_rfl) rfl rfl rfl rfl
theorem tok52 : TIok Try.prog 52 ti52 := TIok.ofF (by kernel_rfl) (by kernel_rfl) rfl rfl rfl rfl
theorem tok53 : TIok Try.prog 53 ti53 := TIok.ofF (by kernel_rfl) (by kernel_rfl) rfl rfl rfl rfl
theorem tok54 : TIok Try.prog 54 ti54 := TIok.ofF (by kernel_rfl) (by kernel_rfl) rfl rfl rfl rfl
theorem tok55 : TIok Try.prog 55 ti55 := TIok.ofF (by kernel_rfl) (by kernel_rfl) rfl rfl rfl rfl
theorem tok56 : TIok Try.prog 56 ti56 := TIok.ofA
theorem tok57 : TIok Try.prog 57 ti57 := TIok.ofA
theorem tok58 : TIok Try.prog 58 ti58 := TIok.ofA
theorem tok59 : TIok Try.prog 59 ti59 := TIok.ofB (by kernel_rfl) (by kernel_rfl) rfl (by kernel_rfl) rfl
theorem tok63 : TIok Try.prog 63 ti63 := TIok.ofF (by kernel_rfl) (by kernel_rfl) rfl rfl rfl rfl
theorem tok64 : TIok Try.prog 64 ti64 := TIok.ofF (by kernel_rfl) (by kernel_rfl) rfl rfl rfl rfl
theorem tok65 : TIok Try.prog 65 ti65 := TIok.ofF (by kernel_rfl) (by kernel_rfl) rfl rfl rfl rfl
theorem tok66 : TIok Try.prog 66 ti66 := TIok.ofF (by kernel_rfl) (by kernel_rfl) rfl rfl rfl rfl
theorem tok67 : TIok Try.prog 67 ti67 := TIok.ofF (by kernel_rfl) (by kernel_rfl) rfl rfl rfl rfl
theorem tok68 : TIok Try.prog 68 ti68 := TIok.ofF (by kernel_rfl) (by kernel_rfl) rfl rfl rfl rfl
theorem tok69 : TIok Try.prog 69 ti69 := TIok.ofF (by kernel_rfl) (by kernel_rfl) rfl rfl rfl rfl
theorem tok70 : TIok Try.prog 70 ti70 := TIok.ofF (by kernel_rfl) (by kernel_rfl) rfl rfl rfl rfl
theorem tok71 : TIok Try.prog 71 ti71 := TIok.ofF (by kernel_rfl) (by kernel_rfl) rfl rfl rfl rfl
theorem tok72 : TIok Try.prog 72 ti72 := TIok.ofA
theorem tok73 : TIok Try.prog 73 ti73 := TIok.ofF (by kernel_rfl) (by kernel_rfl) rfl rfl rfl rfl
theorem tok74 : TIok Try.prog 74 ti74 := TIok.ofF (by kernel_rfl) (by kernel_rfl) rfl rfl rfl rfl
theorem tok75 : TIok Try.prog 75 ti75 := TIok.ofA
theorem tok76 : TIok Try.prog 76 ti76 := TIok.ofA
theorem tok78 : TIok Try.prog 78 ti78 := TIok.ofF (by kernel_rfl) (by kernel_rfl) rfl rfl rfl rfl
theorem tok79 : TIok Try.prog 79 ti79 := TIok.ofF (by kernel_rfl) (by kernel_rfl) rfl rfl rfl rfl
theorem tok80 : TIok Try.prog 80 ti80 := TIok.ofF (by kernel_rfl) (by kernel_rfl) rfl rfl rfl rfl
theorem tok81 : TIok Try.prog 81 ti81 := TIok.ofF (by kernel_rfl) (by kernel_rfl) rfl rfl rfl rfl
theorem tok82 : TIok Try.prog 82 ti82 := TIok.ofA
theorem tok84 : TIok Try.prog 84 ti84 := TIok.ofF (by kernel_rfl) (by kernel_rfl) rfl rfl rfl rfl
theorem tok86 : TIok Try.prog 86 ti86 := TIok.ofF (by kernel_rfl) (by kernel_rfl) rfl rfl rfl rfl
theorem tok88 : TIok Try.prog 88 ti88 := TIok.ofF (by kernel_rfl) (by kernel_rfl) rfl rfl rfl rfl
theorem tok89 : TIok Try.prog 89 ti89 := TIok.ofF (by kernel_rfl) (by kernel_rfl) rfl rfl rfl rfl
theorem tok90 : TIok Try.prog 90 ti90 := TIok.ofF (by kernel_rfl) (by kernel_rfl) rfl rfl rfl rfl
theorem tok91 : TIok Try.prog 91 ti91 := TIok.ofA
theorem tok92 : TIok Try.prog 92 ti92 := TIok.ofA
theorem tok96 : TIok Try.prog 96 ti96 := TIok.ofA
theorem tok97 : TIok Try.prog 97 ti97 := TIok.ofA
theorem tok98 : TIok Try.prog 98 ti98 := TIok.ofF (by kernel_rfl) (by kernel_rfl) rfl rfl rfl rfl
theorem tok99 : TIok Try.prog 99 ti99 := TIok.ofA
theorem tok100 : TIok Try.prog 100 ti100 := TIok.ofA
theorem ttOk : TOk Try.prog tt := TTree.ok (tr := ttree) ⟨⟨⟨⟨⟨⟨⟨trivial, tok1, trivial⟩, tok2, trivial⟩, tok3, ⟨⟨trivial, tok4, trivial⟩, tok5, trivial⟩⟩, tok6, ⟨⟨⟨trivial, tok7, trivial⟩, tok8, trivial⟩, tok9, ⟨trivial, tok10, trivial⟩⟩⟩, tok11, ⟨⟨⟨⟨trivial, tok12, trivial⟩, tok13, trivial⟩, tok14, ⟨⟨trivial, tok15, trivial⟩, tok16, trivial⟩⟩, tok17, ⟨⟨⟨trivial, tok18, trivial⟩, tok19, trivial⟩, tok21, ⟨trivial, tok22, trivial⟩⟩⟩⟩, tok23, ⟨⟨⟨⟨⟨trivial, tok24, trivial⟩, tok26, trivial⟩, tok27, ⟨⟨trivial, tok28, trivial⟩, tok29, trivial⟩⟩, tok30, ⟨⟨⟨trivial, tok31, trivial⟩, tok32, trivial⟩, tok33, ⟨trivial, tok34, trivial⟩⟩⟩, tok35, ⟨⟨⟨⟨trivial, tok36, trivial⟩, tok37, trivial⟩, tok39, ⟨⟨trivial, tok40, trivial⟩, tok41, trivial⟩⟩, tok42, ⟨⟨⟨trivial, tok43, trivial⟩, tok44, trivial⟩, tok45, ⟨trivial, tok46, trivial⟩⟩⟩⟩⟩, tok47, ⟨⟨⟨⟨⟨⟨trivial, tok49, trivial⟩, tok50, trivial⟩, tok51, ⟨⟨trivial, tok52, trivial⟩, tok53, trivial⟩⟩, tok54, ⟨⟨⟨trivial, tok55, trivial⟩, tok56, trivial⟩, tok57, ⟨trivial, tok58, trivial⟩⟩⟩, tok59, ⟨⟨⟨⟨trivial, tok63, trivial⟩, tok64, trivial⟩, tok65, ⟨⟨trivial, tok66, trivial⟩, tok67, trivial⟩⟩, tok68, ⟨⟨⟨trivial, tok69, trivial⟩, tok70, trivial⟩, tok71, ⟨trivial, tok72, trivial⟩⟩⟩⟩, tok73, ⟨⟨⟨⟨⟨trivial, tok74, trivial⟩, tok75, trivial⟩, tok76, ⟨⟨trivial, tok78, trivial⟩, tok79, trivial⟩⟩, tok80, ⟨⟨⟨trivial, tok81, trivial⟩, tok82, trivial⟩, tok84, ⟨trivial, tok86, trivial⟩⟩⟩, tok88, ⟨⟨⟨⟨trivial, tok89, trivial⟩, tok90, trivial⟩, tok91, ⟨trivial, tok92, trivial⟩⟩, tok96, ⟨⟨⟨trivial, tok97, trivial⟩, tok98, trivial⟩, tok99, ⟨trivial, tok100, trivial⟩⟩⟩⟩⟩⟩

end Go.Proofs.Ytdeafbgnbgihgaa
