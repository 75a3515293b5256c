/- The laws' own functions: sizes, copies, comparisons: what each returns, for every argument. Written by a program (wip/tools/gen_lawfns.py). -/
import Derived.Test.YtcpoglgldelhnaaRd
import Derived.Deep.RegionHeld3
namespace Go.Proofs.Ytcpoglgldelhnaa
open Go.RowKit

theorem intC_n : intC.n = 1 := rfl
theorem strC_n : strC.n = 1 := rfl
theorem slC_n {α : Type} {c : Cod α} : (slC c).n = 1 := rfl
theorem PeakC_n : PeakC.n = 3 := rfl
theorem CharRangeC_n : CharRangeC.n = 3 := rfl
theorem SlotC_n : SlotC.n = 6 := rfl
theorem TableC_n : TableC.n = 2 := rfl
theorem AxisPointC_n : AxisPointC.n = 2 := rfl
theorem AxisC_n : AxisC.n = 5 := rfl
theorem PtC_n : PtC.n = 2 := rfl
theorem GlyphDeltaC_n : GlyphDeltaC.n = 4 := rfl
theorem MasterC_n : MasterC.n = 2 := rfl
theorem VariationC_n : VariationC.n = 2 := rfl
theorem KnotC_n : KnotC.n = 3 := rfl
theorem LoopC_n : LoopC.n = 1 := rfl
theorem OutlineC_n : OutlineC.n = 1 := rfl
theorem PartC_n : PartC.n = 3 := rfl
theorem AnchorC_n : AnchorC.n = 3 := rfl
theorem GlyphC_n : GlyphC.n = 7 := rfl
theorem GlyphSetC_n : GlyphSetC.n = 2 := rfl
theorem RuleC_n : RuleC.n = 4 := rfl
theorem LookupC_n : LookupC.n = 2 := rfl
theorem KernC_n : KernC.n = 3 := rfl
theorem MarkRuleC_n : MarkRuleC.n = 3 := rfl
theorem JoinC_n : JoinC.n = 5 := rfl
theorem FeaturesC_n : FeaturesC.n = 4 := rfl
theorem ItemC_n : ItemC.n = 3 := rfl

def zInt64S (xs : List Int) : Nat := xs.length
def zStringS (xs : List ByteArray) : Nat := xs.length + (xs.map ByteArray.size).sum
def zInt64SS (xs : List (List Int)) : Nat := xs.length + (xs.map zInt64S).sum
def zPeakS (xs : List TPeak) : Nat := xs.length
def zCharRangeS (xs : List TCharRange) : Nat := xs.length
def zSlotS (xs : List TSlot) : Nat := xs.length
def zTable (x : TTable) : Nat := x.fTag.size + x.fData.size
def zTableS (xs : List TTable) : Nat := xs.length + (xs.map zTable).sum
def zAxisPointS (xs : List TAxisPoint) : Nat := xs.length
def zAxis (x : TAxis) : Nat := x.fName.size + zAxisPointS x.fMap
def zAxisS (xs : List TAxis) : Nat := xs.length + (xs.map zAxis).sum
def zPtS (xs : List TPt) : Nat := xs.length
def zGlyphDelta (x : TGlyphDelta) : Nat := zInt64S x.fKnots + zPtS x.fMoves
def zGlyphDeltaS (xs : List TGlyphDelta) : Nat := xs.length + (xs.map zGlyphDelta).sum
def zMaster (x : TMaster) : Nat := zPeakS x.fPeaks + zGlyphDeltaS x.fDeltas
def zMasterS (xs : List TMaster) : Nat := xs.length + (xs.map zMaster).sum
def zVariation (x : TVariation) : Nat := zAxisS x.fAxes + zMasterS x.fMasters
def zVariationS (xs : List TVariation) : Nat := xs.length + (xs.map zVariation).sum
def zKnotS (xs : List TKnot) : Nat := xs.length
def zLoop (x : TLoop) : Nat := zKnotS x.fKnots
def zLoopS (xs : List TLoop) : Nat := xs.length + (xs.map zLoop).sum
def zOutline (x : TOutline) : Nat := zLoopS x.fLoops
def zOutlineS (xs : List TOutline) : Nat := xs.length + (xs.map zOutline).sum
def zPartS (xs : List TPart) : Nat := xs.length
def zAnchor (x : TAnchor) : Nat := x.fName.size
def zAnchorS (xs : List TAnchor) : Nat := xs.length + (xs.map zAnchor).sum
def zGlyph (x : TGlyph) : Nat := x.fName.size + zOutline x.fOutline + zPartS x.fParts + zAnchorS x.fAnchors + x.fHints.size
def zGlyphS (xs : List TGlyph) : Nat := xs.length + (xs.map zGlyph).sum
def zGlyphSet (x : TGlyphSet) : Nat := zGlyphS x.fGlyphs
def zGlyphSetS (xs : List TGlyphSet) : Nat := xs.length + (xs.map zGlyphSet).sum
def zRule (x : TRule) : Nat := zInt64SS x.fBefore + zInt64SS x.fInput + zInt64SS x.fAfter + zInt64S x.fOutput
def zRuleS (xs : List TRule) : Nat := xs.length + (xs.map zRule).sum
def zLookup (x : TLookup) : Nat := x.fName.size + zRuleS x.fRules
def zLookupS (xs : List TLookup) : Nat := xs.length + (xs.map zLookup).sum
def zKern (x : TKern) : Nat := zInt64S x.fLeft + zInt64S x.fRight
def zKernS (xs : List TKern) : Nat := xs.length + (xs.map zKern).sum
def zMarkRule (x : TMarkRule) : Nat := zInt64S x.fMarks + zInt64S x.fBases + x.fAnchor.size
def zMarkRuleS (xs : List TMarkRule) : Nat := xs.length + (xs.map zMarkRule).sum
def zJoinS (xs : List TJoin) : Nat := xs.length
def zFeatures (x : TFeatures) : Nat := zLookupS x.fLookups + zKernS x.fKerns + zMarkRuleS x.fMarks + zJoinS x.fJoins
def zFeaturesS (xs : List TFeatures) : Nat := xs.length + (xs.map zFeatures).sum
def zItemS (xs : List TItem) : Nat := xs.length


theorem szCharRangeS_c (xs : List TCharRange) (v : Value) (left : Int) (w : World) (h : Sl CharRangeC w v xs) (l0 : 0 ≤ left) (l1 : left ≤ 1048576) :
    Calls Try.prog 14 #[v, .int .i64 left] w fun e w' => e = .returned (.int .i64 (szR left (zCharRangeS xs))) ∧ szR left (zCharRangeS xs) ≤ 1048576 ∧ Ext w w' := by
  obtain ⟨a, cap, rfl, hl, hcap, _, _⟩ := h
  have hlen : xs.length ≤ 9223372036854775807 := Nat.le_trans hl hcap
  clear hl hcap
  go_enter Try.func14, Try.ntmps14
  go_wp2
  all_goals (go_ret; refine ⟨ret_int ?_, ?_, by (repeat (first | with_reducible exact Ext.refl _ | with_reducible assumption | with_reducible refine Ext.alloc ?_ _ | with_reducible refine Ext.drew ?_ | with_reducible refine Ext.drewN ?_ _ | (with_reducible refine Ext.setCell ?_ (by first | omega | (dsimp only; omega)) _) | with_reducible refine Ext.trans ?_ (by assumption)))⟩ <;> (simp only [zCharRangeS]; first | exact (szR_le (by omega)).symm | exact (szR_gt (by omega)).symm | (rw [szR_le (by omega)]; omega) | (rw [szR_gt (by omega)]; omega)))
theorem szSlotS_c (xs : List TSlot) (v : Value) (left : Int) (w : World) (h : Sl SlotC w v xs) (l0 : 0 ≤ left) (l1 : left ≤ 1048576) :
    Calls Try.prog 21 #[v, .int .i64 left] w fun e w' => e = .returned (.int .i64 (szR left (zSlotS xs))) ∧ szR left (zSlotS xs) ≤ 1048576 ∧ Ext w w' := by
  obtain ⟨a, cap, rfl, hl, hcap, _, _⟩ := h
  have hlen : xs.length ≤ 9223372036854775807 := Nat.le_trans hl hcap
  clear hl hcap
  go_enter Try.func21, Try.ntmps21
  go_wp2
  all_goals (go_ret; refine ⟨ret_int ?_, ?_, by (repeat (first | with_reducible exact Ext.refl _ | with_reducible assumption | with_reducible refine Ext.alloc ?_ _ | with_reducible refine Ext.drew ?_ | with_reducible refine Ext.drewN ?_ _ | (with_reducible refine Ext.setCell ?_ (by first | omega | (dsimp only; omega)) _) | with_reducible refine Ext.trans ?_ (by assumption)))⟩ <;> (simp only [zSlotS]; first | exact (szR_le (by omega)).symm | exact (szR_gt (by omega)).symm | (rw [szR_le (by omega)]; omega) | (rw [szR_gt (by omega)]; omega)))

set_option maxHeartbeats 1000000 in
theorem toPeak_c (x : TPeak) (cs : List Value) (w : World) (h : PeakC.rep w cs x) : Calls Try.prog 10 #[.agg cs.toArray] w (ROwnA PeakC x id w) := by
  obtain ⟨rfl, h0, h1, h2⟩ := h
  go_enter Try.func10, Try.ntmps10
  go_wp2_with fail
  refine bodyPost_ret (v := .agg #[.int .i64 x.fStart, .int .i64 x.fTop, .int .i64 x.fEnd]) ?_ rfl ?_
  · simp [results, Try.results10, go_sem, *]
  refine (ROwnA.intro (cs := [.int .i64 x.fStart, .int .i64 x.fTop, .int .i64 x.fEnd]) (F := []) ?_ ?_ ?_ (by (repeat (first | with_reducible exact Ext.refl _ | with_reducible assumption | with_reducible refine Ext.alloc ?_ _ | with_reducible refine Ext.drew ?_ | with_reducible refine Ext.drewN ?_ _ | (with_reducible refine Ext.setCell ?_ (by first | omega | (dsimp only; omega)) _) | with_reducible refine Ext.trans ?_ (by assumption)))))
  · exact ⟨rfl, rfl, h0, h1, h2⟩
  · exact List.nodup_nil
  · intro b hb; cases hb
set_option maxHeartbeats 1000000 in
theorem toCharRange_c (x : TCharRange) (cs : List Value) (w : World) (h : CharRangeC.rep w cs x) : Calls Try.prog 35 #[.agg cs.toArray] w (ROwnA CharRangeC x id w) := by
  obtain ⟨rfl, h0, h1, h2⟩ := h
  go_enter Try.func35, Try.ntmps35
  go_wp2_with fail
  refine bodyPost_ret (v := .agg #[.int .i64 x.fFrom, .int .i64 x.fCount, .int .i64 x.fGlyph]) ?_ rfl ?_
  · simp [results, Try.results35, go_sem, *]
  refine (ROwnA.intro (cs := [.int .i64 x.fFrom, .int .i64 x.fCount, .int .i64 x.fGlyph]) (F := []) ?_ ?_ ?_ (by (repeat (first | with_reducible exact Ext.refl _ | with_reducible assumption | with_reducible refine Ext.alloc ?_ _ | with_reducible refine Ext.drew ?_ | with_reducible refine Ext.drewN ?_ _ | (with_reducible refine Ext.setCell ?_ (by first | omega | (dsimp only; omega)) _) | with_reducible refine Ext.trans ?_ (by assumption)))))
  · exact ⟨rfl, rfl, h0, h1, h2⟩
  · exact List.nodup_nil
  · intro b hb; cases hb
theorem mkCharRangeS (n : Nat) (hn : n ≤ 1048576) (w : World) : (Instr.makeSlice 33 (.int .i64 n) (.int .i64 n)).run Try.prog w =
    .ok (.slice (some ⟨w.heap.size, 0, none⟩) n n) (w.alloc (.cells (madeCells #[.int .i64 0, .int .i64 0, .int .i64 0] (n * 3)) 54)) := by
  have hinfo : (Try.prog.info? 54).map (fun i => (i.zero, i.size, i.bytes)) = some (some (.agg #[.int .i64 0, .int .i64 0, .int .i64 0]), 3, 24) := by kernel_rfl
  obtain ⟨i, hi, hz, hs, hb⟩ := info_parts hinfo
  have := run_make (P := Try.prog) w 33 54 i _ Try.underlying33 hi hz .i64 .i64 n n (by omega) (Int.le_refl _) (by rw [hb]; omega) (by omega)
  rw [hs] at this
  simpa [Value.cells] using this
set_option maxHeartbeats 1000000 in
theorem toCharRangeS_c (xs : List TCharRange) (v : Value) (w : World) (h : Sl CharRangeC w v xs) (hz : zCharRangeS xs ≤ 1048576) : Calls Try.prog 16 #[v] w (ROwn CharRangeC xs id w) := by
  obtain ⟨a, cap, rfl, _, _, _, hat⟩ := h
  have hn : xs.length ≤ 1048576 := by simp only [zCharRangeS] at hz; omega
  have hmk := mkCharRangeS xs.length hn
  clear hz
  go_enter Try.func16, Try.ntmps16
  go_wp2
  go_loopw [4] (fun i wr => ∃ k : Nat, k ≤ xs.length ∧ i = .int .i64 k ∧ ToInv CharRangeC w w.heap.size xs.length (xs.take k) wr) (fun i _ => xs.length - (intOf i).toNat)
  case atStart => exact ⟨0, Nat.zero_le _, rfl, ToInv.start (by simp [size_madeCells, CharRangeC_n]) (Ext.refl _)⟩
  case round =>
    obtain ⟨k, hk, rfl, hinv⟩ := hrel
    by_cases hlt : k < xs.length
    · obtain ⟨x, hx⟩ := at_lt hlt
      obtain ⟨b, o, cs, rfl, hc, hr⟩ := hat k x hx
      have hr0 := hr
      obtain ⟨rfl, hr0, hr1, hr2⟩ := hr0
      have c0 := (hc.keep hinv.ext) 0 _ rfl
      have c1 := (hc.keep hinv.ext) 1 _ rfl
      have c2 := (hc.keep hinv.ext) 2 _ rfl
      simp only [CharRangeC_n, Nat.add_zero, Nat.mul_one] at c0 c1 c2
      obtain ⟨u0, hu0, hz0⟩ := hinv.room hlt (j := 0) (by decide)
      obtain ⟨u1, hu1, hz1⟩ := hinv.room hlt (j := 1) (by decide)
      obtain ⟨u2, hu2, hz2⟩ := hinv.room hlt (j := 2) (by decide)
      simp only [CharRangeC_n, Nat.add_zero, Nat.mul_one] at hu0 hz0 hu1 hz1 hu2 hz2
      have HI := Lib.hid hinv
      have HX := Lib.hid hx
      have HR := Lib.hid (CharRangeC.keep _ _ _ _ hinv.ext hr)
      clear hinv hx hat hc hmk hr
      go_wp2_with fail
      refine (toCharRange_c x _ _ HR.out).mono ?_
      rintro e w1 ⟨cs1, F1, rfl, ho, hnd, hfr, hb1⟩; obtain ⟨hk1, hf1⟩ := hb1.keeps; dsimp only [id]
      have HO := Lib.hid ho
      obtain ⟨rfl, rfl, _⟩ := ho
      go_wp2_with fail
      have HT := ToInv.snoc_at (k := k) HI.out (by simp; omega) hlt hb1 HO.out hnd hfr
      rw [← take_snoc_get HX.out] at HT
      simp only [setCells, CharRangeC_n, Nat.add_assoc, Nat.reduceAdd, Nat.mul_one, Nat.add_zero] at HT
      go_roundw
      case rel => exact ⟨k + 1, by omega, by go_num, HT⟩
      case measure => simp [intOf]; omega
    · have HI := Lib.hid hinv
      clear hinv hat hmk
      go_wp2
      go_ret
      exact ToInv.done (by have h := HI.out; rw [List.take_of_length_le (Nat.le_of_not_lt hlt)] at h; exact h) rfl (Nat.le_trans hn (by decide))
set_option maxHeartbeats 1000000 in
theorem toSlot_c (x : TSlot) (cs : List Value) (w : World) (h : SlotC.rep w cs x) : Calls Try.prog 42 #[.agg cs.toArray] w (ROwnA SlotC x id w) := by
  obtain ⟨rfl, h0, h1, h2, h3, h4, h5⟩ := h
  go_enter Try.func42, Try.ntmps42
  go_wp2_with fail
  refine bodyPost_ret (v := .agg #[.int .i64 x.fGlyph, .int .i64 x.fX, .int .i64 x.fY, .int .i64 x.fAdvance, .int .i64 x.fFrom, .int .i64 x.fLen]) ?_ rfl ?_
  · simp [results, Try.results42, go_sem, *]
  refine (ROwnA.intro (cs := [.int .i64 x.fGlyph, .int .i64 x.fX, .int .i64 x.fY, .int .i64 x.fAdvance, .int .i64 x.fFrom, .int .i64 x.fLen]) (F := []) ?_ ?_ ?_ (by (repeat (first | with_reducible exact Ext.refl _ | with_reducible assumption | with_reducible refine Ext.alloc ?_ _ | with_reducible refine Ext.drew ?_ | with_reducible refine Ext.drewN ?_ _ | (with_reducible refine Ext.setCell ?_ (by first | omega | (dsimp only; omega)) _) | with_reducible refine Ext.trans ?_ (by assumption)))))
  · exact ⟨rfl, rfl, h0, h1, h2, h3, h4, h5⟩
  · exact List.nodup_nil
  · intro b hb; cases hb
theorem mkSlotS (n : Nat) (hn : n ≤ 1048576) (w : World) : (Instr.makeSlice 43 (.int .i64 n) (.int .i64 n)).run Try.prog w =
    .ok (.slice (some ⟨w.heap.size, 0, none⟩) n n) (w.alloc (.cells (madeCells #[.int .i64 0, .int .i64 0, .int .i64 0, .int .i64 0, .int .i64 0, .int .i64 0] (n * 6)) 61)) := by
  have hinfo : (Try.prog.info? 61).map (fun i => (i.zero, i.size, i.bytes)) = some (some (.agg #[.int .i64 0, .int .i64 0, .int .i64 0, .int .i64 0, .int .i64 0, .int .i64 0]), 6, 48) := by kernel_rfl
  obtain ⟨i, hi, hz, hs, hb⟩ := info_parts hinfo
  have := run_make (P := Try.prog) w 43 61 i _ Try.underlying43 hi hz .i64 .i64 n n (by omega) (Int.le_refl _) (by rw [hb]; omega) (by omega)
  rw [hs] at this
  simpa [Value.cells] using this
set_option maxHeartbeats 1000000 in
theorem toSlotS_c (xs : List TSlot) (v : Value) (w : World) (h : Sl SlotC w v xs) (hz : zSlotS xs ≤ 1048576) : Calls Try.prog 23 #[v] w (ROwn SlotC xs id w) := by
  obtain ⟨a, cap, rfl, _, _, _, hat⟩ := h
  have hn : xs.length ≤ 1048576 := by simp only [zSlotS] at hz; omega
  have hmk := mkSlotS xs.length hn
  clear hz
  go_enter Try.func23, Try.ntmps23
  go_wp2
  go_loopw [4] (fun i wr => ∃ k : Nat, k ≤ xs.length ∧ i = .int .i64 k ∧ ToInv SlotC w w.heap.size xs.length (xs.take k) wr) (fun i _ => xs.length - (intOf i).toNat)
  case atStart => exact ⟨0, Nat.zero_le _, rfl, ToInv.start (by simp [size_madeCells, SlotC_n]) (Ext.refl _)⟩
  case round =>
    obtain ⟨k, hk, rfl, hinv⟩ := hrel
    by_cases hlt : k < xs.length
    · obtain ⟨x, hx⟩ := at_lt hlt
      obtain ⟨b, o, cs, rfl, hc, hr⟩ := hat k x hx
      have hr0 := hr
      obtain ⟨rfl, hr0, hr1, hr2, hr3, hr4, hr5⟩ := hr0
      have c0 := (hc.keep hinv.ext) 0 _ rfl
      have c1 := (hc.keep hinv.ext) 1 _ rfl
      have c2 := (hc.keep hinv.ext) 2 _ rfl
      have c3 := (hc.keep hinv.ext) 3 _ rfl
      have c4 := (hc.keep hinv.ext) 4 _ rfl
      have c5 := (hc.keep hinv.ext) 5 _ rfl
      simp only [SlotC_n, Nat.add_zero, Nat.mul_one] at c0 c1 c2 c3 c4 c5
      obtain ⟨u0, hu0, hz0⟩ := hinv.room hlt (j := 0) (by decide)
      obtain ⟨u1, hu1, hz1⟩ := hinv.room hlt (j := 1) (by decide)
      obtain ⟨u2, hu2, hz2⟩ := hinv.room hlt (j := 2) (by decide)
      obtain ⟨u3, hu3, hz3⟩ := hinv.room hlt (j := 3) (by decide)
      obtain ⟨u4, hu4, hz4⟩ := hinv.room hlt (j := 4) (by decide)
      obtain ⟨u5, hu5, hz5⟩ := hinv.room hlt (j := 5) (by decide)
      simp only [SlotC_n, Nat.add_zero, Nat.mul_one] at hu0 hz0 hu1 hz1 hu2 hz2 hu3 hz3 hu4 hz4 hu5 hz5
      have HI := Lib.hid hinv
      have HX := Lib.hid hx
      have HR := Lib.hid (SlotC.keep _ _ _ _ hinv.ext hr)
      clear hinv hx hat hc hmk hr
      go_wp2_with fail
      refine (toSlot_c x _ _ HR.out).mono ?_
      rintro e w1 ⟨cs1, F1, rfl, ho, hnd, hfr, hb1⟩; obtain ⟨hk1, hf1⟩ := hb1.keeps; dsimp only [id]
      have HO := Lib.hid ho
      obtain ⟨rfl, rfl, _⟩ := ho
      go_wp2_with fail
      have HT := ToInv.snoc_at (k := k) HI.out (by simp; omega) hlt hb1 HO.out hnd hfr
      rw [← take_snoc_get HX.out] at HT
      simp only [setCells, SlotC_n, Nat.add_assoc, Nat.reduceAdd, Nat.mul_one, Nat.add_zero] at HT
      go_roundw
      case rel => exact ⟨k + 1, by omega, by go_num, HT⟩
      case measure => simp [intOf]; omega
    · have HI := Lib.hid hinv
      clear hinv hat hmk
      go_wp2
      go_ret
      exact ToInv.done (by have h := HI.out; rw [List.take_of_length_le (Nat.le_of_not_lt hlt)] at h; exact h) rfl (Nat.le_trans hn (by decide))

set_option maxHeartbeats 1000000 in
theorem eqCharRange_c (x : TCharRange) (cs ds : List Value) (w : World) (h : CharRangeC.rep w cs x) (k : CharRangeC.rep w ds x) :
    Calls Try.prog 37 #[.agg cs.toArray, .agg ds.toArray] w fun e w' => e = .returned (.bool true) ∧ Ext w w' := by
  obtain ⟨rfl, h0, h1, h2⟩ := h
  obtain ⟨rfl, k0, k1, k2⟩ := k
  go_enter Try.func37, Try.ntmps37
  go_wp2_with fail
  go_ret
  exact ⟨rfl, by (repeat (first | with_reducible exact Ext.refl _ | with_reducible assumption | with_reducible refine Ext.alloc ?_ _ | with_reducible refine Ext.drew ?_ | with_reducible refine Ext.drewN ?_ _ | (with_reducible refine Ext.setCell ?_ (by first | omega | (dsimp only; omega)) _) | with_reducible refine Ext.trans ?_ (by assumption)))⟩
set_option maxHeartbeats 1000000 in
theorem eqCharRangeS_c (xs : List TCharRange) (v u : Value) (w : World) (h : Sl CharRangeC w v xs) (h' : Sl CharRangeC w u xs) :
    Calls Try.prog 18 #[v, u] w fun e w' => e = .returned (.bool true) ∧ Ext w w' := by
  obtain ⟨a, cap, rfl, hl, hcap, _, hat⟩ := h
  obtain ⟨a', cap', rfl, _, _, _, hat'⟩ := h'
  have hlen : xs.length ≤ 9223372036854775807 := Nat.le_trans hl hcap
  clear hl hcap
  go_enter Try.func18, Try.ntmps18
  go_wp2
  go_loopw [5] (fun i wr => ∃ k : Nat, k ≤ xs.length ∧ i = .int .i64 k ∧ Ext w wr) (fun i _ => xs.length - (intOf i).toNat)
  case atStart => exact ⟨0, Nat.zero_le _, rfl, Ext.refl _⟩
  case round =>
    obtain ⟨k, hk, rfl, hinv⟩ := hrel
    by_cases hlt : k < xs.length
    · obtain ⟨x, hx⟩ := at_lt hlt
      obtain ⟨b, o, cs, rfl, hc, hr⟩ := hat k x hx
      have hr0 := hr
      obtain ⟨rfl, hr0, hr1, hr2⟩ := hr0
      have c0 := (hc.keep hinv) 0 _ rfl
      have c1 := (hc.keep hinv) 1 _ rfl
      have c2 := (hc.keep hinv) 2 _ rfl
      simp only [CharRangeC_n, Nat.add_zero, Nat.mul_one] at c0 c1 c2
      have HR := Lib.hid (CharRangeC.keep _ _ _ _ hinv hr)
      clear hc hr
      obtain ⟨b', o', cs', rfl, hc, hr⟩ := hat' k x hx
      have hr0 := hr
      obtain ⟨rfl, kr0, kr1, kr2⟩ := hr0
      have HR' := Lib.hid (CharRangeC.keep _ _ _ _ hinv hr)
      clear hr
      have d0 := (hc.keep hinv) 0 _ rfl
      have d1 := (hc.keep hinv) 1 _ rfl
      have d2 := (hc.keep hinv) 2 _ rfl
      simp only [CharRangeC_n, Nat.add_zero, Nat.mul_one] at d0 d1 d2
      clear hx hat hat' hc
      have hE := Ext.rule wr
      have hlt' : (k : Int) < (xs.length : Int) := by omega
      go_wp2_with fail
      go_region_held3 (fun w' => Ext wr w') ((repeat (first | with_reducible exact Ext.refl _ | with_reducible assumption | with_reducible refine Ext.alloc ?_ _ | with_reducible refine Ext.drew ?_ | with_reducible refine Ext.drewN ?_ _ | (with_reducible refine Ext.setCell ?_ (by first | omega | (dsimp only; omega)) _) | with_reducible refine Ext.trans ?_ (by assumption)))) ((first | (go_at_call 37; refine (eqCharRange_c x _ _ _ (CharRangeC.keep _ _ _ _ (by (repeat (first | with_reducible exact Ext.refl _ | with_reducible assumption | with_reducible refine Ext.alloc ?_ _ | with_reducible refine Ext.drew ?_ | with_reducible refine Ext.drewN ?_ _ | (with_reducible refine Ext.setCell ?_ (by first | omega | (dsimp only; omega)) _) | with_reducible refine Ext.trans ?_ (by assumption)))) HR.out) (CharRangeC.keep _ _ _ _ (by (repeat (first | with_reducible exact Ext.refl _ | with_reducible assumption | with_reducible refine Ext.alloc ?_ _ | with_reducible refine Ext.drew ?_ | with_reducible refine Ext.drewN ?_ _ | (with_reducible refine Ext.setCell ?_ (by first | omega | (dsimp only; omega)) _) | with_reducible refine Ext.trans ?_ (by assumption)))) HR'.out)).mono ?_; rintro e w1 ⟨rfl, hb1⟩; obtain ⟨hk1, hf1⟩ := hb1.keeps)))
      go_wp2_with fail
      go_roundw
      case rel => exact ⟨k + 1, by omega, by go_num, by (repeat (first | with_reducible exact Ext.refl _ | with_reducible assumption | with_reducible refine Ext.alloc ?_ _ | with_reducible refine Ext.drew ?_ | with_reducible refine Ext.drewN ?_ _ | (with_reducible refine Ext.setCell ?_ (by first | omega | (dsimp only; omega)) _) | with_reducible refine Ext.trans ?_ (by assumption)))⟩
      case measure => simp [intOf]; omega
    · clear hat hat'
      go_wp2
      go_ret
      exact ⟨rfl, hinv⟩
set_option maxHeartbeats 1000000 in
theorem eqSlot_c (x : TSlot) (cs ds : List Value) (w : World) (h : SlotC.rep w cs x) (k : SlotC.rep w ds x) :
    Calls Try.prog 47 #[.agg cs.toArray, .agg ds.toArray] w fun e w' => e = .returned (.bool true) ∧ Ext w w' := by
  obtain ⟨rfl, h0, h1, h2, h3, h4, h5⟩ := h
  obtain ⟨rfl, k0, k1, k2, k3, k4, k5⟩ := k
  go_enter Try.func47, Try.ntmps47
  go_wp2_with fail
  go_ret
  exact ⟨rfl, by (repeat (first | with_reducible exact Ext.refl _ | with_reducible assumption | with_reducible refine Ext.alloc ?_ _ | with_reducible refine Ext.drew ?_ | with_reducible refine Ext.drewN ?_ _ | (with_reducible refine Ext.setCell ?_ (by first | omega | (dsimp only; omega)) _) | with_reducible refine Ext.trans ?_ (by assumption)))⟩
set_option maxHeartbeats 1000000 in
theorem eqSlotS_c (xs : List TSlot) (v u : Value) (w : World) (h : Sl SlotC w v xs) (h' : Sl SlotC w u xs) :
    Calls Try.prog 25 #[v, u] w fun e w' => e = .returned (.bool true) ∧ Ext w w' := by
  obtain ⟨a, cap, rfl, hl, hcap, _, hat⟩ := h
  obtain ⟨a', cap', rfl, _, _, _, hat'⟩ := h'
  have hlen : xs.length ≤ 9223372036854775807 := Nat.le_trans hl hcap
  clear hl hcap
  go_enter Try.func25, Try.ntmps25
  go_wp2
  go_loopw [5] (fun i wr => ∃ k : Nat, k ≤ xs.length ∧ i = .int .i64 k ∧ Ext w wr) (fun i _ => xs.length - (intOf i).toNat)
  case atStart => exact ⟨0, Nat.zero_le _, rfl, Ext.refl _⟩
  case round =>
    obtain ⟨k, hk, rfl, hinv⟩ := hrel
    by_cases hlt : k < xs.length
    · obtain ⟨x, hx⟩ := at_lt hlt
      obtain ⟨b, o, cs, rfl, hc, hr⟩ := hat k x hx
      have hr0 := hr
      obtain ⟨rfl, hr0, hr1, hr2, hr3, hr4, hr5⟩ := hr0
      have c0 := (hc.keep hinv) 0 _ rfl
      have c1 := (hc.keep hinv) 1 _ rfl
      have c2 := (hc.keep hinv) 2 _ rfl
      have c3 := (hc.keep hinv) 3 _ rfl
      have c4 := (hc.keep hinv) 4 _ rfl
      have c5 := (hc.keep hinv) 5 _ rfl
      simp only [SlotC_n, Nat.add_zero, Nat.mul_one] at c0 c1 c2 c3 c4 c5
      have HR := Lib.hid (SlotC.keep _ _ _ _ hinv hr)
      clear hc hr
      obtain ⟨b', o', cs', rfl, hc, hr⟩ := hat' k x hx
      have hr0 := hr
      obtain ⟨rfl, kr0, kr1, kr2, kr3, kr4, kr5⟩ := hr0
      have HR' := Lib.hid (SlotC.keep _ _ _ _ hinv hr)
      clear hr
      have d0 := (hc.keep hinv) 0 _ rfl
      have d1 := (hc.keep hinv) 1 _ rfl
      have d2 := (hc.keep hinv) 2 _ rfl
      have d3 := (hc.keep hinv) 3 _ rfl
      have d4 := (hc.keep hinv) 4 _ rfl
      have d5 := (hc.keep hinv) 5 _ rfl
      simp only [SlotC_n, Nat.add_zero, Nat.mul_one] at d0 d1 d2 d3 d4 d5
      clear hx hat hat' hc
      have hE := Ext.rule wr
      have hlt' : (k : Int) < (xs.length : Int) := by omega
      go_wp2_with fail
      go_region_held3 (fun w' => Ext wr w') ((repeat (first | with_reducible exact Ext.refl _ | with_reducible assumption | with_reducible refine Ext.alloc ?_ _ | with_reducible refine Ext.drew ?_ | with_reducible refine Ext.drewN ?_ _ | (with_reducible refine Ext.setCell ?_ (by first | omega | (dsimp only; omega)) _) | with_reducible refine Ext.trans ?_ (by assumption)))) ((first | (go_at_call 47; refine (eqSlot_c x _ _ _ (SlotC.keep _ _ _ _ (by (repeat (first | with_reducible exact Ext.refl _ | with_reducible assumption | with_reducible refine Ext.alloc ?_ _ | with_reducible refine Ext.drew ?_ | with_reducible refine Ext.drewN ?_ _ | (with_reducible refine Ext.setCell ?_ (by first | omega | (dsimp only; omega)) _) | with_reducible refine Ext.trans ?_ (by assumption)))) HR.out) (SlotC.keep _ _ _ _ (by (repeat (first | with_reducible exact Ext.refl _ | with_reducible assumption | with_reducible refine Ext.alloc ?_ _ | with_reducible refine Ext.drew ?_ | with_reducible refine Ext.drewN ?_ _ | (with_reducible refine Ext.setCell ?_ (by first | omega | (dsimp only; omega)) _) | with_reducible refine Ext.trans ?_ (by assumption)))) HR'.out)).mono ?_; rintro e w1 ⟨rfl, hb1⟩; obtain ⟨hk1, hf1⟩ := hb1.keeps)))
      go_wp2_with fail
      go_roundw
      case rel => exact ⟨k + 1, by omega, by go_num, by (repeat (first | with_reducible exact Ext.refl _ | with_reducible assumption | with_reducible refine Ext.alloc ?_ _ | with_reducible refine Ext.drew ?_ | with_reducible refine Ext.drewN ?_ _ | (with_reducible refine Ext.setCell ?_ (by first | omega | (dsimp only; omega)) _) | with_reducible refine Ext.trans ?_ (by assumption)))⟩
      case measure => simp [intOf]; omega
    · clear hat hat'
      go_wp2
      go_ret
      exact ⟨rfl, hinv⟩

end Go.Proofs.Ytcpoglgldelhnaa
