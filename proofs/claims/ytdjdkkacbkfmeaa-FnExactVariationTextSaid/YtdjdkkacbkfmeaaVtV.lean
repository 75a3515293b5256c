/- VariationText (impl), by the machine. -/
import Derived.Test.YtdjdkkacbkfmeaaVtP
import Derived.Test.YtdjdkkacbkfmeaaWfV
import Derived.Test.YtdjdkkacbkfmeaaBldS
set_option linter.unusedSimpArgs false
set_option linter.unusedVariables false
namespace Go.Proofs.Ytdjdkkacbkfmeaa
open Go.RowKit
def ptT (p : TPt) : ByteArray := decB p.fX ++ ⟨#[44]⟩ ++ decB p.fY
theorem bs1 (c : UInt8) : ByteArray.size ⟨#[c]⟩ = 1 := rfl
theorem bs5 : ByteArray.size ⟨#[97, 120, 105, 115, 32]⟩ = 5 := rfl
theorem bs6 : ByteArray.size ⟨#[109, 97, 115, 116, 101, 114]⟩ = 6 := rfl
theorem bs6' : ByteArray.size ⟨#[100, 101, 108, 116, 97, 32]⟩ = 6 := rfl
theorem dcS (n : Int) : (decB n).size = (decS n).length := by rw [decB, mkS_size]
theorem ptT_size {p : TPt} (h : pntB p = true) : (ptT p).size ≤ 43 := by
  have a := pnt_in h
  have h2 := decS_l (n := p.fX) (by omega) (by omega)
  have h3 := decS_l (n := p.fY) (by omega) (by omega)
  rw [ptT, ByteArray.size_append, ByteArray.size_append, bs1, dcS, dcS]
  omega
theorem axT_bs (a : TAxis) : (⟨#[97, 120, 105, 115, 32]⟩ ++ textB a ++ ⟨#[10]⟩ : ByteArray).data.toList = axT a := by simp [axT]
theorem pkT_bs (p : TPeak) : (⟨#[32]⟩ ++ decB p.fStart ++ ⟨#[58]⟩ ++ decB p.fTop ++ ⟨#[58]⟩ ++ decB p.fEnd : ByteArray).data.toList = pkT p := by
  simp [pkT, decB, mkS]
theorem knT_bs (k : Int) (p : TPt) : (⟨#[32]⟩ ++ decB k ++ ⟨#[58]⟩ ++ ptT p : ByteArray).data.toList = knT k p := by
  simp [knT, ptT, decB, mkS]
theorem dhT_bs (d : TGlyphDelta) : (⟨#[100, 101, 108, 116, 97, 32]⟩ ++ decB d.fGlyph ++ ⟨#[32]⟩ ++ decB d.fAdvance : ByteArray).data.toList = [100, 101, 108, 116, 97, 32] ++ decS d.fGlyph ++ [32] ++ decS d.fAdvance := by
  simp [decB, mkS]
def vtS (v : TVariation) : ByteArray := if wfB v = true then mkS (vrT v) else .empty
theorem PtText_v (p : TPt) (h : pntB p = true) : PC Try.prog 63 [.d p.D] (.d (.str (ptT p))) [] := by
  refine pc_intro ttOk (by kernel_rfl) Try.func63 rfl (by kernel_rfl) (by kernel_rfl) (by kernel_rfl) (fun hw => ?_)
  have a := pnt_in h
  have h2 := decS_l (n := p.fX) (by omega) (by omega)
  have h3 := decS_l (n := p.fY) (by omega) (by omega)
  have c := ValidPt_v p
  rw [h] at c
  (conv => whnf)
  (repeat' (first | (refine stg_ ?_) | (refine cla_ (c) ?_) | (refine cla_ (Decimal_v _) ?_) | (refine CatW.at (by show _ ≤ 9223372036854775807; simp only [ByteArray.size_append, dcS, bs1]; omega) ?_; conv => whnf) | (refine br_ (fun hbr => ?_) (fun hbr => ?_))))
  (refine RetOK.d rfl rfl ?_; conv => whnf)
  rfl
theorem l03Text_v (p : TPt) (h : pntB p = true) : PC Try.prog 114 [.d p.D] (.d (.str (ptT p))) [] := by
  refine pc_intro ttOk (by kernel_rfl) Try.func114 rfl (by kernel_rfl) (by kernel_rfl) (by kernel_rfl) (fun hw => ?_)
  have a := pnt_in h
  have h2 := decS_l (n := p.fX) (by omega) (by omega)
  have h3 := decS_l (n := p.fY) (by omega) (by omega)
  (conv => whnf)
  (repeat' (first | (refine stg_ ?_) | (refine cla_ (l01Dec_v _) ?_) | (refine CatW.at (by show _ ≤ 9223372036854775807; simp only [ByteArray.size_append, dcS, bs1]; omega) ?_; conv => whnf) | (refine br_ (fun hbr => ?_) (fun hbr => ?_))))
  (refine RetOK.d rfl rfl ?_; conv => whnf)
  rfl
set_option maxHeartbeats 8000000 in
theorem VariationText_v (v : TVariation) : PC Try.prog 19 [.d v.D] (.d (.str (vtS v))) [] := by
  refine pc_intro ttOk (by kernel_rfl) Try.func19 rfl (by kernel_rfl) (by kernel_rfl) (by kernel_rfl) (fun hw => ?_)
  have hL : (v.fMasters.map TMaster.D).length = v.fMasters.length := List.length_map _
  have hLa : (v.fAxes.map TAxis.D).length = v.fAxes.length := List.length_map _
  have hT : vtS v = if wfB v = true then mkS (vrT v) else .empty := rfl
  have c0 := wellFormed_v v
  cases hB : wfB v <;> rw [hB] at c0 hT
  · rw [hT]
    (conv => whnf)
    (repeat' (first | (refine stg_ ?_) | (refine cla_ (c0) ?_) | (refine br_ (fun hbr => ?_) (fun hbr => ?_))))
    all_goals ((refine RetOK.d rfl rfl ?_; conv => whnf); rfl)
  rw [if_pos rfl] at hT
  rw [hT]
  obtain ⟨w1, w2, w3, w4⟩ := wf_in hB
  have hax : ∀ x ∈ v.fAxes, (axT x).length ≤ 1006 := fun x hx => by
    obtain ⟨k, hk⟩ := List.getElem?_of_mem hx
    exact axT_len (axs_at w1 hk)
  have hma : ∀ m ∈ v.fMasters, (maT m).length ≤ 1000300 := fun m hm => maT_len w2 (w4 m hm)
  (conv => whnf)
  (repeat' (first | (refine stg_ ?_) | (refine cla_ (c0) ?_) | (refine br_ (fun hbr => ?_) (fun hbr => ?_))))
  refine LoopW.go (α := Nat) (fun k => [(1, .pB 1 [] 0), (3, .pB 2 [] 0), (18, .d (.lst (v.fAxes.map TAxis.D))), (19, .d (.int .i64 (v.fAxes.map TAxis.D).length)), (20, .d (.int .i64 k))]) (fun k => [.gone, .box (.d v.D), .bld 107 5 ((v.fAxes.take k).flatMap axT)]) (fun k => k ≤ v.fAxes.length) (fun k => v.fAxes.length - k) 0 covT_ (by omega) (fun k hk => ?_)
  have hl1 := fm_take hax k
  (conv => whnf)
  (refine br_ (fun h1 => ?_) (fun h1 => ?_))
  · obtain ⟨a, ha⟩ := at_lt' (xs := v.fAxes) (k := k) (by omega)
    have hA := axs_at w1 ha
    have hts := textB_size hA
    have c1 := AxisText_v a
    rw [hA, if_pos rfl] at c1
    have c2 := ws_b ((v.fAxes.take k).flatMap axT) (⟨#[97, 120, 105, 115, 32]⟩ ++ textB a ++ ⟨#[10]⟩) (by simp only [ByteArray.size_append, bs1, bs5]; omega)
    rw [axT_bs] at c2
    (repeat' (first | (refine stg_ ?_) | (refine cla_ (c1) ?_) | (refine clb_ (c2) ?_) | (refine CatW.at (by show _ ≤ 9223372036854775807; simp only [ByteArray.size_append, bs1, bs5]; omega) ?_; conv => whnf) | (refine br_ (fun hbr => ?_) (fun hbr => ?_))))
    refine NextW.go (k + 1) (Weak.cov ⟨rfl, rfl, rfl, rfl, rfl, trivial⟩ ⟨trivial, rfl, ?_, trivial⟩ rfl) (by omega) (by omega)
    rw [fm_at axT ha]
  · obtain rfl : k = v.fAxes.length := by omega
    rw [List.take_length] at *
    (repeat (refine stg_ ?_))
    refine LoopW.go (α := Nat) (fun i => [(3, .pB 2 [] 0), (31, .d (.lst (v.fMasters.map TMaster.D))), (32, .d (.int .i64 (v.fMasters.map TMaster.D).length)), (33, .d (.int .i64 i))]) (fun i => [.gone, .gone, .bld 107 5 (v.fAxes.flatMap axT ++ (v.fMasters.take i).flatMap maT)]) (fun i => i ≤ v.fMasters.length) (fun i => v.fMasters.length - i) 0 (Weak.cov ⟨rfl, rfl, rfl, rfl, trivial⟩ ⟨trivial, trivial, by simp, trivial⟩ rfl) (by omega) (fun i hi => ?_)
    have hl2 := fm_take hma i
    generalize hB1 : v.fAxes.flatMap axT ++ (v.fMasters.take i).flatMap maT = B1 at *
    have hBl : B1.length ≤ 20000000 := by rw [← hB1, List.length_append]; omega
    (conv => whnf)
    (refine br_ (fun h2 => ?_) (fun h2 => ?_))
    · obtain ⟨m, hm⟩ := at_lt' (xs := v.fMasters) (k := i) (by omega)
      obtain ⟨m1, m2, m3, m4⟩ := w4 m (List.mem_of_getElem? hm)
      have hem : (v.fMasters.map TMaster.D)[i]? = some m.D := by rw [List.getElem?_map, hm]; rfl
      have hLp : (m.fPeaks.map TPeak.D).length = m.fPeaks.length := List.length_map _
      have hLd : (m.fDeltas.map TGlyphDelta.D).length = m.fDeltas.length := List.length_map _
      have c3 := ws_b B1 ⟨#[109, 97, 115, 116, 101, 114]⟩ (by rw [bs6]; omega)
      have hpl : ∀ p ∈ m.fPeaks, (pkT p).length ≤ 66 := fun p hp => pkT_len (m3 p hp)
      have hdl : ∀ d ∈ m.fDeltas, (dlT d).length ≤ 50000 := fun d hd => dlT_len (m4 d hd)
      (repeat' (first | (refine stg_ ?_) | (refine clb_ (c3) ?_) | (refine br_ (fun hbr => ?_) (fun hbr => ?_))))
      refine LoopW.go (α := Nat) (fun k => [(3, .pB 2 [] 0), (7, .pB 3 [] 0), (31, .d (.lst (v.fMasters.map TMaster.D))), (32, .d (.int .i64 (v.fMasters.map TMaster.D).length)), (33, .d (.int .i64 i)), (39, .d (.lst (m.fPeaks.map TPeak.D))), (40, .d (.int .i64 (m.fPeaks.map TPeak.D).length)), (41, .d (.int .i64 k))]) (fun k => [.gone, .gone, .bld 107 5 (B1 ++ mrT ++ (m.fPeaks.take k).flatMap pkT), .box (.d m.D)]) (fun k => k ≤ m.fPeaks.length) (fun k => m.fPeaks.length - k) 0 (Weak.cov ⟨rfl, rfl, rfl, rfl, rfl, rfl, rfl, rfl, trivial⟩ ⟨trivial, trivial, by simp [mrT], rfl, trivial⟩ rfl) (by omega) (fun k hk2 => ?_)
      have hl3 := fm_take hpl k
      have hmr : mrT.length = 6 := rfl
      generalize hB2 : B1 ++ mrT ++ (m.fPeaks.take k).flatMap pkT = B2 at *
      have hBl2 : B2.length ≤ 20001000 := by rw [← hB2, List.length_append, List.length_append]; omega
      (conv => whnf)
      (refine br_ (fun h3 => ?_) (fun h3 => ?_))
      · obtain ⟨p, hp⟩ := at_lt' (xs := m.fPeaks) (k := k) (by omega)
        have hep : (m.fPeaks.map TPeak.D)[k]? = some p.D := by rw [List.getElem?_map, hp]; rfl
        obtain ⟨p1, p2, p3⟩ := pk_l (m3 p (List.mem_of_getElem? hp))
        have c4 := ws_b B2 (⟨#[32]⟩ ++ decB p.fStart ++ ⟨#[58]⟩ ++ decB p.fTop ++ ⟨#[58]⟩ ++ decB p.fEnd) (by simp only [ByteArray.size_append, bs1, dcS]; omega)
        rw [pkT_bs] at c4
        (repeat' (first | (refine stg_ ?_) | (refine cla_ (Decimal_v _) ?_) | (refine clb_ (c4) ?_) | (refine CatW.at (by show _ ≤ 9223372036854775807; simp only [ByteArray.size_append, bs1, dcS]; omega) ?_; conv => whnf) | (refine br_ (fun hbr => ?_) (fun hbr => ?_))))
        refine NextW.go (k + 1) (Weak.cov ⟨rfl, rfl, rfl, rfl, rfl, rfl, rfl, rfl, trivial⟩ ⟨trivial, trivial, ?_, rfl, trivial⟩ rfl) (by omega) (by omega)
        rw [fm_at pkT hp, ← List.append_assoc, hB2]
      · obtain rfl : k = m.fPeaks.length := by omega
        rw [List.take_length] at *
        have c5 := ws_b B2 ⟨#[10]⟩ (by rw [bs1]; omega)
        (repeat' (first | (refine stg_ ?_) | (refine clb_ (c5) ?_) | (refine br_ (fun hbr => ?_) (fun hbr => ?_))))
        generalize hB3 : B2 ++ [10] = B3 at *
        have hBl3 : B3.length ≤ 20001001 := by rw [← hB3, List.length_append]; show B2.length + 1 ≤ _; omega
        refine LoopW.go (α := Nat) (fun j => [(3, .pB 2 [] 0), (31, .d (.lst (v.fMasters.map TMaster.D))), (32, .d (.int .i64 (v.fMasters.map TMaster.D).length)), (33, .d (.int .i64 i)), (63, .d (.lst (m.fDeltas.map TGlyphDelta.D))), (64, .d (.int .i64 (m.fDeltas.map TGlyphDelta.D).length)), (65, .d (.int .i64 j))]) (fun j => [.gone, .gone, .bld 107 5 (B3 ++ (m.fDeltas.take j).flatMap dlT)]) (fun j => j ≤ m.fDeltas.length) (fun j => m.fDeltas.length - j) 0 (Weak.cov ⟨rfl, rfl, rfl, rfl, rfl, rfl, rfl, trivial⟩ ⟨trivial, trivial, by rw [List.take_zero, List.flatMap_nil, List.append_nil, ← hB3], trivial⟩ rfl) (by omega) (fun j hj => ?_)
        have hl4 := fm_take hdl j
        generalize hB4 : B3 ++ (m.fDeltas.take j).flatMap dlT = B4 at *
        have hBl4 : B4.length ≤ 21001001 := by rw [← hB4, List.length_append]; omega
        (conv => whnf)
        (refine br_ (fun h4 => ?_) (fun h4 => ?_))
        · obtain ⟨d, hd⟩ := at_lt' (xs := m.fDeltas) (k := j) (by omega)
          have hed : (m.fDeltas.map TGlyphDelta.D)[j]? = some d.D := by rw [List.getElem?_map, hd]; rfl
          obtain ⟨g1, g2, g3, g4, g5, g6⟩ := gd_in (m4 d (List.mem_of_getElem? hd))
          have b1 := decS_l (n := d.fGlyph) (by omega) (by omega)
          have b2 := decS_l (n := d.fAdvance) (by omega) (by omega)
          have hLk : (d.fKnots.map (D.int .i64)).length = d.fKnots.length := List.length_map _
          have hLm : (d.fMoves.map TPt.D).length = d.fMoves.length := List.length_map _
          have c6 := ws_b B4 (⟨#[100, 101, 108, 116, 97, 32]⟩ ++ decB d.fGlyph ++ ⟨#[32]⟩ ++ decB d.fAdvance) (by simp only [ByteArray.size_append, bs1, bs6', dcS]; omega)
          rw [dhT_bs] at c6
          (repeat' (first | (refine stg_ ?_) | (refine cla_ (Decimal_v _) ?_) | (refine clb_ (c6) ?_) | (refine CatW.at (by show _ ≤ 9223372036854775807; simp only [ByteArray.size_append, bs1, bs6', dcS]; omega) ?_; conv => whnf) | (refine br_ (fun hbr => ?_) (fun hbr => ?_))))
          generalize hB5 : B4 ++ ([100, 101, 108, 116, 97, 32] ++ decS d.fGlyph ++ [32] ++ decS d.fAdvance) = B5 at *
          have hBl5 : B5.length ≤ 21001050 := by rw [← hB5]; simp only [List.length_append, List.length_cons, List.length_nil]; omega
          refine LoopW.go (α := Nat) (fun q => [(3, .pB 2 [] 0), (11, .pB 3 [] 0), (31, .d (.lst (v.fMasters.map TMaster.D))), (32, .d (.int .i64 (v.fMasters.map TMaster.D).length)), (33, .d (.int .i64 i)), (63, .d (.lst (m.fDeltas.map TGlyphDelta.D))), (64, .d (.int .i64 (m.fDeltas.map TGlyphDelta.D).length)), (65, .d (.int .i64 j)), (80, .d (.lst (d.fKnots.map (D.int .i64)))), (81, .d (.int .i64 (d.fKnots.map (D.int .i64)).length)), (82, .d (.int .i64 q))]) (fun q => [.gone, .gone, .bld 107 5 (B5 ++ knsT (d.fKnots.take q) (d.fMoves.take q)), .box (.d d.D)]) (fun q => q ≤ d.fKnots.length) (fun q => d.fKnots.length - q) 0 (Weak.cov ⟨rfl, rfl, rfl, rfl, rfl, rfl, rfl, rfl, rfl, rfl, rfl, trivial⟩ ⟨trivial, trivial, by simp [knsT], rfl, trivial⟩ rfl) (by omega) (fun q hq => ?_)
          have hl5 := knsT_len (ks := d.fKnots.take q) (ps := d.fMoves.take q) (mem_take' g3 q) (mem_take' g4 q)
          have hl6 : (d.fKnots.take q).length ≤ d.fKnots.length := by simp; omega
          generalize hB6 : B5 ++ knsT (d.fKnots.take q) (d.fMoves.take q) = B6 at *
          have hBl6 : B6.length ≤ 21101050 := by rw [← hB6, List.length_append]; omega
          (conv => whnf)
          (refine br_ (fun h5 => ?_) (fun h5 => ?_))
          · obtain ⟨k, hk'⟩ := at_lt' (xs := d.fKnots) (k := q) (by omega)
            obtain ⟨p, hp⟩ := at_lt' (xs := d.fMoves) (k := q) (by omega)
            have hek : (d.fKnots.map (D.int .i64))[q]? = some (.int .i64 k) := by rw [List.getElem?_map, hk']; rfl
            have hep : (d.fMoves.map TPt.D)[q]? = some p.D := by rw [List.getElem?_map, hp]; rfl
            have hkb := g3 k (List.mem_of_getElem? hk')
            have hpb := g4 p (List.mem_of_getElem? hp)
            have b3 := decS_l (n := k) (by omega) (by omega)
            have b4 := ptT_size hpb
            have c7 := PtText_v p hpb
            have c8 := ws_b B6 (⟨#[32]⟩ ++ decB k ++ ⟨#[58]⟩ ++ ptT p) (by simp only [ByteArray.size_append, bs1, dcS]; omega)
            rw [knT_bs] at c8
            (repeat' (first | (refine stg_ ?_) | (refine cla_ (Decimal_v _) ?_) | (refine cla_ (c7) ?_) | (refine clb_ (c8) ?_) | (refine CatW.at (by show _ ≤ 9223372036854775807; simp only [ByteArray.size_append, bs1, dcS]; omega) ?_; conv => whnf) | (refine br_ (fun hbr => ?_) (fun hbr => ?_))))
            refine NextW.go (q + 1) (Weak.cov ⟨rfl, rfl, rfl, rfl, rfl, rfl, rfl, rfl, rfl, rfl, rfl, trivial⟩ ⟨trivial, trivial, ?_, rfl, trivial⟩ rfl) (by omega) (by omega)
            rw [knsT_at hk' hp, ← List.append_assoc, hB6]
          · obtain rfl : q = d.fKnots.length := by omega
            rw [List.take_length, List.take_of_length_le (show d.fMoves.length ≤ d.fKnots.length by omega)] at hB6
            have c9 := ws_b B6 ⟨#[10]⟩ (by rw [bs1]; omega)
            (repeat' (first | (refine stg_ ?_) | (refine clb_ (c9) ?_) | (refine br_ (fun hbr => ?_) (fun hbr => ?_))))
            refine NextW.go (j + 1) (Weak.cov ⟨rfl, rfl, rfl, rfl, rfl, rfl, rfl, trivial⟩ ⟨trivial, trivial, ?_, trivial⟩ rfl) (by omega) (by omega)
            rw [fm_at dlT hd, ← List.append_assoc, hB4, ← hB6, ← hB5, dlT]
            simp only [List.append_assoc]
        · obtain rfl : j = m.fDeltas.length := by omega
          rw [List.take_length] at hB4
          (repeat (refine stg_ ?_))
          refine NextW.go (i + 1) (Weak.cov ⟨rfl, rfl, rfl, rfl, trivial⟩ ⟨trivial, trivial, ?_, trivial⟩ rfl) (by omega) (by omega)
          rw [fm_at maT hm, ← List.append_assoc, hB1, ← hB4, ← hB3, ← hB2, maT]
          simp only [List.append_assoc]
    · obtain rfl : i = v.fMasters.length := by omega
      rw [List.take_length] at *
      (refine clb_ (str_b _) ?_)
      (repeat (refine stg_ ?_))
      (refine RetOK.d rfl rfl ?_; conv => whnf)
      rw [← hB1]; rfl
end Go.Proofs.Ytdjdkkacbkfmeaa
