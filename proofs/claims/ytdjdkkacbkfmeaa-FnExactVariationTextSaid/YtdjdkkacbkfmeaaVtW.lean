/- VariationText (spec), by the machine. -/
import Derived.Test.YtdjdkkacbkfmeaaVtV
set_option linter.unusedSimpArgs false
set_option linter.unusedVariables false
namespace Go.Proofs.Ytdjdkkacbkfmeaa
open Go.RowKit
set_option maxHeartbeats 8000000 in
theorem l30Text_v (v : TVariation) (hB : wfB v = true) : PC Try.prog 58 [.pX v.D] (.d (.str (mkS (vrT v)))) [] := by
  refine pc_intro ttOk (by kernel_rfl) Try.func58 rfl (by kernel_rfl) (by kernel_rfl) (by kernel_rfl) (fun hw => ?_)
  have hL : (v.fMasters.map TMaster.D).length = v.fMasters.length := List.length_map _
  have hLa : (v.fAxes.map TAxis.D).length = v.fAxes.length := List.length_map _
  obtain ⟨w1, w2, w3, w4⟩ := wf_in hB
  have hax : ∀ x ∈ v.fAxes, (axT x).length ≤ 1006 := fun x hx => by
    obtain ⟨k, hk⟩ := List.getElem?_of_mem hx
    exact axT_len (axs_at w1 hk)
  have hma : ∀ m ∈ v.fMasters, (maT m).length ≤ 1000300 := fun m hm => maT_len w2 (w4 m hm)
  (conv => whnf)
  (repeat (refine stg_ ?_))
  refine LoopW.go (α := Nat) (fun k => [(0, .pX v.D), (3, .own 1 0 (((v.fAxes.take k).flatMap axT).map bD).length), (4, .d (.int .i64 k))]) (fun k => [.gone, .arr 1 (((v.fAxes.take k).flatMap axT).map bD) true]) (fun k => k ≤ v.fAxes.length) (fun k => v.fAxes.length - k) 0 covT_ (by omega) (fun k hk => ?_)
  have hl1 := fm_take hax k
  have hlm : (((v.fAxes.take k).flatMap axT).map bD).length = ((v.fAxes.take k).flatMap axT).length := List.length_map _
  (conv => whnf)
  (refine br_ (fun h1 => ?_) (fun h1 => ?_))
  · obtain ⟨a, ha⟩ := at_lt' (xs := v.fAxes) (k := k) (by omega)
    have hA := axs_at w1 ha
    have hts := textB_size hA
    have hal := axT_len hA
    have c1 := l29Text_v a hA
    (repeat' (first | (refine stg_ ?_) | (refine cla_ (c1) ?_) | (refine CatW.at (by show _ ≤ 9223372036854775807; simp only [ByteArray.size_append, bs1, bs5]; omega) ?_; conv => whnf) | (refine br_ (fun hbr => ?_) (fun hbr => ?_))))
    rw [axT_bs]
    refine ApW.at (by rw [List.length_map, List.length_map]; show _ ≤ 9223372036854775807; omega) (by rw [List.length_map, List.length_map]; show _ * 1 ≤ _; omega) ?_
    (conv => whnf)
    (repeat (refine stg_ ?_))
    refine NextW.go (k + 1) (Weak.cov ⟨rfl, ?_, rfl, trivial⟩ ⟨trivial, ?_, trivial⟩ rfl) (by omega) (by omega)
    · rw [fm_at axT ha, List.map_append, List.length_append]; rfl
    · rw [fm_at axT ha, List.map_append, List.take_length]
  · obtain rfl : k = v.fAxes.length := by omega
    rw [List.take_length] at *
    (repeat (refine stg_ ?_))
    have hl0 := hl1
    refine LoopW.go (α := Nat) (fun i => [(0, .pX v.D), (3, .own 1 0 ((v.fAxes.flatMap axT ++ (v.fMasters.take i).flatMap maT).map bD).length), (5, .d (.int .i64 i))]) (fun i => [.gone, .arr 1 ((v.fAxes.flatMap axT ++ (v.fMasters.take i).flatMap maT).map bD) true]) (fun i => i ≤ v.fMasters.length) (fun i => v.fMasters.length - i) 0 (Weak.cov ⟨rfl, by simp; try rfl, rfl, trivial⟩ ⟨trivial, by simp; try rfl, trivial⟩ rfl) (by omega) (fun i hi => ?_)
    have hl2 := fm_take hma i
    generalize hB1 : v.fAxes.flatMap axT ++ (v.fMasters.take i).flatMap maT = B1 at *
    have hBl : B1.length ≤ 20000000 := by rw [← hB1, List.length_append]; omega
    have hBm1 : (B1.map bD).length = B1.length := List.length_map _
    (conv => whnf)
    (refine br_ (fun h2 => ?_) (fun h2 => ?_))
    · obtain ⟨m, hm⟩ := at_lt' (xs := v.fMasters) (k := i) (by omega)
      obtain ⟨m1, m2, m3, m4⟩ := w4 m (List.mem_of_getElem? hm)
      have hLp : (m.fPeaks.map TPeak.D).length = m.fPeaks.length := List.length_map _
      have hLd : (m.fDeltas.map TGlyphDelta.D).length = m.fDeltas.length := List.length_map _
      have hpl : ∀ p ∈ m.fPeaks, (pkT p).length ≤ 66 := fun p hp => pkT_len (m3 p hp)
      have hdl : ∀ d ∈ m.fDeltas, (dlT d).length ≤ 50000 := fun d hd => dlT_len (m4 d hd)
      (repeat (refine stg_ ?_))
      refine LoopW.go (α := Nat) (fun k => [(0, .pX v.D), (3, .own 1 0 ((B1 ++ mrT ++ (m.fPeaks.take k).flatMap pkT).map bD).length), (5, .d (.int .i64 i)), (6, .pX m.D), (7, .d (.int .i64 k))]) (fun k => [.gone, .arr 1 ((B1 ++ mrT ++ (m.fPeaks.take k).flatMap pkT).map bD) true]) (fun k => k ≤ m.fPeaks.length) (fun k => m.fPeaks.length - k) 0 (Weak.cov ⟨rfl, ?_, rfl, rfl, rfl, trivial⟩ ⟨trivial, ?_, trivial⟩ rfl) (by omega) (fun k hk2 => ?_)
      · rw [show B1 ++ mrT ++ (m.fPeaks.take 0).flatMap pkT = B1 ++ mrT by simp, List.map_append, List.length_append]; rfl
      · rw [show B1 ++ mrT ++ (m.fPeaks.take 0).flatMap pkT = B1 ++ mrT by simp, List.map_append, List.take_length]; try rfl
      have hl3 := fm_take hpl k
      have hmr : mrT.length = 6 := rfl
      generalize hB2 : B1 ++ mrT ++ (m.fPeaks.take k).flatMap pkT = B2 at *
      have hBl2 : B2.length ≤ 20001000 := by rw [← hB2, List.length_append, List.length_append]; omega
      have hBm2 : (B2.map bD).length = B2.length := List.length_map _
      (conv => whnf)
      (refine br_ (fun h3 => ?_) (fun h3 => ?_))
      · obtain ⟨p, hp⟩ := at_lt' (xs := m.fPeaks) (k := k) (by omega)
        have hep : (m.fPeaks.map TPeak.D)[k]? = some p.D := by rw [List.getElem?_map, hp]; rfl
        have hpb := m3 p (List.mem_of_getElem? hp)
        obtain ⟨p1, p2, p3⟩ := pk_l hpb
        have hpt := pkT_len hpb
        (repeat' (first | (refine stg_ ?_) | (refine cla_ (l01Dec_v _) ?_) | (refine CatW.at (by show _ ≤ 9223372036854775807; simp only [ByteArray.size_append, bs1, dcS]; omega) ?_; conv => whnf) | (refine br_ (fun hbr => ?_) (fun hbr => ?_))))
        rw [pkT_bs]
        refine ApW.at (by simp only [List.length_map]; show _ ≤ 9223372036854775807; omega) (by simp only [List.length_map]; show _ * 1 ≤ _; omega) ?_
        (conv => whnf)
        (repeat (refine stg_ ?_))
        refine NextW.go (k + 1) (Weak.cov ⟨rfl, ?_, rfl, rfl, rfl, trivial⟩ ⟨trivial, ?_, trivial⟩ rfl) (by omega) (by omega)
        · rw [fm_at pkT hp, ← List.append_assoc, hB2, List.map_append, List.length_append]; rfl
        · rw [fm_at pkT hp, ← List.append_assoc, hB2, List.map_append, List.take_length]; try rfl
      · obtain rfl : k = m.fPeaks.length := by omega
        rw [List.take_length] at *
        (repeat (refine stg_ ?_))
        refine LoopW.go (α := Nat) (fun j => [(0, .pX v.D), (3, .own 1 0 ((B2 ++ [10] ++ (m.fDeltas.take j).flatMap dlT).map bD).length), (5, .d (.int .i64 i)), (6, .pX m.D), (9, .d (.int .i64 j))]) (fun j => [.gone, .arr 1 ((B2 ++ [10] ++ (m.fDeltas.take j).flatMap dlT).map bD) true]) (fun j => j ≤ m.fDeltas.length) (fun j => m.fDeltas.length - j) 0 (Weak.cov ⟨rfl, ?_, rfl, rfl, rfl, trivial⟩ ⟨trivial, ?_, trivial⟩ rfl) (by omega) (fun j hj => ?_)
        · rw [show B2 ++ [10] ++ (m.fDeltas.take 0).flatMap dlT = B2 ++ [10] by simp, List.map_append, List.length_append]; rfl
        · rw [show B2 ++ [10] ++ (m.fDeltas.take 0).flatMap dlT = B2 ++ [10] by simp, List.map_append]; rfl
        have hl4 := fm_take hdl j
        generalize hB4 : B2 ++ [10] ++ (m.fDeltas.take j).flatMap dlT = B4 at *
        have hBl4 : B4.length ≤ 21001001 := by rw [← hB4]; simp only [List.length_append, List.length_cons, List.length_nil]; omega
        have hBm4 : (B4.map bD).length = B4.length := List.length_map _
        (conv => whnf)
        (refine br_ (fun h4 => ?_) (fun h4 => ?_))
        · obtain ⟨d, hd⟩ := at_lt' (xs := m.fDeltas) (k := j) (by omega)
          have hed : (m.fDeltas.map TGlyphDelta.D)[j]? = some d.D := by rw [List.getElem?_map, hd]; rfl
          obtain ⟨g1, g2, g3, g4, g5, g6⟩ := gd_in (m4 d (List.mem_of_getElem? hd))
          have b1 := decS_l (n := d.fGlyph) (by omega) (by omega)
          have b2 := decS_l (n := d.fAdvance) (by omega) (by omega)
          have hLk : (d.fKnots.map (D.int .i64)).length = d.fKnots.length := List.length_map _
          have hLm : (d.fMoves.map TPt.D).length = d.fMoves.length := List.length_map _
          have hdh : ([100, 101, 108, 116, 97, 32] ++ decS d.fGlyph ++ [32] ++ decS d.fAdvance : List UInt8).length ≤ 50 := by simp only [List.length_append, List.length_cons, List.length_nil]; omega
          (repeat' (first | (refine stg_ ?_) | (refine cla_ (l01Dec_v _) ?_) | (refine CatW.at (by show _ ≤ 9223372036854775807; simp only [ByteArray.size_append, bs1, bs6', dcS]; omega) ?_; conv => whnf) | (refine br_ (fun hbr => ?_) (fun hbr => ?_))))
          rw [dhT_bs]
          generalize hdhg : ([100, 101, 108, 116, 97, 32] ++ decS d.fGlyph ++ [32] ++ decS d.fAdvance : List UInt8) = dh at *
          refine ApW.at (by simp only [List.length_map]; show _ ≤ 9223372036854775807; omega) (by simp only [List.length_map]; show _ * 1 ≤ _; omega) ?_
          (conv => whnf)
          (repeat (refine stg_ ?_))
          refine LoopW.go (α := Nat) (fun q => [(0, .pX v.D), (3, .own 1 0 ((B4 ++ dh ++ knsT (d.fKnots.take q) (d.fMoves.take q)).map bD).length), (5, .d (.int .i64 i)), (6, .pX m.D), (9, .d (.int .i64 j)), (10, .pX d.D), (11, .d (.int .i64 q))]) (fun q => [.gone, .arr 1 ((B4 ++ dh ++ knsT (d.fKnots.take q) (d.fMoves.take q)).map bD) true]) (fun q => q ≤ d.fKnots.length) (fun q => d.fKnots.length - q) 0 (Weak.cov ⟨rfl, ?_, rfl, rfl, rfl, rfl, rfl, trivial⟩ ⟨trivial, ?_, trivial⟩ rfl) (by omega) (fun q hq => ?_)
          · rw [show B4 ++ dh ++ knsT (d.fKnots.take 0) (d.fMoves.take 0) = B4 ++ dh by simp [knsT], List.map_append, List.length_append]; rfl
          · rw [show B4 ++ dh ++ knsT (d.fKnots.take 0) (d.fMoves.take 0) = B4 ++ dh by simp [knsT], List.map_append, List.take_length]; try rfl
          have hl5 := knsT_len (ks := d.fKnots.take q) (ps := d.fMoves.take q) (mem_take' g3 q) (mem_take' g4 q)
          have hl6 : (d.fKnots.take q).length ≤ d.fKnots.length := by simp; omega
          generalize hB6 : B4 ++ dh ++ knsT (d.fKnots.take q) (d.fMoves.take q) = B6 at *
          have hBl6 : B6.length ≤ 21101050 := by rw [← hB6]; simp only [List.length_append]; omega
          have hBm6 : (B6.map bD).length = B6.length := List.length_map _
          (conv => whnf)
          (refine br_ (fun h5 => ?_) (fun h5 => ?_))
          · obtain ⟨k, hk'⟩ := at_lt' (xs := d.fKnots) (k := q) (by omega)
            obtain ⟨p, hp⟩ := at_lt' (xs := d.fMoves) (k := q) (by omega)
            have hek : (d.fKnots.map (D.int .i64))[q]? = some (.int .i64 k) := by rw [List.getElem?_map, hk']; rfl
            have hep : (d.fMoves.map TPt.D)[q]? = some p.D := by rw [List.getElem?_map, hp]; rfl
            have hkb := g3 k (List.mem_of_getElem? hk')
            have hpb := g4 p (List.mem_of_getElem? hp)
            have b3 := decS_l (n := k) (by omega) (by omega)
            have b4 := ptT_size hpb
            have b5 := knT_len hkb hpb
            have c7 := l03Text_v p hpb
            (repeat' (first | (refine stg_ ?_) | (refine cla_ (l01Dec_v _) ?_) | (refine cla_ (c7) ?_) | (refine CatW.at (by show _ ≤ 9223372036854775807; simp only [ByteArray.size_append, bs1, dcS]; omega) ?_; conv => whnf) | (refine br_ (fun hbr => ?_) (fun hbr => ?_))))
            rw [knT_bs]
            refine ApW.at (by simp only [List.length_map]; show _ ≤ 9223372036854775807; omega) (by simp only [List.length_map]; show _ * 1 ≤ _; omega) ?_
            (conv => whnf)
            (repeat (refine stg_ ?_))
            refine NextW.go (q + 1) (Weak.cov ⟨rfl, ?_, rfl, rfl, rfl, rfl, rfl, trivial⟩ ⟨trivial, ?_, trivial⟩ rfl) (by omega) (by omega)
            · rw [knsT_at hk' hp, ← List.append_assoc, hB6, List.map_append, List.length_append]; rfl
            · rw [knsT_at hk' hp, ← List.append_assoc, hB6, List.map_append, List.take_length]; try rfl
          · obtain rfl : q = d.fKnots.length := by omega
            rw [List.take_length, List.take_of_length_le (show d.fMoves.length ≤ d.fKnots.length by omega)] at hB6
            (repeat (refine stg_ ?_))
            have hE : B2 ++ [10] ++ (m.fDeltas.take (j + 1)).flatMap dlT = B6 ++ [10] := by
              rw [fm_at dlT hd, ← List.append_assoc, hB4, ← hB6, ← hdhg, dlT]
              simp only [List.append_assoc]
            refine NextW.go (j + 1) (Weak.cov ⟨rfl, ?_, rfl, rfl, rfl, trivial⟩ ⟨trivial, ?_, trivial⟩ rfl) (by omega) (by omega)
            · rw [hE, List.map_append, List.length_append]; rfl
            · rw [hE, List.map_append, List.take_length]; try rfl
        · obtain rfl : j = m.fDeltas.length := by omega
          rw [List.take_length] at hB4
          (repeat (refine stg_ ?_))
          have hE : v.fAxes.flatMap axT ++ (v.fMasters.take (i + 1)).flatMap maT = B4 := by
            rw [fm_at maT hm, ← List.append_assoc, hB1, ← hB4, ← hB2, maT]
            simp only [List.append_assoc]
          refine NextW.go (i + 1) (Weak.cov ⟨rfl, ?_, rfl, trivial⟩ ⟨trivial, ?_, trivial⟩ rfl) (by omega) (by omega)
          · rw [hE]; rfl
          · rw [hE]
    · obtain rfl : i = v.fMasters.length := by omega
      rw [List.take_length] at *
      (try (refine stg_ ?_))
      refine StW.at (s := mkS B1) (by rw [mkS_toList, List.drop_zero, List.take_length]) ?_
      (conv => whnf)
      (refine RetOK.d rfl rfl ?_; conv => whnf)
      rw [← hB1]; rfl
theorem specVariationText_v (v : TVariation) : PC Try.prog 18 [.d v.D] (.d (.str (vtS v))) [] := by
  refine pc_intro ttOk (by kernel_rfl) Try.func18 rfl (by kernel_rfl) (by kernel_rfl) (by kernel_rfl) (fun hw => ?_)
  have hT : vtS v = if wfB v = true then mkS (vrT v) else .empty := rfl
  have c0 := l30Formed_v v
  cases hB : wfB v <;> rw [hB] at c0 hT
  · rw [hT]
    (conv => whnf)
    (repeat' (first | (refine stg_ ?_) | (refine cla_ (c0) ?_) | (refine br_ (fun hbr => ?_) (fun hbr => ?_))))
    all_goals ((refine RetOK.d rfl rfl ?_; conv => whnf); rfl)
  · rw [if_pos rfl] at hT
    rw [hT]
    (conv => whnf)
    (repeat' (first | (refine stg_ ?_) | (refine cla_ (c0) ?_) | (refine cla_ (l30Text_v v hB) ?_) | (refine br_ (fun hbr => ?_) (fun hbr => ?_))))
    all_goals ((refine RetOK.d rfl rfl ?_; conv => whnf); try rfl)
end Go.Proofs.Ytdjdkkacbkfmeaa
