/- Anchors of glyphs and their parts: both sides, by the machine. -/
import Derived.Test.YtcachhipflibkaaGreatPlP
import Derived.Test.YtcachhipflibkaaGreatVMPM
import Derived.Test.YtcachhipflibkaaGreatVMFz
import Derived.Test.YtcachhipflibkaaGreatVMBz
set_option linter.unusedSimpArgs false
set_option linter.unusedVariables false
namespace Go.Proofs.YtcachhipflibkaaGreat
open Go.RowKit
theorem gl_small {g : TGlyph} (h : glB g = true) : g.fParts.length ≤ 6 ∧ g.fAnchors.length ≤ 6 ∧ ∀ p ∈ g.fParts, 0 ≤ p.fGlyph ∧ p.fGlyph ≤ 39 := by
  simp only [glB, Bool.and_eq_true, decide_eq_true_eq, List.all_eq_true] at h
  refine ⟨h.2.2.2.2.2.1, h.2.2.2.2.2.2.1, fun p hp => ?_⟩
  have h3 := h.2.2.2.2.2.2.2.2.1 p hp
  simp only [ptB, inB, Bool.and_eq_true, decide_eq_true_eq] at h3
  exact h3.1
/-- the order, and what it says of a glyph -/
def ordG (s : TGlyphSet) : List Int := oAll (psG s.fGlyphs)
theorem GsK.at {s : TGlyphSet} (K : GsK s) {k : Nat} {i : Int} (hk : (ordG s)[k]? = some i) : ∃ g, 0 ≤ i ∧ s.fGlyphs[i.toNat]? = some g := by
  have h := K.ord.topo.rng i (List.mem_of_getElem? hk)
  rw [psG_len] at h
  obtain ⟨g, hg⟩ := at_lt' (xs := s.fGlyphs) (k := i.toNat) h.2
  exact ⟨g, h.1, hg⟩
theorem GsK.pos {s : TGlyphSet} (K : GsK s) {i : Int} (h0 : 0 ≤ i) (h1 : i.toNat < s.fGlyphs.length) : ∃ k : Nat, (ordG s)[k]? = some i := by
  have := K.ord.mem i.toNat h1
  rw [Int.toNat_of_nonneg h0] at this
  exact List.getElem?_of_mem this
theorem l17Anchor_v (g : TGlyph) (nm : ByteArray) : PC Tryz.prog 170 [.pX g.D, .d (.str nm)] (.d (.int .i64 (fdx (anEq nm) g.fAnchors 0))) [] := by
  refine pc_intro ttOk (by kernel_rfl) Tryz.func170 rfl (by kernel_rfl) (by kernel_rfl) (by kernel_rfl) (fun hw => ?_)
  have hL : (g.fAnchors.map TAnchor.D).length = g.fAnchors.length := List.length_map _
  have hm : (g.fAnchors.map TAnchor.D).length ≤ 9223372036854775807 := hw.1.2.2.2.2.2.1.1
  (conv => whnf)
  refine LoopW.go (α := Nat) (fun k => [(0, .pX g.D), (1, .d (.str nm)), (5, .d (.int .i64 k))]) (fun k => [.gone]) (fun k => k ≤ g.fAnchors.length ∧ fdx (anEq nm) g.fAnchors 0 = fdx (anEq nm) (g.fAnchors.drop k) k) (fun k => g.fAnchors.length - k) 0 covT_ ?_ (fun k hk => ?_)
  · exact ⟨by omega, rfl⟩
  obtain ⟨hk1, hk2⟩ := hk
  (conv => whnf)
  (repeat (refine stg_ ?_))
  (refine br_ (fun h2 => ?_) (fun h2 => ?_) <;> (repeat (refine stg_ ?_)))
  · obtain ⟨x, hx⟩ := at_lt' (xs := g.fAnchors) (k := k) (by omega)
    rw [fdx_at hx] at hk2
    (repeat' (first | (refine stg_ ?_) | fail | (refine br_ (fun hbr => ?_) (fun hbr => ?_))))
    all_goals first | (exfalso; omega) | ((refine RetOK.d rfl rfl ?_; conv => whnf); rw [hk2, if_pos (by simp_all [anEq])]; done) | (exact NextW.go (k + 1) covT_ ⟨by omega, by rw [hk2, if_neg (by simp_all [anEq])]⟩ (by omega))
  · (refine RetOK.d rfl rfl ?_; conv => whnf)
    rw [hk2, fdx_end (by omega)]
/-- those for which there is an anchor -/
def hvP (s : TGlyphSet) (nm : ByteArray) (i : Int) : Bool := (anV s.fGlyphs nm i).isSome
def hvL (s : TGlyphSet) (nm : ByteArray) : List Int := (ordG s).filter (hvP s nm)
theorem hvP_eq {s : TGlyphSet} (K : GsK s) {nm : ByteArray} {k : Nat} {i : Int} (hk : (ordG s)[k]? = some i) {g : TGlyph} (hg : s.fGlyphs[i.toNat]? = some g) : hvP s nm i = (decide (0 ≤ fdx (anEq nm) g.fAnchors 0) || g.fParts.any fun p => hvP s nm p.fGlyph) := by
  rw [hvP, anV_eq K.ord hk hg]
  have h1 := fdx_any (anEq nm) g.fAnchors 0
  rw [h1]
  unfold anO
  cases hf : g.fAnchors.find? (anEq nm) with
  | none =>
    have : g.fAnchors.any (anEq nm) = false := by
      rw [List.any_eq_false]
      exact fun x hx => List.find?_eq_none.1 hf x hx
    rw [this, Bool.false_or]
    exact anP_some
  | some a =>
    have : g.fAnchors.any (anEq nm) = true := List.any_eq_true.2 ⟨a, List.mem_of_find?_eq_some hf, List.find?_some hf⟩
    rw [this, Bool.true_or]; rfl
theorem hv_part {s : TGlyphSet} (K : GsK s) {nm : ByteArray} {k : Nat} {i : Int} (hk : (ordG s)[k]? = some i) {g : TGlyph} (hg : s.fGlyphs[i.toNat]? = some g) {p : TPart} (hp : p ∈ g.fParts) : decide (p.fGlyph ∈ ((ordG s).take k).filter (hvP s nm)) = hvP s nm p.fGlyph := by
  obtain ⟨j, hj, hj2⟩ := K.ord.part hk hg hp
  have hm : p.fGlyph ∈ (ordG s).take k := List.mem_of_getElem? (i := j) (by rw [List.getElem?_take, if_pos hj]; exact hj2)
  rw [Bool.eq_iff_iff, decide_eq_true_iff, List.mem_filter]
  exact ⟨fun h => h.2, fun h => ⟨hm, h⟩⟩
theorem hv_mem {s : TGlyphSet} (K : GsK s) {nm : ByteArray} {i : Int} (h0 : 0 ≤ i) (h1 : i.toNat < s.fGlyphs.length) : decide (i ∈ hvL s nm) = hvP s nm i := by
  obtain ⟨k, hk⟩ := K.pos h0 h1
  rw [Bool.eq_iff_iff, decide_eq_true_iff, hvL, List.mem_filter]
  exact ⟨fun h => h.2, fun h => ⟨List.mem_of_getElem? hk, h⟩⟩
theorem hvL_len {s : TGlyphSet} (K : GsK s) (nm : ByteArray) : (hvL s nm).length ≤ 40 := by
  have h1 := List.length_filter_le (hvP s nm) (ordG s)
  have h2 := K.ord.len
  have h3 := K.len
  unfold hvL ordG at *
  omega
theorem filt_snoc {p : Int → Bool} {xs : List Int} {k : Nat} {x : Int} (h : xs[k]? = some x) : (xs.take (k + 1)).filter p = (xs.take k).filter p ++ (if p x = true then [x] else []) := by
  rw [take_snoc_get h, List.filter_append]
  congr 1
  by_cases hp : p x = true
  · rw [if_pos hp, List.filter_cons_of_pos hp]; rfl
  · rw [if_neg hp, List.filter_cons_of_neg hp]; rfl
set_option maxHeartbeats 4000000 in
theorem l17Having_o (s : TGlyphSet) (K : GsK s) (nm : ByteArray) : PC Tryz.prog 169 [.pX s.D, .d (.str nm)] (.own 1 0 (hvL s nm).length) [.arr 1 ((hvL s nm).map (D.int .i64)) true] := by
  refine pc_intro ttOk (by kernel_rfl) Tryz.func169 rfl (by kernel_rfl) (by kernel_rfl) (by kernel_rfl) (fun hw => ?_)
  have hL : (s.fGlyphs.map TGlyph.D).length = s.fGlyphs.length := List.length_map _
  have hO : ((ordG s).map (D.int .i64)).length = (ordG s).length := List.length_map _
  have h40 := K.len
  have hol := K.ord.len
  have c9 : PC Tryz.prog 121 [.pX s.D] (.d (.lst ((ordG s).map (D.int .i64)))) [] := (l17Order_v s K.len (fun g hg => ⟨(gl_small (K.gl g hg)).1, fun p hp => ((gl_small (K.gl g hg)).2.2 p hp).1⟩)).freeze hO.symm
  have hol' : (ordG s).length ≤ s.fGlyphs.length := hol
  have hoi : ∀ (k : Nat), ((ordG s).take k).filter (hvP s nm) = ((ordG s).take k).filter (hvP s nm) := fun _ => rfl
  (conv => whnf)
  (repeat' (first | (refine stg_ ?_) | (refine cla_ (c9) ?_) | (refine br_ (fun hbr => ?_) (fun hbr => ?_))))
  refine LoopW.go (α := Nat) (fun k => [(0, .pX s.D), (1, .d (.str nm)), (5, .d (.lst ((ordG s).map (D.int .i64)))), (6, .own 1 0 (((ordG s).take k).filter (hvP s nm)).length), (7, .d (.int .i64 k))]) (fun k => [.gone, .arr 1 ((((ordG s).take k).filter (hvP s nm)).map (D.int .i64)) true]) (fun k => k ≤ (ordG s).length) (fun k => (ordG s).length - k) 0 covT_ (by omega) (fun k hk => ?_)
  have hfl : (((ordG s).take k).filter (hvP s nm)).length ≤ k := by
    have h1 := List.length_filter_le (hvP s nm) ((ordG s).take k)
    have h2 : ((ordG s).take k).length ≤ k := by rw [List.length_take]; omega
    omega
  have hfm : ((((ordG s).take k).filter (hvP s nm)).map (D.int .i64)).length = (((ordG s).take k).filter (hvP s nm)).length := List.length_map _
  (conv => whnf)
  (refine br_ (fun h2 => ?_) (fun h2 => ?_) <;> (repeat (refine stg_ ?_)))
  · obtain ⟨i, hi⟩ := at_lt' (xs := ordG s) (k := k) (by omega)
    obtain ⟨g, hi0, hg⟩ := K.at hi
    have hg' : (s.fGlyphs.map TGlyph.D)[i.toNat]? = some g.D := by rw [List.getElem?_map, hg]; rfl
    have hgB := gl_small (K.gl g (List.mem_of_getElem? hg))
    have hP := hvP_eq K (nm := nm) hi hg
    have hpt := fun p hp => hv_part K (nm := nm) hi hg (p := p) hp
    have hS := filt_snoc (p := hvP s nm) hi
    have c1 := l17Anchor_v g nm
    have c2 := fun n => gsHas_v (((ordG s).take k).filter (hvP s nm)) n
    have hPl : (g.fParts.map TPart.D).length = g.fParts.length := List.length_map _
    generalize ((ordG s).take k).filter (hvP s nm) = out at *
    generalize hF : fdx (anEq nm) g.fAnchors 0 = F at *
    (repeat' (first | (refine stg_ ?_) | (refine cla_ (c1) ?_) | (refine IxW.at hi0 hg' ?_; (conv => whnf)) | (refine br_ (fun hbr => ?_) (fun hbr => ?_))))
    refine LoopW.go (α := Nat) (fun j => [(0, .pX s.D), (1, .d (.str nm)), (5, .d (.lst ((ordG s).map (D.int .i64)))), (6, .own 1 0 out.length), (7, .d (.int .i64 k)), (8, .pX g.D), (9, .d (.bool (decide (0 ≤ F) || (g.fParts.take j).any fun p => hvP s nm p.fGlyph))), (10, .d (.int .i64 j))]) (fun j => [.gone, .arr 1 (out.map (D.int .i64)) true]) (fun j => j ≤ g.fParts.length) (fun j => g.fParts.length - j) 0 (Weak.cov ⟨rfl, rfl, rfl, rfl, rfl, rfl, by (rw [List.take_zero, List.any_nil, Bool.or_false]; rfl), rfl, trivial⟩ ⟨trivial, rfl, trivial⟩ rfl) (by omega) (fun j hj => ?_)
    have hOm : (out.map (D.int .i64)).length = out.length := List.length_map _
    generalize hHB : (decide (0 ≤ F) || (g.fParts.take j).any fun p => hvP s nm p.fGlyph) = HB
    (conv => whnf)
    (repeat (refine stg_ ?_))
    (refine br_ (fun h3 => ?_) (fun h3 => ?_) <;> (repeat (refine stg_ ?_)))
    · obtain ⟨y, hy⟩ := at_lt' (xs := g.fParts) (k := j) (by omega)
      have hT : (decide (0 ≤ F) || (g.fParts.take (j + 1)).any fun p => hvP s nm p.fGlyph) = (HB || hvP s nm y.fGlyph) := by
        rw [take_snoc_get hy, List.any_append, List.any_cons, List.any_nil, Bool.or_false, ← Bool.or_assoc, hHB]
      have c3 := c2 y.fGlyph
      rw [hpt y (List.mem_of_getElem? hy)] at c3
      generalize hvP s nm y.fGlyph = Y at *
      cases HB
      · (conv => whnf)
        (repeat' (first | (refine stg_ ?_) | (refine cla_ (c3) ?_) | (refine br_ (fun hbr => ?_) (fun hbr => ?_))))
        all_goals refine NextW.go (j + 1) (Weak.cov ⟨rfl, rfl, rfl, rfl, rfl, rfl, by (rw [hT]; rfl), rfl, trivial⟩ ⟨trivial, rfl, trivial⟩ rfl) (by omega) (by omega)
      · (conv => whnf)
        (repeat' (first | (refine stg_ ?_) | (refine cla_ (c3) ?_) | (refine br_ (fun hbr => ?_) (fun hbr => ?_))))
        all_goals refine NextW.go (j + 1) (Weak.cov ⟨rfl, rfl, rfl, rfl, rfl, rfl, by (rw [hT]; rfl), rfl, trivial⟩ ⟨trivial, rfl, trivial⟩ rfl) (by omega) (by omega)
    · rw [List.take_of_length_le (by omega), ← hP] at hHB
      rw [hHB] at hS
      cases HB
      · rw [if_neg (by simp), List.append_nil] at hS
        (conv => whnf)
        (repeat' (first | (refine stg_ ?_) | fail | (refine br_ (fun hbr => ?_) (fun hbr => ?_))))
        refine NextW.go (k + 1) (Weak.cov ⟨rfl, rfl, rfl, by (rw [hS]; first | done | rfl), rfl, trivial⟩ ⟨trivial, by (rw [hS]; first | done | rfl), trivial⟩ rfl) (by omega) (by omega)
      · rw [if_pos rfl] at hS
        (conv => whnf)
        (repeat' (first | (refine stg_ ?_) | fail | (refine br_ (fun hbr => ?_) (fun hbr => ?_))))
        refine NextW.go (k + 1) (Weak.cov ⟨rfl, rfl, rfl, by (rw [hS, List.length_append]; first | done | rfl), rfl, trivial⟩ ⟨trivial, by (rw [hS, List.take_of_length_le (by omega), List.map_append]; first | done | rfl), trivial⟩ rfl) (by omega) (by omega)
  · obtain rfl : k = (ordG s).length := by omega
    (repeat' (first | (refine stg_ ?_) | fail | (refine br_ (fun hbr => ?_) (fun hbr => ?_))))
    rw [List.take_length]
    (refine ⟨⟨[some 1], ⟨by decide, rfl, trivial, trivial⟩, by decide, rfl, ?_⟩⟩; (conv => whnf); exact ⟨by decide, rfl⟩)
theorem l17Having_v (s : TGlyphSet) (K : GsK s) (nm : ByteArray) : PC Tryz.prog 169 [.pX s.D, .d (.str nm)] (.d (.lst ((hvL s nm).map (D.int .i64)))) [] := (l17Having_o s K nm).freeze (List.length_map _).symm
/-- the place and a code -/
def aaV (s : TGlyphSet) (nm : ByteArray) (i : Int) : TPt × Int := match anV s.fGlyphs nm i with
  | none => (⟨0, 0⟩, 3)
  | some r => if pntB r = true then (r, 0) else (⟨0, 0⟩, 2)
set_option maxHeartbeats 4000000 in
theorem l17AnchorAt_v (s : TGlyphSet) (K : GsK s) (i0 : Int) (nm : ByteArray) (h0 : 0 ≤ i0) (h1 : i0.toNat < s.fGlyphs.length) : PC Tryz.prog 123 [.pX s.D, .d (.int .i64 i0), .d (.str nm)] (.tup [.d (aaV s nm i0).1.D, .d (.int .i64 (aaV s nm i0).2)]) [] := by
  refine pc_intro ttOk (by kernel_rfl) Tryz.func123 rfl (by kernel_rfl) (by kernel_rfl) (by kernel_rfl) (fun hw => ?_)
  have hL : (s.fGlyphs.map TGlyph.D).length = s.fGlyphs.length := List.length_map _
  have h40 := K.len
  have c1 := l17Having_v s K nm
  have c2 := gsHas_v (hvL s nm) i0
  rw [hv_mem K h0 h1] at c2
  have hA : aaV s nm i0 = match anV s.fGlyphs nm i0 with | none => (⟨0, 0⟩, 3) | some r => if pntB r = true then (r, 0) else (⟨0, 0⟩, 2) := rfl
  cases hV : anV s.fGlyphs nm i0 with
  | none =>
    rw [hV] at hA
    dsimp only at hA
    rw [hA]
    rw [hvP, hV] at c2
    (conv => whnf)
    (repeat' (first | (refine stg_ ?_) | (refine cla_ (c1) ?_) | (refine cla_ (c2) ?_) | (refine br_ (fun hbr => ?_) (fun hbr => ?_))))
    all_goals first | (exfalso; simp_all; done) | ((refine RetOK.t rfl ?_; (repeat' ((conv => whnf); (first | done | (refine ⟨_, _, rfl, ⟨rfl, ?_⟩, ?_⟩) | fail))); (all_goals (conv => whnf))); (all_goals first | rfl | exact ⟨_, rfl, _, _, rfl, rfl, _, _, rfl, rfl, rfl⟩))
  | some r =>
    rw [hV] at hA
    dsimp only at hA
    rw [hvP, hV] at c2
    obtain ⟨k0, hk0⟩ := K.pos h0 h1
    generalize aaV s nm i0 = AA at *
    (conv => whnf)
    (repeat' (first | (refine stg_ ?_) | (refine cla_ (c1) ?_) | (refine cla_ (c2) ?_) | (refine br_ (fun hbr => ?_) (fun hbr => ?_))))
    all_goals first | (exfalso; simp_all; done) | skip
    refine LoopW.go (α := Nat × Int × TPt) (fun p => [(0, .pX s.D), (1, .d (.int .i64 p.2.1)), (2, .d (.str nm)), (6, .pB 1 [] 0), (8, .d (.lst ((hvL s nm).map (D.int .i64)))), (9, .pB 2 [] 0)]) (fun p => [.gone, .box (.st [.d (.int .i64 0), .d (.int .i64 0)]), .box (.st [.d (.int .i64 p.2.2.fX), .d (.int .i64 p.2.2.fY)])]) (fun p => (ordG s)[p.1]? = some p.2.1 ∧ ∃ q, anV s.fGlyphs nm p.2.1 = some q ∧ p.2.2.fX + q.fX = r.fX ∧ p.2.2.fY + q.fY = r.fY) (fun p => p.1) (k0, i0, ⟨0, 0⟩) covT_ ⟨hk0, r, hV, by dsimp only; omega, by dsimp only; omega⟩ ?_
    clear c2 h0 h1 hk0
    rintro ⟨k, i, acc⟩ ⟨hk, q, hq, hx1, hx2⟩
    dsimp only at hk hq hx1 hx2 ⊢
    have hr1 := anV_in K.ins K.len hV
    have hq1 := anV_in K.ins K.len hq
    unfold ptIn at hr1 hq1
    obtain ⟨g, hi0, hg⟩ := K.at hk
    have hg' : (s.fGlyphs.map TGlyph.D)[i.toNat]? = some g.D := by rw [List.getElem?_map, hg]; rfl
    have hgB := gl_small (K.gl g (List.mem_of_getElem? hg))
    have hE := anV_eq K.ord (nm := nm) hk hg
    have c3 := l17Anchor_v g nm
    rcases fdx_find (anEq nm) g.fAnchors 0 with ⟨f1, f2⟩ | ⟨j, a, f1, f2, f3⟩
    · rw [anO, f2] at hE
      simp only [Option.map_none] at hE
      rw [f1] at c3
      rw [hq] at hE
      have hPl : (g.fParts.map TPart.D).length = g.fParts.length := List.length_map _
      (conv => whnf)
      (repeat' (first | (refine stg_ ?_) | (refine cla_ (c3) ?_) | (refine IxW.at hi0 hg' ?_; (conv => whnf)) | (refine br_ (fun hbr => ?_) (fun hbr => ?_))))
      all_goals first | (exfalso; omega) | skip
      refine LoopW.go (α := Nat) (fun j => [(0, .pX s.D), (1, .d (.int .i64 i)), (2, .d (.str nm)), (6, .pB 1 [] 0), (8, .d (.lst ((hvL s nm).map (D.int .i64)))), (9, .pB 2 [] 0), (10, .pX g.D), (12, .d (.int .i64 j))]) (fun _ => [.gone, .box (.st [.d (.int .i64 0), .d (.int .i64 0)]), .box (.st [.d (.int .i64 acc.fX), .d (.int .i64 acc.fY)])]) (fun j => j ≤ g.fParts.length ∧ some q = anP (anV s.fGlyphs nm) (g.fParts.drop j)) (fun j => g.fParts.length - j) 0 covT_ ⟨by omega, hE⟩ (fun j hj => ?_)
      obtain ⟨hj1, hj2⟩ := hj
      rcases Nat.lt_or_ge j g.fParts.length with hlt | hge
      · obtain ⟨y, hy⟩ := at_lt' (xs := g.fParts) (k := j) hlt
        rw [anP_cons hy] at hj2
        obtain ⟨k2, hk2, hk3⟩ := K.ord.part hk hg (List.mem_of_getElem? hy)
        obtain ⟨g2, hy0, hg2⟩ := K.at hk3
        have hyr := (List.getElem?_eq_some_iff.1 hg2).1
        have c4 := gsHas_v (hvL s nm) y.fGlyph
        rw [hv_mem K hy0 hyr, hvP] at c4
        have hmv := (K.ins g (List.mem_of_getElem? hg)).2 y (List.mem_of_getElem? hy)
        unfold ptIn at hmv
        cases hQ : anV s.fGlyphs nm y.fGlyph with
        | none =>
          rw [hQ] at hj2 c4
          (conv => whnf)
          (repeat' (first | (refine stg_ ?_) | (refine cla_ (c4) ?_) | (refine br_ (fun hbr => ?_) (fun hbr => ?_))))
          all_goals first | (exfalso; simp_all; done) | (exact NextW.go (j + 1) covT_ ⟨by omega, hj2⟩ (by omega))
        | some q2 =>
          rw [hQ] at hj2 c4
          have hq2 := anV_in K.ins K.len hQ
          unfold ptIn at hq2
          have e1 : q.fX = q2.fX + y.fMove.fX := by have := congrArg (fun z => (z.getD ⟨0, 0⟩).fX) hj2; exact this
          have e2 : q.fY = q2.fY + y.fMove.fY := by have := congrArg (fun z => (z.getD ⟨0, 0⟩).fY) hj2; exact this
          (conv => whnf)
          (repeat' (first | (refine stg_ ?_) | (refine cla_ (c4) ?_) | (refine br_ (fun hbr => ?_) (fun hbr => ?_))))
          all_goals first | (exfalso; simp_all; done) | skip
          refine NextW.go (k2, y.fGlyph, ⟨acc.fX + y.fMove.fX, acc.fY + y.fMove.fY⟩) covT_ ⟨hk3, q2, hQ, by dsimp only; omega, by dsimp only; omega⟩ hk2
      · rw [anP_end hge] at hj2
        cases hj2
    · rw [anO, f3] at hE
      simp only [Option.map_some] at hE
      rw [hq] at hE
      rw [f1, Nat.zero_add] at c3
      have hqa : q = a.fAt := by injection hE
      subst hqa
      have hr : (⟨acc.fX + a.fAt.fX, acc.fY + a.fAt.fY⟩ : TPt) = r := by
        cases r
        dsimp only at hx1 hx2
        rw [hx1, hx2]
      have ha' : (g.fAnchors.map TAnchor.D)[j]? = some a.D := by rw [List.getElem?_map, f2]; rfl
      have c4 := l03Ok_v ⟨acc.fX + a.fAt.fX, acc.fY + a.fAt.fY⟩
      rw [← hr] at hA
      generalize hPB : pntB ⟨acc.fX + a.fAt.fX, acc.fY + a.fAt.fY⟩ = PB at *
      cases PB
      · rw [if_neg (by simp)] at hA
        rw [hA]
        (conv => whnf)
        (repeat' (first | (refine stg_ ?_) | (refine cla_ (c3) ?_) | (refine cla_ (c4) ?_) | (refine IxW.at hi0 hg' ?_; (conv => whnf)) | (refine IxW.at (by omega) ha' ?_; (conv => whnf)) | (refine br_ (fun hbr => ?_) (fun hbr => ?_))))
        all_goals first | (exfalso; omega) | (exfalso; simp_all; done) | ((refine RetOK.t rfl ?_; (repeat' ((conv => whnf); (first | done | (refine ⟨_, _, rfl, ⟨rfl, ?_⟩, ?_⟩) | fail))); (all_goals (conv => whnf))); (all_goals first | rfl | exact ⟨_, rfl, _, _, rfl, rfl, _, _, rfl, rfl, rfl⟩))
      · rw [if_pos rfl] at hA
        rw [hA]
        (conv => whnf)
        (repeat' (first | (refine stg_ ?_) | (refine cla_ (c3) ?_) | (refine cla_ (c4) ?_) | (refine IxW.at hi0 hg' ?_; (conv => whnf)) | (refine IxW.at (by omega) ha' ?_; (conv => whnf)) | (refine br_ (fun hbr => ?_) (fun hbr => ?_))))
        all_goals first | (exfalso; omega) | (exfalso; simp_all; done) | ((refine RetOK.t rfl ?_; (repeat' ((conv => whnf); (first | done | (refine ⟨_, _, rfl, ⟨rfl, ?_⟩, ?_⟩) | fail))); (all_goals (conv => whnf))); (all_goals first | rfl | exact ⟨_, rfl, _, _, rfl, rfl, _, _, rfl, rfl, rfl⟩))
end Go.Proofs.YtcachhipflibkaaGreat
