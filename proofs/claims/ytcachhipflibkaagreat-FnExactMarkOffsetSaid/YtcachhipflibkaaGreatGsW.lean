/- Sets of glyphs: the order of parts, by the machine. -/
import Derived.Test.YtcachhipflibkaaGreatGsV
set_option linter.unusedSimpArgs false
set_option linter.unusedVariables false
namespace Go.Proofs.YtcachhipflibkaaGreat
open Go.RowKit
set_option maxHeartbeats 4000000 in
theorem depthsOf_v (gs : List TGlyph) (hB : ∀ g ∈ gs, g.fParts.length ≤ 6 ∧ ∀ p ∈ g.fParts, 0 ≤ p.fGlyph ∧ p.fGlyph < gs.length) (hl : gs.length ≤ 40) :
    PC Tryz.prog 133 [.d (.lst (gs.map TGlyph.D))] (.tup [.top, .d (.bool (gordB (psG gs)))]) [] := by
  refine pc_intro ttOk (by kernel_rfl) Tryz.func133 rfl (by kernel_rfl) (by kernel_rfl) (by kernel_rfl) (fun hw => ?_)
  have hL : (gs.map TGlyph.D).length = gs.length := List.length_map _
  have hps := psG_len gs
  (conv => whnf)
  refine MkW.at (by omega) (by omega) (by show ((8 : Nat) : Int) * _ ≤ 2 ^ 48; omega) ?_
  (conv => whnf)
  (repeat (refine stg_ ?_))
  have hN : ((gs.map TGlyph.D).length : Int).toNat = gs.length := by rw [hL]; omega
  refine LoopW.go (α := Nat × List Int) (fun s => [(0, .d (.lst (gs.map TGlyph.D))), (4, .own 1 0 ((gs.map TGlyph.D).length : Int).toNat), (17, .d (.int .i64 (((gs.map TGlyph.D).length : Int).toNat : Nat))), (18, .d (.int .i64 s.1))]) (fun s => [.gone, .arr 1 (s.2.map (D.int .i64)) true])
    (fun s => s.1 ≤ gs.length ∧ s.2.length = gs.length ∧ ∀ i, i < s.1 → s.2.getD i 0 = -1) (fun s => gs.length - s.1) (0, List.replicate ((gs.map TGlyph.D).length : Int).toNat 0)
    (Weak.cov ⟨rfl, rfl, rfl, rfl, trivial⟩ ⟨trivial, by rw [List.map_replicate]; rfl, trivial⟩ rfl) ⟨by simp, by simp, by simp⟩ (fun s hs => ?_)
  obtain ⟨k, ds⟩ := s
  obtain ⟨hk1, hk2, hk3⟩ := hs
  have hD : (ds.map (D.int .i64)).length = gs.length := by rw [List.length_map]; exact hk2
  dsimp only at hk1 hk2 hk3
  (conv => whnf)
  (refine br_ (fun h2 => ?_) (fun h2 => ?_) <;> (repeat (refine stg_ ?_)))
  · obtain ⟨d, hd⟩ := at_lt' (xs := ds) (k := k) (by omega)
    have hd' : (ds.map (D.int .i64))[k]? = some (.int .i64 d) := by rw [List.getElem?_map, hd]; rfl
    (repeat (refine stg_ ?_))
    refine NextW.go (k + 1, ds.set k (-1)) (Weak.cov ⟨rfl, rfl, rfl, rfl, trivial⟩ ⟨trivial, by rw [List.map_set]; rfl, trivial⟩ rfl) ⟨by dsimp only; omega, by simp [hk2], fun i hi => ?_⟩ (by dsimp only; omega)
    dsimp only at hi ⊢
    by_cases e : k = i
    · subst e; rw [List.getD_eq_getElem?_getD, List.getElem?_set_self (by omega)]; rfl
    · have := hk3 i (by omega)
      rw [List.getD_eq_getElem?_getD] at this ⊢
      rw [List.getElem?_set_ne e]; exact this
  (repeat (refine stg_ ?_))
  have hds : DpS (psG gs) (List.replicate (psG gs).length false) ds := DpS.start (by omega) (fun i hi => by
    have := hk3 i (by omega)
    rw [List.getD_eq_getElem?_getD, List.getElem?_eq_getElem (by omega)] at this ⊢
    exact this)
  clear hk1 hk2 hk3 h2 hD
  have hB' : ∀ (i : Nat) (x : TGlyph), gs[i]? = some x → x.fParts.length ≤ 6 ∧ ∀ p ∈ x.fParts, 0 ≤ p.fGlyph ∧ p.fGlyph < gs.length := fun i x hx => hB x (List.mem_of_getElem? hx)
  generalize hPS : psG gs = ps at *
  refine LoopW.go (α := Nat × List Bool × List Int) (fun s => [(0, .d (.lst (gs.map TGlyph.D))), (4, .own 1 0 ((gs.map TGlyph.D).length : Int).toNat), (6, .d (.int .i64 (cnt s.2.1 : Nat)))]) (fun s => [.gone, .arr 1 (s.2.2.map (D.int .i64)) true])
    (fun s => OrS ps s.2.1 s.1 ∧ DpS ps s.2.1 s.2.2) (fun s => gs.length - cnt s.2.1) (0, List.replicate ps.length false, ds)
    (Weak.cov ⟨rfl, rfl, by rw [cnt_rep]; rfl, trivial⟩ ⟨trivial, rfl, trivial⟩ rfl) ⟨OrS.start _, hds⟩ (fun s hs => ?_)
  clear hds
  obtain ⟨m, bs, ds⟩ := s
  obtain ⟨H1, H2⟩ := hs
  dsimp only at H1 H2 ⊢
  have hcl := cnt_le bs
  have hbl := H2.bl
  (conv => whnf)
  (refine br_ (fun h1 => ?_) (fun h1 => ?_) <;> (repeat (refine stg_ ?_)))
  · (repeat (refine stg_ ?_))
    refine LoopW.go (α := Nat × List Bool × List Int) (fun s => [(0, .d (.lst (gs.map TGlyph.D))), (4, .own 1 0 ((gs.map TGlyph.D).length : Int).toNat), (6, .d (.int .i64 (cnt s.2.1 : Nat))), (7, .d (.int .i64 (cnt bs : Nat))), (30, .d (.lst (gs.map TGlyph.D))), (31, .d (.int .i64 (gs.map TGlyph.D).length)), (32, .d (.int .i64 s.1))]) (fun s => [.gone, .arr 1 (s.2.2.map (D.int .i64)) true])
      (fun s => s.1 ≤ gs.length ∧ s.2.1 = pas ps bs s.1 ∧ DpS ps s.2.1 s.2.2) (fun s => gs.length - s.1) (0, bs, ds) covT_ ⟨by simp, rfl, H2⟩ (fun s hs => ?_)
    obtain ⟨i, bi, di⟩ := s
    obtain ⟨hi1, hi2, H3⟩ := hs
    dsimp only at hi1 hi2 H3 ⊢
    have hci := cnt_le bi
    have hbi := H3.bl
    have hdi := H3.dl
    have hDi : (di.map (D.int .i64)).length = gs.length := by rw [List.length_map]; omega
    (conv => whnf)
    (refine br_ (fun h2 => ?_) (fun h2 => ?_) <;> (repeat (refine stg_ ?_)))
    · obtain ⟨x, hx⟩ := at_lt' (xs := gs) (k := i) (by omega)
      obtain ⟨d, hd⟩ := at_lt' (xs := di) (k := i) (by omega)
      have hd' : (di.map (D.int .i64))[i]? = some (.int .i64 d) := by rw [List.getElem?_map, hd]; rfl
      have hdD : di.getD i (-1) = d := by rw [List.getD_eq_getElem?_getD, hd]; rfl
      have hif := H3.iff i (by omega)
      rw [hdD] at hif
      have hPx := psG_at hx
      rw [hPS] at hPx
      (repeat (refine stg_ ?_))
      (refine br_ (fun h3 => ?_) (fun h3 => ?_) <;> (repeat (refine stg_ ?_)))
      · refine NextW.go (i + 1, bi, di) covT_ ⟨by dsimp only; omega, ?_, H3⟩ (by dsimp only; omega)
        show bi = pas ps bs (i + 1)
        rw [pas_succ, ← hi2, stp, if_pos (hif.2 h3)]
      · have hbF : bi[i]? = some false := by
          have := hif.1
          cases hq : bi[i]? with
          | none => rw [List.getElem?_eq_none_iff] at hq; omega
          | some b =>
            cases b with
            | false => rfl
            | true => exfalso; have := this (by rw [List.getD_eq_getElem?_getD, hq]; rfl); omega
        have hPl : (x.fParts.map TPart.D).length = x.fParts.length := List.length_map _
        have hp6 := (hB' i x hx).1
        (repeat (refine stg_ ?_))
        refine LoopW.go (α := Nat × Int) (fun s => [(0, .d (.lst (gs.map TGlyph.D))), (4, .own 1 0 ((gs.map TGlyph.D).length : Int).toNat), (6, .d (.int .i64 (cnt bi : Nat))), (7, .d (.int .i64 (cnt bs : Nat))), (8, .d (.int .i64 i)), (9, .pB 2 [] 0), (10, .d (.int .i64 s.2)), (30, .d (.lst (gs.map TGlyph.D))), (31, .d (.int .i64 (gs.map TGlyph.D).length)), (32, .d (.int .i64 i)), (43, .d (.lst (x.fParts.map TPart.D))), (44, .d (.int .i64 (x.fParts.map TPart.D).length)), (45, .d (.int .i64 s.1))]) (fun _ => [.gone, .arr 1 (di.map (D.int .i64)) true, .box (.d x.D)])
          (fun s => s.1 ≤ x.fParts.length ∧ (0 ≤ s.2 ∧ s.2 ≤ cnt bi + 1) ∧ ((x.fParts.take s.1).all fun p => bi.getD p.fGlyph.toNat false) = true) (fun s => x.fParts.length - s.1) (0, 0) covT_ ⟨by simp, by dsimp only; omega, rfl⟩ (fun s hs => ?_)
        obtain ⟨j, dep⟩ := s
        obtain ⟨hj1, hj2, hj3⟩ := hs
        dsimp only at hj1 hj2 hj3 ⊢
        (conv => whnf)
        (refine br_ (fun h4 => ?_) (fun h4 => ?_) <;> (repeat (refine stg_ ?_)))
        · obtain ⟨y, hy⟩ := at_lt' (xs := x.fParts) (k := j) (by omega)
          have hyr := (hB' i x hx).2 y (List.mem_of_getElem? hy)
          obtain ⟨e, he⟩ := at_lt' (xs := di) (k := y.fGlyph.toNat) (by omega)
          have he' : (di.map (D.int .i64))[y.fGlyph.toNat]? = some (.int .i64 e) := by rw [List.getElem?_map, he]; rfl
          have heD : di.getD y.fGlyph.toNat (-1) = e := by rw [List.getD_eq_getElem?_getD, he]; rfl
          have hey := H3.iff y.fGlyph.toNat (by omega)
          have hle := H3.le y.fGlyph.toNat
          rw [heD] at hey hle
          (repeat (refine stg_ ?_))
          (refine br_ (fun h5 => ?_) (fun h5 => ?_) <;> (repeat (refine stg_ ?_)))
          · -- a part that is not known yet
            refine NextW.go (i + 1, bi, di) covT_ ⟨by dsimp only; omega, ?_, H3⟩ (by dsimp only; omega)
            show bi = pas ps bs (i + 1)
            have hnr : ((ps.getD i []).all fun p => bi.getD p.toNat false) = false := by
              rw [hPx, List.all_map, ← Bool.not_eq_true, List.all_eq_true]
              intro hall
              have := hey.1 (hall y (List.mem_of_getElem? hy))
              omega
            rw [pas_succ, ← hi2, stp, if_neg (by rw [List.getD_eq_getElem?_getD, hbF]; simp), hnr]
            rfl
          · refine NextW.go (j + 1, max dep (e + 1)) covT_ ⟨by dsimp only; omega, by dsimp only; omega, ?_⟩ (by dsimp only; omega)
            show ((x.fParts.take (j + 1)).all fun p => bi.getD p.fGlyph.toNat false) = true
            rw [take_snoc_get hy, List.all_append, hj3, List.all_cons, hey.2 (by omega)]
            rfl
        · rw [List.take_of_length_le (by omega)] at hj3
          have hr : ((ps.getD i []).all fun p => bi.getD p.toNat false) = true := by rw [hPx, List.all_map]; exact hj3
          (refine br_ (fun h5 => ?_) (fun h5 => ?_) <;> (repeat (refine stg_ ?_)))
          · refine NextW.go (i + 1, bi.set i true, di.set i dep) (Weak.cov ⟨rfl, rfl, by rw [cnt_set hbF]; rfl, rfl, rfl, rfl, rfl, trivial⟩ ⟨trivial, by rw [List.map_set]; rfl, trivial⟩ rfl) ⟨by dsimp only; omega, ?_, H3.put hbF hj2.1 hj2.2⟩ (by dsimp only; omega)
            show bi.set i true = pas ps bs (i + 1)
            rw [pas_succ, ← hi2, stp, if_neg (by rw [List.getD_eq_getElem?_getD, hbF]; simp), if_pos hr]
          · exfalso; omega
    · obtain rfl : i = gs.length := by omega
      rw [← hps] at hi2
      (refine br_ (fun h3 => ?_) (fun h3 => ?_) <;> (repeat (refine stg_ ?_)))
      · (refine ⟨⟨[], trivial, by decide, ⟨_, rfl, rfl, ⟨_, _, rfl, trivial, ⟨_, _, rfl, ⟨rfl, ?_⟩, rfl⟩⟩⟩⟩⟩; (conv => whnf))
        have := H1.stop (by rw [← hi2]; omega)
        rw [this, decide_eq_false (by omega)]
      · refine NextW.go (m + 1, bi, di) covT_ ⟨?_, H3⟩ ?_
        · show OrS ps bi (m + 1)
          rw [hi2]
          exact H1.next (by rw [← hi2]; omega)
        · show gs.length - cnt bi < gs.length - cnt bs
          have := (pas_cnt ps bs ps.length (by omega)).1
          rw [← hi2] at this
          omega
  · (refine ⟨⟨[], trivial, by decide, ⟨_, rfl, rfl, ⟨_, _, rfl, trivial, ⟨_, _, rfl, ⟨rfl, ?_⟩, rfl⟩⟩⟩⟩⟩; (conv => whnf))
    rw [H1.full (by omega)]
end Go.Proofs.YtcachhipflibkaaGreat
