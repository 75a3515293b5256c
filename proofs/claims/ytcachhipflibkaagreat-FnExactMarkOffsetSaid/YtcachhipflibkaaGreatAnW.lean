/- Anchors of glyphs and their parts, with what was looked for kept in a map: by the machine. -/
import Derived.Test.YtcachhipflibkaaGreatAnV
set_option linter.unusedSimpArgs false
set_option linter.unusedVariables false
namespace Go.Proofs.YtcachhipflibkaaGreat
open Go.RowKit
/-- 'return m.at, m.ok': the last load may come before or after the store -/
def trRt : OT := .q 0 (.q 1 (.q 2 (.alt 3 (.alt 4 (.q 5 .done) .nil) (.alt 4 (.q 3 (.q 5 .done)) .nil))))
set_option maxHeartbeats 4000000 in
theorem anchorOf_pm (s : TGlyphSet) (K : GsK s) (nm : ByteArray) : ∀ (k : Nat) (i : Int), (ordG s)[k]? = some i → ∀ es, MemoOK s.fGlyphs nm es →
    PM Tryz.prog 127 (some .i64) es [.d s.D, .d (.int .i64 i), .d (.str nm)] (.tup [.d (anPt (anV s.fGlyphs nm i)).D, .d (.bool (anV s.fGlyphs nm i).isSome)]) (MemoOK s.fGlyphs nm) := by
  intro k
  induction k using Nat.strongRecOn with
  | ind k ih =>
  intro i hk es HM
  refine pm_intro ttOk (by kernel_rfl) Tryz.func127 rfl (by kernel_rfl) (by kernel_rfl) (by kernel_rfl) rfl rfl HM.fl (fun es' h => h.fl) (fun cc st gg t hw => ?_)
  have hL : (s.fGlyphs.map TGlyph.D).length = s.fGlyphs.length := List.length_map _
  have h40 := K.len
  obtain ⟨g, hi0, hg⟩ := K.at hk
  have hg' : (s.fGlyphs.map TGlyph.D)[i.toNat]? = some g.D := by rw [List.getElem?_map, hg]; rfl
  have hgB := gl_small (K.gl g (List.mem_of_getElem? hg))
  have hE := anV_eq K.ord (nm := nm) hk hg
  have c3 := anchorAt_v g.fAnchors nm
  have hPl : (g.fParts.map TPart.D).length = g.fParts.length := List.length_map _
  (conv => whnf)
  (repeat (refine stg_ ?_))
  refine LkW.at (fun v hv => ?_) (fun hn => ?_)
  · obtain rfl := HM.ok _ _ hv
    generalize anV s.fGlyphs nm i = o at *
    (conv => whnf)
    (repeat ((fail_if_success (with_reducible apply RegD.id)); (refine stg_ ?_)))
    refine RegD.cutT [(8, .pB 4 [] 0), (9, .d (.bool o.isSome))] [.gone, .gho cc st gg 0 t, .mp (some .i64) es, .gone, .box (.d (anPt o).D)] trRt (by kernel_rfl) ?_ ?_
    · (conv => whnf)
      repeat' (first | (refine stg_ ?_) | (refine And.intro ?_ ?_ <;> (conv => whnf)))
      all_goals (refine Weak.cov ?_ ?_ ?_; (focus (repeat' (first | exact trivial | with_reducible rfl | (refine ⟨?_, ?_⟩) | rfl))); (focus (repeat' (first | exact trivial | with_reducible rfl | (refine ⟨?_, ?_⟩) | rfl))); (focus rfl))
    · (conv => whnf)
      exact ⟨rfl, es, _, rfl, HM⟩
  · (conv => whnf)
    (repeat' (first | (refine stg_ ?_) | (refine IxW.at hi0 hg' ?_; (conv => whnf)) | (refine br_ (fun hbr => ?_) (fun hbr => ?_))))
    refine LkW.at (fun v hv => ?_) (fun _ => ?_)
    · rw [hn] at hv; cases hv
    (conv => whnf)
    rcases fdx_find (anEq nm) g.fAnchors 0 with ⟨f1, f2⟩ | ⟨j, a, f1, f2, f3⟩
    · rw [f1] at c3
      rw [anO, f2] at hE
      simp only [Option.map_none] at hE
      (repeat' (first | (refine stg_ ?_) | (refine cla_ (c3) ?_) | (refine br_ (fun hbr => ?_) (fun hbr => ?_))))
      all_goals first | (exfalso; omega) | skip
      refine LoopW.go (α := Nat × Option TPt × List (D × D)) (fun p => [(1, .d (.int .i64 i)), (2, .d (.str nm)), (3, .pB 2 [] 1000000007), (4, .pB 3 [] 0), (8, .pB 4 [] 0), (13, .pB 7 [] 0), (53, .d (.lst (g.fParts.map TPart.D))), (54, .d (.int .i64 (g.fParts.map TPart.D).length)), (55, .d (.int .i64 (p.1 : Nat)))])
        (fun p => [.gone, .gho cc st gg 0 t, .mp (some .i64) p.2.2, .box (.d s.D), .box (.st [.d (.int .i64 0), .d (.int .i64 0)]), .gone, .gone, .box (.d (anD p.2.1))])
        (fun p => p.1 ≤ g.fParts.length ∧ MemoOK s.fGlyphs nm p.2.2 ∧ anV s.fGlyphs nm i = match p.2.1 with | some q => some q | none => anP (anV s.fGlyphs nm) (g.fParts.drop p.1)) (fun p => g.fParts.length - p.1) (0, none, es) (Weak.trans (Weak.boxz 7 rfl rfl rfl) covT_) ⟨by dsimp only; omega, HM, hE⟩ ?_
      rintro ⟨j, o, es1⟩ ⟨hj, HM1, hV⟩
      dsimp only at hj HM1 hV ⊢
      rcases Nat.lt_or_ge j g.fParts.length with hlt | hge
      · obtain ⟨y, hy⟩ := at_lt' (xs := g.fParts) (k := j) hlt
        cases o with
        | some q =>
          dsimp only at hV
          have hAD : anD (some q) = .st [q.D, .bool true] := rfl
          (conv => whnf)
          (refine br_ (fun h2 => ?_) (fun h2 => ?_))
          · (repeat ((fail_if_success (with_reducible apply RegD.id)); (refine stg_ ?_)))
            refine RegD.cutT [(8, .pB 4 [] 0), (9, .d (.bool ((some q) : Option TPt).isSome))] [.gone, .gho cc st gg 0 t, .mp (some .i64) (updD es1 (.int .i64 i) (anD (some q))), .gone, .box (.d (anPt (some q)).D)] trRt (by kernel_rfl) ?_ ?_
            · (conv => whnf)
              repeat' (first | (refine stg_ ?_) | (refine And.intro ?_ ?_ <;> (conv => whnf)))
              all_goals (refine Weak.cov ?_ ?_ ?_; (focus (repeat' (first | exact trivial | with_reducible rfl | (refine ⟨?_, ?_⟩) | rfl))); (focus (repeat' (first | exact trivial | with_reducible rfl | (refine ⟨?_, ?_⟩) | rfl))); (focus rfl))
            · (conv => whnf)
              rw [hV]; exact ⟨rfl, _, _, rfl, by have := HM1.put i; rw [hV] at this; exact this⟩
          · exfalso; omega
        | none =>
          dsimp only at hV
          have hAD : anD none = .st [TPt.D ⟨0, 0⟩, .bool false] := rfl
          rw [anP_cons hy] at hV
          obtain ⟨k2, hk2, hk3⟩ := K.ord.part hk hg (List.mem_of_getElem? hy)
          obtain ⟨g2, hy0, hg2⟩ := K.at hk3
          have hmv := (K.ins g (List.mem_of_getElem? hg)).2 y (List.mem_of_getElem? hy)
          unfold ptIn at hmv
          have pm := ih k2 hk2 y.fGlyph hk3 es1 HM1
          (conv => whnf)
          (refine br_ (fun h2 => ?_) (fun h2 => ?_))
          · (repeat ((fail_if_success (with_reducible apply RegD.id)); (refine stg_ ?_)))
            refine CallW.useM pm rfl rfl rfl rfl rfl (fun es2 HM2 => ?_)
            have hin := fun q2 h => anV_in (q := q2) K.ins K.len (nm := nm) (i := y.fGlyph) h
            generalize anV s.fGlyphs nm y.fGlyph = o2 at *
            cases o2 with
            | none =>
              (conv => whnf)
              (repeat' (first | (refine stg_ ?_) | fail | (refine br_ (fun hbr => ?_) (fun hbr => ?_))))
              refine NextW.go (j + 1, none, es2) covT_ ⟨by dsimp only; omega, HM2, hV⟩ (by dsimp only; omega)
            | some q2 =>
              have hq2 := hin q2 rfl
              have hq3 : ptIn 10747904 (anPt (some q2)) := hq2
              unfold ptIn at hq2 hq3
              (conv => whnf)
              (repeat' (first | (refine stg_ ?_) | fail | (refine br_ (fun hbr => ?_) (fun hbr => ?_))))
              refine NextW.go (j + 1, some ⟨q2.fX + y.fMove.fX, q2.fY + y.fMove.fY⟩, es2) (Weak.trans (Weak.boxz 7 rfl rfl rfl) covT_) ⟨by dsimp only; omega, HM2, hV⟩ (by dsimp only; omega)
          · exfalso; omega
      · have hj' : j = g.fParts.length := by omega
        subst hj'
        rw [anP_end (Nat.le_refl _)] at hV
        cases o with
        | some q =>
          dsimp only at hV
          (conv => whnf)
          (refine br_ (fun h2 => ?_) (fun h2 => ?_))
          · exfalso; omega
          · (repeat ((fail_if_success (with_reducible apply RegD.id)); (refine stg_ ?_)))
            refine RegD.cutT [(8, .pB 4 [] 0), (9, .d (.bool ((some q) : Option TPt).isSome))] [.gone, .gho cc st gg 0 t, .mp (some .i64) (updD es1 (.int .i64 i) (anD (some q))), .gone, .box (.d (anPt (some q)).D)] trRt (by kernel_rfl) ?_ ?_
            · (conv => whnf)
              repeat' (first | (refine stg_ ?_) | (refine And.intro ?_ ?_ <;> (conv => whnf)))
              all_goals (refine Weak.cov ?_ ?_ ?_; (focus (repeat' (first | exact trivial | with_reducible rfl | (refine ⟨?_, ?_⟩) | rfl))); (focus (repeat' (first | exact trivial | with_reducible rfl | (refine ⟨?_, ?_⟩) | rfl))); (focus rfl))
            · (conv => whnf)
              rw [hV]; exact ⟨rfl, _, _, rfl, by have := HM1.put i; rw [hV] at this; exact this⟩
        | none =>
          dsimp only at hV
          (conv => whnf)
          (refine br_ (fun h2 => ?_) (fun h2 => ?_))
          · exfalso; omega
          · (repeat ((fail_if_success (with_reducible apply RegD.id)); (refine stg_ ?_)))
            refine RegD.cutT [(8, .pB 4 [] 0), (9, .d (.bool (none : Option TPt).isSome))] [.gone, .gho cc st gg 0 t, .mp (some .i64) (updD es1 (.int .i64 i) (anD none)), .gone, .box (.d (anPt none).D)] trRt (by kernel_rfl) ?_ ?_
            · (conv => whnf)
              repeat' (first | (refine stg_ ?_) | (refine And.intro ?_ ?_ <;> (conv => whnf)))
              all_goals (refine Weak.cov ?_ ?_ ?_; (focus (repeat' (first | exact trivial | with_reducible rfl | (refine ⟨?_, ?_⟩) | rfl))); (focus (repeat' (first | exact trivial | with_reducible rfl | (refine ⟨?_, ?_⟩) | rfl))); (focus rfl))
            · (conv => whnf)
              rw [hV]; exact ⟨rfl, _, _, rfl, by have := HM1.put i; rw [hV] at this; exact this⟩

    · rw [f1, Nat.zero_add] at c3
      rw [anO, f3] at hE
      simp only [Option.map_some] at hE
      have ha' : (g.fAnchors.map TAnchor.D)[j]? = some a.D := by rw [List.getElem?_map, f2]; rfl
      (repeat' (first | (refine stg_ ?_) | (refine cla_ (c3) ?_) | (refine IxW.at (by omega) ha' ?_; (conv => whnf)) | (refine br_ (fun hbr => ?_) (fun hbr => ?_))))
      all_goals first | (exfalso; omega) | skip
      refine LoopW.go (α := Nat × Option TPt × List (D × D)) (fun p => [(1, .d (.int .i64 i)), (2, .d (.str nm)), (3, .pB 2 [] 1000000007), (4, .pB 3 [] 0), (8, .pB 4 [] 0), (13, .pB 7 [] 0), (53, .d (.lst (g.fParts.map TPart.D))), (54, .d (.int .i64 (g.fParts.map TPart.D).length)), (55, .d (.int .i64 (p.1 : Nat)))])
        (fun p => [.gone, .gho cc st gg 0 t, .mp (some .i64) p.2.2, .box (.d s.D), .box (.st [.d (.int .i64 0), .d (.int .i64 0)]), .gone, .gone, .box (.d (anD p.2.1))])
        (fun p => p.1 ≤ g.fParts.length ∧ MemoOK s.fGlyphs nm p.2.2 ∧ anV s.fGlyphs nm i = match p.2.1 with | some q => some q | none => anP (anV s.fGlyphs nm) (g.fParts.drop p.1)) (fun p => g.fParts.length - p.1) (0, some a.fAt, es) (Weak.trans (Weak.boxz 7 rfl rfl rfl) covT_) ⟨by dsimp only; omega, HM, hE⟩ ?_
      rintro ⟨j, o, es1⟩ ⟨hj, HM1, hV⟩
      dsimp only at hj HM1 hV ⊢
      rcases Nat.lt_or_ge j g.fParts.length with hlt | hge
      · obtain ⟨y, hy⟩ := at_lt' (xs := g.fParts) (k := j) hlt
        cases o with
        | some q =>
          dsimp only at hV
          have hAD : anD (some q) = .st [q.D, .bool true] := rfl
          (conv => whnf)
          (refine br_ (fun h2 => ?_) (fun h2 => ?_))
          · (repeat ((fail_if_success (with_reducible apply RegD.id)); (refine stg_ ?_)))
            refine RegD.cutT [(8, .pB 4 [] 0), (9, .d (.bool ((some q) : Option TPt).isSome))] [.gone, .gho cc st gg 0 t, .mp (some .i64) (updD es1 (.int .i64 i) (anD (some q))), .gone, .box (.d (anPt (some q)).D)] trRt (by kernel_rfl) ?_ ?_
            · (conv => whnf)
              repeat' (first | (refine stg_ ?_) | (refine And.intro ?_ ?_ <;> (conv => whnf)))
              all_goals (refine Weak.cov ?_ ?_ ?_; (focus (repeat' (first | exact trivial | with_reducible rfl | (refine ⟨?_, ?_⟩) | rfl))); (focus (repeat' (first | exact trivial | with_reducible rfl | (refine ⟨?_, ?_⟩) | rfl))); (focus rfl))
            · (conv => whnf)
              rw [hV]; exact ⟨rfl, _, _, rfl, by have := HM1.put i; rw [hV] at this; exact this⟩
          · exfalso; omega
        | none =>
          dsimp only at hV
          have hAD : anD none = .st [TPt.D ⟨0, 0⟩, .bool false] := rfl
          rw [anP_cons hy] at hV
          obtain ⟨k2, hk2, hk3⟩ := K.ord.part hk hg (List.mem_of_getElem? hy)
          obtain ⟨g2, hy0, hg2⟩ := K.at hk3
          have hmv := (K.ins g (List.mem_of_getElem? hg)).2 y (List.mem_of_getElem? hy)
          unfold ptIn at hmv
          have pm := ih k2 hk2 y.fGlyph hk3 es1 HM1
          (conv => whnf)
          (refine br_ (fun h2 => ?_) (fun h2 => ?_))
          · (repeat ((fail_if_success (with_reducible apply RegD.id)); (refine stg_ ?_)))
            refine CallW.useM pm rfl rfl rfl rfl rfl (fun es2 HM2 => ?_)
            have hin := fun q2 h => anV_in (q := q2) K.ins K.len (nm := nm) (i := y.fGlyph) h
            generalize anV s.fGlyphs nm y.fGlyph = o2 at *
            cases o2 with
            | none =>
              (conv => whnf)
              (repeat' (first | (refine stg_ ?_) | fail | (refine br_ (fun hbr => ?_) (fun hbr => ?_))))
              refine NextW.go (j + 1, none, es2) covT_ ⟨by dsimp only; omega, HM2, hV⟩ (by dsimp only; omega)
            | some q2 =>
              have hq2 := hin q2 rfl
              have hq3 : ptIn 10747904 (anPt (some q2)) := hq2
              unfold ptIn at hq2 hq3
              (conv => whnf)
              (repeat' (first | (refine stg_ ?_) | fail | (refine br_ (fun hbr => ?_) (fun hbr => ?_))))
              refine NextW.go (j + 1, some ⟨q2.fX + y.fMove.fX, q2.fY + y.fMove.fY⟩, es2) (Weak.trans (Weak.boxz 7 rfl rfl rfl) covT_) ⟨by dsimp only; omega, HM2, hV⟩ (by dsimp only; omega)
          · exfalso; omega
      · have hj' : j = g.fParts.length := by omega
        subst hj'
        rw [anP_end (Nat.le_refl _)] at hV
        cases o with
        | some q =>
          dsimp only at hV
          (conv => whnf)
          (refine br_ (fun h2 => ?_) (fun h2 => ?_))
          · exfalso; omega
          · (repeat ((fail_if_success (with_reducible apply RegD.id)); (refine stg_ ?_)))
            refine RegD.cutT [(8, .pB 4 [] 0), (9, .d (.bool ((some q) : Option TPt).isSome))] [.gone, .gho cc st gg 0 t, .mp (some .i64) (updD es1 (.int .i64 i) (anD (some q))), .gone, .box (.d (anPt (some q)).D)] trRt (by kernel_rfl) ?_ ?_
            · (conv => whnf)
              repeat' (first | (refine stg_ ?_) | (refine And.intro ?_ ?_ <;> (conv => whnf)))
              all_goals (refine Weak.cov ?_ ?_ ?_; (focus (repeat' (first | exact trivial | with_reducible rfl | (refine ⟨?_, ?_⟩) | rfl))); (focus (repeat' (first | exact trivial | with_reducible rfl | (refine ⟨?_, ?_⟩) | rfl))); (focus rfl))
            · (conv => whnf)
              rw [hV]; exact ⟨rfl, _, _, rfl, by have := HM1.put i; rw [hV] at this; exact this⟩
        | none =>
          dsimp only at hV
          (conv => whnf)
          (refine br_ (fun h2 => ?_) (fun h2 => ?_))
          · exfalso; omega
          · (repeat ((fail_if_success (with_reducible apply RegD.id)); (refine stg_ ?_)))
            refine RegD.cutT [(8, .pB 4 [] 0), (9, .d (.bool (none : Option TPt).isSome))] [.gone, .gho cc st gg 0 t, .mp (some .i64) (updD es1 (.int .i64 i) (anD none)), .gone, .box (.d (anPt none).D)] trRt (by kernel_rfl) ?_ ?_
            · (conv => whnf)
              repeat' (first | (refine stg_ ?_) | (refine And.intro ?_ ?_ <;> (conv => whnf)))
              all_goals (refine Weak.cov ?_ ?_ ?_; (focus (repeat' (first | exact trivial | with_reducible rfl | (refine ⟨?_, ?_⟩) | rfl))); (focus (repeat' (first | exact trivial | with_reducible rfl | (refine ⟨?_, ?_⟩) | rfl))); (focus rfl))
            · (conv => whnf)
              rw [hV]; exact ⟨rfl, _, _, rfl, by have := HM1.put i; rw [hV] at this; exact this⟩

end Go.Proofs.YtcachhipflibkaaGreat
