/- merged: several parts in one text. Leans on no more than they do. -/
import Derived.Test.YtaldaoagjbapkaaGreatDoorRwV
set_option linter.unusedSimpArgs false
set_option linter.unusedVariables false
namespace Go.Proofs.YtaldaoagjbapkaaGreatDoor
open Go.RowKit
theorem knR_ends {us : List ByteArray} {w u0 u1 : ByteArray} (hus : us = spB 58 w) (h0 : us[0]? = some u0) (h1 : us[us.length - 1]? = some u1) : knR w = if us.length = 2 then (match rdN u0.data.toList, ptR u1 with
    | some k, some q => some (k, q)
    | _, _ => none) else none := by
  rw [knR, ← hus]
  by_cases h2 : us.length = 2
  · rw [if_pos h2]
    match us, h2 with
    | [a, b], _ =>
      obtain rfl : a = u0 := by simpa using h0
      obtain rfl : b = u1 := by simpa using h1
      rfl
  · rw [if_neg h2]
    split
    · exact absurd rfl h2
    · rfl
def knE (w : ByteArray) : Int × TPt := ((rdN (((spB 58 w)[0]?).getD ByteArray.empty).data.toList).getD 0, (ptR (((spB 58 w)[(spB 58 w).length - 1]?).getD ByteArray.empty)).getD ⟨0, 0⟩)
def dS : List ByteArray → List (Int × TPt) × Bool
  | [] => ([], true)
  | w :: t => match knR w with
    | some q => (q :: (dS t).1, (dS t).2)
    | none => ([knE w], false)
theorem dS_ok : ∀ {r : List ByteArray} {ks : List (Int × TPt)}, mapO knR r = some ks → dS r = (ks, true)
  | [], ks, h => by cases h; rfl
  | w :: t, ks, h => by
    rw [mapO] at h
    split at h
    · cases h
    · rename_i q hq
      split at h
      · cases h
      · rename_i z hz
        cases h
        rw [dS, hq, dS_ok hz]
theorem dS_no : ∀ {a t : List ByteArray} {w : ByteArray} {ks : List (Int × TPt)}, mapO knR a = some ks → knR w = none → dS (a ++ w :: t) = (ks ++ [knE w], false)
  | [], t, w, ks, h, hw => by cases h; rw [List.nil_append, dS, hw]; rfl
  | x :: a, t, w, ks, h, hw => by
    rw [mapO] at h
    split at h
    · cases h
    · rename_i q hq
      split at h
      · cases h
      · rename_i z hz
        cases h
        rw [List.cons_append, dS, hq, dS_no hz hw]; rfl
theorem dS_bad {r : List ByteArray} {k : Nat} {w : ByteArray} {ks : List (Int × TPt)} (h : mapO knR (r.take k) = some ks) (hk : r[k]? = some w) (hw : knR w = none) : dS r = (ks ++ [knE w], false) := by
  have := dS_no (t := r.drop (k + 1)) h hw
  rwa [← drop_at hk, List.take_append_drop] at this
theorem dS_mapO : ∀ {r : List ByteArray}, (dS r).2 = true → mapO knR r = some (dS r).1
  | [], _ => rfl
  | w :: t, h => by
    rw [dS] at h ⊢
    rw [mapO]
    cases hq : knR w with
    | none => rw [hq] at h; cases h
    | some q =>
      rw [hq] at h
      rw [dS_mapO h]
def dlS (g a : ByteArray) (r : List ByteArray) : TGlyphDelta × Bool :=
  if (rdN g.data.toList).isSome && (rdN a.data.toList).isSome then (⟨(rdN g.data.toList).getD 0, (dS r).1.map Prod.fst, (dS r).1.map Prod.snd, (rdN a.data.toList).getD 0⟩, (dS r).2)
  else (⟨(rdN g.data.toList).getD 0, [], [], (rdN a.data.toList).getD 0⟩, false)
theorem dlS_some {g a : ByteArray} {r : List ByteArray} {d : TGlyphDelta} (h : dlS g a r = (d, true)) : dlR (g :: a :: r) = some d := by
  unfold dlS at h
  split at h
  · rename_i hq
    rw [Bool.and_eq_true] at hq
    obtain ⟨x, hx⟩ := Option.isSome_iff_exists.1 hq.1
    obtain ⟨y, hy⟩ := Option.isSome_iff_exists.1 hq.2
    injection h with h1 h2
    rw [dlR, rnL_two, hx, hy]
    dsimp only
    rw [dS_mapO h2, ← h1, hx, hy]
    rfl
  · cases h
theorem dlS_none {g a : ByteArray} {r : List ByteArray} {d : TGlyphDelta} (h : dlS g a r = (d, false)) : dlR (g :: a :: r) = none := by
  cases hd : dlR (g :: a :: r) with
  | none => rfl
  | some z =>
    exfalso
    rw [dlR, rnL_two] at hd
    cases hx : rdN g.data.toList with
    | none => rw [hx] at hd; cases hd
    | some x =>
      cases hy : rdN a.data.toList with
      | none => rw [hx, hy] at hd; cases hd
      | some y =>
        rw [hx, hy] at hd
        dsimp only at hd
        cases hm : mapO knR r with
        | none => rw [hm] at hd; cases hd
        | some ks =>
          unfold dlS at h
          rw [hx, hy, if_pos (by rfl), dS_ok hm] at h
          cases h
set_option maxHeartbeats 4000000 in
theorem l30ReadDelta_no (ws : List ByteArray) (hn : ws.length ≤ 1048577) (h : ws.length < 3 ∨ 723 < ws.length) : PC Tryz.prog 23 [.d (.lst (ws.map D.str))] (.tup [.st [.d (.int .i64 0), .nils, .nils, .d (.int .i64 0)], .d (.bool false)]) [] := by
  refine pc_intro ttOk (by kernel_rfl) Tryz.func23 rfl (by kernel_rfl) (by kernel_rfl) (by kernel_rfl) (fun hw => ?_)
  have hL : (ws.map D.str).length = ws.length := List.length_map _
  (conv => whnf)
  (repeat' (first | (refine stg_ ?_) | fail | (refine br_ (fun hbr => ?_) (fun hbr => ?_))))
  all_goals first | (exfalso; omega) | (refine RetOK.t rfl ?_; (repeat' (first | ((conv => whnf); done) | ((conv => whnf); (first | (exact ⟨by decide, rfl⟩) | (exact ⟨rfl, rfl⟩) | (refine ⟨_, _, rfl, ?_, ?_⟩) | (refine ⟨_, rfl, ?_⟩) | rfl)))); done)
set_option maxRecDepth 100000 in
set_option maxHeartbeats 8000000 in
theorem l30ReadDelta_v (k0 g a : ByteArray) (r : List ByteArray) (hsz : ∀ w ∈ r, w.size ≤ 1048576) (hn : r.length ≤ 720) (d : TGlyphDelta) (ok : Bool) (hd : dlS g a r = (d, ok)) :
    PC Tryz.prog 23 [.d (.lst ((k0 :: g :: a :: r).map D.str))] (.tup [.st [.d (.int .i64 d.fGlyph), .own 1 0 d.fKnots.length, .own 2 0 d.fMoves.length, .d (.int .i64 d.fAdvance)], .d (.bool ok)]) [.arr 1 (d.fKnots.map (D.int .i64)) true, .arr 2 (d.fMoves.map TPt.D) true] := by
  refine pc_intro ttOk (by kernel_rfl) Tryz.func23 rfl (by kernel_rfl) (by kernel_rfl) (by kernel_rfl) (fun hw => ?_)
  have hL : ((k0 :: g :: a :: r).map D.str).length = r.length + 3 := by simp
  have e1 : (k0 :: g :: a :: r)[(1 : Int).toNat]? = some g := rfl
  have e2 : (k0 :: g :: a :: r)[(2 : Int).toNat]? = some a := rfl
  have c1 := l01Number_v g
  have c2 := l01Number_v a
  unfold dlS at hd
  generalize rdN g.data.toList = og at c1 hd
  generalize rdN a.data.toList = oa at c2 hd
  have hfg : d.fGlyph = og.getD 0 := by
    split at hd <;> (obtain ⟨rfl, rfl⟩ := Prod.mk.inj hd; rfl)
  have hfa : d.fAdvance = oa.getD 0 := by
    split at hd <;> (obtain ⟨rfl, rfl⟩ := Prod.mk.inj hd; rfl)
  rw [hfg, hfa]
  generalize og.getD 0 = gv at c1 hd ⊢
  generalize oa.getD 0 = av at c2 hd ⊢
  generalize og.isSome = b1 at c1 hd
  generalize oa.isSome = b2 at c2 hd
  by_cases hok : (b1 && b2) = true
  rotate_left
  · rw [if_neg hok] at hd
    obtain ⟨rfl, rfl⟩ := Prod.mk.inj hd
    cases b1 <;> cases b2
    all_goals try (exfalso; exact hok rfl)
    all_goals (conv => whnf)
    all_goals
      repeat' (first | ((fail_if_success (with_reducible apply RegD.id)); (refine stg_ ?_)) | (refine cla_ (c1) ?_) | (refine cla_ (c2) ?_) | (refine br_ (fun hbr => ?_) (fun hbr => ?_); (focus (exfalso; omega))))
    all_goals (refine LoopW.go (α := Unit) (fun _ => [(2, .pB 1 [] 0), (8, .pB 2 [] 0), (9, .d (.bool false)), (0, .d (.lst ((k0 :: g :: a :: r).map D.str))), (10, .d (.int .i64 3))]) (fun _ => [.gone, .box (.st [.d (.int .i64 0), .nils, .nils, .d (.int .i64 0)]), .box (.st [.d (.int .i64 gv), .own 3 0 0, .own 4 0 0, .d (.int .i64 av)]), .arr 1 [] true, .arr 2 [] true]) (fun _ => True) (fun _ => 0) () (Weak.trans (Weak.adoptM 2 [.d (.int .i64 gv)] [.nils, .d (.int .i64 av)] rfl rfl 1 true) (Weak.trans (Weak.adoptM 2 [.d (.int .i64 gv), .own 3 0 0] [.d (.int .i64 av)] rfl rfl 2 true) (Weak.cov ⟨rfl, rfl, rfl, rfl, rfl, trivial⟩ ⟨trivial, rfl, rfl, rfl, rfl, trivial⟩ rfl))) trivial ?_)
    all_goals (intro _ _)
    all_goals (conv => whnf)
    all_goals ((repeat' (first | (refine stg_ ?_) | fail | (refine br_ (fun hbr => ?_) (fun hbr => ?_)))))
    all_goals (refine ⟨⟨[some 3, some 4], ⟨by decide, rfl, trivial, by decide, rfl, trivial, trivial⟩, by decide, ⟨_, rfl, rfl, ?_⟩⟩⟩; (repeat' (first | ((conv => whnf); done) | ((conv => whnf); (first | (exact ⟨by decide, rfl⟩) | (exact ⟨rfl, rfl⟩) | (refine ⟨_, _, rfl, ?_, ?_⟩) | (refine ⟨_, rfl, ?_⟩) | rfl)))))
  rw [if_pos hok] at hd
  obtain ⟨rfl, rfl⟩ : b1 = true ∧ b2 = true := by rwa [Bool.and_eq_true] at hok
  (conv => whnf)
  repeat' (first | ((fail_if_success (with_reducible apply RegD.id)); (refine stg_ ?_)) | (refine cla_ (c1) ?_) | (refine cla_ (c2) ?_) | (refine br_ (fun hbr => ?_) (fun hbr => ?_); (focus (exfalso; omega))))
  refine LoopW.go (α := Nat × List (Int × TPt) × Bool) (fun p => [(0, .d (.lst ((k0 :: g :: a :: r).map D.str))), (2, .pB 1 [] 0), (8, .pB 2 [] 0), (9, .d (.bool p.2.2)), (10, .d (.int .i64 ((p.1 + 3 : Nat) : Int)))]) (fun p => [.gone, .box (.st [.d (.int .i64 0), .nils, .nils, .d (.int .i64 0)]), .box (.st [.d (.int .i64 gv), .own 3 0 p.2.1.length, .own 4 0 p.2.1.length, .d (.int .i64 av)]), .arr 1 ((p.2.1.map Prod.fst).map (D.int .i64)) true, .arr 2 ((p.2.1.map Prod.snd).map TPt.D) true])
    (fun p => p.1 ≤ r.length ∧ p.2.1.length = p.1 ∧ (p.2.2 = true → mapO knR (r.take p.1) = some p.2.1) ∧ (p.2.2 = false → d.fKnots = p.2.1.map Prod.fst ∧ d.fMoves = p.2.1.map Prod.snd ∧ ok = false)) (fun p => r.length - p.1) (0, [], true) (Weak.trans (Weak.adoptM 2 [.d (.int .i64 gv)] [.nils, .d (.int .i64 av)] rfl rfl 1 true) (Weak.trans (Weak.adoptM 2 [.d (.int .i64 gv), .own 3 0 0] [.d (.int .i64 av)] rfl rfl 2 true) (Weak.cov ⟨rfl, rfl, rfl, rfl, rfl, trivial⟩ ⟨trivial, rfl, rfl, rfl, rfl, trivial⟩ rfl))) ⟨by simp, rfl, fun _ => rfl, fun h => by cases h⟩ ?_
  rintro ⟨k, ks, okk⟩ ⟨k1, k2, k3, k4⟩
  dsimp only at k1 k2 k3 k4 ⊢
  have hd1 : ((ks.map Prod.fst).map (D.int .i64)).length = ks.length := by simp
  have hd2 : ((ks.map Prod.snd).map TPt.D).length = ks.length := by simp
  cases okk with
  | false =>
    obtain ⟨h5, h6, rfl⟩ := k4 rfl
    rw [h5, h6, List.length_map, List.length_map]
    (conv => whnf)
    (repeat' (first | (refine stg_ ?_) | fail | (refine br_ (fun hbr => ?_) (fun hbr => ?_))))
    all_goals (refine ⟨⟨[some 3, some 4], ⟨by decide, rfl, trivial, by decide, rfl, trivial, trivial⟩, by decide, ⟨_, rfl, rfl, ?_⟩⟩⟩; (repeat' (first | ((conv => whnf); done) | ((conv => whnf); (first | (exact ⟨by decide, rfl⟩) | (exact ⟨rfl, rfl⟩) | (refine ⟨_, _, rfl, ?_, ?_⟩) | (refine ⟨_, rfl, ?_⟩) | rfl)))))
  | true =>
    have k3 := k3 rfl
    (conv => whnf)
    (repeat (refine stg_ ?_))
    (refine br_ (fun h3 => ?_) (fun h3 => ?_))
    · obtain ⟨w, hw'⟩ := at_lt' (xs := r) (k := k) (by omega)
      have hew : (k0 :: g :: a :: r)[k + 3]? = some w := hw'
      have hwz := hsz w (List.mem_of_getElem? hw')
      have c3 := l01Split_v w 58 hwz
      have hwc := spB_len 58 w
      have hwc2 := List.count_le_length (a := (58 : UInt8)) (l := w.data.toList)
      have hwl2 : w.data.toList.length = w.size := Array.length_toList
      obtain ⟨us, hus⟩ : ∃ us, us = spB 58 w := ⟨_, rfl⟩
      rw [← hus] at c3 hwc
      have hLu : (us.map D.str).length = us.length := List.length_map _
      obtain ⟨u0, hu0⟩ := at_lt' (xs := us) (k := 0) (by omega)
      obtain ⟨u1, hu1⟩ := at_lt' (xs := us) (k := us.length - 1) (by omega)
      have hu1z : u1.size ≤ 1048576 := Nat.le_trans (spB_le 58 w u1 (by rw [← hus]; exact List.mem_of_getElem? hu1)) hwz
      have f0 : (us.map D.str)[0]? = some (.str u0) := by rw [List.getElem?_map, hu0]; rfl
      have f0' : (us.map D.str)[(0 : Int).toNat]? = some (.str u0) := f0
      have f1 : (us.map D.str)[us.length - 1]? = some (.str u1) := by rw [List.getElem?_map, hu1]; rfl
      have f2 : (us.map D.str)[(((us.length : Nat) : Int) - 1).toNat]? = some (.str u1) := by rw [show (((us.length : Nat) : Int) - 1).toNat = us.length - 1 by omega]; exact f1
      have c4 := l01Number_v u0
      have c5 := specReadPt_v u1 hu1z
      have hkn := knR_ends hus hu0 hu1
      have hkE : knE w = ((rdN u0.data.toList).getD 0, (ptR u1).getD ⟨0, 0⟩) := by
        rw [knE, ← hus, hu0, hu1]; rfl
      generalize rdN u0.data.toList = o0 at c4 hkn hkE
      generalize ptR u1 = o1 at c5 hkn hkE
      have hks : ∀ q : Int × TPt, (ks ++ [q]).length = ks.length + 1 := fun q => by simp
      have ha1 : ∀ q : Int × TPt, Blk.arr 1 (((ks.map Prod.fst).map (D.int .i64)).take ks.length ++ [D.int .i64 q.1]) true = Blk.arr 1 (((ks ++ [q]).map Prod.fst).map (D.int .i64)) true := fun q => by
        rw [List.take_of_length_le (by omega), List.map_append, List.map_append]; rfl
      have ha2 : ∀ q : Int × TPt, Blk.arr 2 (((ks.map Prod.snd).map TPt.D).take ks.length ++ [q.2.D]) true = Blk.arr 2 (((ks ++ [q]).map Prod.snd).map TPt.D) true := fun q => by
        rw [List.take_of_length_le (by omega), List.map_append, List.map_append]; rfl
      by_cases hsm : o0.isSome = true ∧ o1.isSome = true ∧ us.length = 2
      · obtain ⟨h5, h6, h7⟩ := hsm
        obtain ⟨n, rfl⟩ := Option.isSome_iff_exists.1 h5
        obtain ⟨q, rfl⟩ := Option.isSome_iff_exists.1 h6
        rw [if_pos h7] at hkn
        (repeat' (first | (refine stg_ ?_) | (refine cla_ (c3) ?_) | (refine cla_ (c4) ?_) | (refine cla_ (c5) ?_) | (refine br_ (fun hbr => ?_) (fun hbr => ?_))))
        all_goals try (exfalso; omega)
        refine NextW.go (k + 1, ks ++ [(n, q)], true) (Weak.cov ?_ ?_ ?_) ⟨by dsimp only; omega, by dsimp only; rw [hks]; omega, fun _ => by dsimp only; rw [take_snoc_get hw']; exact mapO_snoc k3 hkn, fun h => by cases h⟩ (by dsimp only; omega)
        · exact ⟨rfl, rfl, rfl, congrArg (fun b => V.d (D.bool b)) (show (((us.length : Nat) : Int) == 2) = true by simp [h7]), rfl, trivial⟩
        · dsimp only
          rw [hks]
          have b1 := ha1 (n, q)
          have b2 := ha2 (n, q)
          repeat' (first | exact trivial | with_reducible rfl | with_reducible exact b1 | with_reducible exact b2 | (refine ⟨?_, ?_⟩) | exact b1 | exact b2 | rfl)
        · rfl
      · have hkn0 : knR w = none := by
          rw [hkn]
          split
          · rename_i h7
            revert hsm
            cases o0 <;> cases o1 <;> first | (intro _; rfl) | (intro h; exact absurd ⟨rfl, rfl, h7⟩ h)
          · rfl
        have hdd := dS_bad k3 hw' hkn0
        rw [hkE] at hdd
        rw [hdd] at hd
        obtain ⟨rfl, rfl⟩ := Prod.mk.inj hd
        clear hkn hkE hdd hd hfg hfa k4
        have hsm2 : o0.isSome = true → o1.isSome = true → ¬ us.length = 2 := fun h1 h2 h3 => hsm ⟨h1, h2, h3⟩
        clear hsm
        generalize o0.getD 0 = nv at c4 ⊢
        generalize o1.getD ⟨0, 0⟩ = pv at c5 ⊢
        generalize o0.isSome = t1 at c4 hsm2
        generalize o1.isSome = t2 at c5 hsm2
        cases t1 <;> cases t2
        all_goals ((repeat' (first | (refine stg_ ?_) | (refine cla_ (c3) ?_) | (refine cla_ (c4) ?_) | (refine cla_ (c5) ?_) | (refine br_ (fun hbr => ?_) (fun hbr => ?_)))))
        all_goals try (exfalso; omega)
        all_goals (refine NextW.go (k + 1, ks ++ [(nv, pv)], false) (Weak.cov ?_ ?_ ?_) ⟨by dsimp only; omega, by dsimp only; rw [hks]; omega, fun h => (by cases h), fun _ => ⟨rfl, rfl, rfl⟩⟩ (by dsimp only; omega))
        all_goals first
          | rfl
          | (focus (refine ⟨rfl, rfl, rfl, ?_, rfl, trivial⟩; first | rfl | (exact congrArg (fun b => V.d (D.bool b)) (show (((us.length : Nat) : Int) == 2) = false by rw [beq_eq_false_iff_ne]; have := hsm2 rfl rfl; omega)); done))
          | (dsimp only
             rw [hks]
             have b1 := ha1 (nv, pv)
             have b2 := ha2 (nv, pv)
             repeat' (first | exact trivial | with_reducible rfl | with_reducible exact b1 | with_reducible exact b2 | (refine ⟨?_, ?_⟩) | exact b1 | exact b2 | rfl))
    · have hk : k = r.length := by omega
      rw [hk, List.take_length] at k3
      rw [dS_ok k3] at hd
      dsimp only at hd
      obtain ⟨rfl, rfl⟩ := Prod.mk.inj hd
      dsimp only
      rw [show (ks.map Prod.fst).length = ks.length from List.length_map _, show (ks.map Prod.snd).length = ks.length from List.length_map _]
      (repeat' (first | (refine stg_ ?_) | fail | (refine br_ (fun hbr => ?_) (fun hbr => ?_))))
      all_goals (refine ⟨⟨[some 3, some 4], ⟨by decide, rfl, trivial, by decide, rfl, trivial, trivial⟩, by decide, ⟨_, rfl, rfl, ?_⟩⟩⟩; (repeat' (first | ((conv => whnf); done) | ((conv => whnf); (first | (exact ⟨by decide, rfl⟩) | (exact ⟨rfl, rfl⟩) | (refine ⟨_, _, rfl, ?_, ?_⟩) | (refine ⟨_, rfl, ?_⟩) | rfl)))))
set_option maxHeartbeats 8000000 in
theorem l30Text_v (v : TVariation) (hB : wfB v = true) : PC Tryz.prog 25 [.pX v.D] (.d (.str (mkS (vrT v)))) [] := by
  refine pc_intro ttOk (by kernel_rfl) Tryz.func25 rfl (by kernel_rfl) (by kernel_rfl) (by kernel_rfl) (fun hw => ?_)
  have hL : (v.fMasters.map TMaster.D).length = v.fMasters.length := List.length_map _
  have hLa : (v.fAxes.map TAxis.D).length = v.fAxes.length := List.length_map _
  obtain ⟨w1, w2, w3, w4⟩ := wf_in hB
  have hax : ∀ x ∈ v.fAxes, (axT x).length ≤ 1006 := fun x hx => by
    obtain ⟨k, hk⟩ := List.getElem?_of_mem hx
    exact axT_len (axs_at w1 hk)
  have hma : ∀ m ∈ v.fMasters, (maT m).length ≤ 1000300 := fun m hm => maT_len w2 (w4 m hm)
  (conv => whnf)
  (repeat (refine stg_ ?_))
  refine LoopW.go (α := Nat) (fun k => [(0, .pX v.D), (3, .own 1 0 (((v.fAxes.take k).flatMap axT).map bD).length), (4, .d (.int .i64 k))]) (fun k => [.gone, .arr 1 (((v.fAxes.take k).flatMap axT).map bD) true]) (fun k => k ≤ v.fAxes.length) (fun k => v.fAxes.length - k) 0 covT_ (by omega) (fun k hk => ?_)
  have hl1 := fm_take hax k
  have hlm : (((v.fAxes.take k).flatMap axT).map bD).length = ((v.fAxes.take k).flatMap axT).length := List.length_map _
  (conv => whnf)
  (refine br_ (fun h1 => ?_) (fun h1 => ?_))
  · obtain ⟨a, ha⟩ := at_lt' (xs := v.fAxes) (k := k) (by omega)
    have hA := axs_at w1 ha
    have hts := textB_size hA
    have hal := axT_len hA
    have c1 := l29Text_v a hA
    (repeat' (first | (refine stg_ ?_) | (refine cla_ (c1) ?_) | (refine CatW.at (by show _ ≤ 9223372036854775807; simp only [ByteArray.size_append, bs1, bs5]; omega) ?_; conv => whnf) | (refine br_ (fun hbr => ?_) (fun hbr => ?_))))
    rw [axT_bs]
    refine ApW.at (by rw [List.length_map, List.length_map]; show _ ≤ 9223372036854775807; omega) (by rw [List.length_map, List.length_map]; show _ * 1 ≤ _; omega) ?_
    (conv => whnf)
    (repeat (refine stg_ ?_))
    refine NextW.go (k + 1) (Weak.cov ⟨rfl, ?_, rfl, trivial⟩ ⟨trivial, ?_, trivial⟩ rfl) (by omega) (by omega)
    · rw [fm_at axT ha, List.map_append, List.length_append]; rfl
    · rw [fm_at axT ha, List.map_append, List.take_length]
  · obtain rfl : k = v.fAxes.length := by omega
    rw [List.take_length] at *
    (repeat (refine stg_ ?_))
    have hl0 := hl1
    refine LoopW.go (α := Nat) (fun i => [(0, .pX v.D), (3, .own 1 0 ((v.fAxes.flatMap axT ++ (v.fMasters.take i).flatMap maT).map bD).length), (5, .d (.int .i64 i))]) (fun i => [.gone, .arr 1 ((v.fAxes.flatMap axT ++ (v.fMasters.take i).flatMap maT).map bD) true]) (fun i => i ≤ v.fMasters.length) (fun i => v.fMasters.length - i) 0 (Weak.cov ⟨rfl, by simp; try rfl, rfl, trivial⟩ ⟨trivial, by simp; try rfl, trivial⟩ rfl) (by omega) (fun i hi => ?_)
    have hl2 := fm_take hma i
    generalize hB1 : v.fAxes.flatMap axT ++ (v.fMasters.take i).flatMap maT = B1 at *
    have hBl : B1.length ≤ 20000000 := by rw [← hB1, List.length_append]; omega
    have hBm1 : (B1.map bD).length = B1.length := List.length_map _
    (conv => whnf)
    (refine br_ (fun h2 => ?_) (fun h2 => ?_))
    · obtain ⟨m, hm⟩ := at_lt' (xs := v.fMasters) (k := i) (by omega)
      obtain ⟨m1, m2, m3, m4⟩ := w4 m (List.mem_of_getElem? hm)
      have hLp : (m.fPeaks.map TPeak.D).length = m.fPeaks.length := List.length_map _
      have hLd : (m.fDeltas.map TGlyphDelta.D).length = m.fDeltas.length := List.length_map _
      have hpl : ∀ p ∈ m.fPeaks, (pkT p).length ≤ 66 := fun p hp => pkT_len (m3 p hp)
      have hdl : ∀ d ∈ m.fDeltas, (dlT d).length ≤ 50000 := fun d hd => dlT_len (m4 d hd)
      (repeat (refine stg_ ?_))
      refine LoopW.go (α := Nat) (fun k => [(0, .pX v.D), (3, .own 1 0 ((B1 ++ mrT ++ (m.fPeaks.take k).flatMap pkT).map bD).length), (5, .d (.int .i64 i)), (6, .pX m.D), (7, .d (.int .i64 k))]) (fun k => [.gone, .arr 1 ((B1 ++ mrT ++ (m.fPeaks.take k).flatMap pkT).map bD) true]) (fun k => k ≤ m.fPeaks.length) (fun k => m.fPeaks.length - k) 0 (Weak.cov ⟨rfl, ?_, rfl, rfl, rfl, trivial⟩ ⟨trivial, ?_, trivial⟩ rfl) (by omega) (fun k hk2 => ?_)
      · rw [show B1 ++ mrT ++ (m.fPeaks.take 0).flatMap pkT = B1 ++ mrT by simp, List.map_append, List.length_append]; rfl
      · rw [show B1 ++ mrT ++ (m.fPeaks.take 0).flatMap pkT = B1 ++ mrT by simp, List.map_append, List.take_length]; try rfl
      have hl3 := fm_take hpl k
      have hmr : mrT.length = 6 := rfl
      generalize hB2 : B1 ++ mrT ++ (m.fPeaks.take k).flatMap pkT = B2 at *
      have hBl2 : B2.length ≤ 20001000 := by rw [← hB2, List.length_append, List.length_append]; omega
      have hBm2 : (B2.map bD).length = B2.length := List.length_map _
      (conv => whnf)
      (refine br_ (fun h3 => ?_) (fun h3 => ?_))
      · obtain ⟨p, hp⟩ := at_lt' (xs := m.fPeaks) (k := k) (by omega)
        have hep : (m.fPeaks.map TPeak.D)[k]? = some p.D := by rw [List.getElem?_map, hp]; rfl
        have hpb := m3 p (List.mem_of_getElem? hp)
        obtain ⟨p1, p2, p3⟩ := pk_l hpb
        have hpt := pkT_len hpb
        (repeat' (first | (refine stg_ ?_) | (refine cla_ (l01Dec_v _) ?_) | (refine CatW.at (by show _ ≤ 9223372036854775807; simp only [ByteArray.size_append, bs1, dcS]; omega) ?_; conv => whnf) | (refine br_ (fun hbr => ?_) (fun hbr => ?_))))
        rw [pkT_bs]
        refine ApW.at (by simp only [List.length_map]; show _ ≤ 9223372036854775807; omega) (by simp only [List.length_map]; show _ * 1 ≤ _; omega) ?_
        (conv => whnf)
        (repeat (refine stg_ ?_))
        refine NextW.go (k + 1) (Weak.cov ⟨rfl, ?_, rfl, rfl, rfl, trivial⟩ ⟨trivial, ?_, trivial⟩ rfl) (by omega) (by omega)
        · rw [fm_at pkT hp, ← List.append_assoc, hB2, List.map_append, List.length_append]; rfl
        · rw [fm_at pkT hp, ← List.append_assoc, hB2, List.map_append, List.take_length]; try rfl
      · obtain rfl : k = m.fPeaks.length := by omega
        rw [List.take_length] at *
        (repeat (refine stg_ ?_))
        refine LoopW.go (α := Nat) (fun j => [(0, .pX v.D), (3, .own 1 0 ((B2 ++ [10] ++ (m.fDeltas.take j).flatMap dlT).map bD).length), (5, .d (.int .i64 i)), (6, .pX m.D), (9, .d (.int .i64 j))]) (fun j => [.gone, .arr 1 ((B2 ++ [10] ++ (m.fDeltas.take j).flatMap dlT).map bD) true]) (fun j => j ≤ m.fDeltas.length) (fun j => m.fDeltas.length - j) 0 (Weak.cov ⟨rfl, ?_, rfl, rfl, rfl, trivial⟩ ⟨trivial, ?_, trivial⟩ rfl) (by omega) (fun j hj => ?_)
        · rw [show B2 ++ [10] ++ (m.fDeltas.take 0).flatMap dlT = B2 ++ [10] by simp, List.map_append, List.length_append]; rfl
        · rw [show B2 ++ [10] ++ (m.fDeltas.take 0).flatMap dlT = B2 ++ [10] by simp, List.map_append]; rfl
        have hl4 := fm_take hdl j
        generalize hB4 : B2 ++ [10] ++ (m.fDeltas.take j).flatMap dlT = B4 at *
        have hBl4 : B4.length ≤ 21001001 := by rw [← hB4]; simp only [List.length_append, List.length_cons, List.length_nil]; omega
        have hBm4 : (B4.map bD).length = B4.length := List.length_map _
        (conv => whnf)
        (refine br_ (fun h4 => ?_) (fun h4 => ?_))
        · obtain ⟨d, hd⟩ := at_lt' (xs := m.fDeltas) (k := j) (by omega)
          have hed : (m.fDeltas.map TGlyphDelta.D)[j]? = some d.D := by rw [List.getElem?_map, hd]; rfl
          obtain ⟨g1, g2, g3, g4, g5, g6⟩ := gd_in (m4 d (List.mem_of_getElem? hd))
          have b1 := decS_l (n := d.fGlyph) (by omega) (by omega)
          have b2 := decS_l (n := d.fAdvance) (by omega) (by omega)
          have hLk : (d.fKnots.map (D.int .i64)).length = d.fKnots.length := List.length_map _
          have hLm : (d.fMoves.map TPt.D).length = d.fMoves.length := List.length_map _
          have hdh : ([100, 101, 108, 116, 97, 32] ++ decS d.fGlyph ++ [32] ++ decS d.fAdvance : List UInt8).length ≤ 50 := by simp only [List.length_append, List.length_cons, List.length_nil]; omega
          (repeat' (first | (refine stg_ ?_) | (refine cla_ (l01Dec_v _) ?_) | (refine CatW.at (by show _ ≤ 9223372036854775807; simp only [ByteArray.size_append, bs1, bs6', dcS]; omega) ?_; conv => whnf) | (refine br_ (fun hbr => ?_) (fun hbr => ?_))))
          rw [dhT_bs]
          generalize hdhg : ([100, 101, 108, 116, 97, 32] ++ decS d.fGlyph ++ [32] ++ decS d.fAdvance : List UInt8) = dh at *
          refine ApW.at (by simp only [List.length_map]; show _ ≤ 9223372036854775807; omega) (by simp only [List.length_map]; show _ * 1 ≤ _; omega) ?_
          (conv => whnf)
          (repeat (refine stg_ ?_))
          refine LoopW.go (α := Nat) (fun q => [(0, .pX v.D), (3, .own 1 0 ((B4 ++ dh ++ knsT (d.fKnots.take q) (d.fMoves.take q)).map bD).length), (5, .d (.int .i64 i)), (6, .pX m.D), (9, .d (.int .i64 j)), (10, .pX d.D), (11, .d (.int .i64 q))]) (fun q => [.gone, .arr 1 ((B4 ++ dh ++ knsT (d.fKnots.take q) (d.fMoves.take q)).map bD) true]) (fun q => q ≤ d.fKnots.length) (fun q => d.fKnots.length - q) 0 (Weak.cov ⟨rfl, ?_, rfl, rfl, rfl, rfl, rfl, trivial⟩ ⟨trivial, ?_, trivial⟩ rfl) (by omega) (fun q hq => ?_)
          · rw [show B4 ++ dh ++ knsT (d.fKnots.take 0) (d.fMoves.take 0) = B4 ++ dh by simp [knsT], List.map_append, List.length_append]; rfl
          · rw [show B4 ++ dh ++ knsT (d.fKnots.take 0) (d.fMoves.take 0) = B4 ++ dh by simp [knsT], List.map_append, List.take_length]; try rfl
          have hl5 := knsT_len (ks := d.fKnots.take q) (ps := d.fMoves.take q) (mem_take' g3 q) (mem_take' g4 q)
          have hl6 : (d.fKnots.take q).length ≤ d.fKnots.length := by simp; omega
          generalize hB6 : B4 ++ dh ++ knsT (d.fKnots.take q) (d.fMoves.take q) = B6 at *
          have hBl6 : B6.length ≤ 21101050 := by rw [← hB6]; simp only [List.length_append]; omega
          have hBm6 : (B6.map bD).length = B6.length := List.length_map _
          (conv => whnf)
          (refine br_ (fun h5 => ?_) (fun h5 => ?_))
          · obtain ⟨k, hk'⟩ := at_lt' (xs := d.fKnots) (k := q) (by omega)
            obtain ⟨p, hp⟩ := at_lt' (xs := d.fMoves) (k := q) (by omega)
            have hek : (d.fKnots.map (D.int .i64))[q]? = some (.int .i64 k) := by rw [List.getElem?_map, hk']; rfl
            have hep : (d.fMoves.map TPt.D)[q]? = some p.D := by rw [List.getElem?_map, hp]; rfl
            have hkb := g3 k (List.mem_of_getElem? hk')
            have hpb := g4 p (List.mem_of_getElem? hp)
            have b3 := decS_l (n := k) (by omega) (by omega)
            have b4 := ptT_size hpb
            have b5 := knT_len hkb hpb
            have c7 := l03Text_v p hpb
            (repeat' (first | (refine stg_ ?_) | (refine cla_ (l01Dec_v _) ?_) | (refine cla_ (c7) ?_) | (refine CatW.at (by show _ ≤ 9223372036854775807; simp only [ByteArray.size_append, bs1, dcS]; omega) ?_; conv => whnf) | (refine br_ (fun hbr => ?_) (fun hbr => ?_))))
            rw [knT_bs]
            refine ApW.at (by simp only [List.length_map]; show _ ≤ 9223372036854775807; omega) (by simp only [List.length_map]; show _ * 1 ≤ _; omega) ?_
            (conv => whnf)
            (repeat (refine stg_ ?_))
            refine NextW.go (q + 1) (Weak.cov ⟨rfl, ?_, rfl, rfl, rfl, rfl, rfl, trivial⟩ ⟨trivial, ?_, trivial⟩ rfl) (by omega) (by omega)
            · rw [knsT_at hk' hp, ← List.append_assoc, hB6, List.map_append, List.length_append]; rfl
            · rw [knsT_at hk' hp, ← List.append_assoc, hB6, List.map_append, List.take_length]; try rfl
          · obtain rfl : q = d.fKnots.length := by omega
            rw [List.take_length, List.take_of_length_le (show d.fMoves.length ≤ d.fKnots.length by omega)] at hB6
            (repeat (refine stg_ ?_))
            have hE : B2 ++ [10] ++ (m.fDeltas.take (j + 1)).flatMap dlT = B6 ++ [10] := by
              rw [fm_at dlT hd, ← List.append_assoc, hB4, ← hB6, ← hdhg, dlT]
              simp only [List.append_assoc]
            refine NextW.go (j + 1) (Weak.cov ⟨rfl, ?_, rfl, rfl, rfl, trivial⟩ ⟨trivial, ?_, trivial⟩ rfl) (by omega) (by omega)
            · rw [hE, List.map_append, List.length_append]; rfl
            · rw [hE, List.map_append, List.take_length]; try rfl
        · obtain rfl : j = m.fDeltas.length := by omega
          rw [List.take_length] at hB4
          (repeat (refine stg_ ?_))
          have hE : v.fAxes.flatMap axT ++ (v.fMasters.take (i + 1)).flatMap maT = B4 := by
            rw [fm_at maT hm, ← List.append_assoc, hB1, ← hB4, ← hB2, maT]
            simp only [List.append_assoc]
          refine NextW.go (i + 1) (Weak.cov ⟨rfl, ?_, rfl, trivial⟩ ⟨trivial, ?_, trivial⟩ rfl) (by omega) (by omega)
          · rw [hE]; rfl
          · rw [hE]
    · obtain rfl : i = v.fMasters.length := by omega
      rw [List.take_length] at *
      (try (refine stg_ ?_))
      refine StW.at (s := mkS B1) (by rw [mkS_toList, List.drop_zero, List.take_length]) ?_
      (conv => whnf)
      (refine RetOK.d rfl rfl ?_; conv => whnf)
      rw [← hB1]; rfl
theorem Weak.slot {e : Env} {h : List Blk} (k : Nat) {v v' : V} (hk : gt e k = v) (H : ∀ w M h cv, rep w M h v cv → rep w M h v' cv) : Weak e h ((k, v') :: e) h := fun B X N M a w R => by
  have hr := R.env k
  rw [hk] at hr
  exact ⟨M, R.know (H _ _ _ _ hr)⟩
theorem rep_nilR {w : World} {M : MM} {h : List Blk} {x y : V} {cv : Value} (H : rep w M h (.tup [.st [x, .nils], y]) cv) : rep w M h (.tup [.st [x, .d nilC], y]) cv := by
  obtain ⟨cvs, rfl, c, cs, rfl, h1, h2⟩ := H
  refine ⟨_, rfl, c, cs, rfl, ?_, h2⟩
  obtain ⟨ds, rfl, q⟩ : ∃ ds : List Value, c = .agg ds.toArray ∧ repC w M h (.st [x, .nils]) ds := h1
  refine (show ∃ ds : List Value, Value.agg _ = .agg ds.toArray ∧ repC w M h (.st [x, .d nilC]) ds from ⟨ds, rfl, ?_⟩)
  obtain ⟨c1, c2, e1, r1, c3, c4, e2, r3, r4⟩ := q
  refine ⟨c1, c2, e1, r1, c3, c4, e2, ?_, r4⟩
  have : c3 = [.slice none 0 0] := r3
  subst this
  exact ⟨rfl, rfl⟩
theorem adD_last {ms : List TMaster} {m : TMaster} (h : ms[ms.length - 1]? = some m) (d : TGlyphDelta) : ∃ m' ∈ adD ms d, d ∈ m'.fDeltas := by
  rw [adD_at h]
  exact ⟨⟨m.fPeaks, m.fDeltas ++ [d]⟩, List.mem_iff_getElem?.2 ⟨ms.length - 1, List.getElem?_set_self (List.getElem?_eq_some_iff.1 h).1⟩, by simp⟩
theorem dlR_len {g a : ByteArray} {r : List ByteArray} {d : TGlyphDelta} (h : dlR (g :: a :: r) = some d) : d.fKnots.length = r.length := by
  rw [dlR] at h
  split at h
  · split at h
    · rename_i ks hks
      cases h
      rw [List.length_map]
      exact mapO_len hks
    · cases h
  · cases h
set_option maxRecDepth 100000 in
set_option maxHeartbeats 16000000 in
theorem specReadVariation_v (s : ByteArray) (hs : s.size ≤ 1048576) (v0 : V) (bs : List Blk) (hR : RvR s v0 bs) : PC Tryz.prog 5 [.d (.str s)] v0 bs := by
  refine pc_intro ttOk (by kernel_rfl) Tryz.func5 rfl (by kernel_rfl) (by kernel_rfl) (by kernel_rfl) (fun hw => ?_)
  have cL := l01Split_v s 10 hs
  have hlz : ∀ w ∈ spB 10 s, w.size ≤ 1048576 := fun w hw => Nat.le_trans (spB_le 10 s w hw) hs
  have hl : s.data.toList.length = s.size := Array.length_toList
  have hlc := List.count_le_length (a := (10 : UInt8)) (l := s.data.toList)
  have hln := spB_len 10 s
  have hlnR : lnR s = (spB 10 s).dropLast := rfl
  obtain ⟨L, hL⟩ : ∃ L, L = spB 10 s := ⟨_, rfl⟩
  rw [← hL] at cL hln hlz hlnR
  have hLl : (L.map D.str).length = L.length := List.length_map _
  have hll : (lnR s).length = L.length - 1 := by rw [hlnR, List.length_dropLast]
  have hlat : ∀ (k : Nat) (w : ByteArray), k + 1 < L.length → L[k]? = some w → (lnR s)[k]? = some w := fun k w h1 h2 => by
    rw [hlnR, List.getElem?_dropLast, if_pos (by omega)]; exact h2
  (conv => whnf)
  repeat' (first | ((fail_if_success (with_reducible apply RegD.id)); (refine stg_ ?_)) | (refine cla_ (cL) ?_))
  refine LoopW.go (α := Nat × TVariation) (fun p => [(0, .d (.str s)), (2, .pB 1 [] 0), (4, .own 2 0 L.length), (5, .pB 3 [] 0), (6, .d (.int .i64 ((p.1 : Nat) : Int)))]) (fun p => [.gone, .box (.st [.nils, .nils]), .arr 1 (L.map D.str) true, .box (.st [.own 4 0 p.2.fAxes.length, .own 5 0 p.2.fMasters.length]), .arr 5 (p.2.fAxes.map TAxis.D) true, .arr 2 (p.2.fMasters.map mR) true]) (fun p => p.1 + 1 ≤ L.length ∧ foldO v0R ((lnR s).take p.1) = some p.2 ∧ SzV p.2 p.1) (fun p => L.length - p.1) (0, v0R)
    (Weak.trans (Weak.adoptM 3 [] [.nils] rfl rfl 5 true) (Weak.trans (Weak.adoptM 3 [.own 4 0 0] [] rfl rfl 2 true) (Weak.cov ?_ ?_ ?_))) ⟨by dsimp only; omega, rfl, ⟨by simp [v0R], by simp [v0R], by simp [v0R]⟩⟩ ?_
  · (repeat' (first | exact trivial | with_reducible rfl | (refine ⟨?_, ?_⟩) | rfl))
  · (repeat' (first | exact trivial | with_reducible rfl | (refine ⟨?_, ?_⟩) | rfl))
  · rfl
  rintro ⟨k, v⟩ ⟨k1, k2, k3⟩
  dsimp only at k1 k2 k3 ⊢
  have ha := k3.a
  have hm := k3.m
  have hda : (v.fAxes.map TAxis.D).length = v.fAxes.length := List.length_map _
  have hdm : (v.fMasters.map mR).length = v.fMasters.length := List.length_map _
  (conv => whnf)
  (repeat (refine stg_ ?_))
  (refine br_ (fun hlast => ?_) (fun hlast => ?_))
  rotate_left
  · have hk : k = (lnR s).length := by omega
    rw [hk, List.take_length] at k2
    have hrv := rv_some k2
    have hLm : (v.fMasters.map TMaster.D).length = v.fMasters.length := List.length_map _
    have c2 := l30Formed_v v
    (repeat ((fail_if_success (with_reducible apply RegD.id)); (refine stg_ ?_)))
    (repeat (refine stg_ ?_))
    refine CallW.pre c2.fn (WeakX.of (e0 := [(VS, .tup [.pB 3 [] 0]), (0, .d (.str s)), (2, .pB 1 [] 0), (5, .pB 3 [] 0)]) (h0 := [.gone, .box (.st [.nils, .nils]), .gone, .box (.st [.own 4 0 v.fAxes.length, .own 5 0 v.fMasters.length]), .arr 5 (v.fAxes.map TAxis.D) true, .arr 2 (v.fMasters.map TMaster.D) true]) (Weak.trans (Weak.cov (e' := [(VS, .tup [.pB 3 [] 0]), (0, .d (.str s)), (2, .pB 1 [] 0), (5, .pB 3 [] 0)]) (h' := [.gone, .box (.st [.nils, .nils]), .gone, .box (.st [.own 4 0 v.fAxes.length, .own 5 0 v.fMasters.length]), .arr 5 (v.fAxes.map TAxis.D) true, .arr 2 (v.fMasters.map mR) true]) ?_ ?_ ?_) (Weak.rowM 5 rfl rfl)) ⟨_, _, rfl, rfl, ?_⟩)
    · (repeat' (first | exact trivial | with_reducible rfl | (refine ⟨?_, ?_⟩) | rfl))
    · (repeat' (first | exact trivial | with_reducible rfl | (refine ⟨?_, ?_⟩) | rfl))
    · rfl
    cases hwf : wfB v
    · rw [hwf] at c2
      rw [hwf, if_neg (by decide)] at hrv
      obtain ⟨rfl, rfl⟩ := hR.no hrv
      (repeat' (first | (refine stg_ ?_) | (refine cla_ (c2) ?_) | (refine br_ (fun hbr => ?_) (fun hbr => ?_))))
      (refine RetOK.t rfl ?_; (repeat' (first | ((conv => whnf); done) | ((conv => whnf); (first | (exact ⟨by decide, rfl⟩) | (exact ⟨rfl, rfl⟩) | (refine ⟨_, _, rfl, ?_, ?_⟩) | (refine ⟨_, rfl, ?_⟩) | rfl)))))
    rw [hwf] at c2
    rw [hwf, if_pos rfl] at hrv
    have c3 := l30Text_v v hwf
    rw [show mkS (vrT v) = txR v from rfl] at c3
    by_cases ht : txR v = s
    · rw [if_pos ht] at hrv
      obtain ⟨rfl, rfl⟩ := hR.own v hrv
      rw [ht] at c3
      (repeat' (first | (refine stg_ ?_) | (refine cla_ (c2) ?_) | (refine cla_ (c3) ?_) | (refine br_ (fun hbr => ?_) (fun hbr => ?_))))
      all_goals first | (exfalso; exact hbr trivial) | (refine ⟨⟨[some 4, some 5], ⟨by decide, rfl, trivial, by decide, rfl, trivial, trivial⟩, by decide, ⟨_, rfl, rfl, ?_⟩⟩⟩; (repeat' (first | ((conv => whnf); done) | ((conv => whnf); (first | (exact ⟨by decide, rfl⟩) | (exact ⟨rfl, rfl⟩) | (refine ⟨_, _, rfl, ?_, ?_⟩) | (refine ⟨_, rfl, ?_⟩) | rfl)))))
    · rw [if_neg ht] at hrv
      obtain ⟨rfl, rfl⟩ := hR.no hrv
      (repeat' (first | (refine stg_ ?_) | (refine cla_ (c2) ?_) | (refine cla_ (c3) ?_) | (refine br_ (fun hbr => ?_) (fun hbr => ?_))))
      all_goals first | (exfalso; exact ht (toL_inj hbr)) | (refine RetOK.t rfl ?_; (repeat' (first | ((conv => whnf); done) | ((conv => whnf); (first | (exact ⟨by decide, rfl⟩) | (exact ⟨rfl, rfl⟩) | (refine ⟨_, _, rfl, ?_, ?_⟩) | (refine ⟨_, rfl, ?_⟩) | rfl)))); done)
  obtain ⟨w, hw'⟩ := at_lt' (xs := L) (k := k) (by omega)
  have hlw := hlat k w (by omega) hw'
  have hew : (L.map D.str)[k]? = some (.str w) := by rw [List.getElem?_map, hw']; rfl
  have hwz := hlz w (List.mem_of_getElem? hw')
  have c1 := l01Split_v w 32 hwz
  have hwn := spB_len 32 w
  have hwl : w.data.toList.length = w.size := Array.length_toList
  have hwc := List.count_le_length (a := (32 : UInt8)) (l := w.data.toList)
  have hrz : ∀ x ∈ spB 32 w, x.size ≤ 1048576 := fun x hx => Nat.le_trans (spB_le 32 w x hx) hwz
  obtain ⟨kd, r, hsp⟩ : ∃ kd r, spB 32 w = kd :: r := by
    cases hq : spB 32 w with
    | nil => rw [hq] at hwn; simp at hwn
    | cons a b => exact ⟨a, b, rfl⟩
  have hstp : stp v w = if kd.data.toList = kAx then (match aP r with
      | some a => if axB a = true then some ⟨v.fAxes ++ [a], v.fMasters⟩ else none
      | none => none)
    else if kd.data.toList = mrT then (match mapO pkR r with
      | some ps => some ⟨v.fAxes, v.fMasters ++ [⟨ps, []⟩]⟩
      | none => none)
    else if kd.data.toList = kDl then (match dlR r with
      | some d => if v.fMasters.length = 0 then none else some ⟨v.fAxes, adD v.fMasters d⟩
      | none => none)
    else none := by rw [stp, hsp]; rfl
  rw [hsp] at c1 hwn hrz
  rw [List.length_cons] at hwn
  have hrz' : ∀ x ∈ r, x.size ≤ 1048576 := fun x hx => hrz x (by simp [hx])
  have hrl : r.length ≤ 1048576 := by omega
  have hLw : ((kd :: r).map D.str).length = r.length + 1 := by simp
  have hLw' : (kd :: r).length = r.length + 1 := rfl
  have hLr : (r.map D.str).length = r.length := List.length_map _
  have hT : ∀ n, r.length ≤ n → D.lst (r.map D.str) = D.lst (List.take n (r.map D.str)) := fun n h => by rw [List.take_of_length_le (by rw [hLr]; exact h)]
  have f0 : ((kd :: r).map D.str)[0]? = some (.str kd) := rfl
  have f1 : ((kd :: r).map D.str)[(0 : Int).toNat]? = some (.str kd) := rfl
  have hno : stp v w = none → rvR s = none := fun h => rv_no (foldO_bad k2 hlw h)
  have hbad : (∀ v', stp v w = some v' → BadV v') → rvR s = none := fun h => bad_rv k2 hlw h
  have hnext : ∀ v', stp v w = some v' → foldO v0R ((lnR s).take (k + 1)) = some v' := fun v' h => by rw [take_snoc_get hlw, foldO_snoc k2, h]
  by_cases q1 : kd.data.toList = kAx
  · rw [if_pos q1] at hstp
    have h1 : kd.toList = (⟨#[97, 120, 105, 115]⟩ : ByteArray).toList := toL_lit q1 _ rfl
    have h2 := h1
    have h3 := h1
    cases hax : (match aP r with | some a => if axB a = true then some a else none | none => none) with
    | none =>
      have hn0 : stp v w = none := by
        rw [hstp]
        revert hax
        cases aP r with
        | none => intro _; rfl
        | some a =>
          dsimp only
          cases axB a
          · intro _; rfl
          · intro h; cases h
      have cA := l29Read_v r hrz' (.tup [.st [.d (.str .empty), .d (.int .i64 0), .d (.int .i64 0), .d (.int .i64 0), .nils], .d (.bool false)]) [] ⟨(fun a e1 e2 => by rw [e1] at hax; dsimp only at hax; rw [if_pos e2] at hax; cases hax), fun _ => ⟨rfl, rfl⟩⟩
      obtain ⟨rfl, rfl⟩ := hR.no (hno hn0)
      repeat' (first | ((fail_if_success (with_reducible apply RegD.id)); (refine stg_ ?_)) | (refine cla_ (c1) ?_) | (refine cla_ cA ?_ (hb := ⟨_, _, rfl, ⟨_, rfl, ⟨by first | omega | (simp; done) | (simp; omega), hT _ (by first | omega | (simp; done) | (simp; omega))⟩⟩, rfl⟩)) | (refine br_ (fun hbr => ?_) (fun hbr => ?_); rotate_left; (focus (exfalso; first | exact hbr h1 | exact hbr h2 | exact hbr h3 | omega))) | (refine br_ (fun hbr => ?_) (fun hbr => ?_); (focus (exfalso; first | exact h1 hbr | exact h2 hbr | exact h3 hbr | omega))))
      all_goals (refine RetOK.t rfl ?_; (repeat' (first | ((conv => whnf); done) | ((conv => whnf); (first | (exact ⟨by decide, rfl⟩) | (exact ⟨rfl, rfl⟩) | (refine ⟨_, _, rfl, ?_, ?_⟩) | (refine ⟨_, rfl, ?_⟩) | rfl)))))
    | some a =>
      obtain ⟨e1, e2⟩ : aP r = some a ∧ axB a = true := by
        revert hax
        cases aP r with
        | none => intro h; cases h
        | some b =>
          dsimp only
          cases hb : axB b
          · intro h; cases h
          · intro h; cases h; exact ⟨rfl, hb⟩
      have hst : stp v w = some ⟨v.fAxes ++ [a], v.fMasters⟩ := by rw [hstp, e1]; dsimp only; rw [if_pos e2]
      have cA := l29Read_v r hrz' (.tup [.st [.d (.str a.fName), .d (.int .i64 a.fMin), .d (.int .i64 a.fDefault), .d (.int .i64 a.fMax), .own 1 0 a.fMap.length], .d (.bool true)]) [.arr 2 (a.fMap.map TAxisPoint.D) true] ⟨(fun b e3 _ => by rw [e1] at e3; cases e3; exact ⟨rfl, rfl⟩), fun h => by rw [h a e1] at e2; cases e2⟩
      have hap : Blk.arr 5 ((v.fAxes.map TAxis.D).take v.fAxes.length ++ [a.D]) true = Blk.arr 5 ((v.fAxes ++ [a]).map TAxis.D) true := by
        rw [List.take_of_length_le (by omega), List.map_append]; rfl
      repeat' (first | ((fail_if_success (with_reducible apply RegD.id)); (refine stg_ ?_)) | (refine cla_ (c1) ?_) | (refine cla_ cA ?_ (hb := ⟨_, _, rfl, ⟨_, rfl, ⟨by first | omega | (simp; done) | (simp; omega), hT _ (by first | omega | (simp; done) | (simp; omega))⟩⟩, rfl⟩)) | (refine br_ (fun hbr => ?_) (fun hbr => ?_); rotate_left; (focus (exfalso; first | exact hbr h1 | exact hbr h2 | exact hbr h3 | omega))) | (refine br_ (fun hbr => ?_) (fun hbr => ?_); (focus (exfalso; first | exact h1 hbr | exact h2 hbr | exact h3 hbr | omega))))
      refine NextW.go (k + 1, ⟨v.fAxes ++ [a], v.fMasters⟩) (Weak.cov ?_ ?_ ?_) ⟨by dsimp only; omega, hnext _ hst, szV_stp k3 hst⟩ (by dsimp only; omega)
      · (repeat' (first | exact trivial | with_reducible rfl | (refine ⟨?_, ?_⟩) | rfl))
      · dsimp only
        rw [List.length_append, List.length_singleton]
        (repeat' (first | exact trivial | with_reducible rfl | with_reducible exact hap | (refine ⟨?_, ?_⟩) | exact hap | rfl))
      · rfl
  rw [if_neg q1] at hstp
  have h1 : ¬ kd.toList = (⟨#[97, 120, 105, 115]⟩ : ByteArray).toList := toL_no q1 _ rfl
  by_cases q2 : kd.data.toList = mrT
  · rw [if_pos q2] at hstp
    have h2 : kd.toList = (⟨#[109, 97, 115, 116, 101, 114]⟩ : ByteArray).toList := toL_lit q2 _ rfl
    have h3 := h2
    by_cases hb3 : mapO pkR r = none ∨ 3 < r.length
    · have cM := l30Master_v kd r hrz' (by omega) _ _ (fun ps e1 e2 => by
        exfalso
        rcases hb3 with h | h
        · rw [h] at e1; cases e1
        · omega) (fun _ => ⟨rfl, rfl⟩)
      obtain ⟨rfl, rfl⟩ := hR.no (hbad (fun v' hv' => by
        rw [hstp] at hv'
        cases hq : mapO pkR r with
        | none => rw [hq] at hv'; cases hv'
        | some ps =>
          rw [hq] at hv'
          cases hv'
          rcases hb3 with h | h
          · rw [h] at hq; cases hq
          · exact ⟨⟨ps, []⟩, by simp, .inl (by rw [mapO_len hq]; exact h)⟩))
      repeat' (first | ((fail_if_success (with_reducible apply RegD.id)); (refine stg_ ?_)) | (refine cla_ (c1) ?_) | (refine cla_ (cM) ?_) | (refine br_ (fun hbr => ?_) (fun hbr => ?_); rotate_left; (focus (exfalso; first | exact hbr h1 | exact hbr h2 | exact hbr h3 | omega))) | (refine br_ (fun hbr => ?_) (fun hbr => ?_); (focus (exfalso; first | exact h1 hbr | exact h2 hbr | exact h3 hbr | omega))))
      all_goals (refine RetOK.t rfl ?_; (repeat' (first | ((conv => whnf); done) | ((conv => whnf); (first | (exact ⟨by decide, rfl⟩) | (exact ⟨rfl, rfl⟩) | (refine ⟨_, _, rfl, ?_, ?_⟩) | (refine ⟨_, rfl, ?_⟩) | rfl)))))
    obtain ⟨ps, hps⟩ : ∃ ps, mapO pkR r = some ps := by
      cases hq : mapO pkR r with
      | none => exact absurd (.inl hq) hb3
      | some ps => exact ⟨ps, rfl⟩
    rw [hps] at hstp
    have cM := l30Master_v kd r hrz' (by omega) (.tup [.st [.own 1 0 ps.length, .nils], .d (.bool true)]) [.arr 3 (ps.map TPeak.D) true] (fun ps' e1 e2 => by rw [hps] at e1; cases e1; exact ⟨rfl, rfl⟩) (fun h => absurd h hb3)
    have hap : Blk.arr 2 ((v.fMasters.map mR).take v.fMasters.length ++ [mR ⟨ps, []⟩]) true = Blk.arr 2 ((v.fMasters ++ [(⟨ps, []⟩ : TMaster)]).map mR) true := by
      rw [List.take_of_length_le (by omega), List.map_append]; rfl
    have hdp : (ps.map TPeak.D).length = ps.length := List.length_map _
    repeat' (first | ((fail_if_success (with_reducible apply RegD.id)); (refine stg_ ?_)) | (refine cla_ (c1) ?_) | (refine br_ (fun hbr => ?_) (fun hbr => ?_); rotate_left; (focus (exfalso; first | exact hbr h1 | exact hbr h2 | exact hbr h3 | omega))) | (refine br_ (fun hbr => ?_) (fun hbr => ?_); (focus (exfalso; first | exact h1 hbr | exact h2 hbr | exact h3 hbr | omega))))
    refine clX_ cM (WeakX.pre (Weak.slot VS rfl (fun _ _ _ _ => rep_nilR)) (WeakX.of (e0 := [(VS, .tup [.st [.own 7 0 ps.length, .d nilC], .d (.bool true)]), (0, .d (.str s)), (2, .pB 1 [] 0), (4, .own 2 0 L.length), (5, .pB 3 [] 0), (6, .d (.int .i64 ((k : Nat) : Int)))]) (h0 := [.gone, .box (.st [.nils, .nils]), .arr 1 (L.map D.str) true, .box (.st [.own 4 0 v.fAxes.length, .own 5 0 v.fMasters.length]), .arr 5 (v.fAxes.map TAxis.D) true, .arr 2 (v.fMasters.map mR) true, .gone, .arr 3 (ps.map TPeak.D) true]) (Weak.cov ?_ ?_ ?_) ⟨_, _, rfl, rfl, ?_⟩))
    · (repeat' (first | exact trivial | with_reducible rfl | (refine ⟨?_, ?_⟩) | rfl))
    · (repeat' (first | exact trivial | with_reducible rfl | (refine ⟨?_, ?_⟩) | rfl))
    · rfl
    (conv => whnf)
    (repeat (refine stg_ ?_))
    refine NextW.go (k + 1, ⟨v.fAxes, v.fMasters ++ [⟨ps, []⟩]⟩) (Weak.cov ?_ ?_ ?_) ⟨by dsimp only; omega, hnext _ hstp, szV_stp k3 hstp⟩ (by dsimp only; omega)
    · (repeat' (first | exact trivial | with_reducible rfl | (refine ⟨?_, ?_⟩) | rfl))
    · dsimp only
      rw [List.length_append, List.length_singleton]
      (repeat' (first | exact trivial | with_reducible rfl | with_reducible exact hap | (refine ⟨?_, ?_⟩) | exact hap | rfl))
    · rfl
  rw [if_neg q2] at hstp
  have h2 : ¬ kd.toList = (⟨#[109, 97, 115, 116, 101, 114]⟩ : ByteArray).toList := toL_no q2 _ rfl
  by_cases q3 : kd.data.toList = kDl ∧ v.fMasters.length ≠ 0
  rotate_left
  · have hn0 : stp v w = none := by
      rw [hstp]
      by_cases q4 : kd.data.toList = kDl
      · have : v.fMasters.length = 0 := by
          rcases Nat.eq_zero_or_pos v.fMasters.length with h | h
          · exact h
          · exact absurd ⟨q4, by omega⟩ q3
        rw [if_pos q4]
        cases dlR r with
        | none => rfl
        | some d => dsimp only; rw [if_pos this]
      · rw [if_neg q4]
    obtain ⟨rfl, rfl⟩ := hR.no (hno hn0)
    by_cases q4 : kd.data.toList = kDl
    · have h3 : kd.toList = (⟨#[100, 101, 108, 116, 97]⟩ : ByteArray).toList := toL_lit q4 _ rfl
      have hm0 : v.fMasters.length = 0 := by
        rcases Nat.eq_zero_or_pos v.fMasters.length with h | h
        · exact h
        · exact absurd ⟨q4, by omega⟩ q3
      repeat' (first | ((fail_if_success (with_reducible apply RegD.id)); (refine stg_ ?_)) | (refine cla_ (c1) ?_) | (refine br_ (fun hbr => ?_) (fun hbr => ?_); rotate_left; (focus (exfalso; first | exact hbr h1 | exact hbr h2 | exact hbr h3 | omega))) | (refine br_ (fun hbr => ?_) (fun hbr => ?_); (focus (exfalso; first | exact h1 hbr | exact h2 hbr | exact h3 hbr | omega))))
      all_goals (refine RetOK.t rfl ?_; (repeat' (first | ((conv => whnf); done) | ((conv => whnf); (first | (exact ⟨by decide, rfl⟩) | (exact ⟨rfl, rfl⟩) | (refine ⟨_, _, rfl, ?_, ?_⟩) | (refine ⟨_, rfl, ?_⟩) | rfl)))))
    · have h3 : ¬ kd.toList = (⟨#[100, 101, 108, 116, 97]⟩ : ByteArray).toList := toL_no q4 _ rfl
      repeat' (first | ((fail_if_success (with_reducible apply RegD.id)); (refine stg_ ?_)) | (refine cla_ (c1) ?_) | (refine br_ (fun hbr => ?_) (fun hbr => ?_); rotate_left; (focus (exfalso; first | exact hbr h1 | exact hbr h2 | exact hbr h3 | omega))) | (refine br_ (fun hbr => ?_) (fun hbr => ?_); (focus (exfalso; first | exact h1 hbr | exact h2 hbr | exact h3 hbr | omega))))
      all_goals (refine RetOK.t rfl ?_; (repeat' (first | ((conv => whnf); done) | ((conv => whnf); (first | (exact ⟨by decide, rfl⟩) | (exact ⟨rfl, rfl⟩) | (refine ⟨_, _, rfl, ?_, ?_⟩) | (refine ⟨_, rfl, ?_⟩) | rfl)))))
  obtain ⟨q3, hm0⟩ := q3
  rw [if_pos q3] at hstp
  have h3 : kd.toList = (⟨#[100, 101, 108, 116, 97]⟩ : ByteArray).toList := toL_lit q3 _ rfl
  obtain ⟨m, hmm⟩ := at_lt' (xs := v.fMasters) (k := v.fMasters.length - 1) (by omega)
  have hms := k3.d m (List.mem_of_getElem? hmm)
  have hdd : (m.fDeltas.map TGlyphDelta.D).length = m.fDeltas.length := List.length_map _
  by_cases hr2 : (kd :: r).length < 3 ∨ 723 < (kd :: r).length
  · have cD := l30ReadDelta_no (kd :: r) (by omega) hr2
    obtain ⟨rfl, rfl⟩ := hR.no (hbad (fun v' hv' => by
      rw [hstp] at hv'
      match r, hr2 with
      | [], _ => cases hv'
      | [_], _ => cases hv'
      | x :: y :: r', hr2 =>
        cases hq : dlR (x :: y :: r') with
        | none => rw [hq] at hv'; cases hv'
        | some d =>
          rw [hq] at hv'
          dsimp only at hv'
          rw [if_neg hm0] at hv'
          cases hv'
          obtain ⟨m', h4, h5⟩ := adD_last hmm d
          exact ⟨m', h4, .inr ⟨d, h5, by have := dlR_len hq; simp only [List.length_cons] at hr2; omega⟩⟩))
    repeat' (first | ((fail_if_success (with_reducible apply RegD.id)); (refine stg_ ?_)) | (refine cla_ (c1) ?_) | (refine br_ (fun hbr => ?_) (fun hbr => ?_); rotate_left; (focus (exfalso; first | exact hbr h1 | exact hbr h2 | exact hbr h3 | omega))) | (refine br_ (fun hbr => ?_) (fun hbr => ?_); (focus (exfalso; first | exact h1 hbr | exact h2 hbr | exact h3 hbr | omega))))
    refine clX_ cD (WeakX.pre (e0 := [(VS, .tup [.st [.d (.int .i64 0), .nils, .nils, .d (.int .i64 0)], .d (.bool false)]), (2, .pB 1 [] 0), (5, .pB 3 [] 0)]) (h0 := [.gone, .box (.st [.nils, .nils]), .arr 1 (L.map D.str) true, .box (.st [.own 4 0 v.fAxes.length, .own 5 0 v.fMasters.length]), .arr 5 (v.fAxes.map TAxis.D) true, .arr 2 (v.fMasters.map mR) true, .gone]) (Weak.cov ?_ ?_ ?_) (WeakX.outM (b := 5) rfl rfl hmm (fun g0 cap sz t hcap => WeakX.of (Weak.refl _ _) ⟨_, _, rfl, rfl, ?_⟩)))
    · (repeat' (first | exact trivial | with_reducible rfl | (refine ⟨?_, ?_⟩) | rfl))
    · (repeat' (first | exact trivial | with_reducible rfl | (refine ⟨?_, ?_⟩) | rfl))
    · rfl
    have hexs : ((v.fMasters.map mR).set (v.fMasters.length - 1) (.st [.lst (m.fPeaks.map TPeak.D), .hole g0 m.fDeltas.length cap]))[v.fMasters.length - 1]? = some (.st [.lst (m.fPeaks.map TPeak.D), .hole g0 m.fDeltas.length cap]) := List.getElem?_set_self (by rw [hdm]; omega)
    have hds : ((v.fMasters.map mR).set (v.fMasters.length - 1) (.st [.lst (m.fPeaks.map TPeak.D), .hole g0 m.fDeltas.length cap])).length = v.fMasters.length := by rw [List.length_set]; exact hdm
    (conv => whnf)
    repeat (first | ((with_reducible apply HoW.id); (refine HoW.mk ⟨8, 7, 4, _, true, sz, t, rfl, rfl, hcap, ?_⟩); (conv => whnf)) | ((with_reducible apply HlW.id); (refine HlW.at (fun g2 cap2 sz2 ty2 hcap2 => ?_)); (conv => whnf)) | ((with_reducible apply ArW.id); (refine ArW.i64e ((v.fMasters.length - 1 : Nat) : Int) (by omega) (by omega) ?_); (conv => whnf)) | (refine stg_ ?_))
    (refine RetOK.t rfl ?_; (repeat' (first | ((conv => whnf); done) | ((conv => whnf); (first | (exact ⟨by decide, rfl⟩) | (exact ⟨rfl, rfl⟩) | (refine ⟨_, _, rfl, ?_, ?_⟩) | (refine ⟨_, rfl, ?_⟩) | rfl)))))
  obtain ⟨g, a, r', rfl⟩ : ∃ g a r', r = g :: a :: r' := by
    match r, hr2 with
    | [], h => exact absurd (.inl (by simp)) h
    | [_], h => exact absurd (.inl (by simp)) h
    | x :: y :: z, _ => exact ⟨x, y, z, rfl⟩
  have hr7 : r'.length ≤ 720 := by
    simp only [List.length_cons] at hr2
    omega
  obtain ⟨d, ok, hdl⟩ : ∃ d ok, dlS g a r' = (d, ok) := ⟨_, _, rfl⟩
  have cD := l30ReadDelta_v kd g a r' (fun x hx => hrz' x (by simp [hx])) hr7 d ok hdl
  cases ok with
  | false =>
    obtain ⟨rfl, rfl⟩ := hR.no (hno (by rw [hstp, dlS_none hdl]))
    repeat' (first | ((fail_if_success (with_reducible apply RegD.id)); (refine stg_ ?_)) | (refine cla_ (c1) ?_) | (refine br_ (fun hbr => ?_) (fun hbr => ?_); rotate_left; (focus (exfalso; first | exact hbr h1 | exact hbr h2 | exact hbr h3 | omega))) | (refine br_ (fun hbr => ?_) (fun hbr => ?_); (focus (exfalso; first | exact h1 hbr | exact h2 hbr | exact h3 hbr | omega))))
    refine clX_ cD (WeakX.pre (e0 := [(VS, .tup [.st [.d (.int .i64 d.fGlyph), .own 7 0 d.fKnots.length, .own 8 0 d.fMoves.length, .d (.int .i64 d.fAdvance)], .d (.bool false)]), (2, .pB 1 [] 0), (5, .pB 3 [] 0)]) (h0 := [.gone, .box (.st [.nils, .nils]), .arr 1 (L.map D.str) true, .box (.st [.own 4 0 v.fAxes.length, .own 5 0 v.fMasters.length]), .arr 5 (v.fAxes.map TAxis.D) true, .arr 2 (v.fMasters.map mR) true, .gone, .arr 1 (d.fKnots.map (D.int .i64)) true, .arr 2 (d.fMoves.map TPt.D) true]) (Weak.cov ?_ ?_ ?_) (WeakX.outM (b := 5) rfl rfl hmm (fun g0 cap sz t hcap => WeakX.of (Weak.refl _ _) ⟨_, _, rfl, rfl, ?_⟩)))
    · (repeat' (first | exact trivial | with_reducible rfl | (refine ⟨?_, ?_⟩) | rfl))
    · (repeat' (first | exact trivial | with_reducible rfl | (refine ⟨?_, ?_⟩) | rfl))
    · rfl
    have hexs : ((v.fMasters.map mR).set (v.fMasters.length - 1) (.st [.lst (m.fPeaks.map TPeak.D), .hole g0 m.fDeltas.length cap]))[v.fMasters.length - 1]? = some (.st [.lst (m.fPeaks.map TPeak.D), .hole g0 m.fDeltas.length cap]) := List.getElem?_set_self (by rw [hdm]; omega)
    have hds : ((v.fMasters.map mR).set (v.fMasters.length - 1) (.st [.lst (m.fPeaks.map TPeak.D), .hole g0 m.fDeltas.length cap])).length = v.fMasters.length := by rw [List.length_set]; exact hdm
    (conv => whnf)
    repeat (first | ((with_reducible apply HoW.id); (refine HoW.mk ⟨10, 9, 4, _, true, sz, t, rfl, rfl, hcap, ?_⟩); (conv => whnf)) | ((with_reducible apply HlW.id); (refine HlW.at (fun g2 cap2 sz2 ty2 hcap2 => ?_)); (conv => whnf)) | ((with_reducible apply ArW.id); (refine ArW.i64e ((v.fMasters.length - 1 : Nat) : Int) (by omega) (by omega) ?_); (conv => whnf)) | (refine stg_ ?_))
    (refine RetOK.t rfl ?_; (repeat' (first | ((conv => whnf); done) | ((conv => whnf); (first | (exact ⟨by decide, rfl⟩) | (exact ⟨rfl, rfl⟩) | (refine ⟨_, _, rfl, ?_, ?_⟩) | (refine ⟨_, rfl, ?_⟩) | rfl)))))
  | true =>
    have hst : stp v w = some ⟨v.fAxes, adD v.fMasters d⟩ := by rw [hstp, dlS_some hdl]; dsimp only; rw [if_neg hm0]
    repeat' (first | ((fail_if_success (with_reducible apply RegD.id)); (refine stg_ ?_)) | (refine cla_ (c1) ?_) | (refine br_ (fun hbr => ?_) (fun hbr => ?_); rotate_left; (focus (exfalso; first | exact hbr h1 | exact hbr h2 | exact hbr h3 | omega))) | (refine br_ (fun hbr => ?_) (fun hbr => ?_); (focus (exfalso; first | exact h1 hbr | exact h2 hbr | exact h3 hbr | omega))))
    refine clX_ cD (WeakX.pre (e0 := [(VS, .tup [.st [.d (.int .i64 d.fGlyph), .own 7 0 d.fKnots.length, .own 8 0 d.fMoves.length, .d (.int .i64 d.fAdvance)], .d (.bool true)]), (0, .d (.str s)), (2, .pB 1 [] 0), (4, .own 2 0 L.length), (5, .pB 3 [] 0), (6, .d (.int .i64 ((k : Nat) : Int)))]) (h0 := [.gone, .box (.st [.nils, .nils]), .arr 1 (L.map D.str) true, .box (.st [.own 4 0 v.fAxes.length, .own 5 0 v.fMasters.length]), .arr 5 (v.fAxes.map TAxis.D) true, .arr 2 (v.fMasters.map mR) true, .gone, .arr 1 (d.fKnots.map (D.int .i64)) true, .arr 2 (d.fMoves.map TPt.D) true]) (Weak.cov ?_ ?_ ?_) (WeakX.outM (b := 5) rfl rfl hmm (fun g0 cap sz t hcap => WeakX.of (Weak.refl _ _) ⟨_, _, rfl, rfl, ?_⟩)))
    · (repeat' (first | exact trivial | with_reducible rfl | (refine ⟨?_, ?_⟩) | rfl))
    · (repeat' (first | exact trivial | with_reducible rfl | (refine ⟨?_, ?_⟩) | rfl))
    · rfl
    have hexs : ((v.fMasters.map mR).set (v.fMasters.length - 1) (.st [.lst (m.fPeaks.map TPeak.D), .hole g0 m.fDeltas.length cap]))[v.fMasters.length - 1]? = some (.st [.lst (m.fPeaks.map TPeak.D), .hole g0 m.fDeltas.length cap]) := List.getElem?_set_self (by rw [hdm]; omega)
    have hds : ((v.fMasters.map mR).set (v.fMasters.length - 1) (.st [.lst (m.fPeaks.map TPeak.D), .hole g0 m.fDeltas.length cap])).length = v.fMasters.length := by rw [List.length_set]; exact hdm
    (conv => whnf)
    repeat (first | ((with_reducible apply HoW.id); (refine HoW.mk ⟨10, 9, 4, _, true, sz, t, rfl, rfl, hcap, ?_⟩); (conv => whnf)) | ((with_reducible apply HlW.id); (refine HlW.at (fun g2 cap2 sz2 ty2 hcap2 => ?_)); (conv => whnf)) | ((with_reducible apply ArW.id); (refine ArW.i64e ((v.fMasters.length - 1 : Nat) : Int) (by omega) (by omega) ?_); (conv => whnf)) | (refine stg_ ?_))
    have hXi : (((v.fMasters.map mR).set (v.fMasters.length - 1) (.st [.lst (m.fPeaks.map TPeak.D), .hole g0 m.fDeltas.length cap])).set (v.fMasters.length - 1) (.st [.lst (m.fPeaks.map TPeak.D), .hole g2 (m.fDeltas.length + 1) cap2]))[v.fMasters.length - 1]? = some (.st [.lst (m.fPeaks.map TPeak.D), .hole g2 (m.fDeltas.length + 1) cap2]) := List.getElem?_set_self (by rw [List.length_set, hdm]; omega)
    have hne : m.fDeltas ++ [d] ≠ [] := by simp
    have hfin : (((v.fMasters.map mR).set (v.fMasters.length - 1) (.st [.lst (m.fPeaks.map TPeak.D), .hole g0 m.fDeltas.length cap])).set (v.fMasters.length - 1) (.st [.lst (m.fPeaks.map TPeak.D), .hole g2 (m.fDeltas.length + 1) cap2])).set (v.fMasters.length - 1) (.st [.lst (m.fPeaks.map TPeak.D), .lst ((m.fDeltas.map TGlyphDelta.D).take m.fDeltas.length ++ [d.D])]) = (adD v.fMasters d).map mR := by
      rw [adD_at hmm, List.set_set, List.set_set, List.map_set]
      congr 1
      show _ = D.st [.lst (m.fPeaks.map TPeak.D), dlD (m.fDeltas ++ [d])]
      rw [dlD_some hne, List.map_append, List.take_of_length_le (by omega)]; rfl
    have hfb : Blk.arr 2 ((((v.fMasters.map mR).set (v.fMasters.length - 1) (.st [.lst (m.fPeaks.map TPeak.D), .hole g0 m.fDeltas.length cap])).set (v.fMasters.length - 1) (.st [.lst (m.fPeaks.map TPeak.D), .hole g2 (m.fDeltas.length + 1) cap2])).set (v.fMasters.length - 1) (.st [.lst (m.fPeaks.map TPeak.D), .lst ((m.fDeltas.map TGlyphDelta.D).take m.fDeltas.length ++ [d.D])])) true = Blk.arr 2 ((adD v.fMasters d).map mR) true := by rw [hfin]
    have hLa := adD_len v.fMasters d
    refine NextW.go (k + 1, ⟨v.fAxes, adD v.fMasters d⟩) (Weak.trans (Weak.cov (e' := [(0, .d (.str s)), (2, .pB 1 [] 0), (4, .own 2 0 L.length), (5, .pB 3 [] 0), (6, .d (.int .i64 ((k + 1 : Nat) : Int)))]) (h' := [.gone, .box (.st [.nils, .nils]), .arr 1 (L.map D.str) true, .box (.st [.own 4 0 v.fAxes.length, .own 5 0 v.fMasters.length]), .arr 5 (v.fAxes.map TAxis.D) true, .arr 2 (((v.fMasters.map mR).set (v.fMasters.length - 1) (.st [.lst (m.fPeaks.map TPeak.D), .hole g0 m.fDeltas.length cap])).set (v.fMasters.length - 1) (.st [.lst (m.fPeaks.map TPeak.D), .hole g2 (m.fDeltas.length + 1) cap2])) true, .gone, .gone, .gone, .arr 4 ((m.fDeltas.map TGlyphDelta.D).take m.fDeltas.length ++ [d.D]) true, .gone, .gone, .gone, .pin 9 g2 sz2 ty2]) ?_ ?_ ?_)
      (Weak.trans (Weak.inn (b := 5) (c := 9) (j := 13) (k := v.fMasters.length - 1) (p := [1]) (o := 1) (U := fun u => .st [.lst (m.fPeaks.map TPeak.D), u]) rfl rfl (by decide) rfl hXi rfl (fun _ => rfl) rfl rfl (by rw [List.length_append, List.length_take, hdd, Nat.min_self]; rfl) hcap2) (Weak.cov ?_ ?_ ?_))) ⟨by dsimp only; omega, hnext _ hst, szV_stp k3 hst⟩ (by dsimp only; omega)
    · (repeat' (first | exact trivial | with_reducible rfl | (refine ⟨?_, ?_⟩) | rfl))
    · (repeat' (first | exact trivial | with_reducible rfl | (refine ⟨?_, ?_⟩) | rfl))
    · rfl
    · (repeat' (first | exact trivial | with_reducible rfl | (refine ⟨?_, ?_⟩) | rfl))
    · dsimp only
      rw [hLa]
      (repeat' (first | exact trivial | with_reducible rfl | with_reducible exact hfb | (refine ⟨?_, ?_⟩) | exact hfb | rfl))
    · rfl
end Go.Proofs.YtaldaoagjbapkaaGreatDoor