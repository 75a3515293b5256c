/- merged: several parts in one text. Leans on no more than they do. -/
import Derived.Test.YtpdeibhedafcfaaGreatDoorRvP
import Derived.Test.YtpdeibhedafcfaaGreatDoorGsP
import Derived.Test.YtpdeibhedafcfaaGreatDoorVMTac
import Derived.Test.YtpdeibhedafcfaaGreatDoorLVBase
import Derived.Shelf.Strings.BuilderK
import Derived.Test.YtpdeibhedafcfaaGreatDoorShelf
import Derived.Test.YtpdeibhedafcfaaGreatDoorTT
import Derived.Test.YtpdeibhedafcfaaGreatDoorVgP
set_option linter.unusedSimpArgs false
set_option linter.unusedVariables false
namespace Go.Proofs.YtpdeibhedafcfaaGreatDoor
open Go.RowKit
theorem spL_snoc (c : UInt8) : ∀ l : List UInt8, spL c (l ++ [c]) = spL c l ++ [[]] := fun l => by
 induction hn : l.count c using Nat.strongRecOn generalizing l with
 | _ n ih =>
  by_cases hc : c ∈ l
  ·obtain ⟨a, b, e, ha⟩ : ∃ a b, l = a ++ c :: b ∧ c ∉ a := by
    rcases idx_cases c l with ⟨_, h⟩ | ⟨a, b, e, h, _⟩
    ·exact absurd hc h
    ·exact ⟨a, b, e, h⟩
   subst e
   rw [List.append_assoc, List.cons_append, spL_at _ ha, spL_at _ ha, ih (b.count c) (by rw [← hn, List.count_append, List.count_cons_self]; omega) b rfl]; rfl
  ·rw [spL_at [] hc, spL_none hc]; rfl
theorem lnR_at {s : ByteArray} {t : List UInt8} (e : s.data.toList = t ++ [10]) : lnR s = spB 10 (mkS t) := by
 rw [lnR, spB, e, spL_snoc, List.map_append, spB, mkS_toList]
 simp
theorem dlT_end (d : TGlyphDelta) : ∃ t, dlT d = t ++ [10] := ⟨_, rfl⟩
theorem fm_end {α : Type} {f : α → List UInt8} (h : ∀ x, ∃ t, f x = t ++ [10]) : ∀ (xs : List α) (a : List UInt8), ∃ t, a ++ [10] ++ xs.flatMap f = t ++ [10]
 | [], a => ⟨a, by simp⟩
 | x :: xs, a => by
  obtain ⟨t, ht⟩ := h x
  obtain ⟨u, hu⟩ := fm_end h xs (a ++ [10] ++ t)
  exact ⟨u, by rw [List.flatMap_cons, ht, ← hu]; simp⟩
theorem maT_end (m : TMaster) : ∃ t, maT m = t ++ [10] := fm_end dlT_end m.fDeltas (mrT ++ m.fPeaks.flatMap pkT)
theorem axT_end (a : TAxis) : ∃ t, axT a = t ++ [10] := ⟨_, rfl⟩
theorem fm_end0 {α : Type} {f : α → List UInt8} (h : ∀ x, ∃ t, f x = t ++ [10]) : ∀ (xs : List α), xs.flatMap f = [] ∨ ∃ t, xs.flatMap f = t ++ [10]
 | [] => .inl rfl
 | x :: xs => by
  obtain ⟨t, ht⟩ := h x
  obtain ⟨u, hu⟩ := fm_end h xs t
  exact .inr ⟨u, by rw [List.flatMap_cons, ht, ← hu]⟩
theorem vrT_end (v : TVariation) : vrT v = [] ∨ ∃ t, vrT v = t ++ [10] := by
 rcases fm_end0 maT_end v.fMasters with h | ⟨t, h⟩
 ·rw [vrT, h, List.append_nil]; exact fm_end0 axT_end v.fAxes
 ·exact .inr ⟨v.fAxes.flatMap axT ++ t, by rw [vrT, h, List.append_assoc]⟩
theorem rv_end {s : ByteArray} {t : List UInt8} {c : UInt8} (e : s.data.toList = t ++ [c]) (hc : c ≠ 10) : rvR s = none := by
 unfold rvR
 split
 ·rename_i v hv
  split
  ·split
   ·rename_i hw ht
    exfalso
    have h1 : vrT v = t ++ [c] := by rw [← e, ← ht, txR, mkS_toList]
    rcases vrT_end v with h2 | ⟨u, h2⟩
    ·rw [h2] at h1; simp at h1
    ·rw [h2] at h1
     have := (List.append_inj' h1 rfl).2
     simp at this
     exact hc this.symm
   ·rfl
  ·rfl
 ·rfl
theorem spL_words {c : UInt8} : ∀ (ws : List (List UInt8)) (a : List UInt8), c ∉ a → (∀ w ∈ ws, c ∉ w) → spL c (a ++ ws.flatMap (fun w => c :: w)) = a :: ws
 | [], a, ha, _ => by rw [List.flatMap_nil, List.append_nil, spL_none ha]
 | w :: ws, a, ha, h => by
  rw [List.flatMap_cons, List.cons_append, spL_at _ ha, spL_words ws w (h w (by simp)) (fun x hx => h x (by simp [hx]))]
theorem spB_words {c : UInt8} {ws : List (List UInt8)} {a : List UInt8} (ha : c ∉ a) (h : ∀ w ∈ ws, c ∉ w) : spB c (mkS (a ++ ws.flatMap (fun w => c :: w))) = mkS a :: ws.map mkS := by
 rw [spB, mkS_toList, spL_words ws a ha h, List.map_cons]
theorem dec_no' {n : Int} {c : UInt8} (hd : dgtB c = false) (h45 : c ≠ 45) : c ∉ decS n := fun hm => by
 rcases decS_in hm with h1 | h1
 ·rw [hd] at h1; cases h1
 ·exact h45 h1
def pkW (p : TPeak) : List UInt8 := decS p.fStart ++ [decS p.fTop, decS p.fEnd].flatMap (fun w => 58 :: w)
theorem pkT_w (p : TPeak) : pkT p = 32 :: pkW p := by simp [pkT, pkW]
theorem mem_app2 {c : UInt8} {a b : List UInt8} (h1 : c ∉ a) (h2 : c ∉ b) : c ∉ a ++ b := fun h => by
 rcases List.mem_append.1 h with h | h
 ·exact h1 h
 ·exact h2 h
theorem mem_cons2 {c x : UInt8} {b : List UInt8} (h1 : c ≠ x) (h2 : c ∉ b) : c ∉ x :: b := fun h => by
 rcases List.mem_cons.1 h with h | h
 ·exact h1 h
 ·exact h2 h
theorem pkW_no {p : TPeak} {c : UInt8} (hd : dgtB c = false) (h45 : c ≠ 45) (h58 : c ≠ 58) : c ∉ pkW p := by
 have e : pkW p = decS p.fStart ++ (58 :: decS p.fTop ++ (58 :: decS p.fEnd)) := by simp [pkW]
 rw [e]
 exact mem_app2 (dec_no' hd h45) (mem_app2 (mem_cons2 h58 (dec_no' hd h45)) (mem_cons2 h58 (dec_no' hd h45)))
theorem pkR_of {p : TPeak} (h : pkB p = true) : pkR (mkS (pkW p)) = some p := by
 obtain ⟨h1, h2, h3, h4⟩ := pk_facts h
 have e : spB 58 (mkS (pkW p)) = [p.fStart, p.fTop, p.fEnd].map decB := by
  rw [pkW, spB_words (dec_no' (by decide) (by decide)) (by
   intro w hw
   simp only [List.mem_cons, List.not_mem_nil, or_false] at hw
   rcases hw with rfl | rfl <;> exact dec_no' (by decide) (by decide))]
  rfl
 have e2 := rnL_of (ns := [p.fStart, p.fTop, p.fEnd]) (by simp; omega)
 rw [pkR, e, e2]
def knW (k : Int) (p : TPt) : List UInt8 := decS k ++ [decS p.fX ++ [decS p.fY].flatMap (fun w => 44 :: w)].flatMap (fun w => 58 :: w)
theorem knT_w (k : Int) (p : TPt) : knT k p = 32 :: knW k p := by simp [knT, knW]
theorem knW_no {k : Int} {p : TPt} {c : UInt8} (hd : dgtB c = false) (h45 : c ≠ 45) (h58 : c ≠ 58) (h44 : c ≠ 44) : c ∉ knW k p := by
 have e : knW k p = decS k ++ (58 :: (decS p.fX ++ 44 :: decS p.fY)) := by simp [knW]
 rw [e]
 exact mem_app2 (dec_no' hd h45) (mem_cons2 h58 (mem_app2 (dec_no' hd h45) (mem_cons2 h44 (dec_no' hd h45))))
theorem ptR_of {p : TPt} (h : pntB p = true) : ptR (mkS (decS p.fX ++ [decS p.fY].flatMap (fun w => 44 :: w))) = some p := by
 obtain ⟨h1, h2, h3, h4⟩ := pnt_in h
 have e : spB 44 (mkS (decS p.fX ++ [decS p.fY].flatMap (fun w => 44 :: w))) = [p.fX, p.fY].map decB := by
  rw [spB_words (dec_no' (by decide) (by decide)) (by
   intro w hw
   simp only [List.mem_cons, List.not_mem_nil, or_false] at hw
   subst hw
   exact dec_no' (by decide) (by decide))]
  rfl
 have e2 := rnL_of (ns := [p.fX, p.fY]) (by simp; omega)
 rw [ptR, e, e2]
 show (if pntB p = true then some p else none) = some p
 rw [if_pos h]
theorem knR_of {k : Int} {p : TPt} (h1 : 0 ≤ k ∧ k ≤ 719) (h : pntB p = true) : knR (mkS (knW k p)) = some (k, p) := by
 have e : spB 58 (mkS (knW k p)) = [mkS (decS k), mkS (decS p.fX ++ [decS p.fY].flatMap (fun w => 44 :: w))] := by
  rw [knW, spB_words (dec_no' (by decide) (by decide)) (by
   intro w hw
   simp only [List.mem_cons, List.not_mem_nil, or_false] at hw
   subst hw
   simp only [List.flatMap_cons, List.flatMap_nil, List.append_nil]
   exact mem_app2 (dec_no' (by decide) (by decide)) (mem_cons2 (by decide) (dec_no' (by decide) (by decide))))]
  rfl
 rw [knR, e]
 show (match rdN (mkS (decS k)).data.toList, ptR _ with
  | some k, some q => some (k, q)
  | _, _ => none) = _
 rw [mkS_toList, rdN_of (by omega), ptR_of h]
def knsW : List Int → List TPt → List (List UInt8)
 | k :: ks, p :: ps => knW k p :: knsW ks ps
 | _, _ => []
theorem knsT_w : ∀ (ks : List Int) (ps : List TPt), knsT ks ps = (knsW ks ps).flatMap (fun w => 32 :: w)
 | k :: ks, p :: ps => by rw [knsT, knsW, List.flatMap_cons, knT_w, knsT_w ks ps]
 | [], ps => by cases ps <;> rfl
 | k :: ks, [] => by rfl
theorem knsW_no : ∀ (ks : List Int) (ps : List TPt) {c : UInt8}, dgtB c = false → c ≠ 45 → c ≠ 58 → c ≠ 44 → ∀ w ∈ knsW ks ps, c ∉ w
 | k :: ks, p :: ps, c, h1, h2, h3, h4, w, hw => by
  rw [knsW] at hw
  rcases List.mem_cons.1 hw with rfl | hw
  ·exact knW_no h1 h2 h3 h4
  ·exact knsW_no ks ps h1 h2 h3 h4 w hw
 | [], ps, c, _, _, _, _, w, hw => by simp [knsW] at hw
 | k :: ks, [], c, _, _, _, _, w, hw => by simp [knsW] at hw
theorem knsR_of : ∀ {ks : List Int} {ps : List TPt}, ks.length = ps.length → (∀ x ∈ ks, 0 ≤ x ∧ x ≤ 719) → (∀ p ∈ ps, pntB p = true) → ∃ q, mapO knR ((knsW ks ps).map mkS) = some q ∧ q.map Prod.fst = ks ∧ q.map Prod.snd = ps
 | [], [], _, _, _ => ⟨[], rfl, rfl, rfl⟩
 | k :: ks, p :: ps, hl, hk, hp => by
  obtain ⟨q, h1, h2, h3⟩ := knsR_of (ks := ks) (ps := ps) (by simpa using hl) (fun x hx => hk x (by simp [hx])) (fun x hx => hp x (by simp [hx]))
  refine ⟨(k, p) :: q, ?_, by simp [h2], by simp [h3]⟩
  rw [knsW, List.map_cons, mapO, knR_of (hk k (by simp)) (hp p (by simp)), h1]
def axL (a : TAxis) : List UInt8 := kAx ++ ((wordsB a).map (fun w : ByteArray => w.data.toList)).flatMap (fun w => 32 :: w)
def maL (m : TMaster) : List UInt8 := mrT ++ (m.fPeaks.map pkW).flatMap (fun w => 32 :: w)
def dlL (d : TGlyphDelta) : List UInt8 := kDl ++ (decS d.fGlyph :: decS d.fAdvance :: knsW d.fKnots d.fMoves).flatMap (fun w => 32 :: w)
theorem jn_fm : ∀ (w : ByteArray) (ws : List ByteArray), 32 :: (jn (w :: ws)).data.toList = ((w :: ws).map (fun w : ByteArray => w.data.toList)).flatMap (fun w => 32 :: w)
 | w, [] => by
  rw [jn, mkS_toList]
  simp [Lib.join]
 | w, x :: ws => by
  have ih := jn_fm x ws
  rw [jn, mkS_toList] at ih ⊢
  rw [List.map_cons, join_cons _ _ (by simp), List.flatMap_cons, ← ih]
  simp
theorem axT_l (a : TAxis) : axT a = axL a ++ [10] := by
 have h : 32 :: (textB a).data.toList = ((wordsB a).map (fun w : ByteArray => w.data.toList)).flatMap (fun w => 32 :: w) := jn_fm a.fName _
 rw [axT, axL, ← h]
 simp [kAx]
theorem maT_l (m : TMaster) : maT m = maL m ++ [10] ++ m.fDeltas.flatMap dlT := by
 have h : m.fPeaks.flatMap pkT = (m.fPeaks.map pkW).flatMap (fun w => 32 :: w) := by
  rw [List.flatMap_map]
  congr 1
  funext p
  exact pkT_w p
 rw [maT, maL, h]
theorem dlT_l (d : TGlyphDelta) : dlT d = dlL d ++ [10] := by
 rw [dlT, dlL, knsT_w]
 simp [kDl]
def vrL (v : TVariation) : List (List UInt8) := v.fAxes.map axL ++ v.fMasters.flatMap (fun m => maL m :: m.fDeltas.map dlL)
theorem fm_lines {α : Type} {f g : α → List UInt8} (h : ∀ x, f x = g x ++ [10]) : ∀ xs : List α, xs.flatMap f = (xs.map g).flatMap (fun l => l ++ [10]) := fun xs => by
 rw [List.flatMap_map]
 congr 1
 funext x
 exact h x
theorem vrT_l (v : TVariation) : vrT v = (vrL v).flatMap (fun l => l ++ [10]) := by
 rw [vrT, vrL, List.flatMap_append, fm_lines axT_l]
 congr 1
 rw [List.flatMap_assoc]
 congr 1
 funext m
 rw [maT_l, List.flatMap_cons, fm_lines dlT_l]
theorem lines_sp : ∀ (ls : List (List UInt8)), (∀ l ∈ ls, (10 : UInt8) ∉ l) → spL 10 (ls.flatMap (fun l => l ++ [10])) = ls ++ [[]]
 | [], _ => rfl
 | l :: t, h => by
  rw [List.flatMap_cons, List.append_assoc]
  show spL 10 (l ++ 10 :: t.flatMap (fun l => l ++ [10])) = _
  rw [spL_at _ (h l (by simp)), lines_sp t (fun x hx => h x (by simp [hx]))]; rfl
theorem fm_no {c x : UInt8} {ws : List (List UInt8)} (h1 : c ≠ x) (h : ∀ w ∈ ws, c ∉ w) : c ∉ ws.flatMap (fun w => x :: w) := fun hm => by
 obtain ⟨w, hw, hc⟩ := List.mem_flatMap.1 hm
 exact mem_cons2 h1 (h w hw) hc
theorem nm_no10 {s : ByteArray} (h : nameB s = true) : (10 : UInt8) ∉ s.data.toList := fun hm => by
 simp only [nameB, Bool.and_eq_true] at h
 have h2 := h.2
 cases hl : s.data.toList with
 | nil => rw [hl] at hm; cases hm
 | cons x t =>
  rw [hl] at hm h2
  simp only [nmL, Bool.and_eq_true] at h2
  rcases List.mem_cons.1 hm with rfl | hm
  ·exact absurd h2.1 (by decide)
  ·have := List.all_eq_true.1 h2.2 _ hm
   exact absurd this (by decide)
theorem wd10 {a : TAxis} (h : axB a = true) : ∀ w ∈ wordsB a, (10 : UInt8) ∉ w.data.toList := by
 intro w hw
 have hn : nameB a.fName = true := by
  simp only [axB, Bool.and_eq_true] at h
  exact h.1.1.1.1
 have hd : ∀ n, (10 : UInt8) ∉ (decB n).data.toList := fun n => by rw [decB, mkS_toList]; exact dec_no' (by decide) (by decide)
 rw [wordsB] at hw
 rcases List.mem_append.1 hw with hw | hw
 ·simp only [List.mem_cons, List.not_mem_nil, or_false] at hw
  rcases hw with rfl | rfl | rfl | rfl
  ·exact nm_no10 hn
  all_goals exact hd _
 ·obtain ⟨p, _, rfl⟩ := List.mem_map.1 hw
  have e : (ptB p).data.toList = decS p.fFrom ++ 58 :: decS p.fTo := by
   rw [ptB, bs_app, bs_app, decB, decB, mkS_toList, mkS_toList]; simp
  rw [e]
  exact mem_app2 (dec_no' (by decide) (by decide)) (mem_cons2 (by decide) (dec_no' (by decide) (by decide)))
theorem vrL_no {v : TVariation} (h : wfB v = true) : ∀ l ∈ vrL v, (10 : UInt8) ∉ l := by
 obtain ⟨h1, h2, h3, h4⟩ := wf_in h
 intro l hl
 rcases List.mem_append.1 hl with hl | hl
 ·obtain ⟨a, ha, rfl⟩ := List.mem_map.1 hl
  obtain ⟨i, hi⟩ := List.mem_iff_getElem?.1 ha
  have hax := axs_at h1 hi
  exact mem_app2 (by decide) (fm_no (by decide) (fun w hw => by obtain ⟨x, hx, rfl⟩ := List.mem_map.1 hw; exact wd10 hax x hx))
 ·obtain ⟨m, hm, hl⟩ := List.mem_flatMap.1 hl
  rcases List.mem_cons.1 hl with rfl | hl
  ·exact mem_app2 (by decide) (fm_no (by decide) (fun w hw => by obtain ⟨x, hx, rfl⟩ := List.mem_map.1 hw; exact pkW_no (by decide) (by decide) (by decide)))
  ·obtain ⟨d, _, rfl⟩ := List.mem_map.1 hl
   refine mem_app2 (by decide) (fm_no (by decide) (fun w hw => ?_))
   rcases List.mem_cons.1 hw with rfl | hw
   ·exact dec_no' (by decide) (by decide)
   rcases List.mem_cons.1 hw with rfl | hw
   ·exact dec_no' (by decide) (by decide)
   ·exact knsW_no _ _ (by decide) (by decide) (by decide) (by decide) w hw
theorem lnR_of {v : TVariation} (h : wfB v = true) : lnR (txR v) = (vrL v).map mkS := by
 rw [lnR, spB, txR, mkS_toList, vrT_l, lines_sp _ (vrL_no h), List.map_append]
 simp
theorem stp_ax {v : TVariation} {a : TAxis} (h : axB a = true) : stp v (mkS (axL a)) = some ⟨v.fAxes ++ [a], v.fMasters⟩ := by
 have e : spB 32 (mkS (axL a)) = mkS kAx :: wordsB a := by
  rw [axL, spB_words (by decide) (by
   intro w hw
   obtain ⟨x, hx, rfl⟩ := List.mem_map.1 hw
   exact wd_no h x hx), List.map_map, show mkS ∘ (fun x : ByteArray => x.data.toList) = id from by funext x; exact mkS_of x, List.map_id]
 rw [stp, e]
 dsimp only
 rw [mkS_toList, if_pos rfl, aP_of h]
 dsimp only
 rw [if_pos h]
theorem stp_ma {v : TVariation} {m : TMaster} (h : ∀ p ∈ m.fPeaks, pkB p = true) : stp v (mkS (maL m)) = some ⟨v.fAxes, v.fMasters ++ [⟨m.fPeaks, []⟩]⟩ := by
 have e : spB 32 (mkS (maL m)) = mkS mrT :: m.fPeaks.map (fun p => mkS (pkW p)) := by
  rw [maL, spB_words (by decide) (by
   intro w hw
   obtain ⟨x, hx, rfl⟩ := List.mem_map.1 hw
   exact pkW_no (by decide) (by decide) (by decide)), List.map_map]; rfl
 rw [stp, e]
 dsimp only
 rw [mkS_toList, if_neg (by decide), if_pos rfl, mapO_map (fun p hp => pkR_of (h p hp))]
theorem stp_dl {v : TVariation} {d : TGlyphDelta} (h : gdB d = true) (hm : v.fMasters.length ≠ 0) : stp v (mkS (dlL d)) = some ⟨v.fAxes, adD v.fMasters d⟩ := by
 obtain ⟨h1, h2, h3, h4, h5, h6⟩ := gd_in h
 have e : spB 32 (mkS (dlL d)) = mkS kDl :: decB d.fGlyph :: decB d.fAdvance :: (knsW d.fKnots d.fMoves).map mkS := by
  rw [dlL, spB_words (by decide) (by
   intro w hw
   rcases List.mem_cons.1 hw with rfl | hw
   ·exact dec_no' (by decide) (by decide)
   rcases List.mem_cons.1 hw with rfl | hw
   ·exact dec_no' (by decide) (by decide)
   ·exact knsW_no _ _ (by decide) (by decide) (by decide) (by decide) w hw)]
  rfl
 obtain ⟨q, q1, q2, q3⟩ := knsR_of h5 h3 h4
 have e2 : rnL [decB d.fGlyph, decB d.fAdvance] = some [d.fGlyph, d.fAdvance] := rnL_of (ns := [d.fGlyph, d.fAdvance]) (by simp; omega)
 have e3 : dlR (decB d.fGlyph :: decB d.fAdvance :: (knsW d.fKnots d.fMoves).map mkS) = some d := by
  rw [dlR, e2]
  dsimp only
  rw [q1]
  dsimp only
  rw [q2, q3]
 rw [stp, e]
 dsimp only
 rw [mkS_toList, if_neg (by decide), if_neg (by decide), if_pos rfl, e3]
 dsimp only
 rw [if_neg hm]
theorem adD_snoc (ms : List TMaster) (m : TMaster) (d : TGlyphDelta) : adD (ms ++ [m]) d = ms ++ [⟨m.fPeaks, m.fDeltas ++ [d]⟩] := by
 have h : (ms ++ [m])[(ms ++ [m]).length - 1]? = some m := by simp
 rw [adD, h]
 dsimp only
 rw [List.length_append, List.length_singleton, Nat.add_sub_cancel, List.set_append_right _ _ (Nat.le_refl _), Nat.sub_self]; rfl
theorem fold_ax : ∀ (xs : List TAxis) (v : TVariation) (t : List ByteArray), (∀ a ∈ xs, axB a = true) → foldO v ((xs.map axL).map mkS ++ t) = foldO ⟨v.fAxes ++ xs, v.fMasters⟩ t
 | [], v, t, _ => by simp
 | a :: xs, v, t, h => by
  rw [List.map_cons, List.map_cons, List.cons_append, foldO, stp_ax (h a (by simp))]
  dsimp only
  rw [fold_ax xs _ t (fun x hx => h x (by simp [hx]))]
  simp
theorem fold_dl : ∀ (ds : List TGlyphDelta) (ax : List TAxis) (ms : List TMaster) (m : TMaster) (t : List ByteArray), (∀ d ∈ ds, gdB d = true) →
  foldO ⟨ax, ms ++ [m]⟩ ((ds.map dlL).map mkS ++ t) = foldO ⟨ax, ms ++ [⟨m.fPeaks, m.fDeltas ++ ds⟩]⟩ t
 | [], ax, ms, m, t, _ => by simp
 | d :: ds, ax, ms, m, t, h => by
  rw [List.map_cons, List.map_cons, List.cons_append, foldO, stp_dl (h d (by simp)) (by simp)]
  dsimp only
  rw [adD_snoc, fold_dl ds ax ms _ t (fun x hx => h x (by simp [hx]))]
  simp
theorem fold_ma : ∀ (ys : List TMaster) (ax : List TAxis) (ms : List TMaster), (∀ m ∈ ys, (∀ p ∈ m.fPeaks, pkB p = true) ∧ ∀ d ∈ m.fDeltas, gdB d = true) →
  foldO ⟨ax, ms⟩ ((ys.flatMap (fun m => maL m :: m.fDeltas.map dlL)).map mkS) = some ⟨ax, ms ++ ys⟩
 | [], ax, ms, _ => by simp [foldO]
 | m :: ys, ax, ms, h => by
  obtain ⟨h1, h2⟩ := h m (by simp)
  rw [List.flatMap_cons, List.cons_append, List.map_cons, List.map_append, foldO, stp_ma h1]
  dsimp only
  rw [fold_dl _ _ _ _ _ h2]
  dsimp only
  rw [List.nil_append, fold_ma ys ax _ (fun x hx => h x (by simp [hx]))]
  simp
theorem rv_text {v : TVariation} (h : wfB v = true) : rvR (txR v) = some v := by
 obtain ⟨h1, h2, h3, h4⟩ := wf_in h
 have hf : foldO v0R (lnR (txR v)) = some v := by
  rw [lnR_of h, vrL, List.map_append, fold_ax _ _ _ (fun a ha => by
   obtain ⟨i, hi⟩ := List.mem_iff_getElem?.1 ha
   exact axs_at h1 hi)]
  show foldO ⟨[] ++ v.fAxes, []⟩ _ = _
  rw [fold_ma _ _ _ (fun m hm => ⟨(h4 m hm).p, (h4 m hm).g⟩)]
  rfl
 rw [rv_some hf, if_pos h, if_pos rfl]
def nilC : D := .raw (.slice none 0 0)
def dlD : List TGlyphDelta → D
 | [] => nilC
 | x :: t => .lst ((x :: t).map TGlyphDelta.D)
def mR (m : TMaster) : D := .st [.lst (m.fPeaks.map TPeak.D), dlD m.fDeltas]
theorem dlD_some {ds : List TGlyphDelta} (h : ds ≠ []) : dlD ds = .lst (ds.map TGlyphDelta.D) := by
 cases ds with
 | nil => exact absurd rfl h
 | cons x t => rfl
theorem ownD_dlD {w : World} (ds : List TGlyphDelta) (F : List Nat) (cs : List Value) (h : ownD w (dlD ds) F cs) : ownD w (.lst (ds.map TGlyphDelta.D)) F cs := by
 cases ds with
 | cons x t => exact h
 | nil =>
  obtain ⟨rfl, rfl, _⟩ := h
  exact ⟨none, 0, rfl, Nat.le_refl _, Nat.zero_le _, fun _ => rfl, .inl ⟨rfl, rfl, rfl⟩⟩
theorem Weak.rowM {e : Env} {h : List Blk} (b : Nat) {ms : List TMaster} (hb : h[b]? = some (.arr 2 (ms.map mR) true)) (hb0 : Nat.ble 1 b = true) : Weak e h e (h.set b (.arr 2 (ms.map TMaster.D) true)) := by
 refine Weak.row b hb hb0 (by simp) (fun w arr F H => ?_)
 have key : ∀ (ms : List TMaster) (i : Nat) (F : List Nat), ownDe w arr 2 (ms.map mR) i F → ownDe w arr 2 (ms.map TMaster.D) i F := by
  intro ms
  induction ms with
  | nil => intro i F h; exact h
  | cons m t ih =>
   intro i F ⟨F1, F2, ces, e, q1, q2, q3, q4⟩
   refine ⟨F1, F2, ces, e, rfl, q2, ?_, ih (i + 1) F2 q4⟩
   obtain ⟨G1, G2, c1, c2, rfl, rfl, r1, G3, G4, c3, c4, rfl, rfl, r2, r3⟩ := q3
   exact ⟨G1, _, c1, _, rfl, rfl, r1, G3, G4, c3, c4, rfl, rfl, ownD_dlD _ _ _ r2, r3⟩
 exact key ms 0 F H
theorem WeakX.outM {e : Env} {h : List Blk} {S : Env → List Blk → Prop} {b k : Nat} {ms : List TMaster} {m : TMaster} (hb : h[b]? = some (.arr 2 (ms.map mR) true)) (hb0 : Nat.ble 1 b = true) (hm : ms[k]? = some m)
  (H : ∀ g cap sz t, (cap = 0 ∨ cap * 4 < sz) → WeakX e (h.set b (.arr 2 ((ms.map mR).set k (.st [.lst (m.fPeaks.map TPeak.D), .hole g m.fDeltas.length cap])) true) ++ [.arr 4 (m.fDeltas.map TGlyphDelta.D) true, .pin h.length g sz t]) S) : WeakX e h S := by
 have hx : (ms.map mR)[k]? = some (mR m) := by rw [List.getElem?_map, hm]; rfl
 by_cases hd : m.fDeltas = []
 ·have hR : mR m = .st [.lst (m.fPeaks.map TPeak.D), nilC] := by rw [mR, hd]; rfl
  rw [hR] at hx
  have h1 : Weak e h e (h.set b (.arr 2 ((ms.map mR).set k (.st [.lst (m.fPeaks.map TPeak.D), .hole 0 0 0])) true)) := Weak.row b hb hb0 (by simp) (fun w arr F Ho => by
   obtain ⟨F1, F2, F3, cs, rfl, r1, r2⟩ := ownDe_sub (p := [1]) (u := nilC) (o := 1) (U := fun u => .st [.lst (m.fPeaks.map TPeak.D), u]) Ho hx rfl (fun _ => rfl)
   obtain ⟨rfl, rfl, _⟩ := r1
   have := r2 (.hole 0 0 0) [] ⟨rfl, none, rfl, Nat.le_refl _, Nat.zero_le _, fun _ => rfl, .inl rfl⟩
   exact this)
  have H0 := H 0 0 0 0 (.inl rfl)
  rw [hd] at H0
  refine WeakX.pre (Weak.trans h1 (Weak.trans (Weak.pushE 4 true) (Weak.pushP h.length 0 0))) ?_
  rw [List.append_assoc]
  exact H0
 ·have hR : mR m = .st [.lst (m.fPeaks.map TPeak.D), .lst (m.fDeltas.map TGlyphDelta.D)] := by rw [mR, dlD_some hd]
  rw [hR] at hx
  refine WeakX.out (p := [1]) (o := 1) (n1 := 4) (U := fun u => .st [.lst (m.fPeaks.map TPeak.D), u]) hb0 hb hx rfl (fun _ => rfl) (fun y hy => by obtain ⟨z, _, rfl⟩ := List.mem_map.1 hy; rfl) (fun g cap sz t n0 hn hc => ?_)
  have hn4 : n0 = 4 := hn (by simpa using hd)
  subst hn4
  have := H g cap sz t hc
  rw [List.length_map]
  exact this
structure PX (P : Program) (f : FuncId) (As : List V) (Q : V → List Blk → Prop) : Prop where
 fn : ∃ fn, P.funcs[f]? = some fn ∧ (fn.name == "runtime.NumGoroutine") = false ∧ fn.body.isNone = false
 run : ∀ (w : World) (X : List Nat) (args : List Value), X.Nodup → (∀ b ∈ X, b < w.heap.size) → repT w [mX X] [.gone] As args →
  Calls P f args.toArray w fun e w' => ∃ v bs cv M', Q v bs ∧ e = .returned cv ∧ Ext w w' ∧ MInv w.heap.size w' (mX X :: M') (.gone :: bs) ∧ rep w' (mX X :: M') (.gone :: bs) v cv
theorem PX.callE {P : Program} {f : FuncId} {As : List V} {Q : V → List Blk → Prop} (px : PX P f As Q) {vs : List V} {e : Env} {h : List Blk} {K : V → Env → List Blk → Prop} (hb : borVs h vs As) (h0 : Nat.ble 1 h.length = true)
  (hf : ∀ v bs, Q v bs → (v.fit (!V.exts vs) && fitBs (!V.exts vs) bs) = true) (hK : ∀ v bs, Q v bs → K (v.shift (h.length - 1)) e (h ++ shiftBs (h.length - 1) bs)) : CallE P f vs e h K := by
 refine ⟨px.fn, fun B X0 N M a w args R hargs => ?_⟩
 have h0 : 1 ≤ h.length := Nat.le_of_ble_eq_true h0
 have ⟨X, hX, hnd, hhi, S⟩ : ∃ X : List Nat, (X = [] ∨ V.exts vs = true ∧ X = M.O) ∧ X.Nodup ∧ (∀ b ∈ X, b < w.heap.size) ∧ Sh (!V.exts vs) X M h := by
  cases he : V.exts vs with
  | true => exact ⟨M.O, .inr ⟨rfl, rfl⟩, R.inv.nd, R.inv.hi, R.inv.len, h0, .inr rfl⟩
  | false => exact ⟨[], .inl rfl, by simp, by simp, R.inv.len, h0, .inl rfl⟩
 refine (px.run w X args hnd hhi (borT_sound R.inv vs args As hargs hX hb)).mono ?_
 rintro en w' ⟨v, bs, cv, M', hq, rfl, hx, hI, hr⟩
 have hf := hf v bs hq
 simp only [Bool.and_eq_true] at hf
 obtain ⟨hf1, hf2⟩ := hf
 have hlen : M'.length = bs.length := by have := hI.len; simpa using this
 have hlo : ∀ g ∈ (MM.O M'), w.heap.size ≤ g := fun g hg => by
  obtain ⟨b, m, hm, hgm⟩ := mem_O_get hg
  obtain ⟨k, hk⟩ := at_lt (xs := bs) (k := b) (by rw [← hlen]; exact (List.getElem?_eq_some_iff.1 hm).1)
  exact hI.lo (b + 1) k m (by simpa using hk) (by simpa using hm) (fit_live (fitBs_get bs b k hf2 hk)) g hgm
 have hnd' : (MM.O M').Nodup := by
  have := hI.nd
  rw [O_cons] at this
  exact (List.nodup_append.1 this).2.1
 have hhi' : ∀ g ∈ (MM.O M'), g < w'.heap.size := fun g hg => hI.hi g (by rw [O_cons]; exact List.mem_append_right _ hg)
 have mv : Mv (fun _ => True) w M h w' (M ++ M') (h ++ shiftBs (h.length - 1) bs) := push_mv R.inv.len hx R.inv.hi hlo
 refine ⟨_, cv, _, M ++ M', rfl, hK v bs hq, hx, R.step (R.ext.trans hx) (R.inv.push R.base hx (by rw [shiftBs_len]; exact hlen) hnd' hlo hhi' ?_) mv (fr_push R.fr _) (fr_push R.fh _), rep_sh S hf1 hr⟩
 intro b k m hk hm
 rw [shiftBs_get] at hk
 obtain ⟨k0, hk0, rfl⟩ := Option.map_eq_some_iff.1 hk
 exact BRep_sh S (fitBs_get bs b k0 hf2 hk0) (hI.blk (b + 1) k0 m (by simpa using hk0) (by simpa using hm))
def xQ (tt : TT) (rs : List ResultVar) (Q : V → List Blk → Prop) : Post
 | .normal => fun e h => retV tt rs e h fun va => ∃ v bs, Q v bs ∧ RetOK h va v bs
 | .ret => fun e h => retV tt rs e h fun va => ∃ v bs, Q v bs ∧ RetOK h va v bs
 | .exit _ => fun _ _ => False
theorem px_intro {P : Program} {tt : TT} (hT : TOk P tt) (hm : P.follows .mixedOrders = true) {f : FuncId} {fn : Func} {c : Code} (hf : P.funcs[f]? = some fn) (hb : fn.body = some c) (hname : (fn.name == "runtime.NumGoroutine") = false)
  (hN : codeB fn.ntmps c = true) {As : List V} (hA : Nat.ble As.length fn.ntmps = true) {Q : V → List Blk → Prop}
  (H : wfVs As → wpC P tt c (xQ tt fn.results.toList Q) (argE 0 As) [.gone]) : PX P f As Q := by
 refine ⟨⟨fn, hf, hname, by rw [hb]; rfl⟩, fun w X args hX1 hX2 hargs => ?_⟩
 have hlen : ∀ (vs : List V) (cs : List Value), repT w [mX X] [.gone] vs cs → cs.length = vs.length := by
  intro vs
  induction vs with
  | nil => intro cs H; cases H; rfl
  | cons v vs ih => intro cs H; obtain ⟨c, cs', rfl, _, h2⟩ := H; simp [ih _ h2]
 have hl := hlen As args hargs
 have hA' := Nat.le_of_ble_eq_true hA
 have hO : MM.O [mX X] = X := by rw [O_one, mO_mX]
 have R : Rep w X fn.ntmps [mX X] (argE 0 As) [.gone] { tmps := args.toArray ++ Array.replicate (fn.ntmps - args.toArray.size) Go.undef, defers := [] } w := {
  ext := Ext.refl w
  inv := ⟨rfl, fun b k m hk hm => by
    cases b with
    | zero => simp at hk; subst hk; trivial
    | succ b => simp at hk, by rw [hO]; exact hX1, fun b k m hk hm hl => by
    cases b with
    | zero => simp at hk; subst hk; cases hl
    | succ b => simp at hk, by rw [hO]; exact hX2⟩
  env := fun k => by
   rw [argE_get, if_pos (Nat.zero_le _), Nat.sub_zero]
   split
   ·rename_i v hv
    obtain ⟨cc, k1, k2⟩ := repT_get As args k v hargs hv
    have hk : k < args.length := (List.getElem?_eq_some_iff.1 k1).1
    have : (args.toArray ++ Array.replicate (fn.ntmps - args.toArray.size) Go.undef).getD k Go.undef = cc := by
     rw [Array.getD_eq_getD_getElem?, Array.getElem?_append_left (by simpa using hk)]
     simp [k1]
    dsimp only
    rw [this]
    exact rep_of_rep1 k2
   ·trivial
  sz := by simp; omega
  df := rfl
  fr := rfl
  fh := rfl }
 refine calls_of_wp hf hb (wp_mono (code_sound hT hm c _ _ _ _ _ _ hN (H (repT_wf _ _ hargs)) R) fun x a' w' hx => ?_)
 have fin : ∀ (e : Env) (h : List Blk) (M : MM), retV tt fn.results.toList e h (fun va => ∃ v bs, Q v bs ∧ RetOK h va v bs) → Rep w X fn.ntmps M e h a' w' →
   a'.defers = [] ∧ ∃ cv, (results fn a'.tmps).run P w' = .ok cv w' ∧ ∃ v bs cv' M', Q v bs ∧ Ending.returned cv = .returned cv' ∧ Ext w w' ∧ MInv w.heap.size w' (mX X :: M') (.gone :: bs) ∧ rep w' (mX X :: M') (.gone :: bs) v cv' := by
  intro e h M hr R'
  obtain ⟨vs, cvs, h1, h2, h3, h4⟩ := res_sound hT R' _ _ hr
  refine ⟨R'.df, _, run_results h4, ?_⟩
  match vs, cvs, h2 with
  | [va], [cv], _ =>
   obtain ⟨c', k1, k2⟩ := h3 0 va rfl
   cases k1
   obtain ⟨v, bs, hq, h1⟩ := h1
   obtain ⟨M', q1, q2⟩ := ret_sound R' k2 h1
   exact ⟨v, bs, cv, M', hq, rfl, R'.ext, q1, q2⟩
  | [], [], _ =>
   obtain ⟨v, bs, hq, h1⟩ := h1
   obtain ⟨M', q1, q2⟩ := ret_sound R' (va := .tup []) (cv := .tuple #[]) ⟨[], rfl, rfl⟩ h1
   exact ⟨v, bs, _, M', hq, rfl, R'.ext, q1, q2⟩
  | va :: vb :: vs, ca :: cb :: cvs, h2 =>
   dsimp only at h1
   cases hok : okTs (va :: vb :: vs) with
   | false => rw [hok] at h1; exact h1.elim
   | true =>
    rw [hok] at h1
    simp only [cond_true] at h1
    have hall : ∀ (vs : List V) (cs : List Value), vs.length = cs.length → okTs vs = true → (∀ (i : Nat) (v : V), vs[i]? = some v → ∃ c, cs[i]? = some c ∧ rep w' M h v c) → repT w' M h vs cs := by
     intro vs
     induction vs with
     | nil => intro cs hl _ _; cases cs with
      | nil => rfl
      | cons _ _ => simp at hl
     | cons v vs ih =>
      intro cs hl ho hg
      cases cs with
      | nil => simp at hl
      | cons c cs =>
       simp only [okTs, Bool.and_eq_true] at ho
       obtain ⟨c', k1, k2⟩ := hg 0 v rfl
       cases k1
       exact ⟨c, cs, rfl, rep1_of_rep ho.1 k2, ih cs (by simpa using hl) ho.2 fun i u hi => by simpa using hg (i + 1) u (by simpa using hi)⟩
    obtain ⟨v, bs, hq, h1⟩ := h1
    obtain ⟨M', q1, q2⟩ := ret_sound R' (va := .tup (va :: vb :: vs)) (cv := .tuple (ca :: cb :: cvs).toArray) ⟨_, rfl, hall _ _ h2 hok h3⟩ h1
    exact ⟨v, bs, _, M', hq, rfl, R'.ext, q1, q2⟩
 cases x with
 | normal => obtain ⟨e, h, M, k1, k2⟩ := hx; exact fin e h M k1 k2
 | ret => obtain ⟨e, h, M, k1, k2⟩ := hx; exact fin e h M k1 k2
 | exit id => obtain ⟨e, h, M, k1, k2⟩ := hx; exact k1.elim
 | goto l => exact hx.elim
 | panic => exact hx.elim
 | outgrown => exact hx.elim
section
variable {P : Program} {dr : Bool} {f : FuncId} {As vs : List V} {Q : V → List Blk → Prop} {e : Env} {h : List Blk} {K : V → Env → List Blk → Prop}
theorem clx_ (px : PX P f As Q) {G : V → List Blk → Prop} (H : ∀ v bs, Q v bs → (v.fit (!V.exts vs) && fitBs (!V.exts vs) bs) = true ∧ G v bs) (hb : borVs h vs As := by ((repeat' (first | exact trivial | with_reducible rfl | ((conv => whnf); first | done | exact trivial | with_reducible rfl | (exact Or.inr ⟨rfl, rfl, rfl, rfl⟩) | (refine Or.inl ⟨_, rfl, ?_⟩) | (refine ⟨rfl, _, rfl, ?_⟩) | (refine ⟨_, _, rfl, ?_, ?_⟩) | (refine ⟨_, rfl, ?_⟩) | ((refine ⟨?_, ?_⟩); (focus (first | (simp; done) | omega)); (focus ((first | rw [List.drop_zero, List.take_of_length_le (Nat.le_of_eq (List.length_map _))] | rw [List.drop_zero, List.take_of_length_le (by omega)] | rfl); done))) | rfl))); (first | done | fail))) (h0 : Nat.ble 1 h.length = true := by rfl)
  (hk : ∀ v bs, G v bs → K (v.shift (h.length - 1)) e (h ++ shiftBs (h.length - 1) bs) := by (intro v bs H; exact H)) : CallW P dr f vs e h K :=
 ⟨.inl (.inr (px.callE hb h0 (fun v bs q => (H v bs q).1) (fun v bs q => hk v bs (H v bs q).2)))⟩
end
theorem RegD.treeT {P : Program} {tt : TT} {l : List Oper} {K : Env → List Blk → Prop} {e : Env} {h : List Blk} (t : OT) (h1 : treeOK l t = true) (H : treeV P tt l t K e h) : RegD P tt l K e h := ⟨.inr (.inl ⟨t, h1, H⟩)⟩
set_option maxHeartbeats 4000000 in
theorem readNumbers_v (xs : List ByteArray) (hn : xs.length ≤ 1048577) (v : V) (bs : List Blk) (h0 : ∀ ns, rnL xs = some ns → v = .tup [.own 1 0 ns.length, .d (.bool true)] ∧ bs = [.arr 1 (ns.map (D.int .i64)) true])
  (h1 : rnL xs = none → v = .tup [.nils, .d (.bool false)] ∧ bs = []) : PC Tryz.prog 58 [.d (.lst (xs.map D.str))] v bs := by
 refine pc_intro ttOk (by kernel_rfl) Tryz.func58 rfl (by kernel_rfl) (by kernel_rfl) (by kernel_rfl) (fun hw => ?_)
 have hL : (xs.map D.str).length = xs.length := List.length_map _
 (conv => whnf)
 (repeat (refine stg_ ?_))
 refine LoopW.go (α := Nat × List Int) (fun p => [(4, .own 1 0 p.2.length), (9, .d (.lst (xs.map D.str))), (10, .d (.int .i64 xs.length)), (11, .d (.int .i64 p.1))]) (fun p => [.gone, .arr 1 (p.2.map (D.int .i64)) true]) (fun p => p.1 ≤ xs.length ∧ rnL (xs.take p.1) = some p.2) (fun p => xs.length - p.1) (0, []) (Weak.trans (Weak.adopt (k := 4) rfl 1 true) (Weak.cov ⟨rfl, rfl, by rw [← hL]; rfl, rfl, trivial⟩ ⟨trivial, rfl, trivial⟩ rfl)) ⟨by simp, rfl⟩ ?_
 rintro ⟨k, ns⟩ ⟨k1, k2⟩
 dsimp only at k1 k2 ⊢
 have hnl := rnL_len k2
 rw [List.length_take] at hnl
 have hd : (ns.map (D.int .i64)).length = ns.length := List.length_map _
 (conv => whnf)
 (repeat (refine stg_ ?_))
 (refine br_ (fun h2 => ?_) (fun h2 => ?_))
 ·obtain ⟨x, hx⟩ := at_lt' (xs := xs) (k := k) (by omega)
  have hex : (xs.map D.str)[k]? = some (.str x) := by rw [List.getElem?_map, hx]; rfl
  have c1 := ReadDecimal_v x
  rcases hr : rdN x.data.toList with _ | n
  ·obtain ⟨rfl, rfl⟩ := h1 (rnL_bad hx hr)
   rw [hr] at c1
   have c1 : PC Tryz.prog 103 [.d (.str x)] (.tup [.d (.int .i64 0), .d (.bool false)]) [] := c1
   (repeat' (first | (refine stg_ ?_) | (refine cla_ (c1) ?_) | (refine br_ (fun hbr => ?_) (fun hbr => ?_))))
   (refine ⟨⟨[], trivial, by decide, ⟨_, rfl, rfl, ⟨_, _, rfl, rfl, ⟨_, _, rfl, ⟨rfl, ?_⟩, rfl⟩⟩⟩⟩⟩; (conv => whnf))
   all_goals rfl
  ·rw [hr] at c1
   have c1 : PC Tryz.prog 103 [.d (.str x)] (.tup [.d (.int .i64 n), .d (.bool true)]) [] := c1
   (repeat' (first | (refine stg_ ?_) | (refine cla_ (c1) ?_) | (refine br_ (fun hbr => ?_) (fun hbr => ?_))))
   refine NextW.go (k + 1, ns ++ [n]) (Weak.cov ⟨?_, rfl, rfl, rfl, trivial⟩ ⟨trivial, ?_, trivial⟩ rfl) ⟨by dsimp only; omega, by dsimp only; rw [take_snoc_get hx]; exact rnL_snoc k2 hr⟩ (by dsimp only; omega)
   ·show _ = V.own 1 0 (ns ++ [n]).length
    rw [List.length_append]; rfl
   ·show _ = Blk.arr 1 ((ns ++ [n]).map (D.int .i64)) true
    rw [List.map_append, ← hd, List.take_length]; rfl
 ·obtain rfl : k = xs.length := by omega
  rw [List.take_length] at k2
  obtain ⟨rfl, rfl⟩ := h0 ns k2
  (refine ⟨⟨[some 1], ⟨by decide, ?_, trivial, trivial⟩, by decide, ⟨_, rfl, rfl, ⟨_, _, rfl, ⟨by decide, ?_⟩, ⟨_, _, rfl, ⟨rfl, ?_⟩, rfl⟩⟩⟩⟩⟩)
  all_goals rfl
structure RaR (s : ByteArray) (v : V) (bs : List Blk) : Prop where
 own : ∀ a, raA s = some a → v = .tup [.st [.d (.str a.fName), .d (.int .i64 a.fMin), .d (.int .i64 a.fDefault), .d (.int .i64 a.fMax), .own 1 0 a.fMap.length], .d (.bool true)] ∧ bs = [.arr 2 (a.fMap.map TAxisPoint.D) true]
 no : raA s = none → v = .tup [.st [.d (.str .empty), .d (.int .i64 0), .d (.int .i64 0), .d (.int .i64 0), .nils], .d (.bool false)] ∧ bs = []
def trRA : OT := .q 0 (.q 1 (.q 2 (.q 3 (.q 4 (.q 5 (.q 6 (.q 7 (.q 8 (.q 9 (.q 10 (.q 11 (.alt 12 (.alt 13 (.alt 14 .done .nil) .nil) (.alt 13 (.alt 12 (.alt 14 .done .nil) .nil) .nil)))))))))))))
set_option maxHeartbeats 8000000 in
theorem ReadAxis_v (s : ByteArray) (hs : s.size ≤ 1048576) (v : V) (bs : List Blk) (hR : RaR s v bs) : PC Tryz.prog 57 [.d (.str s)] v bs := by
 refine pc_intro ttOk (by kernel_rfl) Tryz.func57 rfl (by kernel_rfl) (by kernel_rfl) (by kernel_rfl) (fun hw => ?_)
 have c1 := Split_v s ⟨#[32]⟩ 32 rfl hs rfl (by rw [← bTl, ← bTl]; rfl)
 have hl : s.data.toList.length = s.size := Array.length_toList
 have hcl := List.count_le_length (a := (32 : UInt8)) (l := s.data.toList)
 have hn := spB_len 32 s
 obtain ⟨ws, hws⟩ : ∃ ws, ws = spB 32 s := ⟨_, rfl⟩
 rw [← hws] at c1 hn
 have hraA : raA s = match aP ws with
  | some a => if axB a = true then some a else none
  | none => none := by rw [hws]; rfl
 by_cases h4 : ws.length < 4
 ·have hno : aP ws = none := by
   unfold aP
   split
   ·rename_i e; simp at h4; omega
   ·rfl
  obtain ⟨rfl, rfl⟩ := hR.no (by rw [hraA, hno])
  (conv => whnf)
  (repeat' (first | (refine stg_ ?_) | (refine cla_ (c1) ?_) | (refine br_ (fun hbr => ?_) (fun hbr => ?_))))
  all_goals try (exfalso; omega)
  all_goals (refine RetOK.t rfl ?_; exact rn_)
 obtain ⟨n, a, b, c, r, hwe⟩ : ∃ n a b c r, ws = n :: a :: b :: c :: r := by
  match ws, h4 with
  | n :: a :: b :: c :: r, _ => exact ⟨n, a, b, c, r, rfl⟩
  | [], h => exact absurd (by simp) h
  | [_], h => exact absurd (by simp) h
  | [_, _], h => exact absurd (by simp) h
  | [_, _, _], h => exact absurd (by simp) h
 have hwl : ws.length = r.length + 4 := by rw [hwe]; rfl
 have haP : aP ws = match rnL [a, b, c] with
  | some [x, y, z] => match ptsL r with
   | some m => some ⟨n, x, y, z, m⟩
   | none => none
  | _ => none := by rw [hwe]; rfl
 rcases hr3 : rnL [a, b, c] with _ | q3
 ·have c2 := readNumbers_v [a, b, c] (by simp) _ _ (fun ns h => by rw [hr3] at h; cases h) (fun _ => ⟨rfl, rfl⟩)
  rw [hr3] at haP
  obtain ⟨rfl, rfl⟩ := hR.no (by rw [hraA, haP])
  rw [hwl, hwe] at c1
  (conv => whnf)
  (repeat' (first | (refine stg_ ?_) | (refine cla_ (c1) ?_) | (refine cla_ (c2) ?_) | (refine br_ (fun hbr => ?_) (fun hbr => ?_))))
  all_goals try (exfalso; omega)
  all_goals (refine ⟨⟨[], trivial, by decide, ⟨_, rfl, rfl, ?_⟩⟩⟩; exact rn_)
 obtain ⟨x, y, z, rfl⟩ : ∃ x y z, q3 = [x, y, z] := by
  have := rnL_len hr3
  match q3, this with
  | [x, y, z], _ => exact ⟨x, y, z, rfl⟩
 have c2 := readNumbers_v [a, b, c] (by simp) (.tup [.own 1 0 3, .d (.bool true)]) [.arr 1 ([x, y, z].map (D.int .i64)) true] (fun ns h => by rw [hr3] at h; cases h; exact ⟨rfl, rfl⟩) (fun h => by rw [hr3] at h; cases h)
 rw [hr3] at haP
 rw [hwl, hwe] at c1
 have e0 : ((n :: a :: b :: c :: r).map D.str)[0]? = some (.str n) := rfl
 have e1 : ([x, y, z].map (D.int .i64))[0]? = some (.int .i64 x) := rfl
 have e2 : ([x, y, z].map (D.int .i64))[1]? = some (.int .i64 y) := rfl
 have e3 : ([x, y, z].map (D.int .i64))[2]? = some (.int .i64 z) := rfl
 (conv => whnf)
 repeat' (first | ((fail_if_success (with_reducible apply RegD.id)); (refine stg_ ?_)) | (refine cla_ (c1) ?_) | (refine cla_ (c2) ?_) | (refine br_ (fun hbr => ?_) (fun hbr => ?_)))
 all_goals try (exfalso; omega)
 all_goals try (exfalso; simp_all; done)
 refine RegD.cutT [(0, .d (.str s)), (2, .pB 1 [] 0), (4, .own 2 0 (r.length + 4)), (7, .pB 4 [] 0)] [.gone, .box (.st [.d (.str .empty), .d (.int .i64 0), .d (.int .i64 0), .d (.int .i64 0), .nils]), .arr 1 ((n :: a :: b :: c :: r).map D.str) true, .gone, .box (.st [.d (.str n), .d (.int .i64 x), .d (.int .i64 y), .d (.int .i64 z), .nils])] trRA (by kernel_rfl) ?_ ?_
 ·(conv => whnf)
  repeat' (first | (refine stg_ ?_) | (refine And.intro ?_ ?_ <;> (conv => whnf)))
  all_goals (refine Weak.cov ?_ ?_ ?_; (focus exact cv_); (focus exact cv_); (focus rfl))
 have hLr : (r.map D.str).length = r.length := List.length_map _
 (conv => whnf)
 (repeat (refine stg_ ?_))
 refine LoopW.go (α := Nat × List TAxisPoint) (fun p => [(0, .d (.str s)), (2, .pB 1 [] 0), (7, .pB 4 [] 0), (41, .own 2 4 r.length), (42, .d (.int .i64 r.length)), (43, .d (.int .i64 p.1))]) (fun p => [.gone, .box (.st [.d (.str .empty), .d (.int .i64 0), .d (.int .i64 0), .d (.int .i64 0), .nils]), .arr 1 ((n :: a :: b :: c :: r).map D.str) true, .gone, .box (.st [.d (.str n), .d (.int .i64 x), .d (.int .i64 y), .d (.int .i64 z), .own 5 0 p.2.length]), .arr 2 (p.2.map TAxisPoint.D) true])
  (fun p => p.1 ≤ r.length ∧ ptsL (r.take p.1) = some p.2) (fun p => r.length - p.1) (0, []) (Weak.trans (Weak.adoptL 4 [.d (.str n), .d (.int .i64 x), .d (.int .i64 y), .d (.int .i64 z)] rfl rfl 2 true) (Weak.cov ⟨rfl, rfl, rfl, ?_, ?_, rfl, trivial⟩ ⟨trivial, rfl, rfl, trivial, rfl, rfl, trivial⟩ rfl)) ⟨by simp, rfl⟩ ?_
 ·rfl
 ·rfl
 rintro ⟨k, ps⟩ ⟨k1, k2⟩
 dsimp only at k1 k2 ⊢
 have hpl := ptsL_len k2
 rw [List.length_take] at hpl
 have hd : (ps.map TAxisPoint.D).length = ps.length := List.length_map _
 (conv => whnf)
 (repeat (refine stg_ ?_))
 (refine br_ (fun h2 => ?_) (fun h2 => ?_))
 ·obtain ⟨w, hw'⟩ := at_lt' (xs := r) (k := k) (by omega)
  have he : ((n :: a :: b :: c :: r).map D.str)[k + 4]? = some (.str w) := by
   show (r.map D.str)[k]? = _
   rw [List.getElem?_map, hw']; rfl
  have hwm : w ∈ spB 32 s := by rw [← hws, hwe]; simp [List.mem_of_getElem? hw']
  have hwz := spB_le 32 s w hwm
  have c3 := Split_v w ⟨#[58]⟩ 58 rfl (by omega) rfl (by rw [← bTl, ← bTl]; rfl)
  have hwc := spB_len 58 w
  have hwc2 := List.count_le_length (a := (58 : UInt8)) (l := w.data.toList)
  have hwl2 : w.data.toList.length = w.size := Array.length_toList
  obtain ⟨us, hus⟩ : ∃ us, us = spB 58 w := ⟨_, rfl⟩
  rw [← hus] at c3 hwc
  have hptO : ptO w = match rnL us with
   | some [p, q] => some ⟨p, q⟩
   | _ => none := by rw [hus]; rfl
  have hbad : ptO w = none → raA s = none := fun h => by rw [hraA, haP, ptsL_bad hw' h]
  have hLu : (us.map D.str).length = us.length := List.length_map _
  rcases hq : rnL us with _ | q
  ·have c4 := readNumbers_v us (by omega) _ _ (fun ns h => by rw [hq] at h; cases h) (fun _ => ⟨rfl, rfl⟩)
   obtain ⟨rfl, rfl⟩ := hR.no (hbad (by rw [hptO, hq]))
   (repeat' (first | (refine stg_ ?_) | (refine cla_ (c3) ?_) | (refine cla_ (c4) ?_) | (refine br_ (fun hbr => ?_) (fun hbr => ?_))))
   all_goals first | (exfalso; simp_all; done) | (refine ⟨⟨[], trivial, by decide, ⟨_, rfl, rfl, ?_⟩⟩⟩; (repeat' (first | ((conv => whnf); done) | ((conv => whnf); (first | (exact ⟨by decide, rfl⟩) | (exact ⟨rfl, rfl⟩) | (refine ⟨_, _, rfl, ?_, ?_⟩) | (refine ⟨_, rfl, ?_⟩) | rfl)))))
  have c4 := readNumbers_v us (by omega) (.tup [.own 1 0 q.length, .d (.bool true)]) [.arr 1 (q.map (D.int .i64)) true] (fun ns h => by rw [hq] at h; cases h; exact ⟨rfl, rfl⟩) (fun h => by rw [hq] at h; cases h)
  by_cases h2l : q.length = 2
  ·obtain ⟨p1, p2, rfl⟩ : ∃ p1 p2, q = [p1, p2] := by
    match q, h2l with
    | [p1, p2], _ => exact ⟨p1, p2, rfl⟩
   have f1 : ([p1, p2].map (D.int .i64))[0]? = some (.int .i64 p1) := rfl
   have f2 : ([p1, p2].map (D.int .i64))[1]? = some (.int .i64 p2) := rfl
   repeat' (first | ((fail_if_success (with_reducible apply RegD.id)); (refine stg_ ?_)) | (refine cla_ (c3) ?_) | (refine cla_ (c4) ?_) | (refine br_ (fun hbr => ?_) (fun hbr => ?_)))
   (repeat (refine stg_ ?_))
   have hpo : ptO w = some ⟨p1, p2⟩ := by rw [hptO, hq]
   refine NextW.go (k + 1, ps ++ [⟨p1, p2⟩]) (Weak.cov ⟨rfl, rfl, rfl, rfl, rfl, rfl, trivial⟩ ⟨trivial, rfl, rfl, trivial, ?_, ?_, trivial⟩ rfl) ⟨by dsimp only; omega, by dsimp only; rw [take_snoc_get hw']; exact ptsL_snoc k2 hpo⟩ (by dsimp only; omega)
   ·show _ = Blk.box (.st [_, _, _, _, .own 5 0 (ps ++ [_]).length])
    rw [List.length_append]; rfl
   ·show _ = Blk.arr 2 ((ps ++ [_]).map TAxisPoint.D) true
    rw [List.map_append, ← hd, List.take_length]; rfl
  ·have hno : ptO w = none := by
    rw [hptO, hq]
    match q, h2l with
    | [], _ => rfl
    | [_], _ => rfl
    | [_, _], h => exact absurd rfl h
    | _ :: _ :: _ :: _, _ => rfl
   obtain ⟨rfl, rfl⟩ := hR.no (hbad hno)
   have hLq : (q.map (D.int .i64)).length = q.length := List.length_map _
   (repeat' (first | (refine stg_ ?_) | (refine cla_ (c3) ?_) | (refine cla_ (c4) ?_) | (refine br_ (fun hbr => ?_) (fun hbr => ?_))))
   all_goals first | (exfalso; omega) | (refine ⟨⟨[], trivial, by decide, ⟨_, rfl, rfl, ?_⟩⟩⟩; (repeat' (first | ((conv => whnf); done) | ((conv => whnf); (first | (exact ⟨by decide, rfl⟩) | (exact ⟨rfl, rfl⟩) | (refine ⟨_, _, rfl, ?_, ?_⟩) | (refine ⟨_, rfl, ?_⟩) | rfl)))))
 ·have hk : k = r.length := by omega
  rw [hk, List.take_length] at k2
  rw [k2] at haP
  have haP' : aP ws = some ⟨n, x, y, z, ps⟩ := haP
  have c5 := AxisText_v ⟨n, x, y, z, ps⟩
  have htx := ra_text (by rw [← hws]; exact haP')
  have hne := ra_ne (by rw [← hws]; exact haP')
  cases hax : axB ⟨n, x, y, z, ps⟩
  ·obtain ⟨rfl, rfl⟩ := hR.no (by rw [hraA, haP']; show (if axB _ = true then _ else _) = _; rw [hax]; rfl)
   rw [hax, if_neg (by decide)] at c5
   (repeat' (first | (refine stg_ ?_) | (refine cla_ (c5) ?_) | (refine br_ (fun hbr => ?_) (fun hbr => ?_))))
   all_goals first | (exfalso; exact hne (toL_inj hbr).symm) | (refine ⟨⟨[], trivial, by decide, ⟨_, rfl, rfl, ?_⟩⟩⟩; (repeat' (first | ((conv => whnf); done) | ((conv => whnf); (first | (exact ⟨by decide, rfl⟩) | (exact ⟨rfl, rfl⟩) | (refine ⟨_, _, rfl, ?_, ?_⟩) | (refine ⟨_, rfl, ?_⟩) | rfl)))))
  ·obtain ⟨rfl, rfl⟩ := hR.own ⟨n, x, y, z, ps⟩ (by rw [hraA, haP']; show (if axB _ = true then _ else _) = _; rw [hax]; rfl)
   rw [hax, if_pos rfl, htx] at c5
   (repeat' (first | (refine stg_ ?_) | (refine cla_ (c5) ?_) | (refine br_ (fun hbr => ?_) (fun hbr => ?_))))
   all_goals first | (exfalso; exact hbr trivial) | (refine ⟨⟨[some 5], ⟨by decide, rfl, trivial, trivial⟩, by decide, ⟨_, rfl, rfl, ?_⟩⟩⟩; (repeat' (first | ((conv => whnf); done) | ((conv => whnf); (first | (exact ⟨by decide, rfl⟩) | (exact ⟨rfl, rfl⟩) | (refine ⟨_, _, rfl, ?_, ?_⟩) | (refine ⟨_, rfl, ?_⟩) | rfl)))))
theorem slIndex_v (s sp : ByteArray) (c : UInt8) (hsp : sp = ⟨#[c]⟩) (hs : s.size ≤ 1048576) : PC Tryz.prog 138 [.d (.str s), .d (.str sp)] (.d (.int .i64 (Lib.indexByte s.data.toList c))) [] := by
 subst hsp
 refine PC.of Tryz.func138 rfl rfl ?_
 rintro w X args ⟨c1, cs, rfl, h1, c2, cs2, rfl, h2, rfl⟩
 obtain ⟨rfl, h3⟩ := rep_str.1 h1
 obtain ⟨rfl, h4⟩ := rep_str.1 h2
 refine (Tryz.stringslite_Index_one s c w).mono fun e w' ⟨r1, r2⟩ => ⟨_, r1, by rw [r2]; exact Ext.refl w, rep_int.2 ⟨rfl, ?_⟩⟩
 have e1 : IntKind.i64.min = -9223372036854775808 := rfl
 have e2 : IntKind.i64.max = 9223372036854775807 := rfl
 have hl : s.data.toList.length = s.size := Array.length_toList
 rcases idx_cases c s.data.toList with ⟨h5, _⟩ | ⟨a, b, e, _, h5⟩
 ·rw [h5]; unfold inR; omega
 ·have := congrArg List.length e
  rw [List.length_append, hl] at this
  rw [h5]; unfold inR; omega
theorem slCut_no (s sp : ByteArray) (c : UInt8) (hsp : sp = ⟨#[c]⟩) (hs : s.size ≤ 1048576) (h : c ∉ s.data.toList) : PC Tryz.prog 102 [.d (.str s), .d (.str sp)] (.tup [.d (.str s), .d (.str .empty), .d (.bool false)]) [] := by
 refine pc_intro ttOk (by kernel_rfl) Tryz.func102 rfl (by kernel_rfl) (by kernel_rfl) (by kernel_rfl) (fun hw => ?_)
 have c1 := slIndex_v s sp c hsp hs
 rcases idx_cases c s.data.toList with ⟨hi, _⟩ | ⟨a, b, e, _, _⟩
 rotate_left
 ·exact absurd (by rw [e]; simp) h
 rw [hi] at c1
 (conv => whnf)
 (repeat' (first | (refine stg_ ?_) | (refine cla_ (c1) ?_) | (refine br_ (fun hbr => ?_) (fun hbr => ?_))))
 all_goals first | (exfalso; omega) | (refine RetOK.t rfl ?_; (repeat' (first | ((conv => whnf); done) | ((conv => whnf); (first | (exact ⟨by decide, rfl⟩) | (exact ⟨rfl, rfl⟩) | (refine ⟨_, _, rfl, ?_, ?_⟩) | (refine ⟨_, rfl, ?_⟩) | rfl)))); done)
theorem slCut_at (s sp : ByteArray) (c : UInt8) (hsp : sp = ⟨#[c]⟩) (hs : s.size ≤ 1048576) {a b : List UInt8} (e : s.data.toList = a ++ c :: b) (ha : c ∉ a) :
  PC Tryz.prog 102 [.d (.str s), .d (.str sp)] (.tup [.d (.str (mkS a)), .d (.str (mkS b)), .d (.bool true)]) [] := by
 refine pc_intro ttOk (by kernel_rfl) Tryz.func102 rfl (by kernel_rfl) (by kernel_rfl) (by kernel_rfl) (fun hw => ?_)
 have c1 := slIndex_v s sp c hsp hs
 have hl : s.data.toList.length = s.size := Array.length_toList
 have hlen := congrArg List.length e
 rw [List.length_append, List.length_cons, hl] at hlen
 have hp1 : sp.size = 1 := by rw [hsp]; rfl
 rcases idx_cases c s.data.toList with ⟨_, hno⟩ | ⟨a', b', e', ha', hi⟩
 ·exact absurd (by rw [e]; simp) hno
 have hab : a' = a := by
  rw [e] at e'
  rcases Nat.lt_trichotomy a.length a'.length with h | h | h
  ·exfalso
   have h1 := congrArg (fun l => l[a.length]?) e'
   rw [List.getElem?_append_right (Nat.le_refl _), List.getElem?_append_left h, Nat.sub_self] at h1
   exact ha' (List.mem_of_getElem? (by rw [← h1]; rfl))
  ·exact (List.append_inj e' h).1.symm
  ·exfalso
   have h1 := congrArg (fun l => l[a'.length]?) e'
   rw [List.getElem?_append_left h, List.getElem?_append_right (Nat.le_refl _), Nat.sub_self] at h1
   exact ha (List.mem_of_getElem? (by rw [h1]; rfl))
 rw [hi, hab] at c1
 (conv => whnf)
 (repeat' (first | (refine stg_ ?_) | (refine cla_ (c1) ?_) | (refine br_ (fun hbr => ?_) (fun hbr => ?_))))
 all_goals try (exfalso; omega)
 have hx1 : s.extract 0 ((a.length : Nat) : Int).toNat = mkS a := bx_take e
 have hx2 : s.extract (((a.length : Nat) : Int) + ((sp.size : Nat) : Int)).toNat s.size = mkS b := by
  refine bx_drop (a := a ++ [c]) (by rw [e]; simp) ?_
  rw [List.length_append, List.length_singleton]; omega
 rw [← hx1, ← hx2]
 refine RetOK.t rfl ?_
 exact rn_
theorem Cut_no (s sp : ByteArray) (c : UInt8) (hsp : sp = ⟨#[c]⟩) (hs : s.size ≤ 1048576) (h : c ∉ s.data.toList) : PC Tryz.prog 56 [.d (.str s), .d (.str sp)] (.tup [.d (.str s), .d (.str .empty), .d (.bool false)]) [] := by
 refine pc_intro ttOk (by kernel_rfl) Tryz.func56 rfl (by kernel_rfl) (by kernel_rfl) (by kernel_rfl) (fun hw => ?_)
 have c1 := slCut_no s sp c hsp hs h
 (conv => whnf)
 (repeat' (first | (refine stg_ ?_) | (refine cla_ (c1) ?_) | (refine br_ (fun hbr => ?_) (fun hbr => ?_))))
 all_goals (refine RetOK.t rfl ?_; exact rn_)
theorem Cut_at (s sp : ByteArray) (c : UInt8) (hsp : sp = ⟨#[c]⟩) (hs : s.size ≤ 1048576) {a b : List UInt8} (e : s.data.toList = a ++ c :: b) (ha : c ∉ a) :
  PC Tryz.prog 56 [.d (.str s), .d (.str sp)] (.tup [.d (.str (mkS a)), .d (.str (mkS b)), .d (.bool true)]) [] := by
 refine pc_intro ttOk (by kernel_rfl) Tryz.func56 rfl (by kernel_rfl) (by kernel_rfl) (by kernel_rfl) (fun hw => ?_)
 have c1 := slCut_at s sp c hsp hs e ha
 (conv => whnf)
 (repeat' (first | (refine stg_ ?_) | (refine cla_ (c1) ?_) | (refine br_ (fun hbr => ?_) (fun hbr => ?_))))
 all_goals (refine RetOK.t rfl ?_; exact rn_)
theorem cut_cases (c : UInt8) (s : ByteArray) : c ∉ s.data.toList ∨ ∃ a b, s.data.toList = a ++ c :: b ∧ c ∉ a := by
 rcases idx_cases c s.data.toList with ⟨_, h⟩ | ⟨a, b, e, h, _⟩
 ·exact .inl h
 ·exact .inr ⟨a, b, e, h⟩
set_option maxHeartbeats 4000000 in
theorem ReadPt_v (s : ByteArray) (hs : s.size ≤ 1048576) : PC Tryz.prog 104 [.d (.str s)] (.tup [.d ((ptR s).getD ⟨0, 0⟩).D, .d (.bool (ptR s).isSome)]) [] := by
 refine pc_intro ttOk (by kernel_rfl) Tryz.func104 rfl (by kernel_rfl) (by kernel_rfl) (by kernel_rfl) (fun hw => ?_)
 rcases cut_cases 44 s with h | ⟨a, b, e, ha⟩
 ·have c1 := Cut_no s ⟨#[44]⟩ 44 rfl hs h
  rw [ptR_no h]
  (conv => whnf)
  (repeat' (first | (refine stg_ ?_) | (refine cla_ (c1) ?_) | (refine br_ (fun hbr => ?_) (fun hbr => ?_))))
  all_goals (refine RetOK.t rfl ?_; (repeat' (first | ((conv => whnf); done) | ((conv => whnf); (first | (exact ⟨by decide, rfl⟩) | (exact ⟨rfl, rfl⟩) | (refine ⟨_, _, rfl, ?_, ?_⟩) | (refine ⟨_, rfl, ?_⟩) | (refine ⟨rfl, ?_⟩) | rfl)))))
 ·have c1 := Cut_at s ⟨#[44]⟩ 44 rfl hs e ha
  have c2 := ReadDecimal_v (mkS a)
  have c3 := ReadDecimal_v (mkS b)
  rw [mkS_toList] at c2 c3
  rw [ptR_at e ha]
  generalize rdN a = oa at c2 ⊢
  generalize rdN b = ob at c3 ⊢
  rcases oa with _ | x
  ·have c2 : PC Tryz.prog 103 [.d (.str (mkS a))] (.tup [.d (.int .i64 0), .d (.bool false)]) [] := c2
   (conv => whnf)
   (repeat' (first | (refine stg_ ?_) | (refine cla_ (c1) ?_) | (refine cla_ (c2) ?_) | (refine br_ (fun hbr => ?_) (fun hbr => ?_))))
   all_goals (refine RetOK.t rfl ?_; (repeat' (first | ((conv => whnf); done) | ((conv => whnf); (first | (exact ⟨by decide, rfl⟩) | (exact ⟨rfl, rfl⟩) | (refine ⟨_, _, rfl, ?_, ?_⟩) | (refine ⟨_, rfl, ?_⟩) | (refine ⟨rfl, ?_⟩) | rfl)))))
  have c2 : PC Tryz.prog 103 [.d (.str (mkS a))] (.tup [.d (.int .i64 x), .d (.bool true)]) [] := c2
  rcases ob with _ | y
  ·have c3 : PC Tryz.prog 103 [.d (.str (mkS b))] (.tup [.d (.int .i64 0), .d (.bool false)]) [] := c3
   (conv => whnf)
   (repeat' (first | (refine stg_ ?_) | (refine cla_ (c1) ?_) | (refine cla_ (c2) ?_) | (refine cla_ (c3) ?_) | (refine br_ (fun hbr => ?_) (fun hbr => ?_))))
   all_goals (refine RetOK.t rfl ?_; (repeat' (first | ((conv => whnf); done) | ((conv => whnf); (first | (exact ⟨by decide, rfl⟩) | (exact ⟨rfl, rfl⟩) | (refine ⟨_, _, rfl, ?_, ?_⟩) | (refine ⟨_, rfl, ?_⟩) | (refine ⟨rfl, ?_⟩) | rfl)))))
  have c3 : PC Tryz.prog 103 [.d (.str (mkS b))] (.tup [.d (.int .i64 y), .d (.bool true)]) [] := c3
  have c4 := ValidPt_v ⟨x, y⟩
  dsimp only
  cases hp : pntB ⟨x, y⟩ <;> rw [hp] at c4
  ·(conv => whnf)
   (repeat' (first | (refine stg_ ?_) | (refine cla_ (c1) ?_) | (refine cla_ (c2) ?_) | (refine cla_ (c3) ?_) | (refine cla_ (c4) ?_) | (refine br_ (fun hbr => ?_) (fun hbr => ?_))))
   all_goals (refine RetOK.t rfl ?_; (repeat' (first | ((conv => whnf); done) | ((conv => whnf); (first | (exact ⟨by decide, rfl⟩) | (exact ⟨rfl, rfl⟩) | (refine ⟨_, _, rfl, ?_, ?_⟩) | (refine ⟨_, rfl, ?_⟩) | (refine ⟨rfl, ?_⟩) | rfl)))))
  ·(conv => whnf)
   (repeat' (first | (refine stg_ ?_) | (refine cla_ (c1) ?_) | (refine cla_ (c2) ?_) | (refine cla_ (c3) ?_) | (refine cla_ (c4) ?_) | (refine br_ (fun hbr => ?_) (fun hbr => ?_))))
   all_goals (refine RetOK.t rfl ?_; (repeat' (first | ((conv => whnf); done) | ((conv => whnf); (first | (exact ⟨by decide, rfl⟩) | (exact ⟨rfl, rfl⟩) | (refine ⟨_, _, rfl, ?_, ?_⟩) | (refine ⟨_, rfl, ?_⟩) | (refine ⟨rfl, ?_⟩) | rfl)))))
def trD6 : OT := .q 0 (.q 1 (.q 2 (.q 3 (.q 4 (.q 5 (.alt 6 (.alt 7 (.alt 8 .done .nil) .nil) (.alt 7 (.alt 6 (.alt 8 .done .nil) .nil) .nil)))))))
def trD15 : OT := .q 0 (.q 1 (.q 2 (.q 5 (.alt 3 (.alt 4 (.q 6 (.q 7 (.q 10 (.alt 8 (.alt 9 (.alt 11 (.q 12 (.alt 13 .done .nil)) .nil) .nil) .nil)))) (.alt 6 (.alt 4 (.q 7 (.q 10 (.alt 8 (.alt 9 (.alt 11 (.q 12 (.alt 13 .done .nil)) .nil) .nil) .nil))) (.alt 7 (.alt 4 (.q 10 (.alt 8 (.alt 9 (.alt 11 (.q 12 (.alt 13 .done .nil)) .nil) .nil) .nil)) (.alt 8 (.alt 4 (.q 10 (.alt 9 (.alt 11 (.q 12 (.alt 13 .done .nil)) .nil) .nil)) .nil) .nil)) .nil)) (.alt 7 (.alt 4 (.q 6 (.q 10 (.alt 8 (.alt 9 (.alt 11 (.q 12 (.alt 13 .done .nil)) .nil) .nil) .nil))) (.alt 6 (.alt 4 (.q 10 (.alt 8 (.alt 9 (.alt 11 (.q 12 (.alt 13 .done .nil)) .nil) .nil) .nil)) (.alt 8 (.alt 4 (.q 10 (.alt 9 (.alt 11 (.q 12 (.alt 13 .done .nil)) .nil) .nil)) .nil) .nil)) (.alt 8 (.alt 4 (.q 6 (.q 10 (.alt 9 (.alt 11 (.q 12 (.alt 13 .done .nil)) .nil) .nil))) (.alt 6 (.alt 4 (.q 10 (.alt 9 (.alt 11 (.q 12 (.alt 13 .done .nil)) .nil) .nil)) .nil) .nil)) .nil))) .nil))) (.alt 6 (.alt 3 (.alt 4 (.q 7 (.q 10 (.alt 8 (.alt 9 (.alt 11 (.q 12 (.alt 13 .done .nil)) .nil) .nil) .nil))) (.alt 7 (.alt 4 (.q 10 (.alt 8 (.alt 9 (.alt 11 (.q 12 (.alt 13 .done .nil)) .nil) .nil) .nil)) (.alt 8 (.alt 4 (.q 10 (.alt 9 (.alt 11 (.q 12 (.alt 13 .done .nil)) .nil) .nil)) .nil) .nil)) .nil)) (.alt 7 (.alt 3 (.alt 4 (.q 10 (.alt 8 (.alt 9 (.alt 11 (.q 12 (.alt 13 .done .nil)) .nil) .nil) .nil)) (.alt 8 (.alt 4 (.q 10 (.alt 9 (.alt 11 (.q 12 (.alt 13 .done .nil)) .nil) .nil)) .nil) .nil)) (.alt 8 (.alt 3 (.alt 4 (.q 10 (.alt 9 (.alt 11 (.q 12 (.alt 13 .done .nil)) .nil) .nil)) .nil) .nil) .nil)) .nil)) (.alt 7 (.alt 3 (.alt 4 (.q 6 (.q 10 (.alt 8 (.alt 9 (.alt 11 (.q 12 (.alt 13 .done .nil)) .nil) .nil) .nil))) (.alt 6 (.alt 4 (.q 10 (.alt 8 (.alt 9 (.alt 11 (.q 12 (.alt 13 .done .nil)) .nil) .nil) .nil)) (.alt 8 (.alt 4 (.q 10 (.alt 9 (.alt 11 (.q 12 (.alt 13 .done .nil)) .nil) .nil)) .nil) .nil)) (.alt 8 (.alt 4 (.q 6 (.q 10 (.alt 9 (.alt 11 (.q 12 (.alt 13 .done .nil)) .nil) .nil))) (.alt 6 (.alt 4 (.q 10 (.alt 9 (.alt 11 (.q 12 (.alt 13 .done .nil)) .nil) .nil)) .nil) .nil)) .nil))) (.alt 6 (.alt 3 (.alt 4 (.q 10 (.alt 8 (.alt 9 (.alt 11 (.q 12 (.alt 13 .done .nil)) .nil) .nil) .nil)) (.alt 8 (.alt 4 (.q 10 (.alt 9 (.alt 11 (.q 12 (.alt 13 .done .nil)) .nil) .nil)) .nil) .nil)) (.alt 8 (.alt 3 (.alt 4 (.q 10 (.alt 9 (.alt 11 (.q 12 (.alt 13 .done .nil)) .nil) .nil)) .nil) .nil) .nil)) (.alt 8 (.alt 3 (.alt 4 (.q 6 (.q 10 (.alt 9 (.alt 11 (.q 12 (.alt 13 .done .nil)) .nil) .nil))) (.alt 6 (.alt 4 (.q 10 (.alt 9 (.alt 11 (.q 12 (.alt 13 .done .nil)) .nil) .nil)) .nil) .nil)) (.alt 6 (.alt 3 (.alt 4 (.q 10 (.alt 9 (.alt 11 (.q 12 (.alt 13 .done .nil)) .nil) .nil)) .nil) .nil) .nil)) .nil))) .nil))))))
set_option maxRecDepth 100000 in
set_option maxHeartbeats 8000000 in
theorem readDelta_v (ws : List ByteArray) (hsz : ∀ w ∈ ws, w.size ≤ 1048576) (hn : ws.length ≤ 1048577) (v : V) (bs : List Blk)
  (h0 : ∀ d, dlR ws = some d → v = .tup [.st [.d (.int .i64 d.fGlyph), .own 1 0 d.fKnots.length, .own 2 0 d.fMoves.length, .d (.int .i64 d.fAdvance)], .d (.bool true)] ∧ bs = [.arr 1 (d.fKnots.map (D.int .i64)) true, .arr 2 (d.fMoves.map TPt.D) true])
  (h1 : dlR ws = none → v = .tup [.st [.d (.int .i64 0), .nils, .nils, .d (.int .i64 0)], .d (.bool false)] ∧ bs = []) : PC Tryz.prog 59 [.d (.lst (ws.map D.str))] v bs := by
 refine pc_intro ttOk (by kernel_rfl) Tryz.func59 rfl (by kernel_rfl) (by kernel_rfl) (by kernel_rfl) (fun hw => ?_)
 have hL : (ws.map D.str).length = ws.length := List.length_map _
 by_cases h2 : ws.length < 2
 ·have hno : dlR ws = none := by
   match ws, h2 with
   | [], _ => rfl
   | [_], _ => rfl
  obtain ⟨rfl, rfl⟩ := h1 hno
  (conv => whnf)
  (repeat' (first | (refine stg_ ?_) | fail | (refine br_ (fun hbr => ?_) (fun hbr => ?_))))
  all_goals first | (exfalso; omega) | (refine RetOK.t rfl ?_; (repeat' (first | ((conv => whnf); done) | ((conv => whnf); (first | (exact ⟨by decide, rfl⟩) | (exact ⟨rfl, rfl⟩) | (refine ⟨_, _, rfl, ?_, ?_⟩) | (refine ⟨_, rfl, ?_⟩) | rfl)))); done)
 obtain ⟨g, a, r, rfl⟩ : ∃ g a r, ws = g :: a :: r := by
  match ws, h2 with
  | g :: a :: r, _ => exact ⟨g, a, r, rfl⟩
  | [], h => exact absurd (by simp) h
  | [_], h => exact absurd (by simp) h
 have hwl : (g :: a :: r).length = r.length + 2 := rfl
 have hdl : dlR (g :: a :: r) = match rnL [g, a] with
  | some [x, y] => match mapO knR r with
   | some ks => some ⟨x, ks.map Prod.fst, ks.map Prod.snd, y⟩
   | none => none
  | _ => none := rfl
 rcases hq : rnL [g, a] with _ | q
 ·have c1 := readNumbers_v [g, a] (by simp) _ _ (fun ns h => by rw [hq] at h; cases h) (fun _ => ⟨rfl, rfl⟩)
  obtain ⟨rfl, rfl⟩ := h1 (by rw [hdl, hq])
  (conv => whnf)
  (repeat' (first | (refine stg_ ?_) | (refine cla_ (c1) ?_) | (refine br_ (fun hbr => ?_) (fun hbr => ?_))))
  all_goals first | (exfalso; simp only [List.length_map, List.length_cons] at *; omega) | (refine RetOK.t rfl ?_; (repeat' (first | ((conv => whnf); done) | ((conv => whnf); (first | (exact ⟨by decide, rfl⟩) | (exact ⟨rfl, rfl⟩) | (refine ⟨_, _, rfl, ?_, ?_⟩) | (refine ⟨_, rfl, ?_⟩) | rfl)))); done)
 obtain ⟨x, y, rfl⟩ : ∃ x y, q = [x, y] := by
  have := rnL_len hq
  match q, this with
  | [x, y], _ => exact ⟨x, y, rfl⟩
 have c1 := readNumbers_v [g, a] (by simp) (.tup [.own 1 0 2, .d (.bool true)]) [.arr 1 ([x, y].map (D.int .i64)) true] (fun ns h => by rw [hq] at h; cases h; exact ⟨rfl, rfl⟩) (fun h => by rw [hq] at h; cases h)
 rw [hq] at hdl
 have e0 : ([x, y].map (D.int .i64))[0]? = some (.int .i64 x) := rfl
 have e1 : ([x, y].map (D.int .i64))[1]? = some (.int .i64 y) := rfl
 have hLr : (r.map D.str).length = r.length := List.length_map _
 (conv => whnf)
 repeat' (first | ((fail_if_success (with_reducible apply RegD.id)); (refine stg_ ?_)) | (refine cla_ (c1) ?_) | (refine br_ (fun hbr => ?_) (fun hbr => ?_)))
 all_goals try (exfalso; simp only [List.length_map, List.length_cons] at *; omega)
 all_goals try (exfalso; simp_all; done)
 refine RegD.cutT [(2, .pB 1 [] 0), (0, .d (.lst ((g :: a :: r).map D.str))), (6, .pB 3 [] 0)] [.gone, .box (.st [.d (.int .i64 0), .nils, .nils, .d (.int .i64 0)]), .gone, .box (.st [.d (.int .i64 x), .nils, .nils, .d (.int .i64 y)])] trD6 (by kernel_rfl) ?_ ?_
 ·(conv => whnf)
  repeat' (first | (refine stg_ ?_) | (refine And.intro ?_ ?_ <;> (conv => whnf)))
  all_goals (refine Weak.cov ?_ ?_ ?_; (focus exact cv_); (focus exact cv_); (focus rfl))
 (conv => whnf)
 (repeat (refine stg_ ?_))
 refine LoopW.go (α := Nat × List (Int × TPt)) (fun p => [(2, .pB 1 [] 0), (6, .pB 3 [] 0), (37, .d (.lst (r.map D.str))), (38, .d (.int .i64 r.length)), (39, .d (.int .i64 p.1))]) (fun p => [.gone, .box (.st [.d (.int .i64 0), .nils, .nils, .d (.int .i64 0)]), .gone, .box (.st [.d (.int .i64 x), .own 4 0 p.2.length, .own 5 0 p.2.length, .d (.int .i64 y)]), .arr 1 ((p.2.map Prod.fst).map (D.int .i64)) true, .arr 2 ((p.2.map Prod.snd).map TPt.D) true])
  (fun p => p.1 ≤ r.length ∧ mapO knR (r.take p.1) = some p.2) (fun p => r.length - p.1) (0, []) (Weak.trans (Weak.adoptM 3 [.d (.int .i64 x)] [.nils, .d (.int .i64 y)] rfl rfl 1 true) (Weak.trans (Weak.adoptM 3 [.d (.int .i64 x), .own 4 0 0] [.d (.int .i64 y)] rfl rfl 2 true) (Weak.cov ⟨rfl, rfl, ?_, ?_, rfl, trivial⟩ ⟨trivial, rfl, trivial, rfl, rfl, rfl, trivial⟩ rfl))) ⟨by simp, rfl⟩ ?_
 ·show V.d (D.lst (List.take _ (r.map D.str))) = _
  rw [List.take_of_length_le (by simp)]
 ·show V.d (D.int .i64 _) = _
  congr 2
  simp
 rintro ⟨k, ks⟩ ⟨k1, k2⟩
 dsimp only at k1 k2 ⊢
 have hkl := mapO_len k2
 rw [List.length_take] at hkl
 have hd1 : ((ks.map Prod.fst).map (D.int .i64)).length = ks.length := by simp
 have hd2 : ((ks.map Prod.snd).map TPt.D).length = ks.length := by simp
 (conv => whnf)
 (repeat (refine stg_ ?_))
 (refine br_ (fun h3 => ?_) (fun h3 => ?_))
 ·obtain ⟨w, hw'⟩ := at_lt' (xs := r) (k := k) (by omega)
  have he : (r.map D.str)[k]? = some (.str w) := by rw [List.getElem?_map, hw']; rfl
  have hwz := hsz w (by simp [List.mem_of_getElem? hw'])
  have c2 := ReadDecimal_v w
  have hbad : knR w = none → dlR (g :: a :: r) = none := fun h => by rw [hdl, mapO_bad hw' h]
  rcases cut_cases 58 w with h | ⟨u, z, e, hu⟩
  ·have c3 := Cut_no w ⟨#[58]⟩ 58 rfl hwz h
   have c4 := ReadPt_v .empty (by decide)
   rw [ptR_no (by decide)] at c4
   have c4 : PC Tryz.prog 104 [.d (.str .empty)] (.tup [.d (TPt.D ⟨0, 0⟩), .d (.bool false)]) [] := c4
   obtain ⟨rfl, rfl⟩ := h1 (hbad (knR_no h))
   generalize (rdN w.data.toList).getD 0 = ov at c2
   generalize (rdN w.data.toList).isSome = oi at c2
   (repeat' (first | (refine stg_ ?_) | (refine cla_ (c2) ?_) | (refine cla_ (c3) ?_) | (refine cla_ (c4) ?_) | (refine br_ (fun hbr => ?_) (fun hbr => ?_))))
   all_goals first | (exfalso; simp_all; done) | (refine RetOK.t rfl ?_; (repeat' (first | ((conv => whnf); done) | ((conv => whnf); (first | (exact ⟨by decide, rfl⟩) | (exact ⟨rfl, rfl⟩) | (refine ⟨_, _, rfl, ?_, ?_⟩) | (refine ⟨_, rfl, ?_⟩) | rfl)))); done)
  ·have c3 := Cut_at w ⟨#[58]⟩ 58 rfl hwz e hu
   have hlz := congrArg List.length e
   have hlw : w.data.toList.length = w.size := Array.length_toList
   rw [List.length_append, List.length_cons, hlw] at hlz
   have c4 := ReadDecimal_v (mkS u)
   have c5 := ReadPt_v (mkS z) (by rw [mkS_size]; omega)
   rw [mkS_toList] at c4
   have hkn := knR_at e hu
   generalize rdN u = ou at c4 hkn
   generalize ptR (mkS z) = oz at c5 hkn
   rcases ou with _ | n
   ·obtain ⟨rfl, rfl⟩ := h1 (hbad hkn)
    have c4 : PC Tryz.prog 103 [.d (.str (mkS u))] (.tup [.d (.int .i64 0), .d (.bool false)]) [] := c4
    (repeat' (first | (refine stg_ ?_) | (refine cla_ (c3) ?_) | (refine cla_ (c4) ?_) | (refine cla_ (c5) ?_) | (refine br_ (fun hbr => ?_) (fun hbr => ?_))))
    all_goals first | (exfalso; simp_all; done) | (refine RetOK.t rfl ?_; (repeat' (first | ((conv => whnf); done) | ((conv => whnf); (first | (exact ⟨by decide, rfl⟩) | (exact ⟨rfl, rfl⟩) | (refine ⟨_, _, rfl, ?_, ?_⟩) | (refine ⟨_, rfl, ?_⟩) | rfl)))); done)
   have c4 : PC Tryz.prog 103 [.d (.str (mkS u))] (.tup [.d (.int .i64 n), .d (.bool true)]) [] := c4
   rcases oz with _ | q
   ·obtain ⟨rfl, rfl⟩ := h1 (hbad hkn)
    have c5 : PC Tryz.prog 104 [.d (.str (mkS z))] (.tup [.d (TPt.D ⟨0, 0⟩), .d (.bool false)]) [] := c5
    (repeat' (first | (refine stg_ ?_) | (refine cla_ (c3) ?_) | (refine cla_ (c4) ?_) | (refine cla_ (c5) ?_) | (refine br_ (fun hbr => ?_) (fun hbr => ?_))))
    all_goals first | (exfalso; simp_all; done) | (refine RetOK.t rfl ?_; (repeat' (first | ((conv => whnf); done) | ((conv => whnf); (first | (exact ⟨by decide, rfl⟩) | (exact ⟨rfl, rfl⟩) | (refine ⟨_, _, rfl, ?_, ?_⟩) | (refine ⟨_, rfl, ?_⟩) | rfl)))); done)
   have c5 : PC Tryz.prog 104 [.d (.str (mkS z))] (.tup [.d q.D, .d (.bool true)]) [] := c5
   repeat' (first | ((fail_if_success (with_reducible apply RegD.id)); (refine stg_ ?_)) | (refine cla_ (c3) ?_) | (refine cla_ (c4) ?_) | (refine cla_ (c5) ?_) | (refine br_ (fun hbr => ?_) (fun hbr => ?_)))
   all_goals try (exfalso; simp_all; done)
   have hks : (ks ++ [(n, q)]).length = ks.length + 1 := by simp
   have ha1 : ((ks.map Prod.fst).map (D.int .i64)).take ks.length ++ [D.int .i64 n] = ((ks ++ [(n, q)]).map Prod.fst).map (D.int .i64) := by
    rw [List.take_of_length_le (by omega), List.map_append, List.map_append]; rfl
   have ha2 : ((ks.map Prod.snd).map TPt.D).take ks.length ++ [q.D] = ((ks ++ [(n, q)]).map Prod.snd).map TPt.D := by
    rw [List.take_of_length_le (by omega), List.map_append, List.map_append]; rfl
   refine RegD.cutT [(2, .pB 1 [] 0), (6, .pB 3 [] 0), (37, .d (.lst (r.map D.str))), (38, .d (.int .i64 r.length)), (39, .d (.int .i64 k))] [.gone, .box (.st [.d (.int .i64 0), .nils, .nils, .d (.int .i64 0)]), .gone, .box (.st [.d (.int .i64 x), .own 4 0 (ks ++ [(n, q)]).length, .own 5 0 (ks ++ [(n, q)]).length, .d (.int .i64 y)]), .arr 1 (((ks ++ [(n, q)]).map Prod.fst).map (D.int .i64)) true, .arr 2 (((ks ++ [(n, q)]).map Prod.snd).map TPt.D) true] trD15 (by kernel_rfl) ?_ ?_
   ·(conv => whnf)
    rw [hks, ← ha1, ← ha2]
    repeat' (first | (refine stg_ ?_) | (refine And.intro ?_ ?_ <;> (conv => whnf)))
    all_goals (refine Weak.cov ?_ ?_ ?_; (focus exact cv_); (focus exact cv_); (focus rfl))
   (conv => whnf)
   (repeat (refine stg_ ?_))
   exact NextW.go (k + 1, ks ++ [(n, q)]) covT_ ⟨by dsimp only; omega, by dsimp only; rw [take_snoc_get hw']; exact mapO_snoc k2 hkn⟩ (by dsimp only; omega)
 ·have hk : k = r.length := by omega
  rw [hk, List.take_length] at k2
  rw [k2] at hdl
  obtain ⟨rfl, rfl⟩ := h0 _ hdl
  (repeat' (first | (refine stg_ ?_) | fail | (refine br_ (fun hbr => ?_) (fun hbr => ?_))))
  refine ⟨⟨[some 4, some 5], ⟨by decide, ?_, trivial, by decide, ?_, trivial, trivial⟩, by decide, ⟨_, rfl, rfl, ?_⟩⟩⟩
  ·rfl
  ·rfl
  ·dsimp only
   rw [List.length_map, List.length_map]
   exact rn_
open Go.RowKit Go.Shelf
section
variable {P : Program} {ρ : Ren}
theorem rowR_owns {w : World} {v : Value} {F : List Nat} {E : TypeId} {bs : List UInt8} (h : rowR w v F E bs) : w.ownsRowF 0 E 1 v (Lib.byteCells bs).length (Lib.byteCells bs) := by
 refine ⟨by simp, ?_⟩
 rcases h with ⟨rfl, rfl, _⟩ | ⟨r, cap, cur, fz, rfl, _, h1, h2, h3, h4, h5, h6, _⟩
 ·exact .inl ⟨rfl, rfl⟩
 ·exact .inr ⟨r, cap, cur, fz, by rw [Lib.byteCells_length], Nat.zero_le _, h1, by rw [Lib.byteCells_length]; omega, by rw [Lib.byteCells_length]; exact h3, h4, by omega, by rw [Lib.byteCells_length, Nat.mul_one]; exact h6⟩
theorem rowR_block {w : World} {v : Value} {F : List Nat} {E : TypeId} {bs : List UInt8} (h : rowR w v F E bs) : ∀ k, v.ownBlock = some k ↔ k ∈ F := by
 intro k
 rcases h with ⟨rfl, rfl, rfl⟩ | ⟨r, cap, cur, fz, rfl, rfl, _⟩
 ·simp [Value.ownBlock]
 ·simp [Value.ownBlock, eq_comm]
theorem rowR_of {w : World} {base : Nat} {v : Value} {E : TypeId} {bs : List UInt8} (h : w.ownsRowF base E 1 v bs.length (Lib.byteCells bs)) (hn : v = .slice none 0 0 ↔ bs = []) :
  ∃ F, rowR w v F E bs ∧ ∀ x ∈ F, base ≤ x := by
 rcases h.2 with ⟨rfl, h0⟩ | ⟨r, cap, cur, fz, rfl, h1, h2, h3, h4, h5, h6, h7⟩
 ·exact ⟨[], .inl ⟨rfl, hn.1 rfl, rfl⟩, by simp⟩
 ·refine ⟨[r], .inr ⟨r, cap, cur, fz, rfl, rfl, h2, by omega, h4, h5, by omega, by rw [Nat.mul_one] at h7; exact h7, ?_⟩, by simpa using h1⟩
  have hb : bs ≠ [] := fun q => by have := hn.2 q; cases this
  have := List.length_pos_iff.2 hb
  omega
theorem run_app_row (w : World) (t u ty e : TypeId) (i : TypeInfo) (ht : P.underlying t = some (.slice e)) (hu : P.underlying u = some .string) (hi : P.info? e = some i) (hz : i.zero = some (.int .u8 0)) (hsize : i.size = 1) (hby : i.bytes = 1)
  (v : Value) (F : List Nat) (bs : List UInt8) (h : rowR w v F e bs) (s : ByteArray) (hbytes : bs.length + s.size ≤ 140737488355328) :
  ∃ v' w' F', (Builtin.append_ #[t, u] ty #[v, .string s]).run P w = .ok v' w' ∧ rowR w' v' F' e (bs ++ s.data.toList) ∧ w.grownBy w' v.ownBlock ∧ ∀ x ∈ F', x ∈ F ∨ w.heap.size ≤ x := by
 have hss : s.data.toList.length = s.size := Array.length_toList
 have hcells : Lib.byteCells bs ++ Lib.strCells s = Lib.byteCells (bs ++ s.data.toList) := by simp [Lib.byteCells, Lib.strCells]
 rcases h with ⟨rfl, rfl, rfl⟩ | ⟨g, cap, cur, fz, rfl, rfl, hg, hfz, hnc, hcm, hcs, htake, hne⟩
 ·obtain ⟨v', w', h1, h2, h3, h4⟩ := Lib.run_append_own_stringF (P := P) w w.heap.size t u ty e i ht hu hi hz hsize hby (.slice none 0 0) 0 [] ⟨rfl, .inl ⟨rfl, rfl⟩⟩ s (by unfold maxLen; simp at hbytes; omega) (by simpa using hbytes) (Nat.le_refl _)
  obtain ⟨F', k1, k2⟩ := rowR_of (bs := s.data.toList) (by rw [hss]; simpa [Lib.byteCells, Lib.strCells] using h2) (by
   rw [h4]
   constructor
   ·rintro ⟨_, q⟩; exact List.eq_nil_of_length_eq_zero (by omega)
   ·intro q; exact ⟨rfl, by rw [← hss, q]; rfl⟩)
  exact ⟨v', w', F', h1, by simpa using k1, h3, fun x hx => .inr (k2 x hx)⟩
 ·have hlen : (bs ++ s.data.toList).length = bs.length + s.size := by rw [List.length_append, hss]
  have hlc : (Lib.byteCells (bs ++ s.data.toList)).length = bs.length + s.size := by rw [Lib.byteCells_length, hlen]
  by_cases hroom : bs.length + s.size ≤ cap
  ·have hr := Lib.run_append_room_stringF (P := P) w t u ty e i ht hu hi hsize g bs.length cap cur fz hg hfz s hroom (by omega)
   refine ⟨_, _, [g], hr, .inr ⟨g, cap, _, fz, by rw [hlen], rfl, setRow_heap w g cur _ e _ hg, by omega, by omega, hcm, ?_, ?_, hne⟩, ⟨rfl, rfl, rfl, by simp, fun k _ hk => setRow_other' hk⟩, by simp⟩
   ·simp only [List.size_toArray, List.length_append, List.length_take, List.length_drop, Array.length_toList, Lib.strCells_length]
    omega
   ·have e1 : cur.toList.take bs.length = Lib.byteCells bs := htake
    rw [e1, hcells]
    show List.take _ _ = Lib.byteCells (bs ++ s.data.toList)
    rw [hlen, ← hlc]
    exact List.take_left
  ·have hown := rowR_owns (w := w) (E := e) (.inr ⟨g, cap, cur, fz, rfl, rfl, hg, hfz, hnc, hcm, hcs, htake, hne⟩ : rowR w (.slice (some ⟨g, 0, none⟩) bs.length cap) [g] e bs)
   have holds : ∀ j u, (Lib.byteCells bs)[j]? = some u → w.cell? ((⟨g, 0, none⟩ : Addr).add j) = some u := hown.cells (g := g) rfl
   have hr := Lib.run_append_grow_string (P := P) w t u ty e i (.int .u8 0) ht hu hi hz ⟨g, 0, none⟩ bs.length cap (Lib.byteCells bs) (by rw [hsize, Lib.byteCells_length, Nat.mul_one]) holds s (by omega) (by omega) (by rw [hby]; exact growslice_fits (by omega) (by omega))
   have hge := grownCap_ge w (bs.length + s.size) cap e
   have hcm2 : grownCap w (bs.length + s.size) cap e ≤ maxLen := grownCap_le_maxLen w (bs.length + s.size) cap e (by unfold maxLen; omega)
   refine ⟨_, _, [w.heap.size], hr, .inr ⟨w.heap.size, _, _, (0, 0), by rw [hlen], rfl, heap_alloc_new w.drew _, Nat.zero_le _, by rw [hlen]; exact hge, hcm2, ?_, ?_, by omega⟩, ⟨rfl, rfl, rfl, by simp, fun k hk _ => heap_alloc_old w.drew _ hk⟩, fun x hx => .inr (by simp at hx; omega)⟩
   ·have hz1 : (Value.int IntKind.u8 0).cells.size = 1 := rfl
    simp only [Array.size_append, List.size_toArray, size_zeroCells, hz1, Lib.byteCells_length, Lib.strCells_length]
    omega
   ·show List.take _ _ = Lib.byteCells (bs ++ s.data.toList)
    simp only [Array.toList_append, List.append_assoc]
    rw [← List.append_assoc, hcells, hlen, ← hlc]
    exact List.take_left
where
 setRow_other' {w : World} {g k : Nat} {cs : Array Value} {n cap : Nat} (hk : some k ≠ (Value.slice (some ⟨g, 0, none⟩) n cap).ownBlock) : (w.setRow g cs).heap[k]? = w.heap[k]? := Go.setRow_other w g k cs (fun e => hk (by simp [Value.ownBlock, e]))
theorem wpList_app_row {ops : Array Oper} {rest : List Oper} {o : Oper} {a : Act} {w : World} {Q : Exit → Act → World → Prop} (hgd : o.guard = none) (sl x : Operand) (t u : TypeId)
  (ho : o.op = .call { callee := .builtin .append, args := #[sl, x], argTypes := #[t, u] }) (e : TypeId) (i : TypeInfo) (ht : P.underlying t = some (.slice e)) (hu : P.underlying u = some .string) (hi : P.info? e = some i) (hz : i.zero = some (.int .u8 0))
  (hsize : i.size = 1) (hby : i.bytes = 1) (v : Value) (F : List Nat) (bs : List UInt8) (hs : a.eval sl = v) (hrow : rowR w v F e bs) (s : ByteArray) (hx : a.eval x = .string s) (hbytes : bs.length + s.size ≤ 140737488355328)
  (h : ∀ v' w' F', rowR w' v' F' e (bs ++ s.data.toList) → w.grownBy w' v.ownBlock → (∀ x ∈ F', x ∈ F ∨ w.heap.size ≤ x) → wpList P ops Q rest (a.put o.dst v') w') : wpList P ops Q (o :: rest) a w := by
 refine wpList_plain hgd fun K hK => ?_
 obtain ⟨v', w', F', hr, h2, h3, h4⟩ := run_app_row (P := P) w t u o.type e i ht hu hi hz hsize hby v F bs hrow s hbytes
 unfold Oper.wp execOp
 simp only [ho, resolve, invoke, builtin, Sem.run_bind, Sem.run_pure, Result.andThen_ok, List.map_toArray, List.map_cons, List.map_nil, hs, hx, hr]
 exact hK _ _ (h v' w' F' h2 h3 h4)
theorem setCell_heap0 {w : World} {g : Nat} {cs : Array Value} {T : TypeId} (h : w.heap[g]? = some (.cells cs T (0, 0))) (j : Nat) (v : Value) : (w.setCell ⟨g, j, none⟩ v).heap[g]? = some (.cells (cs.setIfInBounds j v) T (0, 0)) := by
 rw [setCell_eq_setRow w g j cs T (0, 0) v h]
 exact setRow_heap w g cs _ T _ h
theorem setCell_other0 {w : World} {g k : Nat} (hk : k ≠ g) (j : Nat) (v : Value) : (w.setCell ⟨g, j, none⟩ v).heap[k]? = w.heap[k]? := by
 simp [World.setCell, Array.getElem?_modify, Ne.symm hk]
theorem setCell_size0 {w : World} {g : Nat} (j : Nat) (v : Value) : (w.setCell ⟨g, j, none⟩ v).heap.size = w.heap.size := by simp [World.setCell]
theorem rowR_keep {w w' : World} {v : Value} {F : List Nat} {E : TypeId} {bs : List UInt8} (h : rowR w v F E bs) (hk : ∀ x ∈ F, w'.heap[x]? = w.heap[x]?) : rowR w' v F E bs := by
 rcases h with h | ⟨r, cap, cur, fz, e1, rfl, e3, e4⟩
 ·exact .inl h
 ·exact .inr ⟨r, cap, cur, fz, e1, rfl, by rw [hk r (by simp)]; exact e3, e4⟩
theorem rowR_lt {w : World} {v : Value} {F : List Nat} {E : TypeId} {bs : List UInt8} (h : rowR w v F E bs) : (∀ x ∈ F, x < w.heap.size) ∧ F.Nodup := by
 rcases h with ⟨_, _, rfl⟩ | ⟨r, cap, cur, fz, e1, rfl, e3, e4⟩
 ·simp
 ·exact ⟨fun x hx => by simp at hx; subst hx; exact lt_of_heap e3, by simp⟩
structure OnlyB (w w' : World) (b : Nat) : Prop where
 os : w'.os = w.os
 tape : w'.tape = w.tape
 output : w'.output = w.output
 size : w'.heap.size = w.heap.size
 ch : ∀ x, x ≠ b → w'.heap[x]? = w.heap[x]?
set_option maxHeartbeats 1000000 in
set_option maxRecDepth 100000 in
theorem str_p (L : Lays.n169 P ρ) (X : Builder.Extra P ρ) (b : Nat) (F : List Nat) (bs : List UInt8) (w : World) (h : bldR w b F (ρ.t 72) (ρ.t 5) bs) (hb : b ∉ F) :
  Calls P (ρ.f 169) #[.pointer (some ⟨b, 0, none⟩)] w fun e w' => e = .returned (.string ⟨bs.toArray⟩) ∧ bldR w' b F (ρ.t 72) (ρ.t 5) bs ∧ Kept w w' (b :: F) (b :: F) := by
 obtain ⟨p, v, hbk, hp, hrow⟩ := h
 have hlb := lt_of_heap hbk
 obtain ⟨l1, l2⟩ := rowR_lt hrow
 have mixed := L.mixed
 have t72 := L.t72; have a72 := L.a72; have z72 := L.z72; have v72 := L.v72; have u72 := run_underlying L.t72
 have t70 := L.t70; have a70 := L.a70; have z70 := L.z70; have v70 := L.v70; have u70 := run_underlying L.t70
 have t37 := L.t37; have a37 := L.a37; have z37 := L.z37; have v37 := L.v37; have u37 := run_underlying L.t37
 have t127 := L.t127; have a127 := L.a127; have z127 := L.z127; have v127 := L.v127; have u127 := run_underlying L.t127
 have t3 := L.t3; have a3 := L.a3; have z3 := L.z3; have v3 := L.v3; have u3 := run_underlying L.t3
 have t9 := L.t9; have a9 := L.a9; have z9 := L.z9; have v9 := L.v9; have u9 := run_underlying L.t9
 have t5 := X.t5; have a5 := X.a5; have z5 := X.z5; have v5 := X.v5; have u5 := run_underlying X.t5
 rcases hrow with ⟨rfl, rfl, rfl⟩ | ⟨g, cap, cur, fz, rfl, rfl, hg, hfz, hnc, hcm, hcs, htake, hne⟩
 ·have hUS := Any.unsafeString_none L X
  have c1 : w.drew.cell? ⟨b, 1, none⟩ = some (.slice none 0 0) := by
   have : w.drew.heap[b]? = some (.cells #[p, .slice none 0 0] (ρ.t 72) (0, 0)) := hbk
   rw [Lib.cell_of_heap this]; rfl
  have hSD : (Builtin.unsafeSliceData_ #[(ρ.t 37)] (ρ.t 127) #[.slice none 0 0]).run P w.drew = .ok (.pointer none) w.drew := rfl
  go_enter L.f169, Body.n169_ntmps ρ
  go_wp2
  go_region_o
  all_goals (go_wp2; go_ret; exact ⟨rfl, ⟨p, _, hbk, hp, .inl ⟨rfl, rfl, rfl⟩⟩, ⟨rfl, rfl, rfl, Nat.le_refl _, fun _ _ _ => rfl, by simp, fun x hx => .inl hx, fun x hx => by simp at hx; subst hx; exact hlb⟩⟩)
 ·rcases Decidable.em (bs = []) with hbs | hbs
  ·subst hbs
   have c1 : w.drew.cell? ⟨b, 1, none⟩ = some (.slice (some ⟨g, 0, none⟩) 0 cap) := by
    have : w.drew.heap[b]? = some (.cells #[p, .slice (some ⟨g, 0, none⟩) 0 cap] (ρ.t 72) (0, 0)) := hbk
    rw [Lib.cell_of_heap this]; rfl
   have hSD : (Builtin.unsafeSliceData_ #[(ρ.t 37)] (ρ.t 127) #[.slice (some ⟨g, 0, none⟩) 0 cap]).run P w.drew = .ok (.pointer (some ⟨g, 0, none⟩)) w.drew :=
    Lib.run_unsafeSliceData_row _ _ _ _ _ _ (by omega)
   have hUS : (Builtin.unsafeString_ #[(ρ.t 127), (ρ.t 3)] (ρ.t 9) #[.pointer (some ⟨g, 0, none⟩), .int .i64 0]).run P w.drew = .ok (.string .empty) w.drew := Lib.run_unsafeString_none _ _ _ _ _
   have hgb : g ≠ b := fun q => hb (by simp [q])
   have hglt := lt_of_heap hg
   go_enter L.f169, Body.n169_ntmps ρ
   go_wp2
   go_region_o
   all_goals (go_wp2; go_ret; exact ⟨rfl, ⟨p, _, hbk, hp, .inr ⟨g, cap, cur, fz, rfl, rfl, hg, hfz, hnc, hcm, hcs, htake, hne⟩⟩, ⟨rfl, rfl, rfl, Nat.le_refl _, fun _ _ _ => rfl, by simpa using (Ne.symm hgb), fun x hx => .inl hx, fun x hx => by simp at hx; rcases hx with rfl | rfl; exact hlb; exact hglt⟩⟩)
  have hl0 : bs.length ≠ 0 := fun q => hbs (List.eq_nil_of_length_eq_zero q)
  have hgb : g ≠ b := fun q => hb (by simp [q])
  have c1 : w.drew.cell? ⟨b, 1, none⟩ = some (.slice (some ⟨g, 0, none⟩) bs.length cap) := by
   have : w.drew.heap[b]? = some (.cells #[p, .slice (some ⟨g, 0, none⟩) bs.length cap] (ρ.t 72) (0, 0)) := hbk
   rw [Lib.cell_of_heap this]; rfl
  have hSD : (Builtin.unsafeSliceData_ #[(ρ.t 37)] (ρ.t 127) #[.slice (some ⟨g, 0, none⟩) bs.length cap]).run P w.drew = .ok (.pointer (some ⟨g, 0, none⟩)) w.drew :=
   Lib.run_unsafeSliceData_row _ _ _ _ _ _ (by omega)
  have hown := rowR_owns (w := w) (E := ρ.t 5) (.inr ⟨g, cap, cur, fz, rfl, rfl, hg, hfz, hnc, hcm, hcs, htake, hne⟩ : rowR w (.slice (some ⟨g, 0, none⟩) bs.length cap) [g] (ρ.t 5) bs)
  have hUS : (Builtin.unsafeString_ #[(ρ.t 127), (ρ.t 3)] (ρ.t 9) #[.pointer (some ⟨g, 0, none⟩), .int .i64 bs.length]).run P w.drew = .ok (.string ⟨bs.toArray⟩) (w.drew.freeze ⟨g, 0, none⟩ bs.length) := by
   refine Lib.run_unsafeString_row w.drew (ρ.t 127) (ρ.t 3) (ρ.t 9) (ρ.t 5) L.t127 X.cellsByte g cur.size (by have hg' : w.drew.heap[g]? = some (.cells cur (ρ.t 5) fz) := hg; simp [World.shape?, hg']) bs hbs (by omega) (by unfold maxLen at hcm; omega) ?_
   intro j x hx
   exact hown.cells (g := g) rfl j (.int .u8 x.toNat) (by simp [Lib.byteCells, hx])
  obtain ⟨fz', hfr, hfr2⟩ : ∃ fz' : Nat × Nat, (w.drew.freeze ⟨g, 0, none⟩ bs.length).heap[g]? = some (.cells cur (ρ.t 5) fz') ∧ fz'.2 ≤ bs.length := by
   obtain ⟨lo, hi'⟩ := fz
   have hg' : w.drew.heap[g]? = some (.cells cur (ρ.t 5) (lo, hi')) := hg
   refine ⟨if lo == hi' then (0, 0 + bs.length) else (min lo 0, max hi' (0 + bs.length)), by simp [World.freeze, hl0, Array.getElem?_modify, hg'], ?_⟩
   have hfz' : hi' ≤ bs.length := hfz
   split
   ·simp
   ·show max hi' (0 + bs.length) ≤ _
    omega
  have hoth : ∀ x, x ≠ g → (w.drew.freeze ⟨g, 0, none⟩ bs.length).heap[x]? = w.heap[x]? := fun x hx => by
   simp only [World.freeze, hl0, if_false]
   rw [Array.getElem?_modify, if_neg (Ne.symm hx)]
   rfl
  have hfs : (w.drew.freeze ⟨g, 0, none⟩ bs.length).heap.size = w.heap.size := by
   simp only [World.freeze, hl0, if_false, Array.size_modify]
   rfl
  have hglt := lt_of_heap hg
  go_enter L.f169, Body.n169_ntmps ρ
  go_wp2
  go_region_o
  all_goals (go_wp2; go_ret; exact ⟨rfl, ⟨p, _, by rw [hoth b (Ne.symm hgb)]; exact hbk, hp, .inr ⟨g, cap, cur, fz', rfl, rfl, hfr, hfr2, hnc, hcm, hcs, htake, hne⟩⟩, ⟨by simp only [World.freeze, hl0, if_false]; rfl, by simp only [World.freeze, hl0, if_false]; rfl, by simp only [World.freeze, hl0, if_false]; rfl, by rw [hfs]; exact Nat.le_refl _, fun x _ hx => hoth x (fun q => hx (by simp [q])), by simpa using (Ne.symm hgb), fun x hx => .inl hx, fun x hx => by rw [hfs]; simp at hx; rcases hx with rfl | rfl; exact hlb; exact hglt⟩⟩)
end
structure BC (P : Program) (f : FuncId) (T E : TypeId) (bs : List UInt8) (rest : List V) (v : V) (bs' : List UInt8) : Prop where
 fn : ∃ fn, P.funcs[f]? = some fn ∧ (fn.name == "runtime.NumGoroutine") = false ∧ fn.body.isNone = false
 run : ∀ (w : World) (g : Nat) (F : List Nat) (args : List Value), repT w [none] [.gone] rest args → bldR w g F T E bs → g ∉ F →
  Calls P f (.pointer (some ⟨g, 0, none⟩) :: args).toArray w fun en w' => ∃ cv F', en = .returned cv ∧ (∀ M h, rep w' M h v cv) ∧ bldR w' g F' T E bs' ∧ Kept w w' (g :: F) (g :: F')
theorem BC.call {P : Program} {f : FuncId} {T E : TypeId} {bs bs' : List UInt8} {rest : List V} {v : V} (bc : BC P f T E bs rest v bs') {b : Nat} {e : Env} {h : List Blk} {K : V → Env → List Blk → Prop}
  (hb : h[b]? = some (.bld T E bs)) (hb0 : Nat.ble 1 b = true) (hr : plains rest = true) (H : K v e (h.set b (.bld T E bs'))) : CallM P f (.pB b [] 0 :: rest) e h K where
 fn := bc.fn
 run B X N M a w args R hargs := by
  obtain ⟨c0, args, rfl, h1, h2⟩ := hargs
  have h2' := plains_rep (w' := w) (M' := [none]) (h' := [.gone]) rest args hr h2
  have hb1 : 1 ≤ b := Nat.le_of_ble_eq_true hb0
  obtain ⟨g, F, m1, rfl⟩ := rep_pB.1 (rep_of_rep1 h1)
  have hbr : bldR w g F T E bs := R.inv.blk b _ _ hb m1
  have nd : (g :: F).Nodup := mO_nodup R.inv m1
  refine (bc.run w g F args h2' hbr (List.nodup_cons.1 nd).1).mono ?_
  rintro en w' ⟨cv, F', rfl, q1, q5, q2⟩
  have hxB : Ext B w' := by
   have hlo := R.inv.lo b _ _ hb m1 rfl
   refine Below.trans R.ext ⟨q2.os, q2.tape, q2.output, q2.size, fun k hk => q2.ch k (Nat.lt_of_lt_of_le hk R.base) (fun hm => ?_)⟩
   have := hlo k hm
   omega
  have q5' := q5
  obtain ⟨p, vv, hbk, _, hrow⟩ := q5'
  have hbk0 := hbr
  obtain ⟨p0, vv0, hbk0, _, _⟩ := hbk0
  obtain ⟨M', R', _, _⟩ := R.reset (w' := w') hxB m1 (by omega) hb (.inl rfl) [] [] (by simp) (by simp) (by simp) (by simp) (m' := some (g, F')) q2.nd
   (fun x hx => (q2.sub x hx).imp id (fun q => .inr q)) q2.hi q2.size (fun x hx hxm => q2.ch x hx hxm) (k' := .bld T E bs') rfl
   (fun _ g1 F1 e1 => by
    cases e1
    refine ⟨⟨F', rfl⟩, ?_, fun arr1 t1 hg1 => ?_⟩
    ·simp only [nOf, hb, List.getElem?_set_self (List.getElem?_eq_some_iff.1 hb).1]
    ·rw [hbk0] at hg1
     cases hg1
     exact ⟨_, hbk, rfl⟩)
   (fun M' h' _ => q5)
  exact ⟨v, cv, e, _, M', rfl, H, R', q1 _ _⟩
theorem clb_ {P : Program} {f : FuncId} {T E : TypeId} {bs bs' : List UInt8} {rest : List V} {v : V} {b : Nat} {e : Env} {h : List Blk} {K : V → Env → List Blk → Prop} {Q : Prop} (bc : BC P f T E bs rest v bs') (H : Q) (hb : h[b]? = some (.bld T E bs) := by rfl)
  (hb0 : Nat.ble 1 b = true := by rfl) (hr : plains rest = true := by rfl) (hk : Q → K v e (h.set b (.bld T E bs')) := by (intro H; (conv => whnf); exact H)) : CallW P false f (.pB b [] 0 :: rest) e h K :=
 ⟨.inr ⟨rfl, bc.call hb hb0 hr (hk H)⟩⟩
section
variable {P : Program} {ρ : Ren}
theorem nilIface_top {w : World} {M : MM} {h : List Blk} : rep1 w M h .top .nilIface := by
 unfold rep1
 rw [if_neg (by simp [V.isAgg])]
 exact ⟨_, rfl, rfl⟩
theorem bc_str (L : Lays.n169 P ρ) (X : Builder.Extra P ρ) {fn : Func} (h1 : P.funcs[ρ.f 169]? = some fn) (h2 : (fn.name == "runtime.NumGoroutine") = false) (h3 : fn.body.isNone = false) (bs : List UInt8) :
  BC P (ρ.f 169) (ρ.t 72) (ρ.t 5) bs [] (.d (.str ⟨bs.toArray⟩)) bs where
 fn := ⟨fn, h1, h2, h3⟩
 run w g F args hargs hb hg := by
  cases hargs
  have hsz : bs.length ≤ maxLen := by
   obtain ⟨p, v, _, _, hr⟩ := hb
   rcases hr with ⟨_, rfl, _⟩ | ⟨r, cap, cur, fz, _, _, _, _, q1, q2, _⟩
   ·simp
   ·omega
  refine (str_p L X g F bs w hb hg).mono ?_
  rintro en w' ⟨rfl, k1, k2⟩
  exact ⟨_, F, rfl, fun M h => rep_str.2 ⟨rfl, hsz⟩, k1, k2⟩
end
open Go.RowKit Go.Shelf
set_option maxHeartbeats 1000000 in
set_option maxRecDepth 100000 in
theorem cc_used (b : Nat) (w : World) (h0 : w.cell? ⟨b, 0, none⟩ = some (.pointer (some ⟨b, 0, none⟩))) :
  Calls Tryz.prog 62 #[.pointer (some ⟨b, 0, none⟩)] w fun e w' => e = .returned (.tuple #[]) ∧ w' = w := by
 obtain ⟨j, hj, hjs⟩ := Option.map_eq_some_iff.1 (show (Tryz.prog.info? 87).map (·.size) = some 2 by kernel_rfl)
 go_enter Tryz.func62, Tryz.ntmps62
 go_wp2
 rw [Lib.run_neq_ptr_same w _ Tryz.underlying85 hj]
 go_wp2
 go_end0
 exact ⟨rfl, rfl⟩
set_option maxHeartbeats 1000000 in
set_option maxRecDepth 100000 in
theorem cc_fresh (b : Nat) (w : World) (h0 : w.cell? ⟨b, 0, none⟩ = some (.pointer none)) (hsh : w.shape? b = some (87, 2)) (hfz : w.frozen? ⟨b, 0, none⟩ = false) :
  Calls Tryz.prog 62 #[.pointer (some ⟨b, 0, none⟩)] w fun e w' => e = .returned (.tuple #[]) ∧ w' = w.setCell ⟨b, 0, none⟩ (.pointer (some ⟨b, 0, none⟩)) := by
 obtain ⟨j, hj, hjs⟩ := Option.map_eq_some_iff.1 (show (Tryz.prog.info? 87).map (·.size) = some 2 by kernel_rfl)
 go_enter Tryz.func62, Tryz.ntmps62
 go_wp2
 rw [Lib.run_to_unsafe w ⟨b, 0, none⟩ Tryz.underlying85 Tryz.underlying189 hj (by rw [hjs]; decide) hsh (Nat.zero_lt_succ 1)]
 simp only [Result.andThen]
 rw [Oper.upon_value]
 go_wp2
 rw [run_callFunc_extern Tryz.func106 (by kernel_rfl) (by kernel_rfl) (by kernel_rfl) (e := Extern.AbiNoEscape.same) (by kernel_rfl)]
 rw [Lib.run_noEscape]
 simp only [Result.andThen]
 rw [Oper.upon_value]
 go_wp2
 rw [Lib.run_from_unsafe w ⟨b, 0, none⟩ Tryz.underlying189 Tryz.underlying85 hj hsh (by kernel_rfl)]
 simp only [Result.andThen]
 rw [Oper.upon_value]
 go_wp2
 go_end0
 exact ⟨rfl, rfl⟩
theorem cc_p (b : Nat) (F : List Nat) (bs : List UInt8) (w : World) (h : bldR w b F 87 5 bs) (hb : b ∉ F) :
  Calls Tryz.prog 62 #[.pointer (some ⟨b, 0, none⟩)] w fun e w' => e = .returned (.tuple #[]) ∧ (∃ v, w'.heap[b]? = some (.cells #[.pointer (some ⟨b, 0, none⟩), v] 87 (0, 0)) ∧ rowR w' v F 5 bs) ∧
   OnlyB w w' b := by
 obtain ⟨p, v, h1, h2, h3⟩ := h
 rcases h2 with rfl | rfl
 ·refine (cc_fresh b w (by rw [Lib.cell_of_heap h1]; rfl) (by simp [World.shape?, h1]) (Lib.frozen_of_heap h1 0)).mono ?_
  rintro e w' ⟨rfl, rfl⟩
  exact ⟨rfl, ⟨v, by rw [setCell_heap0 h1]; rfl, rowR_keep h3 fun x hx => setCell_other0 (by rintro rfl; exact hb hx) 0 _⟩, ⟨rfl, rfl, rfl, setCell_size0 0 _, fun x hx => setCell_other0 hx 0 _⟩⟩
 ·refine (cc_used b w (by rw [Lib.cell_of_heap h1]; rfl)).mono ?_
  rintro e w' ⟨rfl, rfl⟩
  exact ⟨rfl, ⟨v, h1, h3⟩, ⟨rfl, rfl, rfl, rfl, fun _ _ => rfl⟩⟩
set_option maxHeartbeats 2000000 in
set_option maxRecDepth 100000 in
theorem wr_p (b : Nat) (F : List Nat) (bs : List UInt8) (s : ByteArray) (w : World) (h : bldR w b F 87 5 bs) (hb : b ∉ F) (hlen : bs.length + s.size ≤ 140737488355328) :
  Calls Tryz.prog 22 #[.pointer (some ⟨b, 0, none⟩), .string s] w fun e w' => e = .returned (.tuple #[.int .i64 s.size, .nilIface]) ∧ ∃ F', bldR w' b F' 87 5 (bs ++ s.data.toList) ∧ Kept w w' (b :: F) (b :: F') := by
 obtain ⟨i0, hi, hz0, hz1, hz2⟩ := info_parts (show (Tryz.prog.info? 5).map (fun i => (i.zero, i.size, i.bytes)) = some (some (.int .u8 0), 1, 1) by kernel_rfl)
 have hbw : b < w.heap.size := by obtain ⟨p, v, h1, _⟩ := h; exact lt_of_heap h1
 go_enter Tryz.func22, Tryz.ntmps22
 go_wp2_with (go_at_call 62; refine (cc_p b F bs _ h hb).mono ?_)
 rintro e w1 ⟨rfl, ⟨v, hbk, hrow⟩, ho⟩
 have c0 : w1.cell? ⟨b, 0, none⟩ = some (.pointer (some ⟨b, 0, none⟩)) := by rw [Lib.cell_of_heap hbk]; rfl
 have c1 : w1.cell? ⟨b, 1, none⟩ = some v := by rw [Lib.cell_of_heap hbk]; rfl
 go_wp2_with (at_builtin; refine wpList_app_row rfl _ _ 22 9 rfl 5 i0 Tryz.underlying22 Tryz.underlying9 hi hz0 hz1 hz2 _ F bs rfl hrow s rfl hlen ?_)
 intro v' w2 F' hrow' hgrow hF'
 have hnb : some b ≠ v.ownBlock := fun q => hb ((rowR_block hrow b).1 q.symm)
 have hb2 : w2.heap[b]? = some (.cells #[.pointer (some ⟨b, 0, none⟩), v] 87 (0, 0)) := by
  rw [hgrow.block b (lt_of_heap hbk) hnb]
  exact hbk
 have d0 : w2.cell? ⟨b, 0, none⟩ = some (.pointer (some ⟨b, 0, none⟩)) := by rw [Lib.cell_of_heap hb2]; rfl
 have d1 : w2.cell? ⟨b, 1, none⟩ = some v := by rw [Lib.cell_of_heap hb2]; rfl
 have f1 : w2.frozen? ⟨b, 1, none⟩ = false := Lib.frozen_of_heap hb2 1
 obtain ⟨ao, n', cap, rfl⟩ : ∃ ao n' cap, v' = .slice ao n' cap := by
  rcases hrow' with ⟨hv, _⟩ | ⟨g, cap, cur, fz, hv, _⟩
  ·exact ⟨_, _, _, hv⟩
  ·exact ⟨_, _, _, hv⟩
 have hbF' : b ∉ F' := fun hx => by
  rcases hF' b hx with q | q
  ·exact hb q
  ·have := lt_of_heap hbk; omega
 go_wp2
 go_ret2
 refine ⟨rfl, F', ⟨_, _, by rw [setCell_heap0 hb2]; rfl, .inr rfl, rowR_keep hrow' fun x hx => setCell_other0 (by rintro rfl; exact hbF' hx) 1 _⟩, ?_⟩
 obtain ⟨l1, l2⟩ := rowR_lt hrow'
 obtain ⟨o1, o2, o3, o4, o5⟩ := ho
 refine ⟨hgrow.os.trans o1, hgrow.tape.trans o2, hgrow.output.trans o3, by rw [setCell_size0]; have := hgrow.size; omega, fun x hx hxL => ?_, by simp [hbF', l2], fun x hx => ?_, fun x hx => ?_⟩
 ·have hxb : x ≠ b := fun q => hxL (by simp [q])
  rw [setCell_other0 hxb, hgrow.block x (by omega) (fun q => hxL (by simp [(rowR_block hrow x).1 q.symm])), o5 x hxb]
 ·rcases List.mem_cons.1 hx with rfl | hx
  ·exact .inl (by simp)
  ·rcases hF' x hx with q | q
   ·exact .inl (by simp [q])
   ·exact .inr (by omega)
 ·rw [setCell_size0]
  rcases List.mem_cons.1 hx with rfl | hx
  ·exact lt_of_heap hb2
  ·exact l1 x hx
theorem bc_ws {fn : Func} (h1 : Tryz.prog.funcs[22]? = some fn) (h2 : (fn.name == "runtime.NumGoroutine") = false) (h3 : fn.body.isNone = false) (bs : List UInt8) (s : ByteArray) (hlen : bs.length + s.size ≤ 140737488355328) :
  BC Tryz.prog 22 87 5 bs [.d (.str s)] (.tup [.d (.int .i64 (s.size : Nat)), .top]) (bs ++ s.data.toList) where
 fn := ⟨fn, h1, h2, h3⟩
 run w g F args hargs hb hg := by
  obtain ⟨c, cs, rfl, r1, rfl⟩ := hargs
  obtain ⟨rfl, hs⟩ := rep_str.1 (rep_of_rep1 r1)
  refine (wr_p g F bs s w hb hg hlen).mono ?_
  rintro en w' ⟨rfl, F', k1, k2⟩
  refine ⟨_, F', rfl, fun M h => ⟨_, rfl, ?_⟩, k1, k2⟩
  exact ⟨_, _, rfl, rep1_of_rep rfl (rep_int.2 ⟨rfl, nat_inR hs⟩), _, _, rfl, nilIface_top, rfl⟩
theorem ws_b (bs : List UInt8) (s : ByteArray) (hlen : bs.length + s.size ≤ 140737488355328) : BC Tryz.prog 22 87 5 bs [.d (.str s)] (.tup [.d (.int .i64 (s.size : Nat)), .top]) (bs ++ s.data.toList) :=
 bc_ws Tryz.func22 rfl rfl bs s hlen
theorem str_b (bs : List UInt8) : BC Tryz.prog 26 87 5 bs [] (.d (.str ⟨bs.toArray⟩)) bs :=
 bc_str Tryz.lays169 Tryz.Builder_Extra_169 Tryz.func26 rfl rfl bs
def ptT (p : TPt) : ByteArray := decB p.fX ++ ⟨#[44]⟩ ++ decB p.fY
theorem bs1 (c : UInt8) : ByteArray.size ⟨#[c]⟩ = 1 := rfl
theorem bs5 : ByteArray.size ⟨#[97, 120, 105, 115, 32]⟩ = 5 := rfl
theorem bs6 : ByteArray.size ⟨#[109, 97, 115, 116, 101, 114]⟩ = 6 := rfl
theorem bs6' : ByteArray.size ⟨#[100, 101, 108, 116, 97, 32]⟩ = 6 := rfl
theorem dcS (n : Int) : (decB n).size = (decS n).length := by rw [decB, mkS_size]
theorem ptT_size {p : TPt} (h : pntB p = true) : (ptT p).size ≤ 43 := by
 have a := pnt_in h
 have h2 := decS_l (n := p.fX) (by omega) (by omega)
 have h3 := decS_l (n := p.fY) (by omega) (by omega)
 rw [ptT, ByteArray.size_append, ByteArray.size_append, bs1, dcS, dcS]
 omega
theorem axT_bs (a : TAxis) : (⟨#[97, 120, 105, 115, 32]⟩ ++ textB a ++ ⟨#[10]⟩ : ByteArray).data.toList = axT a := by simp [axT]
theorem pkT_bs (p : TPeak) : (⟨#[32]⟩ ++ decB p.fStart ++ ⟨#[58]⟩ ++ decB p.fTop ++ ⟨#[58]⟩ ++ decB p.fEnd : ByteArray).data.toList = pkT p := by
 simp [pkT, decB, mkS]
theorem knT_bs (k : Int) (p : TPt) : (⟨#[32]⟩ ++ decB k ++ ⟨#[58]⟩ ++ ptT p : ByteArray).data.toList = knT k p := by
 simp [knT, ptT, decB, mkS]
theorem dhT_bs (d : TGlyphDelta) : (⟨#[100, 101, 108, 116, 97, 32]⟩ ++ decB d.fGlyph ++ ⟨#[32]⟩ ++ decB d.fAdvance : ByteArray).data.toList = [100, 101, 108, 116, 97, 32] ++ decS d.fGlyph ++ [32] ++ decS d.fAdvance := by
 simp [decB, mkS]
def vtS (v : TVariation) : ByteArray := if wfB v = true then mkS (vrT v) else .empty
theorem PtText_v (p : TPt) (h : pntB p = true) : PC Tryz.prog 25 [.d p.D] (.d (.str (ptT p))) [] := by
 refine pc_intro ttOk (by kernel_rfl) Tryz.func25 rfl (by kernel_rfl) (by kernel_rfl) (by kernel_rfl) (fun hw => ?_)
 have a := pnt_in h
 have h2 := decS_l (n := p.fX) (by omega) (by omega)
 have h3 := decS_l (n := p.fY) (by omega) (by omega)
 have c := ValidPt_v p
 rw [h] at c
 (conv => whnf)
 (repeat' (first | (refine stg_ ?_) | (refine cla_ (c) ?_) | (refine cla_ (Decimal_v _) ?_) | (refine CatW.at (by show _ ≤ 9223372036854775807; simp only [ByteArray.size_append, dcS, bs1]; omega) ?_; conv => whnf) | (refine br_ (fun hbr => ?_) (fun hbr => ?_))))
 (refine RetOK.d rfl rfl ?_; conv => whnf)
 rfl
set_option maxHeartbeats 8000000 in
theorem VariationText_v (v : TVariation) : PC Tryz.prog 7 [.d v.D] (.d (.str (vtS v))) [] := by
 refine pc_intro ttOk (by kernel_rfl) Tryz.func7 rfl (by kernel_rfl) (by kernel_rfl) (by kernel_rfl) (fun hw => ?_)
 have hL : (v.fMasters.map TMaster.D).length = v.fMasters.length := List.length_map _
 have hLa : (v.fAxes.map TAxis.D).length = v.fAxes.length := List.length_map _
 have hT : vtS v = if wfB v = true then mkS (vrT v) else .empty := rfl
 have c0 := wellFormed_v v
 cases hB : wfB v <;> rw [hB] at c0 hT
 ·rw [hT]
  (conv => whnf)
  (repeat' (first | (refine stg_ ?_) | (refine cla_ (c0) ?_) | (refine br_ (fun hbr => ?_) (fun hbr => ?_))))
  all_goals ((refine RetOK.d rfl rfl ?_; conv => whnf); rfl)
 rw [if_pos rfl] at hT
 rw [hT]
 obtain ⟨w1, w2, w3, w4⟩ := wf_in hB
 have hax : ∀ x ∈ v.fAxes, (axT x).length ≤ 1006 := fun x hx => by
  obtain ⟨k, hk⟩ := List.getElem?_of_mem hx
  exact axT_len (axs_at w1 hk)
 have hma : ∀ m ∈ v.fMasters, (maT m).length ≤ 1000300 := fun m hm => maT_len w2 (w4 m hm)
 (conv => whnf)
 (repeat' (first | (refine stg_ ?_) | (refine cla_ (c0) ?_) | (refine br_ (fun hbr => ?_) (fun hbr => ?_))))
 refine LoopW.go (α := Nat) (fun k => [(1, .pB 1 [] 0), (3, .pB 2 [] 0), (18, .d (.lst (v.fAxes.map TAxis.D))), (19, .d (.int .i64 (v.fAxes.map TAxis.D).length)), (20, .d (.int .i64 k))]) (fun k => [.gone, .box (.d v.D), .bld 87 5 ((v.fAxes.take k).flatMap axT)]) (fun k => k ≤ v.fAxes.length) (fun k => v.fAxes.length - k) 0 covT_ (by omega) (fun k hk => ?_)
 have hl1 := fm_take hax k
 (conv => whnf)
 (refine br_ (fun h1 => ?_) (fun h1 => ?_))
 ·obtain ⟨a, ha⟩ := at_lt' (xs := v.fAxes) (k := k) (by omega)
  have hA := axs_at w1 ha
  have hts := textB_size hA
  have c1 := AxisText_v a
  rw [hA, if_pos rfl] at c1
  have c2 := ws_b ((v.fAxes.take k).flatMap axT) (⟨#[97, 120, 105, 115, 32]⟩ ++ textB a ++ ⟨#[10]⟩) (by simp only [ByteArray.size_append, bs1, bs5]; omega)
  rw [axT_bs] at c2
  (repeat' (first | (refine stg_ ?_) | (refine cla_ (c1) ?_) | (refine clb_ (c2) ?_) | (refine CatW.at (by show _ ≤ 9223372036854775807; simp only [ByteArray.size_append, bs1, bs5]; omega) ?_; conv => whnf) | (refine br_ (fun hbr => ?_) (fun hbr => ?_))))
  refine NextW.go (k + 1) (Weak.cov ⟨rfl, rfl, rfl, rfl, rfl, trivial⟩ ⟨trivial, rfl, ?_, trivial⟩ rfl) (by omega) (by omega)
  rw [fm_at axT ha]
 ·obtain rfl : k = v.fAxes.length := by omega
  rw [List.take_length] at *
  (repeat (refine stg_ ?_))
  refine LoopW.go (α := Nat) (fun i => [(3, .pB 2 [] 0), (31, .d (.lst (v.fMasters.map TMaster.D))), (32, .d (.int .i64 (v.fMasters.map TMaster.D).length)), (33, .d (.int .i64 i))]) (fun i => [.gone, .gone, .bld 87 5 (v.fAxes.flatMap axT ++ (v.fMasters.take i).flatMap maT)]) (fun i => i ≤ v.fMasters.length) (fun i => v.fMasters.length - i) 0 (Weak.cov ⟨rfl, rfl, rfl, rfl, trivial⟩ ⟨trivial, trivial, by simp, trivial⟩ rfl) (by omega) (fun i hi => ?_)
  have hl2 := fm_take hma i
  generalize hB1 : v.fAxes.flatMap axT ++ (v.fMasters.take i).flatMap maT = B1 at *
  have hBl : B1.length ≤ 20000000 := by rw [← hB1, List.length_append]; omega
  (conv => whnf)
  (refine br_ (fun h2 => ?_) (fun h2 => ?_))
  ·obtain ⟨m, hm⟩ := at_lt' (xs := v.fMasters) (k := i) (by omega)
   obtain ⟨m1, m2, m3, m4⟩ := w4 m (List.mem_of_getElem? hm)
   have hem : (v.fMasters.map TMaster.D)[i]? = some m.D := by rw [List.getElem?_map, hm]; rfl
   have hLp : (m.fPeaks.map TPeak.D).length = m.fPeaks.length := List.length_map _
   have hLd : (m.fDeltas.map TGlyphDelta.D).length = m.fDeltas.length := List.length_map _
   have c3 := ws_b B1 ⟨#[109, 97, 115, 116, 101, 114]⟩ (by rw [bs6]; omega)
   have hpl : ∀ p ∈ m.fPeaks, (pkT p).length ≤ 66 := fun p hp => pkT_len (m3 p hp)
   have hdl : ∀ d ∈ m.fDeltas, (dlT d).length ≤ 50000 := fun d hd => dlT_len (m4 d hd)
   (repeat' (first | (refine stg_ ?_) | (refine clb_ (c3) ?_) | (refine br_ (fun hbr => ?_) (fun hbr => ?_))))
   refine LoopW.go (α := Nat) (fun k => [(3, .pB 2 [] 0), (7, .pB 3 [] 0), (31, .d (.lst (v.fMasters.map TMaster.D))), (32, .d (.int .i64 (v.fMasters.map TMaster.D).length)), (33, .d (.int .i64 i)), (39, .d (.lst (m.fPeaks.map TPeak.D))), (40, .d (.int .i64 (m.fPeaks.map TPeak.D).length)), (41, .d (.int .i64 k))]) (fun k => [.gone, .gone, .bld 87 5 (B1 ++ mrT ++ (m.fPeaks.take k).flatMap pkT), .box (.d m.D)]) (fun k => k ≤ m.fPeaks.length) (fun k => m.fPeaks.length - k) 0 (Weak.cov ⟨rfl, rfl, rfl, rfl, rfl, rfl, rfl, rfl, trivial⟩ ⟨trivial, trivial, by simp [mrT], rfl, trivial⟩ rfl) (by omega) (fun k hk2 => ?_)
   have hl3 := fm_take hpl k
   have hmr : mrT.length = 6 := rfl
   generalize hB2 : B1 ++ mrT ++ (m.fPeaks.take k).flatMap pkT = B2 at *
   have hBl2 : B2.length ≤ 20001000 := by rw [← hB2, List.length_append, List.length_append]; omega
   (conv => whnf)
   (refine br_ (fun h3 => ?_) (fun h3 => ?_))
   ·obtain ⟨p, hp⟩ := at_lt' (xs := m.fPeaks) (k := k) (by omega)
    have hep : (m.fPeaks.map TPeak.D)[k]? = some p.D := by rw [List.getElem?_map, hp]; rfl
    obtain ⟨p1, p2, p3⟩ := pk_l (m3 p (List.mem_of_getElem? hp))
    have c4 := ws_b B2 (⟨#[32]⟩ ++ decB p.fStart ++ ⟨#[58]⟩ ++ decB p.fTop ++ ⟨#[58]⟩ ++ decB p.fEnd) (by simp only [ByteArray.size_append, bs1, dcS]; omega)
    rw [pkT_bs] at c4
    (repeat' (first | (refine stg_ ?_) | (refine cla_ (Decimal_v _) ?_) | (refine clb_ (c4) ?_) | (refine CatW.at (by show _ ≤ 9223372036854775807; simp only [ByteArray.size_append, bs1, dcS]; omega) ?_; conv => whnf) | (refine br_ (fun hbr => ?_) (fun hbr => ?_))))
    refine NextW.go (k + 1) (Weak.cov ⟨rfl, rfl, rfl, rfl, rfl, rfl, rfl, rfl, trivial⟩ ⟨trivial, trivial, ?_, rfl, trivial⟩ rfl) (by omega) (by omega)
    rw [fm_at pkT hp, ← List.append_assoc, hB2]
   ·obtain rfl : k = m.fPeaks.length := by omega
    rw [List.take_length] at *
    have c5 := ws_b B2 ⟨#[10]⟩ (by rw [bs1]; omega)
    (repeat' (first | (refine stg_ ?_) | (refine clb_ (c5) ?_) | (refine br_ (fun hbr => ?_) (fun hbr => ?_))))
    generalize hB3 : B2 ++ [10] = B3 at *
    have hBl3 : B3.length ≤ 20001001 := by rw [← hB3, List.length_append]; show B2.length + 1 ≤ _; omega
    refine LoopW.go (α := Nat) (fun j => [(3, .pB 2 [] 0), (31, .d (.lst (v.fMasters.map TMaster.D))), (32, .d (.int .i64 (v.fMasters.map TMaster.D).length)), (33, .d (.int .i64 i)), (63, .d (.lst (m.fDeltas.map TGlyphDelta.D))), (64, .d (.int .i64 (m.fDeltas.map TGlyphDelta.D).length)), (65, .d (.int .i64 j))]) (fun j => [.gone, .gone, .bld 87 5 (B3 ++ (m.fDeltas.take j).flatMap dlT)]) (fun j => j ≤ m.fDeltas.length) (fun j => m.fDeltas.length - j) 0 (Weak.cov ⟨rfl, rfl, rfl, rfl, rfl, rfl, rfl, trivial⟩ ⟨trivial, trivial, by rw [List.take_zero, List.flatMap_nil, List.append_nil, ← hB3], trivial⟩ rfl) (by omega) (fun j hj => ?_)
    have hl4 := fm_take hdl j
    generalize hB4 : B3 ++ (m.fDeltas.take j).flatMap dlT = B4 at *
    have hBl4 : B4.length ≤ 21001001 := by rw [← hB4, List.length_append]; omega
    (conv => whnf)
    (refine br_ (fun h4 => ?_) (fun h4 => ?_))
    ·obtain ⟨d, hd⟩ := at_lt' (xs := m.fDeltas) (k := j) (by omega)
     have hed : (m.fDeltas.map TGlyphDelta.D)[j]? = some d.D := by rw [List.getElem?_map, hd]; rfl
     obtain ⟨g1, g2, g3, g4, g5, g6⟩ := gd_in (m4 d (List.mem_of_getElem? hd))
     have b1 := decS_l (n := d.fGlyph) (by omega) (by omega)
     have b2 := decS_l (n := d.fAdvance) (by omega) (by omega)
     have hLk : (d.fKnots.map (D.int .i64)).length = d.fKnots.length := List.length_map _
     have hLm : (d.fMoves.map TPt.D).length = d.fMoves.length := List.length_map _
     have c6 := ws_b B4 (⟨#[100, 101, 108, 116, 97, 32]⟩ ++ decB d.fGlyph ++ ⟨#[32]⟩ ++ decB d.fAdvance) (by simp only [ByteArray.size_append, bs1, bs6', dcS]; omega)
     rw [dhT_bs] at c6
     (repeat' (first | (refine stg_ ?_) | (refine cla_ (Decimal_v _) ?_) | (refine clb_ (c6) ?_) | (refine CatW.at (by show _ ≤ 9223372036854775807; simp only [ByteArray.size_append, bs1, bs6', dcS]; omega) ?_; conv => whnf) | (refine br_ (fun hbr => ?_) (fun hbr => ?_))))
     generalize hB5 : B4 ++ ([100, 101, 108, 116, 97, 32] ++ decS d.fGlyph ++ [32] ++ decS d.fAdvance) = B5 at *
     have hBl5 : B5.length ≤ 21001050 := by rw [← hB5]; simp only [List.length_append, List.length_cons, List.length_nil]; omega
     refine LoopW.go (α := Nat) (fun q => [(3, .pB 2 [] 0), (11, .pB 3 [] 0), (31, .d (.lst (v.fMasters.map TMaster.D))), (32, .d (.int .i64 (v.fMasters.map TMaster.D).length)), (33, .d (.int .i64 i)), (63, .d (.lst (m.fDeltas.map TGlyphDelta.D))), (64, .d (.int .i64 (m.fDeltas.map TGlyphDelta.D).length)), (65, .d (.int .i64 j)), (80, .d (.lst (d.fKnots.map (D.int .i64)))), (81, .d (.int .i64 (d.fKnots.map (D.int .i64)).length)), (82, .d (.int .i64 q))]) (fun q => [.gone, .gone, .bld 87 5 (B5 ++ knsT (d.fKnots.take q) (d.fMoves.take q)), .box (.d d.D)]) (fun q => q ≤ d.fKnots.length) (fun q => d.fKnots.length - q) 0 (Weak.cov ⟨rfl, rfl, rfl, rfl, rfl, rfl, rfl, rfl, rfl, rfl, rfl, trivial⟩ ⟨trivial, trivial, by simp [knsT], rfl, trivial⟩ rfl) (by omega) (fun q hq => ?_)
     have hl5 := knsT_len (ks := d.fKnots.take q) (ps := d.fMoves.take q) (mem_take' g3 q) (mem_take' g4 q)
     have hl6 : (d.fKnots.take q).length ≤ d.fKnots.length := by simp; omega
     generalize hB6 : B5 ++ knsT (d.fKnots.take q) (d.fMoves.take q) = B6 at *
     have hBl6 : B6.length ≤ 21101050 := by rw [← hB6, List.length_append]; omega
     (conv => whnf)
     (refine br_ (fun h5 => ?_) (fun h5 => ?_))
     ·obtain ⟨k, hk'⟩ := at_lt' (xs := d.fKnots) (k := q) (by omega)
      obtain ⟨p, hp⟩ := at_lt' (xs := d.fMoves) (k := q) (by omega)
      have hek : (d.fKnots.map (D.int .i64))[q]? = some (.int .i64 k) := by rw [List.getElem?_map, hk']; rfl
      have hep : (d.fMoves.map TPt.D)[q]? = some p.D := by rw [List.getElem?_map, hp]; rfl
      have hkb := g3 k (List.mem_of_getElem? hk')
      have hpb := g4 p (List.mem_of_getElem? hp)
      have b3 := decS_l (n := k) (by omega) (by omega)
      have b4 := ptT_size hpb
      have c7 := PtText_v p hpb
      have c8 := ws_b B6 (⟨#[32]⟩ ++ decB k ++ ⟨#[58]⟩ ++ ptT p) (by simp only [ByteArray.size_append, bs1, dcS]; omega)
      rw [knT_bs] at c8
      (repeat' (first | (refine stg_ ?_) | (refine cla_ (Decimal_v _) ?_) | (refine cla_ (c7) ?_) | (refine clb_ (c8) ?_) | (refine CatW.at (by show _ ≤ 9223372036854775807; simp only [ByteArray.size_append, bs1, dcS]; omega) ?_; conv => whnf) | (refine br_ (fun hbr => ?_) (fun hbr => ?_))))
      refine NextW.go (q + 1) (Weak.cov ⟨rfl, rfl, rfl, rfl, rfl, rfl, rfl, rfl, rfl, rfl, rfl, trivial⟩ ⟨trivial, trivial, ?_, rfl, trivial⟩ rfl) (by omega) (by omega)
      rw [knsT_at hk' hp, ← List.append_assoc, hB6]
     ·obtain rfl : q = d.fKnots.length := by omega
      rw [List.take_length, List.take_of_length_le (show d.fMoves.length ≤ d.fKnots.length by omega)] at hB6
      have c9 := ws_b B6 ⟨#[10]⟩ (by rw [bs1]; omega)
      (repeat' (first | (refine stg_ ?_) | (refine clb_ (c9) ?_) | (refine br_ (fun hbr => ?_) (fun hbr => ?_))))
      refine NextW.go (j + 1) (Weak.cov ⟨rfl, rfl, rfl, rfl, rfl, rfl, rfl, trivial⟩ ⟨trivial, trivial, ?_, trivial⟩ rfl) (by omega) (by omega)
      rw [fm_at dlT hd, ← List.append_assoc, hB4, ← hB6, ← hB5, dlT]
      simp only [List.append_assoc]
    ·obtain rfl : j = m.fDeltas.length := by omega
     rw [List.take_length] at hB4
     (repeat (refine stg_ ?_))
     refine NextW.go (i + 1) (Weak.cov ⟨rfl, rfl, rfl, rfl, trivial⟩ ⟨trivial, trivial, ?_, trivial⟩ rfl) (by omega) (by omega)
     rw [fm_at maT hm, ← List.append_assoc, hB1, ← hB4, ← hB3, ← hB2, maT]
     simp only [List.append_assoc]
  ·obtain rfl : i = v.fMasters.length := by omega
   rw [List.take_length] at *
   (refine clb_ (str_b _) ?_)
   (repeat (refine stg_ ?_))
   (refine RetOK.d rfl rfl ?_; conv => whnf)
   rw [← hB1]; rfl
def RvK (s : ByteArray) (ls : List ByteArray) (k : Nat) (v : TVariation) (w : ByteArray) : V → Env → List Blk → Prop := fun u e h =>
 (u = .d (.bool true) ∧ ∃ v', stp v w = some v' ∧ Weak e h [(0, .d (.str s)), (2, .pB 1 [] 0), (6, .pB 3 [] 0), (17, .own 2 0 ls.length), (18, .d (.int .i64 ls.length)), (19, .d (.int .i64 ((k : Nat) : Int)))] [.gone, .box (.st [.nils, .nils]), .arr 1 (ls.map D.str) true, .box (.st [.own 4 0 (v').fAxes.length, .own 5 0 (v').fMasters.length]), .arr 5 ((v').fAxes.map TAxis.D) true, .arr 2 ((v').fMasters.map mR) true]) ∨ (u = .d (.bool false) ∧ stp v w = none ∧ Weak e h [(2, .pB 1 [] 0)] [.gone, .box (.st [.nils, .nils])])
def trL8 : OT := .q 0 (.q 1 (.q 2 (.q 3 (.q 4 (.q 5 (.alt 6 (.alt 7 (.q 8 (.q 9 (.alt 10 .done .nil))) .nil) .nil))))))
set_option maxRecDepth 100000 in
set_option maxHeartbeats 8000000 in
theorem rvl_ax (s : ByteArray) (ls : List ByteArray) (k : Nat) (v : TVariation) (w kd rest : ByteArray) (more : Bool) {e : Env} (he : cov e [(0, .d (.str s)), (2, .pB 1 [] 0), (6, .pB 3 [] 0), (17, .own 2 0 ls.length), (18, .d (.int .i64 ls.length)), (19, .d (.int .i64 ((k : Nat) : Int)))]) (hw1 : w.size ≤ 1048576) (hr1 : rest.size ≤ 1048576) (hn1 : v.fAxes.length ≤ 1048577)
  (hc : PC Tryz.prog 56 [.d (.str w), .d (.str ⟨#[32]⟩)] (.tup [.d (.str kd), .d (.str rest), .d (.bool more)]) []) (hk : kd.toList = (⟨#[97, 120, 105, 115]⟩ : ByteArray).toList)
  (hstp : stp v w = match raA rest with | some a => some ⟨v.fAxes ++ [a], v.fMasters⟩ | none => none) :
  CallM Tryz.prog 20 [.pB 3 [] 0, .d (.str w)] e [.gone, .box (.st [.nils, .nils]), .arr 1 (ls.map D.str) true, .box (.st [.own 4 0 (v).fAxes.length, .own 5 0 (v).fMasters.length]), .arr 5 ((v).fAxes.map TAxis.D) true, .arr 2 ((v).fMasters.map mR) true] (RvK s ls k v w) := by
 (refine CallM.inl ttOk (by kernel_rfl) Tryz.func20 rfl (by kernel_rfl) (by kernel_rfl) (by rfl) [(0, .d (.str s)), (2, .pB 1 [] 0), (6, .pB 3 [] 0), (17, .own 2 0 ls.length), (18, .d (.int .i64 ls.length)), (19, .d (.int .i64 ((k : Nat) : Int)))] (cov_get _ he) (fun s0 => ?_); (conv => whnf))
 have c1 := Split_v rest ⟨#[32]⟩ 32 rfl hr1 rfl (by rw [← bTl, ← bTl]; rfl)
 have hd : (v.fAxes.map TAxis.D).length = v.fAxes.length := List.length_map _
 rcases hra : raA rest with _ | a
 ·rw [hra] at hstp
  have c2 := ReadAxis_v rest hr1 (.tup [.st [.d (.str .empty), .d (.int .i64 0), .d (.int .i64 0), .d (.int .i64 0), .nils], .d (.bool false)]) [] ⟨(fun a h => by rw [hra] at h; cases h), fun _ => ⟨rfl, rfl⟩⟩
  have hls : (v.fAxes ++ [(⟨.empty, 0, 0, 0, []⟩ : TAxis)]).length = v.fAxes.length + 1 := by simp
  have hap : (v.fAxes.map TAxis.D).take v.fAxes.length ++ [TAxis.D ⟨.empty, 0, 0, 0, []⟩] = (v.fAxes ++ [(⟨.empty, 0, 0, 0, []⟩ : TAxis)]).map TAxis.D := by
   rw [List.take_of_length_le (by omega), List.map_append]; rfl
  cases more
  all_goals
   repeat' (first | ((fail_if_success (with_reducible apply RegD.id)); (refine stg_ ?_)) | (refine cla_ (hc) ?_) | (refine cla_ (c1) ?_) | (refine cla_ (c2) ?_) | (refine br_ (fun hbr => ?_) (fun hbr => ?_); rotate_left; (focus (exfalso; exact hbr hk))))
   refine RegD.cutT [(10, .d (.bool false))] [.gone, .box (.st [.nils, .nils]), .arr 1 (ls.map D.str) true, .box (.st [.own 4 0 (v.fAxes ++ [(⟨.empty, 0, 0, 0, []⟩ : TAxis)]).length, .own 5 0 v.fMasters.length]), .arr 5 ((v.fAxes ++ [(⟨.empty, 0, 0, 0, []⟩ : TAxis)]).map TAxis.D) true, .arr 2 (v.fMasters.map mR) true, .keep [(0, .d (.str s)), (2, .pB 1 [] 0), (6, .pB 3 [] 0), (17, .own 2 0 ls.length), (18, .d (.int .i64 ls.length)), (19, .d (.int .i64 ((k : Nat) : Int)))] s0] trL8 (by kernel_rfl) ?_ ?_
   ·(conv => whnf)
    rw [hls, ← hap]
    repeat' (first | (refine stg_ ?_) | (refine And.intro ?_ ?_ <;> (conv => whnf)))
    all_goals (refine Weak.cov ?_ ?_ ?_; (focus exact cv_); (focus exact cv_); (focus rfl))
   (conv => whnf)
   (repeat (refine stg_ ?_))
   (refine And.intro rfl ?_; (conv => whnf))
   refine .inr ⟨rfl, hstp, ?_⟩
   (refine Weak.cov ?_ ?_ ?_; (focus exact cv_); (focus exact cv_); (focus rfl))
 ·rw [hra] at hstp
  have c2 := ReadAxis_v rest hr1 (.tup [.st [.d (.str a.fName), .d (.int .i64 a.fMin), .d (.int .i64 a.fDefault), .d (.int .i64 a.fMax), .own 1 0 a.fMap.length], .d (.bool true)]) [.arr 2 (a.fMap.map TAxisPoint.D) true] ⟨(fun b h => by rw [hra] at h; cases h; exact ⟨rfl, rfl⟩), fun h => by rw [hra] at h; cases h⟩
  have hls : (v.fAxes ++ [a]).length = v.fAxes.length + 1 := by simp
  have hap : (v.fAxes.map TAxis.D).take v.fAxes.length ++ [a.D] = (v.fAxes ++ [a]).map TAxis.D := by
   rw [List.take_of_length_le (by omega), List.map_append]; rfl
  cases more
  all_goals
   repeat' (first | ((fail_if_success (with_reducible apply RegD.id)); (refine stg_ ?_)) | (refine cla_ (hc) ?_) | (refine cla_ (c1) ?_) | (refine cla_ (c2) ?_) | (refine br_ (fun hbr => ?_) (fun hbr => ?_); rotate_left; (focus (exfalso; exact hbr hk))))
   refine RegD.cutT [(10, .d (.bool true))] [.gone, .box (.st [.nils, .nils]), .arr 1 (ls.map D.str) true, .box (.st [.own 4 0 (v.fAxes ++ [a]).length, .own 5 0 v.fMasters.length]), .arr 5 ((v.fAxes ++ [a]).map TAxis.D) true, .arr 2 (v.fMasters.map mR) true, .keep [(0, .d (.str s)), (2, .pB 1 [] 0), (6, .pB 3 [] 0), (17, .own 2 0 ls.length), (18, .d (.int .i64 ls.length)), (19, .d (.int .i64 ((k : Nat) : Int)))] s0] trL8 (by kernel_rfl) ?_ ?_
   ·(conv => whnf)
    rw [hls, ← hap]
    repeat' (first | (refine stg_ ?_) | (refine And.intro ?_ ?_ <;> (conv => whnf)))
    all_goals (refine Weak.cov ?_ ?_ ?_; (focus exact cv_); (focus exact cv_); (focus rfl))
   (conv => whnf)
   (repeat (refine stg_ ?_))
   (refine And.intro rfl ?_; (conv => whnf))
   refine .inl ⟨rfl, _, hstp, ?_⟩
   (refine Weak.cov ?_ ?_ ?_; (focus exact cv_); (focus exact cv_); (focus rfl))
end Go.Proofs.YtpdeibhedafcfaaGreatDoor