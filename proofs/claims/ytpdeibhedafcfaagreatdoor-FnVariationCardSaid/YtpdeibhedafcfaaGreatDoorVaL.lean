/- merged: several parts in one text. Leans on no more than they do. -/
import Derived.Test.YtpdeibhedafcfaaGreatDoorRvP
import Derived.Test.YtpdeibhedafcfaaGreatDoorVMSry
import Derived.Test.YtpdeibhedafcfaaGreatDoorVaI
import Derived.Test.YtpdeibhedafcfaaGreatDoorRvX
import Derived.Test.YtpdeibhedafcfaaGreatDoorGsP
set_option linter.unusedSimpArgs false
set_option linter.unusedVariables false
namespace Go.Proofs.YtpdeibhedafcfaaGreatDoor
open Go.RowKit
theorem eqL_self {α : Type} {f : α → α → Bool} (h : ∀ x, f x x = true) : ∀ xs : List α, eqL f xs xs = true
 | [] => rfl
 | x :: t => by simp [eqL, h, eqL_self h t]
theorem vaEq_self (v : TVariation) : vaEq v v = true := by
 have h1 : ∀ x : TAxis, axEq x x = true := fun x => by simp [axEq, eqL_self (f := apEq) (fun y => by simp [apEq])]
 have h2 : ∀ x : TGlyphDelta, gdEq x x = true := fun x => by simp [gdEq, eqL_self (f := qsint64) (fun y => by simp [qsint64]), eqL_self (f := qsPt) (fun y => by simp [qsPt])]
 have h3 : ∀ x : TMaster, maEq x x = true := fun x => by simp [maEq, eqL_self (f := qsPeak) (fun y => by simp [qsPeak]), eqL_self h2]
 simp [vaEq, eqL_self h1, eqL_self h3]
theorem vv_wfB {s : TGlyphSet} {v : TVariation} (hv : vvB v s = true) : wfB v = true := by
 have h1 : vvB v s = (wfB v && (gsB s && v.fMasters.all fun m => m.fDeltas.all (dvB s.fGlyphs))) := rfl
 rw [h1] at hv
 simp only [Bool.and_eq_true] at hv
 exact hv.1
theorem va_len {s : TGlyphSet} {v : TVariation} (h : VaV s v) : (vrT v).length ≤ 1048576 := by
 obtain ⟨h1, h2, h3, h4⟩ := wf_in (vv_wfB h.ok)
 have ha := fm_len (f := axT) (m := 1006) (xs := v.fAxes) (fun a hm => by
  obtain ⟨i, hi⟩ := List.mem_iff_getElem?.1 hm
  exact axT_len (axs_at h1 hi))
 have hm := fm_len (f := maT) (m := 250000) (xs := v.fMasters) (fun m hm => by
  obtain ⟨q1, q2, q3, q4⟩ := h4 m hm
  have a := fm_len (f := pkT) (m := 66) (fun x hx => pkT_len (q3 x hx))
  have b := fm_len (f := dlT) (m := 50000) (fun x hx => dlT_len (q4 x hx))
  have c := (h.va.ld m hm).2.1
  have d := h.gl
  simp only [maT, mrT, List.length_append, List.length_cons, List.length_nil]
  omega)
 have hl := h.va.lm
 simp only [vrT, List.length_append]
 omega
theorem va_text {s : TGlyphSet} {v : TVariation} (h : VaV s v) : (mkS (vrT v)).size ≤ 1048576 := by
 rw [mkS_size]; exact va_len h
theorem noL_def : ∀ {xs : List TAxis}, (∀ a ∈ xs, axB a = true) → noL xs (dfL xs) = List.replicate xs.length 0
 | [], _ => rfl
 | a :: t, h => by
  have h1 := nmI_def (h a (by simp))
  rw [nmI_eq (h a (by simp))] at h1
  have h2 := noL_def (xs := t) (fun x hx => h x (by simp [hx]))
  simp only [noL, dfL, List.map_cons, List.zipWith_cons_cons, List.length_cons, List.replicate_succ] at h2 ⊢
  rw [h1, h2]
theorem pkF_zero {p : TPeak} (h : pkB p = true) (ht : p.fTop ≠ 0) : pkF p 0 = 0 := by
 simp only [pkB, nrm, inB, Bool.and_eq_true, Bool.or_eq_true, decide_eq_true_eq] at h
 unfold pkF
 rw [if_neg (by omega), if_pos (by omega)]
theorem mfK_zero {xs : List TPeak} {ns : List Int} {j : Nat} {p : TPeak} {n : Int} (h1 : xs[j]? = some p) (h2 : ns[j]? = some n) (h0 : pkF p n = 0) : ∀ k, j < k → mfK xs ns k = 0
 | 0, h => by omega
 | k + 1, h => by
  by_cases hk : j = k
  ·subst hk
   rw [mfK_at h1 h2, h0, Int.mul_zero]; rfl
  ·rw [mfK, mfK_zero h1 h2 h0 k (by omega)]
   split
   ·rw [Int.zero_mul]; rfl
   ·rfl
def topB (m : TMaster) : Bool := m.fPeaks.any fun p => decide (p.fTop ≠ 0)
theorem maF_zero {m : TMaster} (hp : ∀ x ∈ m.fPeaks, pkB x = true) (ht : topB m = true) : maF (List.replicate m.fPeaks.length 0) m = 0 := by
 obtain ⟨p, hm, hq⟩ := List.any_eq_true.1 ht
 obtain ⟨j, hj⟩ := List.mem_iff_getElem?.1 hm
 have hl := (List.getElem?_eq_some_iff.1 hj).1
 exact mfK_zero hj (n := 0) (by simp [hl]) (pkF_zero (hp p hm) (by simpa using hq)) _ hl
theorem adS_zero {S M : List TPt} (h : S.length = M.length) : adS 0 S M = S := by
 apply List.ext_getElem?
 intro i
 unfold adS
 rw [List.getElem?_zipWith]
 cases hs : S[i]? with
 | none => rfl
 | some s =>
  have hi := (List.getElem?_eq_some_iff.1 hs).1
  have hm : M[i]? = some M[i] := List.getElem?_eq_getElem (by omega)
  rw [hm]
  simp [adP]
theorem dsF_zero {g : Int} {ls : List TLoop} : ∀ {ds : List TGlyphDelta} {p : SA}, p.1.length = cnK ls → dsF 0 g ls ds p = p
 | [], p, _ => rfl
 | d :: t, p, h => by
  have h1 : dlF 0 ls d p = p := by
   unfold dlF
   rw [adS_zero (by rw [inL_len]; exact h), Int.zero_mul, Int.add_zero]
  rw [dsF, h1, ite_self]
  exact dsF_zero h
theorem msF_zero {ns : List Int} {g : Int} {ls : List TLoop} : ∀ {ms : List TMaster} {p : SA}, p.1.length = cnK ls → (∀ m ∈ ms, maF ns m = 0) → msF ns g ls ms p = p
 | [], p, _, _ => rfl
 | m :: t, p, h, H => by
  rw [msF, H m (by simp), dsF_zero h]
  exact msF_zero h (fun x hx => H x (by simp [hx]))
theorem atB_rep (n k : Nat) : atB (List.replicate n pt0) k = pt0 := by
 unfold atB
 rw [List.getElem?_replicate]
 split <;> rfl
theorem divR_zero : divR 0 16384 = 0 := by decide
theorem vgK_rep (n : Nat) : ∀ (a : Nat) (ks : List TKnot), vgK (List.replicate n pt0) a ks = ks
 | _, [] => rfl
 | a, k :: t => by
  rw [vgK, vgK_rep n (a + 1) t, mvK, atB_rep]
  show (⟨⟨k.fAt.fX + divR 0 16384, k.fAt.fY + divR 0 16384⟩, k.fOn⟩ : TKnot) :: t = k :: t
  rw [divR_zero, Int.add_zero, Int.add_zero]
theorem vgL_rep (n : Nat) : ∀ (a : Nat) (ls : List TLoop), vgL (List.replicate n pt0) a ls = ls
 | _, [] => rfl
 | a, l :: t => by rw [vgL, vgL_rep n _ t, vgK_rep]
theorem vgF_rep (g : TGlyph) (n : Nat) : vgF g (List.replicate n pt0, 0) = g := by
 unfold vgF
 dsimp only
 rw [vgL_rep, divR_zero, Int.add_zero]
theorem inG_self {ms : List TMaster} {ns : List Int} (H : ∀ m ∈ ms, maF ns m = 0) : ∀ (i : Nat) (gs : List TGlyph), inG ms ns i gs = gs
 | _, [] => rfl
 | i, g :: t => by
  rw [inG, inG_self H (i + 1) t, vgS, msF_zero (by simp) H, vgF_rep]
theorem va_inA {s : TGlyphSet} {v : TVariation} (h : VaV s v) (ht : v.fMasters.all topB = true) : inA s v (dfL v.fAxes) = s.fGlyphs := by
 obtain ⟨h1, h2, h3, h4⟩ := wf_in (vv_wfB h.ok)
 have h5 := noL_def (xs := v.fAxes) (fun a ha => by
  obtain ⟨i, hi⟩ := List.mem_iff_getElem?.1 ha
  exact axs_at h1 hi)
 unfold inA
 rw [h5]
 refine inG_self (fun m hm => ?_) _ _
 have h6 := h4 m hm
 rw [← h6.l]
 exact maF_zero h6.p (List.all_eq_true.1 ht m hm)
theorem va_inC {s : TGlyphSet} {v : TVariation} (h : VaV s v) (ht : v.fMasters.all topB = true) : inC s v (dfL v.fAxes) = 0 := by
 unfold inC
 rw [if_pos h.ok, if_pos (by simp [dfL]), if_pos]
 rw [va_inA h ht]
 exact List.all_eq_true.2 (fun g hg => gs_glyph h.gs hg)
def tpL (m : TMaster) : List Int := m.fPeaks.map (·.fTop)
theorem mfK_top {xs : List TPeak} : ∀ k, k ≤ xs.length → mfK xs (xs.map (·.fTop)) k = 16384
 | 0, _ => rfl
 | k + 1, h => by
  have hp : xs[k]? = some xs[k] := List.getElem?_eq_getElem (by omega)
  rw [mfK_at hp (n := xs[k].fTop) (by rw [List.getElem?_map, hp]; rfl), mfK_top k (by omega)]
  have : pkF xs[k] xs[k].fTop = 16384 := by unfold pkF; rw [if_pos (.inr rfl)]
  rw [this]; decide
theorem tp_nms {m : TMaster} (hp : ∀ x ∈ m.fPeaks, pkB x = true) : nmsB (tpL m) m.fPeaks.length = true := by
 unfold nmsB tpL
 rw [Bool.and_eq_true]
 refine ⟨decide_eq_true (by simp), List.all_eq_true.2 fun y hy => ?_⟩
 obtain ⟨p, hm, rfl⟩ := List.mem_map.1 hy
 have := pk_facts (hp p hm)
 simp only [nrm, Bool.and_eq_true, decide_eq_true_eq]
 omega
theorem tp_fac {m : TMaster} (hl : m.fPeaks.length ≤ 3) (hp : ∀ x ∈ m.fPeaks, pkB x = true) : mfV m.fPeaks (tpL m) = 16384 ∧ mfC m.fPeaks (tpL m) = 0 := by
 have hq : pksB m.fPeaks = true := by
  rw [pksB, Bool.and_eq_true]
  exact ⟨decide_eq_true hl, List.all_eq_true.2 hp⟩
 refine ⟨?_, ?_⟩
 ·rw [mfV, if_pos hq, if_pos (tp_nms hp)]
  exact mfK_top _ (Nat.le_refl _)
 ·rw [mfC, if_pos hq, if_pos (tp_nms hp)]
theorem divR_mul (x : Int) : divR (16384 * x) 16384 = x := by
 unfold divR
 rw [if_neg (by decide), if_neg (by omega)]
 omega
structure FdF (s : TGlyphSet) (v : TVariation) (m : TMaster) (d : TGlyphDelta) (g : TGlyph) : Prop where
 g0 : 0 ≤ d.fGlyph
 g1 : d.fGlyph < (s.fGlyphs.length : Nat)
 at' : s.fGlyphs[d.fGlyph.toNat]? = some g
 gl : glB g = true
 gd : gdB d = true
 pk : ∀ x ∈ m.fPeaks, pkB x = true
 pl : m.fPeaks.length = v.fAxes.length
 p3 : m.fPeaks.length ≤ 3
 vv : vvB ⟨v.fAxes, [m]⟩ s = true
 im : imC g.fOutline d.fKnots d.fMoves = 0
 vs : vgS g [m] d.fGlyph (tpL m) = (adS 16384 (List.replicate (cnK g.fOutline.fLoops) pt0) (inL d.fKnots d.fMoves 0 g.fOutline.fLoops), 0 + 16384 * d.fAdvance)
theorem va_first {s : TGlyphSet} {v : TVariation} (h : VaV s v) {m : TMaster} (hm : v.fMasters[0]? = some m) {d : TGlyphDelta} (hd : m.fDeltas[0]? = some d) : ∃ g, FdF s v m d g := by
 have hmm := List.mem_of_getElem? hm
 have hdm := List.mem_of_getElem? hd
 obtain ⟨h1, h2, h3, h4⟩ := wf_in (vv_wfB h.ok)
 have q := h4 m hmm
 have hgd := q.g d hdm
 have hG := gd_in hgd
 have hv1 : vvB v s = (wfB v && (gsB s && v.fMasters.all fun m => m.fDeltas.all (dvB s.fGlyphs))) := rfl
 have hv := h.ok
 rw [hv1] at hv
 simp only [Bool.and_eq_true, List.all_eq_true] at hv
 have hma := hv.2.2 m hmm
 have hdv := hma d hdm
 have hw : wfB v = (axsB v.fAxes && (decide (v.fMasters.length ≤ 8) && v.fMasters.all (maB v.fAxes.length))) := rfl
 have hw2 := hv.1
 rw [hw] at hw2
 simp only [Bool.and_eq_true, List.all_eq_true] at hw2
 have hmb := hw2.2.2 m hmm
 have hvv : vvB ⟨v.fAxes, [m]⟩ s = true := by
  have e1 : vvB ⟨v.fAxes, [m]⟩ s = (wfB ⟨v.fAxes, [m]⟩ && (gsB s && (m.fDeltas.all (dvB s.fGlyphs) && true))) := rfl
  have e2 : wfB ⟨v.fAxes, [m]⟩ = (axsB v.fAxes && (true && (maB v.fAxes.length m && true))) := rfl
  rw [e1, e2, h1, hmb, h.gs, List.all_eq_true.2 hma]; rfl
 unfold dvB at hdv
 cases hg : s.fGlyphs[d.fGlyph.toNat]? with
 | none => rw [hg] at hdv; cases hdv
 | some g =>
  rw [hg] at hdv
  dsimp only at hdv
  have hlt := (List.getElem?_eq_some_iff.1 hg).1
  have hgl := gs_glyph h.gs (List.mem_of_getElem? hg)
  have hF := InF_of (gl_out hgl) hgd hdv
  have hd1 : gdB d = (inB d.fGlyph 0 39 && (knG none d.fKnots && (decide (d.fKnots.length = d.fMoves.length) && (d.fMoves.all pntB && inB d.fAdvance (-262144) 262144)))) := rfl
  have hd2 := hgd
  rw [hd1] at hd2
  simp only [Bool.and_eq_true] at hd2
  have hr := (knG_ri _ _ hd2.2.1).1
  refine ⟨g, hG.g.1, by have := hG.g.1; omega, hg, hgl, hgd, q.p, q.l, by have := q.l; omega, hvv, ?_, ?_⟩
  ·have e1 : imA g.fOutline d.fKnots d.fMoves = true := by
    simp only [imA, Bool.and_eq_true, decide_eq_true_eq, List.all_eq_true]
    exact ⟨hF.vo, hr, hF.ln.symm, hF.mv⟩
   have e2 : imR g.fOutline d.fKnots = true := by
    simp only [imR, List.all_eq_true, Bool.and_eq_true, decide_eq_true_eq]
    exact hF.bd
   rw [imC, if_pos e1, if_pos e2]
  ·have hf : maF (tpL m) m = 16384 := mfK_top _ (Nat.le_refl _)
   have e1 : maB v.fAxes.length m = (decide (m.fPeaks.length = v.fAxes.length) && (decide (m.fDeltas.length ≤ 20) && (m.fPeaks.all pkB && dsG none m.fDeltas))) := rfl
   rw [e1] at hmb
   simp only [Bool.and_eq_true] at hmb
   have hds := hmb.2.2.2
   show dsF (maF (tpL m) m) d.fGlyph g.fOutline.fLoops m.fDeltas (List.replicate (cnK g.fOutline.fLoops) pt0, 0) = _
   rw [hf]
   match hD : m.fDeltas, hd, hds with
   | x :: t, hd, hds =>
    have hx : x = d := by simpa using hd
    subst hx
    simp only [dsG, Bool.and_eq_true] at hds
    rw [dsF, if_pos rfl, dsF_none (fun y hy => by have := dsG_gt hds.2.2 y hy; omega)]
    rfl
theorem atB_ad {n : Nat} {M : List TPt} {a : Nat} {y : TPt} (hl : M.length = n) (hy : M[a]? = some y) : atB (adS 16384 (List.replicate n pt0) M) a = ⟨0 + 16384 * y.fX, 0 + 16384 * y.fY⟩ := by
 have ha := (List.getElem?_eq_some_iff.1 hy).1
 unfold atB adS
 rw [List.getElem?_zipWith, hy, List.getElem?_replicate, if_pos (by omega)]
 rfl
theorem vg_knot {ls : List TLoop} {M : List TPt} (hM : M.length = cnK ls) {i k : Nat} {l : TLoop} {x : TKnot} (hl : ls[i]? = some l) (hx : l.fKnots[k]? = some x) :
  ∃ y, M[cnK (ls.take i) + k]? = some y ∧ (vgK (adS 16384 (List.replicate (cnK ls) pt0) M) (0 + cnK (ls.take i)) l.fKnots)[k]? = some ⟨⟨x.fAt.fX + y.fX, x.fAt.fY + y.fY⟩, x.fOn⟩ := by
 have h1 := cnK_take ls (i + 1)
 rw [take_snoc_get hl, cnK_snoc] at h1
 have hk := (List.getElem?_eq_some_iff.1 hx).1
 have hy : M[cnK (ls.take i) + k]? = some M[cnK (ls.take i) + k] := List.getElem?_eq_getElem (by omega)
 refine ⟨_, hy, ?_⟩
 rw [vgK_get _ _ _ k x hx, mvK, Nat.zero_add, atB_ad hM hy]
 simp only [Int.zero_add, divR_mul]
structure VaPack (s : TGlyphSet) (v : TVariation) (tx : ByteArray) (u2 : Int) (L2 : List D) (c2 : Int) : Prop where
 tx1 : PC Tryz.prog 7 [.d v.D] (.d (.str tx)) []
 rd : PC Tryz.prog 6 [.d (.str tx)] (.tup [.d v.D, .d (.bool true)]) []
 sv : PC Tryz.prog 8 [.d v.D, .d v.D] (.d (.bool true)) []
 df : PC Tryz.prog 9 [.d (.lst (v.fAxes.map TAxis.D))] (.tup [.d (.lst ((dfL v.fAxes).map (D.int .i64))), .d (.int .i64 0)]) []
 ins : PC Tryz.prog 10 [.d s.D, .d v.D, .d (.lst ((dfL v.fAxes).map (D.int .i64)))] (.tup [.d (.st [.int .i64 u2, .lst L2]), .d (.int .i64 c2)]) []
 gs : PC Tryz.prog 11 [.d s.D, .d s.D] (.d (.bool true)) []
 el : v.fMasters.all topB = true → c2 = 0 ∧ u2 = s.fUnit ∧ L2 = s.fGlyphs.map TGlyph.D
theorem va_pack {s : TGlyphSet} {v : TVariation} (h : VaV s v) : ∃ tx u2 L2 c2, VaPack s v tx u2 L2 c2 := by
 have hw := vv_wfB h.ok
 have hax := vv_wf h.ok
 have e1 : v.fAxes.length = (v.fAxes.map TAxis.D).length := (List.length_map _).symm
 have e2 : v.fMasters.length = (v.fMasters.map TMaster.D).length := (List.length_map _).symm
 have e3 : v.fAxes.length = ((dfL v.fAxes).map (D.int .i64)).length := by simp [dfL]
 have e4 : s.fGlyphs.length = (s.fGlyphs.map TGlyph.D).length := (List.length_map _).symm
 have e5 : s.fGlyphs.length = ((inA s v (dfL v.fAxes)).map TGlyph.D).length := by rw [List.length_map, inA_len]
 have c1 := VariationText_v v
 rw [vtS, if_pos hw] at c1
 have c2 : PC Tryz.prog 6 [.d (.str (mkS (vrT v)))] (.tup [.d v.D, .d (.bool true)]) [] :=
  (ReadVariation_v (mkS (vrT v)) (va_text h) (.tup [.st [.own 1 0 v.fAxes.length, .own 2 0 v.fMasters.length], .d (.bool true)]) [.arr 5 (v.fAxes.map TAxis.D) true, .arr 2 (v.fMasters.map TMaster.D) true] ⟨(fun x hx => by rw [show mkS (vrT v) = txR v from rfl, rv_text hw] at hx; cases hx; exact ⟨rfl, rfl⟩), fun hx => by rw [show mkS (vrT v) = txR v from rfl, rv_text hw] at hx; cases hx⟩).frzT (xs := [v.D, .bool true])
   ⟨_, _, rfl, ⟨_, rfl, _, _, rfl, ⟨by decide, rfl, _, _, _, rfl, e1, rfl⟩, _, _, rfl, ⟨by decide, rfl, _, _, _, rfl, e2, rfl⟩, rfl⟩, _, _, rfl, rfl, rfl⟩
 have c3 := specSameVariation_v v v
 rw [vaEq_self] at c3
 have c4 : PC Tryz.prog 9 [.d (.lst (v.fAxes.map TAxis.D))] (.tup [.d (.lst ((dfL v.fAxes).map (D.int .i64))), .d (.int .i64 0)]) [] :=
  (DefaultsOf_v v.fAxes hax).frzT (xs := [.lst ((dfL v.fAxes).map (D.int .i64)), .int .i64 0]) ⟨_, _, rfl, ⟨by decide, rfl, _, _, _, rfl, e3, rfl⟩, _, _, rfl, rfl, rfl⟩
 have c5 := specSameGlyphSet_s s h.gs (by have := h.gl; omega) (fun g hg => gs_glyph h.gs hg)
 by_cases hC : inC s v (dfL v.fAxes) = 0
 ·have c6 : PC Tryz.prog 10 [.d s.D, .d v.D, .d (.lst ((dfL v.fAxes).map (D.int .i64)))] (.tup [.d (.st [.int .i64 s.fUnit, .lst ((inA s v (dfL v.fAxes)).map TGlyph.D)]), .d (.int .i64 0)]) [] :=
   (InstanceOf_v s v (dfL v.fAxes) (.tup [.st [.d (.int .i64 s.fUnit), .own 1 0 s.fGlyphs.length], .d (.int .i64 0)]) [.arr 7 ((inA s v (dfL v.fAxes)).map TGlyph.D) true] (fun _ => ⟨rfl, rfl⟩) (fun q => absurd hC q)).frzT (xs := [.st [.int .i64 s.fUnit, .lst ((inA s v (dfL v.fAxes)).map TGlyph.D)], .int .i64 0])
    ⟨_, _, rfl, ⟨_, rfl, _, _, rfl, rfl, _, _, rfl, ⟨by decide, rfl, _, _, _, rfl, e5, rfl⟩, rfl⟩, _, _, rfl, rfl, rfl⟩
  refine ⟨_, _, _, 0, c1, c2, c3, c4, c6, c5, fun ht => ⟨rfl, rfl, ?_⟩⟩
  rw [va_inA h ht]
 ·have c6 : PC Tryz.prog 10 [.d s.D, .d v.D, .d (.lst ((dfL v.fAxes).map (D.int .i64)))] (.tup [.d (.st [.int .i64 0, .lst []]), .d (.int .i64 (inC s v (dfL v.fAxes)))]) [] :=
   (InstanceOf_v s v (dfL v.fAxes) (.tup [.st [.d (.int .i64 0), .nils], .d (.int .i64 (inC s v (dfL v.fAxes)))]) [] (fun q => absurd q hC) (fun _ => ⟨rfl, rfl⟩)).frzT (xs := [.st [.int .i64 0, .lst []], .int .i64 (inC s v (dfL v.fAxes))])
    ⟨_, _, rfl, ⟨_, rfl, _, _, rfl, rfl, _, _, rfl, rfl, rfl⟩, _, _, rfl, rfl, rfl⟩
  exact ⟨_, _, _, _, c1, c2, c3, c4, c6, c5, fun ht => absurd (va_inC h ht) hC⟩
structure FdPack (s : TGlyphSet) (v : TVariation) (m : TMaster) (d : TGlyphDelta) (g : TGlyph) (G : TGlyph) (c4 : Int) (M : List TPt) : Prop where
 mf : PC Tryz.prog 12 [.d m.D, .d (.lst ((tpL m).map (D.int .i64)))] (.tup [.d (.int .i64 16384), .d (.int .i64 0)]) []
 vg : PC Tryz.prog 13 [.d s.D, .d (.st [.lst (v.fAxes.map TAxis.D), .lst [m.D]]), .d (.int .i64 d.fGlyph), .d (.lst ((tpL m).map (D.int .i64)))] (.tup [.d G.D, .d (.int .i64 c4)]) []
 im : PC Tryz.prog 14 [.d g.fOutline.D, .d (.lst (d.fKnots.map (D.int .i64))), .d (.lst (d.fMoves.map TPt.D))] (.tup [.d (.lst (M.map TPt.D)), .d (.int .i64 0)]) []
 cc : c4 = 0 ∨ c4 = 2
 ad : c4 = 0 → G.fAdvance = g.fAdvance + d.fAdvance
 ll : c4 = 0 → G.fOutline.fLoops.length = g.fOutline.fLoops.length
 ml : M.length = cnK g.fOutline.fLoops
 mb : ∀ p ∈ M, ptN p
 kn : c4 = 0 → ∀ (i : Nat) (l : TLoop), g.fOutline.fLoops[i]? = some l → ∃ l', G.fOutline.fLoops[i]? = some l' ∧ l'.fKnots.length = l.fKnots.length ∧ ∀ (k : Nat) (x : TKnot), l.fKnots[k]? = some x → ∃ y, M[cnK (g.fOutline.fLoops.take i) + k]? = some y ∧ l'.fKnots[k]? = some ⟨⟨x.fAt.fX + y.fX, x.fAt.fY + y.fY⟩, x.fOn⟩
theorem fd_pack {s : TGlyphSet} {v : TVariation} {m : TMaster} {d : TGlyphDelta} {g : TGlyph} (F : FdF s v m d g) : ∃ G c4 M, FdPack s v m d g G c4 M := by
 have cM := MasterFactor_v m (tpL m)
 rw [(tp_fac F.p3 F.pk).1, (tp_fac F.p3 F.pk).2] at cM
 have hG := gd_in F.gd
 have hLM := inL_len d.fKnots d.fMoves 0 g.fOutline.fLoops
 have e1 : cnK g.fOutline.fLoops = ((inL d.fKnots d.fMoves 0 g.fOutline.fLoops).map TPt.D).length := by rw [List.length_map, hLM]
 have cI : PC Tryz.prog 14 [.d g.fOutline.D, .d (.lst (d.fKnots.map (D.int .i64))), .d (.lst (d.fMoves.map TPt.D))] (.tup [.d (.lst ((inL d.fKnots d.fMoves 0 g.fOutline.fLoops).map TPt.D)), .d (.int .i64 0)]) [] :=
  (InferMoves_v g.fOutline d.fKnots d.fMoves (by have := hG.n; omega) (.tup [.own 1 0 (cnK g.fOutline.fLoops), .d (.int .i64 0)]) [.arr 2 ((inL d.fKnots d.fMoves 0 g.fOutline.fLoops).map TPt.D) true] (fun _ => ⟨rfl, rfl⟩) (fun q => absurd F.im q)).frzT (xs := [.lst ((inL d.fKnots d.fMoves 0 g.fOutline.fLoops).map TPt.D), .int .i64 0]) ⟨_, _, rfl, ⟨by decide, rfl, _, _, _, rfl, e1, rfl⟩, _, _, rfl, rfl, rfl⟩
 have hmb := inL_bnd (ns := d.fKnots) (ms := d.fMoves) hG.m 0 g.fOutline.fLoops
 have hnm : nmsB (tpL m) v.fAxes.length = true := by rw [← F.pl]; exact tp_nms F.pk
 have hvs := F.vs
 have hvc : vgC s ⟨v.fAxes, [m]⟩ d.fGlyph (tpL m) = if glB (vgF g (vgS g [m] d.fGlyph (tpL m))) = true then 0 else 2 := by
  rw [vgC, if_pos F.vv, if_pos ⟨F.g0, F.g1⟩, if_pos hnm, F.at']
 by_cases hC : vgC s ⟨v.fAxes, [m]⟩ d.fGlyph (tpL m) = 0
 ·have f1 : g.fOutline.fLoops.length = ((vgF g (vgS g [m] d.fGlyph (tpL m))).fOutline.fLoops.map TLoop.D).length := by rw [List.length_map]; exact (vgL_len _ _ _).symm
  have f2 : g.fParts.length = (g.fParts.map TPart.D).length := (List.length_map _).symm
  have f3 : g.fAnchors.length = (g.fAnchors.map TAnchor.D).length := (List.length_map _).symm
  have cV : PC Tryz.prog 13 [.d s.D, .d (TVariation.D ⟨v.fAxes, [m]⟩), .d (.int .i64 d.fGlyph), .d (.lst ((tpL m).map (D.int .i64)))] (.tup [.d (vgF g (vgS g [m] d.fGlyph (tpL m))).D, .d (.int .i64 0)]) [] :=
   (VaryGlyph_v s ⟨v.fAxes, [m]⟩ d.fGlyph (tpL m) (.tup [.st [.d (.str g.fName), .d (.int .i64 g.fCode), .d (.int .i64 (vgF g (vgS g [m] d.fGlyph (tpL m))).fAdvance), .st [.own 1 0 g.fOutline.fLoops.length], .own 2 0 g.fParts.length, .own 3 0 g.fAnchors.length, .d (.str g.fHints)], .d (.int .i64 0)]) [.arr 1 ((vgF g (vgS g [m] d.fGlyph (tpL m))).fOutline.fLoops.map TLoop.D) true, .arr 3 (g.fParts.map TPart.D) true, .arr 3 (g.fAnchors.map TAnchor.D) true] (fun _ g' hg' => by rw [F.at'] at hg'; cases hg'; exact ⟨rfl, rfl⟩) (fun q => absurd hC q)).frzT (xs := [(vgF g (vgS g [m] d.fGlyph (tpL m))).D, .int .i64 0])
    ⟨_, _, rfl, ⟨_, rfl, _, _, rfl, rfl, _, _, rfl, rfl, _, _, rfl, rfl, _, _, rfl, ⟨_, rfl, _, _, rfl, ⟨by decide, rfl, _, _, _, rfl, f1, rfl⟩, rfl⟩, _, _, rfl, ⟨by decide, rfl, _, _, _, rfl, f2, rfl⟩, _, _, rfl, ⟨by decide, rfl, _, _, _, rfl, f3, rfl⟩, _, _, rfl, rfl, rfl⟩, _, _, rfl, rfl, rfl⟩
  refine ⟨vgF g (vgS g [m] d.fGlyph (tpL m)), 0, inL d.fKnots d.fMoves 0 g.fOutline.fLoops, cM, cV, cI, .inl rfl, fun _ => ?_, fun _ => vgL_len _ _ _, hLM, hmb, fun _ i l hl => ?_⟩
  ·rw [hvs]
   show g.fAdvance + divR (0 + 16384 * d.fAdvance) 16384 = _
   rw [Int.zero_add, divR_mul]
  ·refine ⟨_, vgL_get _ _ _ i l hl, vgK_len _ _ _, fun k x hx => ?_⟩
   rw [hvs]
   exact vg_knot hLM hl hx
 ·have hc2 : vgC s ⟨v.fAxes, [m]⟩ d.fGlyph (tpL m) = 2 := by
   rw [hvc] at hC ⊢
   split
   ·rename_i q; rw [if_pos q] at hC; exact absurd rfl hC
   ·rfl
  have cV : PC Tryz.prog 13 [.d s.D, .d (TVariation.D ⟨v.fAxes, [m]⟩), .d (.int .i64 d.fGlyph), .d (.lst ((tpL m).map (D.int .i64)))] (.tup [.d (TGlyph.D ⟨.empty, 0, 0, ⟨[]⟩, [], [], .empty⟩), .d (.int .i64 2)]) [] :=
   (VaryGlyph_v s ⟨v.fAxes, [m]⟩ d.fGlyph (tpL m) (.tup [.st [.d (.str .empty), .d (.int .i64 0), .d (.int .i64 0), .st [.nils], .nils, .nils, .d (.str .empty)], .d (.int .i64 2)]) [] (fun q => absurd q hC) (fun _ => by rw [hc2]; exact ⟨rfl, rfl⟩)).frzT (xs := [TGlyph.D ⟨.empty, 0, 0, ⟨[]⟩, [], [], .empty⟩, .int .i64 2])
    ⟨_, _, rfl, ⟨_, rfl, _, _, rfl, rfl, _, _, rfl, rfl, _, _, rfl, rfl, _, _, rfl, ⟨_, rfl, _, _, rfl, rfl, rfl⟩, _, _, rfl, rfl, _, _, rfl, rfl, _, _, rfl, rfl, rfl⟩, _, _, rfl, rfl, rfl⟩
  exact ⟨_, 2, inL d.fKnots d.fMoves 0 g.fOutline.fLoops, cM, cV, cI, .inr rfl, (fun q => by cases q), (fun q => by cases q), hLM, hmb, (fun q => by cases q)⟩
set_option maxRecDepth 100000 in
set_option maxHeartbeats 16000000 in
theorem FnVariation_v (xs : List UInt8) : PC Tryz.prog 3 [.d (.lst (xs.map bD))] (.d (.bool true)) [] := by
 refine pc_intro ttOk (by kernel_rfl) Tryz.func3 rfl (by kernel_rfl) (by kernel_rfl) (by kernel_rfl) (fun hw => ?_)
 have hLx : (xs.map bD).length = xs.length := List.length_map _
 have c0 := a2Long_v xs []
 have c1 := A2Variation_x xs
 rw [show decide (3000 < ([] : List UInt8).length) = false from rfl, Bool.or_false, show ([] : List UInt8).map bD = [] from rfl] at c0
 (conv => whnf)
 by_cases hlong : 3000 < xs.length
 ·rw [decide_eq_true hlong] at c0
  (repeat' (first | (refine stg_ ?_) | (refine cla_ (c0) ?_) | (refine br_ (fun hbr => ?_) (fun hbr => ?_))))
  all_goals ((refine RetOK.d rfl rfl ?_; conv => whnf); done)
 rw [decide_eq_false hlong] at c0
 (repeat (refine stg_ ?_))
 (refine cla_ (c0) ?_)
 (repeat (refine stg_ ?_))
 refine clx_ c1 ?_
 rintro z bs ⟨ds, ⟨s, v, hv, rfl⟩, rfl, rfl⟩
 refine ⟨rfl, ?_⟩
 obtain ⟨tx, u2, L2, c2, P⟩ := va_pack hv
 (conv => whnf)
 (repeat (refine stg_ ?_))
 (refine cla_ (P.tx1) ?_)
 (repeat (refine stg_ ?_))
 (refine cla_ (P.rd) ?_)
 (repeat (refine stg_ ?_))
 (refine cla_ (P.sv) ?_)
 (repeat (refine stg_ ?_))
 (refine cla_ (P.df) ?_)
 (repeat (refine stg_ ?_))
 (refine cla_ (P.ins) ?_)
 (repeat (refine stg_ ?_))
 have hLm : (v.fMasters.map TMaster.D).length = v.fMasters.length := List.length_map _
 have hm3 := hv.va.lm
 refine LoopW.go (α := Nat × Bool) (fun q => [(3, .pB 1 [] 0), (4, .pB 2 [] 0), (8, .d (.int .i64 0)), (9, .pB 4 [] 0), (10, .d (.int .i64 c2)), (11, .d (.bool q.2)), (12, .d (.int .i64 q.1))]) (fun _ => [.gone, .box (.d s.D), .box (.d v.D), .gone, .box (.d (.st [.int .i64 u2, .lst L2]))])
  (fun q => q.1 ≤ v.fMasters.length ∧ q.2 = (v.fMasters.take q.1).all topB) (fun q => v.fMasters.length - q.1) (0, true) (Weak.cov ?_ ?_ ?_) ⟨by dsimp only; omega, rfl⟩ ?_
 ·exact cv_
 ·exact cv_
 ·rfl
 rintro ⟨i, b⟩ ⟨hi, hb⟩
 dsimp only at hi hb ⊢
 (conv => whnf)
 (repeat (refine stg_ ?_))
 (refine br_ (fun h1 => ?_) (fun h1 => ?_))
 ·obtain ⟨m, hm⟩ := at_lt' (xs := v.fMasters) (k := i) (by omega)
  have hem : (v.fMasters.map TMaster.D)[i]? = some m.D := by rw [List.getElem?_map, hm]; rfl
  have hLp : (m.fPeaks.map TPeak.D).length = m.fPeaks.length := List.length_map _
  have hp3 := (hv.va.ld m (List.mem_of_getElem? hm)).1
  have hbn : (v.fMasters.take (i + 1)).all topB = (b && topB m) := by
   rw [take_snoc_get hm, List.all_append, hb]; simp
  (repeat (refine stg_ ?_))
  refine LoopW.go (α := Nat × Bool) (fun q => [(3, .pB 1 [] 0), (4, .pB 2 [] 0), (8, .d (.int .i64 0)), (9, .pB 4 [] 0), (10, .d (.int .i64 c2)), (11, .d (.bool b)), (12, .d (.int .i64 i)), (13, .d (.bool q.2)), (14, .d (.int .i64 q.1))]) (fun _ => [.gone, .box (.d s.D), .box (.d v.D), .gone, .box (.d (.st [.int .i64 u2, .lst L2]))])
   (fun q => q.1 ≤ m.fPeaks.length ∧ q.2 = (m.fPeaks.take q.1).any fun p => decide (p.fTop ≠ 0)) (fun q => m.fPeaks.length - q.1) (0, false) (Weak.cov ?_ ?_ ?_) ⟨by dsimp only; omega, rfl⟩ ?_
  ·exact cv_
  ·exact cv_
  ·rfl
  rintro ⟨k, c⟩ ⟨hk, hc⟩
  dsimp only at hk hc ⊢
  (conv => whnf)
  (repeat (refine stg_ ?_))
  (refine br_ (fun h2 => ?_) (fun h2 => ?_))
  ·obtain ⟨p, hp⟩ := at_lt' (xs := m.fPeaks) (k := k) (by omega)
   have hep : (m.fPeaks.map TPeak.D)[k]? = some p.D := by rw [List.getElem?_map, hp]; rfl
   have hcn : ((m.fPeaks.take (k + 1)).any fun p => decide (p.fTop ≠ 0)) = (c || decide (p.fTop ≠ 0)) := by
    rw [take_snoc_get hp, List.any_append, hc]; simp
   cases c
   ·(conv => whnf)
    (repeat (refine stg_ ?_))
    refine NextW.go (k + 1, p.fTop != 0) covT_ ⟨by dsimp only; omega, by dsimp only; rw [hcn, Bool.eq_iff_iff]; simp⟩ (by dsimp only; omega)
   ·(conv => whnf)
    (repeat (refine stg_ ?_))
    refine NextW.go (k + 1, true) covT_ ⟨by dsimp only; omega, by dsimp only; rw [hcn]; rfl⟩ (by dsimp only; omega)
  ·have hct : c = topB m := by rw [hc, List.take_of_length_le (by omega)]; rfl
   rw [← hct] at hbn
   cases b
   ·(conv => whnf)
    (repeat (refine stg_ ?_))
    refine NextW.go (i + 1, false) covT_ ⟨by dsimp only; omega, by dsimp only; rw [hbn]; rfl⟩ (by dsimp only; omega)
   ·(conv => whnf)
    (repeat (refine stg_ ?_))
    refine NextW.go (i + 1, c) covT_ ⟨by dsimp only; omega, by dsimp only; rw [hbn]; rfl⟩ (by dsimp only; omega)
 have hbt : b = v.fMasters.all topB := by rw [hb, List.take_of_length_le (by omega)]
 have hel := fun h => P.el (hbt.symm.trans h)
 apply shareL (S := fun e h => ∃ (m : TMaster) (d : TGlyphDelta), v.fMasters[0]? = some m ∧ m.fDeltas[0]? = some d ∧ e = [(3, .pB 1 [] 0), (4, .pB 2 [] 0), (15, .pB 5 [] 0), (16, .own 7 0 0), (17, .d (.int .i64 0))] ∧ h = [.gone, .box (.d s.D), .box (.st [.d (.lst (v.fAxes.map TAxis.D)), .own 6 0 1]), .gone, .gone, .box (.d m.D), .arr 2 [m.D] false, .arr 1 [] true])
 ·intro HN
  cases b
  ·(conv => whnf)
   (repeat (refine stg_ ?_))
   (refine br_ (fun hm0 => ?_) (fun hm0 => ?_))
   ·(repeat (refine stg_ ?_))
    (refine RetOK.d rfl rfl ?_; conv => whnf)
   obtain ⟨m, hm⟩ := at_lt' (xs := v.fMasters) (k := 0) (by omega)
   have hem : (v.fMasters.map TMaster.D)[0]? = some m.D := by rw [List.getElem?_map, hm]; rfl
   have hLd : (m.fDeltas.map TGlyphDelta.D).length = m.fDeltas.length := List.length_map _
   (repeat (refine stg_ ?_))
   (refine br_ (fun hd0 => ?_) (fun hd0 => ?_))
   ·(repeat (refine stg_ ?_))
    (refine RetOK.d rfl rfl ?_; conv => whnf)
   obtain ⟨d, hd⟩ := at_lt' (xs := m.fDeltas) (k := 0) (by omega)
   have hed : (m.fDeltas.map TGlyphDelta.D)[0]? = some d.D := by rw [List.getElem?_map, hd]; rfl
   (repeat (refine stg_ ?_))
   refine LoopW.wk (Weak.cov ?_ ?_ ?_) (HN _ _ ⟨m, d, hm, hd, rfl, rfl⟩)
   ·exact cv_
   ·exact cv_
   ·rfl
  ·obtain ⟨rfl, rfl, rfl⟩ := hel rfl
   have hsD : s.D = .st [.int .i64 s.fUnit, .lst (s.fGlyphs.map TGlyph.D)] := rfl
   have cG := P.gs
   (conv => whnf)
   (repeat (refine stg_ ?_))
   (refine cla_ (cG) ?_)
   (repeat (refine stg_ ?_))
   (refine br_ (fun hm0 => ?_) (fun hm0 => ?_))
   ·(repeat (refine stg_ ?_))
    (refine RetOK.d rfl rfl ?_; conv => whnf)
   obtain ⟨m, hm⟩ := at_lt' (xs := v.fMasters) (k := 0) (by omega)
   have hem : (v.fMasters.map TMaster.D)[0]? = some m.D := by rw [List.getElem?_map, hm]; rfl
   have hLd : (m.fDeltas.map TGlyphDelta.D).length = m.fDeltas.length := List.length_map _
   (repeat (refine stg_ ?_))
   (refine br_ (fun hd0 => ?_) (fun hd0 => ?_))
   ·(repeat (refine stg_ ?_))
    (refine RetOK.d rfl rfl ?_; conv => whnf)
   obtain ⟨d, hd⟩ := at_lt' (xs := m.fDeltas) (k := 0) (by omega)
   have hed : (m.fDeltas.map TGlyphDelta.D)[0]? = some d.D := by rw [List.getElem?_map, hd]; rfl
   (repeat (refine stg_ ?_))
   refine LoopW.wk (Weak.cov ?_ ?_ ?_) (HN _ _ ⟨m, d, hm, hd, rfl, rfl⟩)
   ·exact cv_
   ·exact cv_
   ·rfl
 ·rintro e h ⟨m, d, hm, hd, rfl, rfl⟩
  obtain ⟨g, F⟩ := va_first hv hm hd
  obtain ⟨G, c4, M, Q⟩ := fd_pack F
  have hLp : (m.fPeaks.map TPeak.D).length = m.fPeaks.length := List.length_map _
  have hp3 := F.p3
  refine LoopW.go (α := Nat) (fun k => [(3, .pB 1 [] 0), (4, .pB 2 [] 0), (15, .pB 5 [] 0), (16, .own 7 0 k), (17, .d (.int .i64 k))]) (fun k => [.gone, .box (.d s.D), .box (.st [.d (.lst (v.fAxes.map TAxis.D)), .own 6 0 1]), .gone, .gone, .box (.d m.D), .arr 2 [m.D] false, .arr 1 (((tpL m).take k).map (D.int .i64)) true])
   (fun k => k ≤ m.fPeaks.length) (fun k => m.fPeaks.length - k) 0 (Weak.cov ?_ ?_ ?_) (by omega) (fun k hk => ?_)
  ·exact cv_
  ·exact cv_
  ·rfl
  have hLt : (((tpL m).take k).map (D.int .i64)).length = k := by simp [tpL]; omega
  (conv => whnf)
  (repeat (refine stg_ ?_))
  (refine br_ (fun h3 => ?_) (fun h3 => ?_))
  ·obtain ⟨p, hp⟩ := at_lt' (xs := m.fPeaks) (k := k) (by omega)
   have hep : (m.fPeaks.map TPeak.D)[k]? = some p.D := by rw [List.getElem?_map, hp]; rfl
   have htp : (tpL m)[k]? = some p.fTop := by rw [tpL, List.getElem?_map, hp]; rfl
   have hap : Blk.arr 1 ((((tpL m).take k).map (D.int .i64)).take k ++ [D.int .i64 p.fTop]) true = Blk.arr 1 (((tpL m).take (k + 1)).map (D.int .i64)) true := by
    rw [List.take_of_length_le (by omega), take_snoc_get htp, List.map_append]; rfl
   (repeat (first | ((with_reducible apply ApW.id); (refine ApW.at (by simp only [List.length_cons, List.length_nil]; show _ ≤ 9223372036854775807; omega) (by simp only [List.length_cons, List.length_nil]; show _ * 8 ≤ 140737488355328; omega) ?_; (conv => whnf))) | ((fail_if_success (with_reducible apply RegD.id)); (fail_if_success (with_reducible apply ApW.id)); (refine stg_ ?_))))
   refine NextW.go (k + 1) (Weak.cov ?_ ?_ ?_) (by omega) (by omega)
   ·exact cv_
   ·(repeat' (first | exact trivial | with_reducible rfl | with_reducible exact hap | (refine ⟨?_, ?_⟩) | exact hap | rfl))
   ·rfl
  obtain rfl : k = m.fPeaks.length := by omega
  have htl : (tpL m).take m.fPeaks.length = tpL m := List.take_of_length_le (by simp [tpL])
  rw [htl] at hLt ⊢
  have hd0 : (m.fDeltas.map TGlyphDelta.D)[0]? = some d.D := by rw [List.getElem?_map, hd]; rfl
  have heg : (s.fGlyphs.map TGlyph.D)[d.fGlyph.toNat]? = some g.D := by rw [List.getElem?_map, F.at']; rfl
  have g0 := F.g0
  have hG := gd_in F.gd
  have hga : 0 ≤ g.fAdvance ∧ g.fAdvance ≤ 262144 := by
   have := F.gl
   simp only [glB, inB, Bool.and_eq_true, decide_eq_true_eq] at this
   exact this.2.2.1
  have hda := hG.a
  have cMf := Q.mf
  have cVg := Q.vg
  have cIm := Q.im
  have hLG : (G.fOutline.fLoops.map TLoop.D).length = G.fOutline.fLoops.length := List.length_map _
  have hLg : (g.fOutline.fLoops.map TLoop.D).length = g.fOutline.fLoops.length := List.length_map _
  have hLM : (M.map TPt.D).length = M.length := List.length_map _
  (repeat (refine stg_ ?_))
  (refine cla_ (cMf) ?_)
  (repeat (refine stg_ ?_))
  have hT7 : m.fPeaks.length = ((tpL m).map (D.int .i64)).length := by simp [tpL]
  refine CallW.pre cVg.fn (WeakX.of (e0 := (VS, .tup [.d s.D, .d (.st [.lst (v.fAxes.map TAxis.D), .lst [m.D]]), .d (.int .i64 d.fGlyph), .d (.lst ((tpL m).map (D.int .i64)))]) :: [(3, .pB 1 [] 0), (18, .d (.int .i64 16384)), (19, .d (.int .i64 0)), (20, .pB 8 [] 0)]) (h0 := [.gone, .box (.d s.D), .gone, .gone, .gone, .gone, .gone, .gone, .box (.d d.D)]) (Weak.trans (Weak.giveV VS 7 rfl rfl rfl hT7 (giv_l4 (xs := (tpL m).map (D.int .i64)) rfl rfl rfl)) (Weak.trans (Weak.giveV VS 6 rfl rfl rfl rfl (giv_m4 (xs := [m.D]))) (Weak.cov ?_ ?_ ?_))) ⟨_, _, rfl, rfl, ?_⟩)
  ·exact cv_
  ·exact cv_
  ·rfl
  (refine cla_ (cVg) ?_)
  (repeat (refine stg_ ?_))
  refine IxW.at (by omega) heg ?_
  (conv => whnf)
  (repeat (refine stg_ ?_))
  (refine cla_ (cIm) ?_)
  (repeat (refine stg_ ?_))
  rcases Q.cc with rfl | rfl
  rotate_left
  ·(conv => whnf)
   (repeat (refine stg_ ?_))
   (refine RetOK.d rfl rfl ?_; conv => whnf)
   rfl
  have hGa := Q.ad rfl
  have hGl := Q.ll rfl
  have hGk := Q.kn rfl
  (conv => whnf)
  (repeat (refine stg_ ?_))
  refine IxW.at (by omega) heg ?_
  (conv => whnf)
  (repeat (refine stg_ ?_))
  refine IxW.at (by omega) heg ?_
  (conv => whnf)
  (repeat (refine stg_ ?_))
  (refine br_ (fun ha => ?_) (fun ha => ?_))
  ·exfalso; omega
  (repeat (refine stg_ ?_))
  (refine br_ (fun hb2 => ?_) (fun hb2 => ?_))
  ·exfalso; omega
  (repeat (refine stg_ ?_))
  have hcK := cnK_take g.fOutline.fLoops
  have hc72 : cnK g.fOutline.fLoops ≤ 720 := by
   have h1 := out_in (gl_out F.gl)
   have h2 := cnK_le h1.2
   omega
  have hlo := out_in (gl_out F.gl)
  have hMl := Q.ml
  have hMb := Q.mb
  refine LoopW.go (α := Nat) (fun i => [(21, .pB 9 [] 0), (23, .d (.lst (M.map TPt.D))), (25, .pB 10 [] 0), (26, .d (.int .i64 ((cnK (g.fOutline.fLoops.take i) : Nat) : Int))), (27, .d (.int .i64 i))]) (fun _ => [.gone, .gone, .gone, .gone, .gone, .gone, .gone, .gone, .gone, .box (.d G.D), .box (.d g.fOutline.D)])
   (fun i => i ≤ g.fOutline.fLoops.length) (fun i => g.fOutline.fLoops.length - i) 0 (Weak.cov ?_ ?_ ?_) (by omega) (fun i hi => ?_)
  ·exact cv_
  ·exact cv_
  ·rfl
  have hci := hcK i
  (conv => whnf)
  (repeat (refine stg_ ?_))
  (refine br_ (fun h4 => ?_) (fun h4 => ?_))
  rotate_left
  ·(repeat (refine stg_ ?_))
   have hE : cnK (g.fOutline.fLoops.take i) = cnK g.fOutline.fLoops := by rw [List.take_of_length_le (by omega)]
   (refine RetOK.d rfl rfl ?_; conv => whnf)
   rw [hE, hLM, hMl]
   simp
  obtain ⟨l, hl⟩ := at_lt' (xs := g.fOutline.fLoops) (k := i) (by omega)
  obtain ⟨l', hl', hln, hkn⟩ := hGk i l hl
  have hel : (g.fOutline.fLoops.map TLoop.D)[i]? = some l.D := by rw [List.getElem?_map, hl]; rfl
  have hel' : (G.fOutline.fLoops.map TLoop.D)[i]? = some l'.D := by rw [List.getElem?_map, hl']; rfl
  have hLk : (l.fKnots.map TKnot.D).length = l.fKnots.length := List.length_map _
  have hLk' : (l'.fKnots.map TKnot.D).length = l'.fKnots.length := List.length_map _
  have hl60 := (loop_in (hlo.2 l (List.mem_of_getElem? hl))).2.1
  have hS : cnK (g.fOutline.fLoops.take (i + 1)) = cnK (g.fOutline.fLoops.take i) + l.fKnots.length := by rw [take_snoc_get hl, cnK_snoc]
  have hci2 := hcK (i + 1)
  generalize hfst : cnK (g.fOutline.fLoops.take i) = fst at *
  (repeat (refine stg_ ?_))
  (refine br_ (fun h5 => ?_) (fun h5 => ?_))
  ·exfalso; omega
  (repeat (refine stg_ ?_))
  refine LoopW.go (α := Nat) (fun k => [(21, .pB 9 [] 0), (23, .d (.lst (M.map TPt.D))), (25, .pB 10 [] 0), (26, .d (.int .i64 ((fst + k : Nat) : Int))), (27, .d (.int .i64 i)), (28, .d (.int .i64 k))]) (fun _ => [.gone, .gone, .gone, .gone, .gone, .gone, .gone, .gone, .gone, .box (.d G.D), .box (.d g.fOutline.D)])
   (fun k => k ≤ l.fKnots.length) (fun k => l.fKnots.length - k) 0 (Weak.cov ?_ ?_ ?_) (by omega) (fun k hk => ?_)
  ·exact cv_
  ·exact cv_
  ·rfl
  (conv => whnf)
  (repeat (refine stg_ ?_))
  (refine br_ (fun h6 => ?_) (fun h6 => ?_))
  rotate_left
  ·(repeat (refine stg_ ?_))
   obtain rfl : k = l.fKnots.length := by omega
   refine NextW.go (i + 1) (Weak.cov ?_ ?_ ?_) (by omega) (by omega)
   ·refine ⟨rfl, rfl, rfl, ?_, rfl, trivial⟩
    rw [hS]; rfl
   ·exact cv_
   ·rfl
  obtain ⟨x, hx⟩ := at_lt' (xs := l.fKnots) (k := k) (by omega)
  obtain ⟨y, hy, hx'⟩ := hkn k x hx
  have hex : (l.fKnots.map TKnot.D)[k]? = some x.D := by rw [List.getElem?_map, hx]; rfl
  have hex' : (l'.fKnots.map TKnot.D)[k]? = some (TKnot.D ⟨⟨x.fAt.fX + y.fX, x.fAt.fY + y.fY⟩, x.fOn⟩) := by rw [List.getElem?_map, hx']; rfl
  have hey : (M.map TPt.D)[fst + k]? = some y.D := by rw [List.getElem?_map, hy]; rfl
  have hyl := (List.getElem?_eq_some_iff.1 hy).1
  obtain ⟨⟨y1, y2⟩, y3, y4⟩ := hMb y (List.mem_of_getElem? hy)
  obtain ⟨x1, x2, x3, x4⟩ := pnt_in ((loop_in (hlo.2 l (List.mem_of_getElem? hl))).2.2 x (List.mem_of_getElem? hx))
  (repeat (refine stg_ ?_))
  (refine br_ (fun h7 => ?_) (fun h7 => ?_))
  ·exfalso; omega
  (repeat (refine stg_ ?_))
  (refine br_ (fun h8 => ?_) (fun h8 => ?_))
  ·exfalso; first | omega | (exact h8 trivial) | (exact h8 rfl)
  (repeat (refine stg_ ?_))
  (refine br_ (fun h9 => ?_) (fun h9 => ?_))
  ·exfalso; first | omega | (exact h9 trivial) | (exact h9 rfl)
  (repeat (refine stg_ ?_))
  refine NextW.go (k + 1) (Weak.cov ?_ ?_ ?_) (by omega) (by omega)
  ·exact cv_
  ·exact cv_
  ·rfl
end Go.Proofs.YtpdeibhedafcfaaGreatDoor