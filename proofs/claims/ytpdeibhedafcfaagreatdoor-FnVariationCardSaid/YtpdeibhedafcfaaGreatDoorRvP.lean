/- merged: several parts in one text. Leans on no more than they do. -/
import Derived.Test.YtpdeibhedafcfaaGreatDoorLVBase
import Derived.Test.YtpdeibhedafcfaaGreatDoorVgP
import Derived.Test.YtpdeibhedafcfaaGreatDoorLM
import Derived.Test.YtpdeibhedafcfaaGreatDoorGsP
import Derived.Test.YtpdeibhedafcfaaGreatDoorShelf
import Derived.Test.YtpdeibhedafcfaaGreatDoorVMK
import Derived.Lib.Bytealg
set_option linter.unusedSimpArgs false
set_option linter.unusedVariables false
namespace Go.Proofs.YtpdeibhedafcfaaGreatDoor
open Go.RowKit
theorem InF_of {g : TGlyph} {d : TGlyphDelta} (hg : outB g.fOutline = true) (hd : gdB d = true) (hl : ltB d.fKnots (cnK g.fOutline.fLoops : Nat) = true) : InF g.fOutline d.fKnots d.fMoves := by
 have hn := gd_len hd
 have h1 : gdB d = (inB d.fGlyph 0 39 && (knG none d.fKnots && (decide (d.fKnots.length = d.fMoves.length) && (d.fMoves.all pntB && inB d.fAdvance (-262144) 262144)))) := rfl
 rw [h1] at hd
 simp only [Bool.and_eq_true, decide_eq_true_eq, List.all_eq_true] at hd
 have h2 := knG_ri _ _ hd.2.1
 have hs : srt d.fKnots := ri_srt h2.1
 refine ⟨hg, hs, hd.2.2.1, hd.2.2.2.1, fun x hx => ⟨(h2.2 x hx).1, ?_⟩, by omega⟩
 obtain ⟨i, hi⟩ := List.mem_iff_getElem?.1 hx
 have hil := (List.getElem?_eq_some_iff.1 hi).1
 obtain ⟨z, hz⟩ := at_lt' (xs := d.fKnots) (k := d.fKnots.length - 1) (by omega)
 unfold ltB at hl
 rw [hz] at hl
 simp only [decide_eq_true_eq] at hl
 rcases Nat.lt_or_ge i (d.fKnots.length - 1) with h | h
 ·have := hs i _ x z h hi hz; omega
 ·obtain rfl : i = d.fKnots.length - 1 := by omega
  rw [hi] at hz; cases hz; exact hl
theorem gd_adv {d : TGlyphDelta} (hd : gdB d = true) : -262144 ≤ d.fAdvance ∧ d.fAdvance ≤ 262144 := by
 have h1 : gdB d = (inB d.fGlyph 0 39 && (knG none d.fKnots && (decide (d.fKnots.length = d.fMoves.length) && (d.fMoves.all pntB && inB d.fAdvance (-262144) 262144)))) := rfl
 rw [h1] at hd
 simp only [Bool.and_eq_true, inB, decide_eq_true_eq] at hd
 exact hd.2.2.2.2
structure VaH (s : TGlyphSet) (v : TVariation) (gi : Nat) (g : TGlyph) (ns : List Int) : Prop where
 wf : wfB v = true
 gl : glB g = true
 ls : gi < 40
 at' : s.fGlyphs[gi]? = some g
 nm : nmsB ns v.fAxes.length = true
 dv : ∀ m ∈ v.fMasters, ∀ d ∈ m.fDeltas, d.fGlyph = (gi : Int) → ltB d.fKnots (cnK g.fOutline.fLoops : Nat) = true
theorem VaH.ma {s : TGlyphSet} {v : TVariation} {gi : Nat} {g : TGlyph} {ns : List Int} (H : VaH s v gi g ns) : v.fMasters.length ≤ 8 ∧ ∀ m ∈ v.fMasters, m.fPeaks.all pkB = true ∧ nmsB ns m.fPeaks.length = true ∧ dsG none m.fDeltas = true ∧ m.fDeltas.length ≤ 20 := by
 have h1 : wfB v = (axsB v.fAxes && (decide (v.fMasters.length ≤ 8) && v.fMasters.all (maB v.fAxes.length))) := rfl
 have hw := H.wf
 rw [h1] at hw
 simp only [Bool.and_eq_true, List.all_eq_true, decide_eq_true_eq] at hw
 refine ⟨hw.2.1, fun m hm => ?_⟩
 have h2 := hw.2.2 m hm
 have h3 : maB v.fAxes.length m = (decide (m.fPeaks.length = v.fAxes.length) && (decide (m.fDeltas.length ≤ 20) && (m.fPeaks.all pkB && dsG none m.fDeltas))) := rfl
 rw [h3] at h2
 simp only [Bool.and_eq_true, decide_eq_true_eq] at h2
 exact ⟨h2.2.2.1, by rw [h2.1]; exact H.nm, h2.2.2.2, h2.2.1⟩
theorem VaH.out {s : TGlyphSet} {v : TVariation} {gi : Nat} {g : TGlyph} {ns : List Int} (H : VaH s v gi g ns) : outB g.fOutline = true := by
 have hg := H.gl
 have hF : glB g = (nameB g.fName && (inB g.fCode (-1) 65535 && (inB g.fAdvance 0 262144 && (outB g.fOutline && ((decide (g.fParts.length = 0) || decide (g.fOutline.fLoops.length = 0)) && (decide (g.fParts.length ≤ 6) && (decide (g.fAnchors.length ≤ 6) && (decide (g.fHints.size ≤ 400) && (g.fParts.all gpB && anG [] g.fAnchors))))))))) := rfl
 rw [hF] at hg
 simp only [Bool.and_eq_true] at hg
 exact hg.2.2.2.1
theorem VaH.adv {s : TGlyphSet} {v : TVariation} {gi : Nat} {g : TGlyph} {ns : List Int} (H : VaH s v gi g ns) : 0 ≤ g.fAdvance ∧ g.fAdvance ≤ 262144 := by
 have hg := H.gl
 have hF : glB g = (nameB g.fName && (inB g.fCode (-1) 65535 && (inB g.fAdvance 0 262144 && (outB g.fOutline && ((decide (g.fParts.length = 0) || decide (g.fOutline.fLoops.length = 0)) && (decide (g.fParts.length ≤ 6) && (decide (g.fAnchors.length ≤ 6) && (decide (g.fHints.size ≤ 400) && (g.fParts.all gpB && anG [] g.fAnchors))))))))) := rfl
 rw [hF] at hg
 simp only [Bool.and_eq_true, inB, decide_eq_true_eq] at hg
 exact hg.2.2.1
theorem VaH.inf {s : TGlyphSet} {v : TVariation} {gi : Nat} {g : TGlyph} {ns : List Int} (H : VaH s v gi g ns) {m : TMaster} (hm : m ∈ v.fMasters) {d : TGlyphDelta} (hd : d ∈ m.fDeltas) (hg : d.fGlyph = (gi : Int)) : InF g.fOutline d.fKnots d.fMoves ∧ gdB d = true :=
 ⟨InF_of H.out (wf_delta H.wf hm hd) (H.dv m hm d hd hg), wf_delta H.wf hm hd⟩
set_option maxHeartbeats 1000000 in
theorem ixGlyphDeltap_v (xs : List TGlyphDelta) (f : Nat) (y0 : D) (p : TGlyphDelta → Bool) (hf : ∀ x : TGlyphDelta, PC Tryz.prog f [.d x.D, .pX y0] (.d (.bool (p x))) []) :
  PC Tryz.prog 73 [.d (.lst (xs.map TGlyphDelta.D)), .fn (.func f) [.pX y0]] (.d (.int .i64 (fdx p xs 0))) [] := by
 refine pc_intro ttOk (by kernel_rfl) Tryz.func73 rfl (by kernel_rfl) (by kernel_rfl) (by kernel_rfl) (fun hw => ?_)
 have hL : (xs.map TGlyphDelta.D).length = xs.length := List.length_map _
 have hm : (xs.map TGlyphDelta.D).length ≤ 9223372036854775807 := hw.1.1
 (conv => whnf)
 refine LoopW.go (α := Nat) (fun k => [(0, .d (.lst (xs.map TGlyphDelta.D))), (1, .fn (.func f) [.pX y0]), (7, .d (.int .i64 (xs.map TGlyphDelta.D).length)), (8, .d (.int .i64 k))]) (fun k => [.gone]) (fun k => k ≤ xs.length ∧ fdx p xs 0 = fdx p (xs.drop k) k) (fun k => xs.length - k) 0 covT_ ?_ (fun k hk => ?_)
 ·exact ⟨by omega, rfl⟩
 obtain ⟨hk1, hk2⟩ := hk
 (conv => whnf)
 (refine br_ (fun h2 => ?_) (fun h2 => ?_) <;> (repeat (refine stg_ ?_)))
 ·obtain ⟨x, hx⟩ := at_lt' (xs := xs) (k := k) (by omega)
  rw [fdx_at hx] at hk2
  (repeat (refine stg_ ?_))
  (refine cla_ (hf x) ?_)
  (refine br_ (fun h3 => ?_) (fun h3 => ?_) <;> (repeat (refine stg_ ?_)))
  ·(refine RetOK.d rfl rfl ?_; conv => whnf)
   rw [hk2, if_pos h3]
  ·(repeat (refine stg_ ?_))
   exact NextW.go (k + 1) covT_ ⟨by omega, by rw [hk2, h3]; rfl⟩ (by omega)
 ·(refine RetOK.d rfl rfl ?_; conv => whnf)
  rw [hk2, fdx_end (by omega)]
theorem varyGlyph1_v (x : TGlyphDelta) (n : Int) : PC Tryz.prog 74 [.d x.D, .pX (.int .i64 n)] (.d (.bool (x.fGlyph == n))) [] := by
 refine pc_intro ttOk (by kernel_rfl) Tryz.func74 rfl (by kernel_rfl) (by kernel_rfl) (by kernel_rfl) (fun hw => ?_)
 (conv => whnf)
 (repeat' (first | (refine stg_ ?_) | fail | (refine br_ (fun hbr => ?_) (fun hbr => ?_))))
 all_goals (refine RetOK.d rfl rfl ?_; conv => whnf)
 all_goals rfl
theorem divPt_v (p : TPt) (d : Int) : PC Tryz.prog 76 [.d p.D, .d (.int .i64 d)] (.d (TPt.D ⟨divR p.fX d, divR p.fY d⟩)) [] := by
 refine pc_intro ttOk (by kernel_rfl) Tryz.func76 rfl (by kernel_rfl) (by kernel_rfl) (by kernel_rfl) (fun hw => ?_)
 have c1 := DivRound_v p.fX d
 have c2 := DivRound_v p.fY d
 (conv => whnf)
 (repeat' (first | (refine stg_ ?_) | (refine cla_ (c1) ?_) | (refine cla_ (c2) ?_) | (refine br_ (fun hbr => ?_) (fun hbr => ?_))))
 all_goals (refine RetOK.d rfl rfl ?_; conv => whnf)
 all_goals (all_goals first | rfl | exact ⟨_, rfl, _, _, rfl, rfl, _, _, rfl, rfl, rfl⟩)
def trVa : OT := .q 0 (.q 1 (.q 3 (.q 4 (.q 5 (.q 6 (.q 7 (.alt 2 (.alt 8 (.q 9 (.alt 10 .done .nil)) .nil) (.alt 8 (.alt 2 (.q 9 (.alt 10 .done .nil)) .nil) .nil))))))))
set_option maxHeartbeats 4000000 in
theorem varyGlyph_v (s : TGlyphSet) (v : TVariation) (gi : Nat) (g : TGlyph) (ns : List Int) (H : VaH s v gi g ns) : PC Tryz.prog 32 [.d s.D, .d v.D, .d (.int .i64 gi), .d (.lst (ns.map (D.int .i64)))] (.tup [.st [.d (.str g.fName), .d (.int .i64 g.fCode), .d (.int .i64 (vgF g (vgS g v.fMasters gi ns)).fAdvance), .st [.own 1 0 g.fOutline.fLoops.length], .own 2 0 g.fParts.length, .own 3 0 g.fAnchors.length, .d (.str g.fHints)], .d (.bool (glB (vgF g (vgS g v.fMasters gi ns))))]) [.arr 1 ((vgF g (vgS g v.fMasters gi ns)).fOutline.fLoops.map TLoop.D) true, .arr 3 (g.fParts.map TPart.D) true, .arr 3 (g.fAnchors.map TAnchor.D) true] := by
 refine pc_intro ttOk (by kernel_rfl) Tryz.func32 rfl (by kernel_rfl) (by kernel_rfl) (by kernel_rfl) (fun hw => ?_)
 have hLg : (s.fGlyphs.map TGlyph.D).length = s.fGlyphs.length := List.length_map _
 have hLm : (v.fMasters.map TMaster.D).length = v.fMasters.length := List.length_map _
 have hgi := H.ls
 have hgl : gi < s.fGlyphs.length := (List.getElem?_eq_some_iff.1 H.at').1
 have hg' : (s.fGlyphs.map TGlyph.D)[((gi : Nat) : Int).toNat]? = some g.D := by rw [Int.toNat_natCast, List.getElem?_map, H.at']; rfl
 have c1 := copyGlyph_v g H.gl
 have hout := H.out
 have c2 := knotCount_v g.fOutline hout
 have hout' := out_in hout
 have hcn := cnK_le hout'.2
 have hadv := H.adv
 obtain ⟨hm8, hma⟩ := H.ma
 (conv => whnf)
 (repeat' (first | (refine stg_ ?_) | (refine IxW.at (by omega) hg' ?_; (conv => whnf)) | (refine cla_ (c1) ?_) | (refine cla_ (c2) ?_) | (refine MkW.at (by omega) (by omega) (by show ((16 : Nat) : Int) * _ ≤ 2 ^ 48; omega) ?_; (conv => whnf)) | (refine br_ (fun hbr => ?_) (fun hbr => ?_))))
 let L0 : List TLoop := g.fOutline.fLoops
 refine LoopW.go (α := Nat × List TPt × Int) (fun p => [(3, .d (.lst (ns.map (D.int .i64)))), (6, .pB 3 [] 0), (8, .pB 4 [] 0), (10, .pB 8 [] 0), (11, .own 9 0 p.2.1.length), (12, .d (.int .i64 p.2.2)), (36, .d (.lst (v.fMasters.map TMaster.D))), (37, .d (.int .i64 (v.fMasters.map TMaster.D).length)), (38, .d (.int .i64 (p.1 : Nat)))])
  (fun p => [.gone, .gone, .gone, .box (.d (.int .i64 gi)), .box (.st [.d (.str .empty), .d (.int .i64 0), .d (.int .i64 0), .st [.nils], .nils, .nils, .d (.str .empty)]), .arr 1 (g.fOutline.fLoops.map TLoop.D) true, .arr 3 (g.fParts.map TPart.D) true, .arr 3 (g.fAnchors.map TAnchor.D) true,
   .box (.st [.d (.str g.fName), .d (.int .i64 g.fCode), .d (.int .i64 g.fAdvance), .st [.own 5 0 g.fOutline.fLoops.length], .own 6 0 g.fParts.length, .own 7 0 g.fAnchors.length, .d (.str g.fHints)]), .arr 2 (p.2.1.map TPt.D) true])
  (fun p => p.1 ≤ v.fMasters.length ∧ p.2.1.length = cnK g.fOutline.fLoops ∧ bdS (20 * p.1) p.2.1 ∧ (-(4294967296 * (20 * (p.1 : Int))) ≤ p.2.2 ∧ p.2.2 ≤ 4294967296 * (20 * (p.1 : Int))) ∧ msF ns gi g.fOutline.fLoops (v.fMasters.drop p.1) p.2 = vgS g v.fMasters gi ns)
  (fun p => v.fMasters.length - p.1) (0, List.replicate (cnK g.fOutline.fLoops) pt0, 0) (Weak.cov ⟨rfl, rfl, rfl, rfl, by (show _ = V.own 9 0 (List.replicate _ pt0).length; rw [List.length_replicate]; rfl), rfl, rfl, rfl, rfl, trivial⟩ ⟨trivial, trivial, trivial, rfl, rfl, rfl, rfl, rfl, rfl, by (show _ = Blk.arr 2 ((List.replicate _ pt0).map TPt.D) true; rw [List.map_replicate]; rfl), trivial⟩ rfl)
  ⟨Nat.zero_le _, List.length_replicate, bdS_zero _, ⟨by (show -(4294967296 * (20 * ((0 : Nat) : Int))) ≤ (0 : Int); decide), by (show (0 : Int) ≤ 4294967296 * (20 * ((0 : Nat) : Int)); decide)⟩, by rfl⟩ ?_
 rintro ⟨k, S, a⟩ ⟨hk, hS, hb, ha, hV⟩
 dsimp only at hk hS hb ha hV ⊢
 have hLS : (S.map TPt.D).length = S.length := List.length_map _
 (conv => whnf)
 (refine br_ (fun h2 => ?_) (fun h2 => ?_))
 ·obtain ⟨m, hm⟩ := at_lt' (xs := v.fMasters) (k := k) (by omega)
  have hmm := List.mem_of_getElem? hm
  obtain ⟨hp1, hp2, hp3, hp4⟩ := hma m hmm
  have c3 := ixGlyphDeltap_v m.fDeltas 74 (.int .i64 gi) (fun d => d.fGlyph == (gi : Int)) (fun x => varyGlyph1_v x gi)
  have c4 := masterFactor_v m ns hp1 hp2
  have hLd : (m.fDeltas.map TGlyphDelta.D).length = m.fDeltas.length := List.length_map _
  rw [msF_at hm] at hV
  rcases dsF_fdx (f := maF ns m) (g := (gi : Int)) (ls := g.fOutline.fLoops) (p := (S, a)) 0 hp3 with ⟨e1, e2⟩ | ⟨i, d, e1, e2, hde, e3⟩
  ·rw [e1] at c3
   rw [e2] at hV
   (repeat' (first | (refine stg_ ?_) | (refine cla_ (c3) ?_) | (refine br_ (fun hbr => ?_) (fun hbr => ?_))))
   all_goals first | (exfalso; omega) | skip
   exact NextW.go (k + 1, S, a) covT_ ⟨by (show k + 1 ≤ _); omega, hS, bdS_mono (by (show 20 * k ≤ 20 * (k + 1)); omega) hb, ⟨by (show -(4294967296 * (20 * ((k + 1 : Nat) : Int))) ≤ a); omega, by (show a ≤ 4294967296 * (20 * ((k + 1 : Nat) : Int))); omega⟩, hV⟩ (by dsimp only; omega)
  ·rw [e1] at c3
   rw [e3] at hV
   have hdm := List.mem_of_getElem? e2
   have hdl := (List.getElem?_eq_some_iff.1 e2).1
   obtain ⟨hI, hgd⟩ := H.inf hmm hdm hde
   have hd' : (m.fDeltas.map TGlyphDelta.D)[(((0 + i : Nat)) : Int).toNat]? = some d.D := by rw [Int.toNat_natCast, Nat.zero_add, List.getElem?_map, e2]; rfl
   have c5 := inferMoves_v g.fOutline d.fKnots d.fMoves hI
   have hb1 := mfK_bnd (ns := ns) hp1 m.fPeaks.length
   have hda := gd_adv hgd
   have hfa := mulN hb1.1 hb1.2 hda.1 hda.2
   have hMl : (inL d.fKnots d.fMoves 0 g.fOutline.fLoops).length = cnK g.fOutline.fLoops := inL_len _ _ _ _
   have hMb := inL_bnd (ns := d.fKnots) hI.mv 0 g.fOutline.fLoops
   repeat' (first | ((fail_if_success (with_reducible apply RegD.id)); (first | (refine stg_ ?_) | (refine cla_ (c3) ?_) | (refine br_ (fun hbr => ?_) (fun hbr => ?_)))))
   all_goals first | (exfalso; omega) | skip
   refine RegD.cutT [(3, .d (.lst (ns.map (D.int .i64)))), (6, .pB 3 [] 0), (8, .pB 4 [] 0), (10, .pB 8 [] 0), (11, .own 9 0 S.length), (12, .d (.int .i64 a)), (16, .d (.int .i64 (maF ns m))), (17, .pB 11 [] 0), (36, .d (.lst (v.fMasters.map TMaster.D))), (37, .d (.int .i64 (v.fMasters.map TMaster.D).length)), (38, .d (.int .i64 (k : Nat)))]
    [.gone, .gone, .gone, .box (.d (.int .i64 gi)), .box (.st [.d (.str .empty), .d (.int .i64 0), .d (.int .i64 0), .st [.nils], .nils, .nils, .d (.str .empty)]), .arr 1 (g.fOutline.fLoops.map TLoop.D) true, .arr 3 (g.fParts.map TPart.D) true, .arr 3 (g.fAnchors.map TAnchor.D) true,
   .box (.st [.d (.str g.fName), .d (.int .i64 g.fCode), .d (.int .i64 g.fAdvance), .st [.own 5 0 g.fOutline.fLoops.length], .own 6 0 g.fParts.length, .own 7 0 g.fAnchors.length, .d (.str g.fHints)]), .arr 2 (S.map TPt.D) true, .gone, .box (.d d.D)] trVa (by kernel_rfl) ?_ ?_
   ·(conv => whnf)
    repeat' (first | (refine stg_ ?_) | (refine cla_ (c4) ?_) | (refine IxW.at (by omega) hd' ?_; (conv => whnf)) | (refine And.intro ?_ ?_ <;> (conv => whnf)))
    all_goals (refine Weak.cov ?_ ?_ ?_; (focus exact cv_); (focus exact cv_); (focus rfl))
   generalize hf : maF ns m = f at *
   have hf1 : 0 ≤ f ∧ f ≤ 16384 := by rw [← hf]; exact hb1
   have hfa' : -(16384 * 262144) ≤ f * d.fAdvance ∧ f * d.fAdvance ≤ 16384 * 262144 := by rw [← hf]; exact hfa
   (conv => whnf)
   (repeat' (first | (refine stg_ ?_) | (refine cla_ (c5) ?_) | (refine br_ (fun hbr => ?_) (fun hbr => ?_))))
   generalize hMM : inL d.fKnots d.fMoves 0 g.fOutline.fLoops = MM at *
   have hSM : S.length = MM.length := by omega
   refine LoopW.go (α := Nat) (fun j => [(3, .d (.lst (ns.map (D.int .i64)))), (6, .pB 3 [] 0), (8, .pB 4 [] 0), (10, .pB 8 [] 0), (11, .own 9 0 S.length), (12, .d (.int .i64 (a + f * d.fAdvance))), (16, .d (.int .i64 f)), (36, .d (.lst (v.fMasters.map TMaster.D))), (37, .d (.int .i64 (v.fMasters.map TMaster.D).length)), (38, .d (.int .i64 (k : Nat))), (68, .own 12 0 (cnK g.fOutline.fLoops)), (69, .d (.int .i64 (cnK g.fOutline.fLoops : Nat))), (70, .d (.int .i64 (j : Nat)))])
    (fun j => [.gone, .gone, .gone, .box (.d (.int .i64 gi)), .box (.st [.d (.str .empty), .d (.int .i64 0), .d (.int .i64 0), .st [.nils], .nils, .nils, .d (.str .empty)]), .arr 1 (g.fOutline.fLoops.map TLoop.D) true, .arr 3 (g.fParts.map TPart.D) true, .arr 3 (g.fAnchors.map TAnchor.D) true,
     .box (.st [.d (.str g.fName), .d (.int .i64 g.fCode), .d (.int .i64 g.fAdvance), .st [.own 5 0 g.fOutline.fLoops.length], .own 6 0 g.fParts.length, .own 7 0 g.fAnchors.length, .d (.str g.fHints)]), .arr 2 ((adK f S MM j).map TPt.D) true, .gone, .gone, .arr 2 (MM.map TPt.D) true])
    (fun j => j ≤ S.length) (fun j => S.length - j) 0 (Weak.cov ⟨rfl, rfl, rfl, rfl, rfl, rfl, rfl, rfl, rfl, rfl, rfl, rfl, rfl, trivial⟩ ⟨trivial, trivial, trivial, rfl, rfl, rfl, rfl, rfl, rfl, by rw [adK_zero], trivial, trivial, rfl, trivial⟩ rfl) (Nat.zero_le _) (fun j hj => ?_)
   have hLM : (MM.map TPt.D).length = MM.length := List.length_map _
   have hLK : ((adK f S MM j).map TPt.D).length = S.length := by rw [List.length_map, adK_len hSM]
   (conv => whnf)
   (refine br_ (fun h3 => ?_) (fun h3 => ?_))
   ·obtain ⟨q, hq⟩ := at_lt' (xs := MM) (k := j) (by omega)
    obtain ⟨t, ht⟩ := at_lt' (xs := S) (k := j) (by omega)
    have hgM : (MM.map TPt.D)[j]? = some q.D := by rw [List.getElem?_map, hq]; rfl
    have hgS : ((adK f S MM j).map TPt.D)[j]? = some t.D := by rw [List.getElem?_map, adK_at hSM ht]; rfl
    have b1 := adP_bnd hf1.1 hf1.2 (hMb q (List.mem_of_getElem? hq))
    have b2 := hb t (List.mem_of_getElem? ht)
    (repeat' (first | (refine stg_ ?_) | (refine IoW.at (by omega) (by omega) ?_; (conv => whnf)) | (refine EoW.at hgM ?_; (conv => whnf)) | (refine EoW.at hgS ?_; (conv => whnf)) | (refine br_ (fun hbr => ?_) (fun hbr => ?_))))
    exact NextW.go (j + 1) (Weak.cov ⟨rfl, rfl, rfl, rfl, rfl, rfl, rfl, rfl, rfl, rfl, rfl, rfl, rfl, trivial⟩ ⟨trivial, trivial, trivial, rfl, rfl, rfl, rfl, rfl, rfl, by (rw [← adK_set hSM ht hq, List.map_set]; rfl), trivial, trivial, rfl, trivial⟩ rfl) (by omega) (by omega)
   ·obtain rfl : j = S.length := by omega
    rw [adK_all hSM]
    (repeat' (first | (refine stg_ ?_) | fail | (refine br_ (fun hbr => ?_) (fun hbr => ?_))))
    have hdl2 : dlF f g.fOutline.fLoops d (S, a) = (adS f S MM, a + f * d.fAdvance) := by rw [← hMM]; rfl
    rw [hdl2] at hV
    exact NextW.go (k + 1, adS f S MM, a + f * d.fAdvance) (Weak.cov ⟨rfl, rfl, rfl, rfl, by (show V.own 9 0 S.length = V.own 9 0 (adS f S MM).length; rw [adS_len hSM]), rfl, rfl, rfl, rfl, trivial⟩ ⟨trivial, trivial, trivial, rfl, rfl, rfl, rfl, rfl, rfl, rfl, trivial⟩ rfl)
     ⟨by (show k + 1 ≤ _); omega, by (show (adS f S MM).length = _); rw [adS_len hSM, hS], bdS_mono (by (show 20 * k + 1 ≤ 20 * (k + 1)); omega) (bdS_ad hf1.1 hf1.2 hMb hb), ⟨by (show -(4294967296 * (20 * ((k + 1 : Nat) : Int))) ≤ a + f * d.fAdvance); omega, by (show a + f * d.fAdvance ≤ 4294967296 * (20 * ((k + 1 : Nat) : Int))); omega⟩, hV⟩ (by dsimp only; omega)
 ·obtain rfl : k = v.fMasters.length := by omega
  rw [List.drop_length, msF] at hV
  have c6 := DivRound_v a 16384
  have d1 : divR a 16384 ≤ 41943040 := divR_le' (by decide) (by omega)
  have d2 : -41943040 ≤ divR a 16384 := divR_ge (by decide) (by omega)
  (repeat' (first | (refine stg_ ?_) | (refine cla_ (c6) ?_) | (refine br_ (fun hbr => ?_) (fun hbr => ?_))))
  generalize hLL : g.fOutline.fLoops = L at *
  have hVl : (vgL S 0 L).length = L.length := vgL_len S 0 L
  have hb' : bdS 160 S := bdS_mono (by (show 20 * v.fMasters.length ≤ 160); omega) hb
  have hfl : ∀ i, ((upTo (vgL S 0 L) L i).map TLoop.D).length = L.length := fun i => by rw [List.length_map, upTo_len hVl]
  let E0 : Nat → Env := fun i => [(8, .pB 4 [] 0), (10, .pB 8 [] 0), (11, .own 9 0 S.length), (20, .d (.int .i64 (cnK (L.take i) : Nat))), (109, .own 5 0 L.length), (110, .d (.int .i64 (L.length : Nat))), (111, .d (.int .i64 (i : Nat)))]
  let H0 : Nat → List Blk := fun i => [.gone, .gone, .gone, .gone, .box (.st [.d (.str .empty), .d (.int .i64 0), .d (.int .i64 0), .st [.nils], .nils, .nils, .d (.str .empty)]), .arr 1 ((upTo (vgL S 0 L) L i).map TLoop.D) true, .arr 3 (g.fParts.map TPart.D) true, .arr 3 (g.fAnchors.map TAnchor.D) true, .box (.st [.d (.str g.fName), .d (.int .i64 g.fCode), .d (.int .i64 (g.fAdvance + divR a 16384)), .st [.own 5 0 L.length], .own 6 0 g.fParts.length, .own 7 0 g.fAnchors.length, .d (.str g.fHints)]), .arr 2 (S.map TPt.D) true]
  let mkH : Nat × Option (TLoop × Tk) → List Blk := fun p => match p with
   | (i, none) => H0 i
   | (i, some (x, τ)) => [.gone, .gone, .gone, .gone, .box (.st [.d (.str .empty), .d (.int .i64 0), .d (.int .i64 0), .st [.nils], .nils, .nils, .d (.str .empty)]), .arr 1 (((upTo (vgL S 0 L) L i).map TLoop.D).set i (.st [.hole τ.g (x.fKnots.map TKnot.D).length τ.cap])) true, .arr 3 (g.fParts.map TPart.D) true, .arr 3 (g.fAnchors.map TAnchor.D) true, .box (.st [.d (.str g.fName), .d (.int .i64 g.fCode), .d (.int .i64 (g.fAdvance + divR a 16384)), .st [.own 5 0 L.length], .own 6 0 g.fParts.length, .own 7 0 g.fAnchors.length, .d (.str g.fHints)]), .arr 2 (S.map TPt.D) true, .arr τ.n (x.fKnots.map TKnot.D) true, .pin 10 τ.g τ.sz τ.t]
  let I : Nat × Option (TLoop × Tk) → Prop := fun p => (p.2 = none ∧ p.1 = L.length) ∨ ∃ x τ, p.2 = some (x, τ) ∧ L[p.1]? = some x ∧ τ.ok 3 (x.fKnots.map TKnot.D)
  have enter : ∀ i, i ≤ L.length → ∀ (B : World) (X : List Nat) (N : Nat) (M : MM) (a : Act) (w : World), Rep B X N M (E0 i) (H0 i) a w → ∃ p M', Rep B X N M' (E0 p.1) (mkH p) a w ∧ I p ∧ p.1 = i := fun i hi B X N M a w R => by
   rcases Nat.lt_or_ge i L.length with hlt | hge
   ·obtain ⟨x, hx⟩ := at_lt' (xs := L) (k := i) hlt
    have he : ((upTo (vgL S 0 L) L i).map TLoop.D)[i]? = some x.D := by rw [List.getElem?_map, upTo_at hVl hx]; rfl
    obtain ⟨g0, cap0, sz0, t0, n0, M0, p0, q0, R0⟩ := R.out (b := 5) (k := i) (p := [0]) (U := fun u => D.st [u]) (n1 := 3) (by decide) rfl he rfl (fun _ => rfl) (by intro y hy; obtain ⟨z, _, rfl⟩ := List.mem_map.1 hy; rfl)
    exact ⟨(i, some (x, ⟨g0, cap0, sz0, t0, n0⟩)), M0, R0, .inr ⟨x, _, rfl, hx, ⟨p0, q0⟩⟩, rfl⟩
   ·exact ⟨(i, none), M, R, .inl ⟨rfl, by show i = _; omega⟩, rfl⟩
  (conv => whnf)
  refine LoopW.goX (fun p => E0 p.1) mkH I (fun p => L.length - p.1) (fun B X N M a w R => ?_) (fun p hp E H' hE hH => ?_)
  ·obtain ⟨M1, R1⟩ := R.cov (e' := E0 0) (h' := H0 0) (show cov _ [_, _, _, _, _, _, _] from ⟨rfl, rfl, rfl, rfl, rfl, rfl, rfl, trivial⟩) (show covH _ [_, _, _, _, _, _, _, _, _, _] from ⟨trivial, trivial, trivial, trivial, rfl, by rw [upTo_zero], rfl, rfl, rfl, rfl, trivial⟩) rfl
   obtain ⟨p, M2, R2, hI, _⟩ := enter 0 (by omega) _ _ _ _ _ _ R1
   exact ⟨p, M2, R2, hI⟩
  ·rcases hp with ⟨hp, hl⟩ | ⟨x, τ, hp, hx, hq, hc⟩
   ·obtain ⟨i, q⟩ := p
    dsimp only at hp hl
    subst hp
    subst hl
    subst hE
    subst hH
    (conv => whnf)
    (refine br_ (fun h2 => ?_) (fun h2 => ?_))
    ·exfalso; omega
    ·have c8 := ValidGlyph_v ⟨g.fName, g.fCode, g.fAdvance + divR a 16384, ⟨upTo (vgL S 0 L) L L.length⟩, g.fParts, g.fAnchors, g.fHints⟩
     have hfi := hfl L.length
     have hfp : (g.fParts.map TPart.D).length = g.fParts.length := List.length_map _
     have hfa : (g.fAnchors.map TAnchor.D).length = g.fAnchors.length := List.length_map _
     (conv => whnf)
     (repeat' (first | (refine stg_ ?_) | (refine cla_ (c8) ?_) | (refine br_ (fun hbr => ?_) (fun hbr => ?_))))
     rw [← hV]
     have hvg : vgF g (S, a) = ⟨g.fName, g.fCode, g.fAdvance + divR a 16384, ⟨upTo (vgL S 0 L) L L.length⟩, g.fParts, g.fAnchors, g.fHints⟩ := by rw [upTo_all hVl, vgF, hLL]
     rw [hvg]
     refine ⟨⟨[some 5, some 6, some 7], ⟨by decide, rfl, trivial, by decide, rfl, trivial, by decide, rfl, trivial, trivial⟩, by decide, ⟨_, rfl, rfl, ?_⟩⟩⟩
     exact rn_
   ·obtain ⟨i, q⟩ := p
    dsimp only at hp hx
    subst hp
    have hfi := hfl i
    have hi : i < L.length := (List.getElem?_eq_some_iff.1 hx).1
    have hxl := loop_in (hout'.2 x (List.mem_of_getElem? hx))
    obtain ⟨tg, tc, ts, tt', tn⟩ := τ
    dsimp only at hq hc
    obtain rfl : tn = 3 := hq (by intro e; rw [List.map_eq_nil_iff] at e; rw [e] at hxl; exact absurd hxl.1 (by decide))
    have hgE : (((upTo (vgL S 0 L) L i).map TLoop.D).set i (.st [.hole tg (x.fKnots.map TKnot.D).length tc]))[i]? = some (.st [.hole tg (x.fKnots.map TKnot.D).length tc]) := List.getElem?_set_self (by rw [hfi]; exact hi)
    subst hE
    subst hH
    (conv => whnf)
    (refine br_ (fun h2 => ?_) (fun h2 => ?_))
    ·have hii : ((i : Nat) : Int) < ((L.length : Nat) : Int) := by omega
     (repeat' (first | (refine stg_ ?_) | (refine IoW.at (by omega) hii ?_; (conv => whnf)) | (refine EoW.at hgE ?_; (conv => whnf)) | (refine ⟨⟨11, 10, _, _, _, _, _, rfl, rfl, hc, ?_⟩⟩; (conv => whnf)) | (refine br_ (fun hbr => ?_) (fun hbr => ?_))))
     have hSm : cnK (L.take (i + 1)) = cnK (L.take i) + x.fKnots.length := by rw [take_snoc_get hx, cnK_snoc]
     have hSt := cnK_take L (i + 1)
     have hVK : (vgK S (cnK (L.take i)) x.fKnots).length = x.fKnots.length := vgK_len _ _ _
     have hkl : (x.fKnots.map TKnot.D).length = x.fKnots.length := List.length_map _
     refine LoopW.go (α := Nat) (fun j => [(8, .pB 4 [] 0), (10, .pB 8 [] 0), (11, .own 9 0 S.length), (20, .d (.int .i64 ((cnK (L.take i) + j : Nat)))), (22, .pB 12 [] 0), (109, .own 5 0 L.length), (110, .d (.int .i64 (L.length : Nat))), (111, .d (.int .i64 (i : Nat))), (117, .d (.int .i64 (x.fKnots.map TKnot.D).length)), (118, .d (.int .i64 (j : Nat)))])
      (fun j => [.gone, .gone, .gone, .gone, .box (.st [.d (.str .empty), .d (.int .i64 0), .d (.int .i64 0), .st [.nils], .nils, .nils, .d (.str .empty)]), .arr 1 (((upTo (vgL S 0 L) L i).map TLoop.D).set i (.st [.hole tg (x.fKnots.map TKnot.D).length tc])) true, .arr 3 (g.fParts.map TPart.D) true, .arr 3 (g.fAnchors.map TAnchor.D) true, .box (.st [.d (.str g.fName), .d (.int .i64 g.fCode), .d (.int .i64 (g.fAdvance + divR a 16384)), .st [.own 5 0 L.length], .own 6 0 g.fParts.length, .own 7 0 g.fAnchors.length, .d (.str g.fHints)]), .arr 2 (S.map TPt.D) true, .arr 3 ((upTo (vgK S (cnK (L.take i)) x.fKnots) x.fKnots j).map TKnot.D) true, .pin 10 tg ts tt', .box (.d (.st [.hole tg (x.fKnots.map TKnot.D).length tc]))])
      (fun j => j ≤ x.fKnots.length) (fun j => x.fKnots.length - j) 0 (Weak.cov ⟨rfl, rfl, rfl, rfl, rfl, rfl, rfl, rfl, rfl, rfl, trivial⟩ ⟨trivial, trivial, trivial, trivial, rfl, rfl, rfl, rfl, rfl, rfl, by (rw [upTo_zero]), rfl, rfl, trivial⟩ rfl) (Nat.zero_le _) (fun j hj => ?_)
     (conv => whnf)
     (refine br_ (fun h3 => ?_) (fun h3 => ?_))
     ·obtain ⟨kn, hkn⟩ := at_lt' (xs := x.fKnots) (k := j) (by omega)
      obtain ⟨q, hq'⟩ := at_lt' (xs := S) (k := cnK (L.take i) + j) (by omega)
      have hgS : (S.map TPt.D)[cnK (L.take i) + j]? = some q.D := by rw [List.getElem?_map, hq']; rfl
      have hgK : ((upTo (vgK S (cnK (L.take i)) x.fKnots) x.fKnots j).map TKnot.D)[j]? = some kn.D := by rw [List.getElem?_map, upTo_at hVK hkn]; rfl
      have b1 := pnt_in (hxl.2.2 kn (List.mem_of_getElem? hkn))
      have b2 := hb' q (List.mem_of_getElem? hq')
      have c9 : PC Tryz.prog 76 [.d q.D, .d (.int .i64 16384)] (.d (.st [.int .i64 (divR q.fX 16384), .int .i64 (divR q.fY 16384)])) [] := divPt_v q 16384
      have r1 : divR q.fX 16384 ≤ 125829120 := divR_le' (by decide) (by omega)
      have r2 : -125829120 ≤ divR q.fX 16384 := divR_ge (by decide) (by omega)
      have r3 : divR q.fY 16384 ≤ 125829120 := divR_le' (by decide) (by omega)
      have r4 : -125829120 ≤ divR q.fY 16384 := divR_ge (by decide) (by omega)
      (repeat' (first | (refine stg_ ?_) | (refine cla_ (c9) ?_) | (refine IoW.at (by omega) (by omega) ?_; (conv => whnf)) | (refine EoW.at hgS ?_; (conv => whnf)) | (refine EoW.at hgK ?_; (conv => whnf)) | (refine ⟨⟨11, 10, _, _, _, _, _, rfl, rfl, hc, ?_⟩⟩; (conv => whnf)) | (refine br_ (fun hbr => ?_) (fun hbr => ?_))))
      have hVg := vgK_get S (cnK (L.take i)) x.fKnots j kn hkn
      have hmv : mvK S (cnK (L.take i) + j) kn = ⟨⟨kn.fAt.fX + divR q.fX 16384, kn.fAt.fY + divR q.fY 16384⟩, kn.fOn⟩ := by unfold mvK atB; rw [hq']; rfl
      exact NextW.go (j + 1) (Weak.cov ⟨rfl, rfl, rfl, rfl, rfl, rfl, rfl, rfl, rfl, rfl, trivial⟩ ⟨trivial, trivial, trivial, trivial, rfl, rfl, rfl, rfl, rfl, rfl, by (rw [← upTo_set hVK hkn hVg, List.map_set, hmv]; rfl), rfl, rfl, trivial⟩ rfl) (by omega) (by omega)
     ·obtain rfl : j = x.fKnots.length := by omega
      rw [upTo_all hVK]
      (repeat' (first | (refine stg_ ?_) | fail | (refine br_ (fun hbr => ?_) (fun hbr => ?_))))
      refine ⟨fun B X N M a w R => ?_⟩
      obtain ⟨M0, R0⟩ := R.inn (b := 5) (c := 10) (j := 11) (k := i) (p := [0]) (U := fun u => D.st [u]) (by decide) (by decide) (by decide) rfl hgE rfl (fun _ => rfl) rfl rfl (by rw [List.length_map, List.length_map, hVK]) hc
      have hy : (vgL S 0 L)[i]? = some ⟨vgK S (cnK (L.take i)) x.fKnots⟩ := by have := vgL_get S 0 L i x hx; rwa [Nat.zero_add] at this
      obtain ⟨MZ, RZ⟩ := R0.cov (e' := E0 (i + 1)) (h' := H0 (i + 1)) (show cov _ [_, _, _, _, _, _, _] from ⟨rfl, rfl, rfl, congrArg (fun z : Nat => V.d (.int .i64 (z : Int))) (by rw [hSm]), rfl, rfl, rfl, trivial⟩) (show covH _ [_, _, _, _, _, Blk.arr 1 _ true, _, _, _, _] from ⟨trivial, trivial, trivial, trivial, rfl, by
       have : (upTo (vgL S 0 L) L (i + 1)).map TLoop.D = ((upTo (vgL S 0 L) L i).map TLoop.D).set i (TLoop.D ⟨vgK S (cnK (L.take i)) x.fKnots⟩) := by rw [← upTo_set hVl hx hy, List.map_set]
       rw [this]
       simp only [Int.toNat_natCast, Nat.add_zero, List.set_set]
       rfl, rfl, rfl, rfl, rfl, trivial⟩) rfl
      obtain ⟨p, M3, R3, hI, hp⟩ := enter (i + 1) (by omega) _ _ _ _ _ _ RZ
      exact ⟨p, M3, R3, hI, by show L.length - p.1 < L.length - i; omega⟩
    ·exfalso; omega

theorem VaH_of {s : TGlyphSet} {v : TVariation} {gi : Nat} {g : TGlyph} {ns : List Int} (hv : vvB v s = true) (hg : s.fGlyphs[gi]? = some g) (hn : nmsB ns v.fAxes.length = true) : VaH s v gi g ns := by
 have h1 : vvB v s = (wfB v && (gsB s && v.fMasters.all fun m => m.fDeltas.all (dvB s.fGlyphs))) := rfl
 rw [h1] at hv
 simp only [Bool.and_eq_true, List.all_eq_true] at hv
 have h2 : gsB s = (inB s.fUnit 16 16384 && (decide (s.fGlyphs.length ≤ 40) && (gsG [] s.fGlyphs && gordB (psG s.fGlyphs)))) := rfl
 have h3 := hv.2.1
 rw [h2] at h3
 simp only [Bool.and_eq_true, decide_eq_true_eq] at h3
 have hl := (List.getElem?_eq_some_iff.1 hg).1
 refine ⟨hv.1, gsG_all h3.2.2.1 g (List.mem_of_getElem? hg), by omega, hg, hn, fun m hm d hd he => ?_⟩
 have h4 := hv.2.2 m hm d hd
 unfold dvB at h4
 rw [he, Int.toNat_natCast, hg] at h4
 exact h4
theorem vv_len {s : TGlyphSet} {v : TVariation} (hv : vvB v s = true) : s.fGlyphs.length ≤ 40 := by
 have h1 : vvB v s = (wfB v && (gsB s && v.fMasters.all fun m => m.fDeltas.all (dvB s.fGlyphs))) := rfl
 rw [h1] at hv
 simp only [Bool.and_eq_true, List.all_eq_true] at hv
 have h2 : gsB s = (inB s.fUnit 16 16384 && (decide (s.fGlyphs.length ≤ 40) && (gsG [] s.fGlyphs && gordB (psG s.fGlyphs)))) := rfl
 have h3 := hv.2.1
 rw [h2] at h3
 simp only [Bool.and_eq_true, decide_eq_true_eq] at h3
 exact h3.2.1
def vgC (s : TGlyphSet) (v : TVariation) (gl : Int) (ns : List Int) : Int :=
 if vvB v s = true then (if 0 ≤ gl ∧ gl < (s.fGlyphs.length : Nat) then (if nmsB ns v.fAxes.length = true then (match s.fGlyphs[gl.toNat]? with
  | some g => if glB (vgF g (vgS g v.fMasters gl ns)) = true then 0 else 2
  | none => 2) else 2) else 2) else 1
set_option maxHeartbeats 4000000 in
set_option maxRecDepth 100000 in
theorem VaryGlyph_v (s : TGlyphSet) (v : TVariation) (gl : Int) (ns : List Int) (z : V) (bs : List Blk) (h0 : vgC s v gl ns = 0 → ∀ g, s.fGlyphs[gl.toNat]? = some g → z = .tup [.st [.d (.str g.fName), .d (.int .i64 g.fCode), .d (.int .i64 (vgF g (vgS g v.fMasters gl ns)).fAdvance), .st [.own 1 0 g.fOutline.fLoops.length], .own 2 0 g.fParts.length, .own 3 0 g.fAnchors.length, .d (.str g.fHints)], .d (.int .i64 0)] ∧ bs = [.arr 1 ((vgF g (vgS g v.fMasters gl ns)).fOutline.fLoops.map TLoop.D) true, .arr 3 (g.fParts.map TPart.D) true, .arr 3 (g.fAnchors.map TAnchor.D) true])
  (h1 : vgC s v gl ns ≠ 0 → z = .tup [.st [.d (.str .empty), .d (.int .i64 0), .d (.int .i64 0), .st [.nils], .nils, .nils, .d (.str .empty)], .d (.int .i64 (vgC s v gl ns))] ∧ bs = []) : PC Tryz.prog 13 [.d s.D, .d v.D, .d (.int .i64 gl), .d (.lst (ns.map (D.int .i64)))] z bs := by
 refine pc_intro ttOk (by kernel_rfl) Tryz.func13 rfl (by kernel_rfl) (by kernel_rfl) (by kernel_rfl) (fun hw => ?_)
 have hLg : (s.fGlyphs.map TGlyph.D).length = s.fGlyphs.length := List.length_map _
 have hLa : (v.fAxes.map TAxis.D).length = v.fAxes.length := List.length_map _
 have c1 := ValidVariation_v v s
 have c2 := areNormals_v ns v.fAxes.length
 rw [← hLa] at c2
 have hC : vgC s v gl ns = if vvB v s = true then (if 0 ≤ gl ∧ gl < (s.fGlyphs.length : Nat) then (if nmsB ns v.fAxes.length = true then (match s.fGlyphs[gl.toNat]? with
  | some g => if glB (vgF g (vgS g v.fMasters gl ns)) = true then 0 else 2
  | none => 2) else 2) else 2) else 1 := rfl
 cases q1 : vvB v s
 ·rw [q1, if_neg (by decide)] at hC
  rw [q1] at c1
  obtain ⟨rfl, rfl⟩ := h1 (by omega)
  rw [hC]
  (conv => whnf)
  (repeat' (first | (refine stg_ ?_) | (refine cla_ (c1) ?_) | (refine br_ (fun hbr => ?_) (fun hbr => ?_))))
  all_goals (refine ⟨⟨[], trivial, by decide, ⟨_, rfl, rfl, ?_⟩⟩⟩; exact rn_)
 rw [q1, if_pos rfl] at hC
 have hl40 := vv_len q1
 rw [q1] at c1
 by_cases q2 : 0 ≤ gl ∧ gl < (s.fGlyphs.length : Nat)
 rotate_left
 ·rw [if_neg q2] at hC
  obtain ⟨rfl, rfl⟩ := h1 (by omega)
  rw [hC]
  (conv => whnf)
  (repeat' (first | (refine stg_ ?_) | (refine cla_ (c1) ?_) | (refine cla_ (c2) ?_) | (refine br_ (fun hbr => ?_) (fun hbr => ?_))))
  all_goals first | (exfalso; omega) | skip
  all_goals (refine ⟨⟨[], trivial, by decide, ⟨_, rfl, rfl, ?_⟩⟩⟩; exact rn_)
 rw [if_pos q2] at hC
 cases q3 : nmsB ns v.fAxes.length
 ·rw [q3, if_neg (by decide)] at hC
  rw [← hLa] at q3
  rw [q3] at c2
  obtain ⟨rfl, rfl⟩ := h1 (by omega)
  rw [hC]
  (conv => whnf)
  (repeat' (first | (refine stg_ ?_) | (refine cla_ (c1) ?_) | (refine cla_ (c2) ?_) | (refine br_ (fun hbr => ?_) (fun hbr => ?_))))
  all_goals first | (exfalso; omega) | skip
  all_goals (refine ⟨⟨[], trivial, by decide, ⟨_, rfl, rfl, ?_⟩⟩⟩; exact rn_)
 rw [q3, if_pos rfl] at hC
 obtain ⟨g, hg⟩ := at_lt' (xs := s.fGlyphs) (k := gl.toNat) (by omega)
 have H := VaH_of q1 hg q3
 have c3 := varyGlyph_v s v gl.toNat g ns H
 rw [Int.toNat_of_nonneg q2.1] at c3
 rw [hg] at hC
 dsimp only at hC
 rw [← hLa] at q3
 rw [q3] at c2
 cases q4 : glB (vgF g (vgS g v.fMasters gl ns))
 ·rw [q4, if_neg (by decide)] at hC
  rw [q4] at c3
  obtain ⟨rfl, rfl⟩ := h1 (by omega)
  rw [hC]
  (conv => whnf)
  (repeat' (first | (refine stg_ ?_) | (refine cla_ (c1) ?_) | (refine cla_ (c2) ?_) | (refine cla_ (c3) ?_) | (refine br_ (fun hbr => ?_) (fun hbr => ?_))))
  all_goals first | (exfalso; omega) | skip
  all_goals (refine ⟨⟨[], trivial, by decide, ⟨_, rfl, rfl, ?_⟩⟩⟩; exact rn_)
 ·rw [q4, if_pos rfl] at hC
  rw [q4] at c3
  obtain ⟨rfl, rfl⟩ := h0 hC g hg
  (conv => whnf)
  (repeat' (first | (refine stg_ ?_) | (refine cla_ (c1) ?_) | (refine cla_ (c2) ?_) | (refine cla_ (c3) ?_) | (refine br_ (fun hbr => ?_) (fun hbr => ?_))))
  all_goals first | (exfalso; omega) | skip
  all_goals (refine ⟨⟨[some 4, some 5, some 6], ⟨by decide, rfl, trivial, by decide, rfl, trivial, by decide, rfl, trivial, trivial⟩, by decide, ⟨_, rfl, rfl, ?_⟩⟩⟩; exact rn_)
theorem mapGo_nrm {n : Int} (hn : nrm n = true) : ∀ (xs : List TAxisPoint) (o : Option TAxisPoint), mpGo o xs = true → (∀ q, o = none → xs[0]? = some q → q.fFrom ≤ n) → (∀ p, o = some p → p.fFrom ≤ n ∧ apB p = true) → nrm (mapGo n o xs) = true
 | [], none, _, _, _ => hn
 | [], some _, _, _, _ => hn
 | q :: t, none, h, h0, _ => by
  rw [mpGo_cons] at h
  simp only [Bool.and_eq_true] at h
  have hq := h.1.1
  have hq' := hq
  simp only [apB, Bool.and_eq_true] at hq'
  rw [mapGo]
  split
  ·exact hq'.2
  ·exact mapGo_nrm hn t (some q) h.2 (fun _ e => by cases e) (fun p e => by cases e; exact ⟨h0 q rfl rfl, hq⟩)
 | q :: t, some p, h, _, h1 => by
  rw [mpGo_cons] at h
  simp only [Bool.and_eq_true] at h
  have hq := h.1.1
  have hq' := hq
  simp only [apB, Bool.and_eq_true] at hq'
  obtain ⟨h2, h3⟩ := h1 p rfl
  simp only [apB, Bool.and_eq_true] at h3
  rw [mapGo]
  split
  ·exact hq'.2
  ·split
   ·have h4 : apLt p q = true := h.1.2
    simp only [apLt, Bool.and_eq_true, decide_eq_true_eq] at h4
    simp only [nrm, Bool.and_eq_true, decide_eq_true_eq] at h3 hq' ⊢
    have h5 := step_bnd (x := n - p.fFrom) (y := q.fTo - p.fTo) (d := q.fFrom - p.fFrom) (by omega) (by omega) (by omega) (by omega) (by omega) (by omega)
    omega
   ·exact mapGo_nrm hn t (some q) h.2 (fun _ e => by cases e) (fun p e => by cases e; exact ⟨by omega, hq⟩)
theorem mapN_nrmB {a : TAxis} (h : axB a = true) {n : Int} (hn : nrm n = true) : nrm (mapN a n) = true := by
 have hm : mapB a.fMap = true := by simp only [axB, Bool.and_eq_true] at h; exact h.2
 refine mapGo_nrm hn _ none (mapB_mp hm) (fun q _ hq => ?_) (fun _ e => by cases e)
 have := mapB_first hm hq
 simp only [nrm, Bool.and_eq_true, decide_eq_true_eq] at hn
 omega
theorem noL_nms {xs : List TAxis} {vs : List Int} (h : axsB xs = true) (hv : vs.length = xs.length) : nmsB (noL xs vs) xs.length = true := by
 unfold nmsB
 rw [Bool.and_eq_true]
 refine ⟨decide_eq_true (by simp [noL]; omega), List.all_eq_true.2 (fun y hy => ?_)⟩
 obtain ⟨i, hi⟩ := List.mem_iff_getElem?.1 hy
 unfold noL at hi
 rw [List.getElem?_zipWith] at hi
 cases hx : xs[i]? with
 | none => rw [hx] at hi; simp at hi
 | some x =>
  cases hz : vs[i]? with
  | none => rw [hx, hz] at hi; simp at hi
  | some z =>
   rw [hx, hz] at hi
   simp only [Option.some.injEq] at hi
   subst hi
   have hA := axs_ok h hx
   exact mapN_nrmB hA (plainN_nrm hA z)
def inG (ms : List TMaster) (ns : List Int) : Nat → List TGlyph → List TGlyph
 | _, [] => []
 | i, g :: t => vgF g (vgS g ms (i : Nat) ns) :: inG ms ns (i + 1) t
theorem inG_len (ms : List TMaster) (ns : List Int) : ∀ (i : Nat) (gs : List TGlyph), (inG ms ns i gs).length = gs.length
 | _, [] => rfl
 | i, g :: t => by simp [inG, inG_len ms ns (i + 1) t]
theorem inG_at (ms : List TMaster) (ns : List Int) : ∀ (i : Nat) (gs : List TGlyph) (k : Nat) (g : TGlyph), gs[k]? = some g → (inG ms ns i gs)[k]? = some (vgF g (vgS g ms ((i + k : Nat) : Int) ns))
 | _, [], k, g, h => by simp at h
 | i, x :: t, 0, g, h => by simp at h; subst h; rfl
 | i, x :: t, k + 1, g, h => by
  have := inG_at ms ns (i + 1) t k g (by simpa using h)
  rw [inG, List.getElem?_cons_succ, this]
  rw [show i + 1 + k = i + (k + 1) by omega]
theorem all_take_succ {α : Type} {p : α → Bool} {xs : List α} {k : Nat} {x : α} (hx : xs[k]? = some x) (h : (xs.take k).all p = true) (hp : p x = true) : (xs.take (k + 1)).all p = true := by
 rw [take_snoc_get hx, List.all_append, h]; simp [hp]
theorem all_false_at {α : Type} {p : α → Bool} {xs : List α} {k : Nat} {x : α} (hx : xs[k]? = some x) (hp : p x = false) : xs.all p = false := by
 cases h : xs.all p
 ·rfl
 ·rw [List.all_eq_true.1 h x (List.mem_of_getElem? hx)] at hp; cases hp
def inA (s : TGlyphSet) (v : TVariation) (vs : List Int) : List TGlyph := inG v.fMasters (noL v.fAxes vs) 0 s.fGlyphs
def inC (s : TGlyphSet) (v : TVariation) (vs : List Int) : Int :=
 if vvB v s = true then (if vs.length = v.fAxes.length then (if (inA s v vs).all glB = true then 0 else 2) else 2) else 1
theorem vv_wf {s : TGlyphSet} {v : TVariation} (hv : vvB v s = true) : axsB v.fAxes = true := by
 have h1 : vvB v s = (wfB v && (gsB s && v.fMasters.all fun m => m.fDeltas.all (dvB s.fGlyphs))) := rfl
 rw [h1] at hv
 simp only [Bool.and_eq_true] at hv
 have h2 : wfB v = (axsB v.fAxes && (decide (v.fMasters.length ≤ 8) && v.fMasters.all (maB v.fAxes.length))) := rfl
 have h3 := hv.1
 rw [h2] at h3
 simp only [Bool.and_eq_true] at h3
 exact h3.1
theorem inA_len (s : TGlyphSet) (v : TVariation) (vs : List Int) : (inA s v vs).length = s.fGlyphs.length := inG_len _ _ _ _
theorem Weak.adoptB2 {e : Env} {h : List Blk} (b : Nat) {x : D} (hb : h[b]? = some (.box (.st [.d x, .nils]))) (hb0 : Nat.ble 1 b = true) (n : Nat) (dp : Bool) : Weak e h e ((h ++ [Blk.arr n [] dp]).set b (.box (.st [.d x, .own h.length 0 0]))) :=
 Weak.trans (Weak.push0 n dp) (Weak.box b (v := .st [.d x, .nils]) (v' := .st [.d x, .own h.length 0 0]) (by rw [List.getElem?_append_left (List.getElem?_eq_some_iff.1 hb).1]; exact hb) hb0 (fun w M h' cs H => by
  obtain ⟨c1, c2, e1, h1, c3, c4, e2, h3, h4⟩ := H
  exact ⟨c1, c2, e1, h1, c3, c4, e2, repC_nil_own _ h3, h4⟩))
set_option maxHeartbeats 4000000 in
set_option maxRecDepth 100000 in
theorem InstanceOf_v (s : TGlyphSet) (v : TVariation) (vs : List Int) (z : V) (bs : List Blk) (h0 : inC s v vs = 0 → z = .tup [.st [.d (.int .i64 s.fUnit), .own 1 0 s.fGlyphs.length], .d (.int .i64 0)] ∧ bs = [.arr 7 ((inA s v vs).map TGlyph.D) true])
  (h1 : inC s v vs ≠ 0 → z = .tup [.st [.d (.int .i64 0), .nils], .d (.int .i64 (inC s v vs))] ∧ bs = []) : PC Tryz.prog 10 [.d s.D, .d v.D, .d (.lst (vs.map (D.int .i64)))] z bs := by
 refine pc_intro ttOk (by kernel_rfl) Tryz.func10 rfl (by kernel_rfl) (by kernel_rfl) (by kernel_rfl) (fun hw => ?_)
 have hLg : (s.fGlyphs.map TGlyph.D).length = s.fGlyphs.length := List.length_map _
 have hLa : (v.fAxes.map TAxis.D).length = v.fAxes.length := List.length_map _
 have c1 := ValidVariation_v v s
 have hC : inC s v vs = if vvB v s = true then (if vs.length = v.fAxes.length then (if (inA s v vs).all glB = true then 0 else 2) else 2) else 1 := rfl
 cases q1 : vvB v s
 ·rw [q1, if_neg (by decide)] at hC
  rw [q1] at c1
  obtain ⟨rfl, rfl⟩ := h1 (by omega)
  rw [hC]
  (conv => whnf)
  (repeat' (first | (refine stg_ ?_) | (refine cla_ (c1) ?_) | (refine br_ (fun hbr => ?_) (fun hbr => ?_))))
  all_goals (refine ⟨⟨[], trivial, by decide, ⟨_, rfl, rfl, ?_⟩⟩⟩; exact rn_)
 rw [q1, if_pos rfl] at hC
 have hl40 := vv_len q1
 have hax := vv_wf q1
 rw [q1] at c1
 by_cases q2 : vs.length = v.fAxes.length
 rotate_left
 ·rw [if_neg q2] at hC
  have c2 := NormalsOf_no v.fAxes vs (.inr q2)
  have hno : noC v.fAxes vs = 2 := by unfold noC; rw [if_pos hax]
  rw [hno] at c2
  obtain ⟨rfl, rfl⟩ := h1 (by omega)
  rw [hC]
  (conv => whnf)
  (repeat' (first | (refine stg_ ?_) | (refine cla_ (c1) ?_) | (refine cla_ (c2) ?_) | (refine br_ (fun hbr => ?_) (fun hbr => ?_))))
  all_goals first | (exfalso; omega) | skip
  all_goals (refine ⟨⟨[], trivial, by decide, ⟨_, rfl, rfl, ?_⟩⟩⟩; exact rn_)
 rw [if_pos q2] at hC
 have c2 := NormalsOf_v v.fAxes vs hax q2
 have hnm := noL_nms hax q2
 have hlN : (noL v.fAxes vs).length = v.fAxes.length := by simp [noL]; omega
 have hlA := inA_len s v vs
 have hAt : ∀ (k : Nat) (g : TGlyph), s.fGlyphs[k]? = some g → (inA s v vs)[k]? = some (vgF g (vgS g v.fMasters (k : Nat) (noL v.fAxes vs))) := fun k g hg => by have := inG_at v.fMasters (noL v.fAxes vs) 0 s.fGlyphs k g hg; rwa [Nat.zero_add] at this
 generalize hns : noL v.fAxes vs = ns at *
 generalize inA s v vs = A at *
 have hLn : (ns.map (D.int .i64)).length = v.fAxes.length := by rw [List.length_map, hlN]
 (conv => whnf)
 (repeat' (first | (refine stg_ ?_) | (refine cla_ (c1) ?_) | (refine cla_ (c2) ?_) | (refine br_ (fun hbr => ?_) (fun hbr => ?_))))
 refine LoopW.go (α := Nat) (fun k => [(3, .pB 1 [] 0), (4, .pB 2 [] 0), (6, .pB 3 [] 0), (8, .own 4 0 v.fAxes.length), (10, .pB 5 [] 0), (34, .d (.int .i64 s.fGlyphs.length)), (35, .d (.int .i64 k))])
  (fun k => [.gone, .box (.d s.D), .box (.d v.D), .box (.st [.d (.int .i64 0), .nils]), .arr 1 (ns.map (D.int .i64)) true, .box (.st [.d (.int .i64 s.fUnit), .own 6 0 ((A.take k).map TGlyph.D).length]), .arr 7 ((A.take k).map TGlyph.D) true])
  (fun k => k ≤ s.fGlyphs.length ∧ (A.take k).all glB = true) (fun k => s.fGlyphs.length - k) 0 (Weak.trans (Weak.adoptB2 5 rfl rfl 7 true) (Weak.cov ⟨rfl, rfl, rfl, rfl, rfl, by rw [← hLg]; rfl, rfl, trivial⟩ ⟨trivial, rfl, rfl, rfl, rfl, rfl, rfl, trivial⟩ rfl)) ⟨Nat.zero_le _, rfl⟩ (fun k hk => ?_)
 obtain ⟨hk, hka⟩ := hk
 have hd : ((A.take k).map TGlyph.D).length = k := by simp; omega
 (conv => whnf)
 (refine br_ (fun h2 => ?_) (fun h2 => ?_))
 ·obtain ⟨g, hg⟩ := at_lt' (xs := s.fGlyphs) (k := k) (by omega)
  have H := VaH_of q1 hg hnm
  have c3 := varyGlyph_v s v k g ns H
  have ha := hAt k g hg
  cases q4 : glB (vgF g (vgS g v.fMasters k ns))
  ·rw [q4] at c3
   rw [if_neg (by rw [all_false_at ha q4]; decide)] at hC
   obtain ⟨rfl, rfl⟩ := h1 (by omega)
   rw [hC]
   (repeat' (first | (refine stg_ ?_) | (refine cla_ (c3) ?_) | (refine br_ (fun hbr => ?_) (fun hbr => ?_))))
   all_goals first | (exfalso; omega) | skip
   all_goals (refine ⟨⟨[], trivial, by decide, ⟨_, rfl, rfl, ?_⟩⟩⟩; exact rn_)
  ·rw [q4] at c3
   have hF : (A.take (k + 1)).map TGlyph.D = (A.take k).map TGlyph.D ++ [(vgF g (vgS g v.fMasters k ns)).D] := by rw [take_snoc_get ha, List.map_append]; rfl
   have hvl : (List.map TLoop.D (vgF g (vgS g v.fMasters k ns)).fOutline.fLoops).length = g.fOutline.fLoops.length := by rw [List.length_map]; exact vgL_len _ _ _
   (repeat' (first | (refine stg_ ?_) | (refine cla_ (c3) ?_) | (refine TkW.at (by first | exact hvl.symm | (rw [List.length_map]; done)) ?_; (conv => whnf)) | (refine br_ (fun hbr => ?_) (fun hbr => ?_))))
   all_goals first | (exfalso; omega) | skip
   refine NextW.go (k + 1) (Weak.cov ⟨rfl, rfl, rfl, rfl, rfl, rfl, rfl, trivial⟩ ⟨trivial, rfl, rfl, rfl, rfl, ?_, ?_, trivial⟩ rfl) ⟨by omega, all_take_succ ha hka q4⟩ (by omega)
   ·rw [hF, List.length_append]; rfl
   ·rw [hF, ← hd, List.take_length]; rfl
 ·obtain rfl : k = s.fGlyphs.length := by omega
  have hAA : A.take s.fGlyphs.length = A := List.take_of_length_le (by omega)
  have hka2 : A.all glB = true := by rw [hAA] at hka; exact hka
  rw [if_pos hka2] at hC
  rw [hAA] at *
  have hd2 : (A.map TGlyph.D).length = s.fGlyphs.length := by rw [List.length_map]; exact hlA
  obtain ⟨rfl, rfl⟩ := h0 hC
  (repeat' (first | (refine stg_ ?_) | fail | (refine br_ (fun hbr => ?_) (fun hbr => ?_))))
  refine ⟨⟨[some 6], ⟨by decide, rfl, trivial, trivial⟩, by decide, ⟨_, rfl, rfl, ?_⟩⟩⟩
  rw [← hd2]
  exact rn_
theorem bs_ext {a b : ByteArray} (h : a.data.toList = b.data.toList) : a = b := ByteArray.ext (Array.toList_inj.mp h)
theorem bs_app (a b : ByteArray) : (a ++ b).data.toList = a.data.toList ++ b.data.toList := by simp
def jn (xs : List ByteArray) : ByteArray := mkS (Lib.join (xs.map (·.data.toList)) [32])
theorem join_v (xs : List ByteArray) (hN : xs.length ≤ 140737488355328) (hlen : (jn xs).size ≤ 140737488355328) : PC Tryz.prog 64 [.d (.lst (xs.map D.str)), .d (.str ⟨#[32]⟩)] (.d (.str (jn xs))) [] := by
 refine PC.of Tryz.func64 rfl rfl ?_
 rintro w X args ⟨c1, cs, rfl, h1, c2, cs2, rfl, h2, rfl⟩
 obtain ⟨a, cap, n, rfl, k1, k2, k3, k4⟩ := rep_lst.1 h1
 obtain ⟨rfl, h3⟩ := rep_str.1 h2
 rw [List.length_map] at k1 ⊢
 have hs : (jn xs).size ≤ maxLen := by unfold maxLen; omega
 by_cases h0 : xs = []
 ·subst h0
  exact (Tryz.strings_Join_none a cap ⟨#[32]⟩ w).mono fun e w' ⟨r1, r2⟩ => ⟨_, r1, by rw [r2]; exact Ext.refl w, rep_str.2 ⟨rfl, hs⟩⟩
 ·obtain ⟨b, o, rfl, hb, hc⟩ := str_cells k4 h0
  exact (Tryz.strings_Join b o cap xs ⟨#[32]⟩ w hc hb hN k1 (by rw [jn, mkS_size] at hlen; exact hlen)).mono fun e w' ⟨r1, r2⟩ => ⟨_, r1, r2, rep_str.2 ⟨rfl, hs⟩⟩
def ptB (p : TAxisPoint) : ByteArray := decB p.fFrom ++ ⟨#[58]⟩ ++ decB p.fTo
def wordsB (a : TAxis) : List ByteArray := [a.fName, decB a.fMin, decB a.fDefault, decB a.fMax] ++ a.fMap.map ptB
def textB (a : TAxis) : ByteArray := jn (wordsB a)
theorem sz32 : ByteArray.size ⟨#[32]⟩ = 1 := rfl
theorem sz58 : ByteArray.size ⟨#[58]⟩ = 1 := rfl
theorem lens_le {m : Nat} : ∀ (xs : List ByteArray), (∀ x ∈ xs, x.size ≤ m) → Lib.lens (xs.map (·.data.toList)) ≤ xs.length * m
 | [], _ => by simp [Lib.lens]
 | x :: t, h => by
  have := lens_le t (fun y hy => h y (by simp [hy]))
  have h1 : x.data.toList.length ≤ m := h x (by simp)
  simp only [Lib.lens, List.map_cons, List.sum_cons, List.length_cons, Nat.succ_mul] at this ⊢
  omega
theorem jn_size {m : Nat} {xs : List ByteArray} (h : ∀ x ∈ xs, x.size ≤ m) : (jn xs).size ≤ xs.length * (m + 1) := by
 cases xs with
 | nil => simp [jn, mkS_size, Lib.join]
 | cons x t =>
  have h2 := lens_le t (fun y hy => h y (by simp [hy]))
  have h1 : x.data.toList.length ≤ m := h x (by simp)
  rw [jn, mkS_size, List.map_cons, Lib.join_cons, List.length_append, Lib.joinTail_length, List.length_map, List.length_cons]
  simp only [List.length_cons, List.length_nil, Nat.zero_add, Nat.one_mul, Nat.add_mul, Nat.mul_add, Nat.mul_one]
  omega
theorem ax_sizes {a : TAxis} (h : axB a = true) : a.fName.size ≤ 12 ∧ a.fMap.length ≤ 6 := by
 simp only [axB, inB, Bool.and_eq_true, decide_eq_true_eq] at h
 refine ⟨?_, ?_⟩
 ·have := h.1.1.1.1
  simp only [nameB, Bool.and_eq_true, decide_eq_true_eq] at this
  exact this.1
 ·have := h.2
  cases hm : a.fMap with
  | nil => simp
  | cons x t =>
   rw [hm] at this
   simp only [mapB, List.isEmpty_cons, Bool.false_or, Bool.and_eq_true, decide_eq_true_eq] at this
   exact this.2
theorem decB_sz {n : Int} (h1 : -9223372036854775808 ≤ n) (h2 : n ≤ 9223372036854775807) : (decB n).size ≤ 21 := decB_size n (natAbs_bnd h1 h2)
theorem pt_in {a : TAxis} (h : axB a = true) {k : Nat} {p : TAxisPoint} (hp : a.fMap[k]? = some p) : (decB p.fFrom).size ≤ 21 ∧ (decB p.fTo).size ≤ 21 := by
 have := mp_ap _ _ (mapB_mp (axB_facts h).2.2.2.2.2) k p hp
 simp only [apB, nrm, Bool.and_eq_true, decide_eq_true_eq] at this
 exact ⟨decB_sz (by omega) (by omega), decB_sz (by omega) (by omega)⟩
theorem words_sz {a : TAxis} (h : axB a = true) : ∀ x ∈ wordsB a, x.size ≤ 43 := by
 obtain ⟨f1, f2, f3, f4, f5, -⟩ := axB_facts h
 have := ax_sizes h
 have d1 := decB_sz (n := a.fMin) (by omega) (by omega)
 have d2 := decB_sz (n := a.fDefault) (by omega) (by omega)
 have d3 := decB_sz (n := a.fMax) (by omega) (by omega)
 intro x hx
 simp only [wordsB, List.mem_append, List.mem_cons, List.not_mem_nil, or_false, List.mem_map] at hx
 rcases hx with (rfl | rfl | rfl | rfl) | ⟨p, hp, rfl⟩ <;> first | omega | skip
 obtain ⟨k, hk⟩ := List.getElem?_of_mem hp
 have := pt_in h hk
 rw [ptB, ByteArray.size_append, ByteArray.size_append, sz58]
 omega
theorem words_len (a : TAxis) : (wordsB a).length = 4 + a.fMap.length := by simp [wordsB]; omega
theorem words_at {a : TAxis} {k : Nat} {p : TAxisPoint} (hp : a.fMap[k]? = some p) : (wordsB a).take (4 + (k + 1)) = (wordsB a).take (4 + k) ++ [ptB p] := by
 have : (wordsB a)[4 + k]? = some (ptB p) := by
  rw [wordsB, List.getElem?_append_right (by simp)]
  simp [hp]
 exact take_snoc_get this
theorem words_4 (a : TAxis) : (wordsB a).take 4 = [a.fName, decB a.fMin, decB a.fDefault, decB a.fMax] := by simp [wordsB]
theorem take_sz {a : TAxis} (h : axB a = true) (k : Nat) : (jn ((wordsB a).take (4 + k))).size ≤ 1000 := by
 have h1 := jn_size (m := 43) (xs := (wordsB a).take (4 + k)) (fun x hx => words_sz h x (List.mem_of_mem_take hx))
 have h2 := ax_sizes h
 have h3 := words_len a
 rw [List.length_take] at h1
 have : min (4 + k) (wordsB a).length ≤ 10 := by omega
 have := Nat.mul_le_mul_right (43 + 1) this
 omega
set_option maxHeartbeats 2000000 in
theorem AxisText_v (a : TAxis) : PC Tryz.prog 23 [.d a.D] (.d (.str (if axB a = true then textB a else .empty))) [] := by
 refine pc_intro ttOk (by kernel_rfl) Tryz.func23 rfl (by kernel_rfl) (by kernel_rfl) (by kernel_rfl) (fun hw => ?_)
 have hL : (a.fMap.map TAxisPoint.D).length = a.fMap.length := List.length_map _
 cases hA : axB a
 ·(conv => whnf)
  (repeat' (first | (refine stg_ ?_) | (refine cla_ (ValidAxis_v a) ?_) | (refine br_ (fun hbr => ?_) (fun hbr => ?_))))
  all_goals first | (exfalso; simp_all; done) | ((refine RetOK.d rfl rfl ?_; conv => whnf); (try simp); (try rfl))
 ·have hm : (a.fMap.map TAxisPoint.D).length ≤ 9223372036854775807 := hw.1.2.2.2.2.1.1
  obtain ⟨s1, s2⟩ := ax_sizes hA
  (conv => whnf)
  (repeat' (first | (refine stg_ ?_) | (refine cla_ (ValidAxis_v a) ?_) | (refine cl_ (Decimal_v _) ?_) | (refine br_ (fun hbr => ?_) (fun hbr => ?_))))
  all_goals first | (exfalso; simp_all; done) | skip
  refine LoopW.go (α := Nat) (fun k => [(1, .pB 1 [] 0), (3, .own 2 0 (4 + k)), (22, .d (.lst (a.fMap.map TAxisPoint.D))), (23, .d (.int .i64 (a.fMap.map TAxisPoint.D).length)), (24, .d (.int .i64 k))]) (fun k => [.gone, .box (.d a.D), .arr 1 (((wordsB a).take (4 + k)).map D.str) true]) (fun k => k ≤ a.fMap.length) (fun k => a.fMap.length - k) 0 (Weak.cov ⟨rfl, rfl, rfl, rfl, rfl, trivial⟩ ⟨trivial, rfl, by rw [Nat.add_zero, words_4]; rfl, trivial⟩ rfl) (by omega) (fun k hk => ?_)
  have hW : (((wordsB a).take (4 + k)).map D.str).length = 4 + k := by rw [List.length_map, List.length_take, words_len]; omega
  (conv => whnf)
  (refine br_ (fun h2 => ?_) (fun h2 => ?_) <;> (repeat (refine stg_ ?_)))
  ·obtain ⟨p, hx⟩ := at_lt' (xs := a.fMap) (k := k) (by omega)
   obtain ⟨q1, q2⟩ := pt_in hA hx
   (repeat' (first | (refine stg_ ?_) | (refine cl_ (Decimal_v _) ?_) | (refine CatW.at (by show _ ≤ 9223372036854775807; simp only [ByteArray.size_append, sz32, sz58]; omega) ?_; conv => whnf) | (refine br_ (fun hbr => ?_) (fun hbr => ?_))))
   refine NextW.go (k + 1) (Weak.cov ⟨rfl, rfl, rfl, rfl, rfl, trivial⟩ ⟨trivial, rfl, ?_, trivial⟩ rfl) (by omega) (by omega)
   show Blk.arr 1 _ true = Blk.arr 1 _ true
   rw [List.take_of_length_le (Nat.le_of_eq hW), words_at hx, List.map_append]
   rfl
  ·have hk2 : k = a.fMap.length := by omega
   subst hk2
   have hT : (wordsB a).take (4 + a.fMap.length) = wordsB a := List.take_of_length_le (by rw [words_len]; omega)
   have hW2 : ((wordsB a).map D.str).length = 4 + a.fMap.length := by rw [List.length_map, words_len]
   have t0 := take_sz hA a.fMap.length
   rw [hT] at t0 ⊢
   (repeat' (first | (refine stg_ ?_) | (refine cla_ (join_v (wordsB a) (by rw [words_len]; omega) (by omega)) ?_) | (refine br_ (fun hbr => ?_) (fun hbr => ?_))))
   (refine RetOK.d rfl rfl ?_; conv => whnf)
   rfl
def spL (c : UInt8) : List UInt8 → List (List UInt8)
 | [] => [[]]
 | x :: t => if x = c then [] :: spL c t else match spL c t with
  | p :: r => (x :: p) :: r
  | [] => [[x]]
theorem spL_ne (c : UInt8) : ∀ l, spL c l ≠ []
 | [] => by simp [spL]
 | x :: t => by
  rw [spL]
  split
  ·simp
  ·split <;> simp
theorem spL_none {c : UInt8} : ∀ {l : List UInt8}, c ∉ l → spL c l = [l]
 | [], _ => rfl
 | x :: t, h => by
  simp only [List.mem_cons, not_or] at h
  rw [spL, if_neg (fun e => h.1 e.symm), spL_none h.2]
theorem spL_at {c : UInt8} (b : List UInt8) : ∀ {a : List UInt8}, c ∉ a → spL c (a ++ c :: b) = a :: spL c b
 | [], _ => by rw [List.nil_append, spL, if_pos rfl]
 | x :: t, h => by
  simp only [List.mem_cons, not_or] at h
  rw [List.cons_append, spL, if_neg (fun e => h.1 e.symm), spL_at b h.2]
theorem spL_len (c : UInt8) : ∀ l, (spL c l).length = l.count c + 1
 | [] => rfl
 | x :: t => by
  have ih := spL_len c t
  rw [spL]
  split
  ·rename_i h
   subst h
   rw [List.count_cons_self, List.length_cons, ih]
  ·rename_i h
   rw [List.count_cons_of_ne h]
   split
   ·rename_i p r e
    rw [e] at ih
    exact ih
   ·rename_i e
    exact absurd e (spL_ne c t)
theorem join_cons (w : List UInt8) {ws : List (List UInt8)} (sep : List UInt8) (h : ws ≠ []) : Lib.join (w :: ws) sep = w ++ (sep ++ Lib.join ws sep) := by
 cases ws with
 | nil => exact absurd rfl h
 | cons x t => simp [Lib.join]
theorem join_spL (c : UInt8) : ∀ l, Lib.join (spL c l) [c] = l
 | [] => rfl
 | x :: t => by
  have ih := join_spL c t
  rw [spL]
  split
  ·rename_i h
   subst h
   rw [join_cons _ _ (spL_ne x t), ih]; rfl
  ·split
   ·rename_i p r e
    rw [e] at ih
    cases r with
    | nil =>
     have e1 : Lib.join [p] [c] = p := by simp [Lib.join]
     have e2 : Lib.join [x :: p] [c] = x :: p := by simp [Lib.join]
     rw [e2, ← ih, e1]
    | cons q r =>
     rw [join_cons _ _ (by simp)] at ih ⊢
     rw [List.cons_append, ih]
   ·rename_i e
    exact absurd e (spL_ne c t)
theorem spL_mem (c : UInt8) : ∀ l, ∀ w ∈ spL c l, c ∉ w
 | [], w, h => by simp [spL] at h; simp [h]
 | x :: t, w, h => by
  rw [spL] at h
  split at h
  ·rcases List.mem_cons.1 h with rfl | h
   ·simp
   ·exact spL_mem c t w h
  ·rename_i hx
   split at h
   ·rename_i p r e
    rcases List.mem_cons.1 h with rfl | h
    ·have := spL_mem c t p (by rw [e]; simp)
     simp only [List.mem_cons, not_or]
     exact ⟨fun q => hx q.symm, this⟩
    ·exact spL_mem c t w (by rw [e]; simp [h])
   ·rename_i e
    exact absurd e (spL_ne c t)
theorem spL_le (c : UInt8) : ∀ l, ∀ w ∈ spL c l, w.length ≤ l.length
 | [], w, h => by simp [spL] at h; simp [h]
 | x :: t, w, h => by
  rw [spL] at h
  split at h
  ·rcases List.mem_cons.1 h with rfl | h
   ·simp
   ·have := spL_le c t w h
    rw [List.length_cons]; omega
  ·split at h
   ·rename_i p r e
    rcases List.mem_cons.1 h with rfl | h
    ·have := spL_le c t p (by rw [e]; simp)
     simp only [List.length_cons]; omega
    ·have := spL_le c t w (by rw [e]; simp [h])
     rw [List.length_cons]; omega
   ·rename_i e
    exact absurd e (spL_ne c t)
theorem idx_cases (c : UInt8) : ∀ l : List UInt8, (Lib.indexByte l c = -1 ∧ c ∉ l) ∨ ∃ a b, l = a ++ c :: b ∧ c ∉ a ∧ Lib.indexByte l c = (a.length : Nat)
 | [] => .inl ⟨rfl, by simp⟩
 | x :: t => by
  by_cases hx : x = c
  ·subst hx
   exact .inr ⟨[], t, rfl, by simp, by simp [Lib.indexByte]⟩
  ·have hne : (x == c) = false := by simpa using hx
   rcases idx_cases c t with ⟨h1, h2⟩ | ⟨a, b, rfl, h2, h3⟩
   ·refine .inl ⟨by simp [Lib.indexByte, hne, h1], ?_⟩
    simp only [List.mem_cons, not_or]
    exact ⟨fun e => hx e.symm, h2⟩
   ·refine .inr ⟨x :: a, b, rfl, ?_, ?_⟩
    ·simp only [List.mem_cons, not_or]
     exact ⟨fun e => hx e.symm, h2⟩
    ·have : ¬ ((a.length : Nat) : Int) = -1 := by omega
     simp [Lib.indexByte, hne, h3, this]
def dgtB (c : UInt8) : Bool := decide (48 ≤ c.toNat) && decide (c.toNat ≤ 57)
def dgV : List UInt8 → Nat → Option Nat
 | [], n => some n
 | c :: t, n => if dgtB c = true then dgV t (n * 10 + (c.toNat - 48)) else none
def tlN (l : List UInt8) : List UInt8 := if l[0]? = some 45 then l.drop 1 else l
def sgN (l : List UInt8) (n : Nat) : Int := if l[0]? = some 45 then -(n : Int) else n
def rdN (l : List UInt8) : Option Int :=
 if (tlN l).length < 1 ∨ 18 < (tlN l).length then none else
 match dgV (tlN l) 0 with
 | none => none
 | some n => if decS (sgN l n) = l then some (sgN l n) else none
theorem rdN_dec {l : List UInt8} {n : Int} (h : rdN l = some n) : decS n = l := by
 unfold rdN at h
 split at h
 ·cases h
 ·split at h
  ·cases h
  ·split at h
   ·rename_i e
    cases h
    exact e
   ·cases h
theorem dgV_lt : ∀ (l : List UInt8) (n m : Nat), dgV l n = some m → m < (n + 1) * 10 ^ l.length
 | [], n, m, h => by cases h; simp
 | c :: t, n, m, h => by
  rw [dgV] at h
  split at h
  ·rename_i hc
   have := dgV_lt t _ m h
   simp only [dgtB, Bool.and_eq_true, decide_eq_true_eq] at hc
   have h2 : (n * 10 + (c.toNat - 48) + 1) * 10 ^ t.length ≤ (n + 1) * 10 * 10 ^ t.length := Nat.mul_le_mul_right _ (by omega)
   rw [List.length_cons, Nat.pow_succ, Nat.mul_comm (10 ^ t.length) 10, ← Nat.mul_assoc]
   omega
  ·cases h
theorem dgV_app : ∀ (a b : List UInt8) (n : Nat), dgV (a ++ b) n = (dgV a n).bind (dgV b)
 | [], b, n => rfl
 | c :: t, b, n => by
  rw [List.cons_append, dgV, dgV]
  split
  ·exact dgV_app t b _
  ·rfl
theorem dgV_dec : ∀ u : Nat, dgV (decL u) 0 = some u := by
 intro u
 induction u using Nat.strongRecOn with
 | ind u ih =>
  have hd : ∀ d, d < 10 → dgtB (dgC d) = true ∧ (dgC d).toNat - 48 = d := fun d hd => by
   have := dgC_toNat hd
   constructor
   ·simp only [dgtB, Bool.and_eq_true, decide_eq_true_eq]; omega
   ·omega
  by_cases hu : u < 10
  ·rw [decL_lo hu, dgV, if_pos (hd u hu).1, dgV, (hd u hu).2]; simp
  ·have h1 := hd (u % 10) (by omega)
   rw [decL_hi hu, dgV_app, ih (u / 10) (by omega)]
   show dgV [dgC (u % 10)] (u / 10) = some u
   rw [dgV, if_pos h1.1, dgV, h1.2]
   congr 1; omega
theorem decL_dg : ∀ u : Nat, ∀ c ∈ decL u, dgtB c = true := by
 intro u
 induction u using Nat.strongRecOn with
 | ind u ih =>
  have hd : ∀ d, d < 10 → dgtB (dgC d) = true := fun d hd => by
   have := dgC_toNat hd
   simp only [dgtB, Bool.and_eq_true, decide_eq_true_eq]; omega
  intro c hc
  by_cases hu : u < 10
  ·rw [decL_lo hu] at hc
   obtain rfl : c = _ := by simpa using hc
   exact hd u hu
  ·rw [decL_hi hu] at hc
   rcases List.mem_append.1 hc with hc | hc
   ·exact ih (u / 10) (by omega) c hc
   ·obtain rfl : c = _ := by simpa using hc
    exact hd _ (by omega)
theorem decL_head (u : Nat) : (decL u)[0]? ≠ some 45 := fun h => by
 have := decL_dg u 45 (List.mem_of_getElem? h)
 revert this
 decide
theorem rdN_of {n : Int} (h : n.natAbs < 10 ^ 18) : rdN (decS n) = some n := by
 have hl := decL_len 17 n.natAbs h
 have hp := decL_pos n.natAbs
 by_cases hn : n < 0
 ·have e : decS n = 45 :: decL n.natAbs := by rw [decS, if_pos hn]; rfl
  have e1 : tlN (decS n) = decL n.natAbs := by rw [tlN, e, if_pos (show (45 :: decL n.natAbs)[0]? = some 45 from rfl)]; rfl
  have e2 : sgN (decS n) n.natAbs = n := by rw [sgN, e, if_pos (show (45 :: decL n.natAbs)[0]? = some 45 from rfl)]; omega
  rw [rdN, e1, if_neg (by omega), dgV_dec]
  simp only [e2, if_pos]
 ·have e : decS n = decL n.natAbs := by rw [decS, if_neg hn]; rfl
  have e1 : tlN (decS n) = decL n.natAbs := by rw [tlN, e, if_neg (decL_head _)]
  have e2 : sgN (decS n) n.natAbs = n := by rw [sgN, e, if_neg (decL_head _)]; omega
  rw [rdN, e1, if_neg (by omega), dgV_dec]
  simp only [e2, if_pos]
theorem decS_in {n : Int} {c : UInt8} (h : c ∈ decS n) : dgtB c = true ∨ c = 45 := by
 rw [decS] at h
 rcases List.mem_append.1 h with h | h
 ·split at h
  ·exact .inr (by simpa using h)
  ·cases h
 ·exact .inl (decL_dg _ c h)
def spB (c : UInt8) (s : ByteArray) : List ByteArray := (spL c s.data.toList).map mkS
theorem spB_len (c : UInt8) (s : ByteArray) : (spB c s).length = s.data.toList.count c + 1 := by rw [spB, List.length_map, spL_len]
theorem spB_le (c : UInt8) (s : ByteArray) : ∀ w ∈ spB c s, w.size ≤ s.size := fun w hw => by
 rw [spB, List.mem_map] at hw
 obtain ⟨l, h1, rfl⟩ := hw
 have := spL_le c _ l h1
 rw [mkS_size]
 exact Nat.le_trans this (Nat.le_of_eq Array.length_toList)
theorem spB_none {c : UInt8} {s : ByteArray} (h : c ∉ s.data.toList) : spB c s = [s] := by rw [spB, spL_none h, List.map_cons, mkS_of]; rfl
theorem spB_at {c : UInt8} {s : ByteArray} {a b : List UInt8} (e : s.data.toList = a ++ c :: b) (h : c ∉ a) : spB c s = mkS a :: spB c (mkS b) := by
 rw [spB, e, spL_at b h, List.map_cons, spB, mkS_toList]
theorem bx_take {s : ByteArray} {a b : List UInt8} (e : s.data.toList = a ++ b) : s.extract 0 a.length = mkS a := by
 apply bs_ext
 rw [ByteArray.data_extract, Array.toList_extract, mkS_toList, e]
 simp
theorem bx_drop {s : ByteArray} {a b : List UInt8} {k : Nat} (e : s.data.toList = a ++ b) (hk : k = a.length) : s.extract k s.size = mkS b := by
 subst hk
 have hl : s.size = a.length + b.length := by
  have := congrArg List.length e
  rw [List.length_append] at this
  rw [← this]; exact Array.length_toList.symm
 apply bs_ext
 rw [ByteArray.data_extract, Array.toList_extract, mkS_toList, e, hl]
 simp
theorem Index_v (s sp : ByteArray) (c : UInt8) (hsp : sp = ⟨#[c]⟩) (hs : s.size ≤ 1048576) : PC Tryz.prog 137 [.d (.str s), .d (.str sp)] (.d (.int .i64 (Lib.indexByte s.data.toList c))) [] := by
 subst hsp
 refine PC.of Tryz.func137 rfl rfl ?_
 rintro w X args ⟨c1, cs, rfl, h1, c2, cs2, rfl, h2, rfl⟩
 obtain ⟨rfl, h3⟩ := rep_str.1 h1
 obtain ⟨rfl, h4⟩ := rep_str.1 h2
 refine (Tryz.strings_Index_one s c w).mono fun e w' ⟨r1, r2⟩ => ⟨_, r1, by rw [r2]; exact Ext.refl w, rep_int.2 ⟨rfl, ?_⟩⟩
 have e1 : IntKind.i64.min = -9223372036854775808 := rfl
 have e2 : IntKind.i64.max = 9223372036854775807 := rfl
 have hl : s.data.toList.length = s.size := Array.length_toList
 rcases idx_cases c s.data.toList with ⟨h5, _⟩ | ⟨a, b, e, _, h5⟩
 ·rw [h5]; unfold inR; omega
 ·have := congrArg List.length e
  rw [List.length_append, hl] at this
  rw [h5]; unfold inR; omega
theorem Count_v (s sp : ByteArray) (c : UInt8) (hsp : sp = ⟨#[c]⟩) (hs : s.size ≤ 1048576) : PC Tryz.prog 136 [.d (.str s), .d (.str sp)] (.d (.int .i64 (s.data.toList.count c : Nat))) [] := by
 subst hsp
 refine PC.of Tryz.func136 rfl rfl ?_
 rintro w X args ⟨c1, cs, rfl, h1, c2, cs2, rfl, h2, rfl⟩
 obtain ⟨rfl, h3⟩ := rep_str.1 h1
 obtain ⟨rfl, h4⟩ := rep_str.1 h2
 refine (Tryz.strings_Count_one s c w).mono fun e w' ⟨r1, r2⟩ => ⟨_, r1, by rw [r2]; exact Ext.refl w, rep_int.2 ⟨rfl, ?_⟩⟩
 have e1 : IntKind.i64.min = -9223372036854775808 := rfl
 have e2 : IntKind.i64.max = 9223372036854775807 := rfl
 have hl : s.data.toList.length = s.size := Array.length_toList
 have := List.count_le_length (a := c) (l := s.data.toList)
 unfold inR; omega
theorem row_set {ps : List ByteArray} {k : Nat} {x : ByteArray} (hx : ps[k]? = some x) : ((ps.take k ++ List.replicate (ps.length - k) ByteArray.empty).map D.str).set k (.str x) = (ps.take (k + 1) ++ List.replicate (ps.length - (k + 1)) ByteArray.empty).map D.str := by
 have hk := (List.getElem?_eq_some_iff.1 hx).1
 have hl : (ps.take k).length = k := by rw [List.length_take]; omega
 rw [← List.map_set, List.set_append_right _ _ (by omega), hl, Nat.sub_self, show ps.length - k = (ps.length - (k + 1)) + 1 by omega, List.replicate_succ, List.set_cons_zero, take_snoc_get hx, List.append_assoc, List.singleton_append]
set_option maxHeartbeats 4000000 in
theorem genSplit_v (s sp : ByteArray) (c : UInt8) (hsp : sp = ⟨#[c]⟩) (hs : s.size ≤ 1048576) (hp1 : sp.size = 1) (hp2 : (sp.toList == (ByteArray.mk #[]).toList) = false) : PC Tryz.prog 101 [.d (.str s), .d (.str sp), .d (.int .i64 0), .d (.int .i64 (-1))] (.own 1 0 (spB c s).length) [.arr 1 ((spB c s).map D.str) true] := by
 refine pc_intro ttOk (by kernel_rfl) Tryz.func101 rfl (by kernel_rfl) (by kernel_rfl) (by kernel_rfl) (fun hw => ?_)
 have c1 := Count_v s sp c hsp hs
 have hl : s.data.toList.length = s.size := Array.length_toList
 have hcl := List.count_le_length (a := c) (l := s.data.toList)
 have hn := spB_len c s
 have hn1 : (spB c s).length ≤ 1048577 := by omega
 (conv => whnf)
 rw [hp2]
 (repeat' (first | (refine stg_ ?_) | (refine cla_ (c1) ?_) | (refine br_ (fun hbr => ?_) (fun hbr => ?_))))
 all_goals try (exfalso; omega)
 obtain ⟨ps, hps⟩ : ∃ ps, ps = spB c s := ⟨_, rfl⟩
 rw [← hps] at hn hn1 ⊢
 rw [show min (((s.data.toList.count c : Nat) : Int) + 1) ((s.size : Nat) + 1) = ((ps.length : Nat) : Int) by omega]
 refine MkW.at (by omega) (by omega) (by show ((16 : Nat) : Int) * _ ≤ _; omega) ?_
 (conv => whnf)
 (repeat (refine stg_ ?_))
 refine LoopW.go (α := Nat × ByteArray) (fun p => [(0, .d (.str p.2)), (1, .d (.str sp)), (2, .d (.int .i64 0)), (3, .d (.int .i64 ((ps.length : Nat) - 1 : Int))), (9, .own 1 0 ps.length), (10, .d (.int .i64 p.1))]) (fun p => [.gone, .arr 1 ((ps.take p.1 ++ List.replicate (ps.length - p.1) ByteArray.empty).map D.str) true])
  (fun p => p.1 < ps.length ∧ spB c p.2 = ps.drop p.1 ∧ p.2.size ≤ s.size) (fun p => ps.length - p.1) (0, s) (Weak.cov ⟨rfl, rfl, rfl, rfl, rfl, rfl, trivial⟩ ⟨trivial, ?_, trivial⟩ rfl) ⟨by dsimp only; omega, by dsimp only; rw [← hps]; rfl, Nat.le_refl _⟩ ?_
 ·show _ = Blk.arr 1 _ true
  rw [List.take_zero, List.nil_append, Nat.sub_zero, List.map_replicate]; rfl
 rintro ⟨k, r⟩ ⟨k1, k2, k3⟩
 dsimp only at k1 k2 k3 ⊢
 have hrl : r.data.toList.length = r.size := Array.length_toList
 have hrc := spB_len c r
 rw [k2, List.length_drop] at hrc
 have c2 := Index_v r sp c hsp (by omega)
 have hL : ((ps.take k ++ List.replicate (ps.length - k) ByteArray.empty).map D.str).length = ps.length := by simp; omega
 (conv => whnf)
 (repeat (refine stg_ ?_))
 (refine br_ (fun h1 => ?_) (fun h1 => ?_))
 ·rcases idx_cases c r.data.toList with ⟨_, hno⟩ | ⟨a, b, e, ha, hi⟩
  ·exfalso
   have := List.count_eq_zero.2 hno
   omega
  ·rw [hi] at c2
   have hkd := spB_at e ha
   rw [k2] at hkd
   obtain ⟨x, hx⟩ := at_lt' (xs := ps) (k := k) k1
   rw [drop_at hx] at hkd
   obtain ⟨rfl, hk2⟩ := List.cons.inj hkd
   have hlen := congrArg List.length e
   rw [List.length_append, List.length_cons, hrl] at hlen
   have he : ((ps.take k ++ List.replicate (ps.length - k) ByteArray.empty).map D.str)[k]? = some (.str ByteArray.empty) := by
    rw [List.getElem?_map, List.getElem?_append_right (by rw [List.length_take]; omega), List.length_take, Nat.min_eq_left (by omega), Nat.sub_self, List.getElem?_replicate, if_pos (by omega)]; rfl
   (repeat' (first | (refine stg_ ?_) | (refine cla_ (c2) ?_) | (refine br_ (fun hbr => ?_) (fun hbr => ?_))))
   all_goals try (exfalso; omega)
   have hx1 : r.extract 0 (((a.length : Nat) : Int) + 0).toNat = mkS a := by
    rw [show (((a.length : Nat) : Int) + 0).toNat = a.length by omega]; exact bx_take e
   have hx2 : r.extract (((a.length : Nat) : Int) + ((sp.size : Nat) : Int)).toNat r.size = mkS b := by
    refine bx_drop (a := a ++ [c]) (by rw [e]; simp) ?_
    rw [List.length_append, List.length_singleton]; omega
   refine NextW.go (k + 1, mkS b) (Weak.cov ⟨?_, rfl, rfl, rfl, rfl, rfl, trivial⟩ ⟨trivial, ?_, trivial⟩ rfl) ⟨by dsimp only; omega, by dsimp only; exact hk2.symm, by dsimp only; rw [mkS_size]; omega⟩ (by dsimp only; omega)
   ·show V.d (D.str (r.extract (((a.length : Nat) : Int) + ((sp.size : Nat) : Int)).toNat r.size)) = _
    rw [hx2]
   ·show _ = Blk.arr 1 _ true
    rw [← row_set hx, ← hx1]; rfl
 ·obtain ⟨x, hx⟩ := at_lt' (xs := ps) (k := k) k1
  have hk : k + 1 = ps.length := by omega
  have hno : c ∉ r.data.toList := by
   intro hm
   have := List.count_pos_iff.2 hm
   omega
  have hr : r = x := by
   have h2 := spB_none hno
   rw [k2, drop_at hx] at h2
   exact (List.cons.inj h2).1.symm
  have he : ((ps.take k ++ List.replicate (ps.length - k) ByteArray.empty).map D.str)[k]? = some (.str ByteArray.empty) := by
   rw [List.getElem?_map, List.getElem?_append_right (by rw [List.length_take]; omega), List.length_take, Nat.min_eq_left (by omega), Nat.sub_self, List.getElem?_replicate, if_pos (by omega)]; rfl
  have hfin := row_set hx
  rw [hk, List.take_length, Nat.sub_self, List.replicate_zero, List.append_nil] at hfin
  rw [hr]
  (repeat' (first | (refine stg_ ?_) | fail | (refine br_ (fun hbr => ?_) (fun hbr => ?_))))
  rw [show ((k : Nat) : Int).toNat + 0 = k from rfl, hfin, ← hk]
  (refine ⟨⟨[some 1], ⟨by decide, rfl, trivial, trivial⟩, by decide, rfl, ?_⟩⟩; (conv => whnf); exact ⟨by decide, rfl⟩)
theorem Split_v (s sp : ByteArray) (c : UInt8) (hsp : sp = ⟨#[c]⟩) (hs : s.size ≤ 1048576) (hp1 : sp.size = 1) (hp2 : (sp.toList == (ByteArray.mk #[]).toList) = false) : PC Tryz.prog 55 [.d (.str s), .d (.str sp)] (.own 1 0 (spB c s).length) [.arr 1 ((spB c s).map D.str) true] := by
 refine pc_intro ttOk (by kernel_rfl) Tryz.func55 rfl (by kernel_rfl) (by kernel_rfl) (by kernel_rfl) (fun hw => ?_)
 have c1 := genSplit_v s sp c hsp hs hp1 hp2
 (conv => whnf)
 (repeat' (first | (refine stg_ ?_) | (refine cla_ (c1) ?_) | (refine br_ (fun hbr => ?_) (fun hbr => ?_))))
 all_goals (refine ⟨⟨[some 1], ⟨by decide, rfl, trivial, trivial⟩, by decide, rfl, ?_⟩⟩; (conv => whnf); exact ⟨by decide, rfl⟩)
theorem ext_data (s : ByteArray) (f i : Nat) : s.extract f i = mkS ((s.data.toList.drop f).take (i - f)) := by
 apply bs_ext
 rw [ByteArray.data_extract, Array.toList_extract, mkS_toList]
theorem bL' (s : ByteArray) (k : Nat) : s[k]? = s.data.toList[k]? := by
 rcases Nat.lt_or_ge k s.size with h | h
 ·rw [bget? h, bgetN h]
 ·rw [List.getElem?_eq_none (by simpa using h)]
  simp [h]
theorem bTl (s : ByteArray) : s.data.toList = s.toList := (Go.ByteArray.toList_eq s).symm
theorem rdN_no {l : List UInt8} (h : (tlN l).length < 1 ∨ 18 < (tlN l).length) : rdN l = none := by rw [rdN, if_pos h]
theorem rdN_bad {l : List UInt8} {k : Nat} {n : Nat} {c : UInt8} (h : dgV ((tlN l).take k) 0 = some n) (hc : (tlN l)[k]? = some c) (hd : dgtB c = false) : rdN l = none := by
 have e : dgV (tlN l) 0 = none := by
  rw [← List.take_append_drop k (tlN l), dgV_app, h, drop_at hc]
  show dgV (c :: _) n = none
  rw [dgV, if_neg (by rw [hd]; decide)]
 rw [rdN]
 split
 ·rfl
 ·rw [e]
theorem dgV_step {t : List UInt8} {k n : Nat} {c : UInt8} (h : dgV (t.take k) 0 = some n) (hc : t[k]? = some c) (hd : dgtB c = true) : dgV (t.take (k + 1)) 0 = some (n * 10 + (c.toNat - 48)) := by
 rw [take_snoc_get hc, dgV_app, h]
 show dgV [c] n = _
 rw [dgV, if_pos hd, dgV]
theorem rdN_end {l : List UInt8} {n : Nat} (h1 : 1 ≤ (tlN l).length) (h2 : (tlN l).length ≤ 18) (h : dgV (tlN l) 0 = some n) : rdN l = if decS (sgN l n) = l then some (sgN l n) else none := by
 rw [rdN, if_neg (by omega), h]
set_option maxHeartbeats 4000000 in
theorem CutPrefix_v (s pf : ByteArray) (hp1 : pf.size = 1) (hp2 : pf.toList = [45]) : PC Tryz.prog 139 [.d (.str s), .d (.str pf)] (.tup [.d (.str (mkS (tlN s.data.toList))), .d (.bool (decide (s.data.toList[0]? = some 45)))]) [] := by
 have c1 : PC Tryz.prog 168 [.d (.str s), .d (.str pf)] (.d (.bool (decide (s.data.toList[0]? = some 45)))) [] := by
  refine pc_intro ttOk (by kernel_rfl) Tryz.func168 rfl (by kernel_rfl) (by kernel_rfl) (by kernel_rfl) (fun hw => ?_)
  have hs : s.size ≤ 9223372036854775807 := hw.1
  have hl : s.data.toList.length = s.size := Array.length_toList
  have hpt : pf.data.toList = [45] := by rw [bTl]; exact hp2
  rcases hL : s.data.toList with _ | ⟨b, t⟩
  ·have hs0 : s.size = 0 := by rw [← hl, hL]; rfl
   rw [show decide (([] : List UInt8)[0]? = some 45) = false by decide]
   (conv => whnf)
   rw [show decide (((pf.size : Nat) : Int) ≤ ((s.size : Nat) : Int)) = false by rw [decide_eq_false_iff_not]; omega]
   (conv => whnf)
   (repeat (refine stg_ ?_))
   (refine RetOK.d rfl rfl ?_; conv => whnf)
  ·have hs1 : s.size = t.length + 1 := by rw [← hl, hL]; rfl
   have hx : (s.extract 0 1).toList = [b] := by
    rw [← bTl, ext_data, hL, mkS_toList]; rfl
   rw [show decide ((b :: t)[0]? = some 45) = (b == 45) by simp [Bool.beq_eq_decide_eq]]
   have hxx : ((s.extract 0 1).toList == pf.toList) = (b == 45) := by rw [hx, hp2]; simp
   (conv => whnf)
   rw [show decide (((pf.size : Nat) : Int) ≤ ((s.size : Nat) : Int)) = true by rw [decide_eq_true_eq]; omega, show (((pf.size : Nat) : Int)) = 1 by omega]
   (conv => whnf)
   (repeat (refine stg_ ?_))
   (refine RetOK.d rfl rfl ?_; conv => whnf)
   rw [Int.toNat_natCast, hp1, hxx]
 have c2 : PC Tryz.prog 162 [.d (.str s), .d (.str pf)] (.tup [.d (.str (mkS (tlN s.data.toList))), .d (.bool (decide (s.data.toList[0]? = some 45)))]) [] := by
  refine pc_intro ttOk (by kernel_rfl) Tryz.func162 rfl (by kernel_rfl) (by kernel_rfl) (by kernel_rfl) (fun hw => ?_)
  have hl : s.data.toList.length = s.size := Array.length_toList
  rcases hL : s.data.toList with _ | ⟨b, t⟩
  ·rw [hL] at c1
   rw [show decide (([] : List UInt8)[0]? = some 45) = false by decide] at c1 ⊢
   have : s = mkS [] := by apply bs_ext; rw [hL, mkS_toList]
   (conv => whnf)
   (refine cla_ (c1) ?_)
   (repeat' (first | (refine stg_ ?_) | fail | (refine br_ (fun hbr => ?_) (fun hbr => ?_))))
   (refine RetOK.t rfl ?_; (repeat' ((conv => whnf); (first | done | (refine ⟨_, _, rfl, ⟨rfl, ?_⟩, ?_⟩) | fail))); (all_goals (conv => whnf)))
   all_goals (rw [this]; rfl)
  ·have hs1 : s.size = t.length + 1 := by rw [← hl, hL]; rfl
   rw [hL] at c1
   by_cases hb : b = 45
   ·subst hb
    have e1 : tlN (45 :: t) = t := by rw [tlN, if_pos (show (45 :: t)[0]? = some 45 from rfl)]; rfl
    have e2 : s.extract (((pf.size : Nat) : Int)).toNat s.size = mkS t := by
     rw [Int.toNat_natCast, hp1]
     exact bx_drop (a := [45]) (by rw [hL]; rfl) rfl
    rw [show decide ((45 :: t)[0]? = some 45) = true by simp] at c1 ⊢
    rw [e1]
    (conv => whnf)
    (refine cla_ (c1) ?_)
    (repeat' (first | (refine stg_ ?_) | fail | (refine br_ (fun hbr => ?_) (fun hbr => ?_))))
    (refine RetOK.t rfl ?_; (repeat' ((conv => whnf); (first | done | (refine ⟨_, _, rfl, ⟨rfl, ?_⟩, ?_⟩) | fail))); (all_goals (conv => whnf)))
    all_goals (rw [e2])
   ·have e1 : tlN (b :: t) = b :: t := by rw [tlN, if_neg (by simpa using hb)]
    have : s = mkS (b :: t) := by apply bs_ext; rw [hL, mkS_toList]
    rw [show decide ((b :: t)[0]? = some 45) = false by simpa using hb] at c1 ⊢
    rw [e1]
    (conv => whnf)
    (refine cla_ (c1) ?_)
    (repeat' (first | (refine stg_ ?_) | fail | (refine br_ (fun hbr => ?_) (fun hbr => ?_))))
    (refine RetOK.t rfl ?_; (repeat' ((conv => whnf); (first | done | (refine ⟨_, _, rfl, ⟨rfl, ?_⟩, ?_⟩) | fail))); (all_goals (conv => whnf)))
    all_goals (rw [this])
 refine pc_intro ttOk (by kernel_rfl) Tryz.func139 rfl (by kernel_rfl) (by kernel_rfl) (by kernel_rfl) (fun hw => ?_)
 (conv => whnf)
 (repeat' (first | (refine stg_ ?_) | (refine cla_ (c2) ?_) | (refine br_ (fun hbr => ?_) (fun hbr => ?_))))
 all_goals (refine RetOK.t rfl ?_; (repeat' ((conv => whnf); (first | done | (refine ⟨_, _, rfl, ⟨rfl, ?_⟩, ?_⟩) | fail))); (all_goals (conv => whnf)))
theorem dgt_eq (c : UInt8) : dgtB c = dgB c := by
 unfold dgtB dgB
 congr 1 <;> (rw [decide_eq_decide]; omega)
theorem dec_cmp (m : Int) (s : ByteArray) : ((decB m).toList == s.toList) = decide (decS m = s.data.toList) := by
 rw [← bTl, ← bTl, decB, mkS_toList, Bool.beq_eq_decide_eq]
set_option maxHeartbeats 4000000 in
theorem ReadDecimal_v (s : ByteArray) : PC Tryz.prog 103 [.d (.str s)] (.tup [.d (.int .i64 ((rdN s.data.toList).getD 0)), .d (.bool (rdN s.data.toList).isSome)]) [] := by
 refine pc_intro ttOk (by kernel_rfl) Tryz.func103 rfl (by kernel_rfl) (by kernel_rfl) (by kernel_rfl) (fun hw => ?_)
 have c1 := CutPrefix_v s ⟨#[45]⟩ rfl (by rw [← bTl])
 obtain ⟨l, hl⟩ : ∃ l, l = s.data.toList := ⟨_, rfl⟩
 rw [← hl] at c1 ⊢
 obtain ⟨t, ht⟩ : ∃ t, t = tlN l := ⟨_, rfl⟩
 have hsz := mkS_size t
 rw [← ht] at c1
 (conv => whnf)
 (refine cla_ (c1) ?_)
 (repeat (refine stg_ ?_))
 (refine br_ (fun h1 => ?_) (fun h1 => ?_))
 ·rw [rdN_no (by rw [← ht]; omega)]
  (repeat' (first | (refine stg_ ?_) | fail | (refine br_ (fun hbr => ?_) (fun hbr => ?_))))
  all_goals ((refine RetOK.t rfl ?_; (repeat' ((conv => whnf); (first | done | (refine ⟨_, _, rfl, ⟨rfl, ?_⟩, ?_⟩) | fail))); (all_goals (conv => whnf))); all_goals rfl)
 (repeat' (first | (refine stg_ ?_) | fail | (refine br_ (fun hbr => ?_) (fun hbr => ?_))))
 ·rw [rdN_no (by rw [← ht]; omega)]
  (refine RetOK.t rfl ?_; (repeat' ((conv => whnf); (first | done | (refine ⟨_, _, rfl, ⟨rfl, ?_⟩, ?_⟩) | fail))); (all_goals (conv => whnf)))
  all_goals rfl
 have hn1 : 1 ≤ t.length := by omega
 have hn2 : t.length ≤ 18 := by omega
 refine LoopW.go (α := Nat × Nat) (fun p => [(0, .d (.str s)), (4, .d (.str (mkS t))), (5, .d (.bool (decide (l[0]? = some 45)))), (6, .d (.int .i64 p.2)), (7, .d (.int .i64 p.1))]) (fun _ => [.gone]) (fun p => p.1 ≤ t.length ∧ dgV (t.take p.1) 0 = some p.2) (fun p => t.length - p.1) (0, 0) covT_ ⟨by simp, rfl⟩ ?_
 rintro ⟨k, n⟩ ⟨k1, k2⟩
 dsimp only at k1 k2 ⊢
 have hnb := dgV_lt _ _ _ k2
 have hkb : (t.take k).length = k := by rw [List.length_take]; omega
 have h10 : 10 ^ (t.take k).length ≤ 10 ^ 18 := Nat.pow_le_pow_right (by omega) (by omega)
 (conv => whnf)
 (repeat (refine stg_ ?_))
 (refine br_ (fun h3 => ?_) (fun h3 => ?_))
 ·obtain ⟨c, hc⟩ := at_lt' (xs := t) (k := k) (by omega)
  have hc' : (mkS t)[k]? = some c := by rw [bL', mkS_toList]; exact hc
  have h10' : 10 ^ (t.take k).length ≤ 10 ^ 17 := Nat.pow_le_pow_right (by omega) (by omega)
  have hcl := c.toNat_lt
  have c2 := isDigit_v c
  rw [← dgt_eq] at c2
  cases hd : dgtB c
  ·rw [hd] at c2
   rw [rdN_bad (by rw [← ht]; exact k2) (by rw [← ht]; exact hc) hd]
   (repeat' (first | (refine stg_ ?_) | (refine cla_ (c2) ?_) | (refine br_ (fun hbr => ?_) (fun hbr => ?_))))
   all_goals ((refine RetOK.t rfl ?_; (repeat' ((conv => whnf); (first | done | (refine ⟨_, _, rfl, ⟨rfl, ?_⟩, ?_⟩) | fail))); (all_goals (conv => whnf))); all_goals rfl)
  ·rw [hd] at c2
   have hd2 := hd
   simp only [dgtB, Bool.and_eq_true, decide_eq_true_eq] at hd2
   (repeat' (first | (refine stg_ ?_) | (refine cla_ (c2) ?_) | (refine br_ (fun hbr => ?_) (fun hbr => ?_))))
   refine NextW.go (k + 1, n * 10 + (c.toNat - 48)) (Weak.cov ⟨rfl, rfl, rfl, ?_, rfl, trivial⟩ ⟨trivial, trivial⟩ rfl) ⟨by dsimp only; omega, dgV_step k2 hc hd⟩ (by dsimp only; omega)
   show V.d (D.int .i64 ((n : Int) * 10 + ((c.toNat : Nat) - 48 : Int))) = V.d (D.int .i64 ((n * 10 + (c.toNat - 48) : Nat) : Int))
   congr 2; omega
 ·have hk : k = t.length := by omega
  rw [hk, List.take_length] at k2
  rw [rdN_end (by rw [← ht]; exact hn1) (by rw [← ht]; exact hn2) (by rw [← ht]; exact k2)]
  have fin : ∀ m : Int, (decS m = l ∧ (decB m).toList = s.toList) ∨ (¬ decS m = l ∧ ¬ (decB m).toList = s.toList) := fun m => by
   have h := dec_cmp m s
   rw [← hl] at h
   by_cases q : decS m = l
   ·exact .inl ⟨q, by simpa [q] using h⟩
   ·exact .inr ⟨q, by simpa [q] using h⟩
  by_cases h45 : l[0]? = some 45
  ·have em : sgN l n = 0 - (n : Int) := by rw [sgN, if_pos h45]; omega
   have c3 := Decimal_v (0 - (n : Int))
   rw [em, decide_eq_true h45]
   rcases fin (0 - (n : Int)) with ⟨q1, q2⟩ | ⟨q1, q2⟩
   ·rw [if_pos q1]
    (conv => whnf)
    (repeat' (first | (refine stg_ ?_) | (refine cla_ (c3) ?_) | (refine br_ (fun hbr => ?_) (fun hbr => ?_))))
    all_goals first | (exfalso; exact hbr q2) | (exfalso; exact q2 hbr) | ((refine RetOK.t rfl ?_; (repeat' ((conv => whnf); (first | done | (refine ⟨_, _, rfl, ⟨rfl, ?_⟩, ?_⟩) | fail))); (all_goals (conv => whnf))); all_goals rfl)
   ·rw [if_neg q1]
    (conv => whnf)
    (repeat' (first | (refine stg_ ?_) | (refine cla_ (c3) ?_) | (refine br_ (fun hbr => ?_) (fun hbr => ?_))))
    all_goals first | (exfalso; exact hbr q2) | (exfalso; exact q2 hbr) | ((refine RetOK.t rfl ?_; (repeat' ((conv => whnf); (first | done | (refine ⟨_, _, rfl, ⟨rfl, ?_⟩, ?_⟩) | fail))); (all_goals (conv => whnf))); all_goals rfl)
  ·have em : sgN l n = (n : Int) := by rw [sgN, if_neg h45]
   have c3 := Decimal_v (n : Int)
   rw [em, decide_eq_false h45]
   rcases fin (n : Int) with ⟨q1, q2⟩ | ⟨q1, q2⟩
   ·rw [if_pos q1]
    (conv => whnf)
    (repeat' (first | (refine stg_ ?_) | (refine cla_ (c3) ?_) | (refine br_ (fun hbr => ?_) (fun hbr => ?_))))
    all_goals first | (exfalso; exact hbr q2) | (exfalso; exact q2 hbr) | ((refine RetOK.t rfl ?_; (repeat' ((conv => whnf); (first | done | (refine ⟨_, _, rfl, ⟨rfl, ?_⟩, ?_⟩) | fail))); (all_goals (conv => whnf))); all_goals rfl)
   ·rw [if_neg q1]
    (conv => whnf)
    (repeat' (first | (refine stg_ ?_) | (refine cla_ (c3) ?_) | (refine br_ (fun hbr => ?_) (fun hbr => ?_))))
    all_goals first | (exfalso; exact hbr q2) | (exfalso; exact q2 hbr) | ((refine RetOK.t rfl ?_; (repeat' ((conv => whnf); (first | done | (refine ⟨_, _, rfl, ⟨rfl, ?_⟩, ?_⟩) | fail))); (all_goals (conv => whnf))); all_goals rfl)
def rnL : List ByteArray → Option (List Int)
 | [] => some []
 | x :: t => match rdN x.data.toList with
  | none => none
  | some n => match rnL t with
   | none => none
   | some r => some (n :: r)
theorem rnL_app : ∀ (a b : List ByteArray), rnL (a ++ b) = (rnL a).bind fun r => (rnL b).map (r ++ ·)
 | [], b => by
  show rnL b = _
  cases rnL b <;> rfl
 | x :: t, b => by
  rw [List.cons_append, rnL, rnL, rnL_app t b]
  cases rdN x.data.toList with
  | none => rfl
  | some n =>
   cases rnL t with
   | none => rfl
   | some r =>
    cases rnL b with
    | none => rfl
    | some q => rfl
theorem rnL_snoc {a : List ByteArray} {x : ByteArray} {r : List Int} {n : Int} (h : rnL a = some r) (hx : rdN x.data.toList = some n) : rnL (a ++ [x]) = some (r ++ [n]) := by
 rw [rnL_app, h, rnL, hx, rnL]; rfl
theorem rnL_bad {xs : List ByteArray} {k : Nat} {x : ByteArray} (hk : xs[k]? = some x) (hx : rdN x.data.toList = none) : rnL xs = none := by
 rw [← List.take_append_drop k xs, rnL_app, drop_at hk, rnL, hx]
 cases rnL (xs.take k) <;> rfl
theorem rnL_len : ∀ {xs : List ByteArray} {r : List Int}, rnL xs = some r → r.length = xs.length
 | [], r, h => by cases h; rfl
 | x :: t, r, h => by
  rw [rnL] at h
  split at h
  ·cases h
  ·split at h
   ·cases h
   ·rename_i q hq
    cases h
    rw [List.length_cons, List.length_cons, rnL_len hq]
theorem rnL_dec : ∀ {xs : List ByteArray} {r : List Int}, rnL xs = some r → xs = r.map decB
 | [], r, h => by cases h; rfl
 | x :: t, r, h => by
  rw [rnL] at h
  split at h
  ·cases h
  ·rename_i n hn
   split at h
   ·cases h
   ·rename_i q hq
    cases h
    rw [List.map_cons, ← rnL_dec hq]
    congr 1
    apply bs_ext
    rw [decB, mkS_toList, rdN_dec hn]
def ptO (w : ByteArray) : Option TAxisPoint := match rnL (spB 58 w) with
 | some [p, q] => some ⟨p, q⟩
 | _ => none
def ptsL : List ByteArray → Option (List TAxisPoint)
 | [] => some []
 | x :: t => match ptO x with
  | none => none
  | some p => match ptsL t with
   | none => none
   | some r => some (p :: r)
theorem ptsL_app : ∀ (a b : List ByteArray), ptsL (a ++ b) = (ptsL a).bind fun r => (ptsL b).map (r ++ ·)
 | [], b => by
  show ptsL b = _
  cases ptsL b <;> rfl
 | x :: t, b => by
  rw [List.cons_append, ptsL, ptsL, ptsL_app t b]
  cases ptO x with
  | none => rfl
  | some n =>
   cases ptsL t with
   | none => rfl
   | some r =>
    cases ptsL b with
    | none => rfl
    | some q => rfl
theorem ptsL_snoc {a : List ByteArray} {x : ByteArray} {r : List TAxisPoint} {n : TAxisPoint} (h : ptsL a = some r) (hx : ptO x = some n) : ptsL (a ++ [x]) = some (r ++ [n]) := by
 rw [ptsL_app, h, ptsL, hx, ptsL]; rfl
theorem ptsL_bad {xs : List ByteArray} {k : Nat} {x : ByteArray} (hk : xs[k]? = some x) (hx : ptO x = none) : ptsL xs = none := by
 rw [← List.take_append_drop k xs, ptsL_app, drop_at hk, ptsL, hx]
 cases ptsL (xs.take k) <;> rfl
theorem ptsL_len : ∀ {xs : List ByteArray} {r : List TAxisPoint}, ptsL xs = some r → r.length = xs.length
 | [], r, h => by cases h; rfl
 | x :: t, r, h => by
  rw [ptsL] at h
  split at h
  ·cases h
  ·split at h
   ·cases h
   ·rename_i q hq
    cases h
    rw [List.length_cons, List.length_cons, ptsL_len hq]
theorem jn_spB (s : ByteArray) : jn (spB 32 s) = s := by
 apply bs_ext
 rw [jn, mkS_toList, spB, List.map_map, show (fun x : ByteArray => x.data.toList) ∘ mkS = id from by funext l; exact mkS_toList l, List.map_id, join_spL]
theorem pt_text {w : ByteArray} {p : TAxisPoint} (h : ptO w = some p) : ptB p = w := by
 unfold ptO at h
 split at h
 ·rename_i a b e
  cases h
  have e2 := rnL_dec e
  apply bs_ext
  have e3 := join_spL 58 w.data.toList
  have e4 : spL 58 w.data.toList = [decS a, decS b] := by
   have := congrArg (List.map (fun x : ByteArray => x.data.toList)) e2
   rw [spB, List.map_map, show (fun x : ByteArray => x.data.toList) ∘ mkS = id from by funext l; exact mkS_toList l, List.map_id] at this
   rw [this]
   simp [decB, mkS]
  rw [← e3, e4, ptB, bs_app, bs_app, decB, decB, mkS_toList, mkS_toList]
  simp [Lib.join]
 ·cases h
theorem pts_text : ∀ {xs : List ByteArray} {r : List TAxisPoint}, ptsL xs = some r → r.map ptB = xs
 | [], r, h => by cases h; rfl
 | x :: t, r, h => by
  rw [ptsL] at h
  split at h
  ·cases h
  ·rename_i p hp
   split at h
   ·cases h
   ·rename_i q hq
    cases h
    rw [List.map_cons, pt_text hp, pts_text hq]
def aP : List ByteArray → Option TAxis
 | n :: a :: b :: c :: r => match rnL [a, b, c] with
  | some [x, y, z] => match ptsL r with
   | some m => some ⟨n, x, y, z, m⟩
   | none => none
  | _ => none
 | _ => none
theorem aP_text {ws : List ByteArray} {a : TAxis} (h : aP ws = some a) : wordsB a = ws := by
 unfold aP at h
 split at h
 ·rename_i n x y z r
  split at h
  ·rename_i p q t e
   split at h
   ·rename_i m hm
    cases h
    have e2 := rnL_dec e
    simp only [List.map_cons, List.map_nil, List.cons.injEq, and_true] at e2
    rw [wordsB, pts_text hm, ← e2.1, ← e2.2.1, ← e2.2.2]; rfl
   ·cases h
  ·cases h
 ·cases h
def raA (s : ByteArray) : Option TAxis := match aP (spB 32 s) with
 | some a => if axB a = true then some a else none
 | none => none
theorem ra_text {s : ByteArray} {a : TAxis} (h : aP (spB 32 s) = some a) : textB a = s := by rw [textB, aP_text h, jn_spB]
theorem ra_ne {s : ByteArray} {a : TAxis} (h : aP (spB 32 s) = some a) : s ≠ .empty := fun e => by
 have h1 := congrArg List.length (aP_text h)
 rw [words_len, e] at h1
 simp [spB, spL] at h1
 omega
def axEq (x y : TAxis) : Bool := (x.fName.toList == y.fName.toList) && ((x.fMin == y.fMin) && ((x.fDefault == y.fDefault) && ((x.fMax == y.fMax) && eqL apEq x.fMap y.fMap)))
set_option maxHeartbeats 1000000 in
theorem l29Same_v (x y : TAxis) : PC Tryz.prog 66 [.pX x.D, .pX y.D] (.d (.bool (axEq x y))) [] := by
 refine pc_intro ttOk (by kernel_rfl) Tryz.func66 rfl (by kernel_rfl) (by kernel_rfl) (by kernel_rfl) (fun hw => ?_)
 have hL : (x.fMap.map TAxisPoint.D).length = x.fMap.length := List.length_map _
 have hL' : (y.fMap.map TAxisPoint.D).length = y.fMap.length := List.length_map _
 (conv => whnf)
 (refine RegD.auto (by kernel_rfl) ?_; conv => whnf)
 (repeat' (first | (refine stg_ ?_) | fail | (refine br_ (fun hbr => ?_) (fun hbr => ?_))))
 all_goals first | ((refine RetOK.d rfl rfl ?_; conv => whnf); simp_all [axEq]; done) | skip
 ·skip
  (refine RetOK.d rfl rfl ?_; conv => whnf)
  rw [axEq, eqL_len (by omega)]; simp
 ·skip
  have hE : axEq x y = eqL apEq x.fMap y.fMap := by simp_all [axEq]
  have hm : (x.fMap.map TAxisPoint.D).length ≤ 9223372036854775807 := hw.1.2.2.2.2.1.1
  refine LoopW.go (α := Nat) (fun k => [(0, .pX x.D), (1, .pX y.D), (5, .d (.int .i64 k))]) (fun k => [.gone]) (fun k => k ≤ x.fMap.length ∧ axEq x y = eqL apEq (x.fMap.drop k) (y.fMap.drop k)) (fun k => x.fMap.length - k) 0 covT_ ?_ (fun k hk => ?_)
  ·exact ⟨by omega, hE⟩
  obtain ⟨hk1, hk2⟩ := hk
  (conv => whnf)
  (refine br_ (fun h6 => ?_) (fun h6 => ?_) <;> (repeat (refine stg_ ?_)))
  ·obtain ⟨x', hx⟩ := at_lt' (xs := x.fMap) (k := k) (by omega)
   obtain ⟨y', hy⟩ := at_lt' (xs := y.fMap) (k := k) (by omega)
   rw [eqL_at hx hy] at hk2
   (repeat (refine stg_ ?_))
   (refine br_ (fun h7 => ?_) (fun h7 => ?_) <;> (repeat (refine stg_ ?_)))
   ·(refine RetOK.d rfl rfl ?_; conv => whnf)
    rw [hk2, show apEq x' y' = false by rw [apEq]; simp; grind]; rfl
   ·(repeat (refine stg_ ?_))
    exact NextW.go (k + 1) covT_ ⟨by omega, by rw [hk2, show apEq x' y' = true by rw [apEq]; simp; grind]; rfl⟩ (by omega)
  ·(refine RetOK.d rfl rfl ?_; conv => whnf)
   rw [hk2, eqL_end (by omega) (by omega)]
theorem specSameAxes_v (xs ys : List TAxis) : PC Tryz.prog 27 [.d (.lst (xs.map TAxis.D)), .d (.lst (ys.map TAxis.D))] (.d (.bool (eqL axEq xs ys))) [] := by
 refine pc_intro ttOk (by kernel_rfl) Tryz.func27 rfl (by kernel_rfl) (by kernel_rfl) (by kernel_rfl) (fun hw => ?_)
 have hL : (xs.map TAxis.D).length = xs.length := List.length_map _
 have hL' : (ys.map TAxis.D).length = ys.length := List.length_map _
 have hm : (xs.map TAxis.D).length ≤ 9223372036854775807 := hw.1.1
 (conv => whnf)
 (refine br_ (fun h1 => ?_) (fun h1 => ?_) <;> (repeat (refine stg_ ?_)))
 ·(refine RetOK.d rfl rfl ?_; conv => whnf)
  rw [eqL_len (by omega)]
 ·refine LoopW.go (α := Nat) (fun k => [(0, .d (.lst (xs.map TAxis.D))), (1, .d (.lst (ys.map TAxis.D))), (5, .d (.int .i64 k))]) (fun k => [.gone]) (fun k => k ≤ xs.length ∧ eqL axEq xs ys = eqL axEq (xs.drop k) (ys.drop k)) (fun k => xs.length - k) 0 covT_ ?_ (fun k hk => ?_)
  ·exact ⟨by omega, rfl⟩
  obtain ⟨hk1, hk2⟩ := hk
  (conv => whnf)
  (refine br_ (fun h2 => ?_) (fun h2 => ?_) <;> (repeat (refine stg_ ?_)))
  ·obtain ⟨x, hx⟩ := at_lt' (xs := xs) (k := k) (by omega)
   obtain ⟨y, hy⟩ := at_lt' (xs := ys) (k := k) (by omega)
   rw [eqL_at hx hy] at hk2
   (repeat (refine stg_ ?_))
   (refine cl_ (l29Same_v x y) ?_)
   (refine br_ (fun h3 => ?_) (fun h3 => ?_) <;> (repeat (refine stg_ ?_)))
   ·(refine RetOK.d rfl rfl ?_; conv => whnf)
    rw [hk2, h3]; rfl
   ·(repeat (refine stg_ ?_))
    exact NextW.go (k + 1) covT_ ⟨by omega, by rw [hk2, h3]; rfl⟩ (by omega)
  ·(refine RetOK.d rfl rfl ?_; conv => whnf)
   rw [hk2, eqL_end (by omega) (by omega)]
theorem mpGo_apLt {p : TAxisPoint} {x : TAxisPoint} {t : List TAxisPoint} (h : mpGo (some p) (x :: t) = true) : apB x = true ∧ p.fFrom < x.fFrom ∧ p.fTo ≤ x.fTo ∧ mpGo (some x) t = true := by
 rw [mpGo_cons] at h
 simp only [ltO, apLt, Bool.and_eq_true, decide_eq_true_eq] at h
 exact ⟨h.1.1, h.1.2.1, h.1.2.2, h.2⟩
theorem mg_at {q : TAxisPoint} : ∀ (xs : List TAxisPoint) (o : Option TAxisPoint), mpGo o xs = true → q ∈ xs → mapGo q.fFrom o xs = q.fTo ∧ (∀ p, o = some p → p.fFrom < q.fFrom)
 | [], _, _, h => by cases h
 | x :: t, o, h, hq => by
  have h' := h
  rw [mpGo_cons] at h
  simp only [Bool.and_eq_true] at h
  have ho : ∀ p, o = some p → p.fFrom < x.fFrom := fun p hp => by subst hp; exact (mpGo_apLt h').2.1
  rcases List.mem_cons.1 hq with rfl | hq
  ·refine ⟨?_, ho⟩
   cases o <;> rw [mapGo, if_pos rfl]
  ·obtain ⟨e1, e2⟩ := mg_at t (some x) h.2 hq
   have e3 := e2 x rfl
   refine ⟨?_, fun p hp => Int.lt_trans (ho p hp) e3⟩
   cases o with
   | none => rw [mapGo, if_neg (by omega), e1]
   | some p => rw [mapGo, if_neg (by omega), if_neg (by omega), e1]
theorem has_mem {n : Int} {xs : List TAxisPoint} (h : hasB n xs = true) : ∃ q ∈ xs, q.fFrom = n ∧ q.fTo = n := by
 simp only [hasB, List.any_eq_true, Bool.and_eq_true, beq_iff_eq] at h
 obtain ⟨x, hx, h1, h2⟩ := h
 exact ⟨x, hx, h1.symm, h2.symm⟩
theorem mapB_parts {xs : List TAxisPoint} (h : mapB xs = true) (h0 : xs ≠ []) : mpGo none xs = true ∧ hasB (-16384) xs = true ∧ hasB 0 xs = true ∧ hasB 16384 xs = true := by
 have hp : 0 < xs.length := List.length_pos_iff.2 h0
 have h1 := mapB_mp h
 rw [mapB_yes hp h1, mapB_has xs h1] at h
 simp only [Bool.and_eq_true] at h
 exact ⟨h1, h.1.1.1, h.1.1.2, h.1.2⟩
theorem mapN_fix {a : TAxis} (h : mapB a.fMap = true) {n : Int} (hn : n = -16384 ∨ n = 0 ∨ n = 16384) : mapN a n = n := by
 by_cases h0 : a.fMap = []
 ·rw [mapN, h0, mapGo]
 obtain ⟨h1, h2, h3, h4⟩ := mapB_parts h h0
 have : hasB n a.fMap = true := by rcases hn with rfl | rfl | rfl <;> assumption
 obtain ⟨q, hq, e1, e2⟩ := has_mem this
 rw [mapN, ← e1, (mg_at _ _ h1 hq).1, e1, e2]
theorem plainN_def {a : TAxis} (h : axB a = true) : plainN a a.fDefault = 0 := by
 obtain ⟨h1, h2, h3, h4, h5, -⟩ := axB_facts h
 unfold plainN
 rw [if_neg (by omega), if_neg (by omega)]
theorem nmI_eq {a : TAxis} (h : axB a = true) (v : Int) : nmI a v = mapN a (plainN a v) := by rw [nmI, if_pos h]
theorem nmI_def {a : TAxis} (h : axB a = true) : nmI a a.fDefault = 0 := by
 rw [nmI_eq h, plainN_def h, mapN_fix (axB_facts h).2.2.2.2.2 (.inr (.inl rfl))]
theorem dec_no {n : Int} {c : UInt8} (h : dgtB c = false) (h2 : c ≠ 45) : c ∉ decS n := fun hm => by
 rcases decS_in hm with h3 | h3
 ·rw [h] at h3; cases h3
 ·exact h2 h3
theorem rnL_of : ∀ {ns : List Int}, (∀ n ∈ ns, n.natAbs < 10 ^ 18) → rnL (ns.map decB) = some ns
 | [], _ => rfl
 | n :: t, h => by
  rw [List.map_cons, rnL, decB, mkS_toList, rdN_of (h n (by simp)), rnL_of (fun m hm => h m (by simp [hm]))]
theorem ptO_of {p : TAxisPoint} (h1 : p.fFrom.natAbs < 10 ^ 18) (h2 : p.fTo.natAbs < 10 ^ 18) : ptO (ptB p) = some p := by
 have e : (ptB p).data.toList = decS p.fFrom ++ 58 :: decS p.fTo := by
  rw [ptB, bs_app, bs_app, decB, decB, mkS_toList, mkS_toList]; simp
 have e2 : spB 58 (ptB p) = [decB p.fFrom, decB p.fTo] := by
  rw [spB_at e (dec_no (by decide) (by decide)), spB_none (by rw [mkS_toList]; exact dec_no (by decide) (by decide))]; rfl
 have e3 := rnL_of (ns := [p.fFrom, p.fTo]) (by simp; omega)
 rw [List.map_cons, List.map_cons, List.map_nil] at e3
 rw [ptO, e2, e3]
theorem ptsL_of : ∀ {xs : List TAxisPoint}, (∀ p ∈ xs, p.fFrom.natAbs < 10 ^ 18 ∧ p.fTo.natAbs < 10 ^ 18) → ptsL (xs.map ptB) = some xs
 | [], _ => rfl
 | p :: t, h => by
  rw [List.map_cons, ptsL, ptO_of (h p (by simp)).1 (h p (by simp)).2, ptsL_of (fun q hq => h q (by simp [hq]))]
theorem nm_no {s : ByteArray} (h : nameB s = true) : (32 : UInt8) ∉ s.data.toList := fun hm => by
 simp only [nameB, Bool.and_eq_true] at h
 have h2 := h.2
 cases hl : s.data.toList with
 | nil => rw [hl] at hm; cases hm
 | cons x t =>
  rw [hl] at hm h2
  simp only [nmL, Bool.and_eq_true] at h2
  rcases List.mem_cons.1 hm with rfl | hm
  ·exact absurd h2.1 (by decide)
  ·have := List.all_eq_true.1 h2.2 _ hm
   exact absurd this (by decide)
theorem wd_no {a : TAxis} (h : axB a = true) : ∀ w ∈ wordsB a, (32 : UInt8) ∉ w.data.toList := by
 intro w hw
 have hn : nameB a.fName = true := by
  simp only [axB, Bool.and_eq_true] at h
  exact h.1.1.1.1
 have hd : ∀ n, (32 : UInt8) ∉ (decB n).data.toList := fun n => by rw [decB, mkS_toList]; exact dec_no (by decide) (by decide)
 rw [wordsB] at hw
 rcases List.mem_append.1 hw with hw | hw
 ·simp only [List.mem_cons, List.not_mem_nil, or_false] at hw
  rcases hw with rfl | rfl | rfl | rfl
  ·exact nm_no hn
  all_goals exact hd _
 ·obtain ⟨p, _, rfl⟩ := List.mem_map.1 hw
  have e : (ptB p).data.toList = decS p.fFrom ++ 58 :: decS p.fTo := by
   rw [ptB, bs_app, bs_app, decB, decB, mkS_toList, mkS_toList]; simp
  rw [e]
  intro hm
  rcases List.mem_append.1 hm with hm | hm
  ·exact dec_no (by decide) (by decide) hm
  ·rcases List.mem_cons.1 hm with hm | hm
   ·exact absurd hm (by decide)
   ·exact dec_no (by decide) (by decide) hm
theorem aP_of {a : TAxis} (h : axB a = true) : aP (wordsB a) = some a := by
 obtain ⟨h1, h2, h3, h4, h5, h6⟩ := axB_facts h
 have e1 := rnL_of (ns := [a.fMin, a.fDefault, a.fMax]) (by simp; omega)
 have e2 : ptsL (a.fMap.map ptB) = some a.fMap := by
  refine ptsL_of fun p hp => ?_
  obtain ⟨k, hk⟩ := List.mem_iff_getElem?.1 hp
  have hap := mp_ap _ _ (mapB_mp h6) k p hk
  simp only [apB, nrm, Bool.and_eq_true, decide_eq_true_eq] at hap
  omega
 show aP (a.fName :: decB a.fMin :: decB a.fDefault :: decB a.fMax :: a.fMap.map ptB) = some a
 have e1' : rnL [decB a.fMin, decB a.fDefault, decB a.fMax] = some [a.fMin, a.fDefault, a.fMax] := e1
 rw [aP, e1', e2]
def axT (a : TAxis) : List UInt8 := [97, 120, 105, 115, 32] ++ (textB a).data.toList ++ [10]
def pkT (p : TPeak) : List UInt8 := [32] ++ decS p.fStart ++ [58] ++ decS p.fTop ++ [58] ++ decS p.fEnd
def knT (k : Int) (p : TPt) : List UInt8 := [32] ++ decS k ++ [58] ++ (decS p.fX ++ [44] ++ decS p.fY)
def knsT : List Int → List TPt → List UInt8
 | k :: ks, p :: ps => knT k p ++ knsT ks ps
 | _, _ => []
def dlT (d : TGlyphDelta) : List UInt8 := [100, 101, 108, 116, 97, 32] ++ decS d.fGlyph ++ [32] ++ decS d.fAdvance ++ knsT d.fKnots d.fMoves ++ [10]
def mrT : List UInt8 := [109, 97, 115, 116, 101, 114]
def maT (m : TMaster) : List UInt8 := mrT ++ m.fPeaks.flatMap pkT ++ [10] ++ m.fDeltas.flatMap dlT
def vrT (v : TVariation) : List UInt8 := v.fAxes.flatMap axT ++ v.fMasters.flatMap maT
theorem fm_at {α : Type} (f : α → List UInt8) {xs : List α} {k : Nat} {x : α} (h : xs[k]? = some x) : (xs.take (k + 1)).flatMap f = (xs.take k).flatMap f ++ f x := by
 rw [take_snoc_get h, List.flatMap_append]; simp
theorem fm_len {α : Type} {f : α → List UInt8} {m : Nat} : ∀ {xs : List α}, (∀ x ∈ xs, (f x).length ≤ m) → (xs.flatMap f).length ≤ m * xs.length
 | [], _ => by simp
 | x :: t, h => by
  have h1 := h x (by simp)
  have h2 := fm_len (f := f) (m := m) (xs := t) (fun y hy => h y (by simp [hy]))
  rw [List.flatMap_cons, List.length_append, List.length_cons, Nat.mul_add]
  omega
theorem fm_take {α : Type} {f : α → List UInt8} {m : Nat} {xs : List α} (h : ∀ x ∈ xs, (f x).length ≤ m) (k : Nat) : ((xs.take k).flatMap f).length ≤ m * xs.length := by
 have h1 := fm_len (f := f) (m := m) (xs := xs.take k) (fun x hx => h x (List.mem_of_mem_take hx))
 have h2 : (xs.take k).length ≤ xs.length := by simp; omega
 exact Nat.le_trans h1 (Nat.mul_le_mul_left m h2)
theorem knsT_at : ∀ {ks : List Int} {ps : List TPt} {i : Nat} {k : Int} {p : TPt}, ks[i]? = some k → ps[i]? = some p → knsT (ks.take (i + 1)) (ps.take (i + 1)) = knsT (ks.take i) (ps.take i) ++ knT k p
 | [], _, i, _, _, h, _ => by simp at h
 | _ :: _, [], i, _, _, _, h => by simp at h
 | a :: ks, b :: ps, 0, k, p, h1, h2 => by
  simp at h1 h2
  subst h1; subst h2
  simp [knsT]
 | a :: ks, b :: ps, i + 1, k, p, h1, h2 => by
  have := knsT_at (ks := ks) (ps := ps) (i := i) (by simpa using h1) (by simpa using h2)
  rw [List.take_succ_cons, List.take_succ_cons, knsT, this, List.take_succ_cons, List.take_succ_cons, knsT, List.append_assoc]
theorem decS_l {n : Int} (h1 : -9223372036854775808 ≤ n) (h2 : n ≤ 9223372036854775807) : (decS n).length ≤ 21 := by
 have := decB_size n (natAbs_bnd h1 h2)
 rwa [decB, mkS_size] at this
theorem ri_len : ∀ {xs : List Int} {q : Int}, riG (some q) xs = true → (∀ x ∈ xs, x ≤ 719) → q ≤ 719 → (xs.length : Int) ≤ 719 - q
 | [], q, _, _, h => by simp; omega
 | y :: t, q, h, hb, hq => by
  simp only [riG, ltI, Bool.and_eq_true, decide_eq_true_eq] at h
  have := ri_len h.2 (fun x hx => hb x (by simp [hx])) (hb y (by simp))
  simp only [List.length_cons]; omega
theorem kn_len {xs : List Int} (h : knG none xs = true) : xs.length ≤ 720 := by
 obtain ⟨h1, h2⟩ := knG_ri _ _ h
 have h3 : riG (some (-1)) xs = true := by
  cases xs with
  | nil => rfl
  | cons y t =>
   have := h2 y (by simp)
   rw [riG, Bool.and_eq_true] at h1
   rw [riG, h1.2]; simp [ltI]; omega
 have := ri_len h3 (fun x hx => (h2 x hx).2) (by omega)
 omega
theorem knT_len {k : Int} {p : TPt} (hk : 0 ≤ k ∧ k ≤ 719) (hp : pntB p = true) : (knT k p).length ≤ 66 := by
 have a := pnt_in hp
 have h1 := decS_l (n := k) (by omega) (by omega)
 have h2 := decS_l (n := p.fX) (by omega) (by omega)
 have h3 := decS_l (n := p.fY) (by omega) (by omega)
 simp only [knT, List.length_append, List.length_cons, List.length_nil]
 omega
theorem knsT_len : ∀ {ks : List Int} {ps : List TPt}, (∀ k ∈ ks, 0 ≤ k ∧ k ≤ 719) → (∀ p ∈ ps, pntB p = true) → (knsT ks ps).length ≤ 66 * ks.length
 | [], _, _, _ => by simp [knsT]
 | _ :: _, [], _, _ => by simp [knsT]
 | k :: ks, p :: ps, h1, h2 => by
  have a := knT_len (h1 k (by simp)) (h2 p (by simp))
  have b := knsT_len (ks := ks) (ps := ps) (fun x hx => h1 x (by simp [hx])) (fun x hx => h2 x (by simp [hx]))
  simp only [knsT, List.length_append, List.length_cons]
  omega
structure GdF (d : TGlyphDelta) : Prop where
 g : 0 ≤ d.fGlyph ∧ d.fGlyph ≤ 39
 a : -262144 ≤ d.fAdvance ∧ d.fAdvance ≤ 262144
 k : ∀ x ∈ d.fKnots, 0 ≤ x ∧ x ≤ 719
 m : ∀ p ∈ d.fMoves, pntB p = true
 l : d.fKnots.length = d.fMoves.length
 n : d.fKnots.length ≤ 720
theorem gd_in {d : TGlyphDelta} (h : gdB d = true) : GdF d := by
 simp only [gdB, inB, Bool.and_eq_true, decide_eq_true_eq, List.all_eq_true] at h
 exact ⟨h.1, h.2.2.2.2, (knG_ri _ _ h.2.1).2, h.2.2.2.1, h.2.2.1, kn_len h.2.1⟩
theorem dlT_len {d : TGlyphDelta} (h : gdB d = true) : (dlT d).length ≤ 50000 := by
 obtain ⟨h1, h2, h3, h4, h5, h6⟩ := gd_in h
 have a := knsT_len h3 h4
 have b := decS_l (n := d.fGlyph) (by omega) (by omega)
 have c := decS_l (n := d.fAdvance) (by omega) (by omega)
 simp only [dlT, List.length_append, List.length_cons, List.length_nil]
 omega
theorem pk_l {p : TPeak} (h : pkB p = true) : (decS p.fStart).length ≤ 21 ∧ (decS p.fTop).length ≤ 21 ∧ (decS p.fEnd).length ≤ 21 := by
 obtain ⟨h1, h2, h3, h4⟩ := pk_facts h
 exact ⟨decS_l (by omega) (by omega), decS_l (by omega) (by omega), decS_l (by omega) (by omega)⟩
theorem pkT_len {p : TPeak} (h : pkB p = true) : (pkT p).length ≤ 66 := by
 obtain ⟨a, b, c⟩ := pk_l h
 simp only [pkT, List.length_append, List.length_cons, List.length_nil]
 omega
structure MaF (n : Nat) (m : TMaster) : Prop where
 l : m.fPeaks.length = n
 d : m.fDeltas.length ≤ 20
 p : ∀ x ∈ m.fPeaks, pkB x = true
 g : ∀ x ∈ m.fDeltas, gdB x = true
theorem ma_in {n : Nat} {m : TMaster} (h : maB n m = true) : MaF n m := by
 simp only [maB, Bool.and_eq_true, decide_eq_true_eq, List.all_eq_true] at h
 exact ⟨h.1, h.2.1, h.2.2.1, dsG_all h.2.2.2⟩
theorem wf_in {v : TVariation} (h : wfB v = true) : axsB v.fAxes = true ∧ v.fAxes.length ≤ 3 ∧ v.fMasters.length ≤ 8 ∧ ∀ m ∈ v.fMasters, MaF v.fAxes.length m := by
 simp only [wfB, Bool.and_eq_true, decide_eq_true_eq, List.all_eq_true] at h
 have h3 : v.fAxes.length ≤ 3 := by
  have := h.1
  simp only [axsB, Bool.and_eq_true, decide_eq_true_eq] at this
  exact this.1
 exact ⟨h.1, h3, h.2.1, fun m hm => ma_in (h.2.2 m hm)⟩
theorem axs_at {xs : List TAxis} (h : axsB xs = true) {k : Nat} {x : TAxis} (hx : xs[k]? = some x) : axB x = true := by
 have key : ∀ (ys pre : List TAxis), axsGo pre ys = true → ∀ (j : Nat) (y : TAxis), ys[j]? = some y → axB y = true := by
  intro ys
  induction ys with
  | nil => intro pre _ j y hy; simp at hy
  | cons z ys ih =>
   intro pre hp j y hy
   simp only [axsGo, Bool.and_eq_true] at hp
   cases j with
   | zero => simp at hy; subst hy; exact hp.1
   | succ j => exact ih _ hp.2.2 j y (by simpa using hy)
 simp only [axsB, Bool.and_eq_true] at h
 exact key xs [] h.2 k x hx
theorem textB_size {a : TAxis} (h : axB a = true) : (textB a).size ≤ 1000 := by
 have := take_sz h a.fMap.length
 rwa [List.take_of_length_le (by rw [words_len]; omega)] at this
theorem axT_len {a : TAxis} (h : axB a = true) : (axT a).length ≤ 1006 := by
 have := textB_size h
 simp only [axT, List.length_append, List.length_cons, List.length_nil, Array.length_toList]
 show 5 + (textB a).size + 1 ≤ 1006
 omega
theorem maT_len {n : Nat} {m : TMaster} (hn : n ≤ 3) (h : MaF n m) : (maT m).length ≤ 1000300 := by
 obtain ⟨h1, h2, h3, h4⟩ := h
 have a := fm_len (f := pkT) (m := 66) (fun x hx => pkT_len (h3 x hx))
 have b := fm_len (f := dlT) (m := 50000) (fun x hx => dlT_len (h4 x hx))
 simp only [maT, mrT, List.length_append, List.length_cons, List.length_nil]
 omega
def mapO {α β : Type} (f : α → Option β) : List α → Option (List β)
 | [] => some []
 | x :: t => match f x with
  | none => none
  | some y => match mapO f t with
   | none => none
   | some r => some (y :: r)
theorem mapO_app {α β : Type} (f : α → Option β) : ∀ (a b : List α), mapO f (a ++ b) = (mapO f a).bind fun r => (mapO f b).map (r ++ ·)
 | [], b => by
  show mapO f b = _
  cases mapO f b <;> rfl
 | x :: t, b => by
  rw [List.cons_append, mapO, mapO, mapO_app f t b]
  cases f x with
  | none => rfl
  | some n =>
   cases mapO f t with
   | none => rfl
   | some r =>
    cases mapO f b with
    | none => rfl
    | some q => rfl
theorem mapO_snoc {α β : Type} {f : α → Option β} {a : List α} {x : α} {r : List β} {n : β} (h : mapO f a = some r) (hx : f x = some n) : mapO f (a ++ [x]) = some (r ++ [n]) := by
 rw [mapO_app, h, mapO, hx, mapO]; rfl
theorem mapO_bad {α β : Type} {f : α → Option β} {xs : List α} {k : Nat} {x : α} (hk : xs[k]? = some x) (hx : f x = none) : mapO f xs = none := by
 rw [← List.take_append_drop k xs, mapO_app, drop_at hk, mapO, hx]
 cases mapO f (xs.take k) <;> rfl
theorem mapO_len {α β : Type} {f : α → Option β} : ∀ {xs : List α} {r : List β}, mapO f xs = some r → r.length = xs.length
 | [], r, h => by cases h; rfl
 | x :: t, r, h => by
  rw [mapO] at h
  split at h
  ·cases h
  ·split at h
   ·cases h
   ·rename_i q hq
    cases h
    rw [List.length_cons, List.length_cons, mapO_len hq]
theorem mapO_map {α β : Type} {f : α → Option β} {g : β → α} : ∀ {ys : List β}, (∀ y ∈ ys, f (g y) = some y) → mapO f (ys.map g) = some ys
 | [], _ => rfl
 | y :: t, h => by
  rw [List.map_cons, mapO, h y (by simp), mapO_map fun z hz => h z (by simp [hz])]
def pkR (w : ByteArray) : Option TPeak := match rnL (spB 58 w) with
 | some [a, b, c] => some ⟨a, b, c⟩
 | _ => none
def ptR (s : ByteArray) : Option TPt := match rnL (spB 44 s) with
 | some [x, y] => if pntB ⟨x, y⟩ = true then some ⟨x, y⟩ else none
 | _ => none
def knR (w : ByteArray) : Option (Int × TPt) := match spB 58 w with
 | [n, p] => match rdN n.data.toList, ptR p with
  | some k, some q => some (k, q)
  | _, _ => none
 | _ => none
theorem dec_out {l : List UInt8} {c : UInt8} (hd : dgtB c = false) (h45 : c ≠ 45) (hm : c ∈ l) : rdN l = none := by
 cases h : rdN l with
 | none => rfl
 | some n =>
  exfalso
  have e := rdN_dec h
  rw [← e] at hm
  rcases decS_in hm with h1 | h1
  ·rw [hd] at h1; cases h1
  ·exact h45 h1
theorem rnL_two {x y : ByteArray} : rnL [x, y] = match rdN x.data.toList, rdN y.data.toList with
  | some a, some b => some [a, b]
  | _, _ => none := by
 simp only [rnL]
 cases rdN x.data.toList <;> cases rdN y.data.toList <;> rfl
theorem ptR_no {s : ByteArray} (h : (44 : UInt8) ∉ s.data.toList) : ptR s = none := by
 rw [ptR, spB_none h]
 simp only [rnL]
 cases rdN s.data.toList <;> rfl
theorem ptR_at {s : ByteArray} {a b : List UInt8} (e : s.data.toList = a ++ 44 :: b) (ha : (44 : UInt8) ∉ a) : ptR s = match rdN a, rdN b with
  | some x, some y => if pntB ⟨x, y⟩ = true then some ⟨x, y⟩ else none
  | _, _ => none := by
 rw [ptR, spB_at e ha]
 by_cases hb : (44 : UInt8) ∈ b
 ·rw [dec_out (by decide) (by decide) hb]
  have hno : ∀ x y, rnL (mkS a :: spB 44 (mkS b)) ≠ some [x, y] := fun x y h => by
   have h1 := rnL_len h
   have h2 := spB_len 44 (mkS b)
   rw [mkS_toList] at h2
   have := List.count_pos_iff.2 hb
   simp only [List.length_cons, List.length_nil] at h1
   omega
  split
  ·rename_i x y h
   exact absurd h (hno x y)
  ·cases rdN a <;> rfl
 ·rw [spB_none (by rw [mkS_toList]; exact hb), rnL_two, mkS_toList, mkS_toList]
  cases rdN a with
  | none => rfl
  | some x =>
   cases rdN b with
   | none => rfl
   | some y => rfl
theorem ptR_col {s : ByteArray} (h : (58 : UInt8) ∈ s.data.toList) : ptR s = none := by
 by_cases hc : (44 : UInt8) ∈ s.data.toList
 ·obtain ⟨a, b, e, ha⟩ : ∃ a b, s.data.toList = a ++ 44 :: b ∧ (44 : UInt8) ∉ a := by
   rcases idx_cases 44 s.data.toList with ⟨_, hno⟩ | ⟨a, b, e, ha, _⟩
   ·exact absurd hc hno
   ·exact ⟨a, b, e, ha⟩
  rw [ptR_at e ha]
  rw [e] at h
  rcases List.mem_append.1 h with h | h
  ·rw [dec_out (by decide) (by decide) h]
  ·rcases List.mem_cons.1 h with h | h
   ·exact absurd h (by decide)
   ·rw [dec_out (l := b) (by decide) (by decide) h]
    cases rdN a <;> rfl
 ·exact ptR_no hc
theorem knR_no {w : ByteArray} (h : (58 : UInt8) ∉ w.data.toList) : knR w = none := by rw [knR, spB_none h]
theorem knR_at {w : ByteArray} {a b : List UInt8} (e : w.data.toList = a ++ 58 :: b) (ha : (58 : UInt8) ∉ a) : knR w = match rdN a, ptR (mkS b) with
  | some k, some q => some (k, q)
  | _, _ => none := by
 rw [knR, spB_at e ha]
 by_cases hb : (58 : UInt8) ∈ b
 ·rw [ptR_col (by rw [mkS_toList]; exact hb)]
  have h2 := spB_len 58 (mkS b)
  rw [mkS_toList] at h2
  have := List.count_pos_iff.2 hb
  split
  ·rename_i h
   have := congrArg List.length (List.cons.inj h).2
   simp only [List.length_cons, List.length_nil] at this
   omega
  ·cases rdN a <;> rfl
 ·rw [spB_none (by rw [mkS_toList]; exact hb)]
  show (match rdN (mkS a).data.toList, ptR (mkS b) with
   | some k, some q => some (k, q)
   | _, _ => none) = _
  rw [mkS_toList]
def dlR : List ByteArray → Option TGlyphDelta
 | g :: a :: r => match rnL [g, a] with
  | some [x, y] => match mapO knR r with
   | some ks => some ⟨x, ks.map Prod.fst, ks.map Prod.snd, y⟩
   | none => none
  | _ => none
 | _ => none
def kAx : List UInt8 := [97, 120, 105, 115]
def kDl : List UInt8 := [100, 101, 108, 116, 97]
def adD (ms : List TMaster) (d : TGlyphDelta) : List TMaster := match ms[ms.length - 1]? with
 | some m => ms.set (ms.length - 1) ⟨m.fPeaks, m.fDeltas ++ [d]⟩
 | none => ms
def stp (v : TVariation) (w : ByteArray) : Option TVariation := match spB 32 w with
 | [] => none
 | k :: r =>
  if k.data.toList = kAx then (match aP r with
   | some a => if axB a = true then some ⟨v.fAxes ++ [a], v.fMasters⟩ else none
   | none => none)
  else if k.data.toList = mrT then (match mapO pkR r with
   | some ps => some ⟨v.fAxes, v.fMasters ++ [⟨ps, []⟩]⟩
   | none => none)
  else if k.data.toList = kDl then (match dlR r with
   | some d => if v.fMasters.length = 0 then none else some ⟨v.fAxes, adD v.fMasters d⟩
   | none => none)
  else none
def foldO : TVariation → List ByteArray → Option TVariation
 | v, [] => some v
 | v, w :: t => match stp v w with
  | none => none
  | some v' => foldO v' t
theorem foldO_app : ∀ (a b : List ByteArray) (v : TVariation), foldO v (a ++ b) = (foldO v a).bind fun v' => foldO v' b
 | [], b, v => rfl
 | x :: t, b, v => by
  rw [List.cons_append, foldO, foldO]
  cases stp v x with
  | none => rfl
  | some v' => exact foldO_app t b v'
theorem foldO_snoc {v v' : TVariation} {a : List ByteArray} {x : ByteArray} (h : foldO v a = some v') : foldO v (a ++ [x]) = stp v' x := by
 rw [foldO_app, h]
 show foldO v' [x] = _
 rw [foldO]
 cases stp v' x <;> rfl
theorem foldO_bad {v v' : TVariation} {xs : List ByteArray} {k : Nat} {x : ByteArray} (h : foldO v (xs.take k) = some v') (hk : xs[k]? = some x) (hx : stp v' x = none) : foldO v xs = none := by
 rw [← List.take_append_drop k xs, foldO_app, h]
 show foldO v' _ = _
 rw [drop_at hk, foldO, hx]
def v0R : TVariation := ⟨[], []⟩
def lnR (s : ByteArray) : List ByteArray := (spB 10 s).dropLast
def txR (v : TVariation) : ByteArray := mkS (vrT v)
def rvR (s : ByteArray) : Option TVariation := match foldO v0R (lnR s) with
 | some v => if wfB v = true then (if txR v = s then some v else none) else none
 | none => none
theorem rv_no {s : ByteArray} (h : foldO v0R (lnR s) = none) : rvR s = none := by rw [rvR, h]
theorem rv_some {s : ByteArray} {v : TVariation} (h : foldO v0R (lnR s) = some v) : rvR s = if wfB v = true then (if txR v = s then some v else none) else none := by rw [rvR, h]
end Go.Proofs.YtpdeibhedafcfaaGreatDoor