/- FnExactReadVariation returns true for all strings. No condition. -/
import Derived.Test.YtaldaoagjbapkaaGreatDoorRwL
import Derived.Test.YtaldaoagjbapkaaGreatDoorLM
import Derived.Test.YtaldaoagjbapkaaGreatDoorLV
import Derived.Test.YtaldaoagjbapkaaGreatDoorVtP
import Derived.Test.YtaldaoagjbapkaaGreatDoorRows
import Derived.Test.YtaldaoagjbapkaaGreatDoorTie
import Derived.Test.YtaldaoagjbapkaaGreatDoorCards
import Derived.SevenTiedAt
set_option linter.unusedSimpArgs false
set_option linter.unusedVariables false
namespace Go.Proofs.YtaldaoagjbapkaaGreatDoor
open Go.RowKit
theorem rv_wf {s : ByteArray} {x : TVariation} (h : rvR s = some x) : wfB x = true := by
  unfold rvR at h
  split at h
  · split at h
    · rename_i hw
      split at h
      · cases h
        exact hw
      · cases h
    · cases h
  · cases h
theorem wSum_bd2 {α : Type} {w : α → Nat} {c : Nat} : ∀ {xs : List α}, (∀ x ∈ xs, w x ≤ c) → wSum w xs ≤ c * xs.length
  | [], _ => by simp [wSum]
  | x :: t, h => by
    have h1 := h x (by simp)
    have h2 := wSum_bd2 (w := w) (xs := t) (fun y hy => h y (by simp [hy]))
    simp only [wSum, List.map_cons, List.sum_cons, List.length_cons, Nat.mul_add, Nat.mul_one] at *
    omega
theorem va_wgt {x : TVariation} (h : wfB x = true) : wSum wgtAxis x.fAxes ≤ 100 := by
  obtain ⟨h1, h2, h3, h4⟩ := wf_in h
  have h5 : wSum wgtAxis x.fAxes ≤ 16 * x.fAxes.length := wSum_bd2 (fun a ha => by
    obtain ⟨i, hi⟩ := List.mem_iff_getElem?.1 ha
    have := (ax_sizes (axs_at h1 hi)).2
    have : wgtAxis a = 4 + 2 * a.fMap.length := rfl
    omega)
  omega
theorem vm_wgt {x : TVariation} (h : wfB x = true) : wSum wgtMaster x.fMasters ≤ 1000000 := by
  obtain ⟨h1, h2, h3, h4⟩ := wf_in h
  have h5 : wSum wgtMaster x.fMasters ≤ 50000 * x.fMasters.length := wSum_bd2 (fun m hm => by
    obtain ⟨q1, q2, q3, q4⟩ := h4 m hm
    have h6 : wSum wgtGlyphDelta m.fDeltas ≤ 2200 * m.fDeltas.length := wSum_bd2 (fun d hd => by
      obtain ⟨_, _, _, _, r1, r2⟩ := gd_in (q4 d hd)
      have : wgtGlyphDelta d = 2 + 1 * d.fKnots.length + 2 * d.fMoves.length := rfl
      omega)
    have : wgtMaster m = 0 + 3 * m.fPeaks.length + wSum wgtGlyphDelta m.fDeltas := rfl
    omega)
  omega
set_option maxRecDepth 100000 in
set_option maxHeartbeats 8000000 in
theorem FnExactReadVariation_v (x0 : ByteArray) : PC Tryz.prog 3 [.d (.str x0)] (.d (.bool true)) [] := by
  refine pc_intro ttOk (by kernel_rfl) Tryz.func3 rfl (by kernel_rfl) (by kernel_rfl) (by kernel_rfl) (fun hw => ?_)
  by_cases hz0 : ((x0.size : Nat) : Int) ≤ 1048576
  · skip
    rcases hrv : rvR x0 with _ | x
    · skip
      have d0 := specReadVariation_v x0 (by omega) (.tup [.st [.nils, .nils], .d (.bool false)]) [] ⟨(fun a h => by rw [hrv] at h; cases h), fun _ => ⟨rfl, rfl⟩⟩
      have d1 := ReadVariation_v x0 (by omega) (.tup [.st [.nils, .nils], .d (.bool false)]) [] ⟨(fun a h => by rw [hrv] at h; cases h), fun _ => ⟨rfl, rfl⟩⟩
      have d2 := eqVariation_v ⟨[], []⟩
      have d3 := mkAxisS_nil (1)
      have d4 := hdAxisS_v [] (1) (by first | decide | (simp [wSum])) (by first | decide | omega)
      have d5 := mkMasterS_nil (1)
      have d6 := hdMasterS_v [] (1) (by first | decide | (simp [wSum])) (by first | decide | omega)
      (conv => whnf)
      (repeat' (first | (refine stg_ ?_) | (refine cla_ (d0) ?_) | (refine cla_ (d1) ?_) | (refine cla_ (d2) ?_) | (refine cla_ (d3) ?_) | (refine cla_ (d4) ?_) | (refine cla_ (d5) ?_) | (refine cla_ (d6) ?_) | (refine CallW.inl ttOk (by kernel_rfl) Tryz.func8 rfl (by kernel_rfl) (by kernel_rfl) (by rfl) (fun s => ?_); (conv => whnf)) | (refine CallW.inl ttOk (by kernel_rfl) Tryz.func9 rfl (by kernel_rfl) (by kernel_rfl) (by rfl) (fun s => ?_); (conv => whnf)) | (refine And.intro rfl ?_; (conv => whnf)) | (refine br_ (fun hbr => ?_) (fun hbr => ?_))))
      all_goals first | (exfalso; omega) | (exfalso; simp_all; done) | (refine RetOK.d rfl rfl ?_; conv => whnf)
    · skip
      have hwf := rv_wf hrv
      have hb1 := va_wgt hwf
      have hb2 := vm_wgt hwf
      have hb3 := (wf_in hwf).2.1
      have hb4 := (wf_in hwf).2.2.1
      have d0 := specReadVariation_v x0 (by omega) (.tup [.st [.own 1 0 x.fAxes.length, .own 2 0 x.fMasters.length], .d (.bool true)]) [.arr 5 (x.fAxes.map TAxis.D) true, .arr 2 (x.fMasters.map TMaster.D) true] ⟨(fun b h => by rw [hrv] at h; cases h; exact ⟨rfl, rfl⟩), fun h => by rw [hrv] at h; cases h⟩
      have d1 := ReadVariation_v x0 (by omega) (.tup [.st [.own 1 0 x.fAxes.length, .own 2 0 x.fMasters.length], .d (.bool true)]) [.arr 5 (x.fAxes.map TAxis.D) true, .arr 2 (x.fMasters.map TMaster.D) true] ⟨(fun b h => by rw [hrv] at h; cases h; exact ⟨rfl, rfl⟩), fun h => by rw [hrv] at h; cases h⟩
      have d2 := eqVariation_v (x)
      have hl3_a : (x.fAxes).length = x.fAxes.length := rfl
      have hl3_b : ((x.fAxes).map TAxis.D).length = x.fAxes.length := by (rw [List.length_map]); first | done | exact hl3_a
      have hl3_c : ((mkG wgtAxis mkEAxis (1) (x.fAxes)).map TAxis.D).length = x.fAxes.length := by (rw [List.length_map, mkG_len]); first | done | exact hl3_a
      have hw_r3 := wSum_z wgtAxis wgtAxis_le (x.fAxes)
      have d3 := mkAxisS_pk (x.fAxes) (1) (by omega) (by omega)
      have d4 := hdAxisS_v (x.fAxes) (1) (by omega) (by omega)
      have hl5_a : (x.fMasters).length = x.fMasters.length := rfl
      have hl5_b : ((x.fMasters).map TMaster.D).length = x.fMasters.length := by (rw [List.length_map]); first | done | exact hl5_a
      have hl5_c : ((mkG wgtMaster mkEMaster (1 + wSum wgtAxis (x.fAxes)) (x.fMasters)).map TMaster.D).length = x.fMasters.length := by (rw [List.length_map, mkG_len]); first | done | exact hl5_a
      have hw_r5 := wSum_z wgtMaster wgtMaster_le (x.fMasters)
      have d5 := mkMasterS_pk (x.fMasters) (1 + wSum wgtAxis (x.fAxes)) (by omega) (by omega)
      have d6 := hdMasterS_v (x.fMasters) (1 + wSum wgtAxis (x.fAxes)) (by omega) (by omega)
      (conv => whnf)
      (repeat' (first | (refine stg_ ?_) | (refine cla_ (d0) ?_) | (refine cla_ (d1) ?_) | (refine cla_ (d2) ?_) | (refine clk_ (d3) ?_) | (refine cla_ (d4) ?_) | (refine clk_ (d5) ?_) | (refine cla_ (d6) ?_) | (refine CallW.inl ttOk (by kernel_rfl) Tryz.func8 rfl (by kernel_rfl) (by kernel_rfl) (by rfl) (fun s => ?_); (conv => whnf)) | (refine CallW.inl ttOk (by kernel_rfl) Tryz.func9 rfl (by kernel_rfl) (by kernel_rfl) (by rfl) (fun s => ?_); (conv => whnf)) | (refine And.intro rfl ?_; (conv => whnf)) | (refine br_ (fun hbr => ?_) (fun hbr => ?_))))
      all_goals first | (exfalso; omega) | (exfalso; simp_all; done) | (refine RetOK.d rfl rfl ?_; conv => whnf)
  · skip
    (conv => whnf)
    (repeat' (first | (refine stg_ ?_) | fail | (refine br_ (fun hbr => ?_) (fun hbr => ?_))))
    all_goals first | (exfalso; omega) | (refine RetOK.d rfl rfl ?_; conv => whnf)

theorem FnExactReadVariation_lc : LawCalls Tryz.prog 3 [9] :=
  law_of_pc ⟨_, _, rfl, (arg_str Tryz.underlying9 rdt_str (by rintro y ⟨x, rfl⟩; rfl)), rfl⟩ (fun ds h => by
    obtain ⟨d0, r0, rfl, ⟨x0, rfl⟩, h0⟩ := h
    cases h0
    exact FnExactReadVariation_v x0)
set_option maxRecDepth 100000 in
theorem FnExactReadVariation_lift (os : Os) (started : os.Started) (H : Type) (enc : TypeId × Value → H) :
    ReturnsInHanded {} Tryz.checked os 3 .any (fun w args => (Rows.fnExactReadVariationSpec.pre enc Tryz.prog Tryz.f3 Rows.fnExactReadVariationRow.domain false w args ∧ laidMetH Tryz.prog Rows.fnExactReadVariationRow.laid w) ∧ sizedMet enc Tryz.prog Tryz.f3 (OpenSpec.ofChange Rows.fnExactReadVariationSpec) false w args) (Rows.fnExactReadVariationSpec.post enc Tryz.prog Tryz.f3 false true false false) :=
  law_lift_laid (C := Tryz.checked) (s := Rows.fnExactReadVariationSpec) (ts := [9]) (fun w _ => laidMetH Tryz.prog Rows.fnExactReadVariationRow.laid w) (fun _ _ _ hh h => h.of_heap hh) own laidOut (by kernel_rfl) Tryz.func3 (by rw [Tryz.params3]) rfl Tryz.underlying4
    (by simp only [List.mem_cons, List.not_mem_nil, or_false]; rintro t (rfl) <;> exact ⟨by kernel_rfl, of_decide_eq_true (by kernel_rfl)⟩) rfl
    (fun H ds h => by match ds, h with | [_], _ => exact ⟨rfl, rfl, rfl⟩) FnExactReadVariation_lc os started H enc
    (ChangeSpec.witness_shaped (enc := enc) (C := Tryz.checked) (os := os) (X := fun w _ => laidMetH Tryz.prog Rows.fnExactReadVariationRow.laid w) false (World.laidAll Tryz.prog os Rows.fnExactReadVariationRow.laid) #[.string ByteArray.empty] 8 (World.laidAll_os _ _ _) (World.shaped_of_ZipB (by kernel_rfl) (by kernel_rfl)) (by kernel_rfl) (by kernel_rfl) (by kernel_rfl)
      (by rw [MakeChecks.laidMetH_plain _ _ _ (by kernel_rfl)]; exact laidMet_laidAll _ (by kernel_rfl) (by kernel_rfl)))
theorem FnExactReadVariation_row : Rows.FnExactReadVariationSaid :=
  OpenClaim.holds_of_wide 3 Tryz.f3 rfl rfl rfl rfl rfl rfl rfl ⟨rfl, rfl, rfl, rfl, rfl⟩ rfl rfl rfl rfl rfl (by kernel_rfl) Tryz.func3 (by kernel_rfl)
    (of_decide_eq_true (by kernel_rfl)) (by unfold Func.isWrapper; rw [if_neg (of_decide_eq_false (by kernel_rfl))]; exact ⟨rfl, rfl⟩)
    (fun os started H enc _ => FnExactReadVariation_lift os started H enc)
theorem FnExactReadVariation_holds : Rows.FnExactReadVariationCardSaid :=
  Claim7.holds_tied_plain_at .later [] [.data, .pinned] true (true, "44176ffa7c5d844a715f2d0a5267fe625bb14157785fdfb9eeb11c917b495da0") false FnExactReadVariation_row (fun _ h => by cases h) (by kernel_rfl) (fun _ h => by cases h) fnExactReadVariation_row_tie rfl ⟨rfl, rfl⟩ (by kernel_rfl) rfl
    (fun f fn hf hfn => by
      obtain rfl : f = 3 := Option.some.inj ((show Tryz.prog.funcNamed "loop.example/g00883/laws.FnExactReadVariation" = some 3 by kernel_rfl).symm.trans hf) |>.symm
      obtain rfl : fn = Tryz.f3 := (Option.some.inj (Tryz.func3.symm.trans hfn)).symm
      exact ⟨by kernel_rfl, fun j t ht => by
        rw [Tryz.params3] at ht
        have hm : t ∈ [9] := by simpa using Array.mem_of_getElem? ht
        have hall : ([9].all fun u => !Tryz.prog.wantsStandIn u) = true := by kernel_rfl
        exact (show Tryz.prog.wantsStandIn t = false by simpa using List.all_eq_true.1 hall t hm)⟩)
    (by kernel_rfl)
#print axioms FnExactReadVariation_holds

end Go.Proofs.YtaldaoagjbapkaaGreatDoor
