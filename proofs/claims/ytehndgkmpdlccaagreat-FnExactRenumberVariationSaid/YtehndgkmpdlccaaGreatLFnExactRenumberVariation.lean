/- FnExactRenumberVariation returns true for all arguments, and leaves them as they were. No condition. -/
import Derived.Test.YtehndgkmpdlccaaGreatRnG
import Derived.Test.YtehndgkmpdlccaaGreatLM
import Derived.Test.YtehndgkmpdlccaaGreatLV
import Derived.Test.YtehndgkmpdlccaaGreatRows
set_option linter.unusedSimpArgs false
set_option linter.unusedVariables false
namespace Go.Proofs.YtehndgkmpdlccaaGreat
open Go.RowKit
theorem nu_wf {v : TVariation} {to : List Int} (h : nuC v to = 0) : wfB v = true ∧ nuB to = true := by
  unfold nuC at h
  split at h
  · rename_i h1
    split at h
    · rename_i h2
      exact ⟨h1, h2⟩
    · cases h
  · cases h
theorem nu_sum {α : Type} {w : α → Nat} {c : Nat} : ∀ {xs : List α}, (∀ x ∈ xs, w x ≤ c) → wSum w xs ≤ c * xs.length
  | [], _ => by simp [wSum]
  | x :: t, h => by
    have h1 := h x (by simp)
    have h2 := nu_sum (w := w) (xs := t) (fun y hy => h y (by simp [hy]))
    simp only [wSum, List.map_cons, List.sum_cons, List.length_cons, Nat.mul_add, Nat.mul_one] at *
    omega
theorem nu_awgt {x : TVariation} (h : wfB x = true) : x.fAxes.length ≤ 3 ∧ wSum wgtAxis x.fAxes ≤ 100 := by
  simp only [wfB, Bool.and_eq_true, decide_eq_true_eq, List.all_eq_true] at h
  have h3 : x.fAxes.length ≤ 3 := by
    have := h.1
    simp only [axsB, Bool.and_eq_true, decide_eq_true_eq] at this
    exact this.1
  have h5 : wSum wgtAxis x.fAxes ≤ 16 * x.fAxes.length := nu_sum (fun a ha => by
    have := axs_ml h.1 a ha
    have : wgtAxis a = 4 + 2 * a.fMap.length := rfl
    omega)
  exact ⟨h3, by omega⟩
theorem nu_mwgt {x : TVariation} {to : List Int} (h : wfB x = true) : x.fMasters.length ≤ 8 ∧ wSum wgtMaster (x.fMasters.map (nuM to)) ≤ 1000000 := by
  have hw := nu_awgt h
  simp only [wfB, Bool.and_eq_true, decide_eq_true_eq, List.all_eq_true] at h
  refine ⟨h.2.1, ?_⟩
  have h5 : wSum wgtMaster (x.fMasters.map (nuM to)) ≤ 100000 * (x.fMasters.map (nuM to)).length := nu_sum (fun m' hm' => by
    obtain ⟨m, hm, rfl⟩ := List.mem_map.1 hm'
    have hmB := h.2.2 m hm
    simp only [maB, Bool.and_eq_true, decide_eq_true_eq] at hmB
    obtain ⟨hm1, hm2, hm3, hm4⟩ := hmB
    have h6 : wSum wgtGlyphDelta (isD (kpD to m.fDeltas)) ≤ 2400 * (isD (kpD to m.fDeltas)).length := nu_sum (fun d hd => by
      have hd2 := (isD_perm _).mem_iff.1 hd
      obtain ⟨d0, hd0, rfl⟩ := List.mem_map.1 hd2
      have hgB := dsG_all hm4 d0 (List.mem_filter.1 hd0).1
      simp only [gdB, inB, Bool.and_eq_true, decide_eq_true_eq] at hgB
      have hk7 := nu_kn_len hgB.2.1
      have hk8 := hgB.2.2.1
      have : wgtGlyphDelta (nuE to d0) = 2 + 1 * d0.fKnots.length + 2 * d0.fMoves.length := rfl
      omega)
    have h7 := isD_len (kpD to m.fDeltas)
    have h8 := kpD_len to m.fDeltas
    have : wgtMaster (nuM to m) = 0 + 3 * m.fPeaks.length + wSum wgtGlyphDelta (isD (kpD to m.fDeltas)) := rfl
    omega)
  rw [List.length_map] at h5
  omega
set_option maxRecDepth 100000 in
set_option maxHeartbeats 8000000 in
theorem FnExactRenumberVariation_v (x0 : TVariation) (x1 : List Int) : PC Tryz.prog 3 [.d (x0.D), .d (.lst (x1.map (D.int .i64)))] (.d (.bool true)) [] := by
  refine pc_intro ttOk (by kernel_rfl) Tryz.func3 rfl (by kernel_rfl) (by kernel_rfl) (by kernel_rfl) (fun hw => ?_)
  have hL1 : (x1.map (D.int .i64)).length = x1.length := List.length_map _
  by_cases hz0 : ((x1.length : Nat) : Int) ≤ 1048576
  · skip
    by_cases hz1 : (((zVariation x0) : Nat) : Int) ≤ 1048576
    · skip
      have c1 := szVariation_le x0 1048576 (by omega) (by omega) hz1
      have d0 := toVariation_v x0 (by omega)
      have d1 := eqVariation_v x0
      have d2 := toInt64S_v x1 (by omega)
      have d3 := eqInt64S_v x1
      have hzV : zVariation x0 = zL zAxis x0.fAxes + zL zMaster x0.fMasters := rfl
      have hw_4 := wSum_z wgtAxis wgtAxis_le x0.fAxes
      have d4 := mkAxisS_pk x0.fAxes (1) (by omega) (by omega)
      have hw_5 := wSum_z wgtMaster wgtMaster_le x0.fMasters
      have d5 := mkMasterS_pk x0.fMasters (1 + wSum wgtAxis x0.fAxes) (by omega) (by omega)
      have d6 := mkInt64S_pk x1 (1 + wSum wgtAxis x0.fAxes + wSum wgtMaster x0.fMasters) (by omega) (by omega)
      by_cases hB : nuC x0 x1 = 0
      · skip
        have hwf := (nu_wf hB).1
        have hb1 := (nu_awgt hwf).2
        have hb2 := (nu_mwgt (to := x1) hwf).2
        have hb3 := (nu_awgt hwf).1
        have hb4 := (nu_mwgt (to := x1) hwf).1
        have d7 := specRenumberVariation_v x0 x1 _ _ ⟨fun _ => ⟨rfl, rfl⟩, fun e => absurd hB e⟩
        have d8 := RenumberVariation_v x0 x1 _ _ ⟨fun _ => ⟨rfl, rfl⟩, fun e => absurd hB e⟩
        have d9 := eqVariation_v ⟨x0.fAxes, x0.fMasters.map (nuM x1)⟩
        have hl10_a : (x0.fAxes).length = x0.fAxes.length := rfl
        have hl10_b : ((x0.fAxes).map TAxis.D).length = x0.fAxes.length := by (rw [List.length_map]); first | done | exact hl10_a
        have hl10_c : ((mkG wgtAxis mkEAxis (1) (x0.fAxes)).map TAxis.D).length = x0.fAxes.length := by (rw [List.length_map, mkG_len]); first | done | exact hl10_a
        have hw_r10 := wSum_z wgtAxis wgtAxis_le (x0.fAxes)
        have d10 := mkAxisS_pk (x0.fAxes) (1) (by omega) (by omega)
        have d11 := hdAxisS_v (x0.fAxes) (1) (by omega) (by omega)
        have hl12_a : (x0.fMasters.map (nuM x1)).length = x0.fMasters.length := by rw [List.length_map]
        have hl12_b : ((x0.fMasters.map (nuM x1)).map TMaster.D).length = x0.fMasters.length := by (rw [List.length_map]); first | done | exact hl12_a
        have hl12_c : ((mkG wgtMaster mkEMaster (1 + wSum wgtAxis (x0.fAxes)) (x0.fMasters.map (nuM x1))).map TMaster.D).length = x0.fMasters.length := by (rw [List.length_map, mkG_len]); first | done | exact hl12_a
        have hw_r12 := wSum_z wgtMaster wgtMaster_le (x0.fMasters.map (nuM x1))
        have d12 := mkMasterS_pk (x0.fMasters.map (nuM x1)) (1 + wSum wgtAxis (x0.fAxes)) (by omega) (by omega)
        have d13 := hdMasterS_v (x0.fMasters.map (nuM x1)) (1 + wSum wgtAxis (x0.fAxes)) (by omega) (by omega)
        (conv => whnf)
        (repeat' (first | (refine stg_ ?_) | (refine cla_ (c1) ?_) | (refine cla_ (d0) ?_) | (refine cla_ (d2) ?_) | (refine br_ (fun hbr => ?_) (fun hbr => ?_))))
        all_goals try (exfalso; omega)
        all_goals try (refine RetOK.d rfl rfl ?_; conv => whnf)
        refine CallW.pre d7.fn (WeakX.pre (e0 := (VS, .tup [.st [.own 2 0 x0.fAxes.length, .own 3 0 x0.fMasters.length], .own 4 0 x1.length]) :: [(1, .d (.lst (x1.map (D.int .i64)))), (2, .pB 1 [] 0), (4, .d (.bool false))]) (h0 := [.gone, .box (.d x0.D), .arr 5 (x0.fAxes.map TAxis.D) true, .arr 2 (x0.fMasters.map TMaster.D) true, .arr 1 (x1.map (D.int .i64)) true]) (Weak.cov ?_ ?_ ?_) (WeakX.of (e0 := (VS, .tup [.d x0.D, .d (.lst (x1.map (D.int .i64)))]) :: [(1, .d (.lst (x1.map (D.int .i64)))), (2, .pB 1 [] 0), (4, .d (.bool false))]) (h0 := [.gone, .box (.d x0.D)]) (Weak.trans (Weak.giveS VS 4 rfl rfl rfl (List.length_map _).symm (give_t2 rfl)) (Weak.trans (Weak.giveS VS 3 rfl rfl rfl (List.length_map _).symm (give_s2 rfl)) (Weak.trans (Weak.giveS VS 2 rfl rfl rfl (List.length_map _).symm give_s1) (Weak.cov ?_ ?_ ?_)))) ⟨_, _, rfl, rfl, ?_⟩))
        · (repeat' (first | exact trivial | with_reducible rfl | (refine ⟨?_, ?_⟩) | rfl))
        · (repeat' (first | exact trivial | with_reducible rfl | (refine ⟨?_, ?_⟩) | rfl))
        · rfl
        · (repeat' (first | exact trivial | with_reducible rfl | (refine ⟨?_, ?_⟩) | rfl))
        · (repeat' (first | exact trivial | with_reducible rfl | (refine ⟨?_, ?_⟩) | rfl))
        · rfl
        (repeat' (first | (refine stg_ ?_) | (refine cla_ (c1) ?_) | (refine cla_ (d0) ?_) | (refine cla_ (d1) ?_) | (refine cla_ (d2) ?_) | (refine cla_ (d3) ?_) | (refine clk_ (d4) ?_) | (refine clk_ (d5) ?_) | (refine clk_ (d6) ?_) | (refine cla_ (d7) ?_) | (refine cla_ (d8) ?_) | (refine cla_ (d9) ?_) | (refine clk_ (d10) ?_) | (refine cla_ (d11) ?_) | (refine clk_ (d12) ?_) | (refine cla_ (d13) ?_) | (refine CallW.inl ttOk (by kernel_rfl) Tryz.func11 rfl (by kernel_rfl) (by kernel_rfl) (by rfl) (fun s => ?_); (conv => whnf)) | (refine CallW.inl ttOk (by kernel_rfl) Tryz.func13 rfl (by kernel_rfl) (by kernel_rfl) (by rfl) (fun s => ?_); (conv => whnf)) | (refine And.intro rfl ?_; (conv => whnf)) | (refine br_ (fun hbr => ?_) (fun hbr => ?_))))
        all_goals first | (exfalso; omega) | (exfalso; simp_all; done) | (refine RetOK.d rfl rfl ?_; conv => whnf)
      · skip
        have d7 := specRenumberVariation_v x0 x1 _ _ ⟨fun e => absurd e hB, fun _ => ⟨rfl, rfl⟩⟩
        have d8 := RenumberVariation_v x0 x1 _ _ ⟨fun e => absurd e hB, fun _ => ⟨rfl, rfl⟩⟩
        have d9 := eqVariation_v ⟨[], []⟩
        have d10 := mkAxisS_nil (1)
        have d11 := hdAxisS_v [] (1) (by first | decide | (simp [wSum])) (by first | decide | omega)
        have d12 := mkMasterS_nil (1)
        have d13 := hdMasterS_v [] (1) (by first | decide | (simp [wSum])) (by first | decide | omega)
        (conv => whnf)
        (repeat' (first | (refine stg_ ?_) | (refine cla_ (c1) ?_) | (refine cla_ (d0) ?_) | (refine cla_ (d1) ?_) | (refine cla_ (d2) ?_) | (refine cla_ (d3) ?_) | (refine clk_ (d4) ?_) | (refine clk_ (d5) ?_) | (refine clk_ (d6) ?_) | (refine cla_ (d7) ?_) | (refine cla_ (d8) ?_) | (refine cla_ (d9) ?_) | (refine cla_ (d10) ?_) | (refine cla_ (d11) ?_) | (refine cla_ (d12) ?_) | (refine cla_ (d13) ?_) | (refine CallW.inl ttOk (by kernel_rfl) Tryz.func11 rfl (by kernel_rfl) (by kernel_rfl) (by rfl) (fun s => ?_); (conv => whnf)) | (refine CallW.inl ttOk (by kernel_rfl) Tryz.func13 rfl (by kernel_rfl) (by kernel_rfl) (by rfl) (fun s => ?_); (conv => whnf)) | (refine And.intro rfl ?_; (conv => whnf)) | (refine br_ (fun hbr => ?_) (fun hbr => ?_))))
        all_goals first | (exfalso; omega) | (exfalso; simp_all; done) | (refine RetOK.d rfl rfl ?_; conv => whnf)
    · skip
      have e1 := szVariation_gt x0 1048576 (by omega) (by omega) (by omega)
      (conv => whnf)
      (repeat' (first | (refine stg_ ?_) | (refine cla_ (e1) ?_) | (refine br_ (fun hbr => ?_) (fun hbr => ?_))))
      all_goals first | (exfalso; omega) | (refine RetOK.d rfl rfl ?_; conv => whnf)
  · skip
    (conv => whnf)
    (repeat' (first | (refine stg_ ?_) | fail | (refine br_ (fun hbr => ?_) (fun hbr => ?_))))
    all_goals first | (exfalso; omega) | (refine RetOK.d rfl rfl ?_; conv => whnf)
theorem FnExactRenumberVariation_lc : LawCalls Tryz.prog 3 [25, 26] :=
  law_of_pc ⟨_, _, rfl, (arg_st Tryz.underlying25 rdt_Variation (by rintro y ⟨x, rfl⟩; rfl)), ⟨_, _, rfl, (arg_sl Tryz.underlying26 rdt_intS (by rintro y ⟨x, rfl⟩; rfl)), rfl⟩⟩ (fun ds h => by
    obtain ⟨d0, r0, rfl, ⟨x0, rfl⟩, h0⟩ := h
    obtain ⟨d1, r1, rfl, ⟨x1, rfl⟩, h1⟩ := h0
    cases h1
    exact FnExactRenumberVariation_v x0 x1)
set_option maxRecDepth 100000 in
theorem FnExactRenumberVariation_lift (os : Os) (started : os.Started) (H : Type) (enc : TypeId × Value → H) :
    ReturnsInHanded {} Tryz.checked os 3 .any (Rows.fnExactRenumberVariationSpec.pre6 enc Tryz.prog Tryz.f3 Rows.fnExactRenumberVariationRow.domain false) (Rows.fnExactRenumberVariationSpec.post enc Tryz.prog Tryz.f3 false true false false) :=
  law_lift (C := Tryz.checked) (s := Rows.fnExactRenumberVariationSpec) (ts := [25, 26]) own laidOut (by kernel_rfl) Tryz.func3 (by rw [Tryz.params3]) rfl Tryz.underlying4
    (by simp only [List.mem_cons, List.not_mem_nil, or_false]; rintro t (rfl | rfl) <;> exact ⟨by kernel_rfl, of_decide_eq_true (by kernel_rfl)⟩) rfl
    (fun H ds h => by match ds, h with | [_, _], _ => exact ⟨rfl, rfl, rfl⟩) FnExactRenumberVariation_lc os started H enc
    (ChangeSpec.witness6 (enc := enc) (C := Tryz.checked) false ⟨#[], #[.agg #[.slice none 0 0, .slice none 0 0], .slice none 0 0], []⟩ 8 (by kernel_rfl) (by kernel_rfl) (by kernel_rfl) (by kernel_rfl))
set_option maxHeartbeats 40000000 in
theorem FnExactRenumberVariation_holds : Rows.FnExactRenumberVariationSaid :=
  OpenClaim.holds_of_wide 3 Tryz.f3 rfl rfl rfl rfl rfl rfl rfl ⟨rfl, rfl, rfl, rfl, rfl⟩ rfl rfl rfl rfl rfl (by kernel_rfl) Tryz.func3 (by unfold joinedFacts; (repeat' ((with_reducible refine Bool.and_eq_true_iff.2 (And.intro ?_ ?_)))) <;> (as_aux_lemma => kernel_rfl))
    (of_decide_eq_true (by kernel_rfl)) (by unfold Func.isWrapper; rw [if_neg (of_decide_eq_false (by kernel_rfl))]; exact ⟨rfl, rfl⟩)
    (fun os started H enc _ => FnExactRenumberVariation_lift os started H enc)
#print axioms FnExactRenumberVariation_holds

end Go.Proofs.YtehndgkmpdlccaaGreat
