/- FnExactReadAxis returns true for all strings. No condition. -/
import Derived.Test.YthpnobngoghhiaaDoorRaX
import Derived.Test.YthpnobngoghhiaaDoorLM
import Derived.Test.YthpnobngoghhiaaDoorLV
import Derived.Test.YthpnobngoghhiaaDoorRows
import Derived.Test.YthpnobngoghhiaaDoorTie
import Derived.Test.YthpnobngoghhiaaDoorCards
import Derived.SevenTiedAt
set_option linter.unusedSimpArgs false
set_option linter.unusedVariables false
namespace Go.Proofs.YthpnobngoghhiaaDoor
open Go.RowKit
theorem ra_ml {s : ByteArray} {a : TAxis} (h : raA s = some a) : a.fMap.length ≤ 6 := by
  unfold raA at h
  split at h
  · split at h
    · rename_i hx
      cases h
      exact (ax_sizes hx).2
    · cases h
  · cases h
set_option maxHeartbeats 8000000 in
theorem FnExactReadAxis_v (x0 : ByteArray) : PC Tryd.prog 3 [.d (.str x0)] (.d (.bool true)) [] := by
  refine pc_intro ttOk (by kernel_rfl) Tryd.func3 rfl (by kernel_rfl) (by kernel_rfl) (by kernel_rfl) (fun hw => ?_)
  by_cases hz0 : ((x0.size : Nat) : Int) ≤ 1048576
  · skip
    rcases hra : raA x0 with _ | a
    · skip
      have d0 := specReadAxis_v x0 (by omega) (.tup [.st [.d (.str .empty), .d (.int .i64 0), .d (.int .i64 0), .d (.int .i64 0), .nils], .d (.bool false)]) [] ⟨(fun a h => by rw [hra] at h; cases h), fun _ => ⟨rfl, rfl⟩⟩
      have d1 := ReadAxis_v x0 (by omega) (.tup [.st [.d (.str .empty), .d (.int .i64 0), .d (.int .i64 0), .d (.int .i64 0), .nils], .d (.bool false)]) [] ⟨(fun a h => by rw [hra] at h; cases h), fun _ => ⟨rfl, rfl⟩⟩
      have d2 := eqAxis_v ⟨.empty, 0, 0, 0, []⟩
      have d3 := mkAxisPointS_nil (1)
      have d4 := hdAxisPointS_v [] (1) (by first | decide | (simp [wSum])) (by first | decide | omega)
      (conv => whnf)
      (repeat' (first | (refine stg_ ?_) | (refine cla_ (d0) ?_) | (refine cla_ (d1) ?_) | (refine cla_ (d2) ?_) | (refine cla_ (d3) ?_) | (refine cla_ (d4) ?_) | (refine CallW.inl ttOk (by kernel_rfl) Tryd.func8 rfl (by kernel_rfl) (by kernel_rfl) (by rfl) (fun s => ?_); (conv => whnf)) | (refine CallW.inl ttOk (by kernel_rfl) Tryd.func9 rfl (by kernel_rfl) (by kernel_rfl) (by rfl) (fun s => ?_); (conv => whnf)) | (refine And.intro rfl ?_; (conv => whnf)) | (refine br_ (fun hbr => ?_) (fun hbr => ?_))))
      all_goals first | (exfalso; omega) | (exfalso; simp_all; done) | (refine RetOK.d rfl rfl ?_; conv => whnf)
    · skip
      have hl16 : a.fMap.length ≤ 6 := ra_ml hra
      have d0 := specReadAxis_v x0 (by omega) (.tup [.st [.d (.str a.fName), .d (.int .i64 a.fMin), .d (.int .i64 a.fDefault), .d (.int .i64 a.fMax), .own 1 0 a.fMap.length], .d (.bool true)]) [.arr 2 (a.fMap.map TAxisPoint.D) true] ⟨(fun b h => by rw [hra] at h; cases h; exact ⟨rfl, rfl⟩), fun h => by rw [hra] at h; cases h⟩
      have d1 := ReadAxis_v x0 (by omega) (.tup [.st [.d (.str a.fName), .d (.int .i64 a.fMin), .d (.int .i64 a.fDefault), .d (.int .i64 a.fMax), .own 1 0 a.fMap.length], .d (.bool true)]) [.arr 2 (a.fMap.map TAxisPoint.D) true] ⟨(fun b h => by rw [hra] at h; cases h; exact ⟨rfl, rfl⟩), fun h => by rw [hra] at h; cases h⟩
      have d2 := eqAxis_v (a)
      have hl3_a : (a.fMap).length = a.fMap.length := rfl
      have hl3_b : ((a.fMap).map TAxisPoint.D).length = a.fMap.length := by (rw [List.length_map]); first | done | exact hl3_a
      have hl3_c : ((mkLAxisPoint (1) (a.fMap)).map TAxisPoint.D).length = a.fMap.length := by (rw [List.length_map, mkLAxisPoint_len]); first | done | exact hl3_a
      have d3 := mkAxisPointS_pk (a.fMap) (1) (by omega) (by omega)
      have d4 := hdAxisPointS_v (a.fMap) (1) (by omega) (by omega)
      (conv => whnf)
      (repeat' (first | (refine stg_ ?_) | (refine cla_ (d0) ?_) | (refine cla_ (d1) ?_) | (refine cla_ (d2) ?_) | (refine clk_ (d3) ?_) | (refine cla_ (d4) ?_) | (refine CallW.inl ttOk (by kernel_rfl) Tryd.func8 rfl (by kernel_rfl) (by kernel_rfl) (by rfl) (fun s => ?_); (conv => whnf)) | (refine CallW.inl ttOk (by kernel_rfl) Tryd.func9 rfl (by kernel_rfl) (by kernel_rfl) (by rfl) (fun s => ?_); (conv => whnf)) | (refine And.intro rfl ?_; (conv => whnf)) | (refine br_ (fun hbr => ?_) (fun hbr => ?_))))
      all_goals first | (exfalso; omega) | (exfalso; simp_all; done) | (refine RetOK.d rfl rfl ?_; conv => whnf)
  · skip
    (conv => whnf)
    (repeat' (first | (refine stg_ ?_) | fail | (refine br_ (fun hbr => ?_) (fun hbr => ?_))))
    all_goals first | (exfalso; omega) | (refine RetOK.d rfl rfl ?_; conv => whnf)

theorem FnExactReadAxis_lc : LawCalls Tryd.prog 3 [9] :=
  law_of_pc ⟨_, _, rfl, (arg_str Tryd.underlying9 rdt_str (by rintro y ⟨x, rfl⟩; rfl)), rfl⟩ (fun ds h => by
    obtain ⟨d0, r0, rfl, ⟨x0, rfl⟩, h0⟩ := h
    cases h0
    exact FnExactReadAxis_v x0)
set_option maxRecDepth 100000 in
theorem FnExactReadAxis_lift (os : Os) (started : os.Started) (H : Type) (enc : TypeId × Value → H) :
    ReturnsInHanded {} Tryd.checked os 3 .any (fun w args => (Rows.fnExactReadAxisSpec.pre enc Tryd.prog Tryd.f3 Rows.fnExactReadAxisRow.domain false w args ∧ laidMetH Tryd.prog Rows.fnExactReadAxisRow.laid w) ∧ sizedMet enc Tryd.prog Tryd.f3 (OpenSpec.ofChange Rows.fnExactReadAxisSpec) false w args) (Rows.fnExactReadAxisSpec.post enc Tryd.prog Tryd.f3 false true false false) :=
  law_lift_laid (C := Tryd.checked) (s := Rows.fnExactReadAxisSpec) (ts := [9]) (fun w _ => laidMetH Tryd.prog Rows.fnExactReadAxisRow.laid w) (fun _ _ _ hh h => h.of_heap hh) own laidOut (by kernel_rfl) Tryd.func3 (by rw [Tryd.params3]) rfl Tryd.underlying4
    (by simp only [List.mem_cons, List.not_mem_nil, or_false]; rintro t (rfl) <;> exact ⟨by kernel_rfl, of_decide_eq_true (by kernel_rfl)⟩) rfl
    (fun H ds h => by match ds, h with | [_], _ => exact ⟨rfl, rfl, rfl⟩) FnExactReadAxis_lc os started H enc
    (ChangeSpec.witness_shaped (enc := enc) (C := Tryd.checked) (os := os) (X := fun w _ => laidMetH Tryd.prog Rows.fnExactReadAxisRow.laid w) false (World.laidAll Tryd.prog os Rows.fnExactReadAxisRow.laid) #[.string ByteArray.empty] 8 (World.laidAll_os _ _ _) (World.shaped_of_ZipB (by kernel_rfl) (by kernel_rfl)) (by kernel_rfl) (by kernel_rfl) (by kernel_rfl)
      (by rw [MakeChecks.laidMetH_plain _ _ _ (by kernel_rfl)]; exact laidMet_laidAll _ (by kernel_rfl) (by kernel_rfl)))
theorem FnExactReadAxis_row : Rows.FnExactReadAxisSaid :=
  OpenClaim.holds_of_wide 3 Tryd.f3 rfl rfl rfl rfl rfl rfl rfl ⟨rfl, rfl, rfl, rfl, rfl⟩ rfl rfl rfl rfl rfl (by kernel_rfl) Tryd.func3 (by kernel_rfl)
    (of_decide_eq_true (by kernel_rfl)) (by unfold Func.isWrapper; rw [if_neg (of_decide_eq_false (by kernel_rfl))]; exact ⟨rfl, rfl⟩)
    (fun os started H enc _ => FnExactReadAxis_lift os started H enc)
theorem FnExactReadAxis_holds : Rows.FnExactReadAxisCardSaid :=
  Claim7.holds_tied_plain_at .later [] [.data, .pinned] true (true, "128a1e96721b09adb7f96b53e1235c16441198bbfd311bf85f5e6ce6b6aca7e6") false FnExactReadAxis_row (fun _ h => by cases h) (by kernel_rfl) (fun _ h => by cases h) fnExactReadAxis_row_tie rfl ⟨rfl, rfl⟩ (by kernel_rfl) rfl
    (fun f fn hf hfn => by
      obtain rfl : f = 3 := Option.some.inj ((show Tryd.prog.funcNamed "loop.example/g00883/laws.FnExactReadAxis" = some 3 by kernel_rfl).symm.trans hf) |>.symm
      obtain rfl : fn = Tryd.f3 := (Option.some.inj (Tryd.func3.symm.trans hfn)).symm
      exact ⟨by kernel_rfl, fun j t ht => by
        rw [Tryd.params3] at ht
        have hm : t ∈ [9] := by simpa using Array.mem_of_getElem? ht
        have hall : ([9].all fun u => !Tryd.prog.wantsStandIn u) = true := by kernel_rfl
        exact (show Tryd.prog.wantsStandIn t = false by simpa using List.all_eq_true.1 hall t hm)⟩)
    (by kernel_rfl)
#print axioms FnExactReadAxis_holds

end Go.Proofs.YthpnobngoghhiaaDoor
