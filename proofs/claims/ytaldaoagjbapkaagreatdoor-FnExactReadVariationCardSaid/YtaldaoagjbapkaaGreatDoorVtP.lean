/- merged: several parts in one text. Leans on no more than they do. -/
import Derived.Test.YtaldaoagjbapkaaGreatDoorBase
import Derived.LaidMore
import Derived.Lay
import Derived.Test.YtaldaoagjbapkaaGreatDoorTT
import Derived.Test.YtaldaoagjbapkaaGreatDoorLVBase
import Derived.Test.YtaldaoagjbapkaaGreatDoorShelf
import Derived.Test.YtaldaoagjbapkaaGreatDoorVMLib
import Derived.Lib.Bytealg
import Derived.Test.YtaldaoagjbapkaaGreatDoorLV
set_option linter.unusedSimpArgs false
set_option linter.unusedVariables false
namespace Go.Proofs.YtaldaoagjbapkaaGreatDoor
open Go.ChangeShapes Go.WideShapes Go.ChangeAt Go.RowKit
theorem law_lift_laid {C : Checked} {f : FuncId} {fn : Func} {s : ChangeSpec} {ts : List TypeId} {T : TypeId} {conds : List PathCond} (X : World → Array Value → Prop) (hX : ∀ (w w' : World) (args : Array Value), w.heap = w'.heap → X w args → X w' args)
    (own : ownKnob C.prog.godebug = none) (hl : laidOutB C.prog = true)
    (noInit : C.prog.inits.idxOf? f = none) (hfn : C.prog.funcs[f]? = some fn) (hp : fn.params.toList = ts) (hr : fn.resultTypes = #[T]) (hT : C.prog.underlying T = some .bool)
    (hts : ∀ t ∈ ts, C.prog.readableRec t = true ∧ t < C.prog.types.size) (hv : s.vars = [])
    (hs : ∀ (H : Type) (ds : List (DataW H)), ds.length = ts.length → (s.fn H ds).results = [.lit (.bool true)] ∧ (s.fn H ds).args = ds ∧ (s.fn H ds).vars = [])
    (hc : LawCalls C.prog f ts) (os : Os) (started : os.Started) (H : Type) (enc : TypeId × Value → H)
    (witness : ∃ (w : World) (tape : Tape) (i : Input), w.os = os ∧ (w.forCall tape i).Shaped C.prog ∧ i.vars = [] ∧ Input.okWide C.prog (w.forCall tape i) .any w.heap.size f i ∧
      ((s.pre enc C.prog fn conds false (w.forCall tape i).memory i.args ∧ X (w.forCall tape i).memory i.args) ∧ sizedMet enc C.prog fn (OpenSpec.ofChange s) false (w.forCall tape i).memory i.args) ∧ ({} : Assume).holds C.prog (lone (Frame.enter C.prog f i.args .normal) [] (w.forCall tape i))) :
    ReturnsInHanded {} C os f .any (fun w args => (s.pre enc C.prog fn conds false w args ∧ X w args) ∧ sizedMet enc C.prog fn (OpenSpec.ofChange s) false w args) (s.post enc C.prog fn false true false false) := by
  refine returnsInHanded_of_change_and (X := X) hX own started noInit hfn witness ?_
  intro W base args ds gs before hval hW _ _ _ _
  have hW' := hW
  obtain ⟨p, q, hA, hV, rfl, hfz, hnd⟩ := hW
  rw [hv] at hV
  obtain ⟨rfl, rfl⟩ := trodVars_none hV
  rw [hp] at hA
  have hlen : ∀ (ts : List TypeId) (vs : List Value) (ds : List (DataW H)) (ps : List MemPlace), DataW.TrodAll enc C.prog W 0 (fun _ => true) true ts vs ds ps → ds.length = ts.length := by
    intro ts
    induction ts with
    | nil => intro vs ds ps h; obtain ⟨_, rfl, _⟩ := trodAll_nil h; rfl
    | cons t ts ih =>
      intro vs ds ps h
      obtain ⟨v, vs', d, ds', p, q, _, rfl, _, _, h'⟩ := ChangeShapes.trodAll_cons h
      simp [ih _ _ _ h']
  have hd := hlen _ _ _ _ hA
  obtain ⟨hs1, hs2, hs3⟩ := hs H ds hd
  have hval' : ∀ (j : Nat) t v, ts[j]? = some t → args.toList[j]? = some v → Value.okWide C.prog W .any base t v := fun j t v h1 h2 => hval j t v (by rw [← hp] at h1; simpa using h1) (by simpa using h2)
  have hcall := hc H enc W base args.toList ds p hval' hA
  rw [Array.toArray_toList] at hcall
  refine hcall.mono fun e W' ⟨he, bel⟩ => ⟨_, he, ds, [], _, [], p, [], hW', ?_, ?_, ?_, bel.below.frame _, fun h => by cases h⟩
  · rw [List.append_nil, hs1, hr]
    exact trodAll_mk1 (shut_bool hT _)
  · rw [List.append_nil, hs2, hp]
    exact trodAll_below hl bel.below _ _ _ _ hts hA
  · rw [List.append_nil, hs3, hv]
    rfl

set_option maxHeartbeats 4000000 in
theorem l29Map_v (xs : List TAxisPoint) : PC Tryz.prog 126 [.d (.lst (xs.map TAxisPoint.D))] (.d (.bool (mapB xs))) [] := by
  refine pc_intro ttOk (by kernel_rfl) Tryz.func126 rfl (by kernel_rfl) (by kernel_rfl) (by kernel_rfl) (fun hw => ?_)
  have hL : (xs.map TAxisPoint.D).length = xs.length := List.length_map _
  have hm : (xs.map TAxisPoint.D).length ≤ 9223372036854775807 := hw.1.1
  (conv => whnf)
  (refine br_ (fun h1 => ?_) (fun h1 => ?_) <;> (repeat (refine stg_ ?_)))
  · (refine RetOK.d rfl rfl ?_; conv => whnf)
    have : xs = [] := List.eq_nil_of_length_eq_zero (by omega)
    subst this
    rfl
  · have h0 : 0 < xs.length := by omega
    refine LoopW.go (α := Nat) (fun k => [(0, .d (.lst (xs.map TAxisPoint.D))), (3, .d (.int .i64 (fixN (xs.take k)))), (4, .d (.int .i64 k))]) (fun _ => [.gone]) (fun k => k ≤ xs.length ∧ mpGo none xs = mpGo (pv xs k) (xs.drop k)) (fun k => xs.length - k) 0 (Weak.cov ⟨rfl, rfl, rfl, trivial⟩ ⟨trivial, trivial⟩ rfl) ⟨by omega, rfl⟩ (fun k hp => ?_)
    obtain ⟨hk, hg⟩ := hp
    have hfl := fixN_le (xs.take k)
    have hfl2 : (xs.take k).length ≤ k := List.length_take_le k xs
    (conv => whnf)
    (refine br_ (fun h2 => ?_) (fun h2 => ?_) <;> (repeat (refine stg_ ?_)))
    · have h2' : k < xs.length := by omega
      obtain ⟨x, hx⟩ := at_lt' h2'
      rw [drop_at hx, mpGo_cons] at hg
      have hF := fixN_take hx
      cases hA : nrm x.fFrom with
      | false =>
        have c1 := l29Normal_v x.fFrom
        rw [hA] at c1
        (repeat (refine stg_ ?_))
        (refine cl_ (c1) ?_)
        (refine RetOK.d rfl rfl ?_; conv => whnf)
        rw [mapB_no h0 (by rw [hg, apB, hA]; rfl)]
      | true =>
        have c1 := l29Normal_v x.fFrom
        rw [hA] at c1
        cases hB : nrm x.fTo with
        | false =>
          have c2 := l29Normal_v x.fTo
          rw [hB] at c2
          (repeat (refine stg_ ?_))
          (refine cl_ (c1) ?_)
          (repeat (refine stg_ ?_))
          (refine cl_ (c2) ?_)
          (repeat (refine stg_ ?_))
          (refine RetOK.d rfl rfl ?_; conv => whnf)
          rw [mapB_no h0 (by rw [hg, apB, hA, hB]; rfl)]
        | true =>
          have c2 := l29Normal_v x.fTo
          rw [hB] at c2
          have hAB : apB x = true := by rw [apB, hA, hB]; rfl
          rw [hAB, Bool.true_and] at hg
          (repeat (refine stg_ ?_))
          (refine cl_ (c1) ?_)
          (repeat (refine stg_ ?_))
          (refine cl_ (c2) ?_)
          (repeat (refine stg_ ?_))
          (refine br_ (fun h3 => ?_) (fun h3 => ?_) <;> (repeat (refine stg_ ?_)))
          · obtain ⟨y, hy⟩ := at_lt' (xs := xs) (k := k - 1) (by omega)
            rw [pv_pos xs (by omega), hy] at hg
            have hy' : (xs.map TAxisPoint.D)[((k : Int) - 1).toNat]? = some y.D := by
              have : ((k : Int) - 1).toNat = k - 1 := by omega
              rw [this, List.getElem?_map, hy]; rfl
            have hlt : ltO (some y) x = (decide (y.fFrom < x.fFrom) && decide (y.fTo ≤ x.fTo)) := rfl
            refine IxW.at (by omega) hy' ?_
            (conv => whnf)
            (refine br_ (fun h4 => ?_) (fun h4 => ?_) <;> (repeat (refine stg_ ?_)))
            · (refine RetOK.d rfl rfl ?_; conv => whnf)
              rw [mapB_no h0 (by rw [hg, hlt, decide_eq_false (by omega)]; rfl)]
            · (repeat (refine stg_ ?_))
              refine IxW.at (by omega) hy' ?_
              (conv => whnf)
              (refine br_ (fun h5 => ?_) (fun h5 => ?_) <;> (repeat (refine stg_ ?_)))
              · (refine RetOK.d rfl rfl ?_; conv => whnf)
                rw [mapB_no h0 (by rw [hg, hlt, decide_eq_false (p := y.fTo ≤ x.fTo) (by omega), Bool.and_false, Bool.false_and])]
              · rw [hlt, decide_eq_true (p := y.fFrom < x.fFrom) (by omega), decide_eq_true (by omega), Bool.true_and, Bool.true_and] at hg
                (repeat' (first | (refine stg_ ?_) | (split <;> (conv => whnf))))
                all_goals (first | (have hb : fixB x = true := (by simp_all [fixB]); refine NextW.go (k + 1) (Weak.cov ⟨rfl, (by (show _ = V.d (D.int .i64 ((fixN (xs.take (k + 1)) : Nat) : Int))); rw [hF, if_pos hb]; rfl), rfl, trivial⟩ ⟨trivial, trivial⟩ rfl) ⟨by omega, by rw [pv_succ, hx, hg]⟩ (by omega)) | (have hb : ¬ fixB x = true := (by simp_all [fixB]); refine NextW.go (k + 1) (Weak.cov ⟨rfl, (by (show _ = V.d (D.int .i64 ((fixN (xs.take (k + 1)) : Nat) : Int))); rw [hF, if_neg hb]; rfl), rfl, trivial⟩ ⟨trivial, trivial⟩ rfl) ⟨by omega, by rw [pv_succ, hx, hg]⟩ (by omega)))
          · have : k = 0 := by omega
            have hlt : ltO (pv xs k) x = true := by rw [this]; rfl
            rw [hlt, Bool.true_and] at hg
            (repeat' (first | (refine stg_ ?_) | (split <;> (conv => whnf))))
            all_goals (first | (have hb : fixB x = true := (by simp_all [fixB]); refine NextW.go (k + 1) (Weak.cov ⟨rfl, (by (show _ = V.d (D.int .i64 ((fixN (xs.take (k + 1)) : Nat) : Int))); rw [hF, if_pos hb]; rfl), rfl, trivial⟩ ⟨trivial, trivial⟩ rfl) ⟨by omega, by rw [pv_succ, hx, hg]⟩ (by omega)) | (have hb : ¬ fixB x = true := (by simp_all [fixB]); refine NextW.go (k + 1) (Weak.cov ⟨rfl, (by (show _ = V.d (D.int .i64 ((fixN (xs.take (k + 1)) : Nat) : Int))); rw [hF, if_neg hb]; rfl), rfl, trivial⟩ ⟨trivial, trivial⟩ rfl) ⟨by omega, by rw [pv_succ, hx, hg]⟩ (by omega)))
    · have : k = xs.length := by omega
      subst this
      rw [List.drop_length] at hg
      rw [List.take_length] at *
      have hg : mpGo none xs = true := by rw [hg]; cases pv xs xs.length <;> rfl
      (repeat' (first | (refine stg_ ?_) | (split <;> (conv => whnf))))
      · rename_i he
        (refine RetOK.d rfl rfl ?_; conv => whnf)
        have he' : fixN xs = 3 := by simp at he; omega
        rw [mapB_yes h0 hg, decide_eq_true he', Bool.true_and, hL]
        congr 1
        exact decide_eq_decide.2 (by omega)
      · rename_i he
        (refine RetOK.d rfl rfl ?_; conv => whnf)
        have he' : ¬ fixN xs = 3 := by simp at he; omega
        rw [mapB_yes h0 hg, decide_eq_false he', Bool.false_and]
def axB (a : TAxis) : Bool := nameB a.fName && inB a.fMin (-32000) a.fDefault && inB a.fMax a.fDefault 32000 && decide (a.fMin < a.fMax) && mapB a.fMap
theorem l29Axis_v (a : TAxis) : PC Tryz.prog 62 [.pX a.D] (.d (.bool (axB a))) [] := by
  refine pc_intro ttOk (by kernel_rfl) Tryz.func62 rfl (by kernel_rfl) (by kernel_rfl) (by kernel_rfl) (fun hw => ?_)
  have c1 := specIsName_v a.fName
  have c2 := l00In_v a.fMin (-32000) a.fDefault
  have c3 := l00In_v a.fMax a.fDefault 32000
  have c4 := l29Map_v a.fMap
  have hB : axB a = (nameB a.fName && inB a.fMin (-32000) a.fDefault && inB a.fMax a.fDefault 32000 && decide (a.fMin < a.fMax) && mapB a.fMap) := rfl
  generalize nameB a.fName = b1 at *
  generalize inB a.fMin (-32000) a.fDefault = b2 at *
  generalize inB a.fMax a.fDefault 32000 = b3 at *
  generalize mapB a.fMap = b4 at *
  rw [hB]
  clear hB
  cases b1
  · (conv => whnf)
    (repeat (refine stg_ ?_))
    (refine cl_ (c1) ?_)
    (repeat' (first | (refine stg_ ?_) | (split <;> (conv => whnf))))
    all_goals ((refine RetOK.d rfl rfl ?_; conv => whnf); simp_all)
  · cases b2
    · (conv => whnf)
      (repeat (refine stg_ ?_))
      (refine cl_ (c1) ?_)
      (refine cl_ (c2) ?_)
      (repeat' (first | (refine stg_ ?_) | (split <;> (conv => whnf))))
      all_goals ((refine RetOK.d rfl rfl ?_; conv => whnf); simp_all)
    · cases b3
      · (conv => whnf)
        (repeat (refine stg_ ?_))
        (refine cl_ (c1) ?_)
        (refine cl_ (c2) ?_)
        (refine cl_ (c3) ?_)
        (repeat' (first | (refine stg_ ?_) | (split <;> (conv => whnf))))
        all_goals ((refine RetOK.d rfl rfl ?_; conv => whnf); simp_all)
      · (conv => whnf)
        (repeat (refine stg_ ?_))
        (refine cl_ (c1) ?_)
        (refine cl_ (c2) ?_)
        (refine cl_ (c3) ?_)
        (refine br_ (fun h1 => ?_) (fun h1 => ?_) <;> (repeat (refine stg_ ?_)))
        · (refine cl_ (c4) ?_)
          (repeat' (first | (refine stg_ ?_) | (split <;> (conv => whnf))))
          all_goals ((refine RetOK.d rfl rfl ?_; conv => whnf); simp_all)
        · (repeat' (first | (refine stg_ ?_) | (split <;> (conv => whnf))))
          all_goals ((refine RetOK.d rfl rfl ?_; conv => whnf); rw [decide_eq_false (p := a.fMin < a.fMax) (by omega)]; rfl)
def apEq (p x : TAxisPoint) : Bool := p.fFrom == x.fFrom && (p.fTo == x.fTo && true)
def ixGo (p : TAxisPoint) : List TAxisPoint → Nat → Int
  | [], _ => -1
  | x :: t, k => if apEq p x = true then (k : Int) else ixGo p t (k + 1)
theorem ixGo_any (p : TAxisPoint) : ∀ (xs : List TAxisPoint) (k : Nat), decide (0 ≤ ixGo p xs k) = xs.any (apEq p)
  | [], _ => rfl
  | x :: t, k => by
    rw [List.any_cons, ixGo]
    by_cases h : apEq p x = true
    · rw [if_pos h, h]
      simp
    · rw [if_neg h, ixGo_any p t (k + 1)]
      simp [h]
theorem ix_v (xs : List TAxisPoint) (p : TAxisPoint) : PC Tryz.prog 206 [.d (.lst (xs.map TAxisPoint.D)), .d p.D] (.d (.int .i64 (ixGo p xs 0))) [] := by
  refine pc_intro ttOk (by kernel_rfl) Tryz.func206 rfl (by kernel_rfl) (by kernel_rfl) (by kernel_rfl) (fun hw => ?_)
  have hL : (xs.map TAxisPoint.D).length = xs.length := List.length_map _
  have hm : (xs.map TAxisPoint.D).length ≤ 9223372036854775807 := hw.1.1
  (conv => whnf)
  refine LoopW.go (α := Nat) (fun k => [(0, .d (.lst (xs.map TAxisPoint.D))), (3, .pB 1 [] 0), (7, .d (.int .i64 (xs.map TAxisPoint.D).length)), (8, .d (.int .i64 k))]) (fun _ => [.gone, .box (.d p.D)]) (fun k => k ≤ xs.length ∧ ixGo p xs 0 = ixGo p (xs.drop k) k) (fun k => xs.length - k) 0 (Weak.cov ⟨rfl, rfl, rfl, rfl, trivial⟩ ⟨trivial, rfl, trivial⟩ rfl) ⟨by omega, rfl⟩ (fun k hp => ?_)
  obtain ⟨hk1, hk2⟩ := hp
  (conv => whnf)
  (refine br_ (fun h1 => ?_) (fun h1 => ?_) <;> (repeat (refine stg_ ?_)))
  · have h1' : k < xs.length := by omega
    obtain ⟨x, hx⟩ := at_lt' h1'
    rw [drop_at hx, ixGo] at hk2
    (repeat (refine stg_ ?_))
    split
    · rename_i h2
      rw [if_pos (show apEq p x = true from h2)] at hk2
      (conv => whnf)
      (refine RetOK.d rfl rfl ?_; conv => whnf)
      rw [hk2]
    · rename_i h2
      rw [if_neg (show ¬ apEq p x = true by rw [apEq, h2]; decide)] at hk2
      (conv => whnf)
      (repeat (refine stg_ ?_))
      exact NextW.go (k + 1) (Weak.cov ⟨rfl, rfl, rfl, rfl, trivial⟩ ⟨trivial, rfl, trivial⟩ rfl) ⟨by omega, hk2⟩ (by omega)
  · (refine RetOK.d rfl rfl ?_; conv => whnf)
    rw [hk2, List.drop_eq_nil_of_le (by omega)]; rfl
theorem ct_v (xs : List TAxisPoint) (p : TAxisPoint) : PC Tryz.prog 188 [.d (.lst (xs.map TAxisPoint.D)), .d p.D] (.d (.bool (xs.any (apEq p)))) [] := by
  refine pc_intro ttOk (by kernel_rfl) Tryz.func188 rfl (by kernel_rfl) (by kernel_rfl) (by kernel_rfl) (fun hw => ?_)
  (conv => whnf)
  (refine cl_ (ix_v xs p) ?_)
  (refine RetOK.d rfl rfl ?_; conv => whnf)
  rw [ixGo_any]
set_option maxHeartbeats 4000000 in
theorem validAxisMap_v (xs : List TAxisPoint) : PC Tryz.prog 153 [.d (.lst (xs.map TAxisPoint.D))] (.d (.bool (mapB xs))) [] := by
  refine pc_intro ttOk (by kernel_rfl) Tryz.func153 rfl (by kernel_rfl) (by kernel_rfl) (by kernel_rfl) (fun hw => ?_)
  have hL : (xs.map TAxisPoint.D).length = xs.length := List.length_map _
  have hm : (xs.map TAxisPoint.D).length ≤ 9223372036854775807 := hw.1.1
  (conv => whnf)
  split
  · rename_i h1
    (conv => whnf)
    (refine RetOK.d rfl rfl ?_; conv => whnf)
    have : xs = [] := List.eq_nil_of_length_eq_zero (by simp at h1; simpa using h1)
    subst this
    rfl
  · rename_i h1
    have h0 : 0 < xs.length := by
      have : ¬ xs.length = 0 := by intro hz; simp [hz] at h1
      omega
    (conv => whnf)
    refine LoopW.go (α := Nat) (fun k => [(0, .d (.lst (xs.map TAxisPoint.D))), (10, .d (.lst (xs.map TAxisPoint.D))), (11, .d (.int .i64 (xs.map TAxisPoint.D).length)), (12, .d (.int .i64 k))]) (fun _ => [.gone]) (fun k => k ≤ xs.length ∧ mpGo none xs = mpGo (pv xs k) (xs.drop k)) (fun k => xs.length - k) 0 (Weak.cov ⟨rfl, rfl, rfl, rfl, trivial⟩ ⟨trivial, trivial⟩ rfl) ⟨by omega, rfl⟩ (fun k hp => ?_)
    obtain ⟨hk, hg⟩ := hp
    (conv => whnf)
    (refine br_ (fun h2 => ?_) (fun h2 => ?_) <;> (repeat (refine stg_ ?_)))
    · have h2' : k < xs.length := by omega
      obtain ⟨x, hx⟩ := at_lt' h2'
      rw [drop_at hx, mpGo_cons] at hg
      cases hA : nrm x.fFrom with
      | false =>
        have c1 := isNormal_v x.fFrom
        rw [hA] at c1
        (repeat (refine stg_ ?_))
        (refine cl_ (c1) ?_)
        (refine RetOK.d rfl rfl ?_; conv => whnf)
        rw [mapB_no h0 (by rw [hg, apB, hA]; rfl)]
      | true =>
        have c1 := isNormal_v x.fFrom
        rw [hA] at c1
        cases hB : nrm x.fTo with
        | false =>
          have c2 := isNormal_v x.fTo
          rw [hB] at c2
          (repeat (refine stg_ ?_))
          (refine cl_ (c1) ?_)
          (repeat (refine stg_ ?_))
          (refine cl_ (c2) ?_)
          (repeat (refine stg_ ?_))
          (refine RetOK.d rfl rfl ?_; conv => whnf)
          rw [mapB_no h0 (by rw [hg, apB, hA, hB]; rfl)]
        | true =>
          have c2 := isNormal_v x.fTo
          rw [hB] at c2
          have hAB : apB x = true := by rw [apB, hA, hB]; rfl
          rw [hAB, Bool.true_and] at hg
          (repeat (refine stg_ ?_))
          (refine cl_ (c1) ?_)
          (repeat (refine stg_ ?_))
          (refine cl_ (c2) ?_)
          (repeat (refine stg_ ?_))
          (refine br_ (fun h3 => ?_) (fun h3 => ?_) <;> (repeat (refine stg_ ?_)))
          · obtain ⟨y, hy⟩ := at_lt' (xs := xs) (k := k - 1) (by omega)
            rw [pv_pos xs (by omega), hy] at hg
            have hy' : (xs.map TAxisPoint.D)[((k : Int) - 1).toNat]? = some y.D := by
              have : ((k : Int) - 1).toNat = k - 1 := by omega
              rw [this, List.getElem?_map, hy]; rfl
            have hlt : ltO (some y) x = (decide (y.fFrom < x.fFrom) && decide (y.fTo ≤ x.fTo)) := rfl
            refine IxW.at (by omega) hy' ?_
            (conv => whnf)
            (refine br_ (fun h4 => ?_) (fun h4 => ?_) <;> (repeat (refine stg_ ?_)))
            · (refine RetOK.d rfl rfl ?_; conv => whnf)
              rw [mapB_no h0 (by rw [hg, hlt, decide_eq_false (by omega)]; rfl)]
            · (repeat (refine stg_ ?_))
              refine IxW.at (by omega) hy' ?_
              (conv => whnf)
              (refine br_ (fun h5 => ?_) (fun h5 => ?_) <;> (repeat (refine stg_ ?_)))
              · (refine RetOK.d rfl rfl ?_; conv => whnf)
                rw [mapB_no h0 (by rw [hg, hlt, decide_eq_false (p := y.fTo ≤ x.fTo) (by omega), Bool.and_false, Bool.false_and])]
              · rw [hlt, decide_eq_true (p := y.fFrom < x.fFrom) (by omega), decide_eq_true (by omega), Bool.true_and, Bool.true_and] at hg
                (repeat (refine stg_ ?_))
                exact NextW.go (k + 1) (Weak.cov ⟨rfl, rfl, rfl, rfl, trivial⟩ ⟨trivial, trivial⟩ rfl) ⟨by omega, by rw [pv_succ, hx, hg]⟩ (by omega)
          · have : k = 0 := by omega
            have hlt : ltO (pv xs k) x = true := by rw [this]; rfl
            rw [hlt, Bool.true_and] at hg
            (repeat (refine stg_ ?_))
            exact NextW.go (k + 1) (Weak.cov ⟨rfl, rfl, rfl, rfl, trivial⟩ ⟨trivial, trivial⟩ rfl) ⟨by omega, by rw [pv_succ, hx, hg]⟩ (by omega)
    · have : k = xs.length := by omega
      subst this
      rw [List.drop_length] at hg
      have hg : mpGo none xs = true := by rw [hg]; cases pv xs xs.length <;> rfl
      (repeat (refine stg_ ?_))
      have hH : ∀ n : Int, xs.any (apEq ⟨n, n⟩) = hasB n xs := fun n => by simp only [hasB]; congr 1; funext x; simp [apEq]
      have hM := mapB_yes h0 hg
      rw [mapB_has xs hg] at hM
      refine LoopW.go (α := Nat) (fun k => [(0, .d (.lst (xs.map TAxisPoint.D))), (54, .own 1 0 3), (55, .d (.int .i64 3)), (56, .d (.int .i64 k))]) (fun _ => [.gone, .arr 1 [.int .i64 (-16384), .int .i64 0, .int .i64 16384] true]) (fun k => k ≤ 3 ∧ (0 < k → hasB (-16384) xs = true) ∧ (1 < k → hasB 0 xs = true) ∧ (2 < k → hasB 16384 xs = true)) (fun k => 3 - k) 0 (Weak.cov ⟨rfl, rfl, rfl, rfl, trivial⟩ ⟨trivial, rfl, trivial⟩ rfl) ⟨by omega, by omega, by omega, by omega⟩ (fun k hp => ?_)
      obtain ⟨hk, h0', h1', h2'⟩ := hp
      (conv => whnf)
      (refine br_ (fun h6 => ?_) (fun h6 => ?_) <;> (repeat (refine stg_ ?_)))
      · obtain rfl | rfl | rfl : k = 0 ∨ k = 1 ∨ k = 2 := by omega
        · have c := ct_v xs ⟨-16384, -16384⟩
          rw [hH] at c
          cases hb : hasB (-16384) xs with
          | false =>
            rw [hb] at c
            (repeat (refine stg_ ?_))
            refine EoW.at (y := .int .i64 (-16384)) rfl ?_
            (conv => whnf)
            (repeat (refine stg_ ?_))
            (apply CallW.use c; (focus exact ⟨_, _, rfl, rfl, _, _, rfl, ⟨_, rfl, _, rfl, _, _, rfl, rfl, _, _, rfl, rfl, rfl⟩, rfl⟩); (focus rfl); (conv => whnf))
            (refine RetOK.d rfl rfl ?_; conv => whnf)
            rw [hM, hb]; simp
          | true =>
            rw [hb] at c
            (repeat (refine stg_ ?_))
            refine EoW.at (y := .int .i64 (-16384)) rfl ?_
            (conv => whnf)
            (repeat (refine stg_ ?_))
            (apply CallW.use c; (focus exact ⟨_, _, rfl, rfl, _, _, rfl, ⟨_, rfl, _, rfl, _, _, rfl, rfl, _, _, rfl, rfl, rfl⟩, rfl⟩); (focus rfl); (conv => whnf))
            (repeat (refine stg_ ?_))
            exact NextW.go 1 (Weak.cov ⟨rfl, rfl, rfl, rfl, trivial⟩ ⟨trivial, rfl, trivial⟩ rfl) ⟨by omega, by intro hh; first | exact hb | rfl | exact h0' (by omega), by intro hh; first | (exfalso; omega) | exact hb | rfl | exact h1' (by omega), by intro hh; first | (exfalso; omega) | exact hb | rfl⟩ (by omega)
        · have c := ct_v xs ⟨0, 0⟩
          rw [hH] at c
          cases hb : hasB (0) xs with
          | false =>
            rw [hb] at c
            (repeat (refine stg_ ?_))
            refine EoW.at (y := .int .i64 (0)) rfl ?_
            (conv => whnf)
            (repeat (refine stg_ ?_))
            (apply CallW.use c; (focus exact ⟨_, _, rfl, rfl, _, _, rfl, ⟨_, rfl, _, rfl, _, _, rfl, rfl, _, _, rfl, rfl, rfl⟩, rfl⟩); (focus rfl); (conv => whnf))
            (refine RetOK.d rfl rfl ?_; conv => whnf)
            rw [hM, hb]; simp
          | true =>
            rw [hb] at c
            (repeat (refine stg_ ?_))
            refine EoW.at (y := .int .i64 (0)) rfl ?_
            (conv => whnf)
            (repeat (refine stg_ ?_))
            (apply CallW.use c; (focus exact ⟨_, _, rfl, rfl, _, _, rfl, ⟨_, rfl, _, rfl, _, _, rfl, rfl, _, _, rfl, rfl, rfl⟩, rfl⟩); (focus rfl); (conv => whnf))
            (repeat (refine stg_ ?_))
            exact NextW.go 2 (Weak.cov ⟨rfl, rfl, rfl, rfl, trivial⟩ ⟨trivial, rfl, trivial⟩ rfl) ⟨by omega, by intro hh; first | exact hb | rfl | exact h0' (by omega), by intro hh; first | (exfalso; omega) | exact hb | rfl | exact h1' (by omega), by intro hh; first | (exfalso; omega) | exact hb | rfl⟩ (by omega)
        · have c := ct_v xs ⟨16384, 16384⟩
          rw [hH] at c
          cases hb : hasB (16384) xs with
          | false =>
            rw [hb] at c
            (repeat (refine stg_ ?_))
            refine EoW.at (y := .int .i64 (16384)) rfl ?_
            (conv => whnf)
            (repeat (refine stg_ ?_))
            (apply CallW.use c; (focus exact ⟨_, _, rfl, rfl, _, _, rfl, ⟨_, rfl, _, rfl, _, _, rfl, rfl, _, _, rfl, rfl, rfl⟩, rfl⟩); (focus rfl); (conv => whnf))
            (refine RetOK.d rfl rfl ?_; conv => whnf)
            rw [hM, hb]; simp
          | true =>
            rw [hb] at c
            (repeat (refine stg_ ?_))
            refine EoW.at (y := .int .i64 (16384)) rfl ?_
            (conv => whnf)
            (repeat (refine stg_ ?_))
            (apply CallW.use c; (focus exact ⟨_, _, rfl, rfl, _, _, rfl, ⟨_, rfl, _, rfl, _, _, rfl, rfl, _, _, rfl, rfl, rfl⟩, rfl⟩); (focus rfl); (conv => whnf))
            (repeat (refine stg_ ?_))
            exact NextW.go 3 (Weak.cov ⟨rfl, rfl, rfl, rfl, trivial⟩ ⟨trivial, rfl, trivial⟩ rfl) ⟨by omega, by intro hh; first | exact hb | rfl | exact h0' (by omega), by intro hh; first | (exfalso; omega) | exact hb | rfl | exact h1' (by omega), by intro hh; first | (exfalso; omega) | exact hb | rfl⟩ (by omega)
      · (refine RetOK.d rfl rfl ?_; conv => whnf)
        rw [hM, h0' (by omega), h1' (by omega), h2' (by omega), hL]
        simp
        try omega
set_option maxHeartbeats 4000000 in
theorem ValidAxis_v (a : TAxis) : PC Tryz.prog 97 [.d a.D] (.d (.bool (axB a))) [] := by
  refine pc_intro ttOk (by kernel_rfl) Tryz.func97 rfl (by kernel_rfl) (by kernel_rfl) (by kernel_rfl) (fun hw => ?_)
  have c1 := IsName_v a.fName
  have c4 := validAxisMap_v a.fMap
  have hB : axB a = (nameB a.fName && (decide (-32000 ≤ a.fMin) && decide (a.fMin ≤ a.fDefault)) && (decide (a.fDefault ≤ a.fMax) && decide (a.fMax ≤ 32000)) && decide (a.fMin < a.fMax) && mapB a.fMap) := rfl
  generalize nameB a.fName = b1 at *
  generalize mapB a.fMap = b4 at *
  rw [hB]
  clear hB
  cases b1
  · (conv => whnf)
    (repeat (refine stg_ ?_))
    (refine cl_ (c1) ?_)
    (repeat' (first | (refine stg_ ?_) | (split <;> (conv => whnf))))
    all_goals ((refine RetOK.d rfl rfl ?_; conv => whnf); simp_all)
  · cases b4
    all_goals ((conv => whnf); (repeat (refine stg_ ?_)); ((refine cl_ (c1) ?_)); (repeat' (first | (refine stg_ ?_) | ((refine cl_ (c4) ?_)) | (split <;> (conv => whnf)))))
    all_goals ((refine RetOK.d rfl rfl ?_; conv => whnf); simp_all <;> (intros; omega))
def nmEq (s : ByteArray) (x : TAxis) : Bool := x.fName.toList == s.toList
def axsGo : List TAxis → List TAxis → Bool
  | _, [] => true
  | pre, x :: t => axB x && (!pre.any (nmEq x.fName) && axsGo (pre ++ [x]) t)
def axsB (xs : List TAxis) : Bool := decide (xs.length ≤ 3) && axsGo [] xs
theorem axsGo_at {xs : List TAxis} {k : Nat} {x : TAxis} (hx : xs[k]? = some x) : axsGo (xs.take k) (xs.drop k) = (axB x && (!(xs.take k).any (nmEq x.fName) && axsGo (xs.take (k + 1)) (xs.drop (k + 1)))) := by
  rw [drop_at hx, axsGo, take_snoc_get hx]
theorem axsGo_end {xs : List TAxis} {k : Nat} (hk : xs.length ≤ k) : axsGo (xs.take k) (xs.drop k) = true := by
  rw [List.drop_eq_nil_of_le hk]; rfl
theorem axNm1_v (x : TAxis) (s : ByteArray) : PC Tryz.prog 158 [.d x.D, .pX (.str s)] (.d (.bool (nmEq s x))) [] := by
  refine pc_intro ttOk (by kernel_rfl) Tryz.func158 rfl (by kernel_rfl) (by kernel_rfl) (by kernel_rfl) (fun hw => ?_)
  (conv => whnf)
  (refine RetOK.d rfl rfl ?_; conv => whnf)
  rfl
theorem ixAx_v (xs : List TAxis) (f : Nat) (y : D) (p : TAxis → Bool) (hf : ∀ x : TAxis, PC Tryz.prog f [.d x.D, .pX y] (.d (.bool (p x))) []) :
    PC Tryz.prog 157 [.d (.lst (xs.map TAxis.D)), .fn (.func f) [.pX y]] (.d (.int .i64 (fdx p xs 0))) [] := by
  refine pc_intro ttOk (by kernel_rfl) Tryz.func157 rfl (by kernel_rfl) (by kernel_rfl) (by kernel_rfl) (fun hw => ?_)
  have hL : (xs.map TAxis.D).length = xs.length := List.length_map _
  have hm : (xs.map TAxis.D).length ≤ 9223372036854775807 := hw.1.1
  (conv => whnf)
  refine LoopW.go (α := Nat) (fun k => [(0, .d (.lst (xs.map TAxis.D))), (1, .fn (.func f) [.pX y]), (7, .d (.int .i64 (xs.map TAxis.D).length)), (8, .d (.int .i64 k))]) (fun k => [.gone]) (fun k => k ≤ xs.length ∧ fdx p xs 0 = fdx p (xs.drop k) k) (fun k => xs.length - k) 0 covT_ ?_ (fun k hk => ?_)
  · exact ⟨by omega, rfl⟩
  obtain ⟨hk1, hk2⟩ := hk
  (conv => whnf)
  (refine br_ (fun h2 => ?_) (fun h2 => ?_) <;> (repeat (refine stg_ ?_)))
  · obtain ⟨x, hx⟩ := at_lt' (xs := xs) (k := k) (by omega)
    rw [fdx_at hx] at hk2
    (repeat (refine stg_ ?_))
    (refine cla_ (hf x) ?_)
    (refine br_ (fun h3 => ?_) (fun h3 => ?_) <;> (repeat (refine stg_ ?_)))
    · (refine RetOK.d rfl rfl ?_; conv => whnf)
      rw [hk2, if_pos h3]
    · (repeat (refine stg_ ?_))
      exact NextW.go (k + 1) covT_ ⟨by omega, by rw [hk2, h3]; rfl⟩ (by omega)
  · (refine RetOK.d rfl rfl ?_; conv => whnf)
    rw [hk2, fdx_end (by omega)]
theorem axisNamed_v (xs : List TAxis) (s : ByteArray) : PC Tryz.prog 102 [.d (.lst (xs.map TAxis.D)), .d (.str s)] (.d (.int .i64 (fdx (nmEq s) xs 0))) [] := by
  refine pc_intro ttOk (by kernel_rfl) Tryz.func102 rfl (by kernel_rfl) (by kernel_rfl) (by kernel_rfl) (fun hw => ?_)
  (conv => whnf)
  (refine cla_ (ixAx_v xs _ (.str s) (nmEq s) (fun x => axNm1_v x s)) ?_)
  (refine RetOK.d rfl rfl ?_; conv => whnf)
set_option maxHeartbeats 1000000 in
theorem ValidAxes_v (xs : List TAxis) : PC Tryz.prog 46 [.d (.lst (xs.map TAxis.D))] (.d (.bool (axsB xs))) [] := by
  refine pc_intro ttOk (by kernel_rfl) Tryz.func46 rfl (by kernel_rfl) (by kernel_rfl) (by kernel_rfl) (fun hw => ?_)
  have hL : (xs.map TAxis.D).length = xs.length := List.length_map _
  have hm : (xs.map TAxis.D).length ≤ 9223372036854775807 := hw.1.1
  (conv => whnf)
  (refine br_ (fun h1 => ?_) (fun h1 => ?_) <;> (repeat (refine stg_ ?_)))
  · (refine RetOK.d rfl rfl ?_; conv => whnf)
    rw [axsB, decide_eq_false (by omega)]; rfl
  · refine LoopW.go (α := Nat) (fun k => [(0, .d (.lst (xs.map TAxis.D))), (8, .d (.lst (xs.map TAxis.D))), (9, .d (.int .i64 (xs.map TAxis.D).length)), (10, .d (.int .i64 k))]) (fun k => [.gone]) (fun k => k ≤ xs.length ∧ axsB xs = axsGo (xs.take k) (xs.drop k)) (fun k => xs.length - k) 0 covT_ ?_ (fun k hk => ?_)
    · exact ⟨by omega, by rw [axsB, decide_eq_true (by omega)]; rfl⟩
    obtain ⟨hk1, hk2⟩ := hk
    (conv => whnf)
    (refine br_ (fun h2 => ?_) (fun h2 => ?_) <;> (repeat (refine stg_ ?_)))
    · obtain ⟨x, hx⟩ := at_lt' (xs := xs) (k := k) (by omega)
      rw [axsGo_at hx] at hk2
      have hT : ((xs.map TAxis.D).drop 0).take (k - 0) = (xs.take k).map TAxis.D := by simp
      have hF := fdx_any (nmEq x.fName) (xs.take k) 0
      rw [← hF] at hk2
      (repeat' (first | (refine stg_ ?_) | (refine cla_ (ValidAxis_v x) ?_) | (refine SzW.map (fun y => rfl) ?_; (conv => whnf)) | (apply CallW.use (axisNamed_v (xs.take k) x.fName); (focus (refine ⟨_, _, rfl, ?_, _, _, rfl, rfl, rfl⟩; exact congrArg (fun z => V.d (.lst z)) hT.symm)); (focus rfl); (conv => whnf)) | (refine br_ (fun hbr => ?_) (fun hbr => ?_))))
      · (refine RetOK.d rfl rfl ?_; conv => whnf)
        simp_all
      · (refine RetOK.d rfl rfl ?_; conv => whnf)
        simp_all
      · exact NextW.go (k + 1) covT_ ⟨by omega, by rw [hk2, decide_eq_false (by omega)]; simp_all⟩ (by omega)
    · (refine RetOK.d rfl rfl ?_; conv => whnf)
      rw [hk2, axsGo_end (by omega)]
set_option maxHeartbeats 1000000 in
theorem l29Ok_v (xs : List TAxis) : PC Tryz.prog 64 [.d (.lst (xs.map TAxis.D))] (.d (.bool (axsB xs))) [] := by
  refine pc_intro ttOk (by kernel_rfl) Tryz.func64 rfl (by kernel_rfl) (by kernel_rfl) (by kernel_rfl) (fun hw => ?_)
  have hL : (xs.map TAxis.D).length = xs.length := List.length_map _
  have hm : (xs.map TAxis.D).length ≤ 9223372036854775807 := hw.1.1
  (conv => whnf)
  refine LoopW.go (α := Nat) (fun k => [(0, .d (.lst (xs.map TAxis.D))), (3, .d (.int .i64 k))]) (fun k => [.gone]) (fun k => k ≤ xs.length ∧ axsGo [] xs = axsGo (xs.take k) (xs.drop k)) (fun k => xs.length - k) 0 covT_ ?_ (fun k hk => ?_)
  · exact ⟨by omega, rfl⟩
  obtain ⟨hk1, hk2⟩ := hk
  (conv => whnf)
  (refine br_ (fun h2 => ?_) (fun h2 => ?_) <;> (repeat (refine stg_ ?_)))
  · obtain ⟨x, hx⟩ := at_lt' (xs := xs) (k := k) (by omega)
    rw [axsGo_at hx] at hk2
    (repeat (refine stg_ ?_))
    (refine cl_ (l29Axis_v x) ?_)
    (refine br_ (fun h3 => ?_) (fun h3 => ?_) <;> (repeat (refine stg_ ?_)))
    · (refine RetOK.d rfl rfl ?_; conv => whnf)
      rw [axsB, hk2, h3, Bool.false_and, Bool.and_false]
    · rw [h3, Bool.true_and] at hk2
      refine LoopW.go (α := Nat) (fun j => [(0, .d (.lst (xs.map TAxis.D))), (3, .d (.int .i64 k)), (4, .d (.int .i64 j))]) (fun _ => [.gone]) (fun j => j ≤ k ∧ (xs.take j).any (nmEq x.fName) = false) (fun j => k - j) 0 covT_ ?_ (fun j hj => ?_)
      · exact ⟨by omega, rfl⟩
      obtain ⟨hj1, hj2⟩ := hj
      (conv => whnf)
      (refine br_ (fun h4 => ?_) (fun h4 => ?_) <;> (repeat (refine stg_ ?_)))
      · obtain ⟨y, hy⟩ := at_lt' (xs := xs) (k := j) (by omega)
        (repeat (refine stg_ ?_))
        (refine br_ (fun h5 => ?_) (fun h5 => ?_) <;> (repeat (refine stg_ ?_)))
        · (refine RetOK.d rfl rfl ?_; conv => whnf)
          rw [axsB, hk2, any_take hy (by omega) (show nmEq x.fName y = true by simp [nmEq, h5])]
          simp
        · (repeat (refine stg_ ?_))
          exact NextW.go (j + 1) covT_ ⟨by omega, by rw [any_snoc hy, hj2]; simp [nmEq, h5]⟩ (by omega)
      · have : j = k := by omega
        subst this
        rw [hj2] at hk2
        (repeat (refine stg_ ?_))
        exact NextW.go (j + 1) covT_ ⟨by omega, by rw [hk2]; rfl⟩ (by omega)
  · (refine RetOK.d rfl rfl ?_; conv => whnf)
    rw [axsB, hk2, axsGo_end (by omega), Bool.and_true, hL]
    congr 1
    exact decide_eq_decide.2 (by omega)
theorem axB_facts {a : TAxis} (h : axB a = true) : a.fMin ≤ a.fDefault ∧ a.fDefault ≤ a.fMax ∧ -32000 ≤ a.fMin ∧ a.fMax ≤ 32000 ∧ a.fMin < a.fMax ∧ mapB a.fMap = true := by
  simp only [axB, inB, Bool.and_eq_true, decide_eq_true_eq] at h
  exact ⟨h.1.1.1.2.2, h.1.1.2.1, h.1.1.1.2.1, h.1.1.2.2, h.1.2, h.2⟩
theorem mp_ap : ∀ (xs : List TAxisPoint) (o : Option TAxisPoint), mpGo o xs = true → ∀ (k : Nat) (q : TAxisPoint), xs[k]? = some q → apB q = true
  | [], _, _, k, q, h => by simp at h
  | x :: t, o, h, k, q, hq => by
    rw [mpGo_cons] at h
    simp only [Bool.and_eq_true] at h
    cases k with
    | zero => simp at hq; rw [← hq]; exact h.1.1
    | succ k => exact mp_ap t (some x) h.2 k q (by simpa using hq)
theorem mapB_mp {xs : List TAxisPoint} (h : mapB xs = true) : mpGo none xs = true := by
  cases xs with
  | nil => rfl
  | cons x t =>
    simp only [mapB, List.isEmpty_cons, Bool.false_or, Bool.and_eq_true] at h
    exact h.1.1
theorem bs_ext {a b : ByteArray} (h : a.data.toList = b.data.toList) : a = b := ByteArray.ext (Array.toList_inj.mp h)
theorem bs_app (a b : ByteArray) : (a ++ b).data.toList = a.data.toList ++ b.data.toList := by simp
def jn (xs : List ByteArray) : ByteArray := mkS (Lib.join (xs.map (·.data.toList)) [32])
theorem jn_one (x : ByteArray) : jn [x] = x := by
  rw [jn, List.map_cons, List.map_nil, Lib.join_one]; exact mkS_of x
theorem join_snoc (sep : List UInt8) : ∀ (xs : List (List UInt8)) (w : List UInt8), xs ≠ [] → Lib.join (xs ++ [w]) sep = Lib.join xs sep ++ (sep ++ w)
  | [], w, h => absurd rfl h
  | [x], w, _ => by simp [Lib.join, List.intercalate]
  | x :: y :: t, w, _ => by
    have := join_snoc sep (y :: t) w (by simp)
    simp only [Lib.join, List.intercalate, List.cons_append, List.intersperse_cons_cons, List.flatten_cons] at this ⊢
    rw [this]; simp
theorem jn_snoc {xs : List ByteArray} (w : ByteArray) (h : xs ≠ []) : jn (xs ++ [w]) = jn xs ++ ⟨#[32]⟩ ++ w := by
  apply bs_ext
  rw [bs_app, bs_app, jn, jn, mkS_toList, mkS_toList, List.map_append, List.map_cons, List.map_nil, join_snoc _ _ _ (by simpa using h)]
  simp
theorem join_v (xs : List ByteArray) (hN : xs.length ≤ 140737488355328) (hlen : (jn xs).size ≤ 140737488355328) : PC Tryz.prog 98 [.d (.lst (xs.map D.str)), .d (.str ⟨#[32]⟩)] (.d (.str (jn xs))) [] := by
  refine PC.of Tryz.func98 rfl rfl ?_
  rintro w X args ⟨c1, cs, rfl, h1, c2, cs2, rfl, h2, rfl⟩
  obtain ⟨a, cap, n, rfl, k1, k2, k3, k4⟩ := rep_lst.1 h1
  obtain ⟨rfl, h3⟩ := rep_str.1 h2
  rw [List.length_map] at k1 ⊢
  have hs : (jn xs).size ≤ maxLen := by unfold maxLen; omega
  by_cases h0 : xs = []
  · subst h0
    exact (Tryz.strings_Join_none a cap ⟨#[32]⟩ w).mono fun e w' ⟨r1, r2⟩ => ⟨_, r1, by rw [r2]; exact Ext.refl w, rep_str.2 ⟨rfl, hs⟩⟩
  · obtain ⟨b, o, rfl, hb, hc⟩ := str_cells k4 h0
    exact (Tryz.strings_Join b o cap xs ⟨#[32]⟩ w hc hb hN k1 (by rw [jn, mkS_size] at hlen; exact hlen)).mono fun e w' ⟨r1, r2⟩ => ⟨_, r1, r2, rep_str.2 ⟨rfl, hs⟩⟩
def ptB (p : TAxisPoint) : ByteArray := decB p.fFrom ++ ⟨#[58]⟩ ++ decB p.fTo
def wordsB (a : TAxis) : List ByteArray := [a.fName, decB a.fMin, decB a.fDefault, decB a.fMax] ++ a.fMap.map ptB
def textB (a : TAxis) : ByteArray := jn (wordsB a)
theorem sz32 : ByteArray.size ⟨#[32]⟩ = 1 := rfl
theorem sz58 : ByteArray.size ⟨#[58]⟩ = 1 := rfl
theorem lens_le {m : Nat} : ∀ (xs : List ByteArray), (∀ x ∈ xs, x.size ≤ m) → Lib.lens (xs.map (·.data.toList)) ≤ xs.length * m
  | [], _ => by simp [Lib.lens]
  | x :: t, h => by
    have := lens_le t (fun y hy => h y (by simp [hy]))
    have h1 : x.data.toList.length ≤ m := h x (by simp)
    simp only [Lib.lens, List.map_cons, List.sum_cons, List.length_cons, Nat.succ_mul] at this ⊢
    omega
theorem jn_size {m : Nat} {xs : List ByteArray} (h : ∀ x ∈ xs, x.size ≤ m) : (jn xs).size ≤ xs.length * (m + 1) := by
  cases xs with
  | nil => simp [jn, mkS_size, Lib.join]
  | cons x t =>
    have h2 := lens_le t (fun y hy => h y (by simp [hy]))
    have h1 : x.data.toList.length ≤ m := h x (by simp)
    rw [jn, mkS_size, List.map_cons, Lib.join_cons, List.length_append, Lib.joinTail_length, List.length_map, List.length_cons]
    simp only [List.length_cons, List.length_nil, Nat.zero_add, Nat.one_mul, Nat.add_mul, Nat.mul_add, Nat.mul_one]
    omega
theorem ax_sizes {a : TAxis} (h : axB a = true) : a.fName.size ≤ 12 ∧ a.fMap.length ≤ 6 := by
  simp only [axB, inB, Bool.and_eq_true, decide_eq_true_eq] at h
  refine ⟨?_, ?_⟩
  · have := h.1.1.1.1
    simp only [nameB, Bool.and_eq_true, decide_eq_true_eq] at this
    exact this.1
  · have := h.2
    cases hm : a.fMap with
    | nil => simp
    | cons x t =>
      rw [hm] at this
      simp only [mapB, List.isEmpty_cons, Bool.false_or, Bool.and_eq_true, decide_eq_true_eq] at this
      exact this.2
theorem decB_sz {n : Int} (h1 : -9223372036854775808 ≤ n) (h2 : n ≤ 9223372036854775807) : (decB n).size ≤ 21 := decB_size n (natAbs_bnd h1 h2)
theorem pt_in {a : TAxis} (h : axB a = true) {k : Nat} {p : TAxisPoint} (hp : a.fMap[k]? = some p) : (decB p.fFrom).size ≤ 21 ∧ (decB p.fTo).size ≤ 21 := by
  have := mp_ap _ _ (mapB_mp (axB_facts h).2.2.2.2.2) k p hp
  simp only [apB, nrm, Bool.and_eq_true, decide_eq_true_eq] at this
  exact ⟨decB_sz (by omega) (by omega), decB_sz (by omega) (by omega)⟩
theorem words_sz {a : TAxis} (h : axB a = true) : ∀ x ∈ wordsB a, x.size ≤ 43 := by
  obtain ⟨f1, f2, f3, f4, f5, -⟩ := axB_facts h
  have := ax_sizes h
  have d1 := decB_sz (n := a.fMin) (by omega) (by omega)
  have d2 := decB_sz (n := a.fDefault) (by omega) (by omega)
  have d3 := decB_sz (n := a.fMax) (by omega) (by omega)
  intro x hx
  simp only [wordsB, List.mem_append, List.mem_cons, List.not_mem_nil, or_false, List.mem_map] at hx
  rcases hx with (rfl | rfl | rfl | rfl) | ⟨p, hp, rfl⟩ <;> first | omega | skip
  obtain ⟨k, hk⟩ := List.getElem?_of_mem hp
  have := pt_in h hk
  rw [ptB, ByteArray.size_append, ByteArray.size_append, sz58]
  omega
theorem words_len (a : TAxis) : (wordsB a).length = 4 + a.fMap.length := by simp [wordsB]; omega
theorem words_at {a : TAxis} {k : Nat} {p : TAxisPoint} (hp : a.fMap[k]? = some p) : (wordsB a).take (4 + (k + 1)) = (wordsB a).take (4 + k) ++ [ptB p] := by
  have : (wordsB a)[4 + k]? = some (ptB p) := by
    rw [wordsB, List.getElem?_append_right (by simp)]
    simp [hp]
  exact take_snoc_get this
theorem words_4 (a : TAxis) : (wordsB a).take 4 = [a.fName, decB a.fMin, decB a.fDefault, decB a.fMax] := by simp [wordsB]
theorem words_ne (a : TAxis) (k : Nat) : (wordsB a).take (4 + k) ≠ [] := by simp [wordsB]
theorem take_sz {a : TAxis} (h : axB a = true) (k : Nat) : (jn ((wordsB a).take (4 + k))).size ≤ 1000 := by
  have h1 := jn_size (m := 43) (xs := (wordsB a).take (4 + k)) (fun x hx => words_sz h x (List.mem_of_mem_take hx))
  have h2 := ax_sizes h
  have h3 := words_len a
  rw [List.length_take] at h1
  have : min (4 + k) (wordsB a).length ≤ 10 := by omega
  have := Nat.mul_le_mul_right (43 + 1) this
  omega
set_option maxHeartbeats 2000000 in
theorem l29Text_v (a : TAxis) (hA : axB a = true) : PC Tryz.prog 67 [.pX a.D] (.d (.str (textB a))) [] := by
  refine pc_intro ttOk (by kernel_rfl) Tryz.func67 rfl (by kernel_rfl) (by kernel_rfl) (by kernel_rfl) (fun hw => ?_)
  obtain ⟨f1, f2, f3, f4, f5, f6⟩ := axB_facts hA
  obtain ⟨s1, s2⟩ := ax_sizes hA
  have d1 := decB_sz (n := a.fMin) (by omega) (by omega)
  have d2 := decB_sz (n := a.fDefault) (by omega) (by omega)
  have d3 := decB_sz (n := a.fMax) (by omega) (by omega)
  have hL : (a.fMap.map TAxisPoint.D).length = a.fMap.length := List.length_map _
  (conv => whnf)
  (repeat' (first | (refine stg_ ?_) | (refine cl_ (l01Dec_v _) ?_) | (refine CatW.at (by show _ ≤ 9223372036854775807; simp only [ByteArray.size_append, sz32, sz58]; omega) ?_; conv => whnf) | (refine br_ (fun hbr => ?_) (fun hbr => ?_))))
  have hJ : a.fName ++ ⟨#[32]⟩ ++ decB a.fMin ++ ⟨#[32]⟩ ++ decB a.fDefault ++ ⟨#[32]⟩ ++ decB a.fMax = jn ((wordsB a).take (4 + 0)) := by
    rw [Nat.add_zero, words_4, show [a.fName, decB a.fMin, decB a.fDefault, decB a.fMax] = [a.fName] ++ [decB a.fMin] ++ [decB a.fDefault] ++ [decB a.fMax] from rfl, jn_snoc _ (by simp), jn_snoc _ (by simp), jn_snoc _ (by simp), jn_one]
  refine LoopW.go (α := Nat) (fun k => [(0, .pX a.D), (3, .d (.str (jn ((wordsB a).take (4 + k))))), (4, .d (.int .i64 k))]) (fun _ => [.gone]) (fun k => k ≤ a.fMap.length) (fun k => a.fMap.length - k) 0 (Weak.cov ⟨rfl, by rw [← hJ]; rfl, rfl, trivial⟩ ⟨trivial, trivial⟩ rfl) (by omega) (fun k hk => ?_)
  have t0 := take_sz hA k
  (conv => whnf)
  (refine br_ (fun h2 => ?_) (fun h2 => ?_) <;> (repeat (refine stg_ ?_)))
  · obtain ⟨p, hx⟩ := at_lt' (xs := a.fMap) (k := k) (by omega)
    obtain ⟨q1, q2⟩ := pt_in hA hx
    have hS : jn ((wordsB a).take (4 + (k + 1))) = jn ((wordsB a).take (4 + k)) ++ (⟨#[32]⟩ ++ decB p.fFrom ++ ⟨#[58]⟩ ++ decB p.fTo) := by
      rw [words_at hx, jn_snoc _ (words_ne a k), ptB]
      apply bs_ext
      simp
    (repeat' (first | (refine stg_ ?_) | (refine cl_ (l01Dec_v _) ?_) | (refine CatW.at (by show _ ≤ 9223372036854775807; simp only [ByteArray.size_append, sz32, sz58]; omega) ?_; conv => whnf) | (refine br_ (fun hbr => ?_) (fun hbr => ?_))))
    exact NextW.go (k + 1) (Weak.cov ⟨rfl, by rw [hS]; rfl, rfl, trivial⟩ ⟨trivial, trivial⟩ rfl) (by omega) (by omega)
  · (refine RetOK.d rfl rfl ?_; conv => whnf)
    rw [textB, List.take_of_length_le (by rw [words_len]; omega)]
set_option maxHeartbeats 2000000 in
theorem AxisText_v (a : TAxis) : PC Tryz.prog 40 [.d a.D] (.d (.str (if axB a = true then textB a else .empty))) [] := by
  refine pc_intro ttOk (by kernel_rfl) Tryz.func40 rfl (by kernel_rfl) (by kernel_rfl) (by kernel_rfl) (fun hw => ?_)
  have hL : (a.fMap.map TAxisPoint.D).length = a.fMap.length := List.length_map _
  cases hA : axB a
  · (conv => whnf)
    (repeat' (first | (refine stg_ ?_) | (refine cla_ (ValidAxis_v a) ?_) | (refine br_ (fun hbr => ?_) (fun hbr => ?_))))
    all_goals first | (exfalso; simp_all; done) | ((refine RetOK.d rfl rfl ?_; conv => whnf); (try simp); (try rfl))
  · have hm : (a.fMap.map TAxisPoint.D).length ≤ 9223372036854775807 := hw.1.2.2.2.2.1.1
    obtain ⟨s1, s2⟩ := ax_sizes hA
    (conv => whnf)
    (repeat' (first | (refine stg_ ?_) | (refine cla_ (ValidAxis_v a) ?_) | (refine cl_ (Decimal_v _) ?_) | (refine br_ (fun hbr => ?_) (fun hbr => ?_))))
    all_goals first | (exfalso; simp_all; done) | skip
    refine LoopW.go (α := Nat) (fun k => [(1, .pB 1 [] 0), (3, .own 2 0 (4 + k)), (22, .d (.lst (a.fMap.map TAxisPoint.D))), (23, .d (.int .i64 (a.fMap.map TAxisPoint.D).length)), (24, .d (.int .i64 k))]) (fun k => [.gone, .box (.d a.D), .arr 1 (((wordsB a).take (4 + k)).map D.str) true]) (fun k => k ≤ a.fMap.length) (fun k => a.fMap.length - k) 0 (Weak.cov ⟨rfl, rfl, rfl, rfl, rfl, trivial⟩ ⟨trivial, rfl, by rw [Nat.add_zero, words_4]; rfl, trivial⟩ rfl) (by omega) (fun k hk => ?_)
    have hW : (((wordsB a).take (4 + k)).map D.str).length = 4 + k := by rw [List.length_map, List.length_take, words_len]; omega
    (conv => whnf)
    (refine br_ (fun h2 => ?_) (fun h2 => ?_) <;> (repeat (refine stg_ ?_)))
    · obtain ⟨p, hx⟩ := at_lt' (xs := a.fMap) (k := k) (by omega)
      obtain ⟨q1, q2⟩ := pt_in hA hx
      (repeat' (first | (refine stg_ ?_) | (refine cl_ (Decimal_v _) ?_) | (refine CatW.at (by show _ ≤ 9223372036854775807; simp only [ByteArray.size_append, sz32, sz58]; omega) ?_; conv => whnf) | (refine br_ (fun hbr => ?_) (fun hbr => ?_))))
      refine NextW.go (k + 1) (Weak.cov ⟨rfl, rfl, rfl, rfl, rfl, trivial⟩ ⟨trivial, rfl, ?_, trivial⟩ rfl) (by omega) (by omega)
      show Blk.arr 1 _ true = Blk.arr 1 _ true
      rw [List.take_of_length_le (Nat.le_of_eq hW), words_at hx, List.map_append]
      rfl
    · have hk2 : k = a.fMap.length := by omega
      subst hk2
      have hT : (wordsB a).take (4 + a.fMap.length) = wordsB a := List.take_of_length_le (by rw [words_len]; omega)
      have hW2 : ((wordsB a).map D.str).length = 4 + a.fMap.length := by rw [List.length_map, words_len]
      have t0 := take_sz hA a.fMap.length
      rw [hT] at t0 ⊢
      (repeat' (first | (refine stg_ ?_) | (refine cla_ (join_v (wordsB a) (by rw [words_len]; omega) (by omega)) ?_) | (refine br_ (fun hbr => ?_) (fun hbr => ?_))))
      (refine RetOK.d rfl rfl ?_; conv => whnf)
      rfl
def spL (c : UInt8) : List UInt8 → List (List UInt8)
  | [] => [[]]
  | x :: t => if x = c then [] :: spL c t else match spL c t with
    | p :: r => (x :: p) :: r
    | [] => [[x]]
theorem spL_ne (c : UInt8) : ∀ l, spL c l ≠ []
  | [] => by simp [spL]
  | x :: t => by
    rw [spL]
    split
    · simp
    · split <;> simp
theorem spL_none {c : UInt8} : ∀ {l : List UInt8}, c ∉ l → spL c l = [l]
  | [], _ => rfl
  | x :: t, h => by
    simp only [List.mem_cons, not_or] at h
    rw [spL, if_neg (fun e => h.1 e.symm), spL_none h.2]
theorem spL_at {c : UInt8} (b : List UInt8) : ∀ {a : List UInt8}, c ∉ a → spL c (a ++ c :: b) = a :: spL c b
  | [], _ => by rw [List.nil_append, spL, if_pos rfl]
  | x :: t, h => by
    simp only [List.mem_cons, not_or] at h
    rw [List.cons_append, spL, if_neg (fun e => h.1 e.symm), spL_at b h.2]
theorem spL_len (c : UInt8) : ∀ l, (spL c l).length = l.count c + 1
  | [] => rfl
  | x :: t => by
    have ih := spL_len c t
    rw [spL]
    split
    · rename_i h
      subst h
      rw [List.count_cons_self, List.length_cons, ih]
    · rename_i h
      rw [List.count_cons_of_ne h]
      split
      · rename_i p r e
        rw [e] at ih
        exact ih
      · rename_i e
        exact absurd e (spL_ne c t)
theorem join_cons (w : List UInt8) {ws : List (List UInt8)} (sep : List UInt8) (h : ws ≠ []) : Lib.join (w :: ws) sep = w ++ (sep ++ Lib.join ws sep) := by
  cases ws with
  | nil => exact absurd rfl h
  | cons x t => simp [Lib.join]
theorem join_spL (c : UInt8) : ∀ l, Lib.join (spL c l) [c] = l
  | [] => rfl
  | x :: t => by
    have ih := join_spL c t
    rw [spL]
    split
    · rename_i h
      subst h
      rw [join_cons _ _ (spL_ne x t), ih]; rfl
    · split
      · rename_i p r e
        rw [e] at ih
        cases r with
        | nil =>
          have e1 : Lib.join [p] [c] = p := by simp [Lib.join]
          have e2 : Lib.join [x :: p] [c] = x :: p := by simp [Lib.join]
          rw [e2, ← ih, e1]
        | cons q r =>
          rw [join_cons _ _ (by simp)] at ih ⊢
          rw [List.cons_append, ih]
      · rename_i e
        exact absurd e (spL_ne c t)
theorem spL_le (c : UInt8) : ∀ l, ∀ w ∈ spL c l, w.length ≤ l.length
  | [], w, h => by simp [spL] at h; simp [h]
  | x :: t, w, h => by
    rw [spL] at h
    split at h
    · rcases List.mem_cons.1 h with rfl | h
      · simp
      · have := spL_le c t w h
        rw [List.length_cons]; omega
    · split at h
      · rename_i p r e
        rcases List.mem_cons.1 h with rfl | h
        · have := spL_le c t p (by rw [e]; simp)
          simp only [List.length_cons]; omega
        · have := spL_le c t w (by rw [e]; simp [h])
          rw [List.length_cons]; omega
      · rename_i e
        exact absurd e (spL_ne c t)
theorem idx_cases (c : UInt8) : ∀ l : List UInt8, (Lib.indexByte l c = -1 ∧ c ∉ l) ∨ ∃ a b, l = a ++ c :: b ∧ c ∉ a ∧ Lib.indexByte l c = (a.length : Nat)
  | [] => .inl ⟨rfl, by simp⟩
  | x :: t => by
    by_cases hx : x = c
    · subst hx
      exact .inr ⟨[], t, rfl, by simp, by simp [Lib.indexByte]⟩
    · have hne : (x == c) = false := by simpa using hx
      rcases idx_cases c t with ⟨h1, h2⟩ | ⟨a, b, rfl, h2, h3⟩
      · refine .inl ⟨by simp [Lib.indexByte, hne, h1], ?_⟩
        simp only [List.mem_cons, not_or]
        exact ⟨fun e => hx e.symm, h2⟩
      · refine .inr ⟨x :: a, b, rfl, ?_, ?_⟩
        · simp only [List.mem_cons, not_or]
          exact ⟨fun e => hx e.symm, h2⟩
        · have : ¬ ((a.length : Nat) : Int) = -1 := by omega
          simp [Lib.indexByte, hne, h3, this]
def dgtB (c : UInt8) : Bool := decide (48 ≤ c.toNat) && decide (c.toNat ≤ 57)
def dgV : List UInt8 → Nat → Option Nat
  | [], n => some n
  | c :: t, n => if dgtB c = true then dgV t (n * 10 + (c.toNat - 48)) else none
def tlN (l : List UInt8) : List UInt8 := if l[0]? = some 45 then l.drop 1 else l
def sgN (l : List UInt8) (n : Nat) : Int := if l[0]? = some 45 then -(n : Int) else n
def rdN (l : List UInt8) : Option Int :=
  if (tlN l).length < 1 ∨ 18 < (tlN l).length then none else
  match dgV (tlN l) 0 with
  | none => none
  | some n => if decS (sgN l n) = l then some (sgN l n) else none
theorem rdN_dec {l : List UInt8} {n : Int} (h : rdN l = some n) : decS n = l := by
  unfold rdN at h
  split at h
  · cases h
  · split at h
    · cases h
    · split at h
      · rename_i e
        cases h
        exact e
      · cases h
theorem dgV_lt : ∀ (l : List UInt8) (n m : Nat), dgV l n = some m → m < (n + 1) * 10 ^ l.length
  | [], n, m, h => by cases h; simp
  | c :: t, n, m, h => by
    rw [dgV] at h
    split at h
    · rename_i hc
      have := dgV_lt t _ m h
      simp only [dgtB, Bool.and_eq_true, decide_eq_true_eq] at hc
      have h2 : (n * 10 + (c.toNat - 48) + 1) * 10 ^ t.length ≤ (n + 1) * 10 * 10 ^ t.length := Nat.mul_le_mul_right _ (by omega)
      rw [List.length_cons, Nat.pow_succ, Nat.mul_comm (10 ^ t.length) 10, ← Nat.mul_assoc]
      omega
    · cases h
theorem dgV_app : ∀ (a b : List UInt8) (n : Nat), dgV (a ++ b) n = (dgV a n).bind (dgV b)
  | [], b, n => rfl
  | c :: t, b, n => by
    rw [List.cons_append, dgV, dgV]
    split
    · exact dgV_app t b _
    · rfl
theorem decL_dg : ∀ u : Nat, ∀ c ∈ decL u, dgtB c = true := by
  intro u
  induction u using Nat.strongRecOn with
  | ind u ih =>
    have hd : ∀ d, d < 10 → dgtB (dgC d) = true := fun d hd => by
      have := dgC_toNat hd
      simp only [dgtB, Bool.and_eq_true, decide_eq_true_eq]; omega
    intro c hc
    by_cases hu : u < 10
    · rw [decL_lo hu] at hc
      obtain rfl : c = _ := by simpa using hc
      exact hd u hu
    · rw [decL_hi hu] at hc
      rcases List.mem_append.1 hc with hc | hc
      · exact ih (u / 10) (by omega) c hc
      · obtain rfl : c = _ := by simpa using hc
        exact hd _ (by omega)
theorem decS_in {n : Int} {c : UInt8} (h : c ∈ decS n) : dgtB c = true ∨ c = 45 := by
  rw [decS] at h
  rcases List.mem_append.1 h with h | h
  · split at h
    · exact .inr (by simpa using h)
    · cases h
  · exact .inl (decL_dg _ c h)
def spB (c : UInt8) (s : ByteArray) : List ByteArray := (spL c s.data.toList).map mkS
theorem spB_len (c : UInt8) (s : ByteArray) : (spB c s).length = s.data.toList.count c + 1 := by rw [spB, List.length_map, spL_len]
theorem spB_le (c : UInt8) (s : ByteArray) : ∀ w ∈ spB c s, w.size ≤ s.size := fun w hw => by
  rw [spB, List.mem_map] at hw
  obtain ⟨l, h1, rfl⟩ := hw
  have := spL_le c _ l h1
  rw [mkS_size]
  exact Nat.le_trans this (Nat.le_of_eq Array.length_toList)
theorem spB_none {c : UInt8} {s : ByteArray} (h : c ∉ s.data.toList) : spB c s = [s] := by rw [spB, spL_none h, List.map_cons, mkS_of]; rfl
theorem spB_at {c : UInt8} {s : ByteArray} {a b : List UInt8} (e : s.data.toList = a ++ c :: b) (h : c ∉ a) : spB c s = mkS a :: spB c (mkS b) := by
  rw [spB, e, spL_at b h, List.map_cons, spB, mkS_toList]
theorem bx_take {s : ByteArray} {a b : List UInt8} (e : s.data.toList = a ++ b) : s.extract 0 a.length = mkS a := by
  apply bs_ext
  rw [ByteArray.data_extract, Array.toList_extract, mkS_toList, e]
  simp
theorem bx_drop {s : ByteArray} {a b : List UInt8} {k : Nat} (e : s.data.toList = a ++ b) (hk : k = a.length) : s.extract k s.size = mkS b := by
  subst hk
  have hl : s.size = a.length + b.length := by
    have := congrArg List.length e
    rw [List.length_append] at this
    rw [← this]; exact Array.length_toList.symm
  apply bs_ext
  rw [ByteArray.data_extract, Array.toList_extract, mkS_toList, e, hl]
  simp
theorem Index_v (s sp : ByteArray) (c : UInt8) (hsp : sp = ⟨#[c]⟩) (hs : s.size ≤ 1048576) : PC Tryz.prog 177 [.d (.str s), .d (.str sp)] (.d (.int .i64 (Lib.indexByte s.data.toList c))) [] := by
  subst hsp
  refine PC.of Tryz.func177 rfl rfl ?_
  rintro w X args ⟨c1, cs, rfl, h1, c2, cs2, rfl, h2, rfl⟩
  obtain ⟨rfl, h3⟩ := rep_str.1 h1
  obtain ⟨rfl, h4⟩ := rep_str.1 h2
  refine (Tryz.strings_Index_one s c w).mono fun e w' ⟨r1, r2⟩ => ⟨_, r1, by rw [r2]; exact Ext.refl w, rep_int.2 ⟨rfl, ?_⟩⟩
  have e1 : IntKind.i64.min = -9223372036854775808 := rfl
  have e2 : IntKind.i64.max = 9223372036854775807 := rfl
  have hl : s.data.toList.length = s.size := Array.length_toList
  rcases idx_cases c s.data.toList with ⟨h5, _⟩ | ⟨a, b, e, _, h5⟩
  · rw [h5]; unfold inR; omega
  · have := congrArg List.length e
    rw [List.length_append, hl] at this
    rw [h5]; unfold inR; omega
theorem Count_v (s sp : ByteArray) (c : UInt8) (hsp : sp = ⟨#[c]⟩) (hs : s.size ≤ 1048576) : PC Tryz.prog 176 [.d (.str s), .d (.str sp)] (.d (.int .i64 (s.data.toList.count c : Nat))) [] := by
  subst hsp
  refine PC.of Tryz.func176 rfl rfl ?_
  rintro w X args ⟨c1, cs, rfl, h1, c2, cs2, rfl, h2, rfl⟩
  obtain ⟨rfl, h3⟩ := rep_str.1 h1
  obtain ⟨rfl, h4⟩ := rep_str.1 h2
  refine (Tryz.strings_Count_one s c w).mono fun e w' ⟨r1, r2⟩ => ⟨_, r1, by rw [r2]; exact Ext.refl w, rep_int.2 ⟨rfl, ?_⟩⟩
  have e1 : IntKind.i64.min = -9223372036854775808 := rfl
  have e2 : IntKind.i64.max = 9223372036854775807 := rfl
  have hl : s.data.toList.length = s.size := Array.length_toList
  have := List.count_le_length (a := c) (l := s.data.toList)
  unfold inR; omega
theorem row_set {ps : List ByteArray} {k : Nat} {x : ByteArray} (hx : ps[k]? = some x) : ((ps.take k ++ List.replicate (ps.length - k) ByteArray.empty).map D.str).set k (.str x) = (ps.take (k + 1) ++ List.replicate (ps.length - (k + 1)) ByteArray.empty).map D.str := by
  have hk := (List.getElem?_eq_some_iff.1 hx).1
  have hl : (ps.take k).length = k := by rw [List.length_take]; omega
  rw [← List.map_set, List.set_append_right _ _ (by omega), hl, Nat.sub_self, show ps.length - k = (ps.length - (k + 1)) + 1 by omega, List.replicate_succ, List.set_cons_zero, take_snoc_get hx, List.append_assoc, List.singleton_append]
set_option maxHeartbeats 4000000 in
theorem genSplit_v (s sp : ByteArray) (c : UInt8) (hsp : sp = ⟨#[c]⟩) (hs : s.size ≤ 1048576) (hp1 : sp.size = 1) (hp2 : (sp.toList == (ByteArray.mk #[]).toList) = false) : PC Tryz.prog 131 [.d (.str s), .d (.str sp), .d (.int .i64 0), .d (.int .i64 (-1))] (.own 1 0 (spB c s).length) [.arr 1 ((spB c s).map D.str) true] := by
  refine pc_intro ttOk (by kernel_rfl) Tryz.func131 rfl (by kernel_rfl) (by kernel_rfl) (by kernel_rfl) (fun hw => ?_)
  have c1 := Count_v s sp c hsp hs
  have hl : s.data.toList.length = s.size := Array.length_toList
  have hcl := List.count_le_length (a := c) (l := s.data.toList)
  have hn := spB_len c s
  have hn1 : (spB c s).length ≤ 1048577 := by omega
  (conv => whnf)
  rw [hp2]
  (repeat' (first | (refine stg_ ?_) | (refine cla_ (c1) ?_) | (refine br_ (fun hbr => ?_) (fun hbr => ?_))))
  all_goals try (exfalso; omega)
  obtain ⟨ps, hps⟩ : ∃ ps, ps = spB c s := ⟨_, rfl⟩
  rw [← hps] at hn hn1 ⊢
  rw [show min (((s.data.toList.count c : Nat) : Int) + 1) ((s.size : Nat) + 1) = ((ps.length : Nat) : Int) by omega]
  refine MkW.at (by omega) (by omega) (by show ((16 : Nat) : Int) * _ ≤ _; omega) ?_
  (conv => whnf)
  (repeat (refine stg_ ?_))
  refine LoopW.go (α := Nat × ByteArray) (fun p => [(0, .d (.str p.2)), (1, .d (.str sp)), (2, .d (.int .i64 0)), (3, .d (.int .i64 ((ps.length : Nat) - 1 : Int))), (9, .own 1 0 ps.length), (10, .d (.int .i64 p.1))]) (fun p => [.gone, .arr 1 ((ps.take p.1 ++ List.replicate (ps.length - p.1) ByteArray.empty).map D.str) true])
    (fun p => p.1 < ps.length ∧ spB c p.2 = ps.drop p.1 ∧ p.2.size ≤ s.size) (fun p => ps.length - p.1) (0, s) (Weak.cov ⟨rfl, rfl, rfl, rfl, rfl, rfl, trivial⟩ ⟨trivial, ?_, trivial⟩ rfl) ⟨by dsimp only; omega, by dsimp only; rw [← hps]; rfl, Nat.le_refl _⟩ ?_
  · show _ = Blk.arr 1 _ true
    rw [List.take_zero, List.nil_append, Nat.sub_zero, List.map_replicate]; rfl
  rintro ⟨k, r⟩ ⟨k1, k2, k3⟩
  dsimp only at k1 k2 k3 ⊢
  have hrl : r.data.toList.length = r.size := Array.length_toList
  have hrc := spB_len c r
  rw [k2, List.length_drop] at hrc
  have c2 := Index_v r sp c hsp (by omega)
  have hL : ((ps.take k ++ List.replicate (ps.length - k) ByteArray.empty).map D.str).length = ps.length := by simp; omega
  (conv => whnf)
  (repeat (refine stg_ ?_))
  (refine br_ (fun h1 => ?_) (fun h1 => ?_))
  · rcases idx_cases c r.data.toList with ⟨_, hno⟩ | ⟨a, b, e, ha, hi⟩
    · exfalso
      have := List.count_eq_zero.2 hno
      omega
    · rw [hi] at c2
      have hkd := spB_at e ha
      rw [k2] at hkd
      obtain ⟨x, hx⟩ := at_lt' (xs := ps) (k := k) k1
      rw [drop_at hx] at hkd
      obtain ⟨rfl, hk2⟩ := List.cons.inj hkd
      have hlen := congrArg List.length e
      rw [List.length_append, List.length_cons, hrl] at hlen
      have he : ((ps.take k ++ List.replicate (ps.length - k) ByteArray.empty).map D.str)[k]? = some (.str ByteArray.empty) := by
        rw [List.getElem?_map, List.getElem?_append_right (by rw [List.length_take]; omega), List.length_take, Nat.min_eq_left (by omega), Nat.sub_self, List.getElem?_replicate, if_pos (by omega)]; rfl
      (repeat' (first | (refine stg_ ?_) | (refine cla_ (c2) ?_) | (refine br_ (fun hbr => ?_) (fun hbr => ?_))))
      all_goals try (exfalso; omega)
      have hx1 : r.extract 0 (((a.length : Nat) : Int) + 0).toNat = mkS a := by
        rw [show (((a.length : Nat) : Int) + 0).toNat = a.length by omega]; exact bx_take e
      have hx2 : r.extract (((a.length : Nat) : Int) + ((sp.size : Nat) : Int)).toNat r.size = mkS b := by
        refine bx_drop (a := a ++ [c]) (by rw [e]; simp) ?_
        rw [List.length_append, List.length_singleton]; omega
      refine NextW.go (k + 1, mkS b) (Weak.cov ⟨?_, rfl, rfl, rfl, rfl, rfl, trivial⟩ ⟨trivial, ?_, trivial⟩ rfl) ⟨by dsimp only; omega, by dsimp only; exact hk2.symm, by dsimp only; rw [mkS_size]; omega⟩ (by dsimp only; omega)
      · show V.d (D.str (r.extract (((a.length : Nat) : Int) + ((sp.size : Nat) : Int)).toNat r.size)) = _
        rw [hx2]
      · show _ = Blk.arr 1 _ true
        rw [← row_set hx, ← hx1]; rfl
  · obtain ⟨x, hx⟩ := at_lt' (xs := ps) (k := k) k1
    have hk : k + 1 = ps.length := by omega
    have hno : c ∉ r.data.toList := by
      intro hm
      have := List.count_pos_iff.2 hm
      omega
    have hr : r = x := by
      have h2 := spB_none hno
      rw [k2, drop_at hx] at h2
      exact (List.cons.inj h2).1.symm
    have he : ((ps.take k ++ List.replicate (ps.length - k) ByteArray.empty).map D.str)[k]? = some (.str ByteArray.empty) := by
      rw [List.getElem?_map, List.getElem?_append_right (by rw [List.length_take]; omega), List.length_take, Nat.min_eq_left (by omega), Nat.sub_self, List.getElem?_replicate, if_pos (by omega)]; rfl
    have hfin := row_set hx
    rw [hk, List.take_length, Nat.sub_self, List.replicate_zero, List.append_nil] at hfin
    rw [hr]
    (repeat' (first | (refine stg_ ?_) | fail | (refine br_ (fun hbr => ?_) (fun hbr => ?_))))
    rw [show ((k : Nat) : Int).toNat + 0 = k from rfl, hfin, ← hk]
    (refine ⟨⟨[some 1], ⟨by decide, rfl, trivial, trivial⟩, by decide, rfl, ?_⟩⟩; (conv => whnf); exact ⟨by decide, rfl⟩)
theorem Split_v (s sp : ByteArray) (c : UInt8) (hsp : sp = ⟨#[c]⟩) (hs : s.size ≤ 1048576) (hp1 : sp.size = 1) (hp2 : (sp.toList == (ByteArray.mk #[]).toList) = false) : PC Tryz.prog 70 [.d (.str s), .d (.str sp)] (.own 1 0 (spB c s).length) [.arr 1 ((spB c s).map D.str) true] := by
  refine pc_intro ttOk (by kernel_rfl) Tryz.func70 rfl (by kernel_rfl) (by kernel_rfl) (by kernel_rfl) (fun hw => ?_)
  have c1 := genSplit_v s sp c hsp hs hp1 hp2
  (conv => whnf)
  (repeat' (first | (refine stg_ ?_) | (refine cla_ (c1) ?_) | (refine br_ (fun hbr => ?_) (fun hbr => ?_))))
  all_goals (refine ⟨⟨[some 1], ⟨by decide, rfl, trivial, trivial⟩, by decide, rfl, ?_⟩⟩; (conv => whnf); exact ⟨by decide, rfl⟩)
theorem ext_data (s : ByteArray) (f i : Nat) : s.extract f i = mkS ((s.data.toList.drop f).take (i - f)) := by
  apply bs_ext
  rw [ByteArray.data_extract, Array.toList_extract, mkS_toList]
set_option maxHeartbeats 4000000 in
theorem l01Split_v (s : ByteArray) (c : UInt8) (hs : s.size ≤ 1048576) : PC Tryz.prog 20 [.d (.str s), .d (bD c)] (.own 1 0 (spB c s).length) [.arr 1 ((spB c s).map D.str) true] := by
  refine pc_intro ttOk (by kernel_rfl) Tryz.func20 rfl (by kernel_rfl) (by kernel_rfl) (by kernel_rfl) (fun hw => ?_)
  have hl : s.data.toList.length = s.size := Array.length_toList
  have hcl := List.count_le_length (a := c) (l := s.data.toList)
  have hn := spB_len c s
  obtain ⟨ps, hps⟩ : ∃ ps, ps = spB c s := ⟨_, rfl⟩
  rw [← hps] at hn ⊢
  (conv => whnf)
  (repeat (refine stg_ ?_))
  -- k parts are done; the next begins at f
  refine LoopW.go (α := Nat × Nat × Nat) (fun p => [(0, .d (.str s)), (1, .d (bD c)), (5, .own 1 0 p.1), (6, .d (.int .i64 p.2.1)), (7, .d (.int .i64 p.2.2))]) (fun p => [.gone, .arr 1 ((ps.take p.1).map D.str) true])
    (fun p => p.1 ≤ p.2.1 ∧ p.2.1 ≤ p.2.2 ∧ p.2.2 ≤ s.size ∧ ps.drop p.1 = spB c (mkS (s.data.toList.drop p.2.1)) ∧ c ∉ (s.data.toList.drop p.2.1).take (p.2.2 - p.2.1)) (fun p => s.size - p.2.2) (0, 0, 0) (Weak.cov ⟨rfl, rfl, rfl, rfl, rfl, trivial⟩ ⟨trivial, rfl, trivial⟩ rfl) ⟨by simp, by simp, by simp, by simp only [List.drop_zero]; rw [mkS_of]; exact hps, by simp⟩ ?_
  rintro ⟨k, f, i⟩ ⟨k0, k1, k2, k3, k4⟩
  dsimp only at k0 k1 k2 k3 k4 ⊢
  have hkl : (spB c (mkS (s.data.toList.drop f))).length = ps.length - k := by rw [← k3, List.length_drop]
  have hkp : k < ps.length := by
    have := spB_len c (mkS (s.data.toList.drop f))
    omega
  have hL : ((ps.take k).map D.str).length = k := by simp; omega
  (conv => whnf)
  (repeat (refine stg_ ?_))
  (refine br_ (fun h1 => ?_) (fun h1 => ?_))
  · have hi : i < s.size := by omega
    have hb := bget? hi
    have hb2 := bgetN hi
    generalize s[i]'hi = b at hb hb2
    have hbl : s.data.toList[i]? = some b := hb2
    have hsp : (s.data.toList.drop f).drop (i - f) = b :: s.data.toList.drop (i + 1) := by
      rw [List.drop_drop, show f + (i - f) = i by omega, drop_at hbl]
    have hdf : s.data.toList.drop f = (s.data.toList.drop f).take (i - f) ++ b :: s.data.toList.drop (i + 1) := by
      rw [← hsp, List.take_append_drop]
    (repeat (refine stg_ ?_))
    by_cases hbc : b = c
    · subst hbc
      rw [show (((b.toNat : Nat) : Int) == ((b.toNat : Nat) : Int)) = true by simp]
      have h3 := spB_at (s := mkS (s.data.toList.drop f)) (a := (s.data.toList.drop f).take (i - f)) (b := s.data.toList.drop (i + 1)) (c := b) (by rw [mkS_toList]; exact hdf) k4
      rw [← k3] at h3
      obtain ⟨x, hx⟩ := at_lt' (xs := ps) (k := k) hkp
      rw [drop_at hx] at h3
      obtain ⟨rfl, h4⟩ := List.cons.inj h3
      have hex := ext_data s f i
      (conv => whnf)
      (repeat (refine stg_ ?_))
      refine NextW.go (k + 1, i + 1, i + 1) (Weak.cov ⟨rfl, rfl, rfl, rfl, rfl, trivial⟩ ⟨trivial, ?_, trivial⟩ rfl) ⟨by dsimp only; omega, by dsimp only; omega, by dsimp only; omega, h4, by simp⟩ (by dsimp only; omega)
      show _ = Blk.arr 1 _ true
      rw [take_snoc_get hx, ← hex, List.map_append]
      have := List.take_length (l := (ps.take k).map D.str)
      rw [hL] at this
      show Blk.arr 1 (List.take k ((ps.take k).map D.str) ++ _) true = _
      rw [this]; rfl
    · rw [show (((b.toNat : Nat) : Int) == ((c.toNat : Nat) : Int)) = false by
        rw [beq_eq_false_iff_ne]; intro h; exact hbc (UInt8.toNat_inj.1 (by omega))]
      (conv => whnf)
      (repeat (refine stg_ ?_))
      refine NextW.go (k, f, i + 1) covT_ ⟨k0, by dsimp only; omega, by dsimp only; omega, k3, ?_⟩ (by dsimp only; omega)
      dsimp only
      have hg : (s.data.toList.drop f)[i - f]? = some b := by rw [List.getElem?_drop, show f + (i - f) = i by omega]; exact hbl
      rw [show i + 1 - f = (i - f) + 1 by omega, take_snoc_get hg]
      simp only [List.mem_append, List.mem_singleton, not_or]
      exact ⟨k4, fun e => hbc e.symm⟩
  · have hno : c ∉ (mkS (s.data.toList.drop f)).data.toList := by
      rw [mkS_toList]
      rw [List.take_of_length_le (by rw [List.length_drop]; omega)] at k4
      exact k4
    rw [spB_none hno] at k3
    obtain ⟨x, hx⟩ := at_lt' (xs := ps) (k := k) hkp
    rw [drop_at hx] at k3
    obtain ⟨rfl, h4⟩ := List.cons.inj k3
    have hk : k + 1 = ps.length := by
      have := congrArg List.length h4
      rw [List.length_drop, List.length_nil] at this
      omega
    have hex := ext_data s f s.size
    rw [List.take_of_length_le (by rw [List.length_drop]; omega)] at hex
    have hfin : ps = ps.take k ++ [s.extract f s.size] := by
      rw [hex, ← take_snoc_get hx, hk, List.take_length]
    (repeat' (first | (refine stg_ ?_) | fail | (refine br_ (fun hbr => ?_) (fun hbr => ?_))))
    have hq : (ps.take k).length = k := by rw [List.length_take]; omega
    generalize ps.take k = qs at hfin hL hq ⊢
    have ht : List.take k (qs.map D.str) = qs.map D.str := List.take_of_length_le (by omega)
    rw [hfin, List.map_append, List.length_append, hq, ht]
    (refine ⟨⟨[some 1], ⟨by decide, rfl, trivial, trivial⟩, by decide, rfl, ?_⟩⟩; (conv => whnf); exact ⟨by decide, rfl⟩)
theorem bL' (s : ByteArray) (k : Nat) : s[k]? = s.data.toList[k]? := by
  rcases Nat.lt_or_ge k s.size with h | h
  · rw [bget? h, bgetN h]
  · rw [List.getElem?_eq_none (by simpa using h)]
    simp [h]
theorem bTl (s : ByteArray) : s.data.toList = s.toList := (Go.ByteArray.toList_eq s).symm
theorem rdN_no {l : List UInt8} (h : (tlN l).length < 1 ∨ 18 < (tlN l).length) : rdN l = none := by rw [rdN, if_pos h]
theorem rdN_bad {l : List UInt8} {k : Nat} {n : Nat} {c : UInt8} (h : dgV ((tlN l).take k) 0 = some n) (hc : (tlN l)[k]? = some c) (hd : dgtB c = false) : rdN l = none := by
  have e : dgV (tlN l) 0 = none := by
    rw [← List.take_append_drop k (tlN l), dgV_app, h, drop_at hc]
    show dgV (c :: _) n = none
    rw [dgV, if_neg (by rw [hd]; decide)]
  rw [rdN]
  split
  · rfl
  · rw [e]
theorem dgV_step {t : List UInt8} {k n : Nat} {c : UInt8} (h : dgV (t.take k) 0 = some n) (hc : t[k]? = some c) (hd : dgtB c = true) : dgV (t.take (k + 1)) 0 = some (n * 10 + (c.toNat - 48)) := by
  rw [take_snoc_get hc, dgV_app, h]
  show dgV [c] n = _
  rw [dgV, if_pos hd, dgV]
theorem rdN_end {l : List UInt8} {n : Nat} (h1 : 1 ≤ (tlN l).length) (h2 : (tlN l).length ≤ 18) (h : dgV (tlN l) 0 = some n) : rdN l = if decS (sgN l n) = l then some (sgN l n) else none := by
  rw [rdN, if_neg (by omega), h]
set_option maxHeartbeats 4000000 in
theorem CutPrefix_v (s pf : ByteArray) (hp1 : pf.size = 1) (hp2 : pf.toList = [45]) : PC Tryz.prog 179 [.d (.str s), .d (.str pf)] (.tup [.d (.str (mkS (tlN s.data.toList))), .d (.bool (decide (s.data.toList[0]? = some 45)))]) [] := by
  have c1 : PC Tryz.prog 211 [.d (.str s), .d (.str pf)] (.d (.bool (decide (s.data.toList[0]? = some 45)))) [] := by
    refine pc_intro ttOk (by kernel_rfl) Tryz.func211 rfl (by kernel_rfl) (by kernel_rfl) (by kernel_rfl) (fun hw => ?_)
    have hs : s.size ≤ 9223372036854775807 := hw.1
    have hl : s.data.toList.length = s.size := Array.length_toList
    have hpt : pf.data.toList = [45] := by rw [bTl]; exact hp2
    rcases hL : s.data.toList with _ | ⟨b, t⟩
    · have hs0 : s.size = 0 := by rw [← hl, hL]; rfl
      rw [show decide (([] : List UInt8)[0]? = some 45) = false by decide]
      (conv => whnf)
      rw [show decide (((pf.size : Nat) : Int) ≤ ((s.size : Nat) : Int)) = false by rw [decide_eq_false_iff_not]; omega]
      (conv => whnf)
      (repeat (refine stg_ ?_))
      (refine RetOK.d rfl rfl ?_; conv => whnf)
    · have hs1 : s.size = t.length + 1 := by rw [← hl, hL]; rfl
      have hx : (s.extract 0 1).toList = [b] := by
        rw [← bTl, ext_data, hL, mkS_toList]; rfl
      rw [show decide ((b :: t)[0]? = some 45) = (b == 45) by simp [Bool.beq_eq_decide_eq]]
      have hxx : ((s.extract 0 1).toList == pf.toList) = (b == 45) := by rw [hx, hp2]; simp
      (conv => whnf)
      rw [show decide (((pf.size : Nat) : Int) ≤ ((s.size : Nat) : Int)) = true by rw [decide_eq_true_eq]; omega, show (((pf.size : Nat) : Int)) = 1 by omega]
      (conv => whnf)
      (repeat (refine stg_ ?_))
      (refine RetOK.d rfl rfl ?_; conv => whnf)
      rw [Int.toNat_natCast, hp1, hxx]
  have c2 : PC Tryz.prog 202 [.d (.str s), .d (.str pf)] (.tup [.d (.str (mkS (tlN s.data.toList))), .d (.bool (decide (s.data.toList[0]? = some 45)))]) [] := by
    refine pc_intro ttOk (by kernel_rfl) Tryz.func202 rfl (by kernel_rfl) (by kernel_rfl) (by kernel_rfl) (fun hw => ?_)
    have hl : s.data.toList.length = s.size := Array.length_toList
    rcases hL : s.data.toList with _ | ⟨b, t⟩
    · rw [hL] at c1
      rw [show decide (([] : List UInt8)[0]? = some 45) = false by decide] at c1 ⊢
      have : s = mkS [] := by apply bs_ext; rw [hL, mkS_toList]
      (conv => whnf)
      (refine cla_ (c1) ?_)
      (repeat' (first | (refine stg_ ?_) | fail | (refine br_ (fun hbr => ?_) (fun hbr => ?_))))
      (refine RetOK.t rfl ?_; (repeat' ((conv => whnf); (first | done | (refine ⟨_, _, rfl, ⟨rfl, ?_⟩, ?_⟩) | fail))); (all_goals (conv => whnf)))
      all_goals (rw [this]; rfl)
    · have hs1 : s.size = t.length + 1 := by rw [← hl, hL]; rfl
      rw [hL] at c1
      by_cases hb : b = 45
      · subst hb
        have e1 : tlN (45 :: t) = t := by rw [tlN, if_pos (show (45 :: t)[0]? = some 45 from rfl)]; rfl
        have e2 : s.extract (((pf.size : Nat) : Int)).toNat s.size = mkS t := by
          rw [Int.toNat_natCast, hp1]
          exact bx_drop (a := [45]) (by rw [hL]; rfl) rfl
        rw [show decide ((45 :: t)[0]? = some 45) = true by simp] at c1 ⊢
        rw [e1]
        (conv => whnf)
        (refine cla_ (c1) ?_)
        (repeat' (first | (refine stg_ ?_) | fail | (refine br_ (fun hbr => ?_) (fun hbr => ?_))))
        (refine RetOK.t rfl ?_; (repeat' ((conv => whnf); (first | done | (refine ⟨_, _, rfl, ⟨rfl, ?_⟩, ?_⟩) | fail))); (all_goals (conv => whnf)))
        all_goals (rw [e2])
      · have e1 : tlN (b :: t) = b :: t := by rw [tlN, if_neg (by simpa using hb)]
        have : s = mkS (b :: t) := by apply bs_ext; rw [hL, mkS_toList]
        rw [show decide ((b :: t)[0]? = some 45) = false by simpa using hb] at c1 ⊢
        rw [e1]
        (conv => whnf)
        (refine cla_ (c1) ?_)
        (repeat' (first | (refine stg_ ?_) | fail | (refine br_ (fun hbr => ?_) (fun hbr => ?_))))
        (refine RetOK.t rfl ?_; (repeat' ((conv => whnf); (first | done | (refine ⟨_, _, rfl, ⟨rfl, ?_⟩, ?_⟩) | fail))); (all_goals (conv => whnf)))
        all_goals (rw [this])
  refine pc_intro ttOk (by kernel_rfl) Tryz.func179 rfl (by kernel_rfl) (by kernel_rfl) (by kernel_rfl) (fun hw => ?_)
  (conv => whnf)
  (repeat' (first | (refine stg_ ?_) | (refine cla_ (c2) ?_) | (refine br_ (fun hbr => ?_) (fun hbr => ?_))))
  all_goals (refine RetOK.t rfl ?_; (repeat' ((conv => whnf); (first | done | (refine ⟨_, _, rfl, ⟨rfl, ?_⟩, ?_⟩) | fail))); (all_goals (conv => whnf)))
theorem dgt_eq (c : UInt8) : dgtB c = dgB c := by
  unfold dgtB dgB
  congr 1 <;> (rw [decide_eq_decide]; omega)
theorem dec_cmp (m : Int) (s : ByteArray) : ((decB m).toList == s.toList) = decide (decS m = s.data.toList) := by
  rw [← bTl, ← bTl, decB, mkS_toList, Bool.beq_eq_decide_eq]
set_option maxHeartbeats 4000000 in
theorem ReadDecimal_v (s : ByteArray) : PC Tryz.prog 133 [.d (.str s)] (.tup [.d (.int .i64 ((rdN s.data.toList).getD 0)), .d (.bool (rdN s.data.toList).isSome)]) [] := by
  refine pc_intro ttOk (by kernel_rfl) Tryz.func133 rfl (by kernel_rfl) (by kernel_rfl) (by kernel_rfl) (fun hw => ?_)
  have c1 := CutPrefix_v s ⟨#[45]⟩ rfl (by rw [← bTl])
  obtain ⟨l, hl⟩ : ∃ l, l = s.data.toList := ⟨_, rfl⟩
  rw [← hl] at c1 ⊢
  obtain ⟨t, ht⟩ : ∃ t, t = tlN l := ⟨_, rfl⟩
  have hsz := mkS_size t
  rw [← ht] at c1
  (conv => whnf)
  (refine cla_ (c1) ?_)
  (repeat (refine stg_ ?_))
  (refine br_ (fun h1 => ?_) (fun h1 => ?_))
  · rw [rdN_no (by rw [← ht]; omega)]
    (repeat' (first | (refine stg_ ?_) | fail | (refine br_ (fun hbr => ?_) (fun hbr => ?_))))
    all_goals ((refine RetOK.t rfl ?_; (repeat' ((conv => whnf); (first | done | (refine ⟨_, _, rfl, ⟨rfl, ?_⟩, ?_⟩) | fail))); (all_goals (conv => whnf))); all_goals rfl)
  (repeat' (first | (refine stg_ ?_) | fail | (refine br_ (fun hbr => ?_) (fun hbr => ?_))))
  · rw [rdN_no (by rw [← ht]; omega)]
    (refine RetOK.t rfl ?_; (repeat' ((conv => whnf); (first | done | (refine ⟨_, _, rfl, ⟨rfl, ?_⟩, ?_⟩) | fail))); (all_goals (conv => whnf)))
    all_goals rfl
  have hn1 : 1 ≤ t.length := by omega
  have hn2 : t.length ≤ 18 := by omega
  refine LoopW.go (α := Nat × Nat) (fun p => [(0, .d (.str s)), (4, .d (.str (mkS t))), (5, .d (.bool (decide (l[0]? = some 45)))), (6, .d (.int .i64 p.2)), (7, .d (.int .i64 p.1))]) (fun _ => [.gone]) (fun p => p.1 ≤ t.length ∧ dgV (t.take p.1) 0 = some p.2) (fun p => t.length - p.1) (0, 0) covT_ ⟨by simp, rfl⟩ ?_
  rintro ⟨k, n⟩ ⟨k1, k2⟩
  dsimp only at k1 k2 ⊢
  have hnb := dgV_lt _ _ _ k2
  have hkb : (t.take k).length = k := by rw [List.length_take]; omega
  have h10 : 10 ^ (t.take k).length ≤ 10 ^ 18 := Nat.pow_le_pow_right (by omega) (by omega)
  (conv => whnf)
  (repeat (refine stg_ ?_))
  (refine br_ (fun h3 => ?_) (fun h3 => ?_))
  · obtain ⟨c, hc⟩ := at_lt' (xs := t) (k := k) (by omega)
    have hc' : (mkS t)[k]? = some c := by rw [bL', mkS_toList]; exact hc
    have h10' : 10 ^ (t.take k).length ≤ 10 ^ 17 := Nat.pow_le_pow_right (by omega) (by omega)
    have hcl := c.toNat_lt
    have c2 := isDigit_v c
    rw [← dgt_eq] at c2
    cases hd : dgtB c
    · rw [hd] at c2
      rw [rdN_bad (by rw [← ht]; exact k2) (by rw [← ht]; exact hc) hd]
      (repeat' (first | (refine stg_ ?_) | (refine cla_ (c2) ?_) | (refine br_ (fun hbr => ?_) (fun hbr => ?_))))
      all_goals ((refine RetOK.t rfl ?_; (repeat' ((conv => whnf); (first | done | (refine ⟨_, _, rfl, ⟨rfl, ?_⟩, ?_⟩) | fail))); (all_goals (conv => whnf))); all_goals rfl)
    · rw [hd] at c2
      have hd2 := hd
      simp only [dgtB, Bool.and_eq_true, decide_eq_true_eq] at hd2
      (repeat' (first | (refine stg_ ?_) | (refine cla_ (c2) ?_) | (refine br_ (fun hbr => ?_) (fun hbr => ?_))))
      refine NextW.go (k + 1, n * 10 + (c.toNat - 48)) (Weak.cov ⟨rfl, rfl, rfl, ?_, rfl, trivial⟩ ⟨trivial, trivial⟩ rfl) ⟨by dsimp only; omega, dgV_step k2 hc hd⟩ (by dsimp only; omega)
      show V.d (D.int .i64 ((n : Int) * 10 + ((c.toNat : Nat) - 48 : Int))) = V.d (D.int .i64 ((n * 10 + (c.toNat - 48) : Nat) : Int))
      congr 2; omega
  · have hk : k = t.length := by omega
    rw [hk, List.take_length] at k2
    rw [rdN_end (by rw [← ht]; exact hn1) (by rw [← ht]; exact hn2) (by rw [← ht]; exact k2)]
    have fin : ∀ m : Int, (decS m = l ∧ (decB m).toList = s.toList) ∨ (¬ decS m = l ∧ ¬ (decB m).toList = s.toList) := fun m => by
      have h := dec_cmp m s
      rw [← hl] at h
      by_cases q : decS m = l
      · exact .inl ⟨q, by simpa [q] using h⟩
      · exact .inr ⟨q, by simpa [q] using h⟩
    by_cases h45 : l[0]? = some 45
    · have em : sgN l n = 0 - (n : Int) := by rw [sgN, if_pos h45]; omega
      have c3 := Decimal_v (0 - (n : Int))
      rw [em, decide_eq_true h45]
      rcases fin (0 - (n : Int)) with ⟨q1, q2⟩ | ⟨q1, q2⟩
      · rw [if_pos q1]
        (conv => whnf)
        (repeat' (first | (refine stg_ ?_) | (refine cla_ (c3) ?_) | (refine br_ (fun hbr => ?_) (fun hbr => ?_))))
        all_goals first | (exfalso; exact hbr q2) | (exfalso; exact q2 hbr) | ((refine RetOK.t rfl ?_; (repeat' ((conv => whnf); (first | done | (refine ⟨_, _, rfl, ⟨rfl, ?_⟩, ?_⟩) | fail))); (all_goals (conv => whnf))); all_goals rfl)
      · rw [if_neg q1]
        (conv => whnf)
        (repeat' (first | (refine stg_ ?_) | (refine cla_ (c3) ?_) | (refine br_ (fun hbr => ?_) (fun hbr => ?_))))
        all_goals first | (exfalso; exact hbr q2) | (exfalso; exact q2 hbr) | ((refine RetOK.t rfl ?_; (repeat' ((conv => whnf); (first | done | (refine ⟨_, _, rfl, ⟨rfl, ?_⟩, ?_⟩) | fail))); (all_goals (conv => whnf))); all_goals rfl)
    · have em : sgN l n = (n : Int) := by rw [sgN, if_neg h45]
      have c3 := Decimal_v (n : Int)
      rw [em, decide_eq_false h45]
      rcases fin (n : Int) with ⟨q1, q2⟩ | ⟨q1, q2⟩
      · rw [if_pos q1]
        (conv => whnf)
        (repeat' (first | (refine stg_ ?_) | (refine cla_ (c3) ?_) | (refine br_ (fun hbr => ?_) (fun hbr => ?_))))
        all_goals first | (exfalso; exact hbr q2) | (exfalso; exact q2 hbr) | ((refine RetOK.t rfl ?_; (repeat' ((conv => whnf); (first | done | (refine ⟨_, _, rfl, ⟨rfl, ?_⟩, ?_⟩) | fail))); (all_goals (conv => whnf))); all_goals rfl)
      · rw [if_neg q1]
        (conv => whnf)
        (repeat' (first | (refine stg_ ?_) | (refine cla_ (c3) ?_) | (refine br_ (fun hbr => ?_) (fun hbr => ?_))))
        all_goals first | (exfalso; exact hbr q2) | (exfalso; exact q2 hbr) | ((refine RetOK.t rfl ?_; (repeat' ((conv => whnf); (first | done | (refine ⟨_, _, rfl, ⟨rfl, ?_⟩, ?_⟩) | fail))); (all_goals (conv => whnf))); all_goals rfl)
set_option maxHeartbeats 4000000 in
theorem l01Number_v (s : ByteArray) : PC Tryz.prog 61 [.d (.str s)] (.tup [.d (.int .i64 ((rdN s.data.toList).getD 0)), .d (.bool (rdN s.data.toList).isSome)]) [] := by
  refine pc_intro ttOk (by kernel_rfl) Tryz.func61 rfl (by kernel_rfl) (by kernel_rfl) (by kernel_rfl) (fun hw => ?_)
  have hs : s.size ≤ 9223372036854775807 := hw.1
  obtain ⟨l, hl⟩ : ∃ l, l = s.data.toList := ⟨_, rfl⟩
  rw [← hl]
  obtain ⟨t, ht⟩ : ∃ t, t = tlN l := ⟨_, rfl⟩
  have hsz := mkS_size t
  have hll : l.length = s.size := by rw [hl]; exact Array.length_toList
  have hE : mkS l = s := by rw [hl]; exact mkS_of s
  have he0 : ({ data := #[] } : ByteArray).toList = [] := by rw [← bTl]
  rcases hL : l with _ | ⟨b, tl⟩
  · have hs0 : s.size = 0 := by rw [← hll, hL]; rfl
    have hz : (s.toList == ({ data := #[] } : ByteArray).toList) = true := by rw [he0, ← bTl, ← hl, hL]; rfl
    rw [rdN_no (l := []) (by decide)]
    (conv => whnf)
    rw [hz]
    (conv => whnf)
    (repeat' (first | (refine stg_ ?_) | fail | (refine br_ (fun hbr => ?_) (fun hbr => ?_))))
    all_goals first | (exfalso; omega) | ((refine RetOK.t rfl ?_; (repeat' ((conv => whnf); (first | done | (refine ⟨_, _, rfl, ⟨rfl, ?_⟩, ?_⟩) | fail))); (all_goals (conv => whnf))); all_goals rfl)
  have hnz : (s.toList == ({ data := #[] } : ByteArray).toList) = false := by rw [he0, ← bTl, ← hl, hL]; rfl
  have hs1 : s.size = tl.length + 1 := by rw [← hll, hL]; rfl
  have hb0 : s[0]? = some b := by rw [bL', ← hl, hL]; rfl
  have hcase : ∃ tv : ByteArray, tv = mkS t ∧ ((b = 45 ∧ t.length + 1 = l.length ∧ s.extract ((1 : Int)).toNat s.size = tv) ∨ (¬ b = 45 ∧ t.length = l.length ∧ s = tv)) := by
    refine ⟨mkS t, rfl, ?_⟩
    by_cases hb : b = 45
    · subst hb
      have e1 : t = tl := by rw [ht, hL, tlN, if_pos (show (45 :: tl)[0]? = some 45 from rfl)]; rfl
      exact .inl ⟨rfl, by rw [e1, hL]; rfl, by rw [e1]; exact bx_drop (a := [45]) (by rw [← hl, hL]; rfl) rfl⟩
    · have e1 : t = l := by rw [ht, tlN, if_neg (by rw [hL]; simpa using hb)]
      exact .inr ⟨hb, by rw [e1], by rw [e1]; exact hE.symm⟩
  obtain ⟨tv, htv, hcase⟩ := hcase
  rw [← htv] at hsz
  have h0 : l[0]? = some b := by rw [hL]; rfl
  rw [← hL]
  rcases hcase with ⟨hb, hlen, hx⟩ | ⟨hb, hlen, hx⟩
  · have hbt : (((b.toNat : Nat) : Int) == 45) = true := by rw [hb]; rfl
    (conv => whnf)
    rw [hnz]
    (conv => whnf)
    (repeat (refine stg_ ?_))
    rw [hbt]
    (conv => whnf)
    (repeat (refine stg_ ?_))
    rw [hx]
    have hszs : tv.size = t.length := hsz
    by_cases hb1 : t.length < 1
    · rw [rdN_no (by rw [← ht]; omega)]
      (repeat' (first | (refine stg_ ?_) | fail | (refine br_ (fun hbr => ?_) (fun hbr => ?_))))
      all_goals first | (exfalso; omega) | ((refine RetOK.t rfl ?_; (repeat' ((conv => whnf); (first | done | (refine ⟨_, _, rfl, ⟨rfl, ?_⟩, ?_⟩) | fail))); (all_goals (conv => whnf))); all_goals rfl)
    by_cases hb2 : 18 < t.length
    · rw [rdN_no (by rw [← ht]; omega)]
      (repeat' (first | (refine stg_ ?_) | fail | (refine br_ (fun hbr => ?_) (fun hbr => ?_))))
      all_goals first | (exfalso; omega) | ((refine RetOK.t rfl ?_; (repeat' ((conv => whnf); (first | done | (refine ⟨_, _, rfl, ⟨rfl, ?_⟩, ?_⟩) | fail))); (all_goals (conv => whnf))); all_goals rfl)
    (repeat' (first | (refine stg_ ?_) | fail | (refine br_ (fun hbr => ?_) (fun hbr => ?_))))
    all_goals try (exfalso; omega)
    refine LoopW.go (α := Nat × Nat) (fun p => [(0, .d (.str s)), (4, .d (.str tv)), (5, .d (.int .i64 p.2)), (6, .d (.int .i64 p.1))]) (fun _ => [.gone]) (fun p => p.1 ≤ t.length ∧ dgV (t.take p.1) 0 = some p.2) (fun p => t.length - p.1) (0, 0) (Weak.cov ⟨rfl, ?_, rfl, rfl, trivial⟩ ⟨trivial, trivial⟩ rfl) ⟨by simp, rfl⟩ ?_
    · first | rfl | (exact congrArg (fun z => V.d (D.str z)) hx)
    rintro ⟨k, n⟩ ⟨k1, k2⟩
    dsimp only at k1 k2 ⊢
    have hnb := dgV_lt _ _ _ k2
    have hkb : (t.take k).length = k := by rw [List.length_take]; omega
    have h10 : 10 ^ (t.take k).length ≤ 10 ^ 18 := Nat.pow_le_pow_right (by omega) (by omega)
    (conv => whnf)
    (repeat (refine stg_ ?_))
    (refine br_ (fun h3 => ?_) (fun h3 => ?_))
    · obtain ⟨c, hc⟩ := at_lt' (xs := t) (k := k) (by omega)
      have hc' : tv[k]? = some c := by rw [bL', htv, mkS_toList]; exact hc
      have h10' : 10 ^ (t.take k).length ≤ 10 ^ 17 := Nat.pow_le_pow_right (by omega) (by omega)
      have hcl := c.toNat_lt
      have c2 := l01Digit_v c
      rw [← dgt_eq] at c2
      cases hd : dgtB c
      · rw [hd] at c2
        rw [rdN_bad (by rw [← ht]; exact k2) (by rw [← ht]; exact hc) hd]
        (repeat' (first | (refine stg_ ?_) | (refine cla_ (c2) ?_) | (refine br_ (fun hbr => ?_) (fun hbr => ?_))))
        all_goals ((refine RetOK.t rfl ?_; (repeat' ((conv => whnf); (first | done | (refine ⟨_, _, rfl, ⟨rfl, ?_⟩, ?_⟩) | fail))); (all_goals (conv => whnf))); all_goals rfl)
      · rw [hd] at c2
        have hd2 := hd
        simp only [dgtB, Bool.and_eq_true, decide_eq_true_eq] at hd2
        (repeat' (first | (refine stg_ ?_) | (refine cla_ (c2) ?_) | (refine br_ (fun hbr => ?_) (fun hbr => ?_))))
        refine NextW.go (k + 1, n * 10 + (c.toNat - 48)) (Weak.cov ⟨rfl, rfl, ?_, rfl, trivial⟩ ⟨trivial, trivial⟩ rfl) ⟨by dsimp only; omega, dgV_step k2 hc hd⟩ (by dsimp only; omega)
        show V.d (D.int .i64 (10 * (n : Int) + ((c.toNat : Nat) - 48 : Int))) = V.d (D.int .i64 ((n * 10 + (c.toNat - 48) : Nat) : Int))
        congr 2; omega
    · have hk : k = t.length := by omega
      rw [hk, List.take_length] at k2
      rw [rdN_end (by rw [← ht]; omega) (by rw [← ht]; omega) (by rw [← ht]; exact k2)]
      have em : sgN l n = 0 - (n : Int) := by rw [sgN, h0, if_pos (by rw [hb])]; try omega
      have c3 := l01Dec_v (0 - (n : Int))
      have fin : (decS (0 - (n : Int)) = l ∧ (decB (0 - (n : Int))).toList = s.toList) ∨ (¬ decS (0 - (n : Int)) = l ∧ ¬ (decB (0 - (n : Int))).toList = s.toList) := by
        have h := dec_cmp (0 - (n : Int)) s
        rw [← hl] at h
        by_cases q : decS (0 - (n : Int)) = l
        · exact .inl ⟨q, by rw [decide_eq_true q] at h; exact beq_iff_eq.1 h⟩
        · exact .inr ⟨q, by rw [decide_eq_false q] at h; exact beq_eq_false_iff_ne.1 h⟩
      rw [em]
      rcases fin with ⟨q1, q2⟩ | ⟨q1, q2⟩
      · rw [if_pos q1]
        (repeat' (first | (refine stg_ ?_) | (refine cla_ (c3) ?_) | (refine br_ (fun hbr => ?_) (fun hbr => ?_))))
        all_goals first | (exfalso; omega) | (exfalso; exact hbr q2) | (exfalso; exact q2 hbr) | ((refine RetOK.t rfl ?_; (repeat' ((conv => whnf); (first | done | (refine ⟨_, _, rfl, ⟨rfl, ?_⟩, ?_⟩) | fail))); (all_goals (conv => whnf))); all_goals rfl)
      · rw [if_neg q1]
        (repeat' (first | (refine stg_ ?_) | (refine cla_ (c3) ?_) | (refine br_ (fun hbr => ?_) (fun hbr => ?_))))
        all_goals first | (exfalso; omega) | (exfalso; exact hbr q2) | (exfalso; exact q2 hbr) | ((refine RetOK.t rfl ?_; (repeat' ((conv => whnf); (first | done | (refine ⟨_, _, rfl, ⟨rfl, ?_⟩, ?_⟩) | fail))); (all_goals (conv => whnf))); all_goals rfl)
  · have hbt : (((b.toNat : Nat) : Int) == 45) = false := by
      rw [beq_eq_false_iff_ne]; intro h; exact hb (UInt8.toNat_inj.1 (by show b.toNat = 45; omega))
    (conv => whnf)
    rw [hnz]
    (conv => whnf)
    (repeat (refine stg_ ?_))
    rw [hbt]
    (conv => whnf)
    (repeat (refine stg_ ?_))
    have hszs : s.size = t.length := by omega
    by_cases hb1 : t.length < 1
    · rw [rdN_no (by rw [← ht]; omega)]
      (repeat' (first | (refine stg_ ?_) | fail | (refine br_ (fun hbr => ?_) (fun hbr => ?_))))
      all_goals first | (exfalso; omega) | ((refine RetOK.t rfl ?_; (repeat' ((conv => whnf); (first | done | (refine ⟨_, _, rfl, ⟨rfl, ?_⟩, ?_⟩) | fail))); (all_goals (conv => whnf))); all_goals rfl)
    by_cases hb2 : 18 < t.length
    · rw [rdN_no (by rw [← ht]; omega)]
      (repeat' (first | (refine stg_ ?_) | fail | (refine br_ (fun hbr => ?_) (fun hbr => ?_))))
      all_goals first | (exfalso; omega) | ((refine RetOK.t rfl ?_; (repeat' ((conv => whnf); (first | done | (refine ⟨_, _, rfl, ⟨rfl, ?_⟩, ?_⟩) | fail))); (all_goals (conv => whnf))); all_goals rfl)
    (repeat' (first | (refine stg_ ?_) | fail | (refine br_ (fun hbr => ?_) (fun hbr => ?_))))
    all_goals try (exfalso; omega)
    refine LoopW.go (α := Nat × Nat) (fun p => [(0, .d (.str s)), (4, .d (.str tv)), (5, .d (.int .i64 p.2)), (6, .d (.int .i64 p.1))]) (fun _ => [.gone]) (fun p => p.1 ≤ t.length ∧ dgV (t.take p.1) 0 = some p.2) (fun p => t.length - p.1) (0, 0) (Weak.cov ⟨rfl, ?_, rfl, rfl, trivial⟩ ⟨trivial, trivial⟩ rfl) ⟨by simp, rfl⟩ ?_
    · first | rfl | (exact congrArg (fun z => V.d (D.str z)) hx)
    rintro ⟨k, n⟩ ⟨k1, k2⟩
    dsimp only at k1 k2 ⊢
    have hnb := dgV_lt _ _ _ k2
    have hkb : (t.take k).length = k := by rw [List.length_take]; omega
    have h10 : 10 ^ (t.take k).length ≤ 10 ^ 18 := Nat.pow_le_pow_right (by omega) (by omega)
    (conv => whnf)
    (repeat (refine stg_ ?_))
    (refine br_ (fun h3 => ?_) (fun h3 => ?_))
    · obtain ⟨c, hc⟩ := at_lt' (xs := t) (k := k) (by omega)
      have hc' : tv[k]? = some c := by rw [bL', htv, mkS_toList]; exact hc
      have h10' : 10 ^ (t.take k).length ≤ 10 ^ 17 := Nat.pow_le_pow_right (by omega) (by omega)
      have hcl := c.toNat_lt
      have c2 := l01Digit_v c
      rw [← dgt_eq] at c2
      cases hd : dgtB c
      · rw [hd] at c2
        rw [rdN_bad (by rw [← ht]; exact k2) (by rw [← ht]; exact hc) hd]
        (repeat' (first | (refine stg_ ?_) | (refine cla_ (c2) ?_) | (refine br_ (fun hbr => ?_) (fun hbr => ?_))))
        all_goals ((refine RetOK.t rfl ?_; (repeat' ((conv => whnf); (first | done | (refine ⟨_, _, rfl, ⟨rfl, ?_⟩, ?_⟩) | fail))); (all_goals (conv => whnf))); all_goals rfl)
      · rw [hd] at c2
        have hd2 := hd
        simp only [dgtB, Bool.and_eq_true, decide_eq_true_eq] at hd2
        (repeat' (first | (refine stg_ ?_) | (refine cla_ (c2) ?_) | (refine br_ (fun hbr => ?_) (fun hbr => ?_))))
        refine NextW.go (k + 1, n * 10 + (c.toNat - 48)) (Weak.cov ⟨rfl, rfl, ?_, rfl, trivial⟩ ⟨trivial, trivial⟩ rfl) ⟨by dsimp only; omega, dgV_step k2 hc hd⟩ (by dsimp only; omega)
        show V.d (D.int .i64 (10 * (n : Int) + ((c.toNat : Nat) - 48 : Int))) = V.d (D.int .i64 ((n * 10 + (c.toNat - 48) : Nat) : Int))
        congr 2; omega
    · have hk : k = t.length := by omega
      rw [hk, List.take_length] at k2
      rw [rdN_end (by rw [← ht]; omega) (by rw [← ht]; omega) (by rw [← ht]; exact k2)]
      have em : sgN l n = (n : Int) := by rw [sgN, h0, if_neg (by simpa using hb)]; try omega
      have c3 := l01Dec_v ((n : Int))
      have fin : (decS ((n : Int)) = l ∧ (decB ((n : Int))).toList = s.toList) ∨ (¬ decS ((n : Int)) = l ∧ ¬ (decB ((n : Int))).toList = s.toList) := by
        have h := dec_cmp ((n : Int)) s
        rw [← hl] at h
        by_cases q : decS ((n : Int)) = l
        · exact .inl ⟨q, by rw [decide_eq_true q] at h; exact beq_iff_eq.1 h⟩
        · exact .inr ⟨q, by rw [decide_eq_false q] at h; exact beq_eq_false_iff_ne.1 h⟩
      rw [em]
      rcases fin with ⟨q1, q2⟩ | ⟨q1, q2⟩
      · rw [if_pos q1]
        (repeat' (first | (refine stg_ ?_) | (refine cla_ (c3) ?_) | (refine br_ (fun hbr => ?_) (fun hbr => ?_))))
        all_goals first | (exfalso; omega) | (exfalso; exact hbr q2) | (exfalso; exact q2 hbr) | ((refine RetOK.t rfl ?_; (repeat' ((conv => whnf); (first | done | (refine ⟨_, _, rfl, ⟨rfl, ?_⟩, ?_⟩) | fail))); (all_goals (conv => whnf))); all_goals rfl)
      · rw [if_neg q1]
        (repeat' (first | (refine stg_ ?_) | (refine cla_ (c3) ?_) | (refine br_ (fun hbr => ?_) (fun hbr => ?_))))
        all_goals first | (exfalso; omega) | (exfalso; exact hbr q2) | (exfalso; exact q2 hbr) | ((refine RetOK.t rfl ?_; (repeat' ((conv => whnf); (first | done | (refine ⟨_, _, rfl, ⟨rfl, ?_⟩, ?_⟩) | fail))); (all_goals (conv => whnf))); all_goals rfl)
def rnL : List ByteArray → Option (List Int)
  | [] => some []
  | x :: t => match rdN x.data.toList with
    | none => none
    | some n => match rnL t with
      | none => none
      | some r => some (n :: r)
theorem rnL_app : ∀ (a b : List ByteArray), rnL (a ++ b) = (rnL a).bind fun r => (rnL b).map (r ++ ·)
  | [], b => by
    show rnL b = _
    cases rnL b <;> rfl
  | x :: t, b => by
    rw [List.cons_append, rnL, rnL, rnL_app t b]
    cases rdN x.data.toList with
    | none => rfl
    | some n =>
      cases rnL t with
      | none => rfl
      | some r =>
        cases rnL b with
        | none => rfl
        | some q => rfl
theorem rnL_snoc {a : List ByteArray} {x : ByteArray} {r : List Int} {n : Int} (h : rnL a = some r) (hx : rdN x.data.toList = some n) : rnL (a ++ [x]) = some (r ++ [n]) := by
  rw [rnL_app, h, rnL, hx, rnL]; rfl
theorem rnL_bad {xs : List ByteArray} {k : Nat} {x : ByteArray} (hk : xs[k]? = some x) (hx : rdN x.data.toList = none) : rnL xs = none := by
  rw [← List.take_append_drop k xs, rnL_app, drop_at hk, rnL, hx]
  cases rnL (xs.take k) <;> rfl
theorem rnL_len : ∀ {xs : List ByteArray} {r : List Int}, rnL xs = some r → r.length = xs.length
  | [], r, h => by cases h; rfl
  | x :: t, r, h => by
    rw [rnL] at h
    split at h
    · cases h
    · split at h
      · cases h
      · rename_i q hq
        cases h
        rw [List.length_cons, List.length_cons, rnL_len hq]
theorem rnL_dec : ∀ {xs : List ByteArray} {r : List Int}, rnL xs = some r → xs = r.map decB
  | [], r, h => by cases h; rfl
  | x :: t, r, h => by
    rw [rnL] at h
    split at h
    · cases h
    · rename_i n hn
      split at h
      · cases h
      · rename_i q hq
        cases h
        rw [List.map_cons, ← rnL_dec hq]
        congr 1
        apply bs_ext
        rw [decB, mkS_toList, rdN_dec hn]
def ptO (w : ByteArray) : Option TAxisPoint := match rnL (spB 58 w) with
  | some [p, q] => some ⟨p, q⟩
  | _ => none
def ptsL : List ByteArray → Option (List TAxisPoint)
  | [] => some []
  | x :: t => match ptO x with
    | none => none
    | some p => match ptsL t with
      | none => none
      | some r => some (p :: r)
theorem ptsL_app : ∀ (a b : List ByteArray), ptsL (a ++ b) = (ptsL a).bind fun r => (ptsL b).map (r ++ ·)
  | [], b => by
    show ptsL b = _
    cases ptsL b <;> rfl
  | x :: t, b => by
    rw [List.cons_append, ptsL, ptsL, ptsL_app t b]
    cases ptO x with
    | none => rfl
    | some n =>
      cases ptsL t with
      | none => rfl
      | some r =>
        cases ptsL b with
        | none => rfl
        | some q => rfl
theorem ptsL_snoc {a : List ByteArray} {x : ByteArray} {r : List TAxisPoint} {n : TAxisPoint} (h : ptsL a = some r) (hx : ptO x = some n) : ptsL (a ++ [x]) = some (r ++ [n]) := by
  rw [ptsL_app, h, ptsL, hx, ptsL]; rfl
theorem ptsL_bad {xs : List ByteArray} {k : Nat} {x : ByteArray} (hk : xs[k]? = some x) (hx : ptO x = none) : ptsL xs = none := by
  rw [← List.take_append_drop k xs, ptsL_app, drop_at hk, ptsL, hx]
  cases ptsL (xs.take k) <;> rfl
theorem ptsL_len : ∀ {xs : List ByteArray} {r : List TAxisPoint}, ptsL xs = some r → r.length = xs.length
  | [], r, h => by cases h; rfl
  | x :: t, r, h => by
    rw [ptsL] at h
    split at h
    · cases h
    · split at h
      · cases h
      · rename_i q hq
        cases h
        rw [List.length_cons, List.length_cons, ptsL_len hq]
theorem jn_spB (s : ByteArray) : jn (spB 32 s) = s := by
  apply bs_ext
  rw [jn, mkS_toList, spB, List.map_map, show (fun x : ByteArray => x.data.toList) ∘ mkS = id from by funext l; exact mkS_toList l, List.map_id, join_spL]
theorem pt_text {w : ByteArray} {p : TAxisPoint} (h : ptO w = some p) : ptB p = w := by
  unfold ptO at h
  split at h
  · rename_i a b e
    cases h
    have e2 := rnL_dec e
    apply bs_ext
    have e3 := join_spL 58 w.data.toList
    have e4 : spL 58 w.data.toList = [decS a, decS b] := by
      have := congrArg (List.map (fun x : ByteArray => x.data.toList)) e2
      rw [spB, List.map_map, show (fun x : ByteArray => x.data.toList) ∘ mkS = id from by funext l; exact mkS_toList l, List.map_id] at this
      rw [this]
      simp [decB, mkS]
    rw [← e3, e4, ptB, bs_app, bs_app, decB, decB, mkS_toList, mkS_toList]
    simp [Lib.join]
  · cases h
theorem pts_text : ∀ {xs : List ByteArray} {r : List TAxisPoint}, ptsL xs = some r → r.map ptB = xs
  | [], r, h => by cases h; rfl
  | x :: t, r, h => by
    rw [ptsL] at h
    split at h
    · cases h
    · rename_i p hp
      split at h
      · cases h
      · rename_i q hq
        cases h
        rw [List.map_cons, pt_text hp, pts_text hq]
def aP : List ByteArray → Option TAxis
  | n :: a :: b :: c :: r => match rnL [a, b, c] with
    | some [x, y, z] => match ptsL r with
      | some m => some ⟨n, x, y, z, m⟩
      | none => none
    | _ => none
  | _ => none
theorem aP_text {ws : List ByteArray} {a : TAxis} (h : aP ws = some a) : wordsB a = ws := by
  unfold aP at h
  split at h
  · rename_i n x y z r
    split at h
    · rename_i p q t e
      split at h
      · rename_i m hm
        cases h
        have e2 := rnL_dec e
        simp only [List.map_cons, List.map_nil, List.cons.injEq, and_true] at e2
        rw [wordsB, pts_text hm, ← e2.1, ← e2.2.1, ← e2.2.2]; rfl
      · cases h
    · cases h
  · cases h
def raA (s : ByteArray) : Option TAxis := match aP (spB 32 s) with
  | some a => if axB a = true then some a else none
  | none => none
theorem ra_text {s : ByteArray} {a : TAxis} (h : aP (spB 32 s) = some a) : textB a = s := by rw [textB, aP_text h, jn_spB]
theorem ra_ne {s : ByteArray} {a : TAxis} (h : aP (spB 32 s) = some a) : s ≠ .empty := fun e => by
  have h1 := congrArg List.length (aP_text h)
  rw [words_len, e] at h1
  simp [spB, spL] at h1
  omega



def pntB (p : TPt) : Bool := inB p.fX (-262144) 262144 && inB p.fY (-262144) 262144
theorem pnt_in {p : TPt} (h : pntB p = true) : -262144 ≤ p.fX ∧ p.fX ≤ 262144 ∧ -262144 ≤ p.fY ∧ p.fY ≤ 262144 := by
  simp only [pntB, inB, Bool.and_eq_true, decide_eq_true_eq] at h; omega
theorem mem_take' {α : Type} {xs : List α} {P : α → Prop} (h : ∀ x ∈ xs, P x) (k : Nat) : ∀ x ∈ xs.take k, P x := fun x hx => h x (List.mem_of_mem_take hx)
def pkB (p : TPeak) : Bool := nrm p.fStart && (nrm p.fEnd && (inB p.fTop p.fStart p.fEnd && (decide (0 ≤ p.fStart) || (decide (p.fEnd ≤ 0) || decide (p.fTop = 0)))))
theorem pk_facts {p : TPeak} (h : pkB p = true) : -16384 ≤ p.fStart ∧ p.fStart ≤ p.fTop ∧ p.fTop ≤ p.fEnd ∧ p.fEnd ≤ 16384 := by
  simp only [pkB, nrm, inB, Bool.and_eq_true, decide_eq_true_eq] at h
  omega
theorem ValidPeak_v (p : TPeak) : PC Tryz.prog 53 [.d p.D] (.d (.bool (pkB p))) [] := by
  refine pc_intro ttOk (by kernel_rfl) Tryz.func53 rfl (by kernel_rfl) (by kernel_rfl) (by kernel_rfl) (fun hw => ?_)
  (conv => whnf)
  (repeat' (first | (refine stg_ ?_) | (refine cl_ (isNormal_v _) ?_) | (refine br_ (fun hbr => ?_) (fun hbr => ?_))))
  all_goals ((refine RetOK.d rfl rfl ?_; conv => whnf); (try simp_all [pkB, inB]); (try (rw [Bool.eq_iff_iff]; simp)); (try omega))
theorem l30Peak_v (p : TPeak) : PC Tryz.prog 129 [.d p.D] (.d (.bool (pkB p))) [] := by
  refine pc_intro ttOk (by kernel_rfl) Tryz.func129 rfl (by kernel_rfl) (by kernel_rfl) (by kernel_rfl) (fun hw => ?_)
  (conv => whnf)
  (repeat' (first | (refine stg_ ?_) | (refine cl_ (l29Normal_v _) ?_) | (refine cl_ (l00In_v _ _ _) ?_) | (refine br_ (fun hbr => ?_) (fun hbr => ?_))))
  all_goals ((refine RetOK.d rfl rfl ?_; conv => whnf); (try simp_all [pkB]); (try (rw [Bool.eq_iff_iff]; simp)); (try omega))
def pksB (xs : List TPeak) : Bool := decide (xs.length ≤ 3) && xs.all pkB
set_option maxHeartbeats 1000000 in
theorem ixPeak_v (xs : List TPeak) (f : Nat) (p : TPeak → Bool) (hf : ∀ x : TPeak, PC Tryz.prog f [.d x.D] (.d (.bool (p x))) []) :
    PC Tryz.prog 113 [.d (.lst (xs.map TPeak.D)), .fn (.func f) []] (.d (.int .i64 (fdx p xs 0))) [] := by
  refine pc_intro ttOk (by kernel_rfl) Tryz.func113 rfl (by kernel_rfl) (by kernel_rfl) (by kernel_rfl) (fun hw => ?_)
  have hL : (xs.map TPeak.D).length = xs.length := List.length_map _
  have hm : (xs.map TPeak.D).length ≤ 9223372036854775807 := hw.1.1
  (conv => whnf)
  refine LoopW.go (α := Nat) (fun k => [(0, .d (.lst (xs.map TPeak.D))), (1, .fn (.func f) []), (7, .d (.int .i64 (xs.map TPeak.D).length)), (8, .d (.int .i64 k))]) (fun k => [.gone]) (fun k => k ≤ xs.length ∧ fdx p xs 0 = fdx p (xs.drop k) k) (fun k => xs.length - k) 0 covT_ ?_ (fun k hk => ?_)
  · exact ⟨by omega, rfl⟩
  obtain ⟨hk1, hk2⟩ := hk
  (conv => whnf)
  (refine br_ (fun h2 => ?_) (fun h2 => ?_) <;> (repeat (refine stg_ ?_)))
  · obtain ⟨x, hx⟩ := at_lt' (xs := xs) (k := k) (by omega)
    rw [fdx_at hx] at hk2
    (repeat (refine stg_ ?_))
    (refine cla_ (hf x) ?_)
    (refine br_ (fun h3 => ?_) (fun h3 => ?_) <;> (repeat (refine stg_ ?_)))
    · (refine RetOK.d rfl rfl ?_; conv => whnf)
      rw [hk2, if_pos h3]
    · (repeat (refine stg_ ?_))
      exact NextW.go (k + 1) covT_ ⟨by omega, by rw [hk2, h3]; rfl⟩ (by omega)
  · (refine RetOK.d rfl rfl ?_; conv => whnf)
    rw [hk2, fdx_end (by omega)]
theorem ctPeak_v (xs : List TPeak) (f : Nat) (p : TPeak → Bool) (hf : ∀ x : TPeak, PC Tryz.prog f [.d x.D] (.d (.bool (p x))) []) :
    PC Tryz.prog 51 [.d (.lst (xs.map TPeak.D)), .fn (.func f) []] (.d (.bool (xs.any p))) [] := by
  refine pc_intro ttOk (by kernel_rfl) Tryz.func51 rfl (by kernel_rfl) (by kernel_rfl) (by kernel_rfl) (fun hw => ?_)
  (conv => whnf)
  (refine cla_ (ixPeak_v xs f p hf) ?_)
  (refine RetOK.d rfl rfl ?_; conv => whnf)
  rw [← fdx_any p xs 0]
theorem l30Peaks_v (xs : List TPeak) : PC Tryz.prog 65 [.d (.lst (xs.map TPeak.D))] (.d (.bool (pksB xs))) [] := by
  refine pc_intro ttOk (by kernel_rfl) Tryz.func65 rfl (by kernel_rfl) (by kernel_rfl) (by kernel_rfl) (fun hw => ?_)
  have hL : (xs.map TPeak.D).length = xs.length := List.length_map _
  have hm : (xs.map TPeak.D).length ≤ 9223372036854775807 := hw.1.1
  (conv => whnf)
  refine LoopW.go (α := Nat) (fun k => [(0, .d (.lst (xs.map TPeak.D))), (3, .d (.int .i64 k))]) (fun k => [.gone]) (fun k => k ≤ xs.length ∧ xs.all pkB = (xs.drop k).all pkB) (fun k => xs.length - k) 0 covT_ ?_ (fun k hk => ?_)
  · exact ⟨by omega, rfl⟩
  obtain ⟨hk1, hk2⟩ := hk
  (conv => whnf)
  (refine br_ (fun h2 => ?_) (fun h2 => ?_) <;> (repeat (refine stg_ ?_)))
  · obtain ⟨x, hx⟩ := at_lt' (xs := xs) (k := k) (by omega)
    rw [drop_at hx, List.all_cons] at hk2
    (repeat' (first | (refine stg_ ?_) | (refine cla_ (l30Peak_v x) ?_) | (refine br_ (fun hbr => ?_) (fun hbr => ?_))))
    all_goals first | ((refine RetOK.d rfl rfl ?_; conv => whnf); simp_all [pksB]; done) | exact NextW.go (k + 1) covT_ ⟨by omega, by simp_all⟩ (by omega)
  · (refine RetOK.d rfl rfl ?_; conv => whnf)
    rw [pksB, hk2, List.drop_eq_nil_of_le (by omega), List.all_nil, Bool.and_true]
    congr 1
    rw [Bool.eq_iff_iff]; simp; try omega
def ltI : Option Int → Int → Bool
  | none, _ => true
  | some q, x => decide (q < x)
def ltG : Option TGlyphDelta → TGlyphDelta → Bool
  | none, _ => true
  | some q, x => decide (q.fGlyph < x.fGlyph)
def riG : Option Int → List Int → Bool
  | _, [] => true
  | o, x :: t => ltI o x && riG (some x) t
def knG : Option Int → List Int → Bool
  | _, [] => true
  | o, x :: t => inB x 0 719 && (ltI o x && knG (some x) t)
def pvI (xs : List Int) (k : Nat) : Option Int := match k with | 0 => none | k + 1 => xs[k]?
theorem riG_at {xs : List Int} {k : Nat} {x : Int} (hx : xs[k]? = some x) : riG (pvI xs k) (xs.drop k) = (ltI (pvI xs k) x && riG (pvI xs (k + 1)) (xs.drop (k + 1))) := by
  rw [drop_at hx, riG, pvI, hx]
theorem knG_at {xs : List Int} {k : Nat} {x : Int} (hx : xs[k]? = some x) : knG (pvI xs k) (xs.drop k) = (inB x 0 719 && (ltI (pvI xs k) x && knG (pvI xs (k + 1)) (xs.drop (k + 1)))) := by
  rw [drop_at hx, knG, pvI, hx]
theorem pvI_pos {xs : List Int} {k : Nat} {x : Int} (h : 0 < k) (hx : xs[k - 1]? = some x) : pvI xs k = some x := by
  obtain ⟨j, rfl⟩ : ∃ j, k = j + 1 := ⟨k - 1, by omega⟩
  exact hx
theorem riG_end {xs : List Int} {k : Nat} {o : Option Int} (hk : xs.length ≤ k) : riG o (xs.drop k) = true := by
  rw [List.drop_eq_nil_of_le hk]; rfl
theorem knG_end {xs : List Int} {k : Nat} {o : Option Int} (hk : xs.length ≤ k) : knG o (xs.drop k) = true := by
  rw [List.drop_eq_nil_of_le hk]; rfl
theorem riG_lt : ∀ {xs : List Int} {q : Int}, riG (some q) xs = true → ∀ x ∈ xs, q < x
  | [], _, _, x, h => by simp at h
  | y :: t, q, h, x, hx => by
    simp only [riG, ltI, Bool.and_eq_true, decide_eq_true_eq] at h
    rcases List.mem_cons.1 hx with rfl | hx
    · exact h.1
    · have := riG_lt h.2 x hx
      omega
theorem knG_ri : ∀ (o : Option Int) (xs : List Int), knG o xs = true → riG o xs = true ∧ ∀ x ∈ xs, 0 ≤ x ∧ x ≤ 719
  | _, [], _ => ⟨rfl, by simp⟩
  | o, y :: t, h => by
    simp only [knG, inB, Bool.and_eq_true, decide_eq_true_eq] at h
    have ih := knG_ri (some y) t h.2.2
    refine ⟨by rw [riG, h.2.1, ih.1]; rfl, fun x hx => ?_⟩
    rcases List.mem_cons.1 hx with rfl | hx
    · exact h.1
    · exact ih.2 x hx
theorem ri_knG : ∀ (o : Option Int) (xs : List Int), riG o xs = true → (∀ x ∈ xs, 0 ≤ x ∧ x ≤ 719) → knG o xs = true
  | _, [], _, _ => rfl
  | o, y :: t, h, hb => by
    simp only [riG, Bool.and_eq_true] at h
    have h1 := hb y (by simp)
    rw [knG, h.1, ri_knG (some y) t h.2 (fun x hx => hb x (by simp [hx]))]
    simp [inB]; omega
theorem riG_last : ∀ {xs : List Int} {o : Option Int} {z : Int}, riG o xs = true → xs[xs.length - 1]? = some z → ∀ x ∈ xs, x ≤ z
  | [], _, _, _, _, x, h => by simp at h
  | [y], o, z, _, hz, x, hx => by simp at hz hx; omega
  | y :: w :: t, o, z, h, hz, x, hx => by
    rw [riG, Bool.and_eq_true] at h
    have hz' : (w :: t)[(w :: t).length - 1]? = some z := by simpa using hz
    have ih := riG_last (xs := w :: t) h.2 hz'
    rcases List.mem_cons.1 hx with rfl | hx
    · have h1 := riG_lt h.2 w (by simp)
      have h2 := ih w (by simp)
      omega
    · exact ih x hx
theorem riG_first {xs : List Int} {a : Int} (h : riG none xs = true) (ha : xs[0]? = some a) : ∀ x ∈ xs, a ≤ x := by
  cases xs with
  | nil => simp at ha
  | cons y t =>
    simp at ha
    subst ha
    intro x hx
    rw [riG, Bool.and_eq_true] at h
    rcases List.mem_cons.1 hx with rfl | hx
    · exact Int.le_refl _
    · have := riG_lt h.2 x hx
      omega
theorem kn_eq {xs : List Int} {a z : Int} (ha : xs[0]? = some a) (hz : xs[xs.length - 1]? = some z) : knG none xs = (riG none xs && (decide (0 ≤ a) && decide (z ≤ 719))) := by
  rw [Bool.eq_iff_iff]
  simp only [Bool.and_eq_true, decide_eq_true_eq]
  constructor
  · intro h
    obtain ⟨h1, h2⟩ := knG_ri _ _ h
    exact ⟨h1, (h2 a (List.mem_of_getElem? ha)).1, (h2 z (List.mem_of_getElem? hz)).2⟩
  · rintro ⟨h1, h2, h3⟩
    refine ri_knG _ _ h1 (fun x hx => ?_)
    have := riG_first h1 ha x hx
    have := riG_last h1 hz x hx
    omega
def gdB (d : TGlyphDelta) : Bool := inB d.fGlyph 0 39 && (knG none d.fKnots && (decide (d.fKnots.length = d.fMoves.length) && (d.fMoves.all pntB && inB d.fAdvance (-262144) 262144)))
def dsG : Option TGlyphDelta → List TGlyphDelta → Bool
  | _, [] => true
  | o, x :: t => gdB x && (ltG o x && dsG (some x) t)
theorem dsG_at {xs : List TGlyphDelta} {k : Nat} {x : TGlyphDelta} (hx : xs[k]? = some x) : dsG (pv xs k) (xs.drop k) = (gdB x && (ltG (pv xs k) x && dsG (pv xs (k + 1)) (xs.drop (k + 1)))) := by
  rw [drop_at hx, dsG, pv_succ, hx]
theorem dsG_end {xs : List TGlyphDelta} {k : Nat} {o : Option TGlyphDelta} (hk : xs.length ≤ k) : dsG o (xs.drop k) = true := by
  rw [List.drop_eq_nil_of_le hk]; rfl
theorem dsG_all : ∀ {xs : List TGlyphDelta} {o : Option TGlyphDelta}, dsG o xs = true → ∀ x ∈ xs, gdB x = true
  | [], _, _, x, h => by simp at h
  | y :: t, o, h, x, hx => by
    simp only [dsG, Bool.and_eq_true] at h
    rcases List.mem_cons.1 hx with rfl | hx
    · exact h.1
    · exact dsG_all h.2.2 x hx
def maB (n : Nat) (m : TMaster) : Bool := decide (m.fPeaks.length = n) && (decide (m.fDeltas.length ≤ 20) && (m.fPeaks.all pkB && dsG none m.fDeltas))
def wfB (v : TVariation) : Bool := axsB v.fAxes && (decide (v.fMasters.length ≤ 8) && v.fMasters.all (maB v.fAxes.length))
def axT (a : TAxis) : List UInt8 := [97, 120, 105, 115, 32] ++ (textB a).data.toList ++ [10]
def pkT (p : TPeak) : List UInt8 := [32] ++ decS p.fStart ++ [58] ++ decS p.fTop ++ [58] ++ decS p.fEnd
def knT (k : Int) (p : TPt) : List UInt8 := [32] ++ decS k ++ [58] ++ (decS p.fX ++ [44] ++ decS p.fY)
def knsT : List Int → List TPt → List UInt8
  | k :: ks, p :: ps => knT k p ++ knsT ks ps
  | _, _ => []
def dlT (d : TGlyphDelta) : List UInt8 := [100, 101, 108, 116, 97, 32] ++ decS d.fGlyph ++ [32] ++ decS d.fAdvance ++ knsT d.fKnots d.fMoves ++ [10]
def mrT : List UInt8 := [109, 97, 115, 116, 101, 114]
def maT (m : TMaster) : List UInt8 := mrT ++ m.fPeaks.flatMap pkT ++ [10] ++ m.fDeltas.flatMap dlT
def vrT (v : TVariation) : List UInt8 := v.fAxes.flatMap axT ++ v.fMasters.flatMap maT
theorem fm_at {α : Type} (f : α → List UInt8) {xs : List α} {k : Nat} {x : α} (h : xs[k]? = some x) : (xs.take (k + 1)).flatMap f = (xs.take k).flatMap f ++ f x := by
  rw [take_snoc_get h, List.flatMap_append]; simp
theorem fm_len {α : Type} {f : α → List UInt8} {m : Nat} : ∀ {xs : List α}, (∀ x ∈ xs, (f x).length ≤ m) → (xs.flatMap f).length ≤ m * xs.length
  | [], _ => by simp
  | x :: t, h => by
    have h1 := h x (by simp)
    have h2 := fm_len (f := f) (m := m) (xs := t) (fun y hy => h y (by simp [hy]))
    rw [List.flatMap_cons, List.length_append, List.length_cons, Nat.mul_add]
    omega
theorem fm_take {α : Type} {f : α → List UInt8} {m : Nat} {xs : List α} (h : ∀ x ∈ xs, (f x).length ≤ m) (k : Nat) : ((xs.take k).flatMap f).length ≤ m * xs.length := by
  have h1 := fm_len (f := f) (m := m) (xs := xs.take k) (fun x hx => h x (List.mem_of_mem_take hx))
  have h2 : (xs.take k).length ≤ xs.length := by simp; omega
  exact Nat.le_trans h1 (Nat.mul_le_mul_left m h2)
theorem knsT_at : ∀ {ks : List Int} {ps : List TPt} {i : Nat} {k : Int} {p : TPt}, ks[i]? = some k → ps[i]? = some p → knsT (ks.take (i + 1)) (ps.take (i + 1)) = knsT (ks.take i) (ps.take i) ++ knT k p
  | [], _, i, _, _, h, _ => by simp at h
  | _ :: _, [], i, _, _, _, h => by simp at h
  | a :: ks, b :: ps, 0, k, p, h1, h2 => by
    simp at h1 h2
    subst h1; subst h2
    simp [knsT]
  | a :: ks, b :: ps, i + 1, k, p, h1, h2 => by
    have := knsT_at (ks := ks) (ps := ps) (i := i) (by simpa using h1) (by simpa using h2)
    rw [List.take_succ_cons, List.take_succ_cons, knsT, this, List.take_succ_cons, List.take_succ_cons, knsT, List.append_assoc]
theorem decS_l {n : Int} (h1 : -9223372036854775808 ≤ n) (h2 : n ≤ 9223372036854775807) : (decS n).length ≤ 21 := by
  have := decB_size n (natAbs_bnd h1 h2)
  rwa [decB, mkS_size] at this
theorem ri_len : ∀ {xs : List Int} {q : Int}, riG (some q) xs = true → (∀ x ∈ xs, x ≤ 719) → q ≤ 719 → (xs.length : Int) ≤ 719 - q
  | [], q, _, _, h => by simp; omega
  | y :: t, q, h, hb, hq => by
    simp only [riG, ltI, Bool.and_eq_true, decide_eq_true_eq] at h
    have := ri_len h.2 (fun x hx => hb x (by simp [hx])) (hb y (by simp))
    simp only [List.length_cons]; omega
theorem kn_len {xs : List Int} (h : knG none xs = true) : xs.length ≤ 720 := by
  obtain ⟨h1, h2⟩ := knG_ri _ _ h
  have h3 : riG (some (-1)) xs = true := by
    cases xs with
    | nil => rfl
    | cons y t =>
      have := h2 y (by simp)
      rw [riG, Bool.and_eq_true] at h1
      rw [riG, h1.2]; simp [ltI]; omega
  have := ri_len h3 (fun x hx => (h2 x hx).2) (by omega)
  omega
theorem knT_len {k : Int} {p : TPt} (hk : 0 ≤ k ∧ k ≤ 719) (hp : pntB p = true) : (knT k p).length ≤ 66 := by
  have a := pnt_in hp
  have h1 := decS_l (n := k) (by omega) (by omega)
  have h2 := decS_l (n := p.fX) (by omega) (by omega)
  have h3 := decS_l (n := p.fY) (by omega) (by omega)
  simp only [knT, List.length_append, List.length_cons, List.length_nil]
  omega
theorem knsT_len : ∀ {ks : List Int} {ps : List TPt}, (∀ k ∈ ks, 0 ≤ k ∧ k ≤ 719) → (∀ p ∈ ps, pntB p = true) → (knsT ks ps).length ≤ 66 * ks.length
  | [], _, _, _ => by simp [knsT]
  | _ :: _, [], _, _ => by simp [knsT]
  | k :: ks, p :: ps, h1, h2 => by
    have a := knT_len (h1 k (by simp)) (h2 p (by simp))
    have b := knsT_len (ks := ks) (ps := ps) (fun x hx => h1 x (by simp [hx])) (fun x hx => h2 x (by simp [hx]))
    simp only [knsT, List.length_append, List.length_cons]
    omega
structure GdF (d : TGlyphDelta) : Prop where
  g : 0 ≤ d.fGlyph ∧ d.fGlyph ≤ 39
  a : -262144 ≤ d.fAdvance ∧ d.fAdvance ≤ 262144
  k : ∀ x ∈ d.fKnots, 0 ≤ x ∧ x ≤ 719
  m : ∀ p ∈ d.fMoves, pntB p = true
  l : d.fKnots.length = d.fMoves.length
  n : d.fKnots.length ≤ 720
theorem gd_in {d : TGlyphDelta} (h : gdB d = true) : GdF d := by
  simp only [gdB, inB, Bool.and_eq_true, decide_eq_true_eq, List.all_eq_true] at h
  exact ⟨h.1, h.2.2.2.2, (knG_ri _ _ h.2.1).2, h.2.2.2.1, h.2.2.1, kn_len h.2.1⟩
theorem dlT_len {d : TGlyphDelta} (h : gdB d = true) : (dlT d).length ≤ 50000 := by
  obtain ⟨h1, h2, h3, h4, h5, h6⟩ := gd_in h
  have a := knsT_len h3 h4
  have b := decS_l (n := d.fGlyph) (by omega) (by omega)
  have c := decS_l (n := d.fAdvance) (by omega) (by omega)
  simp only [dlT, List.length_append, List.length_cons, List.length_nil]
  omega
theorem pk_l {p : TPeak} (h : pkB p = true) : (decS p.fStart).length ≤ 21 ∧ (decS p.fTop).length ≤ 21 ∧ (decS p.fEnd).length ≤ 21 := by
  obtain ⟨h1, h2, h3, h4⟩ := pk_facts h
  exact ⟨decS_l (by omega) (by omega), decS_l (by omega) (by omega), decS_l (by omega) (by omega)⟩
theorem pkT_len {p : TPeak} (h : pkB p = true) : (pkT p).length ≤ 66 := by
  obtain ⟨a, b, c⟩ := pk_l h
  simp only [pkT, List.length_append, List.length_cons, List.length_nil]
  omega
structure MaF (n : Nat) (m : TMaster) : Prop where
  l : m.fPeaks.length = n
  d : m.fDeltas.length ≤ 20
  p : ∀ x ∈ m.fPeaks, pkB x = true
  g : ∀ x ∈ m.fDeltas, gdB x = true
theorem ma_in {n : Nat} {m : TMaster} (h : maB n m = true) : MaF n m := by
  simp only [maB, Bool.and_eq_true, decide_eq_true_eq, List.all_eq_true] at h
  exact ⟨h.1, h.2.1, h.2.2.1, dsG_all h.2.2.2⟩
theorem wf_in {v : TVariation} (h : wfB v = true) : axsB v.fAxes = true ∧ v.fAxes.length ≤ 3 ∧ v.fMasters.length ≤ 8 ∧ ∀ m ∈ v.fMasters, MaF v.fAxes.length m := by
  simp only [wfB, Bool.and_eq_true, decide_eq_true_eq, List.all_eq_true] at h
  have h3 : v.fAxes.length ≤ 3 := by
    have := h.1
    simp only [axsB, Bool.and_eq_true, decide_eq_true_eq] at this
    exact this.1
  exact ⟨h.1, h3, h.2.1, fun m hm => ma_in (h.2.2 m hm)⟩
theorem axs_at {xs : List TAxis} (h : axsB xs = true) {k : Nat} {x : TAxis} (hx : xs[k]? = some x) : axB x = true := by
  have key : ∀ (ys pre : List TAxis), axsGo pre ys = true → ∀ (j : Nat) (y : TAxis), ys[j]? = some y → axB y = true := by
    intro ys
    induction ys with
    | nil => intro pre _ j y hy; simp at hy
    | cons z ys ih =>
      intro pre hp j y hy
      simp only [axsGo, Bool.and_eq_true] at hp
      cases j with
      | zero => simp at hy; subst hy; exact hp.1
      | succ j => exact ih _ hp.2.2 j y (by simpa using hy)
  simp only [axsB, Bool.and_eq_true] at h
  exact key xs [] h.2 k x hx
theorem textB_size {a : TAxis} (h : axB a = true) : (textB a).size ≤ 1000 := by
  have := take_sz h a.fMap.length
  rwa [List.take_of_length_le (by rw [words_len]; omega)] at this
theorem axT_len {a : TAxis} (h : axB a = true) : (axT a).length ≤ 1006 := by
  have := textB_size h
  simp only [axT, List.length_append, List.length_cons, List.length_nil, Array.length_toList]
  show 5 + (textB a).size + 1 ≤ 1006
  omega
theorem maT_len {n : Nat} {m : TMaster} (hn : n ≤ 3) (h : MaF n m) : (maT m).length ≤ 1000300 := by
  obtain ⟨h1, h2, h3, h4⟩ := h
  have a := fm_len (f := pkT) (m := 66) (fun x hx => pkT_len (h3 x hx))
  have b := fm_len (f := dlT) (m := 50000) (fun x hx => dlT_len (h4 x hx))
  simp only [maT, mrT, List.length_append, List.length_cons, List.length_nil]
  omega
end Go.Proofs.YtaldaoagjbapkaaGreatDoor