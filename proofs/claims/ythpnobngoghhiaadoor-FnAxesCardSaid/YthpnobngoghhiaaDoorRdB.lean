/- merged: several parts in one text. Leans on no more than they do. -/
import Derived.Test.YthpnobngoghhiaaDoorRaV
import Derived.Test.YthpnobngoghhiaaDoorBase
import Derived.LaidMore
import Derived.Lay
import Derived.Test.YthpnobngoghhiaaDoorVMX
set_option linter.unusedSimpArgs false
set_option linter.unusedVariables false
namespace Go.Proofs.YthpnobngoghhiaaDoor
open Go.RowKit
structure AxPack (a : TAxis) (v w x y lo hi pl : Int) (tx : ByteArray) : Prop where
  n1 : PC Tryd.prog 13 [.d a.D, .d (.int .i64 v)] (.tup [.d (.int .i64 x), .d (.int .i64 0)]) []
  n2 : PC Tryd.prog 13 [.d a.D, .d (.int .i64 w)] (.tup [.d (.int .i64 y), .d (.int .i64 0)]) []
  n3 : PC Tryd.prog 13 [.d a.D, .d (.int .i64 a.fDefault)] (.tup [.d (.int .i64 0), .d (.int .i64 0)]) []
  n4 : PC Tryd.prog 13 [.d a.D, .d (.int .i64 a.fMin)] (.tup [.d (.int .i64 lo), .d (.int .i64 0)]) []
  n5 : PC Tryd.prog 13 [.d a.D, .d (.int .i64 a.fMax)] (.tup [.d (.int .i64 hi), .d (.int .i64 0)]) []
  p1 : PC Tryd.prog 14 [.d a.D, .d (.int .i64 v)] (.tup [.d (.int .i64 pl), .d (.int .i64 0)]) []
  m1 : PC Tryd.prog 15 [.d a.D, .d (.int .i64 pl)] (.tup [.d (.int .i64 x), .d (.int .i64 0)]) []
  t1 : PC Tryd.prog 16 [.d a.D] (.d (.str tx)) []
  r1 : PC Tryd.prog 6 [.d (.str tx)] (.tup [.st [.d (.str a.fName), .d (.int .i64 a.fMin), .d (.int .i64 a.fDefault), .d (.int .i64 a.fMax), .own 1 0 a.fMap.length], .d (.bool true)]) [.arr 2 (a.fMap.map TAxisPoint.D) true]
  s1 : PC Tryd.prog 17 [.d (.lst [a.D]), .d (.lst [a.D])] (.d (.bool true)) []
  xy : x ≤ y
  x1 : -16384 ≤ x
  y1 : y ≤ 16384
  l1 : a.fMin < a.fDefault → lo = -16384
  h1 : a.fDefault < a.fMax → hi = 16384
theorem ax_pack {a : TAxis} (ha : axB a = true) {v w : Int} (hvw : v ≤ w) : ∃ x y lo hi pl tx, AxPack a v w x y lo hi pl tx := by
  have hc : cdA (axB a) = 0 := by rw [ha]; rfl
  have hN : ∀ u, PC Tryd.prog 13 [.d a.D, .d (.int .i64 u)] (.tup [.d (.int .i64 (nmI a u)), .d (.int .i64 0)]) [] := fun u => by
    have := NormalOf_v a u
    rw [hc] at this; exact this
  have hb := nmI_bnd ha v
  have hb2 := nmI_bnd ha w
  have hp := plainN_nrm ha v
  refine ⟨nmI a v, nmI a w, nmI a a.fMin, nmI a a.fMax, plainN a v, textB a, hN v, hN w, ?_, hN _, hN _, ?_, ?_, ?_, ?_, ?_, nmI_mono ha hvw, hb.1, hb2.2, nmI_min ha, nmI_max ha⟩
  · have := hN a.fDefault
    rw [nmI_def ha] at this; exact this
  · have := PlainNormal_v a v
    rw [hc, show plI a v = plainN a v by rw [plI, if_pos ha]] at this; exact this
  · have := MapNormal_v a (plainN a v)
    rw [show mpI a (plainN a v) = nmI a v by rw [mpI, if_pos ha, if_pos hp, nmI_eq ha], show mpC a (plainN a v) = 0 by rw [mpC, if_pos ha, if_pos hp]] at this; exact this
  · have := AxisText_v a
    rw [if_pos ha] at this; exact this
  · have hs : (textB a).size ≤ 1048576 := by
      have h1 := jn_size (m := 43) (xs := wordsB a) (fun x hx => words_sz ha x hx)
      have h2 := ax_sizes ha
      have h3 : (wordsB a).length = 4 + a.fMap.length := by simp [wordsB]; omega
      rw [textB]
      rw [h3] at h1
      omega
    exact ReadAxis_v (textB a) hs _ _ ⟨(fun b hb => by rw [raA_of ha] at hb; cases hb; exact ⟨rfl, rfl⟩), fun h => by rw [raA_of ha] at h; cases h⟩
  · have := specSameAxes_v [a] [a]
    rw [axEq_self] at this; exact this
set_option maxHeartbeats 8000000 in
set_option maxRecDepth 100000 in
theorem FnAxes_v (xs ys : List UInt8) : PC Tryd.prog 4 [.d (.lst (xs.map bD)), .d (.lst (ys.map bD))] (.d (.bool true)) [] := by
  refine pc_intro ttOk (by kernel_rfl) Tryd.func4 rfl (by kernel_rfl) (by kernel_rfl) (by kernel_rfl) (fun hw => ?_)
  have hLx : (xs.map bD).length = xs.length := List.length_map _
  have hLy : (ys.map bD).length = ys.length := List.length_map _
  have c0 := a2Long_v xs ys
  have c1 := A2Axis_x xs
  (conv => whnf)
  by_cases hlong : 3000 < xs.length ∨ 3000 < ys.length
  · rw [show (decide (3000 < xs.length) || decide (3000 < ys.length)) = true by simpa using hlong] at c0
    (repeat' (first | (refine stg_ ?_) | (refine cla_ (c0) ?_) | (refine br_ (fun hbr => ?_) (fun hbr => ?_))))
    all_goals ((refine RetOK.d rfl rfl ?_; conv => whnf); done)
  rw [show (decide (3000 < xs.length) || decide (3000 < ys.length)) = false by simpa using hlong] at c0
  (repeat (refine stg_ ?_))
  (refine cla_ (c0) ?_)
  (repeat (refine stg_ ?_))
  refine clx_ c1 ?_
  have c2 : PC Tryd.prog 12 [.d (.lst (ys.map bD)), .d (.int .i64 0), .d (.int .i64 256)] (.d (.int .i64 (a2N ys (0 : Nat) 256))) [] := a2At_v ys 0 256
  have hp := a2N_in ys (0 : Nat) 256 (by omega)
  generalize a2N ys (0 : Nat) 256 = p at c2 hp
  have c3 : PC Tryd.prog 12 [.d (.lst (ys.map bD)), .d (.int .i64 1), .d (.int .i64 50)] (.d (.int .i64 (a2N ys (1 : Nat) 50))) [] := a2At_v ys 1 50
  have hq := a2N_in ys (1 : Nat) 50 (by omega)
  generalize a2N ys (1 : Nat) 50 = q at c3 hq
  have key : ∀ a : TAxis, axB a = true → ∃ v w : Int, v = a.fMin + (p * (a.fMax - a.fMin)).tdiv 255 ∧ w = v + q ∧ -32000 ≤ v ∧ v ≤ 32300 ∧ 0 ≤ p * (a.fMax - a.fMin) ∧ p * (a.fMax - a.fMin) ≤ 256 * 64000 := fun a ha => by
    obtain ⟨h1, h2, h3, h4, h5, -⟩ := axB_facts ha
    have e1 : 0 ≤ p * (a.fMax - a.fMin) := Int.mul_nonneg hp.1 (by omega)
    have e2 : p * (a.fMax - a.fMin) ≤ 255 * (a.fMax - a.fMin) := Int.mul_le_mul_of_nonneg_right (by omega) (by omega)
    refine ⟨_, _, rfl, rfl, ?_, ?_, e1, by omega⟩
    · rw [Int.tdiv_eq_ediv_of_nonneg e1]; omega
    · rw [Int.tdiv_eq_ediv_of_nonneg e1]; omega
  rintro v bs (⟨a, ha, hm, rfl, rfl⟩ | ⟨a, ha, rfl, rfl⟩)
  · refine ⟨rfl, ?_⟩
    obtain ⟨h1, h2, h3, h4, h5, h6⟩ := axB_facts ha
    obtain ⟨v, w, hv, hw', hv1, hv2, hz1, hz2⟩ := key a ha
    obtain ⟨x, y, lo, hi, pl, tx, ⟨n1, n2, n3, n4, n5, p1, m1, t1, r1, s1, xy, x1, y1, l1, g1⟩⟩ := ax_pack ha (show v ≤ w by omega)
    have hD : a.D = .st [.str a.fName, .int .i64 a.fMin, .int .i64 a.fDefault, .int .i64 a.fMax, .lst []] := by
      show D.st [.str a.fName, .int .i64 a.fMin, .int .i64 a.fDefault, .int .i64 a.fMax, .lst (a.fMap.map TAxisPoint.D)] = _
      rw [hm]; rfl
    rw [hm] at r1
    rw [hD] at n1 n2 n3 n4 n5 p1 m1 t1 s1
    rw [hw', hv] at n2
    rw [hv] at n1 p1
    (conv => whnf)
    repeat' (first | (refine stg_ ?_) | (refine cla_ (c2) ?_) | (refine cla_ (c3) ?_) | (refine cla_ (n1) ?_) | (refine cla_ (n2) ?_) | (refine cla_ (n3) ?_) | (refine cla_ (n4) ?_) | (refine cla_ (n5) ?_) | (refine cla_ (p1) ?_) | (refine cla_ (m1) ?_) | (refine cla_ (t1) ?_) | (refine cla_ (r1) ?_) | (refine cla_ (s1) ?_) | (refine br_ (fun hbr => ?_) (fun hbr => ?_); (focus (exfalso; omega))) | (refine br_ (fun hbr => ?_) (fun hbr => ?_); rotate_left; (focus (exfalso; omega))) | (refine br_ (fun hbr => ?_) (fun hbr => ?_)))
    all_goals first | ((refine RetOK.d rfl rfl ?_; conv => whnf); done) | (exfalso; simp_all; done) | (exfalso; omega) | trace_state
  · refine ⟨rfl, ?_⟩
    obtain ⟨h1, h2, h3, h4, h5, h6⟩ := axB_facts ha
    obtain ⟨v, w, hv, hw', hv1, hv2, hz1, hz2⟩ := key a ha
    obtain ⟨x, y, lo, hi, pl, tx, ⟨n1, n2, n3, n4, n5, p1, m1, t1, r1, s1, xy, x1, y1, l1, g1⟩⟩ := ax_pack ha (show v ≤ w by omega)
    have hLm : (a.fMap.map TAxisPoint.D).length = a.fMap.length := List.length_map _
    rw [hw', hv] at n2
    rw [hv] at n1 p1
    (conv => whnf)
    repeat' (first | (refine stg_ ?_) | (refine cla_ (c2) ?_) | (refine cla_ (c3) ?_) | (refine cla_ (n1) ?_) | (refine cla_ (n2) ?_) | (refine cla_ (n3) ?_) | (refine cla_ (n4) ?_) | (refine cla_ (n5) ?_) | (refine cla_ (p1) ?_) | (refine cla_ (m1) ?_) | (refine cla_ (t1) ?_) | (refine cla_ (r1) ?_) | (refine cla_ (s1) ?_) | (refine br_ (fun hbr => ?_) (fun hbr => ?_); (focus (exfalso; omega))) | (refine br_ (fun hbr => ?_) (fun hbr => ?_); rotate_left; (focus (exfalso; omega))) | (refine br_ (fun hbr => ?_) (fun hbr => ?_)))
    all_goals first | ((refine RetOK.d rfl rfl ?_; conv => whnf); done) | (exfalso; simp_all; done) | (exfalso; omega) | trace_state
open Go.ChangeShapes Go.WideShapes Go.ChangeAt Go.RowKit
theorem law_lift_laid {C : Checked} {f : FuncId} {fn : Func} {s : ChangeSpec} {ts : List TypeId} {T : TypeId} {conds : List PathCond} (X : World → Array Value → Prop) (hX : ∀ (w w' : World) (args : Array Value), w.heap = w'.heap → X w args → X w' args)
    (own : ownKnob C.prog.godebug = none) (hl : laidOutB C.prog = true)
    (noInit : C.prog.inits.idxOf? f = none) (hfn : C.prog.funcs[f]? = some fn) (hp : fn.params.toList = ts) (hr : fn.resultTypes = #[T]) (hT : C.prog.underlying T = some .bool)
    (hts : ∀ t ∈ ts, C.prog.readableRec t = true ∧ t < C.prog.types.size) (hv : s.vars = [])
    (hs : ∀ (H : Type) (ds : List (DataW H)), ds.length = ts.length → (s.fn H ds).results = [.lit (.bool true)] ∧ (s.fn H ds).args = ds ∧ (s.fn H ds).vars = [])
    (hc : LawCalls C.prog f ts) (os : Os) (started : os.Started) (H : Type) (enc : TypeId × Value → H)
    (witness : ∃ (w : World) (tape : Tape) (i : Input), w.os = os ∧ (w.forCall tape i).Shaped C.prog ∧ i.vars = [] ∧ Input.okWide C.prog (w.forCall tape i) .any w.heap.size f i ∧
      ((s.pre enc C.prog fn conds false (w.forCall tape i).memory i.args ∧ X (w.forCall tape i).memory i.args) ∧ sizedMet enc C.prog fn (OpenSpec.ofChange s) false (w.forCall tape i).memory i.args) ∧ ({} : Assume).holds C.prog (lone (Frame.enter C.prog f i.args .normal) [] (w.forCall tape i))) :
    ReturnsInHanded {} C os f .any (fun w args => (s.pre enc C.prog fn conds false w args ∧ X w args) ∧ sizedMet enc C.prog fn (OpenSpec.ofChange s) false w args) (s.post enc C.prog fn false true false false) := by
  refine returnsInHanded_of_change_and (X := X) hX own started noInit hfn witness ?_
  intro W base args ds gs before hval hW _ _ _ _
  have hW' := hW
  obtain ⟨p, q, hA, hV, rfl, hfz, hnd⟩ := hW
  rw [hv] at hV
  obtain ⟨rfl, rfl⟩ := trodVars_none hV
  rw [hp] at hA
  have hlen : ∀ (ts : List TypeId) (vs : List Value) (ds : List (DataW H)) (ps : List MemPlace), DataW.TrodAll enc C.prog W 0 (fun _ => true) true ts vs ds ps → ds.length = ts.length := by
    intro ts
    induction ts with
    | nil => intro vs ds ps h; obtain ⟨_, rfl, _⟩ := trodAll_nil h; rfl
    | cons t ts ih =>
      intro vs ds ps h
      obtain ⟨v, vs', d, ds', p, q, _, rfl, _, _, h'⟩ := ChangeShapes.trodAll_cons h
      simp [ih _ _ _ h']
  have hd := hlen _ _ _ _ hA
  obtain ⟨hs1, hs2, hs3⟩ := hs H ds hd
  have hval' : ∀ (j : Nat) t v, ts[j]? = some t → args.toList[j]? = some v → Value.okWide C.prog W .any base t v := fun j t v h1 h2 => hval j t v (by rw [← hp] at h1; simpa using h1) (by simpa using h2)
  have hcall := hc H enc W base args.toList ds p hval' hA
  rw [Array.toArray_toList] at hcall
  refine hcall.mono fun e W' ⟨he, bel⟩ => ⟨_, he, ds, [], _, [], p, [], hW', ?_, ?_, ?_, bel.below.frame _, fun h => by cases h⟩
  · rw [List.append_nil, hs1, hr]
    exact trodAll_mk1 (shut_bool hT _)
  · rw [List.append_nil, hs2, hp]
    exact trodAll_below hl bel.below _ _ _ _ hts hA
  · rw [List.append_nil, hs3, hv]
    rfl
theorem rdt_byte : RdD Tryd.prog 5 1 fun d => ∃ x : UInt8, d = bD x :=
  ⟨by kernel_rfl, fun H enc w fuel cs x h => by
    obtain ⟨n, rfl, _, hw⟩ := DataW.trod_int Tryd.underlying5 h
    have hr := inR_wf hw
    have e1 : IntKind.u8.min = 0 := rfl
    have e2 : IntKind.u8.max = 255 := rfl
    obtain ⟨x, rfl⟩ : ∃ x : UInt8, n = (x.toNat : Nat) := ⟨UInt8.ofNat n.toNat, by
      unfold inR at hr
      simp only [UInt8.toNat_ofNat']
      omega⟩
    exact ⟨_, ⟨x, rfl⟩, rfl, rfl, hr⟩⟩
theorem rdt_byteS : RdD Tryd.prog 30 1 fun d => ∃ x : List UInt8, d = .lst (x.map bD) := rd2_list Tryd.underlying30 (by kernel_rfl) (by decide) rdt_byte
end Go.Proofs.YthpnobngoghhiaaDoor