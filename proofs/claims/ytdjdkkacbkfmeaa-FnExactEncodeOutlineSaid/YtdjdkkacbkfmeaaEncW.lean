/- EncodeOutline (spec), by the machine. -/
import Derived.Test.YtdjdkkacbkfmeaaEncV
import Derived.Test.YtdjdkkacbkfmeaaVMBox
set_option linter.unusedSimpArgs false
set_option linter.unusedVariables false
namespace Go.Proofs.Ytdjdkkacbkfmeaa
open Go.RowKit
set_option maxHeartbeats 4000000 in
theorem l32Outline_v (o : TOutline) (ho : outB o = true) : PC Try.prog 52 [.pX o.D] (.d (.str (mkS (otL o)))) [] := by
  refine pc_intro ttOk (by kernel_rfl) Try.func52 rfl (by kernel_rfl) (by kernel_rfl) (by kernel_rfl) (fun hw => ?_)
  obtain ⟨ho1, ho2⟩ := out_in ho
  have hL : (o.fLoops.map TLoop.D).length = o.fLoops.length := List.length_map _
  have c1 := l01Word_v (o.fLoops.length : Nat) 1 (by omega)
  rw [← hL] at c1
  (conv => whnf)
  (repeat (refine stg_ ?_))
  (refine cla_ (c1) ?_)
  (repeat (refine stg_ ?_))
  rw [hL]
  refine LoopW.go (α := Nat) (fun i => [(0, .pX o.D), (3, .d (.str (mkS (wdL 1 (o.fLoops.length : Nat) ++ enL pt0 (o.fLoops.take i))))), (4, .pB 1 [] 0), (5, .d (.int .i64 i))]) (fun i => [.gone, .box (.d (enP pt0 (o.fLoops.take i)).D)]) (fun i => i ≤ o.fLoops.length) (fun i => o.fLoops.length - i) 0 (Weak.trans (Weak.boxd (xs := [.int .i64 0, .int .i64 0]) 1 rfl rfl) (Weak.cov ⟨rfl, ?_, rfl, rfl, trivial⟩ ⟨trivial, rfl, trivial⟩ rfl)) (by omega) (fun i hi => ?_)
  · show V.d (.str (mkS (wdL 1 (o.fLoops.length : Nat)))) = V.d (.str (mkS (wdL 1 (o.fLoops.length : Nat) ++ enL pt0 (o.fLoops.take 0))))
    simp [enL]
  have hel : (enL pt0 (o.fLoops.take i)).length ≤ 481 * o.fLoops.length := by
    have h1 := enL_len (p := pt0) (ls := o.fLoops.take i) (mem_take' ho2 i)
    have h2 : (o.fLoops.take i).length ≤ o.fLoops.length := by simp; omega
    omega
  have hpi := enP_in (p := pt0) (ls := o.fLoops.take i) pt0_in (mem_take' ho2 i)
  generalize hpp : enP pt0 (o.fLoops.take i) = p at *
  (conv => whnf)
  (refine br_ (fun h1 => ?_) (fun h1 => ?_))
  · obtain ⟨l, hl⟩ := at_lt' (xs := o.fLoops) (k := i) (by omega)
    obtain ⟨l1, l2, l3⟩ := loop_in (ho2 l (List.mem_of_getElem? hl))
    have hLk : (l.fKnots.map TKnot.D).length = l.fKnots.length := List.length_map _
    (repeat (refine stg_ ?_))
    refine LoopW.go (α := Nat) (fun k => [(0, .pX o.D), (3, .d (.str (mkS (wdL 1 (o.fLoops.length : Nat) ++ enL pt0 (o.fLoops.take i))))), (4, .pB 1 [] 0), (5, .d (.int .i64 i)), (6, .d (.lst (l.fKnots.map TKnot.D))), (7, .own 2 0 ((fgL p (l.fKnots.take k)).map (D.int .i64)).length), (8, .d (.str (mkS (xsL TPt.fX (stL p (l.fKnots.take k)))))), (9, .d (.str (mkS (xsL TPt.fY (stL p (l.fKnots.take k)))))), (10, .d (.int .i64 k))]) (fun k => [.gone, .box (.d (endK p (l.fKnots.take k)).D), .arr 1 ((fgL p (l.fKnots.take k)).map (D.int .i64)) true]) (fun k => k ≤ l.fKnots.length) (fun k => l.fKnots.length - k) 0 covT_ (by omega) (fun k hk => ?_)
    have hfl : (fgL p (l.fKnots.take k)).length = k := by rw [fgL_len]; simp; omega
    have hfl2 : ((fgL p (l.fKnots.take k)).map (D.int .i64)).length = k := by rw [List.length_map]; exact hfl
    have hqi := endK_in (p := p) (ks := l.fKnots.take k) hpi (mem_take' l3 k)
    have hx3 := xsL_len TPt.fX (stL p (l.fKnots.take k))
    have hy3 := xsL_len TPt.fY (stL p (l.fKnots.take k))
    have hsl : (stL p (l.fKnots.take k)).length = k := by rw [stL_len]; simp; omega
    have hqp := pnt_in hqi
    (conv => whnf)
    (refine br_ (fun h2 => ?_) (fun h2 => ?_))
    · obtain ⟨n, hn⟩ := at_lt' (xs := l.fKnots) (k := k) (by omega)
      have hnp := pnt_in (l3 n (List.mem_of_getElem? hn))
      have hf1 : fgL p (l.fKnots.take (k + 1)) = fgL p (l.fKnots.take k) ++ [flN n (endK p (l.fKnots.take k))] := by rw [take_snoc_get hn, fgL_snoc]
      have hs1 : stL p (l.fKnots.take (k + 1)) = stL p (l.fKnots.take k) ++ [⟨n.fAt.fX - (endK p (l.fKnots.take k)).fX, n.fAt.fY - (endK p (l.fKnots.take k)).fY⟩] := by rw [take_snoc_get hn, stL_snoc]
      have he1 : endK p (l.fKnots.take (k + 1)) = n.fAt := by rw [take_snoc_get hn, endK_snoc]
      generalize hq : endK p (l.fKnots.take k) = q at *
      have cA := l20Truth_v n.fOn
      have cB := l32Kind_v (n.fAt.fX - q.fX)
      have cC := l32Kind_v (n.fAt.fY - q.fY)
      have cD := l32Put_v (n.fAt.fX - q.fX)
      have cE := l32Put_v (n.fAt.fY - q.fY)
      have kB := kdN_le (n.fAt.fX - q.fX)
      have kC := kdN_le (n.fAt.fY - q.fY)
      have kA : 0 ≤ trI n.fOn ∧ trI n.fOn ≤ 1 := by unfold trI; split <;> omega
      have lD := pdL_len (n.fAt.fX - q.fX)
      have lE := pdL_len (n.fAt.fY - q.fY)
      have hfv : flN n q = trI n.fOn + 2 * kdN (n.fAt.fX - q.fX) + 8 * kdN (n.fAt.fY - q.fY) := rfl
      (repeat (refine stg_ ?_))
      (repeat' (first | (refine stg_ ?_) | (refine cla_ (cA) ?_) | (refine cla_ (cB) ?_) | (refine cla_ (cC) ?_) | (refine cla_ (cD) ?_) | (refine cla_ (cE) ?_) | (refine CatW.at (by show _ ≤ 9223372036854775807; simp only [ByteArray.size_append, mkS_size, wdL_len]; omega) ?_; conv => whnf) | (refine br_ (fun hbr => ?_) (fun hbr => ?_))))
      refine NextW.go (k + 1) (Weak.cov ⟨rfl, rfl, rfl, rfl, rfl, ?_, ?_, ?_, rfl, trivial⟩ ⟨trivial, ?_, ?_, trivial⟩ rfl) (by omega) (by omega)
      · rw [hf1]; simp only [List.map_append, List.length_append]; rfl
      · rw [hs1, xsL_snoc, ← mkS_app]; rfl
      · rw [hs1, xsL_snoc, ← mkS_app]; rfl
      · rw [he1]
      · rw [hf1, List.map_append, List.take_length]; try rfl
    · obtain rfl : k = l.fKnots.length := by omega
      rw [List.take_length] at *
      have cF := l01Word_v (l.fKnots.length : Nat) 1 (by omega)
      have cG := l32Flags_v (fgL p l.fKnots) (fgL_le p l.fKnots) (by omega)
      have lG := rle_len (fgL p l.fKnots).length (fgL p l.fKnots)
      rw [← hLk] at cF
      have hS : enL pt0 (o.fLoops.take (i + 1)) = enL pt0 (o.fLoops.take i) ++ lpE2 p l := by rw [take_snoc_get hl, enL_snoc, hpp]
      have hE1 : enP pt0 (o.fLoops.take (i + 1)) = endK p l.fKnots := by rw [take_snoc_get hl, enP_snoc, hpp]
      (repeat (refine stg_ ?_))
      (repeat' (first | (refine stg_ ?_) | (refine cla_ (cF) ?_) | (refine cla_ (cG) ?_) | (refine CatW.at (by show _ ≤ 9223372036854775807; simp only [ByteArray.size_append, mkS_size, wdL_len, List.length_append]; omega) ?_; conv => whnf) | (refine br_ (fun hbr => ?_) (fun hbr => ?_))))
      refine NextW.go (i + 1) (Weak.cov ⟨rfl, ?_, rfl, rfl, trivial⟩ ⟨trivial, ?_, trivial⟩ rfl) (by omega) (by omega)
      · rw [hS, lpE2, hLk]
        simp only [← mkS_app, ← ByteArray.append_assoc]
        rfl
      · rw [hE1]
  · obtain rfl : i = o.fLoops.length := by omega
    (repeat (refine stg_ ?_))
    (refine RetOK.d rfl rfl ?_; conv => whnf)
    rw [List.take_length]; rfl
def enS (o : TOutline) : ByteArray := if outB o = true then mkS (otL o) else .empty
def enC (o : TOutline) : Int := if outB o = true then 0 else 1
theorem specEncodeOutline_v (o : TOutline) : PC Try.prog 14 [.d o.D] (.tup [.d (.str (enS o)), .d (.int .i64 (enC o))]) [] := by
  refine pc_intro ttOk (by kernel_rfl) Try.func14 rfl (by kernel_rfl) (by kernel_rfl) (by kernel_rfl) (fun hw => ?_)
  have hS : enS o = if outB o = true then mkS (otL o) else .empty := rfl
  have hC : enC o = if outB o = true then 0 else 1 := rfl
  cases hB : outB o
  · rw [hB, if_neg (by decide)] at hS hC
    rw [hS, hC]
    (conv => whnf)
    (repeat' (first | (refine stg_ ?_) | (refine cla_ (l10Ok_v o) ?_) | (refine br_ (fun hbr => ?_) (fun hbr => ?_))))
    all_goals first | (exfalso; simp_all; done) | ((refine RetOK.t rfl ?_; (repeat' ((conv => whnf); (first | done | (refine ⟨_, _, rfl, ⟨rfl, ?_⟩, ?_⟩) | fail))); (all_goals (conv => whnf))); (all_goals rfl))
  · rw [hB, if_pos rfl] at hS hC
    rw [hS, hC]
    (conv => whnf)
    (repeat' (first | (refine stg_ ?_) | (refine cla_ (l10Ok_v o) ?_) | (refine cla_ (l32Outline_v o hB) ?_) | (refine br_ (fun hbr => ?_) (fun hbr => ?_))))
    all_goals first | (exfalso; simp_all; done) | ((refine RetOK.t rfl ?_; (repeat' ((conv => whnf); (first | done | (refine ⟨_, _, rfl, ⟨rfl, ?_⟩, ?_⟩) | fail))); (all_goals (conv => whnf))); (all_goals rfl))
end Go.Proofs.Ytdjdkkacbkfmeaa
