/- EncodeOutline (impl), by the machine. -/
import Derived.Test.YtdjdkkacbkfmeaaEncW
set_option linter.unusedSimpArgs false
set_option linter.unusedVariables false
namespace Go.Proofs.Ytdjdkkacbkfmeaa
open Go.RowKit
theorem wb_w (bs : List UInt8) (x : Int) (h0 : 0 ≤ x) (h1 : x < 256) (hlen : bs.length + 1 ≤ 140737488355328) : BC Try.prog 103 107 5 bs [.d (.int .u8 x)] .top (bs ++ wdL 1 x) := by
  have := wb_b bs (UInt8.ofNat x.toNat) hlen
  rwa [u8_nat h0 h1, ← wdL1 h0 h1] at this
set_option maxHeartbeats 8000000 in
theorem encodeOutline_v (o : TOutline) (ho : outB o = true) : PC Try.prog 55 [.d o.D] (.d (.str (mkS (otL o)))) [] := by
  refine pc_intro ttOk (by kernel_rfl) Try.func55 rfl (by kernel_rfl) (by kernel_rfl) (by kernel_rfl) (fun hw => ?_)
  obtain ⟨ho1, ho2⟩ := out_in ho
  have hL : (o.fLoops.map TLoop.D).length = o.fLoops.length := List.length_map _
  have hw1 := wdL1 (x := (o.fLoops.length : Nat)) (by omega) (by omega)
  have c1 := wb_b [] (UInt8.ofNat ((o.fLoops.length : Nat) : Int).toNat) (by simp)
  rw [u8_nat (by omega) (by omega), ← hw1, ← hL] at c1
  (conv => whnf)
  (repeat (refine stg_ ?_))
  (refine clb_ (c1) ?_)
  (repeat (refine stg_ ?_))
  refine LoopW.go (α := Nat) (fun i => [(3, .pB 2 [] 0), (4, .pB 3 [] 0), (23, .d (.lst (o.fLoops.map TLoop.D))), (24, .d (.int .i64 (o.fLoops.map TLoop.D).length)), (25, .d (.int .i64 i))]) (fun i => [.gone, .gone, .bld 107 5 (wdL 1 (o.fLoops.length : Nat) ++ enL pt0 (o.fLoops.take i)), .box (.d (enP pt0 (o.fLoops.take i)).D)]) (fun i => i ≤ o.fLoops.length) (fun i => o.fLoops.length - i) 0 (Weak.trans (Weak.boxd (xs := [.int .i64 0, .int .i64 0]) 3 rfl rfl) (Weak.cov ⟨rfl, rfl, rfl, rfl, rfl, trivial⟩ ⟨trivial, trivial, ?_, rfl, trivial⟩ rfl)) (by omega) (fun i hi => ?_)
  · rw [hL]; simp [enL]; try rfl
  have hel : (enL pt0 (o.fLoops.take i)).length ≤ 481 * o.fLoops.length := by
    have h1 := enL_len (p := pt0) (ls := o.fLoops.take i) (mem_take' ho2 i)
    have h2 : (o.fLoops.take i).length ≤ o.fLoops.length := by simp; omega
    omega
  have hpi := enP_in (p := pt0) (ls := o.fLoops.take i) pt0_in (mem_take' ho2 i)
  generalize hpp : enP pt0 (o.fLoops.take i) = p at *
  have hwl := wdL_len 1 ((o.fLoops.length : Nat) : Int)
  generalize hBB : wdL 1 ((o.fLoops.length : Nat) : Int) ++ enL pt0 (o.fLoops.take i) = BB at *
  have hBl : BB.length ≤ 6000 := by rw [← hBB, List.length_append]; omega
  (conv => whnf)
  (refine br_ (fun h1 => ?_) (fun h1 => ?_))
  · obtain ⟨l, hl⟩ := at_lt' (xs := o.fLoops) (k := i) (by omega)
    obtain ⟨l1, l2, l3⟩ := loop_in (ho2 l (List.mem_of_getElem? hl))
    have hLk : (l.fKnots.map TKnot.D).length = l.fKnots.length := List.length_map _
    have he : (o.fLoops.map TLoop.D)[i]? = some l.D := by rw [List.getElem?_map, hl]; rfl
    (repeat (refine stg_ ?_))
    refine LoopW.go (α := Nat) (fun k => [(3, .pB 2 [] 0), (4, .pB 3 [] 0), (6, .pB 4 [] 0), (7, .own 5 0 ((fgL p (l.fKnots.take k)).map (D.int .u8)).length), (8, .own 6 0 ((stL p (l.fKnots.take k)).map TPt.D).length), (23, .d (.lst (o.fLoops.map TLoop.D))), (24, .d (.int .i64 (o.fLoops.map TLoop.D).length)), (25, .d (.int .i64 i)), (30, .d (.lst (l.fKnots.map TKnot.D))), (31, .d (.int .i64 (l.fKnots.map TKnot.D).length)), (32, .d (.int .i64 k))]) (fun k => [.gone, .gone, .bld 107 5 BB, .box (.d (endK p (l.fKnots.take k)).D), .box (.d l.D), .arr 1 ((fgL p (l.fKnots.take k)).map (D.int .u8)) true, .arr 2 ((stL p (l.fKnots.take k)).map TPt.D) true]) (fun k => k ≤ l.fKnots.length) (fun k => l.fKnots.length - k) 0 (Weak.trans (Weak.adopt (k := 7) rfl 1 true) (Weak.trans (Weak.adopt (k := 8) rfl 2 true) covT_)) (by omega) (fun k hk => ?_)
    have hfl : (fgL p (l.fKnots.take k)).length = k := by rw [fgL_len]; simp; omega
    have hfl2 : ((fgL p (l.fKnots.take k)).map (D.int .u8)).length = k := by rw [List.length_map]; exact hfl
    have hqi := endK_in (p := p) (ks := l.fKnots.take k) hpi (mem_take' l3 k)
    have hsl : (stL p (l.fKnots.take k)).length = k := by rw [stL_len]; simp; omega
    have hsl2 : ((stL p (l.fKnots.take k)).map TPt.D).length = k := by rw [List.length_map]; exact hsl
    have hqp := pnt_in hqi
    (conv => whnf)
    (refine br_ (fun h2 => ?_) (fun h2 => ?_))
    · obtain ⟨n, hn⟩ := at_lt' (xs := l.fKnots) (k := k) (by omega)
      have hen : (l.fKnots.map TKnot.D)[k]? = some n.D := by rw [List.getElem?_map, hn]; rfl
      have hnp := pnt_in (l3 n (List.mem_of_getElem? hn))
      have hf1 : fgL p (l.fKnots.take (k + 1)) = fgL p (l.fKnots.take k) ++ [flN n (endK p (l.fKnots.take k))] := by rw [take_snoc_get hn, fgL_snoc]
      have hs1 : stL p (l.fKnots.take (k + 1)) = stL p (l.fKnots.take k) ++ [⟨n.fAt.fX - (endK p (l.fKnots.take k)).fX, n.fAt.fY - (endK p (l.fKnots.take k)).fY⟩] := by rw [take_snoc_get hn, stL_snoc]
      have he1 : endK p (l.fKnots.take (k + 1)) = n.fAt := by rw [take_snoc_get hn, endK_snoc]
      generalize hq : endK p (l.fKnots.take k) = q at *
      have cA := truth_v n.fOn
      have cB := differenceKind_v (n.fAt.fX - q.fX)
      have cC := differenceKind_v (n.fAt.fY - q.fY)
      have kB := kdN_le (n.fAt.fX - q.fX)
      have kC := kdN_le (n.fAt.fY - q.fY)
      have kA : 0 ≤ trI n.fOn ∧ trI n.fOn ≤ 1 := by unfold trI; split <;> omega
      have hfv : flN n q = trI n.fOn + 2 * kdN (n.fAt.fX - q.fX) + 8 * kdN (n.fAt.fY - q.fY) := rfl
      (repeat' (first | (refine stg_ ?_) | (refine cla_ (cA) ?_) | (refine cla_ (cB) ?_) | (refine cla_ (cC) ?_) | (refine br_ (fun hbr => ?_) (fun hbr => ?_))))
      refine NextW.go (k + 1) (Weak.cov ⟨rfl, rfl, rfl, ?_, ?_, rfl, rfl, rfl, rfl, rfl, rfl, trivial⟩ ⟨trivial, trivial, rfl, ?_, rfl, ?_, ?_, trivial⟩ rfl) (by omega) (by omega)
      · rw [hf1]; simp only [List.map_append, List.length_append]; rfl
      · rw [hs1]; simp only [List.map_append, List.length_append]; rfl
      · rw [he1]
      · rw [hf1, List.map_append, List.take_length]; try rfl
      · rw [hs1, List.map_append, List.take_length]; try rfl
    · obtain rfl : k = l.fKnots.length := by omega
      rw [List.take_length] at *
      have c4 := wb_w BB (l.fKnots.length : Nat) (by omega) (by omega) (by omega)
      rw [← hLk] at c4
      (repeat (refine stg_ ?_))
      (refine clb_ (c4) ?_)
      (repeat (refine stg_ ?_))
      rw [hLk]
      have hwl2 := wdL_len 1 ((l.fKnots.length : Nat) : Int)
      generalize hCC : BB ++ wdL 1 ((l.fKnots.length : Nat) : Int) = CC at *
      have hCl : CC.length ≤ 6001 := by rw [← hCC, List.length_append]; omega
      have hfb := fgL_le p l.fKnots
      have hdb := stL_in hpi l3
      generalize hFF : fgL p l.fKnots = fl at *
      generalize hSS : stL p l.fKnots = ds at *
      generalize hqq : endK p l.fKnots = q at *
      (refine CallW.inl' ttOk (by kernel_rfl) Try.func106 rfl (by kernel_rfl) (by kernel_rfl) (by rfl) [(3, .pB 2 [] 0), (4, .pB 3 [] 0), (8, .own 6 0 (ds.map TPt.D).length), (23, .d (.lst (o.fLoops.map TLoop.D))), (24, .d (.int .i64 (o.fLoops.map TLoop.D).length)), (25, .d (.int .i64 i))] (by (conv => whnf); (repeat' (first | exact trivial | (refine ⟨?_, ?_⟩) | rfl))) (fun s => ?_); (conv => whnf))
      refine LoopW.go (α := Nat × List UInt8) (fun r => [(0, .pB 2 [] 0), (1, .own 5 0 (fl.map (D.int .u8)).length), (4, .d (.int .i64 (r.1 : Nat)))]) (fun r => [.gone, .gone, .bld 107 5 (CC ++ r.2), .box (.d q.D), .gone, .arr 1 (fl.map (D.int .u8)) true, .arr 2 (ds.map TPt.D) true, .keep [(3, .pB 2 [] 0), (4, .pB 3 [] 0), (8, .own 6 0 (ds.map TPt.D).length), (23, .d (.lst (o.fLoops.map TLoop.D))), (24, .d (.int .i64 (o.fLoops.map TLoop.D).length)), (25, .d (.int .i64 i))] s]) (fun r => r.1 ≤ fl.length ∧ rle fl.length fl = r.2 ++ rle fl.length (fl.drop r.1) ∧ r.2.length ≤ 2 * r.1) (fun r => fl.length - r.1) (0, []) (Weak.cov ⟨rfl, rfl, rfl, trivial⟩ ⟨trivial, trivial, by rw [List.append_nil], rfl, trivial, rfl, rfl, rfl, trivial⟩ rfl) ⟨by simp only; omega, by rw [List.drop_zero, List.nil_append], by simp⟩ ?_
      rintro ⟨j, out⟩ ⟨k1, k2, k3⟩
      dsimp only at k1 k2 k3 ⊢
      have hLf : (fl.map (D.int .u8)).length = fl.length := List.length_map _
      have hfll : fl.length ≤ 60 := by omega
      (conv => whnf)
      (refine br_ (fun h3 => ?_) (fun h3 => ?_))
      · obtain ⟨x, hx⟩ := at_lt' (xs := fl) (k := j) (by omega)
        have hxb := hfb x (List.mem_of_getElem? hx)
        have hex : (fl.map (D.int .u8))[j]? = some (.int .u8 x) := by rw [List.getElem?_map, hx]; rfl
        have hR := rle_at hx
        have hrl := runN_le x (fl.drop (j + 1))
        rw [List.length_drop] at hrl
        rw [hR] at k2
        refine LoopW.go (α := Nat) (fun n => [(0, .pB 2 [] 0), (1, .own 5 0 (fl.map (D.int .u8)).length), (4, .d (.int .i64 (j : Nat))), (5, .d (.int .i64 (n : Nat)))]) (fun _ => [.gone, .gone, .bld 107 5 (CC ++ out), .box (.d q.D), .gone, .arr 1 (fl.map (D.int .u8)) true, .arr 2 (ds.map TPt.D) true, .keep [(3, .pB 2 [] 0), (4, .pB 3 [] 0), (8, .own 6 0 (ds.map TPt.D).length), (23, .d (.lst (o.fLoops.map TLoop.D))), (24, .d (.int .i64 (o.fLoops.map TLoop.D).length)), (25, .d (.int .i64 i))] s]) (fun n => 1 ≤ n ∧ j + n ≤ fl.length ∧ runN x (fl.drop (j + 1)) + 1 = n + runN x (fl.drop (j + n))) (fun n => fl.length - n) 1 covT_ ⟨by omega, by omega, by omega⟩ (fun n hn => ?_)
        obtain ⟨n1, n2, n3⟩ := hn
        have fin : runN x (fl.drop (j + n)) = 0 → runN x (fl.drop (j + 1)) + 1 = n := by omega
        (conv => whnf)
        (repeat (refine stg_ ?_))
        (refine br_ (fun h4 => ?_) (fun h4 => ?_))
        · obtain ⟨y, hy⟩ := at_lt' (xs := fl) (k := j + n) (by omega)
          have hy' : (fl.map (D.int .u8))[((j : Int) + (n : Int)).toNat]? = some (.int .u8 y) := by
            have : ((j : Int) + (n : Int)).toNat = j + n := by omega
            rw [this, List.getElem?_map, hy]; rfl
          have hRy := runN_at (x := x) hy
          (repeat (refine stg_ ?_))
          cases hyx : (y == x)
          · rw [beq_eq_false_iff_ne] at hyx
            rw [if_neg hyx] at hRy
            (conv => whnf)
            (repeat (refine stg_ ?_))
            have hN := fin hRy
            have hrn : runN x (fl.drop (j + 1)) = n - 1 := by omega
            cases hn1 : ((n : Int) == 1)
            · rw [beq_eq_false_iff_ne] at hn1
              rw [hrn, if_neg (by omega), show j + 1 + (n - 1) = j + n by omega, show ((n - 1 : Nat) : Int) = (n : Int) - 1 by omega, ← List.append_assoc] at k2
              have c5 := wb_w (CC ++ out) (x + 128) (by omega) (by omega) (by rw [List.length_append]; omega)
              have c6 := wb_w (CC ++ out ++ wdL 1 (x + 128)) ((n : Int) - 1) (by omega) (by omega) (by simp only [List.length_append, wdL_len]; omega)
              (conv => whnf)
              (repeat' (first | (refine stg_ ?_) | (refine clb_ (c5) ?_) | (refine clb_ (c6) ?_) | (refine br_ (fun hbr => ?_) (fun hbr => ?_))))
              refine NextW.go (j + n, out ++ (wdL 1 (x + 128) ++ wdL 1 ((n : Int) - 1))) (Weak.cov ⟨rfl, rfl, rfl, trivial⟩ ⟨trivial, trivial, ?_, rfl, trivial, rfl, rfl, rfl, trivial⟩ rfl) ⟨n2, k2, by simp only [List.length_append, wdL_len]; omega⟩ (by show fl.length - (j + n) < fl.length - j; omega)
              simp only [List.append_assoc]
            · rw [beq_iff_eq] at hn1
              obtain rfl : n = 1 := by omega
              rw [hrn, if_pos (by omega), show j + 1 + (1 - 1) = j + 1 by omega, ← List.append_assoc] at k2
              have c5 := wb_w (CC ++ out) x (by omega) (by omega) (by rw [List.length_append]; omega)
              (conv => whnf)
              (repeat' (first | (refine stg_ ?_) | (refine clb_ (c5) ?_) | (refine br_ (fun hbr => ?_) (fun hbr => ?_))))
              refine NextW.go (j + 1, out ++ wdL 1 x) (Weak.cov ⟨rfl, rfl, rfl, trivial⟩ ⟨trivial, trivial, ?_, rfl, trivial, rfl, rfl, rfl, trivial⟩ rfl) ⟨n2, k2, by simp only [List.length_append, wdL_len]; omega⟩ (by show fl.length - (j + 1) < fl.length - j; omega)
              simp only [List.append_assoc]
          · rw [beq_iff_eq] at hyx
            rw [if_pos hyx] at hRy
            (conv => whnf)
            (repeat (refine stg_ ?_))
            exact NextW.go (n + 1) covT_ ⟨by omega, by omega, by rw [show j + (n + 1) = j + n + 1 by omega]; omega⟩ (by omega)
        · have hR0 := runN_end (x := x) (xs := fl) (k := j + n) (by omega)
          (repeat (refine stg_ ?_))
          have hN := fin hR0
          have hrn : runN x (fl.drop (j + 1)) = n - 1 := by omega
          cases hn1 : ((n : Int) == 1)
          · rw [beq_eq_false_iff_ne] at hn1
            rw [hrn, if_neg (by omega), show j + 1 + (n - 1) = j + n by omega, show ((n - 1 : Nat) : Int) = (n : Int) - 1 by omega, ← List.append_assoc] at k2
            have c5 := wb_w (CC ++ out) (x + 128) (by omega) (by omega) (by rw [List.length_append]; omega)
            have c6 := wb_w (CC ++ out ++ wdL 1 (x + 128)) ((n : Int) - 1) (by omega) (by omega) (by simp only [List.length_append, wdL_len]; omega)
            (conv => whnf)
            (repeat' (first | (refine stg_ ?_) | (refine clb_ (c5) ?_) | (refine clb_ (c6) ?_) | (refine br_ (fun hbr => ?_) (fun hbr => ?_))))
            refine NextW.go (j + n, out ++ (wdL 1 (x + 128) ++ wdL 1 ((n : Int) - 1))) (Weak.cov ⟨rfl, rfl, rfl, trivial⟩ ⟨trivial, trivial, ?_, rfl, trivial, rfl, rfl, rfl, trivial⟩ rfl) ⟨n2, k2, by simp only [List.length_append, wdL_len]; omega⟩ (by show fl.length - (j + n) < fl.length - j; omega)
            simp only [List.append_assoc]
          · rw [beq_iff_eq] at hn1
            obtain rfl : n = 1 := by omega
            rw [hrn, if_pos (by omega), show j + 1 + (1 - 1) = j + 1 by omega, ← List.append_assoc] at k2
            have c5 := wb_w (CC ++ out) x (by omega) (by omega) (by rw [List.length_append]; omega)
            (conv => whnf)
            (repeat' (first | (refine stg_ ?_) | (refine clb_ (c5) ?_) | (refine br_ (fun hbr => ?_) (fun hbr => ?_))))
            refine NextW.go (j + 1, out ++ wdL 1 x) (Weak.cov ⟨rfl, rfl, rfl, trivial⟩ ⟨trivial, trivial, ?_, rfl, trivial, rfl, rfl, rfl, trivial⟩ rfl) ⟨n2, k2, by simp only [List.length_append, wdL_len]; omega⟩ (by show fl.length - (j + 1) < fl.length - j; omega)
            simp only [List.append_assoc]
      · obtain rfl : j = fl.length := by omega
        rw [rle_end (Nat.le_refl _), List.append_nil] at k2
        (repeat (refine stg_ ?_))
        refine ⟨rfl, ?_⟩
        (conv => whnf)
        (repeat (refine stg_ ?_))
        have hLs : (ds.map TPt.D).length = ds.length := List.length_map _
        have hol : out.length ≤ 120 := by omega
        have hdl : ds.length ≤ 60 := by omega
        refine LoopW.go (α := Nat) (fun m => [(3, .pB 2 [] 0), (4, .pB 3 [] 0), (8, .own 6 0 (ds.map TPt.D).length), (23, .d (.lst (o.fLoops.map TLoop.D))), (24, .d (.int .i64 (o.fLoops.map TLoop.D).length)), (25, .d (.int .i64 i)), (80, .own 6 0 (ds.map TPt.D).length), (81, .d (.int .i64 (ds.map TPt.D).length)), (82, .d (.int .i64 m))]) (fun m => [.gone, .gone, .bld 107 5 ((CC ++ out) ++ xsL TPt.fX (ds.take m)), .box (.d q.D), .gone, .gone, .arr 2 (ds.map TPt.D) true]) (fun m => m ≤ ds.length) (fun m => ds.length - m) 0 (Weak.cov ⟨rfl, rfl, rfl, rfl, rfl, rfl, rfl, rfl, rfl, trivial⟩ ⟨trivial, trivial, ?_, rfl, trivial, trivial, rfl, trivial⟩ rfl) (by omega) (fun m hm => ?_)
        · simp [xsL]
        have hx3 := xsL_len TPt.fX (ds.take m)
        have htk : (ds.take m).length ≤ ds.length := by simp; omega
        (conv => whnf)
        (refine br_ (fun hbX => ?_) (fun hbX => ?_))
        · obtain ⟨d, hd⟩ := at_lt' (xs := ds) (k := m) (by omega)
          have hed : (ds.map TPt.D)[m]? = some d.D := by rw [List.getElem?_map, hd]; rfl
          have hdi := hdb d (List.mem_of_getElem? hd)
          have hS := xsL_at TPt.fX hd
          have kk := kdN_le d.fX
          have k1' : kdN d.fX = 1 → 1 ≤ d.fX ∧ d.fX ≤ 255 := by unfold kdN; split <;> (try split) <;> (try split) <;> omega
          have k2' : kdN d.fX = 2 → -255 ≤ d.fX ∧ d.fX ≤ -1 := by unfold kdN; split <;> (try split) <;> (try split) <;> omega
          have hP : pdL d.fX = if kdN d.fX = 1 then wdL 1 d.fX else if kdN d.fX = 2 then wdL 1 (0 - d.fX) else if kdN d.fX = 3 then wdL 3 d.fX else [] := rfl
          have cA := differenceKind_v d.fX
          generalize hXX : (CC ++ out) ++ xsL TPt.fX (ds.take m) = XX at *
          have hXl : XX.length ≤ 7000 := by have := xsL_len TPt.fX ds; rw [← hXX]; simp only [List.length_append]; omega
          (repeat (refine stg_ ?_))
          (refine CallW.inl' ttOk (by kernel_rfl) Try.func107 rfl (by kernel_rfl) (by kernel_rfl) (by rfl) [(3, .pB 2 [] 0), (4, .pB 3 [] 0), (8, .own 6 0 (ds.map TPt.D).length), (23, .d (.lst (o.fLoops.map TLoop.D))), (24, .d (.int .i64 (o.fLoops.map TLoop.D).length)), (25, .d (.int .i64 i)), (80, .own 6 0 (ds.map TPt.D).length), (81, .d (.int .i64 (ds.map TPt.D).length)), (82, .d (.int .i64 m))] (by (conv => whnf); (repeat' (first | exact trivial | (refine ⟨?_, ?_⟩) | rfl))) (fun s => ?_); (conv => whnf))
          (repeat (refine stg_ ?_))
          (refine cla_ (cA) ?_)
          (repeat (refine stg_ ?_))
          (refine br_ (fun u1 => ?_) (fun u1 => ?_))
          · have c7 := wb_w XX d.fX (by omega) (by omega) (by omega)
            have hP1 : pdL d.fX = wdL 1 d.fX := by rw [hP, if_pos (by omega)]
            (repeat' (first | (refine stg_ ?_) | (refine clb_ (c7) ?_) | (refine br_ (fun hbr => ?_) (fun hbr => ?_))))
            refine ⟨rfl, ?_⟩
            (conv => whnf)
            (repeat (refine stg_ ?_))
            refine NextW.go (m + 1) (Weak.cov ⟨rfl, rfl, rfl, rfl, rfl, rfl, rfl, rfl, rfl, trivial⟩ ⟨trivial, trivial, ?_, rfl, trivial, trivial, rfl, trivial⟩ rfl) (by omega) (by omega)
            rw [hS, ← List.append_assoc, hXX, hP1]
          · (refine br_ (fun u2 => ?_) (fun u2 => ?_))
            · have c7 := wb_w XX (0 - d.fX) (by omega) (by omega) (by omega)
              have hP1 : pdL d.fX = wdL 1 (0 - d.fX) := by rw [hP, if_neg (by omega), if_pos (by omega)]
              (repeat' (first | (refine stg_ ?_) | (refine clb_ (c7) ?_) | (refine br_ (fun hbr => ?_) (fun hbr => ?_))))
              refine ⟨rfl, ?_⟩
              (conv => whnf)
              (repeat (refine stg_ ?_))
              refine NextW.go (m + 1) (Weak.cov ⟨rfl, rfl, rfl, rfl, rfl, rfl, rfl, rfl, rfl, trivial⟩ ⟨trivial, trivial, ?_, rfl, trivial, trivial, rfl, trivial⟩ rfl) (by omega) (by omega)
              rw [hS, ← List.append_assoc, hXX, hP1]
            · (refine br_ (fun u3 => ?_) (fun u3 => ?_))
              · have c8 := PutWord_v d.fX 3 (by omega) (by omega) (by omega)
                have c7 := ws_b XX (mkS (wdL 3 d.fX)) (by rw [mkS_size, wdL_len]; omega)
                rw [mkS_toList] at c7
                have hP1 : pdL d.fX = wdL 3 d.fX := by rw [hP, if_neg (by omega), if_neg (by omega), if_pos (by omega)]
                (repeat' (first | (refine stg_ ?_) | (refine cla_ (c8) ?_) | (refine clb_ (c7) ?_) | (refine br_ (fun hbr => ?_) (fun hbr => ?_))))
                refine ⟨rfl, ?_⟩
                (conv => whnf)
                (repeat (refine stg_ ?_))
                refine NextW.go (m + 1) (Weak.cov ⟨rfl, rfl, rfl, rfl, rfl, rfl, rfl, rfl, rfl, trivial⟩ ⟨trivial, trivial, ?_, rfl, trivial, trivial, rfl, trivial⟩ rfl) (by omega) (by omega)
                rw [hS, ← List.append_assoc, hXX, hP1]
              · have hP1 : pdL d.fX = [] := by rw [hP, if_neg (by omega), if_neg (by omega), if_neg (by omega)]
                (repeat (refine stg_ ?_))
                refine ⟨rfl, ?_⟩
                (conv => whnf)
                (repeat (refine stg_ ?_))
                refine NextW.go (m + 1) (Weak.cov ⟨rfl, rfl, rfl, rfl, rfl, rfl, rfl, rfl, rfl, trivial⟩ ⟨trivial, trivial, ?_, rfl, trivial, trivial, rfl, trivial⟩ rfl) (by omega) (by omega)
                rw [hS, ← List.append_assoc, hXX, hP1, List.append_nil]
        · obtain rfl : m = ds.length := by omega
          rw [List.take_length] at *
          (repeat (refine stg_ ?_))
          refine LoopW.go (α := Nat) (fun m => [(3, .pB 2 [] 0), (4, .pB 3 [] 0), (8, .own 6 0 (ds.map TPt.D).length), (23, .d (.lst (o.fLoops.map TLoop.D))), (24, .d (.int .i64 (o.fLoops.map TLoop.D).length)), (25, .d (.int .i64 i)), (90, .own 6 0 (ds.map TPt.D).length), (91, .d (.int .i64 (ds.map TPt.D).length)), (92, .d (.int .i64 m))]) (fun m => [.gone, .gone, .bld 107 5 ((CC ++ out ++ xsL TPt.fX ds) ++ xsL TPt.fY (ds.take m)), .box (.d q.D), .gone, .gone, .arr 2 (ds.map TPt.D) true]) (fun m => m ≤ ds.length) (fun m => ds.length - m) 0 (Weak.cov ⟨rfl, rfl, rfl, rfl, rfl, rfl, rfl, rfl, rfl, trivial⟩ ⟨trivial, trivial, ?_, rfl, trivial, trivial, rfl, trivial⟩ rfl) (by omega) (fun m hm => ?_)
          · simp [xsL]
          have hx3 := xsL_len TPt.fY (ds.take m)
          have htk : (ds.take m).length ≤ ds.length := by simp; omega
          (conv => whnf)
          (refine br_ (fun hbY => ?_) (fun hbY => ?_))
          · obtain ⟨d, hd⟩ := at_lt' (xs := ds) (k := m) (by omega)
            have hed : (ds.map TPt.D)[m]? = some d.D := by rw [List.getElem?_map, hd]; rfl
            have hdi := hdb d (List.mem_of_getElem? hd)
            have hS := xsL_at TPt.fY hd
            have kk := kdN_le d.fY
            have k1' : kdN d.fY = 1 → 1 ≤ d.fY ∧ d.fY ≤ 255 := by unfold kdN; split <;> (try split) <;> (try split) <;> omega
            have k2' : kdN d.fY = 2 → -255 ≤ d.fY ∧ d.fY ≤ -1 := by unfold kdN; split <;> (try split) <;> (try split) <;> omega
            have hP : pdL d.fY = if kdN d.fY = 1 then wdL 1 d.fY else if kdN d.fY = 2 then wdL 1 (0 - d.fY) else if kdN d.fY = 3 then wdL 3 d.fY else [] := rfl
            have cA := differenceKind_v d.fY
            generalize hXX : (CC ++ out ++ xsL TPt.fX ds) ++ xsL TPt.fY (ds.take m) = XX at *
            have hXl : XX.length ≤ 7000 := by have := xsL_len TPt.fX ds; rw [← hXX]; simp only [List.length_append]; omega
            (repeat (refine stg_ ?_))
            (refine CallW.inl' ttOk (by kernel_rfl) Try.func107 rfl (by kernel_rfl) (by kernel_rfl) (by rfl) [(3, .pB 2 [] 0), (4, .pB 3 [] 0), (8, .own 6 0 (ds.map TPt.D).length), (23, .d (.lst (o.fLoops.map TLoop.D))), (24, .d (.int .i64 (o.fLoops.map TLoop.D).length)), (25, .d (.int .i64 i)), (90, .own 6 0 (ds.map TPt.D).length), (91, .d (.int .i64 (ds.map TPt.D).length)), (92, .d (.int .i64 m))] (by (conv => whnf); (repeat' (first | exact trivial | (refine ⟨?_, ?_⟩) | rfl))) (fun s => ?_); (conv => whnf))
            (repeat (refine stg_ ?_))
            (refine cla_ (cA) ?_)
            (repeat (refine stg_ ?_))
            (refine br_ (fun u1 => ?_) (fun u1 => ?_))
            · have c7 := wb_w XX d.fY (by omega) (by omega) (by omega)
              have hP1 : pdL d.fY = wdL 1 d.fY := by rw [hP, if_pos (by omega)]
              (repeat' (first | (refine stg_ ?_) | (refine clb_ (c7) ?_) | (refine br_ (fun hbr => ?_) (fun hbr => ?_))))
              refine ⟨rfl, ?_⟩
              (conv => whnf)
              (repeat (refine stg_ ?_))
              refine NextW.go (m + 1) (Weak.cov ⟨rfl, rfl, rfl, rfl, rfl, rfl, rfl, rfl, rfl, trivial⟩ ⟨trivial, trivial, ?_, rfl, trivial, trivial, rfl, trivial⟩ rfl) (by omega) (by omega)
              rw [hS, ← List.append_assoc, hXX, hP1]
            · (refine br_ (fun u2 => ?_) (fun u2 => ?_))
              · have c7 := wb_w XX (0 - d.fY) (by omega) (by omega) (by omega)
                have hP1 : pdL d.fY = wdL 1 (0 - d.fY) := by rw [hP, if_neg (by omega), if_pos (by omega)]
                (repeat' (first | (refine stg_ ?_) | (refine clb_ (c7) ?_) | (refine br_ (fun hbr => ?_) (fun hbr => ?_))))
                refine ⟨rfl, ?_⟩
                (conv => whnf)
                (repeat (refine stg_ ?_))
                refine NextW.go (m + 1) (Weak.cov ⟨rfl, rfl, rfl, rfl, rfl, rfl, rfl, rfl, rfl, trivial⟩ ⟨trivial, trivial, ?_, rfl, trivial, trivial, rfl, trivial⟩ rfl) (by omega) (by omega)
                rw [hS, ← List.append_assoc, hXX, hP1]
              · (refine br_ (fun u3 => ?_) (fun u3 => ?_))
                · have c8 := PutWord_v d.fY 3 (by omega) (by omega) (by omega)
                  have c7 := ws_b XX (mkS (wdL 3 d.fY)) (by rw [mkS_size, wdL_len]; omega)
                  rw [mkS_toList] at c7
                  have hP1 : pdL d.fY = wdL 3 d.fY := by rw [hP, if_neg (by omega), if_neg (by omega), if_pos (by omega)]
                  (repeat' (first | (refine stg_ ?_) | (refine cla_ (c8) ?_) | (refine clb_ (c7) ?_) | (refine br_ (fun hbr => ?_) (fun hbr => ?_))))
                  refine ⟨rfl, ?_⟩
                  (conv => whnf)
                  (repeat (refine stg_ ?_))
                  refine NextW.go (m + 1) (Weak.cov ⟨rfl, rfl, rfl, rfl, rfl, rfl, rfl, rfl, rfl, trivial⟩ ⟨trivial, trivial, ?_, rfl, trivial, trivial, rfl, trivial⟩ rfl) (by omega) (by omega)
                  rw [hS, ← List.append_assoc, hXX, hP1]
                · have hP1 : pdL d.fY = [] := by rw [hP, if_neg (by omega), if_neg (by omega), if_neg (by omega)]
                  (repeat (refine stg_ ?_))
                  refine ⟨rfl, ?_⟩
                  (conv => whnf)
                  (repeat (refine stg_ ?_))
                  refine NextW.go (m + 1) (Weak.cov ⟨rfl, rfl, rfl, rfl, rfl, rfl, rfl, rfl, rfl, trivial⟩ ⟨trivial, trivial, ?_, rfl, trivial, trivial, rfl, trivial⟩ rfl) (by omega) (by omega)
                  rw [hS, ← List.append_assoc, hXX, hP1, List.append_nil]
          · obtain rfl : m = ds.length := by omega
            rw [List.take_length] at *
            (repeat (refine stg_ ?_))
            have hSE : enL pt0 (o.fLoops.take (i + 1)) = enL pt0 (o.fLoops.take i) ++ lpE2 p l := by rw [take_snoc_get hl, enL_snoc, hpp]
            have hE1 : enP pt0 (o.fLoops.take (i + 1)) = q := by rw [take_snoc_get hl, enP_snoc, hpp, hqq]
            refine NextW.go (i + 1) (Weak.cov ⟨rfl, rfl, rfl, rfl, rfl, trivial⟩ ⟨trivial, trivial, ?_, ?_, trivial⟩ rfl) (by omega) (by omega)
            · rw [hSE, lpE2, hFF, hSS, ← k2, ← hCC, ← hBB]; simp only [List.append_assoc]
            · rw [hE1]
  · obtain rfl : i = o.fLoops.length := by omega
    rw [List.take_length] at hBB
    (refine clb_ (str_b _) ?_)
    (repeat (refine stg_ ?_))
    (refine RetOK.d rfl rfl ?_; conv => whnf)
    rw [← hBB]; rfl
theorem EncodeOutline_v (o : TOutline) : PC Try.prog 16 [.d o.D] (.tup [.d (.str (enS o)), .d (.int .i64 (enC o))]) [] := by
  refine pc_intro ttOk (by kernel_rfl) Try.func16 rfl (by kernel_rfl) (by kernel_rfl) (by kernel_rfl) (fun hw => ?_)
  have hS : enS o = if outB o = true then mkS (otL o) else .empty := rfl
  have hC : enC o = if outB o = true then 0 else 1 := rfl
  cases hB : outB o
  · rw [hB, if_neg (by decide)] at hS hC
    rw [hS, hC]
    (conv => whnf)
    (repeat' (first | (refine stg_ ?_) | (refine cla_ (ValidOutline_v o) ?_) | (refine br_ (fun hbr => ?_) (fun hbr => ?_))))
    all_goals first | (exfalso; simp_all; done) | ((refine RetOK.t rfl ?_; (repeat' ((conv => whnf); (first | done | (refine ⟨_, _, rfl, ⟨rfl, ?_⟩, ?_⟩) | fail))); (all_goals (conv => whnf))); (all_goals rfl))
  · rw [hB, if_pos rfl] at hS hC
    rw [hS, hC]
    (conv => whnf)
    (repeat' (first | (refine stg_ ?_) | (refine cla_ (ValidOutline_v o) ?_) | (refine cla_ (encodeOutline_v o hB) ?_) | (refine br_ (fun hbr => ?_) (fun hbr => ?_))))
    all_goals first | (exfalso; simp_all; done) | ((refine RetOK.t rfl ?_; (repeat' ((conv => whnf); (first | done | (refine ⟨_, _, rfl, ⟨rfl, ?_⟩, ?_⟩) | fail))); (all_goals (conv => whnf))); (all_goals rfl))
end Go.Proofs.Ytdjdkkacbkfmeaa
