/- merged: several parts in one text. Leans on no more than they do. -/
import Derived.Test.YtfnnlipcclklnaaGreatInfV
import Derived.Test.YtfnnlipcclklnaaGreatVMMask
import Derived.Test.YtfnnlipcclklnaaGreatInfP
/- Inferred moves (impl.inferMoves), by the machine. -/
set_option linter.unusedSimpArgs false
set_option linter.unusedVariables false
namespace Go.Proofs.YtfnnlipcclklnaaGreat
open Go.RowKit
/-- the orders of 'a, b := l.Knots[..].At, l.Knots[..].At' -/
def trInf : OT :=
  (.q 0 (.q 1 (.q 2 (.q 3 (.q 4 (.q 5 (.q 6 (.q 7 (.q 8 (.q 9 (.q 10 (.q 11 (.q 13 (.q 14 (.q 15 (.q 17 (.alt 12 (.alt 16 (.q 18 (.q 19 (.q 20 (.alt 21 (.alt 22 (.alt 23 (.alt 24 (.alt 25 .done .nil)
  .nil) .nil) (.alt 23 (.alt 22 (.alt 24 (.alt 25 .done .nil) .nil) .nil) .nil)) (.alt 22 (.alt 21 (.alt 23 (.alt 24 (.alt 25 .done .nil) .nil) .nil) (.alt 23 (.alt 21 (.alt 24 (.alt 25 .done .nil)
  .nil) (.alt 24 (.q 21 (.alt 25 .done .nil)) .nil)) .nil)) (.alt 23 (.alt 21 (.alt 22 (.alt 24 (.alt 25 .done .nil) .nil) .nil) (.alt 22 (.alt 21 (.alt 24 (.alt 25 .done .nil) .nil) (.alt 24 (.q 21
  (.alt 25 .done .nil)) .nil)) .nil)) .nil)))))) (.alt 22 (.alt 16 (.q 18 (.q 19 (.q 20 (.alt 21 (.alt 23 (.alt 24 (.alt 25 .done .nil) .nil) .nil) (.alt 23 (.alt 21 (.alt 24 (.alt 25 .done .nil) .nil)
  (.alt 24 (.q 21 (.alt 25 .done .nil)) .nil)) .nil))))) (.alt 23 (.alt 16 (.q 18 (.q 19 (.q 20 (.alt 21 (.alt 24 (.alt 25 .done .nil) .nil) (.alt 24 (.q 21 (.alt 25 .done .nil)) .nil))))) (.alt 24 (.q
  16 (.q 18 (.q 19 (.q 20 (.q 21 (.alt 25 .done .nil)))))) .nil)) .nil)) (.alt 23 (.alt 16 (.q 18 (.q 19 (.q 20 (.alt 21 (.alt 22 (.alt 24 (.alt 25 .done .nil) .nil) .nil) (.alt 22 (.alt 21 (.alt 24
  (.alt 25 .done .nil) .nil) (.alt 24 (.q 21 (.alt 25 .done .nil)) .nil)) .nil))))) (.alt 22 (.alt 16 (.q 18 (.q 19 (.q 20 (.alt 21 (.alt 24 (.alt 25 .done .nil) .nil) (.alt 24 (.q 21 (.alt 25 .done
  .nil)) .nil))))) (.alt 24 (.q 16 (.q 18 (.q 19 (.q 20 (.q 21 (.alt 25 .done .nil)))))) .nil)) .nil)) .nil))) (.alt 16 (.q 18 (.alt 12 (.q 19 (.q 20 (.alt 21 (.alt 22 (.alt 23 (.alt 24 (.alt 25 .done
  .nil) .nil) .nil) (.alt 23 (.alt 22 (.alt 24 (.alt 25 .done .nil) .nil) .nil) .nil)) (.alt 22 (.alt 21 (.alt 23 (.alt 24 (.alt 25 .done .nil) .nil) .nil) (.alt 23 (.alt 21 (.alt 24 (.alt 25 .done
  .nil) .nil) (.alt 24 (.q 21 (.alt 25 .done .nil)) .nil)) .nil)) (.alt 23 (.alt 21 (.alt 22 (.alt 24 (.alt 25 .done .nil) .nil) .nil) (.alt 22 (.alt 21 (.alt 24 (.alt 25 .done .nil) .nil) (.alt 24 (.q
  21 (.alt 25 .done .nil)) .nil)) .nil)) .nil))))) (.alt 22 (.alt 12 (.q 19 (.q 20 (.alt 21 (.alt 23 (.alt 24 (.alt 25 .done .nil) .nil) .nil) (.alt 23 (.alt 21 (.alt 24 (.alt 25 .done .nil) .nil) (.alt
  24 (.q 21 (.alt 25 .done .nil)) .nil)) .nil)))) (.alt 23 (.alt 12 (.q 19 (.q 20 (.alt 21 (.alt 24 (.alt 25 .done .nil) .nil) (.alt 24 (.q 21 (.alt 25 .done .nil)) .nil)))) (.alt 24 (.q 12 (.q 19 (.q
  20 (.q 21 (.alt 25 .done .nil))))) .nil)) .nil)) (.alt 23 (.alt 12 (.q 19 (.q 20 (.alt 21 (.alt 22 (.alt 24 (.alt 25 .done .nil) .nil) .nil) (.alt 22 (.alt 21 (.alt 24 (.alt 25 .done .nil) .nil) (.alt
  24 (.q 21 (.alt 25 .done .nil)) .nil)) .nil)))) (.alt 22 (.alt 12 (.q 19 (.q 20 (.alt 21 (.alt 24 (.alt 25 .done .nil) .nil) (.alt 24 (.q 21 (.alt 25 .done .nil)) .nil)))) (.alt 24 (.q 12 (.q 19 (.q
  20 (.q 21 (.alt 25 .done .nil))))) .nil)) .nil)) .nil)))) (.alt 22 (.alt 12 (.alt 16 (.q 18 (.q 19 (.q 20 (.alt 21 (.alt 23 (.alt 24 (.alt 25 .done .nil) .nil) .nil) (.alt 23 (.alt 21 (.alt 24 (.alt
  25 .done .nil) .nil) (.alt 24 (.q 21 (.alt 25 .done .nil)) .nil)) .nil))))) (.alt 23 (.alt 16 (.q 18 (.q 19 (.q 20 (.alt 21 (.alt 24 (.alt 25 .done .nil) .nil) (.alt 24 (.q 21 (.alt 25 .done .nil))
  .nil))))) (.alt 24 (.q 16 (.q 18 (.q 19 (.q 20 (.q 21 (.alt 25 .done .nil)))))) .nil)) .nil)) (.alt 16 (.q 18 (.alt 12 (.q 19 (.q 20 (.alt 21 (.alt 23 (.alt 24 (.alt 25 .done .nil) .nil) .nil) (.alt
  23 (.alt 21 (.alt 24 (.alt 25 .done .nil) .nil) (.alt 24 (.q 21 (.alt 25 .done .nil)) .nil)) .nil)))) (.alt 23 (.alt 12 (.q 19 (.q 20 (.alt 21 (.alt 24 (.alt 25 .done .nil) .nil) (.alt 24 (.q 21 (.alt
  25 .done .nil)) .nil)))) (.alt 24 (.q 12 (.q 19 (.q 20 (.q 21 (.alt 25 .done .nil))))) .nil)) .nil))) (.alt 23 (.alt 12 (.alt 16 (.q 18 (.q 19 (.q 20 (.alt 21 (.alt 24 (.alt 25 .done .nil) .nil) (.alt
  24 (.q 21 (.alt 25 .done .nil)) .nil))))) (.alt 24 (.q 16 (.q 18 (.q 19 (.q 20 (.q 21 (.alt 25 .done .nil)))))) .nil)) (.alt 16 (.q 18 (.alt 12 (.q 19 (.q 20 (.alt 21 (.alt 24 (.alt 25 .done .nil)
  .nil) (.alt 24 (.q 21 (.alt 25 .done .nil)) .nil)))) (.alt 24 (.q 12 (.q 19 (.q 20 (.q 21 (.alt 25 .done .nil))))) .nil))) (.alt 24 (.q 12 (.q 16 (.q 18 (.q 19 (.q 20 (.q 21 (.alt 25 .done .nil)))))))
  .nil))) .nil))) (.alt 23 (.alt 12 (.alt 16 (.q 18 (.q 19 (.q 20 (.alt 21 (.alt 22 (.alt 24 (.alt 25 .done .nil) .nil) .nil) (.alt 22 (.alt 21 (.alt 24 (.alt 25 .done .nil) .nil) (.alt 24 (.q 21 (.alt
  25 .done .nil)) .nil)) .nil))))) (.alt 22 (.alt 16 (.q 18 (.q 19 (.q 20 (.alt 21 (.alt 24 (.alt 25 .done .nil) .nil) (.alt 24 (.q 21 (.alt 25 .done .nil)) .nil))))) (.alt 24 (.q 16 (.q 18 (.q 19 (.q
  20 (.q 21 (.alt 25 .done .nil)))))) .nil)) .nil)) (.alt 16 (.q 18 (.alt 12 (.q 19 (.q 20 (.alt 21 (.alt 22 (.alt 24 (.alt 25 .done .nil) .nil) .nil) (.alt 22 (.alt 21 (.alt 24 (.alt 25 .done .nil)
  .nil) (.alt 24 (.q 21 (.alt 25 .done .nil)) .nil)) .nil)))) (.alt 22 (.alt 12 (.q 19 (.q 20 (.alt 21 (.alt 24 (.alt 25 .done .nil) .nil) (.alt 24 (.q 21 (.alt 25 .done .nil)) .nil)))) (.alt 24 (.q 12
  (.q 19 (.q 20 (.q 21 (.alt 25 .done .nil))))) .nil)) .nil))) (.alt 22 (.alt 12 (.alt 16 (.q 18 (.q 19 (.q 20 (.alt 21 (.alt 24 (.alt 25 .done .nil) .nil) (.alt 24 (.q 21 (.alt 25 .done .nil))
  .nil))))) (.alt 24 (.q 16 (.q 18 (.q 19 (.q 20 (.q 21 (.alt 25 .done .nil)))))) .nil)) (.alt 16 (.q 18 (.alt 12 (.q 19 (.q 20 (.alt 21 (.alt 24 (.alt 25 .done .nil) .nil) (.alt 24 (.q 21 (.alt 25
  .done .nil)) .nil)))) (.alt 24 (.q 12 (.q 19 (.q 20 (.q 21 (.alt 25 .done .nil))))) .nil))) (.alt 24 (.q 12 (.q 16 (.q 18 (.q 19 (.q 20 (.q 21 (.alt 25 .done .nil))))))) .nil))) .nil)))
  .nil))))))))))))))))))))
def tbInf : List PE := [⟨true, 0, 0⟩, ⟨true, 1, 1⟩, ⟨true, 0, 0⟩, ⟨true, 0, 0⟩, ⟨true, 12, 12⟩, ⟨true, 16, 16⟩, ⟨true, 0, 0⟩, ⟨true, 96, 96⟩, ⟨true, 130, 130⟩, ⟨true, 256, 256⟩, ⟨true, 512, 512⟩, ⟨true, 0, 0⟩, ⟨true, 2048, 16779264⟩, ⟨true, 0, 0⟩, ⟨true, 0, 0⟩, ⟨true, 24576, 24576⟩, ⟨true, 32768, 16809984⟩, ⟨true, 0, 0⟩, ⟨true, 196608, 196608⟩, ⟨true, 266240, 266240⟩, ⟨true, 524288, 524288⟩, ⟨true, 1048576, 17825792⟩, ⟨false, 0, 0⟩, ⟨false, 0, 0⟩, ⟨false, 12584959, 0⟩, ⟨false, 33554431, 0⟩]
structure InF (o : TOutline) (ns : List Int) (ms : List TPt) : Prop where
  vo : outB o = true
  sr : srt ns
  ln : ns.length = ms.length
  mv : ∀ p ∈ ms, pntB p = true
  bd : ∀ x ∈ ns, 0 ≤ x ∧ x < (cnK o.fLoops : Nat)
  nn : ns.length ≤ 1048576
theorem slF_sub {α : Type} {ns : List Int} {xs : List α} {b n : Nat} {P : α → Prop} (h : ∀ x ∈ xs, P x) : ∀ x ∈ slF ns xs b n, P x := fun x hx => h x (List.mem_of_mem_drop (List.mem_of_mem_take hx))
theorem slF_map {α : Type} (f : α → D) (ns : List Int) (xs : List α) (b n : Nat) : (slF ns xs b n).map f = ((xs.map f).drop (cl ns b)).take (cl ns (b + n : Nat) - cl ns b) := by rw [slF, List.map_take, List.map_drop]
set_option maxHeartbeats 8000000 in
theorem inferMoves_v (o : TOutline) (ns : List Int) (ms : List TPt) (h : InF o ns ms) : PC Tryz.prog 122 [.d o.D, .d (.lst (ns.map (D.int .i64))), .d (.lst (ms.map TPt.D))] (.own 1 0 (cnK o.fLoops)) [.arr 2 ((inL ns ms 0 o.fLoops).map TPt.D) true] := by
  refine pc_intro ttOk (by kernel_rfl) Tryz.func122 rfl (by kernel_rfl) (by kernel_rfl) (by kernel_rfl) (fun hw => ?_)
  obtain ⟨ho, hs, hlm, hmb, hnb, hn⟩ := h
  obtain ⟨ho1, ho2⟩ := out_in ho
  have hL : (o.fLoops.map TLoop.D).length = o.fLoops.length := List.length_map _
  have hLn : (ns.map (D.int .i64)).length = ns.length := List.length_map _
  have hLm : (ms.map TPt.D).length = ms.length := List.length_map _
  have hC := cnK_le ho2
  (conv => whnf)
  (repeat (refine stg_ ?_))
  refine LoopW.go (α := Nat) (fun i => [(1, .d (.lst (ns.map (D.int .i64)))), (2, .d (.lst (ms.map TPt.D))), (7, .own 2 0 ((inL ns ms 0 (o.fLoops.take i)).map TPt.D).length), (8, .d (.int .i64 (cnK (o.fLoops.take i) : Nat))), (26, .d (.lst (o.fLoops.map TLoop.D))), (27, .d (.int .i64 (o.fLoops.map TLoop.D).length)), (28, .d (.int .i64 i))]) (fun i => [.gone, .gone, .arr 2 ((inL ns ms 0 (o.fLoops.take i)).map TPt.D) true]) (fun i => i ≤ o.fLoops.length) (fun i => o.fLoops.length - i) 0 (Weak.trans (Weak.adopt (k := 7) rfl 2 true) covT_) (by omega) (fun i hi => ?_)
  have hT := cnK_take o.fLoops i
  have hIl : ((inL ns ms 0 (o.fLoops.take i)).map TPt.D).length = cnK (o.fLoops.take i) := by rw [List.length_map, inL_len]
  (conv => whnf)
  (refine br_ (fun h1 => ?_) (fun h1 => ?_))
  · obtain ⟨l, hl⟩ := at_lt' (xs := o.fLoops) (k := i) (by omega)
    obtain ⟨l1, l2, l3⟩ := loop_in (ho2 l (List.mem_of_getElem? hl))
    have hLk : (l.fKnots.map TKnot.D).length = l.fKnots.length := List.length_map _
    have he : (o.fLoops.map TLoop.D)[i]? = some l.D := by rw [List.getElem?_map, hl]; rfl
    have hS : inL ns ms 0 (o.fLoops.take (i + 1)) = inL ns ms 0 (o.fLoops.take i) ++ rsL l.fKnots (cnK (o.fLoops.take i)) (slF ns ns (cnK (o.fLoops.take i)) l.fKnots.length) (slF ns ms (cnK (o.fLoops.take i)) l.fKnots.length) l.fKnots.length := by
      rw [take_snoc_get hl, inL_snoc, Nat.zero_add]
    have hS2 : cnK (o.fLoops.take (i + 1)) = cnK (o.fLoops.take i) + l.fKnots.length := by rw [take_snoc_get hl, cnK_snoc]
    have hT2 := cnK_take o.fLoops (i + 1)
    rw [hS2] at hT2
    generalize hb : cnK (o.fLoops.take i) = b at *
    generalize hpre : inL ns ms 0 (o.fLoops.take i) = pre at *
    have c1 := bsr_v ns (b : Nat) hs hn
    have c2 := bsr_v ns ((b + l.fKnots.length : Nat) : Int) hs hn
    have g1 := cl_mono hs (a := (b : Int)) (b := ((b + l.fKnots.length : Nat) : Int)) (by omega)
    have g2 := cl_le ns ((b + l.fKnots.length : Nat) : Int)
    have hFl := slF_len (xs := ns) rfl b l.fKnots.length g1
    have hBl := slF_len (xs := ms) hlm b l.fKnots.length g1
    have hFs := slF_srt hs b l.fKnots.length
    have hFm := slF_map (D.int .i64) ns ns b l.fKnots.length
    have hBm := slF_map TPt.D ns ms b l.fKnots.length
    have hFi : ∀ j x, (slF ns ns b l.fKnots.length)[j]? = some x → (b : Int) ≤ x ∧ x < ((b + l.fKnots.length : Nat) : Int) := fun j x hx => slF_in hs hx
    have hBp : ∀ p ∈ slF ns ms b l.fKnots.length, pntB p = true := slF_sub hmb
    (repeat (refine stg_ ?_))
    (refine cla_ (c1) ?_)
    (repeat (refine stg_ ?_))
    rw [hLk]
    (refine cla_ (c2) ?_)
    (repeat (refine stg_ ?_))
    generalize hF : slF ns ns b l.fKnots.length = F at *
    generalize hB : slF ns ms b l.fKnots.length = B at *
    have hLF : (F.map (D.int .i64)).length = F.length := List.length_map _
    have hLB : (B.map TPt.D).length = B.length := List.length_map _
    refine LoopW.go (α := Nat) (fun k => [(1, .d (.lst (ns.map (D.int .i64)))), (2, .d (.lst (ms.map TPt.D))), (7, .own 2 0 ((pre ++ rsL l.fKnots b F B k).map TPt.D).length), (8, .d (.int .i64 (b : Nat))), (10, .pB 3 [] 0), (11, .d (.int .i64 l.fKnots.length)), (16, .d (.lst (F.map (D.int .i64)))), (17, .d (.lst (B.map TPt.D))), (26, .d (.lst (o.fLoops.map TLoop.D))), (27, .d (.int .i64 (o.fLoops.map TLoop.D).length)), (28, .d (.int .i64 i)), (58, .d (.lst (l.fKnots.map TKnot.D))), (59, .d (.int .i64 (l.fKnots.map TKnot.D).length)), (60, .d (.int .i64 k))]) (fun k => [.gone, .gone, .arr 2 ((pre ++ rsL l.fKnots b F B k).map TPt.D) true, .box (.d l.D)]) (fun k => k ≤ l.fKnots.length) (fun k => l.fKnots.length - k) 0 (Weak.cov ⟨rfl, rfl, ?_, rfl, rfl, ?_, ?_, ?_, rfl, rfl, rfl, rfl, rfl, rfl, trivial⟩ ⟨trivial, trivial, ?_, rfl, trivial⟩ rfl) (by omega) (fun k hk => ?_)
    · simp [rsL]; try rfl
    · rfl
    · rw [hFm]; rfl
    · rw [hBm]; rfl
    · simp [rsL]; try rfl
    have hrl := rsL_len l.fKnots b F B k
    have hpl : ((pre ++ rsL l.fKnots b F B k).map TPt.D).length = b + k := by rw [List.length_map, List.length_append, hrl]; rw [List.length_map] at hIl; omega
    have hR := rsL_succ l.fKnots b F B k
    have hprl : pre.length = b := by rw [List.length_map] at hIl; exact hIl
    (conv => whnf)
    (refine br_ (fun h2 => ?_) (fun h2 => ?_))
    · obtain ⟨n, hn⟩ := at_lt' (xs := l.fKnots) (k := k) (by omega)
      have hen : (l.fKnots.map TKnot.D)[k]? = some n.D := by rw [List.getElem?_map, hn]; rfl
      have hnp := pnt_in (l3 n (List.mem_of_getElem? hn))
      have fin : ∀ q : TPt, mv1 l.fKnots b F B k = q → (pre ++ rsL l.fKnots b F B (k + 1)).map TPt.D = (pre ++ rsL l.fKnots b F B k).map TPt.D ++ [q.D] := fun q hq => by
        rw [hR, hq, ← List.append_assoc, List.map_append]; rfl
      (repeat (refine stg_ ?_))
      (refine br_ (fun h3 => ?_) (fun h3 => ?_))
      · have hq := fin pt0 (by rw [mv1, if_pos (by omega)])
        (repeat (refine stg_ ?_))
        refine NextW.go (k + 1) (Weak.cov ⟨rfl, rfl, ?_, rfl, rfl, rfl, rfl, rfl, rfl, rfl, rfl, rfl, rfl, rfl, trivial⟩ ⟨trivial, trivial, ?_, rfl, trivial⟩ rfl) (by omega) (by omega)
        · rw [hq]; simp only [List.length_append]; rfl
        · rw [hq, List.take_length]; try rfl
      · have c3 := bsr_v F ((b + k : Nat) : Int) hFs (by omega)
        have hcl := cl_le F ((b + k : Nat) : Int)
        refine ArW.i64e ((b + k : Nat) : Int) (by omega) (by omega) ?_
        (conv => whnf)
        (repeat (refine stg_ ?_))
        (refine cla_ (c3) ?_)
        (repeat (refine stg_ ?_))
        have hm0 : 0 < F.length := by omega
        generalize hcc : cl F ((b + k : Nat) : Int) = c at *
        have t1 : ((c : Int) + ((F.map (D.int .i64)).length : Nat) - 1).tmod ((F.map (D.int .i64)).length : Nat) = (((c + F.length - 1) % F.length : Nat) : Int) := by
          rw [hLF, show (c : Int) + (F.length : Nat) - 1 = ((c + F.length - 1 : Nat) : Int) by omega, Int.tmod_eq_emod_of_nonneg (by omega)]; rfl
        have t2 : (c : Int).tmod ((F.map (D.int .i64)).length : Nat) = ((c % F.length : Nat) : Int) := by
          rw [hLF, Int.tmod_eq_emod_of_nonneg (by omega)]; rfl
        have m1 := Nat.mod_lt (c + F.length - 1) hm0
        have m2 := Nat.mod_lt c hm0
        cases hfd : fd F ((b + k : Nat) : Int)
        · obtain ⟨f1, hf1⟩ := at_lt' (xs := F) (k := (c + F.length - 1) % F.length) m1
          obtain ⟨f2, hf2⟩ := at_lt' (xs := F) (k := c % F.length) m2
          obtain ⟨p1, hp1⟩ := at_lt' (xs := B) (k := (c + F.length - 1) % F.length) (by omega)
          obtain ⟨p2, hp2⟩ := at_lt' (xs := B) (k := c % F.length) (by omega)
          have i1 := hFi _ _ hf1
          have i2 := hFi _ _ hf2
          obtain ⟨n1, hn1⟩ := at_lt' (xs := l.fKnots) (k := (f1 - (b : Int)).toNat) (by omega)
          obtain ⟨n2, hn2⟩ := at_lt' (xs := l.fKnots) (k := (f2 - (b : Int)).toNat) (by omega)
          have n1p := pnt_in (l3 n1 (List.mem_of_getElem? hn1))
          have n2p := pnt_in (l3 n2 (List.mem_of_getElem? hn2))
          have p1p := pnt_in (hBp p1 (List.mem_of_getElem? hp1))
          have p2p := pnt_in (hBp p2 (List.mem_of_getElem? hp2))
          have hq := fin ⟨bt n.fAt.fX n1.fAt.fX n2.fAt.fX p1.fX p2.fX, bt n.fAt.fY n1.fAt.fY n2.fAt.fY p1.fY p2.fY⟩ (by
            rw [mv1, if_neg (by omega), hcc, hfd, if_neg (by decide)]
            simp only [atK, atB, atF, hn, hf1, hf2, hp1, hp2, hn1, hn2, Option.map_some, Option.getD_some])
          have c4 := inferred_v n.fAt.fX n1.fAt.fX n2.fAt.fX p1.fX p2.fX (by omega)
          have c5 := inferred_v n.fAt.fY n1.fAt.fY n2.fAt.fY p1.fY p2.fY (by omega)
          have e1 : (F.map (D.int .i64))[(c + F.length - 1) % F.length]? = some (.int .i64 f1) := by rw [List.getElem?_map, hf1]; rfl
          have e2 : (F.map (D.int .i64))[c % F.length]? = some (.int .i64 f2) := by rw [List.getElem?_map, hf2]; rfl
          have e3 : (B.map TPt.D)[(c + F.length - 1) % F.length]? = some p1.D := by rw [List.getElem?_map, hp1]; rfl
          have e4 : (B.map TPt.D)[c % F.length]? = some p2.D := by rw [List.getElem?_map, hp2]; rfl
          have e5 : (l.fKnots.map TKnot.D)[(f1 - (b : Int)).toNat]? = some n1.D := by rw [List.getElem?_map, hn1]; rfl
          have e6 : (l.fKnots.map TKnot.D)[(f2 - (b : Int)).toNat]? = some n2.D := by rw [List.getElem?_map, hn2]; rfl
          (conv => whnf)
          (repeat ((fail_if_success (with_reducible apply RegD.id)); (refine stg_ ?_)))
          rw [t1, t2]
          refine RegD.cutT [(1, .d (.lst (ns.map (D.int .i64)))), (2, .d (.lst (ms.map TPt.D))), (7, .own 2 0 ((pre ++ rsL l.fKnots b F B k).map TPt.D).length), (8, .d (.int .i64 (b : Nat))), (10, .pB 3 [] 0), (11, .d (.int .i64 l.fKnots.length)), (16, .d (.lst (F.map (D.int .i64)))), (17, .d (.lst (B.map TPt.D))), (19, .pB 4 [] 0), (20, .d (.int .i64 ((c % F.length : Nat) : Int))), (22, .d (.int .i64 (((c + F.length - 1) % F.length : Nat) : Int))), (23, .pB 5 [] 0), (24, .pB 6 [] 0), (26, .d (.lst (o.fLoops.map TLoop.D))), (27, .d (.int .i64 (o.fLoops.map TLoop.D).length)), (28, .d (.int .i64 i)), (58, .d (.lst (l.fKnots.map TKnot.D))), (59, .d (.int .i64 (l.fKnots.map TKnot.D).length)), (60, .d (.int .i64 k))] [.gone, .gone, .arr 2 ((pre ++ rsL l.fKnots b F B k).map TPt.D) true, .box (.d l.D), .box (.d n.D), .box (.d n1.fAt.D), .box (.d n2.fAt.D)] trInf (treeOK_bits tbInf (by kernel_rfl) (by kernel_rfl) (by kernel_rfl)) ?_ ?_
          · (conv => whnf)
            repeat' (first | (refine stg_ ?_) | (refine IxW.at (by omega) e5 ?_; (conv => whnf)) | (refine IxW.at (by omega) e6 ?_; (conv => whnf)) | (refine And.intro ?_ ?_ <;> (conv => whnf)))
            all_goals (refine id (α := Weak _ _ _ _) ?_)
            all_goals first | (refine Weak.cov ?_ ?_ ?_; (focus ((repeat' (first | exact trivial | with_reducible rfl | (refine ⟨?_, ?_⟩) | rfl)); done)); (focus ((repeat' (first | exact trivial | with_reducible rfl | (refine ⟨?_, ?_⟩) | rfl)); done)); (focus rfl)) | (refine Weak.trans (Weak.swap 5 6 ?_) (Weak.cov ?_ ?_ ?_); (focus rfl); (focus (repeat' (first | exact trivial | with_reducible rfl | (refine ⟨?_, ?_⟩) | rfl))); (focus (repeat' (first | exact trivial | with_reducible rfl | (refine ⟨?_, ?_⟩) | rfl))); (focus rfl))
          · (conv => whnf)
            (repeat' (first | (refine stg_ ?_) | (refine cla_ (c4) ?_) | (refine cla_ (c5) ?_) | (refine br_ (fun hbr => ?_) (fun hbr => ?_))))
            refine NextW.go (k + 1) (Weak.cov ⟨rfl, rfl, ?_, rfl, rfl, rfl, rfl, rfl, rfl, rfl, rfl, rfl, rfl, rfl, trivial⟩ ⟨trivial, trivial, ?_, rfl, trivial⟩ rfl) (by omega) (by omega)
            · rw [hq]; simp only [List.length_append]; rfl
            · rw [hq, List.take_length]; try rfl
        · obtain ⟨p, hp⟩ := at_lt' (xs := B) (k := c) (by
            have : F[cl F ((b + k : Nat) : Int)]? = some ((b + k : Nat) : Int) := by simpa [fd] using hfd
            have := (List.getElem?_eq_some_iff.1 this).1
            omega)
          have hq := fin p (by rw [mv1, if_neg (by omega), hfd, if_pos rfl, hcc, atB, hp]; rfl)
          have hep : (B.map TPt.D)[c]? = some p.D := by rw [List.getElem?_map, hp]; rfl
          (conv => whnf)
          (repeat (refine stg_ ?_))
          refine NextW.go (k + 1) (Weak.cov ⟨rfl, rfl, ?_, rfl, rfl, rfl, rfl, rfl, rfl, rfl, rfl, rfl, rfl, rfl, trivial⟩ ⟨trivial, trivial, ?_, rfl, trivial⟩ rfl) (by omega) (by omega)
          · rw [hq]; simp only [List.length_append]; rfl
          · rw [hq, List.take_length]; try rfl
    · obtain rfl : k = l.fKnots.length := by omega
      (repeat (refine stg_ ?_))
      refine NextW.go (i + 1) (Weak.cov ⟨rfl, rfl, ?_, ?_, rfl, rfl, rfl, trivial⟩ ⟨trivial, trivial, ?_, trivial⟩ rfl) (by omega) (by omega)
      · rw [hS]; rfl
      · rw [hS2, ← hLk]; rfl
      · rw [hS]
  · obtain rfl : i = o.fLoops.length := by omega
    rw [List.take_length] at *
    (repeat (refine stg_ ?_))
    refine ⟨⟨[some 2], ⟨by decide, rfl, trivial, trivial⟩, by decide, rfl, ?_⟩⟩
    (conv => whnf)
    exact ⟨by decide, by rw [hIl]; rfl⟩
end Go.Proofs.YtfnnlipcclklnaaGreat

/- InferMoves (impl), by the machine. -/
set_option linter.unusedSimpArgs false
set_option linter.unusedVariables false
namespace Go.Proofs.YtfnnlipcclklnaaGreat
open Go.RowKit
def imA (o : TOutline) (ns : List Int) (ms : List TPt) : Bool := outB o && (riG none ns && (decide (ms.length = ns.length) && ms.all pntB))
def imR (o : TOutline) (ns : List Int) : Bool := ns.all fun x => decide (0 ≤ x) && decide (x < (cnK o.fLoops : Nat))
/-- the code of InferMoves -/
def imC (o : TOutline) (ns : List Int) (ms : List TPt) : Nat := if imA o ns ms = true then (if imR o ns = true then 0 else 2) else 1
theorem imR_eq {o : TOutline} {ns : List Int} {a z : Int} (h : riG none ns = true) (ha : ns[0]? = some a) (hz : ns[ns.length - 1]? = some z) : imR o ns = (decide (0 ≤ a) && decide (z < (cnK o.fLoops : Nat))) := by
  rw [imR, Bool.eq_iff_iff]
  simp only [List.all_eq_true, Bool.and_eq_true, decide_eq_true_eq]
  constructor
  · intro H
    exact ⟨(H a (List.mem_of_getElem? ha)).1, (H z (List.mem_of_getElem? hz)).2⟩
  · rintro ⟨h1, h2⟩ x hx
    have := riG_first h ha x hx
    have := riG_last h hz x hx
    omega
theorem imC_in {o : TOutline} {ns : List Int} {ms : List TPt} (hn : ns.length ≤ 1048576) (h : imC o ns ms = 0) : InF o ns ms := by
  unfold imC at h
  split at h
  · rename_i hA
    split at h
    · rename_i hR
      simp only [imA, Bool.and_eq_true, decide_eq_true_eq, List.all_eq_true] at hA
      simp only [imR, List.all_eq_true, Bool.and_eq_true, decide_eq_true_eq] at hR
      exact ⟨hA.1, ri_srt hA.2.1, hA.2.2.1.symm, hA.2.2.2, hR, hn⟩
    · omega
  · omega
end Go.Proofs.YtfnnlipcclklnaaGreat

/- Inferred moves: the reference's way. Leans on no program. -/
set_option linter.unusedSimpArgs false
set_option linter.unusedVariables false
namespace Go.Proofs.YtfnnlipcclklnaaGreat
open Go.RowKit
theorem cl_idx {F : List Int} (hs : srt F) {j : Nat} {x : Int} (h : F[j]? = some x) : cl F x = j := by
  rcases Nat.lt_trichotomy (cl F x) j with h1 | h1 | h1
  · have hj := (List.getElem?_eq_some_iff.1 h).1
    obtain ⟨y, hy⟩ := at_lt (xs := F) (k := cl F x) (by omega)
    have h2 := cl_at hy
    have h3 := hs _ _ y x h1 hy h
    omega
  · exact h1
  · have := cl_lt h1 h; omega
theorem mem_fd {F : List Int} (hs : srt F) (x : Int) : fd F x = true ↔ x ∈ F := by
  constructor
  · intro h
    exact List.mem_of_getElem? (by simpa [fd] using h)
  · intro h
    obtain ⟨j, hj⟩ := List.getElem?_of_mem h
    rw [fd, cl_idx hs hj, hj]; simp
/-- the value at offset i when the first j moves are set -/
def fxV (b : Nat) (F : List Int) (B : List TPt) (j i : Nat) : TPt := if ((b + i : Nat) : Int) ∈ F.take j then atB B (cl F ((b + i : Nat) : Int)) else pt0
def fxL (n b : Nat) (F : List Int) (B : List TPt) (j : Nat) : List TPt := (List.range n).map (fxV b F B j)
/-- the values when the first k of the loop are inferred -/
def myV (K : List TKnot) (b : Nat) (F : List Int) (B : List TPt) (k i : Nat) : TPt := if i < k then mv1 K b F B i else fxV b F B F.length i
def myL (n : Nat) (K : List TKnot) (b : Nat) (F : List Int) (B : List TPt) (k : Nat) : List TPt := (List.range n).map (myV K b F B k)
theorem fxL_len (n b : Nat) (F : List Int) (B : List TPt) (j : Nat) : (fxL n b F B j).length = n := by simp [fxL]
theorem myL_len (n : Nat) (K : List TKnot) (b : Nat) (F : List Int) (B : List TPt) (j : Nat) : (myL n K b F B j).length = n := by simp [myL]
theorem fxL_zero (n b : Nat) (F : List Int) (B : List TPt) : fxL n b F B 0 = List.replicate n pt0 := by
  apply List.ext_getElem
  · simp [fxL]
  · intro i h1 h2
    simp [fxL, fxV]
theorem fxL_set {n b : Nat} {F : List Int} {B : List TPt} (hs : srt F) {j : Nat} {x : Int} {p : TPt} (hx : F[j]? = some x) (hp : B[j]? = some p) (h1 : (b : Int) ≤ x) : (fxL n b F B j).set (x - (b : Int)).toNat p = fxL n b F B (j + 1) := by
  apply List.ext_getElem
  · simp [fxL]
  · intro i h2 h3
    have hi : i < n := by simpa [fxL] using h3
    rw [List.getElem_set]
    simp only [fxL, List.getElem_map, List.getElem_range]
    have ht : F.take (j + 1) = F.take j ++ [x] := take_snoc_get hx
    split
    · rename_i e
      have hxe : x = ((b + i : Nat) : Int) := by omega
      rw [fxV, if_pos (by rw [ht]; simp [hxe]), ← hxe, cl_idx hs hx, atB, hp]; rfl
    · rename_i e
      have hxe : ¬ ((b + i : Nat) : Int) = x := by omega
      rw [fxV, fxV, ht]
      congr 1
      rw [eq_iff_iff, List.mem_append, List.mem_singleton]
      exact ⟨fun h => .inl h, fun h => h.elim id (fun h => absurd h hxe)⟩
theorem myL_zero (n : Nat) (K : List TKnot) (b : Nat) (F : List Int) (B : List TPt) : myL n K b F B 0 = fxL n b F B F.length := by
  simp [myL, fxL, myV]
theorem myL_end (K : List TKnot) (b : Nat) (F : List Int) (B : List TPt) (n : Nat) : myL n K b F B n = rsL K b F B n := by
  apply List.ext_getElem
  · simp [myL, rsL]
  · intro i h1 h2
    have hi : i < n := by simpa [rsL] using h2
    simp [myL, rsL, myV, hi]
theorem rs_none {K : List TKnot} {b : Nat} {F : List Int} {B : List TPt} (h : F.length = 0) (n : Nat) : rsL K b F B n = List.replicate n pt0 := by
  apply List.ext_getElem
  · simp [rsL]
  · intro i h1 h2
    simp [rsL, mv1, h]
theorem mv1_fix {K : List TKnot} {b : Nat} {F : List Int} {B : List TPt} (hs : srt F) {i : Nat} (h : ((b + i : Nat) : Int) ∈ F) : mv1 K b F B i = atB B (cl F ((b + i : Nat) : Int)) := by
  have h0 : ¬ F.length = 0 := fun e => by rw [List.eq_nil_of_length_eq_zero e] at h; cases h
  rw [mv1, if_neg h0, if_pos ((mem_fd hs _).2 h)]
theorem fxV_fix {b : Nat} {F : List Int} {B : List TPt} {i : Nat} (h : ((b + i : Nat) : Int) ∈ F) : fxV b F B F.length i = atB B (cl F ((b + i : Nat) : Int)) := by
  rw [fxV, if_pos (by rw [List.take_length]; exact h)]
theorem myL_skip {n : Nat} {K : List TKnot} {b : Nat} {F : List Int} {B : List TPt} (hs : srt F) {k : Nat} (h : ((b + k : Nat) : Int) ∈ F) : myL n K b F B (k + 1) = myL n K b F B k := by
  apply List.ext_getElem
  · simp [myL]
  · intro i h1 h2
    simp only [myL, List.getElem_map, List.getElem_range, myV]
    rcases Nat.lt_trichotomy i k with h3 | h3 | h3
    · rw [if_pos (by omega), if_pos h3]
    · subst h3
      rw [if_pos (by omega), if_neg (by omega), mv1_fix hs h, fxV_fix h]
    · rw [if_neg (by omega), if_neg (by omega)]
theorem myL_set {n : Nat} {K : List TKnot} {b : Nat} {F : List Int} {B : List TPt} {k : Nat} : (myL n K b F B k).set k (mv1 K b F B k) = myL n K b F B (k + 1) := by
  apply List.ext_getElem
  · simp [myL]
  · intro i h1 h2
    rw [List.getElem_set]
    simp only [myL, List.getElem_map, List.getElem_range, myV]
    split
    · rename_i e; subst e; rw [if_pos (by omega)]
    · rename_i e
      rcases Nat.lt_or_ge i k with h3 | h3
      · rw [if_pos h3, if_pos (by omega)]
      · rw [if_neg (by omega), if_neg (by omega)]
/-- at a fixed place its own move stands -/
theorem myL_at {n : Nat} {K : List TKnot} {b : Nat} {F : List Int} {B : List TPt} (hs : srt F) {k j : Nat} {x : Int} {p : TPt} (hx : F[j]? = some x) (hp : B[j]? = some p) (h1 : (b : Int) ≤ x) (h2 : x < ((b + n : Nat) : Int)) : (myL n K b F B k)[(x - (b : Int)).toNat]? = some p := by
  have hi : (x - (b : Int)).toNat < n := by omega
  have hm : ((b + (x - (b : Int)).toNat : Nat) : Int) ∈ F := by
    have : ((b + (x - (b : Int)).toNat : Nat) : Int) = x := by omega
    rw [this]; exact List.mem_of_getElem? hx
  have he : ((b + (x - (b : Int)).toNat : Nat) : Int) = x := by omega
  rw [myL, List.getElem?_map, List.getElem?_range hi, Option.map_some, myV]
  have hv : atB B (cl F ((b + (x - (b : Int)).toNat : Nat) : Int)) = p := by rw [he, cl_idx hs hx, atB, hp]; rfl
  split
  · rw [mv1_fix hs hm, hv]
  · rw [fxV_fix hm, hv]
/-- the loop's part of the numbers, one by one -/
theorem slF_at {α : Type} {ns : List Int} {xs : List α} {b n i : Nat} {x : α} (h1 : cl ns b ≤ i) (h2 : i < cl ns (b + n : Nat)) (hx : xs[i]? = some x) : (slF ns xs b n)[i - cl ns b]? = some x := by
  rw [slF, List.getElem?_take, if_pos (by omega), List.getElem?_drop, show cl ns b + (i - cl ns b) = i by omega]
  exact hx
theorem in_iff {ns : List Int} (hs : srt ns) {b n i : Nat} {x : Int} (hx : ns[i]? = some x) : inB x (b : Int) ((b : Int) + (n : Int) - 1) = decide (cl ns b ≤ i ∧ i < cl ns (b + n : Nat)) := by
  rw [inB, Bool.eq_iff_iff]
  simp only [Bool.and_eq_true, decide_eq_true_eq]
  constructor
  · rintro ⟨h1, h2⟩
    constructor
    · apply Classical.byContradiction
      intro h
      have := cl_lt (b := (b : Int)) (by omega) hx
      omega
    · apply Classical.byContradiction
      intro h
      have := cl_ge (b := ((b + n : Nat) : Int)) hs (by omega) hx
      omega
  · rintro ⟨h1, h2⟩
    have a1 := cl_ge (b := (b : Int)) hs h1 hx
    have a2 := cl_lt (b := ((b + n : Nat) : Int)) h2 hx
    omega
/-- the next fixed one, seen from behind: i is the last index not seen yet, plus one -/
def afI (c m i : Nat) : Nat := if max i c < m then max i c else 0
/-- the fixed one before, seen from the front: i indices are seen -/
def beI (c m i : Nat) : Nat := if min i c = 0 then m - 1 else min i c - 1
theorem afI_end {c m : Nat} (h0 : 0 < m) (hc : c ≤ m) : afI c m 0 = c % m := by
  unfold afI
  rw [Nat.zero_max]
  split
  · rename_i h; rw [Nat.mod_eq_of_lt h]
  · obtain rfl : c = m := by omega
    rw [Nat.mod_self]
theorem beI_end {c m : Nat} (h0 : 0 < m) (hc : c ≤ m) : beI c m m = (c + m - 1) % m := by
  unfold beI
  rw [Nat.min_eq_right hc]
  split
  · rename_i h; subst h; rw [Nat.zero_add, Nat.mod_eq_of_lt (by omega)]
  · rename_i h
    rw [show c + m - 1 = c - 1 + m by omega, Nat.add_mod_right, Nat.mod_eq_of_lt (by omega)]
end Go.Proofs.YtfnnlipcclklnaaGreat
