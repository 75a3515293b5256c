/- Inferred moves (spec.l30Infer, its loop inlined), by the machine. -/
import Derived.Test.YtfnnlipcclklnaaGreatInfQ
set_option linter.unusedSimpArgs false
set_option linter.unusedVariables false
namespace Go.Proofs.YtfnnlipcclklnaaGreat
open Go.RowKit
theorem set_mid {pre A rest : List TPt} {b j : Nat} {p : TPt} (hb : pre.length = b) (hj : j < A.length) : (pre ++ A ++ rest).set (b + j) p = pre ++ A.set j p ++ rest := by
  rw [List.append_assoc, List.set_append_right _ _ (by omega), show b + j - pre.length = j by omega, List.set_append_left _ _ hj, List.append_assoc]
theorem get_mid {pre A rest : List TPt} {b j : Nat} (hb : pre.length = b) (hj : j < A.length) : (pre ++ A ++ rest)[b + j]? = A[j]? := by
  rw [List.append_assoc, List.getElem?_append_right (by omega), show b + j - pre.length = j by omega, List.getElem?_append_left hj]
theorem fxL_sat {n b : Nat} {F : List Int} {B : List TPt} {j : Nat} (h : F.length ≤ j) : fxL n b F B j = fxL n b F B F.length := by
  apply List.map_congr_left
  intro i _
  simp only [fxV, List.take_of_length_le h, List.take_length]
theorem l00Has_v (xs : List Int) (n : Int) : PC Tryz.prog 93 [.d (.lst (xs.map (D.int .i64))), .d (.int .i64 n)] (.d (.bool (decide (n ∈ xs)))) [] := by
  refine pc_intro ttOk (by kernel_rfl) Tryz.func93 rfl (by kernel_rfl) (by kernel_rfl) (by kernel_rfl) (fun hw => ?_)
  have hL : (xs.map (D.int .i64)).length = xs.length := List.length_map _
  have hm : (xs.map (D.int .i64)).length ≤ 9223372036854775807 := hw.1.1
  (conv => whnf)
  refine LoopW.go (α := Nat) (fun k => [(0, .d (.lst (xs.map (D.int .i64)))), (1, .d (.int .i64 n)), (5, .d (.int .i64 k))]) (fun k => [.gone]) (fun k => k ≤ xs.length ∧ ¬ n ∈ xs.take k) (fun k => xs.length - k) 0 covT_ ?_ (fun k hk => ?_)
  · exact ⟨by omega, by simp⟩
  obtain ⟨hk1, hk2⟩ := hk
  (conv => whnf)
  (refine br_ (fun h2 => ?_) (fun h2 => ?_) <;> (repeat (refine stg_ ?_)))
  · obtain ⟨x, hx⟩ := at_lt' (xs := xs) (k := k) (by omega)
    (repeat (refine stg_ ?_))
    (refine br_ (fun h3 => ?_) (fun h3 => ?_) <;> (repeat (refine stg_ ?_)))
    · (refine RetOK.d rfl rfl ?_; conv => whnf)
      rw [decide_eq_true]
      rw [← h3]; exact List.mem_of_getElem? hx
    · (repeat (refine stg_ ?_))
      exact NextW.go (k + 1) covT_ ⟨by omega, by rw [take_snoc_get hx]; simp only [List.mem_append, List.mem_singleton]; rintro (h | h); (focus exact hk2 h); exact h3 h.symm⟩ (by omega)
  · (refine RetOK.d rfl rfl ?_; conv => whnf)
    rw [List.take_of_length_le (by omega)] at hk2
    rw [decide_eq_false hk2]
set_option maxHeartbeats 8000000 in
theorem l30Infer_v (o : TOutline) (ns : List Int) (ms : List TPt) (h : InF o ns ms) : PC Tryz.prog 112 [.pX o.D, .d (.lst (ns.map (D.int .i64))), .d (.lst (ms.map TPt.D))] (.own 1 0 (cnK o.fLoops)) [.arr 2 ((inL ns ms 0 o.fLoops).map TPt.D) true] := by
  refine pc_intro ttOk (by kernel_rfl) Tryz.func112 rfl (by kernel_rfl) (by kernel_rfl) (by kernel_rfl) (fun hw => ?_)
  obtain ⟨ho, hs, hlm, hmb, hnb, hn⟩ := h
  obtain ⟨ho1, ho2⟩ := out_in ho
  have hL : (o.fLoops.map TLoop.D).length = o.fLoops.length := List.length_map _
  have hLn : (ns.map (D.int .i64)).length = ns.length := List.length_map _
  have hLm : (ms.map TPt.D).length = ms.length := List.length_map _
  have hC := cnK_le ho2
  have c0 := l30Count_v o ho
  (conv => whnf)
  (refine cla_ (c0) ?_)
  (repeat ((fail_if_success (with_reducible apply RegD.id)); (refine stg_ ?_)))
  refine MkW.at (by omega) (by omega) (by show ((16 : Nat) : Int) * _ ≤ _; omega) ?_
  (conv => whnf)
  (repeat (refine stg_ ?_))
  refine LoopW.go (α := Nat) (fun i => [(0, .pX o.D), (1, .d (.lst (ns.map (D.int .i64)))), (2, .d (.lst (ms.map TPt.D))), (7, .own 1 0 (cnK o.fLoops)), (8, .d (.int .i64 (cnK (o.fLoops.take i) : Nat))), (9, .d (.int .i64 i))]) (fun i => [.gone, .arr 2 ((inL ns ms 0 (o.fLoops.take i) ++ List.replicate (cnK o.fLoops - cnK (o.fLoops.take i)) pt0).map TPt.D) true]) (fun i => i ≤ o.fLoops.length) (fun i => o.fLoops.length - i) 0 (Weak.cov ⟨rfl, rfl, rfl, rfl, rfl, rfl, trivial⟩ ⟨trivial, ?_, trivial⟩ rfl) (by omega) (fun i hi => ?_)
  · rw [List.take_zero, show cnK [] = 0 from rfl, Nat.sub_zero, show inL ns ms 0 [] = [] from rfl, List.nil_append, List.map_replicate]; rfl
  have hT := cnK_take o.fLoops i
  have hIl : (inL ns ms 0 (o.fLoops.take i)).length = cnK (o.fLoops.take i) := inL_len ns ms 0 _
  (conv => whnf)
  (refine br_ (fun h1 => ?_) (fun h1 => ?_))
  · obtain ⟨l, hl⟩ := at_lt' (xs := o.fLoops) (k := i) (by omega)
    obtain ⟨l1, l2, l3⟩ := loop_in (ho2 l (List.mem_of_getElem? hl))
    have hLk : (l.fKnots.map TKnot.D).length = l.fKnots.length := List.length_map _
    have hS2 : cnK (o.fLoops.take (i + 1)) = cnK (o.fLoops.take i) + l.fKnots.length := by rw [take_snoc_get hl, cnK_snoc]
    have hS : inL ns ms 0 (o.fLoops.take (i + 1)) = inL ns ms 0 (o.fLoops.take i) ++ rsL l.fKnots (cnK (o.fLoops.take i)) (slF ns ns (cnK (o.fLoops.take i)) l.fKnots.length) (slF ns ms (cnK (o.fLoops.take i)) l.fKnots.length) l.fKnots.length := by
      rw [take_snoc_get hl, inL_snoc, Nat.zero_add]
    have hT2 := cnK_take o.fLoops (i + 1)
    rw [hS2] at hT2
    generalize hb : cnK (o.fLoops.take i) = b at *
    generalize hpre : inL ns ms 0 (o.fLoops.take i) = pre at *
    have g1 := cl_mono hs (a := (b : Int)) (b := ((b + l.fKnots.length : Nat) : Int)) (by omega)
    have g2 := cl_le ns ((b + l.fKnots.length : Nat) : Int)
    have hFl := slF_len (xs := ns) rfl b l.fKnots.length g1
    have hBl := slF_len (xs := ms) hlm b l.fKnots.length g1
    have hFs := slF_srt hs b l.fKnots.length
    have hFi : ∀ j x, (slF ns ns b l.fKnots.length)[j]? = some x → (b : Int) ≤ x ∧ x < ((b + l.fKnots.length : Nat) : Int) := fun j x hx => slF_in hs hx
    have hBp : ∀ p ∈ slF ns ms b l.fKnots.length, pntB p = true := slF_sub hmb
    have hFa : ∀ (j : Nat) (x : Int), cl ns b ≤ j → j < cl ns (b + l.fKnots.length : Nat) → ns[j]? = some x → (slF ns ns b l.fKnots.length)[j - cl ns b]? = some x := fun j x q1 q2 q3 => slF_at q1 q2 q3
    have hBa : ∀ (j : Nat) (x : TPt), cl ns b ≤ j → j < cl ns (b + l.fKnots.length : Nat) → ms[j]? = some x → (slF ns ms b l.fKnots.length)[j - cl ns b]? = some x := fun j x q1 q2 q3 => slF_at q1 q2 q3
    have hIn : ∀ (j : Nat) (x : Int), ns[j]? = some x → inB x (b : Int) ((b : Int) + (l.fKnots.length : Int) - 1) = decide (cl ns b ≤ j ∧ j < cl ns (b + l.fKnots.length : Nat)) := fun j x q => in_iff hs q
    generalize hF : slF ns ns b l.fKnots.length = F at *
    generalize hB : slF ns ms b l.fKnots.length = B at *
    generalize hlo : cl ns (b : Int) = lo at *
    generalize hhi : cl ns ((b + l.fKnots.length : Nat) : Int) = hi' at *
    obtain ⟨rest, hrest⟩ : ∃ r, r = List.replicate (cnK o.fLoops - (b + l.fKnots.length)) pt0 := ⟨_, rfl⟩
    have hrl : rest.length = cnK o.fLoops - (b + l.fKnots.length) := by rw [hrest]; simp
    have hz : pre ++ List.replicate (cnK o.fLoops - b) pt0 = pre ++ fxL l.fKnots.length b F B 0 ++ rest := by
      rw [fxL_zero, hrest, List.append_assoc, List.replicate_append_replicate, show l.fKnots.length + (cnK o.fLoops - (b + l.fKnots.length)) = cnK o.fLoops - b by omega]
    rw [hz]
    obtain ⟨Gi, hGi⟩ : ∃ G : List Int, G = F.map (fun x => x - (b : Int)) := ⟨_, rfl⟩
    have hGl : Gi.length = F.length := by rw [hGi, List.length_map]
    have hGm : (Gi.map (D.int .i64)).length = F.length := by rw [List.length_map, hGl]
    have hGa : ∀ (j : Nat) (x : Int), F[j]? = some x → Gi[j]? = some (x - (b : Int)) := fun j x q => by rw [hGi, List.getElem?_map, q]; rfl
    (repeat (refine stg_ ?_))
    (refine CallW.inl' ttOk (by kernel_rfl) Tryz.func172 rfl (by kernel_rfl) (by kernel_rfl) (by rfl) [(0, .pX o.D), (1, .d (.lst (ns.map (D.int .i64)))), (2, .d (.lst (ms.map TPt.D))), (7, .own 1 0 (cnK o.fLoops)), (8, .d (.int .i64 (b : Nat))), (9, .d (.int .i64 (i : Nat)))] (by (conv => whnf); (repeat' (first | exact trivial | (refine ⟨?_, ?_⟩) | rfl))) (fun s => ?_); (conv => whnf))
    (repeat (refine stg_ ?_))
    refine LoopW.go (α := Nat) (fun j => [(0, .pX l.D), (1, .d (.int .i64 (b : Nat))), (2, .d (.lst (ns.map (D.int .i64)))), (3, .d (.lst (ms.map TPt.D))), (4, .own 1 0 (cnK o.fLoops)), (10, .d (.int .i64 l.fKnots.length)), (11, .own 3 0 ((Gi.take (j - lo)).map (D.int .i64)).length), (12, .d (.int .i64 (j : Nat)))]) (fun j => [.gone, .arr 2 ((pre ++ fxL l.fKnots.length b F B (j - lo) ++ rest).map TPt.D) true, .keep [(0, .pX o.D), (1, .d (.lst (ns.map (D.int .i64)))), (2, .d (.lst (ms.map TPt.D))), (7, .own 1 0 (cnK o.fLoops)), (8, .d (.int .i64 (b : Nat))), (9, .d (.int .i64 (i : Nat)))] s, .arr 1 ((Gi.take (j - lo)).map (D.int .i64)) true]) (fun j => j ≤ ns.length) (fun j => ns.length - j) 0 (Weak.cov ⟨rfl, rfl, rfl, rfl, rfl, ?_, ?_, rfl, trivial⟩ ⟨trivial, ?_, rfl, ?_, trivial⟩ rfl) (by omega) (fun j hj => ?_)
    · rw [← hLk]; rfl
    · rw [Nat.zero_sub, List.take_zero]; rfl
    · rw [Nat.zero_sub]
    · rw [Nat.zero_sub, List.take_zero]; rfl
    (conv => whnf)
    (refine br_ (fun h2 => ?_) (fun h2 => ?_))
    · obtain ⟨x, hx⟩ := at_lt' (xs := ns) (k := j) (by omega)
      obtain ⟨p, hp⟩ := at_lt' (xs := ms) (k := j) (by omega)
      have hex : (ns.map (D.int .i64))[j]? = some (.int .i64 x) := by rw [List.getElem?_map, hx]; rfl
      have hep : (ms.map TPt.D)[j]? = some p.D := by rw [List.getElem?_map, hp]; rfl
      have hxb := hnb x (List.mem_of_getElem? hx)
      have cI := l00In_v x (b : Int) ((b : Int) + (l.fKnots.length : Int) - 1)
      rw [hIn j x hx] at cI
      have hgt : ((Gi.take (j - lo)).map (D.int .i64)).length ≤ ns.length := by simp; omega
      have hgt2 : (Gi.take (j - lo)).length ≤ ns.length := by simp; omega
      by_cases hin : lo ≤ j ∧ j < hi'
      · rw [decide_eq_true hin] at cI
        have hFx := hFa j x hin.1 hin.2 hx
        have hBx := hBa j p hin.1 hin.2 hp
        have hxi := hFi _ _ hFx
        have hj1 : j + 1 - lo = j - lo + 1 := by omega
        have hGt : Gi.take (j - lo + 1) = Gi.take (j - lo) ++ [x - (b : Int)] := take_snoc_get (hGa _ _ hFx)
        have hxn : x.toNat = b + (x - (b : Int)).toNat := by omega
        have hfl := fxL_len l.fKnots.length b F B (j - lo)
        have htl : ((pre ++ fxL l.fKnots.length b F B (j - lo) ++ rest).map TPt.D).length = cnK o.fLoops := by simp only [List.length_map, List.length_append, hfl, hrl]; omega
        obtain ⟨q, hq⟩ := at_lt' (xs := pre ++ fxL l.fKnots.length b F B (j - lo) ++ rest) (k := x.toNat) (by simp only [List.length_append, hfl, hrl]; omega)
        have he0 : ((pre ++ fxL l.fKnots.length b F B (j - lo) ++ rest).map TPt.D)[x.toNat]? = some q.D := by rw [List.getElem?_map, hq]; rfl
        have hset : ((pre ++ fxL l.fKnots.length b F B (j - lo) ++ rest).map TPt.D).set x.toNat p.D = (pre ++ fxL l.fKnots.length b F B (j - lo + 1) ++ rest).map TPt.D := by
          rw [← List.map_set, hxn, set_mid hIl (by rw [hfl]; omega), fxL_set hFs hFx hBx hxi.1]
        (repeat (refine stg_ ?_))
        (refine cla_ (cI) ?_)
        (repeat' (first | (refine stg_ ?_) | fail | (refine br_ (fun hbr => ?_) (fun hbr => ?_))))
        refine NextW.go (j + 1) (Weak.cov ⟨rfl, rfl, rfl, rfl, rfl, rfl, ?_, rfl, trivial⟩ ⟨trivial, ?_, rfl, ?_, trivial⟩ rfl) (by omega) (by omega)
        · rw [hj1, hGt]; simp only [List.map_append, List.length_append]; rfl
        · rw [hj1, ← hset]; try rfl
        · rw [hj1, hGt, List.map_append, List.take_length]; try rfl
      · rw [decide_eq_false hin] at cI
        have hsame : Gi.take (j + 1 - lo) = Gi.take (j - lo) ∧ fxL l.fKnots.length b F B (j + 1 - lo) = fxL l.fKnots.length b F B (j - lo) := by
          rcases Nat.lt_or_ge j lo with q | q
          · rw [show j + 1 - lo = j - lo by omega]; exact ⟨rfl, rfl⟩
          · rw [List.take_of_length_le (by omega), List.take_of_length_le (by omega), fxL_sat (by omega), fxL_sat (j := j - lo) (by omega)]
            exact ⟨rfl, rfl⟩
        (repeat (refine stg_ ?_))
        (refine cla_ (cI) ?_)
        (repeat' (first | (refine stg_ ?_) | fail | (refine br_ (fun hbr => ?_) (fun hbr => ?_))))
        refine NextW.go (j + 1) (Weak.cov ⟨rfl, rfl, rfl, rfl, rfl, rfl, ?_, rfl, trivial⟩ ⟨trivial, ?_, rfl, ?_, trivial⟩ rfl) (by omega) (by omega)
        · rw [hsame.1]; rfl
        · rw [hsame.2]
        · rw [hsame.1]
    · have hjn : Gi.take (j - lo) = Gi ∧ fxL l.fKnots.length b F B (j - lo) = fxL l.fKnots.length b F B F.length := by
        rw [List.take_of_length_le (by omega), fxL_sat (by omega)]; exact ⟨rfl, rfl⟩
      rw [hjn.1, hjn.2]
      (repeat (refine stg_ ?_))
      cases hm0 : (((Gi.map (D.int .i64)).length : Int) == 0)
      · rw [beq_eq_false_iff_ne] at hm0
        have hm : 0 < F.length := by omega
        (conv => whnf)
        (repeat (refine stg_ ?_))
        refine LoopW.go (α := Nat) (fun k => [(0, .pX l.D), (1, .d (.int .i64 (b : Nat))), (4, .own 1 0 (cnK o.fLoops)), (10, .d (.int .i64 l.fKnots.length)), (11, .own 3 0 (Gi.map (D.int .i64)).length), (13, .d (.int .i64 k))]) (fun k => [.gone, .arr 2 ((pre ++ myL l.fKnots.length l.fKnots b F B k ++ rest).map TPt.D) true, .keep [(0, .pX o.D), (1, .d (.lst (ns.map (D.int .i64)))), (2, .d (.lst (ms.map TPt.D))), (7, .own 1 0 (cnK o.fLoops)), (8, .d (.int .i64 (b : Nat))), (9, .d (.int .i64 (i : Nat)))] s, .arr 1 (Gi.map (D.int .i64)) true]) (fun k => k ≤ l.fKnots.length) (fun k => l.fKnots.length - k) 0 (Weak.cov ⟨rfl, rfl, rfl, rfl, rfl, rfl, trivial⟩ ⟨trivial, by rw [myL_zero], rfl, rfl, trivial⟩ rfl) (by omega) (fun k hk => ?_)
        have hyl := myL_len l.fKnots.length l.fKnots b F B k
        have htl : ((pre ++ myL l.fKnots.length l.fKnots b F B k ++ rest).map TPt.D).length = cnK o.fLoops := by simp only [List.length_map, List.length_append, hyl, hrl]; omega
        (conv => whnf)
        (refine br_ (fun h3 => ?_) (fun h3 => ?_))
        · have hmem : ((k : Nat) : Int) ∈ Gi ↔ ((b + k : Nat) : Int) ∈ F := by
            rw [hGi, List.mem_map]
            constructor
            · rintro ⟨x, hx, e⟩
              have : ((b + k : Nat) : Int) = x := by omega
              rw [this]; exact hx
            · intro hx
              exact ⟨_, hx, by omega⟩
          have cH := l00Has_v Gi (k : Nat)
          by_cases hkG : ((k : Nat) : Int) ∈ Gi
          · rw [decide_eq_true hkG] at cH
            (repeat (refine stg_ ?_))
            (refine cla_ (cH) ?_)
            (repeat' (first | (refine stg_ ?_) | fail | (refine br_ (fun hbr => ?_) (fun hbr => ?_))))
            refine NextW.go (k + 1) (Weak.cov ⟨rfl, rfl, rfl, rfl, rfl, rfl, trivial⟩ ⟨trivial, ?_, rfl, rfl, trivial⟩ rfl) (by omega) (by omega)
            rw [myL_skip hFs (hmem.1 hkG)]
          · rw [decide_eq_false hkG] at cH
            have hkF : ¬ ((b + k : Nat) : Int) ∈ F := fun q => hkG (hmem.2 q)
            have hfd : fd F ((b + k : Nat) : Int) = false := by
              cases q : fd F ((b + k : Nat) : Int)
              · rfl
              · exact absurd ((mem_fd hFs _).1 q) hkF
            have hcl := cl_le F ((b + k : Nat) : Int)
            have hlt : ∀ j x, F[j]? = some x → (x < ((b + k : Nat) : Int) ↔ j < cl F ((b + k : Nat) : Int)) := fun j x hx => by
              constructor
              · intro q
                apply Classical.byContradiction
                intro q2
                have := cl_ge (b := ((b + k : Nat) : Int)) hFs (by omega) hx
                omega
              · intro q; exact cl_lt q hx
            have hne : ∀ j x, F[j]? = some x → x ≠ ((b + k : Nat) : Int) := fun j x hx e => hkF (e ▸ List.mem_of_getElem? hx)
            generalize hcc : cl F ((b + k : Nat) : Int) = c at *
            have aF : ∀ j x, F[j]? = some x → atF Gi j = x - (b : Int) := fun j x hx => by rw [atF, hGa j x hx]; rfl
            obtain ⟨fl, hfl⟩ := at_lt' (xs := F) (k := F.length - 1) (by omega)
            obtain ⟨f0, hf0⟩ := at_lt' (xs := F) (k := 0) hm
            have el : (Gi.map (D.int .i64))[(((Gi.map (D.int .i64)).length : Int) - 1).toNat]? = some (.int .i64 (fl - (b : Int))) := by
              have : (((Gi.map (D.int .i64)).length : Int) - 1).toNat = F.length - 1 := by omega
              rw [this, List.getElem?_map, hGa _ _ hfl]; rfl
            have e0' : (Gi.map (D.int .i64))[0]? = some (.int .i64 (f0 - (b : Int))) := by rw [List.getElem?_map, hGa _ _ hf0]; rfl
            (repeat (refine stg_ ?_))
            (refine cla_ (cH) ?_)
            (repeat' (first | (refine stg_ ?_) | fail | (refine br_ (fun hbr => ?_) (fun hbr => ?_))))
            refine LoopW.go (α := Nat) (fun j => [(0, .pX l.D), (1, .d (.int .i64 (b : Nat))), (4, .own 1 0 (cnK o.fLoops)), (10, .d (.int .i64 l.fKnots.length)), (11, .own 3 0 (Gi.map (D.int .i64)).length), (13, .d (.int .i64 k)), (14, .d (.int .i64 (fl - (b : Int)))), (15, .d (.int .i64 (atF Gi (afI c F.length j)))), (16, .d (.int .i64 (iz j)))]) (fun j => [.gone, .arr 2 ((pre ++ myL l.fKnots.length l.fKnots b F B k ++ rest).map TPt.D) true, .keep [(0, .pX o.D), (1, .d (.lst (ns.map (D.int .i64)))), (2, .d (.lst (ms.map TPt.D))), (7, .own 1 0 (cnK o.fLoops)), (8, .d (.int .i64 (b : Nat))), (9, .d (.int .i64 (i : Nat)))] s, .arr 1 (Gi.map (D.int .i64)) true]) (fun j => j ≤ F.length) (fun j => j) F.length (Weak.cov ⟨rfl, rfl, rfl, rfl, rfl, rfl, rfl, ?_, ?_, trivial⟩ ⟨trivial, rfl, rfl, rfl, trivial⟩ rfl) (Nat.le_refl _) (fun j hj => ?_)
            · rw [show afI c F.length F.length = 0 by unfold afI; rw [if_neg (by omega)], aF 0 f0 hf0]; rfl
            · rw [← iz_eq, ← hGm]; rfl
            rcases j with _ | j
            · (conv => whnf)
              (repeat (refine stg_ ?_))
              refine LoopW.go (α := Nat) (fun j => [(0, .pX l.D), (1, .d (.int .i64 (b : Nat))), (4, .own 1 0 (cnK o.fLoops)), (10, .d (.int .i64 l.fKnots.length)), (11, .own 3 0 (Gi.map (D.int .i64)).length), (13, .d (.int .i64 k)), (14, .d (.int .i64 (atF Gi (beI c F.length j)))), (15, .d (.int .i64 (atF Gi (c % F.length)))), (17, .d (.int .i64 (j : Nat)))]) (fun j => [.gone, .arr 2 ((pre ++ myL l.fKnots.length l.fKnots b F B k ++ rest).map TPt.D) true, .keep [(0, .pX o.D), (1, .d (.lst (ns.map (D.int .i64)))), (2, .d (.lst (ms.map TPt.D))), (7, .own 1 0 (cnK o.fLoops)), (8, .d (.int .i64 (b : Nat))), (9, .d (.int .i64 (i : Nat)))] s, .arr 1 (Gi.map (D.int .i64)) true]) (fun j => j ≤ F.length) (fun j => F.length - j) 0 (Weak.cov ⟨rfl, rfl, rfl, rfl, rfl, rfl, ?_, ?_, rfl, trivial⟩ ⟨trivial, rfl, rfl, rfl, trivial⟩ rfl) (by omega) (fun j hj => ?_)
              · rw [show beI c F.length 0 = F.length - 1 by unfold beI; rw [if_pos (by omega)], aF _ fl hfl]; rfl
              · rw [afI_end hm hcl]; rfl
              (conv => whnf)
              (refine br_ (fun h5 => ?_) (fun h5 => ?_))
              · obtain ⟨x, hx⟩ := at_lt' (xs := F) (k := j) (by omega)
                have hxi := hFi j x hx
                have hex : (Gi.map (D.int .i64))[j]? = some (.int .i64 (x - (b : Int))) := by rw [List.getElem?_map, hGa j x hx]; rfl
                (repeat (refine stg_ ?_))
                (refine br_ (fun h6 => ?_) (fun h6 => ?_))
                · have hcj : j < c := (hlt j x hx).1 (by omega)
                  (repeat (refine stg_ ?_))
                  refine NextW.go (j + 1) (Weak.cov ⟨rfl, rfl, rfl, rfl, rfl, rfl, ?_, rfl, rfl, trivial⟩ ⟨trivial, rfl, rfl, rfl, trivial⟩ rfl) (by omega) (by omega)
                  rw [show beI c F.length (j + 1) = j by unfold beI; rw [if_neg (by omega)]; omega, aF j x hx]; rfl
                · have hcj : c ≤ j := by
                    apply Classical.byContradiction
                    intro q
                    have := (hlt j x hx).2 (by omega)
                    omega
                  (repeat (refine stg_ ?_))
                  refine NextW.go (j + 1) (Weak.cov ⟨rfl, rfl, rfl, rfl, rfl, rfl, ?_, rfl, rfl, trivial⟩ ⟨trivial, rfl, rfl, rfl, trivial⟩ rfl) (by omega) (by omega)
                  rw [show beI c F.length (j + 1) = beI c F.length j by unfold beI; rw [show min (j + 1) c = min j c by omega]]; rfl
              · obtain rfl : j = F.length := by omega
                rw [beI_end hm hcl]
                have m1 := Nat.mod_lt (c + F.length - 1) hm
                have m2 := Nat.mod_lt c hm
                obtain ⟨f1, hf1⟩ := at_lt' (xs := F) (k := (c + F.length - 1) % F.length) m1
                obtain ⟨f2, hf2⟩ := at_lt' (xs := F) (k := c % F.length) m2
                obtain ⟨p1, hp1⟩ := at_lt' (xs := B) (k := (c + F.length - 1) % F.length) (by omega)
                obtain ⟨p2, hp2⟩ := at_lt' (xs := B) (k := c % F.length) (by omega)
                have i1 := hFi _ _ hf1
                have i2 := hFi _ _ hf2
                obtain ⟨n0, hn0⟩ := at_lt' (xs := l.fKnots) (k := k) (by omega)
                obtain ⟨n1, hn1⟩ := at_lt' (xs := l.fKnots) (k := (f1 - (b : Int)).toNat) (by omega)
                obtain ⟨n2, hn2⟩ := at_lt' (xs := l.fKnots) (k := (f2 - (b : Int)).toNat) (by omega)
                have n0p := pnt_in (l3 n0 (List.mem_of_getElem? hn0))
                have n1p := pnt_in (l3 n1 (List.mem_of_getElem? hn1))
                have n2p := pnt_in (l3 n2 (List.mem_of_getElem? hn2))
                have p1p := pnt_in (hBp p1 (List.mem_of_getElem? hp1))
                have p2p := pnt_in (hBp p2 (List.mem_of_getElem? hp2))
                have hmv : mv1 l.fKnots b F B k = ⟨bt n0.fAt.fX n1.fAt.fX n2.fAt.fX p1.fX p2.fX, bt n0.fAt.fY n1.fAt.fY n2.fAt.fY p1.fY p2.fY⟩ := by
                  rw [mv1, if_neg (by omega), hcc, hfd, if_neg (by decide)]
                  simp only [atK, atB, atF, hn0, hf1, hf2, hp1, hp2, hn1, hn2, Option.map_some, Option.getD_some]
                have c4 := l30Between_v n0.fAt.fX n1.fAt.fX n2.fAt.fX p1.fX p2.fX (by omega)
                have c5 := l30Between_v n0.fAt.fY n1.fAt.fY n2.fAt.fY p1.fY p2.fY (by omega)
                rw [aF _ f1 hf1, aF _ f2 hf2]
                have k0 : (l.fKnots.map TKnot.D)[k]? = some n0.D := by rw [List.getElem?_map, hn0]; rfl
                have k1 : (l.fKnots.map TKnot.D)[(f1 - (b : Int)).toNat]? = some n1.D := by rw [List.getElem?_map, hn1]; rfl
                have k2 : (l.fKnots.map TKnot.D)[(f2 - (b : Int)).toNat]? = some n2.D := by rw [List.getElem?_map, hn2]; rfl
                have o1 : ((pre ++ myL l.fKnots.length l.fKnots b F B k ++ rest).map TPt.D)[((b : Int) + (f1 - (b : Int))).toNat]? = some p1.D := by
                  have : ((b : Int) + (f1 - (b : Int))).toNat = b + (f1 - (b : Int)).toNat := by omega
                  rw [this, List.getElem?_map, get_mid hIl (by rw [hyl]; omega), myL_at hFs hf1 hp1 i1.1 i1.2]; rfl
                have o2 : ((pre ++ myL l.fKnots.length l.fKnots b F B k ++ rest).map TPt.D)[((b : Int) + (f2 - (b : Int))).toNat]? = some p2.D := by
                  have : ((b : Int) + (f2 - (b : Int))).toNat = b + (f2 - (b : Int)).toNat := by omega
                  rw [this, List.getElem?_map, get_mid hIl (by rw [hyl]; omega), myL_at hFs hf2 hp2 i2.1 i2.2]; rfl
                obtain ⟨q, hq⟩ := at_lt' (xs := pre ++ myL l.fKnots.length l.fKnots b F B k ++ rest) (k := b + k) (by simp only [List.length_append, hyl, hrl]; omega)
                have o3 : ((pre ++ myL l.fKnots.length l.fKnots b F B k ++ rest).map TPt.D)[((b : Int) + (k : Int)).toNat]? = some q.D := by
                  have : ((b : Int) + (k : Int)).toNat = b + k := by omega
                  rw [this, List.getElem?_map, hq]; rfl
                have hset : ((pre ++ myL l.fKnots.length l.fKnots b F B k ++ rest).map TPt.D).set ((b : Int) + (k : Int)).toNat (TPt.D ⟨bt n0.fAt.fX n1.fAt.fX n2.fAt.fX p1.fX p2.fX, bt n0.fAt.fY n1.fAt.fY n2.fAt.fY p1.fY p2.fY⟩) = (pre ++ myL l.fKnots.length l.fKnots b F B (k + 1) ++ rest).map TPt.D := by
                  have : ((b : Int) + (k : Int)).toNat = b + k := by omega
                  rw [this, ← List.map_set, set_mid hIl (by rw [hyl]; omega), ← hmv, myL_set]
                (repeat' (first | (refine stg_ ?_) | (refine IxW.at (by omega) k1 ?_; (conv => whnf)) | (refine IxW.at (by omega) k2 ?_; (conv => whnf)) | (refine EoW.at o1 ?_; (conv => whnf)) | (refine EoW.at o2 ?_; (conv => whnf)) | (refine EoW.at o3 ?_; (conv => whnf)) | (refine cla_ (c4) ?_) | (refine cla_ (c5) ?_) | (refine br_ (fun hbr => ?_) (fun hbr => ?_))))
                refine NextW.go (k + 1) (Weak.cov ⟨rfl, rfl, rfl, rfl, rfl, rfl, trivial⟩ ⟨trivial, ?_, rfl, rfl, trivial⟩ rfl) (by omega) (by omega)
                rw [← hset]; try rfl
            · obtain ⟨x, hx⟩ := at_lt' (xs := F) (k := j) (by omega)
              have hxi := hFi j x hx
              have hex : (Gi.map (D.int .i64))[j]? = some (.int .i64 (x - (b : Int))) := by rw [List.getElem?_map, hGa j x hx]; rfl
              (conv => whnf)
              refine IoW.at (by show (0 : Int) ≤ ((j : Nat) : Int); omega) (by show ((j : Nat) : Int) < _; omega) ?_
              (conv => whnf)
              (repeat (refine stg_ ?_))
              (refine br_ (fun h4 => ?_) (fun h4 => ?_))
              · have hcj : c ≤ j := by
                  apply Classical.byContradiction
                  intro q
                  have := (hlt j x hx).2 (by omega)
                  omega
                refine IoW.at (by show (0 : Int) ≤ ((j : Nat) : Int); omega) (by show ((j : Nat) : Int) < _; omega) ?_
                (conv => whnf)
                (repeat (refine stg_ ?_))
                refine ArW.i64e (iz j) (by rw [← iz_eq j]; rfl) (by have := iz_eq j; omega) ?_
                (conv => whnf)
                (repeat (refine stg_ ?_))
                refine NextW.go j (Weak.cov ⟨rfl, rfl, rfl, rfl, rfl, rfl, rfl, ?_, rfl, trivial⟩ ⟨trivial, rfl, rfl, rfl, trivial⟩ rfl) (by omega) (by show j < j + 1; omega)
                rw [show afI c F.length j = j by unfold afI; rw [if_pos (by omega)]; omega, aF j x hx]; rfl
              · have hcj : j < c := by
                  apply (hlt j x hx).1
                  have := hne j x hx
                  omega
                (repeat (refine stg_ ?_))
                refine ArW.i64e (iz j) (by rw [← iz_eq j]; rfl) (by have := iz_eq j; omega) ?_
                (conv => whnf)
                (repeat (refine stg_ ?_))
                refine NextW.go j (Weak.cov ⟨rfl, rfl, rfl, rfl, rfl, rfl, rfl, ?_, rfl, trivial⟩ ⟨trivial, rfl, rfl, rfl, trivial⟩ rfl) (by omega) (by show j < j + 1; omega)
                rw [show afI c F.length j = afI c F.length (j + 1) by unfold afI; rw [show max j c = max (j + 1) c by omega]]; rfl
        · obtain rfl : k = l.fKnots.length := by omega
          have hmy := myL_end l.fKnots b F B l.fKnots.length
          rw [hmy]
          (repeat (refine stg_ ?_))
          refine ⟨rfl, ?_⟩
          (conv => whnf)
          (repeat (refine stg_ ?_))
          refine NextW.go (i + 1) (Weak.cov ⟨rfl, rfl, rfl, rfl, ?_, rfl, trivial⟩ ⟨trivial, ?_, trivial⟩ rfl) (by omega) (by omega)
          · rw [hS2, ← hLk]; rfl
          · rw [hS, hS2, ← hrest]
      · rw [beq_iff_eq] at hm0
        have hm : F.length = 0 := by omega
        have hrs := rs_none (K := l.fKnots) (b := b) (B := B) hm l.fKnots.length
        have hfz : fxL l.fKnots.length b F B F.length = List.replicate l.fKnots.length pt0 := by rw [hm, fxL_zero]
        (conv => whnf)
        (repeat (refine stg_ ?_))
        refine ⟨rfl, ?_⟩
        (conv => whnf)
        (repeat (refine stg_ ?_))
        refine NextW.go (i + 1) (Weak.cov ⟨rfl, rfl, rfl, rfl, ?_, rfl, trivial⟩ ⟨trivial, ?_, trivial⟩ rfl) (by omega) (by omega)
        · rw [hS2, ← hLk]; rfl
        · rw [hS, hS2, ← hrest, hrs, hfz]
  · obtain rfl : i = o.fLoops.length := by omega
    rw [List.take_length] at *
    (repeat (refine stg_ ?_))
    refine ⟨⟨[some 1], ⟨by decide, ?_, trivial, trivial⟩, by decide, rfl, ?_⟩⟩
    · show some (Blk.arr 2 _ true) = some (Blk.arr 2 _ true)
      rw [Nat.sub_self, List.replicate_zero, List.append_nil]
    (conv => whnf)
    exact ⟨by decide, rfl⟩
theorem l30Last_v (ns : List Int) (n : Int) : PC Tryz.prog 76 [.d (.lst (ns.map (D.int .i64))), .d (.int .i64 n)] (.d (.bool (match ns[ns.length - 1]? with | some z => decide (z < n) | none => true))) [] := by
  refine pc_intro ttOk (by kernel_rfl) Tryz.func76 rfl (by kernel_rfl) (by kernel_rfl) (by kernel_rfl) (fun hw => ?_)
  have hL : (ns.map (D.int .i64)).length = ns.length := List.length_map _
  have hm : (ns.map (D.int .i64)).length ≤ 9223372036854775807 := hw.1.1
  rcases Nat.eq_zero_or_pos ns.length with hz | hz
  · rw [List.getElem?_eq_none (by omega)]
    (conv => whnf)
    (repeat' (first | (refine stg_ ?_) | fail | (refine br_ (fun hbr => ?_) (fun hbr => ?_))))
    all_goals first | (exfalso; omega) | ((refine RetOK.d rfl rfl ?_; conv => whnf); done) | ((refine RetOK.d rfl rfl ?_; conv => whnf); rfl)
  · obtain ⟨z, hz'⟩ := at_lt' (xs := ns) (k := ns.length - 1) (by omega)
    have hz2 : (ns.map (D.int .i64))[(((ns.map (D.int .i64)).length : Int) - 1).toNat]? = some (.int .i64 z) := by
      have : (((ns.map (D.int .i64)).length : Int) - 1).toNat = ns.length - 1 := by omega
      rw [this, List.getElem?_map, hz']; rfl
    rw [hz']
    (conv => whnf)
    (repeat' (first | (refine stg_ ?_) | (refine IxW.at (by omega) hz2 ?_; (conv => whnf)) | (refine br_ (fun hbr => ?_) (fun hbr => ?_))))
    all_goals first | (exfalso; omega) | ((refine RetOK.d rfl rfl ?_; conv => whnf); done) | ((refine RetOK.d rfl rfl ?_; conv => whnf); rfl) | ((refine RetOK.d rfl rfl ?_; conv => whnf); simp)
end Go.Proofs.YtfnnlipcclklnaaGreat
