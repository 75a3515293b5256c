/- Features: the glyphs that occur; ValidFeatures, by the machine. -/
import Derived.Test.YtcachhipflibkaaGreatFtW
import Derived.Test.YtcachhipflibkaaGreatClV
set_option linter.unusedSimpArgs false
set_option linter.unusedVariables false
namespace Go.Proofs.YtcachhipflibkaaGreat
open Go.RowKit
theorem fmt_len {α β : Type} {m : Nat} {f : α → List β} {xs : List α} (h : ∀ x ∈ xs, (f x).length ≤ m) (k : Nat) : ((xs.take k).flatMap f).length ≤ xs.length * m := by
  have h1 := flatMap_len (m := m) (f := f) (xs.take k) (fun x hx => h x (List.mem_of_mem_take hx))
  have h2 : (xs.take k).length ≤ xs.length := by simp; omega
  exact Nat.le_trans h1 (Nat.mul_le_mul_right m h2)
theorem fmt_succ {α β : Type} {f : α → List β} {xs : List α} {k : Nat} {x : α} (hx : xs[k]? = some x) : (xs.take (k + 1)).flatMap f = (xs.take k).flatMap f ++ f x := by
  rw [take_snoc_get hx, List.flatMap_append]; simp
theorem flt_succ {α : Type} {xs : List (List α)} {k : Nat} {x : List α} (hx : xs[k]? = some x) : (xs.take (k + 1)).flatten = (xs.take k).flatten ++ x := by
  rw [take_snoc_get hx, List.flatten_append]; simp
theorem flt_len {α : Type} {m : Nat} {xs : List (List α)} (h : ∀ x ∈ xs, x.length ≤ m) (k : Nat) : (xs.take k).flatten.length ≤ xs.length * m := by
  have h1 := flatten_len (m := m) (xs.take k) (fun x hx => h x (List.mem_of_mem_take hx))
  have h2 : (xs.take k).length ≤ xs.length := by simp; omega
  exact Nat.le_trans h1 (Nat.mul_le_mul_right m h2)
theorem flr_succ {α : Type} {p : α → Bool} {xs : List α} {k : Nat} {x : α} (hx : xs[k]? = some x) : (xs.take (k + 1)).filter p = (xs.take k).filter p ++ (if p x = true then [x] else []) := by
  rw [take_snoc_get hx, List.filter_append]
  congr 1
  by_cases h : p x = true <;> simp [h]
set_option maxHeartbeats 8000000 in
theorem glyphsUsed_v (f : TFeatures) (hB : ftB f = true) : PC Tryz.prog 108 [.d f.D] (.own 1 0 (cls (usG f)).length) [.arr 1 ((cls (usG f) ++ List.replicate ((usG f).length - (cls (usG f)).length) 0).map (D.int .i64)) true] := by
  refine pc_intro ttOk (by kernel_rfl) Tryz.func108 rfl (by kernel_rfl) (by kernel_rfl) (by kernel_rfl) (fun hw => ?_)
  have F := ftB_F hB
  have hLk : (f.fLookups.map TLookup.D).length = f.fLookups.length := List.length_map _
  have hKn : (f.fKerns.map TKern.D).length = f.fKerns.length := List.length_map _
  have hMk : (f.fMarks.map TMarkRule.D).length = f.fMarks.length := List.length_map _
  have hJn : (f.fJoins.map TJoin.D).length = f.fJoins.length := List.length_map _
  have n1 := F.lkn
  have n2 := F.knn
  have n3 := F.marn
  have n4 := F.jnn
  (conv => whnf)
  refine LoopW.go (α := Nat) (fun k => [(1, .pB 1 [] 0), (3, .own 2 0 (((f.fLookups.take k).flatMap lkGl).map (D.int .i64)).length), (19, .d (.lst (f.fLookups.map TLookup.D))), (20, .d (.int .i64 (f.fLookups.map TLookup.D).length)), (21, .d (.int .i64 k))]) (fun k => [.gone, .box (.d f.D), .arr 1 (((f.fLookups.take k).flatMap lkGl).map (D.int .i64)) true]) (fun k => k ≤ f.fLookups.length) (fun k => f.fLookups.length - k) 0 (Weak.trans (Weak.adopt (k := 3) rfl 1 true) (Weak.cov ⟨rfl, rfl, rfl, rfl, rfl, trivial⟩ ⟨trivial, rfl, rfl, trivial⟩ rfl)) (by omega) (fun k hk => ?_)
  have b1 := fmt_len (m := 19360) (f := lkGl) (xs := f.fLookups) (fun x hx => lkGl_len (F.lk x hx)) k
  have b1' := Nat.mul_le_mul_right 19360 n1
  (conv => whnf)
  (refine br_ (fun h1 => ?_) (fun h1 => ?_) <;> (repeat (refine stg_ ?_)))
  · obtain ⟨l, hl⟩ := at_lt' (xs := f.fLookups) (k := k) (by omega)
    have hlB := F.lk l (List.mem_of_getElem? hl)
    obtain ⟨hrB, hrN⟩ := lkB_ru hlB
    have hRu : (l.fRules.map TRule.D).length = l.fRules.length := List.length_map _
    have e1 := fmt_succ (f := lkGl) hl
    generalize (f.fLookups.take k).flatMap lkGl = O1 at *
    (repeat (refine stg_ ?_))
    refine LoopW.go (α := Nat) (fun j => [(1, .pB 1 [] 0), (3, .own 2 0 ((O1 ++ (l.fRules.take j).flatMap ruGl).map (D.int .i64)).length), (5, .pB 3 [] 0), (19, .d (.lst (f.fLookups.map TLookup.D))), (20, .d (.int .i64 (f.fLookups.map TLookup.D).length)), (21, .d (.int .i64 k)), (26, .d (.lst (l.fRules.map TRule.D))), (27, .d (.int .i64 (l.fRules.map TRule.D).length)), (28, .d (.int .i64 j))]) (fun j => [.gone, .box (.d f.D), .arr 1 ((O1 ++ (l.fRules.take j).flatMap ruGl).map (D.int .i64)) true, .box (.d l.D)]) (fun j => j ≤ l.fRules.length) (fun j => l.fRules.length - j) 0 (Weak.cov ⟨rfl, by (show V.own 2 0 (O1.map (D.int .i64)).length = _; simp), rfl, rfl, rfl, rfl, rfl, rfl, rfl, trivial⟩ ⟨trivial, rfl, by simp, rfl, trivial⟩ rfl) (by omega) (fun j hj => ?_)
    have b2 := fmt_len (m := 484) (f := ruGl) (xs := l.fRules) (fun x hx => ruGl_len (hrB x hx)) j
    have b2' := Nat.mul_le_mul_right 484 hrN
    (conv => whnf)
    (refine br_ (fun h2 => ?_) (fun h2 => ?_) <;> (repeat (refine stg_ ?_)))
    · obtain ⟨r, hr⟩ := at_lt' (xs := l.fRules) (k := j) (by omega)
      obtain ⟨q1, q2, q3, q4, -⟩ := ruB_fcs (hrB r (List.mem_of_getElem? hr))
      have e2 := fmt_succ (f := ruGl) hr
      have e3 : ruGl r = (r.fBefore ++ r.fInput ++ r.fAfter).flatten ++ r.fOutput := rfl
      have e4 : [r.fBefore, r.fInput, r.fAfter].flatten = r.fBefore ++ r.fInput ++ r.fAfter := by simp
      have e5 : lenS [r.fBefore, r.fInput, r.fAfter] = (r.fBefore ++ r.fInput ++ r.fAfter).length := by simp [lenS]
      have c1 := catL_v [r.fBefore, r.fInput, r.fAfter] (by omega)
      rw [e4, e5] at c1
      have b3 := fun i => flt_len (m := 40) (xs := r.fBefore ++ r.fInput ++ r.fAfter) (fun c hc => fcB_len (q1 c hc)) i
      generalize r.fBefore ++ r.fInput ++ r.fAfter = cs at *
      have hCs : (cs.map (lstD (D.int .i64))).length = cs.length := List.length_map _
      have hO : (O1 ++ (l.fRules.take j).flatMap ruGl).length ≤ 154880 + 19360 := by rw [List.length_append]; omega
      generalize hO2 : O1 ++ (l.fRules.take j).flatMap ruGl = O2 at *
      (repeat' (first | (refine stg_ ?_) | (refine clg_ (c1) ?_) | (refine br_ (fun hbr => ?_) (fun hbr => ?_))))
      refine LoopW.go (α := Nat) (fun i => [(1, .pB 1 [] 0), (3, .own 2 0 ((O2 ++ (cs.take i).flatten).map (D.int .i64)).length), (5, .pB 3 [] 0), (7, .pB 4 [] 0), (19, .d (.lst (f.fLookups.map TLookup.D))), (20, .d (.int .i64 (f.fLookups.map TLookup.D).length)), (21, .d (.int .i64 k)), (26, .d (.lst (l.fRules.map TRule.D))), (27, .d (.int .i64 (l.fRules.map TRule.D).length)), (28, .d (.int .i64 j)), (39, .own 6 0 cs.length), (40, .d (.int .i64 cs.length)), (41, .d (.int .i64 i))]) (fun i => [.gone, .box (.d f.D), .arr 1 ((O2 ++ (cs.take i).flatten).map (D.int .i64)) true, .box (.d l.D), .box (.d r.D), .arr 1 [] true, .arr 1 (cs.map (lstD (D.int .i64))) false]) (fun i => i ≤ cs.length) (fun i => cs.length - i) 0 (Weak.cov ⟨rfl, by (show V.own 2 0 (O2.map (D.int .i64)).length = _; simp), rfl, rfl, rfl, rfl, rfl, rfl, rfl, rfl, rfl, rfl, rfl, trivial⟩ ⟨trivial, rfl, by simp, rfl, rfl, rfl, rfl, trivial⟩ rfl) (by omega) (fun i hi => ?_)
      have b3 := b3 i
      have b3' := Nat.mul_le_mul_right 40 q2
      (conv => whnf)
      (refine br_ (fun h3 => ?_) (fun h3 => ?_) <;> (repeat (refine stg_ ?_)))
      · obtain ⟨c, hc⟩ := at_lt' (xs := cs) (k := i) (by omega)
        have hc' : (cs.map (lstD (D.int .i64)))[i]? = some (lstD (D.int .i64) c) := by rw [List.getElem?_map, hc]; rfl
        have hcl := fcB_len (q1 c (List.mem_of_getElem? hc))
        have e6 : (O2 ++ (cs.take (i + 1)).flatten).map (D.int .i64) = (O2 ++ (cs.take i).flatten).map (D.int .i64) ++ c.map (D.int .i64) := by rw [flt_succ hc, ← List.append_assoc, List.map_append]
        have hO3 : (O2 ++ (cs.take i).flatten).length ≤ 154880 + 19360 + 480 := by rw [List.length_append]; omega
        generalize (O2 ++ (cs.take i).flatten) = O3 at *
        (repeat' (first | (refine stg_ ?_) | fail | (refine br_ (fun hbr => ?_) (fun hbr => ?_))))
        refine NextW.go (i + 1) (Weak.cov ⟨rfl, ?_, rfl, rfl, rfl, rfl, rfl, rfl, rfl, rfl, rfl, rfl, rfl, trivial⟩ ⟨trivial, rfl, ?_, rfl, rfl, rfl, rfl, trivial⟩ rfl) (by omega) (by omega)
        · rw [e6]; simp only [List.length_append]; rfl
        · rw [e6, List.take_length]
      · obtain rfl : i = cs.length := by omega
        rw [List.take_length] at *
        have hO3 : (O2 ++ cs.flatten).length ≤ 154880 + 19360 + 480 := by rw [List.length_append]; omega
        have e7 : (O1 ++ (l.fRules.take (j + 1)).flatMap ruGl).map (D.int .i64) = (O2 ++ cs.flatten).map (D.int .i64) ++ r.fOutput.map (D.int .i64) := by
          rw [e2, ← List.append_assoc, hO2, e3, ← List.append_assoc, List.map_append]
        generalize O2 ++ cs.flatten = O3 at *
        (repeat' (first | (refine stg_ ?_) | fail | (refine br_ (fun hbr => ?_) (fun hbr => ?_))))
        refine NextW.go (j + 1) (Weak.cov ⟨rfl, ?_, rfl, rfl, rfl, rfl, rfl, rfl, rfl, trivial⟩ ⟨trivial, rfl, ?_, rfl, trivial⟩ rfl) (by omega) (by omega)
        · rw [e7]; simp only [List.length_append]; rfl
        · rw [e7, List.take_length]
    · obtain rfl : j = l.fRules.length := by omega
      rw [List.take_length] at *
      have e8 : ((f.fLookups.take (k + 1)).flatMap lkGl).map (D.int .i64) = (O1 ++ l.fRules.flatMap ruGl).map (D.int .i64) := by rw [e1]; rfl
      (repeat' (first | (refine stg_ ?_) | fail | (refine br_ (fun hbr => ?_) (fun hbr => ?_))))
      refine NextW.go (k + 1) (Weak.cov ⟨rfl, ?_, rfl, rfl, rfl, trivial⟩ ⟨trivial, rfl, ?_, trivial⟩ rfl) (by omega) (by omega)
      · rw [e8]; rfl
      · rw [e8]
  · obtain rfl : k = f.fLookups.length := by omega
    rw [List.take_length] at *
    have hU1 : (f.fLookups.flatMap lkGl).length ≤ 154880 := by omega
    have hUs : usG f = f.fLookups.flatMap lkGl ++ f.fKerns.flatMap knGl ++ f.fMarks.flatMap mkGl ++ f.fJoins.flatMap jnGl := rfl
    generalize f.fLookups.flatMap lkGl = U1 at *
    clear b1 b1' h1 hk
    (repeat (refine stg_ ?_))
    refine LoopW.go (α := Nat) (fun k => [(1, .pB 1 [] 0), (3, .own 2 0 ((U1 ++ (f.fKerns.take k).flatMap knGl).map (D.int .i64)).length), (56, .d (.lst (f.fKerns.map TKern.D))), (57, .d (.int .i64 (f.fKerns.map TKern.D).length)), (58, .d (.int .i64 k))]) (fun k => [.gone, .box (.d f.D), .arr 1 ((U1 ++ (f.fKerns.take k).flatMap knGl).map (D.int .i64)) true]) (fun k => k ≤ f.fKerns.length) (fun k => f.fKerns.length - k) 0 (Weak.cov ⟨rfl, by (show V.own 2 0 (U1.map (D.int .i64)).length = _; simp), rfl, rfl, rfl, trivial⟩ ⟨trivial, rfl, by simp, trivial⟩ rfl) (by omega) (fun k hk => ?_)
    have b4 := fmt_len (m := 80) (f := knGl) (xs := f.fKerns) (fun x hx => by
      obtain ⟨h1, h2⟩ := knB_l (F.kn x hx)
      have := fcB_len h1
      have := fcB_len h2
      rw [knGl, List.length_append]; omega) k
    have b4' := Nat.mul_le_mul_right 80 n2
    (conv => whnf)
    (refine br_ (fun h1 => ?_) (fun h1 => ?_) <;> (repeat (refine stg_ ?_)))
    · obtain ⟨x, hx⟩ := at_lt' (xs := f.fKerns) (k := k) (by omega)
      obtain ⟨p1, p2⟩ := knB_l (F.kn x (List.mem_of_getElem? hx))
      have p1 := fcB_len p1
      have p2 := fcB_len p2
      have hO : (U1 ++ (f.fKerns.take k).flatMap knGl).length ≤ 160000 := by rw [List.length_append]; omega
      have e1 : U1 ++ (f.fKerns.take (k + 1)).flatMap knGl = (U1 ++ (f.fKerns.take k).flatMap knGl) ++ knGl x := by rw [fmt_succ hx, List.append_assoc]
      generalize (U1 ++ (f.fKerns.take k).flatMap knGl) = O at *
      have e4 : [O, x.fLeft, x.fRight].flatten = O ++ knGl x := by simp [knGl]
      have e5 : lenS [O, x.fLeft, x.fRight] = ((O ++ knGl x).map (D.int .i64)).length := by simp [lenS, knGl]
      have c1 := catI_v [O, x.fLeft, x.fRight] (by simp only [lenS]; omega)
      rw [e4, e5] at c1
      (repeat (refine stg_ ?_))
      (refine cla_ (c1) ?_ (hb := ⟨_, _, rfl, ⟨_, rfl, rfl, rfl, _, rfl, ⟨_, _, rfl, ⟨by simp, by (show _ = D.lst (List.take _ (List.drop 0 _)); rw [List.drop_zero, List.take_of_length_le (by simp)])⟩, ⟨_, _, rfl, ⟨rfl, rfl⟩, ⟨_, _, rfl, ⟨rfl, rfl⟩, rfl⟩⟩⟩⟩, rfl⟩))
      (repeat (refine stg_ ?_))
      refine NextW.go (k + 1) (Weak.trans (Weak.swap 2 5 rfl) (Weak.cov ⟨rfl, ?_, rfl, rfl, rfl, trivial⟩ ⟨trivial, rfl, ?_, trivial⟩ rfl)) (by omega) (by omega)
      · rw [e1]; rfl
      · rw [e1]; rfl
    · obtain rfl : k = f.fKerns.length := by omega
      rw [List.take_length] at *
      have hU2 : (U1 ++ f.fKerns.flatMap knGl).length ≤ 160000 := by rw [List.length_append]; omega
      generalize U1 ++ f.fKerns.flatMap knGl = U2 at *
      clear b4 b4' h1 hk hU1
      (repeat (refine stg_ ?_))
      refine LoopW.go (α := Nat) (fun k => [(1, .pB 1 [] 0), (3, .own 2 0 ((U2 ++ (f.fMarks.take k).flatMap mkGl).map (D.int .i64)).length), (71, .d (.lst (f.fMarks.map TMarkRule.D))), (72, .d (.int .i64 (f.fMarks.map TMarkRule.D).length)), (73, .d (.int .i64 k))]) (fun k => [.gone, .box (.d f.D), .arr 1 ((U2 ++ (f.fMarks.take k).flatMap mkGl).map (D.int .i64)) true]) (fun k => k ≤ f.fMarks.length) (fun k => f.fMarks.length - k) 0 (Weak.cov ⟨rfl, by (show V.own 2 0 (U2.map (D.int .i64)).length = _; simp), rfl, rfl, rfl, trivial⟩ ⟨trivial, rfl, by simp, trivial⟩ rfl) (by omega) (fun k hk => ?_)
      have b4 := fmt_len (m := 80) (f := mkGl) (xs := f.fMarks) (fun x hx => by
        obtain ⟨h1, h2⟩ := mkB_l (F.mar x hx)
        have := fcB_len h1
        have := fcB_len h2
        rw [mkGl, List.length_append]; omega) k
      have b4' := Nat.mul_le_mul_right 80 n3
      (conv => whnf)
      (refine br_ (fun h1 => ?_) (fun h1 => ?_) <;> (repeat (refine stg_ ?_)))
      · obtain ⟨x, hx⟩ := at_lt' (xs := f.fMarks) (k := k) (by omega)
        obtain ⟨p1, p2⟩ := mkB_l (F.mar x (List.mem_of_getElem? hx))
        have p1 := fcB_len p1
        have p2 := fcB_len p2
        have hO : (U2 ++ (f.fMarks.take k).flatMap mkGl).length ≤ 170000 := by rw [List.length_append]; omega
        have e1 : U2 ++ (f.fMarks.take (k + 1)).flatMap mkGl = (U2 ++ (f.fMarks.take k).flatMap mkGl) ++ mkGl x := by rw [fmt_succ hx, List.append_assoc]
        generalize (U2 ++ (f.fMarks.take k).flatMap mkGl) = O at *
        have e4 : [O, x.fMarks, x.fBases].flatten = O ++ mkGl x := by simp [mkGl]
        have e5 : lenS [O, x.fMarks, x.fBases] = ((O ++ mkGl x).map (D.int .i64)).length := by simp [lenS, mkGl]
        have c1 := catI_v [O, x.fMarks, x.fBases] (by simp only [lenS]; omega)
        rw [e4, e5] at c1
        (repeat (refine stg_ ?_))
        (refine cla_ (c1) ?_ (hb := ⟨_, _, rfl, ⟨_, rfl, rfl, rfl, _, rfl, ⟨_, _, rfl, ⟨by simp, by (show _ = D.lst (List.take _ (List.drop 0 _)); rw [List.drop_zero, List.take_of_length_le (by simp)])⟩, ⟨_, _, rfl, ⟨rfl, rfl⟩, ⟨_, _, rfl, ⟨rfl, rfl⟩, rfl⟩⟩⟩⟩, rfl⟩))
        (repeat (refine stg_ ?_))
        refine NextW.go (k + 1) (Weak.trans (Weak.swap 2 5 rfl) (Weak.cov ⟨rfl, ?_, rfl, rfl, rfl, trivial⟩ ⟨trivial, rfl, ?_, trivial⟩ rfl)) (by omega) (by omega)
        · rw [e1]; rfl
        · rw [e1]; rfl
      · obtain rfl : k = f.fMarks.length := by omega
        rw [List.take_length] at *
        have hU3 : (U2 ++ f.fMarks.flatMap mkGl).length ≤ 170000 := by rw [List.length_append]; omega
        generalize U2 ++ f.fMarks.flatMap mkGl = U3 at *
        clear b4 b4' h1 hk hU2
        (repeat (refine stg_ ?_))
        refine LoopW.go (α := Nat) (fun k => [(1, .pB 1 [] 0), (3, .own 2 0 ((U3 ++ (f.fJoins.take k).flatMap jnGl).map (D.int .i64)).length), (86, .d (.lst (f.fJoins.map TJoin.D))), (87, .d (.int .i64 (f.fJoins.map TJoin.D).length)), (88, .d (.int .i64 k))]) (fun k => [.gone, .box (.d f.D), .arr 1 ((U3 ++ (f.fJoins.take k).flatMap jnGl).map (D.int .i64)) true]) (fun k => k ≤ f.fJoins.length) (fun k => f.fJoins.length - k) 0 (Weak.cov ⟨rfl, by (show V.own 2 0 (U3.map (D.int .i64)).length = _; simp), rfl, rfl, rfl, trivial⟩ ⟨trivial, rfl, by simp, trivial⟩ rfl) (by omega) (fun k hk => ?_)
        have b4 := fmt_len (m := 4) (f := jnGl) (xs := f.fJoins) (fun x _ => jnGl_len x) k
        have b4' := Nat.mul_le_mul_right 4 n4
        (conv => whnf)
        (refine br_ (fun h1 => ?_) (fun h1 => ?_) <;> (repeat (refine stg_ ?_)))
        · obtain ⟨x, hx⟩ := at_lt' (xs := f.fJoins) (k := k) (by omega)
          have hO : (U3 ++ (f.fJoins.take k).flatMap jnGl).length ≤ 180000 := by rw [List.length_append]; omega
          have e1 : U3 ++ (f.fJoins.take (k + 1)).flatMap jnGl = (U3 ++ (f.fJoins.take k).flatMap jnGl) ++ [x.fGlyph] ++ [x.fInit, x.fMedi, x.fFina].filter (fun g => decide (0 ≤ g)) := by rw [fmt_succ hx, ← List.append_assoc, jnGl, List.append_assoc _ [x.fGlyph]]; rfl
          generalize (U3 ++ (f.fJoins.take k).flatMap jnGl) = O at *
          have hOm : ((O ++ [x.fGlyph]).map (D.int .i64)).length = O.length + 1 := by simp
          have hO1 : (O ++ [x.fGlyph]).length ≤ 180001 := by simp; omega
          (repeat (refine stg_ ?_))
          refine LoopW.go (α := Nat) (fun m => [(1, .pB 1 [] 0), (3, .own 2 0 ((O ++ [x.fGlyph] ++ ([x.fInit, x.fMedi, x.fFina].take m).filter (fun g => decide (0 ≤ g))).map (D.int .i64)).length), (86, .d (.lst (f.fJoins.map TJoin.D))), (87, .d (.int .i64 (f.fJoins.map TJoin.D).length)), (88, .d (.int .i64 k)), (103, .own 5 0 3), (104, .d (.int .i64 3)), (105, .d (.int .i64 m))]) (fun m => [.gone, .box (.d f.D), .arr 1 ((O ++ [x.fGlyph] ++ ([x.fInit, x.fMedi, x.fFina].take m).filter (fun g => decide (0 ≤ g))).map (D.int .i64)) true, .box (.d x.D), .gone, .arr 1 ([x.fInit, x.fMedi, x.fFina].map (D.int .i64)) true]) (fun m => m ≤ 3) (fun m => 3 - m) 0 (Weak.cov ⟨rfl, ?_, rfl, rfl, rfl, rfl, rfl, rfl, trivial⟩ ⟨trivial, rfl, ?_, rfl, trivial, rfl, trivial⟩ rfl) (by omega) (fun m hm => ?_)
          · show V.own 2 0 ((O.map (D.int .i64)).length + 1) = V.own 2 0 ((O ++ [x.fGlyph] ++ []).map (D.int .i64)).length
            simp
          · show Blk.arr 1 ((O.map (D.int .i64)).take (O.map (D.int .i64)).length ++ [D.int .i64 x.fGlyph]) true = Blk.arr 1 ((O ++ [x.fGlyph] ++ []).map (D.int .i64)) true
            rw [List.take_length]; simp
          have b5 := List.length_filter_le (fun g => decide ((0 : Int) ≤ g)) ([x.fInit, x.fMedi, x.fFina].take m)
          have hT : [x.fInit, x.fMedi, x.fFina].length = 3 := rfl
          have e1' : ([x.fInit, x.fMedi, x.fFina].take 3) = [x.fInit, x.fMedi, x.fFina] := rfl
          rw [← e1'] at e1
          generalize [x.fInit, x.fMedi, x.fFina] = T at *
          have b5' : (T.take m).length ≤ 3 := by simp; omega
          have hT' : (T.map (D.int .i64)).length = T.length := List.length_map _
          have hO2 : (O ++ [x.fGlyph] ++ (T.take m).filter (fun g => decide (0 ≤ g))).length ≤ 180010 := by rw [List.length_append]; omega
          (conv => whnf)
          (refine br_ (fun h3 => ?_) (fun h3 => ?_) <;> (repeat (refine stg_ ?_)))
          · obtain ⟨y, hy⟩ := at_lt' (xs := T) (k := m) (by omega)
            have hy' : (T.map (D.int .i64))[m]? = some (.int .i64 y) := by rw [List.getElem?_map, hy]; rfl
            have e2 := flr_succ (p := fun g => decide ((0 : Int) ≤ g)) hy
            have e3 : O ++ [x.fGlyph] ++ (T.take (m + 1)).filter (fun g => decide (0 ≤ g)) = O ++ [x.fGlyph] ++ (T.take m).filter (fun g => decide (0 ≤ g)) ++ (if decide (0 ≤ y) = true then [y] else []) := by rw [e2, List.append_assoc, List.append_assoc, List.append_assoc]
            generalize O ++ [x.fGlyph] ++ (T.take m).filter (fun g => decide (0 ≤ g)) = O3 at *
            (repeat' (first | (refine stg_ ?_) | fail | (refine br_ (fun hbr => ?_) (fun hbr => ?_))))
            · rw [if_pos (by simp; omega)] at e3
              refine NextW.go (m + 1) (Weak.cov ⟨rfl, ?_, rfl, rfl, rfl, rfl, rfl, rfl, trivial⟩ ⟨trivial, rfl, ?_, rfl, trivial, rfl, trivial⟩ rfl) (by omega) (by omega)
              · rw [e3]
                show V.own 2 0 ((O3.map (D.int .i64)).length + 1) = _
                simp
              · rw [e3]
                show Blk.arr 1 ((O3.map (D.int .i64)).take (O3.map (D.int .i64)).length ++ [D.int .i64 y]) true = _
                rw [List.take_length]; simp
            · rw [if_neg (by simp; omega), List.append_nil] at e3
              refine NextW.go (m + 1) (Weak.cov ⟨rfl, ?_, rfl, rfl, rfl, rfl, rfl, rfl, trivial⟩ ⟨trivial, rfl, ?_, rfl, trivial, rfl, trivial⟩ rfl) (by omega) (by omega)
              · rw [e3]; rfl
              · rw [e3]
          · obtain rfl : m = 3 := by omega
            rw [← e1] at *
            (repeat (refine stg_ ?_))
            refine NextW.go (k + 1) (Weak.cov ⟨rfl, rfl, rfl, rfl, rfl, trivial⟩ ⟨trivial, rfl, rfl, trivial⟩ rfl) (by omega) (by omega)
        · obtain rfl : k = f.fJoins.length := by omega
          rw [List.take_length] at *
          have hU4 : (U3 ++ f.fJoins.flatMap jnGl).length ≤ 180000 := by rw [List.length_append]; omega
          rw [← hUs] at *
          have c1 := classOf_v (usG f) (by omega)
          (repeat' (first | (refine stg_ ?_) | (refine cla_ (c1) ?_) | (refine br_ (fun hbr => ?_) (fun hbr => ?_))))
          (refine ⟨⟨[some 3], ⟨by decide, rfl, trivial, trivial⟩, by decide, rfl, ?_⟩⟩; (conv => whnf); exact ⟨by decide, rfl⟩)
end Go.Proofs.YtcachhipflibkaaGreat
