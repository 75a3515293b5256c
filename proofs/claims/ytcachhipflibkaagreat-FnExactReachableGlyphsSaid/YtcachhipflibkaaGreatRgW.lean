/- merged: several parts in one text. Leans on no more than they do. -/
import Derived.Test.YtcachhipflibkaaGreatVMTac
import Derived.Test.YtcachhipflibkaaGreatRgP
set_option linter.unusedSimpArgs false
set_option linter.unusedVariables false
namespace Go.Proofs.YtcachhipflibkaaGreat
open Go.RowKit
theorem CallW.same {P : Program} {dr : Bool} {f : FuncId} {As : List V} (pc : ∀ g n c, PC P f (.d (.hole g n c) :: As) (.d (.hole g n c)) []) {b len : Nat} {vs : List V} {e : Env} {h : List Blk} {K : V → Env → List Blk → Prop}
    (hb : borVs h vs As) (H : K (.own b 0 len) e h) : CallW P dr f (.own b 0 len :: vs) e h K := by
  refine ⟨.inl (.inr ⟨(pc 0 0 0).fn, fun B X0 N M a w args R hargs => ?_⟩)⟩
  obtain ⟨c0, cs, rfl, h1, h2⟩ := hargs
  have h3 := rep_own.1 (rep_of_rep1 h1)
  have h3' := h3
  obtain ⟨aa, cap, rfl, k1, k2, k3, k4⟩ := h3
  obtain ⟨g, hg⟩ : ∃ g, cap = 0 ∨ aa = some ⟨g, 0, none⟩ := by
    rcases k4 with k4 | ⟨g, F, arr, t, m1, m2, m3, m4⟩
    · exact ⟨0, .inl k4⟩
    · exact ⟨g, .inr (by rw [m2, Nat.zero_mul])⟩
  have hh : rep1 w [mX []] [.gone] (.d (.hole g len cap)) (.slice aa len cap) := rep1_of_rep rfl (by
    simp only [rep, rep1, V.isAgg, D.agg, repC, repD]
    exact ⟨aa, rfl, k1, k2, k3, hg⟩)
  refine ((pc g len cap).run w [] _ (by simp) (by simp) ⟨_, _, rfl, hh, borT_sound R.inv vs cs As h2 (.inl rfl) hb⟩).mono ?_
  rintro en w' ⟨cv, M', rfl, hx, hI, hr⟩
  simp only [rep, rep1, V.isAgg, D.agg, repC, repD] at hr
  obtain ⟨a2, e2, q1, q2, q3, q4⟩ := hr
  obtain rfl : cv = .slice a2 len cap := by simpa using e2
  have R' : Rep B X0 N M e h a w' := R.step (R.ext.trans hx) (R.inv.ext hx) (hx.mv R.inv.hi) rfl rfl
  refine ⟨_, _, h, M, rfl, H, hx, R', ?_⟩
  rcases Nat.eq_zero_or_pos cap with hc | hc
  · subst hc
    exact rep_own.2 ⟨a2, 0, rfl, k1, k2, q3, .inl rfl⟩
  · obtain rfl : a2 = aa := by
      rcases q4 with q4 | q4
      · omega
      · rcases hg with hg | hg
        · omega
        · rw [q4, hg]
    exact rep_mv (hx.mv R.inv.hi) _ _ (V.inS_all _) (rep_own.2 h3')
theorem cls_ {P : Program} {dr : Bool} {f : FuncId} {As : List V} {b len : Nat} {vs vs0 : List V} {e : Env} {h : List Blk} {K : V → Env → List Blk → Prop} {Q : Prop} (pc : ∀ g n c, PC P f (.d (.hole g n c) :: As) (.d (.hole g n c)) []) (H : Q)
    (hvs : vs0 = .own b 0 len :: vs := by exact rfl) (hb : borVs h vs As := by ((repeat' (first | exact trivial | with_reducible rfl | ((conv => whnf); first | done | exact trivial | with_reducible rfl | (exact Or.inr ⟨rfl, rfl, rfl, rfl⟩) | (refine Or.inl ⟨_, rfl, ?_⟩) | (refine ⟨rfl, _, rfl, ?_⟩) | (refine ⟨_, _, rfl, ?_, ?_⟩) | (refine ⟨_, rfl, ?_⟩) | ((refine ⟨?_, ?_⟩); (focus (first | (simp; done) | omega)); (focus ((first | rw [List.drop_zero, List.take_of_length_le (Nat.le_of_eq (List.length_map _))] | rw [List.drop_zero, List.take_of_length_le (by omega)] | rfl); done))) | rfl))); (first | done | fail))) (hk : Q → K (.own b 0 len) e h := by (intro H; (conv => whnf); exact H)) : CallW P dr f vs0 e h K := by
  subst hvs
  exact CallW.same pc hb (hk H)
theorem l00Own_v (xs : List Int) (hl : xs.length ≤ 1048576) : PC Tryz.prog 44 [.d (.lst (xs.map (D.int .i64)))] (.own 1 0 xs.length) [.arr 1 (xs.map (D.int .i64)) true] := by
  refine pc_intro ttOk (by kernel_rfl) Tryz.func44 rfl (by kernel_rfl) (by kernel_rfl) (by kernel_rfl) (fun hw => ?_)
  have hL : (xs.map (D.int .i64)).length = xs.length := List.length_map _
  have hm : (xs.map (D.int .i64)).length ≤ 9223372036854775807 := hw.1.1
  (conv => whnf)
  (repeat' (first | (refine stg_ ?_) | fail | (refine br_ (fun hbr => ?_) (fun hbr => ?_))))
  rw [show xs.length = 0 + (xs.map (D.int .i64)).length by simp]
  (refine ⟨⟨[some 1], ⟨by decide, rfl, trivial, trivial⟩, by decide, rfl, ?_⟩⟩; (conv => whnf); exact ⟨by decide, rfl⟩)
set_option maxHeartbeats 2000000 in
theorem l25All_h (l : List Int) (hl : ∀ g ∈ l, g < 0) (g n c : Nat) : PC Tryz.prog 46 [.d (.hole g n c), .d (.lst (l.map (D.int .i64)))] (.d (.hole g n c)) [] := by
  refine pc_intro ttOk (by kernel_rfl) Tryz.func46 rfl (by kernel_rfl) (by kernel_rfl) (by kernel_rfl) (fun hw => ?_)
  have hL : (l.map (D.int .i64)).length = l.length := List.length_map _
  have hm : (l.map (D.int .i64)).length ≤ 9223372036854775807 := hw.2.1.1
  (conv => whnf)
  refine LoopW.go (α := Nat) (fun k => [(0, .d (.hole g n c)), (1, .d (.lst (l.map (D.int .i64)))), (5, .d (.int .i64 k))]) (fun k => [.gone]) (fun k => k ≤ l.length) (fun k => l.length - k) 0 covT_ ?_ (fun k hk => ?_)
  · omega
  (conv => whnf)
  (refine br_ (fun h2 => ?_) (fun h2 => ?_) <;> (repeat (refine stg_ ?_)))
  · obtain ⟨x, hx⟩ := at_lt' (xs := l) (k := k) (by omega)
    have hx0 := hl x (List.mem_of_getElem? hx)
    (repeat' (first | (refine stg_ ?_) | fail | (refine br_ (fun hbr => ?_) (fun hbr => ?_))))
    all_goals first | (exfalso; omega) | skip
    exact NextW.go (k + 1) covT_ (by omega) (by omega)
  · (refine RetOK.d rfl rfl ?_; conv => whnf)
set_option maxHeartbeats 2000000 in
theorem l25All_e (o l : List Int) (hB : Bd o) (hl : ∀ g ∈ l, g ≤ 39) (h0 : ∃ g ∈ l, 0 ≤ g) : PC Tryz.prog 46 [.d (.lst (o.map (D.int .i64))), .d (.lst (l.map (D.int .i64)))] (.own 1 0 (ptA o l).length) [.arr 1 ((ptA o l).map (D.int .i64)) true] := by
  refine pc_intro ttOk (by kernel_rfl) Tryz.func46 rfl (by kernel_rfl) (by kernel_rfl) (by kernel_rfl) (fun hw => ?_)
  have hL : (l.map (D.int .i64)).length = l.length := List.length_map _
  have hm : (l.map (D.int .i64)).length ≤ 9223372036854775807 := hw.2.1.1
  (conv => whnf)
  refine LoopW.go (α := Bool × Nat) (fun p => match p.1 with
      | false => [(0, .d (.lst (o.map (D.int .i64)))), (1, .d (.lst (l.map (D.int .i64)))), (5, .d (.int .i64 (p.2 : Nat)))]
      | true => [(0, .own 1 0 (ptA o (l.take p.2)).length), (1, .d (.lst (l.map (D.int .i64)))), (5, .d (.int .i64 (p.2 : Nat)))])
    (fun p => match p.1 with
      | false => [.gone]
      | true => [.gone, .arr 1 ((ptA o (l.take p.2)).map (D.int .i64)) true]) (fun p => p.2 ≤ l.length ∧ (p.1 = false → ∀ g ∈ l.take p.2, g < 0)) (fun p => l.length - p.2) (false, 0) covT_ ⟨by dsimp only; omega, fun _ g hg => by simp at hg⟩ ?_
  rintro ⟨b, k⟩ ⟨hk, hn⟩
  dsimp only at hk hn
  cases b with
  | false =>
    have hn := hn rfl
    by_cases hlt : k < l.length
    · obtain ⟨x, hx⟩ := at_lt' (xs := l) (k := k) hlt
      have hS := ptA_snoc (o := o) hx
      have hP : ptA o (l.take k) = o := by
        have key : ∀ (t : List Int), (∀ g ∈ t, g < 0) → ptA o t = o := by
          intro t
          induction t with
          | nil => intro _; rfl
          | cons y t ih =>
            intro h
            have : ptS o y = o := by rw [ptS, if_neg (by have := h y (by simp); omega)]
            show ptA (ptS o y) t = o
            rw [this]; exact ih (fun g hg => h g (by simp [hg]))
        exact key _ hn
      rw [hP] at hS
      have c1 := l00Put_o o x (by have := hB.len; omega)
      by_cases hx0 : 0 ≤ x
      · rw [ptS, if_pos hx0] at hS
        (conv => whnf)
        (repeat' (first | (refine stg_ ?_) | (refine cla_ (c1) ?_) | (refine br_ (fun hbr => ?_) (fun hbr => ?_))))
        all_goals first | (exfalso; omega) | skip
        refine NextW.go (true, k + 1) (Weak.cov ⟨by (show V.own 1 0 _ = V.own 1 0 (ptA o (l.take (k + 1))).length; rw [hS]; first | done | rfl), rfl, rfl, trivial⟩ ⟨trivial, by (show _ = Blk.arr 1 ((ptA o (l.take (k + 1))).map (D.int .i64)) true; rw [hS]; first | done | rfl), trivial⟩ rfl) ⟨by dsimp only; omega, fun e => by cases e⟩ (by dsimp only; omega)
      · (conv => whnf)
        (repeat' (first | (refine stg_ ?_) | fail | (refine br_ (fun hbr => ?_) (fun hbr => ?_))))
        all_goals first | (exfalso; omega) | skip
        refine NextW.go (false, k + 1) covT_ ⟨by dsimp only; omega, fun _ g hg => ?_⟩ (by dsimp only; omega)
        dsimp only at hg
        rw [take_snoc_get hx] at hg
        rcases List.mem_append.1 hg with hg | hg
        · exact hn g hg
        · have : g = x := by simpa using hg
          omega
    · exfalso
      obtain ⟨g, hg, hg0⟩ := h0
      have := hn g (by rw [List.take_of_length_le (by omega)]; exact hg)
      omega
  | true =>
    have hB2 : Bd (ptA o (l.take k)) := hB.all (fun g hg => hl g (List.mem_of_mem_take hg))
    have hOl : ((ptA o (l.take k)).map (D.int .i64)).length = (ptA o (l.take k)).length := List.length_map _
    by_cases hlt : k < l.length
    · obtain ⟨x, hx⟩ := at_lt' (xs := l) (k := k) hlt
      have hS := ptA_snoc (o := o) hx
      have c1 := l00Put_o (ptA o (l.take k)) x (by have := hB2.len; omega)
      by_cases hx0 : 0 ≤ x
      · rw [ptS, if_pos hx0] at hS
        (conv => whnf)
        (repeat' (first | (refine stg_ ?_) | (refine cla_ (c1) ?_) | (refine br_ (fun hbr => ?_) (fun hbr => ?_))))
        all_goals first | (exfalso; omega) | skip
        refine NextW.go (true, k + 1) (Weak.trans (Weak.swap 1 2 ?_) (Weak.cov ⟨by (show V.own 1 0 _ = V.own 1 0 (ptA o (l.take (k + 1))).length; rw [hS]; first | done | rfl), rfl, rfl, trivial⟩ ⟨trivial, by (show _ = Blk.arr 1 ((ptA o (l.take (k + 1))).map (D.int .i64)) true; rw [hS]; first | done | rfl), trivial⟩ rfl)) ⟨by dsimp only; omega, fun e => by cases e⟩ (by dsimp only; omega)
        rfl
      · rw [ptS, if_neg hx0] at hS
        (conv => whnf)
        (repeat' (first | (refine stg_ ?_) | fail | (refine br_ (fun hbr => ?_) (fun hbr => ?_))))
        all_goals first | (exfalso; omega) | skip
        refine NextW.go (true, k + 1) (Weak.cov ⟨by (show V.own 1 0 _ = V.own 1 0 (ptA o (l.take (k + 1))).length; rw [hS]; first | done | rfl), rfl, rfl, trivial⟩ ⟨trivial, by (show _ = Blk.arr 1 ((ptA o (l.take (k + 1))).map (D.int .i64)) true; rw [hS]; first | done | rfl), trivial⟩ rfl) ⟨by dsimp only; omega, fun e => by cases e⟩ (by dsimp only; omega)
    · have hT : l.take k = l := List.take_of_length_le (by omega)
      dsimp only
      rw [hT]
      (conv => whnf)
      (repeat' (first | (refine stg_ ?_) | fail | (refine br_ (fun hbr => ?_) (fun hbr => ?_))))
      all_goals first | (exfalso; omega) | skip
      (refine ⟨⟨[some 1], ⟨by decide, rfl, trivial, trivial⟩, by decide, rfl, ?_⟩⟩; (conv => whnf); exact ⟨by decide, rfl⟩)
theorem l26Meets_v (cs : List (List Int)) (o : List Int) (hcl : ∀ c ∈ cs, c.length ≤ 1000) : PC Tryz.prog 45 [.d (.lst (cs.map (lstD (D.int .i64)))), .d (.lst (o.map (D.int .i64)))] (.d (.bool (rgM cs o))) [] := by
  refine pc_intro ttOk (by kernel_rfl) Tryz.func45 rfl (by kernel_rfl) (by kernel_rfl) (by kernel_rfl) (fun hw => ?_)
  have hL : (cs.map (lstD (D.int .i64))).length = cs.length := List.length_map _
  have hm : (cs.map (lstD (D.int .i64))).length ≤ 9223372036854775807 := hw.1.1
  have c1 := fun x => l00Has_v o x
  (conv => whnf)
  refine LoopW.go (α := Nat) (fun k => [(0, .d (.lst (cs.map (lstD (D.int .i64))))), (1, .d (.lst (o.map (D.int .i64)))), (5, .d (.int .i64 k))]) (fun k => [.gone]) (fun k => k ≤ cs.length ∧ rgM cs o = rgM (cs.drop k) o) (fun k => cs.length - k) 0 covT_ ?_ (fun k hk => ?_)
  · exact ⟨by omega, rfl⟩
  obtain ⟨hk, hU⟩ := hk
  (conv => whnf)
  (refine br_ (fun h2 => ?_) (fun h2 => ?_) <;> (repeat (refine stg_ ?_)))
  · obtain ⟨c, hc⟩ := at_lt' (xs := cs) (k := k) (by omega)
    rw [drop_at hc] at hU
    change rgM cs o = ((c.any fun g => decide (g ∈ o)) && rgM (cs.drop (k + 1)) o) at hU
    have hLc : (c.map (D.int .i64)).length = c.length := List.length_map _
    have hmc := hcl c (List.mem_of_getElem? hc)
    (repeat (refine stg_ ?_))
    refine LoopW.go (α := Nat × Bool) (fun p => [(0, .d (.lst (cs.map (lstD (D.int .i64))))), (1, .d (.lst (o.map (D.int .i64)))), (5, .d (.int .i64 k)), (6, .d (.bool p.2)), (7, .d (.int .i64 (p.1 : Nat)))]) (fun _ => [.gone]) (fun p => p.1 ≤ c.length ∧ (c.any fun g => decide (g ∈ o)) = (p.2 || (c.drop p.1).any fun g => decide (g ∈ o))) (fun p => c.length - p.1) (0, false) covT_ ⟨by dsimp only; omega, rfl⟩ ?_
    rintro ⟨j, b⟩ ⟨hj, hV⟩
    dsimp only at hj hV ⊢
    (conv => whnf)
    (repeat (refine stg_ ?_))
    (refine br_ (fun h3 => ?_) (fun h3 => ?_) <;> (repeat (refine stg_ ?_)))
    · obtain ⟨x, hx⟩ := at_lt' (xs := c) (k := j) (by omega)
      rw [drop_at hx] at hV
      change _ = (b || (decide (x ∈ o) || (c.drop (j + 1)).any fun g => decide (g ∈ o))) at hV
      have c2 := c1 x
      rw [hasI_mem] at c2
      (repeat' (first | (refine stg_ ?_) | (refine cla_ (c2) ?_) | (refine br_ (fun hbr => ?_) (fun hbr => ?_))))
      all_goals first | (exfalso; omega) | skip
      · subst hbr
        refine NextW.go (j + 1, true) covT_ ⟨by dsimp only; omega, by dsimp only; rw [hV]; rfl⟩ (by dsimp only; omega)
      · subst hbr
        refine NextW.go (j + 1, decide (x ∈ o)) covT_ ⟨by dsimp only; omega, by dsimp only; rw [hV]; rfl⟩ (by dsimp only; omega)
    · rw [List.drop_eq_nil_of_le (by omega), List.any_nil, Bool.or_false] at hV
      rw [hV] at hU
      (repeat' (first | (refine stg_ ?_) | fail | (refine br_ (fun hbr => ?_) (fun hbr => ?_))))
      all_goals subst hbr
      · (refine RetOK.d rfl rfl ?_; conv => whnf)
        rw [hU]; rfl
      · exact NextW.go (k + 1) covT_ ⟨by omega, hU⟩ (by omega)
  · rw [List.drop_eq_nil_of_le (by omega)] at hU
    (refine RetOK.d rfl rfl ?_; conv => whnf)
    rw [hU]; rfl
set_option maxHeartbeats 8000000 in
theorem specReachableGlyphs_v (f : TFeatures) (c : List Int) (v : V) (bs : List Blk) (h0 : (ftB f && clsB c) = true → v = .tup [.own 1 0 (rgS f c).length, .d (.int .i64 0)] ∧ bs = [.arr 1 ((rgS f c).map (D.int .i64)) true])
    (h1 : (ftB f && clsB c) = false → v = .tup [.nils, .d (.int .i64 1)] ∧ bs = []) : PC Tryz.prog 9 [.d f.D, .d (.lst (c.map (D.int .i64)))] v bs := by
  refine pc_intro ttOk (by kernel_rfl) Tryz.func9 rfl (by kernel_rfl) (by kernel_rfl) (by kernel_rfl) (fun hw => ?_)
  have c1 := l25Ok_v f
  have c2 := l23Ok_v c
  cases hf : ftB f with
  | false =>
    rw [hf] at c1 h1
    obtain ⟨rfl, rfl⟩ := h1 rfl
    (conv => whnf)
    (repeat' (first | (refine stg_ ?_) | (refine cla_ (c1) ?_) | (refine cla_ (c2) ?_) | (refine br_ (fun hbr => ?_) (fun hbr => ?_))))
    all_goals first | (exfalso; simp_all; done) | skip
    all_goals (refine ⟨⟨[], trivial, by decide, ⟨_, rfl, rfl, ⟨_, _, rfl, rfl, ⟨_, _, rfl, ⟨rfl, ?_⟩, rfl⟩⟩⟩⟩⟩; (conv => whnf))
    all_goals rfl
  | true =>
  rw [hf] at c1 h1 h0
  cases hc : clsB c with
  | false =>
    rw [hc] at c2 h1
    obtain ⟨rfl, rfl⟩ := h1 rfl
    (conv => whnf)
    (repeat' (first | (refine stg_ ?_) | (refine cla_ (c1) ?_) | (refine cla_ (c2) ?_) | (refine br_ (fun hbr => ?_) (fun hbr => ?_))))
    all_goals first | (exfalso; simp_all; done) | skip
    all_goals (refine ⟨⟨[], trivial, by decide, ⟨_, rfl, rfl, ⟨_, _, rfl, rfl, ⟨_, _, rfl, ⟨rfl, ?_⟩, rfl⟩⟩⟩⟩⟩; (conv => whnf))
    all_goals rfl
  | true =>
  rw [hc] at c2 h0
  obtain ⟨rfl, rfl⟩ := h0 rfl
  clear h0 h1
  have F := ftB_F hf
  have hB0 := cls_Bd hc
  have hl0 := hB0.len
  have hL1 : (f.fLookups.map TLookup.D).length = f.fLookups.length := List.length_map _
  have hL4 : (f.fJoins.map TJoin.D).length = f.fJoins.length := List.length_map _
  have n1 := F.lkn
  have n4 := F.jnn
  have c3 := l00Own_v c (by omega)
  have hUU : rgS f c = rgN f 41 c := rfl
  generalize rgS f c = U at *
  (conv => whnf)
  (repeat' (first | (refine stg_ ?_) | (refine cla_ (c1) ?_) | (refine cla_ (c2) ?_) | (refine cla_ (c3) ?_) | (refine br_ (fun hbr => ?_) (fun hbr => ?_))))
  all_goals first | (exfalso; simp_all; done) | skip
  refine LoopW.go (α := Nat × List Int × Int) (fun p => [(2, .pB 1 [] 0), (6, .own 2 0 p.2.1.length), (7, .d (.int .i64 p.2.2))]) (fun p => [.gone, .box (.d f.D), .arr 1 (p.2.1.map (D.int .i64)) true])
    (fun p => Bd p.2.1 ∧ (p.2.2 < (p.2.1.length : Nat) → U = rgN f (p.1 + 1) p.2.1 ∧ 40 ≤ p.2.1.length + p.1) ∧ (¬ p.2.2 < (p.2.1.length : Nat) → U = p.2.1)) (fun p => if p.2.2 < (p.2.1.length : Nat) then p.1 + 1 else 0) (40, c, -1) covT_ ⟨hB0, fun _ => ⟨hUU, by dsimp only; omega⟩, fun h => absurd (by dsimp only; omega) h⟩ ?_
  clear hUU hB0 hl0 c2 c3 hc
  rintro ⟨m, o, n⟩ ⟨hB, hU1, hU2⟩
  dsimp only at hB hU1 hU2 ⊢
  have hO := hB.len
  have hOl : (o.map (D.int .i64)).length = o.length := List.length_map _
  (conv => whnf)
  (repeat (refine stg_ ?_))
  (refine br_ (fun h1 => ?_) (fun h1 => ?_) <;> (repeat (refine stg_ ?_)))
  · obtain ⟨hU, hm⟩ := hU1 h1
    clear hU1 hU2
    rw [rgN] at hU
    -- the pass
    have hP : rgP f o = f.fJoins.foldl rgJ (f.fLookups.foldl rgL o) := rfl
    have hBP : Bd (rgP f o) := hB.pass hf
    generalize hT : f.fLookups.foldl rgL o = T at hP
    (repeat (refine stg_ ?_))
    refine LoopW.go (α := Nat × List Int) (fun p => [(2, .pB 1 [] 0), (6, .own 2 0 p.2.length), (7, .d (.int .i64 o.length)), (8, .d (.int .i64 (p.1 : Nat)))]) (fun p => [.gone, .box (.d f.D), .arr 1 (p.2.map (D.int .i64)) true])
      (fun p => p.1 ≤ f.fLookups.length ∧ Bd p.2 ∧ o.length ≤ p.2.length ∧ T = (f.fLookups.drop p.1).foldl rgL p.2) (fun p => f.fLookups.length - p.1) (0, o) covT_ ⟨by dsimp only; omega, hB, Nat.le_refl _, hT.symm⟩ ?_
    clear hT hB hO hOl
    rintro ⟨i, q⟩ ⟨hi, hB, hge, hT⟩
    dsimp only at hi hB hge hT ⊢
    have hO := hB.len
    have hOl : (q.map (D.int .i64)).length = q.length := List.length_map _
    (conv => whnf)
    (repeat (refine stg_ ?_))
    (refine br_ (fun h2 => ?_) (fun h2 => ?_) <;> (repeat (refine stg_ ?_)))
    · obtain ⟨l, hl⟩ := at_lt' (xs := f.fLookups) (k := i) (by omega)
      have hlB := lkB_ru (F.lk l (List.mem_of_getElem? hl))
      have hLr : (l.fRules.map TRule.D).length = l.fRules.length := List.length_map _
      have hlr := hlB.2
      rw [fold_at hl, rgL] at hT
      (repeat (refine stg_ ?_))
      refine LoopW.go (α := Nat × List Int) (fun p => [(2, .pB 1 [] 0), (6, .own 2 0 p.2.length), (7, .d (.int .i64 o.length)), (8, .d (.int .i64 i)), (9, .d (.int .i64 (p.1 : Nat)))]) (fun p => [.gone, .box (.d f.D), .arr 1 (p.2.map (D.int .i64)) true])
        (fun p => p.1 ≤ l.fRules.length ∧ Bd p.2 ∧ o.length ≤ p.2.length ∧ T = (f.fLookups.drop (i + 1)).foldl rgL ((l.fRules.drop p.1).foldl rgR p.2)) (fun p => l.fRules.length - p.1) (0, q) covT_ ⟨by dsimp only; omega, hB, hge, hT⟩ ?_
      clear hT hB hO hOl hge
      rintro ⟨k, q⟩ ⟨hk, hB, hge, hT⟩
      dsimp only at hk hB hge hT ⊢
      have hO := hB.len
      have hOl : (q.map (D.int .i64)).length = q.length := List.length_map _
      (conv => whnf)
      (repeat (refine stg_ ?_))
      (refine br_ (fun h3 => ?_) (fun h3 => ?_) <;> (repeat (refine stg_ ?_)))
      · obtain ⟨r, hr⟩ := at_lt' (xs := l.fRules) (k := k) (by omega)
        have hrB := hlB.1 r (List.mem_of_getElem? hr)
        have hrF := ruB_fcs hrB
        have hcl : ∀ (cs : List (List Int)), (∀ x ∈ cs, x ∈ r.fBefore ++ r.fInput ++ r.fAfter) → ∀ x ∈ cs, x.length ≤ 1000 := fun cs h x hx => by have := fcB_len (hrF.1 x (h x hx)); omega
        have d1 := l26Meets_v r.fBefore q (hcl _ (fun x hx => by simp [hx]))
        have d2 := l26Meets_v r.fInput q (hcl _ (fun x hx => by simp [hx]))
        have d3 := l26Meets_v r.fAfter q (hcl _ (fun x hx => by simp [hx]))
        have hBr := hB.ruR hrB
        have hgr := rgR_ge q r
        rw [fold_at hr] at hT
        by_cases hM : (rgM r.fBefore q && rgM r.fInput q && rgM r.fAfter q) = true
        · have hR : rgR q r = ptA q r.fOutput := by rw [rgR, if_pos hM]
          simp only [Bool.and_eq_true] at hM
          obtain ⟨⟨e1, e2⟩, e3⟩ := hM
          rw [e1] at d1
          rw [e2] at d2
          rw [e3] at d3
          cases hout : r.fOutput with
          | nil =>
            rw [hout, ptA_nil] at hR
            have d4 := fun g n c => l25All_h r.fOutput (by rw [hout]; simp) g n c
            (repeat' (first | (refine stg_ ?_) | (refine cla_ (d1) ?_) | (refine cla_ (d2) ?_) | (refine cla_ (d3) ?_) | (refine cls_ (d4) ?_) | (refine br_ (fun hbr => ?_) (fun hbr => ?_))))
            refine NextW.go (k + 1, rgR q r) (by rw [hR]; exact covT_) ⟨by dsimp only; omega, hBr, by dsimp only; omega, hT⟩ (by dsimp only; omega)
          | cons g t =>
            have d4 := l25All_e q r.fOutput hB (fun g hg => (hrF.2.2.2.1 g hg).2) ⟨g, by rw [hout]; simp, (hrF.2.2.2.1 g (by rw [hout]; simp)).1⟩
            rw [← hR] at d4
            (repeat' (first | (refine stg_ ?_) | (refine cla_ (d1) ?_) | (refine cla_ (d2) ?_) | (refine cla_ (d3) ?_) | (refine cla_ (d4) ?_) | (refine br_ (fun hbr => ?_) (fun hbr => ?_))))
            refine NextW.go (k + 1, rgR q r) (Weak.trans (Weak.swap 2 3 ?_) covT_) ⟨by dsimp only; omega, hBr, by dsimp only; omega, hT⟩ (by dsimp only; omega)
            rfl
        · have hR : rgR q r = q := by rw [rgR, if_neg hM]
          rw [hR] at hT
          (repeat' (first | (refine stg_ ?_) | (refine cla_ (d1) ?_) | (refine cla_ (d2) ?_) | (refine cla_ (d3) ?_) | (refine br_ (fun hbr => ?_) (fun hbr => ?_))))
          all_goals first | (exfalso; simp_all; done) | (exact NextW.go (k + 1, q) covT_ ⟨by dsimp only; omega, hB, hge, hT⟩ (by dsimp only; omega)) | skip
      · rw [fold_end (xs := l.fRules) (by omega)] at hT
        (repeat' (first | (refine stg_ ?_) | fail | (refine br_ (fun hbr => ?_) (fun hbr => ?_))))
        refine NextW.go (i + 1, q) covT_ ⟨by dsimp only; omega, hB, hge, hT⟩ (by dsimp only; omega)
    · rw [fold_end (by omega)] at hT
      rw [hT] at hP
      generalize rgP f o = W at *
      (repeat (refine stg_ ?_))
      refine LoopW.go (α := Nat × List Int) (fun p => [(2, .pB 1 [] 0), (6, .own 2 0 p.2.length), (7, .d (.int .i64 o.length)), (11, .d (.int .i64 (p.1 : Nat)))]) (fun p => [.gone, .box (.d f.D), .arr 1 (p.2.map (D.int .i64)) true])
        (fun p => p.1 ≤ f.fJoins.length ∧ Bd p.2 ∧ o.length ≤ p.2.length ∧ W = (f.fJoins.drop p.1).foldl rgJ p.2) (fun p => f.fJoins.length - p.1) (0, q) covT_ ⟨by dsimp only; omega, hB, hge, hP⟩ ?_
      clear hP hB hO hOl hge hT
      rintro ⟨k, q⟩ ⟨hk, hB, hge, hT⟩
      dsimp only at hk hB hge hT ⊢
      have hO := hB.len
      have hOl : (q.map (D.int .i64)).length = q.length := List.length_map _
      (conv => whnf)
      (repeat (refine stg_ ?_))
      (refine br_ (fun h3 => ?_) (fun h3 => ?_) <;> (repeat (refine stg_ ?_)))
      · obtain ⟨j, hj⟩ := at_lt' (xs := f.fJoins) (k := k) (by omega)
        have hjB := F.jn j (List.mem_of_getElem? hj)
        have hBr := hB.jnJ hjB
        have hgr := rgJ_ge q j
        rw [fold_at hj] at hT
        have d1 := l00Has_v q j.fGlyph
        rw [hasI_mem] at d1
        by_cases hM : j.fGlyph ∈ q
        · have hR : rgJ q j = ptA q [j.fInit, j.fMedi, j.fFina] := by rw [rgJ, if_pos hM]
          rw [decide_eq_true hM] at d1
          by_cases hex : ∃ g ∈ [j.fInit, j.fMedi, j.fFina], 0 ≤ g
          · have d4 := l25All_e q [j.fInit, j.fMedi, j.fFina] hB (jn_bnd3 hjB) hex
            rw [← hR] at d4
            (repeat' (first | (refine stg_ ?_) | (refine cla_ (d1) ?_) | (refine cla_ (d4) ?_) | (refine br_ (fun hbr => ?_) (fun hbr => ?_))))
            refine NextW.go (k + 1, rgJ q j) (Weak.trans (Weak.swap 2 4 ?_) covT_) ⟨by dsimp only; omega, hBr, by dsimp only; omega, hT⟩ (by dsimp only; omega)
            rfl
          · have hlt : ∀ g ∈ [j.fInit, j.fMedi, j.fFina], g < 0 := fun g hg => by
              rcases Int.lt_or_le g 0 with h | h
              · exact h
              · exact absurd ⟨g, hg, h⟩ hex
            have hR2 : rgJ q j = q := by
              rw [hR]
              simp only [List.mem_cons, List.not_mem_nil, or_false, forall_eq_or_imp, forall_eq] at hlt
              simp only [ptA, List.foldl_cons, List.foldl_nil, ptS]
              rw [if_neg (by omega), if_neg (by omega), if_neg (by omega)]
            have d4 := fun g n c => l25All_h [j.fInit, j.fMedi, j.fFina] hlt g n c
            (repeat' (first | (refine stg_ ?_) | (refine cla_ (d1) ?_) | (refine cls_ (d4) ?_) | (refine br_ (fun hbr => ?_) (fun hbr => ?_))))
            refine NextW.go (k + 1, rgJ q j) (by rw [hR2]; exact covT_) ⟨by dsimp only; omega, hBr, by dsimp only; omega, hT⟩ (by dsimp only; omega)
        · have hR : rgJ q j = q := by rw [rgJ, if_neg hM]
          rw [decide_eq_false hM] at d1
          rw [hR] at hT
          (repeat' (first | (refine stg_ ?_) | (refine cla_ (d1) ?_) | (refine br_ (fun hbr => ?_) (fun hbr => ?_))))
          all_goals first | (exfalso; simp_all; done) | (exact NextW.go (k + 1, q) covT_ ⟨by dsimp only; omega, hB, hge, hT⟩ (by dsimp only; omega)) | skip
      · rw [fold_end (xs := f.fJoins) (by omega)] at hT
        (repeat' (first | (refine stg_ ?_) | fail | (refine br_ (fun hbr => ?_) (fun hbr => ?_))))
        subst hT
        refine NextW.go (m - 1, W, ((o.length : Nat) : Int)) covT_ ⟨hB, fun h => ?_, fun h => ?_⟩ ?_
        · dsimp only at h ⊢
          have hne : ¬ W.length = o.length := by omega
          rw [if_neg hne] at hU
          have : m - 1 + 1 = m := by omega
          rw [this]
          exact ⟨hU, by omega⟩
        · dsimp only at h ⊢
          rw [if_pos (by omega)] at hU
          exact hU
        · dsimp only
          rw [if_pos h1]
          split <;> omega
  · have hU := hU2 (by omega)
    (repeat' (first | (refine stg_ ?_) | fail | (refine br_ (fun hbr => ?_) (fun hbr => ?_))))
    rw [hU]
    (refine ⟨⟨[some 2], ⟨by decide, ?_, trivial, trivial⟩, by decide, ⟨_, rfl, rfl, ⟨_, _, rfl, ⟨by decide, ?_⟩, ⟨_, _, rfl, ⟨rfl, ?_⟩, rfl⟩⟩⟩⟩⟩)
    all_goals rfl
set_option maxHeartbeats 1000000 in
theorem ixLpm_v (xs : List (List Int)) (f : Nat) (y0 : D) (p : (List Int) → Bool) (hf : ∀ x ∈ xs, PC Tryz.prog f [.d (.lst (x.map (D.int .i64))), .pX y0] (.d (.bool (p x))) []) :
    PC Tryz.prog 110 [.d (.lst (xs.map (lstD (D.int .i64)))), .fn (.func f) [.pX y0]] (.d (.int .i64 (fdx p xs 0))) [] := by
  refine pc_intro ttOk (by kernel_rfl) Tryz.func110 rfl (by kernel_rfl) (by kernel_rfl) (by kernel_rfl) (fun hw => ?_)
  have hL : (xs.map (lstD (D.int .i64))).length = xs.length := List.length_map _
  have hm : (xs.map (lstD (D.int .i64))).length ≤ 9223372036854775807 := hw.1.1
  (conv => whnf)
  refine LoopW.go (α := Nat) (fun k => [(0, .d (.lst (xs.map (lstD (D.int .i64))))), (1, .fn (.func f) [.pX y0]), (7, .d (.int .i64 (xs.map (lstD (D.int .i64))).length)), (8, .d (.int .i64 k))]) (fun k => [.gone]) (fun k => k ≤ xs.length ∧ fdx p xs 0 = fdx p (xs.drop k) k) (fun k => xs.length - k) 0 covT_ ?_ (fun k hk => ?_)
  · exact ⟨by omega, rfl⟩
  obtain ⟨hk1, hk2⟩ := hk
  (conv => whnf)
  (refine br_ (fun h2 => ?_) (fun h2 => ?_) <;> (repeat (refine stg_ ?_)))
  · obtain ⟨x, hx⟩ := at_lt' (xs := xs) (k := k) (by omega)
    rw [fdx_at hx] at hk2
    (repeat (refine stg_ ?_))
    (refine cla_ (hf x (List.mem_of_getElem? hx)) ?_)
    (refine br_ (fun h3 => ?_) (fun h3 => ?_) <;> (repeat (refine stg_ ?_)))
    · (refine RetOK.d rfl rfl ?_; conv => whnf)
      rw [hk2, if_pos h3]
    · (repeat (refine stg_ ?_))
      exact NextW.go (k + 1) covT_ ⟨by omega, by rw [hk2, h3]; rfl⟩ (by omega)
  · (refine RetOK.d rfl rfl ?_; conv => whnf)
    rw [hk2, fdx_end (by omega)]
theorem ctLpm_v (xs : List (List Int)) (f : Nat) (y0 : D) (p : (List Int) → Bool) (hf : ∀ x ∈ xs, PC Tryz.prog f [.d (.lst (x.map (D.int .i64))), .pX y0] (.d (.bool (p x))) []) :
    PC Tryz.prog 55 [.d (.lst (xs.map (lstD (D.int .i64)))), .fn (.func f) [.pX y0]] (.d (.bool (xs.any p))) [] := by
  refine pc_intro ttOk (by kernel_rfl) Tryz.func55 rfl (by kernel_rfl) (by kernel_rfl) (by kernel_rfl) (fun hw => ?_)
  (conv => whnf)
  (refine cla_ (ixLpm_v xs f y0 p hf) ?_)
  (refine RetOK.d rfl rfl ?_; conv => whnf)
  rw [← fdx_any p xs 0]
set_option maxHeartbeats 1000000 in
theorem ixint64pm_v (xs : List Int) (f : Nat) (y0 : D) (p : Int → Bool) (hf : ∀ x ∈ xs, PC Tryz.prog f [.d (.int .i64 x), .pX y0] (.d (.bool (p x))) []) :
    PC Tryz.prog 111 [.d (.lst (xs.map (D.int .i64))), .fn (.func f) [.pX y0]] (.d (.int .i64 (fdx p xs 0))) [] := by
  refine pc_intro ttOk (by kernel_rfl) Tryz.func111 rfl (by kernel_rfl) (by kernel_rfl) (by kernel_rfl) (fun hw => ?_)
  have hL : (xs.map (D.int .i64)).length = xs.length := List.length_map _
  have hm : (xs.map (D.int .i64)).length ≤ 9223372036854775807 := hw.1.1
  (conv => whnf)
  refine LoopW.go (α := Nat) (fun k => [(0, .d (.lst (xs.map (D.int .i64)))), (1, .fn (.func f) [.pX y0]), (7, .d (.int .i64 (xs.map (D.int .i64)).length)), (8, .d (.int .i64 k))]) (fun k => [.gone]) (fun k => k ≤ xs.length ∧ fdx p xs 0 = fdx p (xs.drop k) k) (fun k => xs.length - k) 0 covT_ ?_ (fun k hk => ?_)
  · exact ⟨by omega, rfl⟩
  obtain ⟨hk1, hk2⟩ := hk
  (conv => whnf)
  (refine br_ (fun h2 => ?_) (fun h2 => ?_) <;> (repeat (refine stg_ ?_)))
  · obtain ⟨x, hx⟩ := at_lt' (xs := xs) (k := k) (by omega)
    rw [fdx_at hx] at hk2
    (repeat (refine stg_ ?_))
    (refine cla_ (hf x (List.mem_of_getElem? hx)) ?_)
    (refine br_ (fun h3 => ?_) (fun h3 => ?_) <;> (repeat (refine stg_ ?_)))
    · (refine RetOK.d rfl rfl ?_; conv => whnf)
      rw [hk2, if_pos h3]
    · (repeat (refine stg_ ?_))
      exact NextW.go (k + 1) covT_ ⟨by omega, by rw [hk2, h3]; rfl⟩ (by omega)
  · (refine RetOK.d rfl rfl ?_; conv => whnf)
    rw [hk2, fdx_end (by omega)]
theorem ctint64pm_v (xs : List Int) (f : Nat) (y0 : D) (p : Int → Bool) (hf : ∀ x ∈ xs, PC Tryz.prog f [.d (.int .i64 x), .pX y0] (.d (.bool (p x))) []) :
    PC Tryz.prog 57 [.d (.lst (xs.map (D.int .i64))), .fn (.func f) [.pX y0]] (.d (.bool (xs.any p))) [] := by
  refine pc_intro ttOk (by kernel_rfl) Tryz.func57 rfl (by kernel_rfl) (by kernel_rfl) (by kernel_rfl) (fun hw => ?_)
  (conv => whnf)
  (refine cla_ (ixint64pm_v xs f y0 p hf) ?_)
  (refine RetOK.d rfl rfl ?_; conv => whnf)
  rw [← fdx_any p xs 0]
theorem rg111_v (o : List Int) (g : Int) (h0 : 0 ≤ g) (h1 : g ≤ 39) : PC Tryz.prog 58 [.d (.int .i64 g), .pX (.st ((rgB o).map D.bool))] (.d (.bool (decide (g ∈ o)))) [] := by
  have hx : ((rgB o).map D.bool)[g.toNat]? = some (.bool (decide (g ∈ o))) := by
    rw [List.getElem?_map, rgB_at o (by omega), show ((g.toNat : Nat) : Int) = g by omega]; rfl
  have hL : ((rgB o).map D.bool).length = 40 := by rw [List.length_map, rgB_len]
  generalize rgB o = B at *
  refine pc_intro ttOk (by kernel_rfl) Tryz.func58 rfl (by kernel_rfl) (by kernel_rfl) (by kernel_rfl) (fun hw => ?_)
  (conv => whnf)
  (repeat' (first | (refine stg_ ?_) | (refine IxW.at (by omega) hx ?_; (conv => whnf)) | (refine br_ (fun hbr => ?_) (fun hbr => ?_))))
  (refine RetOK.d rfl rfl ?_; conv => whnf)
theorem rg11_v (o : List Int) (c : List Int) (hc : ∀ g ∈ c, 0 ≤ g ∧ g ≤ 39) : PC Tryz.prog 56 [.d (.lst (c.map (D.int .i64))), .pX (.st ((rgB o).map D.bool))] (.d (.bool (!(c.any fun g => decide (g ∈ o))))) [] := by
  have c1 := ctint64pm_v c 58 (.st ((rgB o).map D.bool)) (fun g => decide (g ∈ o)) (fun g hg => rg111_v o g (hc g hg).1 (hc g hg).2)
  generalize rgB o = B at *
  refine pc_intro ttOk (by kernel_rfl) Tryz.func56 rfl (by kernel_rfl) (by kernel_rfl) (by kernel_rfl) (fun hw => ?_)
  (conv => whnf)
  (repeat' (first | (refine stg_ ?_) | (refine cla_ (c1) ?_) | (refine br_ (fun hbr => ?_) (fun hbr => ?_))))
  (refine RetOK.d rfl rfl ?_; conv => whnf)
theorem rg1_v (o : List Int) (cs : List (List Int)) (hc : ∀ c ∈ cs, ∀ g ∈ c, 0 ≤ g ∧ g ≤ 39) : PC Tryz.prog 54 [.d (.lst (cs.map (lstD (D.int .i64)))), .pX (.st ((rgB o).map D.bool))] (.d (.bool (rgM cs o))) [] := by
  have c1 := ctLpm_v cs 56 (.st ((rgB o).map D.bool)) (fun c => !(c.any fun g => decide (g ∈ o))) (fun c h => rg11_v o c (hc c h))
  have hM : rgM cs o = !(cs.any fun c => !(c.any fun g => decide (g ∈ o))) := by
    rw [rgM, List.not_any_eq_all_not]; simp
  rw [hM]
  generalize rgB o = B at *
  refine pc_intro ttOk (by kernel_rfl) Tryz.func54 rfl (by kernel_rfl) (by kernel_rfl) (by kernel_rfl) (fun hw => ?_)
  (conv => whnf)
  (repeat' (first | (refine stg_ ?_) | (refine cla_ (c1) ?_) | (refine br_ (fun hbr => ?_) (fun hbr => ?_))))
  (refine RetOK.d rfl rfl ?_; conv => whnf)
theorem rg_all (o : List Int) {g : Int} (h0 : 0 ≤ g) (h1 : g ≤ 39) {o' : List Int} (h : ∀ x, x ∈ o' ↔ x = g ∨ x ∈ o) : ((rgB o).map D.bool).set g.toNat (.bool true) = (rgB o').map D.bool := by
  rw [← rgB_set (o := o) (o' := o') (g := g.toNat) (by omega) (by rw [show ((g.toNat : Nat) : Int) = g by omega]; exact h), List.map_set]
set_option maxHeartbeats 8000000 in
theorem ReachableGlyphs_v (f : TFeatures) (c : List Int) (v : V) (bs : List Blk) (h0 : (ftB f && clsB c) = true → v = .tup [.own 1 0 (rgS f c).length, .d (.int .i64 0)] ∧ bs = [.arr 1 ((rgS f c).map (D.int .i64)) true])
    (h1 : (ftB f && clsB c) = false → v = .tup [.nils, .d (.int .i64 1)] ∧ bs = []) : PC Tryz.prog 12 [.d f.D, .d (.lst (c.map (D.int .i64)))] v bs := by
  refine pc_intro ttOk (by kernel_rfl) Tryz.func12 rfl (by kernel_rfl) (by kernel_rfl) (by kernel_rfl) (fun hw => ?_)
  have c1 := ValidFeatures_v f 40
  rw [vfB_40] at c1
  have c2 := ValidClass_v c
  cases hf : ftB f with
  | false =>
    rw [hf] at c1 h1
    obtain ⟨rfl, rfl⟩ := h1 rfl
    (conv => whnf)
    (repeat' (first | (refine stg_ ?_) | (refine cla_ (c1) ?_) | (refine cla_ (c2) ?_) | (refine br_ (fun hbr => ?_) (fun hbr => ?_))))
    all_goals first | (exfalso; simp_all; done) | skip
    all_goals (refine ⟨⟨[], trivial, by decide, ⟨_, rfl, rfl, ⟨_, _, rfl, rfl, ⟨_, _, rfl, ⟨rfl, ?_⟩, rfl⟩⟩⟩⟩⟩; (conv => whnf))
    all_goals rfl
  | true =>
  rw [hf] at c1 h1 h0
  cases hc : clsB c with
  | false =>
    rw [hc] at c2 h1
    obtain ⟨rfl, rfl⟩ := h1 rfl
    (conv => whnf)
    (repeat' (first | (refine stg_ ?_) | (refine cla_ (c1) ?_) | (refine cla_ (c2) ?_) | (refine br_ (fun hbr => ?_) (fun hbr => ?_))))
    all_goals first | (exfalso; simp_all; done) | skip
    all_goals (refine ⟨⟨[], trivial, by decide, ⟨_, rfl, rfl, ⟨_, _, rfl, rfl, ⟨_, _, rfl, ⟨rfl, ?_⟩, rfl⟩⟩⟩⟩⟩; (conv => whnf))
    all_goals rfl
  | true =>
  rw [hc] at c2 h0
  obtain ⟨rfl, rfl⟩ := h0 rfl
  clear h0 h1
  have F := ftB_F hf
  have hB0 := cls_Bd hc
  have hl0 := hB0.len
  have hL1 : (f.fLookups.map TLookup.D).length = f.fLookups.length := List.length_map _
  have hL4 : (f.fJoins.map TJoin.D).length = f.fJoins.length := List.length_map _
  have hLc : (c.map (D.int .i64)).length = c.length := List.length_map _
  have n1 := F.lkn
  have n4 := F.jnn
  have hBU : Bd (rgS f c) := rgN_Bd hf 41 c hB0
  have hUU : rgS f c = rgN f 41 c := rfl
  generalize rgS f c = U at *
  (conv => whnf)
  (repeat' (first | (refine stg_ ?_) | (refine cla_ (c1) ?_) | (refine cla_ (c2) ?_) | (refine br_ (fun hbr => ?_) (fun hbr => ?_))))
  all_goals first | (exfalso; simp_all; done) | skip
  refine LoopW.go (α := Nat) (fun k => [(2, .pB 1 [] 0), (6, .pL 2 0 [] 0), (28, .d (.lst (c.map (D.int .i64)))), (29, .d (.int .i64 c.length)), (30, .d (.int .i64 k))]) (fun k => [.gone, .box (.d f.D), .arr 1 ((rgB (c.take k)).map D.bool) true])
    (fun k => k ≤ c.length) (fun k => c.length - k) 0 (Weak.cov ⟨rfl, rfl, rfl, by rw [← hLc]; rfl, rfl, trivial⟩ ⟨trivial, rfl, rfl, trivial⟩ rfl) (Nat.zero_le _) (fun k hk => ?_)
  have hLB : ((rgB (c.take k)).map D.bool).length = 40 := by rw [List.length_map, rgB_len]
  (conv => whnf)
  (repeat (refine stg_ ?_))
  (refine br_ (fun h1 => ?_) (fun h1 => ?_) <;> (repeat (refine stg_ ?_)))
  · obtain ⟨x, hx⟩ := at_lt' (xs := c) (k := k) (by omega)
    have hxm := List.mem_of_getElem? hx
    have hx0 := hB0.ge x hxm
    have hx1 := hB0.le x hxm
    have hS := rg_all (c.take k) hx0 hx1 (o' := c.take (k + 1)) (fun y => by rw [take_snoc_get hx]; simp [or_comm])
    have hat : ((rgB (c.take k)).map D.bool)[x.toNat]? = some (.bool (decide ((x.toNat : Int) ∈ c.take k))) := by rw [List.getElem?_map, rgB_at _ (by omega)]; rfl
    (repeat' (first | (refine stg_ ?_) | fail | (refine br_ (fun hbr => ?_) (fun hbr => ?_))))
    refine NextW.go (k + 1) (Weak.cov ⟨rfl, rfl, rfl, rfl, rfl, trivial⟩ ⟨trivial, rfl, (by show _ = Blk.arr 1 ((rgB (c.take (k + 1))).map D.bool) true; rw [← hS]), trivial⟩ rfl) (by omega) (by omega)
  · have hT : c.take k = c := List.take_of_length_le (by omega)
    rw [hT] at hLB ⊢
    (repeat' (first | (refine stg_ ?_) | fail | (refine br_ (fun hbr => ?_) (fun hbr => ?_))))
    refine LoopW.go (α := Nat × List Int × Bool) (fun p => [(2, .pB 1 [] 0), (6, .pL 2 0 [] 0), (9, .fn (.func 54) [.pL 2 0 [] 0]), (10, .pB 3 [] 0)]) (fun p => [.gone, .box (.d f.D), .arr 1 ((rgB p.2.1).map D.bool) true, .box (.d (.bool p.2.2))])
      (fun p => Bd p.2.1 ∧ (p.2.2 = true → U = rgN f (p.1 + 1) p.2.1 ∧ 40 ≤ p.2.1.length + p.1) ∧ (p.2.2 = false → U = p.2.1)) (fun p => if p.2.2 = true then p.1 + 1 else 0) (40, c, true) covT_ ⟨hB0, fun _ => ⟨hUU, by dsimp only; omega⟩, fun h => by cases h⟩ ?_
    clear hUU hB0 hl0 c2 c1 hc hT hLB hk h1 hLc
    rintro ⟨m, o, b⟩ ⟨hB, hU1, hU2⟩
    dsimp only at hB hU1 hU2 ⊢
    have hO := hB.len
    have hLB : ((rgB o).map D.bool).length = 40 := by rw [List.length_map, rgB_len]
    cases b with
    | true =>
      obtain ⟨hU, hm⟩ := hU1 rfl
      clear hU1 hU2
      rw [rgN] at hU
      have hP : rgP f o = f.fJoins.foldl rgJ (f.fLookups.foldl rgL o) := rfl
      have hBP : Bd (rgP f o) := hB.pass hf
      generalize hT : f.fLookups.foldl rgL o = T at hP
      (conv => whnf)
      (repeat' (first | (refine stg_ ?_) | fail | (refine br_ (fun hbr => ?_) (fun hbr => ?_))))
      refine LoopW.go (α := Nat × List Int) (fun p => [(2, .pB 1 [] 0), (6, .pL 2 0 [] 0), (9, .fn (.func 54) [.pL 2 0 [] 0]), (10, .pB 3 [] 0), (11, .fn (.func 59) [.pL 2 0 [] 0, .pB 3 [] 0]), (41, .d (.lst (f.fLookups.map TLookup.D))), (42, .d (.int .i64 (f.fLookups.map TLookup.D).length)), (43, .d (.int .i64 (p.1 : Nat)))]) (fun p => [.gone, .box (.d f.D), .arr 1 ((rgB p.2).map D.bool) true, .box (.d (.bool (decide (o.length < p.2.length))))])
        (fun p => p.1 ≤ f.fLookups.length ∧ Bd p.2 ∧ o.length ≤ p.2.length ∧ T = (f.fLookups.drop p.1).foldl rgL p.2) (fun p => f.fLookups.length - p.1) (0, o) (Weak.cov ⟨rfl, rfl, rfl, rfl, rfl, rfl, rfl, rfl, trivial⟩ ⟨trivial, rfl, rfl, by rw [decide_eq_false (Nat.lt_irrefl _)], trivial⟩ rfl) ⟨by dsimp only; omega, hB, Nat.le_refl _, hT.symm⟩ ?_
      clear hT hB hO hLB
      rintro ⟨i, q⟩ ⟨hi, hB, hge, hT⟩
      dsimp only at hi hB hge hT ⊢
      have hO := hB.len
      have hLB : ((rgB q).map D.bool).length = 40 := by rw [List.length_map, rgB_len]
      (conv => whnf)
      (repeat (refine stg_ ?_))
      (refine br_ (fun h2 => ?_) (fun h2 => ?_) <;> (repeat (refine stg_ ?_)))
      · obtain ⟨l, hl⟩ := at_lt' (xs := f.fLookups) (k := i) (by omega)
        have hlB := lkB_ru (F.lk l (List.mem_of_getElem? hl))
        have hLr : (l.fRules.map TRule.D).length = l.fRules.length := List.length_map _
        have hlr := hlB.2
        rw [fold_at hl, rgL] at hT
        (repeat (refine stg_ ?_))
        refine LoopW.go (α := Nat × List Int) (fun p => [(2, .pB 1 [] 0), (6, .pL 2 0 [] 0), (9, .fn (.func 54) [.pL 2 0 [] 0]), (10, .pB 3 [] 0), (11, .fn (.func 59) [.pL 2 0 [] 0, .pB 3 [] 0]), (41, .d (.lst (f.fLookups.map TLookup.D))), (42, .d (.int .i64 (f.fLookups.map TLookup.D).length)), (43, .d (.int .i64 i)), (48, .d (.lst (l.fRules.map TRule.D))), (49, .d (.int .i64 (l.fRules.map TRule.D).length)), (50, .d (.int .i64 (p.1 : Nat)))]) (fun p => [.gone, .box (.d f.D), .arr 1 ((rgB p.2).map D.bool) true, .box (.d (.bool (decide (o.length < p.2.length))))])
          (fun p => p.1 ≤ l.fRules.length ∧ Bd p.2 ∧ o.length ≤ p.2.length ∧ T = (f.fLookups.drop (i + 1)).foldl rgL ((l.fRules.drop p.1).foldl rgR p.2)) (fun p => l.fRules.length - p.1) (0, q) covT_ ⟨by dsimp only; omega, hB, hge, hT⟩ ?_
        clear hT hB hO hge hLB
        rintro ⟨k, q⟩ ⟨hk, hB, hge, hT⟩
        dsimp only at hk hB hge hT ⊢
        have hO := hB.len
        have hLB : ((rgB q).map D.bool).length = 40 := by rw [List.length_map, rgB_len]
        (conv => whnf)
        (repeat (refine stg_ ?_))
        (refine br_ (fun h3 => ?_) (fun h3 => ?_) <;> (repeat (refine stg_ ?_)))
        · obtain ⟨r, hr⟩ := at_lt' (xs := l.fRules) (k := k) (by omega)
          have hrB := hlB.1 r (List.mem_of_getElem? hr)
          have hrF := ruB_fcs hrB
          have hcl : ∀ (cs : List (List Int)), (∀ x ∈ cs, x ∈ r.fBefore ++ r.fInput ++ r.fAfter) → ∀ x ∈ cs, ∀ g ∈ x, 0 ≤ g ∧ g ≤ 39 := fun cs h x hx => fcB_bnd (hrF.1 x (h x hx))
          have d1 := rg1_v q r.fBefore (hcl _ (fun x hx => by simp [hx]))
          have d2 := rg1_v q r.fInput (hcl _ (fun x hx => by simp [hx]))
          have d3 := rg1_v q r.fAfter (hcl _ (fun x hx => by simp [hx]))
          have hBr := hB.ruR hrB
          have hgr := rgR_ge q r
          rw [fold_at hr] at hT
          by_cases hM : (rgM r.fBefore q && rgM r.fInput q && rgM r.fAfter q) = true
          · have hR : rgR q r = ptA q r.fOutput := by rw [rgR, if_pos hM]
            simp only [Bool.and_eq_true] at hM
            obtain ⟨⟨e1, e2⟩, e3⟩ := hM
            rw [e1] at d1
            rw [e2] at d2
            rw [e3] at d3
            (repeat' (first | (refine stg_ ?_) | (refine cla_ (d1) ?_) | (refine cla_ (d2) ?_) | (refine cla_ (d3) ?_) | (refine br_ (fun hbr => ?_) (fun hbr => ?_))))
            all_goals first | (exfalso; simp_all; done) | skip
            have hLo : (r.fOutput.map (D.int .i64)).length = r.fOutput.length := List.length_map _
            have hlo := hrF.2.2.1
            (refine CallW.inl' ttOk (by kernel_rfl) Tryz.func59 rfl (by kernel_rfl) (by kernel_rfl) (by rfl) [(2, .pB 1 [] 0), (6, .pL 2 0 [] 0), (9, .fn (.func 54) [.pL 2 0 [] 0]), (10, .pB 3 [] 0), (11, .fn (.func 59) [.pL 2 0 [] 0, .pB 3 [] 0]), (41, .d (.lst (f.fLookups.map TLookup.D))), (42, .d (.int .i64 (f.fLookups.map TLookup.D).length)), (43, .d (.int .i64 i)), (48, .d (.lst (l.fRules.map TRule.D))), (49, .d (.int .i64 (l.fRules.map TRule.D).length)), (50, .d (.int .i64 k))] (by (conv => whnf); (repeat' (first | exact trivial | (refine ⟨?_, ?_⟩) | rfl))) (fun s => ?_); (conv => whnf))
            (repeat (refine stg_ ?_))
            refine LoopW.go (α := Nat) (fun j => [(1, .pL 2 0 [] 0), (2, .pB 3 [] 0), (6, .d (.lst (r.fOutput.map (D.int .i64)))), (7, .d (.int .i64 r.fOutput.length)), (8, .d (.int .i64 j))])
              (fun j => [.gone, .box (.d f.D), .arr 1 ((rgB (ptA q (r.fOutput.take j))).map D.bool) true, .box (.d (.bool (decide (o.length < (ptA q (r.fOutput.take j)).length)))), .gone, .keep [(2, .pB 1 [] 0), (6, .pL 2 0 [] 0), (9, .fn (.func 54) [.pL 2 0 [] 0]), (10, .pB 3 [] 0), (11, .fn (.func 59) [.pL 2 0 [] 0, .pB 3 [] 0]), (41, .d (.lst (f.fLookups.map TLookup.D))), (42, .d (.int .i64 (f.fLookups.map TLookup.D).length)), (43, .d (.int .i64 i)), (48, .d (.lst (l.fRules.map TRule.D))), (49, .d (.int .i64 (l.fRules.map TRule.D).length)), (50, .d (.int .i64 k))] s])
              (fun j => j ≤ r.fOutput.length) (fun j => r.fOutput.length - j) 0 (Weak.cov ⟨rfl, rfl, rfl, by rw [← hLo]; rfl, rfl, trivial⟩ ⟨trivial, rfl, rfl, rfl, trivial, rfl, trivial⟩ rfl) (Nat.zero_le _) (fun j hj => ?_)
            have hBj : Bd (ptA q (r.fOutput.take j)) := hB.all (fun g hg => (hrF.2.2.2.1 g (List.mem_of_mem_take hg)).2)
            have hgj := ptA_ge (r.fOutput.take j) q
            have hLj : ((rgB (ptA q (r.fOutput.take j))).map D.bool).length = 40 := by rw [List.length_map, rgB_len]
            (conv => whnf)
            (repeat (refine stg_ ?_))
            (refine br_ (fun h4 => ?_) (fun h4 => ?_) <;> (repeat (refine stg_ ?_)))
            · obtain ⟨x, hx⟩ := at_lt' (xs := r.fOutput) (k := j) (by omega)
              have hxb := hrF.2.2.2.1 x (List.mem_of_getElem? hx)
              have hS := ptA_snoc (o := q) hx
              rw [ptS, if_pos hxb.1] at hS
              generalize ptA q (r.fOutput.take j) = p at *
              have hat : ((rgB p).map D.bool)[x.toNat]? = some (.bool (decide (x ∈ p))) := by rw [List.getElem?_map, rgB_at _ (by omega), show ((x.toNat : Nat) : Int) = x by omega]; rfl
              by_cases hxp : x ∈ p
              · rw [ptI_old hBj.rs hxp] at hS
                (repeat' (first | (refine stg_ ?_) | fail | (refine br_ (fun hbr => ?_) (fun hbr => ?_))))
                all_goals first | (exfalso; exact absurd hxp hbr) | (exfalso; exact absurd hbr hxp) | (exfalso; omega) | skip
                exact NextW.go (j + 1) (Weak.cov ⟨rfl, rfl, rfl, rfl, rfl, trivial⟩ ⟨trivial, rfl, (by show _ = Blk.arr 1 ((rgB (ptA q (r.fOutput.take (j + 1)))).map D.bool) true; rw [hS]), (by show _ = Blk.box (.d (.bool (decide (o.length < (ptA q (r.fOutput.take (j + 1))).length)))); rw [hS]), trivial, rfl, trivial⟩ rfl) (by omega) (by omega)
              · have hSS := rg_all p hxb.1 hxb.2 (o' := ptI x p) (fun y => mem_ptI x p y)
                have hnl := ptI_new hxp
                (repeat' (first | (refine stg_ ?_) | fail | (refine br_ (fun hbr => ?_) (fun hbr => ?_))))
                all_goals first | (exfalso; exact absurd hxp hbr) | (exfalso; exact absurd hbr hxp) | (exfalso; omega) | skip
                exact NextW.go (j + 1) (Weak.cov ⟨rfl, rfl, rfl, rfl, rfl, trivial⟩ ⟨trivial, rfl, (by show _ = Blk.arr 1 ((rgB (ptA q (r.fOutput.take (j + 1)))).map D.bool) true; rw [hS, ← hSS]), (by show _ = Blk.box (.d (.bool (decide (o.length < (ptA q (r.fOutput.take (j + 1))).length)))); rw [hS, decide_eq_true (show o.length < (ptI x p).length by omega)]), trivial, rfl, trivial⟩ rfl) (by omega) (by omega)
            · have hT2 : r.fOutput.take j = r.fOutput := List.take_of_length_le (by omega)
              rw [hT2, ← hR] at *
              (repeat' (first | (refine stg_ ?_) | fail | (refine br_ (fun hbr => ?_) (fun hbr => ?_))))
              (refine And.intro rfl ?_; (conv => whnf))
              (repeat' (first | (refine stg_ ?_) | fail | (refine br_ (fun hbr => ?_) (fun hbr => ?_))))
              refine NextW.go (k + 1, rgR q r) covT_ ⟨by dsimp only; omega, hBr, by dsimp only; omega, hT⟩ (by dsimp only; omega)
          · have hR : rgR q r = q := by rw [rgR, if_neg hM]
            rw [hR] at hT
            (repeat' (first | (refine stg_ ?_) | (refine cla_ (d1) ?_) | (refine cla_ (d2) ?_) | (refine cla_ (d3) ?_) | (refine br_ (fun hbr => ?_) (fun hbr => ?_))))
            all_goals first | (exact NextW.go (k + 1, q) covT_ ⟨by dsimp only; omega, hB, hge, hT⟩ (by dsimp only; omega)) | (exfalso; simp_all; done)
        · rw [fold_end (xs := l.fRules) (by omega)] at hT
          (repeat' (first | (refine stg_ ?_) | fail | (refine br_ (fun hbr => ?_) (fun hbr => ?_))))
          refine NextW.go (i + 1, q) covT_ ⟨by dsimp only; omega, hB, hge, hT⟩ (by dsimp only; omega)
      · rw [fold_end (by omega)] at hT
        rw [hT] at hP
        generalize rgP f o = W at *
        (repeat (refine stg_ ?_))
        refine LoopW.go (α := Nat × List Int) (fun p => [(2, .pB 1 [] 0), (6, .pL 2 0 [] 0), (9, .fn (.func 54) [.pL 2 0 [] 0]), (10, .pB 3 [] 0), (11, .fn (.func 59) [.pL 2 0 [] 0, .pB 3 [] 0]), (77, .d (.lst (f.fJoins.map TJoin.D))), (78, .d (.int .i64 (f.fJoins.map TJoin.D).length)), (79, .d (.int .i64 (p.1 : Nat)))]) (fun p => [.gone, .box (.d f.D), .arr 1 ((rgB p.2).map D.bool) true, .box (.d (.bool (decide (o.length < p.2.length))))])
          (fun p => p.1 ≤ f.fJoins.length ∧ Bd p.2 ∧ o.length ≤ p.2.length ∧ W = (f.fJoins.drop p.1).foldl rgJ p.2) (fun p => f.fJoins.length - p.1) (0, q) covT_ ⟨by dsimp only; omega, hB, hge, hP⟩ ?_
        clear hP hB hO hge hT hLB
        rintro ⟨k, q⟩ ⟨hk, hB, hge, hT⟩
        dsimp only at hk hB hge hT ⊢
        have hO := hB.len
        have hLB : ((rgB q).map D.bool).length = 40 := by rw [List.length_map, rgB_len]
        (conv => whnf)
        (repeat (refine stg_ ?_))
        (refine br_ (fun h3 => ?_) (fun h3 => ?_) <;> (repeat (refine stg_ ?_)))
        · obtain ⟨j, hj⟩ := at_lt' (xs := f.fJoins) (k := k) (by omega)
          have hjB := F.jn j (List.mem_of_getElem? hj)
          have hjb := jn_bnd hjB
          have hBr := hB.jnJ hjB
          have hgr := rgJ_ge q j
          rw [fold_at hj] at hT
          have hatg : ((rgB q).map D.bool)[j.fGlyph.toNat]? = some (.bool (decide (j.fGlyph ∈ q))) := by rw [List.getElem?_map, rgB_at _ (by omega), show ((j.fGlyph.toNat : Nat) : Int) = j.fGlyph by omega]; rfl
          by_cases hM : j.fGlyph ∈ q
          · have hR : rgJ q j = ptA q [j.fInit, j.fMedi, j.fFina] := by rw [rgJ, if_pos hM]
            (repeat' (first | (refine stg_ ?_) | fail | (refine br_ (fun hbr => ?_) (fun hbr => ?_))))
            all_goals first | (exfalso; simp_all; done) | skip
            have hb3 := jn_bnd3 hjB
            obtain ⟨L3, hL3⟩ : ∃ L : List Int, L = [j.fInit, j.fMedi, j.fFina] := ⟨_, rfl⟩
            have hl3 : L3.length = 3 := by rw [hL3]; rfl
            have hLo : (L3.map (D.int .i64)).length = 3 := by rw [List.length_map, hl3]
            have hrow : (L3.map (D.int .i64)) = [.int .i64 j.fInit, .int .i64 j.fMedi, .int .i64 j.fFina] := by rw [hL3]; rfl
            rw [← hL3] at hb3 hR
            (refine CallW.inl' ttOk (by kernel_rfl) Tryz.func59 rfl (by kernel_rfl) (by kernel_rfl) (by rfl) [(2, .pB 1 [] 0), (6, .pL 2 0 [] 0), (9, .fn (.func 54) [.pL 2 0 [] 0]), (10, .pB 3 [] 0), (11, .fn (.func 59) [.pL 2 0 [] 0, .pB 3 [] 0]), (77, .d (.lst (f.fJoins.map TJoin.D))), (78, .d (.int .i64 (f.fJoins.map TJoin.D).length)), (79, .d (.int .i64 k))] (by (conv => whnf); (repeat' (first | exact trivial | (refine ⟨?_, ?_⟩) | rfl))) (fun s => ?_); (conv => whnf))
            (repeat (refine stg_ ?_))
            refine LoopW.go (α := Nat) (fun j' => [(1, .pL 2 0 [] 0), (2, .pB 3 [] 0), (6, .own 5 0 3), (7, .d (.int .i64 ((3 : Nat) : Int))), (8, .d (.int .i64 j'))])
              (fun j' => [.gone, .box (.d f.D), .arr 1 ((rgB (ptA q (L3.take j'))).map D.bool) true, .box (.d (.bool (decide (o.length < (ptA q (L3.take j')).length)))), .gone, .arr 1 (L3.map (D.int .i64)) true, .keep [(2, .pB 1 [] 0), (6, .pL 2 0 [] 0), (9, .fn (.func 54) [.pL 2 0 [] 0]), (10, .pB 3 [] 0), (11, .fn (.func 59) [.pL 2 0 [] 0, .pB 3 [] 0]), (77, .d (.lst (f.fJoins.map TJoin.D))), (78, .d (.int .i64 (f.fJoins.map TJoin.D).length)), (79, .d (.int .i64 k))] s])
              (fun j' => j' ≤ 3) (fun j' => 3 - j') 0 (Weak.cov ⟨rfl, rfl, rfl, rfl, rfl, trivial⟩ ⟨trivial, rfl, rfl, rfl, trivial, by rw [hrow]; rfl, rfl, trivial⟩ rfl) (Nat.zero_le _) (fun j' hj' => ?_)
            have hBj : Bd (ptA q (L3.take j')) := hB.all (fun g hg => hb3 g (List.mem_of_mem_take hg))
            have hgj := ptA_ge (L3.take j') q
            have hLj : ((rgB (ptA q (L3.take j'))).map D.bool).length = 40 := by rw [List.length_map, rgB_len]
            (conv => whnf)
            (repeat (refine stg_ ?_))
            (refine br_ (fun h4 => ?_) (fun h4 => ?_) <;> (repeat (refine stg_ ?_)))
            · obtain ⟨x, hx⟩ := at_lt' (xs := L3) (k := j') (by omega)
              have hxb := hb3 x (List.mem_of_getElem? hx)
              have hS := ptA_snoc (o := q) hx
              have hex : (L3.map (D.int .i64))[j']? = some (.int .i64 x) := by rw [List.getElem?_map, hx]; rfl
              generalize ptA q (L3.take j') = p at *
              by_cases hx0 : 0 ≤ x
              · rw [ptS, if_pos hx0] at hS
                have hat : ((rgB p).map D.bool)[x.toNat]? = some (.bool (decide (x ∈ p))) := by rw [List.getElem?_map, rgB_at _ (by omega), show ((x.toNat : Nat) : Int) = x by omega]; rfl
                by_cases hxp : x ∈ p
                · rw [ptI_old hBj.rs hxp] at hS
                  (repeat' (first | (refine stg_ ?_) | fail | (refine br_ (fun hbr => ?_) (fun hbr => ?_))))
                  all_goals first | (exfalso; exact absurd hxp hbr) | (exfalso; exact absurd hbr hxp) | (exfalso; omega) | skip
                  exact NextW.go (j' + 1) (Weak.cov ⟨rfl, rfl, rfl, rfl, rfl, trivial⟩ ⟨trivial, rfl, (by show _ = Blk.arr 1 ((rgB (ptA q (L3.take (j' + 1)))).map D.bool) true; rw [hS]), (by show _ = Blk.box (.d (.bool (decide (o.length < (ptA q (L3.take (j' + 1))).length)))); rw [hS]), trivial, rfl, rfl, trivial⟩ rfl) (by omega) (by omega)
                · have hSS := rg_all p hx0 hxb (o' := ptI x p) (fun y => mem_ptI x p y)
                  have hnl := ptI_new hxp
                  (repeat' (first | (refine stg_ ?_) | fail | (refine br_ (fun hbr => ?_) (fun hbr => ?_))))
                  all_goals first | (exfalso; exact absurd hxp hbr) | (exfalso; exact absurd hbr hxp) | (exfalso; omega) | skip
                  exact NextW.go (j' + 1) (Weak.cov ⟨rfl, rfl, rfl, rfl, rfl, trivial⟩ ⟨trivial, rfl, (by show _ = Blk.arr 1 ((rgB (ptA q (L3.take (j' + 1)))).map D.bool) true; rw [hS, ← hSS]), (by show _ = Blk.box (.d (.bool (decide (o.length < (ptA q (L3.take (j' + 1))).length)))); rw [hS, decide_eq_true (show o.length < (ptI x p).length by omega)]), trivial, rfl, rfl, trivial⟩ rfl) (by omega) (by omega)
              · rw [ptS, if_neg hx0] at hS
                (repeat' (first | (refine stg_ ?_) | fail | (refine br_ (fun hbr => ?_) (fun hbr => ?_))))
                all_goals first | (exfalso; omega) | skip
                exact NextW.go (j' + 1) (Weak.cov ⟨rfl, rfl, rfl, rfl, rfl, trivial⟩ ⟨trivial, rfl, (by show _ = Blk.arr 1 ((rgB (ptA q (L3.take (j' + 1)))).map D.bool) true; rw [hS]), (by show _ = Blk.box (.d (.bool (decide (o.length < (ptA q (L3.take (j' + 1))).length)))); rw [hS]), trivial, rfl, rfl, trivial⟩ rfl) (by omega) (by omega)
            · have hT2 : L3.take j' = L3 := List.take_of_length_le (by omega)
              rw [hT2, ← hR] at *
              (repeat' (first | (refine stg_ ?_) | fail | (refine br_ (fun hbr => ?_) (fun hbr => ?_))))
              (refine And.intro rfl ?_; (conv => whnf))
              (repeat' (first | (refine stg_ ?_) | fail | (refine br_ (fun hbr => ?_) (fun hbr => ?_))))
              refine NextW.go (k + 1, rgJ q j) covT_ ⟨by dsimp only; omega, hBr, by dsimp only; omega, hT⟩ (by dsimp only; omega)
          · have hR : rgJ q j = q := by rw [rgJ, if_neg hM]
            rw [hR] at hT
            (repeat' (first | (refine stg_ ?_) | fail | (refine br_ (fun hbr => ?_) (fun hbr => ?_))))
            all_goals first | (exfalso; simp_all; done) | (exact NextW.go (k + 1, q) covT_ ⟨by dsimp only; omega, hB, hge, hT⟩ (by dsimp only; omega)) | skip
        · rw [fold_end (xs := f.fJoins) (by omega)] at hT
          (repeat' (first | (refine stg_ ?_) | fail | (refine br_ (fun hbr => ?_) (fun hbr => ?_))))
          subst hT
          refine NextW.go (m - 1, W, decide (o.length < W.length)) (Weak.trans (Weak.swap 3 4 ?_) covT_) ⟨hB, fun h => ?_, fun h => ?_⟩ ?_
          · rfl
          · dsimp only at h ⊢
            simp only [decide_eq_true_eq] at h
            have hne : ¬ W.length = o.length := by omega
            rw [if_neg hne] at hU
            have : m - 1 + 1 = m := by omega
            rw [this]
            exact ⟨hU, by omega⟩
          · dsimp only at h ⊢
            simp only [decide_eq_false_iff_not] at h
            rw [if_pos (by omega)] at hU
            exact hU
          · dsimp only
            rw [if_pos rfl]
            split
            · rename_i h
              simp only [decide_eq_true_eq] at h
              omega
            · omega
    | false =>
      have hU := hU2 rfl
      clear hU1 hU2
      (conv => whnf)
      (repeat' (first | (refine stg_ ?_) | fail | (refine br_ (fun hbr => ?_) (fun hbr => ?_))))
      refine LoopW.go (α := Nat) (fun k => [(6, .pL 2 0 [] 0), (18, .own 4 0 (rgO o k).length), (98, .d (.int .i64 k))]) (fun k => [.gone, .box (.d f.D), .arr 1 ((rgB o).map D.bool) true, .gone, .arr 1 ((rgO o k).map (D.int .i64)) true])
        (fun k => k ≤ 40) (fun k => 40 - k) 0 (Weak.trans (Weak.adopt (k := 18) rfl 1 true) (Weak.cov ⟨rfl, rfl, rfl, trivial⟩ ⟨trivial, rfl, rfl, trivial, rfl, trivial⟩ rfl)) (Nat.zero_le _) (fun k hk => ?_)
      have hol := rgO_len o k
      have hom : ((rgO o k).map (D.int .i64)).length = (rgO o k).length := List.length_map _
      (conv => whnf)
      (repeat (refine stg_ ?_))
      (refine br_ (fun h3 => ?_) (fun h3 => ?_) <;> (repeat (refine stg_ ?_)))
      · have hat : ((rgB o).map D.bool)[k]? = some (.bool (decide ((k : Int) ∈ o))) := by rw [List.getElem?_map, rgB_at _ (by omega)]; rfl
        by_cases hM : (k : Int) ∈ o
        · have hS := rgO_yes hM
          (repeat' (first | (refine stg_ ?_) | fail | (refine br_ (fun hbr => ?_) (fun hbr => ?_))))
          all_goals first | (exfalso; exact absurd hM hbr) | (exfalso; exact absurd hbr hM) | (exfalso; omega) | skip
          exact NextW.go (k + 1) (Weak.cov ⟨rfl, (by show _ = V.own 4 0 (rgO o (k + 1)).length; rw [hS, List.length_append]; rfl), rfl, trivial⟩ ⟨trivial, rfl, rfl, trivial, (by show _ = Blk.arr 1 ((rgO o (k + 1)).map (D.int .i64)) true; rw [hS, List.map_append, ← hom, List.take_length]; rfl), trivial⟩ rfl) (by omega) (by omega)
        · have hS := rgO_no hM
          (repeat' (first | (refine stg_ ?_) | fail | (refine br_ (fun hbr => ?_) (fun hbr => ?_))))
          all_goals first | (exfalso; exact absurd hM hbr) | (exfalso; exact absurd hbr hM) | (exfalso; omega) | skip
          exact NextW.go (k + 1) (Weak.cov ⟨rfl, (by show _ = V.own 4 0 (rgO o (k + 1)).length; rw [hS]; rfl), rfl, trivial⟩ ⟨trivial, rfl, rfl, trivial, (by show _ = Blk.arr 1 ((rgO o (k + 1)).map (D.int .i64)) true; rw [hS]; first | done | rfl), trivial⟩ rfl) (by omega) (by omega)
      · obtain rfl : k = 40 := by omega
        rw [rgO_all hB] at *
        (repeat' (first | (refine stg_ ?_) | fail | (refine br_ (fun hbr => ?_) (fun hbr => ?_))))
        rw [hU]
        (refine ⟨⟨[some 4], ⟨by decide, ?_, trivial, trivial⟩, by decide, ⟨_, rfl, rfl, ⟨_, _, rfl, ⟨by decide, ?_⟩, ⟨_, _, rfl, ⟨rfl, ?_⟩, rfl⟩⟩⟩⟩⟩)
        all_goals rfl
end Go.Proofs.YtcachhipflibkaaGreat