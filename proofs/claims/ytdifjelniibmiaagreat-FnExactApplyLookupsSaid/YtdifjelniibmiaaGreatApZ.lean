/- All lookups of features applied: both sides, by the machine. -/
import Derived.Test.YtdifjelniibmiaaGreatApY
import Derived.Test.YtdifjelniibmiaaGreatFtX
import Derived.Test.YtdifjelniibmiaaGreatFtY
set_option linter.unusedSimpArgs false
set_option linter.unusedVariables false
namespace Go.Proofs.YtdifjelniibmiaaGreat
open Go.RowKit
theorem apF_ok (l : TLookup) (hr : ∀ r ∈ l.fRules, 1 ≤ r.fInput.length) : ∀ (n : Nat) (xs : List TItem) (tr : List Int) (a : Nat) (p : List TItem × List Int), xs.length ≤ 60 → (∀ x ∈ xs, wkI x) → apF l n xs tr a = some p → p.1.length ≤ 60 ∧ ∀ x ∈ p.1, wkI x
  | 0, xs, tr, a, p, h, hw, e => by cases e; exact ⟨h, hw⟩
  | n + 1, xs, tr, a, p, h, hw, e => by
    rw [apF] at e
    split at e
    · cases e; exact ⟨h, hw⟩
    · split at e
      · exact apF_ok l hr n _ _ _ p h hw e
      · split at e
        · cases e
        · rename_i hq _ r hri
          split at e
          · cases e
          · obtain ⟨i, r', q1, q2, q3⟩ := ruI_some (l := l) (xs := xs) (a := a) (by omega)
            rw [q1, Int.toNat_natCast, q2] at hri
            cases hri
            exact apF_ok l hr n _ _ _ p (by omega) (rpl_wk hw (hr _ (List.mem_of_getElem? q2)) (apRu_le q3)) e
theorem apL_ok {l : TLookup} (hl : lkB l = true) {xs : List TItem} {p : List TItem × List Int} (hx : xs.length ≤ 60) (hw : ∀ x ∈ xs, wkI x) (e : apL l xs = some p) : p.1.length ≤ 60 ∧ ∀ x ∈ p.1, wkI x :=
  apF_ok l (fun r hr => (ruB_fcs ((lkB_ru hl).1 r hr)).2.2.2.2) _ _ _ _ p hx hw e
/-- all lookups, one behind the other -/
def alF : List TLookup → List TItem → Option (List TItem)
  | [], xs => some xs
  | l :: t, xs => match apL l xs with
    | none => none
    | some p => alF t p.1
theorem alF_len : ∀ (ls : List TLookup) (xs ys : List TItem), (∀ l ∈ ls, lkB l = true) → xs.length ≤ 60 → (∀ x ∈ xs, wkI x) → alF ls xs = some ys → ys.length ≤ 60
  | [], xs, ys, _, h, _, e => by cases e; exact h
  | l :: t, xs, ys, hl, h, hw, e => by
    rw [alF] at e
    cases ha : apL l xs with
    | none => rw [ha] at e; cases e
    | some p =>
      rw [ha] at e
      obtain ⟨h1, h2⟩ := apL_ok (hl l (by simp)) h hw ha
      exact alF_len t p.1 ys (fun m hm => hl m (by simp [hm])) h1 h2 e
def AlRes (o : Option (List TItem)) : V → List Blk → Prop := fun v bs =>
  match o with
  | none => v = .tup [.nils, .d (.int .i64 5)] ∧ bs = []
  | some ys => v = .tup [.own 1 0 ys.length, .d (.int .i64 0)] ∧ bs = [.arr 3 (ys.map TItem.D) true]
set_option maxHeartbeats 4000000 in
theorem applyLookups_v (f : TFeatures) (xs : List TItem) (hl : ∀ l ∈ f.fLookups, lkB l = true) (hx : xs.length ≤ 60) (hwk : ∀ x ∈ xs, wkI x) {v : V} {bs : List Blk} (hres : AlRes (alF f.fLookups xs) v bs) : PC Tryz.prog 67 [.d f.D, .d (.lst (xs.map TItem.D))] v bs := by
  refine pc_intro ttOk (by kernel_rfl) Tryz.func67 rfl (by kernel_rfl) (by kernel_rfl) (by kernel_rfl) (fun hw => ?_)
  have hL : (xs.map TItem.D).length = xs.length := List.length_map _
  have hF : (f.fLookups.map TLookup.D).length = f.fLookups.length := List.length_map _
  have hFm : (f.fLookups.map TLookup.D).length ≤ 9223372036854775807 := hw.1.1.1
  have c0 := cloneItem_v xs (by omega)
  (conv => whnf)
  (repeat' (first | (refine stg_ ?_) | (refine cla_ (c0) ?_) | (refine br_ (fun hbr => ?_) (fun hbr => ?_))))
  refine LoopW.go (α := Nat × List TItem) (fun p => [(6, .own 2 0 p.2.length), (15, .d (.lst (f.fLookups.map TLookup.D))), (16, .d (.int .i64 (f.fLookups.map TLookup.D).length)), (17, .d (.int .i64 (p.1 : Nat)))]) (fun p => [.gone, .gone, .arr 3 (p.2.map TItem.D) true]) (fun p => p.1 ≤ f.fLookups.length ∧ p.2.length ≤ 60 ∧ (∀ x ∈ p.2, wkI x) ∧ alF f.fLookups xs = alF (f.fLookups.drop p.1) p.2) (fun p => f.fLookups.length - p.1) (0, xs) covT_ ⟨Nat.zero_le _, hx, hwk, rfl⟩ ?_
  rintro ⟨k, ys⟩ ⟨i1, i2, i3, i4⟩
  dsimp only at i1 i2 i3 i4 ⊢
  have hY : (ys.map TItem.D).length = ys.length := List.length_map _
  clear c0 hL
  (conv => whnf)
  (refine br_ (fun h1 => ?_) (fun h1 => ?_) <;> (repeat (refine stg_ ?_)))
  · obtain ⟨l, hk⟩ := at_lt' (xs := f.fLookups) (k := k) (by omega)
    have hlB := hl l (List.mem_of_getElem? hk)
    rw [drop_at hk, alF] at i4
    have c1 := fun {v bs} => applyLookup_v l ys hlB i2 i3 (v := v) (bs := bs)
    cases ho : apL l ys with
    | none =>
      rw [ho] at i4
      simp only at i4
      rw [i4] at hres
      obtain ⟨rfl, rfl⟩ := hres
      have c2 := c1 (v := .tup [.nils, .nils, .d (.int .i64 5)]) (bs := []) (by rw [ho]; exact ⟨rfl, rfl⟩)
      (repeat' (first | (refine stg_ ?_) | (refine cla_ (c2) ?_) | (refine br_ (fun hbr => ?_) (fun hbr => ?_))))
      all_goals first | (exfalso; simp_all; done) | (refine ⟨⟨[], trivial, by decide, ⟨_, rfl, rfl, ⟨_, _, rfl, rfl, ⟨_, _, rfl, ⟨rfl, ?_⟩, rfl⟩⟩⟩⟩⟩; (conv => whnf))
      all_goals rfl
    | some p =>
      obtain ⟨zs, tr⟩ := p
      rw [ho] at i4
      simp only at i4
      obtain ⟨j1, j2⟩ := apL_ok hlB i2 i3 ho
      have c2 := c1 (v := .tup [.own 1 0 zs.length, .own 2 0 tr.length, .d (.int .i64 0)]) (bs := [.arr 3 (zs.map TItem.D) true, .arr 1 (tr.map (D.int .i64)) true]) (by rw [ho]; exact ⟨rfl, rfl⟩)
      (repeat' (first | (refine stg_ ?_) | (refine cla_ (c2) ?_) | (refine br_ (fun hbr => ?_) (fun hbr => ?_))))
      all_goals first | (exfalso; simp_all; done) | skip
      refine NextW.go (k + 1, zs) (Weak.trans (Weak.swap 2 4 rfl) (Weak.cov ⟨rfl, rfl, rfl, rfl, trivial⟩ ⟨trivial, trivial, rfl, trivial⟩ rfl)) ⟨by show k + 1 ≤ _; omega, j1, j2, i4⟩ (by show f.fLookups.length - (k + 1) < f.fLookups.length - k; omega)
  · rw [List.drop_eq_nil_of_le (by omega), alF] at i4
    rw [i4] at hres
    obtain ⟨rfl, rfl⟩ := hres
    (repeat (refine stg_ ?_))
    (refine ⟨⟨[some 2], ⟨by decide, ?_, trivial, trivial⟩, by decide, ⟨_, rfl, rfl, ⟨_, _, rfl, ⟨by decide, ?_⟩, ⟨_, _, rfl, ⟨rfl, ?_⟩, rfl⟩⟩⟩⟩⟩)
    all_goals rfl
set_option maxHeartbeats 4000000 in
theorem l26All_v (f : TFeatures) (xs : List TItem) (hl : ∀ l ∈ f.fLookups, lkB l = true) (hx : xs.length ≤ 60) (hwk : ∀ x ∈ xs, wkI x) {v : V} {bs : List Blk} (hres : AlRes (alF f.fLookups xs) v bs) : PC Tryz.prog 66 [.pX f.D, .d (.lst (xs.map TItem.D))] v bs := by
  refine pc_intro ttOk (by kernel_rfl) Tryz.func66 rfl (by kernel_rfl) (by kernel_rfl) (by kernel_rfl) (fun hw => ?_)
  have hL : (xs.map TItem.D).length = xs.length := List.length_map _
  have hF : (f.fLookups.map TLookup.D).length = f.fLookups.length := List.length_map _
  have hFm : (f.fLookups.map TLookup.D).length ≤ 9223372036854775807 := hw.1.1.1
  (conv => whnf)
  (repeat' (first | (refine stg_ ?_) | fail | (refine br_ (fun hbr => ?_) (fun hbr => ?_))))
  refine LoopW.go (α := Nat × List TItem) (fun p => [(0, .pX f.D), (6, .own 1 0 p.2.length), (7, .d (.int .i64 (p.1 : Nat)))]) (fun p => [.gone, .arr 3 (p.2.map TItem.D) true]) (fun p => p.1 ≤ f.fLookups.length ∧ p.2.length ≤ 60 ∧ (∀ x ∈ p.2, wkI x) ∧ alF f.fLookups xs = alF (f.fLookups.drop p.1) p.2) (fun p => f.fLookups.length - p.1) (0, xs) (Weak.cov ⟨rfl, by (show V.own 1 0 (0 + (xs.map TItem.D).length) = V.own 1 0 xs.length; rw [Nat.zero_add, hL]), rfl, trivial⟩ ⟨trivial, rfl, trivial⟩ rfl) ⟨Nat.zero_le _, hx, hwk, rfl⟩ ?_
  rintro ⟨k, ys⟩ ⟨i1, i2, i3, i4⟩
  dsimp only at i1 i2 i3 i4 ⊢
  have hY : (ys.map TItem.D).length = ys.length := List.length_map _
  clear hL
  (conv => whnf)
  (repeat (refine stg_ ?_))
  (refine br_ (fun h1 => ?_) (fun h1 => ?_) <;> (repeat (refine stg_ ?_)))
  · obtain ⟨l, hk⟩ := at_lt' (xs := f.fLookups) (k := k) (by omega)
    have hlB := hl l (List.mem_of_getElem? hk)
    rw [drop_at hk, alF] at i4
    have c1 := fun {v bs} => l26Apply_v l ys hlB i2 i3 (v := v) (bs := bs)
    cases ho : apL l ys with
    | none =>
      rw [ho] at i4
      simp only at i4
      rw [i4] at hres
      obtain ⟨rfl, rfl⟩ := hres
      have c2 := c1 (v := .tup [.nils, .nils, .d (.int .i64 5)]) (bs := []) (by rw [ho]; exact ⟨rfl, rfl⟩)
      (repeat' (first | (refine stg_ ?_) | (refine cla_ (c2) ?_) | (refine br_ (fun hbr => ?_) (fun hbr => ?_))))
      all_goals first | (exfalso; simp_all; done) | (refine ⟨⟨[], trivial, by decide, ⟨_, rfl, rfl, ⟨_, _, rfl, rfl, ⟨_, _, rfl, ⟨rfl, ?_⟩, rfl⟩⟩⟩⟩⟩; (conv => whnf))
      all_goals rfl
    | some p =>
      obtain ⟨zs, tr⟩ := p
      rw [ho] at i4
      simp only at i4
      obtain ⟨j1, j2⟩ := apL_ok hlB i2 i3 ho
      have c2 := c1 (v := .tup [.own 1 0 zs.length, .own 2 0 tr.length, .d (.int .i64 0)]) (bs := [.arr 3 (zs.map TItem.D) true, .arr 1 (tr.map (D.int .i64)) true]) (by rw [ho]; exact ⟨rfl, rfl⟩)
      (repeat' (first | (refine stg_ ?_) | (refine cla_ (c2) ?_) | (refine br_ (fun hbr => ?_) (fun hbr => ?_))))
      all_goals first | (exfalso; simp_all; done) | skip
      refine NextW.go (k + 1, zs) (Weak.trans (Weak.swap 1 2 rfl) (Weak.cov ⟨rfl, rfl, rfl, trivial⟩ ⟨trivial, rfl, trivial⟩ rfl)) ⟨by show k + 1 ≤ _; omega, j1, j2, i4⟩ (by show f.fLookups.length - (k + 1) < f.fLookups.length - k; omega)
  · rw [List.drop_eq_nil_of_le (by omega), alF] at i4
    rw [i4] at hres
    obtain ⟨rfl, rfl⟩ := hres
    (repeat (refine stg_ ?_))
    (refine ⟨⟨[some 1], ⟨by decide, ?_, trivial, trivial⟩, by decide, ⟨_, rfl, rfl, ⟨_, _, rfl, ⟨by decide, ?_⟩, ⟨_, _, rfl, ⟨rfl, ?_⟩, rfl⟩⟩⟩⟩⟩)
    all_goals rfl
def AlR2 (f : TFeatures) (xs : List TItem) : V → List Blk → Prop := fun v bs =>
  if ftB f = true ∧ vrB xs 40 = true then AlRes (alF f.fLookups xs) v bs
  else v = .tup [.nils, .d (.int .i64 1)] ∧ bs = []
theorem alR2_cases (f : TFeatures) (xs : List TItem) : (AlR2 f xs (.tup [.nils, .d (.int .i64 1)]) []) ∨ (AlR2 f xs (.tup [.nils, .d (.int .i64 5)]) []) ∨ ∃ ys : List TItem, ys.length ≤ 60 ∧ AlR2 f xs (.tup [.own 1 0 ys.length, .d (.int .i64 0)]) [.arr 3 (ys.map TItem.D) true] := by
  have e1 : ∀ v bs, AlR2 f xs v bs = if ftB f = true ∧ vrB xs 40 = true then AlRes (alF f.fLookups xs) v bs else v = .tup [.nils, .d (.int .i64 1)] ∧ bs = [] := fun _ _ => rfl
  by_cases hB : ftB f = true ∧ vrB xs 40 = true
  · have e2 : ∀ v bs, AlR2 f xs v bs = AlRes (alF f.fLookups xs) v bs := fun v bs => by rw [e1, if_pos hB]
    cases ho : alF f.fLookups xs with
    | none => refine .inr (.inl ?_); rw [e2, ho]; exact ⟨rfl, rfl⟩
    | some ys => refine .inr (.inr ⟨ys, alF_len _ _ _ (ftB_F hB.1).lk (vr_wk hB.2).1 (vr_wk hB.2).2 ho, ?_⟩); rw [e2, ho]; exact ⟨rfl, rfl⟩
  · refine .inl ?_
    rw [e1, if_neg hB]
    exact ⟨rfl, rfl⟩
theorem ApplyLookups_v (f : TFeatures) (xs : List TItem) {v : V} {bs : List Blk} (hres : AlR2 f xs v bs) : PC Tryz.prog 27 [.d f.D, .d (.lst (xs.map TItem.D))] v bs := by
  refine pc_intro ttOk (by kernel_rfl) Tryz.func27 rfl (by kernel_rfl) (by kernel_rfl) (by kernel_rfl) (fun hw => ?_)
  have c1 := ValidFeatures_v f 40
  rw [vfB_40] at c1
  have c2 := ValidRun_v xs 40
  unfold AlR2 at hres
  cases h1 : ftB f
  · rw [h1] at c1 hres
    rw [if_neg (by simp)] at hres
    obtain ⟨rfl, rfl⟩ := hres
    (conv => whnf)
    (repeat' (first | (refine stg_ ?_) | (refine cla_ (c1) ?_) | (refine cla_ (c2) ?_) | (refine br_ (fun hbr => ?_) (fun hbr => ?_))))
    all_goals first | (exfalso; simp_all; done) | (refine ⟨⟨[], trivial, by decide, ⟨_, rfl, rfl, ⟨_, _, rfl, rfl, ⟨_, _, rfl, ⟨rfl, ?_⟩, rfl⟩⟩⟩⟩⟩; (conv => whnf))
    all_goals rfl
  · rw [h1] at c1 hres
    cases h2 : vrB xs 40
    · rw [h2] at c2 hres
      rw [if_neg (by simp)] at hres
      obtain ⟨rfl, rfl⟩ := hres
      (conv => whnf)
      (repeat' (first | (refine stg_ ?_) | (refine cla_ (c1) ?_) | (refine cla_ (c2) ?_) | (refine br_ (fun hbr => ?_) (fun hbr => ?_))))
      all_goals first | (exfalso; simp_all; done) | (refine ⟨⟨[], trivial, by decide, ⟨_, rfl, rfl, ⟨_, _, rfl, rfl, ⟨_, _, rfl, ⟨rfl, ?_⟩, rfl⟩⟩⟩⟩⟩; (conv => whnf))
      all_goals rfl
    · rw [h2] at c2 hres
      rw [if_pos ⟨rfl, rfl⟩] at hres
      obtain ⟨w1, w2⟩ := vr_wk h2
      have c3 := fun {v bs} => applyLookups_v f xs (ftB_F h1).lk w1 w2 (v := v) (bs := bs)
      cases ho : alF f.fLookups xs with
      | none =>
        rw [ho] at hres c3
        have c4 := c3 hres
        obtain ⟨rfl, rfl⟩ := hres
        (conv => whnf)
        (repeat' (first | (refine stg_ ?_) | (refine cla_ (c1) ?_) | (refine cla_ (c2) ?_) | (refine cla_ (c4) ?_) | (refine br_ (fun hbr => ?_) (fun hbr => ?_))))
        all_goals first | (exfalso; simp_all; done) | (refine ⟨⟨[], trivial, by decide, ⟨_, rfl, rfl, ⟨_, _, rfl, rfl, ⟨_, _, rfl, ⟨rfl, ?_⟩, rfl⟩⟩⟩⟩⟩; (conv => whnf))
        all_goals rfl
      | some ys =>
        rw [ho] at hres c3
        have c4 := c3 hres
        obtain ⟨rfl, rfl⟩ := hres
        (conv => whnf)
        (repeat' (first | (refine stg_ ?_) | (refine cla_ (c1) ?_) | (refine cla_ (c2) ?_) | (refine cla_ (c4) ?_) | (refine br_ (fun hbr => ?_) (fun hbr => ?_))))
        all_goals first | (exfalso; simp_all; done) | skip
        (refine ⟨⟨[some 2], ⟨by decide, ?_, trivial, trivial⟩, by decide, ⟨_, rfl, rfl, ⟨_, _, rfl, ⟨by decide, ?_⟩, ⟨_, _, rfl, ⟨rfl, ?_⟩, rfl⟩⟩⟩⟩⟩)
        all_goals rfl
theorem specApplyLookups_v (f : TFeatures) (xs : List TItem) {v : V} {bs : List Blk} (hres : AlR2 f xs v bs) : PC Tryz.prog 26 [.d f.D, .d (.lst (xs.map TItem.D))] v bs := by
  refine pc_intro ttOk (by kernel_rfl) Tryz.func26 rfl (by kernel_rfl) (by kernel_rfl) (by kernel_rfl) (fun hw => ?_)
  have c1 := l25Ok_v f
  have c2 := l26Any_v xs
  unfold AlR2 at hres
  cases h1 : ftB f
  · rw [h1] at c1 hres
    rw [if_neg (by simp)] at hres
    obtain ⟨rfl, rfl⟩ := hres
    (conv => whnf)
    (repeat' (first | (refine stg_ ?_) | (refine cla_ (c1) ?_) | (refine cla_ (c2) ?_) | (refine br_ (fun hbr => ?_) (fun hbr => ?_))))
    all_goals first | (exfalso; simp_all; done) | (refine ⟨⟨[], trivial, by decide, ⟨_, rfl, rfl, ⟨_, _, rfl, rfl, ⟨_, _, rfl, ⟨rfl, ?_⟩, rfl⟩⟩⟩⟩⟩; (conv => whnf))
    all_goals rfl
  · rw [h1] at c1 hres
    cases h2 : vrB xs 40
    · rw [h2] at c2 hres
      rw [if_neg (by simp)] at hres
      obtain ⟨rfl, rfl⟩ := hres
      (conv => whnf)
      (repeat' (first | (refine stg_ ?_) | (refine cla_ (c1) ?_) | (refine cla_ (c2) ?_) | (refine br_ (fun hbr => ?_) (fun hbr => ?_))))
      all_goals first | (exfalso; simp_all; done) | (refine ⟨⟨[], trivial, by decide, ⟨_, rfl, rfl, ⟨_, _, rfl, rfl, ⟨_, _, rfl, ⟨rfl, ?_⟩, rfl⟩⟩⟩⟩⟩; (conv => whnf))
      all_goals rfl
    · rw [h2] at c2 hres
      rw [if_pos ⟨rfl, rfl⟩] at hres
      obtain ⟨w1, w2⟩ := vr_wk h2
      have c3 := fun {v bs} => l26All_v f xs (ftB_F h1).lk w1 w2 (v := v) (bs := bs)
      cases ho : alF f.fLookups xs with
      | none =>
        rw [ho] at hres c3
        have c4 := c3 hres
        obtain ⟨rfl, rfl⟩ := hres
        (conv => whnf)
        (repeat' (first | (refine stg_ ?_) | (refine cla_ (c1) ?_) | (refine cla_ (c2) ?_) | (refine cla_ (c4) ?_) | (refine br_ (fun hbr => ?_) (fun hbr => ?_))))
        all_goals first | (exfalso; simp_all; done) | (refine ⟨⟨[], trivial, by decide, ⟨_, rfl, rfl, ⟨_, _, rfl, rfl, ⟨_, _, rfl, ⟨rfl, ?_⟩, rfl⟩⟩⟩⟩⟩; (conv => whnf))
        all_goals rfl
      | some ys =>
        rw [ho] at hres c3
        have c4 := c3 hres
        obtain ⟨rfl, rfl⟩ := hres
        (conv => whnf)
        (repeat' (first | (refine stg_ ?_) | (refine cla_ (c1) ?_) | (refine cla_ (c2) ?_) | (refine cla_ (c4) ?_) | (refine br_ (fun hbr => ?_) (fun hbr => ?_))))
        all_goals first | (exfalso; simp_all; done) | skip
        (refine ⟨⟨[some 2], ⟨by decide, ?_, trivial, trivial⟩, by decide, ⟨_, rfl, rfl, ⟨_, _, rfl, ⟨by decide, ?_⟩, ⟨_, _, rfl, ⟨rfl, ?_⟩, rfl⟩⟩⟩⟩⟩)
        all_goals rfl
end Go.Proofs.YtdifjelniibmiaaGreat
