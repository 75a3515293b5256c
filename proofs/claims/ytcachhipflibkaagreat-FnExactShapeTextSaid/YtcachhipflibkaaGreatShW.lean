/- merged: several parts in one text. Leans on no more than they do. -/
import Derived.Test.YtcachhipflibkaaGreatRoV
import Derived.Test.YtcachhipflibkaaGreatFiP
set_option linter.unusedSimpArgs false
set_option linter.unusedVariables false
namespace Go.Proofs.YtcachhipflibkaaGreat
open Go.RowKit
def glN (n : Int) (xs : List TItem) : Prop := ∀ x ∈ xs, 0 ≤ x.fGlyph ∧ x.fGlyph < n
def usN (f : TFeatures) (n : Int) : Prop := ∀ g ∈ usG f, 0 ≤ g ∧ g < n
theorem vf_us {f : TFeatures} {n : Int} (h : vfB f n = true) : ftB f = true ∧ usN f n := by
  simp only [vfB, Bool.and_eq_true, List.all_eq_true, decide_eq_true_eq] at h
  exact ⟨h.1, fun g hg => ⟨(usG_bnd h.1 g hg).1, h.2 g hg⟩⟩
theorem vr_gl {xs : List TItem} {n : Int} (h : vrB xs n = true) : glN n xs := by
  simp only [vrB, Bool.and_eq_true, decide_eq_true_eq] at h
  intro x hx
  have := rnG_bnd xs none h.2.2 x hx
  simp only [itB, inB, Bool.and_eq_true, decide_eq_true_eq] at this
  omega
theorem us_lk {f : TFeatures} {n : Int} (h : usN f n) : ∀ l ∈ f.fLookups, ∀ r ∈ l.fRules, ∀ g ∈ r.fOutput, 0 ≤ g ∧ g < n := fun l hl r hr g hg => by
  refine h g ?_
  simp only [usG, List.mem_append, List.mem_flatMap]
  exact .inl (.inl (.inl ⟨l, hl, List.mem_flatMap.2 ⟨r, hr, by simp [ruGl, hg]⟩⟩))
theorem us_jn {f : TFeatures} {n : Int} (h : usN f n) : ∀ j ∈ f.fJoins, (0 ≤ j.fInit → j.fInit < n) ∧ (0 ≤ j.fMedi → j.fMedi < n) ∧ (0 ≤ j.fFina → j.fFina < n) := fun j hj => by
  have key : ∀ g, g ∈ [j.fInit, j.fMedi, j.fFina] → 0 ≤ g → g < n := fun g hg h0 => (h g (by
    simp only [usG, List.mem_append, List.mem_flatMap]
    exact .inr ⟨j, hj, List.mem_cons_of_mem _ (List.mem_filter.2 ⟨hg, by simpa using h0⟩)⟩)).2
  exact ⟨key _ (by simp), key _ (by simp), key _ (by simp)⟩
theorem gfO_gl {f : TFeatures} {n : Int} (h : usN f n) {g form : Int} (hg : 0 ≤ g ∧ g < n) : 0 ≤ gfO (jnO f g) g form ∧ gfO (jnO f g) g form < n := by
  cases hj : jnO f g with
  | none => exact hg
  | some j =>
    have hm := us_jn h j (List.mem_of_find?_eq_some hj)
    have key : ∀ o : Int, (0 ≤ o → o < n) → 0 ≤ (if o < 0 then g else o) ∧ (if o < 0 then g else o) < n := fun o ho => by
      split
      · exact hg
      · exact ⟨by omega, ho (by omega)⟩
    refine key (if form = 1 then j.fInit else if form = 2 then j.fMedi else if form = 3 then j.fFina else -1) ?_
    split
    · exact hm.1
    · split
      · exact hm.2.1
      · split
        · exact hm.2.2
        · intro q; omega
theorem jrL_gl {f : TFeatures} {n : Int} (h : usN f n) {xs : List TItem} (hx : glN n xs) : glN n (jrL f xs) := by
  intro y hy
  rw [jrL] at hy
  obtain ⟨i, hi⟩ := List.getElem?_of_mem hy
  rw [List.getElem?_zipWith] at hi
  cases ha : xs[i]? with
  | none => rw [ha] at hi; cases hi
  | some x =>
    cases hb : (forms (ksL f xs))[i]? with
    | none => rw [ha, hb] at hi; cases hi
    | some m =>
      rw [ha, hb] at hi
      cases hi
      exact gfO_gl h (hx x (List.mem_of_getElem? ha))
theorem jrL_wk {f : TFeatures} {xs : List TItem} (hx : ∀ x ∈ xs, wkI x) : ∀ x ∈ jrL f xs, wkI x := by
  intro y hy
  rw [jrL] at hy
  obtain ⟨i, hi⟩ := List.getElem?_of_mem hy
  rw [List.getElem?_zipWith] at hi
  cases ha : xs[i]? with
  | none => rw [ha] at hi; cases hi
  | some x =>
    cases hb : (forms (ksL f xs))[i]? with
    | none => rw [ha, hb] at hi; cases hi
    | some m =>
      rw [ha, hb] at hi
      cases hi
      exact hx x (List.mem_of_getElem? ha)
theorem putL_gl {n f e : Int} : ∀ (b : Bool) (gs : List Int), (∀ g ∈ gs, 0 ≤ g ∧ g < n) → glN n (putL b f e gs)
  | b, [], _, x, hx => by cases b <;> simp [putL] at hx
  | true, g :: t, h, x, hx => by
    rcases List.mem_cons.1 (show x ∈ (⟨g, f, e - f⟩ : TItem) :: putL false f e t from hx) with rfl | hx
    · exact h g (by simp)
    · exact putL_gl false t (fun g hg => h g (by simp [hg])) x hx
  | false, g :: t, h, x, hx => by
    rcases List.mem_cons.1 (show x ∈ (⟨g, e, 0⟩ : TItem) :: putL false f e t from hx) with rfl | hx
    · exact h g (by simp)
    · exact putL_gl false t (fun g hg => h g (by simp [hg])) x hx
theorem rplL_gl {n : Int} {r : TRule} {xs : List TItem} {a : Nat} (hx : glN n xs) (hr : ∀ g ∈ r.fOutput, 0 ≤ g ∧ g < n) : glN n (rplL r xs a) := by
  intro x hm
  rw [rplL] at hm
  simp only [List.mem_append] at hm
  rcases hm with (hm | hm) | hm
  · exact hx x (List.mem_of_mem_take hm)
  · exact putL_gl true _ hr x hm
  · exact hx x (List.mem_of_mem_drop hm)
theorem apF_gl {n : Int} {l : TLookup} (hr : ∀ r ∈ l.fRules, ∀ g ∈ r.fOutput, 0 ≤ g ∧ g < n) : ∀ (m : Nat) (xs : List TItem) (tr : List Int) (a : Nat) (p : List TItem × List Int), glN n xs → apF l m xs tr a = some p → glN n p.1
  | 0, xs, tr, a, p, h, e => by cases e; exact h
  | m + 1, xs, tr, a, p, h, e => by
    rw [apF] at e
    split at e
    · cases e; exact h
    · split at e
      · exact apF_gl hr m _ _ _ p h e
      · split at e
        · cases e
        · rename_i r hri
          split at e
          · cases e
          · exact apF_gl hr m _ _ _ p (rplL_gl h (hr r (List.mem_of_getElem? hri))) e
theorem alF_gl {n : Int} : ∀ (ls : List TLookup) (xs ys : List TItem), (∀ l ∈ ls, ∀ r ∈ l.fRules, ∀ g ∈ r.fOutput, 0 ≤ g ∧ g < n) → glN n xs → alF ls xs = some ys → glN n ys
  | [], xs, ys, _, h, e => by cases e; exact h
  | l :: t, xs, ys, hl, h, e => by
    rw [alF] at e
    cases ha : apL l xs with
    | none => rw [ha] at e; cases e
    | some p =>
      rw [ha] at e
      exact alF_gl t p.1 ys (fun m hm => hl m (by simp [hm])) (apF_gl (hl l (by simp)) _ _ _ _ p h ha) e
theorem gl_it {s : TGlyphSet} {xs : List TItem} (h : glN (s.fGlyphs.length : Nat) xs) : itIn s.fGlyphs xs := fun x hx => by
  have := h x hx
  exact ⟨this.1, by omega⟩
theorem rtL_rn {gs : List TGlyph} (hn : gs.length ≤ 40) : ∀ (cs : List UInt8) (k : Nat) (xs : List TItem) (o : Option TItem), rtL gs k cs = some xs → k + cs.length ≤ 1000 → (∀ p, o = some p → p.fFrom + p.fLen ≤ k) → rnG (gs.length : Nat) o xs = true
  | [], k, xs, o, h, _, _ => by cases h; cases o <;> rfl
  | c :: cs, k, xs, o, h, hk, ho => by
    rw [rtL] at h
    rw [List.length_cons] at hk
    split at h
    · rename_i hf
      cases hq : rtL gs (k + 1) cs with
      | none => rw [hq] at h; cases h
      | some ys =>
        rw [hq] at h
        cases h
        have hb := fdx_lt (cdEq c.toNat) gs 0
        have ih := rtL_rn hn cs (k + 1) ys (some ⟨fdx (cdEq c.toNat) gs 0, k, 1⟩) hq (by omega) (fun p e => by cases e; show (k : Int) + 1 ≤ ((k + 1 : Nat) : Int); omega)
        rw [rnG, ih, Bool.and_true, Bool.and_eq_true]
        refine ⟨?_, ?_⟩
        · simp only [itB, inB, Bool.and_eq_true, decide_eq_true_eq]
          omega
        · cases o with
          | none => rfl
          | some p =>
            have := ho p rfl
            simp only [enO, decide_eq_true_eq]
            omega
    · cases h
theorem rtV_vr {s : TGlyphSet} {t : ByteArray} {xs : List TItem} {c : Int} (hn : s.fGlyphs.length ≤ 40) (h : rtV s t = (some xs, c)) : c = 0 ∧ vrB xs (s.fGlyphs.length : Nat) = true := by
  unfold rtV at h
  split at h
  · cases h
  · split at h
    · cases h
    · rename_i h60
      cases hq : rtL s.fGlyphs 0 t.data.toList with
      | none => rw [hq] at h; cases h
      | some ys =>
        rw [hq] at h
        cases h
        have hl := rtL_len _ _ _ hq
        have hsz : t.data.toList.length = t.size := rfl
        refine ⟨rfl, ?_⟩
        simp only [vrB, Bool.and_eq_true, decide_eq_true_eq]
        exact ⟨by omega, by omega, rtL_rn hn t.data.toList 0 _ none hq (by omega) (fun p e => by cases e)⟩
def SlRes (o : Option (List TSlot) × Int) (v : V) (bs : List Blk) : Prop :=
  match o with
  | (none, c) => v = .tup [.nils, .d (.int .i64 c)] ∧ bs = []
  | (some ys, c) => v = .tup [.own 1 0 ys.length, .d (.int .i64 c)] ∧ bs = [.arr 6 (ys.map TSlot.D) true]
def shOK (s : TGlyphSet) (f : TFeatures) (xs : List TItem) : Prop := gsB s = true ∧ vfB f (s.fGlyphs.length : Nat) = true ∧ vrB xs (s.fGlyphs.length : Nat) = true
instance (s : TGlyphSet) (f : TFeatures) (xs : List TItem) : Decidable (shOK s f xs) := by unfold shOK; exact inferInstance
def plR (s : TGlyphSet) (f : TFeatures) (xs : List TItem) : Option (List TSlot) × Int := if shOK s f xs then (some (plL s.fGlyphs f xs), 0) else (none, 1)
def shR (s : TGlyphSet) (f : TFeatures) (xs : List TItem) : Option (List TSlot) × Int := match alF f.fLookups (jrL f xs) with
  | none => (none, 5)
  | some ys => (some (plL s.fGlyphs f ys), 0)
def srR (s : TGlyphSet) (f : TFeatures) (xs : List TItem) : Option (List TSlot) × Int := if shOK s f xs then shR s f xs else (none, 1)
def stR (s : TGlyphSet) (f : TFeatures) (t : ByteArray) : Option (List TSlot) × Int := if gsB s = true ∧ vfB f (s.fGlyphs.length : Nat) = true then (match rtV s t with
  | (none, c) => (none, c)
  | (some xs, _) => shR s f xs) else (none, 1)
theorem shR_cases {s : TGlyphSet} {f : TFeatures} {xs : List TItem} (h : shOK s f xs) : shR s f xs = (none, 5) ∨ ∃ ys : List TItem, ys.length ≤ 60 ∧ glN (s.fGlyphs.length : Nat) ys ∧ alF f.fLookups (jrL f xs) = some ys ∧ shR s f xs = (some (plL s.fGlyphs f ys), 0) := by
  obtain ⟨h1, h2, h3⟩ := h
  obtain ⟨u1, u2⟩ := vf_us h2
  obtain ⟨w1, w2⟩ := vr_wk h3
  unfold shR
  cases ha : alF f.fLookups (jrL f xs) with
  | none => exact .inl rfl
  | some ys =>
    exact .inr ⟨ys, alF_len _ _ ys (ftB_F u1).lk (by rw [jrL_len]; exact w1) (jrL_wk w2) ha, alF_gl _ _ ys (us_lk u2) (jrL_gl u2 (vr_gl h3)) ha, rfl, rfl⟩
theorem plR_cases (s : TGlyphSet) (f : TFeatures) (xs : List TItem) : (∃ c, plR s f xs = (none, c)) ∨ ∃ ys c, ys.length ≤ 60 ∧ plR s f xs = (some ys, c) := by
  unfold plR
  split
  · rename_i h
    exact .inr ⟨_, _, by rw [plL_len]; exact (vr_wk h.2.2).1, rfl⟩
  · exact .inl ⟨_, rfl⟩
theorem srR_cases (s : TGlyphSet) (f : TFeatures) (xs : List TItem) : (∃ c, srR s f xs = (none, c)) ∨ ∃ ys c, ys.length ≤ 60 ∧ srR s f xs = (some ys, c) := by
  unfold srR
  split
  · rename_i h
    rcases shR_cases h with h1 | ⟨ys, h1, _, _, h2⟩
    · exact .inl ⟨_, h1⟩
    · exact .inr ⟨_, _, by rw [plL_len]; exact h1, h2⟩
  · exact .inl ⟨_, rfl⟩
theorem stR_cases (s : TGlyphSet) (f : TFeatures) (t : ByteArray) : (∃ c, stR s f t = (none, c)) ∨ ∃ ys c, ys.length ≤ 60 ∧ stR s f t = (some ys, c) := by
  unfold stR
  split
  · rename_i h
    rcases rtV_cases s t with ⟨c, e⟩ | ⟨xs, c, hl, e⟩
    · rw [e]; exact .inl ⟨_, rfl⟩
    · rw [e]
      obtain ⟨_, hv⟩ := rtV_vr (gsK h.1).len e
      rcases shR_cases (s := s) (f := f) ⟨h.1, h.2, hv⟩ with h1 | ⟨ys, h1, _, _, h2⟩
      · exact .inl ⟨_, h1⟩
      · exact .inr ⟨_, _, by rw [plL_len]; exact h1, h2⟩
  · exact .inl ⟨_, rfl⟩
set_option maxHeartbeats 4000000 in
theorem PlaceRun_v (s : TGlyphSet) (f : TFeatures) (xs : List TItem) {v : V} {bs : List Blk} (hres : SlRes (plR s f xs) v bs) : PC Tryz.prog 27 [.d s.D, .d f.D, .d (.lst (xs.map TItem.D))] v bs := by
  refine pc_intro ttOk (by kernel_rfl) Tryz.func27 rfl (by kernel_rfl) (by kernel_rfl) (by kernel_rfl) (fun hw => ?_)
  have hLg : (s.fGlyphs.map TGlyph.D).length = s.fGlyphs.length := List.length_map _
  have hm : (s.fGlyphs.map TGlyph.D).length ≤ 9223372036854775807 := hw.1.2.1.1
  have c1 := ValidGlyphSet_v s
  have c2 := ValidFeatures_v f (s.fGlyphs.length : Nat)
  have c3 := ValidRun_v xs (s.fGlyphs.length : Nat)
  unfold plR at hres
  by_cases h : shOK s f xs
  · rw [if_pos h] at hres
    obtain ⟨rfl, rfl⟩ := hres
    obtain ⟨h1, h2, h3⟩ := h
    have c4 := placeRun_v s (gsK h1) f (vf_us h2).1 xs (vr_wk h3).1 (gl_it (vr_gl h3))
    have hpl := plL_len s.fGlyphs f xs
    rw [h1] at c1
    rw [h2] at c2
    rw [h3] at c3
    rw [hpl]
    rw [← hLg] at c2 c3
    (conv => whnf)
    (repeat' (first | (refine stg_ ?_) | (refine cla_ (c1) ?_) | (refine cla_ (c2) ?_) | (refine cla_ (c3) ?_) | (refine cla_ (c4) ?_) | (refine br_ (fun hbr => ?_) (fun hbr => ?_))))
    all_goals first | (exfalso; simp_all; done) | skip
    (refine ⟨⟨[some 3], ⟨by decide, ?_, trivial, trivial⟩, by decide, ⟨_, rfl, rfl, ⟨_, _, rfl, ⟨by decide, ?_⟩, ⟨_, _, rfl, ⟨rfl, ?_⟩, rfl⟩⟩⟩⟩⟩)
    all_goals rfl
  · rw [if_neg h] at hres
    obtain ⟨rfl, rfl⟩ := hres
    have h' : (gsB s && (vfB f (s.fGlyphs.length : Nat) && vrB xs (s.fGlyphs.length : Nat))) = false := by
      rw [← Bool.not_eq_true]
      intro q
      simp only [Bool.and_eq_true] at q
      exact h ⟨q.1, q.2.1, q.2.2⟩
    clear h
    rw [← hLg] at c2 c3 h'
    generalize gsB s = b1 at *
    generalize vfB f ((s.fGlyphs.map TGlyph.D).length : Nat) = b2 at *
    generalize vrB xs ((s.fGlyphs.map TGlyph.D).length : Nat) = b3 at *
    (conv => whnf)
    (repeat' (first | (refine stg_ ?_) | (refine cla_ (c1) ?_) | (refine cla_ (c2) ?_) | (refine cla_ (c3) ?_) | (refine br_ (fun hbr => ?_) (fun hbr => ?_))))
    all_goals first | (exfalso; simp_all; done) | (refine ⟨⟨[], trivial, by decide, ⟨_, rfl, rfl, ⟨_, _, rfl, rfl, ⟨_, _, rfl, ⟨rfl, ?_⟩, rfl⟩⟩⟩⟩⟩; (conv => whnf))
    all_goals rfl
set_option maxHeartbeats 4000000 in
theorem specPlaceRun_v (s : TGlyphSet) (f : TFeatures) (xs : List TItem) {v : V} {bs : List Blk} (hres : SlRes (plR s f xs) v bs) : PC Tryz.prog 25 [.d s.D, .d f.D, .d (.lst (xs.map TItem.D))] v bs := by
  refine pc_intro ttOk (by kernel_rfl) Tryz.func25 rfl (by kernel_rfl) (by kernel_rfl) (by kernel_rfl) (fun hw => ?_)
  have hLg : (s.fGlyphs.map TGlyph.D).length = s.fGlyphs.length := List.length_map _
  have hm : (s.fGlyphs.map TGlyph.D).length ≤ 9223372036854775807 := hw.1.2.1.1
  have c1 := l17Ok_v s
  have c2 := l25Fits_v f (s.fGlyphs.length : Nat)
  unfold plR at hres
  cases h1 : gsB s with
  | false =>
    rw [if_neg (by rintro ⟨q, _⟩; rw [h1] at q; cases q)] at hres
    obtain ⟨rfl, rfl⟩ := hres
    rw [h1] at c1
    (conv => whnf)
    (repeat' (first | (refine stg_ ?_) | (refine cla_ (c1) ?_) | (refine br_ (fun hbr => ?_) (fun hbr => ?_))))
    all_goals first | (exfalso; simp_all; done) | (refine ⟨⟨[], trivial, by decide, ⟨_, rfl, rfl, ⟨_, _, rfl, rfl, ⟨_, _, rfl, ⟨rfl, ?_⟩, rfl⟩⟩⟩⟩⟩; (conv => whnf))
    all_goals rfl
  | true =>
    rw [h1] at c1
    have h40 := (gsK h1).len
    have c3 := l26Run_v xs (s.fGlyphs.length : Nat) (by omega) (by omega)
    by_cases h : shOK s f xs
    · rw [if_pos h] at hres
      obtain ⟨rfl, rfl⟩ := hres
      obtain ⟨_, h2, h3⟩ := h
      have c4 := l27Place_v s (gsK h1) f (vf_us h2).1 xs (vr_wk h3).1 (gl_it (vr_gl h3))
      have hpl := plL_len s.fGlyphs f xs
      rw [h2] at c2
      rw [h3] at c3
      rw [hpl]
      rw [← hLg] at c2 c3
      (conv => whnf)
      (repeat' (first | (refine stg_ ?_) | (refine cla_ (c1) ?_) | (refine cla_ (c2) ?_) | (refine cla_ (c3) ?_) | (refine cla_ (c4) ?_) | (refine br_ (fun hbr => ?_) (fun hbr => ?_))))
      all_goals first | (exfalso; simp_all; done) | skip
      (refine ⟨⟨[some 3], ⟨by decide, ?_, trivial, trivial⟩, by decide, ⟨_, rfl, rfl, ⟨_, _, rfl, ⟨by decide, ?_⟩, ⟨_, _, rfl, ⟨rfl, ?_⟩, rfl⟩⟩⟩⟩⟩)
      all_goals rfl
    · rw [if_neg h] at hres
      obtain ⟨rfl, rfl⟩ := hres
      have h' : (vfB f (s.fGlyphs.length : Nat) && vrB xs (s.fGlyphs.length : Nat)) = false := by
        rw [← Bool.not_eq_true]
        intro q
        simp only [Bool.and_eq_true] at q
        exact h ⟨h1, q.1, q.2⟩
      clear h
      rw [← hLg] at c2 c3 h'
      generalize vfB f ((s.fGlyphs.map TGlyph.D).length : Nat) = b2 at *
      generalize vrB xs ((s.fGlyphs.map TGlyph.D).length : Nat) = b3 at *
      (conv => whnf)
      (repeat' (first | (refine stg_ ?_) | (refine cla_ (c1) ?_) | (refine cla_ (c2) ?_) | (refine cla_ (c3) ?_) | (refine br_ (fun hbr => ?_) (fun hbr => ?_))))
      all_goals first | (exfalso; simp_all; done) | (refine ⟨⟨[], trivial, by decide, ⟨_, rfl, rfl, ⟨_, _, rfl, rfl, ⟨_, _, rfl, ⟨rfl, ?_⟩, rfl⟩⟩⟩⟩⟩; (conv => whnf))
      all_goals rfl
set_option maxHeartbeats 4000000 in
theorem ShapeRun_v (s : TGlyphSet) (f : TFeatures) (xs : List TItem) {v : V} {bs : List Blk} (hres : SlRes (srR s f xs) v bs) : PC Tryz.prog 37 [.d s.D, .d f.D, .d (.lst (xs.map TItem.D))] v bs := by
  refine pc_intro ttOk (by kernel_rfl) Tryz.func37 rfl (by kernel_rfl) (by kernel_rfl) (by kernel_rfl) (fun hw => ?_)
  have hLg : (s.fGlyphs.map TGlyph.D).length = s.fGlyphs.length := List.length_map _
  have hm : (s.fGlyphs.map TGlyph.D).length ≤ 9223372036854775807 := hw.1.2.1.1
  have c1 := ValidGlyphSet_v s
  have c2 := ValidFeatures_v f (s.fGlyphs.length : Nat)
  have c3 := ValidRun_v xs (s.fGlyphs.length : Nat)
  unfold srR at hres
  by_cases h : shOK s f xs
  · rw [if_pos h] at hres
    have hc := shR_cases h
    obtain ⟨h1, h2, h3⟩ := h
    obtain ⟨w1, w2⟩ := vr_wk h3
    have c4 := joinRun_v f xs (by omega)
    have c5 := fun {v bs} => applyLookups_v f (jrL f xs) (ftB_F (vf_us h2).1).lk (by rw [jrL_len]; exact w1) (jrL_wk w2) (v := v) (bs := bs)
    have hJ : ((jrL f xs).map TItem.D).length = xs.length := by rw [List.length_map, jrL_len]
    rw [h1] at c1
    rw [h2] at c2
    rw [h3] at c3
    rw [← hLg] at c2 c3
    rcases hc with e | ⟨ys, hy1, hy2, ha, e⟩
    · rw [e] at hres
      obtain ⟨rfl, rfl⟩ := hres
      have ha : alF f.fLookups (jrL f xs) = none := by
        unfold shR at e
        cases hq : alF f.fLookups (jrL f xs) with
        | none => rfl
        | some zs => rw [hq] at e; cases e
      have c6 := c5 (v := .tup [.nils, .d (.int .i64 5)]) (bs := []) (by rw [ha]; exact ⟨rfl, rfl⟩)
      (conv => whnf)
      (repeat' (first | (refine stg_ ?_) | (refine cla_ (c1) ?_) | (refine cla_ (c2) ?_) | (refine cla_ (c3) ?_) | (refine cla_ (c4) ?_) | (refine cla_ (c6) ?_) | (refine br_ (fun hbr => ?_) (fun hbr => ?_))))
      all_goals first | (exfalso; simp_all; done) | (refine ⟨⟨[], trivial, by decide, ⟨_, rfl, rfl, ⟨_, _, rfl, rfl, ⟨_, _, rfl, ⟨rfl, ?_⟩, rfl⟩⟩⟩⟩⟩; (conv => whnf))
      all_goals rfl
    · rw [e] at hres
      obtain ⟨rfl, rfl⟩ := hres
      have c6 := c5 (v := .tup [.own 1 0 ys.length, .d (.int .i64 0)]) (bs := [.arr 3 (ys.map TItem.D) true]) (by rw [ha]; exact ⟨rfl, rfl⟩)
      have c7 := placeRun_v s (gsK h1) f (vf_us h2).1 ys hy1 (gl_it hy2)
      have hpl := plL_len s.fGlyphs f ys
      rw [hpl]
      have hY : (ys.map TItem.D).length = ys.length := List.length_map _
      (conv => whnf)
      (repeat' (first | (refine stg_ ?_) | (refine cla_ (c1) ?_) | (refine cla_ (c2) ?_) | (refine cla_ (c3) ?_) | (refine cla_ (c4) ?_) | (refine cla_ (c6) ?_) | (refine cla_ (c7) ?_) | (refine br_ (fun hbr => ?_) (fun hbr => ?_))))
      all_goals first | (exfalso; simp_all; done) | skip
      (refine ⟨⟨[some 5], ⟨by decide, ?_, trivial, trivial⟩, by decide, ⟨_, rfl, rfl, ⟨_, _, rfl, ⟨by decide, ?_⟩, ⟨_, _, rfl, ⟨rfl, ?_⟩, rfl⟩⟩⟩⟩⟩)
      all_goals rfl
  · rw [if_neg h] at hres
    obtain ⟨rfl, rfl⟩ := hres
    have h' : (gsB s && (vfB f (s.fGlyphs.length : Nat) && vrB xs (s.fGlyphs.length : Nat))) = false := by
      rw [← Bool.not_eq_true]
      intro q
      simp only [Bool.and_eq_true] at q
      exact h ⟨q.1, q.2.1, q.2.2⟩
    clear h
    rw [← hLg] at c2 c3 h'
    generalize gsB s = b1 at *
    generalize vfB f ((s.fGlyphs.map TGlyph.D).length : Nat) = b2 at *
    generalize vrB xs ((s.fGlyphs.map TGlyph.D).length : Nat) = b3 at *
    (conv => whnf)
    (repeat' (first | (refine stg_ ?_) | (refine cla_ (c1) ?_) | (refine cla_ (c2) ?_) | (refine cla_ (c3) ?_) | (refine br_ (fun hbr => ?_) (fun hbr => ?_))))
    all_goals first | (exfalso; simp_all; done) | (refine ⟨⟨[], trivial, by decide, ⟨_, rfl, rfl, ⟨_, _, rfl, rfl, ⟨_, _, rfl, ⟨rfl, ?_⟩, rfl⟩⟩⟩⟩⟩; (conv => whnf))
    all_goals rfl
set_option maxHeartbeats 4000000 in
theorem l28Shape_v (s : TGlyphSet) (f : TFeatures) (xs : List TItem) (h : shOK s f xs) {v : V} {bs : List Blk} (hres : SlRes (shR s f xs) v bs) : PC Tryz.prog 87 [.pX s.D, .pX f.D, .d (.lst (xs.map TItem.D))] v bs := by
  refine pc_intro ttOk (by kernel_rfl) Tryz.func87 rfl (by kernel_rfl) (by kernel_rfl) (by kernel_rfl) (fun hw => ?_)
  have hc := shR_cases h
  obtain ⟨h1, h2, h3⟩ := h
  obtain ⟨w1, w2⟩ := vr_wk h3
  have c4 := l28Run_v f xs (by omega)
  have c5 := fun {v bs} => l26All_v f (jrL f xs) (ftB_F (vf_us h2).1).lk (by rw [jrL_len]; exact w1) (jrL_wk w2) (v := v) (bs := bs)
  have hJ : ((jrL f xs).map TItem.D).length = xs.length := by rw [List.length_map, jrL_len]
  rcases hc with e | ⟨ys, hy1, hy2, ha, e⟩
  · rw [e] at hres
    obtain ⟨rfl, rfl⟩ := hres
    have ha : alF f.fLookups (jrL f xs) = none := by
      unfold shR at e
      cases hq : alF f.fLookups (jrL f xs) with
      | none => rfl
      | some zs => rw [hq] at e; cases e
    have c6 := c5 (v := .tup [.nils, .d (.int .i64 5)]) (bs := []) (by rw [ha]; exact ⟨rfl, rfl⟩)
    (conv => whnf)
    (repeat' (first | (refine stg_ ?_) | (refine cla_ (c4) ?_) | (refine cla_ (c6) ?_) | (refine br_ (fun hbr => ?_) (fun hbr => ?_))))
    all_goals first | (exfalso; simp_all; done) | (refine ⟨⟨[], trivial, by decide, ⟨_, rfl, rfl, ⟨_, _, rfl, rfl, ⟨_, _, rfl, ⟨rfl, ?_⟩, rfl⟩⟩⟩⟩⟩; (conv => whnf))
    all_goals rfl
  · rw [e] at hres
    obtain ⟨rfl, rfl⟩ := hres
    have c6 := c5 (v := .tup [.own 1 0 ys.length, .d (.int .i64 0)]) (bs := [.arr 3 (ys.map TItem.D) true]) (by rw [ha]; exact ⟨rfl, rfl⟩)
    have c7 := l27Place_v s (gsK h1) f (vf_us h2).1 ys hy1 (gl_it hy2)
    have hpl := plL_len s.fGlyphs f ys
    rw [hpl]
    have hY : (ys.map TItem.D).length = ys.length := List.length_map _
    (conv => whnf)
    (repeat' (first | (refine stg_ ?_) | (refine cla_ (c4) ?_) | (refine cla_ (c6) ?_) | (refine cla_ (c7) ?_) | (refine br_ (fun hbr => ?_) (fun hbr => ?_))))
    all_goals first | (exfalso; simp_all; done) | skip
    (refine ⟨⟨[some 3], ⟨by decide, ?_, trivial, trivial⟩, by decide, ⟨_, rfl, rfl, ⟨_, _, rfl, ⟨by decide, ?_⟩, ⟨_, _, rfl, ⟨rfl, ?_⟩, rfl⟩⟩⟩⟩⟩)
    all_goals rfl
set_option maxHeartbeats 4000000 in
theorem specShapeRun_v (s : TGlyphSet) (f : TFeatures) (xs : List TItem) {v : V} {bs : List Blk} (hres : SlRes (srR s f xs) v bs) : PC Tryz.prog 36 [.d s.D, .d f.D, .d (.lst (xs.map TItem.D))] v bs := by
  refine pc_intro ttOk (by kernel_rfl) Tryz.func36 rfl (by kernel_rfl) (by kernel_rfl) (by kernel_rfl) (fun hw => ?_)
  have hLg : (s.fGlyphs.map TGlyph.D).length = s.fGlyphs.length := List.length_map _
  have hm : (s.fGlyphs.map TGlyph.D).length ≤ 9223372036854775807 := hw.1.2.1.1
  have c1 := l17Ok_v s
  have c2 := l25Fits_v f (s.fGlyphs.length : Nat)
  unfold srR at hres
  cases h1 : gsB s with
  | false =>
    rw [if_neg (by rintro ⟨q, _⟩; rw [h1] at q; cases q)] at hres
    obtain ⟨rfl, rfl⟩ := hres
    rw [h1] at c1
    (conv => whnf)
    (repeat' (first | (refine stg_ ?_) | (refine cla_ (c1) ?_) | (refine br_ (fun hbr => ?_) (fun hbr => ?_))))
    all_goals first | (exfalso; simp_all; done) | (refine ⟨⟨[], trivial, by decide, ⟨_, rfl, rfl, ⟨_, _, rfl, rfl, ⟨_, _, rfl, ⟨rfl, ?_⟩, rfl⟩⟩⟩⟩⟩; (conv => whnf))
    all_goals rfl
  | true =>
    rw [h1] at c1
    have h40 := (gsK h1).len
    have c3 := l26Run_v xs (s.fGlyphs.length : Nat) (by omega) (by omega)
    by_cases h : shOK s f xs
    · rw [if_pos h] at hres
      have hc := shR_cases h
      have c4 := fun {v bs} => l28Shape_v s f xs h (v := v) (bs := bs)
      obtain ⟨_, h2, h3⟩ := h
      rw [h2] at c2
      rw [h3] at c3
      rw [← hLg] at c2 c3
      rcases hc with e | ⟨ys, hy1, hy2, ha, e⟩
      · rw [e] at hres
        obtain ⟨rfl, rfl⟩ := hres
        have c5 := c4 (v := .tup [.nils, .d (.int .i64 5)]) (bs := []) (by rw [e]; exact ⟨rfl, rfl⟩)
        (conv => whnf)
        (repeat' (first | (refine stg_ ?_) | (refine cla_ (c1) ?_) | (refine cla_ (c2) ?_) | (refine cla_ (c3) ?_) | (refine cla_ (c5) ?_) | (refine br_ (fun hbr => ?_) (fun hbr => ?_))))
        all_goals first | (exfalso; simp_all; done) | (refine ⟨⟨[], trivial, by decide, ⟨_, rfl, rfl, ⟨_, _, rfl, rfl, ⟨_, _, rfl, ⟨rfl, ?_⟩, rfl⟩⟩⟩⟩⟩; (conv => whnf))
        all_goals rfl
      · rw [e] at hres
        obtain ⟨rfl, rfl⟩ := hres
        have c5 := c4 (v := .tup [.own 1 0 (plL s.fGlyphs f ys).length, .d (.int .i64 0)]) (bs := [.arr 6 ((plL s.fGlyphs f ys).map TSlot.D) true]) (by rw [e]; exact ⟨rfl, rfl⟩)
        (conv => whnf)
        (repeat' (first | (refine stg_ ?_) | (refine cla_ (c1) ?_) | (refine cla_ (c2) ?_) | (refine cla_ (c3) ?_) | (refine cla_ (c5) ?_) | (refine br_ (fun hbr => ?_) (fun hbr => ?_))))
        all_goals first | (exfalso; simp_all; done) | skip
        (refine ⟨⟨[some 3], ⟨by decide, ?_, trivial, trivial⟩, by decide, ⟨_, rfl, rfl, ⟨_, _, rfl, ⟨by decide, ?_⟩, ⟨_, _, rfl, ⟨rfl, ?_⟩, rfl⟩⟩⟩⟩⟩)
        all_goals rfl
    · rw [if_neg h] at hres
      obtain ⟨rfl, rfl⟩ := hres
      have h' : (vfB f (s.fGlyphs.length : Nat) && vrB xs (s.fGlyphs.length : Nat)) = false := by
        rw [← Bool.not_eq_true]
        intro q
        simp only [Bool.and_eq_true] at q
        exact h ⟨h1, q.1, q.2⟩
      clear h
      rw [← hLg] at c2 c3 h'
      generalize vfB f ((s.fGlyphs.map TGlyph.D).length : Nat) = b2 at *
      generalize vrB xs ((s.fGlyphs.map TGlyph.D).length : Nat) = b3 at *
      (conv => whnf)
      (repeat' (first | (refine stg_ ?_) | (refine cla_ (c1) ?_) | (refine cla_ (c2) ?_) | (refine cla_ (c3) ?_) | (refine br_ (fun hbr => ?_) (fun hbr => ?_))))
      all_goals first | (exfalso; simp_all; done) | (refine ⟨⟨[], trivial, by decide, ⟨_, rfl, rfl, ⟨_, _, rfl, rfl, ⟨_, _, rfl, ⟨rfl, ?_⟩, rfl⟩⟩⟩⟩⟩; (conv => whnf))
      all_goals rfl
theorem stR_no {s : TGlyphSet} {f : TFeatures} {t : ByteArray} (h : (gsB s && vfB f (s.fGlyphs.length : Nat)) = false) : stR s f t = (none, 1) := by
  unfold stR
  rw [if_neg (by
    rintro ⟨q1, q2⟩
    rw [q1, q2] at h
    cases h)]
set_option maxHeartbeats 4000000 in
theorem ShapeText_v (s : TGlyphSet) (f : TFeatures) (t : ByteArray) {v : V} {bs : List Blk} (hres : SlRes (stR s f t) v bs) : PC Tryz.prog 35 [.d s.D, .d f.D, .d (.str t)] v bs := by
  refine pc_intro ttOk (by kernel_rfl) Tryz.func35 rfl (by kernel_rfl) (by kernel_rfl) (by kernel_rfl) (fun hw => ?_)
  have hLg : (s.fGlyphs.map TGlyph.D).length = s.fGlyphs.length := List.length_map _
  have hm : (s.fGlyphs.map TGlyph.D).length ≤ 9223372036854775807 := hw.1.2.1.1
  have c1 := ValidGlyphSet_v s
  have c2 := ValidFeatures_v f (s.fGlyphs.length : Nat)
  cases hb : (gsB s && vfB f (s.fGlyphs.length : Nat)) with
  | false =>
    rw [stR_no hb] at hres
    obtain ⟨rfl, rfl⟩ := hres
    rw [← hLg] at c2 hb
    generalize gsB s = b1 at *
    generalize vfB f ((s.fGlyphs.map TGlyph.D).length : Nat) = b2 at *
    (conv => whnf)
    (repeat' (first | (refine stg_ ?_) | (refine cla_ (c1) ?_) | (refine cla_ (c2) ?_) | (refine br_ (fun hbr => ?_) (fun hbr => ?_))))
    all_goals first | (exfalso; simp_all; done) | (refine ⟨⟨[], trivial, by decide, ⟨_, rfl, rfl, ⟨_, _, rfl, rfl, ⟨_, _, rfl, ⟨rfl, ?_⟩, rfl⟩⟩⟩⟩⟩; (conv => whnf))
    all_goals rfl
  | true =>
    rw [Bool.and_eq_true] at hb
    obtain ⟨h1, h2⟩ := hb
    unfold stR at hres
    rw [if_pos ⟨h1, h2⟩] at hres
    rw [h1] at c1
    rw [h2] at c2
    rw [← hLg] at c2
    have c3 := fun {v bs} => RunOfText_v s t (v := v) (bs := bs)
    rcases rtV_cases s t with ⟨c, e⟩ | ⟨xs, c, hl, e⟩
    · rw [e] at hres
      obtain ⟨rfl, rfl⟩ := hres
      have c4 := c3 (v := .tup [.nils, .d (.int .i64 c)]) (bs := []) (by rw [e]; exact ⟨rfl, rfl⟩)
      have hc : c ≠ 0 := by
        unfold rtV at e
        rw [h1, if_neg (by simp)] at e
        split at e
        · injection e with _ e; omega
        · split at e
          · cases e
          · injection e with _ e; omega
      (conv => whnf)
      (repeat' (first | (refine stg_ ?_) | (refine cla_ (c1) ?_) | (refine cla_ (c2) ?_) | (refine cla_ (c4) ?_) | (refine br_ (fun hbr => ?_) (fun hbr => ?_))))
      all_goals first | (exfalso; simp_all; done) | (refine ⟨⟨[], trivial, by decide, ⟨_, rfl, rfl, ⟨_, _, rfl, rfl, ⟨_, _, rfl, ⟨rfl, ?_⟩, rfl⟩⟩⟩⟩⟩; (conv => whnf))
      all_goals rfl
    · obtain ⟨rfl, hv⟩ := rtV_vr (gsK h1).len e
      rw [e] at hres
      dsimp only at hres
      have hok : shOK s f xs := ⟨h1, h2, hv⟩
      have c4 := c3 (v := .tup [.own 1 0 xs.length, .d (.int .i64 0)]) (bs := [.arr 3 (xs.map TItem.D) true]) (by rw [e]; exact ⟨rfl, rfl⟩)
      have c5 := fun {v bs} => ShapeRun_v s f xs (v := v) (bs := bs)
      unfold srR at c5
      rw [if_pos hok] at c5
      have hX : (xs.map TItem.D).length = xs.length := List.length_map _
      rcases shR_cases hok with e2 | ⟨ys, hy1, hy2, ha, e2⟩
      · rw [e2] at hres
        obtain ⟨rfl, rfl⟩ := hres
        have c6 := c5 (v := .tup [.nils, .d (.int .i64 5)]) (bs := []) (by rw [e2]; exact ⟨rfl, rfl⟩)
        (conv => whnf)
        (repeat' (first | (refine stg_ ?_) | (refine cla_ (c1) ?_) | (refine cla_ (c2) ?_) | (refine cla_ (c4) ?_) | (refine cla_ (c6) ?_) | (refine br_ (fun hbr => ?_) (fun hbr => ?_))))
        all_goals first | (exfalso; simp_all; done) | (refine ⟨⟨[], trivial, by decide, ⟨_, rfl, rfl, ⟨_, _, rfl, rfl, ⟨_, _, rfl, ⟨rfl, ?_⟩, rfl⟩⟩⟩⟩⟩; (conv => whnf))
        all_goals rfl
      · rw [e2] at hres
        obtain ⟨rfl, rfl⟩ := hres
        have c6 := c5 (v := .tup [.own 1 0 (plL s.fGlyphs f ys).length, .d (.int .i64 0)]) (bs := [.arr 6 ((plL s.fGlyphs f ys).map TSlot.D) true]) (by rw [e2]; exact ⟨rfl, rfl⟩)
        (conv => whnf)
        (repeat' (first | (refine stg_ ?_) | (refine cla_ (c1) ?_) | (refine cla_ (c2) ?_) | (refine cla_ (c4) ?_) | (refine cla_ (c6) ?_) | (refine br_ (fun hbr => ?_) (fun hbr => ?_))))
        all_goals first | (exfalso; simp_all; done) | skip
        (refine ⟨⟨[some 4], ⟨by decide, ?_, trivial, trivial⟩, by decide, ⟨_, rfl, rfl, ⟨_, _, rfl, ⟨by decide, ?_⟩, ⟨_, _, rfl, ⟨rfl, ?_⟩, rfl⟩⟩⟩⟩⟩)
        all_goals rfl
set_option maxHeartbeats 4000000 in
theorem specShapeText_v (s : TGlyphSet) (f : TFeatures) (t : ByteArray) {v : V} {bs : List Blk} (hres : SlRes (stR s f t) v bs) : PC Tryz.prog 34 [.d s.D, .d f.D, .d (.str t)] v bs := by
  refine pc_intro ttOk (by kernel_rfl) Tryz.func34 rfl (by kernel_rfl) (by kernel_rfl) (by kernel_rfl) (fun hw => ?_)
  have hLg : (s.fGlyphs.map TGlyph.D).length = s.fGlyphs.length := List.length_map _
  have hm : (s.fGlyphs.map TGlyph.D).length ≤ 9223372036854775807 := hw.1.2.1.1
  have c1 := l17Ok_v s
  have c2 := l25Fits_v f (s.fGlyphs.length : Nat)
  cases hb : (gsB s && vfB f (s.fGlyphs.length : Nat)) with
  | false =>
    rw [stR_no hb] at hres
    obtain ⟨rfl, rfl⟩ := hres
    rw [← hLg] at c2 hb
    generalize gsB s = b1 at *
    generalize vfB f ((s.fGlyphs.map TGlyph.D).length : Nat) = b2 at *
    (conv => whnf)
    (repeat' (first | (refine stg_ ?_) | (refine cla_ (c1) ?_) | (refine cla_ (c2) ?_) | (refine br_ (fun hbr => ?_) (fun hbr => ?_))))
    all_goals first | (exfalso; simp_all; done) | (refine ⟨⟨[], trivial, by decide, ⟨_, rfl, rfl, ⟨_, _, rfl, rfl, ⟨_, _, rfl, ⟨rfl, ?_⟩, rfl⟩⟩⟩⟩⟩; (conv => whnf))
    all_goals rfl
  | true =>
    rw [Bool.and_eq_true] at hb
    obtain ⟨h1, h2⟩ := hb
    unfold stR at hres
    rw [if_pos ⟨h1, h2⟩] at hres
    rw [h1] at c1
    rw [h2] at c2
    rw [← hLg] at c2
    have c3 := fun {v bs} => l26OfText_v s t h1 (v := v) (bs := bs)
    rcases rtV_cases s t with ⟨c, e⟩ | ⟨xs, c, hl, e⟩
    · rw [e] at hres
      obtain ⟨rfl, rfl⟩ := hres
      have c4 := c3 (v := .tup [.nils, .d (.int .i64 c)]) (bs := []) (by rw [e]; exact ⟨rfl, rfl⟩)
      have hc : c ≠ 0 := by
        unfold rtV at e
        rw [h1, if_neg (by simp)] at e
        split at e
        · injection e with _ e; omega
        · split at e
          · cases e
          · injection e with _ e; omega
      (conv => whnf)
      (repeat' (first | (refine stg_ ?_) | (refine cla_ (c1) ?_) | (refine cla_ (c2) ?_) | (refine cla_ (c4) ?_) | (refine br_ (fun hbr => ?_) (fun hbr => ?_))))
      all_goals first | (exfalso; simp_all; done) | (refine ⟨⟨[], trivial, by decide, ⟨_, rfl, rfl, ⟨_, _, rfl, rfl, ⟨_, _, rfl, ⟨rfl, ?_⟩, rfl⟩⟩⟩⟩⟩; (conv => whnf))
      all_goals rfl
    · obtain ⟨rfl, hv⟩ := rtV_vr (gsK h1).len e
      rw [e] at hres
      dsimp only at hres
      have hok : shOK s f xs := ⟨h1, h2, hv⟩
      have c4 := c3 (v := .tup [.own 1 0 xs.length, .d (.int .i64 0)]) (bs := [.arr 3 (xs.map TItem.D) true]) (by rw [e]; exact ⟨rfl, rfl⟩)
      have c5 := fun {v bs} => l28Shape_v s f xs hok (v := v) (bs := bs)
      have hX : (xs.map TItem.D).length = xs.length := List.length_map _
      rcases shR_cases hok with e2 | ⟨ys, hy1, hy2, ha, e2⟩
      · rw [e2] at hres
        obtain ⟨rfl, rfl⟩ := hres
        have c6 := c5 (v := .tup [.nils, .d (.int .i64 5)]) (bs := []) (by rw [e2]; exact ⟨rfl, rfl⟩)
        (conv => whnf)
        (repeat' (first | (refine stg_ ?_) | (refine cla_ (c1) ?_) | (refine cla_ (c2) ?_) | (refine cla_ (c4) ?_) | (refine cla_ (c6) ?_) | (refine br_ (fun hbr => ?_) (fun hbr => ?_))))
        all_goals first | (exfalso; simp_all; done) | (refine ⟨⟨[], trivial, by decide, ⟨_, rfl, rfl, ⟨_, _, rfl, rfl, ⟨_, _, rfl, ⟨rfl, ?_⟩, rfl⟩⟩⟩⟩⟩; (conv => whnf))
        all_goals rfl
      · rw [e2] at hres
        obtain ⟨rfl, rfl⟩ := hres
        have c6 := c5 (v := .tup [.own 1 0 (plL s.fGlyphs f ys).length, .d (.int .i64 0)]) (bs := [.arr 6 ((plL s.fGlyphs f ys).map TSlot.D) true]) (by rw [e2]; exact ⟨rfl, rfl⟩)
        (conv => whnf)
        (repeat' (first | (refine stg_ ?_) | (refine cla_ (c1) ?_) | (refine cla_ (c2) ?_) | (refine cla_ (c4) ?_) | (refine cla_ (c6) ?_) | (refine br_ (fun hbr => ?_) (fun hbr => ?_))))
        all_goals first | (exfalso; simp_all; done) | skip
        (refine ⟨⟨[some 4], ⟨by decide, ?_, trivial, trivial⟩, by decide, ⟨_, rfl, rfl, ⟨_, _, rfl, ⟨by decide, ?_⟩, ⟨_, _, rfl, ⟨rfl, ?_⟩, rfl⟩⟩⟩⟩⟩)
        all_goals rfl
end Go.Proofs.YtcachhipflibkaaGreat