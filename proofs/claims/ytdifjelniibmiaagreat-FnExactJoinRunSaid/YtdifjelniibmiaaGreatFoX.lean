/- FormsOf, JoinRun: both sides, by the machine. -/
import Derived.Test.YtdifjelniibmiaaGreatFoW
import Derived.Test.YtdifjelniibmiaaGreatJoV
import Derived.Test.YtdifjelniibmiaaGreatCoV
set_option linter.unusedSimpArgs false
set_option linter.unusedVariables false
namespace Go.Proofs.YtdifjelniibmiaaGreat
open Go.RowKit
/-! ### glyphs for forms -/
set_option maxHeartbeats 1000000 in
theorem l28Gl_v (f : TFeatures) (g form : Int) : PC Tryz.prog 99 [.pX f.D, .d (.int .i64 g), .d (.int .i64 form)] (.d (.int .i64 (gfO (jnO f g) g form))) [] := by
  refine pc_intro ttOk (by kernel_rfl) Tryz.func99 rfl (by kernel_rfl) (by kernel_rfl) (by kernel_rfl) (fun hw => ?_)
  have hJ : (f.fJoins.map TJoin.D).length = f.fJoins.length := List.length_map _
  have c2 := l28Join_v f g
  have c3 := l00In_v form 1 3
  rcases fdx_find (jnP g) f.fJoins 0 with ⟨h1, h2⟩ | ⟨i, x, h1, h2, h3⟩
  · rw [jnO, h2]
    rw [h1] at c2
    (conv => whnf)
    (repeat' (first | (refine stg_ ?_) | (refine cla_ (c2) ?_) | (refine cla_ (c3) ?_) | (refine br_ (fun hbr => ?_) (fun hbr => ?_))))
    all_goals first | (exfalso; omega) | (refine RetOK.d rfl rfl ?_; conv => whnf)
    all_goals rfl
  · rw [jnO, h3]
    rw [h1, Nat.zero_add] at c2
    by_cases hf : inB form 1 3 = true
    · rw [hf] at c3
      have hf' : form = 1 ∨ form = 2 ∨ form = 3 := by simp [inB] at hf; omega
      have hx' : (f.fJoins.map TJoin.D)[i]? = some x.D := by rw [List.getElem?_map, h2]; rfl
      rcases hf' with rfl | rfl | rfl
      · have hv : gfO (some x) g 1 = if x.fInit < 0 then g else x.fInit := rfl
        rw [hv]
        have he : [D.int .i64 x.fInit, D.int .i64 x.fMedi, D.int .i64 x.fFina][0]? = some (D.int .i64 x.fInit) := rfl
        (conv => whnf)
        (repeat' (first | (refine stg_ ?_) | (refine cla_ (c2) ?_) | (refine cla_ (c3) ?_) | (refine EoW.at he ?_; (conv => whnf)) | (refine br_ (fun hbr => ?_) (fun hbr => ?_))))
        all_goals first | (exfalso; omega) | (exfalso; simp_all; done) | ((refine RetOK.d rfl rfl ?_; conv => whnf); simp_all; done) | ((refine RetOK.d rfl rfl ?_; conv => whnf); rw [if_neg (by omega)])
      · have hv : gfO (some x) g 2 = if x.fMedi < 0 then g else x.fMedi := rfl
        rw [hv]
        have he : [D.int .i64 x.fInit, D.int .i64 x.fMedi, D.int .i64 x.fFina][1]? = some (D.int .i64 x.fMedi) := rfl
        (conv => whnf)
        (repeat' (first | (refine stg_ ?_) | (refine cla_ (c2) ?_) | (refine cla_ (c3) ?_) | (refine EoW.at he ?_; (conv => whnf)) | (refine br_ (fun hbr => ?_) (fun hbr => ?_))))
        all_goals first | (exfalso; omega) | (exfalso; simp_all; done) | ((refine RetOK.d rfl rfl ?_; conv => whnf); simp_all; done) | ((refine RetOK.d rfl rfl ?_; conv => whnf); rw [if_neg (by omega)])
      · have hv : gfO (some x) g 3 = if x.fFina < 0 then g else x.fFina := rfl
        rw [hv]
        have he : [D.int .i64 x.fInit, D.int .i64 x.fMedi, D.int .i64 x.fFina][2]? = some (D.int .i64 x.fFina) := rfl
        (conv => whnf)
        (repeat' (first | (refine stg_ ?_) | (refine cla_ (c2) ?_) | (refine cla_ (c3) ?_) | (refine EoW.at he ?_; (conv => whnf)) | (refine br_ (fun hbr => ?_) (fun hbr => ?_))))
        all_goals first | (exfalso; omega) | (exfalso; simp_all; done) | ((refine RetOK.d rfl rfl ?_; conv => whnf); simp_all; done) | ((refine RetOK.d rfl rfl ?_; conv => whnf); rw [if_neg (by omega)])
    · have hf0 : inB form 1 3 = false := by simpa using hf
      rw [hf0] at c3
      have hv : gfO (some x) g form = g := by
        simp [inB] at hf
        have n1 : ¬ form = 1 := by omega
        have n2 : ¬ form = 2 := by omega
        have n3 : ¬ form = 3 := by omega
        simp only [gfO]
        rw [if_neg n1, if_neg n2, if_neg n3]
        rfl
      rw [hv]
      (conv => whnf)
      (repeat' (first | (refine stg_ ?_) | (refine cla_ (c2) ?_) | (refine cla_ (c3) ?_) | (refine br_ (fun hbr => ?_) (fun hbr => ?_))))
      all_goals first | (exfalso; omega) | (exfalso; simp_all; done) | (refine RetOK.d rfl rfl ?_; conv => whnf)
/-- both features and run are valid, or code 1 -/
def OkR (f : TFeatures) (xs : List TItem) : Prop := ftB f = true ∧ vrB xs 40 = true
theorem FormsOf_no (f : TFeatures) (xs : List TItem) (h : ¬ OkR f xs) : PC Tryz.prog 12 [.d f.D, .d (.lst (xs.map TItem.D))] (.tup [.nils, .d (.int .i64 1)]) [] := by
  refine pc_intro ttOk (by kernel_rfl) Tryz.func12 rfl (by kernel_rfl) (by kernel_rfl) (by kernel_rfl) (fun hw => ?_)
  have c1 := ValidFeatures_v f 40
  rw [vfB_40] at c1
  have c2 := ValidRun_v xs 40
  rw [OkR] at h
  (conv => whnf)
  (repeat' (first | (refine stg_ ?_) | (refine cla_ (c1) ?_) | (refine cla_ (c2) ?_) | (refine br_ (fun hbr => ?_) (fun hbr => ?_))))
  all_goals first | (exfalso; simp_all; done) | (refine ⟨⟨[], trivial, by decide, ⟨_, rfl, rfl, ⟨_, _, rfl, rfl, ⟨_, _, rfl, ⟨rfl, ?_⟩, rfl⟩⟩⟩⟩⟩; (conv => whnf))
  all_goals rfl
theorem FormsOf_v (f : TFeatures) (xs : List TItem) (h : OkR f xs) : PC Tryz.prog 12 [.d f.D, .d (.lst (xs.map TItem.D))] (.tup [.own 1 0 xs.length, .d (.int .i64 0)]) [.arr 1 ((forms (ksL f xs)).map (D.int .i64)) true] := by
  refine pc_intro ttOk (by kernel_rfl) Tryz.func12 rfl (by kernel_rfl) (by kernel_rfl) (by kernel_rfl) (fun hw => ?_)
  have c1 := ValidFeatures_v f 40
  rw [vfB_40] at c1
  have c2 := ValidRun_v xs 40
  rw [h.1] at c1
  rw [h.2] at c2
  have c3 := formsOf_v f xs (by have := (vr_wk h.2).1; omega)
  (conv => whnf)
  (repeat' (first | (refine stg_ ?_) | (refine cla_ (c1) ?_) | (refine cla_ (c2) ?_) | (refine cla_ (c3) ?_) | (refine br_ (fun hbr => ?_) (fun hbr => ?_))))
  all_goals first | (exfalso; simp_all; done) | skip
  (refine ⟨⟨[some 2], ⟨by decide, ?_, trivial, trivial⟩, by decide, ⟨_, rfl, rfl, ⟨_, _, rfl, ⟨by decide, ?_⟩, ⟨_, _, rfl, ⟨rfl, ?_⟩, rfl⟩⟩⟩⟩⟩)
  all_goals rfl
theorem specFormsOf_no (f : TFeatures) (xs : List TItem) (h : ¬ OkR f xs) : PC Tryz.prog 9 [.d f.D, .d (.lst (xs.map TItem.D))] (.tup [.nils, .d (.int .i64 1)]) [] := by
  refine pc_intro ttOk (by kernel_rfl) Tryz.func9 rfl (by kernel_rfl) (by kernel_rfl) (by kernel_rfl) (fun hw => ?_)
  have c1 := l25Ok_v f
  have c2 := l26Any_v xs
  rw [OkR] at h
  (conv => whnf)
  (repeat' (first | (refine stg_ ?_) | (refine cla_ (c1) ?_) | (refine cla_ (c2) ?_) | (refine br_ (fun hbr => ?_) (fun hbr => ?_))))
  all_goals first | (exfalso; simp_all; done) | (refine ⟨⟨[], trivial, by decide, ⟨_, rfl, rfl, ⟨_, _, rfl, rfl, ⟨_, _, rfl, ⟨rfl, ?_⟩, rfl⟩⟩⟩⟩⟩; (conv => whnf))
  all_goals rfl
theorem specFormsOf_v (f : TFeatures) (xs : List TItem) (h : OkR f xs) : PC Tryz.prog 9 [.d f.D, .d (.lst (xs.map TItem.D))] (.tup [.own 1 0 xs.length, .d (.int .i64 0)]) [.arr 1 ((forms (ksL f xs)).map (D.int .i64)) true] := by
  refine pc_intro ttOk (by kernel_rfl) Tryz.func9 rfl (by kernel_rfl) (by kernel_rfl) (by kernel_rfl) (fun hw => ?_)
  have c1 := l25Ok_v f
  have c2 := l26Any_v xs
  rw [h.1] at c1
  rw [h.2] at c2
  have c3 := l28Forms_v f xs (by have := (vr_wk h.2).1; omega)
  (conv => whnf)
  (repeat' (first | (refine stg_ ?_) | (refine cla_ (c1) ?_) | (refine cla_ (c2) ?_) | (refine cla_ (c3) ?_) | (refine br_ (fun hbr => ?_) (fun hbr => ?_))))
  all_goals first | (exfalso; simp_all; done) | skip
  (refine ⟨⟨[some 2], ⟨by decide, ?_, trivial, trivial⟩, by decide, ⟨_, rfl, rfl, ⟨_, _, rfl, ⟨by decide, ?_⟩, ⟨_, _, rfl, ⟨rfl, ?_⟩, rfl⟩⟩⟩⟩⟩)
  all_goals rfl
/-! ### a run with joining forms -/
def jrI (f : TFeatures) (x : TItem) (form : Int) : TItem := ⟨gfO (jnO f x.fGlyph) x.fGlyph form, x.fFrom, x.fLen⟩
def jrL (f : TFeatures) (xs : List TItem) : List TItem := List.zipWith (jrI f) xs (forms (ksL f xs))
theorem forms_len' (f : TFeatures) (xs : List TItem) : (forms (ksL f xs)).length = xs.length := by rw [forms, formsG_len, ksL_len]
theorem jrL_len (f : TFeatures) (xs : List TItem) : (jrL f xs).length = xs.length := by rw [jrL, List.length_zipWith, forms_len']; omega
theorem jrL_at {f : TFeatures} {xs : List TItem} {k : Nat} {x : TItem} {m : Int} (hx : xs[k]? = some x) (hm : (forms (ksL f xs))[k]? = some m) : (jrL f xs)[k]? = some (jrI f x m) := by
  rw [jrL, List.getElem?_zipWith, hx, hm]
def jrK (f : TFeatures) (xs : List TItem) (k : Nat) : List TItem := (jrL f xs).take k ++ xs.drop k
theorem jrK_0 (f : TFeatures) (xs : List TItem) : jrK f xs 0 = xs := by simp [jrK]
theorem jrK_all (f : TFeatures) (xs : List TItem) : jrK f xs xs.length = jrL f xs := by
  rw [jrK, List.drop_length, List.append_nil, List.take_of_length_le (by rw [jrL_len]; omega)]
theorem jrK_len (f : TFeatures) (xs : List TItem) {k : Nat} (hk : k ≤ xs.length) : (jrK f xs k).length = xs.length := by
  rw [jrK, List.length_append, List.length_take, List.length_drop, jrL_len]; omega
theorem jrK_get {f : TFeatures} {xs : List TItem} {k : Nat} {x : TItem} (hx : xs[k]? = some x) : (jrK f xs k)[k]? = some x := by
  have hk := (List.getElem?_eq_some_iff.1 hx).1
  have hl : ((jrL f xs).take k).length = k := by rw [List.length_take, jrL_len]; omega
  rw [jrK, List.getElem?_append_right (by omega), hl, Nat.sub_self, List.getElem?_drop]; simpa using hx
theorem jrK_set {f : TFeatures} {xs : List TItem} {k : Nat} {x y : TItem} (hx : xs[k]? = some x) (hy : (jrL f xs)[k]? = some y) : (jrK f xs k).set k y = jrK f xs (k + 1) := by
  have hk := (List.getElem?_eq_some_iff.1 hx).1
  have hl : ((jrL f xs).take k).length = k := by rw [List.length_take, jrL_len]; omega
  have := set_mid ((jrL f xs).take k) (xs.drop (k + 1)) x y
  rw [hl] at this
  rw [jrK, jrK, drop_at hx, this, take_snoc_get hy, List.append_assoc]; rfl
set_option maxHeartbeats 4000000 in
theorem joinRun_v (f : TFeatures) (xs : List TItem) (hx : xs.length ≤ 1000) : PC Tryz.prog 53 [.d f.D, .d (.lst (xs.map TItem.D))] (.own 1 0 xs.length) [.arr 3 ((jrL f xs).map TItem.D) true] := by
  refine pc_intro ttOk (by kernel_rfl) Tryz.func53 rfl (by kernel_rfl) (by kernel_rfl) (by kernel_rfl) (fun hw => ?_)
  have hL : (xs.map TItem.D).length = xs.length := List.length_map _
  have c0 := cloneItem_v xs (by omega)
  have c1 := formsOf_v f xs hx
  have hFl := forms_len' f xs
  (conv => whnf)
  (repeat' (first | (refine stg_ ?_) | (refine cla_ (c0) ?_) | (refine cla_ (c1) ?_) | (refine br_ (fun hbr => ?_) (fun hbr => ?_))))
  refine LoopW.go (α := Nat) (fun k => [(1, .d (.lst (xs.map TItem.D))), (2, .pB 1 [] 0), (5, .own 2 0 xs.length), (12, .own 3 0 xs.length), (13, .d (.int .i64 xs.length)), (14, .d (.int .i64 k))]) (fun k => [.gone, .box (.d f.D), .arr 3 ((jrK f xs k).map TItem.D) true, .arr 1 ((forms (ksL f xs)).map (D.int .i64)) true]) (fun k => k ≤ xs.length) (fun k => xs.length - k) 0 (Weak.cov ⟨rfl, rfl, rfl, rfl, rfl, rfl, trivial⟩ ⟨trivial, rfl, by rw [jrK_0], rfl, trivial⟩ rfl) (by omega) (fun k hk => ?_)
  have hJl := jrK_len f xs hk
  have hJm : ((jrK f xs k).map TItem.D).length = xs.length := by rw [List.length_map, hJl]
  have hFm : ((forms (ksL f xs)).map (D.int .i64)).length = xs.length := by rw [List.length_map, hFl]
  by_cases hlt : k < xs.length
  · obtain ⟨x, hkx⟩ := at_lt' (xs := xs) (k := k) hlt
    obtain ⟨m, hm⟩ := at_lt' (xs := forms (ksL f xs)) (k := k) (by omega)
    have hm' : ((forms (ksL f xs)).map (D.int .i64))[k]? = some (.int .i64 m) := by rw [List.getElem?_map, hm]; rfl
    have hg : ((jrK f xs k).map TItem.D)[k]? = some x.D := by rw [List.getElem?_map, jrK_get hkx]; rfl
    have hs : ((jrK f xs k).map TItem.D).set k (jrI f x m).D = (jrK f xs (k + 1)).map TItem.D := by rw [← jrK_set hkx (jrL_at hkx hm), List.map_set]
    have c2 := formGlyph_v f x.fGlyph m
    have hI : (jrI f x m).D = .st [.int .i64 (gfO (jnO f x.fGlyph) x.fGlyph m), .int .i64 x.fFrom, .int .i64 x.fLen] := rfl
    generalize (jrK f xs k).map TItem.D = OUT at *
    generalize gfO (jnO f x.fGlyph) x.fGlyph m = G at *
    (conv => whnf)
    (repeat' (first | (refine stg_ ?_) | (refine cla_ (c2) ?_) | (refine br_ (fun hbr => ?_) (fun hbr => ?_))))
    all_goals first | (exfalso; omega) | skip
    refine NextW.go (k + 1) (Weak.cov ⟨rfl, rfl, rfl, rfl, rfl, rfl, trivial⟩ ⟨trivial, rfl, by (rw [← hs, hI]; rfl), rfl, trivial⟩ rfl) (by omega) (by omega)
  · (conv => whnf)
    (repeat' (first | (refine stg_ ?_) | fail | (refine br_ (fun hbr => ?_) (fun hbr => ?_))))
    all_goals first | (exfalso; omega) | skip
    obtain rfl : k = xs.length := by omega
    rw [jrK_all]
    (refine ⟨⟨[some 2], ⟨by decide, rfl, trivial, trivial⟩, by decide, rfl, ?_⟩⟩; (conv => whnf); exact ⟨by decide, rfl⟩)
set_option maxHeartbeats 4000000 in
theorem l28Run_v (f : TFeatures) (xs : List TItem) (hx : xs.length ≤ 1000) : PC Tryz.prog 52 [.pX f.D, .d (.lst (xs.map TItem.D))] (.own 1 0 xs.length) [.arr 3 ((jrL f xs).map TItem.D) true] := by
  refine pc_intro ttOk (by kernel_rfl) Tryz.func52 rfl (by kernel_rfl) (by kernel_rfl) (by kernel_rfl) (fun hw => ?_)
  have hL : (xs.map TItem.D).length = xs.length := List.length_map _
  have c1 := l28Forms_v f xs hx
  have hFl := forms_len' f xs
  (conv => whnf)
  (repeat' (first | (refine stg_ ?_) | (refine cla_ (c1) ?_) | (refine br_ (fun hbr => ?_) (fun hbr => ?_))))
  refine LoopW.go (α := Nat) (fun k => [(0, .pX f.D), (1, .d (.lst (xs.map TItem.D))), (5, .own 1 0 xs.length), (6, .own 2 0 xs.length), (7, .d (.int .i64 k))]) (fun k => [.gone, .arr 1 ((forms (ksL f xs)).map (D.int .i64)) true, .arr 3 ((jrK f xs k).map TItem.D) true]) (fun k => k ≤ xs.length) (fun k => xs.length - k) 0 (Weak.cov ⟨rfl, rfl, rfl, by (show V.own 2 0 (0 + (xs.map TItem.D).length) = V.own 2 0 xs.length; rw [Nat.zero_add, hL]), rfl, trivial⟩ ⟨trivial, rfl, by (show Blk.arr 3 ([] ++ xs.map TItem.D) true = _; rw [jrK_0]; rfl), trivial⟩ rfl) (by omega) (fun k hk => ?_)
  have hJl := jrK_len f xs hk
  have hJm : ((jrK f xs k).map TItem.D).length = xs.length := by rw [List.length_map, hJl]
  have hFm : ((forms (ksL f xs)).map (D.int .i64)).length = xs.length := by rw [List.length_map, hFl]
  by_cases hlt : k < xs.length
  · obtain ⟨x, hkx⟩ := at_lt' (xs := xs) (k := k) hlt
    obtain ⟨m, hm⟩ := at_lt' (xs := forms (ksL f xs)) (k := k) (by omega)
    have hm' : ((forms (ksL f xs)).map (D.int .i64))[k]? = some (.int .i64 m) := by rw [List.getElem?_map, hm]; rfl
    have hg : ((jrK f xs k).map TItem.D)[k]? = some x.D := by rw [List.getElem?_map, jrK_get hkx]; rfl
    have hs : ((jrK f xs k).map TItem.D).set k (jrI f x m).D = (jrK f xs (k + 1)).map TItem.D := by rw [← jrK_set hkx (jrL_at hkx hm), List.map_set]
    have c2 := l28Gl_v f x.fGlyph m
    have hI : (jrI f x m).D = .st [.int .i64 (gfO (jnO f x.fGlyph) x.fGlyph m), .int .i64 x.fFrom, .int .i64 x.fLen] := rfl
    generalize (jrK f xs k).map TItem.D = OUT at *
    generalize gfO (jnO f x.fGlyph) x.fGlyph m = G at *
    (conv => whnf)
    (repeat' (first | (refine stg_ ?_) | (refine cla_ (c2) ?_) | (refine br_ (fun hbr => ?_) (fun hbr => ?_))))
    all_goals first | (exfalso; omega) | skip
    refine NextW.go (k + 1) (Weak.cov ⟨rfl, rfl, rfl, rfl, rfl, trivial⟩ ⟨trivial, rfl, by (rw [← hs, hI]; rfl), trivial⟩ rfl) (by omega) (by omega)
  · (conv => whnf)
    (repeat' (first | (refine stg_ ?_) | fail | (refine br_ (fun hbr => ?_) (fun hbr => ?_))))
    all_goals first | (exfalso; omega) | skip
    obtain rfl : k = xs.length := by omega
    rw [jrK_all]
    (refine ⟨⟨[some 2], ⟨by decide, rfl, trivial, trivial⟩, by decide, rfl, ?_⟩⟩; (conv => whnf); exact ⟨by decide, rfl⟩)
theorem JoinRun_no (f : TFeatures) (xs : List TItem) (h : ¬ OkR f xs) : PC Tryz.prog 21 [.d f.D, .d (.lst (xs.map TItem.D))] (.tup [.nils, .d (.int .i64 1)]) [] := by
  refine pc_intro ttOk (by kernel_rfl) Tryz.func21 rfl (by kernel_rfl) (by kernel_rfl) (by kernel_rfl) (fun hw => ?_)
  have c1 := ValidFeatures_v f 40
  rw [vfB_40] at c1
  have c2 := ValidRun_v xs 40
  rw [OkR] at h
  (conv => whnf)
  (repeat' (first | (refine stg_ ?_) | (refine cla_ (c1) ?_) | (refine cla_ (c2) ?_) | (refine br_ (fun hbr => ?_) (fun hbr => ?_))))
  all_goals first | (exfalso; simp_all; done) | (refine ⟨⟨[], trivial, by decide, ⟨_, rfl, rfl, ⟨_, _, rfl, rfl, ⟨_, _, rfl, ⟨rfl, ?_⟩, rfl⟩⟩⟩⟩⟩; (conv => whnf))
  all_goals rfl
theorem JoinRun_v (f : TFeatures) (xs : List TItem) (h : OkR f xs) : PC Tryz.prog 21 [.d f.D, .d (.lst (xs.map TItem.D))] (.tup [.own 1 0 xs.length, .d (.int .i64 0)]) [.arr 3 ((jrL f xs).map TItem.D) true] := by
  refine pc_intro ttOk (by kernel_rfl) Tryz.func21 rfl (by kernel_rfl) (by kernel_rfl) (by kernel_rfl) (fun hw => ?_)
  have c1 := ValidFeatures_v f 40
  rw [vfB_40] at c1
  have c2 := ValidRun_v xs 40
  rw [h.1] at c1
  rw [h.2] at c2
  have c3 := joinRun_v f xs (by have := (vr_wk h.2).1; omega)
  (conv => whnf)
  (repeat' (first | (refine stg_ ?_) | (refine cla_ (c1) ?_) | (refine cla_ (c2) ?_) | (refine cla_ (c3) ?_) | (refine br_ (fun hbr => ?_) (fun hbr => ?_))))
  all_goals first | (exfalso; simp_all; done) | skip
  (refine ⟨⟨[some 2], ⟨by decide, ?_, trivial, trivial⟩, by decide, ⟨_, rfl, rfl, ⟨_, _, rfl, ⟨by decide, ?_⟩, ⟨_, _, rfl, ⟨rfl, ?_⟩, rfl⟩⟩⟩⟩⟩)
  all_goals rfl
theorem specJoinRun_no (f : TFeatures) (xs : List TItem) (h : ¬ OkR f xs) : PC Tryz.prog 20 [.d f.D, .d (.lst (xs.map TItem.D))] (.tup [.nils, .d (.int .i64 1)]) [] := by
  refine pc_intro ttOk (by kernel_rfl) Tryz.func20 rfl (by kernel_rfl) (by kernel_rfl) (by kernel_rfl) (fun hw => ?_)
  have c1 := l25Ok_v f
  have c2 := l26Any_v xs
  rw [OkR] at h
  (conv => whnf)
  (repeat' (first | (refine stg_ ?_) | (refine cla_ (c1) ?_) | (refine cla_ (c2) ?_) | (refine br_ (fun hbr => ?_) (fun hbr => ?_))))
  all_goals first | (exfalso; simp_all; done) | (refine ⟨⟨[], trivial, by decide, ⟨_, rfl, rfl, ⟨_, _, rfl, rfl, ⟨_, _, rfl, ⟨rfl, ?_⟩, rfl⟩⟩⟩⟩⟩; (conv => whnf))
  all_goals rfl
theorem specJoinRun_v (f : TFeatures) (xs : List TItem) (h : OkR f xs) : PC Tryz.prog 20 [.d f.D, .d (.lst (xs.map TItem.D))] (.tup [.own 1 0 xs.length, .d (.int .i64 0)]) [.arr 3 ((jrL f xs).map TItem.D) true] := by
  refine pc_intro ttOk (by kernel_rfl) Tryz.func20 rfl (by kernel_rfl) (by kernel_rfl) (by kernel_rfl) (fun hw => ?_)
  have c1 := l25Ok_v f
  have c2 := l26Any_v xs
  rw [h.1] at c1
  rw [h.2] at c2
  have c3 := l28Run_v f xs (by have := (vr_wk h.2).1; omega)
  (conv => whnf)
  (repeat' (first | (refine stg_ ?_) | (refine cla_ (c1) ?_) | (refine cla_ (c2) ?_) | (refine cla_ (c3) ?_) | (refine br_ (fun hbr => ?_) (fun hbr => ?_))))
  all_goals first | (exfalso; simp_all; done) | skip
  (refine ⟨⟨[some 2], ⟨by decide, ?_, trivial, trivial⟩, by decide, ⟨_, rfl, rfl, ⟨_, _, rfl, ⟨by decide, ?_⟩, ⟨_, _, rfl, ⟨rfl, ?_⟩, rfl⟩⟩⟩⟩⟩)
  all_goals rfl
end Go.Proofs.YtdifjelniibmiaaGreat
