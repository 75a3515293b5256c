/- DefaultsOf and NormalsOf, both, by the machine. -/
import Derived.Test.YtnbhanbpaeidbaaAxN
import Derived.Test.YtnbhanbpaeidbaaVMIn
set_option linter.unusedSimpArgs false
set_option linter.unusedVariables false
namespace Go.Proofs.Ytnbhanbpaeidbaa
open Go.RowKit
/-- the defaults of axes -/
def dfL (xs : List TAxis) : List Int := xs.map (·.fDefault)
theorem map_take_succ {α β : Type} (f : α → β) {xs : List α} {k : Nat} {x : α} (hx : xs[k]? = some x) : (xs.take (k + 1)).map f = (xs.take k).map f ++ [f x] := by
  rw [take_snoc_get hx, List.map_append]; rfl
theorem specDefaultsOf_no (xs : List TAxis) (h : axsB xs = false) : PC Try.prog 35 [.d (.lst (xs.map TAxis.D))] (.tup [.nils, .d (.int .i64 1)]) [] := by
  refine pc_intro ttOk (by kernel_rfl) Try.func35 rfl (by kernel_rfl) (by kernel_rfl) (by kernel_rfl) (fun hw => ?_)
  (conv => whnf)
  (refine cl_ (l29Ok_v xs) ?_)
  (refine br_ (fun h1 => ?_) (fun h1 => ?_) <;> (repeat (refine stg_ ?_)))
  · (refine ⟨⟨[], trivial, by decide, ⟨_, rfl, rfl, ⟨_, _, rfl, rfl, ⟨_, _, rfl, ⟨rfl, ?_⟩, rfl⟩⟩⟩⟩⟩; (conv => whnf))
  · rw [h] at h1; cases h1
theorem specDefaultsOf_v (xs : List TAxis) (h : axsB xs = true) : PC Try.prog 35 [.d (.lst (xs.map TAxis.D))] (.tup [.own 1 0 xs.length, .d (.int .i64 0)]) [.arr 1 ((dfL xs).map (D.int .i64)) true] := by
  refine pc_intro ttOk (by kernel_rfl) Try.func35 rfl (by kernel_rfl) (by kernel_rfl) (by kernel_rfl) (fun hw => ?_)
  have hL : (xs.map TAxis.D).length = xs.length := List.length_map _
  have hm : (xs.map TAxis.D).length ≤ 9223372036854775807 := hw.1.1
  have hl : xs.length ≤ 3 := by simp only [axsB, Bool.and_eq_true, decide_eq_true_eq] at h; exact h.1
  (conv => whnf)
  (refine cl_ (l29Ok_v xs) ?_)
  (refine br_ (fun h1 => ?_) (fun h1 => ?_) <;> (repeat (refine stg_ ?_)))
  · rw [h] at h1; cases h1
  · refine LoopW.go (α := Nat) (fun k => [(0, .d (.lst (xs.map TAxis.D))), (4, .own 1 0 ((dfL (xs.take k)).map (D.int .i64)).length), (5, .d (.int .i64 k))]) (fun k => [.gone, .arr 1 ((dfL (xs.take k)).map (D.int .i64)) true]) (fun k => k ≤ xs.length) (fun k => xs.length - k) 0 covT_ (by omega) (fun k hk => ?_)
    have hd : ((dfL (xs.take k)).map (D.int .i64)).length = k := by simp [dfL]; omega
    have hd2 : (dfL (xs.take k)).length = k := by simp [dfL]; omega
    (conv => whnf)
    (refine br_ (fun h2 => ?_) (fun h2 => ?_) <;> (repeat (refine stg_ ?_)))
    · obtain ⟨x, hx⟩ := at_lt' (xs := xs) (k := k) (by omega)
      have hS : (dfL (xs.take (k + 1))).map (D.int .i64) = (dfL (xs.take k)).map (D.int .i64) ++ [.int .i64 x.fDefault] := by rw [dfL, map_take_succ _ hx, List.map_append]; rfl
      (repeat' (first | (refine stg_ ?_) | fail | (refine br_ (fun hbr => ?_) (fun hbr => ?_))))
      refine NextW.go (k + 1) (Weak.cov ⟨rfl, ?_, rfl, trivial⟩ ⟨trivial, ?_, trivial⟩ rfl) (by omega) (by omega)
      · rw [hS]; simp only [List.length_append]; rfl
      · rw [hS, List.take_length]
    · obtain rfl : k = xs.length := by omega
      rw [List.take_length] at *
      (refine ⟨⟨[some 1], ⟨by decide, ?_, trivial, trivial⟩, by decide, ⟨_, rfl, rfl, ⟨_, _, rfl, ⟨by decide, ?_⟩, ⟨_, _, rfl, ⟨rfl, ?_⟩, rfl⟩⟩⟩⟩⟩)
      · rfl
      · rw [hd]; rfl
      · rfl
theorem DefaultsOf_no (xs : List TAxis) (h : axsB xs = false) : PC Try.prog 36 [.d (.lst (xs.map TAxis.D))] (.tup [.nils, .d (.int .i64 1)]) [] := by
  refine pc_intro ttOk (by kernel_rfl) Try.func36 rfl (by kernel_rfl) (by kernel_rfl) (by kernel_rfl) (fun hw => ?_)
  (conv => whnf)
  (refine cl_ (ValidAxes_v xs) ?_)
  (refine br_ (fun h1 => ?_) (fun h1 => ?_) <;> (repeat (refine stg_ ?_)))
  · (refine ⟨⟨[], trivial, by decide, ⟨_, rfl, rfl, ⟨_, _, rfl, rfl, ⟨_, _, rfl, ⟨rfl, ?_⟩, rfl⟩⟩⟩⟩⟩; (conv => whnf))
  · rw [h] at h1; cases h1
theorem DefaultsOf_v (xs : List TAxis) (h : axsB xs = true) : PC Try.prog 36 [.d (.lst (xs.map TAxis.D))] (.tup [.own 1 0 xs.length, .d (.int .i64 0)]) [.arr 1 ((dfL xs).map (D.int .i64)) true] := by
  refine pc_intro ttOk (by kernel_rfl) Try.func36 rfl (by kernel_rfl) (by kernel_rfl) (by kernel_rfl) (fun hw => ?_)
  have hL : (xs.map TAxis.D).length = xs.length := List.length_map _
  have hm : (xs.map TAxis.D).length ≤ 9223372036854775807 := hw.1.1
  have hl : xs.length ≤ 3 := by simp only [axsB, Bool.and_eq_true, decide_eq_true_eq] at h; exact h.1
  (conv => whnf)
  (refine cl_ (ValidAxes_v xs) ?_)
  (refine br_ (fun h1 => ?_) (fun h1 => ?_) <;> (repeat (refine stg_ ?_)))
  · rw [h] at h1; cases h1
  · refine LoopW.go (α := Nat) (fun k => [(4, .own 1 0 ((dfL (xs.take k)).map (D.int .i64)).length), (10, .d (.lst (xs.map TAxis.D))), (11, .d (.int .i64 xs.length)), (12, .d (.int .i64 k))]) (fun k => [.gone, .arr 1 ((dfL (xs.take k)).map (D.int .i64)) true]) (fun k => k ≤ xs.length) (fun k => xs.length - k) 0 (Weak.trans (Weak.adopt (k := 4) rfl 1 true) (Weak.cov ⟨rfl, rfl, by rw [← hL]; rfl, rfl, trivial⟩ ⟨trivial, rfl, trivial⟩ rfl)) (by omega) (fun k hk => ?_)
    have hd : ((dfL (xs.take k)).map (D.int .i64)).length = k := by simp [dfL]; omega
    have hd2 : (dfL (xs.take k)).length = k := by simp [dfL]; omega
    (conv => whnf)
    (refine br_ (fun h2 => ?_) (fun h2 => ?_) <;> (repeat (refine stg_ ?_)))
    · obtain ⟨x, hx⟩ := at_lt' (xs := xs) (k := k) (by omega)
      have hS : (dfL (xs.take (k + 1))).map (D.int .i64) = (dfL (xs.take k)).map (D.int .i64) ++ [.int .i64 x.fDefault] := by rw [dfL, map_take_succ _ hx, List.map_append]; rfl
      (repeat' (first | (refine stg_ ?_) | fail | (refine br_ (fun hbr => ?_) (fun hbr => ?_))))
      refine NextW.go (k + 1) (Weak.cov ⟨?_, rfl, rfl, rfl, trivial⟩ ⟨trivial, ?_, trivial⟩ rfl) (by omega) (by omega)
      · rw [hS]; simp only [List.length_append]; rfl
      · rw [hS, List.take_length]
    · obtain rfl : k = xs.length := by omega
      rw [List.take_length] at *
      (refine ⟨⟨[some 1], ⟨by decide, ?_, trivial, trivial⟩, by decide, ⟨_, rfl, rfl, ⟨_, _, rfl, ⟨by decide, ?_⟩, ⟨_, _, rfl, ⟨rfl, ?_⟩, rfl⟩⟩⟩⟩⟩)
      · rfl
      · rw [hd]; rfl
      · rfl
/-- the normal coordinates of values -/
def noL (xs : List TAxis) (vs : List Int) : List Int := List.zipWith (fun a v => mapN a (plainN a v)) xs vs
theorem noL_succ {xs : List TAxis} {vs : List Int} {k : Nat} {x : TAxis} {v : Int} (hx : xs[k]? = some x) (hv : vs[k]? = some v) : noL (xs.take (k + 1)) (vs.take (k + 1)) = noL (xs.take k) (vs.take k) ++ [mapN x (plainN x v)] := by
  rw [noL, take_snoc_get hx, take_snoc_get hv, List.zipWith_append]
  · rfl
  · have := (List.getElem?_eq_some_iff.1 hx).1
    have := (List.getElem?_eq_some_iff.1 hv).1
    simp; omega
theorem axs_ok {xs : List TAxis} (h : axsB xs = true) {k : Nat} {x : TAxis} (hx : xs[k]? = some x) : axB x = true := by
  have key : ∀ (ys pre : List TAxis), axsGo pre ys = true → ∀ (j : Nat) (y : TAxis), ys[j]? = some y → axB y = true := by
    intro ys
    induction ys with
    | nil => intro pre _ j y hy; simp at hy
    | cons z ys ih =>
      intro pre hp j y hy
      simp only [axsGo, Bool.and_eq_true] at hp
      cases j with
      | zero => simp at hy; subst hy; exact hp.1
      | succ j => exact ih _ hp.2.2 j y (by simpa using hy)
  simp only [axsB, Bool.and_eq_true] at h
  exact key xs [] h.2 k x hx
def noC (xs : List TAxis) (vs : List Int) : Int := if axsB xs = true then 2 else 1
theorem l29Of_v (a : TAxis) (v : Int) (hA : axB a = true) : PC Try.prog 63 [.pX a.D, .d (.int .i64 v)] (.d (.int .i64 (mapN a (plainN a v)))) [] := by
  refine pc_intro ttOk (by kernel_rfl) Try.func63 rfl (by kernel_rfl) (by kernel_rfl) (by kernel_rfl) (fun hw => ?_)
  (conv => whnf)
  (repeat' (first | (refine stg_ ?_) | (refine cl_ (specPlain_v a v hA) ?_) | (refine cl_ (specMapped_v a _ hA (plainN_nrm hA v)) ?_) | (refine br_ (fun hbr => ?_) (fun hbr => ?_))))
  (refine RetOK.d rfl rfl ?_; conv => whnf)
theorem l29All_v (xs : List TAxis) (vs : List Int) (h : axsB xs = true) (hv : vs.length = xs.length) : PC Try.prog 69 [.d (.lst (xs.map TAxis.D)), .d (.lst (vs.map (D.int .i64)))] (.own 1 0 xs.length) [.arr 1 ((noL xs vs).map (D.int .i64)) true] := by
  refine pc_intro ttOk (by kernel_rfl) Try.func69 rfl (by kernel_rfl) (by kernel_rfl) (by kernel_rfl) (fun hw => ?_)
  have hL : (xs.map TAxis.D).length = xs.length := List.length_map _
  have hL2 : (vs.map (D.int .i64)).length = vs.length := List.length_map _
  have hl : xs.length ≤ 3 := by simp only [axsB, Bool.and_eq_true, decide_eq_true_eq] at h; exact h.1
  (conv => whnf)
  (repeat (refine stg_ ?_))
  refine LoopW.go (α := Nat) (fun k => [(0, .d (.lst (xs.map TAxis.D))), (1, .d (.lst (vs.map (D.int .i64)))), (5, .own 1 0 ((noL (xs.take k) (vs.take k)).map (D.int .i64)).length), (6, .d (.int .i64 k))]) (fun k => [.gone, .arr 1 ((noL (xs.take k) (vs.take k)).map (D.int .i64)) true]) (fun k => k ≤ xs.length) (fun k => xs.length - k) 0 covT_ (by omega) (fun k hk => ?_)
  have hd : ((noL (xs.take k) (vs.take k)).map (D.int .i64)).length = k := by simp [noL]; omega
  have hd2 : (noL (xs.take k) (vs.take k)).length = k := by simp [noL]; omega
  (conv => whnf)
  (refine br_ (fun h2 => ?_) (fun h2 => ?_) <;> (repeat (refine stg_ ?_)))
  · obtain ⟨x, hx⟩ := at_lt' (xs := xs) (k := k) (by omega)
    obtain ⟨v, hx2⟩ := at_lt' (xs := vs) (k := k) (by omega)
    have hA := axs_ok h hx
    have he1 : (xs.map TAxis.D)[k]? = some x.D := by rw [List.getElem?_map, hx]; rfl
    have he2 : (vs.map (D.int .i64))[k]? = some (.int .i64 v) := by rw [List.getElem?_map, hx2]; rfl
    have hS : (noL (xs.take (k + 1)) (vs.take (k + 1))).map (D.int .i64) = (noL (xs.take k) (vs.take k)).map (D.int .i64) ++ [.int .i64 (mapN x (plainN x v))] := by rw [noL_succ hx hx2, List.map_append]; rfl
    (repeat' (first | (refine stg_ ?_) | (refine cla_ (l29Of_v x v hA) ?_) | (refine br_ (fun hbr => ?_) (fun hbr => ?_))))
    refine NextW.go (k + 1) (Weak.cov ⟨rfl, rfl, ?_, rfl, trivial⟩ ⟨trivial, ?_, trivial⟩ rfl) (by omega) (by omega)
    · rw [hS]; simp only [List.length_append]; rfl
    · rw [hS, List.take_length]
  · obtain rfl : k = xs.length := by omega
    rw [List.take_length] at *
    have hv2 : vs.take xs.length = vs := by rw [← hv, List.take_length]
    rw [hv2] at *
    have hd3 : ((noL xs vs).map (D.int .i64)).length = xs.length := by simp [noL]; omega
    (conv => whnf)
    refine ⟨⟨[some 1], ⟨by decide, rfl, trivial, trivial⟩, by decide, rfl, ?_⟩⟩
    (conv => whnf)
    refine ⟨by decide, ?_⟩
    rw [hd3]; rfl
theorem specNormalsOf_no (xs : List TAxis) (vs : List Int) (h : axsB xs = false ∨ vs.length ≠ xs.length) : PC Try.prog 41 [.d (.lst (xs.map TAxis.D)), .d (.lst (vs.map (D.int .i64)))] (.tup [.nils, .d (.int .i64 (noC xs vs))]) [] := by
  refine pc_intro ttOk (by kernel_rfl) Try.func41 rfl (by kernel_rfl) (by kernel_rfl) (by kernel_rfl) (fun hw => ?_)
  have hL : (xs.map TAxis.D).length = xs.length := List.length_map _
  have hL2 : (vs.map (D.int .i64)).length = vs.length := List.length_map _
  have hC : noC xs vs = if axsB xs = true then 2 else 1 := rfl
  generalize noC xs vs = C at *
  (conv => whnf)
  (refine cl_ (l29Ok_v xs) ?_)
  (refine br_ (fun h1 => ?_) (fun h1 => ?_) <;> (repeat (refine stg_ ?_)))
  · rw [h1, if_neg (by decide)] at hC
    subst hC
    (refine ⟨⟨[], trivial, by decide, ⟨_, rfl, rfl, ⟨_, _, rfl, rfl, ⟨_, _, rfl, ⟨rfl, ?_⟩, rfl⟩⟩⟩⟩⟩; (conv => whnf))
  · rw [h1, if_pos rfl] at hC
    subst hC
    (refine br_ (fun h2 => ?_) (fun h2 => ?_) <;> (repeat (refine stg_ ?_)))
    · (refine ⟨⟨[], trivial, by decide, ⟨_, rfl, rfl, ⟨_, _, rfl, rfl, ⟨_, _, rfl, ⟨rfl, ?_⟩, rfl⟩⟩⟩⟩⟩; (conv => whnf))
    · exfalso
      rcases h with h | h
      · rw [h] at h1; cases h1
      · omega
theorem specNormalsOf_v (xs : List TAxis) (vs : List Int) (h : axsB xs = true) (hv : vs.length = xs.length) : PC Try.prog 41 [.d (.lst (xs.map TAxis.D)), .d (.lst (vs.map (D.int .i64)))] (.tup [.own 1 0 xs.length, .d (.int .i64 0)]) [.arr 1 ((noL xs vs).map (D.int .i64)) true] := by
  refine pc_intro ttOk (by kernel_rfl) Try.func41 rfl (by kernel_rfl) (by kernel_rfl) (by kernel_rfl) (fun hw => ?_)
  have hL : (xs.map TAxis.D).length = xs.length := List.length_map _
  have hL2 : (vs.map (D.int .i64)).length = vs.length := List.length_map _
  (conv => whnf)
  (refine cl_ (l29Ok_v xs) ?_)
  (refine br_ (fun h1 => ?_) (fun h1 => ?_) <;> (repeat (refine stg_ ?_)))
  · rw [h] at h1; cases h1
  · (refine br_ (fun h2 => ?_) (fun h2 => ?_) <;> (repeat (refine stg_ ?_)))
    · exfalso; omega
    · (refine cl_ (l29All_v xs vs h hv) ?_)
      (refine ⟨⟨[some 1], ⟨by decide, ?_, trivial, trivial⟩, by decide, ⟨_, rfl, rfl, ⟨_, _, rfl, ⟨by decide, ?_⟩, ⟨_, _, rfl, ⟨rfl, ?_⟩, rfl⟩⟩⟩⟩⟩)
      · rfl
      · rfl
      · rfl
theorem NormalsOf_no (xs : List TAxis) (vs : List Int) (h : axsB xs = false ∨ vs.length ≠ xs.length) : PC Try.prog 43 [.d (.lst (xs.map TAxis.D)), .d (.lst (vs.map (D.int .i64)))] (.tup [.nils, .d (.int .i64 (noC xs vs))]) [] := by
  refine pc_intro ttOk (by kernel_rfl) Try.func43 rfl (by kernel_rfl) (by kernel_rfl) (by kernel_rfl) (fun hw => ?_)
  have hL : (xs.map TAxis.D).length = xs.length := List.length_map _
  have hL2 : (vs.map (D.int .i64)).length = vs.length := List.length_map _
  have hC : noC xs vs = if axsB xs = true then 2 else 1 := rfl
  generalize noC xs vs = C at *
  (conv => whnf)
  (refine cl_ (ValidAxes_v xs) ?_)
  (refine br_ (fun h1 => ?_) (fun h1 => ?_) <;> (repeat (refine stg_ ?_)))
  · rw [h1, if_neg (by decide)] at hC
    subst hC
    (refine ⟨⟨[], trivial, by decide, ⟨_, rfl, rfl, ⟨_, _, rfl, rfl, ⟨_, _, rfl, ⟨rfl, ?_⟩, rfl⟩⟩⟩⟩⟩; (conv => whnf))
  · rw [h1, if_pos rfl] at hC
    subst hC
    (refine br_ (fun h2 => ?_) (fun h2 => ?_) <;> (repeat (refine stg_ ?_)))
    · (refine ⟨⟨[], trivial, by decide, ⟨_, rfl, rfl, ⟨_, _, rfl, rfl, ⟨_, _, rfl, ⟨rfl, ?_⟩, rfl⟩⟩⟩⟩⟩; (conv => whnf))
    · exfalso
      rcases h with h | h
      · rw [h] at h1; cases h1
      · omega
theorem NormalsOf_v (xs : List TAxis) (vs : List Int) (h : axsB xs = true) (hv : vs.length = xs.length) : PC Try.prog 43 [.d (.lst (xs.map TAxis.D)), .d (.lst (vs.map (D.int .i64)))] (.tup [.own 1 0 xs.length, .d (.int .i64 0)]) [.arr 1 ((noL xs vs).map (D.int .i64)) true] := by
  refine pc_intro ttOk (by kernel_rfl) Try.func43 rfl (by kernel_rfl) (by kernel_rfl) (by kernel_rfl) (fun hw => ?_)
  have hL : (xs.map TAxis.D).length = xs.length := List.length_map _
  have hL2 : (vs.map (D.int .i64)).length = vs.length := List.length_map _
  have hl : xs.length ≤ 3 := by simp only [axsB, Bool.and_eq_true, decide_eq_true_eq] at h; exact h.1
  (conv => whnf)
  (refine cl_ (ValidAxes_v xs) ?_)
  (refine br_ (fun h1 => ?_) (fun h1 => ?_) <;> (repeat (refine stg_ ?_)))
  · rw [h] at h1; cases h1
  · (refine br_ (fun h2 => ?_) (fun h2 => ?_) <;> (repeat (refine stg_ ?_)))
    · exfalso; omega
    refine LoopW.go (α := Nat) (fun k => [(1, .d (.lst (vs.map (D.int .i64)))), (6, .own 1 0 ((noL (xs.take k) (vs.take k)).map (D.int .i64)).length), (17, .d (.lst (xs.map TAxis.D))), (18, .d (.int .i64 xs.length)), (19, .d (.int .i64 k))]) (fun k => [.gone, .arr 1 ((noL (xs.take k) (vs.take k)).map (D.int .i64)) true]) (fun k => k ≤ xs.length) (fun k => xs.length - k) 0 (Weak.trans (Weak.adopt (k := 6) rfl 1 true) (Weak.cov ⟨rfl, rfl, rfl, by rw [← hL]; rfl, rfl, trivial⟩ ⟨trivial, rfl, trivial⟩ rfl)) (by omega) (fun k hk => ?_)
    have hd : ((noL (xs.take k) (vs.take k)).map (D.int .i64)).length = k := by simp [noL]; omega
    have hd2 : (noL (xs.take k) (vs.take k)).length = k := by simp [noL]; omega
    (conv => whnf)
    (refine br_ (fun h3 => ?_) (fun h3 => ?_) <;> (repeat (refine stg_ ?_)))
    · obtain ⟨x, hx⟩ := at_lt' (xs := xs) (k := k) (by omega)
      obtain ⟨v, hx2⟩ := at_lt' (xs := vs) (k := k) (by omega)
      have hA := axs_ok h hx
      have he1 : (xs.map TAxis.D)[k]? = some x.D := by rw [List.getElem?_map, hx]; rfl
      have he2 : (vs.map (D.int .i64))[k]? = some (.int .i64 v) := by rw [List.getElem?_map, hx2]; rfl
      have hS : (noL (xs.take (k + 1)) (vs.take (k + 1))).map (D.int .i64) = (noL (xs.take k) (vs.take k)).map (D.int .i64) ++ [.int .i64 (mapN x (plainN x v))] := by rw [noL_succ hx hx2, List.map_append]; rfl
      (repeat' (first | (refine stg_ ?_) | (refine cla_ (plain_v x v hA) ?_) | (refine cla_ (mapNormal_v x _ hA (plainN_nrm hA v)) ?_) | (refine br_ (fun hbr => ?_) (fun hbr => ?_))))
      refine NextW.go (k + 1) (Weak.cov ⟨rfl, ?_, rfl, rfl, rfl, trivial⟩ ⟨trivial, ?_, trivial⟩ rfl) (by omega) (by omega)
      · rw [hS]; simp only [List.length_append]; rfl
      · rw [hS, List.take_length]
    · obtain rfl : k = xs.length := by omega
      rw [List.take_length] at *
      have hv2 : vs.take xs.length = vs := by rw [← hv, List.take_length]
      rw [hv2] at *
      have hd3 : ((noL xs vs).map (D.int .i64)).length = xs.length := by simp [noL]; omega
      (refine ⟨⟨[some 1], ⟨by decide, ?_, trivial, trivial⟩, by decide, ⟨_, rfl, rfl, ⟨_, _, rfl, ⟨by decide, ?_⟩, ⟨_, _, rfl, ⟨rfl, ?_⟩, rfl⟩⟩⟩⟩⟩)
      · rfl
      · rw [hd3]; rfl
      · rfl
end Go.Proofs.Ytnbhanbpaeidbaa
