/- Joins, kerns and marks of features: both sides, by the machine. -/
import Derived.Test.YtbnopcnlbcgdlaaGreatFtX
import Derived.Test.YtbnopcnlbcgdlaaGreatFtY
set_option linter.unusedSimpArgs false
set_option linter.unusedVariables false
namespace Go.Proofs.YtbnopcnlbcgdlaaGreat
open Go.RowKit
theorem fdx_find {α : Type} (p : α → Bool) : ∀ (xs : List α) (k : Nat), (fdx p xs k = -1 ∧ xs.find? p = none) ∨ ∃ (i : Nat) (x : α), fdx p xs k = ((k + i : Nat) : Int) ∧ xs[i]? = some x ∧ xs.find? p = some x
  | [], k => .inl ⟨rfl, rfl⟩
  | x :: t, k => by
    rw [fdx, List.find?_cons]
    by_cases h : p x = true
    · rw [if_pos h, h]
      exact .inr ⟨0, x, by simp, rfl, rfl⟩
    · rw [if_neg h]
      have h' : p x = false := by simpa using h
      rw [h']
      rcases fdx_find p t (k + 1) with ⟨h1, h2⟩ | ⟨i, y, h1, h2, h3⟩
      · exact .inl ⟨h1, h2⟩
      · exact .inr ⟨i + 1, y, by rw [h1]; congr 1; omega, by simpa using h2, h3⟩
def jnP (g : Int) (j : TJoin) : Bool := j.fGlyph == g
def jnO (f : TFeatures) (g : Int) : Option TJoin := f.fJoins.find? (jnP g)
def jz : TJoin := ⟨0, 0, 0, 0, 0⟩
def jnD (f : TFeatures) (g : Int) : TJoin := (jnO f g).getD jz
set_option maxHeartbeats 1000000 in
theorem ixJoinp_v (xs : List TJoin) (f : Nat) (y0 : D) (p : TJoin → Bool) (hf : ∀ x : TJoin, PC Tryz.prog f [.d x.D, .pX y0] (.d (.bool (p x))) []) :
    PC Tryz.prog 70 [.d (.lst (xs.map TJoin.D)), .fn (.func f) [.pX y0]] (.d (.int .i64 (fdx p xs 0))) [] := by
  refine pc_intro ttOk (by kernel_rfl) Tryz.func70 rfl (by kernel_rfl) (by kernel_rfl) (by kernel_rfl) (fun hw => ?_)
  have hL : (xs.map TJoin.D).length = xs.length := List.length_map _
  have hm : (xs.map TJoin.D).length ≤ 9223372036854775807 := hw.1.1
  (conv => whnf)
  refine LoopW.go (α := Nat) (fun k => [(0, .d (.lst (xs.map TJoin.D))), (1, .fn (.func f) [.pX y0]), (7, .d (.int .i64 (xs.map TJoin.D).length)), (8, .d (.int .i64 k))]) (fun k => [.gone]) (fun k => k ≤ xs.length ∧ fdx p xs 0 = fdx p (xs.drop k) k) (fun k => xs.length - k) 0 covT_ ?_ (fun k hk => ?_)
  · exact ⟨by omega, rfl⟩
  obtain ⟨hk1, hk2⟩ := hk
  (conv => whnf)
  (refine br_ (fun h2 => ?_) (fun h2 => ?_) <;> (repeat (refine stg_ ?_)))
  · obtain ⟨x, hx⟩ := at_lt' (xs := xs) (k := k) (by omega)
    rw [fdx_at hx] at hk2
    (repeat (refine stg_ ?_))
    (refine cla_ (hf x) ?_)
    (refine br_ (fun h3 => ?_) (fun h3 => ?_) <;> (repeat (refine stg_ ?_)))
    · (refine RetOK.d rfl rfl ?_; conv => whnf)
      rw [hk2, if_pos h3]
    · (repeat (refine stg_ ?_))
      exact NextW.go (k + 1) covT_ ⟨by omega, by rw [hk2, h3]; rfl⟩ (by omega)
  · (refine RetOK.d rfl rfl ?_; conv => whnf)
    rw [hk2, fdx_end (by omega)]

theorem joinOf1_v (x : TJoin) (g : Int) : PC Tryz.prog 71 [.d x.D, .pX (.int .i64 g)] (.d (.bool (jnP g x))) [] := by
  refine pc_intro ttOk (by kernel_rfl) Tryz.func71 rfl (by kernel_rfl) (by kernel_rfl) (by kernel_rfl) (fun hw => ?_)
  (conv => whnf)
  (refine RetOK.d rfl rfl ?_; conv => whnf)
  rfl
theorem joinOf_v (f : TFeatures) (g : Int) : PC Tryz.prog 36 [.d f.D, .d (.int .i64 g)] (.tup [.d (jnD f g).D, .d (.bool (jnO f g).isSome)]) [] := by
  refine pc_intro ttOk (by kernel_rfl) Tryz.func36 rfl (by kernel_rfl) (by kernel_rfl) (by kernel_rfl) (fun hw => ?_)
  have hJ : (f.fJoins.map TJoin.D).length = f.fJoins.length := List.length_map _
  have c1 := ixJoinp_v f.fJoins _ (.int .i64 g) (jnP g) (fun x => joinOf1_v x g)
  rcases fdx_find (jnP g) f.fJoins 0 with ⟨h1, h2⟩ | ⟨i, x, h1, h2, h3⟩
  · rw [jnD, jnO, h2]
    rw [h1] at c1
    (conv => whnf)
    (repeat' (first | (refine stg_ ?_) | (refine cla_ (c1) ?_) | (refine br_ (fun hbr => ?_) (fun hbr => ?_))))
    (refine RetOK.t rfl ?_; (repeat' ((conv => whnf); (first | done | (refine ⟨_, _, rfl, ⟨rfl, ?_⟩, ?_⟩) | fail))); (all_goals (conv => whnf)))
    (all_goals first | rfl | exact ⟨_, rfl, _, _, rfl, rfl, _, _, rfl, rfl, _, _, rfl, rfl, _, _, rfl, rfl, _, _, rfl, rfl, rfl⟩)
  · rw [jnD, jnO, h3]
    rw [h1, Nat.zero_add] at c1
    (conv => whnf)
    (repeat' (first | (refine stg_ ?_) | (refine cla_ (c1) ?_) | (refine br_ (fun hbr => ?_) (fun hbr => ?_))))
    all_goals first | (exfalso; omega) | ((refine RetOK.t rfl ?_; (repeat' ((conv => whnf); (first | done | (refine ⟨_, _, rfl, ⟨rfl, ?_⟩, ?_⟩) | fail))); (all_goals (conv => whnf))); (all_goals first | rfl | exact ⟨_, rfl, _, _, rfl, rfl, _, _, rfl, rfl, _, _, rfl, rfl, _, _, rfl, rfl, _, _, rfl, rfl, rfl⟩))
theorem l28Join_v (f : TFeatures) (g : Int) : PC Tryz.prog 30 [.pX f.D, .d (.int .i64 g)] (.d (.int .i64 (fdx (jnP g) f.fJoins 0))) [] := by
  refine pc_intro ttOk (by kernel_rfl) Tryz.func30 rfl (by kernel_rfl) (by kernel_rfl) (by kernel_rfl) (fun hw => ?_)
  have hJ : (f.fJoins.map TJoin.D).length = f.fJoins.length := List.length_map _
  have hJm : (f.fJoins.map TJoin.D).length ≤ 9223372036854775807 := hw.1.2.2.2.1.1
  (conv => whnf)
  refine LoopW.go (α := Nat) (fun k => [(0, .pX f.D), (1, .d (.int .i64 g)), (5, .d (.int .i64 k))]) (fun k => [.gone]) (fun k => k ≤ f.fJoins.length ∧ fdx (jnP g) f.fJoins 0 = fdx (jnP g) (f.fJoins.drop k) k) (fun k => f.fJoins.length - k) 0 covT_ ?_ (fun k hk => ?_)
  · exact ⟨by omega, rfl⟩
  obtain ⟨hk1, hk2⟩ := hk
  (conv => whnf)
  (repeat (refine stg_ ?_))
  (refine br_ (fun h2 => ?_) (fun h2 => ?_) <;> (repeat (refine stg_ ?_)))
  · obtain ⟨x, hx⟩ := at_lt' (xs := f.fJoins) (k := k) (by omega)
    rw [fdx_at hx] at hk2
    (repeat (refine stg_ ?_))
    (refine br_ (fun h3 => ?_) (fun h3 => ?_) <;> (repeat (refine stg_ ?_)))
    · (repeat (refine stg_ ?_))
      (refine RetOK.d rfl rfl ?_; conv => whnf)
      rw [hk2, if_pos (by simp [jnP, h3])]
    · (repeat (refine stg_ ?_))
      exact NextW.go (k + 1) covT_ ⟨by omega, by rw [hk2, if_neg (by simp [jnP, h3])]⟩ (by omega)
  · (repeat (refine stg_ ?_))
    (refine RetOK.d rfl rfl ?_; conv => whnf)
    rw [hk2, fdx_end (by omega)]
def joO (f : TFeatures) (g : Int) : Option TJoin := if ftB f = true then jnO f g else none
theorem JoinOf_v (f : TFeatures) (g : Int) : PC Tryz.prog 12 [.d f.D, .d (.int .i64 g)] (.tup [.d ((joO f g).getD jz).D, .d (.bool (joO f g).isSome)]) [] := by
  refine pc_intro ttOk (by kernel_rfl) Tryz.func12 rfl (by kernel_rfl) (by kernel_rfl) (by kernel_rfl) (fun hw => ?_)
  have c1 := ValidFeatures_v f 40
  rw [vfB_40] at c1
  have c2 := joinOf_v f g
  rw [joO]
  cases hB : ftB f
  · rw [hB] at c1
    (conv => whnf)
    (repeat' (first | (refine stg_ ?_) | (refine cla_ (c1) ?_) | (refine br_ (fun hbr => ?_) (fun hbr => ?_))))
    all_goals first | (exfalso; simp_all; done) | ((refine RetOK.t rfl ?_; (repeat' ((conv => whnf); (first | done | (refine ⟨_, _, rfl, ⟨rfl, ?_⟩, ?_⟩) | fail))); (all_goals (conv => whnf))); (all_goals first | rfl | exact ⟨_, rfl, _, _, rfl, rfl, _, _, rfl, rfl, _, _, rfl, rfl, _, _, rfl, rfl, _, _, rfl, rfl, rfl⟩))
  · rw [hB] at c1
    rw [if_pos rfl]
    (conv => whnf)
    (repeat' (first | (refine stg_ ?_) | (refine cla_ (c1) ?_) | (refine cla_ (c2) ?_) | (refine br_ (fun hbr => ?_) (fun hbr => ?_))))
    all_goals first | (exfalso; simp_all; done) | ((refine RetOK.t rfl ?_; (repeat' ((conv => whnf); (first | done | (refine ⟨_, _, rfl, ⟨rfl, ?_⟩, ?_⟩) | fail))); (all_goals (conv => whnf))); (all_goals first | rfl | exact ⟨_, rfl, _, _, rfl, rfl, _, _, rfl, rfl, _, _, rfl, rfl, _, _, rfl, rfl, _, _, rfl, rfl, rfl⟩))
theorem specJoinOf_v (f : TFeatures) (g : Int) : PC Tryz.prog 10 [.d f.D, .d (.int .i64 g)] (.tup [.d ((joO f g).getD jz).D, .d (.bool (joO f g).isSome)]) [] := by
  refine pc_intro ttOk (by kernel_rfl) Tryz.func10 rfl (by kernel_rfl) (by kernel_rfl) (by kernel_rfl) (fun hw => ?_)
  have hJ : (f.fJoins.map TJoin.D).length = f.fJoins.length := List.length_map _
  have c1 := l25Ok_v f
  have c2 := l28Join_v f g
  rw [joO]
  cases hB : ftB f
  · rw [hB] at c1
    (conv => whnf)
    (repeat' (first | (refine stg_ ?_) | (refine cla_ (c1) ?_) | (refine br_ (fun hbr => ?_) (fun hbr => ?_))))
    all_goals first | (exfalso; simp_all; done) | ((refine RetOK.t rfl ?_; (repeat' ((conv => whnf); (first | done | (refine ⟨_, _, rfl, ⟨rfl, ?_⟩, ?_⟩) | fail))); (all_goals (conv => whnf))); (all_goals first | rfl | exact ⟨_, rfl, _, _, rfl, rfl, _, _, rfl, rfl, _, _, rfl, rfl, _, _, rfl, rfl, _, _, rfl, rfl, rfl⟩))
  · rw [hB] at c1
    rw [if_pos rfl]
    rcases fdx_find (jnP g) f.fJoins 0 with ⟨h1, h2⟩ | ⟨i, x, h1, h2, h3⟩
    · rw [jnO, h2]
      rw [h1] at c2
      (conv => whnf)
      (repeat' (first | (refine stg_ ?_) | (refine cla_ (c1) ?_) | (refine cla_ (c2) ?_) | (refine br_ (fun hbr => ?_) (fun hbr => ?_))))
      all_goals first | (exfalso; simp_all; done) | ((refine RetOK.t rfl ?_; (repeat' ((conv => whnf); (first | done | (refine ⟨_, _, rfl, ⟨rfl, ?_⟩, ?_⟩) | fail))); (all_goals (conv => whnf))); (all_goals first | rfl | exact ⟨_, rfl, _, _, rfl, rfl, _, _, rfl, rfl, _, _, rfl, rfl, _, _, rfl, rfl, _, _, rfl, rfl, rfl⟩))
    · rw [jnO, h3]
      rw [h1, Nat.zero_add] at c2
      (conv => whnf)
      (repeat' (first | (refine stg_ ?_) | (refine cla_ (c1) ?_) | (refine cla_ (c2) ?_) | (refine br_ (fun hbr => ?_) (fun hbr => ?_))))
      all_goals first | (exfalso; omega) | (exfalso; simp_all; done) | ((refine RetOK.t rfl ?_; (repeat' ((conv => whnf); (first | done | (refine ⟨_, _, rfl, ⟨rfl, ?_⟩, ?_⟩) | fail))); (all_goals (conv => whnf))); (all_goals first | rfl | exact ⟨_, rfl, _, _, rfl, rfl, _, _, rfl, rfl, _, _, rfl, rfl, _, _, rfl, rfl, _, _, rfl, rfl, rfl⟩))
/-! ### kinds -/
theorem jnK_eq (f : TFeatures) (g : Int) : (jnD f g).fKind = match jnO f g with | some j => j.fKind | none => 0 := by
  rw [jnD]; cases jnO f g <;> rfl
theorem l28Kind_v (f : TFeatures) (g : Int) : PC Tryz.prog 41 [.pX f.D, .d (.int .i64 g)] (.d (.int .i64 (jnD f g).fKind)) [] := by
  refine pc_intro ttOk (by kernel_rfl) Tryz.func41 rfl (by kernel_rfl) (by kernel_rfl) (by kernel_rfl) (fun hw => ?_)
  have hJ : (f.fJoins.map TJoin.D).length = f.fJoins.length := List.length_map _
  have c2 := l28Join_v f g
  rw [jnK_eq]
  rcases fdx_find (jnP g) f.fJoins 0 with ⟨h1, h2⟩ | ⟨i, x, h1, h2, h3⟩
  · rw [jnO, h2]
    rw [h1] at c2
    (conv => whnf)
    (repeat' (first | (refine stg_ ?_) | (refine cla_ (c2) ?_) | (refine br_ (fun hbr => ?_) (fun hbr => ?_))))
    (refine RetOK.d rfl rfl ?_; conv => whnf)
  · rw [jnO, h3]
    rw [h1, Nat.zero_add] at c2
    (conv => whnf)
    (repeat' (first | (refine stg_ ?_) | (refine cla_ (c2) ?_) | (refine br_ (fun hbr => ?_) (fun hbr => ?_))))
    all_goals first | (exfalso; omega) | (refine RetOK.d rfl rfl ?_; conv => whnf)
def joK (f : TFeatures) (g : Int) : Int := ((joO f g).getD jz).fKind
theorem joK_eq (f : TFeatures) (g : Int) : joK f g = if ftB f = true then (jnD f g).fKind else 0 := by
  rw [joK, joO, jnD]; split <;> rfl
theorem joinsAfter_v (j : TJoin) : PC Tryz.prog 42 [.d j.D] (.d (.bool (j.fKind == 1))) [] := by
  refine pc_intro ttOk (by kernel_rfl) Tryz.func42 rfl (by kernel_rfl) (by kernel_rfl) (by kernel_rfl) (fun hw => ?_)
  (conv => whnf)
  (repeat' (first | (refine stg_ ?_) | fail | (refine br_ (fun hbr => ?_) (fun hbr => ?_))))
  (refine RetOK.d rfl rfl ?_; conv => whnf)
theorem JoinsAfter_v (f : TFeatures) (g : Int) : PC Tryz.prog 16 [.d f.D, .d (.int .i64 g)] (.d (.bool (joK f g == 1))) [] := by
  refine pc_intro ttOk (by kernel_rfl) Tryz.func16 rfl (by kernel_rfl) (by kernel_rfl) (by kernel_rfl) (fun hw => ?_)
  have c1 := JoinOf_v f g
  have c2 := joinsAfter_v ((joO f g).getD jz)
  (conv => whnf)
  (repeat' (first | (refine stg_ ?_) | (refine cla_ (c1) ?_) | (refine cla_ (c2) ?_) | (refine br_ (fun hbr => ?_) (fun hbr => ?_))))
  (refine RetOK.d rfl rfl ?_; conv => whnf)
  rfl
theorem specJoinsAfter_v (f : TFeatures) (g : Int) : PC Tryz.prog 15 [.d f.D, .d (.int .i64 g)] (.d (.bool (joK f g == 1))) [] := by
  refine pc_intro ttOk (by kernel_rfl) Tryz.func15 rfl (by kernel_rfl) (by kernel_rfl) (by kernel_rfl) (fun hw => ?_)
  have c1 := l25Ok_v f
  have c2 := l28Kind_v f g
  rw [joK_eq]
  cases hB : ftB f
  · rw [hB] at c1
    (conv => whnf)
    (repeat' (first | (refine stg_ ?_) | (refine cla_ (c1) ?_) | (refine br_ (fun hbr => ?_) (fun hbr => ?_))))
    all_goals first | (exfalso; simp_all; done) | (refine RetOK.d rfl rfl ?_; conv => whnf)
    all_goals rfl
  · rw [hB] at c1
    rw [if_pos rfl]
    (conv => whnf)
    (repeat' (first | (refine stg_ ?_) | (refine cla_ (c1) ?_) | (refine cla_ (c2) ?_) | (refine br_ (fun hbr => ?_) (fun hbr => ?_))))
    all_goals first | (exfalso; simp_all; done) | (refine RetOK.d rfl rfl ?_; conv => whnf)
theorem joinsBefore_v (j : TJoin) : PC Tryz.prog 44 [.d j.D] (.d (.bool (j.fKind == 1 || j.fKind == 2))) [] := by
  refine pc_intro ttOk (by kernel_rfl) Tryz.func44 rfl (by kernel_rfl) (by kernel_rfl) (by kernel_rfl) (fun hw => ?_)
  (conv => whnf)
  (repeat' (first | (refine stg_ ?_) | fail | (refine br_ (fun hbr => ?_) (fun hbr => ?_))))
  all_goals ((refine RetOK.d rfl rfl ?_; conv => whnf); simp_all)
theorem JoinsBefore_v (f : TFeatures) (g : Int) : PC Tryz.prog 18 [.d f.D, .d (.int .i64 g)] (.d (.bool (joK f g == 1 || joK f g == 2))) [] := by
  refine pc_intro ttOk (by kernel_rfl) Tryz.func18 rfl (by kernel_rfl) (by kernel_rfl) (by kernel_rfl) (fun hw => ?_)
  have c1 := JoinOf_v f g
  have c2 := joinsBefore_v ((joO f g).getD jz)
  (conv => whnf)
  (repeat' (first | (refine stg_ ?_) | (refine cla_ (c1) ?_) | (refine cla_ (c2) ?_) | (refine br_ (fun hbr => ?_) (fun hbr => ?_))))
  (refine RetOK.d rfl rfl ?_; conv => whnf)
  rfl
theorem l28Before_v (n : Int) : PC Tryz.prog 43 [.d (.int .i64 n)] (.d (.bool (n == 1 || n == 2))) [] := by
  refine pc_intro ttOk (by kernel_rfl) Tryz.func43 rfl (by kernel_rfl) (by kernel_rfl) (by kernel_rfl) (fun hw => ?_)
  (conv => whnf)
  (repeat' (first | (refine stg_ ?_) | fail | (refine br_ (fun hbr => ?_) (fun hbr => ?_))))
  all_goals ((refine RetOK.d rfl rfl ?_; conv => whnf); simp_all)
theorem specJoinsBefore_v (f : TFeatures) (g : Int) : PC Tryz.prog 17 [.d f.D, .d (.int .i64 g)] (.d (.bool (joK f g == 1 || joK f g == 2))) [] := by
  refine pc_intro ttOk (by kernel_rfl) Tryz.func17 rfl (by kernel_rfl) (by kernel_rfl) (by kernel_rfl) (fun hw => ?_)
  have c1 := l25Ok_v f
  have c2 := l28Kind_v f g
  rw [joK_eq]
  cases hB : ftB f
  · rw [hB] at c1
    (conv => whnf)
    (repeat' (first | (refine stg_ ?_) | (refine cla_ (c1) ?_) | (refine br_ (fun hbr => ?_) (fun hbr => ?_))))
    all_goals first | (exfalso; simp_all; done) | (refine RetOK.d rfl rfl ?_; conv => whnf)
    all_goals rfl
  · rw [hB] at c1
    rw [if_pos rfl]
    (conv => whnf)
    (repeat' (first | (refine stg_ ?_) | (refine cla_ (c1) ?_) | (refine cla_ (c2) ?_) | (refine cl_ (l28Before_v _) ?_) | (refine br_ (fun hbr => ?_) (fun hbr => ?_))))
    all_goals first | (exfalso; simp_all; done) | (refine RetOK.d rfl rfl ?_; conv => whnf)
/-! ### forms of glyphs -/
def gfO (o : Option TJoin) (g form : Int) : Int :=
  match o with
  | none => g
  | some j => let out := if form = 1 then j.fInit else if form = 2 then j.fMedi else if form = 3 then j.fFina else -1
    if out < 0 then g else out
theorem formGlyph_v (f : TFeatures) (g form : Int) : PC Tryz.prog 51 [.d f.D, .d (.int .i64 g), .d (.int .i64 form)] (.d (.int .i64 (gfO (jnO f g) g form))) [] := by
  refine pc_intro ttOk (by kernel_rfl) Tryz.func51 rfl (by kernel_rfl) (by kernel_rfl) (by kernel_rfl) (fun hw => ?_)
  have c1 := joinOf_v f g
  rw [jnD] at c1
  cases hO : jnO f g with
  | none =>
    rw [hO] at c1
    (conv => whnf)
    (repeat' (first | (refine stg_ ?_) | (refine cla_ (c1) ?_) | (refine br_ (fun hbr => ?_) (fun hbr => ?_))))
    all_goals first | (exfalso; simp_all; done) | (refine RetOK.d rfl rfl ?_; conv => whnf)
    all_goals rfl
  | some j =>
    rw [hO] at c1
    (conv => whnf)
    (repeat' (first | (refine stg_ ?_) | (refine cla_ (c1) ?_) | (refine br_ (fun hbr => ?_) (fun hbr => ?_))))
    all_goals first | (exfalso; simp_all; done) | (refine RetOK.d rfl rfl ?_; conv => whnf)
    all_goals (simp only [Option.getD_some, Option.isSome_some] at *; simp only [gfO]; congr 1; repeat' split; all_goals omega)
end Go.Proofs.YtbnopcnlbcgdlaaGreat
