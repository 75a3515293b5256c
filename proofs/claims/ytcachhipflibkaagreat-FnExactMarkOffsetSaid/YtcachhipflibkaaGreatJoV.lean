/- Joins, kerns and marks of features: both sides, by the machine. -/
import Derived.Test.YtcachhipflibkaaGreatFtX
import Derived.Test.YtcachhipflibkaaGreatFtY
import Derived.Test.YtcachhipflibkaaGreatApP
set_option linter.unusedSimpArgs false
set_option linter.unusedVariables false
namespace Go.Proofs.YtcachhipflibkaaGreat
open Go.RowKit
def jnP (g : Int) (j : TJoin) : Bool := j.fGlyph == g
def jnO (f : TFeatures) (g : Int) : Option TJoin := f.fJoins.find? (jnP g)
def jz : TJoin := ⟨0, 0, 0, 0, 0⟩
def jnD (f : TFeatures) (g : Int) : TJoin := (jnO f g).getD jz
set_option maxHeartbeats 1000000 in
theorem ixJoinp_v (xs : List TJoin) (f : Nat) (y0 : D) (p : TJoin → Bool) (hf : ∀ x : TJoin, PC Tryz.prog f [.d x.D, .pX y0] (.d (.bool (p x))) []) :
    PC Tryz.prog 230 [.d (.lst (xs.map TJoin.D)), .fn (.func f) [.pX y0]] (.d (.int .i64 (fdx p xs 0))) [] := by
  refine pc_intro ttOk (by kernel_rfl) Tryz.func230 rfl (by kernel_rfl) (by kernel_rfl) (by kernel_rfl) (fun hw => ?_)
  have hL : (xs.map TJoin.D).length = xs.length := List.length_map _
  have hm : (xs.map TJoin.D).length ≤ 9223372036854775807 := hw.1.1
  (conv => whnf)
  refine LoopW.go (α := Nat) (fun k => [(0, .d (.lst (xs.map TJoin.D))), (1, .fn (.func f) [.pX y0]), (7, .d (.int .i64 (xs.map TJoin.D).length)), (8, .d (.int .i64 k))]) (fun k => [.gone]) (fun k => k ≤ xs.length ∧ fdx p xs 0 = fdx p (xs.drop k) k) (fun k => xs.length - k) 0 covT_ ?_ (fun k hk => ?_)
  · exact ⟨by omega, rfl⟩
  obtain ⟨hk1, hk2⟩ := hk
  (conv => whnf)
  (refine br_ (fun h2 => ?_) (fun h2 => ?_) <;> (repeat (refine stg_ ?_)))
  · obtain ⟨x, hx⟩ := at_lt' (xs := xs) (k := k) (by omega)
    rw [fdx_at hx] at hk2
    (repeat (refine stg_ ?_))
    (refine cla_ (hf x) ?_)
    (refine br_ (fun h3 => ?_) (fun h3 => ?_) <;> (repeat (refine stg_ ?_)))
    · (refine RetOK.d rfl rfl ?_; conv => whnf)
      rw [hk2, if_pos h3]
    · (repeat (refine stg_ ?_))
      exact NextW.go (k + 1) covT_ ⟨by omega, by rw [hk2, h3]; rfl⟩ (by omega)
  · (refine RetOK.d rfl rfl ?_; conv => whnf)
    rw [hk2, fdx_end (by omega)]

theorem joinOf1_v (x : TJoin) (g : Int) : PC Tryz.prog 231 [.d x.D, .pX (.int .i64 g)] (.d (.bool (jnP g x))) [] := by
  refine pc_intro ttOk (by kernel_rfl) Tryz.func231 rfl (by kernel_rfl) (by kernel_rfl) (by kernel_rfl) (fun hw => ?_)
  (conv => whnf)
  (refine RetOK.d rfl rfl ?_; conv => whnf)
  rfl
theorem joinOf_v (f : TFeatures) (g : Int) : PC Tryz.prog 191 [.d f.D, .d (.int .i64 g)] (.tup [.d (jnD f g).D, .d (.bool (jnO f g).isSome)]) [] := by
  refine pc_intro ttOk (by kernel_rfl) Tryz.func191 rfl (by kernel_rfl) (by kernel_rfl) (by kernel_rfl) (fun hw => ?_)
  have hJ : (f.fJoins.map TJoin.D).length = f.fJoins.length := List.length_map _
  have c1 := ixJoinp_v f.fJoins _ (.int .i64 g) (jnP g) (fun x => joinOf1_v x g)
  rcases fdx_find (jnP g) f.fJoins 0 with ⟨h1, h2⟩ | ⟨i, x, h1, h2, h3⟩
  · rw [jnD, jnO, h2]
    rw [h1] at c1
    (conv => whnf)
    (repeat' (first | (refine stg_ ?_) | (refine cla_ (c1) ?_) | (refine br_ (fun hbr => ?_) (fun hbr => ?_))))
    (refine RetOK.t rfl ?_; (repeat' ((conv => whnf); (first | done | (refine ⟨_, _, rfl, ⟨rfl, ?_⟩, ?_⟩) | fail))); (all_goals (conv => whnf)))
    (all_goals first | rfl | exact ⟨_, rfl, _, _, rfl, rfl, _, _, rfl, rfl, _, _, rfl, rfl, _, _, rfl, rfl, _, _, rfl, rfl, rfl⟩)
  · rw [jnD, jnO, h3]
    rw [h1, Nat.zero_add] at c1
    (conv => whnf)
    (repeat' (first | (refine stg_ ?_) | (refine cla_ (c1) ?_) | (refine br_ (fun hbr => ?_) (fun hbr => ?_))))
    all_goals first | (exfalso; omega) | ((refine RetOK.t rfl ?_; (repeat' ((conv => whnf); (first | done | (refine ⟨_, _, rfl, ⟨rfl, ?_⟩, ?_⟩) | fail))); (all_goals (conv => whnf))); (all_goals first | rfl | exact ⟨_, rfl, _, _, rfl, rfl, _, _, rfl, rfl, _, _, rfl, rfl, _, _, rfl, rfl, _, _, rfl, rfl, rfl⟩))
theorem l28Join_v (f : TFeatures) (g : Int) : PC Tryz.prog 226 [.pX f.D, .d (.int .i64 g)] (.d (.int .i64 (fdx (jnP g) f.fJoins 0))) [] := by
  refine pc_intro ttOk (by kernel_rfl) Tryz.func226 rfl (by kernel_rfl) (by kernel_rfl) (by kernel_rfl) (fun hw => ?_)
  have hJ : (f.fJoins.map TJoin.D).length = f.fJoins.length := List.length_map _
  have hJm : (f.fJoins.map TJoin.D).length ≤ 9223372036854775807 := hw.1.2.2.2.1.1
  (conv => whnf)
  refine LoopW.go (α := Nat) (fun k => [(0, .pX f.D), (1, .d (.int .i64 g)), (5, .d (.int .i64 k))]) (fun k => [.gone]) (fun k => k ≤ f.fJoins.length ∧ fdx (jnP g) f.fJoins 0 = fdx (jnP g) (f.fJoins.drop k) k) (fun k => f.fJoins.length - k) 0 covT_ ?_ (fun k hk => ?_)
  · exact ⟨by omega, rfl⟩
  obtain ⟨hk1, hk2⟩ := hk
  (conv => whnf)
  (repeat (refine stg_ ?_))
  (refine br_ (fun h2 => ?_) (fun h2 => ?_) <;> (repeat (refine stg_ ?_)))
  · obtain ⟨x, hx⟩ := at_lt' (xs := f.fJoins) (k := k) (by omega)
    rw [fdx_at hx] at hk2
    (repeat (refine stg_ ?_))
    (refine br_ (fun h3 => ?_) (fun h3 => ?_) <;> (repeat (refine stg_ ?_)))
    · (repeat (refine stg_ ?_))
      (refine RetOK.d rfl rfl ?_; conv => whnf)
      rw [hk2, if_pos (by simp [jnP, h3])]
    · (repeat (refine stg_ ?_))
      exact NextW.go (k + 1) covT_ ⟨by omega, by rw [hk2, if_neg (by simp [jnP, h3])]⟩ (by omega)
  · (repeat (refine stg_ ?_))
    (refine RetOK.d rfl rfl ?_; conv => whnf)
    rw [hk2, fdx_end (by omega)]
def joO (f : TFeatures) (g : Int) : Option TJoin := if ftB f = true then jnO f g else none
/-! ### kinds -/
theorem jnK_eq (f : TFeatures) (g : Int) : (jnD f g).fKind = match jnO f g with | some j => j.fKind | none => 0 := by
  rw [jnD]; cases jnO f g <;> rfl
theorem l28Kind_v (f : TFeatures) (g : Int) : PC Tryz.prog 223 [.pX f.D, .d (.int .i64 g)] (.d (.int .i64 (jnD f g).fKind)) [] := by
  refine pc_intro ttOk (by kernel_rfl) Tryz.func223 rfl (by kernel_rfl) (by kernel_rfl) (by kernel_rfl) (fun hw => ?_)
  have hJ : (f.fJoins.map TJoin.D).length = f.fJoins.length := List.length_map _
  have c2 := l28Join_v f g
  rw [jnK_eq]
  rcases fdx_find (jnP g) f.fJoins 0 with ⟨h1, h2⟩ | ⟨i, x, h1, h2, h3⟩
  · rw [jnO, h2]
    rw [h1] at c2
    (conv => whnf)
    (repeat' (first | (refine stg_ ?_) | (refine cla_ (c2) ?_) | (refine br_ (fun hbr => ?_) (fun hbr => ?_))))
    (refine RetOK.d rfl rfl ?_; conv => whnf)
  · rw [jnO, h3]
    rw [h1, Nat.zero_add] at c2
    (conv => whnf)
    (repeat' (first | (refine stg_ ?_) | (refine cla_ (c2) ?_) | (refine br_ (fun hbr => ?_) (fun hbr => ?_))))
    all_goals first | (exfalso; omega) | (refine RetOK.d rfl rfl ?_; conv => whnf)
def joK (f : TFeatures) (g : Int) : Int := ((joO f g).getD jz).fKind
theorem joK_eq (f : TFeatures) (g : Int) : joK f g = if ftB f = true then (jnD f g).fKind else 0 := by
  rw [joK, joO, jnD]; split <;> rfl
theorem l28Before_v (n : Int) : PC Tryz.prog 224 [.d (.int .i64 n)] (.d (.bool (n == 1 || n == 2))) [] := by
  refine pc_intro ttOk (by kernel_rfl) Tryz.func224 rfl (by kernel_rfl) (by kernel_rfl) (by kernel_rfl) (fun hw => ?_)
  (conv => whnf)
  (repeat' (first | (refine stg_ ?_) | fail | (refine br_ (fun hbr => ?_) (fun hbr => ?_))))
  all_goals ((refine RetOK.d rfl rfl ?_; conv => whnf); simp_all)
/-! ### forms of glyphs -/
def gfO (o : Option TJoin) (g form : Int) : Int :=
  match o with
  | none => g
  | some j => let out := if form = 1 then j.fInit else if form = 2 then j.fMedi else if form = 3 then j.fFina else -1
    if out < 0 then g else out
theorem formGlyph_v (f : TFeatures) (g form : Int) : PC Tryz.prog 145 [.d f.D, .d (.int .i64 g), .d (.int .i64 form)] (.d (.int .i64 (gfO (jnO f g) g form))) [] := by
  refine pc_intro ttOk (by kernel_rfl) Tryz.func145 rfl (by kernel_rfl) (by kernel_rfl) (by kernel_rfl) (fun hw => ?_)
  have c1 := joinOf_v f g
  rw [jnD] at c1
  cases hO : jnO f g with
  | none =>
    rw [hO] at c1
    (conv => whnf)
    (repeat' (first | (refine stg_ ?_) | (refine cla_ (c1) ?_) | (refine br_ (fun hbr => ?_) (fun hbr => ?_))))
    all_goals first | (exfalso; simp_all; done) | (refine RetOK.d rfl rfl ?_; conv => whnf)
    all_goals rfl
  | some j =>
    rw [hO] at c1
    (conv => whnf)
    (repeat' (first | (refine stg_ ?_) | (refine cla_ (c1) ?_) | (refine br_ (fun hbr => ?_) (fun hbr => ?_))))
    all_goals first | (exfalso; simp_all; done) | (refine RetOK.d rfl rfl ?_; conv => whnf)
    all_goals (simp only [Option.getD_some, Option.isSome_some] at *; simp only [gfO]; congr 1; repeat' split; all_goals omega)
end Go.Proofs.YtcachhipflibkaaGreat
