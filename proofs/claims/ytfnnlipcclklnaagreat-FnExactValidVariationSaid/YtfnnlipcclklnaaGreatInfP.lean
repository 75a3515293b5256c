/- Inferred moves: plain law. Leans on no program. -/
import Derived.Test.YtfnnlipcclklnaaGreatWfP
set_option linter.unusedSimpArgs false
set_option linter.unusedVariables false
namespace Go.Proofs.YtfnnlipcclklnaaGreat
open Go.RowKit
/-- strictly rising -/
def srt (xs : List Int) : Prop := ∀ (i j : Nat) (x y : Int), i < j → xs[i]? = some x → xs[j]? = some y → x < y
theorem ri_srt : ∀ {o : Option Int} {xs : List Int}, riG o xs = true → srt xs
  | _, [], _ => fun i j x y _ h _ => by simp at h
  | o, z :: t, h => by
    simp only [riG, Bool.and_eq_true] at h
    intro i j x y hij hi hj
    cases j with
    | zero => omega
    | succ j =>
      cases i with
      | zero =>
        simp at hi hj
        subst hi
        exact riG_lt h.2 y (List.mem_of_getElem? hj)
      | succ i => exact ri_srt h.2 i j x y (by omega) (by simpa using hi) (by simpa using hj)
theorem srt_take {xs : List Int} (h : srt xs) (n : Nat) : srt (xs.take n) := fun i j x y hij hi hj => by
  rw [List.getElem?_take] at hi hj
  split at hi
  · split at hj
    · exact h i j x y hij hi hj
    · cases hj
  · cases hi
theorem srt_drop {xs : List Int} (h : srt xs) (n : Nat) : srt (xs.drop n) := fun i j x y hij hi hj => by
  rw [List.getElem?_drop] at hi hj
  exact h _ _ x y (by omega) hi hj
theorem srt_inj {xs : List Int} (h : srt xs) {i j : Nat} {x : Int} (hi : xs[i]? = some x) (hj : xs[j]? = some x) : i = j := by
  rcases Nat.lt_trichotomy i j with h1 | h1 | h1
  · have := h i j x x h1 hi hj; omega
  · exact h1
  · have := h j i x x h1 hj hi; omega
/-- how many at the front are less -/
def cl (xs : List Int) (b : Int) : Nat := (xs.takeWhile (fun x => decide (x < b))).length
theorem cl_le (xs : List Int) (b : Int) : cl xs b ≤ xs.length := by
  unfold cl
  exact (List.takeWhile_sublist _).length_le
theorem cl_lt : ∀ {xs : List Int} {b : Int} {j : Nat} {x : Int}, j < cl xs b → xs[j]? = some x → x < b
  | [], b, j, x, h, _ => by simp [cl] at h
  | y :: t, b, j, x, h, hx => by
    unfold cl at h
    rw [List.takeWhile_cons] at h
    split at h
    · rename_i hy
      cases j with
      | zero => simp at hx; subst hx; simpa using hy
      | succ j => exact cl_lt (xs := t) (by unfold cl; simpa using h) (by simpa using hx)
    · simp at h
theorem cl_at : ∀ {xs : List Int} {b : Int} {x : Int}, xs[cl xs b]? = some x → b ≤ x
  | [], b, x, h => by simp [cl] at h
  | y :: t, b, x, h => by
    unfold cl at h
    rw [List.takeWhile_cons] at h
    split at h
    · exact cl_at (xs := t) (by unfold cl; simpa using h)
    · rename_i hy
      simp at h hy
      subst h
      exact hy
theorem cl_ge {xs : List Int} (hs : srt xs) {b : Int} {j : Nat} {x : Int} (h : cl xs b ≤ j) (hx : xs[j]? = some x) : b ≤ x := by
  have hj := (List.getElem?_eq_some_iff.1 hx).1
  obtain ⟨y, hy⟩ := at_lt (xs := xs) (k := cl xs b) (by omega)
  have h1 := cl_at hy
  rcases Nat.lt_or_ge (cl xs b) j with h2 | h2
  · have := hs _ _ y x h2 hy hx; omega
  · obtain rfl : j = cl xs b := by omega
    rw [hx] at hy; cases hy; exact h1
theorem cl_mono {xs : List Int} (hs : srt xs) {a b : Int} (h : a ≤ b) : cl xs a ≤ cl xs b := by
  rcases Nat.lt_or_ge (cl xs b) (cl xs a) with h1 | h1
  · have := cl_le xs a
    obtain ⟨y, hy⟩ := at_lt (xs := xs) (k := cl xs b) (by omega)
    have h2 := cl_lt h1 hy
    have h3 := cl_at hy
    omega
  · exact h1
/-- is it there -/
def fd (xs : List Int) (b : Int) : Bool := xs[cl xs b]? == some b
def bt0 (x a b c d : Int) : Int := if a = b then (if c = d then c else 0) else if x ≤ a then c else if b ≤ x then d else c + divR ((x - a) * (d - c)) (b - a)
/-- the move of a coordinate between two others -/
def bt (x a b c d : Int) : Int := if b < a then bt0 x b a d c else bt0 x a b c d
def atK (ks : List TKnot) (n : Nat) : TPt := ((ks[n]?).map (·.fAt)).getD pt0
def atB (bs : List TPt) (n : Nat) : TPt := (bs[n]?).getD pt0
def atF (fs : List Int) (n : Nat) : Int := (fs[n]?).getD 0
/-- the move of knot i of a loop whose first knot has number b; fs: the fixed numbers of the loop, bs: their moves -/
def mv1 (ks : List TKnot) (b : Nat) (fs : List Int) (bs : List TPt) (i : Nat) : TPt :=
  if fs.length = 0 then pt0 else if fd fs (b + i : Nat) = true then atB bs (cl fs (b + i : Nat)) else
  ⟨bt (atK ks i).fX (atK ks (atF fs ((cl fs (b + i : Nat) + fs.length - 1) % fs.length) - b).toNat).fX (atK ks (atF fs (cl fs (b + i : Nat) % fs.length) - b).toNat).fX (atB bs ((cl fs (b + i : Nat) + fs.length - 1) % fs.length)).fX (atB bs (cl fs (b + i : Nat) % fs.length)).fX,
   bt (atK ks i).fY (atK ks (atF fs ((cl fs (b + i : Nat) + fs.length - 1) % fs.length) - b).toNat).fY (atK ks (atF fs (cl fs (b + i : Nat) % fs.length) - b).toNat).fY (atB bs ((cl fs (b + i : Nat) + fs.length - 1) % fs.length)).fY (atB bs (cl fs (b + i : Nat) % fs.length)).fY⟩
def slF {α : Type} (ks : List Int) (xs : List α) (b n : Nat) : List α := (xs.drop (cl ks b)).take (cl ks (b + n : Nat) - cl ks b)
def rsL (ks : List TKnot) (b : Nat) (fs : List Int) (bs : List TPt) (k : Nat) : List TPt := (List.range k).map (mv1 ks b fs bs)
theorem rsL_succ (ks : List TKnot) (b : Nat) (fs : List Int) (bs : List TPt) (k : Nat) : rsL ks b fs bs (k + 1) = rsL ks b fs bs k ++ [mv1 ks b fs bs k] := by simp [rsL, List.range_succ]
theorem rsL_len (ks : List TKnot) (b : Nat) (fs : List Int) (bs : List TPt) (k : Nat) : (rsL ks b fs bs k).length = k := by simp [rsL]
def inL (ns : List Int) (ms : List TPt) : Nat → List TLoop → List TPt
  | _, [] => []
  | b, l :: t => rsL l.fKnots b (slF ns ns b l.fKnots.length) (slF ns ms b l.fKnots.length) l.fKnots.length ++ inL ns ms (b + l.fKnots.length) t
def cnK : List TLoop → Nat
  | [] => 0
  | l :: t => l.fKnots.length + cnK t
theorem cnK_snoc : ∀ (ls : List TLoop) (l : TLoop), cnK (ls ++ [l]) = cnK ls + l.fKnots.length
  | [], l => by simp [cnK]
  | x :: t, l => by simp only [List.cons_append, cnK, cnK_snoc t l]; omega
theorem inL_snoc (ns : List Int) (ms : List TPt) : ∀ (b : Nat) (ls : List TLoop) (l : TLoop), inL ns ms b (ls ++ [l]) = inL ns ms b ls ++ rsL l.fKnots (b + cnK ls) (slF ns ns (b + cnK ls) l.fKnots.length) (slF ns ms (b + cnK ls) l.fKnots.length) l.fKnots.length
  | b, [], l => by simp [inL, cnK]
  | b, x :: t, l => by
    simp only [List.cons_append, inL, inL_snoc ns ms _ t l, cnK, List.append_assoc]
    rw [show b + x.fKnots.length + cnK t = b + (x.fKnots.length + cnK t) by omega]
theorem inL_len (ns : List Int) (ms : List TPt) : ∀ (b : Nat) (ls : List TLoop), (inL ns ms b ls).length = cnK ls
  | b, [] => rfl
  | b, l :: t => by simp only [inL, cnK, List.length_append, rsL_len, inL_len ns ms _ t]
theorem cnK_le : ∀ {ls : List TLoop}, (∀ l ∈ ls, loopB l = true) → cnK ls ≤ 60 * ls.length
  | [], _ => by simp [cnK]
  | l :: t, h => by
    have h1 := (loop_in (h l (by simp))).2.1
    have h2 := cnK_le (ls := t) (fun x hx => h x (by simp [hx]))
    simp only [cnK, List.length_cons]; omega
theorem cnK_take : ∀ (ls : List TLoop) (k : Nat), cnK (ls.take k) ≤ cnK ls
  | [], k => by simp [cnK]
  | l :: t, 0 => by simp [cnK]
  | l :: t, k + 1 => by
    have := cnK_take t k
    simp only [List.take_succ_cons, cnK]; omega
theorem slF_srt {ns : List Int} (h : srt ns) (b n : Nat) : srt (slF ns ns b n) := srt_take (srt_drop h _) _
theorem slF_len {α : Type} {ns : List Int} {xs : List α} (h : ns.length = xs.length) (b n : Nat) (hm : cl ns b ≤ cl ns (b + n : Nat)) : (slF ns xs b n).length = cl ns (b + n : Nat) - cl ns b := by
  have := cl_le ns (b + n : Nat)
  simp only [slF, List.length_take, List.length_drop]; omega
/-- the fixed numbers are those of the loop -/
theorem slF_in {ns : List Int} (h : srt ns) {b n j : Nat} {x : Int} (hx : (slF ns ns b n)[j]? = some x) : (b : Int) ≤ x ∧ x < ((b + n : Nat) : Int) := by
  rw [slF, List.getElem?_take] at hx
  split at hx
  · rename_i hj
    rw [List.getElem?_drop] at hx
    exact ⟨cl_ge h (by omega) hx, cl_lt (by omega) hx⟩
  · cases hx
end Go.Proofs.YtfnnlipcclklnaaGreat
