/- Inferred moves: the reference's way. Leans on no program. -/
import Derived.Test.YtdjdkkacbkfmeaaInfP
set_option linter.unusedSimpArgs false
set_option linter.unusedVariables false
namespace Go.Proofs.Ytdjdkkacbkfmeaa
open Go.RowKit
theorem cl_idx {F : List Int} (hs : srt F) {j : Nat} {x : Int} (h : F[j]? = some x) : cl F x = j := by
  rcases Nat.lt_trichotomy (cl F x) j with h1 | h1 | h1
  · have hj := (List.getElem?_eq_some_iff.1 h).1
    obtain ⟨y, hy⟩ := at_lt (xs := F) (k := cl F x) (by omega)
    have h2 := cl_at hy
    have h3 := hs _ _ y x h1 hy h
    omega
  · exact h1
  · have := cl_lt h1 h; omega
theorem mem_fd {F : List Int} (hs : srt F) (x : Int) : fd F x = true ↔ x ∈ F := by
  constructor
  · intro h
    exact List.mem_of_getElem? (by simpa [fd] using h)
  · intro h
    obtain ⟨j, hj⟩ := List.getElem?_of_mem h
    rw [fd, cl_idx hs hj, hj]; simp
/-- the value at offset i when the first j moves are set -/
def fxV (b : Nat) (F : List Int) (B : List TPt) (j i : Nat) : TPt := if ((b + i : Nat) : Int) ∈ F.take j then atB B (cl F ((b + i : Nat) : Int)) else pt0
def fxL (n b : Nat) (F : List Int) (B : List TPt) (j : Nat) : List TPt := (List.range n).map (fxV b F B j)
/-- the values when the first k of the loop are inferred -/
def myV (K : List TKnot) (b : Nat) (F : List Int) (B : List TPt) (k i : Nat) : TPt := if i < k then mv1 K b F B i else fxV b F B F.length i
def myL (n : Nat) (K : List TKnot) (b : Nat) (F : List Int) (B : List TPt) (k : Nat) : List TPt := (List.range n).map (myV K b F B k)
theorem fxL_len (n b : Nat) (F : List Int) (B : List TPt) (j : Nat) : (fxL n b F B j).length = n := by simp [fxL]
theorem myL_len (n : Nat) (K : List TKnot) (b : Nat) (F : List Int) (B : List TPt) (j : Nat) : (myL n K b F B j).length = n := by simp [myL]
theorem fxL_zero (n b : Nat) (F : List Int) (B : List TPt) : fxL n b F B 0 = List.replicate n pt0 := by
  apply List.ext_getElem
  · simp [fxL]
  · intro i h1 h2
    simp [fxL, fxV]
theorem fxL_set {n b : Nat} {F : List Int} {B : List TPt} (hs : srt F) {j : Nat} {x : Int} {p : TPt} (hx : F[j]? = some x) (hp : B[j]? = some p) (h1 : (b : Int) ≤ x) : (fxL n b F B j).set (x - (b : Int)).toNat p = fxL n b F B (j + 1) := by
  apply List.ext_getElem
  · simp [fxL]
  · intro i h2 h3
    have hi : i < n := by simpa [fxL] using h3
    rw [List.getElem_set]
    simp only [fxL, List.getElem_map, List.getElem_range]
    have ht : F.take (j + 1) = F.take j ++ [x] := take_snoc_get hx
    split
    · rename_i e
      have hxe : x = ((b + i : Nat) : Int) := by omega
      rw [fxV, if_pos (by rw [ht]; simp [hxe]), ← hxe, cl_idx hs hx, atB, hp]; rfl
    · rename_i e
      have hxe : ¬ ((b + i : Nat) : Int) = x := by omega
      rw [fxV, fxV, ht]
      congr 1
      rw [eq_iff_iff, List.mem_append, List.mem_singleton]
      exact ⟨fun h => .inl h, fun h => h.elim id (fun h => absurd h hxe)⟩
theorem myL_zero (n : Nat) (K : List TKnot) (b : Nat) (F : List Int) (B : List TPt) : myL n K b F B 0 = fxL n b F B F.length := by
  simp [myL, fxL, myV]
theorem myL_end (K : List TKnot) (b : Nat) (F : List Int) (B : List TPt) (n : Nat) : myL n K b F B n = rsL K b F B n := by
  apply List.ext_getElem
  · simp [myL, rsL]
  · intro i h1 h2
    have hi : i < n := by simpa [rsL] using h2
    simp [myL, rsL, myV, hi]
theorem rs_none {K : List TKnot} {b : Nat} {F : List Int} {B : List TPt} (h : F.length = 0) (n : Nat) : rsL K b F B n = List.replicate n pt0 := by
  apply List.ext_getElem
  · simp [rsL]
  · intro i h1 h2
    simp [rsL, mv1, h]
theorem mv1_fix {K : List TKnot} {b : Nat} {F : List Int} {B : List TPt} (hs : srt F) {i : Nat} (h : ((b + i : Nat) : Int) ∈ F) : mv1 K b F B i = atB B (cl F ((b + i : Nat) : Int)) := by
  have h0 : ¬ F.length = 0 := fun e => by rw [List.eq_nil_of_length_eq_zero e] at h; cases h
  rw [mv1, if_neg h0, if_pos ((mem_fd hs _).2 h)]
theorem fxV_fix {b : Nat} {F : List Int} {B : List TPt} {i : Nat} (h : ((b + i : Nat) : Int) ∈ F) : fxV b F B F.length i = atB B (cl F ((b + i : Nat) : Int)) := by
  rw [fxV, if_pos (by rw [List.take_length]; exact h)]
theorem myL_skip {n : Nat} {K : List TKnot} {b : Nat} {F : List Int} {B : List TPt} (hs : srt F) {k : Nat} (h : ((b + k : Nat) : Int) ∈ F) : myL n K b F B (k + 1) = myL n K b F B k := by
  apply List.ext_getElem
  · simp [myL]
  · intro i h1 h2
    simp only [myL, List.getElem_map, List.getElem_range, myV]
    rcases Nat.lt_trichotomy i k with h3 | h3 | h3
    · rw [if_pos (by omega), if_pos h3]
    · subst h3
      rw [if_pos (by omega), if_neg (by omega), mv1_fix hs h, fxV_fix h]
    · rw [if_neg (by omega), if_neg (by omega)]
theorem myL_set {n : Nat} {K : List TKnot} {b : Nat} {F : List Int} {B : List TPt} {k : Nat} : (myL n K b F B k).set k (mv1 K b F B k) = myL n K b F B (k + 1) := by
  apply List.ext_getElem
  · simp [myL]
  · intro i h1 h2
    rw [List.getElem_set]
    simp only [myL, List.getElem_map, List.getElem_range, myV]
    split
    · rename_i e; subst e; rw [if_pos (by omega)]
    · rename_i e
      rcases Nat.lt_or_ge i k with h3 | h3
      · rw [if_pos h3, if_pos (by omega)]
      · rw [if_neg (by omega), if_neg (by omega)]
/-- at a fixed place its own move stands -/
theorem myL_at {n : Nat} {K : List TKnot} {b : Nat} {F : List Int} {B : List TPt} (hs : srt F) {k j : Nat} {x : Int} {p : TPt} (hx : F[j]? = some x) (hp : B[j]? = some p) (h1 : (b : Int) ≤ x) (h2 : x < ((b + n : Nat) : Int)) : (myL n K b F B k)[(x - (b : Int)).toNat]? = some p := by
  have hi : (x - (b : Int)).toNat < n := by omega
  have hm : ((b + (x - (b : Int)).toNat : Nat) : Int) ∈ F := by
    have : ((b + (x - (b : Int)).toNat : Nat) : Int) = x := by omega
    rw [this]; exact List.mem_of_getElem? hx
  have he : ((b + (x - (b : Int)).toNat : Nat) : Int) = x := by omega
  rw [myL, List.getElem?_map, List.getElem?_range hi, Option.map_some, myV]
  have hv : atB B (cl F ((b + (x - (b : Int)).toNat : Nat) : Int)) = p := by rw [he, cl_idx hs hx, atB, hp]; rfl
  split
  · rw [mv1_fix hs hm, hv]
  · rw [fxV_fix hm, hv]
/-- the loop's part of the numbers, one by one -/
theorem slF_at {α : Type} {ns : List Int} {xs : List α} {b n i : Nat} {x : α} (h1 : cl ns b ≤ i) (h2 : i < cl ns (b + n : Nat)) (hx : xs[i]? = some x) : (slF ns xs b n)[i - cl ns b]? = some x := by
  rw [slF, List.getElem?_take, if_pos (by omega), List.getElem?_drop, show cl ns b + (i - cl ns b) = i by omega]
  exact hx
theorem in_iff {ns : List Int} (hs : srt ns) {b n i : Nat} {x : Int} (hx : ns[i]? = some x) : inB x (b : Int) ((b : Int) + (n : Int) - 1) = decide (cl ns b ≤ i ∧ i < cl ns (b + n : Nat)) := by
  rw [inB, Bool.eq_iff_iff]
  simp only [Bool.and_eq_true, decide_eq_true_eq]
  constructor
  · rintro ⟨h1, h2⟩
    constructor
    · apply Classical.byContradiction
      intro h
      have := cl_lt (b := (b : Int)) (by omega) hx
      omega
    · apply Classical.byContradiction
      intro h
      have := cl_ge (b := ((b + n : Nat) : Int)) hs (by omega) hx
      omega
  · rintro ⟨h1, h2⟩
    have a1 := cl_ge (b := (b : Int)) hs h1 hx
    have a2 := cl_lt (b := ((b + n : Nat) : Int)) h2 hx
    omega
/-- the next fixed one, seen from behind: i is the last index not seen yet, plus one -/
def afI (c m i : Nat) : Nat := if max i c < m then max i c else 0
/-- the fixed one before, seen from the front: i indices are seen -/
def beI (c m i : Nat) : Nat := if min i c = 0 then m - 1 else min i c - 1
theorem afI_end {c m : Nat} (h0 : 0 < m) (hc : c ≤ m) : afI c m 0 = c % m := by
  unfold afI
  rw [Nat.zero_max]
  split
  · rename_i h; rw [Nat.mod_eq_of_lt h]
  · obtain rfl : c = m := by omega
    rw [Nat.mod_self]
theorem beI_end {c m : Nat} (h0 : 0 < m) (hc : c ≤ m) : beI c m m = (c + m - 1) % m := by
  unfold beI
  rw [Nat.min_eq_right hc]
  split
  · rename_i h; subst h; rw [Nat.zero_add, Nat.mod_eq_of_lt (by omega)]
  · rename_i h
    rw [show c + m - 1 = c - 1 + m by omega, Nat.add_mod_right, Nat.mod_eq_of_lt (by omega)]
end Go.Proofs.Ytdjdkkacbkfmeaa
