/- The text of a variation: plain law. Leans on no program. -/
import Derived.Test.YtdjdkkacbkfmeaaWfP
import Derived.Test.YtdjdkkacbkfmeaaAxT
set_option linter.unusedSimpArgs false
set_option linter.unusedVariables false
namespace Go.Proofs.Ytdjdkkacbkfmeaa
open Go.RowKit
def axT (a : TAxis) : List UInt8 := [97, 120, 105, 115, 32] ++ (textB a).data.toList ++ [10]
def pkT (p : TPeak) : List UInt8 := [32] ++ decS p.fStart ++ [58] ++ decS p.fTop ++ [58] ++ decS p.fEnd
def knT (k : Int) (p : TPt) : List UInt8 := [32] ++ decS k ++ [58] ++ (decS p.fX ++ [44] ++ decS p.fY)
def knsT : List Int → List TPt → List UInt8
  | k :: ks, p :: ps => knT k p ++ knsT ks ps
  | _, _ => []
def dlT (d : TGlyphDelta) : List UInt8 := [100, 101, 108, 116, 97, 32] ++ decS d.fGlyph ++ [32] ++ decS d.fAdvance ++ knsT d.fKnots d.fMoves ++ [10]
def mrT : List UInt8 := [109, 97, 115, 116, 101, 114]
def maT (m : TMaster) : List UInt8 := mrT ++ m.fPeaks.flatMap pkT ++ [10] ++ m.fDeltas.flatMap dlT
def vrT (v : TVariation) : List UInt8 := v.fAxes.flatMap axT ++ v.fMasters.flatMap maT
theorem fm_at {α : Type} (f : α → List UInt8) {xs : List α} {k : Nat} {x : α} (h : xs[k]? = some x) : (xs.take (k + 1)).flatMap f = (xs.take k).flatMap f ++ f x := by
  rw [take_snoc_get h, List.flatMap_append]; simp
theorem fm_len {α : Type} {f : α → List UInt8} {m : Nat} : ∀ {xs : List α}, (∀ x ∈ xs, (f x).length ≤ m) → (xs.flatMap f).length ≤ m * xs.length
  | [], _ => by simp
  | x :: t, h => by
    have h1 := h x (by simp)
    have h2 := fm_len (f := f) (m := m) (xs := t) (fun y hy => h y (by simp [hy]))
    rw [List.flatMap_cons, List.length_append, List.length_cons, Nat.mul_add]
    omega
theorem fm_take {α : Type} {f : α → List UInt8} {m : Nat} {xs : List α} (h : ∀ x ∈ xs, (f x).length ≤ m) (k : Nat) : ((xs.take k).flatMap f).length ≤ m * xs.length := by
  have h1 := fm_len (f := f) (m := m) (xs := xs.take k) (fun x hx => h x (List.mem_of_mem_take hx))
  have h2 : (xs.take k).length ≤ xs.length := by simp; omega
  exact Nat.le_trans h1 (Nat.mul_le_mul_left m h2)
theorem knsT_at : ∀ {ks : List Int} {ps : List TPt} {i : Nat} {k : Int} {p : TPt}, ks[i]? = some k → ps[i]? = some p → knsT (ks.take (i + 1)) (ps.take (i + 1)) = knsT (ks.take i) (ps.take i) ++ knT k p
  | [], _, i, _, _, h, _ => by simp at h
  | _ :: _, [], i, _, _, _, h => by simp at h
  | a :: ks, b :: ps, 0, k, p, h1, h2 => by
    simp at h1 h2
    subst h1; subst h2
    simp [knsT]
  | a :: ks, b :: ps, i + 1, k, p, h1, h2 => by
    have := knsT_at (ks := ks) (ps := ps) (i := i) (by simpa using h1) (by simpa using h2)
    rw [List.take_succ_cons, List.take_succ_cons, knsT, this, List.take_succ_cons, List.take_succ_cons, knsT, List.append_assoc]
theorem decS_l {n : Int} (h1 : -9223372036854775808 ≤ n) (h2 : n ≤ 9223372036854775807) : (decS n).length ≤ 21 := by
  have := decB_size n (natAbs_bnd h1 h2)
  rwa [decB, mkS_size] at this
theorem ri_len : ∀ {xs : List Int} {q : Int}, riG (some q) xs = true → (∀ x ∈ xs, x ≤ 719) → q ≤ 719 → (xs.length : Int) ≤ 719 - q
  | [], q, _, _, h => by simp; omega
  | y :: t, q, h, hb, hq => by
    simp only [riG, ltI, Bool.and_eq_true, decide_eq_true_eq] at h
    have := ri_len h.2 (fun x hx => hb x (by simp [hx])) (hb y (by simp))
    simp only [List.length_cons]; omega
theorem kn_len {xs : List Int} (h : knG none xs = true) : xs.length ≤ 720 := by
  obtain ⟨h1, h2⟩ := knG_ri _ _ h
  have h3 : riG (some (-1)) xs = true := by
    cases xs with
    | nil => rfl
    | cons y t =>
      have := h2 y (by simp)
      rw [riG, Bool.and_eq_true] at h1
      rw [riG, h1.2]; simp [ltI]; omega
  have := ri_len h3 (fun x hx => (h2 x hx).2) (by omega)
  omega
theorem knT_len {k : Int} {p : TPt} (hk : 0 ≤ k ∧ k ≤ 719) (hp : pntB p = true) : (knT k p).length ≤ 66 := by
  have a := pnt_in hp
  have h1 := decS_l (n := k) (by omega) (by omega)
  have h2 := decS_l (n := p.fX) (by omega) (by omega)
  have h3 := decS_l (n := p.fY) (by omega) (by omega)
  simp only [knT, List.length_append, List.length_cons, List.length_nil]
  omega
theorem knsT_len : ∀ {ks : List Int} {ps : List TPt}, (∀ k ∈ ks, 0 ≤ k ∧ k ≤ 719) → (∀ p ∈ ps, pntB p = true) → (knsT ks ps).length ≤ 66 * ks.length
  | [], _, _, _ => by simp [knsT]
  | _ :: _, [], _, _ => by simp [knsT]
  | k :: ks, p :: ps, h1, h2 => by
    have a := knT_len (h1 k (by simp)) (h2 p (by simp))
    have b := knsT_len (ks := ks) (ps := ps) (fun x hx => h1 x (by simp [hx])) (fun x hx => h2 x (by simp [hx]))
    simp only [knsT, List.length_append, List.length_cons]
    omega
structure GdF (d : TGlyphDelta) : Prop where
  g : 0 ≤ d.fGlyph ∧ d.fGlyph ≤ 39
  a : -262144 ≤ d.fAdvance ∧ d.fAdvance ≤ 262144
  k : ∀ x ∈ d.fKnots, 0 ≤ x ∧ x ≤ 719
  m : ∀ p ∈ d.fMoves, pntB p = true
  l : d.fKnots.length = d.fMoves.length
  n : d.fKnots.length ≤ 720
theorem gd_in {d : TGlyphDelta} (h : gdB d = true) : GdF d := by
  simp only [gdB, inB, Bool.and_eq_true, decide_eq_true_eq, List.all_eq_true] at h
  exact ⟨h.1, h.2.2.2.2, (knG_ri _ _ h.2.1).2, h.2.2.2.1, h.2.2.1, kn_len h.2.1⟩
theorem dlT_len {d : TGlyphDelta} (h : gdB d = true) : (dlT d).length ≤ 50000 := by
  obtain ⟨h1, h2, h3, h4, h5, h6⟩ := gd_in h
  have a := knsT_len h3 h4
  have b := decS_l (n := d.fGlyph) (by omega) (by omega)
  have c := decS_l (n := d.fAdvance) (by omega) (by omega)
  simp only [dlT, List.length_append, List.length_cons, List.length_nil]
  omega
theorem pk_l {p : TPeak} (h : pkB p = true) : (decS p.fStart).length ≤ 21 ∧ (decS p.fTop).length ≤ 21 ∧ (decS p.fEnd).length ≤ 21 := by
  obtain ⟨h1, h2, h3, h4⟩ := pk_facts h
  exact ⟨decS_l (by omega) (by omega), decS_l (by omega) (by omega), decS_l (by omega) (by omega)⟩
theorem pkT_len {p : TPeak} (h : pkB p = true) : (pkT p).length ≤ 66 := by
  obtain ⟨a, b, c⟩ := pk_l h
  simp only [pkT, List.length_append, List.length_cons, List.length_nil]
  omega
structure MaF (n : Nat) (m : TMaster) : Prop where
  l : m.fPeaks.length = n
  d : m.fDeltas.length ≤ 20
  p : ∀ x ∈ m.fPeaks, pkB x = true
  g : ∀ x ∈ m.fDeltas, gdB x = true
theorem ma_in {n : Nat} {m : TMaster} (h : maB n m = true) : MaF n m := by
  simp only [maB, Bool.and_eq_true, decide_eq_true_eq, List.all_eq_true] at h
  exact ⟨h.1, h.2.1, h.2.2.1, dsG_all h.2.2.2⟩
theorem wf_in {v : TVariation} (h : wfB v = true) : axsB v.fAxes = true ∧ v.fAxes.length ≤ 3 ∧ v.fMasters.length ≤ 8 ∧ ∀ m ∈ v.fMasters, MaF v.fAxes.length m := by
  simp only [wfB, Bool.and_eq_true, decide_eq_true_eq, List.all_eq_true] at h
  have h3 : v.fAxes.length ≤ 3 := by
    have := h.1
    simp only [axsB, Bool.and_eq_true, decide_eq_true_eq] at this
    exact this.1
  exact ⟨h.1, h3, h.2.1, fun m hm => ma_in (h.2.2 m hm)⟩
theorem axs_at {xs : List TAxis} (h : axsB xs = true) {k : Nat} {x : TAxis} (hx : xs[k]? = some x) : axB x = true := by
  have key : ∀ (ys pre : List TAxis), axsGo pre ys = true → ∀ (j : Nat) (y : TAxis), ys[j]? = some y → axB y = true := by
    intro ys
    induction ys with
    | nil => intro pre _ j y hy; simp at hy
    | cons z ys ih =>
      intro pre hp j y hy
      simp only [axsGo, Bool.and_eq_true] at hp
      cases j with
      | zero => simp at hy; subst hy; exact hp.1
      | succ j => exact ih _ hp.2.2 j y (by simpa using hy)
  simp only [axsB, Bool.and_eq_true] at h
  exact key xs [] h.2 k x hx
theorem textB_size {a : TAxis} (h : axB a = true) : (textB a).size ≤ 1000 := by
  have := take_sz h a.fMap.length
  rwa [List.take_of_length_le (by rw [words_len]; omega)] at this
theorem axT_len {a : TAxis} (h : axB a = true) : (axT a).length ≤ 1006 := by
  have := textB_size h
  simp only [axT, List.length_append, List.length_cons, List.length_nil, Array.length_toList]
  show 5 + (textB a).size + 1 ≤ 1006
  omega
theorem maT_len {n : Nat} {m : TMaster} (hn : n ≤ 3) (h : MaF n m) : (maT m).length ≤ 1000300 := by
  obtain ⟨h1, h2, h3, h4⟩ := h
  have a := fm_len (f := pkT) (m := 66) (fun x hx => pkT_len (h3 x hx))
  have b := fm_len (f := dlT) (m := 50000) (fun x hx => dlT_len (h4 x hx))
  simp only [maT, mrT, List.length_append, List.length_cons, List.length_nil]
  omega
end Go.Proofs.Ytdjdkkacbkfmeaa
