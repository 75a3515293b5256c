/- Normal coordinates: plain law and walks (plainNormal, mapNormal, both sides). -/
import Derived.Test.YtdjdkkacbkfmeaaAxsV
set_option linter.unusedSimpArgs false
set_option linter.unusedVariables false
namespace Go.Proofs.Ytdjdkkacbkfmeaa
open Go.RowKit
theorem axB_facts {a : TAxis} (h : axB a = true) : a.fMin ≤ a.fDefault ∧ a.fDefault ≤ a.fMax ∧ -32000 ≤ a.fMin ∧ a.fMax ≤ 32000 ∧ a.fMin < a.fMax ∧ mapB a.fMap = true := by
  simp only [axB, inB, Bool.and_eq_true, decide_eq_true_eq] at h
  exact ⟨h.1.1.1.2.2, h.1.1.2.1, h.1.1.1.2.1, h.1.1.2.2, h.1.2, h.2⟩
def plainN (a : TAxis) (v : Int) : Int :=
  if a.fDefault < max a.fMin (min a.fMax v) then divR ((max a.fMin (min a.fMax v) - a.fDefault) * 16384) (a.fMax - a.fDefault)
  else if max a.fMin (min a.fMax v) < a.fDefault then divR ((max a.fMin (min a.fMax v) - a.fDefault) * 16384) (a.fDefault - a.fMin) else 0
theorem divR_le {n d c : Int} (hd : 0 < d) (h : n ≤ c * d) : divR n d ≤ c := by
  rw [divR_pos hd]
  have a := Int.emod_nonneg n (show d ≠ 0 by omega)
  have b := Int.emod_lt_of_pos n hd
  have e := Int.emod_add_mul_ediv n d
  have h1 : n / d ≤ c := by
    have := Int.ediv_le_ediv hd h
    rwa [Int.mul_ediv_cancel c (by omega)] at this
  split
  · rcases Int.lt_or_eq_of_le h1 with h2 | h2
    · omega
    · exfalso
      rw [h2, Int.mul_comm] at e
      omega
  · exact h1
theorem le_divR {n d c : Int} (hd : 0 < d) (h : c * d ≤ n) : c ≤ divR n d := by
  rw [divR_pos hd]
  have h1 : c ≤ n / d := (Int.le_ediv_iff_mul_le hd).2 h
  split <;> omega
theorem plainN_nrm {a : TAxis} (h : axB a = true) (v : Int) : nrm (plainN a v) = true := by
  obtain ⟨h1, h2, h3, h4, h5, -⟩ := axB_facts h
  simp only [nrm, Bool.and_eq_true, decide_eq_true_eq]
  unfold plainN
  generalize hu : max a.fMin (min a.fMax v) = u
  have hu1 : a.fMin ≤ u := by omega
  have hu2 : u ≤ a.fMax := by omega
  split
  · exact ⟨le_divR (by omega) (by omega), divR_le (by omega) (by omega)⟩
  · split
    · exact ⟨le_divR (by omega) (by omega), divR_le (by omega) (by omega)⟩
    · omega
def mapGo (n : Int) : Option TAxisPoint → List TAxisPoint → Int
  | _, [] => n
  | none, q :: t => if n = q.fFrom then q.fTo else mapGo n (some q) t
  | some p, q :: t => if n = q.fFrom then q.fTo else if n < q.fFrom then p.fTo + divR ((n - p.fFrom) * (q.fTo - p.fTo)) (q.fFrom - p.fFrom) else mapGo n (some q) t
def mapN (a : TAxis) (n : Int) : Int := mapGo n none a.fMap
theorem mapGo_at (n : Int) {xs : List TAxisPoint} {k : Nat} {q : TAxisPoint} (hq : xs[k]? = some q) :
    mapGo n (pv xs k) (xs.drop k) = if n = q.fFrom then q.fTo else match pv xs k with
      | none => mapGo n (pv xs (k + 1)) (xs.drop (k + 1))
      | some p => if n < q.fFrom then p.fTo + divR ((n - p.fFrom) * (q.fTo - p.fTo)) (q.fFrom - p.fFrom) else mapGo n (pv xs (k + 1)) (xs.drop (k + 1)) := by
  rw [drop_at hq, pv_succ, hq]
  cases pv xs k <;> rfl
theorem mapGo_end (n : Int) {xs : List TAxisPoint} {k : Nat} (o : Option TAxisPoint) (hk : xs.length ≤ k) : mapGo n o (xs.drop k) = n := by
  rw [List.drop_eq_nil_of_le hk]
  cases o <;> rfl
theorem mp_ap : ∀ (xs : List TAxisPoint) (o : Option TAxisPoint), mpGo o xs = true → ∀ (k : Nat) (q : TAxisPoint), xs[k]? = some q → apB q = true
  | [], _, _, k, q, h => by simp at h
  | x :: t, o, h, k, q, hq => by
    rw [mpGo_cons] at h
    simp only [Bool.and_eq_true] at h
    cases k with
    | zero => simp at hq; rw [← hq]; exact h.1.1
    | succ k => exact mp_ap t (some x) h.2 k q (by simpa using hq)
theorem mp_lt : ∀ (xs : List TAxisPoint) (o : Option TAxisPoint), mpGo o xs = true → ∀ (k : Nat) (p q : TAxisPoint), xs[k]? = some p → xs[k + 1]? = some q → apLt p q = true
  | [], _, _, k, p, q, h, _ => by simp at h
  | x :: t, o, h, k, p, q, hp, hq => by
    rw [mpGo_cons] at h
    simp only [Bool.and_eq_true] at h
    cases k with
    | zero =>
      simp at hp hq
      subst hp
      cases t with
      | nil => simp at hq
      | cons y t =>
        simp at hq
        subst hq
        have := h.2
        rw [mpGo_cons] at this
        simp only [Bool.and_eq_true, ltO] at this
        exact this.1.2
    | succ k => exact mp_lt t (some x) h.2 k p q (by simpa using hp) (by simpa using hq)
theorem mapB_first {xs : List TAxisPoint} {q : TAxisPoint} (h : mapB xs = true) (hq : xs[0]? = some q) : q.fFrom = -16384 := by
  cases xs with
  | nil => simp at hq
  | cons x t =>
    simp at hq
    subst hq
    simp only [mapB, List.isEmpty_cons, Bool.false_or, Bool.and_eq_true, decide_eq_true_eq] at h
    have h1 := mapB_has (x :: t) h.1.1
    rw [decide_eq_true h.1.2] at h1
    have h1 := h1.symm
    simp only [Bool.and_eq_true] at h1
    have h2 := h1.1.1
    rw [← cntN_has] at h2
    have h3 := h.1.1
    rw [mpGo_cons] at h3
    simp only [Bool.and_eq_true, apB, nrm, decide_eq_true_eq] at h3
    have h4 := mpGo_low t x h3.2 (-16384) (by omega)
    rw [cntN, h4] at h2
    split at h2
    · rename_i h5
      simp only [Bool.and_eq_true, beq_iff_eq] at h5
      omega
    · omega
theorem mapB_mp {xs : List TAxisPoint} (h : mapB xs = true) : mpGo none xs = true := by
  cases xs with
  | nil => rfl
  | cons x t =>
    simp only [mapB, List.isEmpty_cons, Bool.false_or, Bool.and_eq_true] at h
    exact h.1.1
/-- what a step between two points of a map stays within -/
theorem step_bnd {x y d : Int} (h1 : 0 ≤ x) (h2 : x ≤ d) (h3 : 0 < d) (h4 : d ≤ 32768) (h5 : 0 ≤ y) (h6 : y ≤ 32768) : 0 ≤ x * y ∧ x * y ≤ 1073741824 ∧ 0 ≤ divR (x * y) d ∧ divR (x * y) d ≤ y := by
  have a : 0 ≤ x * y := Int.mul_nonneg h1 h5
  have b : x * y ≤ d * y := Int.mul_le_mul_of_nonneg_right h2 h5
  have c : d * y ≤ 32768 * y := Int.mul_le_mul_of_nonneg_right h4 h5
  refine ⟨a, by omega, le_divR h3 (by omega), divR_le h3 (by rw [Int.mul_comm y d]; exact b)⟩
set_option maxHeartbeats 2000000 in
set_option maxHeartbeats 2000000 in
/-! the functions at the top -/
def cdA (b : Bool) : Int := if b = true then 0 else 1
def plI (a : TAxis) (v : Int) : Int := if axB a = true then plainN a v else 0
def nmI (a : TAxis) (v : Int) : Int := if axB a = true then mapN a (plainN a v) else 0
def mpI (a : TAxis) (n : Int) : Int := if axB a = true then (if nrm n = true then mapN a n else 0) else 0
def mpC (a : TAxis) (n : Int) : Int := if axB a = true then (if nrm n = true then 0 else 2) else 1
end Go.Proofs.Ytdjdkkacbkfmeaa
