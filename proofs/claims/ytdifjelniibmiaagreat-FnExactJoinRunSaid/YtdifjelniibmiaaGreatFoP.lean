/- The forms of the items of a run: plain law. Leans on no program. -/
import Derived.Test.YtdifjelniibmiaaGreatFtP
set_option linter.unusedSimpArgs false
set_option linter.unusedVariables false
namespace Go.Proofs.YtdifjelniibmiaaGreat
open Go.RowKit
def bfr (k : Int) : Bool := k == 1 || k == 2
/-- the last kind that is not transparent -/
def lastF : Int → List Int → Int
  | p, [] => p
  | p, k :: t => lastF (if k = 3 then p else k) t
/-- the first kind that is not transparent -/
def nxtK : List Int → Int
  | [] => 0
  | k :: t => if k = 3 then nxtK t else k
def formN (p k n : Int) : Int := if (bfr k && p == 1) = true then (if (k == 1 && bfr n) = true then 2 else 3) else if (k == 1 && bfr n) = true then 1 else 0
def formsG : Int → List Int → List Int
  | _, [] => []
  | p, k :: t => formN p k (nxtK t) :: formsG (if k = 3 then p else k) t
def forms (ks : List Int) : List Int := formsG 0 ks
theorem formsG_len : ∀ (ks : List Int) (p : Int), (formsG p ks).length = ks.length
  | [], _ => rfl
  | k :: t, p => by simp [formsG, formsG_len t]
theorem formsG_get : ∀ (ks : List Int) (p : Int) (i : Nat) (k : Int), ks[i]? = some k → (formsG p ks)[i]? = some (formN (lastF p (ks.take i)) k (nxtK (ks.drop (i + 1))))
  | [], p, i, k, h => by simp at h
  | c :: t, p, 0, k, h => by
    obtain rfl : c = k := by simpa using h
    rfl
  | c :: t, p, i + 1, k, h => by
    have := formsG_get t (if c = 3 then p else c) i k (by simpa using h)
    simpa [formsG, lastF] using this
theorem lastF_snoc : ∀ (ks : List Int) (p k : Int), lastF p (ks ++ [k]) = if k = 3 then lastF p ks else k
  | [], p, k => rfl
  | c :: t, p, k => by rw [List.cons_append, lastF, lastF, lastF_snoc t]
/-- where it stands -/
def lastI : List Int → Option Nat
  | [] => none
  | c :: t => match lastI t with
    | some j => some (j + 1)
    | none => if c = 3 then none else some 0
theorem lastI_snoc : ∀ (ks : List Int) (k : Int), lastI (ks ++ [k]) = if k = 3 then lastI ks else some ks.length
  | [], k => by simp [lastI]
  | c :: t, k => by
    rw [List.cons_append, lastI, lastI_snoc t]
    by_cases h : k = 3
    · rw [if_pos h, if_pos h]; rfl
    · rw [if_neg h, if_neg h]; rfl
theorem lastI_none : ∀ {ks : List Int}, lastI ks = none → (∀ p, lastF p ks = p) ∧ ∀ k, nxtK (ks ++ [k]) = (if k = 3 then 0 else k) ∧ nxtK ks = 0
  | [], _ => ⟨fun _ => rfl, fun k => ⟨by simp [nxtK], rfl⟩⟩
  | c :: t, h => by
    rw [lastI] at h
    cases ht : lastI t with
    | some j => rw [ht] at h; cases h
    | none =>
      rw [ht] at h
      simp only at h
      by_cases hc : c = 3
      · obtain ⟨h1, h2⟩ := lastI_none ht
        refine ⟨fun p => by rw [lastF, if_pos hc]; exact h1 p, fun k => ?_⟩
        rw [List.cons_append, nxtK, if_pos hc, nxtK, if_pos hc]
        exact h2 k
      · rw [if_neg hc] at h; cases h
theorem lastI_some : ∀ {ks : List Int} {j : Nat}, lastI ks = some j → ∃ k, ks[j]? = some k ∧ k ≠ 3 ∧ (∀ p, lastF p ks = k) ∧ ∀ c, nxtK (ks ++ [c]) = nxtK ks
  | [], j, h => by cases h
  | c :: t, j, h => by
    rw [lastI] at h
    cases ht : lastI t with
    | some i =>
      rw [ht] at h
      obtain rfl : i + 1 = j := by simpa using h
      obtain ⟨k, h1, h2, h3, h4⟩ := lastI_some ht
      refine ⟨k, by simpa using h1, h2, fun p => by rw [lastF]; exact h3 _, fun d => ?_⟩
      rw [List.cons_append, nxtK, nxtK, h4]
    | none =>
      rw [ht] at h
      simp only at h
      by_cases hc : c = 3
      · rw [if_pos hc] at h; cases h
      · rw [if_neg hc] at h
        obtain rfl : 0 = j := by simpa using h
        obtain ⟨h1, h2⟩ := lastI_none ht
        exact ⟨c, rfl, hc, fun p => by rw [lastF, if_neg hc]; exact h1 c, fun d => by rw [List.cons_append, nxtK, nxtK, if_neg hc, if_neg hc]⟩
theorem formN_3 (p n : Int) : formN p 3 n = 0 := by simp [formN, bfr]
theorem forms_snoc3 : ∀ (ks : List Int) (p : Int), formsG p (ks ++ [3]) = formsG p ks ++ [0]
  | [], p => by simp [formsG, formN_3]
  | c :: t, p => by
    rw [List.cons_append, formsG, forms_snoc3 t, formsG, List.cons_append]
    congr 2
    cases ht : lastI t with
    | none => obtain ⟨-, h2⟩ := lastI_none ht; rw [(h2 3).1, (h2 3).2, if_pos rfl]
    | some j => obtain ⟨k, -, -, -, h4⟩ := lastI_some ht; rw [h4]
theorem formN_no {p c k : Int} (h : (c == 1 && bfr k) = false) : formN p c k = formN p c 0 := by
  rw [formN, formN, h, show (c == 1 && bfr 0) = false by simp [bfr]]
theorem formN_yes {p k : Int} (h : bfr k = true) : formN p 1 k = if formN p 1 0 = 0 then 1 else 2 := by
  have h0 : bfr 0 = false := rfl
  have h1 : bfr 1 = true := rfl
  by_cases hp : p = 1
  · subst hp; simp [formN, h, h0, h1]
  · simp [formN, h, h0, h1, hp]
/-- one more item: what stood before it is told -/
theorem forms_snoc {k : Int} (hk : k ≠ 3) : ∀ (ks : List Int) (p : Int), formsG p (ks ++ [k]) = (match lastI ks with
    | none => formsG p ks
    | some j => if (lastF p ks == 1 && bfr k) = true then (formsG p ks).set j (if (formsG p ks)[j]? = some 0 then 1 else 2) else formsG p ks) ++ [formN (lastF p ks) k 0]
  | [], p => rfl
  | c :: t, p => by
    have ih := forms_snoc hk t (if c = 3 then p else c)
    rw [List.cons_append, formsG, ih, lastF, lastI, formsG]
    cases ht : lastI t with
    | some j =>
      obtain ⟨q, g1, g2, g3, g4⟩ := lastI_some ht
      rw [g4]
      generalize formN p c (nxtK t) = a
      generalize formsG (if c = 3 then p else c) t = G
      generalize formN (lastF (if c = 3 then p else c) t) k 0 = x
      show a :: ((if (lastF (if c = 3 then p else c) t == 1 && bfr k) = true then G.set j (if G[j]? = some 0 then 1 else 2) else G) ++ [x]) = (if (lastF (if c = 3 then p else c) t == 1 && bfr k) = true then (a :: G).set (j + 1) (if (a :: G)[j + 1]? = some 0 then 1 else 2) else (a :: G)) ++ [x]
      by_cases hC : (lastF (if c = 3 then p else c) t == 1 && bfr k) = true
      · rw [if_pos hC, if_pos hC, List.getElem?_cons_succ, List.set_cons_succ]; rfl
      · rw [if_neg hC, if_neg hC]; rfl
    | none =>
      obtain ⟨g1, g2⟩ := lastI_none ht
      rw [(g2 k).1, (g2 k).2, if_neg hk, g1]
      by_cases hc : c = 3
      · subst hc
        rw [formN_3, formN_3, if_pos rfl]; rfl
      · rw [if_neg hc, if_neg hc]
        generalize formsG c t = G
        generalize formN c k 0 = x
        show formN p c k :: (G ++ [x]) = (if (c == 1 && bfr k) = true then (formN p c 0 :: G).set 0 (if (formN p c 0 :: G)[0]? = some 0 then 1 else 2) else (formN p c 0 :: G)) ++ [x]
        by_cases hC : (c == 1 && bfr k) = true
        · rw [if_pos hC]
          simp only [Bool.and_eq_true, beq_iff_eq] at hC
          obtain ⟨rfl, hC⟩ := hC
          rw [formN_yes hC]
          simp
        · rw [if_neg hC, formN_no (by simpa using hC)]; rfl
end Go.Proofs.YtdifjelniibmiaaGreat
