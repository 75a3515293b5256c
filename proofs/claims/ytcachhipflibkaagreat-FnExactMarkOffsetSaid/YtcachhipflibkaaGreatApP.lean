/- Lookups applied to runs: plain law. Leans on no program. -/
import Derived.Test.YtcachhipflibkaaGreatFtP
set_option linter.unusedSimpArgs false
set_option linter.unusedVariables false
namespace Go.Proofs.YtcachhipflibkaaGreat
open Go.RowKit
def hasI (xs : List Int) (x : Int) : Bool := xs.any fun y => y == x
theorem fdx_find {α : Type} (p : α → Bool) : ∀ (xs : List α) (k : Nat), (fdx p xs k = -1 ∧ xs.find? p = none) ∨ ∃ (i : Nat) (x : α), fdx p xs k = ((k + i : Nat) : Int) ∧ xs[i]? = some x ∧ xs.find? p = some x
  | [], k => .inl ⟨rfl, rfl⟩
  | x :: t, k => by
    rw [fdx, List.find?_cons]
    by_cases h : p x = true
    · rw [if_pos h, h]
      exact .inr ⟨0, x, by simp, rfl, rfl⟩
    · rw [if_neg h]
      have h' : p x = false := by simpa using h
      rw [h']
      rcases fdx_find p t (k + 1) with ⟨h1, h2⟩ | ⟨i, y, h1, h2, h3⟩
      · exact .inl ⟨h1, h2⟩
      · exact .inr ⟨i + 1, y, by rw [h1]; congr 1; omega, by simpa using h2, h3⟩
/-! ### runs -/
def itB (g : Int) (x : TItem) : Bool := inB x.fGlyph 0 (g - 1) && (inB x.fFrom 0 262144 && inB x.fLen 0 262144)
def enO : Option TItem → TItem → Bool
  | none, _ => true
  | some p, x => decide (p.fFrom + p.fLen ≤ x.fFrom)
def rnG (g : Int) : Option TItem → List TItem → Bool
  | _, [] => true
  | o, x :: t => itB g x && (enO o x && rnG g (some x) t)
theorem rnG_at {g : Int} {xs : List TItem} {k : Nat} {x : TItem} (hx : xs[k]? = some x) : rnG g (pv xs k) (xs.drop k) = (itB g x && (enO (pv xs k) x && rnG g (pv xs (k + 1)) (xs.drop (k + 1)))) := by
  rw [drop_at hx, rnG, pv_succ, hx]
theorem rnG_end {g : Int} {xs : List TItem} {k : Nat} {o : Option TItem} (hk : xs.length ≤ k) : rnG g o (xs.drop k) = true := by
  rw [List.drop_eq_nil_of_le hk]; rfl
theorem rnG_bnd {g : Int} : ∀ (xs : List TItem) (o : Option TItem), rnG g o xs = true → ∀ x ∈ xs, itB g x = true
  | [], _, _, x, hx => by simp at hx
  | y :: t, o, h, x, hx => by
    simp only [rnG, Bool.and_eq_true] at h
    rcases List.mem_cons.1 hx with rfl | hx
    · exact h.1
    · exact rnG_bnd t _ h.2.2 x hx
def vrB (xs : List TItem) (g : Int) : Bool := decide (g ≤ 40) && (decide (xs.length ≤ 60) && rnG g none xs)
/-! ### where a rule applies -/
def inC : List (List Int) → List TItem → Bool
  | [], [] => true
  | c :: cs, x :: xs => hasI c x.fGlyph && inC cs xs
  | [], _ :: _ => false
  | _ :: _, [] => false
theorem inC_len : ∀ {cs : List (List Int)} {xs : List TItem}, xs.length ≠ cs.length → inC cs xs = false
  | [], [], h => absurd rfl h
  | c :: cs, x :: xs, h => by rw [inC, inC_len (fun e => h (by simp [e])), Bool.and_false]
  | [], _ :: _, _ => rfl
  | _ :: _, [], _ => rfl
theorem inC_at {cs : List (List Int)} {xs : List TItem} {k : Nat} {c : List Int} {x : TItem} (hc : cs[k]? = some c) (hx : xs[k]? = some x) : inC (cs.drop k) (xs.drop k) = (hasI c x.fGlyph && inC (cs.drop (k + 1)) (xs.drop (k + 1))) := by
  rw [drop_at hc, drop_at hx, inC]
theorem inC_end {cs : List (List Int)} {xs : List TItem} {k : Nat} (h1 : cs.length ≤ k) (h2 : xs.length ≤ k) : inC (cs.drop k) (xs.drop k) = true := by
  rw [List.drop_eq_nil_of_le h1, List.drop_eq_nil_of_le h2]; rfl
def cut (xs : List TItem) (a n : Nat) : List TItem := (xs.drop a).take n
def fit (cs : List (List Int)) (xs : List TItem) (a : Int) : Bool := decide (0 ≤ a) && (decide (a + cs.length ≤ xs.length) && inC cs (cut xs a.toNat cs.length))
def apRu (r : TRule) (xs : List TItem) (at' : Nat) : Bool :=
  fit r.fInput xs at' && (fit r.fBefore xs ((at' : Int) - r.fBefore.length) && fit r.fAfter xs ((at' : Int) + r.fInput.length))
/-! ### what a rule puts -/
def putL : Bool → Int → Int → List Int → List TItem
  | _, _, _, [] => []
  | true, from', end', g :: t => ⟨g, from', end' - from'⟩ :: putL false from' end' t
  | false, from', end', g :: t => ⟨g, end', 0⟩ :: putL false from' end' t
theorem putL_len (b : Bool) (f e : Int) : ∀ xs : List Int, (putL b f e xs).length = xs.length
  | [] => by cases b <;> rfl
  | x :: t => by cases b <;> simp [putL, putL_len false f e t]
def endO (xs : List TItem) (k : Nat) : Int := match xs[k]? with | some x => x.fFrom + x.fLen | none => 0
def fromO (xs : List TItem) (k : Nat) : Int := match xs[k]? with | some x => x.fFrom | none => 0
def rplL (r : TRule) (xs : List TItem) (a : Nat) : List TItem :=
  xs.take a ++ putL true (fromO xs a) (endO xs (a + r.fInput.length - 1)) r.fOutput ++ xs.drop (a + r.fInput.length)
theorem putL_snoc (b : Bool) (f e : Int) : ∀ (xs : List Int) (g : Int), putL b f e (xs ++ [g]) = putL b f e xs ++ [if xs.isEmpty && b then ⟨g, f, e - f⟩ else ⟨g, e, 0⟩]
  | [], g => by cases b <;> rfl
  | x :: t, g => by cases b <;> simp [putL, putL_snoc false f e t g]
theorem putL_succ {f e : Int} {xs : List Int} {k : Nat} {g : Int} (hg : xs[k]? = some g) : putL true f e (xs.take (k + 1)) = putL true f e (xs.take k) ++ [if k = 0 then ⟨g, f, e - f⟩ else ⟨g, e, 0⟩] := by
  rw [take_snoc_get hg, putL_snoc]
  have hk := (List.getElem?_eq_some_iff.1 hg).1
  congr 2
  by_cases h : k = 0
  · subst h; simp
  · rw [if_neg h, if_neg]
    simp only [List.isEmpty_iff, Bool.and_true]
    intro h'
    have h2 := congrArg List.length h'
    simp at h2
    rcases h2 with h2 | h2
    · exact h h2
    · rw [h2] at hk; simp at hk
/-- an item whose numbers are not too large -/
def wkI (x : TItem) : Prop := (0 ≤ x.fFrom ∧ x.fFrom ≤ 524288) ∧ (0 ≤ x.fFrom + x.fLen ∧ x.fFrom + x.fLen ≤ 524288)
theorem putL_wk {f e : Int} (hf : 0 ≤ f ∧ f ≤ 524288) (he : 0 ≤ e ∧ e ≤ 524288) : ∀ (b : Bool) (xs : List Int), ∀ x ∈ putL b f e xs, wkI x
  | _, [], x, hx => by rename_i b; cases b <;> simp [putL] at hx
  | true, g :: t, x, hx => by
    rcases List.mem_cons.1 (show x ∈ (⟨g, f, e - f⟩ : TItem) :: putL false f e t from hx) with rfl | hx
    · exact ⟨hf, by show 0 ≤ f + (e - f) ∧ f + (e - f) ≤ 524288; omega⟩
    · exact putL_wk hf he false t x hx
  | false, g :: t, x, hx => by
    rcases List.mem_cons.1 (show x ∈ (⟨g, e, 0⟩ : TItem) :: putL false f e t from hx) with rfl | hx
    · exact ⟨he, by show 0 ≤ e + 0 ∧ e + 0 ≤ 524288; omega⟩
    · exact putL_wk hf he false t x hx
theorem fit_le {cs : List (List Int)} {xs : List TItem} {a : Int} (h : fit cs xs a = true) : 0 ≤ a ∧ a + cs.length ≤ xs.length := by
  simp only [fit, Bool.and_eq_true, decide_eq_true_eq] at h
  exact ⟨h.1, h.2.1⟩
theorem apRu_le {r : TRule} {xs : List TItem} {a : Nat} (h : apRu r xs a = true) : a + r.fInput.length ≤ xs.length := by
  simp only [apRu, Bool.and_eq_true] at h
  have := fit_le h.1
  omega
theorem rpl_wk {r : TRule} {xs : List TItem} {a : Nat} (hw : ∀ x ∈ xs, wkI x) (h1 : 1 ≤ r.fInput.length) (h2 : a + r.fInput.length ≤ xs.length) : ∀ x ∈ rplL r xs a, wkI x := by
  obtain ⟨y, hy⟩ := at_lt' (xs := xs) (k := a) (by omega)
  obtain ⟨z, hz⟩ := at_lt' (xs := xs) (k := a + r.fInput.length - 1) (by omega)
  have wy := hw y (List.mem_of_getElem? hy)
  have wz := hw z (List.mem_of_getElem? hz)
  intro x hx
  rw [rplL, fromO, endO, hy, hz] at hx
  simp only [List.mem_append] at hx
  rcases hx with (hx | hx) | hx
  · exact hw x (List.mem_of_mem_take hx)
  · exact putL_wk wy.1 wz.2 true _ x hx
  · exact hw x (List.mem_of_mem_drop hx)
theorem rpl_len {r : TRule} {xs : List TItem} {a : Nat} (h2 : a + r.fInput.length ≤ xs.length) : (rplL r xs a).length + r.fInput.length = xs.length + r.fOutput.length := by
  rw [rplL]
  simp only [List.length_append, List.length_take, List.length_drop, putL_len]
  omega
/-! ### a lookup -/
def ruI (l : TLookup) (xs : List TItem) (a : Nat) : Int := fdx (fun r => apRu r xs a) l.fRules 0
def apF (l : TLookup) : Nat → List TItem → List Int → Nat → Option (List TItem × List Int)
  | 0, xs, tr, _ => some (xs, tr)
  | n + 1, xs, tr, a =>
    if xs.length ≤ a then some (xs, tr)
    else if ruI l xs a < 0 then apF l n xs tr (a + 1)
    else match l.fRules[(ruI l xs a).toNat]? with
      | none => none
      | some r => if 60 < (rplL r xs a).length then none else apF l n (rplL r xs a) (tr ++ [ruI l xs a]) (a + r.fOutput.length)
/-- steps enough -/
theorem apF_more (l : TLookup) (hr : ∀ r ∈ l.fRules, 1 ≤ r.fInput.length) : ∀ (n m : Nat) (xs : List TItem) (tr : List Int) (a : Nat), xs.length - a < n → n ≤ m → apF l n xs tr a = apF l m xs tr a
  | 0, m, xs, tr, a, h, _ => by omega
  | n + 1, 0, xs, tr, a, _, h => by omega
  | n + 1, m + 1, xs, tr, a, h, hm => by
    rw [apF, apF]
    by_cases h1 : xs.length ≤ a
    · rw [if_pos h1, if_pos h1]
    · rw [if_neg h1, if_neg h1]
      by_cases h2 : ruI l xs a < 0
      · rw [if_pos h2, if_pos h2]
        exact apF_more l hr n m xs tr (a + 1) (by omega) (by omega)
      · rw [if_neg h2, if_neg h2]
        cases h3 : l.fRules[(ruI l xs a).toNat]? with
        | none => rfl
        | some r =>
          simp only
          split
          · rfl
          · refine apF_more l hr n m _ _ _ ?_ (by omega)
            have h4 := hr r (List.mem_of_getElem? h3)
            have h5 : apRu r xs a = true := by
              rcases fdx_find (fun r => apRu r xs a) l.fRules 0 with ⟨q1, _⟩ | ⟨i, x, q1, q2, q3⟩
              · exact absurd (show ruI l xs a = -1 from q1) (by omega)
              · have q1' : ruI l xs a = ((0 + i : Nat) : Int) := q1
                rw [q1', Int.toNat_natCast, Nat.zero_add, q2] at h3
                cases h3
                simpa using List.find?_some q3
            have h6 := rpl_len (apRu_le h5)
            have h7 := apRu_le h5
            omega
def apL (l : TLookup) (xs : List TItem) : Option (List TItem × List Int) := apF l (xs.length + 1) xs [] 0
end Go.Proofs.YtcachhipflibkaaGreat
