/- merged: several parts in one text. Leans on no more than they do. -/
import Derived.Test.YtcachhipflibkaaGreatLVBase
import Derived.Test.YtcachhipflibkaaGreatVMTac
import Derived.Test.YtcachhipflibkaaGreatTT
set_option linter.unusedSimpArgs false
set_option linter.unusedVariables false
namespace Go.Proofs.YtcachhipflibkaaGreat
open Go.RowKit
def ltQ : Option Int → Int → Bool
  | none, _ => true
  | some q, x => decide (q < x)
def clG : Option Int → List Int → Bool
  | _, [] => true
  | o, x :: t => inB x 0 39 && (ltQ o x && clG (some x) t)
theorem clG_at {xs : List Int} {k : Nat} {x : Int} (hx : xs[k]? = some x) : clG (pv xs k) (xs.drop k) = (inB x 0 39 && (ltQ (pv xs k) x && clG (pv xs (k + 1)) (xs.drop (k + 1)))) := by
  rw [drop_at hx, clG, pv_succ, hx]
theorem clG_end {xs : List Int} {k : Nat} {o : Option Int} (hk : xs.length ≤ k) : clG o (xs.drop k) = true := by
  rw [List.drop_eq_nil_of_le hk]; rfl
def clsB (xs : List Int) : Bool := clG none xs
def fcB (xs : List Int) : Bool := decide (0 < xs.length) && clsB xs
def fcsB (lo : Nat) (xs : List (List Int)) : Bool := decide (lo ≤ xs.length) && (decide (xs.length ≤ 4) && xs.all fcB)
def ruB (r : TRule) : Bool := fcsB 0 r.fBefore && (fcsB 1 r.fInput && (fcsB 0 r.fAfter && (decide (r.fOutput.length ≤ 4) && r.fOutput.all fun g => inB g 0 39)))
def nmEq (s : ByteArray) (x : TLookup) : Bool := x.fName.toList == s.toList
def lkB (l : TLookup) : Bool := nameB l.fName && (decide (l.fRules.length ≤ 40) && l.fRules.all ruB)
def lkG (seen : List TLookup) : List TLookup → Bool
  | [] => true
  | x :: t => lkB x && (!seen.any (nmEq x.fName) && lkG (seen ++ [x]) t)
theorem lkG_at {xs : List TLookup} {k : Nat} {x : TLookup} (hx : xs[k]? = some x) : lkG (xs.take k) (xs.drop k) = (lkB x && (!(xs.take k).any (nmEq x.fName) && lkG (xs.take (k + 1)) (xs.drop (k + 1)))) := by
  rw [drop_at hx, lkG, take_snoc_get hx]
theorem lkG_end {xs : List TLookup} {k : Nat} {o : List TLookup} (hk : xs.length ≤ k) : lkG o (xs.drop k) = true := by
  rw [List.drop_eq_nil_of_le hk]; rfl
def lksB (xs : List TLookup) : Bool := decide (xs.length ≤ 8) && lkG [] xs
def knB (k : TKern) : Bool := fcB k.fLeft && (fcB k.fRight && inB k.fValue (-262144) 262144)
def mkB (m : TMarkRule) : Bool := fcB m.fMarks && (fcB m.fBases && nameB m.fAnchor)
def fmB (k f : Int) : Bool := inB f (-1) 39 && (!(k == 3) || f == -1)
def jnB (j : TJoin) : Bool := inB j.fGlyph 0 39 && (inB j.fKind 1 3 && (fmB j.fKind j.fInit && (fmB j.fKind j.fMedi && fmB j.fKind j.fFina)))
def ltJ : Option TJoin → TJoin → Bool
  | none, _ => true
  | some q, x => decide (q.fGlyph < x.fGlyph)
def jnG : Option TJoin → List TJoin → Bool
  | _, [] => true
  | o, x :: t => jnB x && (ltJ o x && jnG (some x) t)
theorem jnG_at {xs : List TJoin} {k : Nat} {x : TJoin} (hx : xs[k]? = some x) : jnG (pv xs k) (xs.drop k) = (jnB x && (ltJ (pv xs k) x && jnG (pv xs (k + 1)) (xs.drop (k + 1)))) := by
  rw [drop_at hx, jnG, pv_succ, hx]
theorem jnG_end {xs : List TJoin} {k : Nat} {o : Option TJoin} (hk : xs.length ≤ k) : jnG o (xs.drop k) = true := by
  rw [List.drop_eq_nil_of_le hk]; rfl
def ftB (f : TFeatures) : Bool :=
  lksB f.fLookups && (decide (f.fKerns.length ≤ 40) && (decide (f.fMarks.length ≤ 12) && (f.fKerns.all knB && (f.fMarks.all mkB && jnG none f.fJoins))))
def ruGl (r : TRule) : List Int := (r.fBefore ++ r.fInput ++ r.fAfter).flatten ++ r.fOutput
def lkGl (l : TLookup) : List Int := l.fRules.flatMap ruGl
def knGl (k : TKern) : List Int := k.fLeft ++ k.fRight
def mkGl (m : TMarkRule) : List Int := m.fMarks ++ m.fBases
def jnGl (j : TJoin) : List Int := j.fGlyph :: [j.fInit, j.fMedi, j.fFina].filter fun g => decide (0 ≤ g)
def usG (f : TFeatures) : List Int := f.fLookups.flatMap lkGl ++ f.fKerns.flatMap knGl ++ f.fMarks.flatMap mkGl ++ f.fJoins.flatMap jnGl
theorem clG_bnd : ∀ (xs : List Int) (o : Option Int), clG o xs = true → ∀ x ∈ xs, 0 ≤ x ∧ x ≤ 39
  | [], _, _, x, hx => by simp at hx
  | y :: t, o, h, x, hx => by
    simp only [clG, inB, Bool.and_eq_true, decide_eq_true_eq] at h
    rcases List.mem_cons.1 hx with rfl | hx
    · exact h.1
    · exact clG_bnd t _ h.2.2 x hx
theorem clG_len : ∀ (xs : List Int) (q : Int), clG (some q) xs = true → q ≤ 39 → (xs.length : Int) ≤ 39 - q
  | [], q, _, h => by simp; omega
  | y :: t, q, h, h0 => by
    simp only [clG, ltQ, inB, Bool.and_eq_true, decide_eq_true_eq] at h
    have := clG_len t y h.2.2 h.1.2
    simp only [List.length_cons]
    omega
theorem clsB_len {xs : List Int} (h : clsB xs = true) : xs.length ≤ 40 := by
  cases xs with
  | nil => simp
  | cons y t =>
    rw [clsB, clG] at h
    simp only [inB, Bool.and_eq_true, decide_eq_true_eq] at h
    have := clG_len t y h.2.2 h.1.2
    simp only [List.length_cons]
    omega
theorem fcB_len {xs : List Int} (h : fcB xs = true) : xs.length ≤ 40 := by
  simp only [fcB, Bool.and_eq_true] at h
  exact clsB_len h.2
theorem fcB_bnd {xs : List Int} (h : fcB xs = true) : ∀ x ∈ xs, 0 ≤ x ∧ x ≤ 39 := by
  simp only [fcB, Bool.and_eq_true] at h
  exact clG_bnd xs none h.2
theorem flatten_len {α : Type} {m : Nat} : ∀ (xs : List (List α)), (∀ x ∈ xs, x.length ≤ m) → xs.flatten.length ≤ xs.length * m
  | [], _ => by simp
  | x :: t, h => by
    have h1 := h x (by simp)
    have h2 := flatten_len t (fun y hy => h y (by simp [hy]))
    simp only [List.flatten_cons, List.length_append, List.length_cons, Nat.succ_mul]
    omega
theorem flatMap_len {α β : Type} {m : Nat} {f : α → List β} (xs : List α) (h : ∀ x ∈ xs, (f x).length ≤ m) : (xs.flatMap f).length ≤ xs.length * m := by
  have := flatten_len (m := m) (xs.map f) (by simpa using h)
  rw [List.length_map] at this
  rwa [List.flatMap_def]
theorem ruB_fcs {r : TRule} (h : ruB r = true) : (∀ c ∈ r.fBefore ++ r.fInput ++ r.fAfter, fcB c = true) ∧ (r.fBefore ++ r.fInput ++ r.fAfter).length ≤ 12 ∧ r.fOutput.length ≤ 4 ∧ (∀ g ∈ r.fOutput, 0 ≤ g ∧ g ≤ 39) ∧ 1 ≤ r.fInput.length := by
  simp only [ruB, fcsB, Bool.and_eq_true, decide_eq_true_eq, List.all_eq_true, inB] at h
  refine ⟨fun c hc => ?_, ?_, h.2.2.2.1, fun g hg => h.2.2.2.2 g hg, h.2.1.1⟩
  · simp only [List.mem_append] at hc
    rcases hc with (hc | hc) | hc
    · exact h.1.2.2 c hc
    · exact h.2.1.2.2 c hc
    · exact h.2.2.1.2.2 c hc
  · simp only [List.length_append]; omega
theorem ruGl_len {r : TRule} (h : ruB r = true) : (ruGl r).length ≤ 484 := by
  obtain ⟨h1, h2, h3, -⟩ := ruB_fcs h
  have := flatten_len (m := 40) _ (fun c hc => fcB_len (h1 c hc))
  have := Nat.mul_le_mul_right 40 h2
  rw [ruGl, List.length_append]
  omega
theorem ruGl_bnd {r : TRule} (h : ruB r = true) : ∀ g ∈ ruGl r, 0 ≤ g ∧ g ≤ 39 := by
  obtain ⟨h1, -, -, h4, -⟩ := ruB_fcs h
  intro g hg
  rw [ruGl, List.mem_append, List.mem_flatten] at hg
  rcases hg with ⟨c, hc, hg⟩ | hg
  · exact fcB_bnd (h1 c hc) g hg
  · exact h4 g hg
theorem lkB_ru {l : TLookup} (h : lkB l = true) : (∀ r ∈ l.fRules, ruB r = true) ∧ l.fRules.length ≤ 40 := by
  simp only [lkB, Bool.and_eq_true, decide_eq_true_eq, List.all_eq_true] at h
  exact ⟨h.2.2, h.2.1⟩
theorem lkGl_len {l : TLookup} (h : lkB l = true) : (lkGl l).length ≤ 19360 := by
  obtain ⟨h1, h2⟩ := lkB_ru h
  have := flatMap_len (m := 484) (f := ruGl) l.fRules (fun r hr => ruGl_len (h1 r hr))
  have := Nat.mul_le_mul_right 484 h2
  rw [lkGl]; omega
theorem lkG_all : ∀ (xs seen : List TLookup), lkG seen xs = true → ∀ x ∈ xs, lkB x = true
  | [], _, _, x, hx => by simp at hx
  | y :: t, seen, h, x, hx => by
    simp only [lkG, Bool.and_eq_true] at h
    rcases List.mem_cons.1 hx with rfl | hx
    · exact h.1
    · exact lkG_all t _ h.2.2 x hx
theorem jnG_all : ∀ (xs : List TJoin) (o : Option TJoin), jnG o xs = true → ∀ x ∈ xs, jnB x = true
  | [], _, _, x, hx => by simp at hx
  | y :: t, o, h, x, hx => by
    simp only [jnG, Bool.and_eq_true] at h
    rcases List.mem_cons.1 hx with rfl | hx
    · exact h.1
    · exact jnG_all t _ h.2.2 x hx
theorem jnG_len : ∀ (xs : List TJoin) (q : TJoin), jnG (some q) xs = true → q.fGlyph ≤ 39 → (xs.length : Int) ≤ 39 - q.fGlyph
  | [], q, _, h => by simp; omega
  | y :: t, q, h, h0 => by
    simp only [jnG, ltJ, jnB, inB, Bool.and_eq_true, decide_eq_true_eq] at h
    have := jnG_len t y h.2.2 h.1.1.2
    simp only [List.length_cons]
    omega
theorem jns_len {xs : List TJoin} (h : jnG none xs = true) : xs.length ≤ 40 := by
  cases xs with
  | nil => simp
  | cons y t =>
    rw [jnG] at h
    simp only [jnB, inB, Bool.and_eq_true, decide_eq_true_eq] at h
    have := jnG_len t y h.2.2 h.1.1.2
    simp only [List.length_cons]
    omega
structure FtF (f : TFeatures) : Prop where
  lk : ∀ l ∈ f.fLookups, lkB l = true
  lkn : f.fLookups.length ≤ 8
  kn : ∀ k ∈ f.fKerns, knB k = true
  knn : f.fKerns.length ≤ 40
  mar : ∀ k ∈ f.fMarks, mkB k = true
  marn : f.fMarks.length ≤ 12
  jn : ∀ k ∈ f.fJoins, jnB k = true
  jnn : f.fJoins.length ≤ 40
theorem ftB_F {f : TFeatures} (h : ftB f = true) : FtF f := by
  simp only [ftB, lksB, Bool.and_eq_true, decide_eq_true_eq, List.all_eq_true] at h
  exact ⟨lkG_all _ _ h.1.2, h.1.1, h.2.2.2.1, h.2.1, h.2.2.2.2.1, h.2.2.1, jnG_all _ _ h.2.2.2.2.2, jns_len h.2.2.2.2.2⟩
theorem knB_l {k : TKern} (h : knB k = true) : fcB k.fLeft = true ∧ fcB k.fRight = true := by
  simp only [knB, Bool.and_eq_true] at h; exact ⟨h.1, h.2.1⟩
theorem mkB_l {k : TMarkRule} (h : mkB k = true) : fcB k.fMarks = true ∧ fcB k.fBases = true := by
  simp only [mkB, Bool.and_eq_true] at h; exact ⟨h.1, h.2.1⟩
theorem jnGl_len (j : TJoin) : (jnGl j).length ≤ 4 := by
  have := List.length_filter_le (fun g => decide ((0 : Int) ≤ g)) [j.fInit, j.fMedi, j.fFina]
  simp only [jnGl, List.length_cons, List.length_nil] at this ⊢
  omega
theorem usG_bnd {f : TFeatures} (h : ftB f = true) : ∀ g ∈ usG f, 0 ≤ g ∧ g ≤ 39 := by
  have F := ftB_F h
  intro g hg
  simp only [usG, List.mem_append, List.mem_flatMap] at hg
  rcases hg with ((⟨l, hl, hg⟩ | ⟨k, hk, hg⟩) | ⟨k, hk, hg⟩) | ⟨j, hj, hg⟩
  · obtain ⟨r, hr, hg⟩ := List.mem_flatMap.1 (show g ∈ l.fRules.flatMap ruGl from hg)
    exact ruGl_bnd ((lkB_ru (F.lk l hl)).1 r hr) g hg
  · obtain ⟨h1, h2⟩ := knB_l (F.kn k hk)
    rcases List.mem_append.1 (show g ∈ k.fLeft ++ k.fRight from hg) with hg | hg
    · exact fcB_bnd h1 g hg
    · exact fcB_bnd h2 g hg
  · obtain ⟨h1, h2⟩ := mkB_l (F.mar k hk)
    rcases List.mem_append.1 (show g ∈ k.fMarks ++ k.fBases from hg) with hg | hg
    · exact fcB_bnd h1 g hg
    · exact fcB_bnd h2 g hg
  · have hb := F.jn j hj
    simp only [jnB, fmB, inB, Bool.and_eq_true, decide_eq_true_eq] at hb
    simp only [jnGl, List.mem_cons, List.mem_filter, List.not_mem_nil, or_false, decide_eq_true_eq] at hg
    rcases hg with rfl | ⟨rfl | rfl | rfl, hg⟩ <;> omega
def hasI (xs : List Int) (x : Int) : Bool := xs.any fun y => y == x
theorem fdx_find {α : Type} (p : α → Bool) : ∀ (xs : List α) (k : Nat), (fdx p xs k = -1 ∧ xs.find? p = none) ∨ ∃ (i : Nat) (x : α), fdx p xs k = ((k + i : Nat) : Int) ∧ xs[i]? = some x ∧ xs.find? p = some x
  | [], k => .inl ⟨rfl, rfl⟩
  | x :: t, k => by
    rw [fdx, List.find?_cons]
    by_cases h : p x = true
    · rw [if_pos h, h]
      exact .inr ⟨0, x, by simp, rfl, rfl⟩
    · rw [if_neg h]
      have h' : p x = false := by simpa using h
      rw [h']
      rcases fdx_find p t (k + 1) with ⟨h1, h2⟩ | ⟨i, y, h1, h2, h3⟩
      · exact .inl ⟨h1, h2⟩
      · exact .inr ⟨i + 1, y, by rw [h1]; congr 1; omega, by simpa using h2, h3⟩
def itB (g : Int) (x : TItem) : Bool := inB x.fGlyph 0 (g - 1) && (inB x.fFrom 0 262144 && inB x.fLen 0 262144)
def enO : Option TItem → TItem → Bool
  | none, _ => true
  | some p, x => decide (p.fFrom + p.fLen ≤ x.fFrom)
def rnG (g : Int) : Option TItem → List TItem → Bool
  | _, [] => true
  | o, x :: t => itB g x && (enO o x && rnG g (some x) t)
theorem rnG_at {g : Int} {xs : List TItem} {k : Nat} {x : TItem} (hx : xs[k]? = some x) : rnG g (pv xs k) (xs.drop k) = (itB g x && (enO (pv xs k) x && rnG g (pv xs (k + 1)) (xs.drop (k + 1)))) := by
  rw [drop_at hx, rnG, pv_succ, hx]
theorem rnG_end {g : Int} {xs : List TItem} {k : Nat} {o : Option TItem} (hk : xs.length ≤ k) : rnG g o (xs.drop k) = true := by
  rw [List.drop_eq_nil_of_le hk]; rfl
theorem rnG_bnd {g : Int} : ∀ (xs : List TItem) (o : Option TItem), rnG g o xs = true → ∀ x ∈ xs, itB g x = true
  | [], _, _, x, hx => by simp at hx
  | y :: t, o, h, x, hx => by
    simp only [rnG, Bool.and_eq_true] at h
    rcases List.mem_cons.1 hx with rfl | hx
    · exact h.1
    · exact rnG_bnd t _ h.2.2 x hx
def vrB (xs : List TItem) (g : Int) : Bool := decide (g ≤ 40) && (decide (xs.length ≤ 60) && rnG g none xs)
def inC : List (List Int) → List TItem → Bool
  | [], [] => true
  | c :: cs, x :: xs => hasI c x.fGlyph && inC cs xs
  | [], _ :: _ => false
  | _ :: _, [] => false
theorem inC_len : ∀ {cs : List (List Int)} {xs : List TItem}, xs.length ≠ cs.length → inC cs xs = false
  | [], [], h => absurd rfl h
  | c :: cs, x :: xs, h => by rw [inC, inC_len (fun e => h (by simp [e])), Bool.and_false]
  | [], _ :: _, _ => rfl
  | _ :: _, [], _ => rfl
theorem inC_at {cs : List (List Int)} {xs : List TItem} {k : Nat} {c : List Int} {x : TItem} (hc : cs[k]? = some c) (hx : xs[k]? = some x) : inC (cs.drop k) (xs.drop k) = (hasI c x.fGlyph && inC (cs.drop (k + 1)) (xs.drop (k + 1))) := by
  rw [drop_at hc, drop_at hx, inC]
theorem inC_end {cs : List (List Int)} {xs : List TItem} {k : Nat} (h1 : cs.length ≤ k) (h2 : xs.length ≤ k) : inC (cs.drop k) (xs.drop k) = true := by
  rw [List.drop_eq_nil_of_le h1, List.drop_eq_nil_of_le h2]; rfl
def cut (xs : List TItem) (a n : Nat) : List TItem := (xs.drop a).take n
def fit (cs : List (List Int)) (xs : List TItem) (a : Int) : Bool := decide (0 ≤ a) && (decide (a + cs.length ≤ xs.length) && inC cs (cut xs a.toNat cs.length))
def apRu (r : TRule) (xs : List TItem) (at' : Nat) : Bool :=
  fit r.fInput xs at' && (fit r.fBefore xs ((at' : Int) - r.fBefore.length) && fit r.fAfter xs ((at' : Int) + r.fInput.length))
def putL : Bool → Int → Int → List Int → List TItem
  | _, _, _, [] => []
  | true, from', end', g :: t => ⟨g, from', end' - from'⟩ :: putL false from' end' t
  | false, from', end', g :: t => ⟨g, end', 0⟩ :: putL false from' end' t
theorem putL_len (b : Bool) (f e : Int) : ∀ xs : List Int, (putL b f e xs).length = xs.length
  | [] => by cases b <;> rfl
  | x :: t => by cases b <;> simp [putL, putL_len false f e t]
def endO (xs : List TItem) (k : Nat) : Int := match xs[k]? with | some x => x.fFrom + x.fLen | none => 0
def fromO (xs : List TItem) (k : Nat) : Int := match xs[k]? with | some x => x.fFrom | none => 0
def rplL (r : TRule) (xs : List TItem) (a : Nat) : List TItem :=
  xs.take a ++ putL true (fromO xs a) (endO xs (a + r.fInput.length - 1)) r.fOutput ++ xs.drop (a + r.fInput.length)
theorem putL_snoc (b : Bool) (f e : Int) : ∀ (xs : List Int) (g : Int), putL b f e (xs ++ [g]) = putL b f e xs ++ [if xs.isEmpty && b then ⟨g, f, e - f⟩ else ⟨g, e, 0⟩]
  | [], g => by cases b <;> rfl
  | x :: t, g => by cases b <;> simp [putL, putL_snoc false f e t g]
theorem putL_succ {f e : Int} {xs : List Int} {k : Nat} {g : Int} (hg : xs[k]? = some g) : putL true f e (xs.take (k + 1)) = putL true f e (xs.take k) ++ [if k = 0 then ⟨g, f, e - f⟩ else ⟨g, e, 0⟩] := by
  rw [take_snoc_get hg, putL_snoc]
  have hk := (List.getElem?_eq_some_iff.1 hg).1
  congr 2
  by_cases h : k = 0
  · subst h; simp
  · rw [if_neg h, if_neg]
    simp only [List.isEmpty_iff, Bool.and_true]
    intro h'
    have h2 := congrArg List.length h'
    simp at h2
    rcases h2 with h2 | h2
    · exact h h2
    · rw [h2] at hk; simp at hk
def wkI (x : TItem) : Prop := (0 ≤ x.fFrom ∧ x.fFrom ≤ 524288) ∧ (0 ≤ x.fFrom + x.fLen ∧ x.fFrom + x.fLen ≤ 524288)
theorem putL_wk {f e : Int} (hf : 0 ≤ f ∧ f ≤ 524288) (he : 0 ≤ e ∧ e ≤ 524288) : ∀ (b : Bool) (xs : List Int), ∀ x ∈ putL b f e xs, wkI x
  | _, [], x, hx => by rename_i b; cases b <;> simp [putL] at hx
  | true, g :: t, x, hx => by
    rcases List.mem_cons.1 (show x ∈ (⟨g, f, e - f⟩ : TItem) :: putL false f e t from hx) with rfl | hx
    · exact ⟨hf, by show 0 ≤ f + (e - f) ∧ f + (e - f) ≤ 524288; omega⟩
    · exact putL_wk hf he false t x hx
  | false, g :: t, x, hx => by
    rcases List.mem_cons.1 (show x ∈ (⟨g, e, 0⟩ : TItem) :: putL false f e t from hx) with rfl | hx
    · exact ⟨he, by show 0 ≤ e + 0 ∧ e + 0 ≤ 524288; omega⟩
    · exact putL_wk hf he false t x hx
theorem fit_le {cs : List (List Int)} {xs : List TItem} {a : Int} (h : fit cs xs a = true) : 0 ≤ a ∧ a + cs.length ≤ xs.length := by
  simp only [fit, Bool.and_eq_true, decide_eq_true_eq] at h
  exact ⟨h.1, h.2.1⟩
theorem apRu_le {r : TRule} {xs : List TItem} {a : Nat} (h : apRu r xs a = true) : a + r.fInput.length ≤ xs.length := by
  simp only [apRu, Bool.and_eq_true] at h
  have := fit_le h.1
  omega
theorem rpl_wk {r : TRule} {xs : List TItem} {a : Nat} (hw : ∀ x ∈ xs, wkI x) (h1 : 1 ≤ r.fInput.length) (h2 : a + r.fInput.length ≤ xs.length) : ∀ x ∈ rplL r xs a, wkI x := by
  obtain ⟨y, hy⟩ := at_lt' (xs := xs) (k := a) (by omega)
  obtain ⟨z, hz⟩ := at_lt' (xs := xs) (k := a + r.fInput.length - 1) (by omega)
  have wy := hw y (List.mem_of_getElem? hy)
  have wz := hw z (List.mem_of_getElem? hz)
  intro x hx
  rw [rplL, fromO, endO, hy, hz] at hx
  simp only [List.mem_append] at hx
  rcases hx with (hx | hx) | hx
  · exact hw x (List.mem_of_mem_take hx)
  · exact putL_wk wy.1 wz.2 true _ x hx
  · exact hw x (List.mem_of_mem_drop hx)
theorem rpl_len {r : TRule} {xs : List TItem} {a : Nat} (h2 : a + r.fInput.length ≤ xs.length) : (rplL r xs a).length + r.fInput.length = xs.length + r.fOutput.length := by
  rw [rplL]
  simp only [List.length_append, List.length_take, List.length_drop, putL_len]
  omega
def ruI (l : TLookup) (xs : List TItem) (a : Nat) : Int := fdx (fun r => apRu r xs a) l.fRules 0
def apF (l : TLookup) : Nat → List TItem → List Int → Nat → Option (List TItem × List Int)
  | 0, xs, tr, _ => some (xs, tr)
  | n + 1, xs, tr, a =>
    if xs.length ≤ a then some (xs, tr)
    else if ruI l xs a < 0 then apF l n xs tr (a + 1)
    else match l.fRules[(ruI l xs a).toNat]? with
      | none => none
      | some r => if 60 < (rplL r xs a).length then none else apF l n (rplL r xs a) (tr ++ [ruI l xs a]) (a + r.fOutput.length)
theorem apF_more (l : TLookup) (hr : ∀ r ∈ l.fRules, 1 ≤ r.fInput.length) : ∀ (n m : Nat) (xs : List TItem) (tr : List Int) (a : Nat), xs.length - a < n → n ≤ m → apF l n xs tr a = apF l m xs tr a
  | 0, m, xs, tr, a, h, _ => by omega
  | n + 1, 0, xs, tr, a, _, h => by omega
  | n + 1, m + 1, xs, tr, a, h, hm => by
    rw [apF, apF]
    by_cases h1 : xs.length ≤ a
    · rw [if_pos h1, if_pos h1]
    · rw [if_neg h1, if_neg h1]
      by_cases h2 : ruI l xs a < 0
      · rw [if_pos h2, if_pos h2]
        exact apF_more l hr n m xs tr (a + 1) (by omega) (by omega)
      · rw [if_neg h2, if_neg h2]
        cases h3 : l.fRules[(ruI l xs a).toNat]? with
        | none => rfl
        | some r =>
          simp only
          split
          · rfl
          · refine apF_more l hr n m _ _ _ ?_ (by omega)
            have h4 := hr r (List.mem_of_getElem? h3)
            have h5 : apRu r xs a = true := by
              rcases fdx_find (fun r => apRu r xs a) l.fRules 0 with ⟨q1, _⟩ | ⟨i, x, q1, q2, q3⟩
              · exact absurd (show ruI l xs a = -1 from q1) (by omega)
              · have q1' : ruI l xs a = ((0 + i : Nat) : Int) := q1
                rw [q1', Int.toNat_natCast, Nat.zero_add, q2] at h3
                cases h3
                simpa using List.find?_some q3
            have h6 := rpl_len (apRu_le h5)
            have h7 := apRu_le h5
            omega
def apL (l : TLookup) (xs : List TItem) : Option (List TItem × List Int) := apF l (xs.length + 1) xs [] 0
def lenS {α : Type} : List (List α) → Nat
  | [] => 0
  | x :: xs => x.length + lenS xs
theorem lenS_app {α : Type} : ∀ xs ys : List (List α), lenS (xs ++ ys) = lenS xs + lenS ys
  | [], ys => by simp [lenS]
  | x :: xs, ys => by simp [lenS, lenS_app xs ys]; omega
theorem lenS_flat {α : Type} : ∀ xs : List (List α), xs.flatten.length = lenS xs
  | [] => rfl
  | x :: xs => by simp [lenS, lenS_flat xs]
theorem lenS_take {α : Type} (xs : List (List α)) (k : Nat) : lenS (xs.take k) ≤ lenS xs := by
  have := lenS_app (xs.take k) (xs.drop k)
  rw [List.take_append_drop] at this
  omega
theorem lenS_succ {α : Type} {xs : List (List α)} {k : Nat} {x : List α} (hx : xs[k]? = some x) : lenS (xs.take (k + 1)) = lenS (xs.take k) + x.length := by
  rw [take_snoc_get hx, lenS_app]; rfl
theorem growI_v (m : Nat) (hb : m ≤ 1000000) : PC Tryz.prog 201 [.nils, .d (.int .i64 m)] (.own 1 0 0) [.arr 1 (List.replicate m (D.int .i64 0)) true] := by
  refine pc_intro ttOk (by kernel_rfl) Tryz.func201 rfl (by kernel_rfl) (by kernel_rfl) (by kernel_rfl) (fun hw => ?_)
  (conv => whnf)
  (repeat' (first | (refine stg_ ?_) | (refine ZrW.atn m (by omega) (by omega) (by omega) (by (show m * 8 ≤ 140737488355328); omega) ?_; (conv => whnf)) | (refine br_ (fun hbr => ?_) (fun hbr => ?_))))
  all_goals first | (exfalso; omega) | skip
  · (refine ⟨⟨[some 1], ⟨by decide, rfl, trivial, trivial⟩, by decide, rfl, ?_⟩⟩; (conv => whnf); exact ⟨by decide, rfl⟩)
  · obtain rfl : m = 0 := by omega
    exact ⟨⟨[none], ⟨rfl, trivial⟩, by decide, rfl, by decide, rfl, rfl, rfl⟩⟩
set_option maxHeartbeats 2000000 in
theorem catI_v (xss : List (List Int)) (hb : lenS xss ≤ 1000000) : PC Tryz.prog 160 [.d (.lst (xss.map (lstD (D.int .i64))))] (.own 1 0 (lenS xss)) [.arr 1 (xss.flatten.map (D.int .i64)) true] := by
  refine pc_intro ttOk (by kernel_rfl) Tryz.func160 rfl (by kernel_rfl) (by kernel_rfl) (by kernel_rfl) (fun hw => ?_)
  have hL : (xss.map (lstD (D.int .i64))).length = xss.length := List.length_map _
  have hm : (xss.map (lstD (D.int .i64))).length ≤ 9223372036854775807 := hw.1.1
  (conv => whnf)
  refine LoopW.go (α := Nat) (fun k => [(0, .d (.lst (xss.map (lstD (D.int .i64))))), (2, .nils), (3, .d (.int .i64 (lenS (xss.take k)))), (9, .d (.lst (xss.map (lstD (D.int .i64))))), (10, .d (.int .i64 (xss.map (lstD (D.int .i64))).length)), (11, .d (.int .i64 k))]) (fun k => [.gone]) (fun k => k ≤ xss.length) (fun k => xss.length - k) 0 covT_ ?_ (fun k hk => ?_)
  · omega
  (conv => whnf)
  (refine br_ (fun h2 => ?_) (fun h2 => ?_) <;> (repeat (refine stg_ ?_)))
  · obtain ⟨x, hx⟩ := at_lt' (xs := xss) (k := k) (by omega)
    have hS := lenS_succ hx
    have hS2 := lenS_take xss (k + 1)
    have hxl : (x.map (D.int .i64)).length = x.length := List.length_map _
    (repeat' (first | (refine stg_ ?_) | fail | (refine br_ (fun hbr => ?_) (fun hbr => ?_))))
    all_goals first | (exfalso; omega) | (refine NextW.go (k + 1) (Weak.cov ⟨rfl, rfl, ?_, rfl, rfl, rfl, trivial⟩ ⟨trivial, trivial⟩ rfl) (by omega) (by omega); rw [hS, hxl]; rfl)
  · obtain rfl : k = xss.length := by omega
    rw [List.take_length] at *
    have c1 := growI_v (lenS xss) hb
    (repeat' (first | (refine stg_ ?_) | (refine cla_ (c1) ?_) | (refine br_ (fun hbr => ?_) (fun hbr => ?_))))
    refine LoopW.go (α := Nat) (fun k => [(0, .d (.lst (xss.map (lstD (D.int .i64))))), (6, .own 1 0 (lenS (xss.take k))), (25, .d (.lst (xss.map (lstD (D.int .i64))))), (26, .d (.int .i64 (xss.map (lstD (D.int .i64))).length)), (27, .d (.int .i64 k))]) (fun k => [.gone, .arr 1 ((xss.take k).flatten.map (D.int .i64)) true]) (fun k => k ≤ xss.length) (fun k => xss.length - k) 0 (Weak.trans (Weak.cut0 1 true rfl rfl) (Weak.cov ⟨rfl, rfl, rfl, rfl, rfl, trivial⟩ ⟨trivial, rfl, trivial⟩ rfl)) (by omega) (fun k hk => ?_)
    have hd : ((xss.take k).flatten.map (D.int .i64)).length = lenS (xss.take k) := by rw [List.length_map, lenS_flat]
    (conv => whnf)
    (refine br_ (fun h3 => ?_) (fun h3 => ?_) <;> (repeat (refine stg_ ?_)))
    · obtain ⟨x, hx⟩ := at_lt' (xs := xss) (k := k) (by omega)
      have hS := lenS_succ hx
      have hS2 := lenS_take xss (k + 1)
      have hxl : (x.map (D.int .i64)).length = x.length := List.length_map _
      have hF : (xss.take (k + 1)).flatten.map (D.int .i64) = (xss.take k).flatten.map (D.int .i64) ++ x.map (D.int .i64) := by rw [take_snoc_get hx, List.flatten_append, List.map_append]; simp
      (repeat' (first | (refine stg_ ?_) | fail | (refine br_ (fun hbr => ?_) (fun hbr => ?_))))
      refine NextW.go (k + 1) (Weak.cov ⟨rfl, ?_, rfl, rfl, rfl, trivial⟩ ⟨trivial, ?_, trivial⟩ rfl) (by omega) (by omega)
      · rw [hS, hxl]; rfl
      · rw [hF, ← hd, List.take_length]
    · obtain rfl : k = xss.length := by omega
      rw [List.take_length] at *
      (refine ⟨⟨[some 1], ⟨by decide, rfl, trivial, trivial⟩, by decide, rfl, ?_⟩⟩; (conv => whnf); exact ⟨by decide, rfl⟩)
theorem cloneI_v (xs : List Int) (hb : xs.length ≤ 1000000) : PC Tryz.prog 202 [.d (.lst (xs.map (D.int .i64)))] (.own 1 0 xs.length) [.arr 1 (xs.map (D.int .i64)) true] := by
  refine pc_intro ttOk (by kernel_rfl) Tryz.func202 rfl (by kernel_rfl) (by kernel_rfl) (by kernel_rfl) (fun hw => ?_)
  have hL : (xs.map (D.int .i64)).length = xs.length := List.length_map _
  (conv => whnf)
  (repeat' (first | (refine stg_ ?_) | (refine NlW.mk' (fun hnl => ?_) ?_) | (refine br_ (fun hbr => ?_) (fun hbr => ?_))))
  · obtain rfl : xs = [] := List.eq_nil_of_length_eq_zero (by omega)
    exact ⟨⟨[none], ⟨rfl, trivial⟩, by decide, rfl, by decide, rfl, rfl, rfl⟩⟩
  · refine ⟨⟨[some 1], ⟨by decide, rfl, trivial, trivial⟩, by decide, rfl, by decide, ?_⟩⟩
    show V.own 1 0 (0 + (xs.map (D.int .i64)).length) = _
    rw [Nat.zero_add, hL]
theorem growL_v (m : Nat) (hb : m ≤ 1000000) : PC Tryz.prog 200 [.nils, .d (.int .i64 m)] (.own 1 0 0) [.arr 1 (List.replicate m (D.lst [])) true] := by
  refine pc_intro ttOk (by kernel_rfl) Tryz.func200 rfl (by kernel_rfl) (by kernel_rfl) (by kernel_rfl) (fun hw => ?_)
  (conv => whnf)
  (repeat' (first | (refine stg_ ?_) | (refine ZrW.atn m (by omega) (by omega) (by omega) (by (show m * 24 ≤ 140737488355328); omega) ?_; (conv => whnf)) | (refine br_ (fun hbr => ?_) (fun hbr => ?_))))
  all_goals first | (exfalso; omega) | skip
  · (refine ⟨⟨[some 1], ⟨by decide, rfl, trivial, trivial⟩, by decide, rfl, ?_⟩⟩; (conv => whnf); exact ⟨by decide, rfl⟩)
  · obtain rfl : m = 0 := by omega
    exact ⟨⟨[none], ⟨rfl, trivial⟩, by decide, rfl, by decide, rfl, rfl, rfl⟩⟩
set_option maxHeartbeats 2000000 in
theorem catL_v (xss : List (List (List Int))) (hb : lenS xss ≤ 1000000) : PC Tryz.prog 159 [.d (.lst (xss.map (lstD (lstD (D.int .i64)))))] (.own 1 0 (lenS xss)) [.arr 1 (xss.flatten.map (lstD (D.int .i64))) false] := by
  refine pc_intro ttOk (by kernel_rfl) Tryz.func159 rfl (by kernel_rfl) (by kernel_rfl) (by kernel_rfl) (fun hw => ?_)
  have hL : (xss.map (lstD (lstD (D.int .i64)))).length = xss.length := List.length_map _
  have hm : (xss.map (lstD (lstD (D.int .i64)))).length ≤ 9223372036854775807 := hw.1.1
  (conv => whnf)
  refine LoopW.go (α := Nat) (fun k => [(0, .d (.lst (xss.map (lstD (lstD (D.int .i64)))))), (2, .nils), (3, .d (.int .i64 (lenS (xss.take k)))), (9, .d (.lst (xss.map (lstD (lstD (D.int .i64)))))), (10, .d (.int .i64 (xss.map (lstD (lstD (D.int .i64)))).length)), (11, .d (.int .i64 k))]) (fun k => [.gone]) (fun k => k ≤ xss.length) (fun k => xss.length - k) 0 covT_ ?_ (fun k hk => ?_)
  · omega
  (conv => whnf)
  (refine br_ (fun h2 => ?_) (fun h2 => ?_) <;> (repeat (refine stg_ ?_)))
  · obtain ⟨x, hx⟩ := at_lt' (xs := xss) (k := k) (by omega)
    have hS := lenS_succ hx
    have hS2 := lenS_take xss (k + 1)
    have hxl : (x.map (lstD (D.int .i64))).length = x.length := List.length_map _
    (repeat' (first | (refine stg_ ?_) | fail | (refine br_ (fun hbr => ?_) (fun hbr => ?_))))
    all_goals first | (exfalso; omega) | (refine NextW.go (k + 1) (Weak.cov ⟨rfl, rfl, ?_, rfl, rfl, rfl, trivial⟩ ⟨trivial, trivial⟩ rfl) (by omega) (by omega); rw [hS, hxl]; rfl)
  · obtain rfl : k = xss.length := by omega
    rw [List.take_length] at *
    have c1 := growL_v (lenS xss) hb
    (repeat' (first | (refine stg_ ?_) | (refine cla_ (c1) ?_) | (refine br_ (fun hbr => ?_) (fun hbr => ?_))))
    refine LoopW.go (α := Nat) (fun k => [(0, .d (.lst (xss.map (lstD (lstD (D.int .i64)))))), (6, .own 1 0 (lenS (xss.take k))), (25, .d (.lst (xss.map (lstD (lstD (D.int .i64)))))), (26, .d (.int .i64 (xss.map (lstD (lstD (D.int .i64)))).length)), (27, .d (.int .i64 k))]) (fun k => [.gone, .arr 1 ((xss.take k).flatten.map (lstD (D.int .i64))) false]) (fun k => k ≤ xss.length) (fun k => xss.length - k) 0 (Weak.trans (Weak.cut0 1 false rfl rfl) (Weak.cov ⟨rfl, rfl, rfl, rfl, rfl, trivial⟩ ⟨trivial, rfl, trivial⟩ rfl)) (by omega) (fun k hk => ?_)
    have hd : ((xss.take k).flatten.map (lstD (D.int .i64))).length = lenS (xss.take k) := by rw [List.length_map, lenS_flat]
    (conv => whnf)
    (refine br_ (fun h3 => ?_) (fun h3 => ?_) <;> (repeat (refine stg_ ?_)))
    · obtain ⟨x, hx⟩ := at_lt' (xs := xss) (k := k) (by omega)
      have hS := lenS_succ hx
      have hS2 := lenS_take xss (k + 1)
      have hxl : (x.map (lstD (D.int .i64))).length = x.length := List.length_map _
      have hF : (xss.take (k + 1)).flatten.map (lstD (D.int .i64)) = (xss.take k).flatten.map (lstD (D.int .i64)) ++ x.map (lstD (D.int .i64)) := by rw [take_snoc_get hx, List.flatten_append, List.map_append]; simp
      (repeat' (first | (refine stg_ ?_) | fail | (refine br_ (fun hbr => ?_) (fun hbr => ?_))))
      refine NextW.go (k + 1) (Weak.cov ⟨rfl, ?_, rfl, rfl, rfl, trivial⟩ ⟨trivial, ?_, trivial⟩ rfl) (by omega) (by omega)
      · rw [hS, hxl]; rfl
      · rw [hF, ← hd, List.take_length]
    · obtain rfl : k = xss.length := by omega
      rw [List.take_length] at *
      (refine ⟨⟨[some 1], ⟨by decide, rfl, trivial, trivial⟩, by decide, rfl, ?_⟩⟩; (conv => whnf); exact ⟨by decide, rfl⟩)
theorem growItem_v (m : Nat) (hb : m ≤ 1000000) : PC Tryz.prog 247 [.nils, .d (.int .i64 m)] (.own 1 0 0) [.arr 3 (List.replicate m (D.st [.int .i64 0, .int .i64 0, .int .i64 0])) true] := by
  refine pc_intro ttOk (by kernel_rfl) Tryz.func247 rfl (by kernel_rfl) (by kernel_rfl) (by kernel_rfl) (fun hw => ?_)
  (conv => whnf)
  (repeat' (first | (refine stg_ ?_) | (refine ZrW.atn m (by omega) (by omega) (by omega) (by (show m * 24 ≤ 140737488355328); omega) ?_; (conv => whnf)) | (refine br_ (fun hbr => ?_) (fun hbr => ?_))))
  all_goals first | (exfalso; omega) | skip
  · (refine ⟨⟨[some 1], ⟨by decide, rfl, trivial, trivial⟩, by decide, rfl, ?_⟩⟩; (conv => whnf); exact ⟨by decide, rfl⟩)
  · obtain rfl : m = 0 := by omega
    exact ⟨⟨[none], ⟨rfl, trivial⟩, by decide, rfl, by decide, rfl, rfl, rfl⟩⟩
set_option maxHeartbeats 2000000 in
theorem catItem_v (xss : List (List TItem)) (hb : lenS xss ≤ 1000000) : PC Tryz.prog 229 [.d (.lst (xss.map (lstD TItem.D)))] (.own 1 0 (lenS xss)) [.arr 3 (xss.flatten.map TItem.D) true] := by
  refine pc_intro ttOk (by kernel_rfl) Tryz.func229 rfl (by kernel_rfl) (by kernel_rfl) (by kernel_rfl) (fun hw => ?_)
  have hL : (xss.map (lstD TItem.D)).length = xss.length := List.length_map _
  have hm : (xss.map (lstD TItem.D)).length ≤ 9223372036854775807 := hw.1.1
  (conv => whnf)
  refine LoopW.go (α := Nat) (fun k => [(0, .d (.lst (xss.map (lstD TItem.D)))), (2, .nils), (3, .d (.int .i64 (lenS (xss.take k)))), (9, .d (.lst (xss.map (lstD TItem.D)))), (10, .d (.int .i64 (xss.map (lstD TItem.D)).length)), (11, .d (.int .i64 k))]) (fun k => [.gone]) (fun k => k ≤ xss.length) (fun k => xss.length - k) 0 covT_ ?_ (fun k hk => ?_)
  · omega
  (conv => whnf)
  (refine br_ (fun h2 => ?_) (fun h2 => ?_) <;> (repeat (refine stg_ ?_)))
  · obtain ⟨x, hx⟩ := at_lt' (xs := xss) (k := k) (by omega)
    have hS := lenS_succ hx
    have hS2 := lenS_take xss (k + 1)
    have hxl : (x.map TItem.D).length = x.length := List.length_map _
    (repeat' (first | (refine stg_ ?_) | fail | (refine br_ (fun hbr => ?_) (fun hbr => ?_))))
    all_goals first | (exfalso; omega) | (refine NextW.go (k + 1) (Weak.cov ⟨rfl, rfl, ?_, rfl, rfl, rfl, trivial⟩ ⟨trivial, trivial⟩ rfl) (by omega) (by omega); rw [hS, hxl]; rfl)
  · obtain rfl : k = xss.length := by omega
    rw [List.take_length] at *
    have c1 := growItem_v (lenS xss) hb
    (repeat' (first | (refine stg_ ?_) | (refine cla_ (c1) ?_) | (refine br_ (fun hbr => ?_) (fun hbr => ?_))))
    refine LoopW.go (α := Nat) (fun k => [(0, .d (.lst (xss.map (lstD TItem.D)))), (6, .own 1 0 (lenS (xss.take k))), (25, .d (.lst (xss.map (lstD TItem.D)))), (26, .d (.int .i64 (xss.map (lstD TItem.D)).length)), (27, .d (.int .i64 k))]) (fun k => [.gone, .arr 3 ((xss.take k).flatten.map TItem.D) true]) (fun k => k ≤ xss.length) (fun k => xss.length - k) 0 (Weak.trans (Weak.cut0 1 true rfl rfl) (Weak.cov ⟨rfl, rfl, rfl, rfl, rfl, trivial⟩ ⟨trivial, rfl, trivial⟩ rfl)) (by omega) (fun k hk => ?_)
    have hd : ((xss.take k).flatten.map TItem.D).length = lenS (xss.take k) := by rw [List.length_map, lenS_flat]
    (conv => whnf)
    (refine br_ (fun h3 => ?_) (fun h3 => ?_) <;> (repeat (refine stg_ ?_)))
    · obtain ⟨x, hx⟩ := at_lt' (xs := xss) (k := k) (by omega)
      have hS := lenS_succ hx
      have hS2 := lenS_take xss (k + 1)
      have hxl : (x.map TItem.D).length = x.length := List.length_map _
      have hF : (xss.take (k + 1)).flatten.map TItem.D = (xss.take k).flatten.map TItem.D ++ x.map TItem.D := by rw [take_snoc_get hx, List.flatten_append, List.map_append]; simp
      (repeat' (first | (refine stg_ ?_) | fail | (refine br_ (fun hbr => ?_) (fun hbr => ?_))))
      refine NextW.go (k + 1) (Weak.cov ⟨rfl, ?_, rfl, rfl, rfl, trivial⟩ ⟨trivial, ?_, trivial⟩ rfl) (by omega) (by omega)
      · rw [hS, hxl]; rfl
      · rw [hF, ← hd, List.take_length]
    · obtain rfl : k = xss.length := by omega
      rw [List.take_length] at *
      (refine ⟨⟨[some 1], ⟨by decide, rfl, trivial, trivial⟩, by decide, rfl, ?_⟩⟩; (conv => whnf); exact ⟨by decide, rfl⟩)
theorem cloneItem_v (xs : List TItem) (hb : xs.length ≤ 1000000) : PC Tryz.prog 142 [.d (.lst (xs.map TItem.D))] (.own 1 0 xs.length) [.arr 3 (xs.map TItem.D) true] := by
  refine pc_intro ttOk (by kernel_rfl) Tryz.func142 rfl (by kernel_rfl) (by kernel_rfl) (by kernel_rfl) (fun hw => ?_)
  have hL : (xs.map TItem.D).length = xs.length := List.length_map _
  (conv => whnf)
  (repeat' (first | (refine stg_ ?_) | (refine NlW.mk' (fun hnl => ?_) ?_) | (refine br_ (fun hbr => ?_) (fun hbr => ?_))))
  · obtain rfl : xs = [] := List.eq_nil_of_length_eq_zero (by omega)
    exact ⟨⟨[none], ⟨rfl, trivial⟩, by decide, rfl, by decide, rfl, rfl, rfl⟩⟩
  · refine ⟨⟨[some 1], ⟨by decide, rfl, trivial, trivial⟩, by decide, rfl, by decide, ?_⟩⟩
    show V.own 1 0 (0 + (xs.map TItem.D).length) = _
    rw [Nat.zero_add, hL]
theorem isGlyphNumber_v (n : Int) : PC Tryz.prog 109 [.d (.int .i64 n)] (.d (.bool (inB n 0 39))) [] := by
  refine pc_intro ttOk (by kernel_rfl) Tryz.func109 rfl (by kernel_rfl) (by kernel_rfl) (by kernel_rfl) (fun hw => ?_)
  (conv => whnf)
  (repeat' (first | (refine stg_ ?_) | fail | (refine br_ (fun hbr => ?_) (fun hbr => ?_))))
  all_goals ((refine RetOK.d rfl rfl ?_; conv => whnf); simp_all [inB]; try omega)
theorem ValidClass_v (xs : List Int) : PC Tryz.prog 53 [.d (.lst (xs.map (D.int .i64)))] (.d (.bool (clsB xs))) [] := by
  refine pc_intro ttOk (by kernel_rfl) Tryz.func53 rfl (by kernel_rfl) (by kernel_rfl) (by kernel_rfl) (fun hw => ?_)
  have hL : (xs.map (D.int .i64)).length = xs.length := List.length_map _
  have hm : (xs.map (D.int .i64)).length ≤ 9223372036854775807 := hw.1.1
  (conv => whnf)
  refine LoopW.go (α := Nat) (fun k => [(0, .d (.lst (xs.map (D.int .i64)))), (5, .d (.lst (xs.map (D.int .i64)))), (6, .d (.int .i64 (xs.map (D.int .i64)).length)), (7, .d (.int .i64 k))]) (fun k => [.gone]) (fun k => k ≤ xs.length ∧ clsB xs = clG (pv xs k) (xs.drop k)) (fun k => xs.length - k) 0 covT_ ?_ (fun k hk => ?_)
  · exact ⟨by omega, rfl⟩
  obtain ⟨hk1, hk2⟩ := hk
  (conv => whnf)
  (refine br_ (fun h2 => ?_) (fun h2 => ?_) <;> (repeat (refine stg_ ?_)))
  · obtain ⟨x, hx⟩ := at_lt' (xs := xs) (k := k) (by omega)
    rw [clG_at hx] at hk2
    rcases Nat.eq_zero_or_pos k with rfl | h0
    · rw [pv_zero, ltQ, Bool.true_and] at hk2
      (repeat' (first | (refine stg_ ?_) | (refine cl_ (isGlyphNumber_v x) ?_) | (refine br_ (fun hbr => ?_) (fun hbr => ?_))))
      all_goals first | (exfalso; omega) | ((refine RetOK.d rfl rfl ?_; conv => whnf); simp_all; done) | skip
      all_goals exact NextW.go (0 + 1) covT_ ⟨by omega, by simp_all⟩ (by omega)
    · obtain ⟨p, hp⟩ := at_lt' (xs := xs) (k := k - 1) (by omega)
      have hp' : (xs.map (D.int .i64))[((k : Int) - 1).toNat]? = some (.int .i64 p) := by
        have : ((k : Int) - 1).toNat = k - 1 := by omega
        rw [this, List.getElem?_map, hp]; rfl
      rw [pv_pos _ h0, hp, ltQ] at hk2
      (repeat' (first | (refine stg_ ?_) | (refine cl_ (isGlyphNumber_v x) ?_) | (refine IxW.at (by omega) hp' ?_; (conv => whnf)) | (refine br_ (fun hbr => ?_) (fun hbr => ?_))))
      all_goals first | (exfalso; omega) | ((refine RetOK.d rfl rfl ?_; conv => whnf); simp_all; done) | ((refine RetOK.d rfl rfl ?_; conv => whnf); rw [hk2, show decide (p < x) = false by (rw [decide_eq_false_iff_not]; omega)]; simp; done) | skip
      all_goals exact NextW.go (k + 1) covT_ ⟨by omega, by simp_all⟩ (by omega)
  · (refine RetOK.d rfl rfl ?_; conv => whnf)
    rw [hk2, clG_end (by omega)]
theorem l23Ok_v (xs : List Int) : PC Tryz.prog 43 [.d (.lst (xs.map (D.int .i64)))] (.d (.bool (clsB xs))) [] := by
  refine pc_intro ttOk (by kernel_rfl) Tryz.func43 rfl (by kernel_rfl) (by kernel_rfl) (by kernel_rfl) (fun hw => ?_)
  have hL : (xs.map (D.int .i64)).length = xs.length := List.length_map _
  have hm : (xs.map (D.int .i64)).length ≤ 9223372036854775807 := hw.1.1
  (conv => whnf)
  refine LoopW.go (α := Nat) (fun k => [(0, .d (.lst (xs.map (D.int .i64)))), (3, .d (.int .i64 k))]) (fun k => [.gone]) (fun k => k ≤ xs.length ∧ clsB xs = clG (pv xs k) (xs.drop k)) (fun k => xs.length - k) 0 covT_ ?_ (fun k hk => ?_)
  · exact ⟨by omega, rfl⟩
  obtain ⟨hk1, hk2⟩ := hk
  (conv => whnf)
  (refine br_ (fun h2 => ?_) (fun h2 => ?_) <;> (repeat (refine stg_ ?_)))
  · obtain ⟨x, hx⟩ := at_lt' (xs := xs) (k := k) (by omega)
    rw [clG_at hx] at hk2
    rcases Nat.eq_zero_or_pos k with rfl | h0
    · rw [pv_zero, ltQ, Bool.true_and] at hk2
      (repeat' (first | (refine stg_ ?_) | (refine cl_ (l00In_v x _ _) ?_) | (refine br_ (fun hbr => ?_) (fun hbr => ?_))))
      all_goals first | (exfalso; omega) | ((refine RetOK.d rfl rfl ?_; conv => whnf); simp_all; done) | skip
      all_goals exact NextW.go (0 + 1) covT_ ⟨by omega, by simp_all⟩ (by omega)
    · obtain ⟨p, hp⟩ := at_lt' (xs := xs) (k := k - 1) (by omega)
      have hp' : (xs.map (D.int .i64))[((k : Int) - 1).toNat]? = some (.int .i64 p) := by
        have : ((k : Int) - 1).toNat = k - 1 := by omega
        rw [this, List.getElem?_map, hp]; rfl
      rw [pv_pos _ h0, hp, ltQ] at hk2
      (repeat' (first | (refine stg_ ?_) | (refine cl_ (l00In_v x _ _) ?_) | (refine IxW.at (by omega) hp' ?_; (conv => whnf)) | (refine br_ (fun hbr => ?_) (fun hbr => ?_))))
      all_goals first | (exfalso; omega) | ((refine RetOK.d rfl rfl ?_; conv => whnf); simp_all; done) | ((refine RetOK.d rfl rfl ?_; conv => whnf); rw [hk2, show decide (p < x) = false by (rw [decide_eq_false_iff_not]; omega)]; simp; done) | skip
      all_goals exact NextW.go (k + 1) covT_ ⟨by omega, by simp_all⟩ (by omega)
  · (refine RetOK.d rfl rfl ?_; conv => whnf)
    rw [hk2, clG_end (by omega)]
theorem fullClass_v (xs : List Int) : PC Tryz.prog 105 [.d (.lst (xs.map (D.int .i64)))] (.d (.bool (fcB xs))) [] := by
  refine pc_intro ttOk (by kernel_rfl) Tryz.func105 rfl (by kernel_rfl) (by kernel_rfl) (by kernel_rfl) (fun hw => ?_)
  have hL : (xs.map (D.int .i64)).length = xs.length := List.length_map _
  (conv => whnf)
  (repeat' (first | (refine stg_ ?_) | (refine cla_ (ValidClass_v xs) ?_) | (refine br_ (fun hbr => ?_) (fun hbr => ?_))))
  all_goals ((refine RetOK.d rfl rfl ?_; conv => whnf); simp_all [fcB]; try omega)
theorem l25Class_v (xs : List Int) : PC Tryz.prog 95 [.d (.lst (xs.map (D.int .i64)))] (.d (.bool (fcB xs))) [] := by
  refine pc_intro ttOk (by kernel_rfl) Tryz.func95 rfl (by kernel_rfl) (by kernel_rfl) (by kernel_rfl) (fun hw => ?_)
  have hL : (xs.map (D.int .i64)).length = xs.length := List.length_map _
  (conv => whnf)
  (repeat' (first | (refine stg_ ?_) | (refine cla_ (l23Ok_v xs) ?_) | (refine br_ (fun hbr => ?_) (fun hbr => ?_))))
  all_goals ((refine RetOK.d rfl rfl ?_; conv => whnf); simp_all [fcB]; try omega)
set_option maxHeartbeats 1000000 in
theorem ixL_v (xs : List (List Int)) (f : Nat) (p : (List Int) → Bool) (hf : ∀ x : (List Int), PC Tryz.prog f [.d (.lst (x.map (D.int .i64)))] (.d (.bool (p x))) []) :
    PC Tryz.prog 110 [.d (.lst (xs.map (lstD (D.int .i64)))), .fn (.func f) []] (.d (.int .i64 (fdx p xs 0))) [] := by
  refine pc_intro ttOk (by kernel_rfl) Tryz.func110 rfl (by kernel_rfl) (by kernel_rfl) (by kernel_rfl) (fun hw => ?_)
  have hL : (xs.map (lstD (D.int .i64))).length = xs.length := List.length_map _
  have hm : (xs.map (lstD (D.int .i64))).length ≤ 9223372036854775807 := hw.1.1
  (conv => whnf)
  refine LoopW.go (α := Nat) (fun k => [(0, .d (.lst (xs.map (lstD (D.int .i64))))), (1, .fn (.func f) []), (7, .d (.int .i64 (xs.map (lstD (D.int .i64))).length)), (8, .d (.int .i64 k))]) (fun k => [.gone]) (fun k => k ≤ xs.length ∧ fdx p xs 0 = fdx p (xs.drop k) k) (fun k => xs.length - k) 0 covT_ ?_ (fun k hk => ?_)
  · exact ⟨by omega, rfl⟩
  obtain ⟨hk1, hk2⟩ := hk
  (conv => whnf)
  (refine br_ (fun h2 => ?_) (fun h2 => ?_) <;> (repeat (refine stg_ ?_)))
  · obtain ⟨x, hx⟩ := at_lt' (xs := xs) (k := k) (by omega)
    rw [fdx_at hx] at hk2
    (repeat (refine stg_ ?_))
    (refine cla_ (hf x) ?_)
    (refine br_ (fun h3 => ?_) (fun h3 => ?_) <;> (repeat (refine stg_ ?_)))
    · (refine RetOK.d rfl rfl ?_; conv => whnf)
      rw [hk2, if_pos h3]
    · (repeat (refine stg_ ?_))
      exact NextW.go (k + 1) covT_ ⟨by omega, by rw [hk2, h3]; rfl⟩ (by omega)
  · (refine RetOK.d rfl rfl ?_; conv => whnf)
    rw [hk2, fdx_end (by omega)]
theorem ctL_v (xs : List (List Int)) (f : Nat) (p : (List Int) → Bool) (hf : ∀ x : (List Int), PC Tryz.prog f [.d (.lst (x.map (D.int .i64)))] (.d (.bool (p x))) []) :
    PC Tryz.prog 55 [.d (.lst (xs.map (lstD (D.int .i64)))), .fn (.func f) []] (.d (.bool (xs.any p))) [] := by
  refine pc_intro ttOk (by kernel_rfl) Tryz.func55 rfl (by kernel_rfl) (by kernel_rfl) (by kernel_rfl) (fun hw => ?_)
  (conv => whnf)
  (refine cla_ (ixL_v xs f p hf) ?_)
  (refine RetOK.d rfl rfl ?_; conv => whnf)
  rw [← fdx_any p xs 0]
set_option maxHeartbeats 1000000 in
theorem ixint64_v (xs : List Int) (f : Nat) (p : Int → Bool) (hf : ∀ x : Int, PC Tryz.prog f [.d (.int .i64 x)] (.d (.bool (p x))) []) :
    PC Tryz.prog 111 [.d (.lst (xs.map (D.int .i64))), .fn (.func f) []] (.d (.int .i64 (fdx p xs 0))) [] := by
  refine pc_intro ttOk (by kernel_rfl) Tryz.func111 rfl (by kernel_rfl) (by kernel_rfl) (by kernel_rfl) (fun hw => ?_)
  have hL : (xs.map (D.int .i64)).length = xs.length := List.length_map _
  have hm : (xs.map (D.int .i64)).length ≤ 9223372036854775807 := hw.1.1
  (conv => whnf)
  refine LoopW.go (α := Nat) (fun k => [(0, .d (.lst (xs.map (D.int .i64)))), (1, .fn (.func f) []), (7, .d (.int .i64 (xs.map (D.int .i64)).length)), (8, .d (.int .i64 k))]) (fun k => [.gone]) (fun k => k ≤ xs.length ∧ fdx p xs 0 = fdx p (xs.drop k) k) (fun k => xs.length - k) 0 covT_ ?_ (fun k hk => ?_)
  · exact ⟨by omega, rfl⟩
  obtain ⟨hk1, hk2⟩ := hk
  (conv => whnf)
  (refine br_ (fun h2 => ?_) (fun h2 => ?_) <;> (repeat (refine stg_ ?_)))
  · obtain ⟨x, hx⟩ := at_lt' (xs := xs) (k := k) (by omega)
    rw [fdx_at hx] at hk2
    (repeat (refine stg_ ?_))
    (refine cla_ (hf x) ?_)
    (refine br_ (fun h3 => ?_) (fun h3 => ?_) <;> (repeat (refine stg_ ?_)))
    · (refine RetOK.d rfl rfl ?_; conv => whnf)
      rw [hk2, if_pos h3]
    · (repeat (refine stg_ ?_))
      exact NextW.go (k + 1) covT_ ⟨by omega, by rw [hk2, h3]; rfl⟩ (by omega)
  · (refine RetOK.d rfl rfl ?_; conv => whnf)
    rw [hk2, fdx_end (by omega)]
theorem ctint64_v (xs : List Int) (f : Nat) (p : Int → Bool) (hf : ∀ x : Int, PC Tryz.prog f [.d (.int .i64 x)] (.d (.bool (p x))) []) :
    PC Tryz.prog 57 [.d (.lst (xs.map (D.int .i64))), .fn (.func f) []] (.d (.bool (xs.any p))) [] := by
  refine pc_intro ttOk (by kernel_rfl) Tryz.func57 rfl (by kernel_rfl) (by kernel_rfl) (by kernel_rfl) (fun hw => ?_)
  (conv => whnf)
  (refine cla_ (ixint64_v xs f p hf) ?_)
  (refine RetOK.d rfl rfl ?_; conv => whnf)
  rw [← fdx_any p xs 0]
set_option maxHeartbeats 1000000 in
theorem ixRule_v (xs : List TRule) (f : Nat) (p : TRule → Bool) (hf : ∀ x : TRule, PC Tryz.prog f [.d x.D] (.d (.bool (p x))) []) :
    PC Tryz.prog 197 [.d (.lst (xs.map TRule.D)), .fn (.func f) []] (.d (.int .i64 (fdx p xs 0))) [] := by
  refine pc_intro ttOk (by kernel_rfl) Tryz.func197 rfl (by kernel_rfl) (by kernel_rfl) (by kernel_rfl) (fun hw => ?_)
  have hL : (xs.map TRule.D).length = xs.length := List.length_map _
  have hm : (xs.map TRule.D).length ≤ 9223372036854775807 := hw.1.1
  (conv => whnf)
  refine LoopW.go (α := Nat) (fun k => [(0, .d (.lst (xs.map TRule.D))), (1, .fn (.func f) []), (7, .d (.int .i64 (xs.map TRule.D).length)), (8, .d (.int .i64 k))]) (fun k => [.gone]) (fun k => k ≤ xs.length ∧ fdx p xs 0 = fdx p (xs.drop k) k) (fun k => xs.length - k) 0 covT_ ?_ (fun k hk => ?_)
  · exact ⟨by omega, rfl⟩
  obtain ⟨hk1, hk2⟩ := hk
  (conv => whnf)
  (refine br_ (fun h2 => ?_) (fun h2 => ?_) <;> (repeat (refine stg_ ?_)))
  · obtain ⟨x, hx⟩ := at_lt' (xs := xs) (k := k) (by omega)
    rw [fdx_at hx] at hk2
    (repeat (refine stg_ ?_))
    (refine cla_ (hf x) ?_)
    (refine br_ (fun h3 => ?_) (fun h3 => ?_) <;> (repeat (refine stg_ ?_)))
    · (refine RetOK.d rfl rfl ?_; conv => whnf)
      rw [hk2, if_pos h3]
    · (repeat (refine stg_ ?_))
      exact NextW.go (k + 1) covT_ ⟨by omega, by rw [hk2, h3]; rfl⟩ (by omega)
  · (refine RetOK.d rfl rfl ?_; conv => whnf)
    rw [hk2, fdx_end (by omega)]
theorem ctRule_v (xs : List TRule) (f : Nat) (p : TRule → Bool) (hf : ∀ x : TRule, PC Tryz.prog f [.d x.D] (.d (.bool (p x))) []) :
    PC Tryz.prog 152 [.d (.lst (xs.map TRule.D)), .fn (.func f) []] (.d (.bool (xs.any p))) [] := by
  refine pc_intro ttOk (by kernel_rfl) Tryz.func152 rfl (by kernel_rfl) (by kernel_rfl) (by kernel_rfl) (fun hw => ?_)
  (conv => whnf)
  (refine cla_ (ixRule_v xs f p hf) ?_)
  (refine RetOK.d rfl rfl ?_; conv => whnf)
  rw [← fdx_any p xs 0]
set_option maxHeartbeats 1000000 in
theorem ixLookupp_v (xs : List TLookup) (f : Nat) (y0 : D) (p : TLookup → Bool) (hf : ∀ x : TLookup, PC Tryz.prog f [.d x.D, .pX y0] (.d (.bool (p x))) []) :
    PC Tryz.prog 155 [.d (.lst (xs.map TLookup.D)), .fn (.func f) [.pX y0]] (.d (.int .i64 (fdx p xs 0))) [] := by
  refine pc_intro ttOk (by kernel_rfl) Tryz.func155 rfl (by kernel_rfl) (by kernel_rfl) (by kernel_rfl) (fun hw => ?_)
  have hL : (xs.map TLookup.D).length = xs.length := List.length_map _
  have hm : (xs.map TLookup.D).length ≤ 9223372036854775807 := hw.1.1
  (conv => whnf)
  refine LoopW.go (α := Nat) (fun k => [(0, .d (.lst (xs.map TLookup.D))), (1, .fn (.func f) [.pX y0]), (7, .d (.int .i64 (xs.map TLookup.D).length)), (8, .d (.int .i64 k))]) (fun k => [.gone]) (fun k => k ≤ xs.length ∧ fdx p xs 0 = fdx p (xs.drop k) k) (fun k => xs.length - k) 0 covT_ ?_ (fun k hk => ?_)
  · exact ⟨by omega, rfl⟩
  obtain ⟨hk1, hk2⟩ := hk
  (conv => whnf)
  (refine br_ (fun h2 => ?_) (fun h2 => ?_) <;> (repeat (refine stg_ ?_)))
  · obtain ⟨x, hx⟩ := at_lt' (xs := xs) (k := k) (by omega)
    rw [fdx_at hx] at hk2
    (repeat (refine stg_ ?_))
    (refine cla_ (hf x) ?_)
    (refine br_ (fun h3 => ?_) (fun h3 => ?_) <;> (repeat (refine stg_ ?_)))
    · (refine RetOK.d rfl rfl ?_; conv => whnf)
      rw [hk2, if_pos h3]
    · (repeat (refine stg_ ?_))
      exact NextW.go (k + 1) covT_ ⟨by omega, by rw [hk2, h3]; rfl⟩ (by omega)
  · (refine RetOK.d rfl rfl ?_; conv => whnf)
    rw [hk2, fdx_end (by omega)]
theorem fullCs1_v (x : List Int) : PC Tryz.prog 234 [.d (.lst (x.map (D.int .i64)))] (.d (.bool (!fcB x))) [] := by
  refine pc_intro ttOk (by kernel_rfl) Tryz.func234 rfl (by kernel_rfl) (by kernel_rfl) (by kernel_rfl) (fun hw => ?_)
  (conv => whnf)
  (repeat' (first | (refine stg_ ?_) | (refine cla_ (fullClass_v x) ?_) | (refine br_ (fun hbr => ?_) (fun hbr => ?_))))
  all_goals ((refine RetOK.d rfl rfl ?_; conv => whnf); try rfl)
theorem fullClasses_v (xs : List (List Int)) (lo : Nat) (hlo : lo ≤ 1) : PC Tryz.prog 198 [.d (.lst (xs.map (lstD (D.int .i64)))), .d (.int .i64 lo), .d (.int .i64 4)] (.d (.bool (fcsB lo xs))) [] := by
  refine pc_intro ttOk (by kernel_rfl) Tryz.func198 rfl (by kernel_rfl) (by kernel_rfl) (by kernel_rfl) (fun hw => ?_)
  have hL : (xs.map (lstD (D.int .i64))).length = xs.length := List.length_map _
  have hA : xs.all fcB = !xs.any (fun x => !fcB x) := by simp [List.all_eq_not_any_not]
  (conv => whnf)
  (repeat' (first | (refine stg_ ?_) | (refine cla_ (ctL_v xs _ (fun x => !fcB x) fullCs1_v) ?_) | (refine br_ (fun hbr => ?_) (fun hbr => ?_))))
  all_goals ((refine RetOK.d rfl rfl ?_; conv => whnf); rw [fcsB, hA]; generalize (xs.any fun x => !fcB x) = q at *; simp_all; try omega)
theorem l25Classes_v (xs : List (List Int)) (lo : Nat) (hlo : lo ≤ 1) : PC Tryz.prog 195 [.d (.lst (xs.map (lstD (D.int .i64)))), .d (.int .i64 lo)] (.d (.bool (fcsB lo xs))) [] := by
  refine pc_intro ttOk (by kernel_rfl) Tryz.func195 rfl (by kernel_rfl) (by kernel_rfl) (by kernel_rfl) (fun hw => ?_)
  have hL : (xs.map (lstD (D.int .i64))).length = xs.length := List.length_map _
  have hm : (xs.map (lstD (D.int .i64))).length ≤ 9223372036854775807 := hw.1.1
  (conv => whnf)
  refine LoopW.go (α := Nat) (fun k => [(0, .d (.lst (xs.map (lstD (D.int .i64))))), (1, .d (.int .i64 lo)), (5, .d (.int .i64 k))]) (fun k => [.gone]) (fun k => k ≤ xs.length ∧ xs.all fcB = (xs.drop k).all fcB) (fun k => xs.length - k) 0 covT_ ?_ (fun k hk => ?_)
  · exact ⟨by omega, rfl⟩
  obtain ⟨hk1, hk2⟩ := hk
  (conv => whnf)
  (refine br_ (fun h2 => ?_) (fun h2 => ?_) <;> (repeat (refine stg_ ?_)))
  · obtain ⟨x, hx⟩ := at_lt' (xs := xs) (k := k) (by omega)
    rw [drop_at hx, List.all_cons] at hk2
    (repeat' (first | (refine stg_ ?_) | (refine cla_ (l25Class_v x) ?_) | (refine br_ (fun hbr => ?_) (fun hbr => ?_))))
    all_goals first | ((refine RetOK.d rfl rfl ?_; conv => whnf); rw [fcsB, hk2]; simp_all; done) | skip
    all_goals exact NextW.go (k + 1) covT_ ⟨by omega, by rw [hk2]; simp_all⟩ (by omega)
  · rw [List.drop_eq_nil_of_le (by omega)] at hk2
    (repeat' (first | (refine stg_ ?_) | (refine cl_ (l00In_v _ _ _) ?_) | (refine br_ (fun hbr => ?_) (fun hbr => ?_))))
    (refine RetOK.d rfl rfl ?_; conv => whnf)
    rw [fcsB, hk2, hL, List.all_nil, Bool.and_true, inB]
    congr 2 <;> (congr 1; simp; try omega)
theorem ValidRule1_v (n : Int) : PC Tryz.prog 199 [.d (.int .i64 n)] (.d (.bool (!inB n 0 39))) [] := by
  refine pc_intro ttOk (by kernel_rfl) Tryz.func199 rfl (by kernel_rfl) (by kernel_rfl) (by kernel_rfl) (fun hw => ?_)
  (conv => whnf)
  (repeat' (first | (refine stg_ ?_) | (refine cl_ (isGlyphNumber_v n) ?_) | (refine br_ (fun hbr => ?_) (fun hbr => ?_))))
  all_goals ((refine RetOK.d rfl rfl ?_; conv => whnf); try rfl)
theorem ValidRule_v (r : TRule) : PC Tryz.prog 154 [.d r.D] (.d (.bool (ruB r))) [] := by
  refine pc_intro ttOk (by kernel_rfl) Tryz.func154 rfl (by kernel_rfl) (by kernel_rfl) (by kernel_rfl) (fun hw => ?_)
  have hL : (r.fOutput.map (D.int .i64)).length = r.fOutput.length := List.length_map _
  have hA : (r.fOutput.all fun g => inB g 0 39) = !r.fOutput.any (fun x => !inB x 0 39) := by simp [List.all_eq_not_any_not]
  have c1 := fullClasses_v r.fBefore 0 (by omega)
  have c2 := fullClasses_v r.fInput 1 (by omega)
  have c3 := fullClasses_v r.fAfter 0 (by omega)
  have c4 := ctint64_v r.fOutput _ (fun x => !inB x 0 39) ValidRule1_v
  rw [ruB, hA]
  generalize (r.fOutput.any fun x => !inB x 0 39) = q at *
  (conv => whnf)
  (repeat' (first | (refine stg_ ?_) | (refine cla_ (c1) ?_) | (refine cla_ (c2) ?_) | (refine cla_ (c3) ?_) | (refine cla_ (c4) ?_) | (refine br_ (fun hbr => ?_) (fun hbr => ?_))))
  all_goals ((refine RetOK.d rfl rfl ?_; conv => whnf); simp_all; try omega)
theorem l25Rule_v (r : TRule) : PC Tryz.prog 148 [.pX r.D] (.d (.bool (ruB r))) [] := by
  refine pc_intro ttOk (by kernel_rfl) Tryz.func148 rfl (by kernel_rfl) (by kernel_rfl) (by kernel_rfl) (fun hw => ?_)
  have hL : (r.fOutput.map (D.int .i64)).length = r.fOutput.length := List.length_map _
  have hm : (r.fOutput.map (D.int .i64)).length ≤ 9223372036854775807 := hw.1.2.2.2.1.1
  have c1 := l25Classes_v r.fBefore 0 (by omega)
  have c2 := l25Classes_v r.fInput 1 (by omega)
  have c3 := l25Classes_v r.fAfter 0 (by omega)
  (conv => whnf)
  refine LoopW.go (α := Nat) (fun k => [(0, .pX r.D), (3, .d (.int .i64 k))]) (fun k => [.gone]) (fun k => k ≤ r.fOutput.length ∧ (r.fOutput.all fun g => inB g 0 39) = (r.fOutput.drop k).all (fun g => inB g 0 39)) (fun k => r.fOutput.length - k) 0 covT_ ?_ (fun k hk => ?_)
  · exact ⟨by omega, rfl⟩
  obtain ⟨hk1, hk2⟩ := hk
  (conv => whnf)
  (refine br_ (fun h2 => ?_) (fun h2 => ?_) <;> (repeat (refine stg_ ?_)))
  · obtain ⟨x, hx⟩ := at_lt' (xs := r.fOutput) (k := k) (by omega)
    rw [drop_at hx, List.all_cons] at hk2
    (repeat' (first | (refine stg_ ?_) | (refine cl_ (l00In_v x _ _) ?_) | (refine br_ (fun hbr => ?_) (fun hbr => ?_))))
    all_goals first | ((refine RetOK.d rfl rfl ?_; conv => whnf); rw [ruB, hk2]; simp_all; done) | skip
    all_goals exact NextW.go (k + 1) covT_ ⟨by omega, by rw [hk2]; simp_all⟩ (by omega)
  · rw [List.drop_eq_nil_of_le (by omega)] at hk2
    (repeat' (first | (refine stg_ ?_) | (refine cla_ (c1) ?_) | (refine cla_ (c2) ?_) | (refine cla_ (c3) ?_) | (refine br_ (fun hbr => ?_) (fun hbr => ?_))))
    all_goals ((refine RetOK.d rfl rfl ?_; conv => whnf); rw [ruB, hk2]; simp_all; try omega)
theorem validLk1_v (r : TRule) : PC Tryz.prog 153 [.d r.D] (.d (.bool (!ruB r))) [] := by
  refine pc_intro ttOk (by kernel_rfl) Tryz.func153 rfl (by kernel_rfl) (by kernel_rfl) (by kernel_rfl) (fun hw => ?_)
  (conv => whnf)
  (repeat' (first | (refine stg_ ?_) | (refine cla_ (ValidRule_v r) ?_) | (refine br_ (fun hbr => ?_) (fun hbr => ?_))))
  all_goals ((refine RetOK.d rfl rfl ?_; conv => whnf); try rfl)
theorem validLookup_v (l : TLookup) : PC Tryz.prog 103 [.d l.D] (.d (.bool (lkB l))) [] := by
  refine pc_intro ttOk (by kernel_rfl) Tryz.func103 rfl (by kernel_rfl) (by kernel_rfl) (by kernel_rfl) (fun hw => ?_)
  have hL : (l.fRules.map TRule.D).length = l.fRules.length := List.length_map _
  have hA : l.fRules.all ruB = !l.fRules.any (fun x => !ruB x) := by simp [List.all_eq_not_any_not]
  have c1 := IsName_v l.fName
  have c4 := ctRule_v l.fRules _ (fun x => !ruB x) validLk1_v
  rw [lkB, hA]
  generalize (l.fRules.any fun x => !ruB x) = q at *
  (conv => whnf)
  (repeat' (first | (refine stg_ ?_) | (refine cla_ (c1) ?_) | (refine cla_ (c4) ?_) | (refine br_ (fun hbr => ?_) (fun hbr => ?_))))
  all_goals ((refine RetOK.d rfl rfl ?_; conv => whnf); simp_all; try omega)
theorem lookupNm1_v (x : TLookup) (s : ByteArray) : PC Tryz.prog 156 [.d x.D, .pX (.str s)] (.d (.bool (nmEq s x))) [] := by
  refine pc_intro ttOk (by kernel_rfl) Tryz.func156 rfl (by kernel_rfl) (by kernel_rfl) (by kernel_rfl) (fun hw => ?_)
  (conv => whnf)
  (refine RetOK.d rfl rfl ?_; conv => whnf)
  rfl
theorem lookupNamed_v (xs : List TLookup) (s : ByteArray) : PC Tryz.prog 104 [.d (.lst (xs.map TLookup.D)), .d (.str s)] (.d (.int .i64 (fdx (nmEq s) xs 0))) [] := by
  refine pc_intro ttOk (by kernel_rfl) Tryz.func104 rfl (by kernel_rfl) (by kernel_rfl) (by kernel_rfl) (fun hw => ?_)
  (conv => whnf)
  (repeat' (first | (refine stg_ ?_) | (refine cla_ (ixLookupp_v xs _ (.str s) (nmEq s) (fun x => lookupNm1_v x s)) ?_) | (refine br_ (fun hbr => ?_) (fun hbr => ?_))))
  (refine RetOK.d rfl rfl ?_; conv => whnf)
theorem validJoin_v (j : TJoin) : PC Tryz.prog 107 [.d j.D] (.d (.bool (jnB j))) [] := by
  refine pc_intro ttOk (by kernel_rfl) Tryz.func107 rfl (by kernel_rfl) (by kernel_rfl) (by kernel_rfl) (fun hw => ?_)
  have hB : jnB j = (inB j.fGlyph 0 39 && inB j.fKind 1 3 && [j.fInit, j.fMedi, j.fFina].all (fmB j.fKind)) := by simp [jnB, Bool.and_assoc]
  have hl : [j.fInit, j.fMedi, j.fFina].length = 3 := rfl
  obtain ⟨AL, hA⟩ : ∃ AL, AL = [j.fInit, j.fMedi, j.fFina].all (fmB j.fKind) := ⟨_, rfl⟩
  rw [← hA] at hB
  (conv => whnf)
  refine LoopW.go (α := Nat) (fun k => [(1, .pB 1 [] 0), (11, .own 2 0 3), (12, .d (.int .i64 3)), (13, .d (.int .i64 k))]) (fun k => [.gone, .box (.d j.D), .arr 1 ([j.fInit, j.fMedi, j.fFina].map (D.int .i64)) true]) (fun k => k ≤ 3 ∧ AL = ([j.fInit, j.fMedi, j.fFina].drop k).all (fmB j.fKind)) (fun k => 3 - k) 0 covT_ ?_ (fun k hk => ?_)
  · exact ⟨by omega, hA⟩
  clear hA
  obtain ⟨hk1, hk2⟩ := hk
  (conv => whnf)
  (refine br_ (fun h2 => ?_) (fun h2 => ?_) <;> (repeat (refine stg_ ?_)))
  · obtain ⟨x, hx⟩ := at_lt' (xs := [j.fInit, j.fMedi, j.fFina]) (k := k) (by omega)
    have hx' : ([j.fInit, j.fMedi, j.fFina].map (D.int .i64))[k]? = some (.int .i64 x) := by rw [List.getElem?_map, hx]; rfl
    rw [drop_at hx, List.all_cons] at hk2
    generalize [j.fInit, j.fMedi, j.fFina] = fs at *
    (repeat' (first | (refine stg_ ?_) | fail | (refine br_ (fun hbr => ?_) (fun hbr => ?_))))
    all_goals first | ((refine RetOK.d rfl rfl ?_; conv => whnf); rw [hB, hk2]; simp_all [fmB, inB]; done) | ((refine RetOK.d rfl rfl ?_; conv => whnf); rw [hB, hk2]; simp_all [fmB, inB]; omega) | skip
    all_goals exact NextW.go (k + 1) covT_ ⟨by omega, by (rw [hk2]; clear hk2; simp_all [fmB, inB] <;> (try omega) <;> (try (intro _; omega)))⟩ (by omega)
  · rw [List.drop_eq_nil_of_le (by omega)] at hk2
    rw [hk2] at hB
    (repeat' (first | (refine stg_ ?_) | (refine cl_ (isGlyphNumber_v _) ?_) | (refine br_ (fun hbr => ?_) (fun hbr => ?_))))
    all_goals ((refine RetOK.d rfl rfl ?_; conv => whnf); rw [hB]; simp_all [inB]; try omega)
theorem l25Join_v (j : TJoin) : PC Tryz.prog 97 [.pX j.D] (.d (.bool (jnB j))) [] := by
  refine pc_intro ttOk (by kernel_rfl) Tryz.func97 rfl (by kernel_rfl) (by kernel_rfl) (by kernel_rfl) (fun hw => ?_)
  (conv => whnf)
  (repeat' (first | (refine stg_ ?_) | (refine cl_ (l00In_v _ _ _) ?_) | (refine br_ (fun hbr => ?_) (fun hbr => ?_))))
  all_goals ((refine RetOK.d rfl rfl ?_; conv => whnf); simp_all [jnB, fmB])
set_option maxHeartbeats 2000000 in
theorem l25Lookups_v (xs : List TLookup) : PC Tryz.prog 94 [.d (.lst (xs.map TLookup.D))] (.d (.bool (lksB xs))) [] := by
  refine pc_intro ttOk (by kernel_rfl) Tryz.func94 rfl (by kernel_rfl) (by kernel_rfl) (by kernel_rfl) (fun hw => ?_)
  have hL : (xs.map TLookup.D).length = xs.length := List.length_map _
  have hm : (xs.map TLookup.D).length ≤ 9223372036854775807 := hw.1.1
  (conv => whnf)
  refine LoopW.go (α := Nat) (fun k => [(0, .d (.lst (xs.map TLookup.D))), (3, .d (.int .i64 k))]) (fun k => [.gone]) (fun k => k ≤ xs.length ∧ lkG [] xs = lkG (xs.take k) (xs.drop k)) (fun k => xs.length - k) 0 covT_ ?_ (fun k hk => ?_)
  · exact ⟨by omega, rfl⟩
  obtain ⟨hk1, hk2⟩ := hk
  (conv => whnf)
  (refine br_ (fun h2 => ?_) (fun h2 => ?_) <;> (repeat (refine stg_ ?_)))
  · obtain ⟨x, hx⟩ := at_lt' (xs := xs) (k := k) (by omega)
    rw [lkG_at hx] at hk2
    have hR : (x.fRules.map TRule.D).length = x.fRules.length := List.length_map _
    have hx' : (xs.map TLookup.D)[k]? = some x.D := by rw [List.getElem?_map, hx]; rfl
    have c1 := specIsName_v x.fName
    (repeat' (first | (refine stg_ ?_) | (refine cla_ (c1) ?_) | (refine br_ (fun hbr => ?_) (fun hbr => ?_))))
    all_goals first | ((refine RetOK.d rfl rfl ?_; conv => whnf); rw [lksB, hk2, lkB]; simp_all; done) | ((refine RetOK.d rfl rfl ?_; conv => whnf); rw [lksB, hk2, lkB, show decide (x.fRules.length ≤ 40) = false by (rw [decide_eq_false_iff_not]; omega)]; simp; done) | skip
    refine LoopW.go (α := Nat) (fun m => [(0, .d (.lst (xs.map TLookup.D))), (3, .d (.int .i64 k)), (4, .d (.int .i64 m))]) (fun _ => [.gone]) (fun m => m ≤ k ∧ (xs.take m).any (nmEq x.fName) = false) (fun m => k - m) 0 covT_ ⟨by omega, rfl⟩ (fun m hm => ?_)
    obtain ⟨hm1, hm2⟩ := hm
    (conv => whnf)
    (refine br_ (fun h3 => ?_) (fun h3 => ?_) <;> (repeat (refine stg_ ?_)))
    · obtain ⟨y, hy⟩ := at_lt' (xs := xs) (k := m) (by omega)
      have hS := any_snoc (p := nmEq x.fName) hy
      (repeat' (first | (refine stg_ ?_) | fail | (refine br_ (fun hbr => ?_) (fun hbr => ?_))))
      · (refine RetOK.d rfl rfl ?_; conv => whnf)
        have h4 := any_take (p := nmEq x.fName) hy (k := k) (by omega) (by simp_all [nmEq])
        rw [lksB, hk2, h4]; simp
      · exact NextW.go (m + 1) covT_ ⟨by omega, by rw [hS, hm2]; simp_all [nmEq]⟩ (by omega)
    · obtain rfl : m = k := by omega
      rw [hm2] at hk2
      refine LoopW.go (α := Nat) (fun j => [(0, .d (.lst (xs.map TLookup.D))), (3, .d (.int .i64 m)), (5, .d (.int .i64 j))]) (fun _ => [.gone]) (fun j => j ≤ x.fRules.length ∧ x.fRules.all ruB = (x.fRules.drop j).all ruB) (fun j => x.fRules.length - j) 0 covT_ ⟨by omega, rfl⟩ (fun j hj => ?_)
      obtain ⟨hj1, hj2⟩ := hj
      (conv => whnf)
      (repeat (refine stg_ ?_))
      (refine br_ (fun h4 => ?_) (fun h4 => ?_) <;> (repeat (refine stg_ ?_)))
      · obtain ⟨r, hr⟩ := at_lt' (xs := x.fRules) (k := j) (by omega)
        rw [drop_at hr, List.all_cons] at hj2
        (repeat' (first | (refine stg_ ?_) | (refine cla_ (l25Rule_v r) ?_) | (refine br_ (fun hbr => ?_) (fun hbr => ?_))))
        all_goals first | ((refine RetOK.d rfl rfl ?_; conv => whnf); rw [lksB, hk2, lkB, hj2]; simp_all; done) | skip
        all_goals exact NextW.go (j + 1) covT_ ⟨by omega, by rw [hj2]; simp_all⟩ (by omega)
      · rw [List.drop_eq_nil_of_le (by omega)] at hj2
        (repeat (refine stg_ ?_))
        exact NextW.go (m + 1) covT_ ⟨by omega, by rw [hk2, lkB, hj2]; simp_all; try omega⟩ (by omega)
  · (refine RetOK.d rfl rfl ?_; conv => whnf)
    rw [lksB, hk2, lkG_end (by omega), Bool.and_true]
    congr 1
    rw [Bool.eq_iff_iff]; simp; try omega
theorem indexI_v (xs : List Int) (x : Int) : PC Tryz.prog 212 [.d (.lst (xs.map (D.int .i64))), .d (.int .i64 x)] (.d (.int .i64 (fdx (fun y => y == x) xs 0))) [] := by
  refine pc_intro ttOk (by kernel_rfl) Tryz.func212 rfl (by kernel_rfl) (by kernel_rfl) (by kernel_rfl) (fun hw => ?_)
  have hL : (xs.map (D.int .i64)).length = xs.length := List.length_map _
  have hm : (xs.map (D.int .i64)).length ≤ 9223372036854775807 := hw.1.1
  (conv => whnf)
  refine LoopW.go (α := Nat) (fun k => [(0, .d (.lst (xs.map (D.int .i64)))), (1, .d (.int .i64 x)), (7, .d (.int .i64 (xs.map (D.int .i64)).length)), (8, .d (.int .i64 k))]) (fun k => [.gone]) (fun k => k ≤ xs.length ∧ fdx (fun y => y == x) xs 0 = fdx (fun y => y == x) (xs.drop k) k) (fun k => xs.length - k) 0 covT_ ?_ (fun k hk => ?_)
  · exact ⟨by omega, rfl⟩
  obtain ⟨hk1, hk2⟩ := hk
  (conv => whnf)
  (refine br_ (fun h2 => ?_) (fun h2 => ?_) <;> (repeat (refine stg_ ?_)))
  · obtain ⟨y, hy⟩ := at_lt' (xs := xs) (k := k) (by omega)
    rw [fdx_at hy] at hk2
    (repeat (refine stg_ ?_))
    (refine br_ (fun h3 => ?_) (fun h3 => ?_) <;> (repeat (refine stg_ ?_)))
    · (refine RetOK.d rfl rfl ?_; conv => whnf)
      rw [hk2, if_pos (by simp; omega)]
    · (repeat (refine stg_ ?_))
      exact NextW.go (k + 1) covT_ ⟨by omega, by rw [hk2, if_neg (by simp; omega)]⟩ (by omega)
  · (refine RetOK.d rfl rfl ?_; conv => whnf)
    rw [hk2, fdx_end (by omega)]
theorem containsI_v (xs : List Int) (x : Int) : PC Tryz.prog 176 [.d (.lst (xs.map (D.int .i64))), .d (.int .i64 x)] (.d (.bool (hasI xs x))) [] := by
  refine pc_intro ttOk (by kernel_rfl) Tryz.func176 rfl (by kernel_rfl) (by kernel_rfl) (by kernel_rfl) (fun hw => ?_)
  (conv => whnf)
  (refine cla_ (indexI_v xs x) ?_)
  (refine RetOK.d rfl rfl ?_; conv => whnf)
  rw [hasI, ← fdx_any _ xs 0]
theorem l00Has_v (xs : List Int) (x : Int) : PC Tryz.prog 47 [.d (.lst (xs.map (D.int .i64))), .d (.int .i64 x)] (.d (.bool (hasI xs x))) [] := by
  refine pc_intro ttOk (by kernel_rfl) Tryz.func47 rfl (by kernel_rfl) (by kernel_rfl) (by kernel_rfl) (fun hw => ?_)
  have hL : (xs.map (D.int .i64)).length = xs.length := List.length_map _
  have hm : (xs.map (D.int .i64)).length ≤ 9223372036854775807 := hw.1.1
  (conv => whnf)
  refine LoopW.go (α := Nat) (fun k => [(0, .d (.lst (xs.map (D.int .i64)))), (1, .d (.int .i64 x)), (5, .d (.int .i64 k))]) (fun k => [.gone]) (fun k => k ≤ xs.length ∧ hasI xs x = hasI (xs.drop k) x) (fun k => xs.length - k) 0 covT_ ?_ (fun k hk => ?_)
  · exact ⟨by omega, rfl⟩
  obtain ⟨hk1, hk2⟩ := hk
  (conv => whnf)
  (refine br_ (fun h2 => ?_) (fun h2 => ?_) <;> (repeat (refine stg_ ?_)))
  · obtain ⟨y, hy⟩ := at_lt' (xs := xs) (k := k) (by omega)
    rw [drop_at hy] at hk2
    change _ = ((y == x) || hasI (xs.drop (k + 1)) x) at hk2
    (repeat' (first | (refine stg_ ?_) | fail | (refine br_ (fun hbr => ?_) (fun hbr => ?_))))
    all_goals first | ((refine RetOK.d rfl rfl ?_; conv => whnf); rw [hk2]; simp_all; done) | skip
    all_goals exact NextW.go (k + 1) covT_ ⟨by omega, by rw [hk2]; simp_all⟩ (by omega)
  · (refine RetOK.d rfl rfl ?_; conv => whnf)
    rw [hk2, List.drop_eq_nil_of_le (by omega)]; rfl
theorem itB_bnd {g : Int} {x : TItem} (h : itB g x = true) : (0 ≤ x.fGlyph ∧ x.fGlyph ≤ g - 1) ∧ (0 ≤ x.fFrom ∧ x.fFrom ≤ 262144) ∧ (0 ≤ x.fLen ∧ x.fLen ≤ 262144) := by
  simpa [itB, inB] using h
set_option maxHeartbeats 2000000 in
theorem ValidRun_v (xs : List TItem) (g : Int) : PC Tryz.prog 81 [.d (.lst (xs.map TItem.D)), .d (.int .i64 g)] (.d (.bool (vrB xs g))) [] := by
  refine pc_intro ttOk (by kernel_rfl) Tryz.func81 rfl (by kernel_rfl) (by kernel_rfl) (by kernel_rfl) (fun hw => ?_)
  have hL : (xs.map TItem.D).length = xs.length := List.length_map _
  have hV : vrB xs g = (decide (g ≤ 40) && (decide (xs.length ≤ 60) && rnG g none xs)) := rfl
  generalize vrB xs g = R at hV ⊢
  (conv => whnf)
  (repeat' (first | (refine stg_ ?_) | fail | (refine br_ (fun hbr => ?_) (fun hbr => ?_))))
  all_goals first | ((refine RetOK.d rfl rfl ?_; conv => whnf); rw [hV, show decide (g ≤ 40) = false by (rw [decide_eq_false_iff_not]; omega)]; rfl) | ((refine RetOK.d rfl rfl ?_; conv => whnf); rw [hV, show decide (xs.length ≤ 60) = false by (rw [decide_eq_false_iff_not]; omega)]; simp; done) | skip
  have hg : g ≤ 40 := by omega
  have hl : xs.length ≤ 60 := by omega
  rw [decide_eq_true hg, decide_eq_true hl, Bool.true_and, Bool.true_and] at hV
  refine LoopW.go (α := Nat) (fun k => [(1, .d (.int .i64 g)), (0, .d (.lst (xs.map TItem.D))), (14, .d (.lst (xs.map TItem.D))), (15, .d (.int .i64 (xs.map TItem.D).length)), (16, .d (.int .i64 k))]) (fun k => [.gone]) (fun k => k ≤ xs.length ∧ R = rnG g (pv xs k) (xs.drop k) ∧ (∀ p, pv xs k = some p → itB g p = true)) (fun k => xs.length - k) 0 covT_ ?_ (fun k hk => ?_)
  · exact ⟨by omega, hV, by intro p hp; cases hp⟩
  clear hV
  obtain ⟨hk1, hk2, hk3⟩ := hk
  (conv => whnf)
  (refine br_ (fun h2 => ?_) (fun h2 => ?_) <;> (repeat (refine stg_ ?_)))
  · obtain ⟨x, hx⟩ := at_lt' (xs := xs) (k := k) (by omega)
    rw [rnG_at hx] at hk2
    have hI : itB g x = (inB x.fGlyph 0 (g - 1) && (inB x.fFrom 0 262144 && inB x.fLen 0 262144)) := rfl
    have hnext : ∀ p, pv xs (k + 1) = some p → p = x := fun p hp => by rw [pv_succ, hx] at hp; cases hp; rfl
    rcases Nat.eq_zero_or_pos k with rfl | h0
    · rw [pv_zero, enO, Bool.true_and] at hk2
      (repeat' (first | (refine stg_ ?_) | fail | (refine br_ (fun hbr => ?_) (fun hbr => ?_))))
      all_goals first | (exfalso; omega) | ((refine RetOK.d rfl rfl ?_; conv => whnf); rw [hk2, show itB g x = false by (rw [hI]; simp [inB]; omega)]; rfl) | skip
      all_goals (have hT : itB g x = true := by (rw [hI]; simp [inB]; omega)); exact NextW.go (0 + 1) covT_ ⟨by omega, by rw [hk2, hT, Bool.true_and], fun p hp => by rw [hnext p hp]; exact hT⟩ (by omega)
    · obtain ⟨p, hp⟩ := at_lt' (xs := xs) (k := k - 1) (by omega)
      have hp' : (xs.map TItem.D)[((k : Int) - 1).toNat]? = some p.D := by
        have : ((k : Int) - 1).toNat = k - 1 := by omega
        rw [this, List.getElem?_map, hp]; rfl
      have hb := itB_bnd (hk3 p (by rw [pv_pos _ h0, hp]))
      rw [pv_pos _ h0, hp, enO] at hk2
      (repeat' (first | (refine stg_ ?_) | (refine IxW.at (by omega) hp' ?_; (conv => whnf)) | (refine br_ (fun hbr => ?_) (fun hbr => ?_))))
      all_goals first | (exfalso; omega) | ((refine RetOK.d rfl rfl ?_; conv => whnf); rw [hk2, show itB g x = false by (rw [hI]; simp [inB]; omega)]; rfl) | ((refine RetOK.d rfl rfl ?_; conv => whnf); rw [hk2, show decide (p.fFrom + p.fLen ≤ x.fFrom) = false by (rw [decide_eq_false_iff_not]; omega)]; simp; done) | skip
      all_goals (have hT : itB g x = true := by (rw [hI]; simp [inB]; omega)); exact NextW.go (k + 1) covT_ ⟨by omega, by rw [hk2, hT, decide_eq_true (by omega), Bool.true_and, Bool.true_and], fun p hp => by rw [hnext p hp]; exact hT⟩ (by omega)
  · (refine RetOK.d rfl rfl ?_; conv => whnf)
    rw [hk2, rnG_end (by omega)]
set_option maxHeartbeats 2000000 in
theorem l26Run_v (xs : List TItem) (g : Int) (hg0 : -1000 ≤ g) (hg1 : g ≤ 1000000) : PC Tryz.prog 77 [.d (.lst (xs.map TItem.D)), .d (.int .i64 g)] (.d (.bool (vrB xs g))) [] := by
  refine pc_intro ttOk (by kernel_rfl) Tryz.func77 rfl (by kernel_rfl) (by kernel_rfl) (by kernel_rfl) (fun hw => ?_)
  have hL : (xs.map TItem.D).length = xs.length := List.length_map _
  have hm : (xs.map TItem.D).length ≤ 9223372036854775807 := hw.1.1
  have hV : vrB xs g = (decide (g ≤ 40) && (decide (xs.length ≤ 60) && rnG g none xs)) := rfl
  generalize vrB xs g = R at hV ⊢
  (conv => whnf)
  refine LoopW.go (α := Nat × Int) (fun p => [(1, .d (.int .i64 g)), (0, .d (.lst (xs.map TItem.D))), (5, .d (.int .i64 p.2)), (6, .d (.int .i64 p.1))]) (fun _ => [.gone]) (fun p => p.1 ≤ xs.length ∧ rnG g none xs = rnG g (pv xs p.1) (xs.drop p.1) ∧ (0 ≤ p.2 ∧ p.2 ≤ 524288) ∧ (match pv xs p.1 with | none => p.2 = 0 | some q => p.2 = q.fFrom + q.fLen)) (fun p => xs.length - p.1) (0, 0) covT_ ⟨by omega, rfl, by decide, rfl⟩ ?_
  rintro ⟨k, e⟩ ⟨hk1, hk2, hk3, hk4⟩
  dsimp only at hk1 hk2 hk3 hk4 ⊢
  (conv => whnf)
  (refine br_ (fun h2 => ?_) (fun h2 => ?_) <;> (repeat (refine stg_ ?_)))
  · obtain ⟨x, hx⟩ := at_lt' (xs := xs) (k := k) (by omega)
    rw [rnG_at hx] at hk2
    have hE : (itB g x && enO (pv xs k) x) = (inB x.fGlyph 0 (g - 1) && (inB x.fFrom e 262144 && inB x.fLen 0 262144)) := by
      cases hp : pv xs k with
      | none => rw [hp] at hk4; simp only at hk4; subst hk4; simp [itB, enO]
      | some q =>
        rw [hp] at hk4; simp only at hk4
        rw [Bool.eq_iff_iff]
        simp only [itB, enO, inB, Bool.and_eq_true, decide_eq_true_eq]
        constructor <;> intro h <;> omega
    have hk5 : rnG g none xs = ((itB g x && enO (pv xs k) x) && rnG g (pv xs (k + 1)) (xs.drop (k + 1))) := by rw [hk2, Bool.and_assoc]
    rw [hE] at hk5
    clear hk2 hE
    (repeat' (first | (refine stg_ ?_) | (refine cl_ (l00In_v _ _ _) ?_) | (refine br_ (fun hbr => ?_) (fun hbr => ?_))))
    all_goals first | ((refine RetOK.d rfl rfl ?_; conv => whnf); rw [hV, hk5]; simp_all; done) | skip
    all_goals first | (exfalso; simp_all [inB]; omega) | skip
    all_goals (have hb1 : inB x.fFrom e 262144 = true := by assumption); (have hb2 : inB x.fLen 0 262144 = true := by assumption); simp only [inB, Bool.and_eq_true, decide_eq_true_eq] at hb1 hb2
    (repeat (refine stg_ ?_))
    refine NextW.go (k + 1, x.fFrom + x.fLen) covT_ ⟨by show k + 1 ≤ xs.length; omega, by rw [hk5]; simp_all, by show 0 ≤ x.fFrom + x.fLen ∧ _; omega, by show (match pv xs (k + 1) with | none => _ | some q => _); rw [pv_succ, hx]⟩ (by show xs.length - (k + 1) < xs.length - k; omega)
  · rw [rnG_end (by omega)] at hk2
    rw [hk2] at hV
    (repeat' (first | (refine stg_ ?_) | fail | (refine br_ (fun hbr => ?_) (fun hbr => ?_))))
    all_goals ((refine RetOK.d rfl rfl ?_; conv => whnf); rw [hV]; simp_all; try omega)
theorem inClasses_v (cs : List (List Int)) (xs : List TItem) : PC Tryz.prog 246 [.d (.lst (cs.map (lstD (D.int .i64)))), .d (.lst (xs.map TItem.D))] (.d (.bool (inC cs xs))) [] := by
  refine pc_intro ttOk (by kernel_rfl) Tryz.func246 rfl (by kernel_rfl) (by kernel_rfl) (by kernel_rfl) (fun hw => ?_)
  have hL : (xs.map TItem.D).length = xs.length := List.length_map _
  have hC : (cs.map (lstD (D.int .i64))).length = cs.length := List.length_map _
  have hm : (cs.map (lstD (D.int .i64))).length ≤ 9223372036854775807 := hw.1.1
  (conv => whnf)
  (repeat (refine stg_ ?_))
  (refine br_ (fun h1 => ?_) (fun h1 => ?_) <;> (repeat (refine stg_ ?_)))
  · (repeat (refine stg_ ?_))
    (refine RetOK.d rfl rfl ?_; conv => whnf)
    rw [inC_len (by omega)]
  · have h1 : xs.length = cs.length := by omega
    refine LoopW.go (α := Nat) (fun k => [(1, .d (.lst (xs.map TItem.D))), (12, .d (.lst (cs.map (lstD (D.int .i64))))), (13, .d (.int .i64 (cs.map (lstD (D.int .i64))).length)), (14, .d (.int .i64 k))]) (fun k => [.gone]) (fun k => k ≤ cs.length ∧ inC cs xs = inC (cs.drop k) (xs.drop k)) (fun k => cs.length - k) 0 covT_ ?_ (fun k hk => ?_)
    · exact ⟨by omega, rfl⟩
    obtain ⟨hk1, hk2⟩ := hk
    (conv => whnf)
    (refine br_ (fun h2 => ?_) (fun h2 => ?_) <;> (repeat (refine stg_ ?_)))
    · obtain ⟨c, hc⟩ := at_lt' (xs := cs) (k := k) (by omega)
      obtain ⟨x, hx⟩ := at_lt' (xs := xs) (k := k) (by omega)
      rw [inC_at hc hx] at hk2
      (repeat' (first | (refine stg_ ?_) | (refine cla_ (containsI_v c x.fGlyph) ?_) | (refine br_ (fun hbr => ?_) (fun hbr => ?_))))
      all_goals first | ((refine RetOK.d rfl rfl ?_; conv => whnf); rw [hk2]; simp_all; done) | skip
      all_goals exact NextW.go (k + 1) covT_ ⟨by omega, by rw [hk2]; simp_all⟩ (by omega)
    · (refine RetOK.d rfl rfl ?_; conv => whnf)
      rw [hk2, inC_end (by omega) (by omega)]
theorem cut_map (xs : List TItem) (a n : Nat) : (cut xs a n).map TItem.D = ((xs.map TItem.D).drop a).take n := by rw [cut, List.map_take, List.map_drop]
set_option maxHeartbeats 2000000 in
theorem applies_v (r : TRule) (xs : List TItem) (a : Nat) (hr : ruB r = true) (hx : xs.length ≤ 1000) (ha : a ≤ 1000) : PC Tryz.prog 228 [.d r.D, .d (.lst (xs.map TItem.D)), .d (.int .i64 a)] (.d (.bool (apRu r xs a))) [] := by
  refine pc_intro ttOk (by kernel_rfl) Tryz.func228 rfl (by kernel_rfl) (by kernel_rfl) (by kernel_rfl) (fun hw => ?_)
  have hL : (xs.map TItem.D).length = xs.length := List.length_map _
  have hB : (r.fBefore.map (lstD (D.int .i64))).length = r.fBefore.length := List.length_map _
  have hI : (r.fInput.map (lstD (D.int .i64))).length = r.fInput.length := List.length_map _
  have hA : (r.fAfter.map (lstD (D.int .i64))).length = r.fAfter.length := List.length_map _
  have hn : r.fBefore.length ≤ 4 ∧ r.fInput.length ≤ 4 ∧ r.fAfter.length ≤ 4 := by
    simp only [ruB, fcsB, Bool.and_eq_true, decide_eq_true_eq] at hr
    exact ⟨hr.1.2.1, hr.2.1.2.1, hr.2.2.1.2.1⟩
  have hV : apRu r xs a = (fit r.fInput xs a && (fit r.fBefore xs ((a : Int) - r.fBefore.length) && fit r.fAfter xs ((a : Int) + r.fInput.length))) := rfl
  generalize apRu r xs a = R at hV ⊢
  by_cases h1 : r.fBefore.length ≤ a
  · by_cases h2 : a + r.fInput.length + r.fAfter.length ≤ xs.length
    · have c1 := inClasses_v r.fBefore (cut xs (a - r.fBefore.length) r.fBefore.length)
      have c2 := inClasses_v r.fInput (cut xs a r.fInput.length)
      have c3 := inClasses_v r.fAfter (cut xs (a + r.fInput.length) r.fAfter.length)
      have f1 : fit r.fBefore xs ((a : Int) - r.fBefore.length) = inC r.fBefore (cut xs (a - r.fBefore.length) r.fBefore.length) := by
        rw [fit, decide_eq_true (by omega), decide_eq_true (by omega), Bool.true_and, Bool.true_and, show ((a : Int) - r.fBefore.length).toNat = a - r.fBefore.length by omega]
      have f2 : fit r.fInput xs a = inC r.fInput (cut xs a r.fInput.length) := by
        rw [fit, decide_eq_true (by omega), decide_eq_true (by omega), Bool.true_and, Bool.true_and, Int.toNat_natCast]
      have f3 : fit r.fAfter xs ((a : Int) + r.fInput.length) = inC r.fAfter (cut xs (a + r.fInput.length) r.fAfter.length) := by
        rw [fit, decide_eq_true (by omega), decide_eq_true (by omega), Bool.true_and, Bool.true_and, show ((a : Int) + r.fInput.length).toNat = a + r.fInput.length by omega]
      rw [f1, f2, f3] at hV
      rw [cut_map] at c1 c2 c3
      generalize inC r.fBefore (cut xs (a - r.fBefore.length) r.fBefore.length) = q1 at *
      generalize inC r.fInput (cut xs a r.fInput.length) = q2 at *
      generalize inC r.fAfter (cut xs (a + r.fInput.length) r.fAfter.length) = q3 at *
      (conv => whnf)
      (repeat' (first | (refine stg_ ?_) | (refine cla_ (c1) ?_ (hb := ⟨_, _, rfl, rfl, ⟨_, _, rfl, congrArg (fun l => V.d (D.lst l)) (by (congr 1 <;> first | omega | (congr 1; omega))), rfl⟩⟩)) | (refine cla_ (c2) ?_ (hb := ⟨_, _, rfl, rfl, ⟨_, _, rfl, congrArg (fun l => V.d (D.lst l)) (by (congr 1 <;> first | omega | (congr 1; omega))), rfl⟩⟩)) | (refine cla_ (c3) ?_ (hb := ⟨_, _, rfl, rfl, ⟨_, _, rfl, congrArg (fun l => V.d (D.lst l)) (by (congr 1 <;> first | omega | (congr 1; omega))), rfl⟩⟩)) | (refine br_ (fun hbr => ?_) (fun hbr => ?_))))
      all_goals first | (exfalso; omega) | ((refine RetOK.d rfl rfl ?_; conv => whnf); rw [hV]; simp_all; done) | skip
    · have hf : R = false := by
        rw [hV]
        by_cases h3 : a + r.fInput.length ≤ xs.length
        · rw [show fit r.fAfter xs ((a : Int) + r.fInput.length) = false by rw [fit, decide_eq_true (by omega), decide_eq_false (by omega)]; rfl]
          simp
        · rw [show fit r.fInput xs a = false by rw [fit, decide_eq_true (by omega), decide_eq_false (by omega)]; rfl]
          rfl
      subst hf
      (conv => whnf)
      (repeat' (first | (refine stg_ ?_) | fail | (refine br_ (fun hbr => ?_) (fun hbr => ?_))))
      all_goals first | (exfalso; omega) | (refine RetOK.d rfl rfl ?_; conv => whnf)
  · have hf : R = false := by
      rw [hV, show fit r.fBefore xs ((a : Int) - r.fBefore.length) = false by rw [fit, decide_eq_false (by omega)]; rfl]
      simp
    subst hf
    (conv => whnf)
    (repeat' (first | (refine stg_ ?_) | fail | (refine br_ (fun hbr => ?_) (fun hbr => ?_))))
    all_goals first | (exfalso; omega) | (refine RetOK.d rfl rfl ?_; conv => whnf)
set_option maxHeartbeats 2000000 in
theorem l26Fit_v (cs : List (List Int)) (xs : List TItem) (a : Int) (hc : cs.length ≤ 1000) (h1 : -1000000 ≤ a) (h2 : a ≤ 1000000) : PC Tryz.prog 263 [.d (.lst (cs.map (lstD (D.int .i64)))), .d (.lst (xs.map TItem.D)), .d (.int .i64 a)] (.d (.bool (fit cs xs a))) [] := by
  refine pc_intro ttOk (by kernel_rfl) Tryz.func263 rfl (by kernel_rfl) (by kernel_rfl) (by kernel_rfl) (fun hw => ?_)
  have hL : (xs.map TItem.D).length = xs.length := List.length_map _
  have hC : (cs.map (lstD (D.int .i64))).length = cs.length := List.length_map _
  by_cases h0 : 0 ≤ a
  · obtain ⟨n, rfl⟩ := Int.eq_ofNat_of_zero_le h0
    by_cases h3 : n + cs.length ≤ xs.length
    · have hF : fit cs xs (n : Int) = inC cs (cut xs n cs.length) := by
        rw [fit, decide_eq_true (by omega), decide_eq_true (by omega), Bool.true_and, Bool.true_and, Int.toNat_natCast]
      rw [hF]
      have hcl : (cut xs n cs.length).length = cs.length := by rw [cut, List.length_take, List.length_drop]; omega
      (conv => whnf)
      (repeat' (first | (refine stg_ ?_) | fail | (refine br_ (fun hbr => ?_) (fun hbr => ?_))))
      all_goals first | (exfalso; omega) | skip
      refine LoopW.go (α := Nat) (fun i => [(0, .d (.lst (cs.map (lstD (D.int .i64))))), (1, .d (.lst (xs.map TItem.D))), (2, .d (.int .i64 n)), (7, .d (.int .i64 i))]) (fun _ => [.gone]) (fun i => i ≤ cs.length ∧ inC cs (cut xs n cs.length) = inC (cs.drop i) ((cut xs n cs.length).drop i)) (fun i => cs.length - i) 0 covT_ ⟨by omega, rfl⟩ (fun i hi => ?_)
      obtain ⟨hi1, hi2⟩ := hi
      (conv => whnf)
      (repeat (refine stg_ ?_))
      (refine br_ (fun h4 => ?_) (fun h4 => ?_) <;> (repeat (refine stg_ ?_)))
      · obtain ⟨c, hcx⟩ := at_lt' (xs := cs) (k := i) (by omega)
        obtain ⟨x, hx⟩ := at_lt' (xs := xs) (k := n + i) (by omega)
        have hxc : (cut xs n cs.length)[i]? = some x := by rw [cut, List.getElem?_take, if_pos (by omega), List.getElem?_drop]; exact hx
        rw [inC_at hcx hxc] at hi2
        have hx' : (xs.map TItem.D)[((n : Int) + (i : Int)).toNat]? = some x.D := by
          have : ((n : Int) + (i : Int)).toNat = n + i := by omega
          rw [this, List.getElem?_map, hx]; rfl
        (repeat' (first | (refine stg_ ?_) | (refine cla_ (l00Has_v c x.fGlyph) ?_) | (refine IxW.at (by omega) hx' ?_; (conv => whnf)) | (refine br_ (fun hbr => ?_) (fun hbr => ?_))))
        all_goals first | ((refine RetOK.d rfl rfl ?_; conv => whnf); rw [hi2]; simp_all; done) | skip
        all_goals exact NextW.go (i + 1) covT_ ⟨by omega, by rw [hi2]; simp_all⟩ (by omega)
      · (repeat (refine stg_ ?_))
        (refine RetOK.d rfl rfl ?_; conv => whnf)
        rw [hi2, inC_end (by omega) (by omega)]
    · have hF : fit cs xs (n : Int) = false := by rw [fit, decide_eq_true (by omega), decide_eq_false (by omega)]; rfl
      rw [hF]
      (conv => whnf)
      (repeat' (first | (refine stg_ ?_) | fail | (refine br_ (fun hbr => ?_) (fun hbr => ?_))))
      all_goals first | (exfalso; omega) | (refine RetOK.d rfl rfl ?_; conv => whnf)
  · have hF : fit cs xs a = false := by rw [fit, decide_eq_false (by omega)]; rfl
    rw [hF]
    (conv => whnf)
    (repeat' (first | (refine stg_ ?_) | fail | (refine br_ (fun hbr => ?_) (fun hbr => ?_))))
    all_goals first | (exfalso; omega) | (refine RetOK.d rfl rfl ?_; conv => whnf)
set_option maxHeartbeats 2000000 in
theorem l26Matches_v (r : TRule) (xs : List TItem) (a : Nat) (hr : ruB r = true) (ha : a ≤ 1000) : PC Tryz.prog 245 [.pX r.D, .d (.lst (xs.map TItem.D)), .d (.int .i64 a)] (.d (.bool (apRu r xs a))) [] := by
  refine pc_intro ttOk (by kernel_rfl) Tryz.func245 rfl (by kernel_rfl) (by kernel_rfl) (by kernel_rfl) (fun hw => ?_)
  have hB : (r.fBefore.map (lstD (D.int .i64))).length = r.fBefore.length := List.length_map _
  have hI : (r.fInput.map (lstD (D.int .i64))).length = r.fInput.length := List.length_map _
  have hn : r.fBefore.length ≤ 4 ∧ r.fInput.length ≤ 4 ∧ r.fAfter.length ≤ 4 := by
    simp only [ruB, fcsB, Bool.and_eq_true, decide_eq_true_eq] at hr
    exact ⟨hr.1.2.1, hr.2.1.2.1, hr.2.2.1.2.1⟩
  have hV : apRu r xs a = (fit r.fInput xs a && (fit r.fBefore xs ((a : Int) - (r.fBefore.map (lstD (D.int .i64))).length) && fit r.fAfter xs ((a : Int) + (r.fInput.map (lstD (D.int .i64))).length))) := by rw [hB, hI]; rfl
  generalize apRu r xs a = R at hV ⊢
  have c1 := l26Fit_v r.fInput xs a (by omega) (by omega) (by omega)
  have c2 := l26Fit_v r.fBefore xs ((a : Int) - (r.fBefore.map (lstD (D.int .i64))).length) (by omega) (by omega) (by omega)
  have c3 := l26Fit_v r.fAfter xs ((a : Int) + (r.fInput.map (lstD (D.int .i64))).length) (by omega) (by omega) (by omega)
  generalize fit r.fInput xs a = q1 at *
  generalize fit r.fBefore xs _ = q2 at *
  generalize fit r.fAfter xs _ = q3 at *
  (conv => whnf)
  (repeat' (first | (refine stg_ ?_) | (refine cla_ (c1) ?_) | (refine cla_ (c2) ?_) | (refine cla_ (c3) ?_) | (refine br_ (fun hbr => ?_) (fun hbr => ?_))))
  all_goals ((refine RetOK.d rfl rfl ?_; conv => whnf); rw [hV]; simp_all)
theorem l26For_v (l : TLookup) (xs : List TItem) (a : Nat) (hl : ∀ r ∈ l.fRules, ruB r = true) (ha : a ≤ 1000) : PC Tryz.prog 221 [.pX l.D, .d (.lst (xs.map TItem.D)), .d (.int .i64 a)] (.d (.int .i64 (ruI l xs a))) [] := by
  refine pc_intro ttOk (by kernel_rfl) Tryz.func221 rfl (by kernel_rfl) (by kernel_rfl) (by kernel_rfl) (fun hw => ?_)
  have hL : (l.fRules.map TRule.D).length = l.fRules.length := List.length_map _
  have hm : (l.fRules.map TRule.D).length ≤ 9223372036854775807 := hw.1.2.1.1
  have hV : ruI l xs a = fdx (fun r => apRu r xs a) l.fRules 0 := rfl
  generalize ruI l xs a = R at hV ⊢
  (conv => whnf)
  refine LoopW.go (α := Nat) (fun k => [(0, .pX l.D), (1, .d (.lst (xs.map TItem.D))), (2, .d (.int .i64 a)), (7, .d (.int .i64 k))]) (fun k => [.gone]) (fun k => k ≤ l.fRules.length ∧ R = fdx (fun r => apRu r xs a) (l.fRules.drop k) k) (fun k => l.fRules.length - k) 0 covT_ ?_ (fun k hk => ?_)
  · exact ⟨by omega, hV⟩
  clear hV
  obtain ⟨hk1, hk2⟩ := hk
  (conv => whnf)
  (repeat (refine stg_ ?_))
  (refine br_ (fun h2 => ?_) (fun h2 => ?_) <;> (repeat (refine stg_ ?_)))
  · obtain ⟨r, hr⟩ := at_lt' (xs := l.fRules) (k := k) (by omega)
    rw [fdx_at hr] at hk2
    (repeat' (first | (refine stg_ ?_) | (refine cla_ (l26Matches_v r xs a (hl r (List.mem_of_getElem? hr)) ha) ?_) | (refine br_ (fun hbr => ?_) (fun hbr => ?_))))
    all_goals first | ((refine RetOK.d rfl rfl ?_; conv => whnf); rw [hk2, if_pos (by assumption)]; done) | skip
    all_goals exact NextW.go (k + 1) covT_ ⟨by omega, by rw [hk2, if_neg (by simp_all)]⟩ (by omega)
  · (repeat (refine stg_ ?_))
    (refine RetOK.d rfl rfl ?_; conv => whnf)
    rw [hk2, fdx_end (by omega)]
set_option maxHeartbeats 1000000 in
theorem ixRuleppm_v (xs : List TRule) (f : Nat) (y0 : D) (y1 : D) (p : TRule → Bool) (hf : ∀ x ∈ xs, PC Tryz.prog f [.d x.D, .pX y0, .pX y1] (.d (.bool (p x))) []) :
    PC Tryz.prog 197 [.d (.lst (xs.map TRule.D)), .fn (.func f) [.pX y0, .pX y1]] (.d (.int .i64 (fdx p xs 0))) [] := by
  refine pc_intro ttOk (by kernel_rfl) Tryz.func197 rfl (by kernel_rfl) (by kernel_rfl) (by kernel_rfl) (fun hw => ?_)
  have hL : (xs.map TRule.D).length = xs.length := List.length_map _
  have hm : (xs.map TRule.D).length ≤ 9223372036854775807 := hw.1.1
  (conv => whnf)
  refine LoopW.go (α := Nat) (fun k => [(0, .d (.lst (xs.map TRule.D))), (1, .fn (.func f) [.pX y0, .pX y1]), (7, .d (.int .i64 (xs.map TRule.D).length)), (8, .d (.int .i64 k))]) (fun k => [.gone]) (fun k => k ≤ xs.length ∧ fdx p xs 0 = fdx p (xs.drop k) k) (fun k => xs.length - k) 0 covT_ ?_ (fun k hk => ?_)
  · exact ⟨by omega, rfl⟩
  obtain ⟨hk1, hk2⟩ := hk
  (conv => whnf)
  (refine br_ (fun h2 => ?_) (fun h2 => ?_) <;> (repeat (refine stg_ ?_)))
  · obtain ⟨x, hx⟩ := at_lt' (xs := xs) (k := k) (by omega)
    rw [fdx_at hx] at hk2
    (repeat (refine stg_ ?_))
    (refine cla_ (hf x (List.mem_of_getElem? hx)) ?_)
    (refine br_ (fun h3 => ?_) (fun h3 => ?_) <;> (repeat (refine stg_ ?_)))
    · (refine RetOK.d rfl rfl ?_; conv => whnf)
      rw [hk2, if_pos h3]
    · (repeat (refine stg_ ?_))
      exact NextW.go (k + 1) covT_ ⟨by omega, by rw [hk2, h3]; rfl⟩ (by omega)
  · (refine RetOK.d rfl rfl ?_; conv => whnf)
    rw [hk2, fdx_end (by omega)]
theorem fdx_mem {α : Type} {p : α → Bool} {xs : List α} (h : 0 ≤ fdx p xs 0) : ∃ (i : Nat) (x : α), fdx p xs 0 = (i : Int) ∧ xs[i]? = some x ∧ p x = true := by
  rcases fdx_find p xs 0 with ⟨h1, h2⟩ | ⟨i, x, h1, h2, h3⟩
  · omega
  · exact ⟨i, x, by rw [h1, Nat.zero_add], h2, by simpa using List.find?_some h3⟩
theorem ruleFor1_v (r : TRule) (xs : List TItem) (a : Nat) (hr : ruB r = true) (hx : xs.length ≤ 1000) (ha : a ≤ 1000) : PC Tryz.prog 227 [.d r.D, .pX (.lst (xs.map TItem.D)), .pX (.int .i64 a)] (.d (.bool (apRu r xs a))) [] := by
  refine pc_intro ttOk (by kernel_rfl) Tryz.func227 rfl (by kernel_rfl) (by kernel_rfl) (by kernel_rfl) (fun hw => ?_)
  have c1 := applies_v r xs a hr hx ha
  (conv => whnf)
  (repeat' (first | (refine stg_ ?_) | (refine cla_ (c1) ?_) | (refine br_ (fun hbr => ?_) (fun hbr => ?_))))
  (refine RetOK.d rfl rfl ?_; conv => whnf)
theorem ruleFor_v (l : TLookup) (xs : List TItem) (a : Nat) (hl : ∀ r ∈ l.fRules, ruB r = true) (hx : xs.length ≤ 1000) (ha : a ≤ 1000) : PC Tryz.prog 189 [.d l.D, .d (.lst (xs.map TItem.D)), .d (.int .i64 a)] (.d (.int .i64 (ruI l xs a))) [] := by
  refine pc_intro ttOk (by kernel_rfl) Tryz.func189 rfl (by kernel_rfl) (by kernel_rfl) (by kernel_rfl) (fun hw => ?_)
  have c1 := ixRuleppm_v l.fRules _ (.lst (xs.map TItem.D)) (.int .i64 a) (fun r => apRu r xs a) (fun r hr => ruleFor1_v r xs a (hl r hr) hx ha)
  (conv => whnf)
  (repeat' (first | (refine stg_ ?_) | (refine cla_ (c1) ?_) | (refine br_ (fun hbr => ?_) (fun hbr => ?_))))
  (refine RetOK.d rfl rfl ?_; conv => whnf)
  rfl
set_option maxHeartbeats 4000000 in
theorem applyRule_v (r : TRule) (xs : List TItem) (a : Nat) (hr : ruB r = true) (hx : xs.length ≤ 60) (hwk : ∀ x ∈ xs, wkI x) (h1 : 1 ≤ r.fInput.length) (h2 : a + r.fInput.length ≤ xs.length) :
    PC Tryz.prog 190 [.d r.D, .d (.lst (xs.map TItem.D)), .d (.int .i64 a)] (.own 1 0 (rplL r xs a).length) [.arr 3 ((rplL r xs a).map TItem.D) true] := by
  refine pc_intro ttOk (by kernel_rfl) Tryz.func190 rfl (by kernel_rfl) (by kernel_rfl) (by kernel_rfl) (fun hw => ?_)
  have hL : (xs.map TItem.D).length = xs.length := List.length_map _
  have hI : (r.fInput.map (lstD (D.int .i64))).length = r.fInput.length := List.length_map _
  have hOl : (r.fOutput.map (D.int .i64)).length = r.fOutput.length := List.length_map _
  obtain ⟨-, -, hO4, -, -⟩ := ruB_fcs hr
  obtain ⟨y, hy⟩ := at_lt' (xs := xs) (k := a) (by omega)
  obtain ⟨z, hz⟩ := at_lt' (xs := xs) (k := a + r.fInput.length - 1) (by omega)
  have wy := hwk y (List.mem_of_getElem? hy)
  have wz := hwk z (List.mem_of_getElem? hz)
  obtain ⟨wy1, -⟩ := wy
  obtain ⟨-, wz2⟩ := wz
  have hz' : (xs.map TItem.D)[((a : Int) + ((r.fInput.map (lstD (D.int .i64))).length : Nat) - 1).toNat]? = some z.D := by
    have : ((a : Int) + ((r.fInput.map (lstD (D.int .i64))).length : Nat) - 1).toNat = a + r.fInput.length - 1 := by omega
    rw [this, List.getElem?_map, hz]; rfl
  have hR : rplL r xs a = xs.take a ++ putL true y.fFrom (z.fFrom + z.fLen) r.fOutput ++ xs.drop (a + r.fInput.length) := by rw [rplL, fromO, endO, hy, hz]
  generalize rplL r xs a = RL at hR ⊢
  (conv => whnf)
  (repeat' (first | (refine stg_ ?_) | (refine IxW.at (by omega) hz' ?_; (conv => whnf)) | (refine br_ (fun hbr => ?_) (fun hbr => ?_))))
  refine LoopW.go (α := Nat) (fun k => [(1, .d (.lst (xs.map TItem.D))), (2, .d (.int .i64 a)), (3, .pB 1 [] 0), (8, .d (.int .i64 y.fFrom)), (9, .d (.int .i64 (z.fFrom + z.fLen))), (10, .own 3 0 ((putL true y.fFrom (z.fFrom + z.fLen) (r.fOutput.take k)).map TItem.D).length), (33, .d (.lst (r.fOutput.map (D.int .i64)))), (34, .d (.int .i64 (r.fOutput.map (D.int .i64)).length)), (35, .d (.int .i64 k))]) (fun k => [.gone, .box (.d r.D), .box (.d z.D), .arr 3 ((putL true y.fFrom (z.fFrom + z.fLen) (r.fOutput.take k)).map TItem.D) true]) (fun k => k ≤ r.fOutput.length) (fun k => r.fOutput.length - k) 0 (Weak.trans (Weak.adopt (k := 10) rfl 3 true) (Weak.cov ⟨rfl, rfl, rfl, rfl, rfl, rfl, rfl, rfl, rfl, trivial⟩ ⟨trivial, rfl, rfl, rfl, trivial⟩ rfl)) (by omega) (fun k hk => ?_)
  have hP : ((putL true y.fFrom (z.fFrom + z.fLen) (r.fOutput.take k)).map TItem.D).length = k := by rw [List.length_map, putL_len, List.length_take]; omega
  (conv => whnf)
  (refine br_ (fun h3 => ?_) (fun h3 => ?_) <;> (repeat (refine stg_ ?_)))
  · obtain ⟨g, hg⟩ := at_lt' (xs := r.fOutput) (k := k) (by omega)
    have hS := putL_succ (f := y.fFrom) (e := z.fFrom + z.fLen) hg
    generalize putL true y.fFrom (z.fFrom + z.fLen) (r.fOutput.take k) = P0 at *
    have hP0 : P0.length = k := by rw [List.length_map] at hP; exact hP
    (repeat' (first | (refine stg_ ?_) | fail | (refine br_ (fun hbr => ?_) (fun hbr => ?_))))
    · obtain rfl : k = 0 := by omega
      rw [if_pos rfl] at hS
      refine NextW.go (0 + 1) (Weak.cov ⟨rfl, rfl, rfl, rfl, rfl, ?_, rfl, rfl, rfl, trivial⟩ ⟨trivial, rfl, rfl, ?_, trivial⟩ rfl) (by omega) (by omega)
      · rw [hS, List.map_append]; simp only [List.length_append]; rfl
      · rw [hS, List.map_append, List.take_length]; rfl
    · rw [if_neg (by omega)] at hS
      refine NextW.go (k + 1) (Weak.cov ⟨rfl, rfl, rfl, rfl, rfl, ?_, rfl, rfl, rfl, trivial⟩ ⟨trivial, rfl, rfl, ?_, trivial⟩ rfl) (by omega) (by omega)
      · rw [hS, List.map_append]; simp only [List.length_append]; rfl
      · rw [hS, List.map_append, List.take_length]; rfl
  · obtain rfl : k = r.fOutput.length := by omega
    rw [List.take_length] at *
    have hP2 : (putL true y.fFrom (z.fFrom + z.fLen) r.fOutput).length = r.fOutput.length := putL_len _ _ _ _
    generalize putL true y.fFrom (z.fFrom + z.fLen) r.fOutput = P0 at *
    have e4 : [xs.take a, P0, xs.drop (a + r.fInput.length)].flatten = RL := by rw [hR]; simp
    have e5 : lenS [xs.take a, P0, xs.drop (a + r.fInput.length)] = RL.length := by rw [hR]; simp [lenS, Nat.add_assoc]
    have c1 := catItem_v [xs.take a, P0, xs.drop (a + r.fInput.length)] (by simp only [lenS, List.length_take, List.length_drop]; omega)
    rw [e4, e5] at c1
    clear hR
    have hE1 : ((xs.map TItem.D).drop 0).take ((a : Int).toNat - 0) = (xs.take a).map TItem.D := by simp [List.map_take]
    have hE2 : ((xs.map TItem.D).drop ((a : Int) + ((r.fInput.map (lstD (D.int .i64))).length : Nat)).toNat).take ((xs.map TItem.D).length - ((a : Int) + ((r.fInput.map (lstD (D.int .i64))).length : Nat)).toNat) = (xs.drop (a + r.fInput.length)).map TItem.D := by
      have : ((a : Int) + ((r.fInput.map (lstD (D.int .i64))).length : Nat)).toNat = a + r.fInput.length := by omega
      rw [this, List.take_of_length_le (by simp), List.map_drop]
    (repeat' (first | (refine stg_ ?_) | fail | (refine br_ (fun hbr => ?_) (fun hbr => ?_))))
    refine cla_ c1 ?_ (hb := ⟨_, _, rfl, ⟨_, rfl, rfl, rfl, _, rfl, ⟨_, _, rfl, ⟨congrArg D.lst hE1.symm, rfl⟩, ⟨_, _, rfl, ⟨by simp, by (show _ = D.lst (List.take _ (List.drop 0 _)); rw [List.drop_zero, List.take_of_length_le (by simp)])⟩, ⟨_, _, rfl, ⟨congrArg D.lst hE2.symm, rfl⟩, rfl⟩⟩⟩⟩, rfl⟩)
    (repeat (refine stg_ ?_))
    (refine ⟨⟨[some 5], ⟨by decide, rfl, trivial, trivial⟩, by decide, rfl, ?_⟩⟩; (conv => whnf); exact ⟨by decide, rfl⟩)
theorem ruI_some {l : TLookup} {xs : List TItem} {a : Nat} (h : 0 ≤ ruI l xs a) : ∃ (i : Nat) (r : TRule), ruI l xs a = (i : Int) ∧ l.fRules[i]? = some r ∧ apRu r xs a = true := fdx_mem h
def ApRes (o : Option (List TItem × List Int)) : V → List Blk → Prop := fun v bs =>
  match o with
  | none => v = .tup [.nils, .nils, .d (.int .i64 5)] ∧ bs = []
  | some (ys, tr) => v = .tup [.own 1 0 ys.length, .own 2 0 tr.length, .d (.int .i64 0)] ∧ bs = [.arr 3 (ys.map TItem.D) true, .arr 1 (tr.map (D.int .i64)) true]
set_option maxHeartbeats 4000000 in
theorem applyLookup_v (l : TLookup) (xs : List TItem) (hl : lkB l = true) (hx : xs.length ≤ 60) (hwk : ∀ x ∈ xs, wkI x) {v : V} {bs : List Blk} (hres : ApRes (apL l xs) v bs) : PC Tryz.prog 143 [.d l.D, .d (.lst (xs.map TItem.D))] v bs := by
  refine pc_intro ttOk (by kernel_rfl) Tryz.func143 rfl (by kernel_rfl) (by kernel_rfl) (by kernel_rfl) (fun hw => ?_)
  obtain ⟨hrB, hrN⟩ := lkB_ru hl
  have hrI : ∀ r ∈ l.fRules, 1 ≤ r.fInput.length := fun r hr => (ruB_fcs (hrB r hr)).2.2.2.2
  have hL : (xs.map TItem.D).length = xs.length := List.length_map _
  have c0 := cloneItem_v xs (by omega)
  (conv => whnf)
  (repeat' (first | (refine stg_ ?_) | (refine cla_ (c0) ?_) | (refine br_ (fun hbr => ?_) (fun hbr => ?_))))
  refine LoopW.go (α := List TItem × List Int × Nat) (fun p => [(2, .pB 1 [] 0), (7, .own 2 0 p.1.length), (8, .own 3 0 p.2.1.length), (9, .d (.int .i64 (p.2.2 : Nat)))]) (fun p => [.gone, .box (.d l.D), .arr 3 (p.1.map TItem.D) true, .arr 1 (p.2.1.map (D.int .i64)) true]) (fun p => (p.1.length ≤ 60 ∧ p.2.2 ≤ p.1.length ∧ p.2.1.length + (p.1.length - p.2.2) ≤ 60) ∧ (∀ x ∈ p.1, wkI x) ∧ apL l xs = apF l (p.1.length - p.2.2 + 1) p.1 p.2.1 p.2.2) (fun p => p.1.length - p.2.2) (xs, [], 0) (Weak.trans (Weak.adopt (k := 8) rfl 1 true) (Weak.cov ⟨rfl, rfl, rfl, rfl, trivial⟩ ⟨trivial, rfl, rfl, rfl, trivial⟩ rfl)) ⟨⟨hx, Nat.zero_le _, by simp; omega⟩, hwk, rfl⟩ ?_
  rintro ⟨ys, tr, a⟩ ⟨⟨i1, i2, i3⟩, i4, i5⟩
  dsimp only at i1 i2 i3 i4 i5 ⊢
  have hYl : (ys.map TItem.D).length = ys.length := List.length_map _
  have hTl : (tr.map (D.int .i64)).length = tr.length := List.length_map _
  clear c0 hL
  (conv => whnf)
  (repeat (refine stg_ ?_))
  (refine br_ (fun h1 => ?_) (fun h1 => ?_) <;> (repeat (refine stg_ ?_)))
  · have h1' : ¬ ys.length ≤ a := by omega
    rw [apF, if_neg h1'] at i5
    have c1 := ruleFor_v l ys a hrB (by omega) (by omega)
    by_cases hq : 0 ≤ ruI l ys a
    · obtain ⟨i, r, q1, q2, q3⟩ := ruI_some hq
      rw [if_neg (by omega), q1, Int.toNat_natCast, q2] at i5
      simp only at i5
      rw [q1] at c1
      have hr := List.mem_of_getElem? q2
      have hle := apRu_le q3
      have hrl := rpl_len hle
      have hri := hrI r hr
      have hOl : (r.fOutput.map (D.int .i64)).length = r.fOutput.length := List.length_map _
      have hO4 := (ruB_fcs (hrB r hr)).2.2.1
      have c2 := applyRule_v r ys a (hrB r hr) i1 i4 hri hle
      have hwk2 := rpl_wk i4 hri hle
      generalize rplL r ys a = RL at *
      (repeat' (first | (refine stg_ ?_) | (refine cla_ (c1) ?_) | (refine cla_ (c2) ?_) | (refine br_ (fun hbr => ?_) (fun hbr => ?_))))
      all_goals first | (exfalso; omega) | skip
      · rw [if_pos (by omega)] at i5
        rw [i5] at hres
        obtain ⟨rfl, rfl⟩ := hres
        (refine ⟨⟨[], trivial, by decide, ⟨_, rfl, rfl, ⟨_, _, rfl, rfl, ⟨_, _, rfl, rfl, ⟨_, _, rfl, ⟨rfl, ?_⟩, rfl⟩⟩⟩⟩⟩⟩; (conv => whnf))
      · rw [if_neg (by omega)] at i5
        rw [← apF_more l hrI (RL.length - (a + r.fOutput.length) + 1) (ys.length - a) RL (tr ++ [(i : Int)]) (a + r.fOutput.length) (by omega) (by omega)] at i5
        refine NextW.go (RL, tr ++ [(i : Int)], a + r.fOutput.length) (Weak.trans (Weak.swap 2 4 rfl) (Weak.cov ⟨rfl, rfl, ?_, ?_, trivial⟩ ⟨trivial, rfl, rfl, ?_, trivial⟩ rfl)) ⟨⟨by show RL.length ≤ 60; omega, by show a + r.fOutput.length ≤ RL.length; omega, by show (tr ++ [(i : Int)]).length + (RL.length - (a + r.fOutput.length)) ≤ 60; rw [List.length_append]; simp only [List.length_cons, List.length_nil]; omega⟩, hwk2, i5⟩ (by show RL.length - (a + r.fOutput.length) < ys.length - a; omega)
        · show V.own 3 0 (tr.length + 1) = V.own 3 0 (tr ++ [(i : Int)]).length
          rw [List.length_append]; rfl
        · show V.d (.int .i64 ((a : Int) + ((r.fOutput.map (D.int .i64)).length : Nat))) = V.d (.int .i64 ((a + r.fOutput.length : Nat) : Int))
          rw [hOl]; rfl
        · show Blk.arr 1 ((tr.map (D.int .i64)).take tr.length ++ [D.int .i64 (i : Int)]) true = Blk.arr 1 ((tr ++ [(i : Int)]).map (D.int .i64)) true
          rw [List.take_of_length_le (by omega), List.map_append]; rfl
    · rw [if_pos (by omega)] at i5
      generalize ruI l ys a = q at *
      (repeat' (first | (refine stg_ ?_) | (refine cla_ (c1) ?_) | (refine br_ (fun hbr => ?_) (fun hbr => ?_))))
      all_goals first | (exfalso; omega) | skip
      refine NextW.go (ys, tr, a + 1) covT_ ⟨⟨i1, by show a + 1 ≤ ys.length; omega, by show tr.length + (ys.length - (a + 1)) ≤ 60; omega⟩, i4, by show _ = apF l (ys.length - (a + 1) + 1) ys tr (a + 1); rw [i5]; congr 1; omega⟩ (by show ys.length - (a + 1) < ys.length - a; omega)
  · have h1' : ys.length ≤ a := by omega
    rw [apF, if_pos h1'] at i5
    rw [i5] at hres
    obtain ⟨rfl, rfl⟩ := hres
    (repeat (refine stg_ ?_))
    (refine ⟨⟨[some 2, some 3], ⟨by decide, ?_, trivial, by decide, ?_, trivial, trivial⟩, by decide, ⟨_, rfl, rfl, ⟨_, _, rfl, ⟨by decide, ?_⟩, ⟨_, _, rfl, ⟨by decide, ?_⟩, ⟨_, _, rfl, ⟨rfl, ?_⟩, rfl⟩⟩⟩⟩⟩⟩)
    all_goals rfl
theorem vr_wk {xs : List TItem} {g : Int} (h : vrB xs g = true) : xs.length ≤ 60 ∧ ∀ x ∈ xs, wkI x := by
  simp only [vrB, Bool.and_eq_true, decide_eq_true_eq] at h
  refine ⟨h.2.1, fun x hx => ?_⟩
  have := itB_bnd (rnG_bnd xs none h.2.2 x hx)
  exact ⟨by omega, by omega⟩
theorem l26Replace_no (r : TRule) (xs : List TItem) (a : Nat) (hr : ruB r = true) (hx : xs.length ≤ 60) (h2 : a + r.fInput.length ≤ xs.length) (h3 : 60 < (rplL r xs a).length) :
    PC Tryz.prog 222 [.pX r.D, .d (.lst (xs.map TItem.D)), .d (.int .i64 a)] (.tup [.nils, .d (.int .i64 5)]) [] := by
  refine pc_intro ttOk (by kernel_rfl) Tryz.func222 rfl (by kernel_rfl) (by kernel_rfl) (by kernel_rfl) (fun hw => ?_)
  have hL : (xs.map TItem.D).length = xs.length := List.length_map _
  have hI : (r.fInput.map (lstD (D.int .i64))).length = r.fInput.length := List.length_map _
  have hOl : (r.fOutput.map (D.int .i64)).length = r.fOutput.length := List.length_map _
  have hO4 := (ruB_fcs hr).2.2.1
  have hrl := rpl_len h2
  (conv => whnf)
  (repeat' (first | (refine stg_ ?_) | fail | (refine br_ (fun hbr => ?_) (fun hbr => ?_))))
  all_goals first | (exfalso; omega) | (refine ⟨⟨[], trivial, by decide, ⟨_, rfl, rfl, ⟨_, _, rfl, rfl, ⟨_, _, rfl, ⟨rfl, ?_⟩, rfl⟩⟩⟩⟩⟩; (conv => whnf))
  all_goals rfl
set_option maxHeartbeats 4000000 in
theorem l26Replace_v (r : TRule) (xs : List TItem) (a : Nat) (hr : ruB r = true) (hx : xs.length ≤ 60) (hwk : ∀ x ∈ xs, wkI x) (h1 : 1 ≤ r.fInput.length) (h2 : a + r.fInput.length ≤ xs.length) (h3 : (rplL r xs a).length ≤ 60) :
    PC Tryz.prog 222 [.pX r.D, .d (.lst (xs.map TItem.D)), .d (.int .i64 a)] (.tup [.own 1 0 (rplL r xs a).length, .d (.int .i64 0)]) [.arr 3 ((rplL r xs a).map TItem.D) true] := by
  refine pc_intro ttOk (by kernel_rfl) Tryz.func222 rfl (by kernel_rfl) (by kernel_rfl) (by kernel_rfl) (fun hw => ?_)
  have hL : (xs.map TItem.D).length = xs.length := List.length_map _
  have hI : (r.fInput.map (lstD (D.int .i64))).length = r.fInput.length := List.length_map _
  have hOl : (r.fOutput.map (D.int .i64)).length = r.fOutput.length := List.length_map _
  have hO4 := (ruB_fcs hr).2.2.1
  have hrl := rpl_len h2
  obtain ⟨y, hy⟩ := at_lt' (xs := xs) (k := a) (by omega)
  obtain ⟨z, hz⟩ := at_lt' (xs := xs) (k := a + r.fInput.length - 1) (by omega)
  have wy := hwk y (List.mem_of_getElem? hy)
  have wz := hwk z (List.mem_of_getElem? hz)
  obtain ⟨wy1, -⟩ := wy
  obtain ⟨-, wz2⟩ := wz
  have hz' : (xs.map TItem.D)[((a : Int) + ((r.fInput.map (lstD (D.int .i64))).length : Nat) - 1).toNat]? = some z.D := by
    have : ((a : Int) + ((r.fInput.map (lstD (D.int .i64))).length : Nat) - 1).toNat = a + r.fInput.length - 1 := by omega
    rw [this, List.getElem?_map, hz]; rfl
  have hE1 : ((xs.map TItem.D).drop 0).take ((a : Int).toNat - 0) = (xs.take a).map TItem.D := by simp [List.map_take]
  have hE2 : ((xs.map TItem.D).drop ((a : Int) + ((r.fInput.map (lstD (D.int .i64))).length : Nat)).toNat).take ((xs.map TItem.D).length - ((a : Int) + ((r.fInput.map (lstD (D.int .i64))).length : Nat)).toNat) = (xs.drop (a + r.fInput.length)).map TItem.D := by
    have : ((a : Int) + ((r.fInput.map (lstD (D.int .i64))).length : Nat)).toNat = a + r.fInput.length := by omega
    rw [this, List.take_of_length_le (by simp), List.map_drop]
  have hR : rplL r xs a = xs.take a ++ putL true y.fFrom (z.fFrom + z.fLen) r.fOutput ++ xs.drop (a + r.fInput.length) := by rw [rplL, fromO, endO, hy, hz]
  generalize rplL r xs a = RL at *
  have hTa : (xs.take a).length = a := by rw [List.length_take]; omega
  (conv => whnf)
  (repeat' (first | (refine stg_ ?_) | (refine IxW.at (by omega) hz' ?_; (conv => whnf)) | (refine br_ (fun hbr => ?_) (fun hbr => ?_))))
  all_goals first | (exfalso; omega) | skip
  rw [hE1]
  (repeat (refine stg_ ?_))
  refine LoopW.go (α := Nat) (fun k => [(0, .pX r.D), (1, .d (.lst (xs.map TItem.D))), (2, .d (.int .i64 a)), (9, .d (.int .i64 (z.fFrom + z.fLen))), (10, .own 2 0 ((xs.take a ++ putL true y.fFrom (z.fFrom + z.fLen) (r.fOutput.take k)).map TItem.D).length), (11, .d (.int .i64 k))]) (fun k => [.gone, .gone, .arr 3 ((xs.take a ++ putL true y.fFrom (z.fFrom + z.fLen) (r.fOutput.take k)).map TItem.D) true]) (fun k => k ≤ r.fOutput.length) (fun k => r.fOutput.length - k) 0 (Weak.cov ⟨rfl, rfl, rfl, rfl, ?_, rfl, trivial⟩ ⟨trivial, trivial, ?_, trivial⟩ rfl) (by omega) (fun k hk => ?_)
  · show V.own 2 0 (0 + ((xs.take a).map TItem.D).length) = V.own 2 0 ((xs.take a ++ []).map TItem.D).length
    simp
  · show Blk.arr 3 ([] ++ (xs.take a).map TItem.D) true = Blk.arr 3 ((xs.take a ++ []).map TItem.D) true
    simp
  have hP : ((xs.take a ++ putL true y.fFrom (z.fFrom + z.fLen) (r.fOutput.take k)).map TItem.D).length = a + k := by rw [List.length_map, List.length_append, putL_len, hTa, List.length_take]; omega
  (conv => whnf)
  (repeat (refine stg_ ?_))
  (refine br_ (fun h4 => ?_) (fun h4 => ?_) <;> (repeat (refine stg_ ?_)))
  · obtain ⟨g, hg⟩ := at_lt' (xs := r.fOutput) (k := k) (by omega)
    have hS : xs.take a ++ putL true y.fFrom (z.fFrom + z.fLen) (r.fOutput.take (k + 1)) = xs.take a ++ putL true y.fFrom (z.fFrom + z.fLen) (r.fOutput.take k) ++ [if k = 0 then ⟨g, y.fFrom, z.fFrom + z.fLen - y.fFrom⟩ else ⟨g, z.fFrom + z.fLen, 0⟩] := by rw [putL_succ hg, List.append_assoc]
    generalize xs.take a ++ putL true y.fFrom (z.fFrom + z.fLen) (r.fOutput.take k) = P0 at *
    have hP0 : P0.length = a + k := by rw [List.length_map] at hP; exact hP
    (repeat' (first | (refine stg_ ?_) | fail | (refine br_ (fun hbr => ?_) (fun hbr => ?_))))
    · obtain rfl : k = 0 := by omega
      rw [if_pos rfl] at hS
      refine NextW.go (0 + 1) (Weak.cov ⟨rfl, rfl, rfl, rfl, ?_, rfl, trivial⟩ ⟨trivial, trivial, ?_, trivial⟩ rfl) (by omega) (by omega)
      · rw [hS, List.map_append]; simp only [List.length_append]; rfl
      · rw [hS, List.map_append, List.take_length]; rfl
    · rw [if_neg (by omega)] at hS
      refine NextW.go (k + 1) (Weak.cov ⟨rfl, rfl, rfl, rfl, ?_, rfl, trivial⟩ ⟨trivial, trivial, ?_, trivial⟩ rfl) (by omega) (by omega)
      · rw [hS, List.map_append]; simp only [List.length_append]; rfl
      · rw [hS, List.map_append, List.take_length]; rfl
  · obtain rfl : k = r.fOutput.length := by omega
    rw [List.take_length] at *
    have hRm : RL.map TItem.D = (xs.take a ++ putL true y.fFrom (z.fFrom + z.fLen) r.fOutput).map TItem.D ++ (xs.drop (a + r.fInput.length)).map TItem.D := by rw [hR, List.map_append]
    have hRl : RL.length = ((xs.take a ++ putL true y.fFrom (z.fFrom + z.fLen) r.fOutput).map TItem.D).length + ((xs.drop (a + r.fInput.length)).map TItem.D).length := by rw [← List.length_append, ← hRm, List.length_map]
    generalize xs.take a ++ putL true y.fFrom (z.fFrom + z.fLen) r.fOutput = P0 at *
    have hP0 : P0.length = a + r.fOutput.length := by rw [List.length_map] at hP; exact hP
    have hD : (xs.drop (a + r.fInput.length)).length ≤ 60 := by rw [List.length_drop]; omega
    (repeat' (first | (refine stg_ ?_) | fail | (refine br_ (fun hbr => ?_) (fun hbr => ?_))))
    rw [hE2]
    (repeat (refine stg_ ?_))
    (refine ⟨⟨[some 2], ⟨by decide, ?_, trivial, trivial⟩, by decide, ⟨_, rfl, rfl, ⟨_, _, rfl, ⟨by decide, ?_⟩, ⟨_, _, rfl, ⟨rfl, ?_⟩, rfl⟩⟩⟩⟩⟩)
    · rw [hRm, List.take_length]; rfl
    · rw [hRl]; rfl
    · rfl
set_option maxHeartbeats 4000000 in
theorem l26Apply_v (l : TLookup) (xs : List TItem) (hl : lkB l = true) (hx : xs.length ≤ 60) (hwk : ∀ x ∈ xs, wkI x) {v : V} {bs : List Blk} (hres : ApRes (apL l xs) v bs) : PC Tryz.prog 184 [.pX l.D, .d (.lst (xs.map TItem.D))] v bs := by
  refine pc_intro ttOk (by kernel_rfl) Tryz.func184 rfl (by kernel_rfl) (by kernel_rfl) (by kernel_rfl) (fun hw => ?_)
  obtain ⟨hrB, hrN⟩ := lkB_ru hl
  have hrI : ∀ r ∈ l.fRules, 1 ≤ r.fInput.length := fun r hr => (ruB_fcs (hrB r hr)).2.2.2.2
  have hL : (xs.map TItem.D).length = xs.length := List.length_map _
  (conv => whnf)
  (repeat' (first | (refine stg_ ?_) | fail | (refine br_ (fun hbr => ?_) (fun hbr => ?_))))
  refine LoopW.go (α := List TItem × List Int × Nat) (fun p => [(0, .pX l.D), (7, .own 1 0 p.1.length), (8, .own 2 0 p.2.1.length), (9, .d (.int .i64 (p.2.2 : Nat)))]) (fun p => [.gone, .arr 3 (p.1.map TItem.D) true, .arr 1 (p.2.1.map (D.int .i64)) true]) (fun p => (p.1.length ≤ 60 ∧ p.2.2 ≤ p.1.length ∧ p.2.1.length + (p.1.length - p.2.2) ≤ 60) ∧ (∀ x ∈ p.1, wkI x) ∧ apL l xs = apF l (p.1.length - p.2.2 + 1) p.1 p.2.1 p.2.2) (fun p => p.1.length - p.2.2) (xs, [], 0) (Weak.cov ⟨rfl, by (show V.own 1 0 (0 + (xs.map TItem.D).length) = V.own 1 0 xs.length; rw [Nat.zero_add, hL]), rfl, rfl, trivial⟩ ⟨trivial, rfl, rfl, trivial⟩ rfl) ⟨⟨hx, Nat.zero_le _, by simp; omega⟩, hwk, rfl⟩ ?_
  rintro ⟨ys, tr, a⟩ ⟨⟨i1, i2, i3⟩, i4, i5⟩
  dsimp only at i1 i2 i3 i4 i5 ⊢
  have hYl : (ys.map TItem.D).length = ys.length := List.length_map _
  have hTl : (tr.map (D.int .i64)).length = tr.length := List.length_map _
  clear hL
  (conv => whnf)
  (repeat (refine stg_ ?_))
  (refine br_ (fun h1 => ?_) (fun h1 => ?_) <;> (repeat (refine stg_ ?_)))
  · have h1' : ¬ ys.length ≤ a := by omega
    rw [apF, if_neg h1'] at i5
    have c1 := l26For_v l ys a hrB (by omega)
    by_cases hq : 0 ≤ ruI l ys a
    · obtain ⟨i, r, q1, q2, q3⟩ := ruI_some hq
      rw [if_neg (by omega), q1, Int.toNat_natCast, q2] at i5
      simp only at i5
      rw [q1] at c1
      have hr := List.mem_of_getElem? q2
      have hle := apRu_le q3
      have hrl := rpl_len hle
      have hri := hrI r hr
      have hOl : (r.fOutput.map (D.int .i64)).length = r.fOutput.length := List.length_map _
      have hO4 := (ruB_fcs (hrB r hr)).2.2.1
      have hwk2 := rpl_wk i4 hri hle
      by_cases h60 : 60 < (rplL r ys a).length
      · have c2 := l26Replace_no r ys a (hrB r hr) i1 hle h60
        (repeat' (first | (refine stg_ ?_) | (refine cla_ (c1) ?_) | (refine cla_ (c2) ?_) | (refine br_ (fun hbr => ?_) (fun hbr => ?_))))
        all_goals first | (exfalso; omega) | (exfalso; simp_all; done) | skip
        rw [if_pos h60] at i5
        rw [i5] at hres
        obtain ⟨rfl, rfl⟩ := hres
        (refine ⟨⟨[], trivial, by decide, ⟨_, rfl, rfl, ⟨_, _, rfl, rfl, ⟨_, _, rfl, rfl, ⟨_, _, rfl, ⟨rfl, ?_⟩, rfl⟩⟩⟩⟩⟩⟩; (conv => whnf))
        all_goals rfl
      · have c2 := l26Replace_v r ys a (hrB r hr) i1 i4 hri hle (by omega)
        generalize rplL r ys a = RL at *
        (repeat' (first | (refine stg_ ?_) | (refine cla_ (c1) ?_) | (refine cla_ (c2) ?_) | (refine br_ (fun hbr => ?_) (fun hbr => ?_))))
        all_goals first | (exfalso; omega) | (exfalso; simp_all; done) | skip
        rw [if_neg h60] at i5
        rw [← apF_more l hrI (RL.length - (a + r.fOutput.length) + 1) (ys.length - a) RL (tr ++ [(i : Int)]) (a + r.fOutput.length) (by omega) (by omega)] at i5
        refine NextW.go (RL, tr ++ [(i : Int)], a + r.fOutput.length) (Weak.trans (Weak.swap 1 3 rfl) (Weak.cov ⟨rfl, rfl, ?_, ?_, trivial⟩ ⟨trivial, rfl, ?_, trivial⟩ rfl)) ⟨⟨by show RL.length ≤ 60; omega, by show a + r.fOutput.length ≤ RL.length; omega, by show (tr ++ [(i : Int)]).length + (RL.length - (a + r.fOutput.length)) ≤ 60; rw [List.length_append]; simp only [List.length_cons, List.length_nil]; omega⟩, hwk2, i5⟩ (by show RL.length - (a + r.fOutput.length) < ys.length - a; omega)
        · show V.own 2 0 (tr.length + 1) = V.own 2 0 (tr ++ [(i : Int)]).length
          rw [List.length_append]; rfl
        · show V.d (.int .i64 ((a : Int) + ((r.fOutput.map (D.int .i64)).length : Nat))) = V.d (.int .i64 ((a + r.fOutput.length : Nat) : Int))
          rw [hOl]; rfl
        · show Blk.arr 1 ((tr.map (D.int .i64)).take tr.length ++ [D.int .i64 (i : Int)]) true = Blk.arr 1 ((tr ++ [(i : Int)]).map (D.int .i64)) true
          rw [List.take_of_length_le (by omega), List.map_append]; rfl
    · rw [if_pos (by omega)] at i5
      generalize ruI l ys a = q at *
      (repeat' (first | (refine stg_ ?_) | (refine cla_ (c1) ?_) | (refine br_ (fun hbr => ?_) (fun hbr => ?_))))
      all_goals first | (exfalso; omega) | skip
      refine NextW.go (ys, tr, a + 1) covT_ ⟨⟨i1, by show a + 1 ≤ ys.length; omega, by show tr.length + (ys.length - (a + 1)) ≤ 60; omega⟩, i4, by show _ = apF l (ys.length - (a + 1) + 1) ys tr (a + 1); rw [i5]; congr 1; omega⟩ (by show ys.length - (a + 1) < ys.length - a; omega)
  · have h1' : ys.length ≤ a := by omega
    rw [apF, if_pos h1'] at i5
    rw [i5] at hres
    obtain ⟨rfl, rfl⟩ := hres
    (repeat (refine stg_ ?_))
    (refine ⟨⟨[some 1, some 2], ⟨by decide, ?_, trivial, by decide, ?_, trivial, trivial⟩, by decide, ⟨_, rfl, rfl, ⟨_, _, rfl, ⟨by decide, ?_⟩, ⟨_, _, rfl, ⟨by decide, ?_⟩, ⟨_, _, rfl, ⟨rfl, ?_⟩, rfl⟩⟩⟩⟩⟩⟩)
    all_goals rfl
set_option maxHeartbeats 4000000 in
theorem l25Ok_v (f : TFeatures) : PC Tryz.prog 42 [.pX f.D] (.d (.bool (ftB f))) [] := by
  refine pc_intro ttOk (by kernel_rfl) Tryz.func42 rfl (by kernel_rfl) (by kernel_rfl) (by kernel_rfl) (fun hw => ?_)
  have hK : (f.fKerns.map TKern.D).length = f.fKerns.length := List.length_map _
  have hM : (f.fMarks.map TMarkRule.D).length = f.fMarks.length := List.length_map _
  have hJ : (f.fJoins.map TJoin.D).length = f.fJoins.length := List.length_map _
  have hJm : (f.fJoins.map TJoin.D).length ≤ 9223372036854775807 := hw.1.2.2.2.1.1
  have c1 := l25Lookups_v f.fLookups
  have hF : ftB f = (lksB f.fLookups && (decide (f.fKerns.length ≤ 40) && (decide (f.fMarks.length ≤ 12) && (f.fKerns.all knB && (f.fMarks.all mkB && jnG none f.fJoins))))) := rfl
  generalize ftB f = R at hF ⊢
  (conv => whnf)
  (repeat' (first | (refine stg_ ?_) | (refine cla_ (c1) ?_) | (refine br_ (fun hbr => ?_) (fun hbr => ?_))))
  all_goals first | ((refine RetOK.d rfl rfl ?_; conv => whnf); rw [hF]; simp_all; done) | ((refine RetOK.d rfl rfl ?_; conv => whnf); rw [hF, show decide (f.fKerns.length ≤ 40) = false by (rw [decide_eq_false_iff_not]; omega)]; simp; done) | ((refine RetOK.d rfl rfl ?_; conv => whnf); rw [hF, show decide (f.fMarks.length ≤ 12) = false by (rw [decide_eq_false_iff_not]; omega)]; simp; done) | skip
  have hk40 : f.fKerns.length ≤ 40 := by omega
  have hm12 : f.fMarks.length ≤ 12 := by omega
  have hl8 : lksB f.fLookups = true := by assumption
  rw [hl8, decide_eq_true hk40, decide_eq_true hm12, Bool.true_and, Bool.true_and, Bool.true_and] at hF
  clear c1 hl8
  refine LoopW.go (α := Nat) (fun k => [(0, .pX f.D), (3, .d (.int .i64 k))]) (fun k => [.gone]) (fun k => k ≤ f.fKerns.length ∧ f.fKerns.all knB = (f.fKerns.drop k).all knB) (fun k => f.fKerns.length - k) 0 covT_ ?_ (fun k hk => ?_)
  · exact ⟨by omega, rfl⟩
  obtain ⟨hk1, hk2⟩ := hk
  (conv => whnf)
  (repeat (refine stg_ ?_))
  (refine br_ (fun h2 => ?_) (fun h2 => ?_) <;> (repeat (refine stg_ ?_)))
  · obtain ⟨x, hx⟩ := at_lt' (xs := f.fKerns) (k := k) (by omega)
    rw [drop_at hx, List.all_cons] at hk2
    (repeat' (first | (refine stg_ ?_) | (refine cla_ (l25Class_v x.fLeft) ?_) | (refine cla_ (l25Class_v x.fRight) ?_) | (refine cl_ (l00In_v _ _ _) ?_) | (refine br_ (fun hbr => ?_) (fun hbr => ?_))))
    all_goals first | ((refine RetOK.d rfl rfl ?_; conv => whnf); rw [hF, hk2, knB]; simp_all; done) | skip
    all_goals exact NextW.go (k + 1) covT_ ⟨by omega, by rw [hk2, knB]; simp_all⟩ (by omega)
  rw [List.drop_eq_nil_of_le (by omega), List.all_nil] at hk2
  rw [hk2, Bool.true_and] at hF
  clear hk2 h2 hk1
  (repeat (refine stg_ ?_))
  refine LoopW.go (α := Nat) (fun j => [(0, .pX f.D), (5, .d (.int .i64 j))]) (fun _ => [.gone]) (fun j => j ≤ f.fMarks.length ∧ f.fMarks.all mkB = (f.fMarks.drop j).all mkB) (fun j => f.fMarks.length - j) 0 covT_ ⟨by omega, rfl⟩ (fun j hj => ?_)
  obtain ⟨hj1, hj2⟩ := hj
  (conv => whnf)
  (repeat (refine stg_ ?_))
  (refine br_ (fun h2 => ?_) (fun h2 => ?_) <;> (repeat (refine stg_ ?_)))
  · obtain ⟨x, hx⟩ := at_lt' (xs := f.fMarks) (k := j) (by omega)
    rw [drop_at hx, List.all_cons] at hj2
    (repeat' (first | (refine stg_ ?_) | (refine cla_ (l25Class_v x.fMarks) ?_) | (refine cla_ (l25Class_v x.fBases) ?_) | (refine cla_ (specIsName_v x.fAnchor) ?_) | (refine br_ (fun hbr => ?_) (fun hbr => ?_))))
    all_goals first | ((refine RetOK.d rfl rfl ?_; conv => whnf); rw [hF, hj2, mkB]; simp_all; done) | skip
    all_goals exact NextW.go (j + 1) covT_ ⟨by omega, by rw [hj2, mkB]; simp_all⟩ (by omega)
  rw [List.drop_eq_nil_of_le (by omega), List.all_nil] at hj2
  rw [hj2, Bool.true_and] at hF
  clear hj2 h2 hj1
  (repeat (refine stg_ ?_))
  refine LoopW.go (α := Nat) (fun j => [(0, .pX f.D), (7, .d (.int .i64 j))]) (fun _ => [.gone]) (fun j => j ≤ f.fJoins.length ∧ R = jnG (pv f.fJoins j) (f.fJoins.drop j)) (fun j => f.fJoins.length - j) 0 covT_ ⟨by omega, hF⟩ (fun j hj => ?_)
  clear hF
  obtain ⟨hj1, hj2⟩ := hj
  (conv => whnf)
  (repeat (refine stg_ ?_))
  (refine br_ (fun h2 => ?_) (fun h2 => ?_) <;> (repeat (refine stg_ ?_)))
  · obtain ⟨x, hx⟩ := at_lt' (xs := f.fJoins) (k := j) (by omega)
    rw [jnG_at hx] at hj2
    rcases Nat.eq_zero_or_pos j with rfl | h0
    · rw [pv_zero, ltJ, Bool.true_and] at hj2
      (repeat' (first | (refine stg_ ?_) | (refine cla_ (l25Join_v x) ?_) | (refine br_ (fun hbr => ?_) (fun hbr => ?_))))
      all_goals first | (exfalso; omega) | ((refine RetOK.d rfl rfl ?_; conv => whnf); simp_all; done) | skip
      all_goals exact NextW.go (0 + 1) covT_ ⟨by omega, by simp_all⟩ (by omega)
    · obtain ⟨p, hp⟩ := at_lt' (xs := f.fJoins) (k := j - 1) (by omega)
      have hp' : (f.fJoins.map TJoin.D)[((j : Int) - 1).toNat]? = some p.D := by
        have : ((j : Int) - 1).toNat = j - 1 := by omega
        rw [this, List.getElem?_map, hp]; rfl
      rw [pv_pos _ h0, hp, ltJ] at hj2
      (repeat' (first | (refine stg_ ?_) | (refine cla_ (l25Join_v x) ?_) | (refine IxW.at (by omega) hp' ?_; (conv => whnf)) | (refine br_ (fun hbr => ?_) (fun hbr => ?_))))
      all_goals first | (exfalso; omega) | ((refine RetOK.d rfl rfl ?_; conv => whnf); simp_all; done) | ((refine RetOK.d rfl rfl ?_; conv => whnf); rw [hj2, show decide (p.fGlyph < x.fGlyph) = false by (rw [decide_eq_false_iff_not]; omega)]; simp; done) | skip
      all_goals exact NextW.go (j + 1) covT_ ⟨by omega, by simp_all⟩ (by omega)
  · (refine RetOK.d rfl rfl ?_; conv => whnf)
    rw [hj2, jnG_end (by omega)]
end Go.Proofs.YtcachhipflibkaaGreat