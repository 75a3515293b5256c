/- Features: plain law. Leans on no program. -/
import Derived.Test.YtcachhipflibkaaGreatGen
import Derived.Test.YtcachhipflibkaaGreatAxV1
import Derived.Test.YtcachhipflibkaaGreatDt
set_option linter.unusedSimpArgs false
set_option linter.unusedVariables false
namespace Go.Proofs.YtcachhipflibkaaGreat
open Go.RowKit
def ltQ : Option Int → Int → Bool
  | none, _ => true
  | some q, x => decide (q < x)
/-- glyphs, strictly rising -/
def clG : Option Int → List Int → Bool
  | _, [] => true
  | o, x :: t => inB x 0 39 && (ltQ o x && clG (some x) t)
theorem clG_at {xs : List Int} {k : Nat} {x : Int} (hx : xs[k]? = some x) : clG (pv xs k) (xs.drop k) = (inB x 0 39 && (ltQ (pv xs k) x && clG (pv xs (k + 1)) (xs.drop (k + 1)))) := by
  rw [drop_at hx, clG, pv_succ, hx]
theorem clG_end {xs : List Int} {k : Nat} {o : Option Int} (hk : xs.length ≤ k) : clG o (xs.drop k) = true := by
  rw [List.drop_eq_nil_of_le hk]; rfl
def clsB (xs : List Int) : Bool := clG none xs
def fcB (xs : List Int) : Bool := decide (0 < xs.length) && clsB xs
def fcsB (lo : Nat) (xs : List (List Int)) : Bool := decide (lo ≤ xs.length) && (decide (xs.length ≤ 4) && xs.all fcB)
def ruB (r : TRule) : Bool := fcsB 0 r.fBefore && (fcsB 1 r.fInput && (fcsB 0 r.fAfter && (decide (r.fOutput.length ≤ 4) && r.fOutput.all fun g => inB g 0 39)))
def nmEq (s : ByteArray) (x : TLookup) : Bool := x.fName.toList == s.toList
def lkB (l : TLookup) : Bool := nameB l.fName && (decide (l.fRules.length ≤ 40) && l.fRules.all ruB)
def lkG (seen : List TLookup) : List TLookup → Bool
  | [] => true
  | x :: t => lkB x && (!seen.any (nmEq x.fName) && lkG (seen ++ [x]) t)
theorem lkG_at {xs : List TLookup} {k : Nat} {x : TLookup} (hx : xs[k]? = some x) : lkG (xs.take k) (xs.drop k) = (lkB x && (!(xs.take k).any (nmEq x.fName) && lkG (xs.take (k + 1)) (xs.drop (k + 1)))) := by
  rw [drop_at hx, lkG, take_snoc_get hx]
theorem lkG_end {xs : List TLookup} {k : Nat} {o : List TLookup} (hk : xs.length ≤ k) : lkG o (xs.drop k) = true := by
  rw [List.drop_eq_nil_of_le hk]; rfl
def lksB (xs : List TLookup) : Bool := decide (xs.length ≤ 8) && lkG [] xs
def knB (k : TKern) : Bool := fcB k.fLeft && (fcB k.fRight && inB k.fValue (-262144) 262144)
def mkB (m : TMarkRule) : Bool := fcB m.fMarks && (fcB m.fBases && nameB m.fAnchor)
def fmB (k f : Int) : Bool := inB f (-1) 39 && (!(k == 3) || f == -1)
def jnB (j : TJoin) : Bool := inB j.fGlyph 0 39 && (inB j.fKind 1 3 && (fmB j.fKind j.fInit && (fmB j.fKind j.fMedi && fmB j.fKind j.fFina)))
def ltJ : Option TJoin → TJoin → Bool
  | none, _ => true
  | some q, x => decide (q.fGlyph < x.fGlyph)
def jnG : Option TJoin → List TJoin → Bool
  | _, [] => true
  | o, x :: t => jnB x && (ltJ o x && jnG (some x) t)
theorem jnG_at {xs : List TJoin} {k : Nat} {x : TJoin} (hx : xs[k]? = some x) : jnG (pv xs k) (xs.drop k) = (jnB x && (ltJ (pv xs k) x && jnG (pv xs (k + 1)) (xs.drop (k + 1)))) := by
  rw [drop_at hx, jnG, pv_succ, hx]
theorem jnG_end {xs : List TJoin} {k : Nat} {o : Option TJoin} (hk : xs.length ≤ k) : jnG o (xs.drop k) = true := by
  rw [List.drop_eq_nil_of_le hk]; rfl
def ftB (f : TFeatures) : Bool :=
  lksB f.fLookups && (decide (f.fKerns.length ≤ 40) && (decide (f.fMarks.length ≤ 12) && (f.fKerns.all knB && (f.fMarks.all mkB && jnG none f.fJoins))))
/-! ### the glyphs that occur -/
def ruGl (r : TRule) : List Int := (r.fBefore ++ r.fInput ++ r.fAfter).flatten ++ r.fOutput
def lkGl (l : TLookup) : List Int := l.fRules.flatMap ruGl
def knGl (k : TKern) : List Int := k.fLeft ++ k.fRight
def mkGl (m : TMarkRule) : List Int := m.fMarks ++ m.fBases
def jnGl (j : TJoin) : List Int := j.fGlyph :: [j.fInit, j.fMedi, j.fFina].filter fun g => decide (0 ≤ g)
def usG (f : TFeatures) : List Int := f.fLookups.flatMap lkGl ++ f.fKerns.flatMap knGl ++ f.fMarks.flatMap mkGl ++ f.fJoins.flatMap jnGl
/-! ### facts -/
theorem clG_bnd : ∀ (xs : List Int) (o : Option Int), clG o xs = true → ∀ x ∈ xs, 0 ≤ x ∧ x ≤ 39
  | [], _, _, x, hx => by simp at hx
  | y :: t, o, h, x, hx => by
    simp only [clG, inB, Bool.and_eq_true, decide_eq_true_eq] at h
    rcases List.mem_cons.1 hx with rfl | hx
    · exact h.1
    · exact clG_bnd t _ h.2.2 x hx
theorem clG_len : ∀ (xs : List Int) (q : Int), clG (some q) xs = true → q ≤ 39 → (xs.length : Int) ≤ 39 - q
  | [], q, _, h => by simp; omega
  | y :: t, q, h, h0 => by
    simp only [clG, ltQ, inB, Bool.and_eq_true, decide_eq_true_eq] at h
    have := clG_len t y h.2.2 h.1.2
    simp only [List.length_cons]
    omega
theorem clsB_len {xs : List Int} (h : clsB xs = true) : xs.length ≤ 40 := by
  cases xs with
  | nil => simp
  | cons y t =>
    rw [clsB, clG] at h
    simp only [inB, Bool.and_eq_true, decide_eq_true_eq] at h
    have := clG_len t y h.2.2 h.1.2
    simp only [List.length_cons]
    omega
theorem fcB_len {xs : List Int} (h : fcB xs = true) : xs.length ≤ 40 := by
  simp only [fcB, Bool.and_eq_true] at h
  exact clsB_len h.2
theorem fcB_bnd {xs : List Int} (h : fcB xs = true) : ∀ x ∈ xs, 0 ≤ x ∧ x ≤ 39 := by
  simp only [fcB, Bool.and_eq_true] at h
  exact clG_bnd xs none h.2
theorem flatten_len {α : Type} {m : Nat} : ∀ (xs : List (List α)), (∀ x ∈ xs, x.length ≤ m) → xs.flatten.length ≤ xs.length * m
  | [], _ => by simp
  | x :: t, h => by
    have h1 := h x (by simp)
    have h2 := flatten_len t (fun y hy => h y (by simp [hy]))
    simp only [List.flatten_cons, List.length_append, List.length_cons, Nat.succ_mul]
    omega
theorem flatMap_len {α β : Type} {m : Nat} {f : α → List β} (xs : List α) (h : ∀ x ∈ xs, (f x).length ≤ m) : (xs.flatMap f).length ≤ xs.length * m := by
  have := flatten_len (m := m) (xs.map f) (by simpa using h)
  rw [List.length_map] at this
  rwa [List.flatMap_def]
theorem ruB_fcs {r : TRule} (h : ruB r = true) : (∀ c ∈ r.fBefore ++ r.fInput ++ r.fAfter, fcB c = true) ∧ (r.fBefore ++ r.fInput ++ r.fAfter).length ≤ 12 ∧ r.fOutput.length ≤ 4 ∧ (∀ g ∈ r.fOutput, 0 ≤ g ∧ g ≤ 39) ∧ 1 ≤ r.fInput.length := by
  simp only [ruB, fcsB, Bool.and_eq_true, decide_eq_true_eq, List.all_eq_true, inB] at h
  refine ⟨fun c hc => ?_, ?_, h.2.2.2.1, fun g hg => h.2.2.2.2 g hg, h.2.1.1⟩
  · simp only [List.mem_append] at hc
    rcases hc with (hc | hc) | hc
    · exact h.1.2.2 c hc
    · exact h.2.1.2.2 c hc
    · exact h.2.2.1.2.2 c hc
  · simp only [List.length_append]; omega
theorem ruGl_len {r : TRule} (h : ruB r = true) : (ruGl r).length ≤ 484 := by
  obtain ⟨h1, h2, h3, -⟩ := ruB_fcs h
  have := flatten_len (m := 40) _ (fun c hc => fcB_len (h1 c hc))
  have := Nat.mul_le_mul_right 40 h2
  rw [ruGl, List.length_append]
  omega
theorem ruGl_bnd {r : TRule} (h : ruB r = true) : ∀ g ∈ ruGl r, 0 ≤ g ∧ g ≤ 39 := by
  obtain ⟨h1, -, -, h4, -⟩ := ruB_fcs h
  intro g hg
  rw [ruGl, List.mem_append, List.mem_flatten] at hg
  rcases hg with ⟨c, hc, hg⟩ | hg
  · exact fcB_bnd (h1 c hc) g hg
  · exact h4 g hg
theorem lkB_ru {l : TLookup} (h : lkB l = true) : (∀ r ∈ l.fRules, ruB r = true) ∧ l.fRules.length ≤ 40 := by
  simp only [lkB, Bool.and_eq_true, decide_eq_true_eq, List.all_eq_true] at h
  exact ⟨h.2.2, h.2.1⟩
theorem lkGl_len {l : TLookup} (h : lkB l = true) : (lkGl l).length ≤ 19360 := by
  obtain ⟨h1, h2⟩ := lkB_ru h
  have := flatMap_len (m := 484) (f := ruGl) l.fRules (fun r hr => ruGl_len (h1 r hr))
  have := Nat.mul_le_mul_right 484 h2
  rw [lkGl]; omega
theorem lkG_all : ∀ (xs seen : List TLookup), lkG seen xs = true → ∀ x ∈ xs, lkB x = true
  | [], _, _, x, hx => by simp at hx
  | y :: t, seen, h, x, hx => by
    simp only [lkG, Bool.and_eq_true] at h
    rcases List.mem_cons.1 hx with rfl | hx
    · exact h.1
    · exact lkG_all t _ h.2.2 x hx
theorem jnG_all : ∀ (xs : List TJoin) (o : Option TJoin), jnG o xs = true → ∀ x ∈ xs, jnB x = true
  | [], _, _, x, hx => by simp at hx
  | y :: t, o, h, x, hx => by
    simp only [jnG, Bool.and_eq_true] at h
    rcases List.mem_cons.1 hx with rfl | hx
    · exact h.1
    · exact jnG_all t _ h.2.2 x hx
theorem jnG_len : ∀ (xs : List TJoin) (q : TJoin), jnG (some q) xs = true → q.fGlyph ≤ 39 → (xs.length : Int) ≤ 39 - q.fGlyph
  | [], q, _, h => by simp; omega
  | y :: t, q, h, h0 => by
    simp only [jnG, ltJ, jnB, inB, Bool.and_eq_true, decide_eq_true_eq] at h
    have := jnG_len t y h.2.2 h.1.1.2
    simp only [List.length_cons]
    omega
theorem jns_len {xs : List TJoin} (h : jnG none xs = true) : xs.length ≤ 40 := by
  cases xs with
  | nil => simp
  | cons y t =>
    rw [jnG] at h
    simp only [jnB, inB, Bool.and_eq_true, decide_eq_true_eq] at h
    have := jnG_len t y h.2.2 h.1.1.2
    simp only [List.length_cons]
    omega
structure FtF (f : TFeatures) : Prop where
  lk : ∀ l ∈ f.fLookups, lkB l = true
  lkn : f.fLookups.length ≤ 8
  kn : ∀ k ∈ f.fKerns, knB k = true
  knn : f.fKerns.length ≤ 40
  mar : ∀ k ∈ f.fMarks, mkB k = true
  marn : f.fMarks.length ≤ 12
  jn : ∀ k ∈ f.fJoins, jnB k = true
  jnn : f.fJoins.length ≤ 40
theorem ftB_F {f : TFeatures} (h : ftB f = true) : FtF f := by
  simp only [ftB, lksB, Bool.and_eq_true, decide_eq_true_eq, List.all_eq_true] at h
  exact ⟨lkG_all _ _ h.1.2, h.1.1, h.2.2.2.1, h.2.1, h.2.2.2.2.1, h.2.2.1, jnG_all _ _ h.2.2.2.2.2, jns_len h.2.2.2.2.2⟩
theorem knB_l {k : TKern} (h : knB k = true) : fcB k.fLeft = true ∧ fcB k.fRight = true := by
  simp only [knB, Bool.and_eq_true] at h; exact ⟨h.1, h.2.1⟩
theorem mkB_l {k : TMarkRule} (h : mkB k = true) : fcB k.fMarks = true ∧ fcB k.fBases = true := by
  simp only [mkB, Bool.and_eq_true] at h; exact ⟨h.1, h.2.1⟩
theorem jnGl_len (j : TJoin) : (jnGl j).length ≤ 4 := by
  have := List.length_filter_le (fun g => decide ((0 : Int) ≤ g)) [j.fInit, j.fMedi, j.fFina]
  simp only [jnGl, List.length_cons, List.length_nil] at this ⊢
  omega
theorem usG_bnd {f : TFeatures} (h : ftB f = true) : ∀ g ∈ usG f, 0 ≤ g ∧ g ≤ 39 := by
  have F := ftB_F h
  intro g hg
  simp only [usG, List.mem_append, List.mem_flatMap] at hg
  rcases hg with ((⟨l, hl, hg⟩ | ⟨k, hk, hg⟩) | ⟨k, hk, hg⟩) | ⟨j, hj, hg⟩
  · obtain ⟨r, hr, hg⟩ := List.mem_flatMap.1 (show g ∈ l.fRules.flatMap ruGl from hg)
    exact ruGl_bnd ((lkB_ru (F.lk l hl)).1 r hr) g hg
  · obtain ⟨h1, h2⟩ := knB_l (F.kn k hk)
    rcases List.mem_append.1 (show g ∈ k.fLeft ++ k.fRight from hg) with hg | hg
    · exact fcB_bnd h1 g hg
    · exact fcB_bnd h2 g hg
  · obtain ⟨h1, h2⟩ := mkB_l (F.mar k hk)
    rcases List.mem_append.1 (show g ∈ k.fMarks ++ k.fBases from hg) with hg | hg
    · exact fcB_bnd h1 g hg
    · exact fcB_bnd h2 g hg
  · have hb := F.jn j hj
    simp only [jnB, fmB, inB, Bool.and_eq_true, decide_eq_true_eq] at hb
    simp only [jnGl, List.mem_cons, List.mem_filter, List.not_mem_nil, or_false, decide_eq_true_eq] at hg
    rcases hg with rfl | ⟨rfl | rfl | rfl, hg⟩ <;> omega
theorem usG_all {f : TFeatures} (h : ftB f = true) : (usG f).all (fun g => decide (g < 40)) = true := by
  rw [List.all_eq_true]
  intro g hg
  have := usG_bnd h g hg
  simp; omega
end Go.Proofs.YtcachhipflibkaaGreat
