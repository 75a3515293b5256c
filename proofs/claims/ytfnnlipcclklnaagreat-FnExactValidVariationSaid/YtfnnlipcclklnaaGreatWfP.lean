/- Well formed variations: plain law. Leans on no program. -/
import Derived.Test.YtfnnlipcclklnaaGreatPkV
import Derived.Test.YtfnnlipcclklnaaGreatAxN
import Derived.Test.YtfnnlipcclklnaaGreatEncP
set_option linter.unusedSimpArgs false
set_option linter.unusedVariables false
namespace Go.Proofs.YtfnnlipcclklnaaGreat
open Go.RowKit
def ltI : Option Int → Int → Bool
  | none, _ => true
  | some q, x => decide (q < x)
def ltG : Option TGlyphDelta → TGlyphDelta → Bool
  | none, _ => true
  | some q, x => decide (q.fGlyph < x.fGlyph)
/-- strictly rising -/
def riG : Option Int → List Int → Bool
  | _, [] => true
  | o, x :: t => ltI o x && riG (some x) t
/-- strictly rising numbers of knots -/
def knG : Option Int → List Int → Bool
  | _, [] => true
  | o, x :: t => inB x 0 719 && (ltI o x && knG (some x) t)
def pvI (xs : List Int) (k : Nat) : Option Int := match k with | 0 => none | k + 1 => xs[k]?
theorem riG_at {xs : List Int} {k : Nat} {x : Int} (hx : xs[k]? = some x) : riG (pvI xs k) (xs.drop k) = (ltI (pvI xs k) x && riG (pvI xs (k + 1)) (xs.drop (k + 1))) := by
  rw [drop_at hx, riG, pvI, hx]
theorem knG_at {xs : List Int} {k : Nat} {x : Int} (hx : xs[k]? = some x) : knG (pvI xs k) (xs.drop k) = (inB x 0 719 && (ltI (pvI xs k) x && knG (pvI xs (k + 1)) (xs.drop (k + 1)))) := by
  rw [drop_at hx, knG, pvI, hx]
theorem pvI_pos {xs : List Int} {k : Nat} {x : Int} (h : 0 < k) (hx : xs[k - 1]? = some x) : pvI xs k = some x := by
  obtain ⟨j, rfl⟩ : ∃ j, k = j + 1 := ⟨k - 1, by omega⟩
  exact hx
theorem riG_end {xs : List Int} {k : Nat} {o : Option Int} (hk : xs.length ≤ k) : riG o (xs.drop k) = true := by
  rw [List.drop_eq_nil_of_le hk]; rfl
theorem knG_end {xs : List Int} {k : Nat} {o : Option Int} (hk : xs.length ≤ k) : knG o (xs.drop k) = true := by
  rw [List.drop_eq_nil_of_le hk]; rfl
theorem riG_lt : ∀ {xs : List Int} {q : Int}, riG (some q) xs = true → ∀ x ∈ xs, q < x
  | [], _, _, x, h => by simp at h
  | y :: t, q, h, x, hx => by
    simp only [riG, ltI, Bool.and_eq_true, decide_eq_true_eq] at h
    rcases List.mem_cons.1 hx with rfl | hx
    · exact h.1
    · have := riG_lt h.2 x hx
      omega
theorem knG_ri : ∀ (o : Option Int) (xs : List Int), knG o xs = true → riG o xs = true ∧ ∀ x ∈ xs, 0 ≤ x ∧ x ≤ 719
  | _, [], _ => ⟨rfl, by simp⟩
  | o, y :: t, h => by
    simp only [knG, inB, Bool.and_eq_true, decide_eq_true_eq] at h
    have ih := knG_ri (some y) t h.2.2
    refine ⟨by rw [riG, h.2.1, ih.1]; rfl, fun x hx => ?_⟩
    rcases List.mem_cons.1 hx with rfl | hx
    · exact h.1
    · exact ih.2 x hx
theorem ri_knG : ∀ (o : Option Int) (xs : List Int), riG o xs = true → (∀ x ∈ xs, 0 ≤ x ∧ x ≤ 719) → knG o xs = true
  | _, [], _, _ => rfl
  | o, y :: t, h, hb => by
    simp only [riG, Bool.and_eq_true] at h
    have h1 := hb y (by simp)
    rw [knG, h.1, ri_knG (some y) t h.2 (fun x hx => hb x (by simp [hx]))]
    simp [inB]; omega
theorem riG_last : ∀ {xs : List Int} {o : Option Int} {z : Int}, riG o xs = true → xs[xs.length - 1]? = some z → ∀ x ∈ xs, x ≤ z
  | [], _, _, _, _, x, h => by simp at h
  | [y], o, z, _, hz, x, hx => by simp at hz hx; omega
  | y :: w :: t, o, z, h, hz, x, hx => by
    rw [riG, Bool.and_eq_true] at h
    have hz' : (w :: t)[(w :: t).length - 1]? = some z := by simpa using hz
    have ih := riG_last (xs := w :: t) h.2 hz'
    rcases List.mem_cons.1 hx with rfl | hx
    · have h1 := riG_lt h.2 w (by simp)
      have h2 := ih w (by simp)
      omega
    · exact ih x hx
theorem riG_first {xs : List Int} {a : Int} (h : riG none xs = true) (ha : xs[0]? = some a) : ∀ x ∈ xs, a ≤ x := by
  cases xs with
  | nil => simp at ha
  | cons y t =>
    simp at ha
    subst ha
    intro x hx
    rw [riG, Bool.and_eq_true] at h
    rcases List.mem_cons.1 hx with rfl | hx
    · exact Int.le_refl _
    · have := riG_lt h.2 x hx
      omega
/-- the two ways to say it -/
theorem kn_eq {xs : List Int} {a z : Int} (ha : xs[0]? = some a) (hz : xs[xs.length - 1]? = some z) : knG none xs = (riG none xs && (decide (0 ≤ a) && decide (z ≤ 719))) := by
  rw [Bool.eq_iff_iff]
  simp only [Bool.and_eq_true, decide_eq_true_eq]
  constructor
  · intro h
    obtain ⟨h1, h2⟩ := knG_ri _ _ h
    exact ⟨h1, (h2 a (List.mem_of_getElem? ha)).1, (h2 z (List.mem_of_getElem? hz)).2⟩
  · rintro ⟨h1, h2, h3⟩
    refine ri_knG _ _ h1 (fun x hx => ?_)
    have := riG_first h1 ha x hx
    have := riG_last h1 hz x hx
    omega
def gdB (d : TGlyphDelta) : Bool := inB d.fGlyph 0 39 && (knG none d.fKnots && (decide (d.fKnots.length = d.fMoves.length) && (d.fMoves.all pntB && inB d.fAdvance (-262144) 262144)))
/-- rising glyphs of deltas -/
def dsG : Option TGlyphDelta → List TGlyphDelta → Bool
  | _, [] => true
  | o, x :: t => gdB x && (ltG o x && dsG (some x) t)
theorem dsG_at {xs : List TGlyphDelta} {k : Nat} {x : TGlyphDelta} (hx : xs[k]? = some x) : dsG (pv xs k) (xs.drop k) = (gdB x && (ltG (pv xs k) x && dsG (pv xs (k + 1)) (xs.drop (k + 1)))) := by
  rw [drop_at hx, dsG, pv_succ, hx]
theorem dsG_end {xs : List TGlyphDelta} {k : Nat} {o : Option TGlyphDelta} (hk : xs.length ≤ k) : dsG o (xs.drop k) = true := by
  rw [List.drop_eq_nil_of_le hk]; rfl
theorem dsG_all : ∀ {xs : List TGlyphDelta} {o : Option TGlyphDelta}, dsG o xs = true → ∀ x ∈ xs, gdB x = true
  | [], _, _, x, h => by simp at h
  | y :: t, o, h, x, hx => by
    simp only [dsG, Bool.and_eq_true] at h
    rcases List.mem_cons.1 hx with rfl | hx
    · exact h.1
    · exact dsG_all h.2.2 x hx
def maB (n : Nat) (m : TMaster) : Bool := decide (m.fPeaks.length = n) && (decide (m.fDeltas.length ≤ 20) && (m.fPeaks.all pkB && dsG none m.fDeltas))
def wfB (v : TVariation) : Bool := axsB v.fAxes && (decide (v.fMasters.length ≤ 8) && v.fMasters.all (maB v.fAxes.length))
end Go.Proofs.YtfnnlipcclklnaaGreat
