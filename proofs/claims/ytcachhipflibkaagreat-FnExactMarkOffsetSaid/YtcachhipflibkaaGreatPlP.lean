/- Placing of runs: plain law. Leans on no program. -/
import Derived.Test.YtcachhipflibkaaGreatAnP
import Derived.Test.YtcachhipflibkaaGreatFtY
import Derived.Test.YtcachhipflibkaaGreatJoW
set_option linter.unusedSimpArgs false
set_option linter.unusedVariables false
namespace Go.Proofs.YtcachhipflibkaaGreat
open Go.RowKit
def markN : ByteArray := ⟨#[109, 97, 114, 107, 46]⟩
/-- where a mark is attached to a base -/
def moR (gs : List TGlyph) (k : TMarkRule) (m b : Int) : Option TPt :=
  match anV gs k.fAnchor b, anV gs (markN ++ k.fAnchor) m with
  | some t, some u => if pntB t = true ∧ pntB u = true then some ⟨t.fX - u.fX, t.fY - u.fY⟩ else none
  | _, _ => none
def moV (gs : List TGlyph) (f : TFeatures) (m b : Int) : Option TPt := match f.fMarks.find? (maP m b) with
  | none => none
  | some k => moR gs k m b
theorem moV_in {gs : List TGlyph} {f : TFeatures} {m b : Int} {d : TPt} (h : moV gs f m b = some d) : ptIn 524288 d := by
  unfold moV at h
  cases hf : f.fMarks.find? (maP m b) with
  | none => rw [hf] at h; cases h
  | some k =>
    rw [hf] at h
    dsimp only at h
    unfold moR at h
    split at h
    · split at h
      · rename_i t u _ _ hp
        cases h
        have h1 := pnt_in hp.1
        have h2 := pnt_in hp.2
        unfold ptIn
        dsimp only
        omega
      · cases h
    · cases h
/-- the slots of items: o the base so far, pen the pen -/
def plG (gs : List TGlyph) (f : TFeatures) : List TItem → Option TSlot → Int → List TSlot
  | [], _, _ => []
  | x :: t, none, pen =>
    ⟨x.fGlyph, pen, 0, adv gs x.fGlyph, x.fFrom, x.fLen⟩ :: plG gs f t (some ⟨x.fGlyph, pen, 0, adv gs x.fGlyph, x.fFrom, x.fLen⟩) (pen + adv gs x.fGlyph)
  | x :: t, some b, pen => match moV gs f x.fGlyph b.fGlyph with
    | some d => ⟨x.fGlyph, b.fX + d.fX, b.fY + d.fY, 0, x.fFrom, x.fLen⟩ :: plG gs f t (some b) pen
    | none => ⟨x.fGlyph, pen + kaN f b.fGlyph x.fGlyph, 0, adv gs x.fGlyph, x.fFrom, x.fLen⟩ ::
        plG gs f t (some ⟨x.fGlyph, pen + kaN f b.fGlyph x.fGlyph, 0, adv gs x.fGlyph, x.fFrom, x.fLen⟩) (pen + kaN f b.fGlyph x.fGlyph + adv gs x.fGlyph)
where
  adv (gs : List TGlyph) (i : Int) : Int := match gs[i.toNat]? with | some g => g.fAdvance | none => 0
def plL (gs : List TGlyph) (f : TFeatures) (xs : List TItem) : List TSlot := plG gs f xs none 0
theorem plG_len (gs : List TGlyph) (f : TFeatures) : ∀ (xs : List TItem) (o : Option TSlot) (pen : Int), (plG gs f xs o pen).length = xs.length
  | [], _, _ => by simp [plG]
  | x :: t, none, pen => by simp [plG, plG_len gs f t]
  | x :: t, some b, pen => by
    rw [plG]
    split
    · simp [plG_len gs f t]
    · simp [plG_len gs f t]
theorem plL_len (gs : List TGlyph) (f : TFeatures) (xs : List TItem) : (plL gs f xs).length = xs.length := plG_len _ _ _ _ _
theorem kaN_in {f : TFeatures} (h : ftB f = true) (l r : Int) : -262144 ≤ kaN f l r ∧ kaN f l r ≤ 262144 := by
  unfold kaN
  cases hf : f.fKerns.find? (kaP l r) with
  | none => dsimp only; omega
  | some k =>
    have h1 := (ftB_F h).kn k (List.mem_of_find?_eq_some hf)
    simp only [knB, inB, Bool.and_eq_true, decide_eq_true_eq] at h1
    dsimp only
    omega
theorem adv_in {gs : List TGlyph} (h : ∀ g ∈ gs, glB g = true) (i : Int) : 0 ≤ plG.adv gs i ∧ plG.adv gs i ≤ 262144 := by
  unfold plG.adv
  cases hf : gs[i.toNat]? with
  | none => dsimp only; omega
  | some g =>
    have h1 := h g (List.mem_of_getElem? hf)
    simp only [glB, inB, Bool.and_eq_true, decide_eq_true_eq] at h1
    dsimp only
    omega
/-- what is known of a valid set -/
structure GsK (s : TGlyphSet) : Prop where
  gl : ∀ g ∈ s.fGlyphs, glB g = true
  len : s.fGlyphs.length ≤ 40
  ins : gsIn s.fGlyphs
  ord : GsO s.fGlyphs (oAll (psG s.fGlyphs))
theorem ptIn_of {p : TPt} (h : pntB p = true) : ptIn 262144 p := by
  have := pnt_in h
  unfold ptIn
  omega
theorem anG_all : ∀ {xs seen : List TAnchor}, anG seen xs = true → ∀ a ∈ xs, pntB a.fAt = true
  | [], _, _, a, ha => by simp at ha
  | x :: t, seen, h, a, ha => by
    simp only [anG, Bool.and_eq_true] at h
    rcases List.mem_cons.1 ha with rfl | ha
    · exact h.2.1
    · exact anG_all h.2.2.2 a ha
theorem gsK {s : TGlyphSet} (h : gsB s = true) : GsK s := by
  have h1 : gsB s = (inB s.fUnit 16 16384 && (decide (s.fGlyphs.length ≤ 40) && (gsG [] s.fGlyphs && gordB (psG s.fGlyphs)))) := rfl
  rw [h1] at h
  simp only [Bool.and_eq_true, decide_eq_true_eq] at h
  have hg := gsG_all h.2.2.1
  have hP : ∀ q ∈ psG s.fGlyphs, ∀ p ∈ q, 0 ≤ p := fun q hq p hp => by
    obtain ⟨g, hgm, rfl⟩ := List.mem_map.1 hq
    obtain ⟨y, hy, rfl⟩ := List.mem_map.1 hp
    have h2 := hg g hgm
    simp only [glB, Bool.and_eq_true, List.all_eq_true] at h2
    have h3 := h2.2.2.2.2.2.2.2.2.1 y hy
    simp only [ptB, inB, Bool.and_eq_true, decide_eq_true_eq] at h3
    exact h3.1.1
  refine ⟨hg, h.2.1, fun g hgm => ?_, Topo.all _, fun i hi => oAll_mem hP h.2.2.2 (by rw [psG_len]; exact hi), by have := oAll_le hP; rwa [psG_len] at this⟩
  have h2 := hg g hgm
  simp only [glB, Bool.and_eq_true, List.all_eq_true] at h2
  refine ⟨fun a ha => ptIn_of (anG_all h2.2.2.2.2.2.2.2.2.2 a ha), fun p hp => ?_⟩
  have h3 := h2.2.2.2.2.2.2.2.2.1 p hp
  simp only [ptB, Bool.and_eq_true] at h3
  exact ptIn_of h3.2
end Go.Proofs.YtcachhipflibkaaGreat
