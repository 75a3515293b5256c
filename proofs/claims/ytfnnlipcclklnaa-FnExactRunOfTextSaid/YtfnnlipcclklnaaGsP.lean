/- Sets of glyphs: plain law. Leans on no program. -/
import Derived.Test.YtfnnlipcclklnaaEncP
import Derived.Test.YtfnnlipcclklnaaGen
import Derived.Test.YtfnnlipcclklnaaAxV1
import Derived.Test.YtfnnlipcclklnaaDt
set_option linter.unusedSimpArgs false
set_option linter.unusedVariables false
namespace Go.Proofs.Ytfnnlipcclklnaa
open Go.RowKit
/-! ### glyphs -/
def ptB (p : TPart) : Bool := inB p.fGlyph 0 39 && pntB p.fMove
def anEq (s : ByteArray) (x : TAnchor) : Bool := x.fName.toList == s.toList
def anG (seen : List TAnchor) : List TAnchor → Bool
  | [] => true
  | x :: t => nameB x.fName && (pntB x.fAt && (!seen.any (anEq x.fName) && anG (seen ++ [x]) t))
theorem anG_at {xs : List TAnchor} {k : Nat} {x : TAnchor} (hx : xs[k]? = some x) : anG (xs.take k) (xs.drop k) = (nameB x.fName && (pntB x.fAt && (!(xs.take k).any (anEq x.fName) && anG (xs.take (k + 1)) (xs.drop (k + 1))))) := by
  rw [drop_at hx, anG, take_snoc_get hx]
theorem anG_end {xs : List TAnchor} {k : Nat} {o : List TAnchor} (hk : xs.length ≤ k) : anG o (xs.drop k) = true := by
  rw [List.drop_eq_nil_of_le hk]; rfl
def glB (g : TGlyph) : Bool :=
  nameB g.fName && (inB g.fCode (-1) 65535 && (inB g.fAdvance 0 262144 && (outB g.fOutline && ((decide (g.fParts.length = 0) || decide (g.fOutline.fLoops.length = 0)) && (decide (g.fParts.length ≤ 6) && (decide (g.fAnchors.length ≤ 6) && (decide (g.fHints.size ≤ 400) && (g.fParts.all ptB && anG [] g.fAnchors))))))))
/-- two glyphs have the same name or character -/
def glC (x y : TGlyph) : Bool := y.fName.toList == x.fName.toList || (decide (0 ≤ x.fCode) && y.fCode == x.fCode)
def gsG (seen : List TGlyph) : List TGlyph → Bool
  | [] => true
  | x :: t => glB x && (!seen.any (glC x) && gsG (seen ++ [x]) t)
theorem gsG_at {xs : List TGlyph} {k : Nat} {x : TGlyph} (hx : xs[k]? = some x) : gsG (xs.take k) (xs.drop k) = (glB x && (!(xs.take k).any (glC x) && gsG (xs.take (k + 1)) (xs.drop (k + 1)))) := by
  rw [drop_at hx, gsG, take_snoc_get hx]
theorem gsG_end {xs : List TGlyph} {k : Nat} {o : List TGlyph} (hk : xs.length ≤ k) : gsG o (xs.drop k) = true := by
  rw [List.drop_eq_nil_of_le hk]; rfl
theorem gsG_all : ∀ {xs seen : List TGlyph}, gsG seen xs = true → ∀ g ∈ xs, glB g = true
  | [], _, _, g, hg => by simp at hg
  | x :: t, seen, h, g, hg => by
    simp only [gsG, Bool.and_eq_true] at h
    rcases List.mem_cons.1 hg with rfl | hg
    · exact h.1
    · exact gsG_all h.2.2 g hg
/-! ### an order in which parts come first -/
def stp (ps : List (List Int)) (bs : List Bool) (i : Nat) : List Bool :=
  if bs.getD i false = true then bs else if (ps.getD i []).all (fun p => bs.getD p.toNat false) = true then bs.set i true else bs
def pas (ps : List (List Int)) (bs : List Bool) (k : Nat) : List Bool := (List.range k).foldl (stp ps) bs
def gordF (ps : List (List Int)) : Nat → List Bool → List Bool
  | 0, bs => bs
  | f + 1, bs => gordF ps f (pas ps bs bs.length)
def gordB (ps : List (List Int)) : Bool := (gordF ps (ps.length + 1) (List.replicate ps.length false)).all id
def cnt (bs : List Bool) : Nat := bs.count true
theorem pas_zero (ps : List (List Int)) (bs : List Bool) : pas ps bs 0 = bs := rfl
theorem pas_succ (ps : List (List Int)) (bs : List Bool) (k : Nat) : pas ps bs (k + 1) = stp ps (pas ps bs k) k := by
  rw [pas, pas, List.range_succ, List.foldl_append]; rfl
theorem stp_len (ps : List (List Int)) (bs : List Bool) (i : Nat) : (stp ps bs i).length = bs.length := by
  unfold stp; split
  · rfl
  · split
    · simp
    · rfl
theorem pas_len (ps : List (List Int)) (bs : List Bool) : ∀ k, (pas ps bs k).length = bs.length
  | 0 => rfl
  | k + 1 => by rw [pas_succ, stp_len, pas_len ps bs k]
theorem cnt_set {bs : List Bool} {i : Nat} (h : bs[i]? = some false) : cnt (bs.set i true) = cnt bs + 1 := by
  induction bs generalizing i with
  | nil => simp at h
  | cons b bs ih =>
    cases i with
    | zero => simp at h; subst h; simp [cnt]
    | succ i =>
      have := ih (by simpa using h)
      unfold cnt at this ⊢
      rw [List.set_cons_succ, List.count_cons, List.count_cons, this]
      omega
theorem cnt_le (bs : List Bool) : cnt bs ≤ bs.length := List.count_le_length
theorem cnt_all {bs : List Bool} (h : cnt bs = bs.length) : ∀ i, i < bs.length → bs.getD i false = true := by
  intro i hi
  have := List.count_eq_length.1 h bs[i] (List.getElem_mem hi)
  rw [List.getD_eq_getElem?_getD, List.getElem?_eq_getElem hi, Option.getD_some, ← this]
theorem all_cnt {bs : List Bool} (h : bs.all id = true) : cnt bs = bs.length := by
  refine List.count_eq_length.2 fun b hb => ?_
  exact (List.all_eq_true.1 h b hb).symm
/-- a step sets one mark at most -/
theorem stp_cases {ps : List (List Int)} {bs : List Bool} {i : Nat} (hi : i < bs.length) : stp ps bs i = bs ∨ (bs[i]? = some false ∧ (ps.getD i []).all (fun p => bs.getD p.toNat false) = true ∧ stp ps bs i = bs.set i true) := by
  unfold stp
  split
  · exact .inl rfl
  · rename_i h1
    split
    · rename_i h2
      refine .inr ⟨?_, h2, rfl⟩
      rw [List.getD_eq_getElem?_getD, List.getElem?_eq_getElem hi] at h1
      rw [List.getElem?_eq_getElem hi]
      simpa using h1
    · exact .inl rfl
theorem stp_cnt {ps : List (List Int)} {bs : List Bool} {i : Nat} (hi : i < bs.length) : cnt bs ≤ cnt (stp ps bs i) ∧ (cnt (stp ps bs i) = cnt bs → stp ps bs i = bs) := by
  rcases stp_cases (ps := ps) hi with h | ⟨h1, h2, h3⟩
  · rw [h]; exact ⟨Nat.le_refl _, fun _ => rfl⟩
  · rw [h3, cnt_set h1]; exact ⟨by omega, fun h => by omega⟩
theorem pas_cnt (ps : List (List Int)) (bs : List Bool) : ∀ k, k ≤ bs.length → cnt bs ≤ cnt (pas ps bs k) ∧ (cnt (pas ps bs k) = cnt bs → pas ps bs k = bs)
  | 0, _ => ⟨Nat.le_refl _, fun _ => rfl⟩
  | k + 1, hk => by
    obtain ⟨h1, h2⟩ := pas_cnt ps bs k (by omega)
    obtain ⟨k1, k2⟩ := stp_cnt (ps := ps) (bs := pas ps bs k) (i := k) (by rw [pas_len]; omega)
    rw [pas_succ]
    refine ⟨by omega, fun h => ?_⟩
    rw [k2 (by omega), h2 (by omega)]
theorem gordF_fix {ps : List (List Int)} {bs : List Bool} (h : pas ps bs bs.length = bs) : ∀ f, gordF ps f bs = bs
  | 0 => rfl
  | f + 1 => by rw [gordF, h, gordF_fix h f]
theorem gordF_len (ps : List (List Int)) : ∀ f bs, (gordF ps f bs).length = bs.length
  | 0, _ => rfl
  | f + 1, bs => by rw [gordF, gordF_len ps f, pas_len]
theorem pas_all {ps : List (List Int)} {bs : List Bool} (h : cnt bs = bs.length) : pas ps bs bs.length = bs := by
  have h1 := pas_cnt ps bs bs.length (Nat.le_refl _)
  refine h1.2 ?_
  have := cnt_le (pas ps bs bs.length)
  rw [pas_len] at this
  omega
/-- the state of the search after some passes, each of which found something -/
structure OrS (ps : List (List Int)) (bs : List Bool) (m : Nat) : Prop where
  len : bs.length = ps.length
  le : m ≤ cnt bs
  eq : gordF ps (ps.length + 1 - m) bs = gordF ps (ps.length + 1) (List.replicate ps.length false)
theorem OrS.start (ps : List (List Int)) : OrS ps (List.replicate ps.length false) 0 := ⟨by simp, Nat.zero_le _, by simp⟩
theorem OrS.next {ps : List (List Int)} {bs : List Bool} {m : Nat} (H : OrS ps bs m) (h : cnt (pas ps bs ps.length) ≠ cnt bs) : OrS ps (pas ps bs ps.length) (m + 1) := by
  have h1 := pas_cnt ps bs ps.length (Nat.le_of_eq H.len.symm)
  have h2 := H.le
  have h3 := cnt_le bs
  have h4 := H.len
  refine ⟨by rw [pas_len]; exact H.len, by omega, ?_⟩
  rw [← H.eq, show ps.length + 1 - m = (ps.length + 1 - (m + 1)) + 1 by omega, gordF, H.len]
theorem OrS.stop {ps : List (List Int)} {bs : List Bool} {m : Nat} (H : OrS ps bs m) (h : cnt (pas ps bs ps.length) = cnt bs) : gordB ps = decide (cnt bs = ps.length) := by
  have h1 := (pas_cnt ps bs ps.length (Nat.le_of_eq H.len.symm)).2 h
  have h2 := gordF_fix (ps := ps) (bs := bs) (by rw [H.len]; exact h1) (ps.length + 1 - m)
  unfold gordB
  rw [← H.eq, h2]
  cases hq : bs.all id with
  | true => rw [eq_comm, decide_eq_true_iff, all_cnt hq, H.len]
  | false =>
    rw [eq_comm, decide_eq_false_iff_not]
    intro he
    have := cnt_all (bs := bs) (by rw [he, H.len])
    rw [← Bool.not_eq_true] at hq
    refine hq (List.all_eq_true.2 fun b hb => ?_)
    obtain ⟨i, hi, rfl⟩ := List.getElem_of_mem hb
    have := this i hi
    rw [List.getD_eq_getElem?_getD, List.getElem?_eq_getElem hi] at this
    exact this
theorem OrS.full {ps : List (List Int)} {bs : List Bool} {m : Nat} (H : OrS ps bs m) (h : cnt bs = ps.length) : gordB ps = true := by
  have h1 := pas_all (ps := ps) (bs := bs) (by rw [h, H.len])
  rw [H.stop (by rw [H.len] at h1; rw [h1]), decide_eq_true_iff]
  exact h
/-- what is ready has all its parts among the glyphs -/
theorem gord_lt {ps : List (List Int)} (h : gordB ps = true) : ∀ q ∈ ps, ∀ p ∈ q, p.toNat < ps.length := by
  have inv : ∀ (bs : List Bool), bs.length = ps.length → (∀ i, bs.getD i false = true → ∀ p ∈ ps.getD i [], p.toNat < ps.length) → ∀ k, k ≤ ps.length → ∀ i, (pas ps bs k).getD i false = true → ∀ p ∈ ps.getD i [], p.toNat < ps.length := by
    intro bs hl h0 k
    induction k with
    | zero => intro _; exact h0
    | succ k ih =>
      intro hk i hi p hp
      have ih := ih (by omega)
      rw [pas_succ] at hi
      rcases stp_cases (ps := ps) (bs := pas ps bs k) (i := k) (by rw [pas_len]; omega) with e | ⟨e1, e2, e3⟩
      · rw [e] at hi; exact ih i hi p hp
      · rw [e3] at hi
        by_cases hik : k = i
        · subst hik
          have := List.all_eq_true.1 e2 p hp
          rcases Nat.lt_or_ge p.toNat ps.length with hlt | hge
          · exact hlt
          · rw [List.getD_eq_getElem?_getD, List.getElem?_eq_none (by rw [pas_len]; omega)] at this
            cases this
        · refine ih i ?_ p hp
          rw [List.getD_eq_getElem?_getD, List.getElem?_set_ne hik] at hi
          rw [List.getD_eq_getElem?_getD]; exact hi
  have fin : ∀ (f : Nat) (bs : List Bool), bs.length = ps.length → (∀ i, bs.getD i false = true → ∀ p ∈ ps.getD i [], p.toNat < ps.length) → ∀ i, (gordF ps f bs).getD i false = true → ∀ p ∈ ps.getD i [], p.toNat < ps.length := by
    intro f
    induction f with
    | zero => intro bs _ h0; exact h0
    | succ f ih =>
      intro bs hl h0
      rw [gordF, hl]
      exact ih _ (by rw [pas_len]; exact hl) (inv bs hl h0 _ (Nat.le_refl _))
  have h0 := fin (ps.length + 1) (List.replicate ps.length false) (by simp) (fun i hi => by
    rw [List.getD_eq_getElem?_getD, List.getElem?_replicate] at hi
    split at hi <;> cases hi)
  intro q hq p hp
  obtain ⟨i, hi, rfl⟩ := List.getElem_of_mem hq
  have hl := gordF_len ps (ps.length + 1) (List.replicate ps.length false)
  rw [List.length_replicate] at hl
  refine h0 i (cnt_all (all_cnt h) i (by omega)) p ?_
  rw [List.getD_eq_getElem?_getD, List.getElem?_eq_getElem hi]; exact hp
def psG (gs : List TGlyph) : List (List Int) := gs.map fun g => g.fParts.map (·.fGlyph)
theorem psG_len (gs : List TGlyph) : (psG gs).length = gs.length := List.length_map _
theorem psG_at {gs : List TGlyph} {i : Nat} {x : TGlyph} (h : gs[i]? = some x) : (psG gs).getD i [] = x.fParts.map (·.fGlyph) := by
  rw [List.getD_eq_getElem?_getD, psG, List.getElem?_map, h]; rfl
theorem cnt_rep (n : Nat) : cnt (List.replicate n false) = 0 := by
  rw [cnt, List.count_eq_zero]; simp
/-- depths and marks together -/
structure DpS (ps : List (List Int)) (bs : List Bool) (ds : List Int) : Prop where
  dl : ds.length = ps.length
  bl : bs.length = ps.length
  iff : ∀ i, i < ps.length → (bs.getD i false = true ↔ 0 ≤ ds.getD i (-1))
  le : ∀ i, ds.getD i (-1) ≤ cnt bs
theorem DpS.start {ps : List (List Int)} {ds : List Int} (h : ds.length = ps.length) (h1 : ∀ i, i < ps.length → ds.getD i (-1) = -1) : DpS ps (List.replicate ps.length false) ds := by
  refine ⟨h, by simp, fun i hi => ?_, fun i => ?_⟩
  · rw [h1 i hi, List.getD_eq_getElem?_getD, List.getElem?_replicate, if_pos hi]
    simp
  · rw [cnt_rep]
    rcases Nat.lt_or_ge i ps.length with hi | hi
    · rw [h1 i hi]; omega
    · rw [List.getD_eq_getElem?_getD, List.getElem?_eq_none (by omega)]; simp
theorem DpS.put {ps : List (List Int)} {bs : List Bool} {ds : List Int} (H : DpS ps bs ds) {i : Nat} {d : Int} (hb : bs[i]? = some false) (h0 : 0 ≤ d) (h1 : d ≤ cnt bs + 1) : DpS ps (bs.set i true) (ds.set i d) := by
  have hi := (List.getElem?_eq_some_iff.1 hb).1
  have e1 := H.bl
  have e2 := H.dl
  refine ⟨by rw [List.length_set]; exact H.dl, by rw [List.length_set]; exact H.bl, fun j hj => ?_, fun j => ?_⟩
  · by_cases e : i = j
    · subst e
      rw [List.getD_eq_getElem?_getD, List.getD_eq_getElem?_getD, List.getElem?_set_self hi, List.getElem?_set_self (by omega)]
      simp [h0]
    · have := H.iff j hj
      rw [List.getD_eq_getElem?_getD, List.getD_eq_getElem?_getD] at this ⊢
      rw [List.getElem?_set_ne e, List.getElem?_set_ne e]
      exact this
  · rw [cnt_set hb]
    have h2 := H.le j
    by_cases e : i = j
    · subst e
      rw [List.getD_eq_getElem?_getD, List.getElem?_set_self (by omega)]
      simp only [Option.getD_some]; omega
    · rw [List.getD_eq_getElem?_getD] at h2 ⊢
      rw [List.getElem?_set_ne e]; omega
def gsB (s : TGlyphSet) : Bool := inB s.fUnit 16 16384 && (decide (s.fGlyphs.length ≤ 40) && (gsG [] s.fGlyphs && gordB (psG s.fGlyphs)))
end Go.Proofs.Ytfnnlipcclklnaa
