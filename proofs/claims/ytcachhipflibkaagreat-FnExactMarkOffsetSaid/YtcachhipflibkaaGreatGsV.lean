/- merged: several parts in one text. Leans on no more than they do. -/
import Derived.Test.YtcachhipflibkaaGreatEncP
import Derived.Test.YtcachhipflibkaaGreatGen
import Derived.Test.YtcachhipflibkaaGreatAxV1
import Derived.Test.YtcachhipflibkaaGreatDt
import Derived.Test.YtcachhipflibkaaGreatVMTac
/- Sets of glyphs: plain law. Leans on no program. -/
set_option linter.unusedSimpArgs false
set_option linter.unusedVariables false
namespace Go.Proofs.YtcachhipflibkaaGreat
open Go.RowKit
/-! ### glyphs -/
def ptB (p : TPart) : Bool := inB p.fGlyph 0 39 && pntB p.fMove
def anEq (s : ByteArray) (x : TAnchor) : Bool := x.fName.toList == s.toList
def anG (seen : List TAnchor) : List TAnchor → Bool
  | [] => true
  | x :: t => nameB x.fName && (pntB x.fAt && (!seen.any (anEq x.fName) && anG (seen ++ [x]) t))
theorem anG_at {xs : List TAnchor} {k : Nat} {x : TAnchor} (hx : xs[k]? = some x) : anG (xs.take k) (xs.drop k) = (nameB x.fName && (pntB x.fAt && (!(xs.take k).any (anEq x.fName) && anG (xs.take (k + 1)) (xs.drop (k + 1))))) := by
  rw [drop_at hx, anG, take_snoc_get hx]
theorem anG_end {xs : List TAnchor} {k : Nat} {o : List TAnchor} (hk : xs.length ≤ k) : anG o (xs.drop k) = true := by
  rw [List.drop_eq_nil_of_le hk]; rfl
def glB (g : TGlyph) : Bool :=
  nameB g.fName && (inB g.fCode (-1) 65535 && (inB g.fAdvance 0 262144 && (outB g.fOutline && ((decide (g.fParts.length = 0) || decide (g.fOutline.fLoops.length = 0)) && (decide (g.fParts.length ≤ 6) && (decide (g.fAnchors.length ≤ 6) && (decide (g.fHints.size ≤ 400) && (g.fParts.all ptB && anG [] g.fAnchors))))))))
/-- two glyphs have the same name or character -/
def glC (x y : TGlyph) : Bool := y.fName.toList == x.fName.toList || (decide (0 ≤ x.fCode) && y.fCode == x.fCode)
def gsG (seen : List TGlyph) : List TGlyph → Bool
  | [] => true
  | x :: t => glB x && (!seen.any (glC x) && gsG (seen ++ [x]) t)
theorem gsG_at {xs : List TGlyph} {k : Nat} {x : TGlyph} (hx : xs[k]? = some x) : gsG (xs.take k) (xs.drop k) = (glB x && (!(xs.take k).any (glC x) && gsG (xs.take (k + 1)) (xs.drop (k + 1)))) := by
  rw [drop_at hx, gsG, take_snoc_get hx]
theorem gsG_end {xs : List TGlyph} {k : Nat} {o : List TGlyph} (hk : xs.length ≤ k) : gsG o (xs.drop k) = true := by
  rw [List.drop_eq_nil_of_le hk]; rfl
theorem gsG_all : ∀ {xs seen : List TGlyph}, gsG seen xs = true → ∀ g ∈ xs, glB g = true
  | [], _, _, g, hg => by simp at hg
  | x :: t, seen, h, g, hg => by
    simp only [gsG, Bool.and_eq_true] at h
    rcases List.mem_cons.1 hg with rfl | hg
    · exact h.1
    · exact gsG_all h.2.2 g hg
/-! ### an order in which parts come first -/
def stp (ps : List (List Int)) (bs : List Bool) (i : Nat) : List Bool :=
  if bs.getD i false = true then bs else if (ps.getD i []).all (fun p => bs.getD p.toNat false) = true then bs.set i true else bs
def pas (ps : List (List Int)) (bs : List Bool) (k : Nat) : List Bool := (List.range k).foldl (stp ps) bs
def gordF (ps : List (List Int)) : Nat → List Bool → List Bool
  | 0, bs => bs
  | f + 1, bs => gordF ps f (pas ps bs bs.length)
def gordB (ps : List (List Int)) : Bool := (gordF ps (ps.length + 1) (List.replicate ps.length false)).all id
def cnt (bs : List Bool) : Nat := bs.count true
theorem pas_zero (ps : List (List Int)) (bs : List Bool) : pas ps bs 0 = bs := rfl
theorem pas_succ (ps : List (List Int)) (bs : List Bool) (k : Nat) : pas ps bs (k + 1) = stp ps (pas ps bs k) k := by
  rw [pas, pas, List.range_succ, List.foldl_append]; rfl
theorem stp_len (ps : List (List Int)) (bs : List Bool) (i : Nat) : (stp ps bs i).length = bs.length := by
  unfold stp; split
  · rfl
  · split
    · simp
    · rfl
theorem pas_len (ps : List (List Int)) (bs : List Bool) : ∀ k, (pas ps bs k).length = bs.length
  | 0 => rfl
  | k + 1 => by rw [pas_succ, stp_len, pas_len ps bs k]
theorem cnt_set {bs : List Bool} {i : Nat} (h : bs[i]? = some false) : cnt (bs.set i true) = cnt bs + 1 := by
  induction bs generalizing i with
  | nil => simp at h
  | cons b bs ih =>
    cases i with
    | zero => simp at h; subst h; simp [cnt]
    | succ i =>
      have := ih (by simpa using h)
      unfold cnt at this ⊢
      rw [List.set_cons_succ, List.count_cons, List.count_cons, this]
      omega
theorem cnt_le (bs : List Bool) : cnt bs ≤ bs.length := List.count_le_length
theorem cnt_all {bs : List Bool} (h : cnt bs = bs.length) : ∀ i, i < bs.length → bs.getD i false = true := by
  intro i hi
  have := List.count_eq_length.1 h bs[i] (List.getElem_mem hi)
  rw [List.getD_eq_getElem?_getD, List.getElem?_eq_getElem hi, Option.getD_some, ← this]
theorem all_cnt {bs : List Bool} (h : bs.all id = true) : cnt bs = bs.length := by
  refine List.count_eq_length.2 fun b hb => ?_
  exact (List.all_eq_true.1 h b hb).symm
/-- a step sets one mark at most -/
theorem stp_cases {ps : List (List Int)} {bs : List Bool} {i : Nat} (hi : i < bs.length) : stp ps bs i = bs ∨ (bs[i]? = some false ∧ (ps.getD i []).all (fun p => bs.getD p.toNat false) = true ∧ stp ps bs i = bs.set i true) := by
  unfold stp
  split
  · exact .inl rfl
  · rename_i h1
    split
    · rename_i h2
      refine .inr ⟨?_, h2, rfl⟩
      rw [List.getD_eq_getElem?_getD, List.getElem?_eq_getElem hi] at h1
      rw [List.getElem?_eq_getElem hi]
      simpa using h1
    · exact .inl rfl
theorem stp_cnt {ps : List (List Int)} {bs : List Bool} {i : Nat} (hi : i < bs.length) : cnt bs ≤ cnt (stp ps bs i) ∧ (cnt (stp ps bs i) = cnt bs → stp ps bs i = bs) := by
  rcases stp_cases (ps := ps) hi with h | ⟨h1, h2, h3⟩
  · rw [h]; exact ⟨Nat.le_refl _, fun _ => rfl⟩
  · rw [h3, cnt_set h1]; exact ⟨by omega, fun h => by omega⟩
theorem pas_cnt (ps : List (List Int)) (bs : List Bool) : ∀ k, k ≤ bs.length → cnt bs ≤ cnt (pas ps bs k) ∧ (cnt (pas ps bs k) = cnt bs → pas ps bs k = bs)
  | 0, _ => ⟨Nat.le_refl _, fun _ => rfl⟩
  | k + 1, hk => by
    obtain ⟨h1, h2⟩ := pas_cnt ps bs k (by omega)
    obtain ⟨k1, k2⟩ := stp_cnt (ps := ps) (bs := pas ps bs k) (i := k) (by rw [pas_len]; omega)
    rw [pas_succ]
    refine ⟨by omega, fun h => ?_⟩
    rw [k2 (by omega), h2 (by omega)]
theorem gordF_fix {ps : List (List Int)} {bs : List Bool} (h : pas ps bs bs.length = bs) : ∀ f, gordF ps f bs = bs
  | 0 => rfl
  | f + 1 => by rw [gordF, h, gordF_fix h f]
theorem gordF_len (ps : List (List Int)) : ∀ f bs, (gordF ps f bs).length = bs.length
  | 0, _ => rfl
  | f + 1, bs => by rw [gordF, gordF_len ps f, pas_len]
theorem pas_all {ps : List (List Int)} {bs : List Bool} (h : cnt bs = bs.length) : pas ps bs bs.length = bs := by
  have h1 := pas_cnt ps bs bs.length (Nat.le_refl _)
  refine h1.2 ?_
  have := cnt_le (pas ps bs bs.length)
  rw [pas_len] at this
  omega
/-- the state of the search after some passes, each of which found something -/
structure OrS (ps : List (List Int)) (bs : List Bool) (m : Nat) : Prop where
  len : bs.length = ps.length
  le : m ≤ cnt bs
  eq : gordF ps (ps.length + 1 - m) bs = gordF ps (ps.length + 1) (List.replicate ps.length false)
theorem OrS.start (ps : List (List Int)) : OrS ps (List.replicate ps.length false) 0 := ⟨by simp, Nat.zero_le _, by simp⟩
theorem OrS.next {ps : List (List Int)} {bs : List Bool} {m : Nat} (H : OrS ps bs m) (h : cnt (pas ps bs ps.length) ≠ cnt bs) : OrS ps (pas ps bs ps.length) (m + 1) := by
  have h1 := pas_cnt ps bs ps.length (Nat.le_of_eq H.len.symm)
  have h2 := H.le
  have h3 := cnt_le bs
  have h4 := H.len
  refine ⟨by rw [pas_len]; exact H.len, by omega, ?_⟩
  rw [← H.eq, show ps.length + 1 - m = (ps.length + 1 - (m + 1)) + 1 by omega, gordF, H.len]
theorem OrS.stop {ps : List (List Int)} {bs : List Bool} {m : Nat} (H : OrS ps bs m) (h : cnt (pas ps bs ps.length) = cnt bs) : gordB ps = decide (cnt bs = ps.length) := by
  have h1 := (pas_cnt ps bs ps.length (Nat.le_of_eq H.len.symm)).2 h
  have h2 := gordF_fix (ps := ps) (bs := bs) (by rw [H.len]; exact h1) (ps.length + 1 - m)
  unfold gordB
  rw [← H.eq, h2]
  cases hq : bs.all id with
  | true => rw [eq_comm, decide_eq_true_iff, all_cnt hq, H.len]
  | false =>
    rw [eq_comm, decide_eq_false_iff_not]
    intro he
    have := cnt_all (bs := bs) (by rw [he, H.len])
    rw [← Bool.not_eq_true] at hq
    refine hq (List.all_eq_true.2 fun b hb => ?_)
    obtain ⟨i, hi, rfl⟩ := List.getElem_of_mem hb
    have := this i hi
    rw [List.getD_eq_getElem?_getD, List.getElem?_eq_getElem hi] at this
    exact this
theorem OrS.full {ps : List (List Int)} {bs : List Bool} {m : Nat} (H : OrS ps bs m) (h : cnt bs = ps.length) : gordB ps = true := by
  have h1 := pas_all (ps := ps) (bs := bs) (by rw [h, H.len])
  rw [H.stop (by rw [H.len] at h1; rw [h1]), decide_eq_true_iff]
  exact h
/-- what is ready has all its parts among the glyphs -/
theorem gord_lt {ps : List (List Int)} (h : gordB ps = true) : ∀ q ∈ ps, ∀ p ∈ q, p.toNat < ps.length := by
  have inv : ∀ (bs : List Bool), bs.length = ps.length → (∀ i, bs.getD i false = true → ∀ p ∈ ps.getD i [], p.toNat < ps.length) → ∀ k, k ≤ ps.length → ∀ i, (pas ps bs k).getD i false = true → ∀ p ∈ ps.getD i [], p.toNat < ps.length := by
    intro bs hl h0 k
    induction k with
    | zero => intro _; exact h0
    | succ k ih =>
      intro hk i hi p hp
      have ih := ih (by omega)
      rw [pas_succ] at hi
      rcases stp_cases (ps := ps) (bs := pas ps bs k) (i := k) (by rw [pas_len]; omega) with e | ⟨e1, e2, e3⟩
      · rw [e] at hi; exact ih i hi p hp
      · rw [e3] at hi
        by_cases hik : k = i
        · subst hik
          have := List.all_eq_true.1 e2 p hp
          rcases Nat.lt_or_ge p.toNat ps.length with hlt | hge
          · exact hlt
          · rw [List.getD_eq_getElem?_getD, List.getElem?_eq_none (by rw [pas_len]; omega)] at this
            cases this
        · refine ih i ?_ p hp
          rw [List.getD_eq_getElem?_getD, List.getElem?_set_ne hik] at hi
          rw [List.getD_eq_getElem?_getD]; exact hi
  have fin : ∀ (f : Nat) (bs : List Bool), bs.length = ps.length → (∀ i, bs.getD i false = true → ∀ p ∈ ps.getD i [], p.toNat < ps.length) → ∀ i, (gordF ps f bs).getD i false = true → ∀ p ∈ ps.getD i [], p.toNat < ps.length := by
    intro f
    induction f with
    | zero => intro bs _ h0; exact h0
    | succ f ih =>
      intro bs hl h0
      rw [gordF, hl]
      exact ih _ (by rw [pas_len]; exact hl) (inv bs hl h0 _ (Nat.le_refl _))
  have h0 := fin (ps.length + 1) (List.replicate ps.length false) (by simp) (fun i hi => by
    rw [List.getD_eq_getElem?_getD, List.getElem?_replicate] at hi
    split at hi <;> cases hi)
  intro q hq p hp
  obtain ⟨i, hi, rfl⟩ := List.getElem_of_mem hq
  have hl := gordF_len ps (ps.length + 1) (List.replicate ps.length false)
  rw [List.length_replicate] at hl
  refine h0 i (cnt_all (all_cnt h) i (by omega)) p ?_
  rw [List.getD_eq_getElem?_getD, List.getElem?_eq_getElem hi]; exact hp
def psG (gs : List TGlyph) : List (List Int) := gs.map fun g => g.fParts.map (·.fGlyph)
theorem psG_len (gs : List TGlyph) : (psG gs).length = gs.length := List.length_map _
theorem psG_at {gs : List TGlyph} {i : Nat} {x : TGlyph} (h : gs[i]? = some x) : (psG gs).getD i [] = x.fParts.map (·.fGlyph) := by
  rw [List.getD_eq_getElem?_getD, psG, List.getElem?_map, h]; rfl
theorem cnt_rep (n : Nat) : cnt (List.replicate n false) = 0 := by
  rw [cnt, List.count_eq_zero]; simp
/-- depths and marks together -/
structure DpS (ps : List (List Int)) (bs : List Bool) (ds : List Int) : Prop where
  dl : ds.length = ps.length
  bl : bs.length = ps.length
  iff : ∀ i, i < ps.length → (bs.getD i false = true ↔ 0 ≤ ds.getD i (-1))
  le : ∀ i, ds.getD i (-1) ≤ cnt bs
theorem DpS.start {ps : List (List Int)} {ds : List Int} (h : ds.length = ps.length) (h1 : ∀ i, i < ps.length → ds.getD i (-1) = -1) : DpS ps (List.replicate ps.length false) ds := by
  refine ⟨h, by simp, fun i hi => ?_, fun i => ?_⟩
  · rw [h1 i hi, List.getD_eq_getElem?_getD, List.getElem?_replicate, if_pos hi]
    simp
  · rw [cnt_rep]
    rcases Nat.lt_or_ge i ps.length with hi | hi
    · rw [h1 i hi]; omega
    · rw [List.getD_eq_getElem?_getD, List.getElem?_eq_none (by omega)]; simp
theorem DpS.put {ps : List (List Int)} {bs : List Bool} {ds : List Int} (H : DpS ps bs ds) {i : Nat} {d : Int} (hb : bs[i]? = some false) (h0 : 0 ≤ d) (h1 : d ≤ cnt bs + 1) : DpS ps (bs.set i true) (ds.set i d) := by
  have hi := (List.getElem?_eq_some_iff.1 hb).1
  have e1 := H.bl
  have e2 := H.dl
  refine ⟨by rw [List.length_set]; exact H.dl, by rw [List.length_set]; exact H.bl, fun j hj => ?_, fun j => ?_⟩
  · by_cases e : i = j
    · subst e
      rw [List.getD_eq_getElem?_getD, List.getD_eq_getElem?_getD, List.getElem?_set_self hi, List.getElem?_set_self (by omega)]
      simp [h0]
    · have := H.iff j hj
      rw [List.getD_eq_getElem?_getD, List.getD_eq_getElem?_getD] at this ⊢
      rw [List.getElem?_set_ne e, List.getElem?_set_ne e]
      exact this
  · rw [cnt_set hb]
    have h2 := H.le j
    by_cases e : i = j
    · subst e
      rw [List.getD_eq_getElem?_getD, List.getElem?_set_self (by omega)]
      simp only [Option.getD_some]; omega
    · rw [List.getD_eq_getElem?_getD] at h2 ⊢
      rw [List.getElem?_set_ne e]; omega
def gsB (s : TGlyphSet) : Bool := inB s.fUnit 16 16384 && (decide (s.fGlyphs.length ≤ 40) && (gsG [] s.fGlyphs && gordB (psG s.fGlyphs)))
end Go.Proofs.YtcachhipflibkaaGreat

/- Points and outlines: validity, both, by the machine. -/
set_option linter.unusedSimpArgs false
set_option linter.unusedVariables false
namespace Go.Proofs.YtcachhipflibkaaGreat
open Go.RowKit
theorem ValidPt_v (p : TPt) : PC Tryz.prog 178 [.d p.D] (.d (.bool (pntB p))) [] := by
  refine pc_intro ttOk (by kernel_rfl) Tryz.func178 rfl (by kernel_rfl) (by kernel_rfl) (by kernel_rfl) (fun hw => ?_)
  (conv => whnf)
  (repeat' (first | (refine stg_ ?_) | fail | (refine br_ (fun hbr => ?_) (fun hbr => ?_))))
  all_goals ((refine RetOK.d rfl rfl ?_; conv => whnf); (try simp_all [pntB, inB]); (try (rw [Bool.eq_iff_iff]; simp)); (try omega))
theorem l03Ok_v (p : TPt) : PC Tryz.prog 168 [.d p.D] (.d (.bool (pntB p))) [] := by
  refine pc_intro ttOk (by kernel_rfl) Tryz.func168 rfl (by kernel_rfl) (by kernel_rfl) (by kernel_rfl) (fun hw => ?_)
  (conv => whnf)
  (repeat' (first | (refine stg_ ?_) | (refine cl_ (l00In_v _ _ _) ?_) | (refine br_ (fun hbr => ?_) (fun hbr => ?_))))
  all_goals ((refine RetOK.d rfl rfl ?_; conv => whnf); (try simp_all [pntB]))
theorem validPts_v (xs : List TPt) : PC Tryz.prog 128 [.d (.lst (xs.map TPt.D))] (.d (.bool (xs.all pntB))) [] := by
  refine pc_intro ttOk (by kernel_rfl) Tryz.func128 rfl (by kernel_rfl) (by kernel_rfl) (by kernel_rfl) (fun hw => ?_)
  have hL : (xs.map TPt.D).length = xs.length := List.length_map _
  have hm : (xs.map TPt.D).length ≤ 9223372036854775807 := hw.1.1
  (conv => whnf)
  refine LoopW.go (α := Nat) (fun k => [(5, .d (.lst (xs.map TPt.D))), (6, .d (.int .i64 (xs.map TPt.D).length)), (7, .d (.int .i64 k))]) (fun k => [.gone]) (fun k => k ≤ xs.length ∧ xs.all pntB = (xs.drop k).all pntB) (fun k => xs.length - k) 0 covT_ ?_ (fun k hk => ?_)
  · exact ⟨by omega, rfl⟩
  obtain ⟨hk1, hk2⟩ := hk
  (conv => whnf)
  (refine br_ (fun h2 => ?_) (fun h2 => ?_) <;> (repeat (refine stg_ ?_)))
  · obtain ⟨x, hx⟩ := at_lt' (xs := xs) (k := k) (by omega)
    rw [drop_at hx, List.all_cons] at hk2
    (repeat' (first | (refine stg_ ?_) | (refine cla_ (ValidPt_v x) ?_) | (refine br_ (fun hbr => ?_) (fun hbr => ?_))))
    all_goals first | ((refine RetOK.d rfl rfl ?_; conv => whnf); simp_all; done) | exact NextW.go (k + 1) covT_ ⟨by omega, by simp_all⟩ (by omega)
  · (refine RetOK.d rfl rfl ?_; conv => whnf)
    rw [hk2, List.drop_eq_nil_of_le (by omega)]; rfl
set_option maxHeartbeats 1000000 in
theorem ixKnot_v (xs : List TKnot) (f : Nat) (p : TKnot → Bool) (hf : ∀ x : TKnot, PC Tryz.prog f [.d x.D] (.d (.bool (p x))) []) :
    PC Tryz.prog 262 [.d (.lst (xs.map TKnot.D)), .fn (.func f) []] (.d (.int .i64 (fdx p xs 0))) [] := by
  refine pc_intro ttOk (by kernel_rfl) Tryz.func262 rfl (by kernel_rfl) (by kernel_rfl) (by kernel_rfl) (fun hw => ?_)
  have hL : (xs.map TKnot.D).length = xs.length := List.length_map _
  have hm : (xs.map TKnot.D).length ≤ 9223372036854775807 := hw.1.1
  (conv => whnf)
  refine LoopW.go (α := Nat) (fun k => [(0, .d (.lst (xs.map TKnot.D))), (1, .fn (.func f) []), (7, .d (.int .i64 (xs.map TKnot.D).length)), (8, .d (.int .i64 k))]) (fun k => [.gone]) (fun k => k ≤ xs.length ∧ fdx p xs 0 = fdx p (xs.drop k) k) (fun k => xs.length - k) 0 covT_ ?_ (fun k hk => ?_)
  · exact ⟨by omega, rfl⟩
  obtain ⟨hk1, hk2⟩ := hk
  (conv => whnf)
  (refine br_ (fun h2 => ?_) (fun h2 => ?_) <;> (repeat (refine stg_ ?_)))
  · obtain ⟨x, hx⟩ := at_lt' (xs := xs) (k := k) (by omega)
    rw [fdx_at hx] at hk2
    (repeat (refine stg_ ?_))
    (refine cla_ (hf x) ?_)
    (refine br_ (fun h3 => ?_) (fun h3 => ?_) <;> (repeat (refine stg_ ?_)))
    · (refine RetOK.d rfl rfl ?_; conv => whnf)
      rw [hk2, if_pos h3]
    · (repeat (refine stg_ ?_))
      exact NextW.go (k + 1) covT_ ⟨by omega, by rw [hk2, h3]; rfl⟩ (by omega)
  · (refine RetOK.d rfl rfl ?_; conv => whnf)
    rw [hk2, fdx_end (by omega)]
theorem ctKnot_v (xs : List TKnot) (f : Nat) (p : TKnot → Bool) (hf : ∀ x : TKnot, PC Tryz.prog f [.d x.D] (.d (.bool (p x))) []) :
    PC Tryz.prog 243 [.d (.lst (xs.map TKnot.D)), .fn (.func f) []] (.d (.bool (xs.any p))) [] := by
  refine pc_intro ttOk (by kernel_rfl) Tryz.func243 rfl (by kernel_rfl) (by kernel_rfl) (by kernel_rfl) (fun hw => ?_)
  (conv => whnf)
  (refine cla_ (ixKnot_v xs f p hf) ?_)
  (refine RetOK.d rfl rfl ?_; conv => whnf)
  rw [← fdx_any p xs 0]

theorem vlN_v (k : TKnot) : PC Tryz.prog 244 [.d k.D] (.d (.bool (!pntB k.fAt))) [] := by
  refine pc_intro ttOk (by kernel_rfl) Tryz.func244 rfl (by kernel_rfl) (by kernel_rfl) (by kernel_rfl) (fun hw => ?_)
  (conv => whnf)
  (repeat' (first | (refine stg_ ?_) | (refine cla_ (ValidPt_v k.fAt) ?_) | (refine br_ (fun hbr => ?_) (fun hbr => ?_))))
  all_goals ((refine RetOK.d rfl rfl ?_; conv => whnf); try rfl)
theorem ValidLoop_v (l : TLoop) : PC Tryz.prog 220 [.d l.D] (.d (.bool (loopB l))) [] := by
  refine pc_intro ttOk (by kernel_rfl) Tryz.func220 rfl (by kernel_rfl) (by kernel_rfl) (by kernel_rfl) (fun hw => ?_)
  have hL : (l.fKnots.map TKnot.D).length = l.fKnots.length := List.length_map _
  have hA : l.fKnots.all (fun k => pntB k.fAt) = !l.fKnots.any (fun k => !pntB k.fAt) := by rw [List.all_eq_not_any_not]
  rcases Nat.eq_zero_or_pos l.fKnots.length with h0 | h0
  · (conv => whnf)
    (repeat' (first | (refine stg_ ?_) | fail | (refine br_ (fun hbr => ?_) (fun hbr => ?_))))
    all_goals first | (exfalso; omega) | ((refine RetOK.d rfl rfl ?_; conv => whnf); simp [loopB, h0])
  · obtain ⟨x, hx⟩ := at_lt' (xs := l.fKnots) (k := 0) h0
    have hx' : (l.fKnots.map TKnot.D)[0]? = some x.D := by rw [List.getElem?_map, hx]; rfl
    (conv => whnf)
    (repeat' (first | (refine stg_ ?_) | (refine cla_ (ctKnot_v l.fKnots _ (fun k => !pntB k.fAt) vlN_v) ?_) | (refine br_ (fun hbr => ?_) (fun hbr => ?_))))
    all_goals ((refine RetOK.d rfl rfl ?_; conv => whnf); rw [loopB, hA, hx, decide_eq_true (show 1 ≤ l.fKnots.length by omega)]; (first | rw [decide_eq_true (show l.fKnots.length ≤ 60 by omega)] | rw [decide_eq_false (show ¬ l.fKnots.length ≤ 60 by omega)]); first | (simp_all; done) | (simp_all; omega))
set_option maxHeartbeats 1000000 in
theorem ixLoop_v (xs : List TLoop) (f : Nat) (p : TLoop → Bool) (hf : ∀ x : TLoop, PC Tryz.prog f [.d x.D] (.d (.bool (p x))) []) :
    PC Tryz.prog 242 [.d (.lst (xs.map TLoop.D)), .fn (.func f) []] (.d (.int .i64 (fdx p xs 0))) [] := by
  refine pc_intro ttOk (by kernel_rfl) Tryz.func242 rfl (by kernel_rfl) (by kernel_rfl) (by kernel_rfl) (fun hw => ?_)
  have hL : (xs.map TLoop.D).length = xs.length := List.length_map _
  have hm : (xs.map TLoop.D).length ≤ 9223372036854775807 := hw.1.1
  (conv => whnf)
  refine LoopW.go (α := Nat) (fun k => [(0, .d (.lst (xs.map TLoop.D))), (1, .fn (.func f) []), (7, .d (.int .i64 (xs.map TLoop.D).length)), (8, .d (.int .i64 k))]) (fun k => [.gone]) (fun k => k ≤ xs.length ∧ fdx p xs 0 = fdx p (xs.drop k) k) (fun k => xs.length - k) 0 covT_ ?_ (fun k hk => ?_)
  · exact ⟨by omega, rfl⟩
  obtain ⟨hk1, hk2⟩ := hk
  (conv => whnf)
  (refine br_ (fun h2 => ?_) (fun h2 => ?_) <;> (repeat (refine stg_ ?_)))
  · obtain ⟨x, hx⟩ := at_lt' (xs := xs) (k := k) (by omega)
    rw [fdx_at hx] at hk2
    (repeat (refine stg_ ?_))
    (refine cla_ (hf x) ?_)
    (refine br_ (fun h3 => ?_) (fun h3 => ?_) <;> (repeat (refine stg_ ?_)))
    · (refine RetOK.d rfl rfl ?_; conv => whnf)
      rw [hk2, if_pos h3]
    · (repeat (refine stg_ ?_))
      exact NextW.go (k + 1) covT_ ⟨by omega, by rw [hk2, h3]; rfl⟩ (by omega)
  · (refine RetOK.d rfl rfl ?_; conv => whnf)
    rw [hk2, fdx_end (by omega)]
theorem ctLoop_v (xs : List TLoop) (f : Nat) (p : TLoop → Bool) (hf : ∀ x : TLoop, PC Tryz.prog f [.d x.D] (.d (.bool (p x))) []) :
    PC Tryz.prog 218 [.d (.lst (xs.map TLoop.D)), .fn (.func f) []] (.d (.bool (xs.any p))) [] := by
  refine pc_intro ttOk (by kernel_rfl) Tryz.func218 rfl (by kernel_rfl) (by kernel_rfl) (by kernel_rfl) (fun hw => ?_)
  (conv => whnf)
  (refine cla_ (ixLoop_v xs f p hf) ?_)
  (refine RetOK.d rfl rfl ?_; conv => whnf)
  rw [← fdx_any p xs 0]

theorem voN_v (l : TLoop) : PC Tryz.prog 219 [.d l.D] (.d (.bool (!loopB l))) [] := by
  refine pc_intro ttOk (by kernel_rfl) Tryz.func219 rfl (by kernel_rfl) (by kernel_rfl) (by kernel_rfl) (fun hw => ?_)
  (conv => whnf)
  (repeat' (first | (refine stg_ ?_) | (refine cla_ (ValidLoop_v l) ?_) | (refine br_ (fun hbr => ?_) (fun hbr => ?_))))
  all_goals ((refine RetOK.d rfl rfl ?_; conv => whnf); try rfl)
theorem ValidOutline_v (o : TOutline) : PC Tryz.prog 182 [.d o.D] (.d (.bool (outB o))) [] := by
  refine pc_intro ttOk (by kernel_rfl) Tryz.func182 rfl (by kernel_rfl) (by kernel_rfl) (by kernel_rfl) (fun hw => ?_)
  have hL : (o.fLoops.map TLoop.D).length = o.fLoops.length := List.length_map _
  have hA : o.fLoops.all loopB = !o.fLoops.any (fun l => !loopB l) := by rw [List.all_eq_not_any_not]
  (conv => whnf)
  (repeat' (first | (refine stg_ ?_) | (refine cla_ (ctLoop_v o.fLoops _ (fun l => !loopB l) voN_v) ?_) | (refine br_ (fun hbr => ?_) (fun hbr => ?_))))
  all_goals ((refine RetOK.d rfl rfl ?_; conv => whnf); rw [outB, hA]; first | (simp_all; done) | (simp_all; omega))
theorem l10Loop_v (l : TLoop) : PC Tryz.prog 208 [.pX l.D] (.d (.bool (loopB l))) [] := by
  refine pc_intro ttOk (by kernel_rfl) Tryz.func208 rfl (by kernel_rfl) (by kernel_rfl) (by kernel_rfl) (fun hw => ?_)
  have hL : (l.fKnots.map TKnot.D).length = l.fKnots.length := List.length_map _
  have hm : (l.fKnots.map TKnot.D).length ≤ 9223372036854775807 := hw.1.1.1
  rcases Nat.eq_zero_or_pos l.fKnots.length with h0 | h0
  · (conv => whnf)
    (try (refine RegD.auto (by kernel_rfl) ?_; conv => whnf))
    (repeat' (first | (refine stg_ ?_) | (refine cl_ (l00In_v _ _ _) ?_) | (refine br_ (fun hbr => ?_) (fun hbr => ?_))))
    all_goals first | (exfalso; simp_all [inB]; done) | ((refine RetOK.d rfl rfl ?_; conv => whnf); simp [loopB, h0])
  · obtain ⟨x, hx⟩ := at_lt' (xs := l.fKnots) (k := 0) h0
    have hx' : (l.fKnots.map TKnot.D)[0]? = some x.D := by rw [List.getElem?_map, hx]; rfl
    (conv => whnf)
    (try (refine RegD.auto (by kernel_rfl) ?_; conv => whnf))
    (repeat' (first | (refine stg_ ?_) | (refine cl_ (l00In_v _ _ _) ?_) | (refine br_ (fun hbr => ?_) (fun hbr => ?_))))
    all_goals first | ((refine RetOK.d rfl rfl ?_; conv => whnf); rw [loopB, hx]; simp_all [inB]; done) | ((refine RetOK.d rfl rfl ?_; conv => whnf); rw [loopB, hx]; simp_all [inB]; omega) | skip
    have hE : loopB l = l.fKnots.all (fun k => pntB k.fAt) := by
      have h6 : l.fKnots.length ≤ 60 := by
        apply Classical.byContradiction
        intro h6
        simp_all [inB]
        omega
      rw [loopB, hx, decide_eq_true (show 1 ≤ l.fKnots.length by omega), decide_eq_true h6]; simp_all
    refine LoopW.go (α := Nat) (fun k => [(0, .pX l.D), (3, .d (.int .i64 k))]) (fun k => [.gone]) (fun k => k ≤ l.fKnots.length ∧ loopB l = (l.fKnots.drop k).all (fun k => pntB k.fAt)) (fun k => l.fKnots.length - k) 0 covT_ ?_ (fun k hk => ?_)
    · exact ⟨by omega, hE⟩
    obtain ⟨hk1, hk2⟩ := hk
    (conv => whnf)
    (refine br_ (fun h2 => ?_) (fun h2 => ?_) <;> (repeat (refine stg_ ?_)))
    · obtain ⟨y, hy⟩ := at_lt' (xs := l.fKnots) (k := k) (by omega)
      rw [drop_at hy, List.all_cons] at hk2
      (repeat' (first | (refine stg_ ?_) | (refine cla_ (l03Ok_v y.fAt) ?_) | (refine br_ (fun hbr => ?_) (fun hbr => ?_))))
      all_goals first | ((refine RetOK.d rfl rfl ?_; conv => whnf); simp_all; done) | exact NextW.go (k + 1) covT_ ⟨by omega, by simp_all⟩ (by omega)
    · (refine RetOK.d rfl rfl ?_; conv => whnf)
      rw [hk2, List.drop_eq_nil_of_le (by omega)]; rfl
theorem l10Ok_v (o : TOutline) : PC Tryz.prog 167 [.pX o.D] (.d (.bool (outB o))) [] := by
  refine pc_intro ttOk (by kernel_rfl) Tryz.func167 rfl (by kernel_rfl) (by kernel_rfl) (by kernel_rfl) (fun hw => ?_)
  have hL : (o.fLoops.map TLoop.D).length = o.fLoops.length := List.length_map _
  have hm : (o.fLoops.map TLoop.D).length ≤ 9223372036854775807 := hw.1.1.1
  (conv => whnf)
  refine LoopW.go (α := Nat) (fun k => [(0, .pX o.D), (3, .d (.int .i64 k))]) (fun k => [.gone]) (fun k => k ≤ o.fLoops.length ∧ o.fLoops.all loopB = (o.fLoops.drop k).all loopB) (fun k => o.fLoops.length - k) 0 covT_ ?_ (fun k hk => ?_)
  · exact ⟨by omega, rfl⟩
  obtain ⟨hk1, hk2⟩ := hk
  (conv => whnf)
  (refine br_ (fun h2 => ?_) (fun h2 => ?_) <;> (repeat (refine stg_ ?_)))
  · obtain ⟨y, hy⟩ := at_lt' (xs := o.fLoops) (k := k) (by omega)
    rw [drop_at hy, List.all_cons] at hk2
    (repeat' (first | (refine stg_ ?_) | (refine cla_ (l10Loop_v y) ?_) | (refine br_ (fun hbr => ?_) (fun hbr => ?_))))
    all_goals first | ((refine RetOK.d rfl rfl ?_; conv => whnf); rw [outB]; simp_all; done) | exact NextW.go (k + 1) covT_ ⟨by omega, by simp_all⟩ (by omega)
  · (refine RetOK.d rfl rfl ?_; conv => whnf)
    rw [outB, hk2, List.drop_eq_nil_of_le (by omega), List.all_nil, Bool.and_true]
    congr 1
    rw [Bool.eq_iff_iff]; simp; try omega
end Go.Proofs.YtcachhipflibkaaGreat

/- Maps: what a look finds after an entry was put. Leans on no program. -/
set_option linter.unusedSimpArgs false
set_option linter.unusedVariables false
namespace Go.Proofs.YtcachhipflibkaaGreat
open Go.RowKit
theorem keyE_eq {q k q' : D} (h : keyE q k = true) : keyE q' k = keyE q' q := by
  cases q <;> cases k <;> first
    | (cases h; done)
    | skip
  · rename_i k1 a k2 b
    have e : a = b := by simpa [keyE] using h
    subst e
    cases q' <;> rfl
  · rename_i a b
    have e : a = b := (Go.MapKept.bytes_beq _ _).1 h
    subst e
    cases q' <;> rfl
theorem lkD_upd (q z q' : D) : ∀ es : List (D × D), lkD (updD es q z) q' = if keyE q' q = true then some z else lkD es q'
  | [] => by
    simp only [updD, lkD]
    cases keyE q' q <;> rfl
  | (k, v) :: es => by
    simp only [updD]
    cases h : keyE q k with
    | true =>
      simp only [cond_true, lkD, keyE_eq h]
      cases keyE q' q <;> rfl
    | false =>
      simp only [cond_false, lkD, lkD_upd q z q' es]
      cases h1 : keyE q' k with
      | false => rfl
      | true =>
        have : keyE q' q = false := by
          cases h2 : keyE q' q with
          | false => rfl
          | true =>
            exfalso
            have h3 : keyE q k = true := by
              have e1 := keyE_eq (q := q') (k := k) (q' := q) h1
              rw [e1]
              cases q' <;> cases q <;> first
                | (cases h2; done)
                | skip
              · simp [keyE] at h2 ⊢; exact h2.symm
              · have := (Go.MapKept.bytes_beq _ _).1 h2
                subst this
                exact h2
            rw [h] at h3
            cases h3
        rw [this]
        rfl
theorem LkW.id {es : List (D × D)} {q : D} {A : D → Prop} {B : Prop} (h : LkW es q A B) : LkW es q A B := h
theorem LkW.has {es : List (D × D)} {q : D} {A : D → Prop} {B : Prop} (p : Bool) (z : D) (h : lkD es q = if p = true then some z else none) (h1 : p = true → A z) (h2 : p = false → B) : LkW es q A B := by
  refine ⟨fun v hv => ?_, fun hv => ?_⟩
  · cases p with
    | true => rw [h] at hv; cases hv; exact h1 rfl
    | false => rw [h] at hv; cases hv
  · cases p with
    | true => rw [h] at hv; cases hv
    | false => exact h2 rfl
theorem LkW.at {es : List (D × D)} {q : D} {A : D → Prop} {B : Prop} (h1 : ∀ v, lkD es q = some v → A v) (h2 : lkD es q = none → B) : LkW es q A B := ⟨h1, h2⟩
/-- a set, as a map to truths: what was put, one after the other -/
def setM (ks : List D) : List (D × D) := ks.foldl (fun es k => updD es k (.bool true)) []
theorem setM_nil : setM [] = [] := rfl
theorem setM_snoc (ks : List D) (k : D) : setM (ks ++ [k]) = updD (setM ks) k (.bool true) := by rw [setM, setM, List.foldl_append]; rfl
theorem lkD_setM (ks : List D) (q : D) : lkD (setM ks) q = if ks.any (keyE q) = true then some (.bool true) else none := by
  have key : ∀ (ks : List D) (es : List (D × D)), lkD (ks.foldl (fun es k => updD es k (.bool true)) es) q = if ks.any (keyE q) = true then some (.bool true) else lkD es q := by
    intro ks
    induction ks with
    | nil => intro es; rfl
    | cons k ks ih =>
      intro es
      rw [List.foldl_cons, ih, lkD_upd, List.any_cons]
      cases keyE q k <;> cases ks.any (keyE q) <;> rfl
  exact key ks []
end Go.Proofs.YtcachhipflibkaaGreat

/- Glyphs: validity, both sides, by the machine. -/
set_option linter.unusedSimpArgs false
set_option linter.unusedVariables false
namespace Go.Proofs.YtcachhipflibkaaGreat
open Go.RowKit
theorem any_snoc' {α : Type} {p : α → Bool} {xs : List α} {k : Nat} {x : α} (h : xs[k]? = some x) : (xs.take (k + 1)).any p = ((xs.take k).any p || p x) := by
  rw [take_snoc_get h, List.any_append]; simp
theorem inB_iff {n lo hi : Int} : inB n lo hi = true ↔ lo ≤ n ∧ n ≤ hi := by simp [inB]
set_option maxHeartbeats 1000000 in
theorem ixAnchorp_v (xs : List TAnchor) (f : Nat) (y0 : D) (p : TAnchor → Bool) (hf : ∀ x : TAnchor, PC Tryz.prog f [.d x.D, .pX y0] (.d (.bool (p x))) []) :
    PC Tryz.prog 213 [.d (.lst (xs.map TAnchor.D)), .fn (.func f) [.pX y0]] (.d (.int .i64 (fdx p xs 0))) [] := by
  refine pc_intro ttOk (by kernel_rfl) Tryz.func213 rfl (by kernel_rfl) (by kernel_rfl) (by kernel_rfl) (fun hw => ?_)
  have hL : (xs.map TAnchor.D).length = xs.length := List.length_map _
  have hm : (xs.map TAnchor.D).length ≤ 9223372036854775807 := hw.1.1
  (conv => whnf)
  refine LoopW.go (α := Nat) (fun k => [(0, .d (.lst (xs.map TAnchor.D))), (1, .fn (.func f) [.pX y0]), (7, .d (.int .i64 (xs.map TAnchor.D).length)), (8, .d (.int .i64 k))]) (fun k => [.gone]) (fun k => k ≤ xs.length ∧ fdx p xs 0 = fdx p (xs.drop k) k) (fun k => xs.length - k) 0 covT_ ?_ (fun k hk => ?_)
  · exact ⟨by omega, rfl⟩
  obtain ⟨hk1, hk2⟩ := hk
  (conv => whnf)
  (refine br_ (fun h2 => ?_) (fun h2 => ?_) <;> (repeat (refine stg_ ?_)))
  · obtain ⟨x, hx⟩ := at_lt' (xs := xs) (k := k) (by omega)
    rw [fdx_at hx] at hk2
    (repeat (refine stg_ ?_))
    (refine cla_ (hf x) ?_)
    (refine br_ (fun h3 => ?_) (fun h3 => ?_) <;> (repeat (refine stg_ ?_)))
    · (refine RetOK.d rfl rfl ?_; conv => whnf)
      rw [hk2, if_pos h3]
    · (repeat (refine stg_ ?_))
      exact NextW.go (k + 1) covT_ ⟨by omega, by rw [hk2, h3]; rfl⟩ (by omega)
  · (refine RetOK.d rfl rfl ?_; conv => whnf)
    rw [hk2, fdx_end (by omega)]

theorem anchorAt1_v (x : TAnchor) (s : ByteArray) : PC Tryz.prog 214 [.d x.D, .pX (.str s)] (.d (.bool (anEq s x))) [] := by
  refine pc_intro ttOk (by kernel_rfl) Tryz.func214 rfl (by kernel_rfl) (by kernel_rfl) (by kernel_rfl) (fun hw => ?_)
  (conv => whnf)
  (refine RetOK.d rfl rfl ?_; conv => whnf)
  rfl
theorem anchorAt_v (xs : List TAnchor) (s : ByteArray) : PC Tryz.prog 177 [.d (.lst (xs.map TAnchor.D)), .d (.str s)] (.d (.int .i64 (fdx (anEq s) xs 0))) [] := by
  refine pc_intro ttOk (by kernel_rfl) Tryz.func177 rfl (by kernel_rfl) (by kernel_rfl) (by kernel_rfl) (fun hw => ?_)
  (conv => whnf)
  (repeat' (first | (refine stg_ ?_) | (refine cla_ (ixAnchorp_v xs _ (.str s) (anEq s) (fun x => anchorAt1_v x s)) ?_) | (refine br_ (fun hbr => ?_) (fun hbr => ?_))))
  (refine RetOK.d rfl rfl ?_; conv => whnf)
set_option maxHeartbeats 4000000 in
theorem ValidGlyph_v (g : TGlyph) : PC Tryz.prog 132 [.d g.D] (.d (.bool (glB g))) [] := by
  refine pc_intro ttOk (by kernel_rfl) Tryz.func132 rfl (by kernel_rfl) (by kernel_rfl) (by kernel_rfl) (fun hw => ?_)
  have hL : (g.fParts.map TPart.D).length = g.fParts.length := List.length_map _
  have hA : (g.fAnchors.map TAnchor.D).length = g.fAnchors.length := List.length_map _
  have hO : (g.fOutline.fLoops.map TLoop.D).length = g.fOutline.fLoops.length := List.length_map _
  have c1 := IsName_v g.fName
  have c2 := ValidOutline_v g.fOutline
  have hF : glB g = (nameB g.fName && (inB g.fCode (-1) 65535 && (inB g.fAdvance 0 262144 && (outB g.fOutline && ((decide (g.fParts.length = 0) || decide (g.fOutline.fLoops.length = 0)) && (decide (g.fParts.length ≤ 6) && (decide (g.fAnchors.length ≤ 6) && (decide (g.fHints.size ≤ 400) && (g.fParts.all ptB && anG [] g.fAnchors))))))))) := rfl
  generalize glB g = R at hF ⊢
  (conv => whnf)
  (repeat' (first | (refine stg_ ?_) | (refine cla_ (c1) ?_) | (refine cla_ (c2) ?_) | (refine br_ (fun hbr => ?_) (fun hbr => ?_))))
  all_goals first | ((refine RetOK.d rfl rfl ?_; conv => whnf); rw [hF]; simp_all [inB]; done) | ((refine RetOK.d rfl rfl ?_; conv => whnf); rw [hF]; simp_all [inB]; omega) | ((refine RetOK.d rfl rfl ?_; conv => whnf); rw [hF, show (decide (g.fParts.length = 0) || decide (g.fOutline.fLoops.length = 0)) = false by (rw [Bool.or_eq_false_iff, decide_eq_false_iff_not, decide_eq_false_iff_not]; omega)]; simp; done) | ((refine RetOK.d rfl rfl ?_; conv => whnf); rw [hF, decide_eq_false (show ¬ g.fParts.length ≤ 6 by omega)]; simp; done) | ((refine RetOK.d rfl rfl ?_; conv => whnf); rw [hF, decide_eq_false (show ¬ g.fAnchors.length ≤ 6 by omega)]; simp; done) | ((refine RetOK.d rfl rfl ?_; conv => whnf); rw [hF, decide_eq_false (show ¬ g.fHints.size ≤ 400 by omega)]; simp; done) | skip
  all_goals (have hR : R = (g.fParts.all ptB && anG [] g.fAnchors) := by (rw [hF, show nameB g.fName = true by assumption, show inB g.fCode (-1) 65535 = true by (rw [inB_iff]; omega), show inB g.fAdvance 0 262144 = true by (rw [inB_iff]; omega), show outB g.fOutline = true by assumption, show (decide (g.fParts.length = 0) || decide (g.fOutline.fLoops.length = 0)) = true by (rw [Bool.or_eq_true, decide_eq_true_iff, decide_eq_true_iff]; omega), decide_eq_true (show g.fParts.length ≤ 6 by omega), decide_eq_true (show g.fAnchors.length ≤ 6 by omega), decide_eq_true (show g.fHints.size ≤ 400 by omega)]; first | done | simp only [Bool.true_and]))
  all_goals clear hF c1 c2
  all_goals refine LoopW.go (α := Nat) (fun k => [(1, .pB 1 [] 0), (67, .d (.lst (g.fParts.map TPart.D))), (68, .d (.int .i64 (g.fParts.map TPart.D).length)), (69, .d (.int .i64 k))]) (fun _ => [.gone, .box (.d g.D)]) (fun k => k ≤ g.fParts.length ∧ g.fParts.all ptB = (g.fParts.drop k).all ptB) (fun k => g.fParts.length - k) 0 covT_ ⟨by omega, rfl⟩ (fun k hk => ?_)
  all_goals obtain ⟨hk1, hk2⟩ := hk
  all_goals (conv => whnf)
  all_goals (refine br_ (fun h2 => ?_) (fun h2 => ?_) <;> (repeat (refine stg_ ?_)))
  all_goals first
    | (obtain ⟨x, hx⟩ := at_lt' (xs := g.fParts) (k := k) (by omega)
       rw [drop_at hx, List.all_cons] at hk2
       (repeat (refine stg_ ?_))
       have c3 := ValidPt_v x.fMove
       (repeat' (first | (refine stg_ ?_) | (refine cla_ (c3) ?_) | (refine br_ (fun hbr => ?_) (fun hbr => ?_))))
       all_goals first | ((refine RetOK.d rfl rfl ?_; conv => whnf); rw [hR, hk2, ptB]; simp_all [inB]; done) | ((refine RetOK.d rfl rfl ?_; conv => whnf); rw [hR, hk2, ptB, show inB x.fGlyph 0 39 = false by (rw [← Bool.not_eq_true, inB_iff]; omega)]; simp; done) | (exact NextW.go (k + 1) covT_ ⟨by omega, by (rw [hk2, ptB, show inB x.fGlyph 0 39 = true by (rw [inB_iff]; omega)]; simp_all)⟩ (by omega)))
    | skip
  all_goals rw [List.drop_eq_nil_of_le (by omega), List.all_nil] at hk2
  all_goals rw [hk2, Bool.true_and] at hR
  all_goals clear hk2 h2 hk1
  all_goals refine LoopW.go (α := Nat) (fun k => [(1, .pB 1 [] 0), (89, .d (.lst (g.fAnchors.map TAnchor.D))), (90, .d (.int .i64 (g.fAnchors.map TAnchor.D).length)), (91, .d (.int .i64 k))]) (fun _ => [.gone, .box (.d g.D)]) (fun k => k ≤ g.fAnchors.length ∧ R = anG (g.fAnchors.take k) (g.fAnchors.drop k)) (fun k => g.fAnchors.length - k) 0 covT_ ⟨by omega, hR⟩ (fun k hk => ?_)
  all_goals clear hR
  all_goals obtain ⟨hk1, hk2⟩ := hk
  all_goals (conv => whnf)
  all_goals (refine br_ (fun h2 => ?_) (fun h2 => ?_) <;> (repeat (refine stg_ ?_)))
  all_goals first
    | ((refine RetOK.d rfl rfl ?_; conv => whnf)
       rw [hk2, anG_end (by omega)])
    | (obtain ⟨x, hx⟩ := at_lt' (xs := g.fAnchors) (k := k) (by omega)
       rw [anG_at hx] at hk2
       have c1 := IsName_v x.fName
       have c2 := ValidPt_v x.fAt
       have c3 := anchorAt_v (g.fAnchors.take k) x.fName
       have hsl : (g.fAnchors.take k).map TAnchor.D = ((g.fAnchors.map TAnchor.D).drop 0).take ((k : Int).toNat - 0) := by simp [List.map_take]
       rw [hsl] at c3
       have hq := fdx_any (anEq x.fName) (g.fAnchors.take k) 0
       rw [← hq] at hk2
       generalize fdx (anEq x.fName) (g.fAnchors.take k) 0 = q at *
       (repeat (refine stg_ ?_))
       (repeat' (first | (refine stg_ ?_) | (refine cla_ (c1) ?_) | (refine cla_ (c2) ?_) | (refine cla_ (c3) ?_) | (refine br_ (fun hbr => ?_) (fun hbr => ?_))))
       all_goals first | (exfalso; omega) | ((refine RetOK.d rfl rfl ?_; conv => whnf); rw [hk2]; simp_all; done) | ((refine RetOK.d rfl rfl ?_; conv => whnf); rw [hk2, show decide (0 ≤ q) = true by (rw [decide_eq_true_eq]; omega)]; simp; done) | (exact NextW.go (k + 1) covT_ ⟨by omega, by (rw [hk2, show decide (0 ≤ q) = false by (rw [decide_eq_false_iff_not]; omega)]; simp_all)⟩ (by omega)) | fail)
end Go.Proofs.YtcachhipflibkaaGreat
