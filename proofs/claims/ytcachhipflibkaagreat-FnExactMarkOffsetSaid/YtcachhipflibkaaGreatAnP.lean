/- Anchors of glyphs and their parts: plain law. Leans on no program. -/
import Derived.Test.YtcachhipflibkaaGreatGsZ
import Derived.Test.YtcachhipflibkaaGreatApP
import Derived.Test.YtcachhipflibkaaGreatVMPM
set_option linter.unusedSimpArgs false
set_option linter.unusedVariables false
namespace Go.Proofs.YtcachhipflibkaaGreat
open Go.RowKit
/-! ### an order in which parts come first -/
structure Topo (ps : List (List Int)) (o : List Int) : Prop where
  rng : ∀ i ∈ o, 0 ≤ i ∧ i.toNat < ps.length
  par : ∀ k i, o[k]? = some i → ∀ p ∈ ps.getD i.toNat [], p ∈ o.take k
theorem Topo.nil (ps : List (List Int)) : Topo ps [] := ⟨by simp, by simp⟩
theorem Topo.step {ps : List (List Int)} {o : List Int} (H : Topo ps o) {i : Nat} (hi : i < ps.length) : Topo ps (ostp ps o i) := by
  unfold ostp
  split
  · exact H
  · split
    · rename_i h1 h2
      refine ⟨fun j hj => ?_, fun k j hk p hp => ?_⟩
      · rw [List.mem_append, List.mem_singleton] at hj
        rcases hj with hj | rfl
        · exact H.rng j hj
        · exact ⟨by omega, by simpa using hi⟩
      · rcases Nat.lt_or_ge k o.length with hlt | hge
        · rw [List.getElem?_append_left hlt] at hk
          have := H.par k j hk p hp
          rw [List.take_append_of_le_length (by omega)]
          exact this
        · rw [List.getElem?_append_right hge] at hk
          have hk0 : k - o.length = 0 := by
            cases hq : k - o.length with
            | zero => rfl
            | succ n => rw [hq] at hk; simp at hk
          rw [hk0] at hk
          have e1 : (i : Int) = j := by simpa using hk
          subst e1
          have e2 : k = o.length := by omega
          subst e2
          rw [List.take_left]
          rw [Int.toNat_natCast] at hp
          exact of_decide_eq_true (List.all_eq_true.1 h2 p hp)
    · exact H
theorem Topo.pass {ps : List (List Int)} {o : List Int} (H : Topo ps o) : ∀ k, k ≤ ps.length → Topo ps (opas ps o k)
  | 0, _ => H
  | k + 1, hk => by rw [opas_succ]; exact (H.pass k (by omega)).step (by omega)
theorem Topo.fin {ps : List (List Int)} : ∀ (f : Nat) {o : List Int}, Topo ps o → Topo ps (oF ps ps.length f o)
  | 0, _, H => H
  | f + 1, _, H => Topo.fin f (H.pass _ (Nat.le_refl _))
theorem Topo.all (ps : List (List Int)) : Topo ps (oAll ps) := Topo.fin _ (Topo.nil ps)
/-- in a valid set each glyph is in the order -/
theorem oAll_mem {ps : List (List Int)} (hP : ∀ q ∈ ps, ∀ p ∈ q, 0 ≤ p) (hg : gordB ps = true) {i : Nat} (hi : i < ps.length) : (i : Int) ∈ oAll ps := by
  have H := OrR.fin hP rfl (ps.length + 1) (OrR.start ps.length)
  refine (H.iff i hi).1 (cnt_all (all_cnt hg) i ?_)
  rw [H.bl]; exact hi
theorem oAll_le {ps : List (List Int)} (hP : ∀ q ∈ ps, ∀ p ∈ q, 0 ≤ p) : (oAll ps).length ≤ ps.length := by
  have H := OrR.fin hP rfl (ps.length + 1) (OrR.start ps.length)
  have h1 := H.len
  have h2 := cnt_le (gordF ps (ps.length + 1) (List.replicate ps.length false))
  have h3 := H.bl
  unfold oAll
  omega

/-! ### anchors -/
/-- the place of a glyph's own anchor with a name -/
def anO (nm : ByteArray) (g : TGlyph) : Option TPt := (g.fAnchors.find? (anEq nm)).map (·.fAt)
/-- the first part for which there is one, moved -/
def anP (f : Int → Option TPt) : List TPart → Option TPt
  | [] => none
  | p :: ps => match f p.fGlyph with
    | some q => some ⟨q.fX + p.fMove.fX, q.fY + p.fMove.fY⟩
    | none => anP f ps
def anF (gs : List TGlyph) (nm : ByteArray) : Nat → Int → Option TPt
  | 0, _ => none
  | n + 1, i => match gs[i.toNat]? with
    | none => none
    | some g => match anO nm g with
      | some a => some a
      | none => anP (anF gs nm n) g.fParts
theorem anP_congr {f g : Int → Option TPt} : ∀ {ps : List TPart}, (∀ p ∈ ps, f p.fGlyph = g p.fGlyph) → anP f ps = anP g ps
  | [], _ => rfl
  | p :: ps, h => by
    rw [anP, anP, h p (by simp), anP_congr (fun q hq => h q (by simp [hq]))]
/-- a set whose parts come first in an order o -/
structure GsO (gs : List TGlyph) (o : List Int) : Prop where
  topo : Topo (psG gs) o
  mem : ∀ i : Nat, i < gs.length → (i : Int) ∈ o
  len : o.length ≤ gs.length
theorem GsO.part {gs : List TGlyph} {o : List Int} (H : GsO gs o) {k : Nat} {i : Int} (hk : o[k]? = some i) {g : TGlyph} (hg : gs[i.toNat]? = some g) {p : TPart} (hp : p ∈ g.fParts) : ∃ j, j < k ∧ o[j]? = some p.fGlyph := by
  have h1 := H.topo.par k i hk p.fGlyph (by rw [psG_at hg]; exact List.mem_map.2 ⟨p, hp, rfl⟩)
  obtain ⟨j, hj⟩ := List.getElem?_of_mem h1
  rw [List.getElem?_take] at hj
  split at hj
  · exact ⟨j, by assumption, hj⟩
  · cases hj
theorem anF_fuel {gs : List TGlyph} {o : List Int} (H : GsO gs o) (nm : ByteArray) : ∀ (n1 n2 k : Nat) (i : Int), k < n1 → k < n2 → o[k]? = some i → anF gs nm n1 i = anF gs nm n2 i
  | 0, _, _, _, h, _, _ => by omega
  | _ + 1, 0, _, _, _, h, _ => by omega
  | n1 + 1, n2 + 1, k, i, h1, h2, hk => by
    rw [anF, anF]
    cases hg : gs[i.toNat]? with
    | none => rfl
    | some g =>
      dsimp only
      cases anO nm g with
      | some a => rfl
      | none =>
        dsimp only
        refine anP_congr fun p hp => ?_
        obtain ⟨j, hj, hj2⟩ := H.part hk hg hp
        exact anF_fuel H nm n1 n2 j p.fGlyph (by omega) (by omega) hj2
/-- the place of an anchor of a glyph or its parts -/
def anV (gs : List TGlyph) (nm : ByteArray) (i : Int) : Option TPt := anF gs nm (gs.length + 1) i
theorem anV_eq {gs : List TGlyph} {o : List Int} (H : GsO gs o) {nm : ByteArray} {k : Nat} {i : Int} (hk : o[k]? = some i) {g : TGlyph} (hg : gs[i.toNat]? = some g) : anV gs nm i = match anO nm g with
    | some a => some a
    | none => anP (anV gs nm) g.fParts := by
  rw [anV, anF, hg]
  dsimp only
  cases anO nm g with
  | some a => rfl
  | none =>
    dsimp only
    refine anP_congr fun p hp => ?_
    obtain ⟨j, hj, hj2⟩ := H.part hk hg hp
    have := (List.getElem?_eq_some_iff.1 hk).1
    have := H.len
    exact anF_fuel H nm _ _ j p.fGlyph (by omega) (by omega) hj2
def ptIn (b : Int) (q : TPt) : Prop := -b ≤ q.fX ∧ q.fX ≤ b ∧ -b ≤ q.fY ∧ q.fY ≤ b
theorem anP_in {f : Int → Option TPt} {b : Int} : ∀ {ps : List TPart} {q : TPt}, (∀ p ∈ ps, ptIn 262144 p.fMove) → (∀ p ∈ ps, ∀ q, f p.fGlyph = some q → ptIn b q) → anP f ps = some q → ptIn (b + 262144) q
  | [], _, _, _, h => by cases h
  | p :: ps, q, hm, hf, h => by
    rw [anP] at h
    cases hp : f p.fGlyph with
    | some z =>
      rw [hp] at h
      cases h
      have h1 := hf p (by simp) z hp
      have h2 := hm p (by simp)
      unfold ptIn at *
      dsimp only
      omega
    | none =>
      rw [hp] at h
      exact anP_in (fun p hp => hm p (by simp [hp])) (fun p hp => hf p (by simp [hp])) h
/-- each anchor and each move lies in the plane -/
def gsIn (gs : List TGlyph) : Prop := ∀ g ∈ gs, (∀ a ∈ g.fAnchors, ptIn 262144 a.fAt) ∧ ∀ p ∈ g.fParts, ptIn 262144 p.fMove
theorem anO_in {gs : List TGlyph} (H : gsIn gs) {nm : ByteArray} {g : TGlyph} (hg : g ∈ gs) {q : TPt} (h : anO nm g = some q) : ptIn 262144 q := by
  unfold anO at h
  cases hf : g.fAnchors.find? (anEq nm) with
  | none => rw [hf] at h; cases h
  | some a =>
    rw [hf] at h
    cases h
    exact (H g hg).1 a (List.mem_of_find?_eq_some hf)
theorem anF_in {gs : List TGlyph} (H : gsIn gs) (nm : ByteArray) : ∀ (n : Nat) (i : Int) (q : TPt), anF gs nm n i = some q → ptIn (n * 262144) q
  | 0, _, _, h => by cases h
  | n + 1, i, q, h => by
    rw [anF] at h
    cases hg : gs[i.toNat]? with
    | none => rw [hg] at h; cases h
    | some g =>
      rw [hg] at h
      have hm := List.mem_of_getElem? hg
      dsimp only at h
      cases ha : anO nm g with
      | some a =>
        rw [ha] at h
        cases h
        have := anO_in H hm ha
        unfold ptIn at *
        omega
      | none =>
        rw [ha] at h
        have := anP_in (b := n * 262144) (H g hm).2 (fun p _ q hq => anF_in H nm n p.fGlyph q hq) h
        unfold ptIn at *
        omega
theorem anV_in {gs : List TGlyph} (H : gsIn gs) (hl : gs.length ≤ 40) {nm : ByteArray} {i : Int} {q : TPt} (h : anV gs nm i = some q) : ptIn 10747904 q := by
  have := anF_in H nm _ i q h
  unfold ptIn at *
  omega
theorem anP_cons {f : Int → Option TPt} {ps : List TPart} {k : Nat} {p : TPart} (hp : ps[k]? = some p) : anP f (ps.drop k) = match f p.fGlyph with
    | some q => some ⟨q.fX + p.fMove.fX, q.fY + p.fMove.fY⟩
    | none => anP f (ps.drop (k + 1)) := by
  rw [drop_at hp, anP]
theorem anP_end {f : Int → Option TPt} {ps : List TPart} {k : Nat} (hk : ps.length ≤ k) : anP f (ps.drop k) = none := by
  rw [List.drop_eq_nil_of_le hk]; rfl
theorem anP_some {f : Int → Option TPt} : ∀ {ps : List TPart}, (anP f ps).isSome = ps.any fun p => (f p.fGlyph).isSome
  | [] => rfl
  | p :: ps => by
    rw [anP, List.any_cons]
    cases f p.fGlyph with
    | some q => rfl
    | none => exact anP_some (ps := ps)
/-! ### what is kept of glyphs that were looked for -/
def anPt : Option TPt → TPt
  | some p => p
  | none => ⟨0, 0⟩
def anD (o : Option TPt) : D := .st [(anPt o).D, .bool o.isSome]
structure MemoOK (gs : List TGlyph) (nm : ByteArray) (es : List (D × D)) : Prop where
  fl : mpF es
  ok : ∀ (q : Int) (v : D), lkD es (.int .i64 q) = some v → v = anD (anV gs nm q)
theorem MemoOK.nil (gs : List TGlyph) (nm : ByteArray) : MemoOK gs nm [] := ⟨mpF_nil, fun _ _ h => by simp [lkD] at h⟩
theorem MemoOK.put {gs : List TGlyph} {nm : ByteArray} {es : List (D × D)} (H : MemoOK gs nm es) (i : Int) : MemoOK gs nm (updD es (.int .i64 i) (anD (anV gs nm i))) := by
  refine ⟨mpF_upd rfl rfl H.fl, fun q v h => ?_⟩
  rw [lkD_upd] at h
  split at h
  · rename_i hq
    have e : q = i := by simpa [keyE] using hq
    subst e
    cases h
    rfl
  · exact H.ok q v h
end Go.Proofs.YtcachhipflibkaaGreat
