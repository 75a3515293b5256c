/- merged: several parts in one text. Leans on no more than they do. -/
import Derived.Test.YtaldaoagjbapkaaGreatDoorVtP
import Derived.Test.YtaldaoagjbapkaaGreatDoorVMTac
import Derived.Test.YtaldaoagjbapkaaGreatDoorLVBase
import Derived.Shelf.Strings.BuilderK
import Derived.Test.YtaldaoagjbapkaaGreatDoorShelf
import Derived.Test.YtaldaoagjbapkaaGreatDoorTT
set_option linter.unusedSimpArgs false
set_option linter.unusedVariables false
namespace Go.Proofs.YtaldaoagjbapkaaGreatDoor
open Go.RowKit
def mapO {α β : Type} (f : α → Option β) : List α → Option (List β)
  | [] => some []
  | x :: t => match f x with
    | none => none
    | some y => match mapO f t with
      | none => none
      | some r => some (y :: r)
theorem mapO_app {α β : Type} (f : α → Option β) : ∀ (a b : List α), mapO f (a ++ b) = (mapO f a).bind fun r => (mapO f b).map (r ++ ·)
  | [], b => by
    show mapO f b = _
    cases mapO f b <;> rfl
  | x :: t, b => by
    rw [List.cons_append, mapO, mapO, mapO_app f t b]
    cases f x with
    | none => rfl
    | some n =>
      cases mapO f t with
      | none => rfl
      | some r =>
        cases mapO f b with
        | none => rfl
        | some q => rfl
theorem mapO_snoc {α β : Type} {f : α → Option β} {a : List α} {x : α} {r : List β} {n : β} (h : mapO f a = some r) (hx : f x = some n) : mapO f (a ++ [x]) = some (r ++ [n]) := by
  rw [mapO_app, h, mapO, hx, mapO]; rfl
theorem mapO_bad {α β : Type} {f : α → Option β} {xs : List α} {k : Nat} {x : α} (hk : xs[k]? = some x) (hx : f x = none) : mapO f xs = none := by
  rw [← List.take_append_drop k xs, mapO_app, drop_at hk, mapO, hx]
  cases mapO f (xs.take k) <;> rfl
theorem mapO_len {α β : Type} {f : α → Option β} : ∀ {xs : List α} {r : List β}, mapO f xs = some r → r.length = xs.length
  | [], r, h => by cases h; rfl
  | x :: t, r, h => by
    rw [mapO] at h
    split at h
    · cases h
    · split at h
      · cases h
      · rename_i q hq
        cases h
        rw [List.length_cons, List.length_cons, mapO_len hq]
def pkR (w : ByteArray) : Option TPeak := match rnL (spB 58 w) with
  | some [a, b, c] => some ⟨a, b, c⟩
  | _ => none
def ptR (s : ByteArray) : Option TPt := match rnL (spB 44 s) with
  | some [x, y] => if pntB ⟨x, y⟩ = true then some ⟨x, y⟩ else none
  | _ => none
def knR (w : ByteArray) : Option (Int × TPt) := match spB 58 w with
  | [n, p] => match rdN n.data.toList, ptR p with
    | some k, some q => some (k, q)
    | _, _ => none
  | _ => none
theorem dec_out {l : List UInt8} {c : UInt8} (hd : dgtB c = false) (h45 : c ≠ 45) (hm : c ∈ l) : rdN l = none := by
  cases h : rdN l with
  | none => rfl
  | some n =>
    exfalso
    have e := rdN_dec h
    rw [← e] at hm
    rcases decS_in hm with h1 | h1
    · rw [hd] at h1; cases h1
    · exact h45 h1
theorem rnL_two {x y : ByteArray} : rnL [x, y] = match rdN x.data.toList, rdN y.data.toList with
    | some a, some b => some [a, b]
    | _, _ => none := by
  simp only [rnL]
  cases rdN x.data.toList <;> cases rdN y.data.toList <;> rfl
theorem ptR_no {s : ByteArray} (h : (44 : UInt8) ∉ s.data.toList) : ptR s = none := by
  rw [ptR, spB_none h]
  simp only [rnL]
  cases rdN s.data.toList <;> rfl
theorem ptR_at {s : ByteArray} {a b : List UInt8} (e : s.data.toList = a ++ 44 :: b) (ha : (44 : UInt8) ∉ a) : ptR s = match rdN a, rdN b with
    | some x, some y => if pntB ⟨x, y⟩ = true then some ⟨x, y⟩ else none
    | _, _ => none := by
  rw [ptR, spB_at e ha]
  by_cases hb : (44 : UInt8) ∈ b
  · rw [dec_out (by decide) (by decide) hb]
    have hno : ∀ x y, rnL (mkS a :: spB 44 (mkS b)) ≠ some [x, y] := fun x y h => by
      have h1 := rnL_len h
      have h2 := spB_len 44 (mkS b)
      rw [mkS_toList] at h2
      have := List.count_pos_iff.2 hb
      simp only [List.length_cons, List.length_nil] at h1
      omega
    split
    · rename_i x y h
      exact absurd h (hno x y)
    · cases rdN a <;> rfl
  · rw [spB_none (by rw [mkS_toList]; exact hb), rnL_two, mkS_toList, mkS_toList]
    cases rdN a with
    | none => rfl
    | some x =>
      cases rdN b with
      | none => rfl
      | some y => rfl
theorem ptR_col {s : ByteArray} (h : (58 : UInt8) ∈ s.data.toList) : ptR s = none := by
  by_cases hc : (44 : UInt8) ∈ s.data.toList
  · obtain ⟨a, b, e, ha⟩ : ∃ a b, s.data.toList = a ++ 44 :: b ∧ (44 : UInt8) ∉ a := by
      rcases idx_cases 44 s.data.toList with ⟨_, hno⟩ | ⟨a, b, e, ha, _⟩
      · exact absurd hc hno
      · exact ⟨a, b, e, ha⟩
    rw [ptR_at e ha]
    rw [e] at h
    rcases List.mem_append.1 h with h | h
    · rw [dec_out (by decide) (by decide) h]
    · rcases List.mem_cons.1 h with h | h
      · exact absurd h (by decide)
      · rw [dec_out (l := b) (by decide) (by decide) h]
        cases rdN a <;> rfl
  · exact ptR_no hc
theorem knR_no {w : ByteArray} (h : (58 : UInt8) ∉ w.data.toList) : knR w = none := by rw [knR, spB_none h]
theorem knR_at {w : ByteArray} {a b : List UInt8} (e : w.data.toList = a ++ 58 :: b) (ha : (58 : UInt8) ∉ a) : knR w = match rdN a, ptR (mkS b) with
    | some k, some q => some (k, q)
    | _, _ => none := by
  rw [knR, spB_at e ha]
  by_cases hb : (58 : UInt8) ∈ b
  · rw [ptR_col (by rw [mkS_toList]; exact hb)]
    have h2 := spB_len 58 (mkS b)
    rw [mkS_toList] at h2
    have := List.count_pos_iff.2 hb
    split
    · rename_i h
      have := congrArg List.length (List.cons.inj h).2
      simp only [List.length_cons, List.length_nil] at this
      omega
    · cases rdN a <;> rfl
  · rw [spB_none (by rw [mkS_toList]; exact hb)]
    show (match rdN (mkS a).data.toList, ptR (mkS b) with
      | some k, some q => some (k, q)
      | _, _ => none) = _
    rw [mkS_toList]
def dlR : List ByteArray → Option TGlyphDelta
  | g :: a :: r => match rnL [g, a] with
    | some [x, y] => match mapO knR r with
      | some ks => some ⟨x, ks.map Prod.fst, ks.map Prod.snd, y⟩
      | none => none
    | _ => none
  | _ => none
def kAx : List UInt8 := [97, 120, 105, 115]
def kDl : List UInt8 := [100, 101, 108, 116, 97]
def adD (ms : List TMaster) (d : TGlyphDelta) : List TMaster := match ms[ms.length - 1]? with
  | some m => ms.set (ms.length - 1) ⟨m.fPeaks, m.fDeltas ++ [d]⟩
  | none => ms
def stp (v : TVariation) (w : ByteArray) : Option TVariation := match spB 32 w with
  | [] => none
  | k :: r =>
    if k.data.toList = kAx then (match aP r with
      | some a => if axB a = true then some ⟨v.fAxes ++ [a], v.fMasters⟩ else none
      | none => none)
    else if k.data.toList = mrT then (match mapO pkR r with
      | some ps => some ⟨v.fAxes, v.fMasters ++ [⟨ps, []⟩]⟩
      | none => none)
    else if k.data.toList = kDl then (match dlR r with
      | some d => if v.fMasters.length = 0 then none else some ⟨v.fAxes, adD v.fMasters d⟩
      | none => none)
    else none
def foldO : TVariation → List ByteArray → Option TVariation
  | v, [] => some v
  | v, w :: t => match stp v w with
    | none => none
    | some v' => foldO v' t
theorem foldO_app : ∀ (a b : List ByteArray) (v : TVariation), foldO v (a ++ b) = (foldO v a).bind fun v' => foldO v' b
  | [], b, v => rfl
  | x :: t, b, v => by
    rw [List.cons_append, foldO, foldO]
    cases stp v x with
    | none => rfl
    | some v' => exact foldO_app t b v'
theorem foldO_snoc {v v' : TVariation} {a : List ByteArray} {x : ByteArray} (h : foldO v a = some v') : foldO v (a ++ [x]) = stp v' x := by
  rw [foldO_app, h]
  show foldO v' [x] = _
  rw [foldO]
  cases stp v' x <;> rfl
theorem foldO_bad {v v' : TVariation} {xs : List ByteArray} {k : Nat} {x : ByteArray} (h : foldO v (xs.take k) = some v') (hk : xs[k]? = some x) (hx : stp v' x = none) : foldO v xs = none := by
  rw [← List.take_append_drop k xs, foldO_app, h]
  show foldO v' _ = _
  rw [drop_at hk, foldO, hx]
def v0R : TVariation := ⟨[], []⟩
def lnR (s : ByteArray) : List ByteArray := (spB 10 s).dropLast
def txR (v : TVariation) : ByteArray := mkS (vrT v)
def rvR (s : ByteArray) : Option TVariation := match foldO v0R (lnR s) with
  | some v => if wfB v = true then (if txR v = s then some v else none) else none
  | none => none
theorem rv_no {s : ByteArray} (h : foldO v0R (lnR s) = none) : rvR s = none := by rw [rvR, h]
theorem rv_some {s : ByteArray} {v : TVariation} (h : foldO v0R (lnR s) = some v) : rvR s = if wfB v = true then (if txR v = s then some v else none) else none := by rw [rvR, h]
def BadV (v : TVariation) : Prop := ∃ m ∈ v.fMasters, 3 < m.fPeaks.length ∨ ∃ d ∈ m.fDeltas, 720 < d.fKnots.length
theorem bad_wf {v : TVariation} (h : BadV v) : wfB v = false := by
  cases hw : wfB v with
  | false => rfl
  | true =>
    exfalso
    obtain ⟨m, hm, h⟩ := h
    obtain ⟨h1, h2, h3, h4⟩ := wf_in hw
    have hq := h4 m hm
    rcases h with h | ⟨d, hd, h⟩
    · have := hq.l; omega
    · have hg := gd_in (hq.g d hd)
      have := hg.n
      omega
theorem adD_mem {ms : List TMaster} {d : TGlyphDelta} : ∀ m ∈ ms, ∃ m' ∈ adD ms d, m'.fPeaks = m.fPeaks ∧ ∀ x ∈ m.fDeltas, x ∈ m'.fDeltas := fun m hm => by
  unfold adD
  split
  · rename_i z hz
    obtain ⟨i, hi⟩ := List.mem_iff_getElem?.1 hm
    by_cases hk : i = ms.length - 1
    · subst hk
      rw [hi] at hz
      cases hz
      refine ⟨_, List.mem_iff_getElem?.2 ⟨ms.length - 1, List.getElem?_set_self (List.getElem?_eq_some_iff.1 hi).1⟩, rfl, fun x hx => by simp [hx]⟩
    · exact ⟨m, List.mem_iff_getElem?.2 ⟨i, by rw [List.getElem?_set_ne (Ne.symm hk)]; exact hi⟩, rfl, fun x hx => hx⟩
  · exact ⟨m, hm, rfl, fun x hx => hx⟩
theorem bad_stp {v v' : TVariation} {w : ByteArray} (h : BadV v) (hs : stp v w = some v') : BadV v' := by
  obtain ⟨m, hm, hb⟩ := h
  unfold stp at hs
  split at hs
  · cases hs
  · split at hs
    · split at hs
      · split at hs
        · cases hs; exact ⟨m, hm, hb⟩
        · cases hs
      · cases hs
    · split at hs
      · split at hs
        · cases hs; exact ⟨m, by simp [hm], hb⟩
        · cases hs
      · split at hs
        · split at hs
          · split at hs
            · cases hs
            · cases hs
              rename_i d _ _
              obtain ⟨m', h1, h2, h3⟩ := adD_mem (d := d) m hm
              refine ⟨m', h1, ?_⟩
              rcases hb with hb | ⟨x, hx, hb⟩
              · exact .inl (by rw [h2]; exact hb)
              · exact .inr ⟨x, h3 x hx, hb⟩
          · cases hs
        · cases hs
theorem bad_fold : ∀ {t : List ByteArray} {v v' : TVariation}, BadV v → foldO v t = some v' → BadV v'
  | [], v, v', h, hs => by cases hs; exact h
  | w :: t, v, v', h, hs => by
    rw [foldO] at hs
    split at hs
    · cases hs
    · rename_i u hu
      exact bad_fold (bad_stp h hu) hs
theorem bad_rv {s : ByteArray} {k : Nat} {w : ByteArray} {v : TVariation} (h : foldO v0R ((lnR s).take k) = some v) (hk : (lnR s)[k]? = some w) (hb : ∀ v', stp v w = some v' → BadV v') : rvR s = none := by
  cases hs : stp v w with
  | none => exact rv_no (foldO_bad h hk hs)
  | some u =>
    cases hf : foldO v0R (lnR s) with
    | none => exact rv_no hf
    | some z =>
      rw [rv_some hf, if_neg]
      have h2 := hf
      rw [← List.take_append_drop k (lnR s), foldO_app, h] at h2
      have h3 : foldO v ((lnR s).drop k) = some z := h2
      rw [drop_at hk, foldO, hs] at h3
      rw [bad_wf (bad_fold (hb u hs) h3)]
      decide
theorem spL_snoc (c : UInt8) : ∀ l : List UInt8, spL c (l ++ [c]) = spL c l ++ [[]] := fun l => by
  induction hn : l.count c using Nat.strongRecOn generalizing l with
  | _ n ih =>
    by_cases hc : c ∈ l
    · obtain ⟨a, b, e, ha⟩ : ∃ a b, l = a ++ c :: b ∧ c ∉ a := by
        rcases idx_cases c l with ⟨_, h⟩ | ⟨a, b, e, h, _⟩
        · exact absurd hc h
        · exact ⟨a, b, e, h⟩
      subst e
      rw [List.append_assoc, List.cons_append, spL_at _ ha, spL_at _ ha, ih (b.count c) (by rw [← hn, List.count_append, List.count_cons_self]; omega) b rfl]; rfl
    · rw [spL_at [] hc, spL_none hc]; rfl
theorem lnR_at {s : ByteArray} {t : List UInt8} (e : s.data.toList = t ++ [10]) : lnR s = spB 10 (mkS t) := by
  rw [lnR, spB, e, spL_snoc, List.map_append, spB, mkS_toList]
  simp
theorem dlT_end (d : TGlyphDelta) : ∃ t, dlT d = t ++ [10] := ⟨_, rfl⟩
theorem fm_end {α : Type} {f : α → List UInt8} (h : ∀ x, ∃ t, f x = t ++ [10]) : ∀ (xs : List α) (a : List UInt8), ∃ t, a ++ [10] ++ xs.flatMap f = t ++ [10]
  | [], a => ⟨a, by simp⟩
  | x :: xs, a => by
    obtain ⟨t, ht⟩ := h x
    obtain ⟨u, hu⟩ := fm_end h xs (a ++ [10] ++ t)
    exact ⟨u, by rw [List.flatMap_cons, ht, ← hu]; simp⟩
theorem maT_end (m : TMaster) : ∃ t, maT m = t ++ [10] := fm_end dlT_end m.fDeltas (mrT ++ m.fPeaks.flatMap pkT)
theorem axT_end (a : TAxis) : ∃ t, axT a = t ++ [10] := ⟨_, rfl⟩
theorem fm_end0 {α : Type} {f : α → List UInt8} (h : ∀ x, ∃ t, f x = t ++ [10]) : ∀ (xs : List α), xs.flatMap f = [] ∨ ∃ t, xs.flatMap f = t ++ [10]
  | [] => .inl rfl
  | x :: xs => by
    obtain ⟨t, ht⟩ := h x
    obtain ⟨u, hu⟩ := fm_end h xs t
    exact .inr ⟨u, by rw [List.flatMap_cons, ht, ← hu]⟩
theorem vrT_end (v : TVariation) : vrT v = [] ∨ ∃ t, vrT v = t ++ [10] := by
  rcases fm_end0 maT_end v.fMasters with h | ⟨t, h⟩
  · rw [vrT, h, List.append_nil]; exact fm_end0 axT_end v.fAxes
  · exact .inr ⟨v.fAxes.flatMap axT ++ t, by rw [vrT, h, List.append_assoc]⟩
theorem rv_end {s : ByteArray} {t : List UInt8} {c : UInt8} (e : s.data.toList = t ++ [c]) (hc : c ≠ 10) : rvR s = none := by
  unfold rvR
  split
  · rename_i v hv
    split
    · split
      · rename_i hw ht
        exfalso
        have h1 : vrT v = t ++ [c] := by rw [← e, ← ht, txR, mkS_toList]
        rcases vrT_end v with h2 | ⟨u, h2⟩
        · rw [h2] at h1; simp at h1
        · rw [h2] at h1
          have := (List.append_inj' h1 rfl).2
          simp at this
          exact hc this.symm
      · rfl
    · rfl
  · rfl
theorem Weak.box {e : Env} {h : List Blk} (b : Nat) {v v' : V} (hb : h[b]? = some (.box v)) (hb0 : Nat.ble 1 b = true) (hv : ∀ (w : World) (M : MM) (h : List Blk) (cs : List Value), repC w M h v cs → repC w M h v' cs) : Weak e h e (h.set b (.box v')) := fun B X N M a w R => by
  have hlt : b < h.length := (List.getElem?_eq_some_iff.1 hb).1
  have hnof : ∀ c, nOf (h.set b (.box v')) c = nOf h c := fun c => by
    unfold nOf
    by_cases hc : b = c
    · subst hc
      rw [List.getElem?_set_self hlt, hb]
    · rw [List.getElem?_set_ne hc]
  have mv' : Mv (fun _ => True) w M h w M (h.set b (.box v')) := {
    ext := fun b hb _ => ⟨hb, rfl⟩
    ids := fun b g F _ hb => ⟨F, hb⟩
    row := fun b g F arr t _ _ hg => ⟨arr, hg, rfl⟩
    nof := fun b g F _ _ => hnof b
    sz := Nat.le_refl _ }
  have hget : ∀ (c : Nat) (k : Blk), (h.set b (.box v'))[c]? = some k → (c = b ∧ k = .box v') ∨ h[c]? = some k := fun c k hk => by
    by_cases hc : b = c
    · subst hc
      rw [List.getElem?_set_self hlt] at hk
      cases hk
      exact .inl ⟨rfl, rfl⟩
    · rw [List.getElem?_set_ne hc] at hk
      exact .inr hk
  have hI' : MInv B.heap.size w M (h.set b (.box v')) := {
    len := by simp [R.inv.len]
    blk := fun c k m hk hm => by
      rcases hget c k hk with ⟨rfl, rfl⟩ | hk3
      · have h1 := R.inv.blk c _ m hb hm
        cases m with
        | none => exact h1
        | some gF =>
          obtain ⟨g, F⟩ := gF
          obtain ⟨h2, arr, t, h3, h4⟩ := h1
          exact ⟨h2, arr, t, h3, repC_mv mv' _ _ (V.inS_all _) (hv _ _ _ _ h4)⟩
      · exact BRep_mv mv' (by cases k <;> first | trivial | exact V.inS_all _ | exact inSE_all _) (fun _ _ => rfl) (R.inv.blk c k m hk3 hm)
    nd := R.inv.nd
    lo := fun c k m hk hm hl => by
      rcases hget c k hk with ⟨rfl, rfl⟩ | hk3
      · exact R.inv.lo c _ m hb hm rfl
      · exact R.inv.lo c k m hk3 hm hl
    hi := R.inv.hi }
  refine ⟨M, R.ext, hI', fun k => rep_mv mv' _ _ (V.inS_all _) (R.env k), R.sz, R.df, R.fr, ?_⟩
  rw [List.getElem?_set_ne (by intro e0; subst e0; cases hb0)]
  exact R.fh
theorem Weak.freeze {e : Env} {h : List Blk} (k : Nat) {b n off len : Nat} {xs : List D} {dp : Bool} (hk : gt e k = .own b off len) (hb : h[b]? = some (.arr n xs dp)) (hb0 : Nat.ble 1 b = true) (hl : off + len ≤ xs.length) :
    Weak e h ((k, .d (.lst ((xs.drop off).take len))) :: dropE [b] e) ((dropK [b] h).set b (.arr n [] true)) := fun B X N M a w R => by
  have hb1 := Nat.le_of_ble_eq_true hb0
  have hr := R.env k
  rw [hk] at hr
  obtain ⟨M', R', hd⟩ := R.give (by omega) hb hl (rep_own.1 hr)
  exact ⟨M', R'.know (rep_of_rep1 (v := .d (.lst ((xs.drop off).take len))) hd)⟩
theorem Weak.freezeA {e : Env} {h : List Blk} (k : Nat) {b n len : Nat} {xs : List D} {dp : Bool} (hk : gt e k = .own b 0 len) (hb : h[b]? = some (.arr n xs dp)) (hb0 : Nat.ble 1 b = true) (hl : len = xs.length) :
    Weak e h ((k, .d (.lst xs)) :: dropE [b] e) ((dropK [b] h).set b (.arr n [] true)) := by
  have := Weak.freeze k hk hb hb0 (by omega)
  rwa [List.drop_zero, List.take_of_length_le (by omega)] at this
theorem PC.weak {P : Program} {f : FuncId} {As : List V} {v v' : V} {bs bs' : List Blk} (pc : PC P f As v bs) (hw : Weak [(0, v)] (.gone :: bs) [(0, v')] (.gone :: bs')) : PC P f As v' bs' where
  fn := pc.fn
  run w X args h1 h2 h3 := by
    refine (pc.run w X args h1 h2 h3).mono ?_
    rintro en w' ⟨cv, M', rfl, hx, hI, hr⟩
    have R : Rep w X 1 (mX X :: M') [(0, v)] (.gone :: bs) { tmps := #[cv], defers := [] } w' := ⟨hx, hI, fun k => by
      rw [gt_cons]
      by_cases hk : 0 = k
      · subst hk; rw [if_pos rfl]; exact hr
      · rw [if_neg hk]; trivial, rfl, rfl, rfl, rfl⟩
    obtain ⟨M2, R2⟩ := hw _ _ _ _ _ _ R
    have hf := R2.fr
    have hl := R2.inv.len
    match M2, hf, R2 with
    | m :: M3, hf, R2 =>
      have hm : m = mX X := by simpa using hf
      subst hm
      exact ⟨cv, M3, rfl, hx, R2.inv, R2.env 0⟩
theorem PC.freeze {P : Program} {f : FuncId} {As : List V} {n len : Nat} {xs : List D} {dp : Bool} (pc : PC P f As (.own 1 0 len) [.arr n xs dp]) (hl : len = xs.length) : PC P f As (.d (.lst xs)) [] :=
  pc.weak (Weak.trans (Weak.freezeA 0 rfl rfl rfl hl) (Weak.cov ⟨rfl, trivial⟩ ⟨trivial, trivial⟩ rfl))
theorem Weak.pushE {e : Env} {h : List Blk} (n : Nat) (dp : Bool) : Weak e h e (h ++ [.arr n [] dp]) := by
  intro B X N M a w R
  have hO : MM.O [none] = [] := rfl
  have mv : Mv (fun _ => True) w M h w (M ++ [none]) (h ++ [.arr n [] dp]) := push_mv R.inv.len (Ext.refl w) R.inv.hi (by rw [hO]; simp)
  exact ⟨_, R.step R.ext (R.inv.push R.base (Ext.refl w) (Mn := [none]) (hn := [.arr n [] dp]) rfl (by rw [hO]; simp) (by rw [hO]; simp) (by rw [hO]; simp) (by
    intro b k m hk hm
    cases b with
    | zero => simp at hk hm; subst hk; subst hm; exact rfl
    | succ b => simp at hk)) mv (fr_push R.fr _) (fr_push R.fh _)⟩
theorem repC_nilE {w : World} {M : MM} {h : List Blk} (b : Nat) {cs : List Value} (H : repC w M h .nils cs) : repC w M h (.own b 0 0) cs := by
  have : cs = [.slice none 0 0] := H
  subst this
  exact ⟨_, rfl, none, 0, rfl, Nat.le_refl _, Nat.zero_le _, fun _ => rfl, .inl rfl⟩
theorem repCs_lastE {w : World} {M : MM} {h : List Blk} (b : Nat) : ∀ (vs : List V) (cs : List Value), repCs w M h (vs ++ [.nils]) cs → repCs w M h (vs ++ [.own b 0 0]) cs
  | [], cs, H => by
    obtain ⟨c1, c2, e, h1, h2⟩ := H
    exact ⟨c1, c2, e, repC_nilE b h1, h2⟩
  | v :: vs, cs, H => by
    obtain ⟨c1, c2, e, h1, h2⟩ := H
    exact ⟨c1, c2, e, h1, repCs_lastE b vs c2 h2⟩
theorem Weak.adoptL {e : Env} {h : List Blk} (b : Nat) (vs : List V) (hb : h[b]? = some (.box (.st (vs ++ [.nils])))) (hb0 : Nat.ble 1 b = true) (n : Nat) (dp : Bool) : Weak e h e ((h ++ [Blk.arr n [] dp]).set b (.box (.st (vs ++ [.own h.length 0 0])))) :=
  Weak.trans (Weak.pushE n dp) (Weak.box b (v := .st (vs ++ [V.nils])) (v' := .st (vs ++ [V.own h.length 0 0])) (by rw [List.getElem?_append_left (List.getElem?_eq_some_iff.1 hb).1]; exact hb) hb0 (fun w M h' cs H => repCs_lastE _ vs cs H))
theorem repCs_midE {w : World} {M : MM} {h : List Blk} (b : Nat) : ∀ (us vs : List V) (cs : List Value), repCs w M h (us ++ V.nils :: vs) cs → repCs w M h (us ++ V.own b 0 0 :: vs) cs
  | [], vs, cs, H => by
    obtain ⟨c1, c2, e, h1, h2⟩ := H
    exact ⟨c1, c2, e, repC_nilE b h1, h2⟩
  | u :: us, vs, cs, H => by
    obtain ⟨c1, c2, e, h1, h2⟩ := H
    exact ⟨c1, c2, e, h1, repCs_midE b us vs c2 h2⟩
theorem Weak.adoptM {e : Env} {h : List Blk} (b : Nat) (us vs : List V) (hb : h[b]? = some (.box (.st (us ++ V.nils :: vs)))) (hb0 : Nat.ble 1 b = true) (n : Nat) (dp : Bool) : Weak e h e ((h ++ [Blk.arr n [] dp]).set b (.box (.st (us ++ V.own h.length 0 0 :: vs)))) :=
  Weak.trans (Weak.pushE n dp) (Weak.box b (v := .st (us ++ V.nils :: vs)) (v' := .st (us ++ V.own h.length 0 0 :: vs)) (by rw [List.getElem?_append_left (List.getElem?_eq_some_iff.1 hb).1]; exact hb) hb0 (fun w M h' cs H => repCs_midE _ us vs cs H))
def VS : Nat := 1000003
def actV (a : Act) (cv : Value) : Act := { a with tmps := ((List.range (max a.tmps.size (VS + 1))).map fun k => if k = VS then cv else a.tmps.getD k Go.undef).toArray }
theorem actV_get (a : Act) (cv : Value) (k : Nat) : (actV a cv).tmps.getD k Go.undef = if k = VS then cv else a.tmps.getD k Go.undef := by
  unfold actV
  simp only [Array.getD_eq_getD_getElem?, List.getElem?_toArray, List.getElem?_map]
  by_cases hk : k < max a.tmps.size (VS + 1)
  · rw [List.getElem?_range hk]; rfl
  · have h1 : (List.range (max a.tmps.size (VS + 1)))[k]? = none := List.getElem?_eq_none (by rw [List.length_range]; omega)
    rw [h1, if_neg (by omega), Array.getElem?_eq_none (by omega)]; rfl
theorem CallM.post {P : Program} {f : FuncId} {vs : List V} {e : Env} {h : List Blk} {K K1 : V → Env → List Blk → Prop} (H : CallM P f vs e h K1)
    (HX : ∀ v e1 h1, K1 v e1 h1 → WeakX ((VS, v) :: e1) h1 fun e0 h0 => ∃ v0 e2, e0 = (VS, v0) :: e2 ∧ gt e2 VS = .top ∧ K v0 e2 h0) : CallM P f vs e h K where
  fn := H.fn
  run B X N M a w args R hargs := by
    refine (H.run B X N M a w args R hargs).mono ?_
    rintro en w' ⟨v, cv, e', h', M', rfl, hK, R', hr'⟩
    have R1 : Rep B X (actV a cv).tmps.size M' ((VS, v) :: e') h' (actV a cv) w' := {
      ext := R'.ext
      inv := R'.inv
      env := fun k => by
        rw [actV_get]
        show rep w' M' h' (bif Nat.beq VS k then v else gt e' k) _
        cases hq : Nat.beq VS k with
        | true =>
          have := Nat.eq_of_beq_eq_true hq
          subst this
          rw [if_pos rfl]; exact hr'
        | false =>
          have hne : k ≠ VS := fun q => by subst q; simp at hq
          rw [if_neg hne]; exact R'.env k
      sz := rfl
      df := R'.df
      fr := R'.fr
      fh := R'.fh }
    obtain ⟨e0, h0, M2, ⟨v0, e2, rfl, h2, hK2⟩, R2⟩ := HX v e' h' hK _ _ _ _ _ _ R1
    refine ⟨v0, cv, e2, h0, M2, rfl, hK2, {
      ext := R2.ext
      inv := R2.inv
      env := fun k => ?_
      sz := R'.sz
      df := R'.df
      fr := R2.fr
      fh := R2.fh }, ?_⟩
    · by_cases hk : k = VS
      · subst hk; rw [h2]; trivial
      · have := R2.env k
        rw [actV_get, if_neg hk] at this
        have e1 : gt ((VS, v0) :: e2) k = gt e2 k := by
          show (bif Nat.beq VS k then v0 else gt e2 k) = _
          cases hq : Nat.beq VS k with
          | true => exact absurd (Nat.eq_of_beq_eq_true hq).symm hk
          | false => rfl
        rw [e1] at this
        exact this
    · have := R2.env VS
      rw [actV_get, if_pos rfl] at this
      exact this
theorem clX_ {P : Program} {f : FuncId} {vs : List V} {e : Env} {h : List Blk} {K : V → Env → List Blk → Prop} {As : List V} {v : V} {bs : List Blk} (pc : PC P f As v bs)
    (HX : WeakX ((VS, v.shift (h.length - 1)) :: e) (h ++ shiftBs (h.length - 1) bs) fun e0 h0 => ∃ v0 e2, e0 = (VS, v0) :: e2 ∧ gt e2 VS = .top ∧ K v0 e2 h0)
    (hb : borVs h vs As := by ((repeat' (first | exact trivial | with_reducible rfl | ((conv => whnf); first | done | exact trivial | with_reducible rfl | (exact Or.inr ⟨rfl, rfl, rfl, rfl⟩) | (refine Or.inl ⟨_, rfl, ?_⟩) | (refine ⟨rfl, _, rfl, ?_⟩) | (refine ⟨_, _, rfl, ?_, ?_⟩) | (refine ⟨_, rfl, ?_⟩) | ((refine ⟨?_, ?_⟩); (focus (first | (simp; done) | omega)); (focus ((first | rw [List.drop_zero, List.take_of_length_le (Nat.le_of_eq (List.length_map _))] | rw [List.drop_zero, List.take_of_length_le (by omega)] | rfl); done))) | rfl))); (first | done | fail))) (hf : (v.fit (!V.exts vs) && fitBs (!V.exts vs) bs && Nat.ble 1 h.length) = true := by rfl) : CallW P false f vs e h K :=
  ⟨.inr ⟨rfl, CallM.post (K1 := fun v0 e1 h1 => v0 = v.shift (h.length - 1) ∧ e1 = e ∧ h1 = h ++ shiftBs (h.length - 1) bs) ⟨pc.fn, fun B X N M a w args R hargs => by
    refine (callW_sound R hargs (CallW.use (dr := false) (K := fun v0 e1 h1 => v0 = v.shift (h.length - 1) ∧ e1 = e ∧ h1 = h ++ shiftBs (h.length - 1) bs) (e := e) pc hb hf ⟨rfl, rfl, rfl⟩)).2.mono ?_
    rintro en w' ⟨v', cv, e', h', M', k1, k2, _, k3, k4⟩
    exact ⟨v', cv, e', h', M', k1, k2, k3, k4⟩⟩ (by rintro v0 e1 h1 ⟨rfl, rfl, rfl⟩; exact HX)⟩⟩
theorem CallW.res {P : Program} {f : FuncId} {vs : List V} {e : Env} {h : List Blk} {K K1 : V → Env → List Blk → Prop} (H : CallM P f vs e h K1)
    (HX : ∀ v e1 h1, K1 v e1 h1 → v.resOK = true ∧ WeakX e1 h1 (K v)) : CallW P false f vs e h K := ⟨.inr ⟨rfl, {
  fn := H.fn
  run := fun B X N M a w args R hargs => by
    refine (H.run B X N M a w args R hargs).mono ?_
    rintro en w' ⟨v, cv, e', h', M', rfl, hK, R', hr'⟩
    obtain ⟨h1, h2⟩ := HX v e' h' hK
    obtain ⟨e0, h0, M2, hS, R2⟩ := h2 _ _ _ _ _ _ R'
    exact ⟨v, cv, e0, h0, M2, rfl, hS, R2, res_rep h1 hr'⟩ }⟩⟩
theorem Weak.nilD {e : Env} {h : List Blk} (k : Nat) (hk : gt e k = .nils) : Weak e h ((k, .d (.lst [])) :: e) h := fun B X N M a w R => by
  have hr := R.env k
  rw [hk] at hr
  have h1 : a.tmps.getD k Go.undef = .slice none 0 0 := by
    have : [a.tmps.getD k Go.undef] = [Value.slice none 0 0] := hr
    injection this
  refine ⟨M, R.know ?_⟩
  rw [h1]
  show repD M.O w (.lst []) [_]
  exact ⟨none, 0, 0, rfl, Nat.le_refl _, Nat.zero_le _, fun _ => rfl, trivial⟩
theorem Weak.row {e : Env} {h : List Blk} (b : Nat) {n : Nat} {xs ys : List D} (hb : h[b]? = some (.arr n xs true)) (hb0 : Nat.ble 1 b = true) (hl : ys.length = xs.length) (H : ∀ (w : World) (arr : Array Value) (F : List Nat), ownDe w arr n xs 0 F → ownDe w arr n ys 0 F) :
    Weak e h e (h.set b (.arr n ys true)) := by
  intro B X N M a w R
  have hb1 := Nat.le_of_ble_eq_true hb0
  have hbh : b < h.length := (List.getElem?_eq_some_iff.1 hb).1
  have hnf : ∀ c, nOf (h.set b (.arr n ys true)) c = nOf h c := fun c => by
    unfold nOf
    by_cases hc : c = b
    · subst hc
      rw [List.getElem?_set_self hbh, hb]
    · rw [List.getElem?_set_ne (Ne.symm hc)]
  have mv : Mv (fun _ => True) w M h w M (h.set b (.arr n ys true)) := {
    ext := fun x hx _ => ⟨hx, rfl⟩
    ids := fun c g F _ hc => ⟨F, hc⟩
    row := fun c g F arr t _ _ hg => ⟨arr, hg, rfl⟩
    nof := fun c _ _ _ _ => hnf c
    sz := Nat.le_refl _ }
  refine ⟨M, R.step R.ext ⟨by simp [R.inv.len], fun c k m hk' hm => ?_, R.inv.nd, fun c k m hk' hm hl x hx => ?_, R.inv.hi⟩ mv rfl (by rw [List.getElem?_set_ne (by omega)])⟩
  · by_cases hcb : c = b
    · subst hcb
      rw [List.getElem?_set_self hbh] at hk'
      cases hk'
      have hB := R.inv.blk c _ _ hb hm
      cases m with
      | none =>
        have : xs = [] := hB
        subst this
        exact List.eq_nil_of_length_eq_zero hl
      | some p =>
        obtain ⟨g, F⟩ := p
        obtain ⟨arr, t, k1, k2, k3⟩ := hB
        rw [if_pos rfl] at k3
        exact ⟨arr, t, k1, by rw [hl]; exact k2, by rw [if_pos rfl]; exact H w arr F k3⟩
    · rw [List.getElem?_set_ne (Ne.symm hcb)] at hk'
      exact BRep_mv mv (by cases k <;> first | trivial | exact V.inS_all _ | exact inSE_all _) (fun _ _ => rfl) (R.inv.blk c k m hk' hm)
  · by_cases hcb : c = b
    · subst hcb
      exact R.inv.lo c _ _ hb hm rfl x hx
    · rw [List.getElem?_set_ne (Ne.symm hcb)] at hk'
      exact R.inv.lo c k m hk' hm hl x hx
theorem Weak.pushP {e : Env} {h : List Blk} (c g : Nat) (t : TypeId) : Weak e h e (h ++ [.pin c g 0 t]) := by
  intro B X N M a w R
  have hO : MM.O [none] = [] := rfl
  have mv : Mv (fun _ => True) w M h w (M ++ [none]) (h ++ [.pin c g 0 t]) := push_mv R.inv.len (Ext.refl w) R.inv.hi (by rw [hO]; simp)
  exact ⟨_, R.step R.ext (R.inv.push R.base (Ext.refl w) (Mn := [none]) (hn := [.pin c g 0 t]) rfl (by rw [hO]; simp) (by rw [hO]; simp) (by rw [hO]; simp) (by
    intro b k m hk hm
    cases b with
    | zero => simp at hk hm; subst hk; subst hm; exact .inl rfl
    | succ b => simp at hk)) mv (fr_push R.fr _) (fr_push R.fh _)⟩
theorem CallW.pre {P : Program} {f : FuncId} {vs : List V} {e : Env} {h : List Blk} {K : V → Env → List Blk → Prop} (hfn : ∃ fn, P.funcs[f]? = some fn ∧ (fn.name == "runtime.NumGoroutine") = false ∧ fn.body.isNone = false)
    (HX : WeakX ((VS, .tup vs) :: e) h fun e0 h0 => ∃ vs0 e2, e0 = (VS, .tup vs0) :: e2 ∧ gt e2 VS = .top ∧ CallW P false f vs0 e2 h0 K) : CallW P false f vs e h K := ⟨.inr ⟨rfl, {
  fn := hfn
  run := fun B X N M a w args R hargs => by
    have R1 : Rep B X (actV a (.tuple args.toArray)).tmps.size M ((VS, .tup vs) :: e) h (actV a (.tuple args.toArray)) w := {
      ext := R.ext
      inv := R.inv
      env := fun k => by
        rw [actV_get]
        show rep w M h (bif Nat.beq VS k then .tup vs else gt e k) _
        cases hq : Nat.beq VS k with
        | true =>
          have := Nat.eq_of_beq_eq_true hq
          subst this
          rw [if_pos rfl]
          exact ⟨args, rfl, hargs⟩
        | false =>
          have hne : k ≠ VS := fun q => by subst q; simp at hq
          rw [if_neg hne]; exact R.env k
      sz := rfl
      df := R.df
      fr := R.fr
      fh := R.fh }
    obtain ⟨e0, h0, M2, ⟨vs0, e2, rfl, h2, hC⟩, R2⟩ := HX _ _ _ _ _ _ R1
    have hr := R2.env VS
    rw [actV_get, if_pos rfl] at hr
    obtain ⟨args', q1, q2⟩ := hr
    have q3 : args = args' := by
      injection q1 with q1
      exact List.toArray_inj q1
    subst q3
    have R3 : Rep B X N M2 e2 h0 a w := {
      ext := R2.ext
      inv := R2.inv
      env := fun k => by
        by_cases hk : k = VS
        · subst hk; rw [h2]; trivial
        · have := R2.env k
          rw [actV_get, if_neg hk] at this
          have e1 : gt ((VS, V.tup vs0) :: e2) k = gt e2 k := by
            show (bif Nat.beq VS k then V.tup vs0 else gt e2 k) = _
            cases hq : Nat.beq VS k with
            | true => exact absurd (Nat.eq_of_beq_eq_true hq).symm hk
            | false => rfl
          rw [e1] at this
          exact this
      sz := R.sz
      df := R.df
      fr := R2.fr
      fh := R2.fh }
    refine (callW_sound R3 q2 hC).2.mono ?_
    rintro en w' ⟨v', cv, e', h', M', k1, k2, _, k3, k4⟩
    exact ⟨v', cv, e', h', M', k1, k2, k3, k4⟩ }⟩⟩
def nilC : D := .raw (.slice none 0 0)
def dlD : List TGlyphDelta → D
  | [] => nilC
  | x :: t => .lst ((x :: t).map TGlyphDelta.D)
def mR (m : TMaster) : D := .st [.lst (m.fPeaks.map TPeak.D), dlD m.fDeltas]
theorem dlD_some {ds : List TGlyphDelta} (h : ds ≠ []) : dlD ds = .lst (ds.map TGlyphDelta.D) := by
  cases ds with
  | nil => exact absurd rfl h
  | cons x t => rfl
theorem ownD_dlD {w : World} (ds : List TGlyphDelta) (F : List Nat) (cs : List Value) (h : ownD w (dlD ds) F cs) : ownD w (.lst (ds.map TGlyphDelta.D)) F cs := by
  cases ds with
  | cons x t => exact h
  | nil =>
    obtain ⟨rfl, rfl, _⟩ := h
    exact ⟨none, 0, rfl, Nat.le_refl _, Nat.zero_le _, fun _ => rfl, .inl ⟨rfl, rfl, rfl⟩⟩
theorem Weak.rowM {e : Env} {h : List Blk} (b : Nat) {ms : List TMaster} (hb : h[b]? = some (.arr 2 (ms.map mR) true)) (hb0 : Nat.ble 1 b = true) : Weak e h e (h.set b (.arr 2 (ms.map TMaster.D) true)) := by
  refine Weak.row b hb hb0 (by simp) (fun w arr F H => ?_)
  have key : ∀ (ms : List TMaster) (i : Nat) (F : List Nat), ownDe w arr 2 (ms.map mR) i F → ownDe w arr 2 (ms.map TMaster.D) i F := by
    intro ms
    induction ms with
    | nil => intro i F h; exact h
    | cons m t ih =>
      intro i F ⟨F1, F2, ces, e, q1, q2, q3, q4⟩
      refine ⟨F1, F2, ces, e, rfl, q2, ?_, ih (i + 1) F2 q4⟩
      obtain ⟨G1, G2, c1, c2, rfl, rfl, r1, G3, G4, c3, c4, rfl, rfl, r2, r3⟩ := q3
      exact ⟨G1, _, c1, _, rfl, rfl, r1, G3, G4, c3, c4, rfl, rfl, ownD_dlD _ _ _ r2, r3⟩
  exact key ms 0 F H
theorem WeakX.outM {e : Env} {h : List Blk} {S : Env → List Blk → Prop} {b k : Nat} {ms : List TMaster} {m : TMaster} (hb : h[b]? = some (.arr 2 (ms.map mR) true)) (hb0 : Nat.ble 1 b = true) (hm : ms[k]? = some m)
    (H : ∀ g cap sz t, (cap = 0 ∨ cap * 4 < sz) → WeakX e (h.set b (.arr 2 ((ms.map mR).set k (.st [.lst (m.fPeaks.map TPeak.D), .hole g m.fDeltas.length cap])) true) ++ [.arr 4 (m.fDeltas.map TGlyphDelta.D) true, .pin h.length g sz t]) S) : WeakX e h S := by
  have hx : (ms.map mR)[k]? = some (mR m) := by rw [List.getElem?_map, hm]; rfl
  by_cases hd : m.fDeltas = []
  · have hR : mR m = .st [.lst (m.fPeaks.map TPeak.D), nilC] := by rw [mR, hd]; rfl
    rw [hR] at hx
    have h1 : Weak e h e (h.set b (.arr 2 ((ms.map mR).set k (.st [.lst (m.fPeaks.map TPeak.D), .hole 0 0 0])) true)) := Weak.row b hb hb0 (by simp) (fun w arr F Ho => by
      obtain ⟨F1, F2, F3, cs, rfl, r1, r2⟩ := ownDe_sub (p := [1]) (u := nilC) (o := 1) (U := fun u => .st [.lst (m.fPeaks.map TPeak.D), u]) Ho hx rfl (fun _ => rfl)
      obtain ⟨rfl, rfl, _⟩ := r1
      have := r2 (.hole 0 0 0) [] ⟨rfl, none, rfl, Nat.le_refl _, Nat.zero_le _, fun _ => rfl, .inl rfl⟩
      exact this)
    have H0 := H 0 0 0 0 (.inl rfl)
    rw [hd] at H0
    refine WeakX.pre (Weak.trans h1 (Weak.trans (Weak.pushE 4 true) (Weak.pushP h.length 0 0))) ?_
    rw [List.append_assoc]
    exact H0
  · have hR : mR m = .st [.lst (m.fPeaks.map TPeak.D), .lst (m.fDeltas.map TGlyphDelta.D)] := by rw [mR, dlD_some hd]
    rw [hR] at hx
    refine WeakX.out (p := [1]) (o := 1) (n1 := 4) (U := fun u => .st [.lst (m.fPeaks.map TPeak.D), u]) hb0 hb hx rfl (fun _ => rfl) (fun y hy => by obtain ⟨z, _, rfl⟩ := List.mem_map.1 hy; rfl) (fun g cap sz t n0 hn hc => ?_)
    have hn4 : n0 = 4 := hn (by simpa using hd)
    subst hn4
    have := H g cap sz t hc
    rw [List.length_map]
    exact this
theorem ValidPt_v (p : TPt) : PC Tryz.prog 99 [.d p.D] (.d (.bool (pntB p))) [] := by
  refine pc_intro ttOk (by kernel_rfl) Tryz.func99 rfl (by kernel_rfl) (by kernel_rfl) (by kernel_rfl) (fun hw => ?_)
  (conv => whnf)
  (repeat' (first | (refine stg_ ?_) | fail | (refine br_ (fun hbr => ?_) (fun hbr => ?_))))
  all_goals ((refine RetOK.d rfl rfl ?_; conv => whnf); (try simp_all [pntB, inB]); (try (rw [Bool.eq_iff_iff]; simp)); (try omega))
theorem l03Ok_v (p : TPt) : PC Tryz.prog 128 [.d p.D] (.d (.bool (pntB p))) [] := by
  refine pc_intro ttOk (by kernel_rfl) Tryz.func128 rfl (by kernel_rfl) (by kernel_rfl) (by kernel_rfl) (fun hw => ?_)
  (conv => whnf)
  (repeat' (first | (refine stg_ ?_) | (refine cl_ (l00In_v _ _ _) ?_) | (refine br_ (fun hbr => ?_) (fun hbr => ?_))))
  all_goals ((refine RetOK.d rfl rfl ?_; conv => whnf); (try simp_all [pntB]))
theorem validPts_v (xs : List TPt) : PC Tryz.prog 58 [.d (.lst (xs.map TPt.D))] (.d (.bool (xs.all pntB))) [] := by
  refine pc_intro ttOk (by kernel_rfl) Tryz.func58 rfl (by kernel_rfl) (by kernel_rfl) (by kernel_rfl) (fun hw => ?_)
  have hL : (xs.map TPt.D).length = xs.length := List.length_map _
  have hm : (xs.map TPt.D).length ≤ 9223372036854775807 := hw.1.1
  (conv => whnf)
  refine LoopW.go (α := Nat) (fun k => [(5, .d (.lst (xs.map TPt.D))), (6, .d (.int .i64 (xs.map TPt.D).length)), (7, .d (.int .i64 k))]) (fun k => [.gone]) (fun k => k ≤ xs.length ∧ xs.all pntB = (xs.drop k).all pntB) (fun k => xs.length - k) 0 covT_ ?_ (fun k hk => ?_)
  · exact ⟨by omega, rfl⟩
  obtain ⟨hk1, hk2⟩ := hk
  (conv => whnf)
  (refine br_ (fun h2 => ?_) (fun h2 => ?_) <;> (repeat (refine stg_ ?_)))
  · obtain ⟨x, hx⟩ := at_lt' (xs := xs) (k := k) (by omega)
    rw [drop_at hx, List.all_cons] at hk2
    (repeat' (first | (refine stg_ ?_) | (refine cla_ (ValidPt_v x) ?_) | (refine br_ (fun hbr => ?_) (fun hbr => ?_))))
    all_goals first | ((refine RetOK.d rfl rfl ?_; conv => whnf); simp_all; done) | exact NextW.go (k + 1) covT_ ⟨by omega, by simp_all⟩ (by omega)
  · (refine RetOK.d rfl rfl ?_; conv => whnf)
    rw [hk2, List.drop_eq_nil_of_le (by omega)]; rfl
theorem l13Points_v (xs : List TPt) : PC Tryz.prog 174 [.d (.lst (xs.map TPt.D))] (.d (.bool (xs.all pntB))) [] := by
  refine pc_intro ttOk (by kernel_rfl) Tryz.func174 rfl (by kernel_rfl) (by kernel_rfl) (by kernel_rfl) (fun hw => ?_)
  have hL : (xs.map TPt.D).length = xs.length := List.length_map _
  have hm : (xs.map TPt.D).length ≤ 9223372036854775807 := hw.1.1
  (conv => whnf)
  refine LoopW.go (α := Nat) (fun k => [(0, .d (.lst (xs.map TPt.D))), (3, .d (.int .i64 k))]) (fun k => [.gone]) (fun k => k ≤ xs.length ∧ xs.all pntB = (xs.drop k).all pntB) (fun k => xs.length - k) 0 covT_ ?_ (fun k hk => ?_)
  · exact ⟨by omega, rfl⟩
  obtain ⟨hk1, hk2⟩ := hk
  (conv => whnf)
  (refine br_ (fun h2 => ?_) (fun h2 => ?_) <;> (repeat (refine stg_ ?_)))
  · obtain ⟨x, hx⟩ := at_lt' (xs := xs) (k := k) (by omega)
    rw [drop_at hx, List.all_cons] at hk2
    (repeat' (first | (refine stg_ ?_) | (refine cla_ (l03Ok_v x) ?_) | (refine br_ (fun hbr => ?_) (fun hbr => ?_))))
    all_goals first | ((refine RetOK.d rfl rfl ?_; conv => whnf); simp_all; done) | exact NextW.go (k + 1) covT_ ⟨by omega, by simp_all⟩ (by omega)
  · (refine RetOK.d rfl rfl ?_; conv => whnf)
    rw [hk2, List.drop_eq_nil_of_le (by omega)]; rfl
def lst (n m : Nat) : Array Bool := ((List.range n).map fun i => m.testBit i).toArray
structure PE where
  q : Bool
  dep : Nat
  bad : Nat
section
variable {l : List Oper}
end
structure PX (P : Program) (f : FuncId) (As : List V) (Q : V → List Blk → Prop) : Prop where
  fn : ∃ fn, P.funcs[f]? = some fn ∧ (fn.name == "runtime.NumGoroutine") = false ∧ fn.body.isNone = false
  run : ∀ (w : World) (X : List Nat) (args : List Value), X.Nodup → (∀ b ∈ X, b < w.heap.size) → repT w [mX X] [.gone] As args →
    Calls P f args.toArray w fun e w' => ∃ v bs cv M', Q v bs ∧ e = .returned cv ∧ Ext w w' ∧ MInv w.heap.size w' (mX X :: M') (.gone :: bs) ∧ rep w' (mX X :: M') (.gone :: bs) v cv
theorem PX.of {P : Program} {f : FuncId} {As : List V} {v : V} {bs : List Blk} (pc : PC P f As v bs) {Q : V → List Blk → Prop} (hq : Q v bs) : PX P f As Q :=
  ⟨pc.fn, fun w X args h1 h2 h3 => (pc.run w X args h1 h2 h3).mono fun _ _ ⟨cv, M', k⟩ => ⟨v, bs, cv, M', hq, k⟩⟩
section
variable {P : Program} {dr : Bool} {f : FuncId} {As vs : List V} {Q : V → List Blk → Prop} {e : Env} {h : List Blk} {K : V → Env → List Blk → Prop}
end
theorem RegD.treeT {P : Program} {tt : TT} {l : List Oper} {K : Env → List Blk → Prop} {e : Env} {h : List Blk} (t : OT) (h1 : treeOK l t = true) (H : treeV P tt l t K e h) : RegD P tt l K e h := ⟨.inr (.inl ⟨t, h1, H⟩)⟩
set_option maxHeartbeats 4000000 in
theorem readNumbers_v (xs : List ByteArray) (hn : xs.length ≤ 1048577) (v : V) (bs : List Blk) (h0 : ∀ ns, rnL xs = some ns → v = .tup [.own 1 0 ns.length, .d (.bool true)] ∧ bs = [.arr 1 (ns.map (D.int .i64)) true])
    (h1 : rnL xs = none → v = .tup [.nils, .d (.bool false)] ∧ bs = []) : PC Tryz.prog 73 [.d (.lst (xs.map D.str))] v bs := by
  refine pc_intro ttOk (by kernel_rfl) Tryz.func73 rfl (by kernel_rfl) (by kernel_rfl) (by kernel_rfl) (fun hw => ?_)
  have hL : (xs.map D.str).length = xs.length := List.length_map _
  (conv => whnf)
  (repeat (refine stg_ ?_))
  refine LoopW.go (α := Nat × List Int) (fun p => [(4, .own 1 0 p.2.length), (9, .d (.lst (xs.map D.str))), (10, .d (.int .i64 xs.length)), (11, .d (.int .i64 p.1))]) (fun p => [.gone, .arr 1 (p.2.map (D.int .i64)) true]) (fun p => p.1 ≤ xs.length ∧ rnL (xs.take p.1) = some p.2) (fun p => xs.length - p.1) (0, []) (Weak.trans (Weak.adopt (k := 4) rfl 1 true) (Weak.cov ⟨rfl, rfl, by rw [← hL]; rfl, rfl, trivial⟩ ⟨trivial, rfl, trivial⟩ rfl)) ⟨by simp, rfl⟩ ?_
  rintro ⟨k, ns⟩ ⟨k1, k2⟩
  dsimp only at k1 k2 ⊢
  have hnl := rnL_len k2
  rw [List.length_take] at hnl
  have hd : (ns.map (D.int .i64)).length = ns.length := List.length_map _
  (conv => whnf)
  (repeat (refine stg_ ?_))
  (refine br_ (fun h2 => ?_) (fun h2 => ?_))
  · obtain ⟨x, hx⟩ := at_lt' (xs := xs) (k := k) (by omega)
    have hex : (xs.map D.str)[k]? = some (.str x) := by rw [List.getElem?_map, hx]; rfl
    have c1 := ReadDecimal_v x
    rcases hr : rdN x.data.toList with _ | n
    · obtain ⟨rfl, rfl⟩ := h1 (rnL_bad hx hr)
      rw [hr] at c1
      have c1 : PC Tryz.prog 133 [.d (.str x)] (.tup [.d (.int .i64 0), .d (.bool false)]) [] := c1
      (repeat' (first | (refine stg_ ?_) | (refine cla_ (c1) ?_) | (refine br_ (fun hbr => ?_) (fun hbr => ?_))))
      (refine ⟨⟨[], trivial, by decide, ⟨_, rfl, rfl, ⟨_, _, rfl, rfl, ⟨_, _, rfl, ⟨rfl, ?_⟩, rfl⟩⟩⟩⟩⟩; (conv => whnf))
      all_goals rfl
    · rw [hr] at c1
      have c1 : PC Tryz.prog 133 [.d (.str x)] (.tup [.d (.int .i64 n), .d (.bool true)]) [] := c1
      (repeat' (first | (refine stg_ ?_) | (refine cla_ (c1) ?_) | (refine br_ (fun hbr => ?_) (fun hbr => ?_))))
      refine NextW.go (k + 1, ns ++ [n]) (Weak.cov ⟨?_, rfl, rfl, rfl, trivial⟩ ⟨trivial, ?_, trivial⟩ rfl) ⟨by dsimp only; omega, by dsimp only; rw [take_snoc_get hx]; exact rnL_snoc k2 hr⟩ (by dsimp only; omega)
      · show _ = V.own 1 0 (ns ++ [n]).length
        rw [List.length_append]; rfl
      · show _ = Blk.arr 1 ((ns ++ [n]).map (D.int .i64)) true
        rw [List.map_append, ← hd, List.take_length]; rfl
  · obtain rfl : k = xs.length := by omega
    rw [List.take_length] at k2
    obtain ⟨rfl, rfl⟩ := h0 ns k2
    (refine ⟨⟨[some 1], ⟨by decide, ?_, trivial, trivial⟩, by decide, ⟨_, rfl, rfl, ⟨_, _, rfl, ⟨by decide, ?_⟩, ⟨_, _, rfl, ⟨rfl, ?_⟩, rfl⟩⟩⟩⟩⟩)
    all_goals rfl
structure RaR (s : ByteArray) (v : V) (bs : List Blk) : Prop where
  own : ∀ a, raA s = some a → v = .tup [.st [.d (.str a.fName), .d (.int .i64 a.fMin), .d (.int .i64 a.fDefault), .d (.int .i64 a.fMax), .own 1 0 a.fMap.length], .d (.bool true)] ∧ bs = [.arr 2 (a.fMap.map TAxisPoint.D) true]
  no : raA s = none → v = .tup [.st [.d (.str .empty), .d (.int .i64 0), .d (.int .i64 0), .d (.int .i64 0), .nils], .d (.bool false)] ∧ bs = []
def trRA : OT := .q 0 (.q 1 (.q 2 (.q 3 (.q 4 (.q 5 (.q 6 (.q 7 (.q 8 (.q 9 (.q 10 (.q 11 (.alt 12 (.alt 13 (.alt 14 .done .nil) .nil) (.alt 13 (.alt 12 (.alt 14 .done .nil) .nil) .nil)))))))))))))
set_option maxHeartbeats 8000000 in
theorem ReadAxis_v (s : ByteArray) (hs : s.size ≤ 1048576) (v : V) (bs : List Blk) (hR : RaR s v bs) : PC Tryz.prog 72 [.d (.str s)] v bs := by
  refine pc_intro ttOk (by kernel_rfl) Tryz.func72 rfl (by kernel_rfl) (by kernel_rfl) (by kernel_rfl) (fun hw => ?_)
  have c1 := Split_v s ⟨#[32]⟩ 32 rfl hs rfl (by rw [← bTl, ← bTl]; rfl)
  have hl : s.data.toList.length = s.size := Array.length_toList
  have hcl := List.count_le_length (a := (32 : UInt8)) (l := s.data.toList)
  have hn := spB_len 32 s
  obtain ⟨ws, hws⟩ : ∃ ws, ws = spB 32 s := ⟨_, rfl⟩
  rw [← hws] at c1 hn
  have hraA : raA s = match aP ws with
    | some a => if axB a = true then some a else none
    | none => none := by rw [hws]; rfl
  by_cases h4 : ws.length < 4
  · have hno : aP ws = none := by
      unfold aP
      split
      · rename_i e; simp at h4; omega
      · rfl
    obtain ⟨rfl, rfl⟩ := hR.no (by rw [hraA, hno])
    (conv => whnf)
    (repeat' (first | (refine stg_ ?_) | (refine cla_ (c1) ?_) | (refine br_ (fun hbr => ?_) (fun hbr => ?_))))
    all_goals try (exfalso; omega)
    all_goals (refine RetOK.t rfl ?_; (repeat' (first | ((conv => whnf); done) | ((conv => whnf); (first | (exact ⟨by decide, rfl⟩) | (exact ⟨rfl, rfl⟩) | (refine ⟨_, _, rfl, ?_, ?_⟩) | (refine ⟨_, rfl, ?_⟩) | rfl)))))
  obtain ⟨n, a, b, c, r, hwe⟩ : ∃ n a b c r, ws = n :: a :: b :: c :: r := by
    match ws, h4 with
    | n :: a :: b :: c :: r, _ => exact ⟨n, a, b, c, r, rfl⟩
    | [], h => exact absurd (by simp) h
    | [_], h => exact absurd (by simp) h
    | [_, _], h => exact absurd (by simp) h
    | [_, _, _], h => exact absurd (by simp) h
  have hwl : ws.length = r.length + 4 := by rw [hwe]; rfl
  have haP : aP ws = match rnL [a, b, c] with
    | some [x, y, z] => match ptsL r with
      | some m => some ⟨n, x, y, z, m⟩
      | none => none
    | _ => none := by rw [hwe]; rfl
  rcases hr3 : rnL [a, b, c] with _ | q3
  · have c2 := readNumbers_v [a, b, c] (by simp) _ _ (fun ns h => by rw [hr3] at h; cases h) (fun _ => ⟨rfl, rfl⟩)
    rw [hr3] at haP
    obtain ⟨rfl, rfl⟩ := hR.no (by rw [hraA, haP])
    rw [hwl, hwe] at c1
    (conv => whnf)
    (repeat' (first | (refine stg_ ?_) | (refine cla_ (c1) ?_) | (refine cla_ (c2) ?_) | (refine br_ (fun hbr => ?_) (fun hbr => ?_))))
    all_goals try (exfalso; omega)
    all_goals (refine ⟨⟨[], trivial, by decide, ⟨_, rfl, rfl, ?_⟩⟩⟩; (repeat' (first | ((conv => whnf); done) | ((conv => whnf); (first | (exact ⟨by decide, rfl⟩) | (exact ⟨rfl, rfl⟩) | (refine ⟨_, _, rfl, ?_, ?_⟩) | (refine ⟨_, rfl, ?_⟩) | rfl)))))
  obtain ⟨x, y, z, rfl⟩ : ∃ x y z, q3 = [x, y, z] := by
    have := rnL_len hr3
    match q3, this with
    | [x, y, z], _ => exact ⟨x, y, z, rfl⟩
  have c2 := readNumbers_v [a, b, c] (by simp) (.tup [.own 1 0 3, .d (.bool true)]) [.arr 1 ([x, y, z].map (D.int .i64)) true] (fun ns h => by rw [hr3] at h; cases h; exact ⟨rfl, rfl⟩) (fun h => by rw [hr3] at h; cases h)
  rw [hr3] at haP
  rw [hwl, hwe] at c1
  have e0 : ((n :: a :: b :: c :: r).map D.str)[0]? = some (.str n) := rfl
  have e1 : ([x, y, z].map (D.int .i64))[0]? = some (.int .i64 x) := rfl
  have e2 : ([x, y, z].map (D.int .i64))[1]? = some (.int .i64 y) := rfl
  have e3 : ([x, y, z].map (D.int .i64))[2]? = some (.int .i64 z) := rfl
  (conv => whnf)
  repeat' (first | ((fail_if_success (with_reducible apply RegD.id)); (refine stg_ ?_)) | (refine cla_ (c1) ?_) | (refine cla_ (c2) ?_) | (refine br_ (fun hbr => ?_) (fun hbr => ?_)))
  all_goals try (exfalso; omega)
  all_goals try (exfalso; simp_all; done)
  refine RegD.cutT [(0, .d (.str s)), (2, .pB 1 [] 0), (4, .own 2 0 (r.length + 4)), (7, .pB 4 [] 0)] [.gone, .box (.st [.d (.str .empty), .d (.int .i64 0), .d (.int .i64 0), .d (.int .i64 0), .nils]), .arr 1 ((n :: a :: b :: c :: r).map D.str) true, .gone, .box (.st [.d (.str n), .d (.int .i64 x), .d (.int .i64 y), .d (.int .i64 z), .nils])] trRA (by kernel_rfl) ?_ ?_
  · (conv => whnf)
    repeat' (first | (refine stg_ ?_) | (refine And.intro ?_ ?_ <;> (conv => whnf)))
    all_goals (refine Weak.cov ?_ ?_ ?_; (focus (repeat' (first | exact trivial | with_reducible rfl | (refine ⟨?_, ?_⟩) | rfl))); (focus (repeat' (first | exact trivial | with_reducible rfl | (refine ⟨?_, ?_⟩) | rfl))); (focus rfl))
  have hLr : (r.map D.str).length = r.length := List.length_map _
  (conv => whnf)
  (repeat (refine stg_ ?_))
  refine LoopW.go (α := Nat × List TAxisPoint) (fun p => [(0, .d (.str s)), (2, .pB 1 [] 0), (7, .pB 4 [] 0), (41, .own 2 4 r.length), (42, .d (.int .i64 r.length)), (43, .d (.int .i64 p.1))]) (fun p => [.gone, .box (.st [.d (.str .empty), .d (.int .i64 0), .d (.int .i64 0), .d (.int .i64 0), .nils]), .arr 1 ((n :: a :: b :: c :: r).map D.str) true, .gone, .box (.st [.d (.str n), .d (.int .i64 x), .d (.int .i64 y), .d (.int .i64 z), .own 5 0 p.2.length]), .arr 2 (p.2.map TAxisPoint.D) true])
    (fun p => p.1 ≤ r.length ∧ ptsL (r.take p.1) = some p.2) (fun p => r.length - p.1) (0, []) (Weak.trans (Weak.adoptL 4 [.d (.str n), .d (.int .i64 x), .d (.int .i64 y), .d (.int .i64 z)] rfl rfl 2 true) (Weak.cov ⟨rfl, rfl, rfl, ?_, ?_, rfl, trivial⟩ ⟨trivial, rfl, rfl, trivial, rfl, rfl, trivial⟩ rfl)) ⟨by simp, rfl⟩ ?_
  · rfl
  · rfl
  rintro ⟨k, ps⟩ ⟨k1, k2⟩
  dsimp only at k1 k2 ⊢
  have hpl := ptsL_len k2
  rw [List.length_take] at hpl
  have hd : (ps.map TAxisPoint.D).length = ps.length := List.length_map _
  (conv => whnf)
  (repeat (refine stg_ ?_))
  (refine br_ (fun h2 => ?_) (fun h2 => ?_))
  · obtain ⟨w, hw'⟩ := at_lt' (xs := r) (k := k) (by omega)
    have he : ((n :: a :: b :: c :: r).map D.str)[k + 4]? = some (.str w) := by
      show (r.map D.str)[k]? = _
      rw [List.getElem?_map, hw']; rfl
    have hwm : w ∈ spB 32 s := by rw [← hws, hwe]; simp [List.mem_of_getElem? hw']
    have hwz := spB_le 32 s w hwm
    have c3 := Split_v w ⟨#[58]⟩ 58 rfl (by omega) rfl (by rw [← bTl, ← bTl]; rfl)
    have hwc := spB_len 58 w
    have hwc2 := List.count_le_length (a := (58 : UInt8)) (l := w.data.toList)
    have hwl2 : w.data.toList.length = w.size := Array.length_toList
    obtain ⟨us, hus⟩ : ∃ us, us = spB 58 w := ⟨_, rfl⟩
    rw [← hus] at c3 hwc
    have hptO : ptO w = match rnL us with
      | some [p, q] => some ⟨p, q⟩
      | _ => none := by rw [hus]; rfl
    have hbad : ptO w = none → raA s = none := fun h => by rw [hraA, haP, ptsL_bad hw' h]
    have hLu : (us.map D.str).length = us.length := List.length_map _
    rcases hq : rnL us with _ | q
    · have c4 := readNumbers_v us (by omega) _ _ (fun ns h => by rw [hq] at h; cases h) (fun _ => ⟨rfl, rfl⟩)
      obtain ⟨rfl, rfl⟩ := hR.no (hbad (by rw [hptO, hq]))
      (repeat' (first | (refine stg_ ?_) | (refine cla_ (c3) ?_) | (refine cla_ (c4) ?_) | (refine br_ (fun hbr => ?_) (fun hbr => ?_))))
      all_goals first | (exfalso; simp_all; done) | (refine ⟨⟨[], trivial, by decide, ⟨_, rfl, rfl, ?_⟩⟩⟩; (repeat' (first | ((conv => whnf); done) | ((conv => whnf); (first | (exact ⟨by decide, rfl⟩) | (exact ⟨rfl, rfl⟩) | (refine ⟨_, _, rfl, ?_, ?_⟩) | (refine ⟨_, rfl, ?_⟩) | rfl)))))
    have c4 := readNumbers_v us (by omega) (.tup [.own 1 0 q.length, .d (.bool true)]) [.arr 1 (q.map (D.int .i64)) true] (fun ns h => by rw [hq] at h; cases h; exact ⟨rfl, rfl⟩) (fun h => by rw [hq] at h; cases h)
    by_cases h2l : q.length = 2
    · obtain ⟨p1, p2, rfl⟩ : ∃ p1 p2, q = [p1, p2] := by
        match q, h2l with
        | [p1, p2], _ => exact ⟨p1, p2, rfl⟩
      have f1 : ([p1, p2].map (D.int .i64))[0]? = some (.int .i64 p1) := rfl
      have f2 : ([p1, p2].map (D.int .i64))[1]? = some (.int .i64 p2) := rfl
      repeat' (first | ((fail_if_success (with_reducible apply RegD.id)); (refine stg_ ?_)) | (refine cla_ (c3) ?_) | (refine cla_ (c4) ?_) | (refine br_ (fun hbr => ?_) (fun hbr => ?_)))
      (repeat (refine stg_ ?_))
      have hpo : ptO w = some ⟨p1, p2⟩ := by rw [hptO, hq]
      refine NextW.go (k + 1, ps ++ [⟨p1, p2⟩]) (Weak.cov ⟨rfl, rfl, rfl, rfl, rfl, rfl, trivial⟩ ⟨trivial, rfl, rfl, trivial, ?_, ?_, trivial⟩ rfl) ⟨by dsimp only; omega, by dsimp only; rw [take_snoc_get hw']; exact ptsL_snoc k2 hpo⟩ (by dsimp only; omega)
      · show _ = Blk.box (.st [_, _, _, _, .own 5 0 (ps ++ [_]).length])
        rw [List.length_append]; rfl
      · show _ = Blk.arr 2 ((ps ++ [_]).map TAxisPoint.D) true
        rw [List.map_append, ← hd, List.take_length]; rfl
    · have hno : ptO w = none := by
        rw [hptO, hq]
        match q, h2l with
        | [], _ => rfl
        | [_], _ => rfl
        | [_, _], h => exact absurd rfl h
        | _ :: _ :: _ :: _, _ => rfl
      obtain ⟨rfl, rfl⟩ := hR.no (hbad hno)
      have hLq : (q.map (D.int .i64)).length = q.length := List.length_map _
      (repeat' (first | (refine stg_ ?_) | (refine cla_ (c3) ?_) | (refine cla_ (c4) ?_) | (refine br_ (fun hbr => ?_) (fun hbr => ?_))))
      all_goals first | (exfalso; omega) | (refine ⟨⟨[], trivial, by decide, ⟨_, rfl, rfl, ?_⟩⟩⟩; (repeat' (first | ((conv => whnf); done) | ((conv => whnf); (first | (exact ⟨by decide, rfl⟩) | (exact ⟨rfl, rfl⟩) | (refine ⟨_, _, rfl, ?_, ?_⟩) | (refine ⟨_, rfl, ?_⟩) | rfl)))))
  · have hk : k = r.length := by omega
    rw [hk, List.take_length] at k2
    rw [k2] at haP
    have haP' : aP ws = some ⟨n, x, y, z, ps⟩ := haP
    have c5 := AxisText_v ⟨n, x, y, z, ps⟩
    have htx := ra_text (by rw [← hws]; exact haP')
    have hne := ra_ne (by rw [← hws]; exact haP')
    cases hax : axB ⟨n, x, y, z, ps⟩
    · obtain ⟨rfl, rfl⟩ := hR.no (by rw [hraA, haP']; show (if axB _ = true then _ else _) = _; rw [hax]; rfl)
      rw [hax, if_neg (by decide)] at c5
      (repeat' (first | (refine stg_ ?_) | (refine cla_ (c5) ?_) | (refine br_ (fun hbr => ?_) (fun hbr => ?_))))
      all_goals first | (exfalso; exact hne (toL_inj hbr).symm) | (refine ⟨⟨[], trivial, by decide, ⟨_, rfl, rfl, ?_⟩⟩⟩; (repeat' (first | ((conv => whnf); done) | ((conv => whnf); (first | (exact ⟨by decide, rfl⟩) | (exact ⟨rfl, rfl⟩) | (refine ⟨_, _, rfl, ?_, ?_⟩) | (refine ⟨_, rfl, ?_⟩) | rfl)))))
    · obtain ⟨rfl, rfl⟩ := hR.own ⟨n, x, y, z, ps⟩ (by rw [hraA, haP']; show (if axB _ = true then _ else _) = _; rw [hax]; rfl)
      rw [hax, if_pos rfl, htx] at c5
      (repeat' (first | (refine stg_ ?_) | (refine cla_ (c5) ?_) | (refine br_ (fun hbr => ?_) (fun hbr => ?_))))
      all_goals first | (exfalso; exact hbr trivial) | (refine ⟨⟨[some 5], ⟨by decide, rfl, trivial, trivial⟩, by decide, ⟨_, rfl, rfl, ?_⟩⟩⟩; (repeat' (first | ((conv => whnf); done) | ((conv => whnf); (first | (exact ⟨by decide, rfl⟩) | (exact ⟨rfl, rfl⟩) | (refine ⟨_, _, rfl, ?_, ?_⟩) | (refine ⟨_, rfl, ?_⟩) | rfl)))))
theorem slIndex_v (s sp : ByteArray) (c : UInt8) (hsp : sp = ⟨#[c]⟩) (hs : s.size ≤ 1048576) : PC Tryz.prog 178 [.d (.str s), .d (.str sp)] (.d (.int .i64 (Lib.indexByte s.data.toList c))) [] := by
  subst hsp
  refine PC.of Tryz.func178 rfl rfl ?_
  rintro w X args ⟨c1, cs, rfl, h1, c2, cs2, rfl, h2, rfl⟩
  obtain ⟨rfl, h3⟩ := rep_str.1 h1
  obtain ⟨rfl, h4⟩ := rep_str.1 h2
  refine (Tryz.stringslite_Index_one s c w).mono fun e w' ⟨r1, r2⟩ => ⟨_, r1, by rw [r2]; exact Ext.refl w, rep_int.2 ⟨rfl, ?_⟩⟩
  have e1 : IntKind.i64.min = -9223372036854775808 := rfl
  have e2 : IntKind.i64.max = 9223372036854775807 := rfl
  have hl : s.data.toList.length = s.size := Array.length_toList
  rcases idx_cases c s.data.toList with ⟨h5, _⟩ | ⟨a, b, e, _, h5⟩
  · rw [h5]; unfold inR; omega
  · have := congrArg List.length e
    rw [List.length_append, hl] at this
    rw [h5]; unfold inR; omega
theorem slCut_no (s sp : ByteArray) (c : UInt8) (hsp : sp = ⟨#[c]⟩) (hs : s.size ≤ 1048576) (h : c ∉ s.data.toList) : PC Tryz.prog 132 [.d (.str s), .d (.str sp)] (.tup [.d (.str s), .d (.str .empty), .d (.bool false)]) [] := by
  refine pc_intro ttOk (by kernel_rfl) Tryz.func132 rfl (by kernel_rfl) (by kernel_rfl) (by kernel_rfl) (fun hw => ?_)
  have c1 := slIndex_v s sp c hsp hs
  rcases idx_cases c s.data.toList with ⟨hi, _⟩ | ⟨a, b, e, _, _⟩
  rotate_left
  · exact absurd (by rw [e]; simp) h
  rw [hi] at c1
  (conv => whnf)
  (repeat' (first | (refine stg_ ?_) | (refine cla_ (c1) ?_) | (refine br_ (fun hbr => ?_) (fun hbr => ?_))))
  all_goals first | (exfalso; omega) | (refine RetOK.t rfl ?_; (repeat' (first | ((conv => whnf); done) | ((conv => whnf); (first | (exact ⟨by decide, rfl⟩) | (exact ⟨rfl, rfl⟩) | (refine ⟨_, _, rfl, ?_, ?_⟩) | (refine ⟨_, rfl, ?_⟩) | rfl)))); done)
theorem slCut_at (s sp : ByteArray) (c : UInt8) (hsp : sp = ⟨#[c]⟩) (hs : s.size ≤ 1048576) {a b : List UInt8} (e : s.data.toList = a ++ c :: b) (ha : c ∉ a) :
    PC Tryz.prog 132 [.d (.str s), .d (.str sp)] (.tup [.d (.str (mkS a)), .d (.str (mkS b)), .d (.bool true)]) [] := by
  refine pc_intro ttOk (by kernel_rfl) Tryz.func132 rfl (by kernel_rfl) (by kernel_rfl) (by kernel_rfl) (fun hw => ?_)
  have c1 := slIndex_v s sp c hsp hs
  have hl : s.data.toList.length = s.size := Array.length_toList
  have hlen := congrArg List.length e
  rw [List.length_append, List.length_cons, hl] at hlen
  have hp1 : sp.size = 1 := by rw [hsp]; rfl
  rcases idx_cases c s.data.toList with ⟨_, hno⟩ | ⟨a', b', e', ha', hi⟩
  · exact absurd (by rw [e]; simp) hno
  have hab : a' = a := by
    rw [e] at e'
    rcases Nat.lt_trichotomy a.length a'.length with h | h | h
    · exfalso
      have h1 := congrArg (fun l => l[a.length]?) e'
      rw [List.getElem?_append_right (Nat.le_refl _), List.getElem?_append_left h, Nat.sub_self] at h1
      exact ha' (List.mem_of_getElem? (by rw [← h1]; rfl))
    · exact (List.append_inj e' h).1.symm
    · exfalso
      have h1 := congrArg (fun l => l[a'.length]?) e'
      rw [List.getElem?_append_left h, List.getElem?_append_right (Nat.le_refl _), Nat.sub_self] at h1
      exact ha (List.mem_of_getElem? (by rw [h1]; rfl))
  rw [hi, hab] at c1
  (conv => whnf)
  (repeat' (first | (refine stg_ ?_) | (refine cla_ (c1) ?_) | (refine br_ (fun hbr => ?_) (fun hbr => ?_))))
  all_goals try (exfalso; omega)
  have hx1 : s.extract 0 ((a.length : Nat) : Int).toNat = mkS a := bx_take e
  have hx2 : s.extract (((a.length : Nat) : Int) + ((sp.size : Nat) : Int)).toNat s.size = mkS b := by
    refine bx_drop (a := a ++ [c]) (by rw [e]; simp) ?_
    rw [List.length_append, List.length_singleton]; omega
  rw [← hx1, ← hx2]
  refine RetOK.t rfl ?_
  (repeat' (first | ((conv => whnf); done) | ((conv => whnf); (first | (exact ⟨by decide, rfl⟩) | (exact ⟨rfl, rfl⟩) | (refine ⟨_, _, rfl, ?_, ?_⟩) | (refine ⟨_, rfl, ?_⟩) | rfl))))
theorem Cut_no (s sp : ByteArray) (c : UInt8) (hsp : sp = ⟨#[c]⟩) (hs : s.size ≤ 1048576) (h : c ∉ s.data.toList) : PC Tryz.prog 71 [.d (.str s), .d (.str sp)] (.tup [.d (.str s), .d (.str .empty), .d (.bool false)]) [] := by
  refine pc_intro ttOk (by kernel_rfl) Tryz.func71 rfl (by kernel_rfl) (by kernel_rfl) (by kernel_rfl) (fun hw => ?_)
  have c1 := slCut_no s sp c hsp hs h
  (conv => whnf)
  (repeat' (first | (refine stg_ ?_) | (refine cla_ (c1) ?_) | (refine br_ (fun hbr => ?_) (fun hbr => ?_))))
  all_goals (refine RetOK.t rfl ?_; (repeat' (first | ((conv => whnf); done) | ((conv => whnf); (first | (exact ⟨by decide, rfl⟩) | (exact ⟨rfl, rfl⟩) | (refine ⟨_, _, rfl, ?_, ?_⟩) | (refine ⟨_, rfl, ?_⟩) | rfl)))))
theorem Cut_at (s sp : ByteArray) (c : UInt8) (hsp : sp = ⟨#[c]⟩) (hs : s.size ≤ 1048576) {a b : List UInt8} (e : s.data.toList = a ++ c :: b) (ha : c ∉ a) :
    PC Tryz.prog 71 [.d (.str s), .d (.str sp)] (.tup [.d (.str (mkS a)), .d (.str (mkS b)), .d (.bool true)]) [] := by
  refine pc_intro ttOk (by kernel_rfl) Tryz.func71 rfl (by kernel_rfl) (by kernel_rfl) (by kernel_rfl) (fun hw => ?_)
  have c1 := slCut_at s sp c hsp hs e ha
  (conv => whnf)
  (repeat' (first | (refine stg_ ?_) | (refine cla_ (c1) ?_) | (refine br_ (fun hbr => ?_) (fun hbr => ?_))))
  all_goals (refine RetOK.t rfl ?_; (repeat' (first | ((conv => whnf); done) | ((conv => whnf); (first | (exact ⟨by decide, rfl⟩) | (exact ⟨rfl, rfl⟩) | (refine ⟨_, _, rfl, ?_, ?_⟩) | (refine ⟨_, rfl, ?_⟩) | rfl)))))
theorem cut_cases (c : UInt8) (s : ByteArray) : c ∉ s.data.toList ∨ ∃ a b, s.data.toList = a ++ c :: b ∧ c ∉ a := by
  rcases idx_cases c s.data.toList with ⟨_, h⟩ | ⟨a, b, e, h, _⟩
  · exact .inl h
  · exact .inr ⟨a, b, e, h⟩
set_option maxHeartbeats 4000000 in
theorem ReadPt_v (s : ByteArray) (hs : s.size ≤ 1048576) : PC Tryz.prog 134 [.d (.str s)] (.tup [.d ((ptR s).getD ⟨0, 0⟩).D, .d (.bool (ptR s).isSome)]) [] := by
  refine pc_intro ttOk (by kernel_rfl) Tryz.func134 rfl (by kernel_rfl) (by kernel_rfl) (by kernel_rfl) (fun hw => ?_)
  rcases cut_cases 44 s with h | ⟨a, b, e, ha⟩
  · have c1 := Cut_no s ⟨#[44]⟩ 44 rfl hs h
    rw [ptR_no h]
    (conv => whnf)
    (repeat' (first | (refine stg_ ?_) | (refine cla_ (c1) ?_) | (refine br_ (fun hbr => ?_) (fun hbr => ?_))))
    all_goals (refine RetOK.t rfl ?_; (repeat' (first | ((conv => whnf); done) | ((conv => whnf); (first | (exact ⟨by decide, rfl⟩) | (exact ⟨rfl, rfl⟩) | (refine ⟨_, _, rfl, ?_, ?_⟩) | (refine ⟨_, rfl, ?_⟩) | (refine ⟨rfl, ?_⟩) | rfl)))))
  · have c1 := Cut_at s ⟨#[44]⟩ 44 rfl hs e ha
    have c2 := ReadDecimal_v (mkS a)
    have c3 := ReadDecimal_v (mkS b)
    rw [mkS_toList] at c2 c3
    rw [ptR_at e ha]
    generalize rdN a = oa at c2 ⊢
    generalize rdN b = ob at c3 ⊢
    rcases oa with _ | x
    · have c2 : PC Tryz.prog 133 [.d (.str (mkS a))] (.tup [.d (.int .i64 0), .d (.bool false)]) [] := c2
      (conv => whnf)
      (repeat' (first | (refine stg_ ?_) | (refine cla_ (c1) ?_) | (refine cla_ (c2) ?_) | (refine br_ (fun hbr => ?_) (fun hbr => ?_))))
      all_goals (refine RetOK.t rfl ?_; (repeat' (first | ((conv => whnf); done) | ((conv => whnf); (first | (exact ⟨by decide, rfl⟩) | (exact ⟨rfl, rfl⟩) | (refine ⟨_, _, rfl, ?_, ?_⟩) | (refine ⟨_, rfl, ?_⟩) | (refine ⟨rfl, ?_⟩) | rfl)))))
    have c2 : PC Tryz.prog 133 [.d (.str (mkS a))] (.tup [.d (.int .i64 x), .d (.bool true)]) [] := c2
    rcases ob with _ | y
    · have c3 : PC Tryz.prog 133 [.d (.str (mkS b))] (.tup [.d (.int .i64 0), .d (.bool false)]) [] := c3
      (conv => whnf)
      (repeat' (first | (refine stg_ ?_) | (refine cla_ (c1) ?_) | (refine cla_ (c2) ?_) | (refine cla_ (c3) ?_) | (refine br_ (fun hbr => ?_) (fun hbr => ?_))))
      all_goals (refine RetOK.t rfl ?_; (repeat' (first | ((conv => whnf); done) | ((conv => whnf); (first | (exact ⟨by decide, rfl⟩) | (exact ⟨rfl, rfl⟩) | (refine ⟨_, _, rfl, ?_, ?_⟩) | (refine ⟨_, rfl, ?_⟩) | (refine ⟨rfl, ?_⟩) | rfl)))))
    have c3 : PC Tryz.prog 133 [.d (.str (mkS b))] (.tup [.d (.int .i64 y), .d (.bool true)]) [] := c3
    have c4 := ValidPt_v ⟨x, y⟩
    dsimp only
    cases hp : pntB ⟨x, y⟩ <;> rw [hp] at c4
    · (conv => whnf)
      (repeat' (first | (refine stg_ ?_) | (refine cla_ (c1) ?_) | (refine cla_ (c2) ?_) | (refine cla_ (c3) ?_) | (refine cla_ (c4) ?_) | (refine br_ (fun hbr => ?_) (fun hbr => ?_))))
      all_goals (refine RetOK.t rfl ?_; (repeat' (first | ((conv => whnf); done) | ((conv => whnf); (first | (exact ⟨by decide, rfl⟩) | (exact ⟨rfl, rfl⟩) | (refine ⟨_, _, rfl, ?_, ?_⟩) | (refine ⟨_, rfl, ?_⟩) | (refine ⟨rfl, ?_⟩) | rfl)))))
    · (conv => whnf)
      (repeat' (first | (refine stg_ ?_) | (refine cla_ (c1) ?_) | (refine cla_ (c2) ?_) | (refine cla_ (c3) ?_) | (refine cla_ (c4) ?_) | (refine br_ (fun hbr => ?_) (fun hbr => ?_))))
      all_goals (refine RetOK.t rfl ?_; (repeat' (first | ((conv => whnf); done) | ((conv => whnf); (first | (exact ⟨by decide, rfl⟩) | (exact ⟨rfl, rfl⟩) | (refine ⟨_, _, rfl, ?_, ?_⟩) | (refine ⟨_, rfl, ?_⟩) | (refine ⟨rfl, ?_⟩) | rfl)))))
def trD6 : OT := .q 0 (.q 1 (.q 2 (.q 3 (.q 4 (.q 5 (.alt 6 (.alt 7 (.alt 8 .done .nil) .nil) (.alt 7 (.alt 6 (.alt 8 .done .nil) .nil) .nil)))))))
def trD15 : OT := .q 0 (.q 1 (.q 2 (.q 5 (.alt 3 (.alt 4 (.q 6 (.q 7 (.q 10 (.alt 8 (.alt 9 (.alt 11 (.q 12 (.alt 13 .done .nil)) .nil) .nil) .nil)))) (.alt 6 (.alt 4 (.q 7 (.q 10 (.alt 8 (.alt 9 (.alt 11 (.q 12 (.alt 13 .done .nil)) .nil) .nil) .nil))) (.alt 7 (.alt 4 (.q 10 (.alt 8 (.alt 9 (.alt 11 (.q 12 (.alt 13 .done .nil)) .nil) .nil) .nil)) (.alt 8 (.alt 4 (.q 10 (.alt 9 (.alt 11 (.q 12 (.alt 13 .done .nil)) .nil) .nil)) .nil) .nil)) .nil)) (.alt 7 (.alt 4 (.q 6 (.q 10 (.alt 8 (.alt 9 (.alt 11 (.q 12 (.alt 13 .done .nil)) .nil) .nil) .nil))) (.alt 6 (.alt 4 (.q 10 (.alt 8 (.alt 9 (.alt 11 (.q 12 (.alt 13 .done .nil)) .nil) .nil) .nil)) (.alt 8 (.alt 4 (.q 10 (.alt 9 (.alt 11 (.q 12 (.alt 13 .done .nil)) .nil) .nil)) .nil) .nil)) (.alt 8 (.alt 4 (.q 6 (.q 10 (.alt 9 (.alt 11 (.q 12 (.alt 13 .done .nil)) .nil) .nil))) (.alt 6 (.alt 4 (.q 10 (.alt 9 (.alt 11 (.q 12 (.alt 13 .done .nil)) .nil) .nil)) .nil) .nil)) .nil))) .nil))) (.alt 6 (.alt 3 (.alt 4 (.q 7 (.q 10 (.alt 8 (.alt 9 (.alt 11 (.q 12 (.alt 13 .done .nil)) .nil) .nil) .nil))) (.alt 7 (.alt 4 (.q 10 (.alt 8 (.alt 9 (.alt 11 (.q 12 (.alt 13 .done .nil)) .nil) .nil) .nil)) (.alt 8 (.alt 4 (.q 10 (.alt 9 (.alt 11 (.q 12 (.alt 13 .done .nil)) .nil) .nil)) .nil) .nil)) .nil)) (.alt 7 (.alt 3 (.alt 4 (.q 10 (.alt 8 (.alt 9 (.alt 11 (.q 12 (.alt 13 .done .nil)) .nil) .nil) .nil)) (.alt 8 (.alt 4 (.q 10 (.alt 9 (.alt 11 (.q 12 (.alt 13 .done .nil)) .nil) .nil)) .nil) .nil)) (.alt 8 (.alt 3 (.alt 4 (.q 10 (.alt 9 (.alt 11 (.q 12 (.alt 13 .done .nil)) .nil) .nil)) .nil) .nil) .nil)) .nil)) (.alt 7 (.alt 3 (.alt 4 (.q 6 (.q 10 (.alt 8 (.alt 9 (.alt 11 (.q 12 (.alt 13 .done .nil)) .nil) .nil) .nil))) (.alt 6 (.alt 4 (.q 10 (.alt 8 (.alt 9 (.alt 11 (.q 12 (.alt 13 .done .nil)) .nil) .nil) .nil)) (.alt 8 (.alt 4 (.q 10 (.alt 9 (.alt 11 (.q 12 (.alt 13 .done .nil)) .nil) .nil)) .nil) .nil)) (.alt 8 (.alt 4 (.q 6 (.q 10 (.alt 9 (.alt 11 (.q 12 (.alt 13 .done .nil)) .nil) .nil))) (.alt 6 (.alt 4 (.q 10 (.alt 9 (.alt 11 (.q 12 (.alt 13 .done .nil)) .nil) .nil)) .nil) .nil)) .nil))) (.alt 6 (.alt 3 (.alt 4 (.q 10 (.alt 8 (.alt 9 (.alt 11 (.q 12 (.alt 13 .done .nil)) .nil) .nil) .nil)) (.alt 8 (.alt 4 (.q 10 (.alt 9 (.alt 11 (.q 12 (.alt 13 .done .nil)) .nil) .nil)) .nil) .nil)) (.alt 8 (.alt 3 (.alt 4 (.q 10 (.alt 9 (.alt 11 (.q 12 (.alt 13 .done .nil)) .nil) .nil)) .nil) .nil) .nil)) (.alt 8 (.alt 3 (.alt 4 (.q 6 (.q 10 (.alt 9 (.alt 11 (.q 12 (.alt 13 .done .nil)) .nil) .nil))) (.alt 6 (.alt 4 (.q 10 (.alt 9 (.alt 11 (.q 12 (.alt 13 .done .nil)) .nil) .nil)) .nil) .nil)) (.alt 6 (.alt 3 (.alt 4 (.q 10 (.alt 9 (.alt 11 (.q 12 (.alt 13 .done .nil)) .nil) .nil)) .nil) .nil) .nil)) .nil))) .nil))))))
set_option maxRecDepth 100000 in
set_option maxHeartbeats 8000000 in
theorem readDelta_v (ws : List ByteArray) (hsz : ∀ w ∈ ws, w.size ≤ 1048576) (hn : ws.length ≤ 1048577) (v : V) (bs : List Blk)
    (h0 : ∀ d, dlR ws = some d → v = .tup [.st [.d (.int .i64 d.fGlyph), .own 1 0 d.fKnots.length, .own 2 0 d.fMoves.length, .d (.int .i64 d.fAdvance)], .d (.bool true)] ∧ bs = [.arr 1 (d.fKnots.map (D.int .i64)) true, .arr 2 (d.fMoves.map TPt.D) true])
    (h1 : dlR ws = none → v = .tup [.st [.d (.int .i64 0), .nils, .nils, .d (.int .i64 0)], .d (.bool false)] ∧ bs = []) : PC Tryz.prog 74 [.d (.lst (ws.map D.str))] v bs := by
  refine pc_intro ttOk (by kernel_rfl) Tryz.func74 rfl (by kernel_rfl) (by kernel_rfl) (by kernel_rfl) (fun hw => ?_)
  have hL : (ws.map D.str).length = ws.length := List.length_map _
  by_cases h2 : ws.length < 2
  · have hno : dlR ws = none := by
      match ws, h2 with
      | [], _ => rfl
      | [_], _ => rfl
    obtain ⟨rfl, rfl⟩ := h1 hno
    (conv => whnf)
    (repeat' (first | (refine stg_ ?_) | fail | (refine br_ (fun hbr => ?_) (fun hbr => ?_))))
    all_goals first | (exfalso; omega) | (refine RetOK.t rfl ?_; (repeat' (first | ((conv => whnf); done) | ((conv => whnf); (first | (exact ⟨by decide, rfl⟩) | (exact ⟨rfl, rfl⟩) | (refine ⟨_, _, rfl, ?_, ?_⟩) | (refine ⟨_, rfl, ?_⟩) | rfl)))); done)
  obtain ⟨g, a, r, rfl⟩ : ∃ g a r, ws = g :: a :: r := by
    match ws, h2 with
    | g :: a :: r, _ => exact ⟨g, a, r, rfl⟩
    | [], h => exact absurd (by simp) h
    | [_], h => exact absurd (by simp) h
  have hwl : (g :: a :: r).length = r.length + 2 := rfl
  have hdl : dlR (g :: a :: r) = match rnL [g, a] with
    | some [x, y] => match mapO knR r with
      | some ks => some ⟨x, ks.map Prod.fst, ks.map Prod.snd, y⟩
      | none => none
    | _ => none := rfl
  rcases hq : rnL [g, a] with _ | q
  · have c1 := readNumbers_v [g, a] (by simp) _ _ (fun ns h => by rw [hq] at h; cases h) (fun _ => ⟨rfl, rfl⟩)
    obtain ⟨rfl, rfl⟩ := h1 (by rw [hdl, hq])
    (conv => whnf)
    (repeat' (first | (refine stg_ ?_) | (refine cla_ (c1) ?_) | (refine br_ (fun hbr => ?_) (fun hbr => ?_))))
    all_goals first | (exfalso; simp only [List.length_map, List.length_cons] at *; omega) | (refine RetOK.t rfl ?_; (repeat' (first | ((conv => whnf); done) | ((conv => whnf); (first | (exact ⟨by decide, rfl⟩) | (exact ⟨rfl, rfl⟩) | (refine ⟨_, _, rfl, ?_, ?_⟩) | (refine ⟨_, rfl, ?_⟩) | rfl)))); done)
  obtain ⟨x, y, rfl⟩ : ∃ x y, q = [x, y] := by
    have := rnL_len hq
    match q, this with
    | [x, y], _ => exact ⟨x, y, rfl⟩
  have c1 := readNumbers_v [g, a] (by simp) (.tup [.own 1 0 2, .d (.bool true)]) [.arr 1 ([x, y].map (D.int .i64)) true] (fun ns h => by rw [hq] at h; cases h; exact ⟨rfl, rfl⟩) (fun h => by rw [hq] at h; cases h)
  rw [hq] at hdl
  have e0 : ([x, y].map (D.int .i64))[0]? = some (.int .i64 x) := rfl
  have e1 : ([x, y].map (D.int .i64))[1]? = some (.int .i64 y) := rfl
  have hLr : (r.map D.str).length = r.length := List.length_map _
  (conv => whnf)
  repeat' (first | ((fail_if_success (with_reducible apply RegD.id)); (refine stg_ ?_)) | (refine cla_ (c1) ?_) | (refine br_ (fun hbr => ?_) (fun hbr => ?_)))
  all_goals try (exfalso; simp only [List.length_map, List.length_cons] at *; omega)
  all_goals try (exfalso; simp_all; done)
  refine RegD.cutT [(2, .pB 1 [] 0), (0, .d (.lst ((g :: a :: r).map D.str))), (6, .pB 3 [] 0)] [.gone, .box (.st [.d (.int .i64 0), .nils, .nils, .d (.int .i64 0)]), .gone, .box (.st [.d (.int .i64 x), .nils, .nils, .d (.int .i64 y)])] trD6 (by kernel_rfl) ?_ ?_
  · (conv => whnf)
    repeat' (first | (refine stg_ ?_) | (refine And.intro ?_ ?_ <;> (conv => whnf)))
    all_goals (refine Weak.cov ?_ ?_ ?_; (focus (repeat' (first | exact trivial | with_reducible rfl | (refine ⟨?_, ?_⟩) | rfl))); (focus (repeat' (first | exact trivial | with_reducible rfl | (refine ⟨?_, ?_⟩) | rfl))); (focus rfl))
  (conv => whnf)
  (repeat (refine stg_ ?_))
  refine LoopW.go (α := Nat × List (Int × TPt)) (fun p => [(2, .pB 1 [] 0), (6, .pB 3 [] 0), (37, .d (.lst (r.map D.str))), (38, .d (.int .i64 r.length)), (39, .d (.int .i64 p.1))]) (fun p => [.gone, .box (.st [.d (.int .i64 0), .nils, .nils, .d (.int .i64 0)]), .gone, .box (.st [.d (.int .i64 x), .own 4 0 p.2.length, .own 5 0 p.2.length, .d (.int .i64 y)]), .arr 1 ((p.2.map Prod.fst).map (D.int .i64)) true, .arr 2 ((p.2.map Prod.snd).map TPt.D) true])
    (fun p => p.1 ≤ r.length ∧ mapO knR (r.take p.1) = some p.2) (fun p => r.length - p.1) (0, []) (Weak.trans (Weak.adoptM 3 [.d (.int .i64 x)] [.nils, .d (.int .i64 y)] rfl rfl 1 true) (Weak.trans (Weak.adoptM 3 [.d (.int .i64 x), .own 4 0 0] [.d (.int .i64 y)] rfl rfl 2 true) (Weak.cov ⟨rfl, rfl, ?_, ?_, rfl, trivial⟩ ⟨trivial, rfl, trivial, rfl, rfl, rfl, trivial⟩ rfl))) ⟨by simp, rfl⟩ ?_
  · show V.d (D.lst (List.take _ (r.map D.str))) = _
    rw [List.take_of_length_le (by simp)]
  · show V.d (D.int .i64 _) = _
    congr 2
    simp
  rintro ⟨k, ks⟩ ⟨k1, k2⟩
  dsimp only at k1 k2 ⊢
  have hkl := mapO_len k2
  rw [List.length_take] at hkl
  have hd1 : ((ks.map Prod.fst).map (D.int .i64)).length = ks.length := by simp
  have hd2 : ((ks.map Prod.snd).map TPt.D).length = ks.length := by simp
  (conv => whnf)
  (repeat (refine stg_ ?_))
  (refine br_ (fun h3 => ?_) (fun h3 => ?_))
  · obtain ⟨w, hw'⟩ := at_lt' (xs := r) (k := k) (by omega)
    have he : (r.map D.str)[k]? = some (.str w) := by rw [List.getElem?_map, hw']; rfl
    have hwz := hsz w (by simp [List.mem_of_getElem? hw'])
    have c2 := ReadDecimal_v w
    have hbad : knR w = none → dlR (g :: a :: r) = none := fun h => by rw [hdl, mapO_bad hw' h]
    rcases cut_cases 58 w with h | ⟨u, z, e, hu⟩
    · have c3 := Cut_no w ⟨#[58]⟩ 58 rfl hwz h
      have c4 := ReadPt_v .empty (by decide)
      rw [ptR_no (by decide)] at c4
      have c4 : PC Tryz.prog 134 [.d (.str .empty)] (.tup [.d (TPt.D ⟨0, 0⟩), .d (.bool false)]) [] := c4
      obtain ⟨rfl, rfl⟩ := h1 (hbad (knR_no h))
      generalize (rdN w.data.toList).getD 0 = ov at c2
      generalize (rdN w.data.toList).isSome = oi at c2
      (repeat' (first | (refine stg_ ?_) | (refine cla_ (c2) ?_) | (refine cla_ (c3) ?_) | (refine cla_ (c4) ?_) | (refine br_ (fun hbr => ?_) (fun hbr => ?_))))
      all_goals first | (exfalso; simp_all; done) | (refine RetOK.t rfl ?_; (repeat' (first | ((conv => whnf); done) | ((conv => whnf); (first | (exact ⟨by decide, rfl⟩) | (exact ⟨rfl, rfl⟩) | (refine ⟨_, _, rfl, ?_, ?_⟩) | (refine ⟨_, rfl, ?_⟩) | rfl)))); done)
    · have c3 := Cut_at w ⟨#[58]⟩ 58 rfl hwz e hu
      have hlz := congrArg List.length e
      have hlw : w.data.toList.length = w.size := Array.length_toList
      rw [List.length_append, List.length_cons, hlw] at hlz
      have c4 := ReadDecimal_v (mkS u)
      have c5 := ReadPt_v (mkS z) (by rw [mkS_size]; omega)
      rw [mkS_toList] at c4
      have hkn := knR_at e hu
      generalize rdN u = ou at c4 hkn
      generalize ptR (mkS z) = oz at c5 hkn
      rcases ou with _ | n
      · obtain ⟨rfl, rfl⟩ := h1 (hbad hkn)
        have c4 : PC Tryz.prog 133 [.d (.str (mkS u))] (.tup [.d (.int .i64 0), .d (.bool false)]) [] := c4
        (repeat' (first | (refine stg_ ?_) | (refine cla_ (c3) ?_) | (refine cla_ (c4) ?_) | (refine cla_ (c5) ?_) | (refine br_ (fun hbr => ?_) (fun hbr => ?_))))
        all_goals first | (exfalso; simp_all; done) | (refine RetOK.t rfl ?_; (repeat' (first | ((conv => whnf); done) | ((conv => whnf); (first | (exact ⟨by decide, rfl⟩) | (exact ⟨rfl, rfl⟩) | (refine ⟨_, _, rfl, ?_, ?_⟩) | (refine ⟨_, rfl, ?_⟩) | rfl)))); done)
      have c4 : PC Tryz.prog 133 [.d (.str (mkS u))] (.tup [.d (.int .i64 n), .d (.bool true)]) [] := c4
      rcases oz with _ | q
      · obtain ⟨rfl, rfl⟩ := h1 (hbad hkn)
        have c5 : PC Tryz.prog 134 [.d (.str (mkS z))] (.tup [.d (TPt.D ⟨0, 0⟩), .d (.bool false)]) [] := c5
        (repeat' (first | (refine stg_ ?_) | (refine cla_ (c3) ?_) | (refine cla_ (c4) ?_) | (refine cla_ (c5) ?_) | (refine br_ (fun hbr => ?_) (fun hbr => ?_))))
        all_goals first | (exfalso; simp_all; done) | (refine RetOK.t rfl ?_; (repeat' (first | ((conv => whnf); done) | ((conv => whnf); (first | (exact ⟨by decide, rfl⟩) | (exact ⟨rfl, rfl⟩) | (refine ⟨_, _, rfl, ?_, ?_⟩) | (refine ⟨_, rfl, ?_⟩) | rfl)))); done)
      have c5 : PC Tryz.prog 134 [.d (.str (mkS z))] (.tup [.d q.D, .d (.bool true)]) [] := c5
      repeat' (first | ((fail_if_success (with_reducible apply RegD.id)); (refine stg_ ?_)) | (refine cla_ (c3) ?_) | (refine cla_ (c4) ?_) | (refine cla_ (c5) ?_) | (refine br_ (fun hbr => ?_) (fun hbr => ?_)))
      all_goals try (exfalso; simp_all; done)
      have hks : (ks ++ [(n, q)]).length = ks.length + 1 := by simp
      have ha1 : ((ks.map Prod.fst).map (D.int .i64)).take ks.length ++ [D.int .i64 n] = ((ks ++ [(n, q)]).map Prod.fst).map (D.int .i64) := by
        rw [List.take_of_length_le (by omega), List.map_append, List.map_append]; rfl
      have ha2 : ((ks.map Prod.snd).map TPt.D).take ks.length ++ [q.D] = ((ks ++ [(n, q)]).map Prod.snd).map TPt.D := by
        rw [List.take_of_length_le (by omega), List.map_append, List.map_append]; rfl
      refine RegD.cutT [(2, .pB 1 [] 0), (6, .pB 3 [] 0), (37, .d (.lst (r.map D.str))), (38, .d (.int .i64 r.length)), (39, .d (.int .i64 k))] [.gone, .box (.st [.d (.int .i64 0), .nils, .nils, .d (.int .i64 0)]), .gone, .box (.st [.d (.int .i64 x), .own 4 0 (ks ++ [(n, q)]).length, .own 5 0 (ks ++ [(n, q)]).length, .d (.int .i64 y)]), .arr 1 (((ks ++ [(n, q)]).map Prod.fst).map (D.int .i64)) true, .arr 2 (((ks ++ [(n, q)]).map Prod.snd).map TPt.D) true] trD15 (by kernel_rfl) ?_ ?_
      · (conv => whnf)
        rw [hks, ← ha1, ← ha2]
        repeat' (first | (refine stg_ ?_) | (refine And.intro ?_ ?_ <;> (conv => whnf)))
        all_goals (refine Weak.cov ?_ ?_ ?_; (focus (repeat' (first | exact trivial | with_reducible rfl | (refine ⟨?_, ?_⟩) | rfl))); (focus (repeat' (first | exact trivial | with_reducible rfl | (refine ⟨?_, ?_⟩) | rfl))); (focus rfl))
      (conv => whnf)
      (repeat (refine stg_ ?_))
      exact NextW.go (k + 1, ks ++ [(n, q)]) covT_ ⟨by dsimp only; omega, by dsimp only; rw [take_snoc_get hw']; exact mapO_snoc k2 hkn⟩ (by dsimp only; omega)
  · have hk : k = r.length := by omega
    rw [hk, List.take_length] at k2
    rw [k2] at hdl
    obtain ⟨rfl, rfl⟩ := h0 _ hdl
    (repeat' (first | (refine stg_ ?_) | fail | (refine br_ (fun hbr => ?_) (fun hbr => ?_))))
    refine ⟨⟨[some 4, some 5], ⟨by decide, ?_, trivial, by decide, ?_, trivial, trivial⟩, by decide, ⟨_, rfl, rfl, ?_⟩⟩⟩
    · rfl
    · rfl
    · dsimp only
      rw [List.length_map, List.length_map]
      (repeat' (first | ((conv => whnf); done) | ((conv => whnf); (first | (exact ⟨by decide, rfl⟩) | (exact ⟨rfl, rfl⟩) | (refine ⟨_, _, rfl, ?_, ?_⟩) | (refine ⟨_, rfl, ?_⟩) | rfl))))
open Go.RowKit Go.Shelf
section
variable {P : Program} {ρ : Ren}
theorem rowR_owns {w : World} {v : Value} {F : List Nat} {E : TypeId} {bs : List UInt8} (h : rowR w v F E bs) : w.ownsRowF 0 E 1 v (Lib.byteCells bs).length (Lib.byteCells bs) := by
  refine ⟨by simp, ?_⟩
  rcases h with ⟨rfl, rfl, _⟩ | ⟨r, cap, cur, fz, rfl, _, h1, h2, h3, h4, h5, h6, _⟩
  · exact .inl ⟨rfl, rfl⟩
  · exact .inr ⟨r, cap, cur, fz, by rw [Lib.byteCells_length], Nat.zero_le _, h1, by rw [Lib.byteCells_length]; omega, by rw [Lib.byteCells_length]; exact h3, h4, by omega, by rw [Lib.byteCells_length, Nat.mul_one]; exact h6⟩
theorem rowR_block {w : World} {v : Value} {F : List Nat} {E : TypeId} {bs : List UInt8} (h : rowR w v F E bs) : ∀ k, v.ownBlock = some k ↔ k ∈ F := by
  intro k
  rcases h with ⟨rfl, rfl, rfl⟩ | ⟨r, cap, cur, fz, rfl, rfl, _⟩
  · simp [Value.ownBlock]
  · simp [Value.ownBlock, eq_comm]
theorem rowR_of {w : World} {base : Nat} {v : Value} {E : TypeId} {bs : List UInt8} (h : w.ownsRowF base E 1 v bs.length (Lib.byteCells bs)) (hn : v = .slice none 0 0 ↔ bs = []) :
    ∃ F, rowR w v F E bs ∧ ∀ x ∈ F, base ≤ x := by
  rcases h.2 with ⟨rfl, h0⟩ | ⟨r, cap, cur, fz, rfl, h1, h2, h3, h4, h5, h6, h7⟩
  · exact ⟨[], .inl ⟨rfl, hn.1 rfl, rfl⟩, by simp⟩
  · refine ⟨[r], .inr ⟨r, cap, cur, fz, rfl, rfl, h2, by omega, h4, h5, by omega, by rw [Nat.mul_one] at h7; exact h7, ?_⟩, by simpa using h1⟩
    have hb : bs ≠ [] := fun q => by have := hn.2 q; cases this
    have := List.length_pos_iff.2 hb
    omega
theorem run_app_row (w : World) (t u ty e : TypeId) (i : TypeInfo) (ht : P.underlying t = some (.slice e)) (hu : P.underlying u = some .string) (hi : P.info? e = some i) (hz : i.zero = some (.int .u8 0)) (hsize : i.size = 1) (hby : i.bytes = 1)
    (v : Value) (F : List Nat) (bs : List UInt8) (h : rowR w v F e bs) (s : ByteArray) (hbytes : bs.length + s.size ≤ 140737488355328) :
    ∃ v' w' F', (Builtin.append_ #[t, u] ty #[v, .string s]).run P w = .ok v' w' ∧ rowR w' v' F' e (bs ++ s.data.toList) ∧ w.grownBy w' v.ownBlock ∧ ∀ x ∈ F', x ∈ F ∨ w.heap.size ≤ x := by
  have hss : s.data.toList.length = s.size := Array.length_toList
  have hcells : Lib.byteCells bs ++ Lib.strCells s = Lib.byteCells (bs ++ s.data.toList) := by simp [Lib.byteCells, Lib.strCells]
  rcases h with ⟨rfl, rfl, rfl⟩ | ⟨g, cap, cur, fz, rfl, rfl, hg, hfz, hnc, hcm, hcs, htake, hne⟩
  · obtain ⟨v', w', h1, h2, h3, h4⟩ := Lib.run_append_own_stringF (P := P) w w.heap.size t u ty e i ht hu hi hz hsize hby (.slice none 0 0) 0 [] ⟨rfl, .inl ⟨rfl, rfl⟩⟩ s (by unfold maxLen; simp at hbytes; omega) (by simpa using hbytes) (Nat.le_refl _)
    obtain ⟨F', k1, k2⟩ := rowR_of (bs := s.data.toList) (by rw [hss]; simpa [Lib.byteCells, Lib.strCells] using h2) (by
      rw [h4]
      constructor
      · rintro ⟨_, q⟩; exact List.eq_nil_of_length_eq_zero (by omega)
      · intro q; exact ⟨rfl, by rw [← hss, q]; rfl⟩)
    exact ⟨v', w', F', h1, by simpa using k1, h3, fun x hx => .inr (k2 x hx)⟩
  · have hlen : (bs ++ s.data.toList).length = bs.length + s.size := by rw [List.length_append, hss]
    have hlc : (Lib.byteCells (bs ++ s.data.toList)).length = bs.length + s.size := by rw [Lib.byteCells_length, hlen]
    by_cases hroom : bs.length + s.size ≤ cap
    · have hr := Lib.run_append_room_stringF (P := P) w t u ty e i ht hu hi hsize g bs.length cap cur fz hg hfz s hroom (by omega)
      refine ⟨_, _, [g], hr, .inr ⟨g, cap, _, fz, by rw [hlen], rfl, setRow_heap w g cur _ e _ hg, by omega, by omega, hcm, ?_, ?_, hne⟩, ⟨rfl, rfl, rfl, by simp, fun k _ hk => setRow_other' hk⟩, by simp⟩
      · simp only [List.size_toArray, List.length_append, List.length_take, List.length_drop, Array.length_toList, Lib.strCells_length]
        omega
      · have e1 : cur.toList.take bs.length = Lib.byteCells bs := htake
        rw [e1, hcells]
        show List.take _ _ = Lib.byteCells (bs ++ s.data.toList)
        rw [hlen, ← hlc]
        exact List.take_left
    · have hown := rowR_owns (w := w) (E := e) (.inr ⟨g, cap, cur, fz, rfl, rfl, hg, hfz, hnc, hcm, hcs, htake, hne⟩ : rowR w (.slice (some ⟨g, 0, none⟩) bs.length cap) [g] e bs)
      have holds : ∀ j u, (Lib.byteCells bs)[j]? = some u → w.cell? ((⟨g, 0, none⟩ : Addr).add j) = some u := hown.cells (g := g) rfl
      have hr := Lib.run_append_grow_string (P := P) w t u ty e i (.int .u8 0) ht hu hi hz ⟨g, 0, none⟩ bs.length cap (Lib.byteCells bs) (by rw [hsize, Lib.byteCells_length, Nat.mul_one]) holds s (by omega) (by omega) (by rw [hby]; exact growslice_fits (by omega) (by omega))
      have hge := grownCap_ge w (bs.length + s.size) cap e
      have hcm2 : grownCap w (bs.length + s.size) cap e ≤ maxLen := grownCap_le_maxLen w (bs.length + s.size) cap e (by unfold maxLen; omega)
      refine ⟨_, _, [w.heap.size], hr, .inr ⟨w.heap.size, _, _, (0, 0), by rw [hlen], rfl, heap_alloc_new w.drew _, Nat.zero_le _, by rw [hlen]; exact hge, hcm2, ?_, ?_, by omega⟩, ⟨rfl, rfl, rfl, by simp, fun k hk _ => heap_alloc_old w.drew _ hk⟩, fun x hx => .inr (by simp at hx; omega)⟩
      · have hz1 : (Value.int IntKind.u8 0).cells.size = 1 := rfl
        simp only [Array.size_append, List.size_toArray, size_zeroCells, hz1, Lib.byteCells_length, Lib.strCells_length]
        omega
      · show List.take _ _ = Lib.byteCells (bs ++ s.data.toList)
        simp only [Array.toList_append, List.append_assoc]
        rw [← List.append_assoc, hcells, hlen, ← hlc]
        exact List.take_left
where
  setRow_other' {w : World} {g k : Nat} {cs : Array Value} {n cap : Nat} (hk : some k ≠ (Value.slice (some ⟨g, 0, none⟩) n cap).ownBlock) : (w.setRow g cs).heap[k]? = w.heap[k]? := Go.setRow_other w g k cs (fun e => hk (by simp [Value.ownBlock, e]))
theorem wpList_app_row {ops : Array Oper} {rest : List Oper} {o : Oper} {a : Act} {w : World} {Q : Exit → Act → World → Prop} (hgd : o.guard = none) (sl x : Operand) (t u : TypeId)
    (ho : o.op = .call { callee := .builtin .append, args := #[sl, x], argTypes := #[t, u] }) (e : TypeId) (i : TypeInfo) (ht : P.underlying t = some (.slice e)) (hu : P.underlying u = some .string) (hi : P.info? e = some i) (hz : i.zero = some (.int .u8 0))
    (hsize : i.size = 1) (hby : i.bytes = 1) (v : Value) (F : List Nat) (bs : List UInt8) (hs : a.eval sl = v) (hrow : rowR w v F e bs) (s : ByteArray) (hx : a.eval x = .string s) (hbytes : bs.length + s.size ≤ 140737488355328)
    (h : ∀ v' w' F', rowR w' v' F' e (bs ++ s.data.toList) → w.grownBy w' v.ownBlock → (∀ x ∈ F', x ∈ F ∨ w.heap.size ≤ x) → wpList P ops Q rest (a.put o.dst v') w') : wpList P ops Q (o :: rest) a w := by
  refine wpList_plain hgd fun K hK => ?_
  obtain ⟨v', w', F', hr, h2, h3, h4⟩ := run_app_row (P := P) w t u o.type e i ht hu hi hz hsize hby v F bs hrow s hbytes
  unfold Oper.wp execOp
  simp only [ho, resolve, invoke, builtin, Sem.run_bind, Sem.run_pure, Result.andThen_ok, List.map_toArray, List.map_cons, List.map_nil, hs, hx, hr]
  exact hK _ _ (h v' w' F' h2 h3 h4)
theorem setCell_heap0 {w : World} {g : Nat} {cs : Array Value} {T : TypeId} (h : w.heap[g]? = some (.cells cs T (0, 0))) (j : Nat) (v : Value) : (w.setCell ⟨g, j, none⟩ v).heap[g]? = some (.cells (cs.setIfInBounds j v) T (0, 0)) := by
  rw [setCell_eq_setRow w g j cs T (0, 0) v h]
  exact setRow_heap w g cs _ T _ h
theorem setCell_other0 {w : World} {g k : Nat} (hk : k ≠ g) (j : Nat) (v : Value) : (w.setCell ⟨g, j, none⟩ v).heap[k]? = w.heap[k]? := by
  simp [World.setCell, Array.getElem?_modify, Ne.symm hk]
theorem setCell_size0 {w : World} {g : Nat} (j : Nat) (v : Value) : (w.setCell ⟨g, j, none⟩ v).heap.size = w.heap.size := by simp [World.setCell]
theorem rowR_keep {w w' : World} {v : Value} {F : List Nat} {E : TypeId} {bs : List UInt8} (h : rowR w v F E bs) (hk : ∀ x ∈ F, w'.heap[x]? = w.heap[x]?) : rowR w' v F E bs := by
  rcases h with h | ⟨r, cap, cur, fz, e1, rfl, e3, e4⟩
  · exact .inl h
  · exact .inr ⟨r, cap, cur, fz, e1, rfl, by rw [hk r (by simp)]; exact e3, e4⟩
theorem rowR_lt {w : World} {v : Value} {F : List Nat} {E : TypeId} {bs : List UInt8} (h : rowR w v F E bs) : (∀ x ∈ F, x < w.heap.size) ∧ F.Nodup := by
  rcases h with ⟨_, _, rfl⟩ | ⟨r, cap, cur, fz, e1, rfl, e3, e4⟩
  · simp
  · exact ⟨fun x hx => by simp at hx; subst hx; exact lt_of_heap e3, by simp⟩
structure OnlyB (w w' : World) (b : Nat) : Prop where
  os : w'.os = w.os
  tape : w'.tape = w.tape
  output : w'.output = w.output
  size : w'.heap.size = w.heap.size
  ch : ∀ x, x ≠ b → w'.heap[x]? = w.heap[x]?
set_option maxHeartbeats 1000000 in
set_option maxRecDepth 100000 in
theorem str_p (L : Lays.n169 P ρ) (X : Builder.Extra P ρ) (b : Nat) (F : List Nat) (bs : List UInt8) (w : World) (h : bldR w b F (ρ.t 72) (ρ.t 5) bs) (hb : b ∉ F) :
    Calls P (ρ.f 169) #[.pointer (some ⟨b, 0, none⟩)] w fun e w' => e = .returned (.string ⟨bs.toArray⟩) ∧ bldR w' b F (ρ.t 72) (ρ.t 5) bs ∧ Kept w w' (b :: F) (b :: F) := by
  obtain ⟨p, v, hbk, hp, hrow⟩ := h
  have hlb := lt_of_heap hbk
  obtain ⟨l1, l2⟩ := rowR_lt hrow
  have mixed := L.mixed
  have t72 := L.t72; have a72 := L.a72; have z72 := L.z72; have v72 := L.v72; have u72 := run_underlying L.t72
  have t70 := L.t70; have a70 := L.a70; have z70 := L.z70; have v70 := L.v70; have u70 := run_underlying L.t70
  have t37 := L.t37; have a37 := L.a37; have z37 := L.z37; have v37 := L.v37; have u37 := run_underlying L.t37
  have t127 := L.t127; have a127 := L.a127; have z127 := L.z127; have v127 := L.v127; have u127 := run_underlying L.t127
  have t3 := L.t3; have a3 := L.a3; have z3 := L.z3; have v3 := L.v3; have u3 := run_underlying L.t3
  have t9 := L.t9; have a9 := L.a9; have z9 := L.z9; have v9 := L.v9; have u9 := run_underlying L.t9
  have t5 := X.t5; have a5 := X.a5; have z5 := X.z5; have v5 := X.v5; have u5 := run_underlying X.t5
  rcases hrow with ⟨rfl, rfl, rfl⟩ | ⟨g, cap, cur, fz, rfl, rfl, hg, hfz, hnc, hcm, hcs, htake, hne⟩
  · have hUS := Any.unsafeString_none L X
    have c1 : w.drew.cell? ⟨b, 1, none⟩ = some (.slice none 0 0) := by
      have : w.drew.heap[b]? = some (.cells #[p, .slice none 0 0] (ρ.t 72) (0, 0)) := hbk
      rw [Lib.cell_of_heap this]; rfl
    have hSD : (Builtin.unsafeSliceData_ #[(ρ.t 37)] (ρ.t 127) #[.slice none 0 0]).run P w.drew = .ok (.pointer none) w.drew := rfl
    go_enter L.f169, Body.n169_ntmps ρ
    go_wp2
    go_region_o
    all_goals (go_wp2; go_ret; exact ⟨rfl, ⟨p, _, hbk, hp, .inl ⟨rfl, rfl, rfl⟩⟩, ⟨rfl, rfl, rfl, Nat.le_refl _, fun _ _ _ => rfl, by simp, fun x hx => .inl hx, fun x hx => by simp at hx; subst hx; exact hlb⟩⟩)
  · rcases Decidable.em (bs = []) with hbs | hbs
    · subst hbs
      have c1 : w.drew.cell? ⟨b, 1, none⟩ = some (.slice (some ⟨g, 0, none⟩) 0 cap) := by
        have : w.drew.heap[b]? = some (.cells #[p, .slice (some ⟨g, 0, none⟩) 0 cap] (ρ.t 72) (0, 0)) := hbk
        rw [Lib.cell_of_heap this]; rfl
      have hSD : (Builtin.unsafeSliceData_ #[(ρ.t 37)] (ρ.t 127) #[.slice (some ⟨g, 0, none⟩) 0 cap]).run P w.drew = .ok (.pointer (some ⟨g, 0, none⟩)) w.drew :=
        Lib.run_unsafeSliceData_row _ _ _ _ _ _ (by omega)
      have hUS : (Builtin.unsafeString_ #[(ρ.t 127), (ρ.t 3)] (ρ.t 9) #[.pointer (some ⟨g, 0, none⟩), .int .i64 0]).run P w.drew = .ok (.string .empty) w.drew := Lib.run_unsafeString_none _ _ _ _ _
      have hgb : g ≠ b := fun q => hb (by simp [q])
      have hglt := lt_of_heap hg
      go_enter L.f169, Body.n169_ntmps ρ
      go_wp2
      go_region_o
      all_goals (go_wp2; go_ret; exact ⟨rfl, ⟨p, _, hbk, hp, .inr ⟨g, cap, cur, fz, rfl, rfl, hg, hfz, hnc, hcm, hcs, htake, hne⟩⟩, ⟨rfl, rfl, rfl, Nat.le_refl _, fun _ _ _ => rfl, by simpa using (Ne.symm hgb), fun x hx => .inl hx, fun x hx => by simp at hx; rcases hx with rfl | rfl; exact hlb; exact hglt⟩⟩)
    have hl0 : bs.length ≠ 0 := fun q => hbs (List.eq_nil_of_length_eq_zero q)
    have hgb : g ≠ b := fun q => hb (by simp [q])
    have c1 : w.drew.cell? ⟨b, 1, none⟩ = some (.slice (some ⟨g, 0, none⟩) bs.length cap) := by
      have : w.drew.heap[b]? = some (.cells #[p, .slice (some ⟨g, 0, none⟩) bs.length cap] (ρ.t 72) (0, 0)) := hbk
      rw [Lib.cell_of_heap this]; rfl
    have hSD : (Builtin.unsafeSliceData_ #[(ρ.t 37)] (ρ.t 127) #[.slice (some ⟨g, 0, none⟩) bs.length cap]).run P w.drew = .ok (.pointer (some ⟨g, 0, none⟩)) w.drew :=
      Lib.run_unsafeSliceData_row _ _ _ _ _ _ (by omega)
    have hown := rowR_owns (w := w) (E := ρ.t 5) (.inr ⟨g, cap, cur, fz, rfl, rfl, hg, hfz, hnc, hcm, hcs, htake, hne⟩ : rowR w (.slice (some ⟨g, 0, none⟩) bs.length cap) [g] (ρ.t 5) bs)
    have hUS : (Builtin.unsafeString_ #[(ρ.t 127), (ρ.t 3)] (ρ.t 9) #[.pointer (some ⟨g, 0, none⟩), .int .i64 bs.length]).run P w.drew = .ok (.string ⟨bs.toArray⟩) (w.drew.freeze ⟨g, 0, none⟩ bs.length) := by
      refine Lib.run_unsafeString_row w.drew (ρ.t 127) (ρ.t 3) (ρ.t 9) (ρ.t 5) L.t127 X.cellsByte g cur.size (by have hg' : w.drew.heap[g]? = some (.cells cur (ρ.t 5) fz) := hg; simp [World.shape?, hg']) bs hbs (by omega) (by unfold maxLen at hcm; omega) ?_
      intro j x hx
      exact hown.cells (g := g) rfl j (.int .u8 x.toNat) (by simp [Lib.byteCells, hx])
    obtain ⟨fz', hfr, hfr2⟩ : ∃ fz' : Nat × Nat, (w.drew.freeze ⟨g, 0, none⟩ bs.length).heap[g]? = some (.cells cur (ρ.t 5) fz') ∧ fz'.2 ≤ bs.length := by
      obtain ⟨lo, hi'⟩ := fz
      have hg' : w.drew.heap[g]? = some (.cells cur (ρ.t 5) (lo, hi')) := hg
      refine ⟨if lo == hi' then (0, 0 + bs.length) else (min lo 0, max hi' (0 + bs.length)), by simp [World.freeze, hl0, Array.getElem?_modify, hg'], ?_⟩
      have hfz' : hi' ≤ bs.length := hfz
      split
      · simp
      · show max hi' (0 + bs.length) ≤ _
        omega
    have hoth : ∀ x, x ≠ g → (w.drew.freeze ⟨g, 0, none⟩ bs.length).heap[x]? = w.heap[x]? := fun x hx => by
      simp only [World.freeze, hl0, if_false]
      rw [Array.getElem?_modify, if_neg (Ne.symm hx)]
      rfl
    have hfs : (w.drew.freeze ⟨g, 0, none⟩ bs.length).heap.size = w.heap.size := by
      simp only [World.freeze, hl0, if_false, Array.size_modify]
      rfl
    have hglt := lt_of_heap hg
    go_enter L.f169, Body.n169_ntmps ρ
    go_wp2
    go_region_o
    all_goals (go_wp2; go_ret; exact ⟨rfl, ⟨p, _, by rw [hoth b (Ne.symm hgb)]; exact hbk, hp, .inr ⟨g, cap, cur, fz', rfl, rfl, hfr, hfr2, hnc, hcm, hcs, htake, hne⟩⟩, ⟨by simp only [World.freeze, hl0, if_false]; rfl, by simp only [World.freeze, hl0, if_false]; rfl, by simp only [World.freeze, hl0, if_false]; rfl, by rw [hfs]; exact Nat.le_refl _, fun x _ hx => hoth x (fun q => hx (by simp [q])), by simpa using (Ne.symm hgb), fun x hx => .inl hx, fun x hx => by rw [hfs]; simp at hx; rcases hx with rfl | rfl; exact hlb; exact hglt⟩⟩)
end
structure BC (P : Program) (f : FuncId) (T E : TypeId) (bs : List UInt8) (rest : List V) (v : V) (bs' : List UInt8) : Prop where
  fn : ∃ fn, P.funcs[f]? = some fn ∧ (fn.name == "runtime.NumGoroutine") = false ∧ fn.body.isNone = false
  run : ∀ (w : World) (g : Nat) (F : List Nat) (args : List Value), repT w [none] [.gone] rest args → bldR w g F T E bs → g ∉ F →
    Calls P f (.pointer (some ⟨g, 0, none⟩) :: args).toArray w fun en w' => ∃ cv F', en = .returned cv ∧ (∀ M h, rep w' M h v cv) ∧ bldR w' g F' T E bs' ∧ Kept w w' (g :: F) (g :: F')
theorem BC.call {P : Program} {f : FuncId} {T E : TypeId} {bs bs' : List UInt8} {rest : List V} {v : V} (bc : BC P f T E bs rest v bs') {b : Nat} {e : Env} {h : List Blk} {K : V → Env → List Blk → Prop}
    (hb : h[b]? = some (.bld T E bs)) (hb0 : Nat.ble 1 b = true) (hr : plains rest = true) (H : K v e (h.set b (.bld T E bs'))) : CallM P f (.pB b [] 0 :: rest) e h K where
  fn := bc.fn
  run B X N M a w args R hargs := by
    obtain ⟨c0, args, rfl, h1, h2⟩ := hargs
    have h2' := plains_rep (w' := w) (M' := [none]) (h' := [.gone]) rest args hr h2
    have hb1 : 1 ≤ b := Nat.le_of_ble_eq_true hb0
    obtain ⟨g, F, m1, rfl⟩ := rep_pB.1 (rep_of_rep1 h1)
    have hbr : bldR w g F T E bs := R.inv.blk b _ _ hb m1
    have nd : (g :: F).Nodup := mO_nodup R.inv m1
    refine (bc.run w g F args h2' hbr (List.nodup_cons.1 nd).1).mono ?_
    rintro en w' ⟨cv, F', rfl, q1, q5, q2⟩
    have hxB : Ext B w' := by
      have hlo := R.inv.lo b _ _ hb m1 rfl
      refine Below.trans R.ext ⟨q2.os, q2.tape, q2.output, q2.size, fun k hk => q2.ch k (Nat.lt_of_lt_of_le hk R.base) (fun hm => ?_)⟩
      have := hlo k hm
      omega
    have q5' := q5
    obtain ⟨p, vv, hbk, _, hrow⟩ := q5'
    have hbk0 := hbr
    obtain ⟨p0, vv0, hbk0, _, _⟩ := hbk0
    obtain ⟨M', R', _, _⟩ := R.reset (w' := w') hxB m1 (by omega) hb (.inl rfl) [] [] (by simp) (by simp) (by simp) (by simp) (m' := some (g, F')) q2.nd
      (fun x hx => (q2.sub x hx).imp id (fun q => .inr q)) q2.hi q2.size (fun x hx hxm => q2.ch x hx hxm) (k' := .bld T E bs') rfl
      (fun _ g1 F1 e1 => by
        cases e1
        refine ⟨⟨F', rfl⟩, ?_, fun arr1 t1 hg1 => ?_⟩
        · simp only [nOf, hb, List.getElem?_set_self (List.getElem?_eq_some_iff.1 hb).1]
        · rw [hbk0] at hg1
          cases hg1
          exact ⟨_, hbk, rfl⟩)
      (fun M' h' _ => q5)
    exact ⟨v, cv, e, _, M', rfl, H, R', q1 _ _⟩
theorem clb_ {P : Program} {f : FuncId} {T E : TypeId} {bs bs' : List UInt8} {rest : List V} {v : V} {b : Nat} {e : Env} {h : List Blk} {K : V → Env → List Blk → Prop} {Q : Prop} (bc : BC P f T E bs rest v bs') (H : Q) (hb : h[b]? = some (.bld T E bs) := by rfl)
    (hb0 : Nat.ble 1 b = true := by rfl) (hr : plains rest = true := by rfl) (hk : Q → K v e (h.set b (.bld T E bs')) := by (intro H; (conv => whnf); exact H)) : CallW P false f (.pB b [] 0 :: rest) e h K :=
  ⟨.inr ⟨rfl, bc.call hb hb0 hr (hk H)⟩⟩
section
variable {P : Program} {ρ : Ren}
theorem nilIface_top {w : World} {M : MM} {h : List Blk} : rep1 w M h .top .nilIface := by
  unfold rep1
  rw [if_neg (by simp [V.isAgg])]
  exact ⟨_, rfl, rfl⟩
theorem bc_str (L : Lays.n169 P ρ) (X : Builder.Extra P ρ) {fn : Func} (h1 : P.funcs[ρ.f 169]? = some fn) (h2 : (fn.name == "runtime.NumGoroutine") = false) (h3 : fn.body.isNone = false) (bs : List UInt8) :
    BC P (ρ.f 169) (ρ.t 72) (ρ.t 5) bs [] (.d (.str ⟨bs.toArray⟩)) bs where
  fn := ⟨fn, h1, h2, h3⟩
  run w g F args hargs hb hg := by
    cases hargs
    have hsz : bs.length ≤ maxLen := by
      obtain ⟨p, v, _, _, hr⟩ := hb
      rcases hr with ⟨_, rfl, _⟩ | ⟨r, cap, cur, fz, _, _, _, _, q1, q2, _⟩
      · simp
      · omega
    refine (str_p L X g F bs w hb hg).mono ?_
    rintro en w' ⟨rfl, k1, k2⟩
    exact ⟨_, F, rfl, fun M h => rep_str.2 ⟨rfl, hsz⟩, k1, k2⟩
end
open Go.RowKit Go.Shelf
set_option maxHeartbeats 1000000 in
set_option maxRecDepth 100000 in
theorem cc_used (b : Nat) (w : World) (h0 : w.cell? ⟨b, 0, none⟩ = some (.pointer (some ⟨b, 0, none⟩))) :
    Calls Tryz.prog 96 #[.pointer (some ⟨b, 0, none⟩)] w fun e w' => e = .returned (.tuple #[]) ∧ w' = w := by
  obtain ⟨j, hj, hjs⟩ := Option.map_eq_some_iff.1 (show (Tryz.prog.info? 106).map (·.size) = some 2 by kernel_rfl)
  go_enter Tryz.func96, Tryz.ntmps96
  go_wp2
  rw [Lib.run_neq_ptr_same w _ Tryz.underlying104 hj]
  go_wp2
  go_end0
  exact ⟨rfl, rfl⟩
set_option maxHeartbeats 1000000 in
set_option maxRecDepth 100000 in
theorem cc_fresh (b : Nat) (w : World) (h0 : w.cell? ⟨b, 0, none⟩ = some (.pointer none)) (hsh : w.shape? b = some (106, 2)) (hfz : w.frozen? ⟨b, 0, none⟩ = false) :
    Calls Tryz.prog 96 #[.pointer (some ⟨b, 0, none⟩)] w fun e w' => e = .returned (.tuple #[]) ∧ w' = w.setCell ⟨b, 0, none⟩ (.pointer (some ⟨b, 0, none⟩)) := by
  obtain ⟨j, hj, hjs⟩ := Option.map_eq_some_iff.1 (show (Tryz.prog.info? 106).map (·.size) = some 2 by kernel_rfl)
  go_enter Tryz.func96, Tryz.ntmps96
  go_wp2
  rw [Lib.run_to_unsafe w ⟨b, 0, none⟩ Tryz.underlying104 Tryz.underlying215 hj (by rw [hjs]; decide) hsh (Nat.zero_lt_succ 1)]
  simp only [Result.andThen]
  rw [Oper.upon_value]
  go_wp2
  rw [run_callFunc_extern Tryz.func151 (by kernel_rfl) (by kernel_rfl) (by kernel_rfl) (e := Extern.AbiNoEscape.same) (by kernel_rfl)]
  rw [Lib.run_noEscape]
  simp only [Result.andThen]
  rw [Oper.upon_value]
  go_wp2
  rw [Lib.run_from_unsafe w ⟨b, 0, none⟩ Tryz.underlying215 Tryz.underlying104 hj hsh (by kernel_rfl)]
  simp only [Result.andThen]
  rw [Oper.upon_value]
  go_wp2
  go_end0
  exact ⟨rfl, rfl⟩
theorem cc_p (b : Nat) (F : List Nat) (bs : List UInt8) (w : World) (h : bldR w b F 106 5 bs) (hb : b ∉ F) :
    Calls Tryz.prog 96 #[.pointer (some ⟨b, 0, none⟩)] w fun e w' => e = .returned (.tuple #[]) ∧ (∃ v, w'.heap[b]? = some (.cells #[.pointer (some ⟨b, 0, none⟩), v] 106 (0, 0)) ∧ rowR w' v F 5 bs) ∧
      OnlyB w w' b := by
  obtain ⟨p, v, h1, h2, h3⟩ := h
  rcases h2 with rfl | rfl
  · refine (cc_fresh b w (by rw [Lib.cell_of_heap h1]; rfl) (by simp [World.shape?, h1]) (Lib.frozen_of_heap h1 0)).mono ?_
    rintro e w' ⟨rfl, rfl⟩
    exact ⟨rfl, ⟨v, by rw [setCell_heap0 h1]; rfl, rowR_keep h3 fun x hx => setCell_other0 (by rintro rfl; exact hb hx) 0 _⟩, ⟨rfl, rfl, rfl, setCell_size0 0 _, fun x hx => setCell_other0 hx 0 _⟩⟩
  · refine (cc_used b w (by rw [Lib.cell_of_heap h1]; rfl)).mono ?_
    rintro e w' ⟨rfl, rfl⟩
    exact ⟨rfl, ⟨v, h1, h3⟩, ⟨rfl, rfl, rfl, rfl, fun _ _ => rfl⟩⟩
set_option maxHeartbeats 2000000 in
set_option maxRecDepth 100000 in
theorem wr_p (b : Nat) (F : List Nat) (bs : List UInt8) (s : ByteArray) (w : World) (h : bldR w b F 106 5 bs) (hb : b ∉ F) (hlen : bs.length + s.size ≤ 140737488355328) :
    Calls Tryz.prog 39 #[.pointer (some ⟨b, 0, none⟩), .string s] w fun e w' => e = .returned (.tuple #[.int .i64 s.size, .nilIface]) ∧ ∃ F', bldR w' b F' 106 5 (bs ++ s.data.toList) ∧ Kept w w' (b :: F) (b :: F') := by
  obtain ⟨i0, hi, hz0, hz1, hz2⟩ := info_parts (show (Tryz.prog.info? 5).map (fun i => (i.zero, i.size, i.bytes)) = some (some (.int .u8 0), 1, 1) by kernel_rfl)
  have hbw : b < w.heap.size := by obtain ⟨p, v, h1, _⟩ := h; exact lt_of_heap h1
  go_enter Tryz.func39, Tryz.ntmps39
  go_wp2_with (go_at_call 96; refine (cc_p b F bs _ h hb).mono ?_)
  rintro e w1 ⟨rfl, ⟨v, hbk, hrow⟩, ho⟩
  have c0 : w1.cell? ⟨b, 0, none⟩ = some (.pointer (some ⟨b, 0, none⟩)) := by rw [Lib.cell_of_heap hbk]; rfl
  have c1 : w1.cell? ⟨b, 1, none⟩ = some v := by rw [Lib.cell_of_heap hbk]; rfl
  go_wp2_with (at_builtin; refine wpList_app_row rfl _ _ 31 9 rfl 5 i0 Tryz.underlying31 Tryz.underlying9 hi hz0 hz1 hz2 _ F bs rfl hrow s rfl hlen ?_)
  intro v' w2 F' hrow' hgrow hF'
  have hnb : some b ≠ v.ownBlock := fun q => hb ((rowR_block hrow b).1 q.symm)
  have hb2 : w2.heap[b]? = some (.cells #[.pointer (some ⟨b, 0, none⟩), v] 106 (0, 0)) := by
    rw [hgrow.block b (lt_of_heap hbk) hnb]
    exact hbk
  have d0 : w2.cell? ⟨b, 0, none⟩ = some (.pointer (some ⟨b, 0, none⟩)) := by rw [Lib.cell_of_heap hb2]; rfl
  have d1 : w2.cell? ⟨b, 1, none⟩ = some v := by rw [Lib.cell_of_heap hb2]; rfl
  have f1 : w2.frozen? ⟨b, 1, none⟩ = false := Lib.frozen_of_heap hb2 1
  obtain ⟨ao, n', cap, rfl⟩ : ∃ ao n' cap, v' = .slice ao n' cap := by
    rcases hrow' with ⟨hv, _⟩ | ⟨g, cap, cur, fz, hv, _⟩
    · exact ⟨_, _, _, hv⟩
    · exact ⟨_, _, _, hv⟩
  have hbF' : b ∉ F' := fun hx => by
    rcases hF' b hx with q | q
    · exact hb q
    · have := lt_of_heap hbk; omega
  go_wp2
  go_ret2
  refine ⟨rfl, F', ⟨_, _, by rw [setCell_heap0 hb2]; rfl, .inr rfl, rowR_keep hrow' fun x hx => setCell_other0 (by rintro rfl; exact hbF' hx) 1 _⟩, ?_⟩
  obtain ⟨l1, l2⟩ := rowR_lt hrow'
  obtain ⟨o1, o2, o3, o4, o5⟩ := ho
  refine ⟨hgrow.os.trans o1, hgrow.tape.trans o2, hgrow.output.trans o3, by rw [setCell_size0]; have := hgrow.size; omega, fun x hx hxL => ?_, by simp [hbF', l2], fun x hx => ?_, fun x hx => ?_⟩
  · have hxb : x ≠ b := fun q => hxL (by simp [q])
    rw [setCell_other0 hxb, hgrow.block x (by omega) (fun q => hxL (by simp [(rowR_block hrow x).1 q.symm])), o5 x hxb]
  · rcases List.mem_cons.1 hx with rfl | hx
    · exact .inl (by simp)
    · rcases hF' x hx with q | q
      · exact .inl (by simp [q])
      · exact .inr (by omega)
  · rw [setCell_size0]
    rcases List.mem_cons.1 hx with rfl | hx
    · exact lt_of_heap hb2
    · exact l1 x hx
theorem bc_ws {fn : Func} (h1 : Tryz.prog.funcs[39]? = some fn) (h2 : (fn.name == "runtime.NumGoroutine") = false) (h3 : fn.body.isNone = false) (bs : List UInt8) (s : ByteArray) (hlen : bs.length + s.size ≤ 140737488355328) :
    BC Tryz.prog 39 106 5 bs [.d (.str s)] (.tup [.d (.int .i64 (s.size : Nat)), .top]) (bs ++ s.data.toList) where
  fn := ⟨fn, h1, h2, h3⟩
  run w g F args hargs hb hg := by
    obtain ⟨c, cs, rfl, r1, rfl⟩ := hargs
    obtain ⟨rfl, hs⟩ := rep_str.1 (rep_of_rep1 r1)
    refine (wr_p g F bs s w hb hg hlen).mono ?_
    rintro en w' ⟨rfl, F', k1, k2⟩
    refine ⟨_, F', rfl, fun M h => ⟨_, rfl, ?_⟩, k1, k2⟩
    exact ⟨_, _, rfl, rep1_of_rep rfl (rep_int.2 ⟨rfl, nat_inR hs⟩), _, _, rfl, nilIface_top, rfl⟩
theorem ws_b (bs : List UInt8) (s : ByteArray) (hlen : bs.length + s.size ≤ 140737488355328) : BC Tryz.prog 39 106 5 bs [.d (.str s)] (.tup [.d (.int .i64 (s.size : Nat)), .top]) (bs ++ s.data.toList) :=
  bc_ws Tryz.func39 rfl rfl bs s hlen
theorem str_b (bs : List UInt8) : BC Tryz.prog 43 106 5 bs [] (.d (.str ⟨bs.toArray⟩)) bs :=
  bc_str Tryz.lays169 Tryz.Builder_Extra_169 Tryz.func43 rfl rfl bs
end Go.Proofs.YtaldaoagjbapkaaGreatDoor