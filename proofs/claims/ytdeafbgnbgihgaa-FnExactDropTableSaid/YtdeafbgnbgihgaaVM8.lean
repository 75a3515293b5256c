/- The abstract machine, eighth part: steps that make or change blocks. Leans on no program. -/
import Derived.Test.YtdeafbgnbgihgaaVM7
set_option linter.unusedSimpArgs false
set_option linter.unusedVariables false
namespace Go.Proofs.Ytdeafbgnbgihgaa
open Go.RowKit

/-! ### the list of owned blocks -/
theorem O_set_perm : ∀ (M : MM) (b : Nat) (m m' : Option (Nat × List Nat)), M[b]? = some m → List.Perm (MM.O (M.set b m')) (mO m' ++ MM.O (M.set b none))
  | [], b, m, m', h => by simp at h
  | x :: M, 0, m, m', h => by
    show List.Perm (MM.O (m' :: M)) (mO m' ++ MM.O (none :: M))
    simp only [MM.O, List.flatMap_cons, mO, List.nil_append]
    exact List.Perm.refl _
  | x :: M, b + 1, m, m', h => by
    show List.Perm (MM.O (x :: M.set b m')) (mO m' ++ MM.O (x :: M.set b none))
    have ih := O_set_perm M b m m' (by simpa using h)
    simp only [MM.O, List.flatMap_cons] at ih ⊢
    exact (List.Perm.append_left _ ih).trans (by rw [← List.append_assoc, ← List.append_assoc]; exact List.Perm.append_right _ List.perm_append_comm)
theorem set_self {α : Type} : ∀ (l : List α) (b : Nat) (m : α), l[b]? = some m → l.set b m = l
  | [], b, m, h => by simp at h
  | x :: l, 0, m, h => by simp at h; simp [h]
  | x :: l, b + 1, m, h => by simp [set_self l b m (by simpa using h)]
theorem O_perm {M : MM} {b : Nat} {m : Option (Nat × List Nat)} (h : M[b]? = some m) : List.Perm M.O (mO m ++ MM.O (M.set b none)) := by
  have := O_set_perm M b m m h
  rwa [set_self M b m h] at this

/-! ### one block turns -/
section
variable {B : Nat} {w w' : World} {M : MM} {h : List Blk} {b g : Nat} {F : List Nat} {k k' : Blk}
theorem modify_mv (hI : MInv B w M h) (hM : M[b]? = some (some (g, F))) (hk : h[b]? = some k) {arr arr' : Array Value} {t : TypeId} (hg : w.heap[g]? = some (.cells arr t (0, 0)))
    (hg' : w'.heap[g]? = some (.cells arr' t (0, 0))) (hsz : arr'.size = arr.size) (hoth : ∀ c, c ≠ g → w'.heap[c]? = w.heap[c]?) (hn : nOf (h.set b k') b = nOf h b) (hws : w.heap.size ≤ w'.heap.size) : Mv (fun _ => True) w M h w' M (h.set b k') where
  sz := hws
  ext c hc hlt := ⟨hc, hoth c (fun e => hc (by rw [e]; exact mem_O hM (by simp [mO])))⟩
  ids c g' F' _ h' := ⟨F', h'⟩
  row c g' F' arr1 t1 _ h' hr := by
    by_cases e : g' = g
    · subst e
      rw [hg] at hr
      cases hr
      exact ⟨arr', hg', hsz⟩
    · exact ⟨arr1, by rw [hoth g' e]; exact hr, rfl⟩
  nof c g' F' _ _ := by
    by_cases e : c = b
    · subst e; exact hn
    · unfold nOf; rw [List.getElem?_set_ne (Ne.symm e)]
theorem O_block_inj (hI : MInv B w M h) {c : Nat} {m m' : Option (Nat × List Nat)} (hb : M[b]? = some m) (hc : M[c]? = some m') {x : Nat} (h1 : x ∈ mO m) (h2 : x ∈ mO m') : c = b := by
  by_cases e : c = b
  · exact e
  · exfalso
    have p1 := O_perm hb
    have nd := (List.Perm.nodup_iff p1).1 hI.nd
    have hc' : (M.set b none)[c]? = some m' := by rw [List.getElem?_set_ne (Ne.symm e)]; exact hc
    exact (List.nodup_append.1 nd).2.2 x h1 x (mem_O hc' h2) rfl
theorem MInv.modify (hI : MInv B w M h) (hM : M[b]? = some (some (g, F))) (hk : h[b]? = some k) (hlv : k.live = true) {arr arr' : Array Value} {t : TypeId} (hg : w.heap[g]? = some (.cells arr t (0, 0)))
    (hg' : w'.heap[g]? = some (.cells arr' t (0, 0))) (hsz : arr'.size = arr.size) (hoth : ∀ c, c ≠ g → w'.heap[c]? = w.heap[c]?) (hws : w'.heap.size = w.heap.size) (hn : nOf (h.set b k') b = nOf h b)
    (hb : BRep w' M (h.set b k') k' (some (g, F))) : MInv B w' M (h.set b k') where
  len := by simp [hI.len]
  blk c kc m hc hm := by
    by_cases e : c = b
    · subst e
      rw [List.getElem?_set_self (List.getElem?_eq_some_iff.1 hk).1] at hc
      cases hc
      rw [hM] at hm
      cases hm
      exact hb
    · rw [List.getElem?_set_ne (Ne.symm e)] at hc
      refine BRep_mv (modify_mv hI hM hk hg hg' hsz hoth hn (Nat.le_of_eq hws.symm)) (by cases kc <;> first | trivial | exact V.inS_all _ | exact inSE_all _) (fun x hx => hoth x (fun e' => ?_)) (hI.blk c kc m hc hm)
      subst e'
      exact e (O_block_inj hI hM hm (by simp [mO]) hx)
  nd := hI.nd
  lo c kc m hc hm hv := by
    by_cases e : c = b
    · subst e
      exact hI.lo c k m hk hm hlv
    · rw [List.getElem?_set_ne (Ne.symm e)] at hc
      exact hI.lo c kc m hc hm hv
  hi x hx := by rw [hws]; exact hI.hi x hx
end

/-! ### parts are changed -/
section
variable {w : World} {M : MM} {h : List Blk}
theorem fldD_off : ∀ (ds : List D) (f o1 o2 : Nat) (u : D) (o : Nat), fldD ds f o1 = some (u, o) → ∃ o', fldD ds f o2 = some (u, o') ∧ o' + o1 = o + o2
  | [], f, o1, o2, u, o, h => by simp [fldD] at h
  | d :: ds, 0, o1, o2, u, o, h => by
    simp only [fldD, Option.some.injEq, Prod.mk.injEq] at h
    obtain ⟨rfl, rfl⟩ := h
    exact ⟨o2, rfl, by omega⟩
  | d :: ds, f + 1, o1, o2, u, o, h => by
    obtain ⟨o', h1, h2⟩ := fldD_off ds f (o1 + d.size) (o2 + d.size) u o h
    exact ⟨o', h1, by omega⟩
theorem fldV_off : ∀ (ds : List V) (f o1 o2 : Nat) (u : V) (o : Nat), fldV ds f o1 = some (u, o) → ∃ o', fldV ds f o2 = some (u, o') ∧ o' + o1 = o + o2
  | [], f, o1, o2, u, o, h => by simp [fldV] at h
  | d :: ds, 0, o1, o2, u, o, h => by
    simp only [fldV, Option.some.injEq, Prod.mk.injEq] at h
    obtain ⟨rfl, rfl⟩ := h
    exact ⟨o2, rfl, by omega⟩
  | d :: ds, f + 1, o1, o2, u, o, h => by
    obtain ⟨o', h1, h2⟩ := fldV_off ds f (o1 + d.size) (o2 + d.size) u o h
    exact ⟨o', h1, by omega⟩
/-- field f of a struct is changed -/
theorem repCs_set : ∀ (fs : List V) (cs : List Value) (f off : Nat) (u : V) (o : Nat), repCs w M h fs cs → fldV fs f off = some (u, o) →
    ∃ c1 c2 c3, cs = c1 ++ c2 ++ c3 ∧ off + c1.length = o ∧ repC w M h u c2 ∧ ∀ u' c2', repC w M h u' c2' → repCs w M h (setN fs f u') (c1 ++ c2' ++ c3)
  | [], cs, f, off, u, o, _, h => by simp [fldV] at h
  | d :: ds, cs, 0, off, u, o, H, h => by
    obtain ⟨c1, c2, rfl, h1, h2⟩ := H
    simp only [fldV, Option.some.injEq, Prod.mk.injEq] at h
    obtain ⟨rfl, rfl⟩ := h
    exact ⟨[], c1, c2, rfl, rfl, h1, fun u' c2' hu => ⟨c2', c2, rfl, hu, h2⟩⟩
  | d :: ds, cs, f + 1, off, u, o, H, h => by
    obtain ⟨c1, c2, rfl, h1, h2⟩ := H
    obtain ⟨p1, p2, p3, rfl, e, hr, hs⟩ := repCs_set ds c2 f (off + d.size) u o h2 h
    refine ⟨c1 ++ p1, p2, p3, by simp, ?_, hr, fun u' c2' hu => ⟨c1, p1 ++ c2' ++ p3, by simp, h1, hs u' c2' hu⟩⟩
    rw [List.length_append, repC_len d c1 h1]
    omega
theorem repCs_toVs : ∀ (ds : List D) (cs : List Value), repDs M.O w ds cs → repCs w M h (toVs ds) cs
  | [], cs, H => H
  | d :: ds, cs, H => by
    obtain ⟨c1, c2, e, h1, h2⟩ := H
    exact ⟨c1, c2, e, h1, repCs_toVs ds c2 h2⟩
theorem fld_toVs : ∀ (ds : List D) (f off : Nat) (u : D) (o : Nat), fldD ds f off = some (u, o) → fldV (toVs ds) f off = some (.d u, o)
  | [], f, off, u, o, h => by simp [fldD] at h
  | d :: ds, 0, off, u, o, h => by
    simp only [fldD, Option.some.injEq, Prod.mk.injEq] at h
    obtain ⟨rfl, rfl⟩ := h
    rfl
  | d :: ds, f + 1, off, u, o, h => fld_toVs ds f (off + d.size) u o h
/-- V.sub and D.sub agree -/
theorem sub_d : ∀ (p : List Nat) (x : D) (off : Nat) (u : V) (o : Nat), V.sub (.d x) p off = some (u, o) → ∃ y, u = .d y ∧ x.sub p off = some (y, o)
  | [], x, off, u, o, h => by
    simp only [V.sub, Option.some.injEq, Prod.mk.injEq] at h
    obtain ⟨rfl, rfl⟩ := h
    exact ⟨x, rfl, rfl⟩
  | i :: p, x, off, u, o, h => by
    simp only [V.sub] at h
    split at h
    · rename_i y o' hy
      cases h
      exact ⟨y, rfl, hy⟩
    · cases h
theorem repC_upd : ∀ (p : List Nat) (v : V) (cs : List Value) (off : Nat) (u : V) (o : Nat) (x v' : V), repC w M h v cs → v.sub p off = some (u, o) → v.upd p x = some v' →
    ∃ c1 c2 c3, cs = c1 ++ c2 ++ c3 ∧ off + c1.length = o ∧ repC w M h u c2 ∧ ∀ cx, repC w M h x cx → repC w M h v' (c1 ++ cx ++ c3)
  | [], v, cs, off, u, o, x, v', H, hs, hu => by
    simp only [V.sub, Option.some.injEq, Prod.mk.injEq] at hs
    obtain ⟨rfl, rfl⟩ := hs
    cases v <;> (cases hu; exact ⟨[], cs, [], by simp, rfl, H, fun cx hx => by simpa using hx⟩)
  | i :: p, v, cs, off, u, o, x, v', H, hs, hu => by
    cases v with
    | st fs =>
      simp only [V.sub] at hs
      simp only [V.upd] at hu
      split at hs
      · rename_i u1 o1 h1
        obtain ⟨o', e1, e2⟩ := fldV_off fs i off 0 u1 o1 h1
        rw [e1] at hu
        dsimp only at hu
        split at hu
        · rename_i u' hu'
          cases hu
          obtain ⟨c1, c2, c3, rfl, e, hr, hset⟩ := repCs_set fs cs i off u1 o1 H h1
          obtain ⟨d1, d2, d3, rfl, e', hr', hset'⟩ := repC_upd p u1 c2 o1 u o x u' hr hs hu'
          refine ⟨c1 ++ d1, d2, d3 ++ c3, by simp, by rw [List.length_append]; omega, hr', fun cx hx => ?_⟩
          have := hset u' _ (hset' cx hx)
          show repCs w M h _ _
          simpa using this
        · cases hu
      · cases hs
    | d y =>
      cases y with
      | st ds =>
        obtain ⟨u1, rfl, hs1⟩ := sub_d (i :: p) (.st ds) off u o hs
        simp only [D.sub] at hs1
        simp only [V.upd] at hu
        split at hs1
        · rename_i u2 o1 h1
          obtain ⟨o', e1, e2⟩ := fldD_off ds i off 0 u2 o1 h1
          rw [e1] at hu
          dsimp only at hu
          split at hu
          · rename_i u' hu'
            cases hu
            have H' : repCs w M h (toVs ds) cs := repCs_toVs ds cs H
            obtain ⟨c1, c2, c3, rfl, e, hr, hset⟩ := repCs_set (toVs ds) cs i off (.d u2) o1 H' (fld_toVs ds i off u2 o1 h1)
            have hs2 : V.sub (.d u2) p o1 = some (.d u1, o) := by
              cases p with
              | nil => simp only [D.sub, Option.some.injEq, Prod.mk.injEq] at hs1; obtain ⟨rfl, rfl⟩ := hs1; rfl
              | cons q p => simp only [V.sub, hs1]
            obtain ⟨d1, d2, d3, rfl, e', hr', hset'⟩ := repC_upd p (.d u2) c2 o1 (.d u1) o x u' hr hs2 hu'
            refine ⟨c1 ++ d1, d2, d3 ++ c3, by simp, by rw [List.length_append]; omega, hr', fun cx hx => ?_⟩
            have := hset u' _ (hset' cx hx)
            show repCs w M h _ _
            simpa using this
          · cases hu
        · cases hs1
      | _ => simp [V.upd] at hu
    | _ => simp [V.upd] at hu
end
section
variable {w : World} {O : List Nat}
theorem repDs_set : ∀ (fs : List D) (cs : List Value) (f off : Nat) (u : D) (o : Nat), repDs O w fs cs → fldD fs f off = some (u, o) →
    ∃ c1 c2 c3, cs = c1 ++ c2 ++ c3 ∧ off + c1.length = o ∧ repD O w u c2 ∧ ∀ u' c2', repD O w u' c2' → repDs O w (setN fs f u') (c1 ++ c2' ++ c3)
  | [], cs, f, off, u, o, _, h => by simp [fldD] at h
  | d :: ds, cs, 0, off, u, o, H, h => by
    obtain ⟨c1, c2, rfl, h1, h2⟩ := H
    simp only [fldD, Option.some.injEq, Prod.mk.injEq] at h
    obtain ⟨rfl, rfl⟩ := h
    exact ⟨[], c1, c2, rfl, rfl, h1, fun u' c2' hu => ⟨c2', c2, rfl, hu, h2⟩⟩
  | d :: ds, cs, f + 1, off, u, o, H, h => by
    obtain ⟨c1, c2, rfl, h1, h2⟩ := H
    obtain ⟨p1, p2, p3, rfl, e, hr, hs⟩ := repDs_set ds c2 f (off + d.size) u o h2 h
    refine ⟨c1 ++ p1, p2, p3, by simp, ?_, hr, fun u' c2' hu => ⟨c1, p1 ++ c2' ++ p3, by simp, h1, hs u' c2' hu⟩⟩
    rw [List.length_append, repD_len d c1 h1]
    omega
theorem repD_upd : ∀ (p : List Nat) (v : D) (cs : List Value) (off : Nat) (u : D) (o : Nat) (x v' : D), repD O w v cs → v.sub p off = some (u, o) → v.upd p x = some v' →
    ∃ c1 c2 c3, cs = c1 ++ c2 ++ c3 ∧ off + c1.length = o ∧ repD O w u c2 ∧ ∀ cx, repD O w x cx → repD O w v' (c1 ++ cx ++ c3)
  | [], v, cs, off, u, o, x, v', H, hs, hu => by
    simp only [D.sub, Option.some.injEq, Prod.mk.injEq] at hs
    obtain ⟨rfl, rfl⟩ := hs
    cases v <;> (cases hu; exact ⟨[], cs, [], by simp, rfl, H, fun cx hx => by simpa using hx⟩)
  | i :: p, v, cs, off, u, o, x, v', H, hs, hu => by
    cases v with
    | st fs =>
      simp only [D.sub] at hs
      simp only [D.upd] at hu
      split at hs
      · rename_i u1 o1 h1
        obtain ⟨o', e1, e2⟩ := fldD_off fs i off 0 u1 o1 h1
        rw [e1] at hu
        dsimp only at hu
        split at hu
        · rename_i u' hu'
          cases hu
          obtain ⟨c1, c2, c3, rfl, e, hr, hset⟩ := repDs_set fs cs i off u1 o1 H h1
          obtain ⟨d1, d2, d3, rfl, e', hr', hset'⟩ := repD_upd p u1 c2 o1 u o x u' hr hs hu'
          refine ⟨c1 ++ d1, d2, d3 ++ c3, by simp, by rw [List.length_append]; omega, hr', fun cx hx => ?_⟩
          have := hset u' _ (hset' cx hx)
          show repDs O w _ _
          simpa using this
        · cases hu
      · cases hs
    | int k n => simp [D.sub] at hs
    | bool k => simp [D.sub] at hs
    | str k => simp [D.sub] at hs
    | lst k => simp [D.sub] at hs
    | hole _ _ _ => simp [D.sub] at hs
    | fnv _ => simp [D.sub] at hs
theorem ownDs_set : ∀ (fs : List D) (F : List Nat) (cs : List Value) (f off : Nat) (u : D) (o : Nat), ownDs w fs F cs → fldD fs f off = some (u, o) →
    ∃ F1 F2 F3 c1 c2 c3, F = F1 ++ F2 ++ F3 ∧ cs = c1 ++ c2 ++ c3 ∧ off + c1.length = o ∧ ownD w u F2 c2 ∧ ∀ u' F2' c2', ownD w u' F2' c2' → ownDs w (setN fs f u') (F1 ++ F2' ++ F3) (c1 ++ c2' ++ c3)
  | [], F, cs, f, off, u, o, _, h => by simp [fldD] at h
  | d :: ds, F, cs, 0, off, u, o, H, h => by
    obtain ⟨F1, F2, c1, c2, rfl, rfl, h1, h2⟩ := H
    simp only [fldD, Option.some.injEq, Prod.mk.injEq] at h
    obtain ⟨rfl, rfl⟩ := h
    exact ⟨[], F1, F2, [], c1, c2, rfl, rfl, rfl, h1, fun u' F2' c2' hu => ⟨F2', F2, c2', c2, rfl, rfl, hu, h2⟩⟩
  | d :: ds, F, cs, f + 1, off, u, o, H, h => by
    obtain ⟨F1, F2, c1, c2, rfl, rfl, h1, h2⟩ := H
    obtain ⟨G1, G2, G3, p1, p2, p3, rfl, rfl, e, hr, hs⟩ := ownDs_set ds F2 c2 f (off + d.size) u o h2 h
    refine ⟨F1 ++ G1, G2, G3, c1 ++ p1, p2, p3, by simp, by simp, ?_, hr, fun u' F2' c2' hu => ⟨F1, G1 ++ F2' ++ G3, c1, p1 ++ c2' ++ p3, by simp, by simp, h1, hs u' F2' c2' hu⟩⟩
    rw [List.length_append, repD_len d c1 (ownD_rep (O := []) d F1 c1 (by simp) h1)]
    omega
mutual
theorem flat_F : ∀ (x : D) (F : List Nat) (cs : List Value), x.flat = true → ownD w x F cs → F = []
  | .int k n, F, cs, _, H => H.1
  | .bool b, F, cs, _, H => H.1
  | .str s, F, cs, _, H => H.1
  | .hole _ _ _, F, cs, _, H => H.1
  | .fnv _, F, cs, _, H => H.1
  | .lst xs, F, cs, hf, H => by cases hf
  | .st fs, F, cs, hf, H => flats_F fs F cs hf H
theorem flats_F : ∀ (x : List D) (F : List Nat) (cs : List Value), D.flats x = true → ownDs w x F cs → F = []
  | [], F, cs, _, H => H.1
  | f :: fs, F, cs, hf, H => by
    obtain ⟨F1, F2, c1, c2, rfl, rfl, h1, h2⟩ := H
    simp only [D.flats, Bool.and_eq_true] at hf
    rw [flat_F f F1 c1 hf.1 h1, flats_F fs F2 c2 hf.2 h2]; rfl
end
theorem ownD_upd : ∀ (p : List Nat) (v : D) (F : List Nat) (cs : List Value) (off : Nat) (u : D) (o : Nat) (x v' : D), ownD w v F cs → v.sub p off = some (u, o) → v.upd p x = some v' → u.flat = true →
    ∃ c1 c2 c3, cs = c1 ++ c2 ++ c3 ∧ off + c1.length = o ∧ c2.length = u.size ∧ ∀ cx, ownD w x [] cx → ownD w v' F (c1 ++ cx ++ c3)
  | [], v, F, cs, off, u, o, x, v', H, hs, hu, hf => by
    simp only [D.sub, Option.some.injEq, Prod.mk.injEq] at hs
    obtain ⟨rfl, rfl⟩ := hs
    have hF := flat_F v F cs hf H
    subst hF
    cases v <;> (cases hu; exact ⟨[], cs, [], by simp, rfl, repD_len _ cs (ownD_rep (O := []) _ [] cs (by simp) H), fun cx hx => by simpa using hx⟩)
  | i :: p, v, F, cs, off, u, o, x, v', H, hs, hu, hf => by
    cases v with
    | st fs =>
      simp only [D.sub] at hs
      simp only [D.upd] at hu
      split at hs
      · rename_i u1 o1 h1
        obtain ⟨o', e1, e2⟩ := fldD_off fs i off 0 u1 o1 h1
        rw [e1] at hu
        dsimp only at hu
        split at hu
        · rename_i u' hu'
          cases hu
          obtain ⟨F1, F2, F3, c1, c2, c3, rfl, rfl, e, hr, hset⟩ := ownDs_set fs F cs i off u1 o1 H h1
          obtain ⟨d1, d2, d3, rfl, e', hr', hset'⟩ := ownD_upd p u1 F2 c2 o1 u o x u' hr hs hu' hf
          refine ⟨c1 ++ d1, d2, d3 ++ c3, by simp, by rw [List.length_append]; omega, hr', fun cx hx => ?_⟩
          have := hset u' F2 _ (hset' cx hx)
          show ownDs w _ _ _
          simpa using this
        · cases hu
      · cases hs
    | int k n => simp [D.sub] at hs
    | bool k => simp [D.sub] at hs
    | str k => simp [D.sub] at hs
    | lst k => simp [D.sub] at hs
    | hole _ _ _ => simp [D.sub] at hs
    | fnv _ => simp [D.sub] at hs
end
end Go.Proofs.Ytdeafbgnbgihgaa
