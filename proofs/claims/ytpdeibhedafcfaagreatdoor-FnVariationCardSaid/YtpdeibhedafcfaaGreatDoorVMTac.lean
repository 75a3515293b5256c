/- merged: several parts in one text. Leans on no more than they do. -/
import Derived.Test.YtpdeibhedafcfaaGreatDoorVMK
set_option linter.unusedSimpArgs false
set_option linter.unusedVariables false
namespace Go.Proofs.YtpdeibhedafcfaaGreatDoor
open Go.RowKit
section
variable {w : World}
theorem ownD_part : ∀ (p : List Nat) (v : D) (F : List Nat) (cs : List Value) (off : Nat) (u : D) (o : Nat), ownD w v F cs → v.sub p off = some (u, o) →
  ∃ F1 F2 F3 c1 c2 c3, F = F1 ++ F2 ++ F3 ∧ cs = c1 ++ c2 ++ c3 ∧ ownD w u F2 c2 ∧ ∀ u' F2' v', v.upd p u' = some v' → ownD w u' F2' c2 → ownD w v' (F1 ++ F2' ++ F3) cs
 | [], v, F, cs, off, u, o, H, hs => by
  simp only [D.sub, Option.some.injEq, Prod.mk.injEq] at hs
  obtain ⟨rfl, rfl⟩ := hs
  refine ⟨[], F, [], [], cs, [], by simp, by simp, H, fun u' F2' v' hu hu' => ?_⟩
  have : v' = u' := by cases v <;> (simp only [D.upd, Option.some.injEq] at hu; exact hu.symm)
  subst this
  simpa using hu'
 | i :: p, v, F, cs, off, u, o, H, hs => by
  cases v with
  | st fs =>
   simp only [D.sub] at hs
   split at hs
   ·rename_i u1 o1 h1
    obtain ⟨o', e1, e2⟩ := fldD_off fs i off 0 u1 o1 h1
    obtain ⟨F1, F2, F3, c1, c2, c3, rfl, rfl, e, hr, hset⟩ := ownDs_set fs F cs i off u1 o1 H h1
    obtain ⟨G1, G2, G3, d1, d2, d3, rfl, rfl, hr', hset'⟩ := ownD_part p u1 F2 c2 o1 u o hr hs
    refine ⟨F1 ++ G1, G2, G3 ++ F3, c1 ++ d1, d2, d3 ++ c3, by simp, by simp, hr', fun u' F2' v' hu hu' => ?_⟩
    simp only [D.upd, e1] at hu
    split at hu
    ·rename_i u2 hu2
     cases hu
     have := hset u2 _ _ (hset' u' F2' u2 hu2 hu')
     show ownDs w (setN fs i u2) _ _
     simpa using this
    ·cases hu
   ·cases hs
  | int k n => simp [D.sub] at hs
  | bool k => simp [D.sub] at hs
  | str k => simp [D.sub] at hs
  | lst k => simp [D.sub] at hs
  | hole _ _ _ => simp [D.sub] at hs
  | fnv _ => simp [D.sub] at hs
  | raw _ => simp [D.sub] at hs
theorem ownDe_part {arr : Array Value} {n : Nat} : ∀ (xs : List D) (i0 : Nat) (F : List Nat) (k : Nat) (x : D), ownDe w arr n xs i0 F → xs[k]? = some x →
  ∃ F1 F2 F3 ces, F = F1 ++ F2 ++ F3 ∧ ownD w x F2 ces ∧ ∀ x' F2', ownD w x' F2' ces → ownDe w arr n (xs.set k x') i0 (F1 ++ F2' ++ F3)
 | [], i0, F, k, x, _, hk => by simp at hk
 | y :: xs, i0, F, 0, x, H, hk => by
  simp at hk
  subst hk
  obtain ⟨F1, F2, ces, rfl, h1, h2, h3, h4⟩ := H
  refine ⟨[], F1, F2, ces, by simp, h3, fun x' F2' hx' => ⟨F2', F2, ces, by simp, ?_, h2, hx', h4⟩⟩
  rw [← h1, ← repD_len x' ces (ownD_rep (O := []) x' F2' ces (by simp) hx'), ← repD_len y ces (ownD_rep (O := []) y F1 ces (by simp) h3)]
 | y :: xs, i0, F, k + 1, x, H, hk => by
  obtain ⟨F1, F2, ces, rfl, h1, h2, h3, h4⟩ := H
  obtain ⟨G1, G2, G3, ces', rfl, q1, q2⟩ := ownDe_part xs (i0 + 1) F2 k x h4 (by simpa using hk)
  refine ⟨F1 ++ G1, G2, G3, ces', by simp, q1, fun x' F2' hx' => ?_⟩
  exact ⟨F1, G1 ++ F2' ++ G3, ces, by simp, h1, h2, h3, q2 x' F2' hx'⟩
theorem ownDe_sub {arr : Array Value} {n : Nat} {xs : List D} {F : List Nat} {k : Nat} {x : D} {p : List Nat} {u : D} {o : Nat} {U : D → D} (H : ownDe w arr n xs 0 F) (hk : xs[k]? = some x)
  (hs : x.sub p 0 = some (u, o)) (hu : ∀ u', x.upd p u' = some (U u')) :
  ∃ F1 F2 F3 cs, F = F1 ++ F2 ++ F3 ∧ ownD w u F2 cs ∧ ∀ u' F2', ownD w u' F2' cs → ownDe w arr n (xs.set k (U u')) 0 (F1 ++ F2' ++ F3) := by
 obtain ⟨F1, F2, F3, ces, rfl, h1, h2⟩ := ownDe_part xs 0 F k x H hk
 obtain ⟨G1, G2, G3, c1, c2, c3, rfl, rfl, h3, h4⟩ := ownD_part p x F2 ces 0 u o h1 hs
 refine ⟨F1 ++ G1, G2, G3 ++ F3, c2, by simp, h3, fun u' F2' hu' => ?_⟩
 have := h2 (U u') _ (h4 u' F2' _ (hu u') hu')
 simpa using this
end
section
variable {B : World} {X : List Nat} {N : Nat} {M : MM} {e : Env} {h : List Blk} {a : Act} {w : World}
theorem Rep.out (R : Rep B X N M e h a w) {b k n n1 o : Nat} {xs ys : List D} {x : D} {p : List Nat} {U : D → D} (hb0 : b ≠ 0) (hb : h[b]? = some (.arr n xs true)) (hx : xs[k]? = some x)
  (hs : x.sub p 0 = some (.lst ys, o)) (hu : ∀ u, x.upd p u = some (U u)) (hz : ∀ y ∈ ys, y.size = n1) :
  ∃ g cap sz t n0 M', (ys ≠ [] → n0 = n1) ∧ (cap = 0 ∨ cap * n0 < sz) ∧
   Rep B X N M' e (h.set b (.arr n (xs.set k (U (.hole g ys.length cap))) true) ++ [.arr n0 ys true, .pin h.length g sz t]) a w := by
 have hlen := R.inv.len
 have hbl : b < h.length := (List.getElem?_eq_some_iff.1 hb).1
 obtain ⟨m, hm⟩ := at_lt (xs := M) (k := b) (by rw [hlen]; exact hbl)
 have hbr := R.inv.blk b _ _ hb hm
 cases m with
 | none => exact absurd (show xs = [] from hbr) (by intro q; subst q; simp at hx)
 | some q =>
  obtain ⟨g0, F⟩ := q
  obtain ⟨arr, t0, hg0, hsz, hown⟩ : ∃ arr t, w.heap[g0]? = some (.cells arr t (0, 0)) ∧ xs.length * n ≤ arr.size ∧ (if true = true then ownDe w arr n xs 0 F else F = [] ∧ extDe M.O w arr n xs 0) := hbr
  rw [if_pos rfl] at hown
  obtain ⟨F1, G, F3, cs, rfl, hG, hput⟩ := ownDe_sub hown hx hs hu
  obtain ⟨ad, cap, rfl, l1, l2, l3, hcase⟩ := hG
  -- what all cases need
  have key : ∀ (g sz n0 : Nat) (t : TypeId), holeR g ys.length cap [.slice ad ys.length cap] → BRep w M h (.arr n0 ys true) (mX G) → (sz = 0 ∨ ∃ F' arr1, mX G = some (g, F') ∧ w.heap[g]? = some (.cells arr1 t (0, 0)) ∧ arr1.size + 1 = sz) →
    ∃ M', Rep B X N M' e (h.set b (.arr n (xs.set k (U (.hole g ys.length cap))) true) ++ [.arr n0 ys true, .pin h.length g sz t]) a w := by
   intro g sz n0 t hh hbrG hpin
   let M1 : MM := M.set b (some (g0, F1 ++ F3)) ++ [mX G, none]
   let h1 : List Blk := h.set b (.arr n (xs.set k (U (.hole g ys.length cap))) true) ++ [.arr n0 ys true, .pin h.length g sz t]
   have hO1 : MM.O M1 = MM.O (M.set b (some (g0, F1 ++ F3))) ++ G := by
    show MM.O (M.set b (some (g0, F1 ++ F3)) ++ [mX G, none]) = _
    rw [O_app]
    congr 1
    show mO (mX G) ++ (mO none ++ []) = G
    rw [mO_mX]
    simp [mO]
   have p1 := O_set_perm M b (some (g0, F1 ++ G ++ F3)) (some (g0, F1 ++ F3)) hm
   have p2 := O_perm hm
   have hP : List.Perm (MM.O M1) M.O := by
    rw [hO1]
    refine (p1.append_right G).trans (List.Perm.trans ?_ p2.symm)
    simp only [mO, List.cons_append]
    refine List.Perm.cons _ ?_
    have e1 : List.Perm (F1 ++ F3 ++ MM.O (M.set b none) ++ G) (G ++ (F1 ++ F3 ++ MM.O (M.set b none))) := List.perm_append_comm
    refine e1.trans ?_
    have e2 : List.Perm (G ++ (F1 ++ F3 ++ MM.O (M.set b none))) (F1 ++ (G ++ (F3 ++ MM.O (M.set b none)))) := by
     rw [List.append_assoc F1]
     exact List.perm_append_comm_assoc G F1 _
    refine e2.trans ?_
    simp only [List.append_assoc]
    exact List.Perm.refl _
   have hmem : ∀ y, y ∈ MM.O M1 ↔ y ∈ M.O := fun y => List.Perm.mem_iff hP
   have hM1l : M1.length = h1.length := by simp [M1, h1, hlen]
   have getM : ∀ c, c < h.length → c ≠ b → M1[c]? = M[c]? := fun c hc hcb => by
    show (M.set b _ ++ _)[c]? = _
    rw [List.getElem?_append_left (by simp [hlen]; exact hc), List.getElem?_set_ne (Ne.symm hcb)]
   have getMb : M1[b]? = some (some (g0, F1 ++ F3)) := by
    show (M.set b _ ++ _)[b]? = _
    rw [List.getElem?_append_left (by simp [hlen]; exact hbl), List.getElem?_set_self (by rw [hlen]; exact hbl)]
   have geth : ∀ c, c < h.length → c ≠ b → h1[c]? = h[c]? := fun c hc hcb => by
    show (h.set b _ ++ _)[c]? = _
    rw [List.getElem?_append_left (by simp; exact hc), List.getElem?_set_ne (Ne.symm hcb)]
   have gethb : h1[b]? = some (.arr n (xs.set k (U (.hole g ys.length cap))) true) := by
    show (h.set b _ ++ _)[b]? = _
    rw [List.getElem?_append_left (by simp; exact hbl), List.getElem?_set_self hbl]
   have mv : Mv (fun _ => True) w M h w M1 h1 := {
    ext := fun y hy hlt => ⟨fun hc => hy ((hmem y).1 hc), rfl⟩
    ids := fun c g' F' _ hc => by
     by_cases hcb : c = b
     ·subst hcb
      rw [hm] at hc
      cases hc
      exact ⟨_, getMb⟩
     ·exact ⟨F', by rw [getM c (by rw [← hlen]; exact (List.getElem?_eq_some_iff.1 hc).1) hcb]; exact hc⟩
    row := fun c g' F' arr' t' _ _ hg => ⟨arr', hg, rfl⟩
    nof := fun c g' F' _ hc => by
     by_cases hcb : c = b
     ·subst hcb
      simp [nOf, gethb, hb]
     ·unfold nOf
      rw [geth c (by rw [← hlen]; exact (List.getElem?_eq_some_iff.1 hc).1) hcb]
    sz := Nat.le_refl _ }
   have hI : MInv B.heap.size w M1 h1 := {
    len := hM1l
    blk := fun c kk mm hk hmm => by
     rcases Nat.lt_or_ge c h.length with hc | hc
     ·by_cases hcb : c = b
      ·subst hcb
       rw [gethb] at hk
       rw [getMb] at hmm
       cases hk
       cases hmm
       refine ⟨arr, t0, hg0, by simpa using hsz, ?_⟩
       rw [if_pos rfl]
       have := hput (.hole g ys.length cap) [] ⟨rfl, hh⟩
       simpa using this
      ·rw [geth c hc hcb] at hk
       rw [getM c hc hcb] at hmm
       exact BRep_mv mv (by cases kk <;> first | trivial | exact V.inS_all _ | exact inSE_all _) (fun _ _ => rfl) (R.inv.blk c kk mm hk hmm)
     ·have hk' : ([.arr n0 ys true, .pin h.length g sz t] : List Blk)[c - h.length]? = some kk := by
       have : (h.set b (Blk.arr n (xs.set k (U (.hole g ys.length cap))) true) ++ [.arr n0 ys true, .pin h.length g sz t])[c]? = some kk := hk
       rw [List.getElem?_append_right (by simpa using hc)] at this
       simpa using this
      have hm' : ([mX G, none] : MM)[c - h.length]? = some mm := by
       have : (M.set b (some (g0, F1 ++ F3)) ++ [mX G, none])[c]? = some mm := hmm
       rw [List.getElem?_append_right (by simp [hlen]; exact hc)] at this
       simpa [hlen] using this
      cases hq : c - h.length with
      | zero =>
       rw [hq] at hk' hm'
       simp at hk' hm'
       subst hk'
       subst hm'
       exact BRep_mv mv trivial (fun _ _ => rfl) hbrG
      | succ q =>
       cases q with
       | zero =>
        rw [hq] at hk' hm'
        simp at hk' hm'
        subst hk'
        subst hm'
        rcases hpin with hp | ⟨F', arr1, q1, q2, q3⟩
        ·exact .inl hp
        ·refine .inr ⟨F', arr1, ?_, q2, q3⟩
         show (M.set b (some (g0, F1 ++ F3)) ++ [mX G, none])[h.length]? = _
         rw [List.getElem?_append_right (by simp [hlen])]
         simp [hlen, q1]
       | succ q =>
        rw [hq] at hk'
        simp at hk'
    nd := (List.Perm.nodup_iff hP).2 R.inv.nd
    lo := fun c kk mm hk hmm hl y hy => by
     rcases Nat.lt_or_ge c h.length with hc | hc
     ·by_cases hcb : c = b
      ·subst hcb
       rw [getMb] at hmm
       cases hmm
       refine R.inv.lo c _ _ hb hm rfl y ?_
       simp only [mO, List.mem_cons, List.mem_append] at hy ⊢
       rcases hy with h1 | h1 | h1
       ·exact .inl h1
       ·exact .inr (.inl (.inl h1))
       ·exact .inr (.inr h1)
      ·rw [geth c hc hcb] at hk
       rw [getM c hc hcb] at hmm
       exact R.inv.lo c kk mm hk hmm hl y hy
     ·have hm' : ([mX G, none] : MM)[c - h.length]? = some mm := by
       have : (M.set b (some (g0, F1 ++ F3)) ++ [mX G, none])[c]? = some mm := hmm
       rw [List.getElem?_append_right (by simp [hlen]; exact hc)] at this
       simpa [hlen] using this
      cases hq : c - h.length with
      | zero =>
       rw [hq] at hm'
       simp at hm'
       subst hm'
       rw [mO_mX] at hy
       refine R.inv.lo b _ _ hb hm rfl y ?_
       simp only [mO, List.mem_cons, List.mem_append]
       exact .inr (.inl (.inr hy))
      | succ q =>
       rw [hq] at hm'
       cases q with
       | zero => simp at hm'; subst hm'; simp [mO] at hy
       | succ q => simp at hm'
    hi := fun y hy => R.inv.hi y ((hmem y).1 hy) }
   refine ⟨M1, R.step R.ext hI mv ?_ ?_⟩
   ·exact getM 0 (by omega) (Ne.symm hb0)
   ·exact geth 0 (by omega) (Ne.symm hb0)
  rcases hcase with ⟨rfl, rfl, rfl⟩ | ⟨g, arr1, t, n', F', rfl, hg, hc1, rfl, hown1⟩
  ·obtain ⟨M', R'⟩ := key 0 0 n1 0 ⟨ad, rfl, l1, l2, l3, .inl rfl⟩ rfl (.inl rfl)
   exact ⟨0, 0, 0, 0, n1, M', fun _ => rfl, .inl rfl, R'⟩
  ·obtain ⟨M', R'⟩ := key g (arr1.size + 1) n' t ⟨_, rfl, l1, l2, l3, .inr rfl⟩ ⟨arr1, t, hg, Nat.le_trans (Nat.mul_le_mul_right n' l1) hc1, by rw [if_pos rfl]; exact hown1⟩ (.inr ⟨F', arr1, rfl, hg, rfl⟩)
   refine ⟨g, cap, arr1.size + 1, t, n', M', fun hne => ?_, .inr (by omega), R'⟩
   cases ys with
   | nil => exact absurd rfl hne
   | cons y ys =>
    obtain ⟨_, _, _, _, hy, _⟩ := hown1
    rw [← hy]
    exact hz y (by simp)
theorem Rep.inn (R : Rep B X N M e h a w) {b c j k n n0 o g len cap sz : Nat} {t : TypeId} {xs ys : List D} {x : D} {p : List Nat} {U : D → D} (hb0 : b ≠ 0) (hc0 : c ≠ 0) (hbc : b ≠ c) (hb : h[b]? = some (.arr n xs true)) (hx : xs[k]? = some x)
  (hs : x.sub p 0 = some (.hole g len cap, o)) (hu : ∀ u, x.upd p u = some (U u)) (hc : h[c]? = some (.arr n0 ys true)) (hj : h[j]? = some (.pin c g sz t)) (hl : ys.length = len) (hcap : cap = 0 ∨ cap * n0 < sz) :
  ∃ M', Rep B X N M' (dropE [c] e) ((goneL [c] (dropK [c] h)).set b (.arr n (xs.set k (U (.lst ys))) true)) a w := by
 have hlen := R.inv.len
 have hbl : b < h.length := (List.getElem?_eq_some_iff.1 hb).1
 obtain ⟨m, hm⟩ := at_lt (xs := M) (k := b) (by rw [hlen]; exact hbl)
 have hbr := R.inv.blk b _ _ hb hm
 cases m with
 | none => exact absurd (show xs = [] from hbr) (by intro q; subst q; simp at hx)
 | some q =>
  obtain ⟨g0, F⟩ := q
  obtain ⟨arr, t0, hg0, hsz, hown⟩ : ∃ arr t, w.heap[g0]? = some (.cells arr t (0, 0)) ∧ xs.length * n ≤ arr.size ∧ (if true = true then ownDe w arr n xs 0 F else F = [] ∧ extDe M.O w arr n xs 0) := hbr
  rw [if_pos rfl] at hown
  obtain ⟨F1, G, F3, cs, rfl, hG, hput⟩ := ownDe_sub hown hx hs hu
  obtain ⟨rfl, ad, rfl, l1, l2, l3, l4⟩ := hG
  obtain ⟨mc, hmc⟩ := at_lt (xs := M) (k := c) (by rw [hlen]; exact (List.getElem?_eq_some_iff.1 hc).1)
  have hbc' := R.inv.blk c _ _ hc hmc
  -- what goes back
  have back : ∃ G', (∀ y ∈ G', y ∈ mO mc) ∧ G'.Nodup ∧ ownD w (.lst ys) G' [.slice ad len cap] := by
   by_cases hcap0 : cap = 0
   ·have hys : ys = [] := List.eq_nil_of_length_eq_zero (by omega)
    subst hys
    exact ⟨[], by simp, by simp, ad, cap, by rw [← hl], by omega, l2, l3, .inl ⟨rfl, rfl, hcap0⟩⟩
   ·have ha : ad = some ⟨g, 0, none⟩ := by rcases l4 with q | q; exact absurd q hcap0; exact q
    have hcap' : cap * n0 < sz := by rcases hcap with q | q; exact absurd q hcap0; exact q
    obtain ⟨mj, hmj⟩ := at_lt (xs := M) (k := j) (by rw [hlen]; exact (List.getElem?_eq_some_iff.1 hj).1)
    rcases R.inv.blk j _ _ hj hmj with q | ⟨F2, arr2, q1, q2, q3⟩
    ·omega
    ·rw [hmc] at q1
     cases q1
     obtain ⟨arr3, t3, r1, r2, r3⟩ : ∃ arr t, w.heap[g]? = some (.cells arr t (0, 0)) ∧ ys.length * n0 ≤ arr.size ∧ (if true = true then ownDe w arr n0 ys 0 F2 else F2 = [] ∧ extDe M.O w arr n0 ys 0) := hbc'
     rw [if_pos rfl] at r3
     rw [q2] at r1
     cases r1
     refine ⟨g :: F2, fun y hy => hy, mO_nodup R.inv hmc, ad, cap, by rw [hl], by omega, l2, l3, .inr ⟨g, arr2, t, n0, F2, ha, q2, by omega, rfl, r3⟩⟩
  obtain ⟨G', hG1, hG2, hG3⟩ := back
  have hnew := hput (.lst ys) G' hG3
  have hndb : (g0 :: (F1 ++ [] ++ F3)).Nodup := mO_nodup R.inv hm
  have hdis : ∀ y ∈ G', y ∉ g0 :: (F1 ++ [] ++ F3) := fun y hy hyb => hbc (O_block_inj R.inv hmc hm (hG1 y hy) hyb)
  have hnd : (mO (some (g0, F1 ++ G' ++ F3))).Nodup := by
   have p : List.Perm (g0 :: (F1 ++ G' ++ F3)) (G' ++ (g0 :: (F1 ++ [] ++ F3))) := by
    rw [List.append_nil, List.append_assoc]
    refine (List.Perm.cons g0 (List.perm_append_comm_assoc F1 G' F3)).trans ?_
    exact (List.perm_middle (a := g0) (l₁ := G') (l₂ := F1 ++ F3)).symm
   refine (List.Perm.nodup_iff p).2 (List.nodup_append.2 ⟨hG2, hndb, fun x hx y hy e => ?_⟩)
   subst e
   exact hdis x hx hy
  obtain ⟨M', R', _, _⟩ := R.reset (w' := w) R.ext hm hb0 hb (.inl rfl) [c] [c] (by simpa using Ne.symm hc0) (by simpa using hbc) (by simp) (fun i hi kk hk => by
    simp at hi; subst hi; rw [hc] at hk; cases hk; rfl) (m' := some (g0, F1 ++ G' ++ F3)) hnd
   (fun y hy => by
    simp only [mO, List.mem_cons, List.mem_append] at hy ⊢
    rcases hy with h1 | (h1 | h1) | h1
    ·exact .inl (.inl h1)
    ·exact .inl (.inr (.inl (.inl h1)))
    ·exact .inr (.inl ⟨c, by simp, mc, hmc, hG1 y h1⟩)
    ·exact .inl (.inr (.inr h1)))
   (fun y hy => by
    simp only [mO, List.mem_cons, List.mem_append] at hy
    rcases hy with h1 | (h1 | h1) | h1
    ·exact R.inv.hi y (mem_O hm (by simp [mO, h1]))
    ·exact R.inv.hi y (mem_O hm (by simp [mO, h1]))
    ·exact R.inv.hi y (mem_O hmc (hG1 y h1))
    ·exact R.inv.hi y (mem_O hm (by simp [mO, h1])))
   (Nat.le_refl _) (fun _ _ _ => rfl) (k' := .arr n (xs.set k (U (.lst ys))) true) rfl
   (fun _ g1 F1' e1 => by
    cases e1
    refine ⟨⟨_, rfl⟩, ?_, fun arr1 t1 hg1 => ⟨arr1, hg1, rfl⟩⟩
    simp only [nOf, hb, List.getElem?_set_self hbl])
   (fun M' h' _ => ⟨arr, t0, hg0, by simpa using hsz, by rw [if_pos rfl]; exact hnew⟩)
  exact ⟨M', R'⟩
end
def WeakX (e : Env) (h : List Blk) (S : Env → List Blk → Prop) : Prop := ∀ B X N M a w, Rep B X N M e h a w → ∃ e0 h0 M', S e0 h0 ∧ Rep B X N M' e0 h0 a w
theorem WeakX.of {e e0 : Env} {h h0 : List Blk} {S : Env → List Blk → Prop} (hw : Weak e h e0 h0) (hs : S e0 h0) : WeakX e h S := fun B X N M a w R => by
 obtain ⟨M', R'⟩ := hw _ _ _ _ _ _ R
 exact ⟨e0, h0, M', hs, R'⟩
theorem WeakX.pre {e e0 : Env} {h h0 : List Blk} {S : Env → List Blk → Prop} (hw : Weak e h e0 h0) (hx : WeakX e0 h0 S) : WeakX e h S := fun B X N M a w R => by
 obtain ⟨M', R'⟩ := hw _ _ _ _ _ _ R
 exact hx _ _ _ _ _ _ R'
theorem WeakX.out {e : Env} {h : List Blk} {S : Env → List Blk → Prop} {b k n n1 o : Nat} {xs ys : List D} {x : D} {p : List Nat} {U : D → D} (hb0 : Nat.ble 1 b = true) (hb : h[b]? = some (.arr n xs true)) (hx : xs[k]? = some x)
  (hs : x.sub p 0 = some (.lst ys, o)) (hu : ∀ u, x.upd p u = some (U u)) (hz : ∀ y ∈ ys, y.size = n1)
  (H : ∀ g cap sz t n0, (ys ≠ [] → n0 = n1) → (cap = 0 ∨ cap * n0 < sz) → WeakX e (h.set b (.arr n (xs.set k (U (.hole g ys.length cap))) true) ++ [.arr n0 ys true, .pin h.length g sz t]) S) : WeakX e h S := fun B X N M a w R => by
 have hb1 := Nat.le_of_ble_eq_true hb0
 obtain ⟨g, cap, sz, t, n0, M', q1, q2, R'⟩ := R.out (by omega) hb hx hs hu hz
 exact H g cap sz t n0 q1 q2 _ _ _ _ _ _ R'
theorem Weak.inn {e : Env} {h : List Blk} {b c j k n n0 o g len cap sz : Nat} {t : TypeId} {xs ys : List D} {x : D} {p : List Nat} {U : D → D} (hb0 : Nat.ble 1 b = true) (hc0 : Nat.ble 1 c = true) (hbc : b ≠ c) (hb : h[b]? = some (.arr n xs true)) (hx : xs[k]? = some x)
  (hs : x.sub p 0 = some (.hole g len cap, o)) (hu : ∀ u, x.upd p u = some (U u)) (hc : h[c]? = some (.arr n0 ys true)) (hj : h[j]? = some (.pin c g sz t)) (hl : ys.length = len) (hcap : cap = 0 ∨ cap * n0 < sz) :
  Weak e h (dropE [c] e) ((goneL [c] (dropK [c] h)).set b (.arr n (xs.set k (U (.lst ys))) true)) := fun B X N M a w R =>
 R.inn (by have := Nat.le_of_ble_eq_true hb0; omega) (by have := Nat.le_of_ble_eq_true hc0; omega) hbc hb hx hs hu hc hj hl hcap
theorem ret_rep {P : Program} {tt : TT} (hT : TOk P tt) {B : World} {X : List Nat} {N : Nat} {M : MM} {e : Env} {h : List Blk} {a : Act} {w : World} (R : Rep B X N M e h a w) {fn : Func} {K : V → Prop}
  (hr : retV tt fn.results.toList e h K) : ∃ va cv, K va ∧ rep w M h va cv ∧ (results fn a.tmps).run P w = .ok cv w := by
 obtain ⟨vs, cvs, h1, h2, h3, h4⟩ := res_sound hT R _ _ hr
 match vs, cvs, h2 with
 | [va], [cv], _ =>
  obtain ⟨c', k1, k2⟩ := h3 0 va rfl
  cases k1
  exact ⟨va, cv, h1, k2, run_results h4⟩
 | [], [], _ => exact ⟨.tup [], .tuple #[], h1, ⟨[], rfl, rfl⟩, run_results h4⟩
 | va :: vb :: vs, ca :: cb :: cvs, h2 =>
  dsimp only at h1
  cases hok : okTs (va :: vb :: vs) with
  | false => rw [hok] at h1; exact h1.elim
  | true =>
   rw [hok] at h1
   simp only [cond_true] at h1
   have hall : ∀ (vs : List V) (cs : List Value), vs.length = cs.length → okTs vs = true → (∀ (i : Nat) (v : V), vs[i]? = some v → ∃ c, cs[i]? = some c ∧ rep w M h v c) → repT w M h vs cs := by
    intro vs
    induction vs with
    | nil => intro cs hl _ _; cases cs with
     | nil => rfl
     | cons _ _ => simp at hl
    | cons v vs ih =>
     intro cs hl ho hg
     cases cs with
     | nil => simp at hl
     | cons c cs =>
      simp only [okTs, Bool.and_eq_true] at ho
      obtain ⟨c', q1, q2⟩ := hg 0 v rfl
      cases q1
      exact ⟨c, cs, rfl, rep1_of_rep ho.1 q2, ih cs (by simpa using hl) ho.2 fun i v hi => by simpa using hg (i + 1) v (by simpa using hi)⟩
   exact ⟨_, _, h1, ⟨_, rfl, hall _ _ h2 hok h3⟩, run_results h4⟩
def lastK : List Blk → Nat → Option (Nat × Env × (Nat → Value)) → Option (Nat × Env × (Nat → Value))
 | [], _, r => r
 | .keep e f :: h, i, _ => lastK h (i + 1) (some (i, e, f))
 | .arr _ _ _ :: h, i, r => lastK h (i + 1) r
 | .box _ :: h, i, r => lastK h (i + 1) r
 | .gone :: h, i, r => lastK h (i + 1) r
 | .gho _ _ _ _ _ :: h, i, r => lastK h (i + 1) r
 | .pin _ _ _ _ :: h, i, r => lastK h (i + 1) r
 | .bld _ _ _ :: h, i, r => lastK h (i + 1) r
 | .mp _ _ :: h, i, r => lastK h (i + 1) r
 | .byr _ :: h, i, r => lastK h (i + 1) r
theorem lastK_get : ∀ (h : List Blk) (i : Nat) (r : Option (Nat × Env × (Nat → Value))) (n : Nat) (e : Env) (f : Nat → Value), lastK h i r = some (n, e, f) → r = some (n, e, f) ∨ (i ≤ n ∧ h[n - i]? = some (.keep e f))
 | [], i, r, n, e, f, H => .inl H
 | k :: h, i, r, n, e, f, H => by
  have step : ∀ r', lastK h (i + 1) r' = some (n, e, f) → r' = some (n, e, f) ∨ (i ≤ n ∧ (k :: h)[n - i]? = some (.keep e f)) := fun r' H => by
   rcases lastK_get h (i + 1) r' n e f H with q | ⟨q1, q2⟩
   ·exact .inl q
   ·refine .inr ⟨by omega, ?_⟩
    rw [show n - i = (n - (i + 1)) + 1 by omega, List.getElem?_cons_succ]
    exact q2
  cases k with
  | keep e' f' =>
   rcases step _ H with q | q
   ·cases q
    exact .inr ⟨Nat.le_refl _, by simp⟩
   ·exact .inr q
  | arr _ _ _ => exact step _ H
  | box _ => exact step _ H
  | gone => exact step _ H
  | gho _ _ _ _ _ => exact step _ H
  | pin _ _ _ _ => exact step _ H
  | bld _ _ _ => exact step _ H
  | mp _ _ => exact step _ H
  | byr _ => exact step _ H
def inK (f : Nat → Value) (K : V → Env → List Blk → Prop) (h : List Blk) (va : V) : Prop :=
 match lastK h 0 none with
 | some (n, e, f') => f' = f ∧ K va e (h.set n .gone)
 | none => False
def inQ (tt : TT) (rs : List ResultVar) (f : Nat → Value) (K : V → Env → List Blk → Prop) : Post
 | .normal => fun e h => retV tt rs e h (inK f K h)
 | .ret => fun e h => retV tt rs e h (inK f K h)
 | .exit _ => fun _ _ => False
theorem CallM.inl {P : Program} {tt : TT} (hT : TOk P tt) (hm : P.follows .mixedOrders = true) {f : FuncId} {fn : Func} {c : Code} (hf : P.funcs[f]? = some fn) (hb : fn.body = some c) (hname : (fn.name == "runtime.NumGoroutine") = false)
  (hN : codeB fn.ntmps c = true) {vs : List V} {e : Env} {h : List Blk} {K : V → Env → List Blk → Prop} (hA : Nat.ble vs.length fn.ntmps = true) (e0 : Env) (he0 : ∀ k, gt e0 k = .top ∨ gt e0 k = gt e k)
  (H : ∀ s : Nat → Value, wpC P tt c (inQ tt fn.results.toList s K) (argE 0 vs) (h ++ [.keep e0 s])) : CallM P f vs e h K where
 fn := ⟨fn, hf, hname, by rw [hb]; rfl⟩
 run B X N M a w args R hargs := by
  let s : Nat → Value := fun k => a.tmps.getD k Go.undef
  have hO : MM.O ([none] : MM) = [] := by simp [MM.O, mO]
  have mv : Mv (fun _ => True) w M h w (M ++ [none]) (h ++ [.keep e0 s]) := push_mv R.inv.len (Ext.refl w) R.inv.hi (by rw [hO]; simp)
  have hI : MInv B.heap.size w (M ++ [none]) (h ++ [.keep e0 s]) := R.inv.push R.base (Ext.refl w) rfl (by rw [hO]; simp) (by rw [hO]; simp) (by rw [hO]; simp) (by
   intro b k m hk hmm
   cases b with
   | succ b => simp at hk
   | zero =>
    simp at hk hmm
    subst hk
    subst hmm
    intro k
    refine rep_mv mv _ _ (V.inS_all _) ?_
    rcases he0 k with q | q
    ·rw [q]; trivial
    ·rw [q]; exact R.env k)
  have hlenT : ∀ (vs : List V) (cs : List Value), repT w M h vs cs → cs.length = vs.length := by
   intro vs
   induction vs with
   | nil => intro cs H; cases H; rfl
   | cons v vs ih => intro cs H; obtain ⟨c, cs', rfl, _, h2⟩ := H; simp [ih _ h2]
  have hl := hlenT vs args hargs
  have hA' := Nat.le_of_ble_eq_true hA
  have hargs2 : repT w (M ++ [none]) (h ++ [.keep e0 s]) vs args := by
   have key : ∀ (vs : List V) (cs : List Value), repT w M h vs cs → repT w (M ++ [none]) (h ++ [.keep e0 s]) vs cs := by
    intro vs
    induction vs with
    | nil => intro cs H; exact H
    | cons v vs ih => intro cs H; obtain ⟨c, cs', e, h1, h2⟩ := H; exact ⟨c, cs', e, rep1_mv mv v c (V.inS_all v) h1, ih cs' h2⟩
   exact key vs args hargs
  have R1 : Rep B X fn.ntmps (M ++ [none]) (argE 0 vs) (h ++ [.keep e0 s]) { tmps := args.toArray ++ Array.replicate (fn.ntmps - args.toArray.size) Go.undef, defers := [] } w := {
   ext := R.ext
   inv := hI
   env := fun k => by
    rw [argE_get, if_pos (Nat.zero_le _), Nat.sub_zero]
    split
    ·rename_i v hv
     obtain ⟨cc, k1, k2⟩ := repT_get vs args k v hargs2 hv
     have hk : k < args.length := (List.getElem?_eq_some_iff.1 k1).1
     have : (args.toArray ++ Array.replicate (fn.ntmps - args.toArray.size) Go.undef).getD k Go.undef = cc := by
      rw [Array.getD_eq_getD_getElem?, Array.getElem?_append_left (by simpa using hk)]
      simp [k1]
     dsimp only
     rw [this]
     exact rep_of_rep1 k2
    ·trivial
   sz := by simp; omega
   df := rfl
   fr := fr_push R.fr [none] ▸ R.fr
   fh := fr_push R.fh [Blk.keep e0 s] ▸ R.fh }
  refine calls_of_wp hf hb (wp_mono (code_sound hT hm c _ _ _ _ _ _ hN (H s) R1) fun x a' w' hx => ?_)
  have fin : ∀ (e' : Env) (h' : List Blk) (M' : MM), retV tt fn.results.toList e' h' (inK s K h') → Rep B X fn.ntmps M' e' h' a' w' →
    a'.defers = [] ∧ ∃ cv, (results fn a'.tmps).run P w' = .ok cv w' ∧ ∃ v cv' e' h' M', Ending.returned cv = .returned cv' ∧ K v e' h' ∧ Rep B X N M' e' h' a w' ∧ rep w' M' h' v cv' := by
   intro e' h' M' hr R'
   obtain ⟨va, cv, h1, h2, h3⟩ := ret_rep hT R' hr
   refine ⟨R'.df, cv, h3, ?_⟩
   unfold inK at h1
   split at h1
   ·rename_i n2 e2 f2 hq
    obtain ⟨rfl, h1⟩ := h1
    have hk : h'[n2]? = some (.keep e2 s) := by
     rcases lastK_get h' 0 none n2 e2 _ hq with q | ⟨_, q⟩
     ·cases q
     ·exact q
    have hl' : n2 < h'.length := (List.getElem?_eq_some_iff.1 hk).1
    obtain ⟨m, hm'⟩ := at_lt (xs := M') (k := n2) (by rw [R'.inv.len]; exact hl')
    have hkeep := R'.inv.blk n2 _ _ hk hm'
    have hpos : 0 < n2 := by
     rcases Nat.eq_zero_or_pos n2 with h0 | h0
     ·rw [h0, R'.fh] at hk; cases hk
     ·exact h0
    have hnof : ∀ c, nOf (h'.set n2 .gone) c = nOf h' c := fun c => by
     unfold nOf
     by_cases hc : c = n2
     ·subst hc
      rw [List.getElem?_set_self hl', hk]
     ·rw [List.getElem?_set_ne (Ne.symm hc)]
    have mv' : Mv (fun _ => True) w' M' h' w' M' (h'.set n2 .gone) := {
     ext := fun b hb _ => ⟨hb, rfl⟩
     ids := fun b g F _ hb => ⟨F, hb⟩
     row := fun b g F arr t _ _ hg => ⟨arr, hg, rfl⟩
     nof := fun b g F _ _ => hnof b
     sz := Nat.le_refl _ }
    have hgetn : ∀ (b : Nat) (k : Blk), (h'.set n2 .gone)[b]? = some k → (b = n2 ∧ k = .gone) ∨ h'[b]? = some k := fun b k hk2 => by
     by_cases hc : b = n2
     ·subst hc
      rw [List.getElem?_set_self hl'] at hk2
      cases hk2
      exact .inl ⟨rfl, rfl⟩
     ·rw [List.getElem?_set_ne (Ne.symm hc)] at hk2
      exact .inr hk2
    have hI' : MInv B.heap.size w' M' (h'.set n2 .gone) := {
     len := by simp [R'.inv.len]
     blk := fun b k m hk2 hm2 => by
      rcases hgetn b k hk2 with ⟨_, rfl⟩ | hk3
      ·trivial
      ·exact BRep_mv mv' (by cases k <;> first | trivial | exact V.inS_all _ | exact inSE_all _) (fun _ _ => rfl) (R'.inv.blk b k m hk3 hm2)
     nd := R'.inv.nd
     lo := fun b k m hk2 hm2 hl2 => by
      rcases hgetn b k hk2 with ⟨_, rfl⟩ | hk3
      ·cases hl2
      ·exact R'.inv.lo b k m hk3 hm2 hl2
     hi := R'.inv.hi }
    refine ⟨va, cv, e2, h'.set n2 .gone, M', rfl, h1, ⟨R'.ext, hI', fun k => ?_, R.sz, R.df, R'.fr, ?_⟩, rep_mv mv' _ _ (V.inS_all _) h2⟩
    ·exact rep_mv mv' _ _ (V.inS_all _) (hkeep k)
    ·rw [List.getElem?_set_ne (by omega)]
     exact R'.fh
   ·exact h1.elim
  cases x with
  | normal => obtain ⟨e, h, M, k1, k2⟩ := hx; exact fin e h M k1 k2
  | ret => obtain ⟨e, h, M, k1, k2⟩ := hx; exact fin e h M k1 k2
  | exit id => obtain ⟨e, h, M, k1, k2⟩ := hx; exact k1.elim
  | goto l => exact hx.elim
  | panic => exact hx.elim
  | outgrown => exact hx.elim
theorem CallW.inl {P : Program} {tt : TT} (hT : TOk P tt) (hm : P.follows .mixedOrders = true) {f : FuncId} {fn : Func} {c : Code} (hf : P.funcs[f]? = some fn) (hb : fn.body = some c) (hname : (fn.name == "runtime.NumGoroutine") = false)
  (hN : codeB fn.ntmps c = true) {vs : List V} {e : Env} {h : List Blk} {K : V → Env → List Blk → Prop} (hA : Nat.ble vs.length fn.ntmps = true)
  (H : ∀ s : Nat → Value, wpC P tt c (inQ tt fn.results.toList s K) (argE 0 vs) (h ++ [.keep e s])) : CallW P false f vs e h K :=
 ⟨.inr ⟨rfl, CallM.inl hT hm hf hb hname hN hA e (fun k => .inr rfl) H⟩⟩
theorem Rep.give {B : World} {X : List Nat} {N : Nat} {M : MM} {e : Env} {h : List Blk} {a : Act} {w : World} (R : Rep B X N M e h a w) {b n off len : Nat} {xs : List D} {dp : Bool} {cv : Value} (hb0 : b ≠ 0) (hb : h[b]? = some (.arr n xs dp)) (hl : off + len ≤ xs.length)
  (H : ownR w M h b off len cv) : ∃ M', Rep B X N M' (dropE [b] e) ((dropK [b] h).set b (.arr n [] true)) a w ∧ repD M'.O w (.lst ((xs.drop off).take len)) [cv] := by
 have hbl : b < M.length := by rw [R.inv.len]; exact (List.getElem?_eq_some_iff.1 hb).1
 have hM : M[b]? = some M[b] := List.getElem?_eq_getElem hbl
 generalize M[b] = m0 at hM
 obtain ⟨M', R', -, mv, hO⟩ := R.reset (w' := w) (m' := none) (k' := .arr n [] true) R.ext hM hb0 hb (.inl rfl) [] [b] (by simp) (by simp) (by simp) (by simp) (by simp [mO]) (by simp [mO]) (by simp [mO]) (Nat.le_refl _) (fun _ _ _ => rfl) rfl (fun q => absurd (by simp) q) (fun _ _ _ => rfl)
 simp only [goneL] at R'
 refine ⟨M', R', ?_⟩
 have hout : ∀ x ∈ mO m0, x ∉ MM.O M' := fun x hx hm => by
  rcases hO x hm with q | ⟨c, m, c1, -, c2, c3⟩
  ·simp [mO] at q
  ·exact c1 (O_block_inj R.inv hM c2 hx c3)
 have hsub : ∀ x, x ∉ M.O → x ∉ MM.O M' := fun x hx hm => by
  rcases hO x hm with q | ⟨c, m, -, -, c2, c3⟩
  ·simp [mO] at q
  ·exact hx (mem_O c2 c3)
 obtain ⟨ad, cap, rfl, h1, h2, h3, h4⟩ := H
 have hlen : ((xs.drop off).take len).length = len := by simp; omega
 refine ⟨ad, cap, n, by rw [hlen], by rw [hlen]; exact h1, h2, h3, ?_⟩
 rcases h4 with h4 | ⟨g, F, arr, t, m1, rfl, m3, m4⟩
 ·have : (xs.drop off).take len = [] := by
   have : len = 0 := by omega
   rw [this]; rfl
  rw [this]; trivial
 ·have hn : nOf h b = n := by simp [nOf, hb]
  rw [hn]
  rw [hM] at m1
  cases m1
  obtain ⟨arr', t', k1, k2, k3⟩ := R.inv.blk b _ _ hb hM
  rw [m3] at k1
  cases k1
  have hext : extDe M'.O w arr n xs 0 := by
   cases dp with
   | true =>
    rw [if_pos rfl] at k3
    have key : ∀ (xs : List D) (i : Nat) (F : List Nat), (∀ b ∈ F, b ∉ MM.O M') → ownDe w arr n xs i F → extDe (MM.O M') w arr n xs i := by
     intro xs
     induction xs with
     | nil => intro i F _ _; trivial
     | cons x xs ih =>
      intro i F hF ⟨F1, F2, ces, e, q1, q2, q3, q4⟩
      subst e
      exact ⟨⟨ces, q1, q2, ownD_rep x F1 ces (fun b hb => hF b (by simp [hb])) q3⟩, ih (i + 1) F2 (fun b hb => hF b (by simp [hb])) q4⟩
    exact key xs 0 F (fun b hb => hout b (by simp [mO, hb])) k3
   | false =>
    rw [if_neg (by simp)] at k3
    exact extDe_mv (w' := w) (fun b hb _ => ⟨hsub b hb, rfl⟩) xs 0 k3.2
  refine (repDe_get _ 0).2 fun i x hx => ?_
  have hi : i < len := by have := (List.getElem?_eq_some_iff.1 hx).1; omega
  rw [List.getElem?_take, if_pos hi, List.getElem?_drop] at hx
  obtain ⟨ces, q1, q2, q3⟩ := extDe_get xs 0 hext _ x hx
  refine ⟨g, off * n, ces, rfl, hout g (by simp [mO]), lt_of_heap m3, fun j v hj => ?_, q1, q3⟩
  have := q2 j v hj
  rw [Nat.zero_add, Nat.add_mul, Nat.add_assoc] at this
  rw [Nat.zero_add]
  simp only [World.cell?, m3, Nat.add_assoc]
  exact this
structure Hd (Q : Prop) : Prop where
 out : Q
theorem stg_ {P Q : Prop} (H : Q) (h : Hd Q → P := by
  (intro H
   first
    | ((with_reducible apply IxW.id); apply IxW.map; (focus assumption))
    | ((with_reducible apply IoW.id); apply IoW.at; (focus omega); (focus omega))
    | ((with_reducible apply ArW.id); apply ArW.i64; (focus omega))
    | ((with_reducible apply ArW.id); apply ArW.u64; (focus omega))
    | ((with_reducible apply ArW.id); apply ArW.u32; (focus omega))
    | ((with_reducible apply ArW.id); apply ArW.u8; (focus omega))
    | ((with_reducible apply EqW.id); apply EqW.at; (focus (first | rfl | omega | (simp; done))))
    | ((with_reducible apply FlW.id); apply FlW.map; (focus (intro y; exact ⟨rfl, rfl⟩)))
    | ((with_reducible apply FlW.id); apply FlW.mapX; (focus (intro y; rfl)))
    | ((with_reducible apply SzW.id); apply SzW.map; (focus (intro y; rfl)))
    | ((with_reducible apply ApW.id); apply ApW.at; (focus (first | omega | (simp only [maxLen, List.length_cons, List.length_nil, List.length_map, List.length_append, List.length_take, List.length_drop, Nat.reduceMul, Nat.reduceAdd]; omega) | (simp [maxLen]; done) | (simp [maxLen]; omega))); (focus ((conv => lhs; arg 2; whnf); (first | omega | (simp only [maxLen, List.length_cons, List.length_nil, List.length_map, List.length_append, List.length_take, List.length_drop, Nat.reduceMul, Nat.reduceAdd]; omega) | (simp [maxLen]; done) | (simp [maxLen]; omega)))))
    | ((with_reducible apply MkW.id); apply MkW.at; (focus (first | omega | (simp only [maxLen, List.length_cons, List.length_nil, List.length_map, List.length_append, List.length_take, List.length_drop, Nat.reduceMul, Nat.reduceAdd]; omega) | (simp [maxLen]; done) | (simp [maxLen]; omega))); (focus (first | omega | (simp only [maxLen, List.length_cons, List.length_nil, List.length_map, List.length_append, List.length_take, List.length_drop, Nat.reduceMul, Nat.reduceAdd]; omega) | (simp [maxLen]; done) | (simp [maxLen]; omega))); (focus (first | omega | (simp only [maxLen, List.length_cons, List.length_nil, List.length_map, List.length_append, List.length_take, List.length_drop, Nat.reduceMul, Nat.reduceAdd]; omega) | (simp [maxLen]; done) | (simp [maxLen]; omega))))
    | ((with_reducible apply EoW.id); apply EoW.at; (focus assumption))
    | ((with_reducible apply NzW.id); apply NzW.mk'; (focus omega))
    | ((with_reducible apply OffW.id); apply OffW.at; (focus (first | omega | (simp only [maxLen, List.length_cons, List.length_nil, List.length_map, List.length_append, List.length_take, List.length_drop, Nat.reduceMul, Nat.reduceAdd]; omega) | (simp [maxLen]; done) | (simp [maxLen]; omega))))
    | ((with_reducible apply BnW.id); apply BnW.at; (focus omega))
    | ((with_reducible apply SlW.id); apply SlW.at; (focus (first | omega | (simp only [maxLen, List.length_cons, List.length_nil, List.length_map, List.length_append, List.length_take, List.length_drop, Nat.reduceMul, Nat.reduceAdd]; omega) | (simp [maxLen]; done) | (simp [maxLen]; omega))); (focus (first | omega | (simp only [maxLen, List.length_cons, List.length_nil, List.length_map, List.length_append, List.length_take, List.length_drop, Nat.reduceMul, Nat.reduceAdd]; omega) | (simp [maxLen]; done) | (simp [maxLen]; omega))))
    | ((with_reducible apply TkW.id); apply TkW.at; (focus (first | rfl | exact (List.length_map _).symm | exact List.length_replicate.symm)))
    | ((with_reducible apply LtW.id); apply LtW.at; (focus omega))
    | ((with_reducible apply ChW.id); apply ChW.at; (focus omega); (focus assumption))
    | ((with_reducible apply RegD.id); apply RegD.auto; (focus kernel_rfl))
   (conv => whnf)
   exact H.out)) : P := h ⟨H⟩
theorem br_ {b : Bool} {A B A' B' p q : Prop} (h1 : p → A') (h2 : q → B') (e1 : b = true → p := by (intro h; (try simp only [decide_eq_true_eq, decide_eq_false_iff_not, Bool.not_eq_true', Bool.not_eq_false', bne_iff_ne, ne_eq, beq_iff_eq, bne_eq_false_iff_eq, beq_eq_false_iff_ne, Decidable.not_not, Nat.not_lt, Nat.not_le, Int.not_lt, Int.not_le, Bool.and_eq_true, Bool.and_eq_false_iff, Bool.or_eq_true, Bool.or_eq_false_iff] at h); exact h)) (e2 : b = false → q := by (intro h; (try simp only [decide_eq_true_eq, decide_eq_false_iff_not, Bool.not_eq_true', Bool.not_eq_false', bne_iff_ne, ne_eq, beq_iff_eq, bne_eq_false_iff_eq, beq_eq_false_iff_ne, Decidable.not_not, Nat.not_lt, Nat.not_le, Int.not_lt, Int.not_le, Bool.and_eq_true, Bool.and_eq_false_iff, Bool.or_eq_true, Bool.or_eq_false_iff] at h); exact h))
  (w1 : A' → A := by (intro H; (conv => whnf); exact H)) (w2 : B' → B := by (intro H; (conv => whnf); exact H)) : BIf b A B := BIf.mk (fun h => w1 (h1 (e1 h))) (fun h => w2 (h2 (e2 h)))
section
variable {P : Program} {dr : Bool} {f : FuncId} {vs : List V} {e : Env} {h : List Blk} {K : V → Env → List Blk → Prop} {As : List V} {v : V} {bs : List Blk} {Q : Prop}
theorem cla_ (pc : PC P f As v bs) (H : Q) (hb : borVs h vs As := by ((repeat' (first | exact trivial | with_reducible rfl | ((conv => whnf); first | done | exact trivial | with_reducible rfl | (exact Or.inr ⟨rfl, rfl, rfl, rfl⟩) | (refine Or.inl ⟨_, rfl, ?_⟩) | (refine ⟨rfl, _, rfl, ?_⟩) | (refine ⟨_, _, rfl, ?_, ?_⟩) | (refine ⟨_, rfl, ?_⟩) | ((refine ⟨?_, ?_⟩); (focus (first | (simp; done) | omega)); (focus ((first | rw [List.drop_zero, List.take_of_length_le (Nat.le_of_eq (List.length_map _))] | rw [List.drop_zero, List.take_of_length_le (by omega)] | rfl); done))) | rfl))); (first | done | fail))) (hf : (v.fit (!V.exts vs) && fitBs (!V.exts vs) bs && Nat.ble 1 h.length) = true := by rfl)
  (hk : Q → K (v.shift (h.length - 1)) e (h ++ shiftBs (h.length - 1) bs) := by (intro H; (conv => whnf); exact H)) : CallW P dr f vs e h K := CallW.use pc hb hf (hk H)
theorem cl_ (pc : PC P f As v bs) (H : Q) (hb : borVs h vs As := by ((repeat ((conv => whnf); (refine ⟨_, _, rfl, ?_, ?_⟩); (focus (first | ((conv => whnf); done) | ((conv => whnf); first | exact ⟨_, rfl, rfl⟩ | exact ⟨rfl, _, rfl, rfl⟩))))); (conv => whnf))) (hf : (v.fit (!V.exts vs) && fitBs (!V.exts vs) bs && Nat.ble 1 h.length) = true := by rfl)
  (hk : Q → K (v.shift (h.length - 1)) e (h ++ shiftBs (h.length - 1) bs) := by (intro H; (conv => whnf); exact H)) : CallW P dr f vs e h K := CallW.use pc hb hf (hk H)
end
theorem covT_ {e e' : Env} {h h' : List Blk} (h1 : cov e e' := by repeat' (first | exact trivial | with_reducible rfl | (refine ⟨?_, ?_⟩) | rfl)) (h2 : covH h h' := by repeat' (first | exact trivial | with_reducible rfl | (refine ⟨?_, ?_⟩) | rfl))
  (h3 : (scE h' e' && scH h' h' && (match h' with | .gone :: _ => true | _ => false)) = true := by rfl) : Weak e h e' h' := Weak.cov h1 h2 h3
end Go.Proofs.YtpdeibhedafcfaaGreatDoor