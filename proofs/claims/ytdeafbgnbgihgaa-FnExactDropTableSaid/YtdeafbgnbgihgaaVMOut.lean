/- The abstract machine: the rows inside an element become blocks of their own, and go back. Leans on no program. -/
import Derived.Test.YtdeafbgnbgihgaaVMK
set_option linter.unusedSimpArgs false
set_option linter.unusedVariables false
namespace Go.Proofs.Ytdeafbgnbgihgaa
open Go.RowKit

section
variable {w : World}
/-- a part of something owned, and what stands in its place -/
theorem ownD_part : ∀ (p : List Nat) (v : D) (F : List Nat) (cs : List Value) (off : Nat) (u : D) (o : Nat), ownD w v F cs → v.sub p off = some (u, o) →
    ∃ F1 F2 F3 c1 c2 c3, F = F1 ++ F2 ++ F3 ∧ cs = c1 ++ c2 ++ c3 ∧ ownD w u F2 c2 ∧ ∀ u' F2' v', v.upd p u' = some v' → ownD w u' F2' c2 → ownD w v' (F1 ++ F2' ++ F3) cs
  | [], v, F, cs, off, u, o, H, hs => by
    simp only [D.sub, Option.some.injEq, Prod.mk.injEq] at hs
    obtain ⟨rfl, rfl⟩ := hs
    refine ⟨[], F, [], [], cs, [], by simp, by simp, H, fun u' F2' v' hu hu' => ?_⟩
    have : v' = u' := by cases v <;> (simp only [D.upd, Option.some.injEq] at hu; exact hu.symm)
    subst this
    simpa using hu'
  | i :: p, v, F, cs, off, u, o, H, hs => by
    cases v with
    | st fs =>
      simp only [D.sub] at hs
      split at hs
      · rename_i u1 o1 h1
        obtain ⟨o', e1, e2⟩ := fldD_off fs i off 0 u1 o1 h1
        obtain ⟨F1, F2, F3, c1, c2, c3, rfl, rfl, e, hr, hset⟩ := ownDs_set fs F cs i off u1 o1 H h1
        obtain ⟨G1, G2, G3, d1, d2, d3, rfl, rfl, hr', hset'⟩ := ownD_part p u1 F2 c2 o1 u o hr hs
        refine ⟨F1 ++ G1, G2, G3 ++ F3, c1 ++ d1, d2, d3 ++ c3, by simp, by simp, hr', fun u' F2' v' hu hu' => ?_⟩
        simp only [D.upd, e1] at hu
        split at hu
        · rename_i u2 hu2
          cases hu
          have := hset u2 _ _ (hset' u' F2' u2 hu2 hu')
          show ownDs w (setN fs i u2) _ _
          simpa using this
        · cases hu
      · cases hs
    | int k n => simp [D.sub] at hs
    | bool k => simp [D.sub] at hs
    | str k => simp [D.sub] at hs
    | lst k => simp [D.sub] at hs
    | hole _ _ _ => simp [D.sub] at hs
    | fnv _ => simp [D.sub] at hs
theorem ownDe_part {arr : Array Value} {n : Nat} : ∀ (xs : List D) (i0 : Nat) (F : List Nat) (k : Nat) (x : D), ownDe w arr n xs i0 F → xs[k]? = some x →
    ∃ F1 F2 F3 ces, F = F1 ++ F2 ++ F3 ∧ ownD w x F2 ces ∧ ∀ x' F2', ownD w x' F2' ces → ownDe w arr n (xs.set k x') i0 (F1 ++ F2' ++ F3)
  | [], i0, F, k, x, _, hk => by simp at hk
  | y :: xs, i0, F, 0, x, H, hk => by
    simp at hk
    subst hk
    obtain ⟨F1, F2, ces, rfl, h1, h2, h3, h4⟩ := H
    refine ⟨[], F1, F2, ces, by simp, h3, fun x' F2' hx' => ⟨F2', F2, ces, by simp, ?_, h2, hx', h4⟩⟩
    rw [← h1, ← repD_len x' ces (ownD_rep (O := []) x' F2' ces (by simp) hx'), ← repD_len y ces (ownD_rep (O := []) y F1 ces (by simp) h3)]
  | y :: xs, i0, F, k + 1, x, H, hk => by
    obtain ⟨F1, F2, ces, rfl, h1, h2, h3, h4⟩ := H
    obtain ⟨G1, G2, G3, ces', rfl, q1, q2⟩ := ownDe_part xs (i0 + 1) F2 k x h4 (by simpa using hk)
    refine ⟨F1 ++ G1, G2, G3, ces', by simp, q1, fun x' F2' hx' => ?_⟩
    exact ⟨F1, G1 ++ F2' ++ G3, ces, by simp, h1, h2, h3, q2 x' F2' hx'⟩
/-- part p of element k of an owned row -/
theorem ownDe_sub {arr : Array Value} {n : Nat} {xs : List D} {F : List Nat} {k : Nat} {x : D} {p : List Nat} {u : D} {o : Nat} {U : D → D} (H : ownDe w arr n xs 0 F) (hk : xs[k]? = some x)
    (hs : x.sub p 0 = some (u, o)) (hu : ∀ u', x.upd p u' = some (U u')) :
    ∃ F1 F2 F3 cs, F = F1 ++ F2 ++ F3 ∧ ownD w u F2 cs ∧ ∀ u' F2', ownD w u' F2' cs → ownDe w arr n (xs.set k (U u')) 0 (F1 ++ F2' ++ F3) := by
  obtain ⟨F1, F2, F3, ces, rfl, h1, h2⟩ := ownDe_part xs 0 F k x H hk
  obtain ⟨G1, G2, G3, c1, c2, c3, rfl, rfl, h3, h4⟩ := ownD_part p x F2 ces 0 u o h1 hs
  refine ⟨F1 ++ G1, G2, G3 ++ F3, c2, by simp, h3, fun u' F2' hu' => ?_⟩
  have := h2 (U u') _ (h4 u' F2' _ (hu u') hu')
  simpa using this
end

section
variable {B : World} {X : List Nat} {N : Nat} {M : MM} {e : Env} {h : List Blk} {a : Act} {w : World}
/-- the row at part p of element k becomes a block of its own -/
theorem Rep.out (R : Rep B X N M e h a w) {b k n n1 o : Nat} {xs ys : List D} {x : D} {p : List Nat} {U : D → D} (hb0 : b ≠ 0) (hb : h[b]? = some (.arr n xs true)) (hx : xs[k]? = some x)
    (hs : x.sub p 0 = some (.lst ys, o)) (hu : ∀ u, x.upd p u = some (U u)) (hz : ∀ y ∈ ys, y.size = n1) :
    ∃ g cap sz t n0 M', (ys ≠ [] → n0 = n1) ∧ (cap = 0 ∨ cap * n0 < sz) ∧
      Rep B X N M' e (h.set b (.arr n (xs.set k (U (.hole g ys.length cap))) true) ++ [.arr n0 ys true, .pin h.length g sz t]) a w := by
  have hlen := R.inv.len
  have hbl : b < h.length := (List.getElem?_eq_some_iff.1 hb).1
  obtain ⟨m, hm⟩ := at_lt (xs := M) (k := b) (by rw [hlen]; exact hbl)
  have hbr := R.inv.blk b _ _ hb hm
  cases m with
  | none => exact absurd (show xs = [] from hbr) (by intro q; subst q; simp at hx)
  | some q =>
    obtain ⟨g0, F⟩ := q
    obtain ⟨arr, t0, hg0, hsz, hown⟩ : ∃ arr t, w.heap[g0]? = some (.cells arr t (0, 0)) ∧ xs.length * n ≤ arr.size ∧ (if true = true then ownDe w arr n xs 0 F else F = [] ∧ extDe M.O w arr n xs 0) := hbr
    rw [if_pos rfl] at hown
    obtain ⟨F1, G, F3, cs, rfl, hG, hput⟩ := ownDe_sub hown hx hs hu
    obtain ⟨ad, cap, rfl, l1, l2, l3, hcase⟩ := hG
    -- what all cases need
    have key : ∀ (g sz n0 : Nat) (t : TypeId), holeR g ys.length cap [.slice ad ys.length cap] → BRep w M h (.arr n0 ys true) (mX G) → (sz = 0 ∨ ∃ F' arr1, mX G = some (g, F') ∧ w.heap[g]? = some (.cells arr1 t (0, 0)) ∧ arr1.size + 1 = sz) →
        ∃ M', Rep B X N M' e (h.set b (.arr n (xs.set k (U (.hole g ys.length cap))) true) ++ [.arr n0 ys true, .pin h.length g sz t]) a w := by
      intro g sz n0 t hh hbrG hpin
      let M1 : MM := M.set b (some (g0, F1 ++ F3)) ++ [mX G, none]
      let h1 : List Blk := h.set b (.arr n (xs.set k (U (.hole g ys.length cap))) true) ++ [.arr n0 ys true, .pin h.length g sz t]
      have hO1 : MM.O M1 = MM.O (M.set b (some (g0, F1 ++ F3))) ++ G := by
        show MM.O (M.set b (some (g0, F1 ++ F3)) ++ [mX G, none]) = _
        rw [O_app]
        congr 1
        show mO (mX G) ++ (mO none ++ []) = G
        rw [mO_mX]
        simp [mO]
      have p1 := O_set_perm M b (some (g0, F1 ++ G ++ F3)) (some (g0, F1 ++ F3)) hm
      have p2 := O_perm hm
      have hP : List.Perm (MM.O M1) M.O := by
        rw [hO1]
        refine (p1.append_right G).trans (List.Perm.trans ?_ p2.symm)
        simp only [mO, List.cons_append]
        refine List.Perm.cons _ ?_
        have e1 : List.Perm (F1 ++ F3 ++ MM.O (M.set b none) ++ G) (G ++ (F1 ++ F3 ++ MM.O (M.set b none))) := List.perm_append_comm
        refine e1.trans ?_
        have e2 : List.Perm (G ++ (F1 ++ F3 ++ MM.O (M.set b none))) (F1 ++ (G ++ (F3 ++ MM.O (M.set b none)))) := by
          rw [List.append_assoc F1]
          exact List.perm_append_comm_assoc G F1 _
        refine e2.trans ?_
        simp only [List.append_assoc]
        exact List.Perm.refl _
      have hmem : ∀ y, y ∈ MM.O M1 ↔ y ∈ M.O := fun y => List.Perm.mem_iff hP
      have hM1l : M1.length = h1.length := by simp [M1, h1, hlen]
      have getM : ∀ c, c < h.length → c ≠ b → M1[c]? = M[c]? := fun c hc hcb => by
        show (M.set b _ ++ _)[c]? = _
        rw [List.getElem?_append_left (by simp [hlen]; exact hc), List.getElem?_set_ne (Ne.symm hcb)]
      have getMb : M1[b]? = some (some (g0, F1 ++ F3)) := by
        show (M.set b _ ++ _)[b]? = _
        rw [List.getElem?_append_left (by simp [hlen]; exact hbl), List.getElem?_set_self (by rw [hlen]; exact hbl)]
      have geth : ∀ c, c < h.length → c ≠ b → h1[c]? = h[c]? := fun c hc hcb => by
        show (h.set b _ ++ _)[c]? = _
        rw [List.getElem?_append_left (by simp; exact hc), List.getElem?_set_ne (Ne.symm hcb)]
      have gethb : h1[b]? = some (.arr n (xs.set k (U (.hole g ys.length cap))) true) := by
        show (h.set b _ ++ _)[b]? = _
        rw [List.getElem?_append_left (by simp; exact hbl), List.getElem?_set_self hbl]
      have mv : Mv (fun _ => True) w M h w M1 h1 := {
        ext := fun y hy hlt => ⟨fun hc => hy ((hmem y).1 hc), rfl⟩
        ids := fun c g' F' _ hc => by
          by_cases hcb : c = b
          · subst hcb
            rw [hm] at hc
            cases hc
            exact ⟨_, getMb⟩
          · exact ⟨F', by rw [getM c (by rw [← hlen]; exact (List.getElem?_eq_some_iff.1 hc).1) hcb]; exact hc⟩
        row := fun c g' F' arr' t' _ _ hg => ⟨arr', hg, rfl⟩
        nof := fun c g' F' _ hc => by
          by_cases hcb : c = b
          · subst hcb
            simp [nOf, gethb, hb]
          · unfold nOf
            rw [geth c (by rw [← hlen]; exact (List.getElem?_eq_some_iff.1 hc).1) hcb]
        sz := Nat.le_refl _ }
      have hI : MInv B.heap.size w M1 h1 := {
        len := hM1l
        blk := fun c kk mm hk hmm => by
          rcases Nat.lt_or_ge c h.length with hc | hc
          · by_cases hcb : c = b
            · subst hcb
              rw [gethb] at hk
              rw [getMb] at hmm
              cases hk
              cases hmm
              refine ⟨arr, t0, hg0, by simpa using hsz, ?_⟩
              rw [if_pos rfl]
              have := hput (.hole g ys.length cap) [] ⟨rfl, hh⟩
              simpa using this
            · rw [geth c hc hcb] at hk
              rw [getM c hc hcb] at hmm
              exact BRep_mv mv (by cases kk <;> first | trivial | exact V.inS_all _ | exact inSE_all _) (fun _ _ => rfl) (R.inv.blk c kk mm hk hmm)
          · have hk' : ([.arr n0 ys true, .pin h.length g sz t] : List Blk)[c - h.length]? = some kk := by
              have : (h.set b (Blk.arr n (xs.set k (U (.hole g ys.length cap))) true) ++ [.arr n0 ys true, .pin h.length g sz t])[c]? = some kk := hk
              rw [List.getElem?_append_right (by simpa using hc)] at this
              simpa using this
            have hm' : ([mX G, none] : MM)[c - h.length]? = some mm := by
              have : (M.set b (some (g0, F1 ++ F3)) ++ [mX G, none])[c]? = some mm := hmm
              rw [List.getElem?_append_right (by simp [hlen]; exact hc)] at this
              simpa [hlen] using this
            cases hq : c - h.length with
            | zero =>
              rw [hq] at hk' hm'
              simp at hk' hm'
              subst hk'
              subst hm'
              exact BRep_mv mv trivial (fun _ _ => rfl) hbrG
            | succ q =>
              cases q with
              | zero =>
                rw [hq] at hk' hm'
                simp at hk' hm'
                subst hk'
                subst hm'
                rcases hpin with hp | ⟨F', arr1, q1, q2, q3⟩
                · exact .inl hp
                · refine .inr ⟨F', arr1, ?_, q2, q3⟩
                  show (M.set b (some (g0, F1 ++ F3)) ++ [mX G, none])[h.length]? = _
                  rw [List.getElem?_append_right (by simp [hlen])]
                  simp [hlen, q1]
              | succ q =>
                rw [hq] at hk'
                simp at hk'
        nd := (List.Perm.nodup_iff hP).2 R.inv.nd
        lo := fun c kk mm hk hmm hl y hy => by
          rcases Nat.lt_or_ge c h.length with hc | hc
          · by_cases hcb : c = b
            · subst hcb
              rw [getMb] at hmm
              cases hmm
              refine R.inv.lo c _ _ hb hm rfl y ?_
              simp only [mO, List.mem_cons, List.mem_append] at hy ⊢
              rcases hy with h1 | h1 | h1
              · exact .inl h1
              · exact .inr (.inl (.inl h1))
              · exact .inr (.inr h1)
            · rw [geth c hc hcb] at hk
              rw [getM c hc hcb] at hmm
              exact R.inv.lo c kk mm hk hmm hl y hy
          · have hm' : ([mX G, none] : MM)[c - h.length]? = some mm := by
              have : (M.set b (some (g0, F1 ++ F3)) ++ [mX G, none])[c]? = some mm := hmm
              rw [List.getElem?_append_right (by simp [hlen]; exact hc)] at this
              simpa [hlen] using this
            cases hq : c - h.length with
            | zero =>
              rw [hq] at hm'
              simp at hm'
              subst hm'
              rw [mO_mX] at hy
              refine R.inv.lo b _ _ hb hm rfl y ?_
              simp only [mO, List.mem_cons, List.mem_append]
              exact .inr (.inl (.inr hy))
            | succ q =>
              rw [hq] at hm'
              cases q with
              | zero => simp at hm'; subst hm'; simp [mO] at hy
              | succ q => simp at hm'
        hi := fun y hy => R.inv.hi y ((hmem y).1 hy) }
      refine ⟨M1, R.step R.ext hI mv ?_ ?_⟩
      · exact getM 0 (by omega) (Ne.symm hb0)
      · exact geth 0 (by omega) (Ne.symm hb0)
    rcases hcase with ⟨rfl, rfl, rfl⟩ | ⟨g, arr1, t, n', F', rfl, hg, hc1, rfl, hown1⟩
    · obtain ⟨M', R'⟩ := key 0 0 n1 0 ⟨ad, rfl, l1, l2, l3, .inl rfl⟩ rfl (.inl rfl)
      exact ⟨0, 0, 0, 0, n1, M', fun _ => rfl, .inl rfl, R'⟩
    · obtain ⟨M', R'⟩ := key g (arr1.size + 1) n' t ⟨_, rfl, l1, l2, l3, .inr rfl⟩ ⟨arr1, t, hg, Nat.le_trans (Nat.mul_le_mul_right n' l1) hc1, by rw [if_pos rfl]; exact hown1⟩ (.inr ⟨F', arr1, rfl, hg, rfl⟩)
      refine ⟨g, cap, arr1.size + 1, t, n', M', fun hne => ?_, .inr (by omega), R'⟩
      cases ys with
      | nil => exact absurd rfl hne
      | cons y ys =>
        obtain ⟨_, _, _, _, hy, _⟩ := hown1
        rw [← hy]
        exact hz y (by simp)
/-- and goes back -/
theorem Rep.inn (R : Rep B X N M e h a w) {b c j k n n0 o g len cap sz : Nat} {t : TypeId} {xs ys : List D} {x : D} {p : List Nat} {U : D → D} (hb0 : b ≠ 0) (hc0 : c ≠ 0) (hbc : b ≠ c) (hb : h[b]? = some (.arr n xs true)) (hx : xs[k]? = some x)
    (hs : x.sub p 0 = some (.hole g len cap, o)) (hu : ∀ u, x.upd p u = some (U u)) (hc : h[c]? = some (.arr n0 ys true)) (hj : h[j]? = some (.pin c g sz t)) (hl : ys.length = len) (hcap : cap = 0 ∨ cap * n0 < sz) :
    ∃ M', Rep B X N M' (dropE [c] e) ((goneL [c] (dropK [c] h)).set b (.arr n (xs.set k (U (.lst ys))) true)) a w := by
  have hlen := R.inv.len
  have hbl : b < h.length := (List.getElem?_eq_some_iff.1 hb).1
  obtain ⟨m, hm⟩ := at_lt (xs := M) (k := b) (by rw [hlen]; exact hbl)
  have hbr := R.inv.blk b _ _ hb hm
  cases m with
  | none => exact absurd (show xs = [] from hbr) (by intro q; subst q; simp at hx)
  | some q =>
    obtain ⟨g0, F⟩ := q
    obtain ⟨arr, t0, hg0, hsz, hown⟩ : ∃ arr t, w.heap[g0]? = some (.cells arr t (0, 0)) ∧ xs.length * n ≤ arr.size ∧ (if true = true then ownDe w arr n xs 0 F else F = [] ∧ extDe M.O w arr n xs 0) := hbr
    rw [if_pos rfl] at hown
    obtain ⟨F1, G, F3, cs, rfl, hG, hput⟩ := ownDe_sub hown hx hs hu
    obtain ⟨rfl, ad, rfl, l1, l2, l3, l4⟩ := hG
    obtain ⟨mc, hmc⟩ := at_lt (xs := M) (k := c) (by rw [hlen]; exact (List.getElem?_eq_some_iff.1 hc).1)
    have hbc' := R.inv.blk c _ _ hc hmc
    -- what goes back
    have back : ∃ G', (∀ y ∈ G', y ∈ mO mc) ∧ G'.Nodup ∧ ownD w (.lst ys) G' [.slice ad len cap] := by
      by_cases hcap0 : cap = 0
      · have hys : ys = [] := List.eq_nil_of_length_eq_zero (by omega)
        subst hys
        exact ⟨[], by simp, by simp, ad, cap, by rw [← hl], by omega, l2, l3, .inl ⟨rfl, rfl, hcap0⟩⟩
      · have ha : ad = some ⟨g, 0, none⟩ := by rcases l4 with q | q; exact absurd q hcap0; exact q
        have hcap' : cap * n0 < sz := by rcases hcap with q | q; exact absurd q hcap0; exact q
        obtain ⟨mj, hmj⟩ := at_lt (xs := M) (k := j) (by rw [hlen]; exact (List.getElem?_eq_some_iff.1 hj).1)
        rcases R.inv.blk j _ _ hj hmj with q | ⟨F2, arr2, q1, q2, q3⟩
        · omega
        · rw [hmc] at q1
          cases q1
          obtain ⟨arr3, t3, r1, r2, r3⟩ : ∃ arr t, w.heap[g]? = some (.cells arr t (0, 0)) ∧ ys.length * n0 ≤ arr.size ∧ (if true = true then ownDe w arr n0 ys 0 F2 else F2 = [] ∧ extDe M.O w arr n0 ys 0) := hbc'
          rw [if_pos rfl] at r3
          rw [q2] at r1
          cases r1
          refine ⟨g :: F2, fun y hy => hy, mO_nodup R.inv hmc, ad, cap, by rw [hl], by omega, l2, l3, .inr ⟨g, arr2, t, n0, F2, ha, q2, by omega, rfl, r3⟩⟩
    obtain ⟨G', hG1, hG2, hG3⟩ := back
    have hnew := hput (.lst ys) G' hG3
    have hndb : (g0 :: (F1 ++ [] ++ F3)).Nodup := mO_nodup R.inv hm
    have hdis : ∀ y ∈ G', y ∉ g0 :: (F1 ++ [] ++ F3) := fun y hy hyb => hbc (O_block_inj R.inv hmc hm (hG1 y hy) hyb)
    have hnd : (mO (some (g0, F1 ++ G' ++ F3))).Nodup := by
      have p : List.Perm (g0 :: (F1 ++ G' ++ F3)) (G' ++ (g0 :: (F1 ++ [] ++ F3))) := by
        rw [List.append_nil, List.append_assoc]
        refine (List.Perm.cons g0 (List.perm_append_comm_assoc F1 G' F3)).trans ?_
        exact (List.perm_middle (a := g0) (l₁ := G') (l₂ := F1 ++ F3)).symm
      refine (List.Perm.nodup_iff p).2 (List.nodup_append.2 ⟨hG2, hndb, fun x hx y hy e => ?_⟩)
      subst e
      exact hdis x hx hy
    obtain ⟨M', R', _, _⟩ := R.reset (w' := w) R.ext hm hb0 hb (.inl rfl) [c] [c] (by simpa using Ne.symm hc0) (by simpa using hbc) (by simp) (fun i hi kk hk => by
        simp at hi; subst hi; rw [hc] at hk; cases hk; rfl) (m' := some (g0, F1 ++ G' ++ F3)) hnd
      (fun y hy => by
        simp only [mO, List.mem_cons, List.mem_append] at hy ⊢
        rcases hy with h1 | (h1 | h1) | h1
        · exact .inl (.inl h1)
        · exact .inl (.inr (.inl (.inl h1)))
        · exact .inr (.inl ⟨c, by simp, mc, hmc, hG1 y h1⟩)
        · exact .inl (.inr (.inr h1)))
      (fun y hy => by
        simp only [mO, List.mem_cons, List.mem_append] at hy
        rcases hy with h1 | (h1 | h1) | h1
        · exact R.inv.hi y (mem_O hm (by simp [mO, h1]))
        · exact R.inv.hi y (mem_O hm (by simp [mO, h1]))
        · exact R.inv.hi y (mem_O hmc (hG1 y h1))
        · exact R.inv.hi y (mem_O hm (by simp [mO, h1])))
      (Nat.le_refl _) (fun _ _ _ => rfl) (k' := .arr n (xs.set k (U (.lst ys))) true) rfl
      (fun _ g1 F1' e1 => by
        cases e1
        refine ⟨⟨_, rfl⟩, ?_, fun arr1 t1 hg1 => ⟨arr1, hg1, rfl⟩⟩
        simp only [nOf, hb, List.getElem?_set_self hbl])
      (fun M' h' _ => ⟨arr, t0, hg0, by simpa using hsz, by rw [if_pos rfl]; exact hnew⟩)
    exact ⟨M', R'⟩
end
end Go.Proofs.Ytdeafbgnbgihgaa
