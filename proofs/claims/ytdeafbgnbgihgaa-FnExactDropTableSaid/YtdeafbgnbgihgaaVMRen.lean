/- The abstract machine: two blocks change their numbers. Leans on no program. -/
import Derived.Test.YtdeafbgnbgihgaaVM17
set_option linter.unusedSimpArgs false
set_option linter.unusedVariables false
namespace Go.Proofs.Ytdeafbgnbgihgaa
open Go.RowKit

def swN (i j b : Nat) : Nat := bif Nat.beq b j then i else bif Nat.beq b i then j else b
mutual
def V.sw (i j : Nat) : V → V
  | .own b o l => .own (swN i j b) o l
  | .pB b p o => .pB (swN i j b) p o
  | .pL b k p o => .pL (swN i j b) k p o
  | .fn f caps => .fn f (V.sws i j caps)
  | .st fs => .st (V.sws i j fs)
  | .tup vs => .tup (V.sws i j vs)
  | .top => .top
  | .undef => .undef
  | .d y => .d y
  | .nils => .nils
  | .nilp => .nilp
  | .pX y => .pX y
def V.sws (i j : Nat) : List V → List V
  | [] => []
  | v :: vs => v.sw i j :: V.sws i j vs
end
def swE (i j : Nat) : Env → Env
  | [] => []
  | (k, v) :: r => (k, v.sw i j) :: swE i j r
def Blk.sw (i j : Nat) : Blk → Blk
  | .box v => .box (v.sw i j)
  | .arr n xs dp => .arr n xs dp
  | .gone => .gone
  | .gho _ _ _ _ _ => .gone
  | .pin _ _ _ _ => .gone
  | .keep e f => .keep (swE i j e) f
  | .bld T E bs => .bld T E bs
  | .mp tg es => .mp tg es
def swH (i j : Nat) (h : List Blk) : List Blk := ((h.map (Blk.sw i j)).set i ((h.getD j .gone).sw i j)).set j ((h.getD i .gone).sw i j)
theorem gt_sw (i j : Nat) : ∀ (e : Env) (k : Nat), gt (swE i j e) k = (gt e k).sw i j
  | [], k => rfl
  | (q, v) :: r, k => by
    rw [swE, gt_cons, gt_cons, gt_sw i j r k]
    split <;> rfl
theorem swN_j (i j : Nat) : swN i j j = i := by simp [swN]
theorem swN_i {i j : Nat} : swN i j i = j := by
  by_cases h : i = j
  · subst h; simp [swN]
  · have : Nat.beq i j = false := by cases hb : Nat.beq i j with | false => rfl | true => exact absurd (Nat.eq_of_beq_eq_true hb) h
    simp [swN, this]
theorem swN_o {i j b : Nat} (h1 : b ≠ i) (h2 : b ≠ j) : swN i j b = b := by
  have a : Nat.beq b j = false := by cases hb : Nat.beq b j with | false => rfl | true => exact absurd (Nat.eq_of_beq_eq_true hb) h2
  have c : Nat.beq b i = false := by cases hb : Nat.beq b i with | false => rfl | true => exact absurd (Nat.eq_of_beq_eq_true hb) h1
  simp [swN, a, c]
theorem swN_swN (i j b : Nat) : swN i j (swN i j b) = b := by
  by_cases h1 : b = i
  · rw [h1, swN_i, swN_j]
  · by_cases h2 : b = j
    · rw [h2, swN_j, swN_i]
    · rw [swN_o h1 h2, swN_o h1 h2]
/-- two entries change places -/
theorem swp_get {α : Type} (l : List α) (f : α → α) (z : α) {i j : Nat} (hi : i < l.length) (hj : j < l.length) (b : Nat) : (((l.map f).set i (f (l.getD j z))).set j (f (l.getD i z)))[swN i j b]? = (l[b]?).map f := by
  have e1 : l.getD j z = l[j] := by simp [List.getD, hj]
  have e2 : l.getD i z = l[i] := by simp [List.getD, hi]
  rw [e1, e2]
  by_cases h2 : b = j
  · subst h2
    rw [swN_j]
    by_cases h1 : i = b
    · subst h1; simp [hi]
    · rw [List.getElem?_set_ne (fun e => h1 e.symm), List.getElem?_set_self (by simpa using hi)]
      simp [hj]
  · by_cases h1 : b = i
    · subst h1
      rw [swN_i, List.getElem?_set_self (by simpa using hj)]
      simp [hi]
    · rw [swN_o h1 h2, List.getElem?_set_ne (fun e => h2 e.symm), List.getElem?_set_ne (fun e => h1 e.symm), List.getElem?_map]

section
variable {w : World} {M M' : MM} {h h' : List Blk} {i j : Nat}
structure Sw (i j : Nat) (M M' : MM) (h h' : List Blk) : Prop where
  m : ∀ b, M'[swN i j b]? = M[b]?
  k : ∀ b, h'[swN i j b]? = (h[b]?).map (Blk.sw i j)
  o : ∀ x, x ∈ MM.O M' ↔ x ∈ MM.O M
theorem Sw.nof (S : Sw i j M M' h h') (b : Nat) : nOf h' (swN i j b) = nOf h b := by
  unfold nOf
  rw [S.k b]
  cases h[b]? with
  | none => rfl
  | some k => cases k <;> rfl
theorem Sw.rd (S : Sw i j M M' h h') {x : D} {cs : List Value} (H : repD M.O w x cs) : repD M'.O w x cs := repD_mv (fun b hb _ => ⟨fun hc => hb ((S.o b).1 hc), rfl⟩) x cs H
theorem swn_agg (i j : Nat) : ∀ v : V, (v.sw i j).isAgg = v.isAgg := by intro v; cases v <;> rfl
mutual
theorem repC_sw (S : Sw i j M M' h h') : ∀ (v : V) (cs : List Value), repC w M h v cs → repC w M' h' (v.sw i j) cs
  | .own b o l, cs, H => by
    obtain ⟨cv, e, a, cap, h1, h2, h3, h4, h5⟩ := H
    refine ⟨cv, e, a, cap, h1, h2, h3, h4, ?_⟩
    rcases h5 with h5 | ⟨g, F, arr, t, k1, k2, k3, k4⟩
    · exact .inl h5
    · exact .inr ⟨g, F, arr, t, by rw [S.m]; exact k1, by rw [S.nof]; exact k2, k3, by rw [S.nof]; exact k4⟩
  | .pB b p o, cs, H => by
    obtain ⟨g, F, k1, e⟩ := H
    exact ⟨g, F, by rw [S.m]; exact k1, e⟩
  | .pL b k p o, cs, H => by
    obtain ⟨g, F, k1, e⟩ := H
    exact ⟨g, F, by rw [S.m]; exact k1, by rw [S.nof]; exact e⟩
  | .fn f caps, cs, H => by
    obtain ⟨cvs, e, H⟩ := H
    exact ⟨cvs, e, repK_sw S caps cvs H⟩
  | .st fs, cs, H => repCs_sw S fs cs H
  | .tup vs, cs, H => H.elim
  | .top, cs, H => H
  | .undef, cs, H => H
  | .d y, cs, H => S.rd H
  | .nils, cs, H => H
  | .nilp, cs, H => H
  | .pX y, cs, H => by
    obtain ⟨b, o, ces, e, h1, h2, h3, h4⟩ := H
    exact ⟨b, o, ces, e, fun hc => h1 ((S.o b).1 hc), h2, h3, S.rd h4⟩
theorem repCs_sw (S : Sw i j M M' h h') : ∀ (vs : List V) (cs : List Value), repCs w M h vs cs → repCs w M' h' (V.sws i j vs) cs
  | [], cs, H => H
  | v :: vs, cs, H => by
    obtain ⟨c1, c2, e, h1, h2⟩ := H
    exact ⟨c1, c2, e, repC_sw S v c1 h1, repCs_sw S vs c2 h2⟩
theorem repK_sw (S : Sw i j M M' h h') : ∀ (vs : List V) (cs : List Value), repK w M h vs cs → repK w M' h' (V.sws i j vs) cs
  | [], cs, H => H
  | v :: vs, cs, H => by
    obtain ⟨c1, c2, e, h1, h2⟩ := H
    exact ⟨c1, c2, e, repC_sw S v [c1] h1, repK_sw S vs c2 h2⟩
end
theorem rep1_sw (S : Sw i j M M' h h') {v : V} {cv : Value} (H : rep1 w M h v cv) : rep1 w M' h' (v.sw i j) cv := by
  unfold rep1 at H ⊢
  rw [swn_agg]
  split at H
  · rename_i ha
    rw [if_pos ha]
    obtain ⟨cs, e, H⟩ := H
    exact ⟨cs, e, repC_sw S v cs H⟩
  · rename_i ha
    rw [if_neg ha]
    exact repC_sw S v [cv] H
theorem repT_sw (S : Sw i j M M' h h') : ∀ (vs : List V) (cs : List Value), repT w M h vs cs → repT w M' h' (V.sws i j vs) cs
  | [], cs, H => H
  | v :: vs, cs, H => by
    obtain ⟨c1, c2, e, h1, h2⟩ := H
    exact ⟨c1, c2, e, rep1_sw S h1, repT_sw S vs c2 h2⟩
theorem rep_sw (S : Sw i j M M' h h') {v : V} {cv : Value} (H : rep w M h v cv) : rep w M' h' (v.sw i j) cv := by
  cases v with
  | tup vs =>
    obtain ⟨cvs, e, H⟩ := H
    exact ⟨cvs, e, repT_sw S vs cvs H⟩
  | top => trivial
  | undef => exact H
  | own b o l => exact rep1_sw S H
  | pB b p o => exact rep1_sw S H
  | pL b i p o => exact rep1_sw S H
  | fn f caps => exact rep1_sw S H
  | st fs => exact rep1_sw S H
  | d y => exact rep1_sw S H
  | nils => exact H
  | nilp => exact H
  | pX y => exact rep1_sw S H
theorem entR_sw (S : Sw i j M M' h h') : ∀ (es : List (D × D)) (l : List MapEntry), entR w M h es l → entR w M' h' es l
  | [], l, H => H
  | (k, v) :: es, l, H => by
    obtain ⟨x, l', e, h1, h2, h3⟩ := H
    exact ⟨x, l', e, rep1_of_rep (v := .d k) rfl (rep_sw S (rep_of_rep1 h1)), rep1_of_rep (v := .d v) rfl (rep_sw S (rep_of_rep1 h2)), entR_sw S es l' h3⟩
theorem BRep_sw (S : Sw i j M M' h h') {k : Blk} {m : Option (Nat × List Nat)} (H : BRep w M h k m) : BRep w M' h' (k.sw i j) m := by
  cases k with
  | gone => trivial
  | gho _ _ _ _ _ => trivial
  | pin _ _ _ _ => trivial
  | keep e f =>
    intro k
    rw [gt_sw]
    exact rep_sw S (H k)
  | bld T E bs =>
    cases m with
    | none => exact H
    | some p => exact H
  | mp tg es =>
    cases m with
    | none => exact H
    | some p =>
      obtain ⟨g, F⟩ := p
      obtain ⟨hF, hk, ents, ck, h1, h2⟩ := H
      exact ⟨hF, hk, ents, ck, h1, entR_sw S es _ h2⟩
  | arr n xs dp =>
    cases m with
    | none => exact H
    | some p =>
      obtain ⟨g, F⟩ := p
      obtain ⟨arr, t, h1, h2, h3⟩ := H
      refine ⟨arr, t, h1, h2, ?_⟩
      cases dp with
      | true => exact h3
      | false =>
        rw [if_neg (by simp)] at h3 ⊢
        exact ⟨h3.1, extDe_mv (fun b hb _ => ⟨fun hc => hb ((S.o b).1 hc), rfl⟩) _ _ h3.2⟩
  | box v =>
    cases m with
    | none => exact H
    | some p =>
      obtain ⟨g, F⟩ := p
      obtain ⟨e, arr, t, h1, h2⟩ := H
      exact ⟨e, arr, t, h1, repC_sw S v _ h2⟩
end
theorem O_swap : ∀ (M : MM) {i j : Nat} (hi : i < M.length) (hj : j < M.length), List.Perm (MM.O (((M.map id).set i (M.getD j none)).set j (M.getD i none))) M.O := by
  intro M i j hi hj
  rw [List.map_id]
  have e1 : M.getD j none = M[j] := by simp [List.getD, hj]
  have e2 : M.getD i none = M[i] := by simp [List.getD, hi]
  rw [e1, e2]
  by_cases h : i = j
  · subst h; simp [List.set_set]
  · have p1 := O_perm (M := M) (b := i) (m := M[i]) (by simp [hi])
    have q0 : (M.set i none)[j]? = some M[j] := by rw [List.getElem?_set_ne h]; simp [hj]
    have p2 := O_perm q0
    have q1 : (M.set i M[j])[j]? = some M[j] := by rw [List.getElem?_set_ne h]; simp [hj]
    have p3 := O_set_perm (M.set i M[j]) j M[j] M[i] q1
    have q2 : ((M.set i M[j]).set j none)[i]? = some M[j] := by rw [List.getElem?_set_ne (fun e => h e.symm), List.getElem?_set_self hi]
    have p4 := O_perm q2
    have e3 : ((M.set i M[j]).set j none).set i none = (M.set i none).set j none := by
      rw [List.set_comm _ _ (fun e => h e.symm), List.set_set, List.set_comm _ _ h]
    rw [e3] at p4
    refine (p3.trans ?_).trans p1.symm
    refine List.Perm.append_left _ ?_
    exact p4.trans p2.symm
/-- blocks i and j change their numbers -/
theorem Weak.swap {e : Env} {h : List Blk} (i j : Nat) (h1 : (Nat.ble 1 i && Nat.ble 1 j && Nat.ble (i + 1) h.length && Nat.ble (j + 1) h.length) = true) : Weak e h (swE i j e) (swH i j h) := by
  intro B X N M a w R
  simp only [Bool.and_eq_true] at h1
  obtain ⟨⟨⟨i1, j1⟩, i2⟩, j2⟩ := h1
  have i1 := Nat.le_of_ble_eq_true i1
  have j1 := Nat.le_of_ble_eq_true j1
  have i2 : i < h.length := Nat.le_of_ble_eq_true i2
  have j2 : j < h.length := Nat.le_of_ble_eq_true j2
  have i3 : i < M.length := by rw [R.inv.len]; exact i2
  have j3 : j < M.length := by rw [R.inv.len]; exact j2
  have pm := O_swap M i3 j3
  have hm := swp_get M id none i3 j3
  simp only [id] at hm
  have hk := swp_get h (Blk.sw i j) .gone i2 j2
  have S : Sw i j M (((M.map id).set i (M.getD j none)).set j (M.getD i none)) h (swH i j h) := ⟨fun b => by rw [hm b]; simp, hk, fun x => pm.mem_iff⟩
  have z0 : swN i j 0 = 0 := swN_o (by omega) (by omega)
  have back : ∀ (b : Nat) (k : Blk) (m : Option (Nat × List Nat)), (swH i j h)[b]? = some k → (((M.map id).set i (M.getD j none)).set j (M.getD i none))[b]? = some m →
      ∃ k0, h[swN i j b]? = some k0 ∧ k = k0.sw i j ∧ M[swN i j b]? = some m := fun b k m q1 q2 => by
    have r1 := S.k (swN i j b)
    have r2 := S.m (swN i j b)
    rw [swN_swN] at r1 r2
    rw [q1] at r1
    rw [q2] at r2
    obtain ⟨k0, e1, e2⟩ := Option.map_eq_some_iff.1 r1.symm
    exact ⟨k0, e1, e2.symm, r2.symm⟩
  refine ⟨_, ⟨R.ext, ⟨?_, fun b k m q1 q2 => ?_, pm.nodup_iff.2 R.inv.nd, fun b k m q1 q2 ql => ?_, fun g hg => R.inv.hi g ((S.o g).1 hg)⟩, fun k => ?_, R.sz, R.df, ?_, ?_⟩⟩
  · simp [swH, R.inv.len]
  · obtain ⟨k0, e1, rfl, e2⟩ := back b k m q1 q2
    exact BRep_sw S (R.inv.blk _ k0 m e1 e2)
  · obtain ⟨k0, e1, rfl, e2⟩ := back b k m q1 q2
    exact R.inv.lo _ k0 m e1 e2 (by cases k0 <;> first | rfl | exact ql | cases ql)
  · rw [gt_sw]
    exact rep_sw S (R.env k)
  · have := S.m 0
    rw [z0] at this
    rw [this]; exact R.fr
  · have := S.k 0
    rw [z0, R.fh] at this
    exact this
end Go.Proofs.Ytdeafbgnbgihgaa
