/- The abstract machine, eleventh part: one block is set anew, out of what others owned. Leans on no program. -/
import Derived.Test.YtdeafbgnbgihgaaVM10
set_option linter.unusedSimpArgs false
set_option linter.unusedVariables false
namespace Go.Proofs.Ytdeafbgnbgihgaa
open Go.RowKit

def dropE : List Nat → Env → Env
  | [], e => e
  | k :: ks, e => dropE ks (killE k e)
def dropK : List Nat → List Blk → List Blk
  | [], h => h
  | k :: ks, h => dropK ks (killH k h)
def goneL : List Nat → List Blk → List Blk
  | [], h => h
  | k :: ks, h => goneL ks (h.set k .gone)
def noneL : List Nat → MM → MM
  | [], M => M
  | k :: ks, M => noneL ks (M.set k none)
def dropV : List Nat → V → V
  | [], v => v
  | k :: ks, v => dropV ks (v.kill k)

mutual
theorem V.kill_keeps (x : Nat) (S : Nat → Prop) : ∀ v : V, v.inS S → (v.kill x).inS S
  | .own b o l, h => by unfold V.kill; split; trivial; exact h
  | .pB b p o, h => by unfold V.kill; split; trivial; exact h
  | .pL b i p o, h => by unfold V.kill; split; trivial; exact h
  | .fn _ caps, h => V.kills_keeps x S caps h
  | .st fs, h => V.kills_keeps x S fs h
  | .tup vs, h => V.kills_keeps x S vs h
  | .top, _ => trivial
  | .undef, _ => trivial
  | .d _, _ => trivial
  | .nils, _ => trivial
  | .nilp, _ => trivial
  | .pX _, _ => trivial
theorem V.kills_keeps (x : Nat) (S : Nat → Prop) : ∀ vs : List V, V.inSs S vs → V.inSs S (V.kills x vs)
  | [], _ => trivial
  | v :: vs, h => ⟨V.kill_keeps x S v h.1, V.kills_keeps x S vs h.2⟩
end
mutual
theorem V.inS_and (S T : Nat → Prop) : ∀ v : V, v.inS S → v.inS T → v.inS (fun b => S b ∧ T b)
  | .own b o l, h, k => ⟨h, k⟩
  | .pB b p o, h, k => ⟨h, k⟩
  | .pL b i p o, h, k => ⟨h, k⟩
  | .fn _ caps, h, k => V.inSs_and S T caps h k
  | .st fs, h, k => V.inSs_and S T fs h k
  | .tup vs, h, k => V.inSs_and S T vs h k
  | .top, _, _ => trivial
  | .undef, _, _ => trivial
  | .d _, _, _ => trivial
  | .nils, _, _ => trivial
  | .nilp, _, _ => trivial
  | .pX _, _, _ => trivial
theorem V.inSs_and (S T : Nat → Prop) : ∀ vs : List V, V.inSs S vs → V.inSs T vs → V.inSs (fun b => S b ∧ T b) vs
  | [], _, _ => trivial
  | v :: vs, h, k => ⟨V.inS_and S T v h.1 k.1, V.inSs_and S T vs h.2 k.2⟩
end
mutual
theorem V.inS_imp {S T : Nat → Prop} (H : ∀ b, S b → T b) : ∀ v : V, v.inS S → v.inS T
  | .own b o l, h => H _ h
  | .pB b p o, h => H _ h
  | .pL b i p o, h => H _ h
  | .fn _ caps, h => V.inSs_imp H caps h
  | .st fs, h => V.inSs_imp H fs h
  | .tup vs, h => V.inSs_imp H vs h
  | .top, _ => trivial
  | .undef, _ => trivial
  | .d _, _ => trivial
  | .nils, _ => trivial
  | .nilp, _ => trivial
  | .pX _, _ => trivial
theorem V.inSs_imp {S T : Nat → Prop} (H : ∀ b, S b → T b) : ∀ vs : List V, V.inSs S vs → V.inSs T vs
  | [], _ => trivial
  | v :: vs, h => ⟨V.inS_imp H v h.1, V.inSs_imp H vs h.2⟩
end
theorem dropV_inS0 : ∀ (ks : List Nat) (S : Nat → Prop) (v : V), v.inS S → (dropV ks v).inS (fun b => S b ∧ b ∉ ks)
  | [], S, v, h => V.inS_imp (fun b hb => ⟨hb, by simp⟩) v h
  | k :: ks, S, v, h => by
    have h1 := V.inS_and _ _ _ (V.kill_keeps k S v h) (V.kill_inS k v)
    exact V.inS_imp (fun b hb => ⟨hb.1.1, by simp [hb.1.2, hb.2]⟩) _ (dropV_inS0 ks _ _ h1)
theorem dropV_inS (ks : List Nat) (v : V) : (dropV ks v).inS (fun b => b ∉ ks) := V.inS_imp (fun _ h => h.2) _ (dropV_inS0 ks (fun _ => True) v (V.inS_all v))
theorem rep_dropV {w : World} {M : MM} {h : List Blk} : ∀ (ks : List Nat) (v : V) (cv : Value), rep w M h v cv → rep w M h (dropV ks v) cv
  | [], v, cv, H => H
  | k :: ks, v, cv, H => rep_dropV ks _ cv (rep_kill k v cv H)
theorem repC_dropV {w : World} {M : MM} {h : List Blk} : ∀ (ks : List Nat) (v : V) (cs : List Value), repC w M h v cs → repC w M h (dropV ks v) cs
  | [], v, cs, H => H
  | k :: ks, v, cs, H => repC_dropV ks _ cs (repC_kill k v cs H)
theorem gt_drop : ∀ (ks : List Nat) (e : Env) (k : Nat), gt (dropE ks e) k = dropV ks (gt e k)
  | [], e, k => rfl
  | x :: ks, e, k => by rw [dropE, dropV, gt_drop ks, gt_kill]
def Blk.drop (ks : List Nat) : Blk → Blk
  | .box v => .box (dropV ks v)
  | .arr n xs dp => .arr n xs dp
  | .gone => .gone
  | .gho c s g sz t => bif ks.any (fun x => Nat.beq x 2) then .gone else .gho c s g sz t
  | .pin c g sz t => bif ks.any (fun x => Nat.beq x c) then .gone else .pin c g sz t
  | .keep e f => .keep (dropE ks e) f
  | .bld T E bs => .bld T E bs
  | .mp tg es => .mp tg es
theorem killH_get (x : Nat) : ∀ (h : List Blk) (b : Nat), (killH x h)[b]? = (h[b]?).map (Blk.kill x)
  | [], b => by simp [killH]
  | k :: h, 0 => by simp [killH]
  | k :: h, b + 1 => by simp [killH, killH_get x h b]
theorem killH_len (x : Nat) : ∀ h : List Blk, (killH x h).length = h.length
  | [] => rfl
  | k :: h => by simp [killH, killH_len x h]
theorem dropK_get : ∀ (ks : List Nat) (h : List Blk) (b : Nat), (dropK ks h)[b]? = (h[b]?).map (Blk.drop ks)
  | [], h, b => by
    have : Blk.drop [] = id := by funext k; cases k <;> rfl
    simp [dropK, this]
  | x :: ks, h, b => by
    rw [dropK, dropK_get ks, killH_get, Option.map_map]
    congr 1
    funext k
    cases k with
    | gho c s g sz t =>
      show Blk.drop ks (Blk.kill x (.gho c s g sz t)) = _
      unfold Blk.kill
      cases hx : Nat.beq x 2 with
      | true => simp [Blk.drop, hx]
      | false => simp [Blk.drop, hx]
    | pin c g sz t =>
      show Blk.drop ks (Blk.kill x (.pin c g sz t)) = _
      unfold Blk.kill
      cases hx : Nat.beq x c with
      | true => simp [Blk.drop, hx]
      | false => simp [Blk.drop, hx]
    | _ => rfl
theorem dropK_len : ∀ (ks : List Nat) (h : List Blk), (dropK ks h).length = h.length
  | [], h => rfl
  | x :: ks, h => by rw [dropK, dropK_len ks, killH_len]
theorem goneL_get : ∀ (is : List Nat) (h : List Blk) (b : Nat), (goneL is h)[b]? = if b ∈ is ∧ b < h.length then some .gone else h[b]?
  | [], h, b => by simp [goneL]
  | i :: is, h, b => by
    rw [goneL, goneL_get is]
    by_cases hb : b ∈ is ∧ b < h.length
    · rw [if_pos (by simpa using hb), if_pos ⟨by simp [hb.1], hb.2⟩]
    · rw [if_neg (by simpa using hb)]
      by_cases hi : i = b
      · subst hi
        by_cases hl : i < h.length
        · rw [List.getElem?_set_self hl, if_pos ⟨by simp, hl⟩]
        · rw [if_neg (by simp [hl]), List.getElem?_eq_none (by simp; omega), List.getElem?_eq_none (by omega)]
      · rw [List.getElem?_set_ne hi, if_neg]
        rintro ⟨h1, h2⟩
        rcases List.mem_cons.1 h1 with h1 | h1
        · exact hi h1.symm
        · exact hb ⟨h1, h2⟩
theorem goneL_len : ∀ (is : List Nat) (h : List Blk), (goneL is h).length = h.length
  | [], h => rfl
  | i :: is, h => by rw [goneL, goneL_len is, List.length_set]
theorem noneL_get : ∀ (is : List Nat) (M : MM) (b : Nat), (noneL is M)[b]? = if b ∈ is ∧ b < M.length then some none else M[b]?
  | [], h, b => by simp [noneL]
  | i :: is, h, b => by
    rw [noneL, noneL_get is]
    by_cases hb : b ∈ is ∧ b < h.length
    · rw [if_pos (by simpa using hb), if_pos ⟨by simp [hb.1], hb.2⟩]
    · rw [if_neg (by simpa using hb)]
      by_cases hi : i = b
      · subst hi
        by_cases hl : i < h.length
        · rw [List.getElem?_set_self hl, if_pos ⟨by simp, hl⟩]
        · rw [if_neg (by simp [hl]), List.getElem?_eq_none (by simp; omega), List.getElem?_eq_none (by omega)]
      · rw [List.getElem?_set_ne hi, if_neg]
        rintro ⟨h1, h2⟩
        rcases List.mem_cons.1 h1 with h1 | h1
        · exact hi h1.symm
        · exact hb ⟨h1, h2⟩
theorem noneL_len : ∀ (is : List Nat) (M : MM), (noneL is M).length = M.length
  | [], h => rfl
  | i :: is, h => by rw [noneL, noneL_len is, List.length_set]
theorem O_set_none_sub : ∀ (M : MM) (i : Nat), List.Sublist (MM.O (M.set i none)) M.O
  | [], i => by simp
  | m :: M, 0 => by
    show List.Sublist (MM.O (none :: M)) _
    rw [O_cons, O_cons]
    exact List.sublist_append_right _ _
  | m :: M, i + 1 => by
    show List.Sublist (MM.O (m :: M.set i none)) _
    rw [O_cons, O_cons]
    exact List.Sublist.append_left (O_set_none_sub M i) _
theorem noneL_sub : ∀ (is : List Nat) (M : MM), List.Sublist (MM.O (noneL is M)) M.O
  | [], M => List.Sublist.refl _
  | i :: is, M => (noneL_sub is (M.set i none)).trans (O_set_none_sub M i)

section
variable {B : World} {X : List Nat} {N : Nat} {M : MM} {e : Env} {h : List Blk} {a : Act} {w w' : World}

/-- one block b is set anew: m' is its row and what it holds; the blocks 'is' are taken over, all that refers to 'ks' is forgotten -/
theorem Rep.reset (R : Rep B X N M e h a w) (hx : Ext B w') {b : Nat} {m0 : Option (Nat × List Nat)} (hM : M[b]? = some m0) (hb0 : b ≠ 0) {k0 : Blk} (hk0 : h[b]? = some k0) (hl0 : k0.live = true ∨ m0 = none)
    (is ks : List Nat) (h0 : 0 ∉ is) (hbi : b ∉ is) (hsub : ∀ i ∈ is, i ∈ ks) (hisl : ∀ i ∈ is, ∀ k, h[i]? = some k → k.live = true) {m' : Option (Nat × List Nat)} (hnd : (mO m').Nodup)
    (hL : ∀ x ∈ mO m', x ∈ mO m0 ∨ (∃ i ∈ is, ∃ m, M[i]? = some m ∧ x ∈ mO m) ∨ w.heap.size ≤ x) (hLhi : ∀ x ∈ mO m', x < w'.heap.size) (hws : w.heap.size ≤ w'.heap.size)
    (hch : ∀ x, x < w.heap.size → x ∉ mO m0 → w'.heap[x]? = w.heap[x]?) {k' : Blk} (hkl : k'.live = true)
    (hkeep : b ∉ ks → ∀ g F, m0 = some (g, F) → (∃ F', m' = some (g, F')) ∧ nOf (h.set b k') b = nOf h b ∧ ∀ arr t, w.heap[g]? = some (.cells arr t (0, 0)) → ∃ arr' : Array Value, w'.heap[g]? = some (.cells arr' t (0, 0)) ∧ arr'.size = arr.size)
    (hB : ∀ M' h', (∀ x, x ∉ M.O → x < w.heap.size → x ∉ MM.O M' ∧ w'.heap[x]? = w.heap[x]?) → BRep w' M' h' k' m') :
    ∃ M', Rep B X N M' (dropE ks e) ((goneL is (dropK ks h)).set b k') a w' ∧ M'[b]? = some m' ∧ Mv (fun c => c ∉ ks) w M h w' M' ((goneL is (dropK ks h)).set b k') ∧
      ∀ x ∈ MM.O M', x ∈ mO m' ∨ ∃ c m, c ≠ b ∧ c ∉ is ∧ M[c]? = some m ∧ x ∈ mO m := by
  have hbl : b < M.length := (List.getElem?_eq_some_iff.1 hM).1
  have hlen := R.inv.len
  let M1 := noneL is M
  have hM1 : M1[b]? = some m0 := by rw [noneL_get, if_neg (fun q => hbi q.1)]; exact hM
  have hget : ∀ c m, (M1.set b m')[c]? = some m → c ≠ b → (c ∈ is ∧ m = none) ∨ (c ∉ is ∧ M[c]? = some m) := fun c m hm hc => by
    rw [List.getElem?_set_ne (Ne.symm hc), noneL_get] at hm
    split at hm
    · rename_i q; cases hm; exact .inl ⟨q.1, rfl⟩
    · rename_i q
      refine .inr ⟨fun hi => q ⟨hi, (List.getElem?_eq_some_iff.1 hm).1⟩, hm⟩
  have hrest : ∀ x, x ∈ MM.O (M1.set b none) → ∃ c m, c ≠ b ∧ c ∉ is ∧ M[c]? = some m ∧ x ∈ mO m := fun x hx => by
    obtain ⟨c, m, hm, hxm⟩ := mem_O_get hx
    by_cases hc : c = b
    · subst hc
      rw [List.getElem?_set_self (by rw [noneL_len]; exact hbl)] at hm
      cases hm
      simp [mO] at hxm
    · rw [List.getElem?_set_ne (Ne.symm hc), noneL_get] at hm
      split at hm
      · cases hm; simp [mO] at hxm
      · rename_i q
        exact ⟨c, m, hc, fun hi => q ⟨hi, (List.getElem?_eq_some_iff.1 hm).1⟩, hm, hxm⟩
  have hdisj : ∀ x ∈ mO m', x ∉ MM.O (M1.set b none) := fun x hx hr => by
    obtain ⟨c, m, c1, c2, c3, c4⟩ := hrest x hr
    rcases hL x hx with h1 | ⟨i, hi, m', h1, h2⟩ | h1
    · exact c1 (O_block_inj R.inv hM c3 h1 c4)
    · have := O_block_inj R.inv h1 c3 h2 c4
      subst this
      exact c2 hi
    · have := R.inv.hi x (mem_O c3 c4)
      omega
  have hO : ∀ x, x ∈ MM.O (M1.set b m') → x ∈ mO m' ∨ x ∈ MM.O (M1.set b none) := fun x hx => by
    have p := O_set_perm M1 b m0 m' hM1
    exact (List.mem_append.1 ((List.Perm.mem_iff p).1 hx))
  have hOsub : ∀ x, x ∈ MM.O (M1.set b m') → x ∈ M.O ∨ w.heap.size ≤ x := fun x hx => by
    rcases hO x hx with h1 | h1
    · rcases hL x h1 with h2 | ⟨i, _, m', h2, h3⟩ | h2
      · exact .inl (mem_O hM h2)
      · exact .inl (mem_O h2 h3)
      · exact .inr h2
    · obtain ⟨c, m, _, _, c3, c4⟩ := hrest x h1
      exact .inl (mem_O c3 c4)
  have hext : ∀ x, x ∉ M.O → x < w.heap.size → x ∉ MM.O (M1.set b m') ∧ w'.heap[x]? = w.heap[x]? := fun x hx hlt => by
    refine ⟨fun hc => ?_, hch x hlt fun hc => hx (mem_O hM hc)⟩
    rcases hOsub x hc with h1 | h1
    · exact hx h1
    · omega
  have hother : ∀ c m, c ≠ b → M[c]? = some m → ∀ x ∈ mO m, w'.heap[x]? = w.heap[x]? := fun c m hc hm x hx =>
    hch x (R.inv.hi x (mem_O hm hx)) fun hx0 => hc (O_block_inj R.inv hM hm hx0 hx)
  have hhl : (goneL is (dropK ks h)).length = h.length := by rw [goneL_len, dropK_len]
  have hbh : b < (goneL is (dropK ks h)).length := by rw [hhl, ← hlen]; exact hbl
  have hh : ∀ c k, ((goneL is (dropK ks h)).set b k')[c]? = some k → c ≠ b → (c ∈ is ∧ k = .gone) ∨ (c ∉ is ∧ ∃ k0, h[c]? = some k0 ∧ k = k0.drop ks) := fun c k hk hc => by
    rw [List.getElem?_set_ne (Ne.symm hc), goneL_get] at hk
    split at hk
    · rename_i q; cases hk; exact .inl ⟨q.1, rfl⟩
    · rename_i q
      have hcl : c < (dropK ks h).length := (List.getElem?_eq_some_iff.1 hk).1
      rw [dropK_get] at hk
      obtain ⟨k0, e1, e2⟩ := Option.map_eq_some_iff.1 hk
      exact .inr ⟨fun hi => q ⟨hi, hcl⟩, k0, e1, e2.symm⟩
  have hnof : ∀ c, c ∉ is → c ≠ b → nOf ((goneL is (dropK ks h)).set b k') c = nOf h c := fun c hc hcb => by
    unfold nOf
    rw [List.getElem?_set_ne (Ne.symm hcb), goneL_get, if_neg (fun q => hc q.1), dropK_get]
    cases h[c]? with
    | none => rfl
    | some k =>
      cases k with
      | gho c s g sz t =>
        simp only [Option.map_some, Blk.drop]
        cases ks.any (fun x => Nat.beq x 2) <;> rfl
      | pin c g sz t =>
        simp only [Option.map_some, Blk.drop]
        cases ks.any (fun x => Nat.beq x c) <;> rfl
      | _ => rfl
  have mv : Mv (fun c => c ∉ ks) w M h w' (M1.set b m') ((goneL is (dropK ks h)).set b k') := {
    ext := hext
    ids := fun c g F hc hm => by
      by_cases hcb : c = b
      · subst hcb
        rw [hM] at hm
        obtain ⟨⟨F', e1⟩, _, _⟩ := hkeep hc g F (Option.some.inj hm)
        exact ⟨F', by rw [← e1]; exact List.getElem?_set_self (by rw [noneL_len]; exact hbl)⟩
      · exact ⟨F, by rw [List.getElem?_set_ne (Ne.symm hcb), noneL_get, if_neg (fun q => hc (hsub c q.1))]; exact hm⟩
    row := fun c g F arr t hc hm hg => by
      by_cases hcb : c = b
      · subst hcb
        rw [hM] at hm
        obtain ⟨_, _, e3⟩ := hkeep hc g F (Option.some.inj hm)
        exact e3 arr t hg
      · exact ⟨arr, by rw [hother c _ hcb hm g (by simp [mO])]; exact hg, rfl⟩
    nof := fun c g F hc hm => by
      by_cases hcb : c = b
      · subst hcb
        rw [hM] at hm
        obtain ⟨_, e2, _⟩ := hkeep hc g F (Option.some.inj hm)
        rw [← e2]
        unfold nOf
        rw [List.getElem?_set_self hbh, List.getElem?_set_self (by rw [← hlen]; exact hbl)]
      · exact hnof c (fun hi => hc (hsub c hi)) hcb
    sz := hws }
  have hp := O_set_perm M1 b m0 m' hM1
  refine ⟨M1.set b m', ⟨hx, ⟨by simp [M1, noneL_len, goneL_len, dropK_len, hlen], fun c k m hk hm => ?_, ?_, fun c k m hk hm hl => ?_, fun x hx => ?_⟩, fun k => ?_, R.sz, R.df, ?_, ?_⟩, ?_, mv, fun x hx => (hO x hx).imp id (hrest x)⟩
  · by_cases hcb : c = b
    · subst hcb
      rw [List.getElem?_set_self hbh] at hk
      rw [List.getElem?_set_self (by rw [noneL_len]; exact hbl)] at hm
      cases hk
      cases hm
      exact hB _ _ hext
    · rcases hh c k hk hcb with ⟨_, rfl⟩ | ⟨hc, k1, hk1, rfl⟩
      · trivial
      · rcases hget c m hm hcb with ⟨q, _⟩ | ⟨_, hm'⟩
        · exact absurd q hc
        · have hbr := R.inv.blk c k1 m hk1 hm'
          cases k1 with
          | gone => trivial
          | arr n xs dp => exact BRep_mv (k := .arr n xs dp) mv trivial (hother c m hcb hm') hbr
          | box v =>
            refine BRep_mv (k := .box (dropV ks v)) mv (dropV_inS ks v) (hother c m hcb hm') ?_
            cases m with
            | none => exact hbr
            | some p =>
              obtain ⟨g, F⟩ := p
              obtain ⟨e1, arr, t, e2, e3⟩ := hbr
              exact ⟨e1, arr, t, e2, repC_dropV ks v _ e3⟩
          | gho k2 s2 g2 sz2 t2 =>
            show BRep _ _ _ (Blk.drop ks (.gho k2 s2 g2 sz2 t2)) m
            simp only [Blk.drop]
            cases hk2 : ks.any (fun x => Nat.beq x 2) with
            | true => trivial
            | false =>
              refine BRep_mv (k := .gho k2 s2 g2 sz2 t2) mv (show (2 : Nat) ∉ ks from fun hm2 => ?_) (hother c m hcb hm') hbr
              have : ks.any (fun x => Nat.beq x 2) = true := List.any_eq_true.2 ⟨2, hm2, rfl⟩
              rw [hk2] at this
              cases this
          | pin c2 g2 sz2 t2 =>
            show BRep _ _ _ (Blk.drop ks (.pin c2 g2 sz2 t2)) m
            simp only [Blk.drop]
            cases hk2 : ks.any (fun x => Nat.beq x c2) with
            | true => trivial
            | false =>
              refine BRep_mv (k := .pin c2 g2 sz2 t2) mv (show c2 ∉ ks from fun hm2 => ?_) (hother c m hcb hm') hbr
              have : ks.any (fun x => Nat.beq x c2) = true := List.any_eq_true.2 ⟨c2, hm2, Nat.beq_refl c2⟩
              rw [hk2] at this
              cases this
          | keep e2 f2 =>
            intro k
            rw [gt_drop]
            exact rep_mv mv _ _ (dropV_inS ks _) (rep_dropV ks _ _ (hbr k))
          | bld T E bs => exact BRep_mv (k := .bld T E bs) mv trivial (hother c m hcb hm') hbr
          | mp tg2 es2 => exact BRep_mv (k := .mp tg2 es2) mv trivial (hother c m hcb hm') hbr
  · refine (List.Perm.nodup_iff hp).2 (List.nodup_append.2 ⟨hnd, ?_, fun x hx y hy e => ?_⟩)
    · exact ((O_set_none_sub M1 b).trans (noneL_sub is M)).nodup R.inv.nd
    · subst e; exact hdisj x hx hy
  · intro x hx
    by_cases hcb : c = b
    · subst hcb
      rw [List.getElem?_set_self (by rw [noneL_len]; exact hbl)] at hm
      cases hm
      rcases hL x hx with h1 | ⟨i, hi, m', h1, h2⟩ | h1
      · rcases hl0 with hl0 | hl0
        · exact R.inv.lo c k0 m0 hk0 hM hl0 x h1
        · rw [hl0] at h1; simp [mO] at h1
      · obtain ⟨ki, hki⟩ := at_lt (xs := h) (k := i) (by rw [← hlen]; exact (List.getElem?_eq_some_iff.1 h1).1)
        exact R.inv.lo i ki m' hki h1 (hisl i hi ki hki) x h2
      · exact Nat.le_trans R.base h1
    · rcases hh c k hk hcb with ⟨_, rfl⟩ | ⟨hc, k1, hk1, rfl⟩
      · cases hl
      · rcases hget c m hm hcb with ⟨q, _⟩ | ⟨_, hm'⟩
        · exact absurd q hc
        · exact R.inv.lo c k1 m hk1 hm' (by cases k1 <;> first | rfl | cases hl) x hx
  · rcases hO x hx with h1 | h1
    · exact hLhi x h1
    · obtain ⟨c, m, _, _, c3, c4⟩ := hrest x h1
      exact Nat.lt_of_lt_of_le (R.inv.hi x (mem_O c3 c4)) hws
  · rw [gt_drop]
    exact rep_mv mv _ _ (dropV_inS ks _) (rep_dropV ks _ _ (R.env k))
  · rw [List.getElem?_set_ne hb0, noneL_get, if_neg (fun q => h0 q.1)]
    exact R.fr
  · rw [List.getElem?_set_ne hb0, goneL_get, if_neg (fun q => h0 q.1), dropK_get, R.fh]
    rfl
  · exact List.getElem?_set_self (by rw [noneL_len]; exact hbl)

/-- a place for a new block -/
theorem Rep.room (R : Rep B X N M e h a w) : Rep B X N (M ++ [none]) e (h ++ [.gone]) a w := by
  have hO : MM.O [none] = [] := rfl
  have mv : Mv (fun _ => True) w M h w (M ++ [none]) (h ++ [.gone]) := push_mv R.inv.len (Ext.refl w) R.inv.hi (by rw [hO]; simp)
  refine R.step R.ext (R.inv.push R.base (Ext.refl w) rfl (by rw [hO]; simp) (by rw [hO]; simp) (by rw [hO]; simp) ?_) mv (fr_push R.fr _) (fr_push R.fh _)
  intro b k m hk hm
  cases b with
  | zero => simp at hk; subst hk; trivial
  | succ b => simp at hk
end
end Go.Proofs.Ytdeafbgnbgihgaa
