/- merged: several parts in one text. Leans on no more than they do. -/
import Derived.Test.YtcachhipflibkaaGreatVMBuild
/- The abstract machine, twelfth part: operations in a row, in the text's order or in any order. Leans on no program. -/
set_option linter.unusedSimpArgs false
set_option linter.unusedVariables false
namespace Go.Proofs.YtcachhipflibkaaGreat
open Go.RowKit

def pt (d : Option Tmp) (v : V) (e : Env) : Env :=
  match d with
  | some d => (d, v) :: e
  | none => e
def okTs : List V → Bool
  | [] => true
  | v :: vs => v.okc && okTs vs
/-- functions whose calls may change blocks that are there, in regions drawn in any order too -/
def modFs : List Nat := [999999, 999999]
def modF (f : Nat) : Bool := modFs.any (Nat.beq f)
/-- it changes blocks that are there -/
def isMod (o : Oper) : Bool :=
  match o.op with
  | .store _ _ _ => true
  | .mapUpdate _ _ _ _ => true
  | .call { callee := .builtin .append, .. } => true
  | .call { callee := .value (.func f), .. } => modF f
  | _ => false
structure LtW (k n : Nat) (K : Prop) : Prop where
  ex : k < n ∧ K
/-- a whole element is stored, and its memory taken over -/
def setV (tt : TT) (t : Nat) (p x : V) (e : Env) (h : List Blk) (K : Env → List Blk → Prop) : Prop :=
  match tt t, p with
  | some i, .pL b k [] off => match h[b]? with
    | some (.arr n xs true) => bif Nat.beq off 0 && Nat.beq i.size n && x.okc && Nat.beq x.size n then
        LtW k xs.length (tkV h x fun z is => bif nodupB is && !is.any (Nat.beq b) then K (dropE is e) ((goneL is (dropK is h)).set b (.arr n (xs.set k z) true)) else False)
      else False
    | _ => False
  | _, _ => False
def isWhole : V → V → Bool
  | .pL _ _ [] _, .d x => !x.flat
  | .pL _ _ [] _, .st _ => true
  | .pL _ _ [] _, .own _ _ _ => true
  | .pL _ _ [] _, .nils => true
  | _, _ => false
def loudV (P : Program) (tt : TT) (dr : Bool) (o : Oper) (e : Env) (h : List Blk) (K : V → Env → List Blk → Prop) : Prop :=
  match o.op with
  | .alloc t => allocV tt t h fun v h' => K v e h'
  | .box t x => boxV tt t (ev e x) h fun v h' => K v e h'
  | .store t p x => bif isWhole (ev e p) (ev e x) then setV tt t (ev e p) (ev e x) e h (fun e' h' => K .undef e' h') else storeV tt t (ev e p) (ev e x) h fun h' => K .undef e h'
  | .makeSlice t n c => makeV tt t (ev e n) (ev e c) h fun v h' => K v e h'
  | .makeMap t none => makeMapV tt t h fun v h' => K v e h'
  | .mapUpdate t m k x => mapV tt t (ev e m) (ev e k) (ev e x) h fun h' => K .undef e h'
  | .buildSlice t n ⟨ps⟩ => litV tt t n ps e h K
  | .build t ⟨ps⟩ => buildV tt t ps e fun v => K v e h
  | .call { callee := .builtin .append, args := ⟨[s, x]⟩, argTypes := ⟨[t, tx]⟩ } => appW tt t tx (ev e s) (ev e x) e h K
  | .call { callee := .value f, args := ⟨xs⟩, .. } => match ev e f with
    | .fn (.func fid) caps => bif okTs (evs e xs) && capsOK caps then CallW P (dr && !isMod o) fid (evs e xs ++ caps) e h K else False
    | .d (.fnv (.func fid)) => bif okTs (evs e xs) then CallW P (dr && !isMod o) fid (evs e xs ++ []) e h K else False
    | _ => False
  | _ => False

section
variable {P : Program} {tt : TT} {B : World} {X : List Nat} {N : Nat} {M : MM} {e : Env} {h : List Blk} {a : Act} {w : World}

theorem gt_cons (k : Nat) (v : V) (e : Env) (i : Nat) : gt ((k, v) :: e) i = if k = i then v else gt e i := by
  show (bif Nat.beq k i then v else gt e i) = _
  by_cases hk : k = i
  · subst hk; simp
  · rw [if_neg hk]
    have : Nat.beq k i = false := by
      cases hb : Nat.beq k i with
      | false => rfl
      | true => exact absurd (Nat.eq_of_beq_eq_true hb) hk
    rw [this]; rfl
theorem Rep.put (R : Rep B X N M e h a w) {d : Option Tmp} (hd : ∀ k, d = some k → k < N) {v : V} {cv : Value} (hv : rep w M h v cv) : Rep B X N M (pt d v e) h (a.put d cv) w := by
  cases d with
  | none => exact R
  | some d =>
    have hlt : d < a.tmps.size := by rw [R.sz]; exact hd d rfl
    refine ⟨R.ext, R.inv, fun k => ?_, by simp [Act.put, R.sz], R.df, R.fr, R.fh⟩
    show rep w M h (gt ((d, v) :: e) k) _
    rw [gt_cons]
    by_cases hk : d = k
    · subst hk
      rw [if_pos rfl]
      simp only [Act.put, Array.getD_eq_getD_getElem?]
      rw [Array.getElem?_setIfInBounds_self_of_lt hlt]
      exact hv
    · rw [if_neg hk]
      have := R.env k
      simp only [Act.put, Array.getD_eq_getD_getElem?] at this ⊢
      rw [Array.getElem?_setIfInBounds_ne hk]
      exact this
theorem Rep.know (R : Rep B X N M e h a w) {d : Nat} {v : V} (hv : rep w M h v (a.tmps.getD d Go.undef)) : Rep B X N M ((d, v) :: e) h a w :=
  ⟨R.ext, R.inv, fun k => by
    rw [gt_cons]
    by_cases hk : d = k
    · subst hk; rw [if_pos rfl]; exact hv
    · rw [if_neg hk]; exact R.env k, R.sz, R.df, R.fr, R.fh⟩

theorem evs_repT (R : Rep B X N M e h a w) : ∀ (xs : List Operand), (∀ x ∈ xs, cOK x = true) → okTs (evs e xs) = true → repT w M h (evs e xs) (xs.map a.eval)
  | [], _, _ => rfl
  | x :: xs, hc, ho => by
    simp only [evs, okTs, Bool.and_eq_true] at ho
    exact ⟨a.eval x, xs.map a.eval, rfl, rep1_of_rep ho.1 (ev_rep R.env x (hc x (by simp))), evs_repT R xs (fun y hy => hc y (by simp [hy])) ho.2⟩
theorem repT_app : ∀ (vs : List V) (cs : List Value) (us : List V) (ds : List Value), repT w M h vs cs → repT w M h us ds → repT w M h (vs ++ us) (cs ++ ds)
  | [], cs, us, ds, H, H' => by cases H; exact H'
  | v :: vs, cs, us, ds, H, H' => by
    obtain ⟨c, cs', rfl, h1, h2⟩ := H
    exact ⟨c, cs' ++ ds, rfl, h1, repT_app vs cs' us ds h2 H'⟩
theorem repT_caps : ∀ (vs : List V) (cs : List Value), capsOK vs = true → repK w M h vs cs → repT w M h vs cs
  | [], cs, _, H => H
  | v :: vs, cs, ho, H => by
    simp only [capsOK, Bool.and_eq_true, Bool.not_eq_true'] at ho
    obtain ⟨c, cs', rfl, h1, h2⟩ := H
    refine ⟨c, cs', rfl, ?_, repT_caps vs cs' ho.2 h2⟩
    unfold rep1
    rw [if_neg (by rw [ho.1.2]; simp)]
    exact h1

theorem set_sound (hT : TOk P tt) (R : Rep B X N M e h a w) {t : Nat} {p x : V} {cp cx : Value} (hp : rep w M h p cp) (hx : rep w M h x cx) {K : Env → List Blk → Prop} (H : setV tt t p x e h K) :
    ∃ e' h' M' w', K e' h' ∧ (Instr.storeAt t cp cx).run P w = .ok () w' ∧ Rep B X N M' e' h' a w' := by
  unfold setV at H
  split at H
  · rename_i i b k off hi
    obtain ⟨g, F, hM, rfl⟩ := rep_pL.1 hp
    split at H
    · rename_i n xs hc
      cases hq : (Nat.beq off 0 && Nat.beq i.size n && x.okc && Nat.beq x.size n) with
      | false => rw [hq] at H; exact H.elim
      | true =>
        rw [hq] at H
        simp only [Bool.and_eq_true, nbeq] at hq
        obtain ⟨⟨⟨rfl, q2⟩, q3⟩, q4⟩ := hq
        simp only [cond_true] at H
        obtain ⟨⟨hk, H⟩⟩ := H
        have hn0 : nOf h b = n := by simp [nOf, hc]
        have hxc := rep1_cells (rep1_of_rep q3 hx)
        obtain ⟨z, is, Fz, kK, z1, z2, z3, z4, z5⟩ := tk_sound R.inv x _ _ H hxc
        cases hqi : (nodupB is && !is.any (Nat.beq b)) with
        | false => rw [hqi] at kK; exact kK.elim
        | true =>
          rw [hqi] at kK
          simp only [cond_true] at kK
          simp only [Bool.and_eq_true, Bool.not_eq_true', List.any_eq_false] at hqi
          have hbi : b ∉ is := fun hi => hqi.2 b hi (Nat.beq_refl b)
          have hFz := z3 (nodupB_spec is hqi.1)
          have hb0 : b ≠ 0 := fun e0 => by
            subst e0
            rw [R.fh] at hc
            cases hc
          obtain ⟨arr, t', hg, hsz, hel⟩ := R.inv.blk b _ _ hc hM
          rw [if_pos rfl] at hel
          have hlx := repC_len x _ hxc
          rw [Array.length_toList] at hlx
          have hkn : (k + 1) * n ≤ xs.length * n := Nat.mul_le_mul_right _ hk
          rw [Nat.succ_mul] at hkn
          have e1 : arr.toList = arr.toList.take (k * n) ++ (arr.toList.drop (k * n)).take n ++ arr.toList.drop (k * n + n) := split3 _ _ _
          have hrun := run_store_row (P := P) (hT t i hi) hg (cx := cx) (by omega) (repC_one x _ hxc) e1 (o := k * n) (by simp; omega) (by simp; omega)
          have hsz2 : (arr.toList.take (k * n) ++ cx.cells.toList ++ arr.toList.drop (k * n + n)).toArray.size = arr.size := by simp; omega
          have hget : ∀ j, (arr.toList.take (k * n) ++ cx.cells.toList ++ arr.toList.drop (k * n + n)).toArray[j]? = if k * n ≤ j ∧ j < k * n + n then cx.cells.toList[j - k * n]? else arr[j]? := by
            intro j
            rw [List.getElem?_toArray, List.append_assoc]
            have ht : (arr.toList.take (k * n)).length = k * n := by simp; omega
            by_cases j1 : j < k * n
            · rw [List.getElem?_append_left (by omega), if_neg (by omega), List.getElem?_take, if_pos j1, Array.getElem?_toList]
            · rw [List.getElem?_append_right (by omega), ht]
              by_cases j2 : j < k * n + n
              · rw [List.getElem?_append_left (by simp; omega), if_pos ⟨by omega, j2⟩]
              · rw [List.getElem?_append_right (by simp; omega), if_neg (by omega), List.getElem?_drop, Array.getElem?_toList]
                congr 1
                simp
                omega
          have key : ∃ F1 F2 F3, F = F1 ++ F2 ++ F3 ∧ ownDe w (arr.toList.take (k * n) ++ cx.cells.toList ++ arr.toList.drop (k * n + n)).toArray n (xs.set k z) 0 (F1 ++ Fz ++ F3) := by
            have hsplit : xs = xs.take k ++ xs.drop k := (List.take_append_drop k xs).symm
            have htl : (xs.take k).length = k := by simp; omega
            have hd : xs.drop k = xs[k] :: xs.drop (k + 1) := List.drop_eq_getElem_cons hk
            rw [hsplit, hd] at hel
            obtain ⟨F1, F23, rfl, m1, F2, F3, ces, rfl, m2, m3, m4, m5⟩ := (ownDe_app _ _ _ _).1 hel
            refine ⟨F1, F2, F3, by simp, ?_⟩
            have hset : xs.set k z = xs.take k ++ z :: xs.drop (k + 1) := by
              rw [List.set_eq_take_append_cons_drop, if_pos hk]
            rw [hset]
            rw [show F1 ++ Fz ++ F3 = F1 ++ (Fz ++ F3) from List.append_assoc _ _ _]
            refine (ownDe_app _ _ _ _).2 ⟨F1, Fz ++ F3, rfl, ownDe_at _ 0 0 F1 (fun c hc' j hj => ?_) m1, Fz, F3, cx.cells.toList, rfl, by rw [z2]; exact q4, fun j v hj => ?_, z1, ownDe_at _ _ _ F3 (fun c hc' j hj => ?_) m5⟩
            · rw [htl] at hc'
              have := Nat.mul_le_mul_right n (Nat.succ_le_of_lt hc')
              rw [Nat.succ_mul] at this
              rw [hget, Nat.zero_add, if_neg (by omega)]
            · have hjl : j < n := by
                have := (List.getElem?_eq_some_iff.1 hj).1
                rw [Array.length_toList] at this
                omega
              rw [htl, Nat.zero_add, hget, if_pos (by omega)]
              rw [show k * n + j - k * n = j by omega]; exact hj
            · rw [htl, Nat.zero_add, hget, if_neg]
              rw [Nat.add_mul, Nat.succ_mul]
              omega
          obtain ⟨F1, F2, F3, rfl, key⟩ := key
          have hnd := mO_nodup' R.inv hM
          have hlo := R.inv.lo b _ _ hc hM rfl g (by simp [mO])
          have hgn := (List.nodup_cons.1 hnd).1
          have hFn := (List.nodup_cons.1 hnd).2
          have hzd : ∀ x ∈ Fz, x ≠ g ∧ x ∉ F1 ++ F2 ++ F3 := fun x hx => by
            obtain ⟨i, hi, m, hm, hxm⟩ := z4 x hx
            refine ⟨fun e0 => ?_, fun hF => ?_⟩
            · subst e0
              have := O_block_inj R.inv hM hm (by simp [mO]) hxm
              subst this
              exact hbi hi
            · have := O_block_inj R.inv hM hm (by simp only [mO, List.mem_cons]; exact .inr hF) hxm
              subst this
              exact hbi hi
          have hFm : ∀ x ∈ F1 ++ Fz ++ F3, x ∈ F1 ++ F2 ++ F3 ∨ x ∈ Fz := fun x hx => by
            simp only [List.mem_append] at hx ⊢
            rcases hx with (hx | hx) | hx
            · exact .inl (.inl (.inl hx))
            · exact .inr hx
            · exact .inl (.inr hx)
          have hislv : ∀ i ∈ is, ∀ k, h[i]? = some k → k.live = true := fun i hi k hk => by
            obtain ⟨n1, xs1, h1⟩ := z5 i hi
            rw [h1] at hk
            cases hk
            rfl
          have hnof : nOf (h.set b (.arr n (xs.set k z) true)) b = nOf h b := by
            unfold nOf
            rw [List.getElem?_set_self (List.getElem?_eq_some_iff.1 hc).1, hc]
          obtain ⟨M', R', _, _⟩ := R.reset (ext_setRow R.ext hlo (arr.toList.take (k * n) ++ cx.cells.toList ++ arr.toList.drop (k * n + n)).toArray) hM hb0 hc (.inl rfl) is is
            (fun hi => by
              obtain ⟨n1, xs1, h1⟩ := z5 0 hi
              rw [R.fh] at h1
              cases h1) hbi (fun _ h => h) hislv (m' := some (g, F1 ++ Fz ++ F3))
            (List.nodup_cons.2 ⟨fun hm => by
              rcases hFm g hm with h1 | h1
              · exact hgn h1
              · exact (hzd g h1).1 rfl, by
              have n13 : (F1 ++ F3).Nodup := by
                have := hFn
                rw [List.append_assoc] at this
                have a1 := (List.nodup_append.1 this).1
                have a2 := (List.nodup_append.1 (List.nodup_append.1 this).2.1).2.1
                exact List.nodup_append.2 ⟨a1, a2, fun x hx y hy e0 => (List.nodup_append.1 this).2.2 x hx y (by simp [hy]) e0⟩
              have a1 := (List.nodup_append.1 n13).1
              have a2 := (List.nodup_append.1 n13).2.1
              have a3 := (List.nodup_append.1 n13).2.2
              refine List.nodup_append.2 ⟨List.nodup_append.2 ⟨a1, hFz, fun x hx y hy e0 => ?_⟩, a2, fun x hx y hy e0 => ?_⟩
              · subst e0; exact (hzd x hy).2 (by simp [hx])
              · subst e0
                rcases List.mem_append.1 hx with hx | hx
                · exact a3 x hx x hy rfl
                · exact (hzd x hx).2 (by simp [hy])⟩)
            (fun x hx => by
              rcases List.mem_cons.1 hx with rfl | hx
              · exact .inl (by simp [mO])
              · rcases hFm x hx with h1 | h1
                · exact .inl (by simp only [mO, List.mem_cons]; exact .inr h1)
                · exact .inr (.inl (z4 x h1)))
            (fun x hx => by
              rw [setRow_size]
              rcases List.mem_cons.1 hx with rfl | hx
              · exact lt_of_heap hg
              · rcases hFm x hx with h1 | h1
                · exact R.inv.hi x (mem_O hM (by simp only [mO, List.mem_cons]; exact .inr h1))
                · obtain ⟨i, hi, m, hm, hxm⟩ := z4 x h1
                  exact R.inv.hi x (mem_O hm hxm)) (by rw [setRow_size]; exact Nat.le_refl _)
            (fun x hlt hx => setRow_other (fun e0 => hx (by subst e0; simp [mO])) _) (k' := .arr n (xs.set k z) true) rfl
            (fun _ g1 F1' hm => by
              cases hm
              refine ⟨⟨_, rfl⟩, hnof, fun arr1 t1 h1 => ?_⟩
              rw [hg] at h1
              cases h1
              exact ⟨_, setRow_at hg _, hsz2⟩)
            (fun M' h' _ => by
              refine ⟨_, _, setRow_at hg _, by rw [List.length_set, hsz2]; exact hsz, ?_⟩
              rw [if_pos rfl]
              refine ownDe_mv _ _ _ _ _ (fun x hx => setRow_other (fun e0 => ?_) _) key
              subst e0
              rcases hFm x hx with h1 | h1
              · exact hgn h1
              · exact (hzd x h1).1 rfl)
          rw [hn0, Nat.add_zero]
          exact ⟨_, _, M', _, kK, hrun, R'⟩
    · exact H.elim
  · exact H.elim
theorem partOps_mem : ∀ (ps : List (Nat × Operand)) (x : Operand), x ∈ partOps ps → ∃ i, (i, x) ∈ ps
  | (i, y) :: ps, x, h => by
    rcases List.mem_cons.1 h with rfl | h
    · exact ⟨i, by simp⟩
    · obtain ⟨j, hj⟩ := partOps_mem ps x h
      exact ⟨j, by simp [hj]⟩

theorem loud_sound (hT : TOk P tt) (R : Rep B X N M e h a w) {o : Oper} (hc : ∀ x ∈ o.op.operands, cOK x = true) {K : V → Env → List Blk → Prop} {dr : Bool} (H : loudV P tt dr o e h K) (Q : Exit → Act → World → Prop)
    (K' : Act → World → Prop) (hK : ∀ v cv e' h' M' w', K v e' h' → Rep B X N M' e' h' a w' → rep w' M' h' v cv → (isMod o = false → dr = true → Ext w w') → K' (a.put o.dst cv) w') : Oper.wp P o a w K' Q := by
  have hev : ∀ x ∈ o.op.operands, rep w M h (ev e x) (a.eval x) := fun x hx => ev_rep R.env x (hc x hx)
  obtain ⟨dst, op, type, pos, after, guard⟩ := o
  dsimp only at hc hev
  unfold loudV at H
  unfold Oper.wp
  cases op with
  | alloc t =>
    obtain ⟨v, cv, h', M', w', k1, k2, k3, k4, k5⟩ := alloc_sound hT R H
    simp only [execOp, Sem.run_bind, k2, Result.andThen_ok, Sem.run_pure, Oper.upon]
    exact hK _ _ _ _ _ _ k1 k4 k5 (fun _ _ => k3)
  | box t x =>
    obtain ⟨v, cv, h', M', w', k1, k2, k3, k4, k5⟩ := box_sound hT R (hev x (by simp [Op.operands])) H
    simp only [execOp, Sem.run_bind, k2, Result.andThen_ok, Sem.run_pure, Oper.upon]
    exact hK _ _ _ _ _ _ k1 k4 k5 (fun _ _ => k3)
  | store t p x =>
    cases hwh : isWhole (ev e p) (ev e x) with
    | false =>
      have H : storeV tt t (ev e p) (ev e x) h (fun h' => K .undef e h') := by
        have := H
        dsimp only at this
        rw [hwh] at this
        exact this
      obtain ⟨h', w', k1, k2, k3⟩ := store_sound hT R (hev p (by simp [Op.operands])) (hev x (by simp [Op.operands])) H
      simp only [execOp, Sem.run_bind, k2, Result.andThen_ok, Sem.run_pure, Oper.upon]
      exact hK _ _ _ _ _ _ k1 k3 rfl (fun q => by cases q)
    | true =>
      have H : setV tt t (ev e p) (ev e x) e h (fun e' h' => K .undef e' h') := by
        have := H
        dsimp only at this
        rw [hwh] at this
        exact this
      obtain ⟨e', h', M', w', k1, k2, k3⟩ := set_sound hT R (hev p (by simp [Op.operands])) (hev x (by simp [Op.operands])) H
      simp only [execOp, Sem.run_bind, k2, Result.andThen_ok, Sem.run_pure, Oper.upon]
      exact hK _ _ _ _ _ _ k1 k3 rfl (fun q => by cases q)
  | makeMap t r =>
    cases r with
    | some r => exact H.elim
    | none =>
      obtain ⟨v, cv, h', M', w', k1, k2, k3, k4, k5⟩ := makeMap_sound hT R H
      simp only [execOp, Sem.run_bind, Option.map_none, k2, Result.andThen_ok, Sem.run_pure, Oper.upon]
      exact hK _ _ _ _ _ _ k1 k4 k5 (fun _ _ => k3)
  | mapUpdate t m k x =>
    obtain ⟨h', w', k1, k2, k3⟩ := map_sound hT R (hev m (by simp [Op.operands])) (hev k (by simp [Op.operands])) (hev x (by simp [Op.operands])) H
    simp only [execOp, Sem.run_bind, k2, Result.andThen_ok, Sem.run_pure, Oper.upon]
    exact hK _ _ _ _ _ _ k1 k3 rfl (fun q => by cases q)
  | makeSlice t n c =>
    obtain ⟨v, cv, h', M', w', k1, k2, k3, k4, k5⟩ := make_sound hT R (hev n (by simp [Op.operands])) (hev c (by simp [Op.operands])) H
    simp only [execOp, Sem.run_bind, k2, Result.andThen_ok, Sem.run_pure, Oper.upon]
    exact hK _ _ _ _ _ _ k1 k4 k5 (fun _ _ => k3)
  | buildSlice t n ps =>
    obtain ⟨ps⟩ := ps
    obtain ⟨v, cv, e', h', M', w', k1, k2, k3, k4, k5⟩ := lit_sound hT R (fun x hx => hc x (by
      obtain ⟨i, hi⟩ := partOps_mem ps x hx
      simp only [Op.operands]
      simp only [List.mem_toArray, List.mem_map]
      exact ⟨(i, x), hi, rfl⟩)) H
    have k2' : (Instr.buildSlice t n (Array.map (fun (i, x) => (i, a.eval x)) ps.toArray)).run P w = .ok cv w' := by
      rw [← k2]; simp
    simp only [execOp, Sem.run_bind, k2', Result.andThen_ok, Sem.run_pure, Oper.upon]
    exact hK _ _ _ _ _ _ k1 k4 k5 (fun _ _ => k3)
  | build t ps =>
    obtain ⟨ps⟩ := ps
    obtain ⟨v, cv, k1, k2, k3⟩ := build_sound hT R (fun x hx => hc x (by
      obtain ⟨i, hi⟩ := partOps_mem ps x hx
      simp only [Op.operands]
      simp only [List.mem_toArray, List.mem_map]
      exact ⟨(i, x), hi, rfl⟩)) H
    have k2' : (Instr.build t (Array.map (fun (i, x) => (i, a.eval x)) ps.toArray)).run P w = .ok cv w := by
      rw [← k2]; simp
    simp only [execOp, Sem.run_bind, k2', Result.andThen_ok, Sem.run_pure, Oper.upon]
    exact hK _ _ _ _ _ _ k1 R k3 (fun _ _ => Ext.refl _)
  | call c =>
    obtain ⟨callee, args, ats⟩ := c
    obtain ⟨xs⟩ := args
    cases callee with
    | builtin b =>
      cases b <;> first
        | exact H.elim
        | skip
      obtain ⟨ats⟩ := ats
      rcases xs with _ | ⟨s, _ | ⟨x, _ | ⟨y, ys⟩⟩⟩ <;> first
        | exact H.elim
        | skip
      rcases ats with _ | ⟨t, _ | ⟨tx, _ | ⟨ty, ts⟩⟩⟩ <;> first
        | exact H.elim
        | skip
      obtain ⟨v, cv, e', h', M', w', k1, k2, k3, k4⟩ := appW_sound (P := P) (ty := type) hT R (hev s (by simp [Op.operands, Call.operands])) (hev x (by simp [Op.operands, Call.operands])) H
      have hexec : (execOp a.eval ⟨dst, .call { callee := .builtin .append, args := ⟨[s, x]⟩, argTypes := ⟨[t, tx]⟩ }, type, pos, after, guard⟩).run P w = .ok (.value cv) w' := by
        simp [execOp, resolve, invoke, builtin, k2]
      rw [hexec]
      exact hK _ _ _ _ _ _ k1 k3 k4 (fun q => by cases q)
    | invoke f => exact H.elim
    | value f =>
      dsimp only at H
      have hf := hev f (by simp [Op.operands, Call.operands])
      generalize hmo : isMod ⟨dst, .call { callee := .value f, args := ⟨xs⟩, argTypes := ats }, type, pos, after, guard⟩ = mo at H hK
      have key : ∀ (fid : FuncId) (caps : List V), rep w M h (.fn (.func fid) caps) (a.eval f) → (bif okTs (evs e xs) && capsOK caps then CallW P (dr && !mo) fid (evs e xs ++ caps) e h K else False) →
          Oper.wp P ⟨dst, .call { callee := .value f, args := ⟨xs⟩, argTypes := ats }, type, pos, after, guard⟩ a w K' Q := by
        intro fid caps hf H
        unfold Oper.wp
        cases hok : (okTs (evs e xs) && capsOK caps) with
        | false => rw [hok] at H; exact H.elim
        | true =>
          rw [hok] at H
          simp only [Bool.and_eq_true] at hok
          simp only [cond_true] at H
          obtain ⟨cvs, e1, hcaps⟩ := rep_fn.1 hf
          obtain ⟨⟨fn, f1, f2, f3⟩, hcall⟩ := callW_sound R (repT_app _ _ _ _ (evs_repT R xs (fun x hx => hc x (by simp [Op.operands, Call.operands, hx])) hok.1) (repT_caps caps cvs hok.2 hcaps)) H
          have hexec : (execOp a.eval ⟨dst, .call { callee := .value f, args := ⟨xs⟩, argTypes := ats }, type, pos, after, guard⟩).run P w = .ok (.enter fid (xs.map a.eval ++ cvs).toArray) w := by
            have hcf : ∀ args, (callFunc fid args).run P w = .ok (.enter fid args) w := fun args => by
              unfold callFunc
              simp only [Sem.run_bind, run_program, Result.andThen_ok, f1, f2, f3, Bool.false_eq_true, if_false, Sem.run_pure]
            simp only [execOp, resolve, e1, Deferred.ofValue, invoke, Sem.run_bind, Sem.run_pure, Result.andThen_ok, hcf]
            simp
          rw [hexec]
          show Calls _ _ _ _ _
          refine hcall.mono ?_
          rintro en w' ⟨v, cv, e', h', M', rfl, k1, k2, k3, k4⟩
          exact hK _ _ _ _ _ _ k1 k3 k4 (fun q1 q2 => k2 (by rw [q1, q2]; rfl))
      split at H
      · rename_i fid caps hq
        rw [hq] at hf
        exact key fid caps hf H
      · rename_i fid hq
        rw [hq] at hf
        have e1 : a.eval f = .func (.func fid) #[] #[] := by
          have hf : rep1 w M h (.d (.fnv (.func fid))) (a.eval f) := hf
          unfold rep1 at hf
          rw [if_neg (by simp [V.isAgg, D.agg])] at hf
          have : [a.eval f] = [Value.func (.func fid) #[] #[]] := hf
          simpa using this
        refine key fid [] (rep_fn.2 ⟨[], e1, rfl⟩) ?_
        simpa [capsOK] using H
      · exact H.elim
  | _ => exact H.elim
end
end Go.Proofs.YtcachhipflibkaaGreat

/- The abstract machine, thirteenth part: regions, in the text's order or in any order. Leans on no program. -/
set_option linter.unusedSimpArgs false
set_option linter.unusedVariables false
namespace Go.Proofs.YtcachhipflibkaaGreat
open Go.RowKit

/-- the value is brought to its head before the rest is looked at: without this a walk reckons its slots again and again -/
def V.force (v : V) (K : V → Prop) : Prop :=
  match v with
  | .top => K .top
  | .undef => K .undef
  | .d x => K (.d x)
  | .nils => K .nils
  | .nilp => K .nilp
  | .own b o n => K (.own b o n)
  | .pB b z o => K (.pB b z o)
  | .pL b i z o => K (.pL b i z o)
  | .pX x => K (.pX x)
  | .fn f c => K (.fn f c)
  | .st fs => K (.st fs)
  | .tup vs => K (.tup vs)
theorem V.force_iff {v : V} {K : V → Prop} : v.force K ↔ K v := by cases v <;> exact Iff.rfl
/-- and the memory: block by block -/
def hforce : List Blk → (List Blk → Prop) → Prop
  | [], K => K []
  | b :: r, K => match b with
    | .arr n xs dp => hforce r fun r => K (.arr n xs dp :: r)
    | .box v => v.force fun v => hforce r fun r => K (.box v :: r)
    | .gone => hforce r fun r => K (.gone :: r)
    | .gho c s g sz t => hforce r fun r => K (.gho c s g sz t :: r)
    | .pin c g sz t => hforce r fun r => K (.pin c g sz t :: r)
    | .keep e f => hforce r fun r => K (.keep e f :: r)
    | .bld T E bs => hforce r fun r => K (.bld T E bs :: r)
    | .mp tg es => hforce r fun r => K (.mp tg es :: r)
theorem hforce_iff : ∀ (h : List Blk) (K : List Blk → Prop), hforce h K ↔ K h
  | [], K => Iff.rfl
  | b :: r, K => by
    cases b with
    | box v => exact (V.force_iff (v := v) (K := fun v => hforce r fun r => K (.box v :: r))).trans (hforce_iff r fun r => K (.box v :: r))
    | arr _ _ _ => exact hforce_iff r _
    | gone => exact hforce_iff r _
    | gho _ _ _ _ _ => exact hforce_iff r _
    | pin _ _ _ _ => exact hforce_iff r _
    | keep _ _ => exact hforce_iff r _
    | bld _ _ _ => exact hforce_iff r _
    | mp _ _ => exact hforce_iff r _
def runV (P : Program) (tt : TT) (dr : Bool) (o : Oper) (e : Env) (h : List Blk) (K : Env → List Blk → Prop) : Prop :=
  bif isQuiet o then quietV tt o e h (fun v => v.force fun v => K (pt o.dst v e) h) else loudV P tt dr o e h (fun v e' h' => hforce h' fun h' => v.force fun v => K (pt o.dst v e') h')
def guardV (l : List Oper) (o : Oper) (e : Env) (A S : Env → Prop) : Prop :=
  match o.guard with
  | none => A e
  | some (j, b) => match l[j]? with
    | some oj => match oj.dst with
      | some d => match gt e d with
        | .d (.bool c) => bif b then BIf c (A ((d, .d (.bool true)) :: e)) (S ((d, .d (.bool false)) :: e)) else BIf c (S ((d, .d (.bool true)) :: e)) (A ((d, .d (.bool false)) :: e))
        | .undef => S e
        | _ => False
      | none => False
    | none => False
def stepV (P : Program) (tt : TT) (dr : Bool) (l : List Oper) (i : Nat) (K : Env → List Blk → Prop) (e : Env) (h : List Blk) : Prop :=
  match l[i]? with
  | some o => guardV l o e (fun e => runV P tt dr o e h K) (fun e => K (pt o.dst .undef e) h)
  | none => False
def seqV (P : Program) (tt : TT) (dr : Bool) (l : List Oper) : List Nat → (Env → List Blk → Prop) → Env → List Blk → Prop
  | [], K, e, h => K e h
  | i :: is, K, e, h => stepV P tt dr l i (seqV P tt dr l is K) e h

def opB (N : Nat) (o : Oper) : Bool :=
  o.op.operands.toList.all cOK && (match o.dst with | some d => Nat.ble (d + 1) N | none => true)
def opsB (N : Nat) (l : List Oper) : Bool := l.all (opB N)

section
variable {P : Program} {tt : TT} {B : World} {X : List Nat} {N : Nat} {M : MM} {e : Env} {h : List Blk} {a : Act} {w : World} {l : List Oper}
theorem opB_c {o : Oper} (h : opB N o = true) : (∀ x ∈ o.op.operands, cOK x = true) ∧ ∀ k, o.dst = some k → k < N := by
  simp only [opB, Bool.and_eq_true, List.all_eq_true] at h
  refine ⟨fun x hx => h.1 x (by simpa using hx), fun k hk => ?_⟩
  have := h.2
  rw [hk] at this
  exact Nat.le_of_ble_eq_true this
theorem opsB_c (h : opsB N l = true) {i : Nat} {o : Oper} (hi : l[i]? = some o) : opB N o = true := List.all_eq_true.1 h o (List.mem_of_getElem? hi)

/-- a guard decides -/
theorem guard_sound (R : Rep B X N M e h a w) {i : Nat} {o : Oper} {A S : Env → Prop} (H : guardV l o e A S) :
    ∃ e', Rep B X N M e' h a w ∧ ((Region.wanted o (yielded l.toArray a.tmps) = true ∧ A e') ∨ (Region.wanted o (yielded l.toArray a.tmps) = false ∧ S e')) := by
  unfold guardV at H
  split at H
  · rename_i hg
    exact ⟨e, R, .inl ⟨by simp [Region.wanted, hg], H⟩⟩
  · rename_i j b hg
    split at H
    · rename_i oj hj
      split at H
      · rename_i d hd
        have hy : ∀ c, a.tmps.getD d Go.undef = .bool c → yielded l.toArray a.tmps j = some c := by
          intro c hc
          unfold yielded
          have h1 : (l.toArray[j]?).bind (·.dst) = some d := by simp [hj, hd]
          rw [h1]
          simp only [Option.bind_some]
          have : a.tmps[d]? = some (.bool c) := by
            rw [Array.getD_eq_getD_getElem?] at hc
            cases hx : a.tmps[d]? with
            | none => rw [hx] at hc; cases hc
            | some v => rw [hx] at hc; simp at hc; rw [hc]
          rw [this]
        have hu : a.tmps.getD d Go.undef = Go.undef → yielded l.toArray a.tmps j = none := by
          intro hc
          unfold yielded
          have h1 : (l.toArray[j]?).bind (·.dst) = some d := by simp [hj, hd]
          rw [h1]
          simp only [Option.bind_some]
          rw [Array.getD_eq_getD_getElem?] at hc
          cases hx : a.tmps[d]? with
          | none => rfl
          | some v => rw [hx] at hc; simp at hc; rw [hc]; rfl
        have hE := R.env d
        split at H
        · rename_i c hc
          rw [hc] at hE
          have hE' := rep_bool.1 hE
          have hw : Region.wanted o (yielded l.toArray a.tmps) = (some c == some b) := by simp only [Region.wanted, hg, hy c hE']
          have R' : ∀ q, c = q → Rep B X N M ((d, .d (.bool q)) :: e) h a w := fun q hq => R.know (rep_bool.2 (by rw [hE', hq]))
          cases b with
          | true =>
            refine BIf.elim H (fun hc H => ⟨_, R' true hc, .inl ⟨by rw [hw, hc]; rfl, H⟩⟩) (fun hc H => ⟨_, R' false hc, .inr ⟨by rw [hw, hc]; rfl, H⟩⟩)
          | false =>
            refine BIf.elim H (fun hc H => ⟨_, R' true hc, .inr ⟨by rw [hw, hc]; rfl, H⟩⟩) (fun hc H => ⟨_, R' false hc, .inl ⟨by rw [hw, hc]; rfl, H⟩⟩)
        · rename_i hc
          rw [hc] at hE
          exact ⟨e, R, .inr ⟨by simp only [Region.wanted, hg, hu hE]; rfl, H⟩⟩
        · exact H.elim
      · exact H.elim
    · exact H.elim

theorem seq_sound (hT : TOk P tt) (hl : opsB N l = true) {K : Env → List Blk → Prop} {Q : Exit → Act → World → Prop} (hQ : ∀ e h M a w, K e h → Rep B X N M e h a w → Q .normal a w) :
    ∀ (is : List Nat) (M : MM) (e : Env) (h : List Blk) (a : Act) (w : World), seqV P tt false l is K e h → Rep B X N M e h a w → wpOps P l.toArray Q is a w
  | [], M, e, h, a, w, H, R => hQ e h M a w H R
  | i :: is, M, e, h, a, w, H, R => by
    rw [wpOps_cons]
    simp only [seqV, stepV] at H
    cases ho : l[i]? with
    | none => rw [ho] at H; exact H.elim
    | some o =>
      rw [ho] at H
      obtain ⟨c1, c2⟩ := opB_c (opsB_c hl ho)
      have ho' : l.toArray[i]? = some o := by simpa using ho
      unfold wpOp
      rw [ho']
      dsimp only at H ⊢
      obtain ⟨e', R', H | H⟩ := guard_sound (i := i) R H
      · rw [if_pos H.1]
        refine .inl ?_
        have H := H.2
        unfold runV at H
        cases hq : isQuiet o with
        | true =>
          rw [hq] at H
          simp only [cond_true] at H
          obtain ⟨v, cv, k1, k2, k3⟩ := quiet_sound hT R'.inv R'.env c1 H
          have k1 := V.force_iff.1 k1
          unfold Oper.wp
          rw [k3 w (.inr (Ext.refl w))]
          exact seq_sound hT hl hQ is M _ h _ w k1 (R'.put c2 k2)
        | false =>
          rw [hq] at H
          simp only [cond_false] at H
          exact loud_sound hT R' c1 H Q _ fun v cv e' h' M' w' k1 k2 k3 _ => seq_sound hT hl hQ is M' _ h' _ w' (V.force_iff.1 ((hforce_iff _ _).1 k1)) (k2.put c2 k3)
      · rw [if_neg (by rw [H.1]; simp)]
        exact seq_sound hT hl hQ is M _ h _ w H.2 (R'.put c2 rfl)
end

/-! ### any order -/
section
variable {P : Program} {ops : Array Oper} {Q : Exit → Act → World → Prop} {md : Region.Mode}
/-- what is listed has all before it that it waits for -/
def Closed (md : Region.Mode) (ops : Array Oper) (l : Array Bool) : Prop :=
  ∀ (j : Nat) (o : Oper), ops[j]? = some o → l.getD j false = true → ∀ e ∈ o.after, Region.binds md e = true → l.getD e.on false = true
theorem Closed.set {l : Array Bool} (h : Closed md ops l) {j : Nat} (hj : j ∈ Region.ready md ops l) : Closed md ops (l.setIfInBounds j true) := by
  intro i o ho hi e he hb
  by_cases hij : j = i
  · subst hij
    obtain ⟨_, o', ho', hall⟩ := mem_ready.1 hj
    rw [ho] at ho'
    cases ho'
    exact getD_set_true (hall e he hb)
  · rw [getD_set_ne false hij] at hi
    exact getD_set_true (h i o ho hi e he hb)

def wpAnyS (P : Program) (md : Region.Mode) (ops : Array Oper) (Q : Exit → Act → World → Prop) (S : Array Bool → World → Prop) : Nat → Array Bool → Act → World → Prop
  | 0, listed, a, w => Region.ready md ops listed = [] ∧ Q .normal a w
  | fuel + 1, listed, a, w =>
    (Region.ready md ops listed = [] → Q .normal a w) ∧
    ∀ i ∈ Region.ready md ops listed, wpOp P ops Q i (fun a' w' => S (listed.setIfInBounds i true) w' ∧ wpAnyS P md ops Q S fuel (listed.setIfInBounds i true) a' w') a w
theorem wpAny_of_S {S : Array Bool → World → Prop} : ∀ (fuel : Nat) (listed : Array Bool) (a : Act) (w : World), wpAnyS P md ops Q S fuel listed a w → wpAny P md ops Q fuel listed a w
  | 0, _, _, _, h => h
  | fuel + 1, _, _, _, h => ⟨h.1, fun i hi => wpOp_mono (fun a' w' h' => wpAny_of_S fuel _ a' w' h'.2) (h.2 i hi)⟩
theorem wpAnyS_mono {S S' : Array Bool → World → Prop} (hS : ∀ l w, S l w → S' l w) : ∀ (fuel : Nat) (listed : Array Bool) (a : Act) (w : World), wpAnyS P md ops Q S fuel listed a w → wpAnyS P md ops Q S' fuel listed a w
  | 0, _, _, _, h => h
  | fuel + 1, _, _, _, h => ⟨h.1, fun i hi => wpOp_mono (fun a' w' h' => ⟨hS _ _ h'.1, wpAnyS_mono hS fuel _ a' w' h'.2⟩) (h.2 i hi)⟩

theorem wpAnyS_first {S : Array Bool → World → Prop} {G : World → Prop} {i : Nat} {oi : Oper} {v : Value} (hi : ops[i]? = some oi) (hsel : ∀ (j : Nat) (o : Oper) cs b, ops[j]? = some o → o.op ≠ .select cs b)
    (hQ : ∀ c a w, Q (.panic c) (a.put oi.dst v) w → Q (.panic c) a w)
    (hG : ∀ l w', Closed md ops l → l.getD i true = false → S l w' → G w') (hSi : ∀ l w', S (l.setIfInBounds i true) w' ↔ S l w') :
    ∀ (fuel : Nat) (listed : Array Bool) (a : Act) (w : World), Closed md ops listed →
      (∀ j oj, ops[j]? = some oj → j ≠ i → listed.getD j true = false → (∀ e ∈ oj.after, Region.binds md e = true → e.on ≠ i) → oi.apart ops oj = true) →
      i ∈ Region.ready md ops listed → YieldsIf P ops G oi v a → S listed w →
      wpAnyS P md ops Q S fuel (listed.setIfInBounds i true) (a.put oi.dst v) w → wpAnyS P md ops Q S (fuel + 1) listed a w := by
  intro fuel
  induction fuel with
  | zero =>
    intro listed a w hcl _ hr hy hS H
    refine ⟨fun h => (by rw [h] at hr; cases hr), fun j hj => ?_⟩
    by_cases hji : j = i
    · subst hji; exact hy.wpOp hi (hG _ _ hcl (mem_ready.1 hr).1 hS) ⟨(hSi _ _).2 hS, H⟩
    · have := ready_mono hj hji
      rw [H.1] at this
      cases this
  | succ fuel ih =>
    intro listed a w hcl hfree hr hy hS H
    refine ⟨fun h => (by rw [h] at hr; cases hr), fun j hj => ?_⟩
    by_cases hji : j = i
    · subst hji; exact hy.wpOp hi (hG _ _ hcl (mem_ready.1 hr).1 hS) ⟨(hSi _ _).2 hS, H⟩
    · have h1 := H.2 j (ready_mono hj hji)
      obtain ⟨hjun, oj, hoj, hall⟩ := mem_ready.1 hj
      have hnot : ∀ e ∈ oj.after, Region.binds md e = true → e.on ≠ i := fun e he hb heq => by
        have h1 := hall e he hb
        have h0 := (mem_ready.1 hr).1
        rw [heq] at h1
        rcases Nat.lt_or_ge i listed.size with h' | h'
        · simp [h'] at h0 h1; rw [h0] at h1; cases h1
        · simp [Array.getElem?_eq_none h'] at h1
      have h2 := wpOp_putIf hoj (hfree j oj hoj hji hjun hnot) (fun cs b => hsel i oi cs b hi) (fun cs b => hsel j oj cs b hoj) hQ hy h1
      have hfree' : ∀ k ok, ops[k]? = some ok → k ≠ i → (listed.setIfInBounds j true).getD k true = false →
          (∀ e ∈ ok.after, Region.binds md e = true → e.on ≠ i) → oi.apart ops ok = true := fun k ok hk hki hun hno => by
        refine hfree k ok hk hki ?_ hno
        by_cases hjk : j = k
        · subst hjk; exact hjun
        · rw [getD_set_ne true hjk] at hun; exact hun
      refine wpOp_mono (fun a' w' h3 => ?_) h2
      have hS' : S (listed.setIfInBounds j true) w' := by
        have := h3.2.1
        rw [Array.setIfInBounds_comm _ _ (Ne.symm hji)] at this
        exact (hSi _ _).1 this
      refine ⟨hS', ih (listed.setIfInBounds j true) a' w' (hcl.set hj) hfree' (ready_mono hr (Ne.symm hji)) h3.1 hS' ?_⟩
      rw [Array.setIfInBounds_comm _ _ hji]
      exact h3.2.2
end

/-- which operations wait for number i -/
def reach (l : List Oper) (i : Nat) : List Nat → List Nat → List Nat
  | [], R => R
  | j :: js, R => reach l i js (match l[j]? with
    | some o => if o.after.any (fun e => Region.binds .any e && (e.on == i || R.contains e.on)) then j :: R else R
    | none => R)
theorem reach_spec {l : List Oper} {i : Nat} : ∀ (js R : List Nat), (∀ j ∈ R, ∀ s, Closed .any l.toArray s → s.getD j false = true → s.getD i false = true) →
    ∀ j ∈ reach l i js R, ∀ s, Closed .any l.toArray s → s.getD j false = true → s.getD i false = true
  | [], R, h => h
  | k :: js, R, h => by
    refine reach_spec js _ ?_
    split
    · rename_i o ho
      split
      · rename_i ha
        intro j hj
        rcases List.mem_cons.1 hj with rfl | hj
        · obtain ⟨e, he, hb⟩ := Array.any_eq_true'.1 ha
          simp only [Bool.and_eq_true, Bool.or_eq_true, beq_iff_eq, List.contains_iff_mem] at hb
          intro s hs hj
          have h1 := hs j o (by simpa using ho) hj e he hb.1
          rcases hb.2 with h2 | h2
          · rw [h2] at h1; exact h1
          · exact h e.on h2 s hs h1
        · exact h j hj
      · exact h
    · exact h
def isModAt (l : List Oper) (k : Nat) : Bool :=
  match l[k]? with
  | some o => isMod o
  | none => false
def modsLeft (l : List Oper) (listed : Array Bool) : List Nat := (List.range l.length).filter fun k => isModAt l k && !listed.getD k true
def ordGo (l : List Oper) : List Nat → Array Bool → Bool
  | [], listed => (Region.ready .any l.toArray listed).isEmpty
  | i :: is, listed => (match l[i]? with
    | some o => bif isQuiet o then Region.free .any l.toArray listed i && (Region.ready .any l.toArray listed).contains i && (!isLoad o || (modsLeft l listed).all (fun k => (reach l i (List.range l.length) []).contains k))
      else Region.ready .any l.toArray listed == [i]
    | none => false) && ordGo l is (listed.setIfInBounds i true)
def ordOK (l : List Oper) (is : List Nat) : Bool := Region.noSelect l.toArray && Nat.beq is.length l.length && ordGo l is (Array.replicate l.length false)

def SH (H : List (List Nat × World)) (l : Array Bool) (w : World) : Prop := ∀ p ∈ H, (∃ k ∈ p.1, l.getD k false = true) ∨ Ext p.2 w

section
variable {P : Program} {tt : TT} {B : World} {X : List Nat} {N : Nat} {l : List Oper}
theorem getD_tf {s : Array Bool} {k : Nat} (h : s.getD k true = false) : s.getD k false = false ∧ k < s.size := by
  rcases Nat.lt_or_ge k s.size with hlt | hge
  · exact ⟨by simp [hlt] at h ⊢; exact h, hlt⟩
  · simp [Array.getElem?_eq_none hge] at h
theorem any_sound (hT : TOk P tt) (hl : opsB N l = true) (hsel : Region.noSelect l.toArray = true) {K : Env → List Blk → Prop} {Q : Exit → Act → World → Prop} (hQ : ∀ e h M a w, K e h → Rep B X N M e h a w → Q .normal a w) (hP : ∀ c a w, ¬ Q (.panic c) a w) :
    ∀ (is : List Nat) (listed : Array Bool) (H : List (List Nat × World)) (M : MM) (e : Env) (h : List Blk) (a : Act) (w : World), ordGo l is listed = true → Closed .any l.toArray listed →
      (∀ p ∈ H, ∀ k, isModAt l k = true → listed.getD k true = false → k ∈ p.1) → (∀ p ∈ H, ∀ k ∈ p.1, isModAt l k = true) → SH H listed w →
      seqV P tt true l is K e h → Rep B X N M e h a w → wpAnyS P .any l.toArray Q (SH H) is.length listed a w
  | [], listed, H, M, e, h, a, w, ho, _, _, _, _, HK, R => ⟨by simpa [ordGo] using ho, hQ e h M a w HK R⟩
  | i :: is, listed, H, M, e, h, a, w, ho, hcl, hH1, hH2, hS, HK, R => by
    simp only [ordGo, Bool.and_eq_true] at ho
    simp only [seqV, stepV] at HK
    obtain ⟨ho1, ho2⟩ := ho
    cases hoi : l[i]? with
    | none => rw [hoi] at HK; exact HK.elim
    | some o =>
      rw [hoi] at HK ho1
      dsimp only at HK ho1
      obtain ⟨c1, c2⟩ := opB_c (opsB_c hl hoi)
      have hoi' : l.toArray[i]? = some o := by simpa using hoi
      obtain ⟨e', R', hG⟩ := guard_sound (i := i) R HK
      cases hq : isQuiet o with
      | true =>
        rw [hq] at ho1
        simp only [cond_true, Bool.and_eq_true] at ho1
        obtain ⟨⟨q1, q2⟩, q3⟩ := ho1
        have hri : i ∈ Region.ready .any l.toArray listed := by simpa using q2
        have hnm : isMod o = false := by
          obtain ⟨_, op, _, _, _, _⟩ := o
          unfold isQuiet at hq
          cases op <;> first
            | rfl
            | (cases hq; done)
            | skip
          rename_i c
          obtain ⟨callee, args, ats⟩ := c
          cases callee <;> first
            | rfl
            | (cases hq; done)
            | skip
          rename_i b
          cases b <;> first
            | rfl
            | cases hq
        have hnmi : isModAt l i = false := by simp [isModAt, hoi, hnm]
        -- the value it yields
        have hyv : ∃ v cv, rep w M h v cv ∧ YieldsIf P l.toArray (fun w' => isLoad o = false ∨ Ext w w') o cv a ∧ seqV P tt true l is K (pt o.dst v e') h := by
          rcases hG with ⟨hw, hG⟩ | ⟨hw, hG⟩
          · unfold runV at hG
            rw [hq] at hG
            simp only [cond_true] at hG
            obtain ⟨v, cv, k1, k2, k3⟩ := quiet_sound hT R'.inv R'.env c1 hG
            have k1 := V.force_iff.1 k1
            exact ⟨v, cv, k2, .inl ⟨hw, fun w' hw' => k3 w' hw'⟩, k1⟩
          · exact ⟨.undef, Go.undef, rfl, .inr ⟨hw, rfl⟩, hG⟩
        obtain ⟨v, cv, k2, hy, k1⟩ := hyv
        let H' : List (List Nat × World) := (modsLeft l listed, w) :: H
        have hS' : SH H' listed w := by
          intro p hp
          rcases List.mem_cons.1 hp with rfl | hp
          · exact .inr (Ext.refl w)
          · exact hS p hp
        have hmem : ∀ k, k ∈ modsLeft l listed ↔ k < l.length ∧ isModAt l k = true ∧ listed.getD k true = false := fun k => by
          simp only [modsLeft, List.mem_filter, List.mem_range, Bool.and_eq_true, Bool.not_eq_true']
        have hH2' : ∀ p ∈ H', ∀ k ∈ p.1, isModAt l k = true := by
          intro p hp k hk
          rcases List.mem_cons.1 hp with rfl | hp
          · exact ((hmem k).1 hk).2.1
          · exact hH2 p hp k hk
        have hset : ∀ (s : Array Bool) (k : Nat), isModAt l k = true → (s.setIfInBounds i true).getD k false = s.getD k false := fun s k hk => getD_set_ne false (fun e => by subst e; rw [hnmi] at hk; cases hk)
        have hSi : ∀ s w', SH H' (s.setIfInBounds i true) w' ↔ SH H' s w' := fun s w' => by
          constructor
          · intro hh p hp
            rcases hh p hp with ⟨k, hk, hs⟩ | hx
            · exact .inl ⟨k, hk, by rw [hset s k (hH2' p hp k hk)] at hs; exact hs⟩
            · exact .inr hx
          · intro hh p hp
            rcases hh p hp with ⟨k, hk, hs⟩ | hx
            · exact .inl ⟨k, hk, by rw [hset s k (hH2' p hp k hk)]; exact hs⟩
            · exact .inr hx
        have ih := any_sound hT hl hsel hQ hP is (listed.setIfInBounds i true) H' M (pt o.dst v e') h (a.put o.dst cv) w ho2 (hcl.set hri) (by
            intro p hp k hk hun
            have hun' : listed.getD k true = false := by
              by_cases hik : i = k
              · subst hik; rw [hnmi] at hk; cases hk
              · rw [getD_set_ne true hik] at hun; exact hun
            rcases List.mem_cons.1 hp with rfl | hp
            · refine (hmem k).2 ⟨?_, hk, hun'⟩
              unfold isModAt at hk
              split at hk
              · rename_i ho; exact (List.getElem?_eq_some_iff.1 ho).1
              · cases hk
            · exact hH1 p hp k hk hun') hH2' ((hSi _ _).2 hS') k1 (R'.put c2 k2)
        refine wpAnyS_mono (S := SH H') (fun s w' hh p hp => hh p (List.mem_cons_of_mem _ hp)) _ _ _ _ ?_
        refine wpAnyS_first hoi' (Region.noSelect_spec hsel) (fun c a w hp => absurd hp (hP c _ w)) ?_ hSi is.length listed a w hcl (Region.free_spec hoi' q1) hri hy hS' ih
        intro s w' hs hun hh
        rcases hh (modsLeft l listed, w) (by simp [H']) with ⟨k, hk, hsk⟩ | hx
        · left
          cases hld : isLoad o with
          | false => rfl
          | true =>
            exfalso
            rw [hld] at q3
            simp only [Bool.not_true, Bool.false_or, List.all_eq_true] at q3
            have := reach_spec (l := l) (i := i) (List.range l.length) [] (by simp) k (by simpa using q3 k hk) s hs hsk
            rw [(getD_tf hun).1] at this
            cases this
        · exact .inr hx
      | false =>
        rw [hq] at ho1
        simp only [cond_false, beq_iff_eq] at ho1
        have hri : i ∈ Region.ready .any l.toArray listed := by rw [ho1]; simp
        have hun := (mem_ready.1 hri).1
        have hset : (listed.setIfInBounds i true).getD i false = true := by
          have := (getD_tf hun).2
          simp [this]
        have next : ∀ w' (hx : isMod o = false → Ext w w'), SH H (listed.setIfInBounds i true) w' := fun w' hx p hp => by
          cases hm : isMod o with
          | true => exact .inl ⟨i, hH1 p hp i (by simp [isModAt, hoi, hm]) hun, hset⟩
          | false =>
            rcases hS p hp with ⟨k, hk, hs⟩ | hxx
            · exact .inl ⟨k, hk, getD_set_true hs⟩
            · exact .inr (hxx.trans (hx hm))
        have hH1' : ∀ p ∈ H, ∀ k, isModAt l k = true → (listed.setIfInBounds i true).getD k true = false → k ∈ p.1 := fun p hp k hk hu => by
          refine hH1 p hp k hk ?_
          by_cases hik : i = k
          · subst hik; exact hun
          · rw [getD_set_ne true hik] at hu; exact hu
        refine ⟨fun h0 => (by rw [h0] at hri; cases hri), fun j hj => ?_⟩
        rw [ho1] at hj
        obtain rfl : j = i := by simpa using hj
        unfold wpOp
        rw [hoi']
        dsimp only
        rcases hG with ⟨hw, hG⟩ | ⟨hw, hG⟩
        · rw [if_pos hw]
          refine .inl ?_
          unfold runV at hG
          rw [hq] at hG
          simp only [cond_false] at hG
          exact loud_sound hT R' c1 hG Q _ fun v cv e' h' M' w' k1 k2 k3 k4 => ⟨next w' (fun q => k4 q rfl), any_sound hT hl hsel hQ hP is _ H M' _ h' _ w' ho2 (hcl.set hri) hH1' hH2 (next w' (fun q => k4 q rfl)) (V.force_iff.1 ((hforce_iff _ _).1 k1)) (k2.put c2 k3)⟩
        · rw [if_neg (by rw [hw]; simp)]
          exact ⟨next w (fun _ => Ext.refl w), any_sound hT hl hsel hQ hP is _ H M _ h _ w ho2 (hcl.set hri) hH1' hH2 (next w fun _ => Ext.refl w) hG (R'.put c2 rfl)⟩
end
end Go.Proofs.YtcachhipflibkaaGreat

/- The abstract machine: regions drawn in any order, where two loud operations may come in either order. Leans on no program. -/
set_option linter.unusedSimpArgs false
set_option linter.unusedVariables false
namespace Go.Proofs.YtcachhipflibkaaGreat
open Go.RowKit
/-- orders of a region: a quiet operation that commutes with all that is left, or each of those that are ready ('alt', ended by 'nil') -/
inductive OT where
  | done
  | q (i : Nat) (t : OT)
  | alt (i : Nat) (t r : OT)
  | nil
def treeV (P : Program) (tt : TT) (l : List Oper) : OT → (Env → List Blk → Prop) → Env → List Blk → Prop
  | .done, K => K
  | .q i t, K => stepV P tt true l i (treeV P tt l t K)
  | .alt i t r, K => fun e h => match r with
    | .nil => stepV P tt true l i (treeV P tt l t K) e h
    | r => stepV P tt true l i (treeV P tt l t K) e h ∧ treeV P tt l r K e h
  | .nil, _ => fun _ _ => True
theorem treeV_alt {P : Program} {tt : TT} {l : List Oper} {i : Nat} {t r : OT} {K : Env → List Blk → Prop} {e : Env} {h : List Blk} (H : treeV P tt l (.alt i t r) K e h) : stepV P tt true l i (treeV P tt l t K) e h ∧ treeV P tt l r K e h := by
  cases r with
  | nil => exact ⟨H, trivial⟩
  | done => exact H
  | q _ _ => exact H
  | alt _ _ _ => exact H
def qOK (l : List Oper) (i : Nat) (listed : Array Bool) : Bool :=
  match l[i]? with
  | some o => isQuiet o && (Region.free .any l.toArray listed i && (Region.ready .any l.toArray listed).contains i && (!isLoad o || (modsLeft l listed).all (fun k => (reach l i (List.range l.length) []).contains k)))
  | none => false
def okT (l : List Oper) : OT → Nat → Array Bool → Option (List Nat) → Bool
  | .done, n, listed, rem => rem.isNone && Nat.beq n 0 && (Region.ready .any l.toArray listed).isEmpty
  | .q i t, n, listed, rem => match n with
    | n + 1 => rem.isNone && qOK l i listed && okT l t n (listed.setIfInBounds i true) none
    | 0 => false
  | .alt i t r, n, listed, rem => match n with
    | n + 1 => match rem.getD (Region.ready .any l.toArray listed) with
      | j :: js => Nat.beq j i && Nat.blt i l.length && okT l t n (listed.setIfInBounds i true) none && okT l r (n + 1) listed (some js)
      | [] => false
    | 0 => false
  | .nil, _, _, rem => match rem with
    | some [] => true
    | _ => false
def treeOK (l : List Oper) (t : OT) : Bool := Region.noSelect l.toArray && okT l t l.length (Array.replicate l.length false) none
section
variable {P : Program} {tt : TT} {B : World} {X : List Nat} {N : Nat} {l : List Oper}
theorem quiet_step (hT : TOk P tt) (hl : opsB N l = true) (hsel : Region.noSelect l.toArray = true) {Q : Exit → Act → World → Prop} (hP : ∀ c a w, ¬ Q (.panic c) a w) {K' : Env → List Blk → Prop} {i n : Nat} {listed : Array Bool} {o : Oper} (hoi : l[i]? = some o) (hq : isQuiet o = true)
    (ho1 : (Region.free .any l.toArray listed i && (Region.ready .any l.toArray listed).contains i && (!isLoad o || (modsLeft l listed).all (fun k => (reach l i (List.range l.length) []).contains k))) = true)
    (C : ∀ (H : List (List Nat × World)) (M : MM) (e : Env) (h : List Blk) (a : Act) (w : World), (∀ p ∈ H, ∀ k, isModAt l k = true → (listed.setIfInBounds i true).getD k true = false → k ∈ p.1) → (∀ p ∈ H, ∀ k ∈ p.1, isModAt l k = true) → SH H (listed.setIfInBounds i true) w → K' e h → Rep B X N M e h a w → wpAnyS P .any l.toArray Q (SH H) n (listed.setIfInBounds i true) a w)
    (H : List (List Nat × World)) (M : MM) (e : Env) (h : List Blk) (a : Act) (w : World) (hcl : Closed .any l.toArray listed) (hH1 : ∀ p ∈ H, ∀ k, isModAt l k = true → listed.getD k true = false → k ∈ p.1) (hH2 : ∀ p ∈ H, ∀ k ∈ p.1, isModAt l k = true) (hS : SH H listed w)
    (HK : stepV P tt true l i K' e h) (R : Rep B X N M e h a w) : wpAnyS P .any l.toArray Q (SH H) (n + 1) listed a w := by
  simp only [stepV] at HK
  rw [hoi] at HK
  dsimp only at HK
  obtain ⟨c1, c2⟩ := opB_c (opsB_c hl hoi)
  have hoi' : l.toArray[i]? = some o := by simpa using hoi
  obtain ⟨e', R', hG⟩ := guard_sound (i := i) R HK
  simp only [Bool.and_eq_true] at ho1
  obtain ⟨⟨q1, q2⟩, q3⟩ := ho1
  have hri : i ∈ Region.ready .any l.toArray listed := by simpa using q2
  have hnm : isMod o = false := by
    obtain ⟨_, op, _, _, _, _⟩ := o
    unfold isQuiet at hq
    cases op <;> first
      | rfl
      | (cases hq; done)
      | skip
    rename_i c
    obtain ⟨callee, args, ats⟩ := c
    cases callee <;> first
      | rfl
      | (cases hq; done)
      | skip
    rename_i b
    cases b <;> first
      | rfl
      | cases hq
  have hnmi : isModAt l i = false := by simp [isModAt, hoi, hnm]
  -- the value it yields
  have hyv : ∃ v cv, rep w M h v cv ∧ YieldsIf P l.toArray (fun w' => isLoad o = false ∨ Ext w w') o cv a ∧ K' (pt o.dst v e') h := by
    rcases hG with ⟨hw, hG⟩ | ⟨hw, hG⟩
    · unfold runV at hG
      rw [hq] at hG
      simp only [cond_true] at hG
      obtain ⟨v, cv, k1, k2, k3⟩ := quiet_sound hT R'.inv R'.env c1 hG
      have k1 := V.force_iff.1 k1
      exact ⟨v, cv, k2, .inl ⟨hw, fun w' hw' => k3 w' hw'⟩, k1⟩
    · exact ⟨.undef, Go.undef, rfl, .inr ⟨hw, rfl⟩, hG⟩
  obtain ⟨v, cv, k2, hy, k1⟩ := hyv
  let H' : List (List Nat × World) := (modsLeft l listed, w) :: H
  have hS' : SH H' listed w := by
    intro p hp
    rcases List.mem_cons.1 hp with rfl | hp
    · exact .inr (Ext.refl w)
    · exact hS p hp
  have hmem : ∀ k, k ∈ modsLeft l listed ↔ k < l.length ∧ isModAt l k = true ∧ listed.getD k true = false := fun k => by
    simp only [modsLeft, List.mem_filter, List.mem_range, Bool.and_eq_true, Bool.not_eq_true']
  have hH2' : ∀ p ∈ H', ∀ k ∈ p.1, isModAt l k = true := by
    intro p hp k hk
    rcases List.mem_cons.1 hp with rfl | hp
    · exact ((hmem k).1 hk).2.1
    · exact hH2 p hp k hk
  have hset : ∀ (s : Array Bool) (k : Nat), isModAt l k = true → (s.setIfInBounds i true).getD k false = s.getD k false := fun s k hk => getD_set_ne false (fun e => by subst e; rw [hnmi] at hk; cases hk)
  have hSi : ∀ s w', SH H' (s.setIfInBounds i true) w' ↔ SH H' s w' := fun s w' => by
    constructor
    · intro hh p hp
      rcases hh p hp with ⟨k, hk, hs⟩ | hx
      · exact .inl ⟨k, hk, by rw [hset s k (hH2' p hp k hk)] at hs; exact hs⟩
      · exact .inr hx
    · intro hh p hp
      rcases hh p hp with ⟨k, hk, hs⟩ | hx
      · exact .inl ⟨k, hk, by rw [hset s k (hH2' p hp k hk)]; exact hs⟩
      · exact .inr hx
  have ih := C H' M (pt o.dst v e') h (a.put o.dst cv) w (by
      intro p hp k hk hun
      have hun' : listed.getD k true = false := by
        by_cases hik : i = k
        · subst hik; rw [hnmi] at hk; cases hk
        · rw [getD_set_ne true hik] at hun; exact hun
      rcases List.mem_cons.1 hp with rfl | hp
      · refine (hmem k).2 ⟨?_, hk, hun'⟩
        unfold isModAt at hk
        split at hk
        · rename_i ho; exact (List.getElem?_eq_some_iff.1 ho).1
        · cases hk
      · exact hH1 p hp k hk hun') hH2' ((hSi _ _).2 hS') k1 (R'.put c2 k2)
  refine wpAnyS_mono (S := SH H') (fun s w' hh p hp => hh p (List.mem_cons_of_mem _ hp)) _ _ _ _ ?_
  refine wpAnyS_first hoi' (Region.noSelect_spec hsel) (fun c a w hp => absurd hp (hP c _ w)) ?_ hSi n listed a w hcl (Region.free_spec hoi' q1) hri hy hS' ih
  intro s w' hs hun hh
  rcases hh (modsLeft l listed, w) (by simp [H']) with ⟨k, hk, hsk⟩ | hx
  · left
    cases hld : isLoad o with
    | false => rfl
    | true =>
      exfalso
      rw [hld] at q3
      simp only [Bool.not_true, Bool.false_or, List.all_eq_true] at q3
      have := reach_spec (l := l) (i := i) (List.range l.length) [] (by simp) k (by simpa using q3 k hk) s hs hsk
      rw [(getD_tf hun).1] at this
      cases this
  · exact .inr hx
theorem loud_step (hT : TOk P tt) (hl : opsB N l = true) {Q : Exit → Act → World → Prop} {K' : Env → List Blk → Prop} {i n : Nat} {listed : Array Bool} {o : Oper} (hoi : l[i]? = some o) (hq : isQuiet o = false) (hri : i ∈ Region.ready .any l.toArray listed)
    (C : ∀ (H : List (List Nat × World)) (M : MM) (e : Env) (h : List Blk) (a : Act) (w : World), (∀ p ∈ H, ∀ k, isModAt l k = true → (listed.setIfInBounds i true).getD k true = false → k ∈ p.1) → (∀ p ∈ H, ∀ k ∈ p.1, isModAt l k = true) → SH H (listed.setIfInBounds i true) w → K' e h → Rep B X N M e h a w → wpAnyS P .any l.toArray Q (SH H) n (listed.setIfInBounds i true) a w)
    (H : List (List Nat × World)) (M : MM) (e : Env) (h : List Blk) (a : Act) (w : World) (hH1 : ∀ p ∈ H, ∀ k, isModAt l k = true → listed.getD k true = false → k ∈ p.1) (hH2 : ∀ p ∈ H, ∀ k ∈ p.1, isModAt l k = true) (hS : SH H listed w)
    (HK : stepV P tt true l i K' e h) (R : Rep B X N M e h a w) : wpOp P l.toArray Q i (fun a' w' => SH H (listed.setIfInBounds i true) w' ∧ wpAnyS P .any l.toArray Q (SH H) n (listed.setIfInBounds i true) a' w') a w := by
  simp only [stepV] at HK
  rw [hoi] at HK
  dsimp only at HK
  obtain ⟨c1, c2⟩ := opB_c (opsB_c hl hoi)
  have hoi' : l.toArray[i]? = some o := by simpa using hoi
  obtain ⟨e', R', hG⟩ := guard_sound (i := i) R HK
  have hun := (mem_ready.1 hri).1
  have hset : (listed.setIfInBounds i true).getD i false = true := by
    have := (getD_tf hun).2
    simp [this]
  have next : ∀ w' (hx : isMod o = false → Ext w w'), SH H (listed.setIfInBounds i true) w' := fun w' hx p hp => by
    cases hm : isMod o with
    | true => exact .inl ⟨i, hH1 p hp i (by simp [isModAt, hoi, hm]) hun, hset⟩
    | false =>
      rcases hS p hp with ⟨k, hk, hs⟩ | hxx
      · exact .inl ⟨k, hk, getD_set_true hs⟩
      · exact .inr (hxx.trans (hx hm))
  have hH1' : ∀ p ∈ H, ∀ k, isModAt l k = true → (listed.setIfInBounds i true).getD k true = false → k ∈ p.1 := fun p hp k hk hu => by
    refine hH1 p hp k hk ?_
    by_cases hik : i = k
    · subst hik; exact hun
    · rw [getD_set_ne true hik] at hu; exact hu
  unfold wpOp
  rw [hoi']
  dsimp only
  rcases hG with ⟨hw, hG⟩ | ⟨hw, hG⟩
  · rw [if_pos hw]
    refine .inl ?_
    unfold runV at hG
    rw [hq] at hG
    simp only [cond_false] at hG
    exact loud_sound hT R' c1 hG Q _ fun v cv e' h' M' w' k1 k2 k3 k4 => ⟨next w' (fun q => k4 q rfl), C H M' _ h' _ w' hH1' hH2 (next w' (fun q => k4 q rfl)) (V.force_iff.1 ((hforce_iff _ _).1 k1)) (k2.put c2 k3)⟩
  · rw [if_neg (by rw [hw]; simp)]
    exact ⟨next w (fun _ => Ext.refl w), C H M _ h _ w hH1' hH2 (next w fun _ => Ext.refl w) hG (R'.put c2 rfl)⟩
theorem quiet_nm {o : Oper} (hq : isQuiet o = true) : isMod o = false := by
  obtain ⟨_, op, _, _, _, _⟩ := o
  unfold isQuiet at hq
  cases op <;> first
    | rfl
    | (cases hq; done)
    | skip
  rename_i c
  obtain ⟨callee, args, ats⟩ := c
  cases callee <;> first
    | rfl
    | (cases hq; done)
    | skip
  rename_i b
  cases b <;> first
    | rfl
    | cases hq
theorem any_step (hT : TOk P tt) (hl : opsB N l = true) {Q : Exit → Act → World → Prop} {K' : Env → List Blk → Prop} {i n : Nat} {listed : Array Bool} {o : Oper} (hoi : l[i]? = some o) (hri : i ∈ Region.ready .any l.toArray listed)
    (C : ∀ (H : List (List Nat × World)) (M : MM) (e : Env) (h : List Blk) (a : Act) (w : World), (∀ p ∈ H, ∀ k, isModAt l k = true → (listed.setIfInBounds i true).getD k true = false → k ∈ p.1) → (∀ p ∈ H, ∀ k ∈ p.1, isModAt l k = true) → SH H (listed.setIfInBounds i true) w → K' e h → Rep B X N M e h a w → wpAnyS P .any l.toArray Q (SH H) n (listed.setIfInBounds i true) a w)
    (H : List (List Nat × World)) (M : MM) (e : Env) (h : List Blk) (a : Act) (w : World) (hH1 : ∀ p ∈ H, ∀ k, isModAt l k = true → listed.getD k true = false → k ∈ p.1) (hH2 : ∀ p ∈ H, ∀ k ∈ p.1, isModAt l k = true) (hS : SH H listed w)
    (HK : stepV P tt true l i K' e h) (R : Rep B X N M e h a w) : wpOp P l.toArray Q i (fun a' w' => SH H (listed.setIfInBounds i true) w' ∧ wpAnyS P .any l.toArray Q (SH H) n (listed.setIfInBounds i true) a' w') a w := by
  cases hq : isQuiet o with
  | false => exact loud_step hT hl hoi hq hri C H M e h a w hH1 hH2 hS HK R
  | true =>
    simp only [stepV] at HK
    rw [hoi] at HK
    dsimp only at HK
    obtain ⟨c1, c2⟩ := opB_c (opsB_c hl hoi)
    have hoi' : l.toArray[i]? = some o := by simpa using hoi
    obtain ⟨e', R', hG⟩ := guard_sound (i := i) R HK
    have hun := (mem_ready.1 hri).1
    have next : SH H (listed.setIfInBounds i true) w := fun p hp => by
      rcases hS p hp with ⟨k, hk, hs⟩ | hxx
      · exact .inl ⟨k, hk, getD_set_true hs⟩
      · exact .inr hxx
    have hH1' : ∀ p ∈ H, ∀ k, isModAt l k = true → (listed.setIfInBounds i true).getD k true = false → k ∈ p.1 := fun p hp k hk hu => by
      refine hH1 p hp k hk ?_
      by_cases hik : i = k
      · subst hik; exact hun
      · rw [getD_set_ne true hik] at hu; exact hu
    unfold wpOp
    rw [hoi']
    dsimp only
    rcases hG with ⟨hw, hG⟩ | ⟨hw, hG⟩
    · rw [if_pos hw]
      refine .inl ?_
      unfold runV at hG
      rw [hq] at hG
      simp only [cond_true] at hG
      obtain ⟨v, cv, k1, k2, k3⟩ := quiet_sound hT R'.inv R'.env c1 hG
      have k1 := V.force_iff.1 k1
      unfold Oper.wp
      rw [k3 w (.inr (Ext.refl w))]
      exact ⟨next, C H M _ h _ w hH1' hH2 next k1 (R'.put c2 k2)⟩
    · rw [if_neg (by rw [hw]; simp)]
      exact ⟨next, C H M _ h _ w hH1' hH2 next hG (R'.put c2 rfl)⟩
theorem tree_sound (hT : TOk P tt) (hl : opsB N l = true) (hsel : Region.noSelect l.toArray = true) {K : Env → List Blk → Prop} {Q : Exit → Act → World → Prop} (hQ : ∀ e h M a w, K e h → Rep B X N M e h a w → Q .normal a w) (hP : ∀ c a w, ¬ Q (.panic c) a w) :
    ∀ (t : OT) (n : Nat) (listed : Array Bool) (rem : Option (List Nat)) (H : List (List Nat × World)) (M : MM) (e : Env) (h : List Blk) (a : Act) (w : World), okT l t n listed rem = true → Closed .any l.toArray listed →
      (∀ p ∈ H, ∀ k, isModAt l k = true → listed.getD k true = false → k ∈ p.1) → (∀ p ∈ H, ∀ k ∈ p.1, isModAt l k = true) → SH H listed w →
      treeV P tt l t K e h → Rep B X N M e h a w → (rem = none → wpAnyS P .any l.toArray Q (SH H) n listed a w) ∧
        ∀ js, rem = some js → (∀ j ∈ js, j ∈ Region.ready .any l.toArray listed) → ∀ j ∈ js, wpOp P l.toArray Q j (fun a' w' => SH H (listed.setIfInBounds j true) w' ∧ wpAnyS P .any l.toArray Q (SH H) (n - 1) (listed.setIfInBounds j true) a' w') a w
  | .done, n, listed, rem, H, M, e, h, a, w, ho, _, _, _, _, HK, R => by
    simp only [okT, Bool.and_eq_true, nbeq] at ho
    obtain ⟨⟨hr, rfl⟩, ho⟩ := ho
    refine ⟨fun _ => ⟨by simpa using ho, hQ e h M a w HK R⟩, fun js hjs => ?_⟩
    rw [hjs] at hr; cases hr
  | .nil, n, listed, rem, H, M, e, h, a, w, ho, _, _, _, _, HK, R => by
    refine ⟨fun hn => ?_, fun js hjs _ j hj => ?_⟩
    · subst hn; cases ho
    · subst hjs
      cases js with
      | nil => cases hj
      | cons x xs => cases ho
  | .q i t, n, listed, rem, H, M, e, h, a, w, ho, hcl, hH1, hH2, hS, HK, R => by
    cases n with
    | zero => cases ho
    | succ n =>
      simp only [okT, Bool.and_eq_true] at ho
      obtain ⟨⟨hr, ho1⟩, ho2⟩ := ho
      refine ⟨fun _ => ?_, fun js hjs => by rw [hjs] at hr; cases hr⟩
      unfold qOK at ho1
      split at ho1
      · rename_i o hoi
        rw [Bool.and_eq_true] at ho1
        have hri : i ∈ Region.ready .any l.toArray listed := by
          have := ho1.2
          simp only [Bool.and_eq_true] at this
          simpa using this.1.2
        exact quiet_step hT hl hsel hP hoi ho1.1 ho1.2 (fun H M e h a w q1 q2 q3 q4 q5 => (tree_sound hT hl hsel hQ hP t n _ none H M e h a w ho2 (hcl.set hri) q1 q2 q3 q4 q5).1 rfl) H M e h a w hcl hH1 hH2 hS HK R
      · cases ho1
  | .alt i t r, n, listed, rem, H, M, e, h, a, w, ho, hcl, hH1, hH2, hS, HK, R => by
    cases n with
    | zero => cases ho
    | succ n =>
      obtain ⟨HK1, HK2⟩ := treeV_alt HK
      have key : ∀ L, rem.getD (Region.ready .any l.toArray listed) = L → (∀ j ∈ L, j ∈ Region.ready .any l.toArray listed) → L ≠ [] ∧ ∀ j ∈ L, wpOp P l.toArray Q j (fun a' w' => SH H (listed.setIfInBounds j true) w' ∧ wpAnyS P .any l.toArray Q (SH H) n (listed.setIfInBounds j true) a' w') a w := by
        intro L hL hsub
        simp only [okT] at ho
        rw [hL] at ho
        cases L with
        | nil => cases ho
        | cons x xs =>
          simp only [Bool.and_eq_true, nbeq] at ho
          obtain ⟨⟨⟨rfl, hlt⟩, ho2⟩, ho3⟩ := ho
          have hri := hsub x (by simp)
          obtain ⟨o, hoi⟩ : ∃ o, l[x]? = some o := ⟨_, List.getElem?_eq_getElem (by have h9 := hlt; simp [Nat.blt] at h9; omega)⟩
          refine ⟨by simp, fun j hj => ?_⟩
          rcases List.mem_cons.1 hj with rfl | hj
          · exact any_step hT hl hoi hri (fun H M e h a w q1 q2 q3 q4 q5 => (tree_sound hT hl hsel hQ hP t n _ none H M e h a w ho2 (hcl.set hri) q1 q2 q3 q4 q5).1 rfl) H M e h a w hH1 hH2 hS HK1 R
          · exact (tree_sound hT hl hsel hQ hP r (n + 1) listed (some xs) H M e h a w ho3 hcl hH1 hH2 hS HK2 R).2 xs rfl (fun j hj => hsub j (by simp [hj])) j hj
      refine ⟨fun hn => ?_, fun js hjs hsub j hj => ?_⟩
      · subst hn
        obtain ⟨k1, k2⟩ := key _ rfl (fun j hj => hj)
        exact ⟨fun h0 => absurd h0 k1, k2⟩
      · subst hjs
        exact (key js rfl hsub).2 j hj
end
/-! ### the orders of a region -/
def depT : List Edge → Nat
  | [] => 0
  | e :: es => bif Region.binds .any e then Nat.lor (Nat.shiftLeft 1 e.on) (depT es) else depT es
def bitsT : List Nat → Nat
  | [] => 0
  | i :: is => Nat.lor (Nat.shiftLeft 1 i) (bitsT is)
/-- the operations that change memory and do not wait for number i -/
def lateT (l : List Oper) (i : Nat) : Nat := bitsT ((List.range l.length).filter fun k => isModAt l k && !(reach l i (List.range l.length) []).contains k)
structure PT where
  i : Nat
  q : Bool
  dep : Nat
  late : Nat
def prepT (l : List Oper) : List Oper → Nat → List PT
  | [], _ => []
  | o :: r, i => ⟨i, isQuiet o, depT o.after.toList, bif isLoad o then lateT l i else 0⟩ :: prepT l r (i + 1)
def hasT (m d : Nat) : Bool := Nat.beq (Nat.land m d) m
def pickT (done : Nat) : List PT → Option Nat
  | [] => none
  | p :: r => bif (Nat.beq (Nat.land (Nat.shiftRight done p.i) 1) 0) && p.q && hasT p.dep done && hasT p.late done then some p.i else pickT done r
def rdyT (done : Nat) : List PT → List Nat
  | [] => []
  | p :: r => bif (Nat.beq (Nat.land (Nat.shiftRight done p.i) 1) 0) && hasT p.dep done then p.i :: rdyT done r else rdyT done r
def altsT (f : Nat → OT) : List Nat → OT
  | [] => .nil
  | i :: r => .alt i (f i) (altsT f r)
def treeF (ps : List PT) : Nat → Nat → OT
  | 0, _ => .done
  | n + 1, done => match pickT done ps with
    | some i => .q i (treeF ps n (Nat.lor done (Nat.shiftLeft 1 i)))
    | none => altsT (fun i => treeF ps n (Nat.lor done (Nat.shiftLeft 1 i))) (rdyT done ps)
def treeOf (l : List Oper) : OT := treeF (prepT l l 0) l.length 0
end Go.Proofs.YtcachhipflibkaaGreat

/- The abstract machine, fourteenth part: code, loops, what a function returns. Leans on no program. -/
set_option linter.unusedSimpArgs false
set_option linter.unusedVariables false
namespace Go.Proofs.YtcachhipflibkaaGreat
open Go.RowKit

inductive VX where
  | normal
  | exit (id : Nat)
  | ret
abbrev Post := VX → Env → List Blk → Prop
def seqQ (n : Env → List Blk → Prop) (Q : Post) : Post
  | .normal => n
  | .exit id => Q (.exit id)
  | .ret => Q .ret
def blkQ (id : Nat) (Q : Post) : Post
  | .normal => Q .normal
  | .exit i => bif Nat.beq i id then Q .normal else Q (.exit i)
  | .ret => Q .ret
/-- knowing less, or the same in other words -/
def Weak (e : Env) (h : List Blk) (e' : Env) (h' : List Blk) : Prop :=
  ∀ (B : World) (X : List Nat) (N : Nat) (M : MM) (a : Act) (w : World), Rep B X N M e h a w → ∃ M', Rep B X N M' e' h' a w
structure NextW {α : Type} (mkE : α → Env) (mkH : α → List Blk) (I : α → Prop) (μ : α → Nat) (x : α) (e : Env) (h : List Blk) : Prop where
  ex : ∀ (B : World) (X : List Nat) (N : Nat) (M : MM) (a : Act) (w : World), Rep B X N M e h a w → ∃ x' M', Rep B X N M' (mkE x') (mkH x') a w ∧ I x' ∧ μ x' < μ x
def loopQ {α : Type} (mkE : α → Env) (mkH : α → List Blk) (I : α → Prop) (μ : α → Nat) (Q : Post) (x : α) : Post
  | .normal => NextW mkE mkH I μ x
  | .exit id => Q (.exit id)
  | .ret => Q .ret
structure LoopW (F : Post → Env → List Blk → Prop) (Q : Post) (e : Env) (h : List Blk) : Prop where
  ex : ∃ (α : Type) (mkE : α → Env) (mkH : α → List Blk) (I : α → Prop) (μ : α → Nat), (∀ (B : World) (X : List Nat) (N : Nat) (M : MM) (a : Act) (w : World), Rep B X N M e h a w → ∃ x0 M', Rep B X N M' (mkE x0) (mkH x0) a w ∧ I x0) ∧ ∀ x, I x → F (loopQ mkE mkH I μ Q x) (mkE x) (mkH x)
structure RegD (P : Program) (tt : TT) (l : List Oper) (K : Env → List Blk → Prop) (e : Env) (h : List Blk) : Prop where
  ex : (∃ is, ordOK l is = true ∧ seqV P tt true l is K e h) ∨ (∃ t, treeOK l t = true ∧ treeV P tt l t K e h) ∨ ∃ t e0 h0, treeOK l t = true ∧ treeV P tt l t (fun e h => Weak e h e0 h0) e h ∧ K e0 h0
def know (c : Operand) (b : Bool) (e : Env) : Env :=
  match c with
  | .tmp t => (t, .d (.bool b)) :: e
  | _ => e
def wpC (P : Program) (tt : TT) : Code → Post → Env → List Blk → Prop
  | .skip, Q => Q .normal
  | .region _ ⟨l⟩ draw, Q => fun e h => bif draw then RegD P tt l (Q .normal) e h else seqV P tt false l (List.range l.length) (Q .normal) e h
  | .seq x y, Q => wpC P tt x (seqQ (wpC P tt y Q) Q)
  | .cond c x y, Q => fun e h => match ev e c with
    | .d (.bool b) => BIf b (wpC P tt x Q (know c true e) h) (wpC P tt y Q (know c false e) h)
    | _ => False
  | .block id x, Q => wpC P tt x (blkQ id Q)
  | .loop x, Q => LoopW (wpC P tt x) Q
  | .exit id, Q => Q (.exit id)
  | .ret, Q => Q .ret
  | .rangeFunc _ _ _ _, _ => fun _ _ => False
  | .scope _, _ => fun _ _ => False
  | .label _, _ => fun _ _ => False
  | .goto _, _ => fun _ _ => False
  | .refuse _, _ => fun _ _ => False
def codeB (N : Nat) : Code → Bool
  | .skip => true
  | .region _ ⟨l⟩ _ => opsB N l
  | .seq x y => codeB N x && codeB N y
  | .cond c x y => cOK c && codeB N x && codeB N y
  | .block _ x => codeB N x
  | .loop x => codeB N x
  | .exit _ => true
  | .ret => true
  | .rangeFunc _ _ _ _ => true
  | .scope _ => true
  | .label _ => true
  | .goto _ => true
  | .refuse _ => true

def lift (B : World) (X : List Nat) (N : Nat) (Q : Post) : Exit → Act → World → Prop
  | .normal, a, w => ∃ e h M, Q .normal e h ∧ Rep B X N M e h a w
  | .exit id, a, w => ∃ e h M, Q (.exit id) e h ∧ Rep B X N M e h a w
  | .ret, a, w => ∃ e h M, Q .ret e h ∧ Rep B X N M e h a w
  | .goto _, _, _ => False
  | .panic _, _, _ => False
  | .outgrown, _, _ => False

theorem code_sound {P : Program} {tt : TT} (hT : TOk P tt) (hm : P.follows .mixedOrders = true) {B : World} {X : List Nat} {N : Nat} : ∀ (c : Code) (Q : Post) (M : MM) (e : Env) (h : List Blk) (a : Act) (w : World),
    codeB N c = true → wpC P tt c Q e h → Rep B X N M e h a w → c.wp P (lift B X N Q) a w
  | .skip, Q, M, e, h, a, w, _, H, R => wp_skip ⟨e, h, M, H, R⟩
  | .region id ⟨l⟩ draw, Q, M, e, h, a, w, hc, H, R => by
    cases draw with
    | false =>
      have H : seqV P tt false l (List.range l.length) (Q .normal) e h := H
      refine wp_region ?_
      rw [List.size_toArray]
      exact seq_sound hT hc (fun e h M a w hK R => ⟨e, h, M, hK, R⟩) _ M e h a w H R
    | true =>
      refine wp_region_any hm ?_
      refine wpAny_of_S (S := SH []) _ _ _ _ ?_
      have R' : Rep B X N M e h a w.drew := ⟨R.ext.drew, R.inv.ext ((Ext.refl w).drew), fun k => rep_mv (((Ext.refl w).drew).mv R.inv.hi) _ _ (V.inS_all _) (R.env k), R.sz, R.df, R.fr, R.fh⟩
      have hcl : Closed .any l.toArray (Array.replicate l.length false) := by
        intro j o _ hj
        rw [Array.getD_eq_getD_getElem?, Array.getElem?_replicate] at hj
        split at hj <;> simp at hj
      rw [List.size_toArray]
      rcases (H : RegD P tt l (Q .normal) e h).ex with ⟨is, ho, H⟩ | ⟨t, ho, H⟩ | ⟨t, e0, h0, ho, H, HK⟩
      · simp only [ordOK, Bool.and_eq_true, nbeq] at ho
        have := any_sound hT hc ho.1.1 (K := Q .normal) (Q := lift B X N Q) (fun e h M a w hK R => ⟨e, h, M, hK, R⟩) (fun c a w hp => hp) is (Array.replicate l.length false) [] M e h a _ ho.2 hcl (by simp) (by simp) (by intro p hp; cases hp) H R'
        rw [ho.1.2] at this
        exact this
      · simp only [treeOK, Bool.and_eq_true] at ho
        exact (tree_sound hT hc ho.1 (K := Q .normal) (Q := lift B X N Q) (fun e h M a w hK R => ⟨e, h, M, hK, R⟩) (fun c a w hp => hp) t l.length (Array.replicate l.length false) none [] M e h a _ ho.2 hcl (by simp) (by simp) (by intro p hp; cases hp) H R').1 rfl
      · simp only [treeOK, Bool.and_eq_true] at ho
        exact (tree_sound hT hc ho.1 (K := fun e h => Weak e h e0 h0) (Q := lift B X N Q) (fun e h M a w hK R => (hK _ _ _ _ _ _ R).elim fun M' R' => ⟨e0, h0, M', HK, R'⟩) (fun c a w hp => hp) t l.length (Array.replicate l.length false) none [] M e h a _ ho.2 hcl (by simp) (by simp) (by intro p hp; cases hp) H R').1 rfl
  | .seq x y, Q, M, e, h, a, w, hc, H, R => by
    simp only [codeB, Bool.and_eq_true] at hc
    refine wp_seq (wp_mono (code_sound hT hm x (seqQ (wpC P tt y Q) Q) M e h a w hc.1 H R) fun x' a' w' hx => ?_)
    cases x' with
    | normal =>
      obtain ⟨e', h', M', k1, k2⟩ := hx
      exact code_sound hT hm y Q M' e' h' a' w' hc.2 k1 k2
    | exit id => exact hx
    | ret => exact hx
    | goto l => exact hx
    | panic c => exact hx
    | outgrown => exact hx
  | .cond c x y, Q, M, e, h, a, w, hc, H, R => by
    simp only [codeB, Bool.and_eq_true] at hc
    have hev := ev_rep R.env c hc.1.1
    simp only [wpC] at H
    split at H
    · rename_i b hb
      rw [hb] at hev
      have hcv := rep_bool.1 hev
      have R' : ∀ q, b = q → Rep B X N M (know c q e) h a w := fun q hq => by
        cases c with
        | tmp t => exact R.know (rep_bool.2 (by rw [← hq]; exact hcv))
        | const _ => exact R
        | global _ => exact R
        | func _ => exact R
      refine BIf.elim H (fun hq H => ?_) (fun hq H => ?_)
      · exact wp_cond_true (by rw [hcv, hq]) (code_sound hT hm x Q M _ h a w hc.1.2 H (R' true hq))
      · exact wp_cond_false (by rw [hcv, hq]) (code_sound hT hm y Q M _ h a w hc.2 H (R' false hq))
    · exact H.elim
  | .block id x, Q, M, e, h, a, w, hc, H, R => by
    refine wp_block (wp_mono (code_sound hT hm x (blkQ id Q) M e h a w hc H R) fun x' a' w' hx => ?_)
    cases x' with
    | normal => exact hx
    | exit i =>
      obtain ⟨e', h', M', k1, k2⟩ := hx
      simp only [Exit.inBlock]
      simp only [blkQ] at k1
      by_cases hi : i = id
      · subst hi
        rw [Nat.beq_refl] at k1
        rw [if_pos rfl]
        exact ⟨e', h', M', k1, k2⟩
      · have : Nat.beq i id = false := by
          cases hb : Nat.beq i id with
          | false => rfl
          | true => exact absurd (Nat.eq_of_beq_eq_true hb) hi
        rw [this] at k1
        rw [if_neg hi]
        exact ⟨e', h', M', k1, k2⟩
    | ret => exact hx
    | goto l => exact hx
    | panic c => exact hx
    | outgrown => exact hx
  | .loop x, Q, M, e, h, a, w, hc, H, R => by
    obtain ⟨α, mkE, mkH, I, μ, hw0, hround⟩ := (H : LoopW (wpC P tt x) Q e h).ex
    obtain ⟨x0, M0, R0, hI0⟩ := hw0 B X N M a w R
    intro b k cs
    have key : ∀ (n : Nat) (M : MM) (y : α) (a : Act) (w : World), μ y = n → I y → Rep B X N M (mkE y) (mkH y) a w →
        ∃ e' a' w', lift B X N Q e' a' w' ∧ Arrives P (lone (b.at a (.code x :: .inLoop x :: k)) cs w) b k cs e' a' w' := by
      intro n
      induction n using Nat.strongRecOn with
      | _ n ih =>
        intro M y a w hn hI R
        obtain ⟨x', a1, w1, hq, harr⟩ := code_sound hT hm x (loopQ mkE mkH I μ Q y) M (mkE y) (mkH y) a w hc (hround y hI) R b (.inLoop x :: k) cs
        cases x' with
        | normal =>
          obtain ⟨e', h', M', ⟨hnx⟩, k2⟩ := hq
          obtain ⟨y3, M3, R3, hI3, hlt⟩ := hnx B X N M' a1 w1 k2
          obtain ⟨e₂, a₂, w₂, hq₂, harr₂⟩ := ih (μ y3) (hn ▸ hlt) M3 y3 a1 w1 rfl hI3 R3
          exact ⟨e₂, a₂, w₂, hq₂, .of_steps (Steps.trans harr (.one step_inLoop)) harr₂⟩
        | exit id =>
          have hq' : lift B X N Q (.exit id) a1 w1 := hq
          exact ⟨_, a1, w1, hq', .pass (x := .inLoop x) rfl (fun _ _ => .inl (by simp)) harr⟩
        | ret =>
          have hq' : lift B X N Q .ret a1 w1 := hq
          exact ⟨_, a1, w1, hq', .pass (x := .inLoop x) rfl (fun _ _ => .inl (by simp)) harr⟩
        | goto l => exact hq.elim
        | panic c => exact hq.elim
        | outgrown => exact hq.elim
    obtain ⟨e', a', w', hq, harr⟩ := key _ M0 x0 a w rfl hI0 R0
    exact ⟨e', a', w', hq, .of_steps (.one step_loop) harr⟩
  | .exit id, Q, M, e, h, a, w, _, H, R => wp_exit ⟨e, h, M, H, R⟩
  | .ret, Q, M, e, h, a, w, _, H, R => wp_ret ⟨e, h, M, H, R⟩
  | .rangeFunc _ _ _ _, Q, M, e, h, a, w, _, H, R => H.elim
  | .scope _, Q, M, e, h, a, w, _, H, R => H.elim
  | .label _, Q, M, e, h, a, w, _, H, R => H.elim
  | .goto _, Q, M, e, h, a, w, _, H, R => H.elim
  | .refuse _, Q, M, e, h, a, w, _, H, R => H.elim

/-! ### knowing less -/
def cov (e : Env) : Env → Prop
  | [] => True
  | (k, v) :: r => gt e k = v ∧ cov e r
def covH : List Blk → List Blk → Prop
  | _, [] => True
  | [], _ :: _ => False
  | b :: h, b' :: h' => (match b' with | .gone => True | b' => b = b') ∧ covH h h'
mutual
/-- refers only to what is left -/
def V.sc (h : List Blk) : V → Bool
  | .own b _ _ => (match h[b]? with | some (.arr _ _ _) => true | _ => false)
  | .pB b _ _ => (match h[b]? with | some (.box _) => true | some (.bld _ _ _) => true | some (.mp _ _) => true | _ => false)
  | .pL b _ _ _ => (match h[b]? with | some (.arr _ _ _) => true | _ => false)
  | .fn _ caps => V.scs h caps
  | .st fs => V.scs h fs
  | .tup vs => V.scs h vs
  | .top => true
  | .undef => true
  | .d _ => true
  | .nils => true
  | .nilp => true
  | .pX _ => true
def V.scs (h : List Blk) : List V → Bool
  | [] => true
  | v :: vs => v.sc h && V.scs h vs
end
def scE (h : List Blk) : Env → Bool
  | [] => true
  | (_, v) :: r => v.sc h && scE h r
def scH (h : List Blk) : List Blk → Bool
  | [] => true
  | .box v :: r => v.sc h && scH h r
  | .arr _ _ _ :: r => scH h r
  | .gone :: r => scH h r
  | .gho _ _ _ _ _ :: r => (match (h[2]? : Option Blk) with | some (Blk.arr _ _ _) => true | some (Blk.mp _ _) => true | _ => false) && scH h r
  | .pin c _ _ _ :: r => (match (h[c]? : Option Blk) with | some (Blk.arr _ _ _) => true | _ => false) && scH h r
  | .keep e _ :: r => scE h e && scH h r
  | .bld _ _ _ :: r => scH h r
  | .mp _ _ :: r => scH h r
def live0 (h : List Blk) (b : Nat) : Prop := ∃ k, h[b]? = some k ∧ k.live = true
mutual
theorem sc_inS {h : List Blk} : ∀ v : V, v.sc h = true → v.inS (live0 h)
  | .own b _ _, H => by
    simp only [V.sc] at H
    split at H
    · rename_i hk; exact ⟨_, hk, rfl⟩
    · cases H
  | .pB b _ _, H => by
    simp only [V.sc] at H
    split at H
    · rename_i hk; exact ⟨_, hk, rfl⟩
    · rename_i hk; exact ⟨_, hk, rfl⟩
    · rename_i hk; exact ⟨_, hk, rfl⟩
    · cases H
  | .pL b _ _ _, H => by
    simp only [V.sc] at H
    split at H
    · rename_i hk; exact ⟨_, hk, rfl⟩
    · cases H
  | .fn _ caps, H => scs_inS caps H
  | .st fs, H => scs_inS fs H
  | .tup vs, H => scs_inS vs H
  | .top, _ => trivial
  | .undef, _ => trivial
  | .d _, _ => trivial
  | .nils, _ => trivial
  | .nilp, _ => trivial
  | .pX _, _ => trivial
theorem scs_inS {h : List Blk} : ∀ vs : List V, V.scs h vs = true → V.inSs (live0 h) vs
  | [], _ => trivial
  | v :: vs, H => by
    simp only [V.scs, Bool.and_eq_true] at H
    exact ⟨sc_inS v H.1, scs_inS vs H.2⟩
end
theorem covH_get : ∀ (h h' : List Blk), covH h h' → ∀ (b : Nat) (k : Blk), h'[b]? = some k → ∃ k0, h[b]? = some k0 ∧ (k.live = true → k0 = k)
  | h, [], _, b, k, hk => by simp at hk
  | [], _ :: _, H, b, k, hk => H.elim
  | b0 :: h, b1 :: h', H, 0, k, hk => by
    simp at hk
    subst hk
    refine ⟨b0, rfl, fun hl => ?_⟩
    have := H.1
    cases b1 with
    | gone => cases hl
    | arr _ _ _ => exact this
    | box _ => exact this
    | gho _ _ _ _ _ => exact this
    | pin _ _ _ _ => exact this
    | keep _ _ => exact this
    | bld _ _ _ => exact this
    | mp _ _ => exact this
  | b0 :: h, b1 :: h', H, b + 1, k, hk => by
    obtain ⟨k0, h1, h2⟩ := covH_get h h' H.2 b k (by simpa using hk)
    exact ⟨k0, by simpa using h1, h2⟩
theorem scH_get {h0 : List Blk} : ∀ (h : List Blk), scH h0 h = true → ∀ (b : Nat) (v : V), h[b]? = some (.box v) → v.sc h0 = true
  | [], _, b, v, hk => by simp at hk
  | k :: h, H, 0, v, hk => by
    simp at hk
    subst hk
    simp only [scH, Bool.and_eq_true] at H
    exact H.1
  | k :: h, H, b + 1, v, hk => by
    refine scH_get h ?_ b v (by simpa using hk)
    cases k <;> first | exact H | (simp only [scH, Bool.and_eq_true] at H; exact H.2)
theorem scH_gho {h0 : List Blk} : ∀ (h : List Blk), scH h0 h = true → ∀ (b : Nat) (c : Nat → Option Obj) (s g sz : Nat) (t : TypeId), h[b]? = some (.gho c s g sz t) → live0 h0 2
  | [], _, b, c, s, g, sz, t, hk => by simp at hk
  | k :: h, H, 0, c, s, g, sz, t, hk => by
    simp at hk
    subst hk
    simp only [scH, Bool.and_eq_true] at H
    have := H.1
    split at this
    · rename_i h2
      exact ⟨_, h2, rfl⟩
    · rename_i h2
      exact ⟨_, h2, rfl⟩
    · cases this
  | k :: h, H, b + 1, c, s, g, sz, t, hk => by
    refine scH_gho h ?_ b c s g sz t (by simpa using hk)
    cases k <;> first | exact H | (simp only [scH, Bool.and_eq_true] at H; exact H.2)
theorem scH_pin {h0 : List Blk} : ∀ (h : List Blk), scH h0 h = true → ∀ (b : Nat) (c g sz : Nat) (t : TypeId), h[b]? = some (.pin c g sz t) → live0 h0 c
  | [], _, b, c, g, sz, t, hk => by simp at hk
  | k :: h, H, 0, c, g, sz, t, hk => by
    simp at hk
    subst hk
    simp only [scH, Bool.and_eq_true] at H
    have := H.1
    split at this
    · rename_i h2
      exact ⟨_, h2, rfl⟩
    · cases this
  | k :: h, H, b + 1, c, g, sz, t, hk => by
    refine scH_pin h ?_ b c g sz t (by simpa using hk)
    cases k <;> first | exact H | (simp only [scH, Bool.and_eq_true] at H; exact H.2)
theorem scH_keep {h0 : List Blk} : ∀ (h : List Blk), scH h0 h = true → ∀ (b : Nat) (e : Env) (f : Nat → Value), h[b]? = some (.keep e f) → scE h0 e = true
  | [], _, b, e, f, hk => by simp at hk
  | k :: h, H, 0, e, f, hk => by
    simp at hk
    subst hk
    simp only [scH, Bool.and_eq_true] at H
    exact H.1
  | k :: h, H, b + 1, e, f, hk => by
    refine scH_keep h ?_ b e f (by simpa using hk)
    cases k <;> first | exact H | (simp only [scH, Bool.and_eq_true] at H; exact H.2)
theorem scE_inS {h0 : List Blk} : ∀ (e : Env), scE h0 e = true → inSE (live0 h0) e
  | [], _ => trivial
  | (_, v) :: e, H => by
    simp only [scE, Bool.and_eq_true] at H
    exact ⟨sc_inS v H.1, scE_inS e H.2⟩
theorem scE_get {h0 : List Blk} : ∀ (e : Env), scE h0 e = true → ∀ k, (gt e k).sc h0 = true
  | [], _, k => rfl
  | (j, v) :: e, H, k => by
    simp only [scE, Bool.and_eq_true] at H
    rw [gt_cons]
    split
    · exact H.1
    · exact scE_get e H.2 k
theorem cov_get {e : Env} : ∀ (e' : Env), cov e e' → ∀ k, gt e' k = .top ∨ gt e' k = gt e k
  | [], _, k => .inl rfl
  | (j, v) :: e', H, k => by
    rw [gt_cons]
    split
    · rename_i hj
      subst hj
      exact .inr H.1.symm
    · exact cov_get e' H.2 k
/-- the blocks that are left -/
def cutM : MM → List Blk → MM
  | _, [] => []
  | [], _ :: _ => []
  | m :: M, k :: h => m :: cutM M h
theorem cutM_get : ∀ (M : MM) (h : List Blk) (b : Nat), h.length ≤ M.length → (cutM M h)[b]? = if b < h.length then M[b]? else none
  | M, [], b, _ => by cases M <;> simp [cutM]
  | [], k :: h, b, hl => by simp at hl
  | m :: M, k :: h, 0, _ => by simp [cutM]
  | m :: M, k :: h, b + 1, hl => by
    simp only [cutM, List.getElem?_cons_succ, List.length_cons, Nat.add_lt_add_iff_right]
    exact cutM_get M h b (by simpa using hl)
theorem cutM_take : ∀ (M : MM) (h : List Blk), h.length ≤ M.length → cutM M h = M.take h.length
  | M, [], _ => by cases M <;> rfl
  | [], k :: h, hl => by simp at hl
  | m :: M, k :: h, hl => by simp [cutM, cutM_take M h (by simpa using hl)]
theorem Weak.cov {e : Env} {h : List Blk} {e' : Env} {h' : List Blk} (h1 : cov e e') (h2 : covH h h') (h3 : (scE h' e' && scH h' h' && (match h' with | .gone :: _ => true | _ => false)) = true) : Weak e h e' h' := by
  intro B X N M a w R
  simp only [Bool.and_eq_true] at h3
  obtain ⟨⟨s1, s2⟩, s3⟩ := h3
  have hlen : h'.length ≤ h.length := by
    rcases Nat.lt_or_ge h.length h'.length with hlt | hge
    · obtain ⟨k, hk⟩ := at_lt hlt
      obtain ⟨k0, hk0, _⟩ := covH_get h h' h2 h.length k hk
      simp at hk0
    · exact hge
  have hM : h'.length ≤ M.length := by rw [R.inv.len]; exact hlen
  have hO : ∀ b, b ∈ MM.O (cutM M h') → b ∈ M.O := fun b hb => by
    obtain ⟨i, m, hm, hg⟩ := mem_O_get hb
    rw [cutM_get M h' i hM] at hm
    split at hm
    · exact mem_O hm hg
    · cases hm
  have mv : Mv (live0 h') w M h w (cutM M h') h' := {
    ext := fun b hb _ => ⟨fun hc => hb (hO b hc), rfl⟩
    ids := fun b g F hS hb => by
      obtain ⟨k, hk, _⟩ := hS
      refine ⟨F, ?_⟩
      rw [cutM_get M h' b hM, if_pos (List.getElem?_eq_some_iff.1 hk).1]
      exact hb
    row := fun b g F arr t _ _ hg => ⟨arr, hg, rfl⟩
    nof := fun b g F hS _ => by
      obtain ⟨k, hk, hl⟩ := hS
      obtain ⟨k0, hk0, hkk⟩ := covH_get h h' h2 b k hk
      rw [hkk hl] at hk0
      simp [nOf, hk, hk0]
    sz := Nat.le_refl _ }
  refine ⟨cutM M h', ⟨R.ext, ⟨?_, fun b k m hk hm => ?_, ?_, fun b k m hk hm hl => ?_, fun g hg => R.inv.hi g (hO g hg)⟩, fun k => ?_, R.sz, R.df, ?_, ?_⟩⟩
  · rw [cutM_take M h' hM, List.length_take]; omega
  · rw [cutM_get M h' b hM, if_pos (List.getElem?_eq_some_iff.1 hk).1] at hm
    obtain ⟨k0, hk0, hkk⟩ := covH_get h h' h2 b k hk
    cases hl : k.live with
    | false => cases k <;> first | trivial | cases hl
    | true =>
      obtain rfl := hkk hl
      refine BRep_mv mv ?_ (fun _ _ => rfl) (R.inv.blk b k0 m hk0 hm)
      cases k0 with
      | box v => exact sc_inS v (scH_get h' s2 b v hk)
      | arr _ _ _ => trivial
      | gone => trivial
      | gho c s g sz t => exact scH_gho h' s2 b c s g sz t hk
      | pin c g sz t => exact scH_pin h' s2 b c g sz t hk
      | keep e f => exact scE_inS e (scH_keep h' s2 b e f hk)
      | bld _ _ _ => trivial
      | mp _ _ => trivial
  · rw [cutM_take M h' hM]
    have hsub : List.Sublist (MM.O (M.take h'.length)) M.O := by
      have := O_app (M.take h'.length) (M.drop h'.length)
      rw [List.take_append_drop] at this
      rw [this]
      exact List.sublist_append_left _ _
    exact hsub.nodup R.inv.nd
  · rw [cutM_get M h' b hM, if_pos (List.getElem?_eq_some_iff.1 hk).1] at hm
    obtain ⟨k0, hk0, hkk⟩ := covH_get h h' h2 b k hk
    exact R.inv.lo b k m (by rw [← hkk hl]; exact hk0) hm hl
  · rcases cov_get e' h1 k with h | h
    · rw [h]; trivial
    · have := R.env k
      rw [← h] at this
      exact rep_mv mv _ _ (sc_inS _ (scE_get e' s1 k)) this
  · rw [cutM_get M h' 0 hM, if_pos (by cases h' with | nil => cases s3 | cons _ _ => simp)]
    exact R.fr
  · cases h' with
    | nil => cases s3
    | cons k _ => cases k <;> first | rfl | cases s3
theorem Weak.trans {e e' e'' : Env} {h h' h'' : List Blk} (h1 : Weak e h e' h') (h2 : Weak e' h' e'' h'') : Weak e h e'' h'' := fun B X N M a w R => by
  obtain ⟨M', R'⟩ := h1 B X N M a w R
  exact h2 B X N M' a w R'
theorem Weak.refl (e : Env) (h : List Blk) : Weak e h e h := fun _ _ _ M _ _ R => ⟨M, R⟩
end Go.Proofs.YtcachhipflibkaaGreat
