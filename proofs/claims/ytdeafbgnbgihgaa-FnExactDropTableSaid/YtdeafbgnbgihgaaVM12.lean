/- The abstract machine, twelfth part: operations in a row, in the text's order or in any order. Leans on no program. -/
import Derived.Test.YtdeafbgnbgihgaaVMApp
import Derived.Test.YtdeafbgnbgihgaaVMBuild
set_option linter.unusedSimpArgs false
set_option linter.unusedVariables false
namespace Go.Proofs.Ytdeafbgnbgihgaa
open Go.RowKit

def pt (d : Option Tmp) (v : V) (e : Env) : Env :=
  match d with
  | some d => (d, v) :: e
  | none => e
def okTs : List V → Bool
  | [] => true
  | v :: vs => v.okc && okTs vs
/-- functions whose calls may change blocks that are there, in regions drawn in any order too -/
def modFs : List Nat := [38, 999999]
def modF (f : Nat) : Bool := modFs.any (Nat.beq f)
/-- it changes blocks that are there -/
def isMod (o : Oper) : Bool :=
  match o.op with
  | .store _ _ _ => true
  | .mapUpdate _ _ _ _ => true
  | .call { callee := .builtin .append, .. } => true
  | .call { callee := .value (.func f), .. } => modF f
  | _ => false
structure LtW (k n : Nat) (K : Prop) : Prop where
  ex : k < n ∧ K
/-- a whole element is stored, and its memory taken over -/
def setV (tt : TT) (t : Nat) (p x : V) (e : Env) (h : List Blk) (K : Env → List Blk → Prop) : Prop :=
  match tt t, p with
  | some i, .pL b k [] off => match h[b]? with
    | some (.arr n xs true) => bif Nat.beq off 0 && Nat.beq i.size n && x.okc && Nat.beq x.size n then
        LtW k xs.length (tkV h x fun z is => bif nodupB is && !is.any (Nat.beq b) then K (dropE is e) ((goneL is (dropK is h)).set b (.arr n (xs.set k z) true)) else False)
      else False
    | _ => False
  | _, _ => False
def isWhole : V → V → Bool
  | .pL _ _ [] _, .d x => !x.flat
  | .pL _ _ [] _, .st _ => true
  | .pL _ _ [] _, .own _ _ _ => true
  | .pL _ _ [] _, .nils => true
  | _, _ => false
def loudV (P : Program) (tt : TT) (dr : Bool) (o : Oper) (e : Env) (h : List Blk) (K : V → Env → List Blk → Prop) : Prop :=
  match o.op with
  | .alloc t => allocV tt t h fun v h' => K v e h'
  | .box t x => boxV tt t (ev e x) h fun v h' => K v e h'
  | .store t p x => bif isWhole (ev e p) (ev e x) then setV tt t (ev e p) (ev e x) e h (fun e' h' => K .undef e' h') else storeV tt t (ev e p) (ev e x) h fun h' => K .undef e h'
  | .makeSlice t n c => makeV tt t (ev e n) (ev e c) h fun v h' => K v e h'
  | .makeMap t none => makeMapV tt t h fun v h' => K v e h'
  | .mapUpdate t m k x => mapV tt t (ev e m) (ev e k) (ev e x) h fun h' => K .undef e h'
  | .buildSlice t n ⟨ps⟩ => litV tt t n ps e h K
  | .build t ⟨ps⟩ => buildV tt t ps e fun v => K v e h
  | .call { callee := .builtin .append, args := ⟨[s, x]⟩, argTypes := ⟨[t, tx]⟩ } => appW tt t tx (ev e s) (ev e x) e h K
  | .call { callee := .value f, args := ⟨xs⟩, .. } => match ev e f with
    | .fn (.func fid) caps => bif okTs (evs e xs) && capsOK caps then CallW P (dr && !isMod o) fid (evs e xs ++ caps) e h K else False
    | .d (.fnv (.func fid)) => bif okTs (evs e xs) then CallW P (dr && !isMod o) fid (evs e xs ++ []) e h K else False
    | _ => False
  | _ => False

section
variable {P : Program} {tt : TT} {B : World} {X : List Nat} {N : Nat} {M : MM} {e : Env} {h : List Blk} {a : Act} {w : World}

theorem gt_cons (k : Nat) (v : V) (e : Env) (i : Nat) : gt ((k, v) :: e) i = if k = i then v else gt e i := by
  show (bif Nat.beq k i then v else gt e i) = _
  by_cases hk : k = i
  · subst hk; simp
  · rw [if_neg hk]
    have : Nat.beq k i = false := by
      cases hb : Nat.beq k i with
      | false => rfl
      | true => exact absurd (Nat.eq_of_beq_eq_true hb) hk
    rw [this]; rfl
theorem Rep.put (R : Rep B X N M e h a w) {d : Option Tmp} (hd : ∀ k, d = some k → k < N) {v : V} {cv : Value} (hv : rep w M h v cv) : Rep B X N M (pt d v e) h (a.put d cv) w := by
  cases d with
  | none => exact R
  | some d =>
    have hlt : d < a.tmps.size := by rw [R.sz]; exact hd d rfl
    refine ⟨R.ext, R.inv, fun k => ?_, by simp [Act.put, R.sz], R.df, R.fr, R.fh⟩
    show rep w M h (gt ((d, v) :: e) k) _
    rw [gt_cons]
    by_cases hk : d = k
    · subst hk
      rw [if_pos rfl]
      simp only [Act.put, Array.getD_eq_getD_getElem?]
      rw [Array.getElem?_setIfInBounds_self_of_lt hlt]
      exact hv
    · rw [if_neg hk]
      have := R.env k
      simp only [Act.put, Array.getD_eq_getD_getElem?] at this ⊢
      rw [Array.getElem?_setIfInBounds_ne hk]
      exact this
theorem Rep.know (R : Rep B X N M e h a w) {d : Nat} {v : V} (hv : rep w M h v (a.tmps.getD d Go.undef)) : Rep B X N M ((d, v) :: e) h a w :=
  ⟨R.ext, R.inv, fun k => by
    rw [gt_cons]
    by_cases hk : d = k
    · subst hk; rw [if_pos rfl]; exact hv
    · rw [if_neg hk]; exact R.env k, R.sz, R.df, R.fr, R.fh⟩

theorem evs_repT (R : Rep B X N M e h a w) : ∀ (xs : List Operand), (∀ x ∈ xs, cOK x = true) → okTs (evs e xs) = true → repT w M h (evs e xs) (xs.map a.eval)
  | [], _, _ => rfl
  | x :: xs, hc, ho => by
    simp only [evs, okTs, Bool.and_eq_true] at ho
    exact ⟨a.eval x, xs.map a.eval, rfl, rep1_of_rep ho.1 (ev_rep R.env x (hc x (by simp))), evs_repT R xs (fun y hy => hc y (by simp [hy])) ho.2⟩
theorem repT_app : ∀ (vs : List V) (cs : List Value) (us : List V) (ds : List Value), repT w M h vs cs → repT w M h us ds → repT w M h (vs ++ us) (cs ++ ds)
  | [], cs, us, ds, H, H' => by cases H; exact H'
  | v :: vs, cs, us, ds, H, H' => by
    obtain ⟨c, cs', rfl, h1, h2⟩ := H
    exact ⟨c, cs' ++ ds, rfl, h1, repT_app vs cs' us ds h2 H'⟩
theorem repT_caps : ∀ (vs : List V) (cs : List Value), capsOK vs = true → repK w M h vs cs → repT w M h vs cs
  | [], cs, _, H => H
  | v :: vs, cs, ho, H => by
    simp only [capsOK, Bool.and_eq_true, Bool.not_eq_true'] at ho
    obtain ⟨c, cs', rfl, h1, h2⟩ := H
    refine ⟨c, cs', rfl, ?_, repT_caps vs cs' ho.2 h2⟩
    unfold rep1
    rw [if_neg (by rw [ho.1.2]; simp)]
    exact h1

theorem set_sound (hT : TOk P tt) (R : Rep B X N M e h a w) {t : Nat} {p x : V} {cp cx : Value} (hp : rep w M h p cp) (hx : rep w M h x cx) {K : Env → List Blk → Prop} (H : setV tt t p x e h K) :
    ∃ e' h' M' w', K e' h' ∧ (Instr.storeAt t cp cx).run P w = .ok () w' ∧ Rep B X N M' e' h' a w' := by
  unfold setV at H
  split at H
  · rename_i i b k off hi
    obtain ⟨g, F, hM, rfl⟩ := rep_pL.1 hp
    split at H
    · rename_i n xs hc
      cases hq : (Nat.beq off 0 && Nat.beq i.size n && x.okc && Nat.beq x.size n) with
      | false => rw [hq] at H; exact H.elim
      | true =>
        rw [hq] at H
        simp only [Bool.and_eq_true, nbeq] at hq
        obtain ⟨⟨⟨rfl, q2⟩, q3⟩, q4⟩ := hq
        simp only [cond_true] at H
        obtain ⟨⟨hk, H⟩⟩ := H
        have hn0 : nOf h b = n := by simp [nOf, hc]
        have hxc := rep1_cells (rep1_of_rep q3 hx)
        obtain ⟨z, is, Fz, kK, z1, z2, z3, z4, z5⟩ := tk_sound R.inv x _ _ H hxc
        cases hqi : (nodupB is && !is.any (Nat.beq b)) with
        | false => rw [hqi] at kK; exact kK.elim
        | true =>
          rw [hqi] at kK
          simp only [cond_true] at kK
          simp only [Bool.and_eq_true, Bool.not_eq_true', List.any_eq_false] at hqi
          have hbi : b ∉ is := fun hi => hqi.2 b hi (Nat.beq_refl b)
          have hFz := z3 (nodupB_spec is hqi.1)
          have hb0 : b ≠ 0 := fun e0 => by
            subst e0
            rw [R.fh] at hc
            cases hc
          obtain ⟨arr, t', hg, hsz, hel⟩ := R.inv.blk b _ _ hc hM
          rw [if_pos rfl] at hel
          have hlx := repC_len x _ hxc
          rw [Array.length_toList] at hlx
          have hkn : (k + 1) * n ≤ xs.length * n := Nat.mul_le_mul_right _ hk
          rw [Nat.succ_mul] at hkn
          have e1 : arr.toList = arr.toList.take (k * n) ++ (arr.toList.drop (k * n)).take n ++ arr.toList.drop (k * n + n) := split3 _ _ _
          have hrun := run_store_row (P := P) (hT t i hi) hg (cx := cx) (by omega) (repC_one x _ hxc) e1 (o := k * n) (by simp; omega) (by simp; omega)
          have hsz2 : (arr.toList.take (k * n) ++ cx.cells.toList ++ arr.toList.drop (k * n + n)).toArray.size = arr.size := by simp; omega
          have hget : ∀ j, (arr.toList.take (k * n) ++ cx.cells.toList ++ arr.toList.drop (k * n + n)).toArray[j]? = if k * n ≤ j ∧ j < k * n + n then cx.cells.toList[j - k * n]? else arr[j]? := by
            intro j
            rw [List.getElem?_toArray, List.append_assoc]
            have ht : (arr.toList.take (k * n)).length = k * n := by simp; omega
            by_cases j1 : j < k * n
            · rw [List.getElem?_append_left (by omega), if_neg (by omega), List.getElem?_take, if_pos j1, Array.getElem?_toList]
            · rw [List.getElem?_append_right (by omega), ht]
              by_cases j2 : j < k * n + n
              · rw [List.getElem?_append_left (by simp; omega), if_pos ⟨by omega, j2⟩]
              · rw [List.getElem?_append_right (by simp; omega), if_neg (by omega), List.getElem?_drop, Array.getElem?_toList]
                congr 1
                simp
                omega
          have key : ∃ F1 F2 F3, F = F1 ++ F2 ++ F3 ∧ ownDe w (arr.toList.take (k * n) ++ cx.cells.toList ++ arr.toList.drop (k * n + n)).toArray n (xs.set k z) 0 (F1 ++ Fz ++ F3) := by
            have hsplit : xs = xs.take k ++ xs.drop k := (List.take_append_drop k xs).symm
            have htl : (xs.take k).length = k := by simp; omega
            have hd : xs.drop k = xs[k] :: xs.drop (k + 1) := List.drop_eq_getElem_cons hk
            rw [hsplit, hd] at hel
            obtain ⟨F1, F23, rfl, m1, F2, F3, ces, rfl, m2, m3, m4, m5⟩ := (ownDe_app _ _ _ _).1 hel
            refine ⟨F1, F2, F3, by simp, ?_⟩
            have hset : xs.set k z = xs.take k ++ z :: xs.drop (k + 1) := by
              rw [List.set_eq_take_append_cons_drop, if_pos hk]
            rw [hset]
            rw [show F1 ++ Fz ++ F3 = F1 ++ (Fz ++ F3) from List.append_assoc _ _ _]
            refine (ownDe_app _ _ _ _).2 ⟨F1, Fz ++ F3, rfl, ownDe_at _ 0 0 F1 (fun c hc' j hj => ?_) m1, Fz, F3, cx.cells.toList, rfl, by rw [z2]; exact q4, fun j v hj => ?_, z1, ownDe_at _ _ _ F3 (fun c hc' j hj => ?_) m5⟩
            · rw [htl] at hc'
              have := Nat.mul_le_mul_right n (Nat.succ_le_of_lt hc')
              rw [Nat.succ_mul] at this
              rw [hget, Nat.zero_add, if_neg (by omega)]
            · have hjl : j < n := by
                have := (List.getElem?_eq_some_iff.1 hj).1
                rw [Array.length_toList] at this
                omega
              rw [htl, Nat.zero_add, hget, if_pos (by omega)]
              rw [show k * n + j - k * n = j by omega]; exact hj
            · rw [htl, Nat.zero_add, hget, if_neg]
              rw [Nat.add_mul, Nat.succ_mul]
              omega
          obtain ⟨F1, F2, F3, rfl, key⟩ := key
          have hnd := mO_nodup' R.inv hM
          have hlo := R.inv.lo b _ _ hc hM rfl g (by simp [mO])
          have hgn := (List.nodup_cons.1 hnd).1
          have hFn := (List.nodup_cons.1 hnd).2
          have hzd : ∀ x ∈ Fz, x ≠ g ∧ x ∉ F1 ++ F2 ++ F3 := fun x hx => by
            obtain ⟨i, hi, m, hm, hxm⟩ := z4 x hx
            refine ⟨fun e0 => ?_, fun hF => ?_⟩
            · subst e0
              have := O_block_inj R.inv hM hm (by simp [mO]) hxm
              subst this
              exact hbi hi
            · have := O_block_inj R.inv hM hm (by simp only [mO, List.mem_cons]; exact .inr hF) hxm
              subst this
              exact hbi hi
          have hFm : ∀ x ∈ F1 ++ Fz ++ F3, x ∈ F1 ++ F2 ++ F3 ∨ x ∈ Fz := fun x hx => by
            simp only [List.mem_append] at hx ⊢
            rcases hx with (hx | hx) | hx
            · exact .inl (.inl (.inl hx))
            · exact .inr hx
            · exact .inl (.inr hx)
          have hislv : ∀ i ∈ is, ∀ k, h[i]? = some k → k.live = true := fun i hi k hk => by
            obtain ⟨n1, xs1, h1⟩ := z5 i hi
            rw [h1] at hk
            cases hk
            rfl
          have hnof : nOf (h.set b (.arr n (xs.set k z) true)) b = nOf h b := by
            unfold nOf
            rw [List.getElem?_set_self (List.getElem?_eq_some_iff.1 hc).1, hc]
          obtain ⟨M', R', _, _⟩ := R.reset (ext_setRow R.ext hlo (arr.toList.take (k * n) ++ cx.cells.toList ++ arr.toList.drop (k * n + n)).toArray) hM hb0 hc (.inl rfl) is is
            (fun hi => by
              obtain ⟨n1, xs1, h1⟩ := z5 0 hi
              rw [R.fh] at h1
              cases h1) hbi (fun _ h => h) hislv (m' := some (g, F1 ++ Fz ++ F3))
            (List.nodup_cons.2 ⟨fun hm => by
              rcases hFm g hm with h1 | h1
              · exact hgn h1
              · exact (hzd g h1).1 rfl, by
              have n13 : (F1 ++ F3).Nodup := by
                have := hFn
                rw [List.append_assoc] at this
                have a1 := (List.nodup_append.1 this).1
                have a2 := (List.nodup_append.1 (List.nodup_append.1 this).2.1).2.1
                exact List.nodup_append.2 ⟨a1, a2, fun x hx y hy e0 => (List.nodup_append.1 this).2.2 x hx y (by simp [hy]) e0⟩
              have a1 := (List.nodup_append.1 n13).1
              have a2 := (List.nodup_append.1 n13).2.1
              have a3 := (List.nodup_append.1 n13).2.2
              refine List.nodup_append.2 ⟨List.nodup_append.2 ⟨a1, hFz, fun x hx y hy e0 => ?_⟩, a2, fun x hx y hy e0 => ?_⟩
              · subst e0; exact (hzd x hy).2 (by simp [hx])
              · subst e0
                rcases List.mem_append.1 hx with hx | hx
                · exact a3 x hx x hy rfl
                · exact (hzd x hx).2 (by simp [hy])⟩)
            (fun x hx => by
              rcases List.mem_cons.1 hx with rfl | hx
              · exact .inl (by simp [mO])
              · rcases hFm x hx with h1 | h1
                · exact .inl (by simp only [mO, List.mem_cons]; exact .inr h1)
                · exact .inr (.inl (z4 x h1)))
            (fun x hx => by
              rw [setRow_size]
              rcases List.mem_cons.1 hx with rfl | hx
              · exact lt_of_heap hg
              · rcases hFm x hx with h1 | h1
                · exact R.inv.hi x (mem_O hM (by simp only [mO, List.mem_cons]; exact .inr h1))
                · obtain ⟨i, hi, m, hm, hxm⟩ := z4 x h1
                  exact R.inv.hi x (mem_O hm hxm)) (by rw [setRow_size]; exact Nat.le_refl _)
            (fun x hlt hx => setRow_other (fun e0 => hx (by subst e0; simp [mO])) _) (k' := .arr n (xs.set k z) true) rfl
            (fun _ g1 F1' hm => by
              cases hm
              refine ⟨⟨_, rfl⟩, hnof, fun arr1 t1 h1 => ?_⟩
              rw [hg] at h1
              cases h1
              exact ⟨_, setRow_at hg _, hsz2⟩)
            (fun M' h' _ => by
              refine ⟨_, _, setRow_at hg _, by rw [List.length_set, hsz2]; exact hsz, ?_⟩
              rw [if_pos rfl]
              refine ownDe_mv _ _ _ _ _ (fun x hx => setRow_other (fun e0 => ?_) _) key
              subst e0
              rcases hFm x hx with h1 | h1
              · exact hgn h1
              · exact (hzd x h1).1 rfl)
          rw [hn0, Nat.add_zero]
          exact ⟨_, _, M', _, kK, hrun, R'⟩
    · exact H.elim
  · exact H.elim
theorem partOps_mem : ∀ (ps : List (Nat × Operand)) (x : Operand), x ∈ partOps ps → ∃ i, (i, x) ∈ ps
  | (i, y) :: ps, x, h => by
    rcases List.mem_cons.1 h with rfl | h
    · exact ⟨i, by simp⟩
    · obtain ⟨j, hj⟩ := partOps_mem ps x h
      exact ⟨j, by simp [hj]⟩

theorem loud_sound (hT : TOk P tt) (R : Rep B X N M e h a w) {o : Oper} (hc : ∀ x ∈ o.op.operands, cOK x = true) {K : V → Env → List Blk → Prop} {dr : Bool} (H : loudV P tt dr o e h K) (Q : Exit → Act → World → Prop)
    (K' : Act → World → Prop) (hK : ∀ v cv e' h' M' w', K v e' h' → Rep B X N M' e' h' a w' → rep w' M' h' v cv → (isMod o = false → dr = true → Ext w w') → K' (a.put o.dst cv) w') : Oper.wp P o a w K' Q := by
  have hev : ∀ x ∈ o.op.operands, rep w M h (ev e x) (a.eval x) := fun x hx => ev_rep R.env x (hc x hx)
  obtain ⟨dst, op, type, pos, after, guard⟩ := o
  dsimp only at hc hev
  unfold loudV at H
  unfold Oper.wp
  cases op with
  | alloc t =>
    obtain ⟨v, cv, h', M', w', k1, k2, k3, k4, k5⟩ := alloc_sound hT R H
    simp only [execOp, Sem.run_bind, k2, Result.andThen_ok, Sem.run_pure, Oper.upon]
    exact hK _ _ _ _ _ _ k1 k4 k5 (fun _ _ => k3)
  | box t x =>
    obtain ⟨v, cv, h', M', w', k1, k2, k3, k4, k5⟩ := box_sound hT R (hev x (by simp [Op.operands])) H
    simp only [execOp, Sem.run_bind, k2, Result.andThen_ok, Sem.run_pure, Oper.upon]
    exact hK _ _ _ _ _ _ k1 k4 k5 (fun _ _ => k3)
  | store t p x =>
    cases hwh : isWhole (ev e p) (ev e x) with
    | false =>
      have H : storeV tt t (ev e p) (ev e x) h (fun h' => K .undef e h') := by
        have := H
        dsimp only at this
        rw [hwh] at this
        exact this
      obtain ⟨h', w', k1, k2, k3⟩ := store_sound hT R (hev p (by simp [Op.operands])) (hev x (by simp [Op.operands])) H
      simp only [execOp, Sem.run_bind, k2, Result.andThen_ok, Sem.run_pure, Oper.upon]
      exact hK _ _ _ _ _ _ k1 k3 rfl (fun q => by cases q)
    | true =>
      have H : setV tt t (ev e p) (ev e x) e h (fun e' h' => K .undef e' h') := by
        have := H
        dsimp only at this
        rw [hwh] at this
        exact this
      obtain ⟨e', h', M', w', k1, k2, k3⟩ := set_sound hT R (hev p (by simp [Op.operands])) (hev x (by simp [Op.operands])) H
      simp only [execOp, Sem.run_bind, k2, Result.andThen_ok, Sem.run_pure, Oper.upon]
      exact hK _ _ _ _ _ _ k1 k3 rfl (fun q => by cases q)
  | makeMap t r =>
    cases r with
    | some r => exact H.elim
    | none =>
      obtain ⟨v, cv, h', M', w', k1, k2, k3, k4, k5⟩ := makeMap_sound hT R H
      simp only [execOp, Sem.run_bind, Option.map_none, k2, Result.andThen_ok, Sem.run_pure, Oper.upon]
      exact hK _ _ _ _ _ _ k1 k4 k5 (fun _ _ => k3)
  | mapUpdate t m k x =>
    obtain ⟨h', w', k1, k2, k3⟩ := map_sound hT R (hev m (by simp [Op.operands])) (hev k (by simp [Op.operands])) (hev x (by simp [Op.operands])) H
    simp only [execOp, Sem.run_bind, k2, Result.andThen_ok, Sem.run_pure, Oper.upon]
    exact hK _ _ _ _ _ _ k1 k3 rfl (fun q => by cases q)
  | makeSlice t n c =>
    obtain ⟨v, cv, h', M', w', k1, k2, k3, k4, k5⟩ := make_sound hT R (hev n (by simp [Op.operands])) (hev c (by simp [Op.operands])) H
    simp only [execOp, Sem.run_bind, k2, Result.andThen_ok, Sem.run_pure, Oper.upon]
    exact hK _ _ _ _ _ _ k1 k4 k5 (fun _ _ => k3)
  | buildSlice t n ps =>
    obtain ⟨ps⟩ := ps
    obtain ⟨v, cv, e', h', M', w', k1, k2, k3, k4, k5⟩ := lit_sound hT R (fun x hx => hc x (by
      obtain ⟨i, hi⟩ := partOps_mem ps x hx
      simp only [Op.operands]
      simp only [List.mem_toArray, List.mem_map]
      exact ⟨(i, x), hi, rfl⟩)) H
    have k2' : (Instr.buildSlice t n (Array.map (fun (i, x) => (i, a.eval x)) ps.toArray)).run P w = .ok cv w' := by
      rw [← k2]; simp
    simp only [execOp, Sem.run_bind, k2', Result.andThen_ok, Sem.run_pure, Oper.upon]
    exact hK _ _ _ _ _ _ k1 k4 k5 (fun _ _ => k3)
  | build t ps =>
    obtain ⟨ps⟩ := ps
    obtain ⟨v, cv, k1, k2, k3⟩ := build_sound hT R (fun x hx => hc x (by
      obtain ⟨i, hi⟩ := partOps_mem ps x hx
      simp only [Op.operands]
      simp only [List.mem_toArray, List.mem_map]
      exact ⟨(i, x), hi, rfl⟩)) H
    have k2' : (Instr.build t (Array.map (fun (i, x) => (i, a.eval x)) ps.toArray)).run P w = .ok cv w := by
      rw [← k2]; simp
    simp only [execOp, Sem.run_bind, k2', Result.andThen_ok, Sem.run_pure, Oper.upon]
    exact hK _ _ _ _ _ _ k1 R k3 (fun _ _ => Ext.refl _)
  | call c =>
    obtain ⟨callee, args, ats⟩ := c
    obtain ⟨xs⟩ := args
    cases callee with
    | builtin b =>
      cases b <;> first
        | exact H.elim
        | skip
      obtain ⟨ats⟩ := ats
      rcases xs with _ | ⟨s, _ | ⟨x, _ | ⟨y, ys⟩⟩⟩ <;> first
        | exact H.elim
        | skip
      rcases ats with _ | ⟨t, _ | ⟨tx, _ | ⟨ty, ts⟩⟩⟩ <;> first
        | exact H.elim
        | skip
      obtain ⟨v, cv, e', h', M', w', k1, k2, k3, k4⟩ := appW_sound (P := P) (ty := type) hT R (hev s (by simp [Op.operands, Call.operands])) (hev x (by simp [Op.operands, Call.operands])) H
      have hexec : (execOp a.eval ⟨dst, .call { callee := .builtin .append, args := ⟨[s, x]⟩, argTypes := ⟨[t, tx]⟩ }, type, pos, after, guard⟩).run P w = .ok (.value cv) w' := by
        simp [execOp, resolve, invoke, builtin, k2]
      rw [hexec]
      exact hK _ _ _ _ _ _ k1 k3 k4 (fun q => by cases q)
    | invoke f => exact H.elim
    | value f =>
      dsimp only at H
      have hf := hev f (by simp [Op.operands, Call.operands])
      generalize hmo : isMod ⟨dst, .call { callee := .value f, args := ⟨xs⟩, argTypes := ats }, type, pos, after, guard⟩ = mo at H hK
      have key : ∀ (fid : FuncId) (caps : List V), rep w M h (.fn (.func fid) caps) (a.eval f) → (bif okTs (evs e xs) && capsOK caps then CallW P (dr && !mo) fid (evs e xs ++ caps) e h K else False) →
          Oper.wp P ⟨dst, .call { callee := .value f, args := ⟨xs⟩, argTypes := ats }, type, pos, after, guard⟩ a w K' Q := by
        intro fid caps hf H
        unfold Oper.wp
        cases hok : (okTs (evs e xs) && capsOK caps) with
        | false => rw [hok] at H; exact H.elim
        | true =>
          rw [hok] at H
          simp only [Bool.and_eq_true] at hok
          simp only [cond_true] at H
          obtain ⟨cvs, e1, hcaps⟩ := rep_fn.1 hf
          obtain ⟨⟨fn, f1, f2, f3⟩, hcall⟩ := callW_sound R (repT_app _ _ _ _ (evs_repT R xs (fun x hx => hc x (by simp [Op.operands, Call.operands, hx])) hok.1) (repT_caps caps cvs hok.2 hcaps)) H
          have hexec : (execOp a.eval ⟨dst, .call { callee := .value f, args := ⟨xs⟩, argTypes := ats }, type, pos, after, guard⟩).run P w = .ok (.enter fid (xs.map a.eval ++ cvs).toArray) w := by
            have hcf : ∀ args, (callFunc fid args).run P w = .ok (.enter fid args) w := fun args => by
              unfold callFunc
              simp only [Sem.run_bind, run_program, Result.andThen_ok, f1, f2, f3, Bool.false_eq_true, if_false, Sem.run_pure]
            simp only [execOp, resolve, e1, Deferred.ofValue, invoke, Sem.run_bind, Sem.run_pure, Result.andThen_ok, hcf]
            simp
          rw [hexec]
          show Calls _ _ _ _ _
          refine hcall.mono ?_
          rintro en w' ⟨v, cv, e', h', M', rfl, k1, k2, k3, k4⟩
          exact hK _ _ _ _ _ _ k1 k3 k4 (fun q1 q2 => k2 (by rw [q1, q2]; rfl))
      split at H
      · rename_i fid caps hq
        rw [hq] at hf
        exact key fid caps hf H
      · rename_i fid hq
        rw [hq] at hf
        have e1 : a.eval f = .func (.func fid) #[] #[] := by
          have hf : rep1 w M h (.d (.fnv (.func fid))) (a.eval f) := hf
          unfold rep1 at hf
          rw [if_neg (by simp [V.isAgg, D.agg])] at hf
          have : [a.eval f] = [Value.func (.func fid) #[] #[]] := hf
          simpa using this
        refine key fid [] (rep_fn.2 ⟨[], e1, rfl⟩) ?_
        simpa [capsOK] using H
      · exact H.elim
  | _ => exact H.elim
end
end Go.Proofs.Ytdeafbgnbgihgaa
