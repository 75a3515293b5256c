/- The abstract machine, fifth part: each quiet operation does in the model what the machine says. Leans on no program. -/
import Derived.Test.YtdeafbgnbgihgaaVM4
set_option linter.unusedSimpArgs false
set_option linter.unusedVariables false
namespace Go.Proofs.Ytdeafbgnbgihgaa
open Go.RowKit

theorem nbeq (a b : Nat) : (Nat.beq a b = true) = (a = b) := propext ⟨Nat.eq_of_beq_eq_true, fun h => by subst h; exact Nat.beq_refl a⟩
def isLoad (o : Oper) : Bool :=
  match o.op with
  | .load _ _ => true
  | .convert _ _ _ => true
  | .lookup _ _ _ _ => true
  | _ => false
/-- the operation yields a value that K takes, in every later world -/
def QOut (P : Program) (o : Oper) (a : Act) (w : World) (M : MM) (h : List Blk) (K : V → Prop) : Prop :=
  ∃ v cv, K v ∧ rep w M h v cv ∧ ∀ w', (isLoad o = false ∨ Ext w w') → (execOp a.eval o).run P w' = .ok (.value cv) w'

section
variable {P : Program} {tt : TT} {w : World} {M : MM} {h : List Blk} {K : V → Prop} {B : Nat}

theorem load_sound (hT : TOk P tt) (hI : MInv B w M h) {t : Nat} {v : V} {cv : Value} (hv : rep w M h v cv) (H : loadV tt t v h K) :
    ∃ u cu, K u ∧ rep w M h u cu ∧ ∀ w', Ext w w' → (Instr.loadAt t cv).run P w' = .ok cu w' := by
  unfold loadV at H
  split at H
  · exact H.elim
  rename_i i hi
  have hti := hT t i hi
  split at H
  · -- pX
    rename_i x
    obtain ⟨b, o, ces, rfl, hb, hlt, hc, hr⟩ := rep_pX.1 hv
    cases hq : (Nat.beq x.size i.size && (x.agg == i.agg)) with
    | false => rw [hq] at H; exact H.elim
    | true =>
      rw [hq] at H
      simp only [Bool.and_eq_true, beq_iff_eq, nbeq] at hq
      obtain ⟨cu, h1, h2⟩ := run_load_cells hti hc ((repD_len x ces hr).trans hq.1)
      exact ⟨.d x, cu, H, rep1_of_cells (v := .d x) hr hq.2 h1, h2⟩
  · -- pB
    rename_i b p off
    have H0 := BL H; clear H; obtain ⟨hlo, H⟩ := H0
    obtain ⟨g, F, hM, hcv⟩ := rep_pB.1 hv
    rw [pbv_lo hlo] at hcv
    subst hcv
    split at H
    · rename_i c hc
      split at H
      · rename_i u o hs
        cases hq : (Nat.beq o off && Nat.beq u.size i.size && (u.isAgg == i.agg)) with
        | false => rw [hq] at H; exact H.elim
        | true =>
          rw [hq] at H
          simp only [Bool.and_eq_true, beq_iff_eq, nbeq] at hq
          obtain ⟨⟨rfl, q2⟩, q3⟩ := hq
          obtain ⟨rfl, arr, t', hg, hr⟩ := hI.blk b _ _ hc hM
          obtain ⟨c1, c2, c3, e1, e2, hr2⟩ := repC_sub p c _ 0 u _ hr hs
          have hcells := cellsAt_mid hg e1 rfl
          rw [show c1.length = o by omega] at hcells
          obtain ⟨cu, h1, h2⟩ := run_load_cells hti hcells ((repC_len u c2 hr2).trans q2)
          have fin0 := rep1_of_cells hr2 q3 h1
          unfold holeW at H
          split at H
          · rename_i y _
            have plain : holeV h y K = K (.d y) → ∃ u cu, K u ∧ rep w M h u cu ∧ ∀ w', Ext w w' → (Instr.loadAt t (.pointer (some ⟨g, o, none⟩))).run P w' = .ok cu w' := fun e => ⟨.d y, cu, e ▸ H, rep_of_rep1 fin0, h2⟩
            cases y with
            | hole g' len cap =>
              obtain ⟨⟨j, c, n', xs', dp', sz, t'', e1, e2, e3, H⟩⟩ := (show HoW h g' len cap K from H)
              refine ⟨.own c 0 len, cu, H, ?_, h2⟩
              obtain ⟨a, ea, l1, l2, l3, l4⟩ : holeR g' len cap [cu] := fin0
              cases ea
              refine rep_own.2 ⟨a, cap, rfl, l1, l2, l3, ?_⟩
              rcases e3 with e3 | e3
              · exact .inl e3
              · rcases l4 with l4 | l4
                · exact .inl l4
                · obtain ⟨m, hm⟩ := at_lt (xs := M) (k := j) (by rw [hI.len]; exact (List.getElem?_eq_some_iff.1 e1).1)
                  rcases hI.blk j _ _ e1 hm with h0 | ⟨F2, arr2, p1, p2, p3⟩
                  · omega
                  · have hn' : nOf h c = n' := by simp [nOf, e2]
                    exact .inr ⟨g', F2, arr2, t'', p1, by rw [l4, hn', Nat.zero_mul], p2, by rw [hn', Nat.zero_add]; omega⟩
            | int _ _ => exact plain rfl
            | bool _ => exact plain rfl
            | str _ => exact plain rfl
            | st _ => exact plain rfl
            | lst _ => exact plain rfl
            | fnv _ => exact plain rfl
          · exact ⟨_, cu, H, rep_of_rep1 fin0, h2⟩
      · exact H.elim
    · exact H.elim
  · -- pL
    rename_i b k p off
    obtain ⟨g, F, hM, rfl⟩ := rep_pL.1 hv
    split at H
    · rename_i n xs dp hc
      obtain ⟨⟨y, hy, H⟩⟩ := H
      split at H
      · rename_i u o hs
        cases hq : (Nat.beq o off && Nat.beq u.size i.size && (u.agg == i.agg) && (u.flat || !dp)) with
        | false => rw [hq] at H; exact H.elim
        | true =>
          rw [hq] at H
          simp only [Bool.and_eq_true, beq_iff_eq, nbeq, Bool.or_eq_true, Bool.not_eq_true'] at hq
          obtain ⟨⟨⟨rfl, q2⟩, q3⟩, q4⟩ := hq
          have hn : nOf h b = n := by simp [nOf, hc]
          obtain ⟨arr, t', hg, hsz, hel⟩ := hI.blk b _ _ hc hM
          have key : ∃ ces : List Value, (∀ (j : Nat) (v : Value), ces[j]? = some v → arr[k * n + j]? = some v) ∧ ∃ c1 c2 c3, ces = c1 ++ c2 ++ c3 ∧ 0 + c1.length = o ∧ repD M.O w u c2 := by
            cases dp with
            | true =>
              rw [if_pos rfl] at hel
              obtain ⟨F1, F2, F3, ces, rfl, k1, k2, k3⟩ := ownDe_get xs 0 F hel k y hy
              rw [Nat.zero_add] at k2
              have q4' : u.flat = true := by rcases q4 with q | q; exact q; cases q
              exact ⟨ces, k2, own_sub p y F2 ces 0 u o k3 hs q4'⟩
            | false =>
              rw [if_neg (by simp)] at hel
              obtain ⟨ces, k1, k2, k3⟩ := extDe_get xs 0 hel.2 k y hy
              rw [Nat.zero_add] at k2
              exact ⟨ces, k2, repD_sub p y ces 0 u o k3 hs⟩
          obtain ⟨ces, k2, c1, c2, c3, rfl, e2, hr2⟩ := key
          have hall : CellsAt w g (k * n) (c1 ++ c2 ++ c3) := fun j v hj => by simp [World.cell?, hg, k2 j v hj]
          have hcells := cellsAt_sub hall
          rw [show c1.length = o by omega] at hcells
          rw [hn]
          obtain ⟨cu, h1, h2⟩ := run_load_cells hti hcells ((repD_len u c2 hr2).trans q2)
          have fin : rep1 w M h (.d u) cu := rep1_of_cells (v := .d u) hr2 q3 h1
          have plain : holeV h u K = K (.d u) → ∃ u cu, K u ∧ rep w M h u cu ∧ ∀ w', Ext w w' → (Instr.loadAt t (.pointer (some ⟨g, k * n + o, none⟩))).run P w' = .ok cu w' := fun e => ⟨.d u, cu, e ▸ H, fin, h2⟩
          cases u with
          | hole g' len cap =>
            obtain ⟨⟨j, c, n', xs', dp', sz, t'', e1, e2, e3, H⟩⟩ := (show HoW h g' len cap K from H)
            refine ⟨.own c 0 len, cu, H, ?_, h2⟩
            obtain ⟨a, ea, l1, l2, l3, l4⟩ : holeR g' len cap [cu] := fin
            cases ea
            refine rep_own.2 ⟨a, cap, rfl, l1, l2, l3, ?_⟩
            rcases e3 with e3 | e3
            · exact .inl e3
            · rcases l4 with l4 | l4
              · exact .inl l4
              · obtain ⟨m, hm⟩ := at_lt (xs := M) (k := j) (by rw [hI.len]; exact (List.getElem?_eq_some_iff.1 e1).1)
                rcases hI.blk j _ _ e1 hm with h0 | ⟨F2, arr2, p1, p2, p3⟩
                · omega
                · have hn' : nOf h c = n' := by simp [nOf, e2]
                  exact .inr ⟨g', F2, arr2, t'', p1, by rw [l4, hn', Nat.zero_mul], p2, by rw [hn', Nat.zero_add]; omega⟩
          | int _ _ => exact plain rfl
          | bool _ => exact plain rfl
          | str _ => exact plain rfl
          | st _ => exact plain rfl
          | lst _ => exact plain rfl
          | fnv _ => exact plain rfl
      · exact H.elim
    · exact H.elim
  · exact H.elim

theorem field_sound (hT : TOk P tt) {s f : Nat} {v : V} {cv : Value} (hv : rep w M h v cv) (H : fieldV tt s v f K) :
    ∃ u cu, K u ∧ rep w M h u cu ∧ ∀ w', (Instr.fieldAt s cv f).run P w' = .ok cu w' := by
  unfold fieldV at H
  split at H
  · rename_i i fs sz by' zr eq0 hi
    obtain ⟨fi, d, z, h1, h2, h3, h4, h5, h6, h7, h8, h9⟩ := (hT s _ hi).ex
    split at H
    · rename_i off ft hf
      split at H
      · rename_i j hj
        obtain ⟨fj, dj, zj, j1, j2, j3, j4, j5, j6, j7, j8, j9⟩ := (hT ft _ hj).ex
        cases hz : Nat.beq j.size 0 with
        | true => rw [hz] at H; exact H.elim
        | false =>
          rw [hz] at H
          have hz' : j.size ≠ 0 := fun e => by rw [e] at hz; cases hz
          cases d <;> first
            | exact (h6 : False).elim
            | skip
          rename_i fds
          have h6' : fds.toList.map (fun f => (f.offset, f.type)) = fs := h6
          have hfd : ∃ fd : Field, fds[f]? = some fd ∧ fd.offset = off ∧ fd.type = ft := by
            have : (fds.toList.map (fun f => (f.offset, f.type)))[f]? = some (off, ft) := by rw [h6']; exact hf
            rw [List.getElem?_map] at this
            obtain ⟨fd, e1, e2⟩ := Option.map_eq_some_iff.1 this
            rw [Array.getElem?_toList] at e1
            cases e2
            exact ⟨fd, e1, rfl, rfl⟩
          obtain ⟨fd, e1, rfl, rfl⟩ := hfd
          have run : ∀ (a : Addr) w', (Instr.fieldAt s (.pointer (some a)) f).run P w' = .ok (.pointer (some (a.add fd.offset))) w' := fun a w' => by
            simp only [Instr.fieldAt, Sem.run_bind, run_underlying h5, Result.andThen_ok, e1, Instr.sureAddr, Sem.run_pure, fieldPlace, sizeOf, typeInfo, run_program, j1, j2, if_neg hz']
          simp only [cond_false] at H
          split at H
          · rename_i ds
            obtain ⟨b, o, ces, rfl, hb, hlt, hc, hr⟩ := rep_pX.1 hv
            split at H
            · rename_i u o' hu
              cases hq : (Nat.beq o' fd.offset && Nat.beq u.size j.size) with
              | false => rw [hq] at H; exact H.elim
              | true =>
                rw [hq] at H
                simp only [Bool.and_eq_true, nbeq] at hq
                obtain ⟨rfl, q2⟩ := hq
                obtain ⟨c1, c2, c3, rfl, e2, hr2⟩ := repDs_fld ds ces f 0 u _ hr hu
                refine ⟨.pX u, _, H, rep_pX.2 ⟨b, o + fd.offset, c2, rfl, hb, hlt, ?_, hr2⟩, fun w' => by rw [run, addr_add_plain]⟩
                have := cellsAt_sub hc
                rw [show c1.length = fd.offset by omega] at this
                exact this
            · exact H.elim
          · rename_i b p o
            have H0 := BL H; clear H; obtain ⟨hlo, H⟩ := H0
            obtain ⟨g, F, hM, hcv⟩ := rep_pB.1 hv
            rw [pbv_lo (by have := Nat.le_of_ble_eq_true hlo; exact Nat.ble_eq_true_of_le (by omega))] at hcv
            subst hcv
            exact ⟨_, _, H, rep_pB.2 ⟨g, F, hM, rfl⟩, fun w' => by rw [run, addr_add_plain, pbv_lo hlo]⟩
          · rename_i b k p o
            obtain ⟨g, F, hM, rfl⟩ := rep_pL.1 hv
            exact ⟨_, _, H, rep_pL.2 ⟨g, F, hM, rfl⟩, fun w' => by rw [run, addr_add_plain, Nat.add_assoc]⟩
          · exact H.elim
      · exact H.elim
    · exact H.elim
  · exact H.elim

theorem repDs_at {O : List Nat} {w : World} {n : Nat} : ∀ (ds : List D) (cs : List Value) (i : Nat) (y : D), (∀ y ∈ ds, y.size = n) → repDs O w ds cs → ds[i]? = some y → ∃ c1 c2 c3, cs = c1 ++ c2 ++ c3 ∧ c1.length = i * n ∧ repD O w y c2
  | [], cs, i, y, _, _, h => by simp at h
  | d :: ds, cs, 0, y, _, H, h => by
    obtain ⟨c1, c2, rfl, h1, h2⟩ := H
    obtain rfl : d = y := by simpa using h
    exact ⟨[], c1, c2, rfl, by simp, h1⟩
  | d :: ds, cs, i + 1, y, hs, H, h => by
    obtain ⟨c1, c2, rfl, h1, h2⟩ := H
    obtain ⟨p1, p2, p3, rfl, e, hr⟩ := repDs_at ds c2 i y (fun z hz => hs z (by simp [hz])) h2 (by simpa using h)
    refine ⟨c1 ++ p1, p2, p3, by simp, ?_, hr⟩
    rw [List.length_append, repD_len d c1 h1, hs d (by simp), e, Nat.add_mul, Nat.one_mul, Nat.add_comm]
theorem addr_add_some (a : Addr) (ha : a.spot = none) (n : Nat) : a.add n = ⟨a.block, a.off + n, none⟩ := by
  obtain ⟨b, o, s⟩ := a
  cases ha
  exact addr_add_plain b o n

theorem index_sound (hT : TOk P tt) {t : Nat} {x i : V} {cx ci : Value} (hx : rep w M h x cx) (hi : rep w M h i ci) (H : indexV tt t x i h K) :
    ∃ u cu, K u ∧ rep w M h u cu ∧ ∀ w', (Instr.indexAt t cx ci).run P w' = .ok cu w' := by
  unfold indexV at H
  split at H
  · rename_i q e sz by' zr eq0 k i hti
    obtain ⟨fi, d, z, h1, h2, h3, h4, h5, h6, h7, h8, h9⟩ := (hT t _ hti).ex
    obtain ⟨rfl, hri⟩ := rep_int.1 hi
    split at H
    · rename_i ie hie
      obtain ⟨fe, de, ze, e1, e2, e3, e4, e5, e6, e7, e8, e9⟩ := (hT _ _ hie).ex
      cases d <;> first
        | exact (h6 : False).elim
        | skip
      cases (h6 : _ = e)
      have run : ∀ (a : Addr) (len cap : Nat) w', 0 ≤ i → i < (len : Int) → (Instr.indexAt t (.slice (some a) len cap) (.int k i)).run P w' = .ok (.pointer (some (a.add (i.toNat * ie.size)))) w' := fun a len cap w' h0 hl => by
        simp only [Instr.indexAt, asIntOf, Sem.run_bind, Sem.run_pure, Result.andThen_ok, run_underlying h5, h0, hl, and_self, if_true, sizeOf, typeInfo, run_program, e1, e2]
      split at H
      · rename_i b off len
        cases hq : Nat.beq (nOf h b) ie.size with
        | false => rw [hq] at H; exact H.elim
        | true =>
          rw [hq] at H
          obtain ⟨⟨h0, hl, H⟩⟩ := H
          have hq' := Nat.eq_of_beq_eq_true hq
          obtain ⟨a, cap, rfl, k1, k2, k3, k4⟩ := rep_own.1 hx
          rcases k4 with k4 | ⟨g, F, arr, t', m1, rfl, m3, m4⟩
          · omega
          · refine ⟨_, _, H, rep_pL.2 ⟨g, F, m1, rfl⟩, fun w' => ?_⟩
            rw [run _ _ _ _ h0 hl, addr_add_plain, ← hq', Nat.add_mul, Nat.add_zero, Nat.add_comm (i.toNat * _)]
      · rename_i xs
        obtain ⟨⟨y, h0, hy, H⟩⟩ := H
        cases hq : Nat.beq y.size ie.size with
        | false => rw [hq] at H; exact H.elim
        | true =>
          rw [hq] at H
          have hq' := Nat.eq_of_beq_eq_true hq
          obtain ⟨a, cap, n, rfl, k1, k2, k3, k4⟩ := rep_lst.1 hx
          have hl : i.toNat < xs.length := (List.getElem?_eq_some_iff.1 hy).1
          obtain ⟨b, o, ces, rfl, m1, m2, m3, m4, m5⟩ := (repDe_get xs 0).1 k4 _ y hy
          rw [Nat.zero_add] at m3
          refine ⟨_, _, H, rep_pX.2 ⟨b, o + i.toNat * n, ces, rfl, m1, m2, m3, m5⟩, fun w' => ?_⟩
          rw [run _ _ _ _ h0 (by omega), addr_add_plain, ← hq', m4]
      · exact H.elim
    · exact H.elim
  · rename_i q n e sz by' zr eq0 k i hti
    obtain ⟨fi, d, z, h1, h2, h3, h4, h5, h6, h7, h8, h9⟩ := (hT t _ hti).ex
    obtain ⟨rfl, hri⟩ := rep_int.1 hi
    split at H
    · rename_i ie hie
      obtain ⟨fe, de, ze, e1, e2, e3, e4, e5, e6, e7, e8, e9⟩ := (hT _ _ hie).ex
      cases d <;> first
        | exact (h6 : False).elim
        | skip
      obtain ⟨rfl, rfl⟩ := (show _ = n ∧ _ = e from h6)
      split at H
      · rename_i b
        cases hq : Nat.beq (nOf h b) ie.size with
        | false => rw [hq] at H; exact H.elim
        | true =>
          rw [hq] at H
          obtain ⟨⟨h0, hl, H⟩⟩ := H
          have hq' := Nat.eq_of_beq_eq_true hq
          obtain ⟨g, F, m1, rfl⟩ := rep_pL.1 hx
          refine ⟨_, _, H, rep_pL.2 ⟨g, F, m1, rfl⟩, fun w' => ?_⟩
          simp only [Instr.indexAt, asIntOf, Sem.run_bind, Sem.run_pure, Result.andThen_ok, run_underlying h5, Instr.sureAddr, h0, hl, and_self, if_true, sizeOf, typeInfo, run_program, e1, e2]
          rw [addr_add_plain, hq']
          simp
      · rename_i ds
        obtain ⟨⟨hs, ⟨⟨rfl, ⟨⟨y, h0, hy, H⟩⟩⟩⟩⟩⟩ := H
        obtain ⟨b, o, ces, rfl, m1, m2, m3, m4⟩ := rep_pX.1 hx
        obtain ⟨c1, c2, c3, rfl, hc1, hr⟩ := repDs_at ds ces i.toNat y hs m4 hy
        have hcl := cellsAt_sub m3
        rw [hc1] at hcl
        have hl : i < (ds.length : Int) := by have := (List.getElem?_eq_some_iff.1 hy).1; omega
        refine ⟨_, _, H, rep_pX.2 ⟨b, o + i.toNat * ie.size, c2, rfl, m1, m2, hcl, hr⟩, fun w' => ?_⟩
        simp only [Instr.indexAt, asIntOf, Sem.run_bind, Sem.run_pure, Result.andThen_ok, run_underlying h5, Instr.sureAddr, h0, hl, and_self, if_true, sizeOf, typeInfo, run_program, e1, e2]
        rw [addr_add_plain]
      · exact H.elim
    · exact H.elim
  · exact H.elim
end
end Go.Proofs.Ytdeafbgnbgihgaa
