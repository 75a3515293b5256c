/- merged: several parts in one text. Leans on no more than they do. -/
import Derived.Test.YtdeafbgnbgihgaaVMTac
import Derived.Shelf.Strings.BuilderK
import Derived.Test.YtdeafbgnbgihgaaShelf
import Derived.Test.YtdeafbgnbgihgaaTT
import Derived.Lib.MakeNoZero
import Derived.Deep.RegionLaw
import Derived.Laws.IdiomCopy
set_option linter.unusedSimpArgs false
set_option linter.unusedVariables false
namespace Go.Proofs.Ytdeafbgnbgihgaa
open Go.RowKit Go.Shelf
section
variable {P : Program} {ρ : Ren}
theorem rowR_owns {w : World} {v : Value} {F : List Nat} {E : TypeId} {bs : List UInt8} (h : rowR w v F E bs) : w.ownsRowF 0 E 1 v (Lib.byteCells bs).length (Lib.byteCells bs) := by
  refine ⟨by simp, ?_⟩
  rcases h with ⟨rfl, rfl, _⟩ | ⟨r, cap, cur, fz, rfl, _, h1, h2, h3, h4, h5, h6, _⟩
  · exact .inl ⟨rfl, rfl⟩
  · exact .inr ⟨r, cap, cur, fz, by rw [Lib.byteCells_length], Nat.zero_le _, h1, by rw [Lib.byteCells_length]; omega, by rw [Lib.byteCells_length]; exact h3, h4, by omega, by rw [Lib.byteCells_length, Nat.mul_one]; exact h6⟩
theorem rowR_block {w : World} {v : Value} {F : List Nat} {E : TypeId} {bs : List UInt8} (h : rowR w v F E bs) : ∀ k, v.ownBlock = some k ↔ k ∈ F := by
  intro k
  rcases h with ⟨rfl, rfl, rfl⟩ | ⟨r, cap, cur, fz, rfl, rfl, _⟩
  · simp [Value.ownBlock]
  · simp [Value.ownBlock, eq_comm]
theorem rowR_of {w : World} {base : Nat} {v : Value} {E : TypeId} {bs : List UInt8} (h : w.ownsRowF base E 1 v bs.length (Lib.byteCells bs)) (hn : v = .slice none 0 0 ↔ bs = []) :
    ∃ F, rowR w v F E bs ∧ ∀ x ∈ F, base ≤ x := by
  rcases h.2 with ⟨rfl, h0⟩ | ⟨r, cap, cur, fz, rfl, h1, h2, h3, h4, h5, h6, h7⟩
  · exact ⟨[], .inl ⟨rfl, hn.1 rfl, rfl⟩, by simp⟩
  · refine ⟨[r], .inr ⟨r, cap, cur, fz, rfl, rfl, h2, by omega, h4, h5, by omega, by rw [Nat.mul_one] at h7; exact h7, ?_⟩, by simpa using h1⟩
    have hb : bs ≠ [] := fun q => by have := hn.2 q; cases this
    have := List.length_pos_iff.2 hb
    omega
theorem run_app_row (w : World) (t u ty e : TypeId) (i : TypeInfo) (ht : P.underlying t = some (.slice e)) (hu : P.underlying u = some .string) (hi : P.info? e = some i) (hz : i.zero = some (.int .u8 0)) (hsize : i.size = 1) (hby : i.bytes = 1)
    (v : Value) (F : List Nat) (bs : List UInt8) (h : rowR w v F e bs) (s : ByteArray) (hbytes : bs.length + s.size ≤ 140737488355328) :
    ∃ v' w' F', (Builtin.append_ #[t, u] ty #[v, .string s]).run P w = .ok v' w' ∧ rowR w' v' F' e (bs ++ s.data.toList) ∧ w.grownBy w' v.ownBlock ∧ ∀ x ∈ F', x ∈ F ∨ w.heap.size ≤ x := by
  have hss : s.data.toList.length = s.size := Array.length_toList
  have hcells : Lib.byteCells bs ++ Lib.strCells s = Lib.byteCells (bs ++ s.data.toList) := by simp [Lib.byteCells, Lib.strCells]
  rcases h with ⟨rfl, rfl, rfl⟩ | ⟨g, cap, cur, fz, rfl, rfl, hg, hfz, hnc, hcm, hcs, htake, hne⟩
  · obtain ⟨v', w', h1, h2, h3, h4⟩ := Lib.run_append_own_stringF (P := P) w w.heap.size t u ty e i ht hu hi hz hsize hby (.slice none 0 0) 0 [] ⟨rfl, .inl ⟨rfl, rfl⟩⟩ s (by unfold maxLen; simp at hbytes; omega) (by simpa using hbytes) (Nat.le_refl _)
    obtain ⟨F', k1, k2⟩ := rowR_of (bs := s.data.toList) (by rw [hss]; simpa [Lib.byteCells, Lib.strCells] using h2) (by
      rw [h4]
      constructor
      · rintro ⟨_, q⟩; exact List.eq_nil_of_length_eq_zero (by omega)
      · intro q; exact ⟨rfl, by rw [← hss, q]; rfl⟩)
    exact ⟨v', w', F', h1, by simpa using k1, h3, fun x hx => .inr (k2 x hx)⟩
  · have hlen : (bs ++ s.data.toList).length = bs.length + s.size := by rw [List.length_append, hss]
    have hlc : (Lib.byteCells (bs ++ s.data.toList)).length = bs.length + s.size := by rw [Lib.byteCells_length, hlen]
    by_cases hroom : bs.length + s.size ≤ cap
    · have hr := Lib.run_append_room_stringF (P := P) w t u ty e i ht hu hi hsize g bs.length cap cur fz hg hfz s hroom (by omega)
      refine ⟨_, _, [g], hr, .inr ⟨g, cap, _, fz, by rw [hlen], rfl, setRow_heap w g cur _ e _ hg, by omega, by omega, hcm, ?_, ?_, hne⟩, ⟨rfl, rfl, rfl, by simp, fun k _ hk => setRow_other' hk⟩, by simp⟩
      · simp only [List.size_toArray, List.length_append, List.length_take, List.length_drop, Array.length_toList, Lib.strCells_length]
        omega
      · have e1 : cur.toList.take bs.length = Lib.byteCells bs := htake
        rw [e1, hcells]
        show List.take _ _ = Lib.byteCells (bs ++ s.data.toList)
        rw [hlen, ← hlc]
        exact List.take_left
    · have hown := rowR_owns (w := w) (E := e) (.inr ⟨g, cap, cur, fz, rfl, rfl, hg, hfz, hnc, hcm, hcs, htake, hne⟩ : rowR w (.slice (some ⟨g, 0, none⟩) bs.length cap) [g] e bs)
      have holds : ∀ j u, (Lib.byteCells bs)[j]? = some u → w.cell? ((⟨g, 0, none⟩ : Addr).add j) = some u := hown.cells (g := g) rfl
      have hr := Lib.run_append_grow_string (P := P) w t u ty e i (.int .u8 0) ht hu hi hz ⟨g, 0, none⟩ bs.length cap (Lib.byteCells bs) (by rw [hsize, Lib.byteCells_length, Nat.mul_one]) holds s (by omega) (by omega) (by rw [hby]; exact growslice_fits (by omega) (by omega))
      have hge := grownCap_ge w (bs.length + s.size) cap e
      have hcm2 : grownCap w (bs.length + s.size) cap e ≤ maxLen := grownCap_le_maxLen w (bs.length + s.size) cap e (by unfold maxLen; omega)
      refine ⟨_, _, [w.heap.size], hr, .inr ⟨w.heap.size, _, _, (0, 0), by rw [hlen], rfl, heap_alloc_new w.drew _, Nat.zero_le _, by rw [hlen]; exact hge, hcm2, ?_, ?_, by omega⟩, ⟨rfl, rfl, rfl, by simp, fun k hk _ => heap_alloc_old w.drew _ hk⟩, fun x hx => .inr (by simp at hx; omega)⟩
      · have hz1 : (Value.int IntKind.u8 0).cells.size = 1 := rfl
        simp only [Array.size_append, List.size_toArray, size_zeroCells, hz1, Lib.byteCells_length, Lib.strCells_length]
        omega
      · show List.take _ _ = Lib.byteCells (bs ++ s.data.toList)
        simp only [Array.toList_append, List.append_assoc]
        rw [← List.append_assoc, hcells, hlen, ← hlc]
        exact List.take_left
where
  setRow_other' {w : World} {g k : Nat} {cs : Array Value} {n cap : Nat} (hk : some k ≠ (Value.slice (some ⟨g, 0, none⟩) n cap).ownBlock) : (w.setRow g cs).heap[k]? = w.heap[k]? := Go.setRow_other w g k cs (fun e => hk (by simp [Value.ownBlock, e]))
theorem wpList_app_row {ops : Array Oper} {rest : List Oper} {o : Oper} {a : Act} {w : World} {Q : Exit → Act → World → Prop} (hgd : o.guard = none) (sl x : Operand) (t u : TypeId)
    (ho : o.op = .call { callee := .builtin .append, args := #[sl, x], argTypes := #[t, u] }) (e : TypeId) (i : TypeInfo) (ht : P.underlying t = some (.slice e)) (hu : P.underlying u = some .string) (hi : P.info? e = some i) (hz : i.zero = some (.int .u8 0))
    (hsize : i.size = 1) (hby : i.bytes = 1) (v : Value) (F : List Nat) (bs : List UInt8) (hs : a.eval sl = v) (hrow : rowR w v F e bs) (s : ByteArray) (hx : a.eval x = .string s) (hbytes : bs.length + s.size ≤ 140737488355328)
    (h : ∀ v' w' F', rowR w' v' F' e (bs ++ s.data.toList) → w.grownBy w' v.ownBlock → (∀ x ∈ F', x ∈ F ∨ w.heap.size ≤ x) → wpList P ops Q rest (a.put o.dst v') w') : wpList P ops Q (o :: rest) a w := by
  refine wpList_plain hgd fun K hK => ?_
  obtain ⟨v', w', F', hr, h2, h3, h4⟩ := run_app_row (P := P) w t u o.type e i ht hu hi hz hsize hby v F bs hrow s hbytes
  unfold Oper.wp execOp
  simp only [ho, resolve, invoke, builtin, Sem.run_bind, Sem.run_pure, Result.andThen_ok, List.map_toArray, List.map_cons, List.map_nil, hs, hx, hr]
  exact hK _ _ (h v' w' F' h2 h3 h4)
theorem setCell_heap0 {w : World} {g : Nat} {cs : Array Value} {T : TypeId} (h : w.heap[g]? = some (.cells cs T (0, 0))) (j : Nat) (v : Value) : (w.setCell ⟨g, j, none⟩ v).heap[g]? = some (.cells (cs.setIfInBounds j v) T (0, 0)) := by
  rw [setCell_eq_setRow w g j cs T (0, 0) v h]
  exact setRow_heap w g cs _ T _ h
theorem setCell_other0 {w : World} {g k : Nat} (hk : k ≠ g) (j : Nat) (v : Value) : (w.setCell ⟨g, j, none⟩ v).heap[k]? = w.heap[k]? := by
  simp [World.setCell, Array.getElem?_modify, Ne.symm hk]
theorem setCell_size0 {w : World} {g : Nat} (j : Nat) (v : Value) : (w.setCell ⟨g, j, none⟩ v).heap.size = w.heap.size := by simp [World.setCell]
theorem rowR_keep {w w' : World} {v : Value} {F : List Nat} {E : TypeId} {bs : List UInt8} (h : rowR w v F E bs) (hk : ∀ x ∈ F, w'.heap[x]? = w.heap[x]?) : rowR w' v F E bs := by
  rcases h with h | ⟨r, cap, cur, fz, e1, rfl, e3, e4⟩
  · exact .inl h
  · exact .inr ⟨r, cap, cur, fz, e1, rfl, by rw [hk r (by simp)]; exact e3, e4⟩
theorem rowR_lt {w : World} {v : Value} {F : List Nat} {E : TypeId} {bs : List UInt8} (h : rowR w v F E bs) : (∀ x ∈ F, x < w.heap.size) ∧ F.Nodup := by
  rcases h with ⟨_, _, rfl⟩ | ⟨r, cap, cur, fz, e1, rfl, e3, e4⟩
  · simp
  · exact ⟨fun x hx => by simp at hx; subst hx; exact lt_of_heap e3, by simp⟩
structure OnlyB (w w' : World) (b : Nat) : Prop where
  os : w'.os = w.os
  tape : w'.tape = w.tape
  output : w'.output = w.output
  size : w'.heap.size = w.heap.size
  ch : ∀ x, x ≠ b → w'.heap[x]? = w.heap[x]?
set_option maxHeartbeats 1000000 in
set_option maxRecDepth 100000 in
theorem str_p (L : Lays.n169 P ρ) (X : Builder.Extra P ρ) (b : Nat) (F : List Nat) (bs : List UInt8) (w : World) (h : bldR w b F (ρ.t 72) (ρ.t 5) bs) (hb : b ∉ F) :
    Calls P (ρ.f 169) #[.pointer (some ⟨b, 0, none⟩)] w fun e w' => e = .returned (.string ⟨bs.toArray⟩) ∧ bldR w' b F (ρ.t 72) (ρ.t 5) bs ∧ Kept w w' (b :: F) (b :: F) := by
  obtain ⟨p, v, hbk, hp, hrow⟩ := h
  have hlb := lt_of_heap hbk
  obtain ⟨l1, l2⟩ := rowR_lt hrow
  have mixed := L.mixed
  have t72 := L.t72; have a72 := L.a72; have z72 := L.z72; have v72 := L.v72; have u72 := run_underlying L.t72
  have t70 := L.t70; have a70 := L.a70; have z70 := L.z70; have v70 := L.v70; have u70 := run_underlying L.t70
  have t37 := L.t37; have a37 := L.a37; have z37 := L.z37; have v37 := L.v37; have u37 := run_underlying L.t37
  have t127 := L.t127; have a127 := L.a127; have z127 := L.z127; have v127 := L.v127; have u127 := run_underlying L.t127
  have t3 := L.t3; have a3 := L.a3; have z3 := L.z3; have v3 := L.v3; have u3 := run_underlying L.t3
  have t9 := L.t9; have a9 := L.a9; have z9 := L.z9; have v9 := L.v9; have u9 := run_underlying L.t9
  have t5 := X.t5; have a5 := X.a5; have z5 := X.z5; have v5 := X.v5; have u5 := run_underlying X.t5
  rcases hrow with ⟨rfl, rfl, rfl⟩ | ⟨g, cap, cur, fz, rfl, rfl, hg, hfz, hnc, hcm, hcs, htake, hne⟩
  · have hUS := Any.unsafeString_none L X
    have c1 : w.drew.cell? ⟨b, 1, none⟩ = some (.slice none 0 0) := by
      have : w.drew.heap[b]? = some (.cells #[p, .slice none 0 0] (ρ.t 72) (0, 0)) := hbk
      rw [Lib.cell_of_heap this]; rfl
    have hSD : (Builtin.unsafeSliceData_ #[(ρ.t 37)] (ρ.t 127) #[.slice none 0 0]).run P w.drew = .ok (.pointer none) w.drew := rfl
    go_enter L.f169, Body.n169_ntmps ρ
    go_wp2
    go_region_o
    all_goals (go_wp2; go_ret; exact ⟨rfl, ⟨p, _, hbk, hp, .inl ⟨rfl, rfl, rfl⟩⟩, ⟨rfl, rfl, rfl, Nat.le_refl _, fun _ _ _ => rfl, by simp, fun x hx => .inl hx, fun x hx => by simp at hx; subst hx; exact hlb⟩⟩)
  · rcases Decidable.em (bs = []) with hbs | hbs
    · subst hbs
      have c1 : w.drew.cell? ⟨b, 1, none⟩ = some (.slice (some ⟨g, 0, none⟩) 0 cap) := by
        have : w.drew.heap[b]? = some (.cells #[p, .slice (some ⟨g, 0, none⟩) 0 cap] (ρ.t 72) (0, 0)) := hbk
        rw [Lib.cell_of_heap this]; rfl
      have hSD : (Builtin.unsafeSliceData_ #[(ρ.t 37)] (ρ.t 127) #[.slice (some ⟨g, 0, none⟩) 0 cap]).run P w.drew = .ok (.pointer (some ⟨g, 0, none⟩)) w.drew :=
        Lib.run_unsafeSliceData_row _ _ _ _ _ _ (by omega)
      have hUS : (Builtin.unsafeString_ #[(ρ.t 127), (ρ.t 3)] (ρ.t 9) #[.pointer (some ⟨g, 0, none⟩), .int .i64 0]).run P w.drew = .ok (.string .empty) w.drew := Lib.run_unsafeString_none _ _ _ _ _
      have hgb : g ≠ b := fun q => hb (by simp [q])
      have hglt := lt_of_heap hg
      go_enter L.f169, Body.n169_ntmps ρ
      go_wp2
      go_region_o
      all_goals (go_wp2; go_ret; exact ⟨rfl, ⟨p, _, hbk, hp, .inr ⟨g, cap, cur, fz, rfl, rfl, hg, hfz, hnc, hcm, hcs, htake, hne⟩⟩, ⟨rfl, rfl, rfl, Nat.le_refl _, fun _ _ _ => rfl, by simpa using (Ne.symm hgb), fun x hx => .inl hx, fun x hx => by simp at hx; rcases hx with rfl | rfl; exact hlb; exact hglt⟩⟩)
    have hl0 : bs.length ≠ 0 := fun q => hbs (List.eq_nil_of_length_eq_zero q)
    have hgb : g ≠ b := fun q => hb (by simp [q])
    have c1 : w.drew.cell? ⟨b, 1, none⟩ = some (.slice (some ⟨g, 0, none⟩) bs.length cap) := by
      have : w.drew.heap[b]? = some (.cells #[p, .slice (some ⟨g, 0, none⟩) bs.length cap] (ρ.t 72) (0, 0)) := hbk
      rw [Lib.cell_of_heap this]; rfl
    have hSD : (Builtin.unsafeSliceData_ #[(ρ.t 37)] (ρ.t 127) #[.slice (some ⟨g, 0, none⟩) bs.length cap]).run P w.drew = .ok (.pointer (some ⟨g, 0, none⟩)) w.drew :=
      Lib.run_unsafeSliceData_row _ _ _ _ _ _ (by omega)
    have hown := rowR_owns (w := w) (E := ρ.t 5) (.inr ⟨g, cap, cur, fz, rfl, rfl, hg, hfz, hnc, hcm, hcs, htake, hne⟩ : rowR w (.slice (some ⟨g, 0, none⟩) bs.length cap) [g] (ρ.t 5) bs)
    have hUS : (Builtin.unsafeString_ #[(ρ.t 127), (ρ.t 3)] (ρ.t 9) #[.pointer (some ⟨g, 0, none⟩), .int .i64 bs.length]).run P w.drew = .ok (.string ⟨bs.toArray⟩) (w.drew.freeze ⟨g, 0, none⟩ bs.length) := by
      refine Lib.run_unsafeString_row w.drew (ρ.t 127) (ρ.t 3) (ρ.t 9) (ρ.t 5) L.t127 X.cellsByte g cur.size (by have hg' : w.drew.heap[g]? = some (.cells cur (ρ.t 5) fz) := hg; simp [World.shape?, hg']) bs hbs (by omega) (by unfold maxLen at hcm; omega) ?_
      intro j x hx
      exact hown.cells (g := g) rfl j (.int .u8 x.toNat) (by simp [Lib.byteCells, hx])
    obtain ⟨fz', hfr, hfr2⟩ : ∃ fz' : Nat × Nat, (w.drew.freeze ⟨g, 0, none⟩ bs.length).heap[g]? = some (.cells cur (ρ.t 5) fz') ∧ fz'.2 ≤ bs.length := by
      obtain ⟨lo, hi'⟩ := fz
      have hg' : w.drew.heap[g]? = some (.cells cur (ρ.t 5) (lo, hi')) := hg
      refine ⟨if lo == hi' then (0, 0 + bs.length) else (min lo 0, max hi' (0 + bs.length)), by simp [World.freeze, hl0, Array.getElem?_modify, hg'], ?_⟩
      have hfz' : hi' ≤ bs.length := hfz
      split
      · simp
      · show max hi' (0 + bs.length) ≤ _
        omega
    have hoth : ∀ x, x ≠ g → (w.drew.freeze ⟨g, 0, none⟩ bs.length).heap[x]? = w.heap[x]? := fun x hx => by
      simp only [World.freeze, hl0, if_false]
      rw [Array.getElem?_modify, if_neg (Ne.symm hx)]
      rfl
    have hfs : (w.drew.freeze ⟨g, 0, none⟩ bs.length).heap.size = w.heap.size := by
      simp only [World.freeze, hl0, if_false, Array.size_modify]
      rfl
    have hglt := lt_of_heap hg
    go_enter L.f169, Body.n169_ntmps ρ
    go_wp2
    go_region_o
    all_goals (go_wp2; go_ret; exact ⟨rfl, ⟨p, _, by rw [hoth b (Ne.symm hgb)]; exact hbk, hp, .inr ⟨g, cap, cur, fz', rfl, rfl, hfr, hfr2, hnc, hcm, hcs, htake, hne⟩⟩, ⟨by simp only [World.freeze, hl0, if_false]; rfl, by simp only [World.freeze, hl0, if_false]; rfl, by simp only [World.freeze, hl0, if_false]; rfl, by rw [hfs]; exact Nat.le_refl _, fun x _ hx => hoth x (fun q => hx (by simp [q])), by simpa using (Ne.symm hgb), fun x hx => .inl hx, fun x hx => by rw [hfs]; simp at hx; rcases hx with rfl | rfl; exact hlb; exact hglt⟩⟩)
end
structure BC (P : Program) (f : FuncId) (T E : TypeId) (bs : List UInt8) (rest : List V) (v : V) (bs' : List UInt8) : Prop where
  fn : ∃ fn, P.funcs[f]? = some fn ∧ (fn.name == "runtime.NumGoroutine") = false ∧ fn.body.isNone = false
  run : ∀ (w : World) (g : Nat) (F : List Nat) (args : List Value), repT w [none] [.gone] rest args → bldR w g F T E bs → g ∉ F →
    Calls P f (.pointer (some ⟨g, 0, none⟩) :: args).toArray w fun en w' => ∃ cv F', en = .returned cv ∧ (∀ M h, rep w' M h v cv) ∧ bldR w' g F' T E bs' ∧ Kept w w' (g :: F) (g :: F')
theorem BC.call {P : Program} {f : FuncId} {T E : TypeId} {bs bs' : List UInt8} {rest : List V} {v : V} (bc : BC P f T E bs rest v bs') {b : Nat} {e : Env} {h : List Blk} {K : V → Env → List Blk → Prop}
    (hb : h[b]? = some (.bld T E bs)) (hb0 : Nat.ble 1 b = true) (hr : plains rest = true) (H : K v e (h.set b (.bld T E bs'))) : CallM P f (.pB b [] 0 :: rest) e h K where
  fn := bc.fn
  run B X N M a w args R hargs := by
    obtain ⟨c0, args, rfl, h1, h2⟩ := hargs
    have h2' := plains_rep (w' := w) (M' := [none]) (h' := [.gone]) rest args hr h2
    have hb1 : 1 ≤ b := Nat.le_of_ble_eq_true hb0
    obtain ⟨g, F, m1, rfl⟩ := rep_pB.1 (rep_of_rep1 h1)
    have hbr : bldR w g F T E bs := R.inv.blk b _ _ hb m1
    have nd : (g :: F).Nodup := mO_nodup R.inv m1
    refine (bc.run w g F args h2' hbr (List.nodup_cons.1 nd).1).mono ?_
    rintro en w' ⟨cv, F', rfl, q1, q5, q2⟩
    have hxB : Ext B w' := by
      have hlo := R.inv.lo b _ _ hb m1 rfl
      refine Below.trans R.ext ⟨q2.os, q2.tape, q2.output, q2.size, fun k hk => q2.ch k (Nat.lt_of_lt_of_le hk R.base) (fun hm => ?_)⟩
      have := hlo k hm
      omega
    have q5' := q5
    obtain ⟨p, vv, hbk, _, hrow⟩ := q5'
    have hbk0 := hbr
    obtain ⟨p0, vv0, hbk0, _, _⟩ := hbk0
    obtain ⟨M', R', _, _⟩ := R.reset (w' := w') hxB m1 (by omega) hb (.inl rfl) [] [] (by simp) (by simp) (by simp) (by simp) (m' := some (g, F')) q2.nd
      (fun x hx => (q2.sub x hx).imp id (fun q => .inr q)) q2.hi q2.size (fun x hx hxm => q2.ch x hx hxm) (k' := .bld T E bs') rfl
      (fun _ g1 F1 e1 => by
        cases e1
        refine ⟨⟨F', rfl⟩, ?_, fun arr1 t1 hg1 => ?_⟩
        · simp only [nOf, hb, List.getElem?_set_self (List.getElem?_eq_some_iff.1 hb).1]
        · rw [hbk0] at hg1
          cases hg1
          exact ⟨_, hbk, rfl⟩)
      (fun M' h' _ => q5)
    exact ⟨v, cv, e, _, M', rfl, H, R', q1 _ _⟩
theorem clb_ {P : Program} {f : FuncId} {T E : TypeId} {bs bs' : List UInt8} {rest : List V} {v : V} {b : Nat} {e : Env} {h : List Blk} {K : V → Env → List Blk → Prop} {Q : Prop} (bc : BC P f T E bs rest v bs') (H : Q) (hb : h[b]? = some (.bld T E bs) := by rfl)
    (hb0 : Nat.ble 1 b = true := by rfl) (hr : plains rest = true := by rfl) (hk : Q → K v e (h.set b (.bld T E bs')) := by (intro H; (conv => whnf); exact H)) : CallW P false f (.pB b [] 0 :: rest) e h K :=
  ⟨.inr ⟨rfl, bc.call hb hb0 hr (hk H)⟩⟩
section
variable {P : Program} {ρ : Ren}
theorem nilIface_top {w : World} {M : MM} {h : List Blk} : rep1 w M h .top .nilIface := by
  unfold rep1
  rw [if_neg (by simp [V.isAgg])]
  exact ⟨_, rfl, rfl⟩
theorem bc_str (L : Lays.n169 P ρ) (X : Builder.Extra P ρ) {fn : Func} (h1 : P.funcs[ρ.f 169]? = some fn) (h2 : (fn.name == "runtime.NumGoroutine") = false) (h3 : fn.body.isNone = false) (bs : List UInt8) :
    BC P (ρ.f 169) (ρ.t 72) (ρ.t 5) bs [] (.d (.str ⟨bs.toArray⟩)) bs where
  fn := ⟨fn, h1, h2, h3⟩
  run w g F args hargs hb hg := by
    cases hargs
    have hsz : bs.length ≤ maxLen := by
      obtain ⟨p, v, _, _, hr⟩ := hb
      rcases hr with ⟨_, rfl, _⟩ | ⟨r, cap, cur, fz, _, _, _, _, q1, q2, _⟩
      · simp
      · omega
    refine (str_p L X g F bs w hb hg).mono ?_
    rintro en w' ⟨rfl, k1, k2⟩
    exact ⟨_, F, rfl, fun M h => rep_str.2 ⟨rfl, hsz⟩, k1, k2⟩
end
open Go.RowKit Go.Shelf
set_option maxHeartbeats 1000000 in
set_option maxRecDepth 100000 in
theorem cc_used (b : Nat) (w : World) (h0 : w.cell? ⟨b, 0, none⟩ = some (.pointer (some ⟨b, 0, none⟩))) :
    Calls Try.prog 56 #[.pointer (some ⟨b, 0, none⟩)] w fun e w' => e = .returned (.tuple #[]) ∧ w' = w := by
  obtain ⟨j, hj, hjs⟩ := Option.map_eq_some_iff.1 (show (Try.prog.info? 59).map (·.size) = some 2 by kernel_rfl)
  go_enter Try.func56, Try.ntmps56
  go_wp2
  rw [Lib.run_neq_ptr_same w _ Try.underlying56 hj]
  go_wp2
  go_end0
  exact ⟨rfl, rfl⟩
set_option maxHeartbeats 1000000 in
set_option maxRecDepth 100000 in
theorem cc_fresh (b : Nat) (w : World) (h0 : w.cell? ⟨b, 0, none⟩ = some (.pointer none)) (hsh : w.shape? b = some (59, 2)) (hfz : w.frozen? ⟨b, 0, none⟩ = false) :
    Calls Try.prog 56 #[.pointer (some ⟨b, 0, none⟩)] w fun e w' => e = .returned (.tuple #[]) ∧ w' = w.setCell ⟨b, 0, none⟩ (.pointer (some ⟨b, 0, none⟩)) := by
  obtain ⟨j, hj, hjs⟩ := Option.map_eq_some_iff.1 (show (Try.prog.info? 59).map (·.size) = some 2 by kernel_rfl)
  go_enter Try.func56, Try.ntmps56
  go_wp2
  rw [Lib.run_to_unsafe w ⟨b, 0, none⟩ Try.underlying56 Try.underlying83 hj (by rw [hjs]; decide) hsh (Nat.zero_lt_succ 1)]
  simp only [Result.andThen]
  rw [Oper.upon_value]
  go_wp2
  rw [run_callFunc_extern Try.func64 (by kernel_rfl) (by kernel_rfl) (by kernel_rfl) (e := Extern.AbiNoEscape.same) (by kernel_rfl)]
  rw [Lib.run_noEscape]
  simp only [Result.andThen]
  rw [Oper.upon_value]
  go_wp2
  rw [Lib.run_from_unsafe w ⟨b, 0, none⟩ Try.underlying83 Try.underlying56 hj hsh (by kernel_rfl)]
  simp only [Result.andThen]
  rw [Oper.upon_value]
  go_wp2
  go_end0
  exact ⟨rfl, rfl⟩
theorem cc_p (b : Nat) (F : List Nat) (bs : List UInt8) (w : World) (h : bldR w b F 59 5 bs) (hb : b ∉ F) :
    Calls Try.prog 56 #[.pointer (some ⟨b, 0, none⟩)] w fun e w' => e = .returned (.tuple #[]) ∧ (∃ v, w'.heap[b]? = some (.cells #[.pointer (some ⟨b, 0, none⟩), v] 59 (0, 0)) ∧ rowR w' v F 5 bs) ∧
      OnlyB w w' b := by
  obtain ⟨p, v, h1, h2, h3⟩ := h
  rcases h2 with rfl | rfl
  · refine (cc_fresh b w (by rw [Lib.cell_of_heap h1]; rfl) (by simp [World.shape?, h1]) (Lib.frozen_of_heap h1 0)).mono ?_
    rintro e w' ⟨rfl, rfl⟩
    exact ⟨rfl, ⟨v, by rw [setCell_heap0 h1]; rfl, rowR_keep h3 fun x hx => setCell_other0 (by rintro rfl; exact hb hx) 0 _⟩, ⟨rfl, rfl, rfl, setCell_size0 0 _, fun x hx => setCell_other0 hx 0 _⟩⟩
  · refine (cc_used b w (by rw [Lib.cell_of_heap h1]; rfl)).mono ?_
    rintro e w' ⟨rfl, rfl⟩
    exact ⟨rfl, ⟨v, h1, h3⟩, ⟨rfl, rfl, rfl, rfl, fun _ _ => rfl⟩⟩
set_option maxHeartbeats 2000000 in
set_option maxRecDepth 100000 in
theorem wr_p (b : Nat) (F : List Nat) (bs : List UInt8) (s : ByteArray) (w : World) (h : bldR w b F 59 5 bs) (hb : b ∉ F) (hlen : bs.length + s.size ≤ 140737488355328) :
    Calls Try.prog 38 #[.pointer (some ⟨b, 0, none⟩), .string s] w fun e w' => e = .returned (.tuple #[.int .i64 s.size, .nilIface]) ∧ ∃ F', bldR w' b F' 59 5 (bs ++ s.data.toList) ∧ Kept w w' (b :: F) (b :: F') := by
  obtain ⟨i0, hi, hz0, hz1, hz2⟩ := info_parts (show (Try.prog.info? 5).map (fun i => (i.zero, i.size, i.bytes)) = some (some (.int .u8 0), 1, 1) by kernel_rfl)
  have hbw : b < w.heap.size := by obtain ⟨p, v, h1, _⟩ := h; exact lt_of_heap h1
  go_enter Try.func38, Try.ntmps38
  go_wp2_with (go_at_call 56; refine (cc_p b F bs _ h hb).mono ?_)
  rintro e w1 ⟨rfl, ⟨v, hbk, hrow⟩, ho⟩
  have c0 : w1.cell? ⟨b, 0, none⟩ = some (.pointer (some ⟨b, 0, none⟩)) := by rw [Lib.cell_of_heap hbk]; rfl
  have c1 : w1.cell? ⟨b, 1, none⟩ = some v := by rw [Lib.cell_of_heap hbk]; rfl
  go_wp2_with (at_builtin; refine wpList_app_row rfl _ _ 57 9 rfl 5 i0 Try.underlying57 Try.underlying9 hi hz0 hz1 hz2 _ F bs rfl hrow s rfl hlen ?_)
  intro v' w2 F' hrow' hgrow hF'
  have hnb : some b ≠ v.ownBlock := fun q => hb ((rowR_block hrow b).1 q.symm)
  have hb2 : w2.heap[b]? = some (.cells #[.pointer (some ⟨b, 0, none⟩), v] 59 (0, 0)) := by
    rw [hgrow.block b (lt_of_heap hbk) hnb]
    exact hbk
  have d0 : w2.cell? ⟨b, 0, none⟩ = some (.pointer (some ⟨b, 0, none⟩)) := by rw [Lib.cell_of_heap hb2]; rfl
  have d1 : w2.cell? ⟨b, 1, none⟩ = some v := by rw [Lib.cell_of_heap hb2]; rfl
  have f1 : w2.frozen? ⟨b, 1, none⟩ = false := Lib.frozen_of_heap hb2 1
  obtain ⟨ao, n', cap, rfl⟩ : ∃ ao n' cap, v' = .slice ao n' cap := by
    rcases hrow' with ⟨hv, _⟩ | ⟨g, cap, cur, fz, hv, _⟩
    · exact ⟨_, _, _, hv⟩
    · exact ⟨_, _, _, hv⟩
  have hbF' : b ∉ F' := fun hx => by
    rcases hF' b hx with q | q
    · exact hb q
    · have := lt_of_heap hbk; omega
  go_wp2
  go_ret2
  refine ⟨rfl, F', ⟨_, _, by rw [setCell_heap0 hb2]; rfl, .inr rfl, rowR_keep hrow' fun x hx => setCell_other0 (by rintro rfl; exact hbF' hx) 1 _⟩, ?_⟩
  obtain ⟨l1, l2⟩ := rowR_lt hrow'
  obtain ⟨o1, o2, o3, o4, o5⟩ := ho
  refine ⟨hgrow.os.trans o1, hgrow.tape.trans o2, hgrow.output.trans o3, by rw [setCell_size0]; have := hgrow.size; omega, fun x hx hxL => ?_, by simp [hbF', l2], fun x hx => ?_, fun x hx => ?_⟩
  · have hxb : x ≠ b := fun q => hxL (by simp [q])
    rw [setCell_other0 hxb, hgrow.block x (by omega) (fun q => hxL (by simp [(rowR_block hrow x).1 q.symm])), o5 x hxb]
  · rcases List.mem_cons.1 hx with rfl | hx
    · exact .inl (by simp)
    · rcases hF' x hx with q | q
      · exact .inl (by simp [q])
      · exact .inr (by omega)
  · rw [setCell_size0]
    rcases List.mem_cons.1 hx with rfl | hx
    · exact lt_of_heap hb2
    · exact l1 x hx
theorem bc_ws {fn : Func} (h1 : Try.prog.funcs[38]? = some fn) (h2 : (fn.name == "runtime.NumGoroutine") = false) (h3 : fn.body.isNone = false) (bs : List UInt8) (s : ByteArray) (hlen : bs.length + s.size ≤ 140737488355328) :
    BC Try.prog 38 59 5 bs [.d (.str s)] (.tup [.d (.int .i64 (s.size : Nat)), .top]) (bs ++ s.data.toList) where
  fn := ⟨fn, h1, h2, h3⟩
  run w g F args hargs hb hg := by
    obtain ⟨c, cs, rfl, r1, rfl⟩ := hargs
    obtain ⟨rfl, hs⟩ := rep_str.1 (rep_of_rep1 r1)
    refine (wr_p g F bs s w hb hg hlen).mono ?_
    rintro en w' ⟨rfl, F', k1, k2⟩
    refine ⟨_, F', rfl, fun M h => ⟨_, rfl, ?_⟩, k1, k2⟩
    exact ⟨_, _, rfl, rep1_of_rep rfl (rep_int.2 ⟨rfl, nat_inR hs⟩), _, _, rfl, nilIface_top, rfl⟩
theorem ws_b (bs : List UInt8) (s : ByteArray) (hlen : bs.length + s.size ≤ 140737488355328) : BC Try.prog 38 59 5 bs [.d (.str s)] (.tup [.d (.int .i64 (s.size : Nat)), .top]) (bs ++ s.data.toList) :=
  bc_ws Try.func38 rfl rfl bs s hlen
theorem str_b (bs : List UInt8) : BC Try.prog 43 59 5 bs [] (.d (.str ⟨bs.toArray⟩)) bs :=
  bc_str Try.lays169 Try.Builder_Extra_169 Try.func43 rfl rfl bs
open Go.RowKit Go.Shelf Go.Lib
theorem grow_fin (b : Nat) (a : Option Addr) (c : Nat) (T E : TypeId) (cs : Array Value) (v : Value) (w : World) (hbk : w.heap[b]? = some (.cells #[.pointer (some ⟨b, 0, none⟩), .slice a 0 c] T (0, 0))) :
    ((w.setCell ⟨b, 1, none⟩ v).alloc (.cells cs E)).drew.drew.drew.heap[b]? = some (.cells #[.pointer (some ⟨b, 0, none⟩), v] T (0, 0)) ∧
      ((w.setCell ⟨b, 1, none⟩ v).alloc (.cells cs E)).drew.drew.drew.heap[w.heap.size]? = some (.cells cs E (0, 0)) ∧ Kept w ((w.setCell ⟨b, 1, none⟩ v).alloc (.cells cs E)).drew.drew.drew [b] [b, w.heap.size] := by
  have hlt := lt_of_heap hbk
  have hsz : (w.setCell ⟨b, 1, none⟩ v).heap.size = w.heap.size := setCell_size0 1 v
  have hold : ∀ x, x < w.heap.size → ((w.setCell ⟨b, 1, none⟩ v).alloc (.cells cs E)).heap[x]? = (w.setCell ⟨b, 1, none⟩ v).heap[x]? := fun x hx => Lib.alloc_old _ _ x (by rw [hsz]; exact hx)
  have hns : ((w.setCell ⟨b, 1, none⟩ v).alloc (.cells cs E)).heap.size = w.heap.size + 1 := by
    simp [World.alloc, hsz]
  refine ⟨?_, ?_, rfl, rfl, rfl, ?_, fun x hx hm => ?_, ?_, fun x hx => ?_, fun x hx => ?_⟩
  · show ((w.setCell ⟨b, 1, none⟩ v).alloc (.cells cs E)).heap[b]? = _
    rw [hold b hlt, setCell_heap0 hbk 1 v]; rfl
  · show ((w.setCell ⟨b, 1, none⟩ v).alloc (.cells cs E)).heap[w.heap.size]? = _
    have := heap_alloc_new (w.setCell ⟨b, 1, none⟩ v) (.cells cs E)
    rwa [hsz] at this
  · show _ ≤ ((w.setCell ⟨b, 1, none⟩ v).alloc (.cells cs E)).heap.size
    omega
  · show ((w.setCell ⟨b, 1, none⟩ v).alloc (.cells cs E)).heap[x]? = _
    rw [hold x hx, setCell_other0 (by simpa using hm)]
  · simp; omega
  · simp at hx
    rcases hx with rfl | rfl
    · exact .inl (by simp)
    · exact .inr (Nat.le_refl _)
  · show x < ((w.setCell ⟨b, 1, none⟩ v).alloc (.cells cs E)).heap.size
    simp at hx
    rcases hx with rfl | rfl <;> omega
set_option maxHeartbeats 2000000 in
set_option maxRecDepth 100000 in
theorem grow_p (b n c : Nat) (a : Option Addr) (w : World) (hbk : w.heap[b]? = some (.cells #[.pointer (some ⟨b, 0, none⟩), .slice a 0 c] 59 (0, 0))) (hc : c ≤ 1000000) (hn : n ≤ 1000000) :
    Calls Try.prog 68 #[.pointer (some ⟨b, 0, none⟩), .int .i64 n] w fun e w' => e = .returned (.tuple #[]) ∧ ∃ cs : Array Value, n ≤ cs.size ∧ cs.size ≤ maxLen ∧ 2 * c + n ≤ cs.size ∧
      w'.heap[b]? = some (.cells #[.pointer (some ⟨b, 0, none⟩), .slice (some ⟨w.heap.size, 0, none⟩) 0 cs.size] 59 (0, 0)) ∧ w'.heap[w.heap.size]? = some (.cells cs 5 (0, 0)) ∧ Kept w w' [b] [b, w.heap.size] := by
  obtain ⟨cs, hrun, hle, hmax⟩ := Lib.run_makeNoZero (P := Try.prog) w.drew #[3] 57 5 Try.underlying57 (2 * c + n) (by omega)
  have hw1 : IntKind.i64.wrap (2 * (c : Int)) = 2 * (c : Int) := by rw [IntKind.wrap_i64]; omega
  have hw2 : IntKind.i64.wrap (2 * (c : Int) + (n : Int)) = ((2 * c + n : Nat) : Int) := by rw [IntKind.wrap_i64]; omega
  have hcall : (callFunc 70 #[.int .i64 (IntKind.i64.wrap (IntKind.i64.wrap (2 * (c : Int)) + (n : Int)))]).run Try.prog w.drew = .ok (.value (.slice (some ⟨w.drew.heap.size, 0, none⟩) (2 * c + n) cs.size)) (w.drew.drew.drew.alloc (.cells cs 5)) := by
    rw [hw1, hw2, run_callFunc_extern Try.func70 (by kernel_rfl) (by kernel_rfl) (by kernel_rfl) (e := Extern.BytealgMakeNoZero.makeNoZero #[3] #[57]) (by kernel_rfl), hrun]
    rfl
  have hlt := lt_of_heap hbk
  have c1 : w.drew.cell? ⟨b, 1, none⟩ = some (.slice a 0 c) := by
    have : w.drew.heap[b]? = _ := hbk
    rw [Lib.cell_of_heap this]; rfl
  have hal : (w.alloc (.cells cs 5)).heap[b]? = _ := (Lib.alloc_old w _ b hlt).trans hbk
  have c2 : (w.alloc (.cells cs 5)).cell? ⟨b, 1, none⟩ = some (.slice a 0 c) := by
    rw [Lib.cell_of_heap hal]; rfl
  have f2 : (w.alloc (.cells cs 5)).frozen? ⟨b, 1, none⟩ = false := Lib.frozen_of_heap hal 1
  have hcopy : ∀ W : World, (Builtin.copy_ #[57, 57] 3 #[.slice (some ⟨w.heap.size, 0, none⟩) 0 cs.size, .slice a 0 c]).run Try.prog W = .ok (goInt 0) W :=
    fun W => run_copy_none W 57 57 3 5 _ _ 0 cs.size 0 c Try.underlying57 (by kernel_rfl) rfl
  have mixed : Try.prog.follows .mixedOrders = true := by kernel_rfl
  clear hw1 hw2
  have hmax2 : cs.size ≤ maxLen := hmax (by unfold maxLen; omega)
  have hfin := grow_fin b a c _ 5 cs (.slice (some ⟨w.heap.size, 0, none⟩) 0 cs.size) w hbk
  go_enter Try.func68, Try.ntmps68
  go_wp2
  go_region_o
  all_goals go_wp2
  all_goals go_end0
  all_goals exact ⟨rfl, cs, by omega, hmax2, hle, hfin⟩
open Go.RowKit Go.Shelf Go.Lib
set_option maxHeartbeats 2000000 in
set_option maxRecDepth 100000 in
theorem gr_p (b n : Nat) (F : List Nat) (w : World) (h : bldR w b F 59 5 []) (hb : b ∉ F) (h1 : 1 ≤ n) (hn : n ≤ 1000000) :
    Calls Try.prog 59 #[.pointer (some ⟨b, 0, none⟩), .int .i64 n] w fun e w' => e = .returned (.tuple #[]) ∧ ∃ F', bldR w' b F' 59 5 [] ∧ Kept w w' (b :: F) (b :: F') := by
  have hbw : b < w.heap.size := by obtain ⟨p, v, h1, _⟩ := h; exact lt_of_heap h1
  have mixed : Try.prog.follows .mixedOrders = true := by kernel_rfl
  go_enter Try.func59, Try.ntmps59
  go_wp2_with (go_at_call 56; refine (cc_p b F [] _ h hb).mono ?_)
  rintro e w1 ⟨rfl, ⟨v, hbk, hrow⟩, ho⟩
  obtain ⟨a, c, rfl, hcm⟩ : ∃ a c, v = .slice a 0 c ∧ c ≤ maxLen := by
    rcases hrow with ⟨hv, _⟩ | ⟨g, cap, cur, fz, hv, _, _, _, _, q, _⟩
    · exact ⟨_, _, hv, Nat.zero_le _⟩
    · exact ⟨_, _, hv, q⟩
  have hwc : wrap64 (c : Int) = (c : Int) := by
    unfold maxLen at hcm
    unfold wrap64; omega
  have c1 : w1.drew.cell? ⟨b, 1, none⟩ = some (.slice a 0 c) := by
    have : w1.drew.heap[b]? = some (.cells #[.pointer (some ⟨b, 0, none⟩), .slice a 0 c] _ (0, 0)) := hbk
    rw [Lib.cell_of_heap this]; rfl
  obtain ⟨o1, o2, o3, o4, o5⟩ := ho
  obtain ⟨l1, l2⟩ := rowR_lt hrow
  have hlt := lt_of_heap hbk
  have hno : ∃ F', bldR w1.drew b F' 59 5 [] ∧ Kept w w1.drew (b :: F) (b :: F') := by
    exact ⟨F, ⟨_, _, hbk, .inr rfl, hrow⟩, o1, o2, o3, Nat.le_of_eq o4.symm, fun x hx hm => o5 x (fun q => hm (by simp [q])), by simp [hb, l2], fun x hx => .inl hx, fun x hx => by
      rcases List.mem_cons.1 hx with rfl | hx
      · exact hlt
      · exact l1 x hx⟩
  have hyes : ∀ w2, (∃ cs : Array Value, n ≤ cs.size ∧ cs.size ≤ maxLen ∧ 2 * c + n ≤ cs.size ∧ w2.heap[b]? = some (.cells #[.pointer (some ⟨b, 0, none⟩), .slice (some ⟨w1.drew.heap.size, 0, none⟩) 0 cs.size] 59 (0, 0)) ∧
      w2.heap[w1.drew.heap.size]? = some (.cells cs 5 (0, 0)) ∧ Kept w1.drew w2 [b] [b, w1.drew.heap.size]) → ∃ F', bldR w2 b F' 59 5 [] ∧ Kept w w2 (b :: F) (b :: F') := by
    rintro w2 ⟨cs, k1, k2, -, k3, k4, k5⟩
    refine ⟨[w1.drew.heap.size], ⟨_, _, k3, .inr rfl, .inr ⟨_, cs.size, cs, (0, 0), rfl, rfl, k4, Nat.zero_le _, Nat.zero_le _, k2, rfl, rfl, by omega⟩⟩, k5.os.trans o1, k5.tape.trans o2, k5.output.trans o3, Nat.le_trans (Nat.le_of_eq o4.symm) k5.size, fun x hx hm => ?_, k5.nd, fun x hx => ?_, k5.hi⟩
    · have hxb : x ≠ b := fun q => hm (by simp [q])
      rw [k5.ch x (by show x < w1.heap.size; omega) (by simpa using hxb)]
      exact o5 x hxb
    · rcases k5.sub x hx with q | q
      · simp at q; exact .inl (by simp [q])
      · exact .inr (by rw [← o4]; exact q)
  clear o1 o2 o3 o4 o5 hrow l1 l2
  go_wp2
  go_region_o
  all_goals go_wp2_with (go_at_call 68; refine (grow_p b n c a w1.drew hbk (by omega) hn).mono ?_; rintro e w2 ⟨rfl, hcs⟩)
  all_goals first | exact ⟨rfl, hno⟩ | exact ⟨rfl, hyes _ hcs⟩ | (go_end0; exact ⟨rfl, hno⟩) | (go_end0; exact ⟨rfl, hyes _ hcs⟩)
theorem gr_b (n : Nat) (h1 : 1 ≤ n) (hn : n ≤ 1000000) : BC Try.prog 59 59 5 [] [.d (.int .i64 (n : Nat))] (.tup []) [] where
  fn := ⟨_, Try.func59, rfl, rfl⟩
  run w g F args hargs hb hg := by
    obtain ⟨c, cs, rfl, r1, rfl⟩ := hargs
    obtain ⟨rfl, hs⟩ := rep_int.1 (rep_of_rep1 r1)
    refine (gr_p g n F w hb hg h1 hn).mono ?_
    rintro en w' ⟨rfl, F', k1, k2⟩
    exact ⟨_, F', rfl, fun M h => ⟨_, rfl, rfl⟩, k1, k2⟩
set_option maxHeartbeats 2000000 in
set_option maxRecDepth 100000 in
theorem ln_p (b : Nat) (F : List Nat) (bs : List UInt8) (w : World) (h : bldR w b F 59 5 bs) :
    Calls Try.prog 60 #[.pointer (some ⟨b, 0, none⟩)] w fun e w' => e = .returned (.int .i64 bs.length) ∧ w' = w := by
  obtain ⟨p, v, hbk, hp, hrow⟩ := h
  obtain ⟨a, c, rfl⟩ : ∃ a c, v = .slice a bs.length c := by
    rcases hrow with ⟨hv, rfl, _⟩ | ⟨g, cap, cur, fz, hv, _⟩
    · exact ⟨_, _, hv⟩
    · exact ⟨_, _, hv⟩
  have c1 : w.cell? ⟨b, 1, none⟩ = some (.slice a bs.length c) := by rw [Lib.cell_of_heap hbk]; rfl
  clear hrow
  go_enter Try.func60, Try.ntmps60
  go_wp2
  go_ret
  exact ⟨rfl, rfl⟩
theorem ln_b (bs : List UInt8) (hl : bs.length ≤ maxLen) : BC Try.prog 60 59 5 bs [] (.d (.int .i64 (bs.length : Nat))) bs where
  fn := ⟨_, Try.func60, rfl, rfl⟩
  run w g F args hargs hb hg := by
    cases (show args = [] from hargs)
    have hb' := hb
    obtain ⟨p, v, hbk, hp, hrow⟩ := hb'
    obtain ⟨l1, l2⟩ := rowR_lt hrow
    refine (ln_p g F bs w hb).mono ?_
    rintro en w' ⟨rfl, rfl⟩
    exact ⟨_, F, rfl, fun M h => rep_int.2 ⟨rfl, nat_inR hl⟩, hb, rfl, rfl, rfl, Nat.le_refl _, fun _ _ _ => rfl, by simp [hg, l2], fun x hx => .inl hx, fun x hx => by
      rcases List.mem_cons.1 hx with rfl | hx
      · exact lt_of_heap hbk
      · exact l1 x hx⟩
theorem Mul64_c (n : Nat) (hn : n ≤ 3) : PC Try.prog 66 [.d (.int .u64 (1 : Nat)), .d (.int .u64 (n : Nat))] (.tup [.d (.int .u64 (0 : Nat)), .d (.int .u64 (n : Nat))]) [] := by
  have h : n = 0 ∨ n = 1 ∨ n = 2 ∨ n = 3 := by omega
  rcases h with rfl | rfl | rfl | rfl
  all_goals
    refine pc_intro ttOk (by kernel_rfl) Try.func66 rfl (by kernel_rfl) (by kernel_rfl) (by kernel_rfl) (fun hw => ?_)
    (conv => whnf)
    repeat' (first | (refine stg_ ?_) | (refine ArW.u64e ((0 : Nat) : Int) rfl (by omega) ?_; (conv => whnf)) | (refine ArW.u64e ((1 : Nat) : Int) rfl (by omega) ?_; (conv => whnf)) | (refine ArW.u64e ((2 : Nat) : Int) rfl (by omega) ?_; (conv => whnf)) | (refine ArW.u64e ((3 : Nat) : Int) rfl (by omega) ?_; (conv => whnf)) | (refine ShW.at (q := 4294967296) rfl (by omega) ?_; (conv => whnf)))
    (refine RetOK.t rfl ?_; (repeat' ((conv => whnf); (first | done | (refine ⟨_, _, rfl, ⟨rfl, ?_⟩, ?_⟩) | fail))); (all_goals (conv => whnf)))
    all_goals rfl
theorem Mul_c (n : Nat) (hn : n ≤ 3) : PC Try.prog 57 [.d (.int .u64 (1 : Nat)), .d (.int .u64 (n : Nat))] (.tup [.d (.int .u64 (0 : Nat)), .d (.int .u64 (n : Nat))]) [] := by
  have c1 := Mul64_c n hn
  refine pc_intro ttOk (by kernel_rfl) Try.func57 rfl (by kernel_rfl) (by kernel_rfl) (by kernel_rfl) (fun hw => ?_)
  (conv => whnf)
  (repeat' (first | (refine stg_ ?_) | (refine cla_ (c1) ?_) | (refine br_ (fun hbr => ?_) (fun hbr => ?_))))
  (refine RetOK.t rfl ?_; (repeat' ((conv => whnf); (first | done | (refine ⟨_, _, rfl, ⟨rfl, ?_⟩, ?_⟩) | fail))); (all_goals (conv => whnf)))
  all_goals rfl
def zB (n : Nat) : ByteArray := ⟨(List.replicate n (0 : UInt8)).toArray⟩
theorem zB_size (n : Nat) : (zB n).size = n := by simp [zB, ByteArray.size]
set_option maxHeartbeats 4000000 in
theorem Repeat_c (n : Nat) (hn : n ≤ 3) : PC Try.prog 42 [.d (.str ⟨#[0]⟩), .d (.int .i64 (n : Nat))] (.d (.str (zB n))) [] := by
  have c1 := Mul_c n hn
  obtain ⟨z, hz, hz1, hz2⟩ : ∃ z : ByteArray, z = ⟨#[0]⟩ ∧ z.size = 1 ∧ z[0]? = some 0 := ⟨_, rfl, rfl, rfl⟩
  rw [← hz]
  have c1 : PC Try.prog 57 [.d (.int .u64 (z.size : Nat)), .d (.int .u64 (n : Nat))] (.tup [.d (.int .u64 (0 : Nat)), .d (.int .u64 (n : Nat))]) [] := by rw [hz1]; exact c1
  have h : n = 0 ∨ n = 1 ∨ (2 ≤ n ∧ n ≤ 3) := by omega
  rcases h with rfl | rfl | hn2
  · refine pc_intro ttOk (by kernel_rfl) Try.func42 rfl (by kernel_rfl) (by kernel_rfl) (by kernel_rfl) (fun hw => ?_)
    (conv => whnf)
    (repeat' (first | (refine stg_ ?_) | (refine cla_ (c1) ?_) | (refine br_ (fun hbr => ?_) (fun hbr => ?_))))
    all_goals first | (exfalso; omega) | skip
    (refine RetOK.d rfl rfl ?_; conv => whnf)
    all_goals rfl
  · refine pc_intro ttOk (by kernel_rfl) Try.func42 rfl (by kernel_rfl) (by kernel_rfl) (by kernel_rfl) (fun hw => ?_)
    (conv => whnf)
    (repeat' (first | (refine stg_ ?_) | (refine cla_ (c1) ?_) | (refine br_ (fun hbr => ?_) (fun hbr => ?_))))
    all_goals first | (exfalso; omega) | skip
    (refine RetOK.d rfl rfl ?_; conv => whnf)
    all_goals (rw [hz]; rfl)
  · have g1 := gr_b n (by omega) (by omega)
    have g2 := ws_b [] z (by rw [hz1]; decide)
    have e1 : ([] : List UInt8) ++ z.data.toList = [0] := by rw [hz]; rfl
    rw [e1] at g2
    refine pc_intro ttOk (by kernel_rfl) Try.func42 rfl (by kernel_rfl) (by kernel_rfl) (by kernel_rfl) (fun hw => ?_)
    (conv => whnf)
    (repeat' (first | (refine stg_ ?_) | (refine cla_ (c1) ?_) | (refine clb_ (g1) ?_) | (refine clb_ (g2) ?_) | (refine br_ (fun hbr => ?_) (fun hbr => ?_))))
    all_goals first | (exfalso; omega) | skip
    refine LoopW.go (α := Nat) (fun k => [(0, .d (.str z)), (7, .d (.int .i64 n)), (8, .d (.int .i64 n)), (9, .pB 1 [] 0)]) (fun k => [.gone, .bld 59 5 (List.replicate k 0)]) (fun k => 1 ≤ k ∧ k ≤ n) (fun k => n - k) 1 covT_ ⟨by omega, by omega⟩ (fun k hk => ?_)
    have g3 := ln_b (List.replicate k 0) (by rw [List.length_replicate]; unfold maxLen; omega)
    rw [List.length_replicate] at g3
    have g4 := str_b (List.replicate k 0)
    (conv => whnf)
    have g5 := ws_b (List.replicate k 0) z (by rw [List.length_replicate, hz1]; omega)
    have e5 : List.replicate k 0 ++ z.data.toList = List.replicate (k + 1) (0 : UInt8) := by rw [List.replicate_succ', hz]
    rw [e5] at g5
    (repeat' (first | (refine stg_ ?_) | (refine clb_ (g3) ?_) | (refine clb_ (g4) ?_) | (refine clb_ (g5) ?_) | (refine br_ (fun hbr => ?_) (fun hbr => ?_))))
    · have hk2 : k = 1 ∨ k = 2 := by omega
      have hm : (min (min ((n : Int) - (k : Int)) (k : Int)) (n : Int)).toNat = 1 := by omega
      have hx : (⟨(List.replicate k (0 : UInt8)).toArray⟩ : ByteArray).extract 0 1 = z := by
        rw [hz]
        rcases hk2 with rfl | rfl <;> rfl
      rw [← hx] at g5
      rw [hm]
      refine SlW.at (by omega) (by rcases hk2 with rfl | rfl <;> decide) ?_
      (conv => whnf)
      (repeat' (first | (refine stg_ ?_) | (refine clb_ (g3) ?_) | (refine clb_ (g4) ?_) | (refine clb_ (g5) ?_) | (refine br_ (fun hbr => ?_) (fun hbr => ?_))))
      exact NextW.go (k + 1) covT_ ⟨by omega, by omega⟩ (by omega)
    · obtain rfl : k = n := by omega
      (refine RetOK.d rfl rfl ?_; conv => whnf)
      rfl
end Go.Proofs.Ytdeafbgnbgihgaa