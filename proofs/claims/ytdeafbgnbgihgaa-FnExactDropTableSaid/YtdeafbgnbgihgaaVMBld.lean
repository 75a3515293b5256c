/- A strings.Builder that the call owns: what its methods do, and what they leave. Leans on no program. -/
import Derived.Test.YtdeafbgnbgihgaaVMTac
import Derived.Shelf.Strings.BuilderK
set_option linter.unusedSimpArgs false
set_option linter.unusedVariables false
namespace Go.Proofs.Ytdeafbgnbgihgaa
open Go.RowKit Go.Shelf

section
variable {P : Program} {ρ : Ren}
theorem rowR_owns {w : World} {v : Value} {F : List Nat} {E : TypeId} {bs : List UInt8} (h : rowR w v F E bs) : w.ownsRowF 0 E 1 v (Lib.byteCells bs).length (Lib.byteCells bs) := by
  refine ⟨by simp, ?_⟩
  rcases h with ⟨rfl, rfl, _⟩ | ⟨r, cap, cur, fz, rfl, _, h1, h2, h3, h4, h5, h6, _⟩
  · exact .inl ⟨rfl, rfl⟩
  · exact .inr ⟨r, cap, cur, fz, by rw [Lib.byteCells_length], Nat.zero_le _, h1, by rw [Lib.byteCells_length]; omega, by rw [Lib.byteCells_length]; exact h3, h4, by omega, by rw [Lib.byteCells_length, Nat.mul_one]; exact h6⟩
theorem rowR_block {w : World} {v : Value} {F : List Nat} {E : TypeId} {bs : List UInt8} (h : rowR w v F E bs) : ∀ k, v.ownBlock = some k ↔ k ∈ F := by
  intro k
  rcases h with ⟨rfl, rfl, rfl⟩ | ⟨r, cap, cur, fz, rfl, rfl, _⟩
  · simp [Value.ownBlock]
  · simp [Value.ownBlock, eq_comm]
theorem bldR_is {w : World} {g : Nat} {F : List Nat} {T E : TypeId} {bs : List UInt8} (h : bldR w g F T E bs) (hg : g ∉ F) : Lib.IsBuilderF T E 0 g (Lib.byteCells bs) w := by
  obtain ⟨p, v, h1, h2, h3⟩ := h
  have key : Lib.BuilderAtF T E 0 g p (Lib.byteCells bs) w := ⟨Nat.zero_le _, v, h1, rowR_owns h3, fun q => hg ((rowR_block h3 g).1 q)⟩
  rcases h2 with rfl | rfl
  · exact .inl key
  · exact .inr key
/-- what a row that is owned so reads as -/
theorem rowR_of {w : World} {base : Nat} {v : Value} {E : TypeId} {bs : List UInt8} (h : w.ownsRowF base E 1 v bs.length (Lib.byteCells bs)) (hn : v = .slice none 0 0 ↔ bs = []) :
    ∃ F, rowR w v F E bs ∧ ∀ x ∈ F, base ≤ x := by
  rcases h.2 with ⟨rfl, h0⟩ | ⟨r, cap, cur, fz, rfl, h1, h2, h3, h4, h5, h6, h7⟩
  · exact ⟨[], .inl ⟨rfl, hn.1 rfl, rfl⟩, by simp⟩
  · refine ⟨[r], .inr ⟨r, cap, cur, fz, rfl, rfl, h2, by omega, h4, h5, by omega, by rw [Nat.mul_one] at h7; exact h7, fun q => ?_⟩, by simpa using h1⟩
    have := hn.2 q
    cases this
/-- append of a string to such a row -/
theorem run_app_row (w : World) (t u ty e : TypeId) (i : TypeInfo) (ht : P.underlying t = some (.slice e)) (hu : P.underlying u = some .string) (hi : P.info? e = some i) (hz : i.zero = some (.int .u8 0)) (hsize : i.size = 1) (hby : i.bytes = 1)
    (v : Value) (F : List Nat) (bs : List UInt8) (h : rowR w v F e bs) (s : ByteArray) (hbytes : bs.length + s.size ≤ 140737488355328) :
    ∃ v' w' F', (Builtin.append_ #[t, u] ty #[v, .string s]).run P w = .ok v' w' ∧ rowR w' v' F' e (bs ++ s.data.toList) ∧ w.grownBy w' v.ownBlock ∧ ∀ x ∈ F', x ∈ F ∨ w.heap.size ≤ x := by
  have hss : s.data.toList.length = s.size := Array.length_toList
  have hcells : Lib.byteCells bs ++ Lib.strCells s = Lib.byteCells (bs ++ s.data.toList) := by simp [Lib.byteCells, Lib.strCells]
  rcases h with ⟨rfl, rfl, rfl⟩ | ⟨g, cap, cur, fz, rfl, rfl, hg, hfz, hnc, hcm, hcs, htake, hne⟩
  · obtain ⟨v', w', h1, h2, h3, h4⟩ := Lib.run_append_own_stringF (P := P) w w.heap.size t u ty e i ht hu hi hz hsize hby (.slice none 0 0) 0 [] ⟨rfl, .inl ⟨rfl, rfl⟩⟩ s (by unfold maxLen; simp at hbytes; omega) (by simpa using hbytes) (Nat.le_refl _)
    obtain ⟨F', k1, k2⟩ := rowR_of (bs := s.data.toList) (by rw [hss]; simpa [Lib.byteCells, Lib.strCells] using h2) (by
      rw [h4]
      constructor
      · rintro ⟨_, q⟩; exact List.eq_nil_of_length_eq_zero (by omega)
      · intro q; exact ⟨rfl, by rw [← hss, q]; rfl⟩)
    exact ⟨v', w', F', h1, by simpa using k1, h3, fun x hx => .inr (k2 x hx)⟩
  · have hne' : bs ++ s.data.toList ≠ [] := by simp [hne]
    have hlen : (bs ++ s.data.toList).length = bs.length + s.size := by rw [List.length_append, hss]
    have hlc : (Lib.byteCells (bs ++ s.data.toList)).length = bs.length + s.size := by rw [Lib.byteCells_length, hlen]
    by_cases hroom : bs.length + s.size ≤ cap
    · have hr := Lib.run_append_room_stringF (P := P) w t u ty e i ht hu hi hsize g bs.length cap cur fz hg hfz s hroom (by omega)
      refine ⟨_, _, [g], hr, .inr ⟨g, cap, _, fz, by rw [hlen], rfl, setRow_heap w g cur _ e _ hg, by omega, by omega, hcm, ?_, ?_, hne'⟩, ⟨rfl, rfl, rfl, by simp, fun k _ hk => setRow_other' hk⟩, by simp⟩
      · simp only [List.size_toArray, List.length_append, List.length_take, List.length_drop, Array.length_toList, Lib.strCells_length]
        omega
      · have e1 : cur.toList.take bs.length = Lib.byteCells bs := htake
        rw [e1, hcells]
        show List.take _ _ = Lib.byteCells (bs ++ s.data.toList)
        rw [hlen, ← hlc]
        exact List.take_left
    · have hown := rowR_owns (w := w) (E := e) (.inr ⟨g, cap, cur, fz, rfl, rfl, hg, hfz, hnc, hcm, hcs, htake, hne⟩ : rowR w (.slice (some ⟨g, 0, none⟩) bs.length cap) [g] e bs)
      have holds : ∀ j u, (Lib.byteCells bs)[j]? = some u → w.cell? ((⟨g, 0, none⟩ : Addr).add j) = some u := hown.cells (g := g) rfl
      have hr := Lib.run_append_grow_string (P := P) w t u ty e i (.int .u8 0) ht hu hi hz ⟨g, 0, none⟩ bs.length cap (Lib.byteCells bs) (by rw [hsize, Lib.byteCells_length, Nat.mul_one]) holds s (by omega) (by omega) (by rw [hby]; exact growslice_fits (by omega) (by omega))
      have hge := grownCap_ge w (bs.length + s.size) cap e
      have hcm2 : grownCap w (bs.length + s.size) cap e ≤ maxLen := grownCap_le_maxLen w (bs.length + s.size) cap e (by unfold maxLen; omega)
      refine ⟨_, _, [w.heap.size], hr, .inr ⟨w.heap.size, _, _, (0, 0), by rw [hlen], rfl, heap_alloc_new w.drew _, Nat.zero_le _, by rw [hlen]; exact hge, hcm2, ?_, ?_, hne'⟩, ⟨rfl, rfl, rfl, by simp, fun k hk _ => heap_alloc_old w.drew _ hk⟩, fun x hx => .inr (by simp at hx; omega)⟩
      · have hz1 : (Value.int IntKind.u8 0).cells.size = 1 := rfl
        simp only [Array.size_append, List.size_toArray, size_zeroCells, hz1, Lib.byteCells_length, Lib.strCells_length]
        omega
      · show List.take _ _ = Lib.byteCells (bs ++ s.data.toList)
        simp only [Array.toList_append, List.append_assoc]
        rw [← List.append_assoc, hcells, hlen, ← hlc]
        exact List.take_left
where
  setRow_other' {w : World} {g k : Nat} {cs : Array Value} {n cap : Nat} (hk : some k ≠ (Value.slice (some ⟨g, 0, none⟩) n cap).ownBlock) : (w.setRow g cs).heap[k]? = w.heap[k]? := Go.setRow_other w g k cs (fun e => hk (by simp [Value.ownBlock, e]))
/-- the operation, in a walk -/
theorem wpList_app_row {ops : Array Oper} {rest : List Oper} {o : Oper} {a : Act} {w : World} {Q : Exit → Act → World → Prop} (hgd : o.guard = none) (sl x : Operand) (t u : TypeId)
    (ho : o.op = .call { callee := .builtin .append, args := #[sl, x], argTypes := #[t, u] }) (e : TypeId) (i : TypeInfo) (ht : P.underlying t = some (.slice e)) (hu : P.underlying u = some .string) (hi : P.info? e = some i) (hz : i.zero = some (.int .u8 0))
    (hsize : i.size = 1) (hby : i.bytes = 1) (v : Value) (F : List Nat) (bs : List UInt8) (hs : a.eval sl = v) (hrow : rowR w v F e bs) (s : ByteArray) (hx : a.eval x = .string s) (hbytes : bs.length + s.size ≤ 140737488355328)
    (h : ∀ v' w' F', rowR w' v' F' e (bs ++ s.data.toList) → w.grownBy w' v.ownBlock → (∀ x ∈ F', x ∈ F ∨ w.heap.size ≤ x) → wpList P ops Q rest (a.put o.dst v') w') : wpList P ops Q (o :: rest) a w := by
  refine wpList_plain hgd fun K hK => ?_
  obtain ⟨v', w', F', hr, h2, h3, h4⟩ := run_app_row (P := P) w t u o.type e i ht hu hi hz hsize hby v F bs hrow s hbytes
  unfold Oper.wp execOp
  simp only [ho, resolve, invoke, builtin, Sem.run_bind, Sem.run_pure, Result.andThen_ok, List.map_toArray, List.map_cons, List.map_nil, hs, hx, hr]
  exact hK _ _ (h v' w' F' h2 h3 h4)

/-- append of one byte to such a row -/
theorem run_app_byte (w : World) (t ty e : TypeId) (i : TypeInfo) (ht : P.underlying t = some (.slice e)) (hi : P.info? e = some i) (hz : i.zero = some (.int .u8 0)) (hsize : i.size = 1) (hby : i.bytes = 1)
    (v : Value) (F : List Nat) (bs : List UInt8) (h : rowR w v F e bs) (c : UInt8) (ad : Addr) (hx : w.cell? ad = some (.int .u8 (c.toNat : Int))) (hbytes : bs.length + 1 ≤ 140737488355328) :
    ∃ v' w' F', (Builtin.append_ #[t, t] ty #[v, .slice (some ad) 1 1]).run P w = .ok v' w' ∧ rowR w' v' F' e (bs ++ [c]) ∧ w.grownBy w' v.ownBlock ∧ ∀ x ∈ F', x ∈ F ∨ w.heap.size ≤ x := by
  have hnews : ∀ (j : Nat) (u : Value), ([.int .u8 (c.toNat : Int)] : List Value)[j]? = some u → w.cell? (ad.add j) = some u := fun j u hj => by
    match j, hj with
    | 0, hj => simp at hj; subst hj; rw [Addr.add_zero']; exact hx
  have hcells : Lib.byteCells bs ++ [.int .u8 (c.toNat : Int)] = Lib.byteCells (bs ++ [c]) := by simp [Lib.byteCells]
  rcases h with ⟨rfl, rfl, rfl⟩ | ⟨g, cap, cur, fz, rfl, rfl, hg, hfz, hnc, hcm, hcs, htake, hne⟩
  · obtain ⟨v', w', h1, h2, h3, h4⟩ := run_append_ownF (P := P) w w.heap.size t ty e i (.int .u8 0) 1 1 ht hi hz hsize hby rfl (by decide) (.slice none 0 0) 0 [] ⟨rfl, .inl ⟨rfl, rfl⟩⟩ ad 1 1 [.int .u8 (c.toNat : Int)] rfl hnews (by intro u hu; simp at hu; subst hu; rfl) (by unfold maxLen; omega) (by omega) (Nat.le_refl _)
    obtain ⟨F', k1, k2⟩ := rowR_of (bs := [c]) (by simpa [Lib.byteCells] using h2) (by rw [h4]; simp)
    exact ⟨v', w', F', h1, by simpa using k1, h3, fun x hx => .inr (k2 x hx)⟩
  · have hne' : bs ++ [c] ≠ [] := by simp [hne]
    have hlen : (bs ++ [c]).length = bs.length + 1 := by rw [List.length_append]; rfl
    have hlc : (Lib.byteCells (bs ++ [c])).length = bs.length + 1 := by rw [Lib.byteCells_length, hlen]
    by_cases hroom : bs.length + 1 ≤ cap
    · have hr := run_append_roomF (P := P) w t ty e i ht hi g bs.length cap cur fz hg (by rw [hsize]; omega) ad 1 1 [.int .u8 (c.toNat : Int)] (by rw [hsize]; rfl) hnews (by intro u hu; simp at hu; subst hu; rfl) hroom (by rw [hsize]; simp; omega)
      rw [hsize, Nat.mul_one] at hr
      refine ⟨_, _, [g], hr, .inr ⟨g, cap, _, fz, by rw [hlen], rfl, setRow_heap w g cur _ e _ hg, by omega, by omega, hcm, ?_, ?_, hne'⟩, ⟨rfl, rfl, rfl, by simp, fun k _ hk => setRow_other' hk⟩, by simp⟩
      · simp only [List.size_toArray, List.length_append, List.length_take, List.length_drop, Array.length_toList, List.length_cons, List.length_nil]
        omega
      · have e1 : cur.toList.take bs.length = Lib.byteCells bs := htake
        rw [e1, hcells]
        show List.take _ _ = Lib.byteCells (bs ++ [c])
        rw [hlen, ← hlc]
        exact List.take_left
    · have hown := rowR_owns (w := w) (E := e) (.inr ⟨g, cap, cur, fz, rfl, rfl, hg, hfz, hnc, hcm, hcs, htake, hne⟩ : rowR w (.slice (some ⟨g, 0, none⟩) bs.length cap) [g] e bs)
      have holds : ∀ j u, (Lib.byteCells bs)[j]? = some u → w.cell? ((⟨g, 0, none⟩ : Addr).add j) = some u := hown.cells (g := g) rfl
      have hr := run_append_grow (P := P) w t ty e i (.int .u8 0) ht hi hz ⟨g, 0, none⟩ bs.length cap (Lib.byteCells bs) (by rw [hsize, Lib.byteCells_length, Nat.mul_one]) holds ad 1 1 [.int .u8 (c.toNat : Int)] (by rw [hsize]; rfl) hnews (by omega) (by omega) (by rw [hby]; exact growslice_fits (by omega) (by omega))
      have hge := grownCap_ge w (bs.length + 1) cap e
      have hcm2 : grownCap w (bs.length + 1) cap e ≤ maxLen := grownCap_le_maxLen w (bs.length + 1) cap e (by unfold maxLen; omega)
      refine ⟨_, _, [w.heap.size], hr, .inr ⟨w.heap.size, _, _, (0, 0), by rw [hlen], rfl, heap_alloc_new w.drew _, Nat.zero_le _, by rw [hlen]; exact hge, hcm2, ?_, ?_, hne'⟩, ⟨rfl, rfl, rfl, by simp, fun k hk _ => heap_alloc_old w.drew _ hk⟩, fun x hx => .inr (by simp at hx; omega)⟩
      · have hz1 : (Value.int IntKind.u8 0).cells.size = 1 := rfl
        simp only [Array.size_append, List.size_toArray, size_zeroCells, hz1, Lib.byteCells_length, List.length_cons, List.length_nil]
        omega
      · show List.take _ _ = Lib.byteCells (bs ++ [c])
        simp only [Array.toList_append, List.append_assoc]
        rw [← List.append_assoc, hcells, hlen, ← hlc]
        exact List.take_left
where
  setRow_other' {w : World} {g k : Nat} {cs : Array Value} {n cap : Nat} (hk : some k ≠ (Value.slice (some ⟨g, 0, none⟩) n cap).ownBlock) : (w.setRow g cs).heap[k]? = w.heap[k]? := Go.setRow_other w g k cs (fun e => hk (by simp [Value.ownBlock, e]))
/-- the operation, in a walk: one byte -/
theorem wpList_app_byte {ops : Array Oper} {rest : List Oper} {o : Oper} {a : Act} {w : World} {Q : Exit → Act → World → Prop} (hgd : o.guard = none) (sl x : Operand) (t : TypeId)
    (ho : o.op = .call { callee := .builtin .append, args := #[sl, x], argTypes := #[t, t] }) (e : TypeId) (i : TypeInfo) (ht : P.underlying t = some (.slice e)) (hi : P.info? e = some i) (hz : i.zero = some (.int .u8 0))
    (hsize : i.size = 1) (hby : i.bytes = 1) (v : Value) (F : List Nat) (bs : List UInt8) (hs : a.eval sl = v) (hrow : rowR w v F e bs) (c : UInt8) (ad : Addr) (hx : a.eval x = .slice (some ad) 1 1) (hc : w.cell? ad = some (.int .u8 (c.toNat : Int))) (hbytes : bs.length + 1 ≤ 140737488355328)
    (h : ∀ v' w' F', rowR w' v' F' e (bs ++ [c]) → w.grownBy w' v.ownBlock → (∀ x ∈ F', x ∈ F ∨ w.heap.size ≤ x) → wpList P ops Q rest (a.put o.dst v') w') : wpList P ops Q (o :: rest) a w := by
  refine wpList_plain hgd fun K hK => ?_
  obtain ⟨v', w', F', hr, h2, h3, h4⟩ := run_app_byte (P := P) w t o.type e i ht hi hz hsize hby v F bs hrow c ad hc hbytes
  unfold Oper.wp execOp
  simp only [ho, resolve, invoke, builtin, Sem.run_bind, Sem.run_pure, Result.andThen_ok, List.map_toArray, List.map_cons, List.map_nil, hs, hx, hr]
  exact hK _ _ (h v' w' F' h2 h3 h4)

theorem setCell_heap0 {w : World} {g : Nat} {cs : Array Value} {T : TypeId} (h : w.heap[g]? = some (.cells cs T (0, 0))) (j : Nat) (v : Value) : (w.setCell ⟨g, j, none⟩ v).heap[g]? = some (.cells (cs.setIfInBounds j v) T (0, 0)) := by
  rw [setCell_eq_setRow w g j cs T (0, 0) v h]
  exact setRow_heap w g cs _ T _ h
theorem setCell_other0 {w : World} {g k : Nat} (hk : k ≠ g) (j : Nat) (v : Value) : (w.setCell ⟨g, j, none⟩ v).heap[k]? = w.heap[k]? := by
  simp [World.setCell, Array.getElem?_modify, Ne.symm hk]
theorem setCell_size0 {w : World} {g : Nat} (j : Nat) (v : Value) : (w.setCell ⟨g, j, none⟩ v).heap.size = w.heap.size := by simp [World.setCell]
theorem rowR_keep {w w' : World} {v : Value} {F : List Nat} {E : TypeId} {bs : List UInt8} (h : rowR w v F E bs) (hk : ∀ x ∈ F, w'.heap[x]? = w.heap[x]?) : rowR w' v F E bs := by
  rcases h with h | ⟨r, cap, cur, fz, e1, rfl, e3, e4⟩
  · exact .inl h
  · exact .inr ⟨r, cap, cur, fz, e1, rfl, by rw [hk r (by simp)]; exact e3, e4⟩
theorem rowR_lt {w : World} {v : Value} {F : List Nat} {E : TypeId} {bs : List UInt8} (h : rowR w v F E bs) : (∀ x ∈ F, x < w.heap.size) ∧ F.Nodup := by
  rcases h with ⟨_, _, rfl⟩ | ⟨r, cap, cur, fz, e1, rfl, e3, e4⟩
  · simp
  · exact ⟨fun x hx => by simp at hx; subst hx; exact lt_of_heap e3, by simp⟩
/-- only block b turned -/
structure OnlyB (w w' : World) (b : Nat) : Prop where
  os : w'.os = w.os
  tape : w'.tape = w.tape
  output : w'.output = w.output
  size : w'.heap.size = w.heap.size
  ch : ∀ x, x ≠ b → w'.heap[x]? = w.heap[x]?
set_option maxHeartbeats 1000000 in
set_option maxRecDepth 100000 in
theorem str_p (L : Lays.n169 P ρ) (X : Builder.Extra P ρ) (b : Nat) (F : List Nat) (bs : List UInt8) (w : World) (h : bldR w b F (ρ.t 72) (ρ.t 5) bs) (hb : b ∉ F) :
    Calls P (ρ.f 169) #[.pointer (some ⟨b, 0, none⟩)] w fun e w' => e = .returned (.string ⟨bs.toArray⟩) ∧ bldR w' b F (ρ.t 72) (ρ.t 5) bs ∧ Kept w w' (b :: F) (b :: F) := by
  obtain ⟨p, v, hbk, hp, hrow⟩ := h
  have hlb := lt_of_heap hbk
  obtain ⟨l1, l2⟩ := rowR_lt hrow
  have mixed := L.mixed
  have t72 := L.t72; have a72 := L.a72; have z72 := L.z72; have v72 := L.v72; have u72 := run_underlying L.t72
  have t70 := L.t70; have a70 := L.a70; have z70 := L.z70; have v70 := L.v70; have u70 := run_underlying L.t70
  have t37 := L.t37; have a37 := L.a37; have z37 := L.z37; have v37 := L.v37; have u37 := run_underlying L.t37
  have t127 := L.t127; have a127 := L.a127; have z127 := L.z127; have v127 := L.v127; have u127 := run_underlying L.t127
  have t3 := L.t3; have a3 := L.a3; have z3 := L.z3; have v3 := L.v3; have u3 := run_underlying L.t3
  have t9 := L.t9; have a9 := L.a9; have z9 := L.z9; have v9 := L.v9; have u9 := run_underlying L.t9
  have t5 := X.t5; have a5 := X.a5; have z5 := X.z5; have v5 := X.v5; have u5 := run_underlying X.t5
  rcases hrow with ⟨rfl, rfl, rfl⟩ | ⟨g, cap, cur, fz, rfl, rfl, hg, hfz, hnc, hcm, hcs, htake, hne⟩
  · have hUS := Any.unsafeString_none L X
    have c1 : w.drew.cell? ⟨b, 1, none⟩ = some (.slice none 0 0) := by
      have : w.drew.heap[b]? = some (.cells #[p, .slice none 0 0] (ρ.t 72) (0, 0)) := hbk
      rw [Lib.cell_of_heap this]; rfl
    have hSD : (Builtin.unsafeSliceData_ #[(ρ.t 37)] (ρ.t 127) #[.slice none 0 0]).run P w.drew = .ok (.pointer none) w.drew := rfl
    go_enter L.f169, Body.n169_ntmps ρ
    go_wp2
    go_region_o
    all_goals (go_wp2; go_ret; exact ⟨rfl, ⟨p, _, hbk, hp, .inl ⟨rfl, rfl, rfl⟩⟩, ⟨rfl, rfl, rfl, Nat.le_refl _, fun _ _ _ => rfl, by simp, fun x hx => .inl hx, fun x hx => by simp at hx; subst hx; exact hlb⟩⟩)
  · have hl0 : bs.length ≠ 0 := fun q => hne (List.eq_nil_of_length_eq_zero q)
    have hgb : g ≠ b := fun q => hb (by simp [q])
    have c1 : w.drew.cell? ⟨b, 1, none⟩ = some (.slice (some ⟨g, 0, none⟩) bs.length cap) := by
      have : w.drew.heap[b]? = some (.cells #[p, .slice (some ⟨g, 0, none⟩) bs.length cap] (ρ.t 72) (0, 0)) := hbk
      rw [Lib.cell_of_heap this]; rfl
    have hSD : (Builtin.unsafeSliceData_ #[(ρ.t 37)] (ρ.t 127) #[.slice (some ⟨g, 0, none⟩) bs.length cap]).run P w.drew = .ok (.pointer (some ⟨g, 0, none⟩)) w.drew :=
      Lib.run_unsafeSliceData_row _ _ _ _ _ _ (by omega)
    have hown := rowR_owns (w := w) (E := ρ.t 5) (.inr ⟨g, cap, cur, fz, rfl, rfl, hg, hfz, hnc, hcm, hcs, htake, hne⟩ : rowR w (.slice (some ⟨g, 0, none⟩) bs.length cap) [g] (ρ.t 5) bs)
    have hUS : (Builtin.unsafeString_ #[(ρ.t 127), (ρ.t 3)] (ρ.t 9) #[.pointer (some ⟨g, 0, none⟩), .int .i64 bs.length]).run P w.drew = .ok (.string ⟨bs.toArray⟩) (w.drew.freeze ⟨g, 0, none⟩ bs.length) := by
      refine Lib.run_unsafeString_row w.drew (ρ.t 127) (ρ.t 3) (ρ.t 9) (ρ.t 5) L.t127 X.cellsByte g cur.size (by have hg' : w.drew.heap[g]? = some (.cells cur (ρ.t 5) fz) := hg; simp [World.shape?, hg']) bs hne (by omega) (by unfold maxLen at hcm; omega) ?_
      intro j x hx
      exact hown.cells (g := g) rfl j (.int .u8 x.toNat) (by simp [Lib.byteCells, hx])
    obtain ⟨fz', hfr, hfr2⟩ : ∃ fz' : Nat × Nat, (w.drew.freeze ⟨g, 0, none⟩ bs.length).heap[g]? = some (.cells cur (ρ.t 5) fz') ∧ fz'.2 ≤ bs.length := by
      obtain ⟨lo, hi'⟩ := fz
      have hg' : w.drew.heap[g]? = some (.cells cur (ρ.t 5) (lo, hi')) := hg
      refine ⟨if lo == hi' then (0, 0 + bs.length) else (min lo 0, max hi' (0 + bs.length)), by simp [World.freeze, hl0, Array.getElem?_modify, hg'], ?_⟩
      have hfz' : hi' ≤ bs.length := hfz
      split
      · simp
      · show max hi' (0 + bs.length) ≤ _
        omega
    have hoth : ∀ x, x ≠ g → (w.drew.freeze ⟨g, 0, none⟩ bs.length).heap[x]? = w.heap[x]? := fun x hx => by
      simp only [World.freeze, hl0, if_false]
      rw [Array.getElem?_modify, if_neg (Ne.symm hx)]
      rfl
    have hfs : (w.drew.freeze ⟨g, 0, none⟩ bs.length).heap.size = w.heap.size := by
      simp only [World.freeze, hl0, if_false, Array.size_modify]
      rfl
    have hglt := lt_of_heap hg
    go_enter L.f169, Body.n169_ntmps ρ
    go_wp2
    go_region_o
    all_goals (go_wp2; go_ret; exact ⟨rfl, ⟨p, _, by rw [hoth b (Ne.symm hgb)]; exact hbk, hp, .inr ⟨g, cap, cur, fz', rfl, rfl, hfr, hfr2, hnc, hcm, hcs, htake, hne⟩⟩, ⟨by simp only [World.freeze, hl0, if_false]; rfl, by simp only [World.freeze, hl0, if_false]; rfl, by simp only [World.freeze, hl0, if_false]; rfl, by rw [hfs]; exact Nat.le_refl _, fun x _ hx => hoth x (fun q => hx (by simp [q])), by simpa using (Ne.symm hgb), fun x hx => .inl hx, fun x hx => by rw [hfs]; simp at hx; rcases hx with rfl | rfl; exact hlb; exact hglt⟩⟩)
end
/-- f, a method of a strings.Builder that holds bs, answers v at the values rest; the builder holds bs' then -/
structure BC (P : Program) (f : FuncId) (T E : TypeId) (bs : List UInt8) (rest : List V) (v : V) (bs' : List UInt8) : Prop where
  fn : ∃ fn, P.funcs[f]? = some fn ∧ (fn.name == "runtime.NumGoroutine") = false ∧ fn.body.isNone = false
  run : ∀ (w : World) (g : Nat) (F : List Nat) (args : List Value), repT w [none] [.gone] rest args → bldR w g F T E bs → g ∉ F →
    Calls P f (.pointer (some ⟨g, 0, none⟩) :: args).toArray w fun en w' => ∃ cv F', en = .returned cv ∧ (∀ M h, rep w' M h v cv) ∧ bldR w' g F' T E bs' ∧ Kept w w' (g :: F) (g :: F')
theorem BC.call {P : Program} {f : FuncId} {T E : TypeId} {bs bs' : List UInt8} {rest : List V} {v : V} (bc : BC P f T E bs rest v bs') {b : Nat} {e : Env} {h : List Blk} {K : V → Env → List Blk → Prop}
    (hb : h[b]? = some (.bld T E bs)) (hb0 : Nat.ble 1 b = true) (hr : plains rest = true) (H : K v e (h.set b (.bld T E bs'))) : CallM P f (.pB b [] 0 :: rest) e h K where
  fn := bc.fn
  run B X N M a w args R hargs := by
    obtain ⟨c0, args, rfl, h1, h2⟩ := hargs
    have h2' := plains_rep (w' := w) (M' := [none]) (h' := [.gone]) rest args hr h2
    have hb1 : 1 ≤ b := Nat.le_of_ble_eq_true hb0
    obtain ⟨g, F, m1, rfl⟩ := rep_pB.1 (rep_of_rep1 h1)
    have hbr : bldR w g F T E bs := R.inv.blk b _ _ hb m1
    have nd : (g :: F).Nodup := mO_nodup R.inv m1
    refine (bc.run w g F args h2' hbr (List.nodup_cons.1 nd).1).mono ?_
    rintro en w' ⟨cv, F', rfl, q1, q5, q2⟩
    have hxB : Ext B w' := by
      have hlo := R.inv.lo b _ _ hb m1 rfl
      refine Below.trans R.ext ⟨q2.os, q2.tape, q2.output, q2.size, fun k hk => q2.ch k (Nat.lt_of_lt_of_le hk R.base) (fun hm => ?_)⟩
      have := hlo k hm
      omega
    have q5' := q5
    obtain ⟨p, vv, hbk, _, hrow⟩ := q5'
    have hbk0 := hbr
    obtain ⟨p0, vv0, hbk0, _, _⟩ := hbk0
    obtain ⟨M', R', _, _⟩ := R.reset (w' := w') hxB m1 (by omega) hb (.inl rfl) [] [] (by simp) (by simp) (by simp) (by simp) (m' := some (g, F')) q2.nd
      (fun x hx => (q2.sub x hx).imp id (fun q => .inr q)) q2.hi q2.size (fun x hx hxm => q2.ch x hx hxm) (k' := .bld T E bs') rfl
      (fun _ g1 F1 e1 => by
        cases e1
        refine ⟨⟨F', rfl⟩, ?_, fun arr1 t1 hg1 => ?_⟩
        · simp only [nOf, hb, List.getElem?_set_self (List.getElem?_eq_some_iff.1 hb).1]
        · rw [hbk0] at hg1
          cases hg1
          exact ⟨_, hbk, rfl⟩)
      (fun M' h' _ => q5)
    exact ⟨v, cv, e, _, M', rfl, H, R', q1 _ _⟩
/-- such a call, in a walk -/
theorem clb_ {P : Program} {f : FuncId} {T E : TypeId} {bs bs' : List UInt8} {rest : List V} {v : V} {b : Nat} {e : Env} {h : List Blk} {K : V → Env → List Blk → Prop} {Q : Prop} (bc : BC P f T E bs rest v bs') (H : Q) (hb : h[b]? = some (.bld T E bs) := by rfl)
    (hb0 : Nat.ble 1 b = true := by rfl) (hr : plains rest = true := by rfl) (hk : Q → K v e (h.set b (.bld T E bs')) := by (intro H; (conv => whnf); exact H)) : CallW P false f (.pB b [] 0 :: rest) e h K :=
  ⟨.inr ⟨rfl, bc.call hb hb0 hr (hk H)⟩⟩
section
variable {P : Program} {ρ : Ren}
theorem nilIface_top {w : World} {M : MM} {h : List Blk} : rep1 w M h .top .nilIface := by
  unfold rep1
  rw [if_neg (by simp [V.isAgg])]
  exact ⟨_, rfl, rfl⟩
theorem bc_str (L : Lays.n169 P ρ) (X : Builder.Extra P ρ) {fn : Func} (h1 : P.funcs[ρ.f 169]? = some fn) (h2 : (fn.name == "runtime.NumGoroutine") = false) (h3 : fn.body.isNone = false) (bs : List UInt8) :
    BC P (ρ.f 169) (ρ.t 72) (ρ.t 5) bs [] (.d (.str ⟨bs.toArray⟩)) bs where
  fn := ⟨fn, h1, h2, h3⟩
  run w g F args hargs hb hg := by
    cases hargs
    have hsz : bs.length ≤ maxLen := by
      obtain ⟨p, v, _, _, hr⟩ := hb
      rcases hr with ⟨_, rfl, _⟩ | ⟨r, cap, cur, fz, _, _, _, _, q1, q2, _⟩
      · simp
      · omega
    refine (str_p L X g F bs w hb hg).mono ?_
    rintro en w' ⟨rfl, k1, k2⟩
    exact ⟨_, F, rfl, fun M h => rep_str.2 ⟨rfl, hsz⟩, k1, k2⟩
end
end Go.Proofs.Ytdeafbgnbgihgaa
