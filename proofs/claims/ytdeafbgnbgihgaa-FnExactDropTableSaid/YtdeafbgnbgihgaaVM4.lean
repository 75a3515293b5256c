/- The abstract machine, fourth part: what reads and reckons does in the model what the machine says. Leans on no program. -/
import Derived.Test.YtdeafbgnbgihgaaVM3
set_option linter.unusedSimpArgs false
set_option linter.unusedVariables false
namespace Go.Proofs.Ytdeafbgnbgihgaa
open Go.RowKit

section
variable {w : World} {M : MM} {h : List Blk} {cv : Value}
theorem rep_int {k : IntKind} {n : Int} : rep w M h (.d (.int k n)) cv ↔ (cv = .int k n ∧ inR k n) := by simp [rep, rep1, V.isAgg, D.agg, repC, repD]
theorem rep_bool {b : Bool} : rep w M h (.d (.bool b)) cv ↔ cv = .bool b := by simp [rep, rep1, V.isAgg, D.agg, repC, repD]
theorem rep_str {s : ByteArray} : rep w M h (.d (.str s)) cv ↔ (cv = .string s ∧ s.size ≤ maxLen) := by simp [rep, rep1, V.isAgg, D.agg, repC, repD]
theorem rep_nils : rep w M h .nils cv ↔ cv = .slice none 0 0 := by simp [rep, rep1, V.isAgg, repC]
theorem rep_own {b o l : Nat} : rep w M h (.own b o l) cv ↔ ownR w M h b o l cv := by simp [rep, rep1, V.isAgg, repC]
theorem rep_lst {xs : List D} : rep w M h (.d (.lst xs)) cv ↔ ∃ a cap n, cv = .slice a xs.length cap ∧ xs.length ≤ cap ∧ cap ≤ maxLen ∧ (a = none → cap = 0) ∧ repDe M.O w a n xs 0 := by
  simp [rep, rep1, V.isAgg, D.agg, repC, repD]
theorem rep_pX {x : D} : rep w M h (.pX x) cv ↔ ∃ b o ces, cv = .pointer (some ⟨b, o, none⟩) ∧ b ∉ M.O ∧ b < w.heap.size ∧ CellsAt w b o ces ∧ repD M.O w x ces := by
  simp [rep, rep1, V.isAgg, repC]
theorem rep_pB {b : Nat} {p : List Nat} {o : Nat} : rep w M h (.pB b p o) cv ↔ ∃ g F, M[b]? = some (some (g, F)) ∧ cv = pbv g o := by
  simp [rep, rep1, V.isAgg, repC]
theorem BL {b : Bool} {A : Prop} (H : bif b then A else False) : b = true ∧ A := by
  cases b with
  | false => exact H.elim
  | true => exact ⟨rfl, H⟩
theorem rep_pL {b i : Nat} {p : List Nat} {o : Nat} : rep w M h (.pL b i p o) cv ↔ ∃ g F, M[b]? = some (some (g, F)) ∧ cv = .pointer (some ⟨g, i * nOf h b + o, none⟩) := by
  simp [rep, rep1, V.isAgg, repC]
theorem rep_tup {vs : List V} : rep w M h (.tup vs) cv ↔ ∃ cvs : List Value, cv = .tuple cvs.toArray ∧ repT w M h vs cvs := Iff.rfl
theorem rep_fn {f : Fn} {caps : List V} : rep w M h (.fn f caps) cv ↔ ∃ cvs : List Value, cv = .func f #[] cvs.toArray ∧ repK w M h caps cvs := by
  simp [rep, rep1, V.isAgg, repC]
theorem rep1_of_rep {v : V} (hv : v.okc = true) (H : rep w M h v cv) : rep1 w M h v cv := by
  cases v <;> first | exact H | cases hv
end

theorem wrap_inR (k : IntKind) (n : Int) : inR k (k.wrap n) := by
  unfold inR IntKind.wrap IntKind.min IntKind.max
  cases k <;> simp only [IntKind.bits, IntKind.signed, Bool.false_and, Bool.true_and, Bool.false_eq_true, if_false, if_true, decide_eq_true_eq, ge_iff_le, Nat.reduceSub, Int.reducePow, Int.reduceNeg] <;> first | omega | (split <;> omega)
theorem inR_zero (k : IntKind) : k.min ≤ 0 ∧ 0 ≤ k.max := by
  cases k <;> simp [IntKind.min, IntKind.max, IntKind.bits, IntKind.signed]
theorem tmod_inR {k : IntKind} {a b : Int} (h : inR k a) : inR k (a.tmod b) := by
  obtain ⟨z1, z2⟩ := inR_zero k
  obtain ⟨h1, h2⟩ := h
  rcases Int.le_total 0 a with ha | ha
  · have p1 := Int.tmod_nonneg b ha
    have p2 := Int.natAbs_tmod a b
    have p3 := Nat.mod_le a.natAbs b.natAbs
    exact ⟨by omega, by omega⟩
  · have e : a.tmod b = -((-a).tmod b) := by rw [Int.neg_tmod]; omega
    have p1 := Int.tmod_nonneg b (a := -a) (by omega)
    have p2 := Int.natAbs_tmod (-a) b
    have p3 := Nat.mod_le (-a).natAbs b.natAbs
    exact ⟨by omega, by omega⟩
theorem nat_inR {n : Nat} (h : n ≤ maxLen) : inR .i64 (n : Int) := by
  unfold maxLen at h
  unfold inR
  simp only [IntKind.min, IntKind.max, IntKind.bits, IntKind.signed, if_true]
  omega

/-- the constants of an operand are what their kind can hold -/
def cOK : Operand → Bool
  | .const (.int k n) => decide (k.min ≤ n) && decide (n ≤ k.max)
  | .const (.string s) => decide (s.size ≤ maxLen)
  | _ => true
theorem ofC_rep (w : World) (M : MM) (h : List Blk) (v : Value) (hc : cOK (.const v) = true) : rep w M h (ofC v) v := by
  unfold ofC
  split
  · rw [rep_int]
    simp only [cOK, Bool.and_eq_true, decide_eq_true_eq] at hc
    exact ⟨rfl, hc⟩
  · rw [rep_bool]
  · rw [rep_str]
    simp only [cOK, decide_eq_true_eq] at hc
    exact ⟨rfl, hc⟩
  · rw [rep_nils]
  · show rep1 _ _ _ _ _
    simp [rep1, V.isAgg, repC]
  · trivial
theorem ev_rep {w : World} {M : MM} {h : List Blk} {e : Env} {a : Act} (hE : ∀ k, rep w M h (gt e k) (a.tmps.getD k Go.undef)) (x : Operand) (hc : cOK x = true) : rep w M h (ev e x) (a.eval x) := by
  cases x with
  | tmp t => exact hE t
  | const v => exact ofC_rep w M h v hc
  | global g => trivial
  | func f => exact rep_fn.2 ⟨[], rfl, rfl⟩

theorem repDs_fld {O : List Nat} {w : World} : ∀ (ds : List D) (cs : List Value) (f off : Nat) (u : D) (o : Nat), repDs O w ds cs → fldD ds f off = some (u, o) →
    ∃ c1 c2 c3, cs = c1 ++ c2 ++ c3 ∧ off + c1.length = o ∧ repD O w u c2
  | [], cs, f, off, u, o, _, h => by simp [fldD] at h
  | d :: ds, cs, 0, off, u, o, H, h => by
    obtain ⟨c1, c2, rfl, h1, h2⟩ := H
    simp only [fldD, Option.some.injEq, Prod.mk.injEq] at h
    obtain ⟨rfl, rfl⟩ := h
    exact ⟨[], c1, c2, rfl, rfl, h1⟩
  | d :: ds, cs, f + 1, off, u, o, H, h => by
    obtain ⟨c1, c2, rfl, h1, h2⟩ := H
    obtain ⟨p1, p2, p3, rfl, e, hr⟩ := repDs_fld ds c2 f (off + d.size) u o h2 h
    refine ⟨c1 ++ p1, p2, p3, by simp, ?_, hr⟩
    rw [List.length_append, repD_len d c1 h1]
    omega
theorem repD_sub {O : List Nat} {w : World} : ∀ (p : List Nat) (x : D) (cs : List Value) (off : Nat) (u : D) (o : Nat), repD O w x cs → x.sub p off = some (u, o) →
    ∃ c1 c2 c3, cs = c1 ++ c2 ++ c3 ∧ off + c1.length = o ∧ repD O w u c2
  | [], x, cs, off, u, o, H, h => by
    simp only [D.sub, Option.some.injEq, Prod.mk.injEq] at h
    obtain ⟨rfl, rfl⟩ := h
    exact ⟨[], cs, [], by simp, rfl, H⟩
  | i :: p, x, cs, off, u, o, H, h => by
    cases x with
    | st ds =>
      simp only [D.sub] at h
      split at h
      · rename_i u1 o1 h1
        obtain ⟨c1, c2, c3, rfl, e, hr⟩ := repDs_fld ds cs i off u1 o1 H h1
        obtain ⟨d1, d2, d3, rfl, e', hr'⟩ := repD_sub p u1 c2 o1 u o hr h
        exact ⟨c1 ++ d1, d2, d3 ++ c3, by simp, by rw [List.length_append]; omega, hr'⟩
      · cases h
    | int k n => simp [D.sub] at h
    | bool k => simp [D.sub] at h
    | str k => simp [D.sub] at h
    | lst k => simp [D.sub] at h
    | hole _ _ _ => simp [D.sub] at h
    | fnv _ => simp [D.sub] at h
section
variable {w : World} {M : MM} {h : List Blk}
mutual
theorem repC_len : ∀ (v : V) (cs : List Value), repC w M h v cs → cs.length = v.size
  | .d x, cs, H => repD_len x cs H
  | .st fs, cs, H => repCs_len fs cs H
  | .top, cs, H => by obtain ⟨_, rfl, _⟩ := H; rfl
  | .undef, cs, H => H.elim
  | .nils, cs, H => by cases H; rfl
  | .nilp, cs, H => by cases H; rfl
  | .own _ _ _, cs, H => by obtain ⟨_, rfl, _⟩ := H; rfl
  | .pB _ _ _, cs, H => by obtain ⟨_, _, _, rfl⟩ := H; rfl
  | .pL _ _ _ _, cs, H => by obtain ⟨_, _, _, rfl⟩ := H; rfl
  | .pX _, cs, H => by obtain ⟨_, _, _, rfl, _⟩ := H; rfl
  | .fn _ _, cs, H => by obtain ⟨_, rfl, _⟩ := H; rfl
  | .tup _, cs, H => H.elim
theorem repCs_len : ∀ (vs : List V) (cs : List Value), repCs w M h vs cs → cs.length = V.sizes vs
  | [], cs, H => by cases H; rfl
  | v :: vs, cs, H => by
    obtain ⟨c1, c2, rfl, h1, h2⟩ := H
    rw [List.length_append, repC_len v c1 h1, repCs_len vs c2 h2]; rfl
end
theorem repCs_fld : ∀ (ds : List V) (cs : List Value) (f off : Nat) (u : V) (o : Nat), repCs w M h ds cs → fldV ds f off = some (u, o) →
    ∃ c1 c2 c3, cs = c1 ++ c2 ++ c3 ∧ off + c1.length = o ∧ repC w M h u c2
  | [], cs, f, off, u, o, _, h => by simp [fldV] at h
  | d :: ds, cs, 0, off, u, o, H, h => by
    obtain ⟨c1, c2, rfl, h1, h2⟩ := H
    simp only [fldV, Option.some.injEq, Prod.mk.injEq] at h
    obtain ⟨rfl, rfl⟩ := h
    exact ⟨[], c1, c2, rfl, rfl, h1⟩
  | d :: ds, cs, f + 1, off, u, o, H, h => by
    obtain ⟨c1, c2, rfl, h1, h2⟩ := H
    obtain ⟨p1, p2, p3, rfl, e, hr⟩ := repCs_fld ds c2 f (off + d.size) u o h2 h
    refine ⟨c1 ++ p1, p2, p3, by simp, ?_, hr⟩
    rw [List.length_append, repC_len d c1 h1]
    omega
theorem repC_sub : ∀ (p : List Nat) (v : V) (cs : List Value) (off : Nat) (u : V) (o : Nat), repC w M h v cs → v.sub p off = some (u, o) →
    ∃ c1 c2 c3, cs = c1 ++ c2 ++ c3 ∧ off + c1.length = o ∧ repC w M h u c2
  | [], x, cs, off, u, o, H, h => by
    simp only [V.sub, Option.some.injEq, Prod.mk.injEq] at h
    obtain ⟨rfl, rfl⟩ := h
    exact ⟨[], cs, [], by simp, rfl, H⟩
  | i :: p, x, cs, off, u, o, H, h => by
    cases x with
    | st ds =>
      simp only [V.sub] at h
      split at h
      · rename_i u1 o1 h1
        obtain ⟨c1, c2, c3, rfl, e, hr⟩ := repCs_fld ds cs i off u1 o1 H h1
        obtain ⟨d1, d2, d3, rfl, e', hr'⟩ := repC_sub p u1 c2 o1 u o hr h
        exact ⟨c1 ++ d1, d2, d3 ++ c3, by simp, by rw [List.length_append]; omega, hr'⟩
      · cases h
    | d x =>
      simp only [V.sub] at h
      split at h
      · rename_i u1 o1 h1
        cases h
        exact repD_sub (i :: p) x cs off u1 o H h1
      · cases h
    | _ => simp [V.sub] at h
end

theorem cellsAt_mid {w : World} {g : Nat} {arr : Array Value} {t : TypeId} (hg : w.heap[g]? = some (.cells arr t (0, 0))) {c1 c2 c3 : List Value} {o : Nat} (e : arr.toList = c1 ++ c2 ++ c3) (hl : c1.length = o) : CellsAt w g o c2 := by
  intro j v hj
  have hlt : j < c2.length := (List.getElem?_eq_some_iff.1 hj).1
  have : arr[o + j]? = some v := by
    rw [← Array.getElem?_toList, e, List.append_assoc, List.getElem?_append_right (by omega), List.getElem?_append_left (by omega)]
    rw [show o + j - c1.length = j by omega]; exact hj
  simp [World.cell?, hg, this]
theorem cellsAt_sub {w : World} {b o : Nat} {c1 c2 c3 : List Value} (H : CellsAt w b o (c1 ++ c2 ++ c3)) : CellsAt w b (o + c1.length) c2 := by
  intro j v hj
  have hlt : j < c2.length := (List.getElem?_eq_some_iff.1 hj).1
  rw [Nat.add_assoc]
  refine H _ v ?_
  rw [List.append_assoc, List.getElem?_append_right (by omega), List.getElem?_append_left (by omega)]
  rw [show c1.length + j - c1.length = j by omega]; exact hj

/-- a load of a variable whose cells are known -/
theorem run_load_cells {P : Program} {t : Nat} {i : TI} (hT : TIok P t i) {w : World} {b o : Nat} {cs : List Value} (hc : CellsAt w b o cs) (hl : cs.length = i.size) :
    ∃ cv, (i.agg = true ∧ cv = .agg cs.toArray ∨ i.agg = false ∧ cs = [cv]) ∧ ∀ w', Ext w w' → (Instr.loadAt t (.pointer (some ⟨b, o, none⟩))).run P w' = .ok cv w' := by
  obtain ⟨f, d, z, h1, h2, h3, h4, h5, h6, h7, h8, h9⟩ := hT.ex
  have hx : ∀ w', Ext w w' → (loadCells ⟨b, o, none⟩ cs.length).run P w' = .ok cs.toArray w' := fun w' hb =>
    run_loadCells_list w' ⟨b, o, none⟩ cs fun j v hj => by rw [addr_add_plain]; exact hb.cellSome (hc j v hj)
  rw [hl] at hx
  have hsz : (sizeOf t : Sem Nat) = (do pure (← typeInfo t).size) := rfl
  cases hk : i.agg with
  | true =>
    refine ⟨.agg cs.toArray, .inl ⟨rfl, rfl⟩, fun w' hb => ?_⟩
    have hd : (isAgg t).run P w' = .ok true w' := by
      unfold isAgg
      rw [Sem.run_bind, run_underlying h5]
      unfold TI.agg at hk
      cases d <;> cases hkk : i.kind <;> rw [hkk] at hk h6 <;> first | exact (h6 : False).elim | rfl | cases hk
    simp only [Instr.loadAt, Instr.sureAddr, loadVar, Sem.run_bind, Sem.run_pure, Result.andThen_ok, hd, if_true]
    simp only [sizeOf, Sem.run_bind, Sem.run_pure, typeInfo, run_program, Result.andThen_ok, h1, h2, hx w' hb]
  | false =>
    have h10 := h9 hk
    rw [h10] at hl
    match cs, hl with
    | [c], _ =>
      refine ⟨c, .inr ⟨rfl, rfl⟩, fun w' hb => ?_⟩
      have hd : (isAgg t).run P w' = .ok false w' := by
        unfold isAgg
        rw [Sem.run_bind, run_underlying h5]
        unfold TI.agg at hk
        cases d <;> cases hkk : i.kind <;> rw [hkk] at hk h6 <;> first | exact (h6 : False).elim | rfl | cases hk
      have := hb.cellSome (hc 0 c rfl)
      simp only [Instr.loadAt, Instr.sureAddr, loadVar, Sem.run_bind, Sem.run_pure, Result.andThen_ok, hd, Bool.false_eq_true, if_false, run_load]
      rw [Nat.add_zero] at this
      rw [this]
theorem rep1_of_cells {w : World} {M : MM} {h : List Blk} {v : V} {cs : List Value} {i : TI} (hr : repC w M h v cs) (ha : v.isAgg = i.agg) {cv : Value} (hcv : i.agg = true ∧ cv = .agg cs.toArray ∨ i.agg = false ∧ cs = [cv]) : rep1 w M h v cv := by
  unfold rep1
  rw [ha]
  rcases hcv with ⟨e, rfl⟩ | ⟨e, rfl⟩
  · rw [if_pos e]; exact ⟨cs, rfl, hr⟩
  · rw [if_neg (by rw [e]; simp)]; exact hr

theorem ownDe_get {w : World} {arr : Array Value} {n : Nat} : ∀ (xs : List D) (i0 : Nat) (F : List Nat), ownDe w arr n xs i0 F → ∀ (i : Nat) (x : D), xs[i]? = some x →
    ∃ F1 F2 F3 ces, F = F1 ++ F2 ++ F3 ∧ x.size = n ∧ (∀ (j : Nat) (v : Value), ces[j]? = some v → arr[(i0 + i) * n + j]? = some v) ∧ ownD w x F2 ces
  | [], i0, F, _, i, x, h => by simp at h
  | y :: xs, i0, F, H, i, x, h => by
    obtain ⟨F1, F2, ces, rfl, h1, h2, h3, h4⟩ := H
    cases i with
    | zero => simp at h; subst h; exact ⟨[], F1, F2, ces, rfl, h1, h2, h3⟩
    | succ i =>
      obtain ⟨G1, G2, G3, ces', rfl, k1, k2, k3⟩ := ownDe_get xs (i0 + 1) F2 h4 i x (by simpa using h)
      exact ⟨F1 ++ G1, G2, G3, ces', by simp, k1, fun j v hj => by rw [show i0 + (i + 1) = i0 + 1 + i by omega]; exact k2 j v hj, k3⟩
theorem extDe_get {O : List Nat} {w : World} {arr : Array Value} {n : Nat} : ∀ (xs : List D) (i0 : Nat), extDe O w arr n xs i0 → ∀ (i : Nat) (x : D), xs[i]? = some x →
    ∃ ces : List Value, x.size = n ∧ (∀ (j : Nat) (v : Value), ces[j]? = some v → arr[(i0 + i) * n + j]? = some v) ∧ repD O w x ces
  | [], i0, _, i, x, h => by simp at h
  | y :: xs, i0, ⟨h1, h2⟩, i, x, h => by
    cases i with
    | zero => simp at h; subst h; exact h1
    | succ i =>
      obtain ⟨ces, k1, k2, k3⟩ := extDe_get xs (i0 + 1) h2 i x (by simpa using h)
      exact ⟨ces, k1, fun j v hj => by rw [show i0 + (i + 1) = i0 + 1 + i by omega]; exact k2 j v hj, k3⟩
mutual
/-- a flat part of something owned reads for everybody -/
theorem own_sub {O : List Nat} {w : World} : ∀ (p : List Nat) (x : D) (F : List Nat) (cs : List Value) (off : Nat) (u : D) (o : Nat), ownD w x F cs → x.sub p off = some (u, o) → u.flat = true →
    ∃ c1 c2 c3, cs = c1 ++ c2 ++ c3 ∧ off + c1.length = o ∧ repD O w u c2
  | [], x, F, cs, off, u, o, H, h, hf => by
    simp only [D.sub, Option.some.injEq, Prod.mk.injEq] at h
    obtain ⟨rfl, rfl⟩ := h
    exact ⟨[], cs, [], by simp, rfl, flat_rep x F cs hf H⟩
  | i :: p, x, F, cs, off, u, o, H, h, hf => by
    cases x with
    | st ds =>
      simp only [D.sub] at h
      split at h
      · rename_i u1 o1 h1
        obtain ⟨F', c1, c2, c3, rfl, e, hr⟩ := own_fld ds F cs i off u1 o1 H h1
        obtain ⟨d1, d2, d3, rfl, e', hr'⟩ := own_sub p u1 F' c2 o1 u o hr h hf
        exact ⟨c1 ++ d1, d2, d3 ++ c3, by simp, by rw [List.length_append]; omega, hr'⟩
      · cases h
    | int k n => simp [D.sub] at h
    | bool k => simp [D.sub] at h
    | str k => simp [D.sub] at h
    | lst k => simp [D.sub] at h
    | hole _ _ _ => simp [D.sub] at h
    | fnv _ => simp [D.sub] at h
theorem own_fld {w : World} : ∀ (ds : List D) (F : List Nat) (cs : List Value) (f off : Nat) (u : D) (o : Nat), ownDs w ds F cs → fldD ds f off = some (u, o) →
    ∃ F' c1 c2 c3, cs = c1 ++ c2 ++ c3 ∧ off + c1.length = o ∧ ownD w u F' c2
  | [], F, cs, f, off, u, o, _, h => by simp [fldD] at h
  | d :: ds, F, cs, 0, off, u, o, H, h => by
    obtain ⟨F1, F2, c1, c2, rfl, rfl, h1, h2⟩ := H
    simp only [fldD, Option.some.injEq, Prod.mk.injEq] at h
    obtain ⟨rfl, rfl⟩ := h
    exact ⟨F1, [], c1, c2, rfl, rfl, h1⟩
  | d :: ds, F, cs, f + 1, off, u, o, H, h => by
    obtain ⟨F1, F2, c1, c2, rfl, rfl, h1, h2⟩ := H
    obtain ⟨F', p1, p2, p3, rfl, e, hr⟩ := own_fld ds F2 c2 f (off + d.size) u o h2 h
    refine ⟨F', c1 ++ p1, p2, p3, by simp, ?_, hr⟩
    rw [List.length_append, repD_len d c1 (ownD_rep (O := []) d F1 c1 (by simp) h1)]
    omega
theorem flat_rep {O : List Nat} {w : World} : ∀ (x : D) (F : List Nat) (cs : List Value), x.flat = true → ownD w x F cs → repD O w x cs
  | .int k n, F, cs, _, h => h.2
  | .bool b, F, cs, _, h => h.2
  | .str s, F, cs, _, h => h.2
  | .hole _ _ _, F, cs, _, h => by obtain ⟨rfl, h⟩ := h; exact h
  | .fnv _, F, cs, _, h => by obtain ⟨rfl, h⟩ := h; exact h
  | .lst xs, F, cs, hf, h => by cases hf
  | .st fs, F, cs, hf, h => flats_rep fs F cs hf h
theorem flats_rep {O : List Nat} {w : World} : ∀ (fs : List D) (F : List Nat) (cs : List Value), D.flats fs = true → ownDs w fs F cs → repDs O w fs cs
  | [], F, cs, _, h => h.2
  | f :: fs, F, cs, hf, h => by
    obtain ⟨F1, F2, c1, c2, rfl, e, h1, h2⟩ := h
    simp only [D.flats, Bool.and_eq_true] at hf
    exact ⟨c1, c2, e, flat_rep f F1 c1 hf.1 h1, flats_rep fs F2 c2 hf.2 h2⟩
end
end Go.Proofs.Ytdeafbgnbgihgaa
