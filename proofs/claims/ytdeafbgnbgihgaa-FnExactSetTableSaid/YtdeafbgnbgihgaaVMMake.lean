/- merged: several parts in one text. Leans on no more than they do. -/
import Derived.Test.YtdeafbgnbgihgaaVM9
set_option linter.unusedSimpArgs false
set_option linter.unusedVariables false
namespace Go.Proofs.Ytdeafbgnbgihgaa
open Go.RowKit
theorem O_cons (m : Option (Nat × List Nat)) (M : MM) : MM.O (m :: M) = mO m ++ M.O := by simp [MM.O]
structure PC (P : Program) (f : FuncId) (As : List V) (v : V) (bs : List Blk) : Prop where
  fn : ∃ fn, P.funcs[f]? = some fn ∧ (fn.name == "runtime.NumGoroutine") = false ∧ fn.body.isNone = false
  run : ∀ (w : World) (X : List Nat) (args : List Value), X.Nodup → (∀ b ∈ X, b < w.heap.size) → repT w [mX X] [.gone] As args →
    Calls P f args.toArray w fun e w' => ∃ cv M', e = .returned cv ∧ Ext w w' ∧ MInv w.heap.size w' (mX X :: M') (.gone :: bs) ∧ rep w' (mX X :: M') (.gone :: bs) v cv
def borE (h : List Blk) : V → D → Prop
  | .d x, y => y = x ∧ x.size = 1
  | .nils, y => y = .lst []
  | .own b off len, y => match h[b]? with
    | some (.arr _ xs _) => off + len ≤ xs.length ∧ y = .lst ((xs.drop off).take len)
    | _ => False
  | .st _, _ => False
  | .top, _ => False
  | .undef, _ => False
  | .nilp, _ => False
  | .pB _ _ _, _ => False
  | .pL _ _ _ _, _ => False
  | .pX _, _ => False
  | .fn _ _, _ => False
  | .tup _, _ => False
def borEs (h : List Blk) : List V → List D → Prop
  | [], ys => ys = []
  | v :: vs, ys => ∃ y ys', ys = y :: ys' ∧ borE h v y ∧ borEs h vs ys'
mutual
def borD (h : List Blk) : V → D → Prop
  | .d x, y => y = x
  | .nils, y => y = .lst []
  | .own b off len, y => match h[b]? with
    | some (.arr _ xs _) => off + len ≤ xs.length ∧ y = .lst ((xs.drop off).take len)
    | some (.box (.st vs)) => off = 0 ∧ len = vs.length ∧ ∃ ys, y = .lst ys ∧ borEs h vs ys
    | _ => False
  | .st fs, y => ∃ ys, y = .st ys ∧ borDs h fs ys
  | .top, _ => False
  | .undef, _ => False
  | .nilp, _ => False
  | .pB _ _ _, _ => False
  | .pL _ _ _ _, _ => False
  | .pX _, _ => False
  | .fn f caps, y => caps = [] ∧ y = .fnv f
  | .tup _, _ => False
def borDs (h : List Blk) : List V → List D → Prop
  | [], ys => ys = []
  | f :: fs, ys => ∃ y ys', ys = y :: ys' ∧ borD h f y ∧ borDs h fs ys'
end
mutual
def borV (h : List Blk) : V → V → Prop
  | .pX x, A => A = .pX x
  | .nilp, A => A = .nilp
  | .pB b p off, A => bif Nat.ble off 1000000 then (match h[b]? with
    | some (.box c) => (match c.sub p 0 with
      | some (u, o) => o = off ∧ ∃ y, A = .pX y ∧ borD h u y
      | none => False)
    | _ => False) else False
  | .pL b k p off, A => match h[b]? with
    | some (.arr _ xs _) => (∃ y, xs[k]? = some y ∧ (match y.sub p 0 with
      | some (u, o) => o = off ∧ A = .pX u
      | none => False)) ∨ (k = 0 ∧ p = [] ∧ off = 0 ∧ A = .pX (.st xs))
    | _ => False
  | .fn f caps, A => ∃ cs, A = .fn f cs ∧ borVs h caps cs
  | .d x, A => A = .d x
  | .nils, A => match A with
    | .nils => True
    | A => A = .d (.lst [])
  | .own b off len, A => ∃ y, A = .d y ∧ borD h (.own b off len) y
  | .st fs, A => ∃ y, A = .d y ∧ borD h (.st fs) y
  | .top, _ => False
  | .undef, _ => False
  | .tup _, _ => False
def borVs (h : List Blk) : List V → List V → Prop
  | [], As => As = []
  | v :: vs, As => ∃ A As', As = A :: As' ∧ borV h v A ∧ borVs h vs As'
end
mutual
def V.ext : V → Bool
  | .own _ _ _ => false
  | .pB _ _ _ => false
  | .pL _ _ _ _ => false
  | .fn _ caps => V.exts caps
  | .st fs => V.exts fs
  | .tup vs => V.exts vs
  | .top => true
  | .undef => true
  | .d _ => true
  | .nils => true
  | .nilp => true
  | .pX _ => true
def V.exts : List V → Bool
  | [] => true
  | v :: vs => v.ext && V.exts vs
end
section
variable {w : World} {M : MM} {h : List Blk} {X : List Nat} {B : Nat}
theorem repD_off (hX : X = [] ∨ X = M.O) {x : D} {cs : List Value} (H : repD M.O w x cs) : repD X w x cs :=
  repD_mv (fun b hb _ => ⟨by rcases hX with rfl | rfl; simp; exact hb, rfl⟩) x cs H
theorem extDe_all {O : List Nat} {arr : Array Value} {n : Nat} : ∀ (xs : List D) (i : Nat), extDe O w arr n xs i → ∃ ces, repDs O w xs ces ∧ ∀ j v, ces[j]? = some v → arr[i * n + j]? = some v
  | [], i, _ => ⟨[], rfl, fun j v h => by simp at h⟩
  | x :: xs, i, ⟨⟨c1, e1, e2, e3⟩, h2⟩ => by
    obtain ⟨c2, q1, q2⟩ := extDe_all xs (i + 1) h2
    refine ⟨c1 ++ c2, ⟨c1, c2, rfl, e3, q1⟩, fun j v hj => ?_⟩
    have hl := repD_len x c1 e3
    rw [List.getElem?_append] at hj
    split at hj
    · exact e2 j v hj
    · have := q2 _ v hj
      rw [hl, e1] at this
      rw [Nat.add_mul, Nat.one_mul] at this
      rename_i hge
      rw [hl, e1] at hge
      rwa [show i * n + n + (j - n) = i * n + j by omega] at this
theorem ownDe_ext {g : Nat} {arr : Array Value} {t : TypeId} {n : Nat} {xs : List D} {F : List Nat} (hg : w.heap[g]? = some (.cells arr t (0, 0))) (H : ownDe w arr n xs 0 F) : extDe [] w arr n xs 0 := by
  have key : ∀ (xs : List D) (i : Nat) (F : List Nat), ownDe w arr n xs i F → extDe [] w arr n xs i := by
    intro xs
    induction xs with
    | nil => intro i F _; trivial
    | cons x xs ih =>
      intro i F H
      obtain ⟨F1, F2, ces, rfl, h1, h2, h3, h4⟩ := H
      exact ⟨⟨ces, h1, h2, ownD_rep x F1 ces (by simp) h3⟩, ih (i + 1) F2 h4⟩
  exact key xs 0 F H
theorem bor_own (hI : MInv B w M h) {b off len : Nat} {cv : Value} (H : ownR w M h b off len cv) {n : Nat} {xs : List D} {dp : Bool} (hb : h[b]? = some (.arr n xs dp)) (hl : off + len ≤ xs.length) :
    repD [] w (.lst ((xs.drop off).take len)) [cv] := by
  obtain ⟨a, cap, rfl, h1, h2, h3, h4⟩ := H
  have hlen : ((xs.drop off).take len).length = len := by simp; omega
  refine ⟨a, cap, n, by rw [hlen], by rw [hlen]; exact h1, h2, h3, ?_⟩
  rcases h4 with h4 | ⟨g, F, arr, t, m1, rfl, m3, m4⟩
  · have : (xs.drop off).take len = [] := by
      have : len = 0 := by omega
      rw [this]; rfl
    rw [this]; trivial
  · have hn : nOf h b = n := by simp [nOf, hb]
    rw [hn]
    obtain ⟨arr', t', k1, k2, k3⟩ := hI.blk b _ _ hb m1
    rw [m3] at k1
    cases k1
    have hext : extDe [] w arr n xs 0 := by
      cases dp with
      | true => rw [if_pos rfl] at k3; exact ownDe_ext m3 k3
      | false =>
        rw [if_neg (by simp)] at k3
        exact extDe_mv (w' := w) (fun b _ _ => ⟨by simp, rfl⟩) xs 0 k3.2
    refine (repDe_get _ 0).2 fun i x hx => ?_
    have hi : i < len := by have := (List.getElem?_eq_some_iff.1 hx).1; omega
    rw [List.getElem?_take, if_pos hi, List.getElem?_drop] at hx
    obtain ⟨ces, q1, q2, q3⟩ := extDe_get xs 0 hext _ x hx
    refine ⟨g, off * n, ces, rfl, by simp, lt_of_heap m3, fun j v hj => ?_, q1, q3⟩
    have := q2 j v hj
    rw [Nat.zero_add, Nat.add_mul, Nat.add_assoc] at this
    rw [Nat.zero_add]
    simp [World.cell?, m3, ← this, Nat.add_assoc]
theorem borE_sound (hI : MInv B w M h) : ∀ (v : V) (cs : List Value) (y : D), repC w M h v cs → borE h v y → repD [] w y cs ∧ y.size = 1
  | .d x, cs, y, H, hb => by obtain ⟨rfl, hs⟩ := hb; exact ⟨repD_off (.inl rfl) H, hs⟩
  | .nils, cs, y, H, hb => by cases hb; cases H; exact ⟨⟨none, 0, 0, rfl, Nat.le_refl _, Nat.zero_le _, fun _ => rfl, trivial⟩, rfl⟩
  | .own b off len, cs, y, H, hb => by
    obtain ⟨cv, rfl, H⟩ := H
    simp only [borE] at hb
    split at hb
    · rename_i n xs dp hk
      obtain ⟨hl, rfl⟩ := hb
      exact ⟨bor_own hI H hk hl, rfl⟩
    · exact hb.elim
  | .st _, cs, y, _, hb => hb.elim
  | .top, cs, y, _, hb => hb.elim
  | .undef, cs, y, _, hb => hb.elim
  | .nilp, cs, y, _, hb => hb.elim
  | .pB _ _ _, cs, y, _, hb => hb.elim
  | .pL _ _ _ _, cs, y, _, hb => hb.elim
  | .pX _, cs, y, _, hb => hb.elim
  | .fn _ _, cs, y, _, hb => hb.elim
  | .tup _, cs, y, _, hb => hb.elim
theorem borEs_sound (hI : MInv B w M h) {g : Nat} (hg : g < w.heap.size) : ∀ (vs : List V) (cs : List Value) (ys : List D) (k : Nat), repCs w M h vs cs → borEs h vs ys → CellsAt w g k cs → repDe [] w (some ⟨g, 0, none⟩) 1 ys k ∧ ys.length = vs.length
  | [], cs, ys, k, _, hb, _ => by cases hb; exact ⟨trivial, rfl⟩
  | v :: vs, cs, ys, k, H, hb, hc => by
    obtain ⟨c1, c2, rfl, h1, h2⟩ := H
    obtain ⟨y, ys', rfl, b1, b2⟩ := hb
    obtain ⟨r1, r2⟩ := borE_sound hI v c1 y h1 b1
    have hl : c1.length = 1 := by rw [repD_len y c1 r1, r2]
    have hc1 : CellsAt w g k c1 := fun j u hj => hc j u (by rw [List.getElem?_append_left ((List.getElem?_eq_some_iff.1 hj).1)]; exact hj)
    have hc2 : CellsAt w g (k + 1) c2 := fun j u hj => by
      have := hc (1 + j) u (by rw [List.getElem?_append_right (by omega), hl, show 1 + j - 1 = j by omega]; exact hj)
      rw [show k + (1 + j) = k + 1 + j by omega] at this
      exact this
    obtain ⟨e1, e2⟩ := borEs_sound hI hg vs c2 ys' (k + 1) h2 b2 hc2
    exact ⟨⟨⟨g, 0, c1, rfl, by simp, hg, by rw [Nat.zero_add, Nat.mul_one]; exact hc1, r2, r1⟩, e1⟩, by simp [e2]⟩
mutual
theorem borD_sound (hI : MInv B w M h) : ∀ (v : V) (cs : List Value) (y : D), repC w M h v cs → (X = [] ∨ v.ext = true ∧ X = M.O) → borD h v y → repD X w y cs
  | .d x, cs, y, H, hX, hb => by cases hb; exact repD_off (hX.imp id And.right) H
  | .nils, cs, y, H, hX, hb => by cases hb; cases H; exact ⟨none, 0, 0, rfl, Nat.le_refl _, Nat.zero_le _, fun _ => rfl, trivial⟩
  | .own b off len, cs, y, H, hX, hb => by
    obtain ⟨cv, rfl, H⟩ := H
    simp only [borD] at hb
    split at hb
    · rename_i n xs dp hk
      obtain ⟨hl, rfl⟩ := hb
      rcases hX with rfl | ⟨hX, _⟩
      · exact bor_own hI H hk hl
      · cases hX
    · rename_i vs hk
      obtain ⟨rfl, rfl, ys, rfl, hb⟩ := hb
      rcases hX with rfl | ⟨hX, _⟩
      · obtain ⟨a, cap, rfl, h1, h2, h3, h4⟩ := H
        rcases h4 with h4 | ⟨g, F, arr, t, m1, m2, m3, m4⟩
        · have h0 : vs = [] := List.eq_nil_of_length_eq_zero (by omega)
          subst h0
          cases hb
          exact ⟨a, cap, 1, rfl, h1, h2, h3, trivial⟩
        · obtain ⟨-, arr', t', k1, k2⟩ := hI.blk b _ _ hk m1
          rw [m3] at k1
          cases k1
          have hcells := cellsAt_mid (c1 := []) (c2 := arr.toList) (c3 := []) (o := 0) m3 (by simp) rfl
          obtain ⟨e1, e2⟩ := borEs_sound hI (lt_of_heap m3) vs arr.toList ys 0 k2 hb hcells
          rw [Nat.zero_mul] at m2
          subst m2
          exact ⟨_, cap, 1, by rw [e2], by rw [e2]; exact h1, h2, h3, e1⟩
      · cases hX
    · exact hb.elim
  | .st fs, cs, y, H, hX, hb => by
    obtain ⟨ys, rfl, hb⟩ := hb
    exact borDs_sound hI fs cs ys H hX hb
  | .top, cs, y, _, _, hb => hb.elim
  | .undef, cs, y, _, _, hb => hb.elim
  | .nilp, cs, y, _, _, hb => hb.elim
  | .pB _ _ _, cs, y, _, _, hb => hb.elim
  | .pL _ _ _ _, cs, y, _, _, hb => hb.elim
  | .pX _, cs, y, _, _, hb => hb.elim
  | .fn f caps, cs, y, H, _, hb => by
    obtain ⟨rfl, rfl⟩ := hb
    obtain ⟨cvs, rfl, e⟩ := H
    cases e
    rfl
  | .tup _, cs, y, _, _, hb => hb.elim
theorem borDs_sound (hI : MInv B w M h) : ∀ (vs : List V) (cs : List Value) (ys : List D), repCs w M h vs cs → (X = [] ∨ V.exts vs = true ∧ X = M.O) → borDs h vs ys → repDs X w ys cs
  | [], cs, ys, H, hX, hb => by cases hb; exact H
  | v :: vs, cs, ys, H, hX, hb => by
    obtain ⟨c1, c2, rfl, h1, h2⟩ := H
    obtain ⟨y, ys', rfl, b1, b2⟩ := hb
    simp only [V.exts, Bool.and_eq_true] at hX
    exact ⟨c1, c2, rfl, borD_sound hI v c1 y h1 (hX.imp id fun q => ⟨q.1.1, q.2⟩) b1, borDs_sound hI vs c2 ys' h2 (hX.imp id fun q => ⟨q.1.2, q.2⟩) b2⟩
end
theorem O_X : MM.O [mX X] = X := by rw [O_one, mO_mX]
theorem repC_d {x : D} {cs : List Value} (H : repD X w x cs) : repC w [mX X] [.gone] (.d x) cs := by
  show repD (MM.O [mX X]) w x cs
  rw [O_X]; exact H
theorem repC_pX {x : D} {b o : Nat} {ces : List Value} (h1 : b ∉ X) (h2 : b < w.heap.size) (h3 : CellsAt w b o ces) (h4 : repD X w x ces) : repC w [mX X] [.gone] (.pX x) [.pointer (some ⟨b, o, none⟩)] :=
  ⟨b, o, ces, rfl, by rw [O_X]; exact h1, h2, h3, by rw [O_X]; exact h4⟩
theorem borD_agg : ∀ (v : V) (y : D), borD h v y → y.agg = v.isAgg
  | .d x, y, hb => by cases hb; rfl
  | .nils, y, hb => by cases hb; rfl
  | .own b off len, y, hb => by
    simp only [borD] at hb
    split at hb
    · obtain ⟨_, rfl⟩ := hb; rfl
    · obtain ⟨_, _, _, rfl, _⟩ := hb; rfl
    · exact hb.elim
  | .st fs, y, hb => by obtain ⟨ys, rfl, _⟩ := hb; rfl
  | .top, y, hb => hb.elim
  | .undef, y, hb => hb.elim
  | .nilp, y, hb => hb.elim
  | .pB _ _ _, y, hb => hb.elim
  | .pL _ _ _ _, y, hb => hb.elim
  | .pX _, y, hb => hb.elim
  | .fn _ _, y, hb => by obtain ⟨_, rfl⟩ := hb; rfl
  | .tup _, y, hb => hb.elim
mutual
theorem borV_sound (hI : MInv B w M h) : ∀ (v : V) (cs : List Value) (A : V), repC w M h v cs → (X = [] ∨ v.ext = true ∧ X = M.O) → borV h v A → repC w [mX X] [.gone] A cs ∧ A.isAgg = v.isAgg
  | .d x, cs, A, H, hX, hb => by cases hb; exact ⟨repC_d (repD_off (hX.imp id And.right) H), rfl⟩
  | .nils, cs, A, H, hX, hb => by
    unfold borV at hb
    split at hb
    · exact ⟨H, rfl⟩
    · cases hb; exact ⟨repC_d (borD_sound hI .nils cs _ H (hX.imp id fun q => ⟨rfl, q.2⟩) rfl), rfl⟩
  | .own b off len, cs, A, H, hX, hb => by
    obtain ⟨y, rfl, hb⟩ := hb
    exact ⟨repC_d (borD_sound hI _ cs y H hX hb), borD_agg _ y hb⟩
  | .st fs, cs, A, H, hX, hb => by
    obtain ⟨y, rfl, hb⟩ := hb
    exact ⟨repC_d (borD_sound hI _ cs y H hX hb), borD_agg _ y hb⟩
  | .pX x, cs, A, H, hX, hb => by
    cases hb
    obtain ⟨b, o, ces, rfl, h1, h2, h3, h4⟩ := H
    exact ⟨repC_pX (by rcases hX with rfl | ⟨_, rfl⟩; simp; exact h1) h2 h3 (repD_off (hX.imp id And.right) h4), rfl⟩
  | .nilp, cs, A, H, hX, hb => by cases hb; exact ⟨H, rfl⟩
  | .pB b p off, cs, A, H, hX, hb => by
    obtain ⟨g, F, hM, hcs⟩ := H
    rcases hX with rfl | ⟨hX, _⟩
    · simp only [borV] at hb
      have hb0 := BL hb; clear hb; obtain ⟨hlo, hb⟩ := hb0
      rw [pbv_lo hlo] at hcs
      subst hcs
      split at hb
      · rename_i c hc
        split at hb
        · rename_i u o hs
          obtain ⟨rfl, y, rfl, hb⟩ := hb
          obtain ⟨rfl, arr, t', hg, hr⟩ := hI.blk b _ _ hc hM
          obtain ⟨c1, c2, c3, e1, e2, hr2⟩ := repC_sub p c _ 0 u _ hr hs
          have hcells := cellsAt_mid hg e1 rfl
          rw [show c1.length = o by omega] at hcells
          exact ⟨repC_pX (by simp) (lt_of_heap hg) hcells (borD_sound hI u c2 y hr2 (.inl rfl) hb), rfl⟩
        · exact hb.elim
      · exact hb.elim
    · cases hX
  | .pL b k p off, cs, A, H, hX, hb => by
    obtain ⟨g, F, hM, rfl⟩ := H
    rcases hX with rfl | ⟨hX, _⟩
    · simp only [borV] at hb
      split at hb
      · rename_i n xs dp hc
        obtain ⟨arr, t', hg, hsz, hel⟩ := hI.blk b _ _ hc hM
        have hext : extDe [] w arr n xs 0 := by
          cases dp with
          | true => rw [if_pos rfl] at hel; exact ownDe_ext hg hel
          | false =>
            rw [if_neg (by simp)] at hel
            exact extDe_mv (w' := w) (fun b _ _ => ⟨by simp, rfl⟩) xs 0 hel.2
        rcases hb with ⟨y, hy, hb⟩ | ⟨rfl, rfl, rfl, rfl⟩
        rotate_left
        · obtain ⟨ces, q1, q2⟩ := extDe_all xs 0 hext
          have q3 : repD [] w (.st xs) ces := q1
          have hcells : CellsAt w g (0 * nOf h b + 0) ces := fun j v hj => by
            have := q2 j v hj
            rw [Nat.zero_mul, Nat.zero_add] at this
            simp [World.cell?, hg, this]
          exact ⟨repC_pX (by simp) (lt_of_heap hg) hcells q3, rfl⟩
        split at hb
        · rename_i u o hs
          obtain ⟨rfl, rfl⟩ := hb
          have hn : nOf h b = n := by simp [nOf, hc]
          obtain ⟨ces, q1, q2, q3⟩ := extDe_get xs 0 hext _ y hy
          rw [Nat.zero_add] at q2
          obtain ⟨c1, c2, c3, rfl, e2, hr2⟩ := repD_sub p y ces 0 u o q3 hs
          have hall : CellsAt w g (k * n) (c1 ++ c2 ++ c3) := fun j v hj => by simp [World.cell?, hg, q2 j v hj]
          have hcells := cellsAt_sub hall
          rw [show c1.length = o by omega] at hcells
          rw [hn]
          exact ⟨repC_pX (by simp) (lt_of_heap hg) hcells hr2, rfl⟩
        · exact hb.elim
      · exact hb.elim
    · cases hX
  | .fn f caps, cs, A, H, hX, hb => by
    obtain ⟨cvs, rfl, H⟩ := H
    obtain ⟨as', rfl, hb⟩ := hb
    exact ⟨⟨cvs, rfl, borVs_sound hI caps cvs as' H hX hb⟩, rfl⟩
  | .top, cs, A, _, _, hb => hb.elim
  | .undef, cs, A, _, _, hb => hb.elim
  | .tup _, cs, A, _, _, hb => hb.elim
theorem borVs_sound (hI : MInv B w M h) : ∀ (vs : List V) (cs : List Value) (As : List V), repK w M h vs cs → (X = [] ∨ V.exts vs = true ∧ X = M.O) → borVs h vs As → repK w [mX X] [.gone] As cs
  | [], cs, As, H, hX, hb => by cases hb; exact H
  | v :: vs, cs, As, H, hX, hb => by
    obtain ⟨c, cs', rfl, h1, h2⟩ := H
    obtain ⟨A, As', rfl, b1, b2⟩ := hb
    simp only [V.exts, Bool.and_eq_true] at hX
    exact ⟨c, cs', rfl, (borV_sound hI v [c] A h1 (hX.imp id fun q => ⟨q.1.1, q.2⟩) b1).1, borVs_sound hI vs cs' As' h2 (hX.imp id fun q => ⟨q.1.2, q.2⟩) b2⟩
end
theorem borT_sound (hI : MInv B w M h) : ∀ (vs : List V) (cs : List Value) (As : List V), repT w M h vs cs → (X = [] ∨ V.exts vs = true ∧ X = M.O) → borVs h vs As → repT w [mX X] [.gone] As cs
  | [], cs, As, H, hX, hb => by cases hb; exact H
  | v :: vs, cs, As, H, hX, hb => by
    obtain ⟨c, cs', rfl, h1, h2⟩ := H
    obtain ⟨A, As', rfl, b1, b2⟩ := hb
    simp only [V.exts, Bool.and_eq_true] at hX
    refine ⟨c, cs', rfl, ?_, borT_sound hI vs cs' As' h2 (hX.imp id fun q => ⟨q.1.2, q.2⟩) b2⟩
    have hX' := hX.imp id fun q => (⟨q.1.1, q.2⟩ : v.ext = true ∧ X = M.O)
    unfold rep1 at h1 ⊢
    split at h1
    · rename_i ha
      obtain ⟨cs, rfl, h1⟩ := h1
      obtain ⟨k1, k2⟩ := borV_sound hI v cs A h1 hX' b1
      rw [k2, if_pos ha]
      exact ⟨cs, rfl, k1⟩
    · rename_i ha
      obtain ⟨k1, k2⟩ := borV_sound hI v [c] A h1 hX' b1
      rw [k2, if_neg ha]
      exact k1
end
mutual
def V.shift (s : Nat) : V → V
  | .own b o l => .own (b + s) o l
  | .pB b p o => .pB (b + s) p o
  | .pL b i p o => .pL (b + s) i p o
  | .fn f caps => .fn f (V.shifts s caps)
  | .st fs => .st (V.shifts s fs)
  | .tup vs => .tup (V.shifts s vs)
  | .top => .top
  | .undef => .undef
  | .d y => .d y
  | .nils => .nils
  | .nilp => .nilp
  | .pX y => .pX y
def V.shifts (s : Nat) : List V → List V
  | [] => []
  | v :: vs => v.shift s :: V.shifts s vs
end
def Blk.shift (s : Nat) : Blk → Blk
  | .box v => .box (v.shift s)
  | .arr n xs dp => .arr n xs dp
  | .gone => .gone
  | .gho c t g sz ty => .gho c t g sz ty
  | .pin c g sz ty => .pin c g sz ty
  | .keep e f => .keep e f
  | .bld T E bs => .bld T E bs
  | .mp tg es => .mp tg es
def shiftBs (s : Nat) : List Blk → List Blk
  | [] => []
  | b :: bs => b.shift s :: shiftBs s bs
mutual
def V.fit (cl : Bool) : V → Bool
  | .own b _ _ => !Nat.beq b 0
  | .pB b _ _ => !Nat.beq b 0
  | .pL b _ _ _ => !Nat.beq b 0
  | .fn _ caps => V.fits cl caps
  | .st fs => V.fits cl fs
  | .tup vs => V.fits cl vs
  | .top => true
  | .undef => true
  | .d x => !cl || x.flat
  | .nils => true
  | .nilp => true
  | .pX _ => !cl
def V.fits (cl : Bool) : List V → Bool
  | [] => true
  | v :: vs => v.fit cl && V.fits cl vs
end
def Blk.fit (cl : Bool) : Blk → Bool
  | .box v => v.fit cl
  | .arr _ _ dp => !cl || dp
  | .gone => false
  | .gho _ _ _ _ _ => false
  | .pin _ _ _ _ => false
  | .keep _ _ => false
  | .bld _ _ _ => false
  | .mp _ _ => false
def fitBs (cl : Bool) : List Blk → Bool
  | [] => true
  | b :: bs => b.fit cl && fitBs cl bs
section
variable {w : World} {M M' : MM} {h bs : List Blk} {X : List Nat} {cl : Bool}
theorem flat_any {O O' : List Nat} {x : D} {cs : List Value} (hf : x.flat = true) (H : repD O w x cs) : repD O' w x cs := flat_rep x [] cs hf (flat_own x cs hf H)
theorem sh_get (hl : M.length = h.length) {b : Nat} (hb : (!Nat.beq b 0) = true) (h0 : 1 ≤ h.length) {α : Type} (xs : List α) (ys : List α) (x : α) (hxs : xs.length = h.length) : (xs ++ ys)[b + (h.length - 1)]? = (x :: ys)[b]? := by
  cases b with
  | zero => simp at hb
  | succ b =>
    rw [List.getElem?_append_right (by omega), List.getElem?_cons_succ]
    congr 1
    omega
theorem nOf_sh (h0 : 1 ≤ h.length) {b : Nat} (hb : (!Nat.beq b 0) = true) (s : Nat) : nOf (h ++ shiftBs s bs) (b + (h.length - 1)) = nOf (.gone :: bs) b := by
  unfold nOf
  rw [sh_get (M := List.replicate h.length none) (h := h) (by simp) hb h0 h (shiftBs s bs) .gone rfl]
  cases b with
  | zero => simp at hb
  | succ b =>
    rw [List.getElem?_cons_succ, List.getElem?_cons_succ]
    have : ∀ (bs : List Blk) (b : Nat), (shiftBs s bs)[b]? = (bs[b]?).map (Blk.shift s) := by
      intro bs
      induction bs with
      | nil => intro b; simp [shiftBs]
      | cons c bs ih => intro b; cases b with
        | zero => simp [shiftBs]
        | succ b => simp [shiftBs, ih b]
    rw [this]
    cases bs[b]? with
    | none => rfl
    | some k => cases k <;> rfl
structure Sh (cl : Bool) (X : List Nat) (M : MM) (h : List Blk) : Prop where
  len : M.length = h.length
  pos : 1 ≤ h.length
  off : cl = true ∨ X = M.O
mutual
theorem repC_sh (S : Sh cl X M h) : ∀ (v : V) (cs : List Value), v.fit cl = true → repC w (mX X :: M') (.gone :: bs) v cs → repC w (M ++ M') (h ++ shiftBs (h.length - 1) bs) (v.shift (h.length - 1)) cs
  | .own b o l, cs, hf, H => by
    obtain ⟨cv, e, a, cap, h1, h2, h3, h4, h5⟩ := H
    refine ⟨cv, e, a, cap, h1, h2, h3, h4, ?_⟩
    rcases h5 with h5 | ⟨g, F, arr, t, k1, k2, k3, k4⟩
    · exact .inl h5
    · have en := nOf_sh (bs := bs) S.pos hf (h.length - 1)
      exact .inr ⟨g, F, arr, t, by rw [sh_get S.len hf S.pos M M' (mX X) S.len]; exact k1, by rw [en]; exact k2, k3, by rw [en]; exact k4⟩
  | .pB b p o, cs, hf, H => by
    obtain ⟨g, F, k1, e⟩ := H
    exact ⟨g, F, by rw [sh_get S.len hf S.pos M M' (mX X) S.len]; exact k1, e⟩
  | .pL b i p o, cs, hf, H => by
    obtain ⟨g, F, k1, e⟩ := H
    exact ⟨g, F, by rw [sh_get S.len hf S.pos M M' (mX X) S.len]; exact k1, by rw [nOf_sh (bs := bs) S.pos hf]; exact e⟩
  | .fn f caps, cs, hf, H => by
    obtain ⟨cvs, e, H⟩ := H
    exact ⟨cvs, e, repK_sh S caps cvs hf H⟩
  | .st fs, cs, hf, H => repCs_sh S fs cs hf H
  | .tup vs, cs, hf, H => H.elim
  | .top, cs, hf, H => H
  | .undef, cs, hf, H => H
  | .d y, cs, hf, H => by
    simp only [V.fit, Bool.or_eq_true, Bool.not_eq_true'] at hf
    show repD (MM.O (M ++ M')) w y cs
    have H' : repD (MM.O (mX X :: M')) w y cs := H
    rw [O_app]
    rw [O_cons, mO_mX] at H'
    rcases hf with hf | hf
    · rcases S.off with h | h
      · rw [hf] at h; cases h
      · rw [← h]; exact H'
    · exact flat_any hf H'
  | .nils, cs, hf, H => H
  | .nilp, cs, hf, H => H
  | .pX y, cs, hf, H => by
    simp only [V.fit, Bool.not_eq_true'] at hf
    obtain ⟨b, o, ces, e, h1, h2, h3, h4⟩ := H
    rw [O_cons, mO_mX] at h1 h4
    have hX : X = M.O := by
      rcases S.off with h | h
      · rw [hf] at h; cases h
      · exact h
    exact ⟨b, o, ces, e, by rw [O_app, ← hX]; exact h1, h2, h3, by rw [O_app, ← hX]; exact h4⟩
theorem repCs_sh (S : Sh cl X M h) : ∀ (vs : List V) (cs : List Value), V.fits cl vs = true → repCs w (mX X :: M') (.gone :: bs) vs cs → repCs w (M ++ M') (h ++ shiftBs (h.length - 1) bs) (V.shifts (h.length - 1) vs) cs
  | [], cs, _, H => H
  | v :: vs, cs, hf, H => by
    simp only [V.fits, Bool.and_eq_true] at hf
    obtain ⟨c1, c2, e, h1, h2⟩ := H
    exact ⟨c1, c2, e, repC_sh S v c1 hf.1 h1, repCs_sh S vs c2 hf.2 h2⟩
theorem repK_sh (S : Sh cl X M h) : ∀ (vs : List V) (cs : List Value), V.fits cl vs = true → repK w (mX X :: M') (.gone :: bs) vs cs → repK w (M ++ M') (h ++ shiftBs (h.length - 1) bs) (V.shifts (h.length - 1) vs) cs
  | [], cs, _, H => H
  | v :: vs, cs, hf, H => by
    simp only [V.fits, Bool.and_eq_true] at hf
    obtain ⟨c1, c2, e, h1, h2⟩ := H
    exact ⟨c1, c2, e, repC_sh S v [c1] hf.1 h1, repK_sh S vs c2 hf.2 h2⟩
end
theorem shift_agg (s : Nat) : ∀ v : V, (v.shift s).isAgg = v.isAgg := by intro v; cases v <;> rfl
theorem rep1_sh (S : Sh cl X M h) {v : V} {cv : Value} (hf : v.fit cl = true) (H : rep1 w (mX X :: M') (.gone :: bs) v cv) : rep1 w (M ++ M') (h ++ shiftBs (h.length - 1) bs) (v.shift (h.length - 1)) cv := by
  unfold rep1 at H ⊢
  rw [shift_agg]
  split at H
  · rename_i ha
    rw [if_pos ha]
    obtain ⟨cs, e, H⟩ := H
    exact ⟨cs, e, repC_sh S v cs hf H⟩
  · rename_i ha
    rw [if_neg ha]
    exact repC_sh S v [cv] hf H
theorem repT_sh (S : Sh cl X M h) : ∀ (vs : List V) (cs : List Value), V.fits cl vs = true → repT w (mX X :: M') (.gone :: bs) vs cs → repT w (M ++ M') (h ++ shiftBs (h.length - 1) bs) (V.shifts (h.length - 1) vs) cs
  | [], cs, _, H => H
  | v :: vs, cs, hf, H => by
    simp only [V.fits, Bool.and_eq_true] at hf
    obtain ⟨c1, c2, e, h1, h2⟩ := H
    exact ⟨c1, c2, e, rep1_sh S hf.1 h1, repT_sh S vs c2 hf.2 h2⟩
theorem rep_sh (S : Sh cl X M h) {v : V} {cv : Value} (hf : v.fit cl = true) (H : rep w (mX X :: M') (.gone :: bs) v cv) : rep w (M ++ M') (h ++ shiftBs (h.length - 1) bs) (v.shift (h.length - 1)) cv := by
  cases v with
  | tup vs =>
    obtain ⟨cvs, e, H⟩ := H
    exact ⟨cvs, e, repT_sh S vs cvs hf H⟩
  | top => trivial
  | undef => exact H
  | own b o l => exact rep1_sh S hf H
  | pB b p o => exact rep1_sh S hf H
  | pL b i p o => exact rep1_sh S hf H
  | fn f caps => exact rep1_sh S hf H
  | st fs => exact rep1_sh S hf H
  | d y => exact rep1_sh S hf H
  | nils => exact H
  | nilp => exact H
  | pX y => exact rep1_sh S hf H
theorem BRep_sh (S : Sh cl X M h) {k : Blk} {m : Option (Nat × List Nat)} (hf : k.fit cl = true) (H : BRep w (mX X :: M') (.gone :: bs) k m) : BRep w (M ++ M') (h ++ shiftBs (h.length - 1) bs) (k.shift (h.length - 1)) m := by
  cases k with
  | gone => cases hf
  | gho _ _ _ _ _ => cases hf
  | pin _ _ _ _ => cases hf
  | keep _ _ => cases hf
  | bld _ _ _ => cases hf
  | mp _ _ => cases hf
  | arr n xs dp =>
    cases m with
    | none => exact H
    | some p =>
      obtain ⟨g, F⟩ := p
      obtain ⟨arr, t, h1, h2, h3⟩ := H
      refine ⟨arr, t, h1, h2, ?_⟩
      cases dp with
      | true => exact h3
      | false =>
        rw [if_neg (by simp)] at h3 ⊢
        simp only [Blk.fit, Bool.or_eq_true, Bool.not_eq_true'] at hf
        rcases hf with hf | hf
        · have hX : X = M.O := by
            rcases S.off with h | h
            · rw [hf] at h; cases h
            · exact h
          rw [O_app, ← hX]
          rw [O_cons, mO_mX] at h3
          exact h3
        · cases hf
  | box v =>
    cases m with
    | none => exact H
    | some p =>
      obtain ⟨g, F⟩ := p
      obtain ⟨e, arr, t, h1, h2⟩ := H
      exact ⟨e, arr, t, h1, repC_sh S v _ hf h2⟩
end
theorem shiftBs_get (s : Nat) : ∀ (bs : List Blk) (b : Nat), (shiftBs s bs)[b]? = (bs[b]?).map (Blk.shift s)
  | [], b => by simp [shiftBs]
  | c :: bs, 0 => by simp [shiftBs]
  | c :: bs, b + 1 => by simp [shiftBs, shiftBs_get s bs b]
theorem shiftBs_len (s : Nat) : ∀ (bs : List Blk), (shiftBs s bs).length = bs.length
  | [] => rfl
  | c :: bs => by simp [shiftBs, shiftBs_len s bs]
theorem fitBs_get {cl : Bool} : ∀ (bs : List Blk) (b : Nat) (k : Blk), fitBs cl bs = true → bs[b]? = some k → k.fit cl = true
  | [], b, k, _, h => by simp at h
  | c :: bs, 0, k, hf, h => by simp [fitBs] at hf h; subst h; exact hf.1
  | c :: bs, b + 1, k, hf, h => by simp [fitBs] at hf h; exact fitBs_get bs b k hf.2 h
theorem fit_live {cl : Bool} {k : Blk} (h : k.fit cl = true) : k.live = true := by cases k <;> first | rfl | cases h
structure CallP (P : Program) (f : FuncId) (vs : List V) (h : List Blk) (K : V → List Blk → Prop) : Prop where
  ex : ∃ As v bs, PC P f As v bs ∧ borVs h vs As ∧ ((v.fit (!V.exts vs) && fitBs (!V.exts vs) bs && Nat.ble 1 h.length) = true) ∧ K (v.shift (h.length - 1)) (h ++ shiftBs (h.length - 1) bs)
theorem call_sound {P : Program} {B : World} {X0 : List Nat} {N : Nat} {M : MM} {e : Env} {h : List Blk} {a : Act} {w : World} (R : Rep B X0 N M e h a w) {f : FuncId} {vs : List V} {args : List Value}
    (hargs : repT w M h vs args) {K : V → List Blk → Prop} (H : CallP P f vs h K) :
    (∃ fn, P.funcs[f]? = some fn ∧ (fn.name == "runtime.NumGoroutine") = false ∧ fn.body.isNone = false) ∧
    Calls P f args.toArray w fun en w' => ∃ v cv h' M', en = .returned cv ∧ K v h' ∧ Ext w w' ∧ Rep B X0 N M' e h' a w' ∧ rep w' M' h' v cv := by
  obtain ⟨⟨As, v, bs, pc, hb, hf, hK⟩⟩ := H
  refine ⟨pc.fn, ?_⟩
  simp only [Bool.and_eq_true] at hf
  obtain ⟨⟨hf1, hf2⟩, h0⟩ := hf
  have h0 : 1 ≤ h.length := Nat.le_of_ble_eq_true h0
  have ⟨X, hX, hnd, hhi, S⟩ : ∃ X : List Nat, (X = [] ∨ V.exts vs = true ∧ X = M.O) ∧ X.Nodup ∧ (∀ b ∈ X, b < w.heap.size) ∧ Sh (!V.exts vs) X M h := by
    cases he : V.exts vs with
    | true => exact ⟨M.O, .inr ⟨rfl, rfl⟩, R.inv.nd, R.inv.hi, R.inv.len, h0, .inr rfl⟩
    | false => exact ⟨[], .inl rfl, by simp, by simp, R.inv.len, h0, .inl rfl⟩
  refine (pc.run w X args hnd hhi (borT_sound R.inv vs args As hargs hX hb)).mono ?_
  rintro en w' ⟨cv, M', rfl, hx, hI, hr⟩
  have hlen : M'.length = bs.length := by have := hI.len; simpa using this
  have hlo : ∀ g ∈ (MM.O M'), w.heap.size ≤ g := fun g hg => by
    obtain ⟨b, m, hm, hgm⟩ := mem_O_get hg
    obtain ⟨k, hk⟩ := at_lt (xs := bs) (k := b) (by rw [← hlen]; exact (List.getElem?_eq_some_iff.1 hm).1)
    exact hI.lo (b + 1) k m (by simpa using hk) (by simpa using hm) (fit_live (fitBs_get bs b k hf2 hk)) g hgm
  have hnd' : (MM.O M').Nodup := by
    have := hI.nd
    rw [O_cons] at this
    exact (List.nodup_append.1 this).2.1
  have hhi' : ∀ g ∈ (MM.O M'), g < w'.heap.size := fun g hg => hI.hi g (by rw [O_cons]; exact List.mem_append_right _ hg)
  have mv : Mv (fun _ => True) w M h w' (M ++ M') (h ++ shiftBs (h.length - 1) bs) := push_mv R.inv.len hx R.inv.hi hlo
  refine ⟨_, cv, _, M ++ M', rfl, hK, hx, R.step (R.ext.trans hx) (R.inv.push R.base hx (by rw [shiftBs_len]; exact hlen) hnd' hlo hhi' ?_) mv (fr_push R.fr _) (fr_push R.fh _), rep_sh S hf1 hr⟩
  intro b k m hk hm
  rw [shiftBs_get] at hk
  obtain ⟨k0, hk0, rfl⟩ := Option.map_eq_some_iff.1 hk
  exact BRep_sh S (fitBs_get bs b k0 hf2 hk0) (hI.blk (b + 1) k0 m (by simpa using hk0) (by simpa using hm))
structure CallM (P : Program) (f : FuncId) (vs : List V) (e : Env) (h : List Blk) (K : V → Env → List Blk → Prop) : Prop where
  fn : ∃ fn, P.funcs[f]? = some fn ∧ (fn.name == "runtime.NumGoroutine") = false ∧ fn.body.isNone = false
  run : ∀ (B : World) (X : List Nat) (N : Nat) (M : MM) (a : Act) (w : World) (args : List Value), Rep B X N M e h a w → repT w M h vs args →
    Calls P f args.toArray w fun en w' => ∃ v cv e' h' M', en = .returned cv ∧ K v e' h' ∧ Rep B X N M' e' h' a w' ∧ rep w' M' h' v cv
structure CallE (P : Program) (f : FuncId) (vs : List V) (e : Env) (h : List Blk) (K : V → Env → List Blk → Prop) : Prop where
  fn : ∃ fn, P.funcs[f]? = some fn ∧ (fn.name == "runtime.NumGoroutine") = false ∧ fn.body.isNone = false
  run : ∀ (B : World) (X : List Nat) (N : Nat) (M : MM) (a : Act) (w : World) (args : List Value), Rep B X N M e h a w → repT w M h vs args →
    Calls P f args.toArray w fun en w' => ∃ v cv h' M', en = .returned cv ∧ K v e h' ∧ Ext w w' ∧ Rep B X N M' e h' a w' ∧ rep w' M' h' v cv
structure CallW (P : Program) (dr : Bool) (f : FuncId) (vs : List V) (e : Env) (h : List Blk) (K : V → Env → List Blk → Prop) : Prop where
  ex : (CallP P f vs h (fun v h' => K v e h') ∨ CallE P f vs e h K) ∨ (dr = false ∧ CallM P f vs e h K)
theorem callW_sound {P : Program} {B : World} {X0 : List Nat} {N : Nat} {M : MM} {e : Env} {h : List Blk} {a : Act} {w : World} (R : Rep B X0 N M e h a w) {dr : Bool} {f : FuncId} {vs : List V} {args : List Value}
    (hargs : repT w M h vs args) {K : V → Env → List Blk → Prop} (H : CallW P dr f vs e h K) :
    (∃ fn, P.funcs[f]? = some fn ∧ (fn.name == "runtime.NumGoroutine") = false ∧ fn.body.isNone = false) ∧
    Calls P f args.toArray w fun en w' => ∃ v cv e' h' M', en = .returned cv ∧ K v e' h' ∧ (dr = true → Ext w w') ∧ Rep B X0 N M' e' h' a w' ∧ rep w' M' h' v cv := by
  rcases H.ex with (H | H) | ⟨hd, H⟩
  rotate_left
  · exact ⟨H.fn, (H.run B X0 N M a w args R hargs).mono fun en w' ⟨v, cv, h', M', k1, k2, k3, k4, k5⟩ => ⟨v, cv, e, h', M', k1, k2, fun _ => k3, k4, k5⟩⟩
  rotate_right
  · obtain ⟨h1, h2⟩ := call_sound R hargs H
    exact ⟨h1, h2.mono fun en w' ⟨v, cv, h', M', k1, k2, k3, k4, k5⟩ => ⟨v, cv, e, h', M', k1, k2, fun _ => k3, k4, k5⟩⟩
  · exact ⟨H.fn, (H.run B X0 N M a w args R hargs).mono fun en w' ⟨v, cv, e', h', M', k1, k2, k4, k5⟩ => ⟨v, cv, e', h', M', k1, k2, fun q => (by rw [hd] at q; cases q), k4, k5⟩⟩
def dropE : List Nat → Env → Env
  | [], e => e
  | k :: ks, e => dropE ks (killE k e)
def dropK : List Nat → List Blk → List Blk
  | [], h => h
  | k :: ks, h => dropK ks (killH k h)
def goneL : List Nat → List Blk → List Blk
  | [], h => h
  | k :: ks, h => goneL ks (h.set k .gone)
def noneL : List Nat → MM → MM
  | [], M => M
  | k :: ks, M => noneL ks (M.set k none)
def dropV : List Nat → V → V
  | [], v => v
  | k :: ks, v => dropV ks (v.kill k)
mutual
theorem V.kill_keeps (x : Nat) (S : Nat → Prop) : ∀ v : V, v.inS S → (v.kill x).inS S
  | .own b o l, h => by unfold V.kill; split; trivial; exact h
  | .pB b p o, h => by unfold V.kill; split; trivial; exact h
  | .pL b i p o, h => by unfold V.kill; split; trivial; exact h
  | .fn _ caps, h => V.kills_keeps x S caps h
  | .st fs, h => V.kills_keeps x S fs h
  | .tup vs, h => V.kills_keeps x S vs h
  | .top, _ => trivial
  | .undef, _ => trivial
  | .d _, _ => trivial
  | .nils, _ => trivial
  | .nilp, _ => trivial
  | .pX _, _ => trivial
theorem V.kills_keeps (x : Nat) (S : Nat → Prop) : ∀ vs : List V, V.inSs S vs → V.inSs S (V.kills x vs)
  | [], _ => trivial
  | v :: vs, h => ⟨V.kill_keeps x S v h.1, V.kills_keeps x S vs h.2⟩
end
mutual
theorem V.inS_and (S T : Nat → Prop) : ∀ v : V, v.inS S → v.inS T → v.inS (fun b => S b ∧ T b)
  | .own b o l, h, k => ⟨h, k⟩
  | .pB b p o, h, k => ⟨h, k⟩
  | .pL b i p o, h, k => ⟨h, k⟩
  | .fn _ caps, h, k => V.inSs_and S T caps h k
  | .st fs, h, k => V.inSs_and S T fs h k
  | .tup vs, h, k => V.inSs_and S T vs h k
  | .top, _, _ => trivial
  | .undef, _, _ => trivial
  | .d _, _, _ => trivial
  | .nils, _, _ => trivial
  | .nilp, _, _ => trivial
  | .pX _, _, _ => trivial
theorem V.inSs_and (S T : Nat → Prop) : ∀ vs : List V, V.inSs S vs → V.inSs T vs → V.inSs (fun b => S b ∧ T b) vs
  | [], _, _ => trivial
  | v :: vs, h, k => ⟨V.inS_and S T v h.1 k.1, V.inSs_and S T vs h.2 k.2⟩
end
mutual
theorem V.inS_imp {S T : Nat → Prop} (H : ∀ b, S b → T b) : ∀ v : V, v.inS S → v.inS T
  | .own b o l, h => H _ h
  | .pB b p o, h => H _ h
  | .pL b i p o, h => H _ h
  | .fn _ caps, h => V.inSs_imp H caps h
  | .st fs, h => V.inSs_imp H fs h
  | .tup vs, h => V.inSs_imp H vs h
  | .top, _ => trivial
  | .undef, _ => trivial
  | .d _, _ => trivial
  | .nils, _ => trivial
  | .nilp, _ => trivial
  | .pX _, _ => trivial
theorem V.inSs_imp {S T : Nat → Prop} (H : ∀ b, S b → T b) : ∀ vs : List V, V.inSs S vs → V.inSs T vs
  | [], _ => trivial
  | v :: vs, h => ⟨V.inS_imp H v h.1, V.inSs_imp H vs h.2⟩
end
theorem dropV_inS0 : ∀ (ks : List Nat) (S : Nat → Prop) (v : V), v.inS S → (dropV ks v).inS (fun b => S b ∧ b ∉ ks)
  | [], S, v, h => V.inS_imp (fun b hb => ⟨hb, by simp⟩) v h
  | k :: ks, S, v, h => by
    have h1 := V.inS_and _ _ _ (V.kill_keeps k S v h) (V.kill_inS k v)
    exact V.inS_imp (fun b hb => ⟨hb.1.1, by simp [hb.1.2, hb.2]⟩) _ (dropV_inS0 ks _ _ h1)
theorem dropV_inS (ks : List Nat) (v : V) : (dropV ks v).inS (fun b => b ∉ ks) := V.inS_imp (fun _ h => h.2) _ (dropV_inS0 ks (fun _ => True) v (V.inS_all v))
theorem rep_dropV {w : World} {M : MM} {h : List Blk} : ∀ (ks : List Nat) (v : V) (cv : Value), rep w M h v cv → rep w M h (dropV ks v) cv
  | [], v, cv, H => H
  | k :: ks, v, cv, H => rep_dropV ks _ cv (rep_kill k v cv H)
theorem repC_dropV {w : World} {M : MM} {h : List Blk} : ∀ (ks : List Nat) (v : V) (cs : List Value), repC w M h v cs → repC w M h (dropV ks v) cs
  | [], v, cs, H => H
  | k :: ks, v, cs, H => repC_dropV ks _ cs (repC_kill k v cs H)
theorem gt_drop : ∀ (ks : List Nat) (e : Env) (k : Nat), gt (dropE ks e) k = dropV ks (gt e k)
  | [], e, k => rfl
  | x :: ks, e, k => by rw [dropE, dropV, gt_drop ks, gt_kill]
def Blk.drop (ks : List Nat) : Blk → Blk
  | .box v => .box (dropV ks v)
  | .arr n xs dp => .arr n xs dp
  | .gone => .gone
  | .gho c s g sz t => bif ks.any (fun x => Nat.beq x 2) then .gone else .gho c s g sz t
  | .pin c g sz t => bif ks.any (fun x => Nat.beq x c) then .gone else .pin c g sz t
  | .keep e f => .keep (dropE ks e) f
  | .bld T E bs => .bld T E bs
  | .mp tg es => .mp tg es
theorem killH_get (x : Nat) : ∀ (h : List Blk) (b : Nat), (killH x h)[b]? = (h[b]?).map (Blk.kill x)
  | [], b => by simp [killH]
  | k :: h, 0 => by simp [killH]
  | k :: h, b + 1 => by simp [killH, killH_get x h b]
theorem killH_len (x : Nat) : ∀ h : List Blk, (killH x h).length = h.length
  | [] => rfl
  | k :: h => by simp [killH, killH_len x h]
theorem dropK_get : ∀ (ks : List Nat) (h : List Blk) (b : Nat), (dropK ks h)[b]? = (h[b]?).map (Blk.drop ks)
  | [], h, b => by
    have : Blk.drop [] = id := by funext k; cases k <;> rfl
    simp [dropK, this]
  | x :: ks, h, b => by
    rw [dropK, dropK_get ks, killH_get, Option.map_map]
    congr 1
    funext k
    cases k with
    | gho c s g sz t =>
      show Blk.drop ks (Blk.kill x (.gho c s g sz t)) = _
      unfold Blk.kill
      cases hx : Nat.beq x 2 with
      | true => simp [Blk.drop, hx]
      | false => simp [Blk.drop, hx]
    | pin c g sz t =>
      show Blk.drop ks (Blk.kill x (.pin c g sz t)) = _
      unfold Blk.kill
      cases hx : Nat.beq x c with
      | true => simp [Blk.drop, hx]
      | false => simp [Blk.drop, hx]
    | _ => rfl
theorem dropK_len : ∀ (ks : List Nat) (h : List Blk), (dropK ks h).length = h.length
  | [], h => rfl
  | x :: ks, h => by rw [dropK, dropK_len ks, killH_len]
theorem goneL_get : ∀ (is : List Nat) (h : List Blk) (b : Nat), (goneL is h)[b]? = if b ∈ is ∧ b < h.length then some .gone else h[b]?
  | [], h, b => by simp [goneL]
  | i :: is, h, b => by
    rw [goneL, goneL_get is]
    by_cases hb : b ∈ is ∧ b < h.length
    · rw [if_pos (by simpa using hb), if_pos ⟨by simp [hb.1], hb.2⟩]
    · rw [if_neg (by simpa using hb)]
      by_cases hi : i = b
      · subst hi
        by_cases hl : i < h.length
        · rw [List.getElem?_set_self hl, if_pos ⟨by simp, hl⟩]
        · rw [if_neg (by simp [hl]), List.getElem?_eq_none (by simp; omega), List.getElem?_eq_none (by omega)]
      · rw [List.getElem?_set_ne hi, if_neg]
        rintro ⟨h1, h2⟩
        rcases List.mem_cons.1 h1 with h1 | h1
        · exact hi h1.symm
        · exact hb ⟨h1, h2⟩
theorem goneL_len : ∀ (is : List Nat) (h : List Blk), (goneL is h).length = h.length
  | [], h => rfl
  | i :: is, h => by rw [goneL, goneL_len is, List.length_set]
theorem noneL_get : ∀ (is : List Nat) (M : MM) (b : Nat), (noneL is M)[b]? = if b ∈ is ∧ b < M.length then some none else M[b]?
  | [], h, b => by simp [noneL]
  | i :: is, h, b => by
    rw [noneL, noneL_get is]
    by_cases hb : b ∈ is ∧ b < h.length
    · rw [if_pos (by simpa using hb), if_pos ⟨by simp [hb.1], hb.2⟩]
    · rw [if_neg (by simpa using hb)]
      by_cases hi : i = b
      · subst hi
        by_cases hl : i < h.length
        · rw [List.getElem?_set_self hl, if_pos ⟨by simp, hl⟩]
        · rw [if_neg (by simp [hl]), List.getElem?_eq_none (by simp; omega), List.getElem?_eq_none (by omega)]
      · rw [List.getElem?_set_ne hi, if_neg]
        rintro ⟨h1, h2⟩
        rcases List.mem_cons.1 h1 with h1 | h1
        · exact hi h1.symm
        · exact hb ⟨h1, h2⟩
theorem noneL_len : ∀ (is : List Nat) (M : MM), (noneL is M).length = M.length
  | [], h => rfl
  | i :: is, h => by rw [noneL, noneL_len is, List.length_set]
theorem O_set_none_sub : ∀ (M : MM) (i : Nat), List.Sublist (MM.O (M.set i none)) M.O
  | [], i => by simp
  | m :: M, 0 => by
    show List.Sublist (MM.O (none :: M)) _
    rw [O_cons, O_cons]
    exact List.sublist_append_right _ _
  | m :: M, i + 1 => by
    show List.Sublist (MM.O (m :: M.set i none)) _
    rw [O_cons, O_cons]
    exact List.Sublist.append_left (O_set_none_sub M i) _
theorem noneL_sub : ∀ (is : List Nat) (M : MM), List.Sublist (MM.O (noneL is M)) M.O
  | [], M => List.Sublist.refl _
  | i :: is, M => (noneL_sub is (M.set i none)).trans (O_set_none_sub M i)
section
variable {B : World} {X : List Nat} {N : Nat} {M : MM} {e : Env} {h : List Blk} {a : Act} {w w' : World}
theorem Rep.reset (R : Rep B X N M e h a w) (hx : Ext B w') {b : Nat} {m0 : Option (Nat × List Nat)} (hM : M[b]? = some m0) (hb0 : b ≠ 0) {k0 : Blk} (hk0 : h[b]? = some k0) (hl0 : k0.live = true ∨ m0 = none)
    (is ks : List Nat) (h0 : 0 ∉ is) (hbi : b ∉ is) (hsub : ∀ i ∈ is, i ∈ ks) (hisl : ∀ i ∈ is, ∀ k, h[i]? = some k → k.live = true) {m' : Option (Nat × List Nat)} (hnd : (mO m').Nodup)
    (hL : ∀ x ∈ mO m', x ∈ mO m0 ∨ (∃ i ∈ is, ∃ m, M[i]? = some m ∧ x ∈ mO m) ∨ w.heap.size ≤ x) (hLhi : ∀ x ∈ mO m', x < w'.heap.size) (hws : w.heap.size ≤ w'.heap.size)
    (hch : ∀ x, x < w.heap.size → x ∉ mO m0 → w'.heap[x]? = w.heap[x]?) {k' : Blk} (hkl : k'.live = true)
    (hkeep : b ∉ ks → ∀ g F, m0 = some (g, F) → (∃ F', m' = some (g, F')) ∧ nOf (h.set b k') b = nOf h b ∧ ∀ arr t, w.heap[g]? = some (.cells arr t (0, 0)) → ∃ arr' : Array Value, w'.heap[g]? = some (.cells arr' t (0, 0)) ∧ arr'.size = arr.size)
    (hB : ∀ M' h', (∀ x, x ∉ M.O → x < w.heap.size → x ∉ MM.O M' ∧ w'.heap[x]? = w.heap[x]?) → BRep w' M' h' k' m') :
    ∃ M', Rep B X N M' (dropE ks e) ((goneL is (dropK ks h)).set b k') a w' ∧ M'[b]? = some m' ∧ Mv (fun c => c ∉ ks) w M h w' M' ((goneL is (dropK ks h)).set b k') ∧
      ∀ x ∈ MM.O M', x ∈ mO m' ∨ ∃ c m, c ≠ b ∧ c ∉ is ∧ M[c]? = some m ∧ x ∈ mO m := by
  have hbl : b < M.length := (List.getElem?_eq_some_iff.1 hM).1
  have hlen := R.inv.len
  let M1 := noneL is M
  have hM1 : M1[b]? = some m0 := by rw [noneL_get, if_neg (fun q => hbi q.1)]; exact hM
  have hget : ∀ c m, (M1.set b m')[c]? = some m → c ≠ b → (c ∈ is ∧ m = none) ∨ (c ∉ is ∧ M[c]? = some m) := fun c m hm hc => by
    rw [List.getElem?_set_ne (Ne.symm hc), noneL_get] at hm
    split at hm
    · rename_i q; cases hm; exact .inl ⟨q.1, rfl⟩
    · rename_i q
      refine .inr ⟨fun hi => q ⟨hi, (List.getElem?_eq_some_iff.1 hm).1⟩, hm⟩
  have hrest : ∀ x, x ∈ MM.O (M1.set b none) → ∃ c m, c ≠ b ∧ c ∉ is ∧ M[c]? = some m ∧ x ∈ mO m := fun x hx => by
    obtain ⟨c, m, hm, hxm⟩ := mem_O_get hx
    by_cases hc : c = b
    · subst hc
      rw [List.getElem?_set_self (by rw [noneL_len]; exact hbl)] at hm
      cases hm
      simp [mO] at hxm
    · rw [List.getElem?_set_ne (Ne.symm hc), noneL_get] at hm
      split at hm
      · cases hm; simp [mO] at hxm
      · rename_i q
        exact ⟨c, m, hc, fun hi => q ⟨hi, (List.getElem?_eq_some_iff.1 hm).1⟩, hm, hxm⟩
  have hdisj : ∀ x ∈ mO m', x ∉ MM.O (M1.set b none) := fun x hx hr => by
    obtain ⟨c, m, c1, c2, c3, c4⟩ := hrest x hr
    rcases hL x hx with h1 | ⟨i, hi, m', h1, h2⟩ | h1
    · exact c1 (O_block_inj R.inv hM c3 h1 c4)
    · have := O_block_inj R.inv h1 c3 h2 c4
      subst this
      exact c2 hi
    · have := R.inv.hi x (mem_O c3 c4)
      omega
  have hO : ∀ x, x ∈ MM.O (M1.set b m') → x ∈ mO m' ∨ x ∈ MM.O (M1.set b none) := fun x hx => by
    have p := O_set_perm M1 b m0 m' hM1
    exact (List.mem_append.1 ((List.Perm.mem_iff p).1 hx))
  have hOsub : ∀ x, x ∈ MM.O (M1.set b m') → x ∈ M.O ∨ w.heap.size ≤ x := fun x hx => by
    rcases hO x hx with h1 | h1
    · rcases hL x h1 with h2 | ⟨i, _, m', h2, h3⟩ | h2
      · exact .inl (mem_O hM h2)
      · exact .inl (mem_O h2 h3)
      · exact .inr h2
    · obtain ⟨c, m, _, _, c3, c4⟩ := hrest x h1
      exact .inl (mem_O c3 c4)
  have hext : ∀ x, x ∉ M.O → x < w.heap.size → x ∉ MM.O (M1.set b m') ∧ w'.heap[x]? = w.heap[x]? := fun x hx hlt => by
    refine ⟨fun hc => ?_, hch x hlt fun hc => hx (mem_O hM hc)⟩
    rcases hOsub x hc with h1 | h1
    · exact hx h1
    · omega
  have hother : ∀ c m, c ≠ b → M[c]? = some m → ∀ x ∈ mO m, w'.heap[x]? = w.heap[x]? := fun c m hc hm x hx =>
    hch x (R.inv.hi x (mem_O hm hx)) fun hx0 => hc (O_block_inj R.inv hM hm hx0 hx)
  have hhl : (goneL is (dropK ks h)).length = h.length := by rw [goneL_len, dropK_len]
  have hbh : b < (goneL is (dropK ks h)).length := by rw [hhl, ← hlen]; exact hbl
  have hh : ∀ c k, ((goneL is (dropK ks h)).set b k')[c]? = some k → c ≠ b → (c ∈ is ∧ k = .gone) ∨ (c ∉ is ∧ ∃ k0, h[c]? = some k0 ∧ k = k0.drop ks) := fun c k hk hc => by
    rw [List.getElem?_set_ne (Ne.symm hc), goneL_get] at hk
    split at hk
    · rename_i q; cases hk; exact .inl ⟨q.1, rfl⟩
    · rename_i q
      have hcl : c < (dropK ks h).length := (List.getElem?_eq_some_iff.1 hk).1
      rw [dropK_get] at hk
      obtain ⟨k0, e1, e2⟩ := Option.map_eq_some_iff.1 hk
      exact .inr ⟨fun hi => q ⟨hi, hcl⟩, k0, e1, e2.symm⟩
  have hnof : ∀ c, c ∉ is → c ≠ b → nOf ((goneL is (dropK ks h)).set b k') c = nOf h c := fun c hc hcb => by
    unfold nOf
    rw [List.getElem?_set_ne (Ne.symm hcb), goneL_get, if_neg (fun q => hc q.1), dropK_get]
    cases h[c]? with
    | none => rfl
    | some k =>
      cases k with
      | gho c s g sz t =>
        simp only [Option.map_some, Blk.drop]
        cases ks.any (fun x => Nat.beq x 2) <;> rfl
      | pin c g sz t =>
        simp only [Option.map_some, Blk.drop]
        cases ks.any (fun x => Nat.beq x c) <;> rfl
      | _ => rfl
  have mv : Mv (fun c => c ∉ ks) w M h w' (M1.set b m') ((goneL is (dropK ks h)).set b k') := {
    ext := hext
    ids := fun c g F hc hm => by
      by_cases hcb : c = b
      · subst hcb
        rw [hM] at hm
        obtain ⟨⟨F', e1⟩, _, _⟩ := hkeep hc g F (Option.some.inj hm)
        exact ⟨F', by rw [← e1]; exact List.getElem?_set_self (by rw [noneL_len]; exact hbl)⟩
      · exact ⟨F, by rw [List.getElem?_set_ne (Ne.symm hcb), noneL_get, if_neg (fun q => hc (hsub c q.1))]; exact hm⟩
    row := fun c g F arr t hc hm hg => by
      by_cases hcb : c = b
      · subst hcb
        rw [hM] at hm
        obtain ⟨_, _, e3⟩ := hkeep hc g F (Option.some.inj hm)
        exact e3 arr t hg
      · exact ⟨arr, by rw [hother c _ hcb hm g (by simp [mO])]; exact hg, rfl⟩
    nof := fun c g F hc hm => by
      by_cases hcb : c = b
      · subst hcb
        rw [hM] at hm
        obtain ⟨_, e2, _⟩ := hkeep hc g F (Option.some.inj hm)
        rw [← e2]
        unfold nOf
        rw [List.getElem?_set_self hbh, List.getElem?_set_self (by rw [← hlen]; exact hbl)]
      · exact hnof c (fun hi => hc (hsub c hi)) hcb
    sz := hws }
  have hp := O_set_perm M1 b m0 m' hM1
  refine ⟨M1.set b m', ⟨hx, ⟨by simp [M1, noneL_len, goneL_len, dropK_len, hlen], fun c k m hk hm => ?_, ?_, fun c k m hk hm hl => ?_, fun x hx => ?_⟩, fun k => ?_, R.sz, R.df, ?_, ?_⟩, ?_, mv, fun x hx => (hO x hx).imp id (hrest x)⟩
  · by_cases hcb : c = b
    · subst hcb
      rw [List.getElem?_set_self hbh] at hk
      rw [List.getElem?_set_self (by rw [noneL_len]; exact hbl)] at hm
      cases hk
      cases hm
      exact hB _ _ hext
    · rcases hh c k hk hcb with ⟨_, rfl⟩ | ⟨hc, k1, hk1, rfl⟩
      · trivial
      · rcases hget c m hm hcb with ⟨q, _⟩ | ⟨_, hm'⟩
        · exact absurd q hc
        · have hbr := R.inv.blk c k1 m hk1 hm'
          cases k1 with
          | gone => trivial
          | arr n xs dp => exact BRep_mv (k := .arr n xs dp) mv trivial (hother c m hcb hm') hbr
          | box v =>
            refine BRep_mv (k := .box (dropV ks v)) mv (dropV_inS ks v) (hother c m hcb hm') ?_
            cases m with
            | none => exact hbr
            | some p =>
              obtain ⟨g, F⟩ := p
              obtain ⟨e1, arr, t, e2, e3⟩ := hbr
              exact ⟨e1, arr, t, e2, repC_dropV ks v _ e3⟩
          | gho k2 s2 g2 sz2 t2 =>
            show BRep _ _ _ (Blk.drop ks (.gho k2 s2 g2 sz2 t2)) m
            simp only [Blk.drop]
            cases hk2 : ks.any (fun x => Nat.beq x 2) with
            | true => trivial
            | false =>
              refine BRep_mv (k := .gho k2 s2 g2 sz2 t2) mv (show (2 : Nat) ∉ ks from fun hm2 => ?_) (hother c m hcb hm') hbr
              have : ks.any (fun x => Nat.beq x 2) = true := List.any_eq_true.2 ⟨2, hm2, rfl⟩
              rw [hk2] at this
              cases this
          | pin c2 g2 sz2 t2 =>
            show BRep _ _ _ (Blk.drop ks (.pin c2 g2 sz2 t2)) m
            simp only [Blk.drop]
            cases hk2 : ks.any (fun x => Nat.beq x c2) with
            | true => trivial
            | false =>
              refine BRep_mv (k := .pin c2 g2 sz2 t2) mv (show c2 ∉ ks from fun hm2 => ?_) (hother c m hcb hm') hbr
              have : ks.any (fun x => Nat.beq x c2) = true := List.any_eq_true.2 ⟨c2, hm2, Nat.beq_refl c2⟩
              rw [hk2] at this
              cases this
          | keep e2 f2 =>
            intro k
            rw [gt_drop]
            exact rep_mv mv _ _ (dropV_inS ks _) (rep_dropV ks _ _ (hbr k))
          | bld T E bs => exact BRep_mv (k := .bld T E bs) mv trivial (hother c m hcb hm') hbr
          | mp tg2 es2 => exact BRep_mv (k := .mp tg2 es2) mv trivial (hother c m hcb hm') hbr
  · refine (List.Perm.nodup_iff hp).2 (List.nodup_append.2 ⟨hnd, ?_, fun x hx y hy e => ?_⟩)
    · exact ((O_set_none_sub M1 b).trans (noneL_sub is M)).nodup R.inv.nd
    · subst e; exact hdisj x hx hy
  · intro x hx
    by_cases hcb : c = b
    · subst hcb
      rw [List.getElem?_set_self (by rw [noneL_len]; exact hbl)] at hm
      cases hm
      rcases hL x hx with h1 | ⟨i, hi, m', h1, h2⟩ | h1
      · rcases hl0 with hl0 | hl0
        · exact R.inv.lo c k0 m0 hk0 hM hl0 x h1
        · rw [hl0] at h1; simp [mO] at h1
      · obtain ⟨ki, hki⟩ := at_lt (xs := h) (k := i) (by rw [← hlen]; exact (List.getElem?_eq_some_iff.1 h1).1)
        exact R.inv.lo i ki m' hki h1 (hisl i hi ki hki) x h2
      · exact Nat.le_trans R.base h1
    · rcases hh c k hk hcb with ⟨_, rfl⟩ | ⟨hc, k1, hk1, rfl⟩
      · cases hl
      · rcases hget c m hm hcb with ⟨q, _⟩ | ⟨_, hm'⟩
        · exact absurd q hc
        · exact R.inv.lo c k1 m hk1 hm' (by cases k1 <;> first | rfl | cases hl) x hx
  · rcases hO x hx with h1 | h1
    · exact hLhi x h1
    · obtain ⟨c, m, _, _, c3, c4⟩ := hrest x h1
      exact Nat.lt_of_lt_of_le (R.inv.hi x (mem_O c3 c4)) hws
  · rw [gt_drop]
    exact rep_mv mv _ _ (dropV_inS ks _) (rep_dropV ks _ _ (R.env k))
  · rw [List.getElem?_set_ne hb0, noneL_get, if_neg (fun q => h0 q.1)]
    exact R.fr
  · rw [List.getElem?_set_ne hb0, goneL_get, if_neg (fun q => h0 q.1), dropK_get, R.fh]
    rfl
  · exact List.getElem?_set_self (by rw [noneL_len]; exact hbl)
theorem Rep.room (R : Rep B X N M e h a w) : Rep B X N (M ++ [none]) e (h ++ [.gone]) a w := by
  have hO : MM.O [none] = [] := rfl
  have mv : Mv (fun _ => True) w M h w (M ++ [none]) (h ++ [.gone]) := push_mv R.inv.len (Ext.refl w) R.inv.hi (by rw [hO]; simp)
  refine R.step R.ext (R.inv.push R.base (Ext.refl w) rfl (by rw [hO]; simp) (by rw [hO]; simp) (by rw [hO]; simp) ?_) mv (fr_push R.fr _) (fr_push R.fh _)
  intro b k m hk hm
  cases b with
  | zero => simp at hk; subst hk; trivial
  | succ b => simp at hk
end
structure TkW (off len : Nat) (xs : List D) (K : Prop) : Prop where
  ex : off = 0 ∧ len = xs.length ∧ K
structure MkW (n c : Int) (bytes : Nat) (K : Nat → Prop) : Prop where
  ex : 0 ≤ n ∧ n ≤ c ∧ bytes * c ≤ 2 ^ 48 ∧ K n.toNat
structure ApW (n bytes : Nat) (K : Prop) : Prop where
  ex : n ≤ maxLen ∧ n * bytes ≤ 140737488355328 ∧ K
structure OffW (off len n : Nat) (K : Prop) : Prop where
  ex : off = 0 ∧ len ≤ n ∧ K
structure FlW (xs : List D) (n : Nat) (K K' : Prop) : Prop where
  ex : ((∀ y ∈ xs, y.flat = true ∧ y.size = n) ∧ K) ∨ ((∀ y ∈ xs, y.size = n) ∧ K')
mutual
def tkV (h : List Blk) : V → (D → List Nat → Prop) → Prop
  | .d x, K => bif x.flat then K x [] else False
  | .nils, K => K (.lst []) []
  | .own b off len, K => match h[b]? with
    | some (.arr _ xs true) => TkW off len xs (K (.lst xs) [b])
    | _ => False
  | .st fs, K => tkVs h fs fun ys is => K (.st ys) is
  | .top, _ => False
  | .undef, _ => False
  | .nilp, _ => False
  | .pB _ _ _, _ => False
  | .pL _ _ _ _, _ => False
  | .pX _, _ => False
  | .fn _ _, _ => False
  | .tup _, _ => False
def tkVs (h : List Blk) : List V → (List D → List Nat → Prop) → Prop
  | [], K => K [] []
  | f :: fs, K => tkV h f fun y i1 => tkVs h fs fun ys i2 => K (y :: ys) (i1 ++ i2)
end
def nodupB : List Nat → Bool
  | [] => true
  | i :: is => !is.any (Nat.beq i) && nodupB is
theorem nodupB_spec : ∀ is : List Nat, nodupB is = true → is.Nodup
  | [], _ => List.nodup_nil
  | i :: is, h => by
    simp only [nodupB, Bool.and_eq_true, Bool.not_eq_true', List.any_eq_false] at h
    refine List.nodup_cons.2 ⟨fun hm => ?_, nodupB_spec is h.2⟩
    exact h.1 i hm (Nat.beq_refl i)
section
variable {w : World} {arr arr' : Array Value} {n : Nat} {O : List Nat}
theorem ownDe_app : ∀ (xs ys : List D) (i : Nat) (F : List Nat), ownDe w arr n (xs ++ ys) i F ↔ ∃ F1 F2, F = F1 ++ F2 ∧ ownDe w arr n xs i F1 ∧ ownDe w arr n ys (i + xs.length) F2
  | [], ys, i, F => by
    constructor
    · intro h; exact ⟨[], F, rfl, rfl, h⟩
    · rintro ⟨F1, F2, rfl, h1, h2⟩
      cases h1
      exact h2
  | x :: xs, ys, i, F => by
    constructor
    · rintro ⟨G1, G2, ces, rfl, h1, h2, h3, h4⟩
      obtain ⟨F1, F2, rfl, k1, k2⟩ := (ownDe_app xs ys (i + 1) G2).1 h4
      exact ⟨G1 ++ F1, F2, by simp, ⟨G1, F1, ces, rfl, h1, h2, h3, k1⟩, by rw [show i + (x :: xs).length = i + 1 + xs.length by simp; omega]; exact k2⟩
    · rintro ⟨F1, F2, rfl, ⟨G1, G2, ces, rfl, h1, h2, h3, h4⟩, k2⟩
      refine ⟨G1, G2 ++ F2, ces, by simp, h1, h2, h3, (ownDe_app xs ys (i + 1) (G2 ++ F2)).2 ⟨G2, F2, rfl, h4, ?_⟩⟩
      rw [show i + 1 + xs.length = i + (x :: xs).length by simp; omega]; exact k2
theorem ownDe_at : ∀ (ys : List D) (i i' : Nat) (F : List Nat), (∀ k, k < ys.length → ∀ j, j < n → arr'[(i' + k) * n + j]? = arr[(i + k) * n + j]?) → ownDe w arr n ys i F → ownDe w arr' n ys i' F
  | [], i, i', F, _, h => h
  | y :: ys, i, i', F, H, h => by
    obtain ⟨F1, F2, ces, rfl, h1, h2, h3, h4⟩ := h
    refine ⟨F1, F2, ces, rfl, h1, fun j v hj => ?_, h3, ownDe_at ys (i + 1) (i' + 1) F2 (fun k hk j hj => ?_) h4⟩
    · have hjl : j < n := by
        rw [← h1, ← repD_len y ces (ownD_rep (O := []) y F1 ces (by simp) h3)]
        exact (List.getElem?_eq_some_iff.1 hj).1
      have := H 0 (by simp) j hjl
      rw [Nat.add_zero, Nat.add_zero] at this
      rw [this]
      exact h2 j v hj
    · have := H (k + 1) (by simpa using hk) j hj
      rw [show i' + (k + 1) = i' + 1 + k by omega, show i + (k + 1) = i + 1 + k by omega] at this
      exact this
theorem extDe_app : ∀ (xs ys : List D) (i : Nat), extDe O w arr n (xs ++ ys) i ↔ extDe O w arr n xs i ∧ extDe O w arr n ys (i + xs.length)
  | [], ys, i => by simp [extDe]
  | x :: xs, ys, i => by
    simp only [List.cons_append, extDe, extDe_app xs ys (i + 1), List.length_cons]
    rw [show i + 1 + xs.length = i + (xs.length + 1) by omega]
    exact and_assoc.symm
theorem extDe_at : ∀ (ys : List D) (i i' : Nat), (∀ k, k < ys.length → ∀ j, j < n → arr'[(i' + k) * n + j]? = arr[(i + k) * n + j]?) → extDe O w arr n ys i → extDe O w arr' n ys i'
  | [], i, i', _, h => h
  | y :: ys, i, i', H, ⟨⟨ces, h1, h2, h3⟩, h4⟩ => by
    refine ⟨⟨ces, h1, fun j v hj => ?_, h3⟩, extDe_at ys (i + 1) (i' + 1) (fun k hk j hj => ?_) h4⟩
    · have hjl : j < n := by
        rw [← h1, ← repD_len y ces h3]
        exact (List.getElem?_eq_some_iff.1 hj).1
      have := H 0 (by simp) j hjl
      rw [Nat.add_zero, Nat.add_zero] at this
      rw [this]
      exact h2 j v hj
    · have := H (k + 1) (by simpa using hk) j hj
      rw [show i' + (k + 1) = i' + 1 + k by omega, show i + (k + 1) = i + 1 + k by omega] at this
      exact this
theorem ext_own : ∀ (ys : List D) (i : Nat), (∀ y ∈ ys, y.flat = true) → extDe O w arr n ys i → ownDe w arr n ys i []
  | [], i, _, _ => rfl
  | y :: ys, i, hf, ⟨⟨ces, h1, h2, h3⟩, h4⟩ => ⟨[], [], ces, rfl, h1, h2, flat_own y ces (hf y (by simp)) h3, ext_own ys (i + 1) (fun z hz => hf z (by simp [hz])) h4⟩
theorem repDe_row {b o : Nat} : ∀ (xs : List D) (i : Nat), repDe O w (some ⟨b, o, none⟩) n xs i →
    ∃ news : List Value, news.length = xs.length * n ∧ (∀ (j : Nat) (v : Value), news[j]? = some v → w.cell? ⟨b, o + i * n + j, none⟩ = some v) ∧ (∀ c ∈ news, c.oneCell' = true) ∧ extDe O w news.toArray n xs 0
  | [], i, _ => ⟨[], by simp, by simp, by simp, trivial⟩
  | x :: xs, i, ⟨⟨b', o', ces, e, h1, h2, h3, h4, h5⟩, h6⟩ => by
    cases e
    obtain ⟨news, k1, k2, k3, k4⟩ := repDe_row xs (i + 1) h6
    have hl := repD_len x ces h5
    refine ⟨ces ++ news, by simp [hl, h4, k1, Nat.succ_mul]; omega, fun j v hj => ?_, fun c hc => ?_, ⟨ces, h4, fun j v hj => ?_, h5⟩, ?_⟩
    · rcases Nat.lt_or_ge j ces.length with hlt | hge
      · rw [List.getElem?_append_left hlt] at hj
        exact h3 j v hj
      · rw [List.getElem?_append_right hge] at hj
        have := k2 _ v hj
        rw [show o + (i + 1) * n + (j - ces.length) = o + i * n + j by rw [Nat.succ_mul]; omega] at this
        exact this
    · rcases List.mem_append.1 hc with hc | hc
      · exact repD_one x ces h5 c hc
      · exact k3 c hc
    · have hlt : j < ces.length := (List.getElem?_eq_some_iff.1 hj).1
      simp [List.getElem?_append_left hlt, hj]
    · refine extDe_at xs 0 1 (fun k hk j hj => ?_) k4
      simp only [List.getElem?_toArray]
      rw [Nat.zero_add, List.getElem?_append_right (by rw [Nat.add_mul]; omega)]
      congr 1
      rw [Nat.add_mul, hl, h4]; omega
end
theorem mO_nodup' {B : Nat} {w : World} {M : MM} {h : List Blk} (hI : MInv B w M h) {b : Nat} {m : Option (Nat × List Nat)} (hm : M[b]? = some m) : (mO m).Nodup :=
  (List.nodup_append.1 ((List.Perm.nodup_iff (O_perm hm)).1 hI.nd)).1
section
variable {B : World} {X : List Nat} {N : Nat} {M : MM} {e : Env} {h : List Blk} {a : Act} {w : World}
mutual
theorem tk_sound {B : Nat} (hI : MInv B w M h) : ∀ (v : V) (cs : List Value) (K : D → List Nat → Prop), tkV h v K → repC w M h v cs →
    ∃ y is F, K y is ∧ ownD w y F cs ∧ y.size = v.size ∧ (is.Nodup → F.Nodup) ∧ (∀ x ∈ F, ∃ i ∈ is, ∃ m, M[i]? = some m ∧ x ∈ mO m) ∧ (∀ i ∈ is, ∃ n xs, h[i]? = some (.arr n xs true))
  | .d x, cs, K, H, R => by
    simp only [tkV] at H
    cases hf : x.flat with
    | false => rw [hf] at H; exact H.elim
    | true =>
      rw [hf] at H
      exact ⟨x, [], [], H, flat_own x cs hf R, rfl, fun _ => by simp, by simp, by simp⟩
  | .nils, cs, K, H, R => by
    cases R
    exact ⟨.lst [], [], [], H, ⟨none, 0, rfl, Nat.le_refl _, Nat.zero_le _, fun _ => rfl, .inl ⟨rfl, rfl, rfl⟩⟩, rfl, fun _ => by simp, by simp, by simp⟩
  | .own b off len, cs, K, H, R => by
    simp only [tkV] at H
    split at H
    · rename_i n xs hk
      obtain ⟨⟨rfl, rfl, H⟩⟩ := H
      obtain ⟨cv, rfl, aa, cap, rfl, h1, h2, h3, h4⟩ := R
      rcases h4 with h4 | ⟨g, F, arr, t, m1, rfl, m3, m4⟩
      · have : xs = [] := List.eq_nil_of_length_eq_zero (by omega)
        subst this
        exact ⟨_, [b], [], H, ⟨aa, cap, rfl, h1, h2, h3, .inl ⟨rfl, rfl, h4⟩⟩, rfl, fun _ => by simp, by simp, by simp [hk]⟩
      · obtain ⟨arr', t', k1, k2, k3⟩ := hI.blk b _ _ hk m1
        rw [m3] at k1
        cases k1
        rw [if_pos rfl] at k3
        have hn : nOf h b = n := by simp [nOf, hk]
        rw [hn, Nat.zero_add] at m4
        refine ⟨_, [b], g :: F, H, ⟨_, cap, rfl, h1, h2, h3, .inr ⟨g, arr, t, n, F, by simp, m3, m4, rfl, k3⟩⟩, rfl, fun _ => ?_, fun x hx => ⟨b, by simp, _, m1, hx⟩, by simp [hk]⟩
        exact mO_nodup' hI m1
    · exact H.elim
  | .st fs, cs, K, H, R => by
    obtain ⟨ys, is, F, k1, k2, k3, k4, k5, k6⟩ := tks_sound hI fs cs _ H R
    exact ⟨_, is, F, k1, k2, k3, k4, k5, k6⟩
  | .top, _, _, H, _ => H.elim
  | .undef, _, _, H, _ => H.elim
  | .nilp, _, _, H, _ => H.elim
  | .pB _ _ _, _, _, H, _ => H.elim
  | .pL _ _ _ _, _, _, H, _ => H.elim
  | .pX _, _, _, H, _ => H.elim
  | .fn _ _, _, _, H, _ => H.elim
  | .tup _, _, _, H, _ => H.elim
theorem tks_sound {B : Nat} (hI : MInv B w M h) : ∀ (vs : List V) (cs : List Value) (K : List D → List Nat → Prop), tkVs h vs K → repCs w M h vs cs →
    ∃ ys is F, K ys is ∧ ownDs w ys F cs ∧ D.sizes ys = V.sizes vs ∧ (is.Nodup → F.Nodup) ∧ (∀ x ∈ F, ∃ i ∈ is, ∃ m, M[i]? = some m ∧ x ∈ mO m) ∧ (∀ i ∈ is, ∃ n xs, h[i]? = some (.arr n xs true))
  | [], cs, K, H, R => ⟨[], [], [], H, ⟨rfl, R⟩, rfl, fun _ => by simp, by simp, by simp⟩
  | v :: vs, cs, K, H, R => by
    obtain ⟨c1, c2, e, r1, r2⟩ := R
    obtain ⟨y, i1, F1, H1, k2, k3, k4, k5, k6⟩ := tk_sound hI v c1 _ H r1
    obtain ⟨ys, i2, F2, H2, l2, l3, l4, l5, l6⟩ := tks_sound hI vs c2 _ H1 r2
    refine ⟨y :: ys, i1 ++ i2, F1 ++ F2, H2, ⟨F1, F2, c1, c2, rfl, e, k2, l2⟩, by simp only [D.sizes, V.sizes, k3, l3], fun hn => ?_, fun x hx => ?_, fun i hi => ?_⟩
    · obtain ⟨n1, n2, n3⟩ := List.nodup_append.1 hn
      refine List.nodup_append.2 ⟨k4 n1, l4 n2, fun x hx y hy e => ?_⟩
      subst e
      obtain ⟨i, hi, m, hm, hxm⟩ := k5 x hx
      obtain ⟨j, hj, m', hm', hxm'⟩ := l5 x hy
      have := O_block_inj hI hm hm' hxm hxm'
      subst this
      exact n3 _ hi _ hj rfl
    · rcases List.mem_append.1 hx with hx | hx
      · obtain ⟨i, hi, r⟩ := k5 x hx
        exact ⟨i, by simp [hi], r⟩
      · obtain ⟨i, hi, r⟩ := l5 x hx
        exact ⟨i, by simp [hi], r⟩
    · rcases List.mem_append.1 hi with hi | hi
      · exact k6 i hi
      · exact l6 i hi
end
end
theorem Rep.newRow {B : World} {X : List Nat} {N : Nat} {M : MM} {e : Env} {h : List Blk} {a : Act} {w w1 : World} (R : Rep B X N M e h a w) {arr : Array Value} {t : TypeId} {n cap : Nat} {xs : List D} {dp : Bool} {is ks : List Nat} {F : List Nat}
    (hw1 : Ext w w1) (hw1s : w1.heap.size = w.heap.size) (hsz : arr.size = cap * n) (hle : xs.length ≤ cap) (hcap : cap ≤ maxLen) (hsub : ∀ i ∈ is, i ∈ ks) (hF : F.Nodup) (hFm : ∀ x ∈ F, ∃ i ∈ is, ∃ m, M[i]? = some m ∧ x ∈ mO m)
    (hisl : ∀ i ∈ is, ∃ k, h[i]? = some k ∧ k.live = true)
    (hel : if dp = true then ownDe w arr n xs 0 F else F = [] ∧ extDe M.O w arr n xs 0) :
    ∃ M', Rep B X N M' (dropE ks e) ((goneL is (dropK ks (h ++ [.gone]))).set h.length (.arr n xs dp)) a (w1.alloc (.cells arr t)) ∧
      rep (w1.alloc (.cells arr t)) M' ((goneL is (dropK ks (h ++ [.gone]))).set h.length (.arr n xs dp)) (.own h.length 0 xs.length) (.slice (some ⟨w1.heap.size, 0, none⟩) xs.length cap) := by
  have R1 := R.room
  have h0 : 0 < h.length := (List.getElem?_eq_some_iff.1 R.fh).1
  have hisn : ∀ i ∈ is, i ≠ 0 ∧ i < h.length := fun i hi => by
    obtain ⟨k, hk, hl⟩ := hisl i hi
    refine ⟨fun e => ?_, (List.getElem?_eq_some_iff.1 hk).1⟩
    subst e
    rw [R.fh] at hk
    cases hk
    cases hl
  have hMl : (M ++ [none])[h.length]? = some none := by
    rw [← R.inv.len, List.getElem?_append_right (Nat.le_refl _)]; simp
  have hx : Ext w (w1.alloc (.cells arr t)) := hw1.alloc _
  have hnew : (w1.alloc (.cells arr t)).heap[w1.heap.size]? = some (.cells arr t (0, 0)) := heap_new w1 _
  have key : ∀ (M' : MM) (h' : List Blk), (∀ x, x ∉ MM.O (M ++ [none]) → x < w.heap.size → x ∉ MM.O M' ∧ (w1.alloc (.cells arr t)).heap[x]? = w.heap[x]?) → BRep (w1.alloc (.cells arr t)) M' h' (.arr n xs dp) (some (w1.heap.size, F)) := by
    intro M' h' hext
    refine ⟨arr, t, hnew, by rw [hsz]; exact Nat.mul_le_mul_right _ hle, ?_⟩
    cases dp with
    | true =>
      rw [if_pos rfl] at hel ⊢
      exact ownDe_mv arr n xs 0 F (fun x hxm => hx.below.block x (by
        obtain ⟨i, hi, m, hm, hxm⟩ := hFm x hxm
        exact R.inv.hi x (mem_O hm hxm))) hel
    | false =>
      rw [if_neg (by simp)] at hel ⊢
      refine ⟨hel.1, extDe_mv (fun b hb hlt => ?_) xs 0 hel.2⟩
      have := hext b (by rw [O_app]; simpa [MM.O, mO] using hb) hlt
      exact this
  obtain ⟨M', R', hM', mv, -⟩ := R1.reset (R.ext.trans hx) (w' := w1.alloc (.cells arr t)) (b := h.length) (m0 := none) hMl (by omega) (k0 := .gone) (by rw [List.getElem?_append_right (Nat.le_refl _)]; simp) (.inr rfl) is ks
    (fun hi => (hisn 0 hi).1 rfl) (fun hi => by have := (hisn _ hi).2; omega) hsub (fun i hi k hk => by
      obtain ⟨k1, hk1, hl⟩ := hisl i hi
      rw [List.getElem?_append_left (hisn i hi).2, hk1] at hk
      cases hk
      exact hl) (m' := some (w1.heap.size, F))
    (List.nodup_cons.2 ⟨fun hm => by
      obtain ⟨i, _, m, hm, hx⟩ := hFm _ hm
      have := R.inv.hi _ (mem_O hm hx)
      omega, hF⟩)
    (fun x hx => by
      rcases List.mem_cons.1 hx with rfl | hx
      · exact .inr (.inr (by omega))
      · obtain ⟨i, hi, m, hm, hxm⟩ := hFm x hx
        exact .inr (.inl ⟨i, hi, m, get_app_left hm, hxm⟩))
    (fun x hx => by
      rcases List.mem_cons.1 hx with rfl | hx
      · simp
      · obtain ⟨i, hi, m, hm, hxm⟩ := hFm x hx
        have := R.inv.hi x (mem_O hm hxm)
        simp; omega)
    (by simp; omega) (fun x hlt _ => hx.below.block x hlt) (k' := .arr n xs dp) rfl (fun _ g F hm => by cases hm) key
  · refine ⟨M', R', rep_own.2 ⟨_, cap, rfl, hle, hcap, (fun q => by cases q), .inr ⟨w1.heap.size, F, arr, t, hM', ?_, hnew, ?_⟩⟩⟩
    · rw [Nat.zero_mul]
    · have hn : nOf ((goneL is (dropK ks (h ++ [.gone]))).set h.length (.arr n xs dp)) h.length = n := by
        unfold nOf
        rw [List.getElem?_set_self (by rw [goneL_len, dropK_len]; simp)]
      rw [hn, hsz, Nat.zero_add]
      exact Nat.le_refl _
theorem set_last {α : Type} (h : List α) (x y : α) : (h ++ [x]).set h.length y = h ++ [y] := by
  induction h with
  | nil => rfl
  | cons a h ih => simp [ih]
def makeV (tt : TT) (t : Nat) (len cap : V) (h : List Blk) (K : V → List Blk → Prop) : Prop :=
  match tt t, len, cap with
  | some { kind := .sl e, .. }, .d (.int .i64 n), .d (.int .i64 c) => match tt e with
    | some ie => match zD ie.zero with
      | some z => MkW n c ie.bytes fun k => K (.own h.length 0 k) (h ++ [.arr ie.size (List.replicate k z) true])
      | none => False
    | none => False
  | _, _, _ => False
def inOrd : List (Nat × Operand) → Nat → Bool
  | [], _ => true
  | (i, _) :: ps, j => Nat.beq i j && inOrd ps (j + 1)
def partOps : List (Nat × Operand) → List Operand
  | [] => []
  | (_, x) :: ps => x :: partOps ps
def sizesB (n : Nat) : List V → Bool
  | [] => true
  | v :: vs => v.okc && Nat.beq v.size n && sizesB n vs
mutual
def V.tkB : V → Bool
  | .d x => x.flat
  | .nils => true
  | .own _ _ _ => true
  | .st fs => V.tksB fs
  | .top => false
  | .undef => false
  | .nilp => false
  | .pB _ _ _ => false
  | .pL _ _ _ _ => false
  | .pX _ => false
  | .fn _ _ => false
  | .tup _ => false
def V.tksB : List V → Bool
  | [] => true
  | v :: vs => v.tkB && V.tksB vs
end
def ownIs : List V → List Nat
  | [] => []
  | .own b _ _ :: vs => b :: ownIs vs
  | _ :: vs => ownIs vs
def exDs : List V → Option (List D)
  | [] => some []
  | .d x :: vs => match exDs vs with
    | some ys => some (x :: ys)
    | none => none
  | _ :: _ => none
def litV (tt : TT) (t len : Nat) (parts : List (Nat × Operand)) (e : Env) (h : List Blk) (K : V → Env → List Blk → Prop) : Prop :=
  match tt t with
  | some { kind := .sl el, .. } => match tt el with
    | some ie => bif inOrd parts 0 && Nat.beq parts.length len && Nat.ble (len * ie.size) 16777216 && sizesB ie.size (evs e (partOps parts)) && Nat.ble 1 ie.size then
        (bif V.tksB (evs e (partOps parts)) && nodupB (ownIs (evs e (partOps parts))) then tkVs h (evs e (partOps parts)) fun ys is => bif nodupB is then K (.own h.length 0 len) (dropE is e) ((goneL is (dropK is (h ++ [.gone]))).set h.length (.arr ie.size ys true)) else False
        else match exDs (evs e (partOps parts)) with
          | some ys => K (.own h.length 0 len) e (h ++ [.arr ie.size ys false])
          | none => bif Nat.beq ie.size 1 then K (.own h.length 0 len) e (h ++ [.box (.st (evs e (partOps parts)))]) else False)
      else False
    | none => False
  | _ => False
theorem rep_live {h : List Blk} {is : List Nat} (H : ∀ i ∈ is, ∃ n xs, h[i]? = some (Blk.arr n xs true)) : ∀ i ∈ is, ∃ k, h[i]? = some k ∧ k.live = true := fun i hi => by
  obtain ⟨n, xs, hk⟩ := H i hi
  exact ⟨_, hk, rfl⟩
section
variable {P : Program} {tt : TT} {B : World} {X : List Nat} {N : Nat} {M : MM} {e : Env} {h : List Blk} {a : Act} {w : World}
theorem make_sound (hT : TOk P tt) (R : Rep B X N M e h a w) {t : Nat} {len cap : V} {cl cc : Value} (hl : rep w M h len cl) (hc : rep w M h cap cc) {K : V → List Blk → Prop} (H : makeV tt t len cap h K) :
    ∃ v cv h' M' w', K v h' ∧ (Instr.makeSlice t cl cc).run P w = .ok cv w' ∧ Ext w w' ∧ Rep B X N M' e h' a w' ∧ rep w' M' h' v cv := by
  unfold makeV at H
  split at H
  · rename_i el sz by' zr eq0 n c hti
    obtain ⟨fi, d, z, h1, h2, h3, h4, h5, h6, h7, h8, h9⟩ := (hT t _ hti).ex
    cases d <;> first
      | exact (h6 : False).elim
      | skip
    cases (h6 : _ = el)
    split at H
    · rename_i ie hie
      obtain ⟨fe, de, ze, e1, e2, e3, e4, e5, e6, e7, e8, e9⟩ := (hT _ _ hie).ex
      split at H
      · rename_i zd hz
        obtain ⟨⟨k1, k2, k3, H⟩⟩ := H
        obtain ⟨rfl, i1⟩ := rep_int.1 hl
        obtain ⟨rfl, i2⟩ := rep_int.1 hc
        have zr1 := rep1_cells (e7 w M h)
        obtain ⟨z1, z2⟩ := zD_own _ zd _ hz zr1
        have zsz : ze.cells.toList.length = ie.size := by rw [Array.length_toList]; exact e8
        have zds : zd.size = ie.size := by
          rw [z2, ← repC_len _ _ zr1, zsz]
        have hw1 : IntKind.i64.wrap n = n := IntWalk.i64_in _ (by have := i1.1; have := i1.2; simp only [IntKind.min, IntKind.max, IntKind.bits, IntKind.signed, if_true] at *; omega)
        have hw2 : IntKind.i64.wrap c = c := IntWalk.i64_in _ (by have := i2.1; have := i2.2; simp only [IntKind.min, IntKind.max, IntKind.bits, IntKind.signed, if_true] at *; omega)
        have hcm : c.toNat ≤ maxLen := by
          have := i2.2
          simp only [IntKind.max, IntKind.bits, IntKind.signed, if_true] at this
          unfold maxLen
          omega
        let arr : Array Value := (Array.range (c.toNat * ie.size)).map (ze.cells[· % ze.cells.size]!)
        have hat : ∀ k j, k < c.toNat → j < ie.size → arr[k * ie.size + j]? = ze.cells[j]? := fun k j hk hj => by
          have hlt : k * ie.size + j < c.toNat * ie.size := by
            have := Nat.mul_le_mul_right ie.size (Nat.succ_le_of_lt hk)
            rw [Nat.succ_mul] at this
            omega
          have hm : (k * ie.size + j) % ze.cells.size = j := by
            rw [e8, Nat.add_comm, Nat.add_mul_mod_self_right, Nat.mod_eq_of_lt hj]
          have hj' : j < ze.cells.size := by omega
          simp [arr, hlt, hm, hj']
        have hown : ∀ (m i : Nat), i + m ≤ c.toNat → ownDe w arr ie.size (List.replicate m zd) i [] := by
          intro m
          induction m with
          | zero => intro i _; rfl
          | succ m ih =>
            intro i hi
            refine ⟨[], [], ze.cells.toList, rfl, zds, fun j v hj => ?_, z1, ih (i + 1) (by omega)⟩
            have hjl : j < ie.size := by rw [← zsz]; exact (List.getElem?_eq_some_iff.1 hj).1
            rw [hat i j (by omega) hjl, ← Array.getElem?_toList]
            exact hj
        obtain ⟨M', R', hv⟩ := R.newRow (arr := arr) (t := el) (n := ie.size) (cap := c.toNat) (xs := List.replicate n.toNat zd) (dp := true) (is := []) (ks := []) (F := []) (w1 := w) (Ext.refl w) rfl (by simp [arr]) (by simp; omega) hcm (by simp) (by simp) (by simp) (by simp)
          (by rw [if_pos rfl]; exact hown n.toNat 0 (by omega))
        simp only [dropE, dropK, goneL, set_last, List.length_replicate] at R' hv
        refine ⟨_, _, _, M', _, H, ?_, ext_alloc w _, R', hv⟩
        have t1 : ¬ (c < 0 ∨ 2 ^ 48 < ie.bytes * c) := by omega
        simp only [Instr.makeSlice, Sem.run_bind, run_underlying h5, Result.andThen_ok, asInt, asIntOf, Sem.run_pure, typeInfo, run_program, e1, hw1, hw2, e3]
        rw [if_neg]
        · simp only [Sem.run_bind, run_askRoom, Result.andThen_ok, sizeOf, typeInfo, run_program, e1, Sem.run_pure, e2, zeroValue, e4]
          by_cases h0 : c.toNat * ie.size = 0
          · simp only [h0, if_true, Sem.run_pure, Result.andThen_ok, newRow, Sem.run_bind, run_newObj]
            have : arr = #[] := by
              apply Array.eq_empty_of_size_eq_zero
              simp [arr, h0]
            rw [this]
            have hr0 : Array.range 0 = #[] := rfl
            simp [World.alloc_eq, hr0]
            try rfl
          · simp only [h0, if_false, Sem.run_bind, run_program, Result.andThen_ok, e1, Sem.run_pure, e4, newRow, run_newObj]
            rfl
        · simp only [Bool.or_eq_true, decide_eq_true_eq, gt_iff_lt, not_or]
          refine ⟨⟨?_, by omega⟩, by omega⟩
          omega
      · exact H.elim
    · exact H.elim
  · exact H.elim
theorem evs_repC (R : Rep B X N M e h a w) {n : Nat} : ∀ (xs : List Operand), (∀ x ∈ xs, cOK x = true) → sizesB n (evs e xs) = true →
    ∃ css : List (List Value), (xs.map a.eval).map (fun v => v.cells.toList) = css ∧ (∀ cs ∈ css, cs.length = n) ∧ repCs w M h (evs e xs) css.flatten
  | [], _, _ => ⟨[], rfl, by simp, rfl⟩
  | x :: xs, hc, hs => by
    simp only [evs, sizesB, Bool.and_eq_true, nbeq] at hs
    obtain ⟨css, k1, k2, k3⟩ := evs_repC R xs (fun y hy => hc y (by simp [hy])) hs.2
    have h1 := rep1_cells (rep1_of_rep hs.1.1 (ev_rep R.env x (hc x (by simp))))
    refine ⟨(a.eval x).cells.toList :: css, by simp [k1], fun cs hm => ?_, ⟨_, _, rfl, h1, k3⟩⟩
    rcases List.mem_cons.1 hm with rfl | hm
    · rw [repC_len _ _ h1]; exact hs.1.2
    · exact k2 cs hm
theorem fill_row {n : Nat} : ∀ (vs : List Value) (j : Nat) (done : List Value) (rest : List Value) (zs : List Value), done.length = j * n → (∀ v ∈ vs, v.cells.size = n) → zs.length = vs.length * n →
    Instr.fill (fun i => some (i * n, n)) (done ++ zs ++ rest).toArray ((List.range' j vs.length).zip vs) = some (done ++ (vs.map fun v => v.cells.toList).flatten ++ rest).toArray
  | [], j, done, rest, zs, hd, _, hz => by
    have : zs = [] := List.eq_nil_of_length_eq_zero (by simpa using hz)
    subst this
    simp [Instr.fill]
  | v :: vs, j, done, rest, zs, hd, hs, hz => by
    have hv := hs v (by simp)
    have hvl : v.cells.toList.length = n := by rw [Array.length_toList, hv]
    simp only [List.length_cons, Nat.succ_mul] at hz
    simp only [List.length_cons, List.range'_succ, List.zip_cons_cons, Instr.fill]
    rw [if_neg]
    · have hput : ∀ (cs : List Value) (k : Nat) (d z r : List Value), d.length = j * n + k → z.length = cs.length → (cs.zipIdx k).foldl (fun (acc : Array Value) (p : Value × Nat) => acc.setIfInBounds (j * n + p.2) p.1) (d ++ z ++ r).toArray = (d ++ cs ++ r).toArray := by
        intro cs
        induction cs with
        | nil => intro k d z r _ hz; have : z = [] := List.eq_nil_of_length_eq_zero (by simpa using hz); subst this; simp
        | cons c cs ih =>
          intro k d z r hd hz
          cases z with
          | nil => simp at hz
          | cons z0 z =>
            simp only [List.zipIdx_cons, List.foldl_cons]
            have : (d ++ (z0 :: z) ++ r).toArray.setIfInBounds (j * n + k) c = ((d ++ [c]) ++ z ++ r).toArray := by
              apply Array.ext'
              simp only [Array.toList_setIfInBounds, List.append_assoc]
              rw [← hd]
              simp
            rw [this, ih (k + 1) (d ++ [c]) z r (by simp [hd]; omega) (by simpa using hz)]
            simp
      have hsplit : zs = zs.take n ++ zs.drop n := (List.take_append_drop n zs).symm
      have e1 : v.cells.zipIdx.foldl (fun cs (x : Value × Nat) => cs.setIfInBounds (j * n + x.2) x.1) (done ++ zs ++ rest).toArray = (done ++ v.cells.toList ++ (zs.drop n ++ rest)).toArray := by
        rw [← Array.foldl_toList, Array.toList_zipIdx]
        have := hput v.cells.toList 0 done (zs.take n) (zs.drop n ++ rest) (by simpa using hd) (by rw [List.length_take, hvl]; omega)
        have es : done ++ zs.take n ++ (zs.drop n ++ rest) = done ++ zs ++ rest := by
          simp only [List.append_assoc]
          rw [← List.append_assoc (zs.take n), List.take_append_drop]
        rw [es] at this
        exact this
      have e2 := fill_row vs (j + 1) (done ++ v.cells.toList) rest (zs.drop n) (by rw [List.length_append, hvl, hd, Nat.succ_mul]) (fun u hu => hs u (by simp [hu])) (by rw [List.length_drop]; omega)
      have e3 : (done ++ v.cells.toList ++ (zs.drop n ++ rest)) = (done ++ v.cells.toList ++ zs.drop n ++ rest) := by simp
      rw [e3] at e1
      have e4 : (v.cells.zipIdx.foldl (fun cs (x : Value × Nat) => match x with | (c, k) => cs.setIfInBounds (j * n + k) c) (done ++ zs ++ rest).toArray) = (done ++ v.cells.toList ++ zs.drop n ++ rest).toArray := e1
      rw [e4, e2]
      simp
    · simp only [Bool.or_eq_true, decide_eq_true_eq, ne_eq, not_or, Decidable.not_not, gt_iff_lt]
      refine ⟨hv, ?_⟩
      simp only [List.size_toArray, List.length_append]
      omega
theorem ownDs_row {n : Nat} : ∀ (ys : List D) (css : List (List Value)) (F : List Nat), (∀ cs ∈ css, cs.length = n) → (∀ y ∈ ys, y.size = n) → ownDs w ys F css.flatten → ys.length = css.length → ownDe w css.flatten.toArray n ys 0 F
  | [], css, F, _, _, H, hl => by
    cases css with
    | nil => exact H.1
    | cons _ _ => simp at hl
  | y :: ys, [], F, _, _, _, hl => by simp at hl
  | y :: ys, cs :: css, F, hc, hs, H, hl => by
    obtain ⟨F1, F2, c1, c2, rfl, e, h1, h2⟩ := H
    have l1 := repD_len y c1 (ownD_rep (O := []) y F1 c1 (by simp) h1)
    have l2 := hs y (by simp)
    have l3 := hc cs (by simp)
    rw [List.flatten_cons] at e
    obtain ⟨rfl, rfl⟩ := List.append_inj e.symm (by omega)
    have ih := ownDs_row ys css F2 (fun c hm => hc c (by simp [hm])) (fun z hm => hs z (by simp [hm])) h2 (by simpa using hl)
    refine ⟨F1, F2, c1, rfl, l2, fun j v hj => ?_, h1, ?_⟩
    · have hlt : j < c1.length := (List.getElem?_eq_some_iff.1 hj).1
      simp [List.getElem?_append_left hlt, hj]
    · refine ownDe_at ys 0 1 F2 (fun k hk j hj => ?_) ih
      simp only [List.getElem?_toArray, List.flatten_cons]
      rw [Nat.zero_add, List.getElem?_append_right (by rw [Nat.add_mul]; omega)]
      congr 1
      rw [Nat.add_mul]; omega
theorem ext_row {O : List Nat} {n : Nat} : ∀ (ys : List D) (css : List (List Value)), (∀ cs ∈ css, cs.length = n) → (∀ y ∈ ys, y.size = n) → repDs O w ys css.flatten → ys.length = css.length → extDe O w css.flatten.toArray n ys 0
  | [], css, _, _, H, hl => trivial
  | y :: ys, [], _, _, _, hl => by simp at hl
  | y :: ys, cs :: css, hc, hs, H, hl => by
    obtain ⟨c1, c2, e, h1, h2⟩ := H
    have l1 := repD_len y c1 h1
    have l2 := hs y (by simp)
    have l3 := hc cs (by simp)
    rw [List.flatten_cons] at e
    obtain ⟨rfl, rfl⟩ := List.append_inj e.symm (by omega)
    have ih := ext_row ys css (fun c hm => hc c (by simp [hm])) (fun z hm => hs z (by simp [hm])) h2 (by simpa using hl)
    refine ⟨⟨c1, l2, fun j v hj => ?_, h1⟩, ?_⟩
    · have hlt : j < c1.length := (List.getElem?_eq_some_iff.1 hj).1
      simp [List.getElem?_append_left hlt, hj]
    · refine extDe_at ys 0 1 (fun k hk j hj => ?_) ih
      simp only [List.getElem?_toArray, List.flatten_cons]
      rw [Nat.zero_add, List.getElem?_append_right (by rw [Nat.add_mul]; omega)]
      congr 1
      rw [Nat.add_mul]; omega
theorem exDs_rep : ∀ (vs : List V) (ys : List D) (cs : List Value), exDs vs = some ys → repCs w M h vs cs → repDs M.O w ys cs ∧ ys.length = vs.length
  | [], ys, cs, H, R => by cases H; exact ⟨R, rfl⟩
  | v :: vs, ys, cs, H, R => by
    cases v <;> simp only [exDs] at H <;> first
      | (cases H; done)
      | skip
    rename_i x
    split at H
    · rename_i ys' hy
      cases H
      obtain ⟨c1, c2, e, r1, r2⟩ := R
      obtain ⟨k1, k2⟩ := exDs_rep vs ys' c2 hy r2
      exact ⟨⟨c1, c2, e, r1, k1⟩, by simp [k2]⟩
    · cases H
theorem exDs_size {n : Nat} : ∀ (vs : List V) (ys : List D), exDs vs = some ys → sizesB n vs = true → ∀ y ∈ ys, y.size = n
  | [], ys, H, _ => by cases H; simp
  | v :: vs, ys, H, hs => by
    cases v <;> simp only [exDs] at H <;> first
      | (cases H; done)
      | skip
    rename_i x
    split at H
    · rename_i ys' hy
      cases H
      simp only [sizesB, Bool.and_eq_true, nbeq] at hs
      intro y hm
      rcases List.mem_cons.1 hm with rfl | hm
      · exact hs.1.2
      · exact exDs_size vs ys' hy hs.2 y hm
    · cases H
theorem tks_sizes {B : Nat} {n : Nat} (hI : MInv B w M h) : ∀ (vs : List V) (css : List (List Value)) (K : List D → List Nat → Prop), tkVs h vs K → repCs w M h vs css.flatten → sizesB n vs = true → (∀ cs ∈ css, cs.length = n) → vs.length = css.length →
    ∃ ys is F, K ys is ∧ ownDs w ys F css.flatten ∧ (∀ y ∈ ys, y.size = n) ∧ ys.length = vs.length ∧ (is.Nodup → F.Nodup) ∧ (∀ x ∈ F, ∃ i ∈ is, ∃ m, M[i]? = some m ∧ x ∈ mO m) ∧ (∀ i ∈ is, ∃ n xs, h[i]? = some (.arr n xs true)) := by
  intro vs css K H R hs hc hl
  have key : ∀ (vs : List V) (cs : List Value) (K : List D → List Nat → Prop), tkVs h vs K → repCs w M h vs cs → sizesB n vs = true →
      ∃ ys is F, K ys is ∧ ownDs w ys F cs ∧ (∀ y ∈ ys, y.size = n) ∧ ys.length = vs.length ∧ (is.Nodup → F.Nodup) ∧ (∀ x ∈ F, ∃ i ∈ is, ∃ m, M[i]? = some m ∧ x ∈ mO m) ∧ (∀ i ∈ is, ∃ n xs, h[i]? = some (.arr n xs true)) := by
    intro vs
    induction vs with
    | nil => intro cs K H R _; exact ⟨[], [], [], H, ⟨rfl, R⟩, by simp, rfl, fun _ => by simp, by simp, by simp⟩
    | cons v vs ih =>
      intro cs K H R hs
      simp only [sizesB, Bool.and_eq_true, nbeq] at hs
      obtain ⟨c1, c2, e, r1, r2⟩ := R
      obtain ⟨y, i1, F1, H1, k2, k3, k4, k5, k6⟩ := tk_sound hI v c1 _ H r1
      obtain ⟨ys, i2, F2, H2, l2, l3, ln, l4, l5, l6⟩ := ih c2 _ H1 r2 hs.2
      refine ⟨y :: ys, i1 ++ i2, F1 ++ F2, H2, ⟨F1, F2, c1, c2, rfl, e, k2, l2⟩, fun z hz => ?_, by simp [ln], fun hn => ?_, fun x hx => ?_, fun i hi => ?_⟩
      · rcases List.mem_cons.1 hz with rfl | hz
        · rw [k3]; exact hs.1.2
        · exact l3 z hz
      · obtain ⟨n1, n2, n3⟩ := List.nodup_append.1 hn
        refine List.nodup_append.2 ⟨k4 n1, l4 n2, fun x hx y hy e => ?_⟩
        subst e
        obtain ⟨i, hi, m, hm, hxm⟩ := k5 x hx
        obtain ⟨j, hj, m', hm', hxm'⟩ := l5 x hy
        have := O_block_inj hI hm hm' hxm hxm'
        subst this
        exact n3 _ hi _ hj rfl
      · rcases List.mem_append.1 hx with hx | hx
        · obtain ⟨i, hi, r⟩ := k5 x hx
          exact ⟨i, by simp [hi], r⟩
        · obtain ⟨i, hi, r⟩ := l5 x hx
          exact ⟨i, by simp [hi], r⟩
      · rcases List.mem_append.1 hi with hi | hi
        · exact k6 i hi
        · exact l6 i hi
  exact key vs _ K H R hs
theorem parts_zip : ∀ (ps : List (Nat × Operand)) (j : Nat), inOrd ps j = true → ps.map (fun (i, x) => (i, a.eval x)) = (List.range' j ps.length).zip ((partOps ps).map a.eval)
  | [], j, _ => rfl
  | (i, x) :: ps, j, H => by
    simp only [inOrd, Bool.and_eq_true, nbeq] at H
    simp only [List.map_cons, partOps, List.length_cons, List.range'_succ, List.zip_cons_cons, H.1, parts_zip ps (j + 1) H.2]
theorem partOps_len : ∀ ps : List (Nat × Operand), (partOps ps).length = ps.length
  | [] => rfl
  | (_, _) :: ps => by simp [partOps, partOps_len ps]
theorem evs_len (e : Env) : ∀ xs : List Operand, (evs e xs).length = xs.length
  | [] => rfl
  | x :: xs => by simp [evs, evs_len e xs]
theorem lit_sound (hT : TOk P tt) (R : Rep B X N M e h a w) {t len : Nat} {ps : List (Nat × Operand)} (hc : ∀ x ∈ partOps ps, cOK x = true) {K : V → Env → List Blk → Prop} (H : litV tt t len ps e h K) :
    ∃ v cv e' h' M' w', K v e' h' ∧ (Instr.buildSlice t len (ps.map fun (i, x) => (i, a.eval x)).toArray).run P w = .ok cv w' ∧ Ext w w' ∧ Rep B X N M' e' h' a w' ∧ rep w' M' h' v cv := by
  unfold litV at H
  split at H
  · rename_i el sz by' zr eq0 hti
    obtain ⟨fi, d, z, h1, h2, h3, h4, h5, h6, h7, h8, h9⟩ := (hT t _ hti).ex
    cases d <;> first
      | exact (h6 : False).elim
      | skip
    cases (h6 : _ = el)
    split at H
    · rename_i ie hie
      obtain ⟨fe, de, ze, e1, e2, e3, e4, e5, e6, e7, e8, e9⟩ := (hT _ _ hie).ex
      cases hq : (inOrd ps 0 && Nat.beq ps.length len && Nat.ble (len * ie.size) 16777216 && sizesB ie.size (evs e (partOps ps)) && Nat.ble 1 ie.size) with
      | false => rw [hq] at H; exact H.elim
      | true =>
        rw [hq] at H
        simp only [Bool.and_eq_true, nbeq] at hq
        obtain ⟨⟨⟨⟨q1, rfl⟩, q3⟩, q4⟩, q5⟩ := hq
        have q3' := Nat.le_of_ble_eq_true q3
        obtain ⟨css, c1, c2, c3⟩ := evs_repC R (partOps ps) hc q4
        have hcl : css.length = ps.length := by rw [← c1]; simp [partOps_len]
        have hfl : ∀ css : List (List Value), (∀ cs ∈ css, cs.length = ie.size) → css.flatten.length = css.length * ie.size := by
          intro css
          induction css with
          | nil => simp
          | cons c css ih => intro hh; simp [ih (fun x hx => hh x (by simp [hx])), hh c (by simp), Nat.succ_mul]; omega
        have hfl' := hfl css c2
        -- the run
        have hrun : (Instr.buildSlice t ps.length (ps.map fun (i, x) => (i, a.eval x)).toArray).run P w = .ok (.slice (some ⟨w.heap.size, 0, none⟩) ps.length ps.length) (w.alloc (.cells css.flatten.toArray el)) := by
          have hfill := fill_row (n := ie.size) ((partOps ps).map a.eval) 0 [] [] ((List.range (ps.length * ie.size)).map fun i => ze.cells[i % ze.cells.size]!) (by simp) (fun v hv => by
            have : v.cells.toList ∈ css := by rw [← c1]; exact List.mem_map_of_mem hv
            have := c2 _ this
            rw [Array.length_toList] at this
            exact this) (by simp [partOps_len])
          rw [List.length_map, partOps_len, ← parts_zip ps 0 q1] at hfill
          rw [c1] at hfill
          simp only [List.nil_append, List.append_nil] at hfill
          have hz : ((Array.range (ps.length * ie.size)).map (ze.cells[· % ze.cells.size]!)) = ((List.range (ps.length * ie.size)).map fun i => ze.cells[i % ze.cells.size]!).toArray := by
            apply Array.ext'
            simp
          have hlim : ¬ (ps.length * ie.size > 2 ^ 24) := by omega
          simp only [Instr.buildSlice, Sem.run_bind, run_underlying h5, Result.andThen_ok, sizeOf, typeInfo, run_program, e1, Sem.run_pure, e2, hlim, if_false]
          by_cases h0 : ps.length * ie.size = 0
          · have hcs : css.flatten = [] := List.eq_nil_of_length_eq_zero (by rw [hfl', hcl, h0])
            have hp : ps = [] := by
              have h1 : 1 ≤ ie.size := Nat.le_of_ble_eq_true q5
              have : ps.length = 0 := by
                rcases Nat.mul_eq_zero.1 h0 with h | h
                · exact h
                · omega
              exact List.eq_nil_of_length_eq_zero this
            subst hp
            have hr0 : Array.range 0 = #[] := rfl
            simp [hcs, hr0, Instr.fill, newRow, World.alloc_eq]
          · simp only [h0, if_false, zeroValue, typeInfo, Sem.run_bind, run_program, Result.andThen_ok, e1, Sem.run_pure, e4]
            rw [hz, hfill]
            simp only [newRow, Sem.run_bind, run_newObj, Result.andThen_ok, Sem.run_pure]
            rfl
        have hev : (evs e (partOps ps)).length = css.length := by rw [evs_len, partOps_len, hcl]
        have hcap : ps.length ≤ maxLen := by
          rcases Nat.eq_zero_or_pos ie.size with h0 | h0
          · exact absurd h0 (fun e => by rw [e] at q5; cases q5)
          · have : ps.length * 1 ≤ ps.length * ie.size := Nat.mul_le_mul_left _ h0
            unfold maxLen
            omega
        simp only [cond_true] at H
        cases ht : (V.tksB (evs e (partOps ps)) && nodupB (ownIs (evs e (partOps ps)))) with
        | true =>
          rw [ht] at H
          simp only [Bool.and_eq_true] at ht
          simp only [cond_true] at H
          obtain ⟨ys, is, F, k1, k2, k3, kn, k4, k5, k6⟩ := tks_sizes R.inv _ css _ H c3 q4 c2 hev
          cases hn : nodupB is with
          | false => rw [hn] at k1; exact k1.elim
          | true =>
            rw [hn] at k1
            have hrow := ownDs_row ys css F c2 k3 k2 (by rw [kn, hev])
            have hyl : ys.length = ps.length := by rw [kn, hev, hcl]
            obtain ⟨M', R', hv⟩ := R.newRow (arr := css.flatten.toArray) (t := el) (n := ie.size) (cap := ps.length) (xs := ys) (dp := true) (is := is) (ks := is) (F := F) (w1 := w) (Ext.refl w) rfl (by rw [List.size_toArray, hfl', hcl]) (by omega) hcap (fun i hi => hi) (k4 (nodupB_spec is hn)) k5 (rep_live k6)
              (by rw [if_pos rfl]; exact hrow)
            rw [hyl] at hv
            exact ⟨_, _, _, _, M', _, k1, hrun, ext_alloc w _, R', hv⟩
        | false =>
          rw [ht] at H
          simp only [cond_false] at H
          split at H
          · rename_i ys hys
            obtain ⟨k1, k2⟩ := exDs_rep _ ys _ hys c3
            have hrow := ext_row ys css c2 (exDs_size _ ys hys q4) k1 (by rw [k2, hev])
            have hyl : ys.length = ps.length := by rw [k2, hev, hcl]
            obtain ⟨M', R', hv⟩ := R.newRow (arr := css.flatten.toArray) (t := el) (n := ie.size) (cap := ps.length) (xs := ys) (dp := false) (is := []) (ks := []) (F := []) (w1 := w) (Ext.refl w) rfl (by rw [List.size_toArray, hfl', hcl]) (by omega) hcap (by simp) (by simp) (by simp) (by simp)
              (by rw [if_neg (by simp)]; exact ⟨rfl, hrow⟩)
            simp only [dropE, dropK, goneL, set_last] at R' hv
            rw [hyl] at hv
            exact ⟨_, _, _, _, M', _, H, hrun, ext_alloc w _, R', hv⟩
          · cases hb : Nat.beq ie.size 1 with
            | false => rw [hb] at H; exact H.elim
            | true =>
              rw [hb] at H
              simp only [cond_true] at H
              obtain ⟨hI, mv⟩ := push_box (v := .st (evs e (partOps ps))) (t := el) R.inv R.base (by simp only [repC]; exact c3)
              have hnf : nOf (h ++ [Blk.box (.st (evs e (partOps ps)))]) h.length = 0 := by simp [nOf]
              refine ⟨_, _, _, _, _, _, H, hrun, ext_alloc w _, R.step (R.ext.alloc _) hI mv (fr_push R.fr _) (fr_push R.fh _), rep_own.2 ⟨_, ps.length, rfl, Nat.le_refl _, hcap, by simp, .inr ⟨w.heap.size, [], css.flatten.toArray, el, ?_, ?_, heap_new w _, ?_⟩⟩⟩
              · rw [← R.inv.len, List.getElem?_append_right (Nat.le_refl _)]; simp
              · simp
              · rw [hnf]; omega
    · exact H.elim
  · exact H.elim
end
end Go.Proofs.Ytdeafbgnbgihgaa