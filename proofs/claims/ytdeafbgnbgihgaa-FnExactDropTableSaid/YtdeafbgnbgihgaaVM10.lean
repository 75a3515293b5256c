/- The abstract machine, tenth part: calls of functions. Leans on no program. -/
import Derived.Test.YtdeafbgnbgihgaaVM9
set_option linter.unusedSimpArgs false
set_option linter.unusedVariables false
namespace Go.Proofs.Ytdeafbgnbgihgaa
open Go.RowKit

theorem O_cons (m : Option (Nat × List Nat)) (M : MM) : MM.O (m :: M) = mO m ++ M.O := by simp [MM.O]

/-- function f answers v, in memory bs of its own, at arguments that read as As, and turns nothing that is there -/
structure PC (P : Program) (f : FuncId) (As : List V) (v : V) (bs : List Blk) : Prop where
  fn : ∃ fn, P.funcs[f]? = some fn ∧ (fn.name == "runtime.NumGoroutine") = false ∧ fn.body.isNone = false
  run : ∀ (w : World) (X : List Nat) (args : List Value), X.Nodup → (∀ b ∈ X, b < w.heap.size) → repT w [mX X] [.gone] As args →
    Calls P f args.toArray w fun e w' => ∃ cv M', e = .returned cv ∧ Ext w w' ∧ MInv w.heap.size w' (mX X :: M') (.gone :: bs) ∧ rep w' (mX X :: M') (.gone :: bs) v cv

/-! ### what an argument reads as -/
/-- an element of a literal of slices -/
def borE (h : List Blk) : V → D → Prop
  | .d x, y => y = x ∧ x.size = 1
  | .nils, y => y = .lst []
  | .own b off len, y => match h[b]? with
    | some (.arr _ xs _) => off + len ≤ xs.length ∧ y = .lst ((xs.drop off).take len)
    | _ => False
  | .st _, _ => False
  | .top, _ => False
  | .undef, _ => False
  | .nilp, _ => False
  | .pB _ _ _, _ => False
  | .pL _ _ _ _, _ => False
  | .pX _, _ => False
  | .fn _ _, _ => False
  | .tup _, _ => False
def borEs (h : List Blk) : List V → List D → Prop
  | [], ys => ys = []
  | v :: vs, ys => ∃ y ys', ys = y :: ys' ∧ borE h v y ∧ borEs h vs ys'
mutual
def borD (h : List Blk) : V → D → Prop
  | .d x, y => y = x
  | .nils, y => y = .lst []
  | .own b off len, y => match h[b]? with
    | some (.arr _ xs _) => off + len ≤ xs.length ∧ y = .lst ((xs.drop off).take len)
    | some (.box (.st vs)) => off = 0 ∧ len = vs.length ∧ ∃ ys, y = .lst ys ∧ borEs h vs ys
    | _ => False
  | .st fs, y => ∃ ys, y = .st ys ∧ borDs h fs ys
  | .top, _ => False
  | .undef, _ => False
  | .nilp, _ => False
  | .pB _ _ _, _ => False
  | .pL _ _ _ _, _ => False
  | .pX _, _ => False
  | .fn f caps, y => caps = [] ∧ y = .fnv f
  | .tup _, _ => False
def borDs (h : List Blk) : List V → List D → Prop
  | [], ys => ys = []
  | f :: fs, ys => ∃ y ys', ys = y :: ys' ∧ borD h f y ∧ borDs h fs ys'
end
mutual
def borV (h : List Blk) : V → V → Prop
  | .pX x, A => A = .pX x
  | .nilp, A => A = .nilp
  | .pB b p off, A => bif Nat.ble off 1000000 then (match h[b]? with
    | some (.box c) => (match c.sub p 0 with
      | some (u, o) => o = off ∧ ∃ y, A = .pX y ∧ borD h u y
      | none => False)
    | _ => False) else False
  | .pL b k p off, A => match h[b]? with
    | some (.arr _ xs _) => (∃ y, xs[k]? = some y ∧ (match y.sub p 0 with
      | some (u, o) => o = off ∧ A = .pX u
      | none => False)) ∨ (k = 0 ∧ p = [] ∧ off = 0 ∧ A = .pX (.st xs))
    | _ => False
  | .fn f caps, A => ∃ cs, A = .fn f cs ∧ borVs h caps cs
  | .d x, A => A = .d x
  | .nils, A => match A with
    | .nils => True
    | A => A = .d (.lst [])
  | .own b off len, A => ∃ y, A = .d y ∧ borD h (.own b off len) y
  | .st fs, A => ∃ y, A = .d y ∧ borD h (.st fs) y
  | .top, _ => False
  | .undef, _ => False
  | .tup _, _ => False
def borVs (h : List Blk) : List V → List V → Prop
  | [], As => As = []
  | v :: vs, As => ∃ A As', As = A :: As' ∧ borV h v A ∧ borVs h vs As'
end
mutual
/-- refers to no block of the call's own -/
def V.ext : V → Bool
  | .own _ _ _ => false
  | .pB _ _ _ => false
  | .pL _ _ _ _ => false
  | .fn _ caps => V.exts caps
  | .st fs => V.exts fs
  | .tup vs => V.exts vs
  | .top => true
  | .undef => true
  | .d _ => true
  | .nils => true
  | .nilp => true
  | .pX _ => true
def V.exts : List V → Bool
  | [] => true
  | v :: vs => v.ext && V.exts vs
end

section
variable {w : World} {M : MM} {h : List Blk} {X : List Nat} {B : Nat}

theorem repD_off (hX : X = [] ∨ X = M.O) {x : D} {cs : List Value} (H : repD M.O w x cs) : repD X w x cs :=
  repD_mv (fun b hb _ => ⟨by rcases hX with rfl | rfl; simp; exact hb, rfl⟩) x cs H
theorem extDe_all {O : List Nat} {arr : Array Value} {n : Nat} : ∀ (xs : List D) (i : Nat), extDe O w arr n xs i → ∃ ces, repDs O w xs ces ∧ ∀ j v, ces[j]? = some v → arr[i * n + j]? = some v
  | [], i, _ => ⟨[], rfl, fun j v h => by simp at h⟩
  | x :: xs, i, ⟨⟨c1, e1, e2, e3⟩, h2⟩ => by
    obtain ⟨c2, q1, q2⟩ := extDe_all xs (i + 1) h2
    refine ⟨c1 ++ c2, ⟨c1, c2, rfl, e3, q1⟩, fun j v hj => ?_⟩
    have hl := repD_len x c1 e3
    rw [List.getElem?_append] at hj
    split at hj
    · exact e2 j v hj
    · have := q2 _ v hj
      rw [hl, e1] at this
      rw [Nat.add_mul, Nat.one_mul] at this
      rename_i hge
      rw [hl, e1] at hge
      rwa [show i * n + n + (j - n) = i * n + j by omega] at this
theorem ownDe_ext {g : Nat} {arr : Array Value} {t : TypeId} {n : Nat} {xs : List D} {F : List Nat} (hg : w.heap[g]? = some (.cells arr t (0, 0))) (H : ownDe w arr n xs 0 F) : extDe [] w arr n xs 0 := by
  have key : ∀ (xs : List D) (i : Nat) (F : List Nat), ownDe w arr n xs i F → extDe [] w arr n xs i := by
    intro xs
    induction xs with
    | nil => intro i F _; trivial
    | cons x xs ih =>
      intro i F H
      obtain ⟨F1, F2, ces, rfl, h1, h2, h3, h4⟩ := H
      exact ⟨⟨ces, h1, h2, ownD_rep x F1 ces (by simp) h3⟩, ih (i + 1) F2 h4⟩
  exact key xs 0 F H
theorem bor_own (hI : MInv B w M h) {b off len : Nat} {cv : Value} (H : ownR w M h b off len cv) {n : Nat} {xs : List D} {dp : Bool} (hb : h[b]? = some (.arr n xs dp)) (hl : off + len ≤ xs.length) :
    repD [] w (.lst ((xs.drop off).take len)) [cv] := by
  obtain ⟨a, cap, rfl, h1, h2, h3, h4⟩ := H
  have hlen : ((xs.drop off).take len).length = len := by simp; omega
  refine ⟨a, cap, n, by rw [hlen], by rw [hlen]; exact h1, h2, h3, ?_⟩
  rcases h4 with h4 | ⟨g, F, arr, t, m1, rfl, m3, m4⟩
  · have : (xs.drop off).take len = [] := by
      have : len = 0 := by omega
      rw [this]; rfl
    rw [this]; trivial
  · have hn : nOf h b = n := by simp [nOf, hb]
    rw [hn]
    obtain ⟨arr', t', k1, k2, k3⟩ := hI.blk b _ _ hb m1
    rw [m3] at k1
    cases k1
    have hext : extDe [] w arr n xs 0 := by
      cases dp with
      | true => rw [if_pos rfl] at k3; exact ownDe_ext m3 k3
      | false =>
        rw [if_neg (by simp)] at k3
        exact extDe_mv (w' := w) (fun b _ _ => ⟨by simp, rfl⟩) xs 0 k3.2
    refine (repDe_get _ 0).2 fun i x hx => ?_
    have hi : i < len := by have := (List.getElem?_eq_some_iff.1 hx).1; omega
    rw [List.getElem?_take, if_pos hi, List.getElem?_drop] at hx
    obtain ⟨ces, q1, q2, q3⟩ := extDe_get xs 0 hext _ x hx
    refine ⟨g, off * n, ces, rfl, by simp, lt_of_heap m3, fun j v hj => ?_, q1, q3⟩
    have := q2 j v hj
    rw [Nat.zero_add, Nat.add_mul, Nat.add_assoc] at this
    rw [Nat.zero_add]
    simp [World.cell?, m3, ← this, Nat.add_assoc]
theorem borE_sound (hI : MInv B w M h) : ∀ (v : V) (cs : List Value) (y : D), repC w M h v cs → borE h v y → repD [] w y cs ∧ y.size = 1
  | .d x, cs, y, H, hb => by obtain ⟨rfl, hs⟩ := hb; exact ⟨repD_off (.inl rfl) H, hs⟩
  | .nils, cs, y, H, hb => by cases hb; cases H; exact ⟨⟨none, 0, 0, rfl, Nat.le_refl _, Nat.zero_le _, fun _ => rfl, trivial⟩, rfl⟩
  | .own b off len, cs, y, H, hb => by
    obtain ⟨cv, rfl, H⟩ := H
    simp only [borE] at hb
    split at hb
    · rename_i n xs dp hk
      obtain ⟨hl, rfl⟩ := hb
      exact ⟨bor_own hI H hk hl, rfl⟩
    · exact hb.elim
  | .st _, cs, y, _, hb => hb.elim
  | .top, cs, y, _, hb => hb.elim
  | .undef, cs, y, _, hb => hb.elim
  | .nilp, cs, y, _, hb => hb.elim
  | .pB _ _ _, cs, y, _, hb => hb.elim
  | .pL _ _ _ _, cs, y, _, hb => hb.elim
  | .pX _, cs, y, _, hb => hb.elim
  | .fn _ _, cs, y, _, hb => hb.elim
  | .tup _, cs, y, _, hb => hb.elim
theorem borEs_sound (hI : MInv B w M h) {g : Nat} (hg : g < w.heap.size) : ∀ (vs : List V) (cs : List Value) (ys : List D) (k : Nat), repCs w M h vs cs → borEs h vs ys → CellsAt w g k cs → repDe [] w (some ⟨g, 0, none⟩) 1 ys k ∧ ys.length = vs.length
  | [], cs, ys, k, _, hb, _ => by cases hb; exact ⟨trivial, rfl⟩
  | v :: vs, cs, ys, k, H, hb, hc => by
    obtain ⟨c1, c2, rfl, h1, h2⟩ := H
    obtain ⟨y, ys', rfl, b1, b2⟩ := hb
    obtain ⟨r1, r2⟩ := borE_sound hI v c1 y h1 b1
    have hl : c1.length = 1 := by rw [repD_len y c1 r1, r2]
    have hc1 : CellsAt w g k c1 := fun j u hj => hc j u (by rw [List.getElem?_append_left ((List.getElem?_eq_some_iff.1 hj).1)]; exact hj)
    have hc2 : CellsAt w g (k + 1) c2 := fun j u hj => by
      have := hc (1 + j) u (by rw [List.getElem?_append_right (by omega), hl, show 1 + j - 1 = j by omega]; exact hj)
      rw [show k + (1 + j) = k + 1 + j by omega] at this
      exact this
    obtain ⟨e1, e2⟩ := borEs_sound hI hg vs c2 ys' (k + 1) h2 b2 hc2
    exact ⟨⟨⟨g, 0, c1, rfl, by simp, hg, by rw [Nat.zero_add, Nat.mul_one]; exact hc1, r2, r1⟩, e1⟩, by simp [e2]⟩
mutual
theorem borD_sound (hI : MInv B w M h) : ∀ (v : V) (cs : List Value) (y : D), repC w M h v cs → (X = [] ∨ v.ext = true ∧ X = M.O) → borD h v y → repD X w y cs
  | .d x, cs, y, H, hX, hb => by cases hb; exact repD_off (hX.imp id And.right) H
  | .nils, cs, y, H, hX, hb => by cases hb; cases H; exact ⟨none, 0, 0, rfl, Nat.le_refl _, Nat.zero_le _, fun _ => rfl, trivial⟩
  | .own b off len, cs, y, H, hX, hb => by
    obtain ⟨cv, rfl, H⟩ := H
    simp only [borD] at hb
    split at hb
    · rename_i n xs dp hk
      obtain ⟨hl, rfl⟩ := hb
      rcases hX with rfl | ⟨hX, _⟩
      · exact bor_own hI H hk hl
      · cases hX
    · rename_i vs hk
      obtain ⟨rfl, rfl, ys, rfl, hb⟩ := hb
      rcases hX with rfl | ⟨hX, _⟩
      · obtain ⟨a, cap, rfl, h1, h2, h3, h4⟩ := H
        rcases h4 with h4 | ⟨g, F, arr, t, m1, m2, m3, m4⟩
        · have h0 : vs = [] := List.eq_nil_of_length_eq_zero (by omega)
          subst h0
          cases hb
          exact ⟨a, cap, 1, rfl, h1, h2, h3, trivial⟩
        · obtain ⟨-, arr', t', k1, k2⟩ := hI.blk b _ _ hk m1
          rw [m3] at k1
          cases k1
          have hcells := cellsAt_mid (c1 := []) (c2 := arr.toList) (c3 := []) (o := 0) m3 (by simp) rfl
          obtain ⟨e1, e2⟩ := borEs_sound hI (lt_of_heap m3) vs arr.toList ys 0 k2 hb hcells
          rw [Nat.zero_mul] at m2
          subst m2
          exact ⟨_, cap, 1, by rw [e2], by rw [e2]; exact h1, h2, h3, e1⟩
      · cases hX
    · exact hb.elim
  | .st fs, cs, y, H, hX, hb => by
    obtain ⟨ys, rfl, hb⟩ := hb
    exact borDs_sound hI fs cs ys H hX hb
  | .top, cs, y, _, _, hb => hb.elim
  | .undef, cs, y, _, _, hb => hb.elim
  | .nilp, cs, y, _, _, hb => hb.elim
  | .pB _ _ _, cs, y, _, _, hb => hb.elim
  | .pL _ _ _ _, cs, y, _, _, hb => hb.elim
  | .pX _, cs, y, _, _, hb => hb.elim
  | .fn f caps, cs, y, H, _, hb => by
    obtain ⟨rfl, rfl⟩ := hb
    obtain ⟨cvs, rfl, e⟩ := H
    cases e
    rfl
  | .tup _, cs, y, _, _, hb => hb.elim
theorem borDs_sound (hI : MInv B w M h) : ∀ (vs : List V) (cs : List Value) (ys : List D), repCs w M h vs cs → (X = [] ∨ V.exts vs = true ∧ X = M.O) → borDs h vs ys → repDs X w ys cs
  | [], cs, ys, H, hX, hb => by cases hb; exact H
  | v :: vs, cs, ys, H, hX, hb => by
    obtain ⟨c1, c2, rfl, h1, h2⟩ := H
    obtain ⟨y, ys', rfl, b1, b2⟩ := hb
    simp only [V.exts, Bool.and_eq_true] at hX
    exact ⟨c1, c2, rfl, borD_sound hI v c1 y h1 (hX.imp id fun q => ⟨q.1.1, q.2⟩) b1, borDs_sound hI vs c2 ys' h2 (hX.imp id fun q => ⟨q.1.2, q.2⟩) b2⟩
end
theorem O_X : MM.O [mX X] = X := by rw [O_one, mO_mX]
theorem repC_d {x : D} {cs : List Value} (H : repD X w x cs) : repC w [mX X] [.gone] (.d x) cs := by
  show repD (MM.O [mX X]) w x cs
  rw [O_X]; exact H
theorem repC_pX {x : D} {b o : Nat} {ces : List Value} (h1 : b ∉ X) (h2 : b < w.heap.size) (h3 : CellsAt w b o ces) (h4 : repD X w x ces) : repC w [mX X] [.gone] (.pX x) [.pointer (some ⟨b, o, none⟩)] :=
  ⟨b, o, ces, rfl, by rw [O_X]; exact h1, h2, h3, by rw [O_X]; exact h4⟩
theorem borD_agg : ∀ (v : V) (y : D), borD h v y → y.agg = v.isAgg
  | .d x, y, hb => by cases hb; rfl
  | .nils, y, hb => by cases hb; rfl
  | .own b off len, y, hb => by
    simp only [borD] at hb
    split at hb
    · obtain ⟨_, rfl⟩ := hb; rfl
    · obtain ⟨_, _, _, rfl, _⟩ := hb; rfl
    · exact hb.elim
  | .st fs, y, hb => by obtain ⟨ys, rfl, _⟩ := hb; rfl
  | .top, y, hb => hb.elim
  | .undef, y, hb => hb.elim
  | .nilp, y, hb => hb.elim
  | .pB _ _ _, y, hb => hb.elim
  | .pL _ _ _ _, y, hb => hb.elim
  | .pX _, y, hb => hb.elim
  | .fn _ _, y, hb => by obtain ⟨_, rfl⟩ := hb; rfl
  | .tup _, y, hb => hb.elim
mutual
theorem borV_sound (hI : MInv B w M h) : ∀ (v : V) (cs : List Value) (A : V), repC w M h v cs → (X = [] ∨ v.ext = true ∧ X = M.O) → borV h v A → repC w [mX X] [.gone] A cs ∧ A.isAgg = v.isAgg
  | .d x, cs, A, H, hX, hb => by cases hb; exact ⟨repC_d (repD_off (hX.imp id And.right) H), rfl⟩
  | .nils, cs, A, H, hX, hb => by
    unfold borV at hb
    split at hb
    · exact ⟨H, rfl⟩
    · cases hb; exact ⟨repC_d (borD_sound hI .nils cs _ H (hX.imp id fun q => ⟨rfl, q.2⟩) rfl), rfl⟩
  | .own b off len, cs, A, H, hX, hb => by
    obtain ⟨y, rfl, hb⟩ := hb
    exact ⟨repC_d (borD_sound hI _ cs y H hX hb), borD_agg _ y hb⟩
  | .st fs, cs, A, H, hX, hb => by
    obtain ⟨y, rfl, hb⟩ := hb
    exact ⟨repC_d (borD_sound hI _ cs y H hX hb), borD_agg _ y hb⟩
  | .pX x, cs, A, H, hX, hb => by
    cases hb
    obtain ⟨b, o, ces, rfl, h1, h2, h3, h4⟩ := H
    exact ⟨repC_pX (by rcases hX with rfl | ⟨_, rfl⟩; simp; exact h1) h2 h3 (repD_off (hX.imp id And.right) h4), rfl⟩
  | .nilp, cs, A, H, hX, hb => by cases hb; exact ⟨H, rfl⟩
  | .pB b p off, cs, A, H, hX, hb => by
    obtain ⟨g, F, hM, hcs⟩ := H
    rcases hX with rfl | ⟨hX, _⟩
    · simp only [borV] at hb
      have hb0 := BL hb; clear hb; obtain ⟨hlo, hb⟩ := hb0
      rw [pbv_lo hlo] at hcs
      subst hcs
      split at hb
      · rename_i c hc
        split at hb
        · rename_i u o hs
          obtain ⟨rfl, y, rfl, hb⟩ := hb
          obtain ⟨rfl, arr, t', hg, hr⟩ := hI.blk b _ _ hc hM
          obtain ⟨c1, c2, c3, e1, e2, hr2⟩ := repC_sub p c _ 0 u _ hr hs
          have hcells := cellsAt_mid hg e1 rfl
          rw [show c1.length = o by omega] at hcells
          exact ⟨repC_pX (by simp) (lt_of_heap hg) hcells (borD_sound hI u c2 y hr2 (.inl rfl) hb), rfl⟩
        · exact hb.elim
      · exact hb.elim
    · cases hX
  | .pL b k p off, cs, A, H, hX, hb => by
    obtain ⟨g, F, hM, rfl⟩ := H
    rcases hX with rfl | ⟨hX, _⟩
    · simp only [borV] at hb
      split at hb
      · rename_i n xs dp hc
        obtain ⟨arr, t', hg, hsz, hel⟩ := hI.blk b _ _ hc hM
        have hext : extDe [] w arr n xs 0 := by
          cases dp with
          | true => rw [if_pos rfl] at hel; exact ownDe_ext hg hel
          | false =>
            rw [if_neg (by simp)] at hel
            exact extDe_mv (w' := w) (fun b _ _ => ⟨by simp, rfl⟩) xs 0 hel.2
        rcases hb with ⟨y, hy, hb⟩ | ⟨rfl, rfl, rfl, rfl⟩
        rotate_left
        · obtain ⟨ces, q1, q2⟩ := extDe_all xs 0 hext
          have q3 : repD [] w (.st xs) ces := q1
          have hcells : CellsAt w g (0 * nOf h b + 0) ces := fun j v hj => by
            have := q2 j v hj
            rw [Nat.zero_mul, Nat.zero_add] at this
            simp [World.cell?, hg, this]
          exact ⟨repC_pX (by simp) (lt_of_heap hg) hcells q3, rfl⟩
        split at hb
        · rename_i u o hs
          obtain ⟨rfl, rfl⟩ := hb
          have hn : nOf h b = n := by simp [nOf, hc]
          obtain ⟨ces, q1, q2, q3⟩ := extDe_get xs 0 hext _ y hy
          rw [Nat.zero_add] at q2
          obtain ⟨c1, c2, c3, rfl, e2, hr2⟩ := repD_sub p y ces 0 u o q3 hs
          have hall : CellsAt w g (k * n) (c1 ++ c2 ++ c3) := fun j v hj => by simp [World.cell?, hg, q2 j v hj]
          have hcells := cellsAt_sub hall
          rw [show c1.length = o by omega] at hcells
          rw [hn]
          exact ⟨repC_pX (by simp) (lt_of_heap hg) hcells hr2, rfl⟩
        · exact hb.elim
      · exact hb.elim
    · cases hX
  | .fn f caps, cs, A, H, hX, hb => by
    obtain ⟨cvs, rfl, H⟩ := H
    obtain ⟨as', rfl, hb⟩ := hb
    exact ⟨⟨cvs, rfl, borVs_sound hI caps cvs as' H hX hb⟩, rfl⟩
  | .top, cs, A, _, _, hb => hb.elim
  | .undef, cs, A, _, _, hb => hb.elim
  | .tup _, cs, A, _, _, hb => hb.elim
theorem borVs_sound (hI : MInv B w M h) : ∀ (vs : List V) (cs : List Value) (As : List V), repK w M h vs cs → (X = [] ∨ V.exts vs = true ∧ X = M.O) → borVs h vs As → repK w [mX X] [.gone] As cs
  | [], cs, As, H, hX, hb => by cases hb; exact H
  | v :: vs, cs, As, H, hX, hb => by
    obtain ⟨c, cs', rfl, h1, h2⟩ := H
    obtain ⟨A, As', rfl, b1, b2⟩ := hb
    simp only [V.exts, Bool.and_eq_true] at hX
    exact ⟨c, cs', rfl, (borV_sound hI v [c] A h1 (hX.imp id fun q => ⟨q.1.1, q.2⟩) b1).1, borVs_sound hI vs cs' As' h2 (hX.imp id fun q => ⟨q.1.2, q.2⟩) b2⟩
end
theorem borT_sound (hI : MInv B w M h) : ∀ (vs : List V) (cs : List Value) (As : List V), repT w M h vs cs → (X = [] ∨ V.exts vs = true ∧ X = M.O) → borVs h vs As → repT w [mX X] [.gone] As cs
  | [], cs, As, H, hX, hb => by cases hb; exact H
  | v :: vs, cs, As, H, hX, hb => by
    obtain ⟨c, cs', rfl, h1, h2⟩ := H
    obtain ⟨A, As', rfl, b1, b2⟩ := hb
    simp only [V.exts, Bool.and_eq_true] at hX
    refine ⟨c, cs', rfl, ?_, borT_sound hI vs cs' As' h2 (hX.imp id fun q => ⟨q.1.2, q.2⟩) b2⟩
    have hX' := hX.imp id fun q => (⟨q.1.1, q.2⟩ : v.ext = true ∧ X = M.O)
    unfold rep1 at h1 ⊢
    split at h1
    · rename_i ha
      obtain ⟨cs, rfl, h1⟩ := h1
      obtain ⟨k1, k2⟩ := borV_sound hI v cs A h1 hX' b1
      rw [k2, if_pos ha]
      exact ⟨cs, rfl, k1⟩
    · rename_i ha
      obtain ⟨k1, k2⟩ := borV_sound hI v [c] A h1 hX' b1
      rw [k2, if_neg ha]
      exact k1
end

/-! ### the callee's blocks among the caller's -/
mutual
def V.shift (s : Nat) : V → V
  | .own b o l => .own (b + s) o l
  | .pB b p o => .pB (b + s) p o
  | .pL b i p o => .pL (b + s) i p o
  | .fn f caps => .fn f (V.shifts s caps)
  | .st fs => .st (V.shifts s fs)
  | .tup vs => .tup (V.shifts s vs)
  | .top => .top
  | .undef => .undef
  | .d y => .d y
  | .nils => .nils
  | .nilp => .nilp
  | .pX y => .pX y
def V.shifts (s : Nat) : List V → List V
  | [] => []
  | v :: vs => v.shift s :: V.shifts s vs
end
def Blk.shift (s : Nat) : Blk → Blk
  | .box v => .box (v.shift s)
  | .arr n xs dp => .arr n xs dp
  | .gone => .gone
  | .gho c t g sz ty => .gho c t g sz ty
  | .pin c g sz ty => .pin c g sz ty
  | .keep e f => .keep e f
  | .bld T E bs => .bld T E bs
  | .mp tg es => .mp tg es
def shiftBs (s : Nat) : List Blk → List Blk
  | [] => []
  | b :: bs => b.shift s :: shiftBs s bs
mutual
/-- refers to no frame, and, if cl, reads nothing of others -/
def V.fit (cl : Bool) : V → Bool
  | .own b _ _ => !Nat.beq b 0
  | .pB b _ _ => !Nat.beq b 0
  | .pL b _ _ _ => !Nat.beq b 0
  | .fn _ caps => V.fits cl caps
  | .st fs => V.fits cl fs
  | .tup vs => V.fits cl vs
  | .top => true
  | .undef => true
  | .d x => !cl || x.flat
  | .nils => true
  | .nilp => true
  | .pX _ => !cl
def V.fits (cl : Bool) : List V → Bool
  | [] => true
  | v :: vs => v.fit cl && V.fits cl vs
end
def Blk.fit (cl : Bool) : Blk → Bool
  | .box v => v.fit cl
  | .arr _ _ dp => !cl || dp
  | .gone => false
  | .gho _ _ _ _ _ => false
  | .pin _ _ _ _ => false
  | .keep _ _ => false
  | .bld _ _ _ => false
  | .mp _ _ => false
def fitBs (cl : Bool) : List Blk → Bool
  | [] => true
  | b :: bs => b.fit cl && fitBs cl bs

section
variable {w : World} {M M' : MM} {h bs : List Blk} {X : List Nat} {cl : Bool}
theorem flat_any {O O' : List Nat} {x : D} {cs : List Value} (hf : x.flat = true) (H : repD O w x cs) : repD O' w x cs := flat_rep x [] cs hf (flat_own x cs hf H)
theorem sh_get (hl : M.length = h.length) {b : Nat} (hb : (!Nat.beq b 0) = true) (h0 : 1 ≤ h.length) {α : Type} (xs : List α) (ys : List α) (x : α) (hxs : xs.length = h.length) : (xs ++ ys)[b + (h.length - 1)]? = (x :: ys)[b]? := by
  cases b with
  | zero => simp at hb
  | succ b =>
    rw [List.getElem?_append_right (by omega), List.getElem?_cons_succ]
    congr 1
    omega
theorem nOf_sh (h0 : 1 ≤ h.length) {b : Nat} (hb : (!Nat.beq b 0) = true) (s : Nat) : nOf (h ++ shiftBs s bs) (b + (h.length - 1)) = nOf (.gone :: bs) b := by
  unfold nOf
  rw [sh_get (M := List.replicate h.length none) (h := h) (by simp) hb h0 h (shiftBs s bs) .gone rfl]
  cases b with
  | zero => simp at hb
  | succ b =>
    rw [List.getElem?_cons_succ, List.getElem?_cons_succ]
    have : ∀ (bs : List Blk) (b : Nat), (shiftBs s bs)[b]? = (bs[b]?).map (Blk.shift s) := by
      intro bs
      induction bs with
      | nil => intro b; simp [shiftBs]
      | cons c bs ih => intro b; cases b with
        | zero => simp [shiftBs]
        | succ b => simp [shiftBs, ih b]
    rw [this]
    cases bs[b]? with
    | none => rfl
    | some k => cases k <;> rfl
/-- the conditions -/
structure Sh (cl : Bool) (X : List Nat) (M : MM) (h : List Blk) : Prop where
  len : M.length = h.length
  pos : 1 ≤ h.length
  off : cl = true ∨ X = M.O
mutual
theorem repC_sh (S : Sh cl X M h) : ∀ (v : V) (cs : List Value), v.fit cl = true → repC w (mX X :: M') (.gone :: bs) v cs → repC w (M ++ M') (h ++ shiftBs (h.length - 1) bs) (v.shift (h.length - 1)) cs
  | .own b o l, cs, hf, H => by
    obtain ⟨cv, e, a, cap, h1, h2, h3, h4, h5⟩ := H
    refine ⟨cv, e, a, cap, h1, h2, h3, h4, ?_⟩
    rcases h5 with h5 | ⟨g, F, arr, t, k1, k2, k3, k4⟩
    · exact .inl h5
    · have en := nOf_sh (bs := bs) S.pos hf (h.length - 1)
      exact .inr ⟨g, F, arr, t, by rw [sh_get S.len hf S.pos M M' (mX X) S.len]; exact k1, by rw [en]; exact k2, k3, by rw [en]; exact k4⟩
  | .pB b p o, cs, hf, H => by
    obtain ⟨g, F, k1, e⟩ := H
    exact ⟨g, F, by rw [sh_get S.len hf S.pos M M' (mX X) S.len]; exact k1, e⟩
  | .pL b i p o, cs, hf, H => by
    obtain ⟨g, F, k1, e⟩ := H
    exact ⟨g, F, by rw [sh_get S.len hf S.pos M M' (mX X) S.len]; exact k1, by rw [nOf_sh (bs := bs) S.pos hf]; exact e⟩
  | .fn f caps, cs, hf, H => by
    obtain ⟨cvs, e, H⟩ := H
    exact ⟨cvs, e, repK_sh S caps cvs hf H⟩
  | .st fs, cs, hf, H => repCs_sh S fs cs hf H
  | .tup vs, cs, hf, H => H.elim
  | .top, cs, hf, H => H
  | .undef, cs, hf, H => H
  | .d y, cs, hf, H => by
    simp only [V.fit, Bool.or_eq_true, Bool.not_eq_true'] at hf
    show repD (MM.O (M ++ M')) w y cs
    have H' : repD (MM.O (mX X :: M')) w y cs := H
    rw [O_app]
    rw [O_cons, mO_mX] at H'
    rcases hf with hf | hf
    · rcases S.off with h | h
      · rw [hf] at h; cases h
      · rw [← h]; exact H'
    · exact flat_any hf H'
  | .nils, cs, hf, H => H
  | .nilp, cs, hf, H => H
  | .pX y, cs, hf, H => by
    simp only [V.fit, Bool.not_eq_true'] at hf
    obtain ⟨b, o, ces, e, h1, h2, h3, h4⟩ := H
    rw [O_cons, mO_mX] at h1 h4
    have hX : X = M.O := by
      rcases S.off with h | h
      · rw [hf] at h; cases h
      · exact h
    exact ⟨b, o, ces, e, by rw [O_app, ← hX]; exact h1, h2, h3, by rw [O_app, ← hX]; exact h4⟩
theorem repCs_sh (S : Sh cl X M h) : ∀ (vs : List V) (cs : List Value), V.fits cl vs = true → repCs w (mX X :: M') (.gone :: bs) vs cs → repCs w (M ++ M') (h ++ shiftBs (h.length - 1) bs) (V.shifts (h.length - 1) vs) cs
  | [], cs, _, H => H
  | v :: vs, cs, hf, H => by
    simp only [V.fits, Bool.and_eq_true] at hf
    obtain ⟨c1, c2, e, h1, h2⟩ := H
    exact ⟨c1, c2, e, repC_sh S v c1 hf.1 h1, repCs_sh S vs c2 hf.2 h2⟩
theorem repK_sh (S : Sh cl X M h) : ∀ (vs : List V) (cs : List Value), V.fits cl vs = true → repK w (mX X :: M') (.gone :: bs) vs cs → repK w (M ++ M') (h ++ shiftBs (h.length - 1) bs) (V.shifts (h.length - 1) vs) cs
  | [], cs, _, H => H
  | v :: vs, cs, hf, H => by
    simp only [V.fits, Bool.and_eq_true] at hf
    obtain ⟨c1, c2, e, h1, h2⟩ := H
    exact ⟨c1, c2, e, repC_sh S v [c1] hf.1 h1, repK_sh S vs c2 hf.2 h2⟩
end
theorem shift_agg (s : Nat) : ∀ v : V, (v.shift s).isAgg = v.isAgg := by intro v; cases v <;> rfl
theorem rep1_sh (S : Sh cl X M h) {v : V} {cv : Value} (hf : v.fit cl = true) (H : rep1 w (mX X :: M') (.gone :: bs) v cv) : rep1 w (M ++ M') (h ++ shiftBs (h.length - 1) bs) (v.shift (h.length - 1)) cv := by
  unfold rep1 at H ⊢
  rw [shift_agg]
  split at H
  · rename_i ha
    rw [if_pos ha]
    obtain ⟨cs, e, H⟩ := H
    exact ⟨cs, e, repC_sh S v cs hf H⟩
  · rename_i ha
    rw [if_neg ha]
    exact repC_sh S v [cv] hf H
theorem repT_sh (S : Sh cl X M h) : ∀ (vs : List V) (cs : List Value), V.fits cl vs = true → repT w (mX X :: M') (.gone :: bs) vs cs → repT w (M ++ M') (h ++ shiftBs (h.length - 1) bs) (V.shifts (h.length - 1) vs) cs
  | [], cs, _, H => H
  | v :: vs, cs, hf, H => by
    simp only [V.fits, Bool.and_eq_true] at hf
    obtain ⟨c1, c2, e, h1, h2⟩ := H
    exact ⟨c1, c2, e, rep1_sh S hf.1 h1, repT_sh S vs c2 hf.2 h2⟩
theorem rep_sh (S : Sh cl X M h) {v : V} {cv : Value} (hf : v.fit cl = true) (H : rep w (mX X :: M') (.gone :: bs) v cv) : rep w (M ++ M') (h ++ shiftBs (h.length - 1) bs) (v.shift (h.length - 1)) cv := by
  cases v with
  | tup vs =>
    obtain ⟨cvs, e, H⟩ := H
    exact ⟨cvs, e, repT_sh S vs cvs hf H⟩
  | top => trivial
  | undef => exact H
  | own b o l => exact rep1_sh S hf H
  | pB b p o => exact rep1_sh S hf H
  | pL b i p o => exact rep1_sh S hf H
  | fn f caps => exact rep1_sh S hf H
  | st fs => exact rep1_sh S hf H
  | d y => exact rep1_sh S hf H
  | nils => exact H
  | nilp => exact H
  | pX y => exact rep1_sh S hf H
theorem BRep_sh (S : Sh cl X M h) {k : Blk} {m : Option (Nat × List Nat)} (hf : k.fit cl = true) (H : BRep w (mX X :: M') (.gone :: bs) k m) : BRep w (M ++ M') (h ++ shiftBs (h.length - 1) bs) (k.shift (h.length - 1)) m := by
  cases k with
  | gone => cases hf
  | gho _ _ _ _ _ => cases hf
  | pin _ _ _ _ => cases hf
  | keep _ _ => cases hf
  | bld _ _ _ => cases hf
  | mp _ _ => cases hf
  | arr n xs dp =>
    cases m with
    | none => exact H
    | some p =>
      obtain ⟨g, F⟩ := p
      obtain ⟨arr, t, h1, h2, h3⟩ := H
      refine ⟨arr, t, h1, h2, ?_⟩
      cases dp with
      | true => exact h3
      | false =>
        rw [if_neg (by simp)] at h3 ⊢
        simp only [Blk.fit, Bool.or_eq_true, Bool.not_eq_true'] at hf
        rcases hf with hf | hf
        · have hX : X = M.O := by
            rcases S.off with h | h
            · rw [hf] at h; cases h
            · exact h
          rw [O_app, ← hX]
          rw [O_cons, mO_mX] at h3
          exact h3
        · cases hf
  | box v =>
    cases m with
    | none => exact H
    | some p =>
      obtain ⟨g, F⟩ := p
      obtain ⟨e, arr, t, h1, h2⟩ := H
      exact ⟨e, arr, t, h1, repC_sh S v _ hf h2⟩
end
theorem shiftBs_get (s : Nat) : ∀ (bs : List Blk) (b : Nat), (shiftBs s bs)[b]? = (bs[b]?).map (Blk.shift s)
  | [], b => by simp [shiftBs]
  | c :: bs, 0 => by simp [shiftBs]
  | c :: bs, b + 1 => by simp [shiftBs, shiftBs_get s bs b]
theorem shiftBs_len (s : Nat) : ∀ (bs : List Blk), (shiftBs s bs).length = bs.length
  | [] => rfl
  | c :: bs => by simp [shiftBs, shiftBs_len s bs]
theorem fitBs_get {cl : Bool} : ∀ (bs : List Blk) (b : Nat) (k : Blk), fitBs cl bs = true → bs[b]? = some k → k.fit cl = true
  | [], b, k, _, h => by simp at h
  | c :: bs, 0, k, hf, h => by simp [fitBs] at hf h; subst h; exact hf.1
  | c :: bs, b + 1, k, hf, h => by simp [fitBs] at hf h; exact fitBs_get bs b k hf.2 h
theorem fit_live {cl : Bool} {k : Blk} (h : k.fit cl = true) : k.live = true := by cases k <;> first | rfl | cases h

structure CallP (P : Program) (f : FuncId) (vs : List V) (h : List Blk) (K : V → List Blk → Prop) : Prop where
  ex : ∃ As v bs, PC P f As v bs ∧ borVs h vs As ∧ ((v.fit (!V.exts vs) && fitBs (!V.exts vs) bs && Nat.ble 1 h.length) = true) ∧ K (v.shift (h.length - 1)) (h ++ shiftBs (h.length - 1) bs)

theorem call_sound {P : Program} {B : World} {X0 : List Nat} {N : Nat} {M : MM} {e : Env} {h : List Blk} {a : Act} {w : World} (R : Rep B X0 N M e h a w) {f : FuncId} {vs : List V} {args : List Value}
    (hargs : repT w M h vs args) {K : V → List Blk → Prop} (H : CallP P f vs h K) :
    (∃ fn, P.funcs[f]? = some fn ∧ (fn.name == "runtime.NumGoroutine") = false ∧ fn.body.isNone = false) ∧
    Calls P f args.toArray w fun en w' => ∃ v cv h' M', en = .returned cv ∧ K v h' ∧ Ext w w' ∧ Rep B X0 N M' e h' a w' ∧ rep w' M' h' v cv := by
  obtain ⟨⟨As, v, bs, pc, hb, hf, hK⟩⟩ := H
  refine ⟨pc.fn, ?_⟩
  simp only [Bool.and_eq_true] at hf
  obtain ⟨⟨hf1, hf2⟩, h0⟩ := hf
  have h0 : 1 ≤ h.length := Nat.le_of_ble_eq_true h0
  have ⟨X, hX, hnd, hhi, S⟩ : ∃ X : List Nat, (X = [] ∨ V.exts vs = true ∧ X = M.O) ∧ X.Nodup ∧ (∀ b ∈ X, b < w.heap.size) ∧ Sh (!V.exts vs) X M h := by
    cases he : V.exts vs with
    | true => exact ⟨M.O, .inr ⟨rfl, rfl⟩, R.inv.nd, R.inv.hi, R.inv.len, h0, .inr rfl⟩
    | false => exact ⟨[], .inl rfl, by simp, by simp, R.inv.len, h0, .inl rfl⟩
  refine (pc.run w X args hnd hhi (borT_sound R.inv vs args As hargs hX hb)).mono ?_
  rintro en w' ⟨cv, M', rfl, hx, hI, hr⟩
  have hlen : M'.length = bs.length := by have := hI.len; simpa using this
  have hlo : ∀ g ∈ (MM.O M'), w.heap.size ≤ g := fun g hg => by
    obtain ⟨b, m, hm, hgm⟩ := mem_O_get hg
    obtain ⟨k, hk⟩ := at_lt (xs := bs) (k := b) (by rw [← hlen]; exact (List.getElem?_eq_some_iff.1 hm).1)
    exact hI.lo (b + 1) k m (by simpa using hk) (by simpa using hm) (fit_live (fitBs_get bs b k hf2 hk)) g hgm
  have hnd' : (MM.O M').Nodup := by
    have := hI.nd
    rw [O_cons] at this
    exact (List.nodup_append.1 this).2.1
  have hhi' : ∀ g ∈ (MM.O M'), g < w'.heap.size := fun g hg => hI.hi g (by rw [O_cons]; exact List.mem_append_right _ hg)
  have mv : Mv (fun _ => True) w M h w' (M ++ M') (h ++ shiftBs (h.length - 1) bs) := push_mv R.inv.len hx R.inv.hi hlo
  refine ⟨_, cv, _, M ++ M', rfl, hK, hx, R.step (R.ext.trans hx) (R.inv.push R.base hx (by rw [shiftBs_len]; exact hlen) hnd' hlo hhi' ?_) mv (fr_push R.fr _) (fr_push R.fh _), rep_sh S hf1 hr⟩
  intro b k m hk hm
  rw [shiftBs_get] at hk
  obtain ⟨k0, hk0, rfl⟩ := Option.map_eq_some_iff.1 hk
  exact BRep_sh S (fitBs_get bs b k0 hf2 hk0) (hI.blk (b + 1) k0 m (by simpa using hk0) (by simpa using hm))
/-- a call that may turn what is the caller's: what it does to every such caller -/
structure CallM (P : Program) (f : FuncId) (vs : List V) (e : Env) (h : List Blk) (K : V → Env → List Blk → Prop) : Prop where
  fn : ∃ fn, P.funcs[f]? = some fn ∧ (fn.name == "runtime.NumGoroutine") = false ∧ fn.body.isNone = false
  run : ∀ (B : World) (X : List Nat) (N : Nat) (M : MM) (a : Act) (w : World) (args : List Value), Rep B X N M e h a w → repT w M h vs args →
    Calls P f args.toArray w fun en w' => ∃ v cv e' h' M', en = .returned cv ∧ K v e' h' ∧ Rep B X N M' e' h' a w' ∧ rep w' M' h' v cv
/-- a call that leaves all that is the caller's as it is, told by what it does to every such caller -/
structure CallE (P : Program) (f : FuncId) (vs : List V) (e : Env) (h : List Blk) (K : V → Env → List Blk → Prop) : Prop where
  fn : ∃ fn, P.funcs[f]? = some fn ∧ (fn.name == "runtime.NumGoroutine") = false ∧ fn.body.isNone = false
  run : ∀ (B : World) (X : List Nat) (N : Nat) (M : MM) (a : Act) (w : World) (args : List Value), Rep B X N M e h a w → repT w M h vs args →
    Calls P f args.toArray w fun en w' => ∃ v cv h' M', en = .returned cv ∧ K v e h' ∧ Ext w w' ∧ Rep B X N M' e h' a w' ∧ rep w' M' h' v cv
/-- a call; dr: in a region that draws its order -/
structure CallW (P : Program) (dr : Bool) (f : FuncId) (vs : List V) (e : Env) (h : List Blk) (K : V → Env → List Blk → Prop) : Prop where
  ex : (CallP P f vs h (fun v h' => K v e h') ∨ CallE P f vs e h K) ∨ (dr = false ∧ CallM P f vs e h K)
theorem callW_sound {P : Program} {B : World} {X0 : List Nat} {N : Nat} {M : MM} {e : Env} {h : List Blk} {a : Act} {w : World} (R : Rep B X0 N M e h a w) {dr : Bool} {f : FuncId} {vs : List V} {args : List Value}
    (hargs : repT w M h vs args) {K : V → Env → List Blk → Prop} (H : CallW P dr f vs e h K) :
    (∃ fn, P.funcs[f]? = some fn ∧ (fn.name == "runtime.NumGoroutine") = false ∧ fn.body.isNone = false) ∧
    Calls P f args.toArray w fun en w' => ∃ v cv e' h' M', en = .returned cv ∧ K v e' h' ∧ (dr = true → Ext w w') ∧ Rep B X0 N M' e' h' a w' ∧ rep w' M' h' v cv := by
  rcases H.ex with (H | H) | ⟨hd, H⟩
  rotate_left
  · exact ⟨H.fn, (H.run B X0 N M a w args R hargs).mono fun en w' ⟨v, cv, h', M', k1, k2, k3, k4, k5⟩ => ⟨v, cv, e, h', M', k1, k2, fun _ => k3, k4, k5⟩⟩
  rotate_right
  · obtain ⟨h1, h2⟩ := call_sound R hargs H
    exact ⟨h1, h2.mono fun en w' ⟨v, cv, h', M', k1, k2, k3, k4, k5⟩ => ⟨v, cv, e, h', M', k1, k2, fun _ => k3, k4, k5⟩⟩
  · exact ⟨H.fn, (H.run B X0 N M a w args R hargs).mono fun en w' ⟨v, cv, e', h', M', k1, k2, k4, k5⟩ => ⟨v, cv, e', h', M', k1, k2, fun q => (by rw [hd] at q; cases q), k4, k5⟩⟩
end Go.Proofs.Ytdeafbgnbgihgaa
