/- The abstract machine, second part: abstract values, blocks that a call owns, and what keeps them. Leans on no program. -/
import Derived.Test.YtdeafbgnbgihgaaVM1
set_option linter.unusedSimpArgs false
set_option linter.unusedVariables false
namespace Go.Proofs.Ytdeafbgnbgihgaa
open Go.RowKit

inductive V where
  | top
  | undef
  | d (x : D)
  | nils
  | nilp
  | own (b off len : Nat)
  | pB (b : Nat) (path : List Nat) (off : Nat)
  | pL (b i : Nat) (path : List Nat) (off : Nat)
  | pX (x : D)
  | fn (f : Fn) (caps : List V)
  | st (fs : List V)
  | tup (vs : List V)

abbrev Env := List (Nat × V)
def gt : Env → Nat → V
  | [], _ => .top
  | (k, v) :: r, i => bif Nat.beq k i then v else gt r i
inductive Blk where
  | arr (n : Nat) (xs : List D) (deep : Bool)
  | box (v : V)
  | gone
  /-- what a call that turns a block of its caller's keeps: all other memory, the heap's size, the block's place -/
  | gho (c : Nat → Option Obj) (s g sz : Nat) (t : TypeId)
  /-- block c lies at g, in a row of one cell less than sz (sz = 0: nothing is said) -/
  | pin (c g sz : Nat) (t : TypeId)
  /-- the slots of the function that called this one -/
  | keep (e : List (Nat × V)) (f : Nat → Value)
  /-- a strings.Builder (its type, the type of a byte), and what it holds -/
  | bld (T E : TypeId) (bs : List UInt8)
  /-- a map (its keys' kind of number; none: strings), its entries in order -/
  | mp (tg : Option IntKind) (es : List (D × D))
def Blk.live : Blk → Bool
  | .gone => false
  | .arr _ _ _ => true
  | .box _ => true
  | .gho _ _ _ _ _ => true
  | .pin _ _ _ _ => true
  | .keep _ _ => true
  | .bld _ _ _ => true
  | .mp _ _ => true

/-- a pointer into a block; at a certain offset: the map that is the block -/
def pbv (g off : Nat) : Value := bif Nat.beq off 1000000007 then .map (some g) else .pointer (some ⟨g, off, none⟩)
theorem pbv_lo {g off : Nat} (h : Nat.ble off 1000000 = true) : pbv g off = .pointer (some ⟨g, off, none⟩) := by
  unfold pbv
  cases hq : Nat.beq off 1000000007 with
  | false => rfl
  | true =>
    have := Nat.eq_of_beq_eq_true hq
    have := Nat.le_of_ble_eq_true h
    omega
theorem pbv_one (g off : Nat) : (pbv g off).oneCell' = true := by
  unfold pbv
  cases Nat.beq off 1000000007 <;> rfl

abbrev MM := List (Option (Nat × List Nat))
def mO : Option (Nat × List Nat) → List Nat
  | none => []
  | some (g, F) => g :: F
def MM.O (M : MM) : List Nat := M.flatMap mO
def nOf (h : List Blk) (b : Nat) : Nat :=
  match h[b]? with
  | some (.arr n _ _) => n
  | _ => 0

def ownR (w : World) (M : MM) (h : List Blk) (b off len : Nat) (cv : Value) : Prop :=
  ∃ a cap, cv = .slice a len cap ∧ len ≤ cap ∧ cap ≤ maxLen ∧ (a = none → cap = 0) ∧
    (cap = 0 ∨ ∃ g F arr t, M[b]? = some (some (g, F)) ∧ a = some ⟨g, off * nOf h b, none⟩ ∧ w.heap[g]? = some (.cells arr t (0, 0)) ∧ (off + cap) * nOf h b ≤ arr.size)

mutual
def repC (w : World) (M : MM) (h : List Blk) : V → List Value → Prop
  | .top, cs => ∃ c : Value, cs = [c] ∧ c.oneCell' = true
  | .undef, _ => False
  | .d x, cs => repD M.O w x cs
  | .nils, cs => cs = [.slice none 0 0]
  | .nilp, cs => cs = [.pointer none]
  | .own b off len, cs => ∃ cv, cs = [cv] ∧ ownR w M h b off len cv
  | .pB b _ off, cs => ∃ g F, M[b]? = some (some (g, F)) ∧ cs = [pbv g off]
  | .pL b i _ off, cs => ∃ g F, M[b]? = some (some (g, F)) ∧ cs = [.pointer (some ⟨g, i * nOf h b + off, none⟩)]
  | .pX x, cs => ∃ b o ces, cs = [.pointer (some ⟨b, o, none⟩)] ∧ b ∉ M.O ∧ b < w.heap.size ∧ CellsAt w b o ces ∧ repD M.O w x ces
  | .fn f caps, cs => ∃ cvs, cs = [.func f #[] cvs.toArray] ∧ repK w M h caps cvs
  | .st fs, cs => repCs w M h fs cs
  | .tup _, _ => False
def repCs (w : World) (M : MM) (h : List Blk) : List V → List Value → Prop
  | [], cs => cs = []
  | f :: fs, cs => ∃ c1 c2, cs = c1 ++ c2 ∧ repC w M h f c1 ∧ repCs w M h fs c2
def repK (w : World) (M : MM) (h : List Blk) : List V → List Value → Prop
  | [], cs => cs = []
  | f :: fs, cs => ∃ c cs', cs = c :: cs' ∧ repC w M h f [c] ∧ repK w M h fs cs'
end
def V.isAgg : V → Bool
  | .st _ => true
  | .d x => x.agg
  | _ => false
/-- a value that is one variable's -/
def rep1 (w : World) (M : MM) (h : List Blk) (v : V) (cv : Value) : Prop :=
  if v.isAgg = true then ∃ cs : List Value, cv = .agg cs.toArray ∧ repC w M h v cs else repC w M h v [cv]
def repT (w : World) (M : MM) (h : List Blk) : List V → List Value → Prop
  | [], cs => cs = []
  | f :: fs, cs => ∃ c cs', cs = c :: cs' ∧ rep1 w M h f c ∧ repT w M h fs cs'
/-- what a slot holds -/
def rep (w : World) (M : MM) (h : List Blk) (v : V) (cv : Value) : Prop :=
  match v with
  | .top => True
  | .undef => cv = Go.undef
  | .tup vs => ∃ cvs : List Value, cv = .tuple cvs.toArray ∧ repT w M h vs cvs
  | v => rep1 w M h v cv

mutual
def V.inS (S : Nat → Prop) : V → Prop
  | .own b _ _ => S b
  | .pB b _ _ => S b
  | .pL b _ _ _ => S b
  | .fn _ caps => V.inSs S caps
  | .st fs => V.inSs S fs
  | .tup vs => V.inSs S vs
  | .top => True
  | .undef => True
  | .d _ => True
  | .nils => True
  | .nilp => True
  | .pX _ => True
def V.inSs (S : Nat → Prop) : List V → Prop
  | [] => True
  | v :: vs => v.inS S ∧ V.inSs S vs
end
mutual
theorem V.inS_all : ∀ v : V, v.inS fun _ => True
  | .own _ _ _ => trivial
  | .pB _ _ _ => trivial
  | .pL _ _ _ _ => trivial
  | .fn _ caps => V.inSs_all caps
  | .st fs => V.inSs_all fs
  | .tup vs => V.inSs_all vs
  | .top => trivial
  | .undef => trivial
  | .d _ => trivial
  | .nils => trivial
  | .nilp => trivial
  | .pX _ => trivial
theorem V.inSs_all : ∀ vs : List V, V.inSs (fun _ => True) vs
  | [] => trivial
  | v :: vs => ⟨V.inS_all v, V.inSs_all vs⟩
end
mutual
/-- forget what refers to block x -/
def V.kill (x : Nat) : V → V
  | .own b o l => if b = x then .top else .own b o l
  | .pB b p o => if b = x then .top else .pB b p o
  | .pL b i p o => if b = x then .top else .pL b i p o
  | .fn f caps => .fn f (V.kills x caps)
  | .st fs => .st (V.kills x fs)
  | .tup vs => .tup (V.kills x vs)
  | .top => .top
  | .undef => .undef
  | .d y => .d y
  | .nils => .nils
  | .nilp => .nilp
  | .pX y => .pX y
def V.kills (x : Nat) : List V → List V
  | [] => []
  | v :: vs => v.kill x :: V.kills x vs
end
def killE (x : Nat) : Env → Env
  | [] => []
  | (k, v) :: r => (k, v.kill x) :: killE x r
def inSE (S : Nat → Prop) : Env → Prop
  | [] => True
  | (_, v) :: r => v.inS S ∧ inSE S r
theorem inSE_all : ∀ e : Env, inSE (fun _ => True) e
  | [] => trivial
  | (_, v) :: r => ⟨V.inS_all v, inSE_all r⟩
theorem inSE_gt {S : Nat → Prop} : ∀ (e : Env), inSE S e → ∀ k, (gt e k).inS S
  | [], _, _ => trivial
  | (j, v) :: r, H, k => by
    show V.inS S (bif Nat.beq j k then v else gt r k)
    cases Nat.beq j k with
    | true => exact H.1
    | false => exact inSE_gt r H.2 k
theorem gt_kill (x : Nat) : ∀ (e : Env) (k : Nat), gt (killE x e) k = (gt e k).kill x
  | [], k => rfl
  | (j, v) :: r, k => by
    show (bif Nat.beq j k then v.kill x else gt (killE x r) k) = V.kill x (bif Nat.beq j k then v else gt r k)
    cases Nat.beq j k with
    | true => rfl
    | false => exact gt_kill x r k
def Blk.kill (x : Nat) : Blk → Blk
  | .box v => .box (v.kill x)
  | .gho c s g sz t => bif Nat.beq x 2 then .gone else .gho c s g sz t
  | .pin c g sz t => bif Nat.beq x c then .gone else .pin c g sz t
  | .keep e f => .keep (killE x e) f
  | b => b
def Blk.inS (S : Nat → Prop) : Blk → Prop
  | .box v => v.inS S
  | .gho _ _ _ _ _ => S 2
  | .pin c _ _ _ => S c
  | .keep e _ => inSE S e
  | _ => True
mutual
theorem V.kill_inS (x : Nat) : ∀ v : V, (v.kill x).inS (fun b => b ≠ x)
  | .own b _ _ => by
    unfold V.kill; split
    · trivial
    · assumption
  | .pB b _ _ => by
    unfold V.kill; split
    · trivial
    · assumption
  | .pL b _ _ _ => by
    unfold V.kill; split
    · trivial
    · assumption
  | .fn _ caps => V.kills_inS x caps
  | .st fs => V.kills_inS x fs
  | .tup vs => V.kills_inS x vs
  | .top => trivial
  | .undef => trivial
  | .d _ => trivial
  | .nils => trivial
  | .nilp => trivial
  | .pX _ => trivial
theorem V.kills_inS (x : Nat) : ∀ vs : List V, V.inSs (fun b => b ≠ x) (V.kills x vs)
  | [] => trivial
  | v :: vs => ⟨V.kill_inS x v, V.kills_inS x vs⟩
end
theorem killE_inS (x : Nat) : ∀ e : Env, inSE (fun b => b ≠ x) (killE x e)
  | [] => trivial
  | (_, v) :: r => ⟨V.kill_inS x v, killE_inS x r⟩
theorem Blk.kill_inS (x : Nat) : ∀ k : Blk, (k.kill x).inS (fun b => b ≠ x)
  | .box v => V.kill_inS x v
  | .keep e _ => killE_inS x e
  | .bld _ _ _ => trivial
  | .mp _ _ => trivial
  | .arr _ _ _ => trivial
  | .gone => trivial
  | .gho c s g sz t => by
    unfold Blk.kill
    cases hx : Nat.beq x 2 with
    | true => trivial
    | false =>
      show 2 ≠ x
      intro e
      subst e
      cases hx
  | .pin c g sz t => by
    show Blk.inS _ (bif Nat.beq x c then .gone else .pin c g sz t)
    cases hx : Nat.beq x c with
    | true => trivial
    | false =>
      show c ≠ x
      intro e
      subst e
      rw [Nat.beq_refl] at hx
      cases hx

section
variable {w : World} {M : MM} {h : List Blk}
mutual
theorem repC_kill (x : Nat) : ∀ (v : V) (cs : List Value), repC w M h v cs → repC w M h (v.kill x) cs
  | .own b o l, cs, H => by
    unfold V.kill; split
    · obtain ⟨cv, rfl, a, cap, rfl, _⟩ := H; exact ⟨_, rfl, rfl⟩
    · exact H
  | .pB b p o, cs, H => by
    unfold V.kill; split
    · obtain ⟨g, F, _, rfl⟩ := H; exact ⟨_, rfl, pbv_one _ _⟩
    · exact H
  | .pL b i p o, cs, H => by
    unfold V.kill; split
    · obtain ⟨g, F, _, rfl⟩ := H; exact ⟨_, rfl, rfl⟩
    · exact H
  | .fn f caps, cs, H => by
    obtain ⟨cvs, e, H⟩ := H
    exact ⟨cvs, e, repK_kill x caps cvs H⟩
  | .st fs, cs, H => repCs_kill x fs cs H
  | .tup vs, cs, H => H.elim
  | .top, cs, H => H
  | .undef, cs, H => H
  | .d y, cs, H => H
  | .nils, cs, H => H
  | .nilp, cs, H => H
  | .pX y, cs, H => H
theorem repCs_kill (x : Nat) : ∀ (vs : List V) (cs : List Value), repCs w M h vs cs → repCs w M h (V.kills x vs) cs
  | [], cs, H => H
  | v :: vs, cs, H => by
    obtain ⟨c1, c2, e, h1, h2⟩ := H
    exact ⟨c1, c2, e, repC_kill x v c1 h1, repCs_kill x vs c2 h2⟩
theorem repK_kill (x : Nat) : ∀ (vs : List V) (cs : List Value), repK w M h vs cs → repK w M h (V.kills x vs) cs
  | [], cs, H => H
  | v :: vs, cs, H => by
    obtain ⟨c1, c2, e, h1, h2⟩ := H
    exact ⟨c1, c2, e, repC_kill x v [c1] h1, repK_kill x vs c2 h2⟩
end
theorem V.kill_agg (x : Nat) : ∀ v : V, (v.kill x).isAgg = v.isAgg
  | .own _ _ _ => by unfold V.kill; split <;> rfl
  | .pB _ _ _ => by unfold V.kill; split <;> rfl
  | .pL _ _ _ _ => by unfold V.kill; split <;> rfl
  | .fn _ _ => rfl
  | .st _ => rfl
  | .tup _ => rfl
  | .top => rfl
  | .undef => rfl
  | .d _ => rfl
  | .nils => rfl
  | .nilp => rfl
  | .pX _ => rfl
theorem rep1_kill (x : Nat) (v : V) (cv : Value) (H : rep1 w M h v cv) : rep1 w M h (v.kill x) cv := by
  unfold rep1 at *
  rw [V.kill_agg]
  split
  · rename_i h1
    rw [if_pos h1] at H
    obtain ⟨cs, e, H⟩ := H
    exact ⟨cs, e, repC_kill x v cs H⟩
  · rename_i h1
    rw [if_neg h1] at H
    exact repC_kill x v _ H
theorem repT_kill (x : Nat) : ∀ (vs : List V) (cs : List Value), repT w M h vs cs → repT w M h (V.kills x vs) cs
  | [], cs, H => H
  | v :: vs, cs, H => by
    obtain ⟨c1, c2, e, h1, h2⟩ := H
    exact ⟨c1, c2, e, rep1_kill x v c1 h1, repT_kill x vs c2 h2⟩
theorem rep_of_rep1 {v : V} {cv : Value} (H : rep1 w M h v cv) : rep w M h v cv := by
  cases v <;> first | trivial | exact H | exact H.elim
theorem rep_kill (x : Nat) (v : V) (cv : Value) (H : rep w M h v cv) : rep w M h (v.kill x) cv := by
  cases v with
  | tup vs =>
    obtain ⟨cvs, e, H⟩ := H
    exact ⟨cvs, e, repT_kill x vs cvs H⟩
  | top => trivial
  | undef => exact H
  | own b o l => exact rep_of_rep1 (rep1_kill x _ _ H)
  | pB b p o => exact rep_of_rep1 (rep1_kill x _ _ H)
  | pL b i p o => exact rep_of_rep1 (rep1_kill x _ _ H)
  | fn f caps => exact rep_of_rep1 (rep1_kill x _ _ H)
  | st fs => exact rep_of_rep1 (rep1_kill x _ _ H)
  | d y => exact H
  | nils => exact H
  | nilp => exact H
  | pX y => exact H
end

/-- a step that keeps the blocks numbered by S, and all that is outside -/
structure Mv (S : Nat → Prop) (w : World) (M : MM) (h : List Blk) (w' : World) (M' : MM) (h' : List Blk) : Prop where
  ext : ∀ b : Nat, b ∉ M.O → b < w.heap.size → b ∉ M'.O ∧ w'.heap[b]? = w.heap[b]?
  ids : ∀ (b g : Nat) (F : List Nat), S b → M[b]? = some (some (g, F)) → ∃ F', M'[b]? = some (some (g, F'))
  row : ∀ (b g : Nat) (F : List Nat) (arr : Array Value) (t : TypeId), S b → M[b]? = some (some (g, F)) → w.heap[g]? = some (.cells arr t (0, 0)) → ∃ arr' : Array Value, w'.heap[g]? = some (.cells arr' t (0, 0)) ∧ arr'.size = arr.size
  nof : ∀ (b g : Nat) (F : List Nat), S b → M[b]? = some (some (g, F)) → nOf h' b = nOf h b
  sz : w.heap.size ≤ w'.heap.size
section
variable {S : Nat → Prop} {w w' : World} {M M' : MM} {h h' : List Blk}
mutual
theorem repC_mv (m : Mv S w M h w' M' h') : ∀ (v : V) (cs : List Value), v.inS S → repC w M h v cs → repC w' M' h' v cs
  | .own b o l, cs, hS, H => by
    obtain ⟨cv, e, a, cap, h1, h2, h3, h4, h5⟩ := H
    refine ⟨cv, e, a, cap, h1, h2, h3, h4, ?_⟩
    rcases h5 with h5 | ⟨g, F, arr, t, k1, k2, k3, k4⟩
    · exact .inl h5
    · obtain ⟨F', e1⟩ := m.ids b g F hS k1
      obtain ⟨arr', e2, e3⟩ := m.row b g F arr t hS k1 k3
      have e4 := m.nof b g F hS k1
      exact .inr ⟨g, F', arr', t, e1, by rw [e4]; exact k2, e2, by rw [e4, e3]; exact k4⟩
  | .pB b p o, cs, hS, H => by
    obtain ⟨g, F, k1, e⟩ := H
    obtain ⟨F', e1⟩ := m.ids b g F hS k1
    exact ⟨g, F', e1, e⟩
  | .pL b i p o, cs, hS, H => by
    obtain ⟨g, F, k1, e⟩ := H
    obtain ⟨F', e1⟩ := m.ids b g F hS k1
    exact ⟨g, F', e1, by rw [m.nof b g F hS k1]; exact e⟩
  | .fn f caps, cs, hS, H => by
    obtain ⟨cvs, e, H⟩ := H
    exact ⟨cvs, e, repK_mv m caps cvs hS H⟩
  | .st fs, cs, hS, H => repCs_mv m fs cs hS H
  | .tup vs, cs, _, H => H.elim
  | .top, cs, _, H => H
  | .undef, cs, _, H => H
  | .d y, cs, _, H => repD_mv m.ext y cs H
  | .nils, cs, _, H => H
  | .nilp, cs, _, H => H
  | .pX y, cs, _, H => by
    obtain ⟨b, o, ces, e, h1, h2, h3, h4⟩ := H
    obtain ⟨k1, k2⟩ := m.ext b h1 h2
    refine ⟨b, o, ces, e, k1, ?_, fun j v hj => ?_, repD_mv m.ext y ces h4⟩
    · rcases Nat.lt_or_ge b w'.heap.size with hlt | hge
      · exact hlt
      · rw [Array.getElem?_eq_none hge] at k2
        rw [Array.getElem?_eq_getElem h2] at k2
        cases k2
    · have := h3 j v hj
      simp only [World.cell?, k2] at this ⊢
      exact this
theorem repCs_mv (m : Mv S w M h w' M' h') : ∀ (vs : List V) (cs : List Value), V.inSs S vs → repCs w M h vs cs → repCs w' M' h' vs cs
  | [], cs, _, H => H
  | v :: vs, cs, hS, H => by
    obtain ⟨c1, c2, e, h1, h2⟩ := H
    exact ⟨c1, c2, e, repC_mv m v c1 hS.1 h1, repCs_mv m vs c2 hS.2 h2⟩
theorem repK_mv (m : Mv S w M h w' M' h') : ∀ (vs : List V) (cs : List Value), V.inSs S vs → repK w M h vs cs → repK w' M' h' vs cs
  | [], cs, _, H => H
  | v :: vs, cs, hS, H => by
    obtain ⟨c1, c2, e, h1, h2⟩ := H
    exact ⟨c1, c2, e, repC_mv m v [c1] hS.1 h1, repK_mv m vs c2 hS.2 h2⟩
end
theorem rep1_mv (m : Mv S w M h w' M' h') (v : V) (cv : Value) (hS : v.inS S) (H : rep1 w M h v cv) : rep1 w' M' h' v cv := by
  unfold rep1 at *
  split
  · rename_i h1
    rw [if_pos h1] at H
    obtain ⟨cs, e, H⟩ := H
    exact ⟨cs, e, repC_mv m v cs hS H⟩
  · rename_i h1
    rw [if_neg h1] at H
    exact repC_mv m v _ hS H
theorem repT_mv (m : Mv S w M h w' M' h') : ∀ (vs : List V) (cs : List Value), V.inSs S vs → repT w M h vs cs → repT w' M' h' vs cs
  | [], cs, _, H => H
  | v :: vs, cs, hS, H => by
    obtain ⟨c1, c2, e, h1, h2⟩ := H
    exact ⟨c1, c2, e, rep1_mv m v c1 hS.1 h1, repT_mv m vs c2 hS.2 h2⟩
theorem rep_mv (m : Mv S w M h w' M' h') (v : V) (cv : Value) (hS : v.inS S) (H : rep w M h v cv) : rep w' M' h' v cv := by
  cases v with
  | tup vs =>
    obtain ⟨cvs, e, H⟩ := H
    exact ⟨cvs, e, repT_mv m vs cvs hS H⟩
  | top => trivial
  | undef => exact H
  | own b o l => exact rep1_mv m _ _ hS H
  | pB b p o => exact rep1_mv m _ _ hS H
  | pL b i p o => exact rep1_mv m _ _ hS H
  | fn f caps => exact rep1_mv m _ _ hS H
  | st fs => exact rep1_mv m _ _ hS H
  | d y => exact rep1_mv m _ _ hS H
  | nils => exact H
  | nilp => exact H
  | pX y => exact rep1_mv m _ _ hS H
end

/-- the elements of a row that lie outside -/
def extDe (O : List Nat) (w : World) (arr : Array Value) (n : Nat) : List D → Nat → Prop
  | [], _ => True
  | x :: xs, i => (∃ ces : List Value, x.size = n ∧ (∀ j v, ces[j]? = some v → arr[i * n + j]? = some v) ∧ repD O w x ces) ∧ extDe O w arr n xs (i + 1)
/-- the row of a strings.Builder: its slice v holds bs, in the blocks F -/
def rowR (w : World) (v : Value) (F : List Nat) (E : TypeId) (bs : List UInt8) : Prop :=
  (v = .slice none 0 0 ∧ bs = [] ∧ F = []) ∨
  ∃ r cap cur fz, v = .slice (some ⟨r, 0, none⟩) bs.length cap ∧ F = [r] ∧ w.heap[r]? = some (.cells cur E fz) ∧ fz.2 ≤ bs.length ∧ bs.length ≤ cap ∧ cap ≤ maxLen ∧ cur.size = cap ∧
    cur.toList.take bs.length = (bs.map fun c => Value.int .u8 (c.toNat : Int)) ∧ bs ≠ []
/-- a strings.Builder at g, its row F -/
def bldR (w : World) (g : Nat) (F : List Nat) (T E : TypeId) (bs : List UInt8) : Prop :=
  ∃ p v, w.heap[g]? = some (.cells #[p, v] T (0, 0)) ∧ (p = .pointer none ∨ p = .pointer (some ⟨g, 0, none⟩)) ∧ rowR w v F E bs
/-- the entries of a map -/
def entR (w : World) (M : MM) (h : List Blk) : List (D × D) → List MapEntry → Prop
  | [], l => l = []
  | (k, v) :: es, l => ∃ x l', l = x :: l' ∧ rep1 w M h (.d k) x.key ∧ rep1 w M h (.d v) x.val ∧ entR w M h es l'
def keyK : Option IntKind → D → Bool
  | some k, .int k' _ => decide (k' = k)
  | none, .str _ => true
  | _, _ => false
def BRep (w : World) (M : MM) (h : List Blk) (k : Blk) (m : Option (Nat × List Nat)) : Prop :=
  match k, m with
  | .gone, _ => True
  | .arr _ xs _, none => xs = []
  | .arr n xs dp, some (g, F) => ∃ arr t, w.heap[g]? = some (.cells arr t (0, 0)) ∧ xs.length * n ≤ arr.size ∧ (if dp = true then ownDe w arr n xs 0 F else F = [] ∧ extDe M.O w arr n xs 0)
  | .box v, some (g, F) => F = [] ∧ ∃ arr t, w.heap[g]? = some (.cells arr t (0, 0)) ∧ repC w M h v arr.toList
  | .box _, none => False
  | .gho c s g sz t, _ => (∀ b o, c b = some o → b ∉ M.O ∧ w.heap[b]? = some o) ∧ s ≤ w.heap.size ∧ ∃ F, M[2]? = some (some (g, F)) ∧ (sz = 0 ∨ ∃ arr, w.heap[g]? = some (.cells arr t (0, 0)) ∧ arr.size + 1 = sz)
  | .pin c g sz t, _ => sz = 0 ∨ ∃ F arr, M[c]? = some (some (g, F)) ∧ w.heap[g]? = some (.cells arr t (0, 0)) ∧ arr.size + 1 = sz
  | .keep e f, _ => ∀ k, rep w M h (gt e k) (f k)
  | .bld _ _ _, none => False
  | .bld T E bs, some (g, F) => bldR w g F T E bs
  | .mp _ _, none => False
  | .mp tg es, some (g, F) => F = [] ∧ (∀ p ∈ es, keyK tg p.1 = true) ∧ ∃ ents ck, w.heap[g]? = some (.map ents ck) ∧ entR w M h es ents.toList
structure MInv (B : Nat) (w : World) (M : MM) (h : List Blk) : Prop where
  len : M.length = h.length
  blk : ∀ (b : Nat) (k : Blk) (m : Option (Nat × List Nat)), h[b]? = some k → M[b]? = some m → BRep w M h k m
  nd : M.O.Nodup
  lo : ∀ (b : Nat) (k : Blk) (m : Option (Nat × List Nat)), h[b]? = some k → M[b]? = some m → k.live = true → ∀ g ∈ mO m, B ≤ g
  hi : ∀ g ∈ M.O, g < w.heap.size

theorem extDe_mv {O O' : List Nat} {w w' : World} {arr : Array Value} {n : Nat} (H : ∀ b, b ∉ O → b < w.heap.size → b ∉ O' ∧ w'.heap[b]? = w.heap[b]?) : ∀ (xs : List D) (i : Nat), extDe O w arr n xs i → extDe O' w' arr n xs i
  | [], _, h => h
  | x :: xs, i, ⟨⟨ces, h1, h2, h3⟩, h4⟩ => ⟨⟨ces, h1, h2, repD_mv H x ces h3⟩, extDe_mv H xs (i + 1) h4⟩
theorem entR_mv {S : Nat → Prop} {w w' : World} {M M' : MM} {h h' : List Blk} (mv : Mv S w M h w' M' h') : ∀ (es : List (D × D)) (l : List MapEntry), entR w M h es l → entR w' M' h' es l
  | [], l, H => H
  | (k, v) :: es, l, H => by
    obtain ⟨x, l', e, h1, h2, h3⟩ := H
    exact ⟨x, l', e, rep1_mv mv _ _ trivial h1, rep1_mv mv _ _ trivial h2, entR_mv mv es l' h3⟩
theorem BRep_mv {S : Nat → Prop} {w w' : World} {M M' : MM} {h h' : List Blk} (mv : Mv S w M h w' M' h') {k : Blk} {m : Option (Nat × List Nat)} (hk : k.inS S)
    (hb : ∀ b ∈ mO m, w'.heap[b]? = w.heap[b]?) (H : BRep w M h k m) : BRep w' M' h' k m := by
  cases k with
  | gone => exact H
  | arr n xs dp =>
    cases m with
    | none => exact H
    | some p =>
      obtain ⟨g, F⟩ := p
      obtain ⟨arr, t, h1, h2, h3⟩ := H
      refine ⟨arr, t, by rw [hb g (by simp [mO])]; exact h1, h2, ?_⟩
      split
      · rename_i hd
        rw [if_pos hd] at h3
        exact ownDe_mv arr n xs 0 F (fun b h => hb b (by simp [mO, h])) h3
      · rename_i hd
        rw [if_neg hd] at h3
        exact ⟨h3.1, extDe_mv mv.ext xs 0 h3.2⟩
  | box v =>
    cases m with
    | none => exact H
    | some p =>
      obtain ⟨g, F⟩ := p
      obtain ⟨rfl, arr, t, h1, h2⟩ := H
      exact ⟨rfl, arr, t, by rw [hb g (by simp [mO])]; exact h1, repC_mv mv v _ hk h2⟩
  | gho c s g sz t =>
    obtain ⟨h1, h2, F, h3, h4⟩ := H
    obtain ⟨F', k1⟩ := mv.ids 2 g F hk h3
    refine ⟨fun b o hc => ?_, Nat.le_trans h2 mv.sz, F', k1, h4.imp id fun ⟨arr, h4, h5⟩ => (mv.row 2 g F arr t hk h3 h4).elim fun arr' ⟨k2, k3⟩ => ⟨arr', k2, by rw [k3]; exact h5⟩⟩
    obtain ⟨q1, q2⟩ := h1 b o hc
    obtain ⟨r1, r2⟩ := mv.ext b q1 (lt_of_heap q2)
    exact ⟨r1, by rw [r2]; exact q2⟩
  | pin c g sz t =>
    rcases H with H | ⟨F, arr, h3, h4, h5⟩
    · exact .inl H
    · obtain ⟨F', k1⟩ := mv.ids c g F hk h3
      obtain ⟨arr', k2, k3⟩ := mv.row c g F arr t hk h3 h4
      exact .inr ⟨F', arr', k1, k2, by rw [k3]; exact h5⟩
  | keep e f => exact fun k => rep_mv mv _ _ (inSE_gt e hk k) (H k)
  | mp tg es =>
    cases m with
    | none => exact H
    | some p =>
      obtain ⟨g, F⟩ := p
      obtain ⟨rfl, hk, ents, ck, h1, h2⟩ := H
      exact ⟨rfl, hk, ents, ck, by rw [hb g (by simp [mO])]; exact h1, entR_mv mv es _ h2⟩
  | bld T E bs =>
    cases m with
    | none => exact H
    | some p =>
      obtain ⟨g, F⟩ := p
      obtain ⟨p, v, h1, h2, h3⟩ := H
      refine ⟨p, v, by rw [hb g (by simp [mO])]; exact h1, h2, ?_⟩
      rcases h3 with h3 | ⟨r, cap, cur, fz, e1, rfl, e3, e4⟩
      · exact .inl h3
      · exact .inr ⟨r, cap, cur, fz, e1, rfl, by rw [hb r (by simp [mO])]; exact e3, e4⟩

theorem mem_O {M : MM} {b : Nat} {m : Option (Nat × List Nat)} (hm : M[b]? = some m) {g : Nat} (hg : g ∈ mO m) : g ∈ M.O :=
  List.mem_flatMap.2 ⟨m, List.mem_of_getElem? hm, hg⟩
theorem O_app (M M' : MM) : MM.O (M ++ M') = M.O ++ M'.O := List.flatMap_append
theorem O_one (m : Option (Nat × List Nat)) : MM.O [m] = mO m := by simp [MM.O]
theorem mem_O_get {M : MM} {g : Nat} (h : g ∈ M.O) : ∃ (b : Nat) (m : Option (Nat × List Nat)), M[b]? = some m ∧ g ∈ mO m := by
  obtain ⟨m, hm, hg⟩ := List.mem_flatMap.1 h
  obtain ⟨b, hb⟩ := List.getElem?_of_mem hm
  exact ⟨b, m, hb, hg⟩

/-- nothing that is there turns -/
theorem Ext.mv {w w' : World} {M : MM} {h : List Blk} (hx : Ext w w') (hi : ∀ g ∈ M.O, g < w.heap.size) : Mv (fun _ => True) w M h w' M h where
  ext b hb hlt := ⟨hb, hx.below.block b hlt⟩
  ids b g F _ hM := ⟨F, hM⟩
  row b g F arr t _ hM hg := ⟨arr, by rw [hx.below.block g (hi g (mem_O hM (by simp [mO])))]; exact hg, rfl⟩
  nof _ _ _ _ _ := rfl
  sz := hx.size
theorem MInv.ext {B : Nat} {w w' : World} {M : MM} {h : List Blk} (H : MInv B w M h) (hx : Ext w w') : MInv B w' M h where
  len := H.len
  blk b k m hk hm := BRep_mv (hx.mv H.hi) (by cases k <;> first | trivial | exact V.inS_all _ | exact inSE_all _) (fun c hc => hx.below.block c (H.hi c (mem_O hm hc))) (H.blk b k m hk hm)
  nd := H.nd
  lo := H.lo
  hi g hg := Nat.lt_of_lt_of_le (H.hi g hg) hx.size

theorem get_app_left {α : Type} {M N : List α} {b : Nat} {m : α} (h : M[b]? = some m) : (M ++ N)[b]? = some m := by
  rw [List.getElem?_append_left (List.getElem?_eq_some_iff.1 h).1]; exact h
theorem nOf_app {h hn : List Blk} {b : Nat} (hb : b < h.length) : nOf (h ++ hn) b = nOf h b := by
  unfold nOf; rw [List.getElem?_append_left hb]
/-- new blocks -/
theorem push_mv {w w' : World} {M Mn : MM} {h hn : List Blk} (hl : M.length = h.length) (hx : Ext w w') (hi : ∀ g ∈ M.O, g < w.heap.size) (hn' : ∀ g ∈ Mn.O, w.heap.size ≤ g) : Mv (fun _ => True) w M h w' (M ++ Mn) (h ++ hn) where
  ext b hb hlt := ⟨by
    rw [O_app, List.mem_append]
    rintro (h1 | h1)
    · exact hb h1
    · have := hn' b h1; omega, hx.below.block b hlt⟩
  ids b g F _ hM := ⟨F, get_app_left hM⟩
  row b g F arr t _ hM hg := ⟨arr, by rw [hx.below.block g (hi g (mem_O hM (by simp [mO])))]; exact hg, rfl⟩
  nof b g F _ hM := nOf_app (by rw [← hl]; exact (List.getElem?_eq_some_iff.1 hM).1)
  sz := hx.size
theorem MInv.push {B : Nat} {w w' : World} {M Mn : MM} {h hn : List Blk} (H : MInv B w M h) (hB : B ≤ w.heap.size) (hx : Ext w w') (hl : Mn.length = hn.length) (hnd : Mn.O.Nodup)
    (hlo : ∀ g ∈ Mn.O, w.heap.size ≤ g) (hhi : ∀ g ∈ Mn.O, g < w'.heap.size)
    (hb : ∀ (b : Nat) (k : Blk) (m : Option (Nat × List Nat)), hn[b]? = some k → Mn[b]? = some m → BRep w' (M ++ Mn) (h ++ hn) k m) : MInv B w' (M ++ Mn) (h ++ hn) where
  len := by simp [H.len, hl]
  blk b k m hk hm := by
    rcases Nat.lt_or_ge b h.length with hlt | hge
    · rw [List.getElem?_append_left hlt] at hk
      rw [List.getElem?_append_left (by rw [H.len]; exact hlt)] at hm
      exact BRep_mv (push_mv H.len hx H.hi hlo) (by cases k <;> first | trivial | exact V.inS_all _ | exact inSE_all _) (fun c hc => hx.below.block c (H.hi c (mem_O hm hc))) (H.blk b k m hk hm)
    · rw [List.getElem?_append_right hge] at hk
      rw [List.getElem?_append_right (by rw [H.len]; exact hge), H.len] at hm
      exact hb _ k m hk hm
  nd := by
    rw [O_app]
    refine List.nodup_append.2 ⟨H.nd, hnd, fun a ha b hb' e => ?_⟩
    subst e
    have := H.hi a ha
    have := hlo a hb'
    omega
  lo b k m hk hm hv g hg := by
    rcases Nat.lt_or_ge b h.length with hlt | hge
    · rw [List.getElem?_append_left hlt] at hk
      rw [List.getElem?_append_left (by rw [H.len]; exact hlt)] at hm
      exact H.lo b k m hk hm hv g hg
    · rw [List.getElem?_append_right (by rw [H.len]; exact hge), H.len] at hm
      exact Nat.le_trans hB (hlo g (mem_O hm hg))
  hi g hg := by
    rw [O_app, List.mem_append] at hg
    rcases hg with hg | hg
    · exact Nat.lt_of_lt_of_le (H.hi g hg) hx.size
    · exact hhi g hg
end Go.Proofs.Ytdeafbgnbgihgaa
