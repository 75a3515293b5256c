/- merged: several parts in one text. Leans on no more than they do. -/
import Derived.WalkKit
import Derived.WalkSpells
import Derived.WalkLawsBesides
import Derived.ProofKit
import Derived.OpenShut
import Derived.ShutString
import Derived.ChangeOld
import Derived.Below
import Derived.Lib.Hide
import Derived.Deep.Slices
import Derived.JoinedOf
import Derived.Deep.RegionHeld3
import Derived.Deep.QuietTactic
import Derived.BigQuiet
import Derived.LaidMore
import Derived.Lay
set_option linter.unusedSimpArgs false
set_option linter.unusedVariables false
namespace Go.Proofs.YtpdeibhedafcfaaGreatDoor
open Go.ChangeShapes Go.WideShapes Go.ChangeAt Go.RowKit
def Ext (w w' : World) : Prop := Below w.heap.size w w'
section
variable {a b c w w1 : World}
theorem Ext.below (h : Ext w w1) : Below w.heap.size w w1 := h
theorem Ext.refl (w : World) : Ext w w := Below.refl _ _
theorem Ext.trans (h : Ext a b) (k : Ext b c) : Ext a c := Below.trans h (Below.mono k h.below.size)
theorem Ext.alloc (h : Ext a w) (o : Obj) : Ext a (w.alloc o) := Below.alloc h h.below.size o
theorem Ext.drew (h : Ext a w) : Ext a w.drew := Below.drew h
theorem Ext.size (h : Ext w w1) : w.heap.size ≤ w1.heap.size := h.below.size
theorem Ext.cellSome (hb : Ext w w1) {p : Addr} {v : Value} (h : w.cell? p = some v) : w1.cell? p = some v :=
 (hb.below.cell (World.block_lt_of_cell? w p h)).trans h
end
section
variable {P : Program} {md : Region.Mode} {l : List Oper} {Q : Exit → Act → World → Prop} {S : World → Prop} {i : Nat} {oi : Oper} {tl : List Oper} {fuel : Nat} {listed : Array Bool} {a : Act} {w : World}
end
theorem take_snoc_get {α : Type} {xs : List α} {k : Nat} {x : α} (h : xs[k]? = some x) : xs.take (k + 1) = xs.take k ++ [x] := by
 obtain ⟨hl, rfl⟩ := List.getElem?_eq_some_iff.1 h
 exact List.take_succ_eq_append_getElem hl
theorem at_lt {α : Type} {xs : List α} {k : Nat} (h : k < xs.length) : ∃ x, xs[k]? = some x := ⟨xs[k], by simp [h]⟩
def CellsAt (w : World) (b o : Nat) (cs : List Value) : Prop := ∀ j v, cs[j]? = some v → w.cell? ⟨b, o + j, none⟩ = some v
structure Cod (α : Type) where
 n : Nat
 rep : World → List Value → α → Prop
 own : World → List Nat → List Value → α → Prop
 len : ∀ w cs x, rep w cs x → cs.length = n
 keep : ∀ w w' cs x, Ext w w' → rep w cs x → rep w' cs x
 own_rep : ∀ w F cs x, own w F cs x → rep w cs x
 own_lt : ∀ w F cs x, own w F cs x → ∀ b ∈ F, b < w.heap.size
 own_keep : ∀ w w' F cs x, (∀ b ∈ F, w'.heap[b]? = w.heap[b]?) → own w F cs x → own w' F cs x
theorem lt_of_heap {w : World} {b : Nat} {o : Obj} (h : w.heap[b]? = some o) : b < w.heap.size := by
 rcases Nat.lt_or_ge b w.heap.size with hlt | hge
 ·exact hlt
 ·rw [Array.getElem?_eq_none hge] at h; cases h
section
variable {α : Type} {c : Cod α} {mk : Value → Value} {w w' : World}
end
section
variable {α : Type} {c : Cod α} {w0 w w2 : World} {g N : Nat} {ys : List α}
end
theorem cell_spot {w : World} {a : Addr} {v : Value} (h : w.cell? a = some v) : a = ⟨a.block, a.off, none⟩ := by
 obtain ⟨b, o, s⟩ := a
 have : s = none := by simpa using World.cell?_spot h
 subst this
 rfl
theorem exists_list {α : Type} {n : Nat} {p : Nat → α → Prop} (h : ∀ i, i < n → ∃ x, p i x) : ∃ xs : List α, xs.length = n ∧ ∀ i x, xs[i]? = some x → p i x := by
 induction n with
 | zero => exact ⟨[], rfl, fun i x hx => by simp at hx⟩
 | succ n ih =>
  obtain ⟨xs, hl, hx⟩ := ih fun i hi => h i (Nat.lt_succ_of_lt hi)
  obtain ⟨y, hy⟩ := h n (Nat.lt_succ_self n)
  refine ⟨xs ++ [y], by simp [hl], fun i x hi => ?_⟩
  rcases Nat.lt_or_ge i xs.length with hlt | hge
  ·rw [List.getElem?_append_left hlt] at hi; exact hx i x hi
  ·rw [List.getElem?_append_right hge] at hi
   have : i - xs.length = 0 := by
    rcases Nat.eq_zero_or_pos (i - xs.length) with h0 | h0
    ·exact h0
    ·rw [List.getElem?_eq_none (by simp; omega)] at hi; cases hi
   rw [this] at hi
   simp at hi
   subst hi
   have : i = n := by omega
   subst this; exact hy
theorem addr_add (a : Addr) (i j : Nat) : (a.add i).add j = a.add (i + j) := by
 unfold Addr.add
 by_cases hi : i = 0 <;> by_cases hj : j = 0 <;> simp [hi, hj, Nat.add_assoc]
theorem addr_add_plain (b o i : Nat) : (⟨b, o, none⟩ : Addr).add i = ⟨b, o + i, none⟩ := by
 unfold Addr.add
 by_cases hi : i = 0 <;> simp [hi]
section
variable {P : Program} {w : World} {r : Reach} {b : Nat} {T E : TypeId} {v : Value}
end
theorem trodAll_below {H : Type} {enc : TypeId × Value → H} {P : Program} (hl : laidOutB P = true) {W W' : World} (hb : Below W.heap.size W W') :
  ∀ (ts : List TypeId) (vs : List Value) (ds : List (DataW H)) (ps : List MemPlace), (∀ t ∈ ts, P.readableRec t = true ∧ t < P.types.size) →
   DataW.TrodAll enc P W 0 (fun _ => true) true ts vs ds ps → DataW.TrodAll enc P W' 0 (fun b => decide (b < W.heap.size)) true ts vs ds ps
 | [], [], [], _, _, h => h
 | t :: ts, v :: vs, d :: ds, _, ht, ⟨p, q, h1, h2, e⟩ =>
  ⟨p, q, Below.trod hl (ht t (by simp)).1 (ht t (by simp)).2 h1 hb (fun x hx => by obtain ⟨m, hm⟩ := h1; exact DataW.trod_lt m _ _ _ hm x hx),
   trodAll_below hl hb ts vs ds q (fun t' h' => ht t' (by simp [h'])) h2, e⟩
 | [], [], _ :: _, _, _, h => (h : False).elim
 | [], _ :: _, _, _, _, h => by cases ‹List (DataW H)› <;> exact (h : False).elim
 | _ :: _, [], _, _, _, h => by cases ‹List (DataW H)› <;> exact (h : False).elim
 | _ :: _, _ :: _, [], _, _, h => (h : False).elim
def LawCalls (P : Program) (f : FuncId) (ts : List TypeId) : Prop :=
 ∀ (H : Type) (enc : TypeId × Value → H) (W : World) (base : Nat) (args : List Value) (ds : List (DataW H)) (p : List MemPlace),
  (∀ (j : Nat) t v, ts[j]? = some t → args[j]? = some v → Value.okWide P W .any base t v) →
  DataW.TrodAll enc P W 0 (fun _ => true) true ts args ds p →
  Calls P f args.toArray W fun e W' => e = .returned (.bool true) ∧ Ext W W'
theorem cv_ {P : Prop} (h : P := by (repeat' (first | exact trivial | with_reducible rfl | (refine ⟨?_, ?_⟩) | rfl))) : P := h
theorem rn_ {P : Prop} (h : P := by (repeat' (first | ((conv => whnf); done) | ((conv => whnf); (first | (exact ⟨by decide, rfl⟩) | (exact ⟨rfl, rfl⟩) | (refine ⟨_, _, rfl, ?_, ?_⟩) | (refine ⟨_, rfl, ?_⟩) | rfl))))) : P := h
open Go.ChangeShapes Go.WideShapes Go.ChangeAt Go.RowKit
theorem law_lift_laid {C : Checked} {f : FuncId} {fn : Func} {s : ChangeSpec} {ts : List TypeId} {T : TypeId} {conds : List PathCond} (X : World → Array Value → Prop) (hX : ∀ (w w' : World) (args : Array Value), w.heap = w'.heap → X w args → X w' args)
  (own : ownKnob C.prog.godebug = none) (hl : laidOutB C.prog = true)
  (noInit : C.prog.inits.idxOf? f = none) (hfn : C.prog.funcs[f]? = some fn) (hp : fn.params.toList = ts) (hr : fn.resultTypes = #[T]) (hT : C.prog.underlying T = some .bool)
  (hts : ∀ t ∈ ts, C.prog.readableRec t = true ∧ t < C.prog.types.size) (hv : s.vars = [])
  (hs : ∀ (H : Type) (ds : List (DataW H)), ds.length = ts.length → (s.fn H ds).results = [.lit (.bool true)] ∧ (s.fn H ds).args = ds ∧ (s.fn H ds).vars = [])
  (hc : LawCalls C.prog f ts) (os : Os) (started : os.Started) (H : Type) (enc : TypeId × Value → H)
  (witness : ∃ (w : World) (tape : Tape) (i : Input), w.os = os ∧ (w.forCall tape i).Shaped C.prog ∧ i.vars = [] ∧ Input.okWide C.prog (w.forCall tape i) .any w.heap.size f i ∧
   ((s.pre enc C.prog fn conds false (w.forCall tape i).memory i.args ∧ X (w.forCall tape i).memory i.args) ∧ sizedMet enc C.prog fn (OpenSpec.ofChange s) false (w.forCall tape i).memory i.args) ∧ ({} : Assume).holds C.prog (lone (Frame.enter C.prog f i.args .normal) [] (w.forCall tape i))) :
  ReturnsInHanded {} C os f .any (fun w args => (s.pre enc C.prog fn conds false w args ∧ X w args) ∧ sizedMet enc C.prog fn (OpenSpec.ofChange s) false w args) (s.post enc C.prog fn false true false false) := by
 refine returnsInHanded_of_change_and (X := X) hX own started noInit hfn witness ?_
 intro W base args ds gs before hval hW _ _ _ _
 have hW' := hW
 obtain ⟨p, q, hA, hV, rfl, hfz, hnd⟩ := hW
 rw [hv] at hV
 obtain ⟨rfl, rfl⟩ := trodVars_none hV
 rw [hp] at hA
 have hlen : ∀ (ts : List TypeId) (vs : List Value) (ds : List (DataW H)) (ps : List MemPlace), DataW.TrodAll enc C.prog W 0 (fun _ => true) true ts vs ds ps → ds.length = ts.length := by
  intro ts
  induction ts with
  | nil => intro vs ds ps h; obtain ⟨_, rfl, _⟩ := trodAll_nil h; rfl
  | cons t ts ih =>
   intro vs ds ps h
   obtain ⟨v, vs', d, ds', p, q, _, rfl, _, _, h'⟩ := ChangeShapes.trodAll_cons h
   simp [ih _ _ _ h']
 have hd := hlen _ _ _ _ hA
 obtain ⟨hs1, hs2, hs3⟩ := hs H ds hd
 have hval' : ∀ (j : Nat) t v, ts[j]? = some t → args.toList[j]? = some v → Value.okWide C.prog W .any base t v := fun j t v h1 h2 => hval j t v (by rw [← hp] at h1; simpa using h1) (by simpa using h2)
 have hcall := hc H enc W base args.toList ds p hval' hA
 rw [Array.toArray_toList] at hcall
 refine hcall.mono fun e W' ⟨he, bel⟩ => ⟨_, he, ds, [], _, [], p, [], hW', ?_, ?_, ?_, bel.below.frame _, fun h => by cases h⟩
 ·rw [List.append_nil, hs1, hr]
  exact trodAll_mk1 (shut_bool hT _)
 ·rw [List.append_nil, hs2, hp]
  exact trodAll_below hl bel.below _ _ _ _ hts hA
 ·rw [List.append_nil, hs3, hv]
  rfl
end Go.Proofs.YtpdeibhedafcfaaGreatDoor