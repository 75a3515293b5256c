/- Lemmas that lean on no program: how data lie in memory, what is kept below a heap's size, and a law's step from a contract to its row. -/
import Derived.WalkKit
import Derived.WalkSpells
import Derived.WalkLawsBesides
import Derived.ProofKit
import Derived.OpenShut
import Derived.ShutString
import Derived.ChangeOld
import Derived.Below
import Derived.Lib.Hide
import Derived.Deep.Slices
import Derived.JoinedOf
import Derived.Deep.RegionHeld3
import Derived.Deep.QuietTactic
import Derived.BigQuiet
set_option linter.unusedSimpArgs false
set_option linter.unusedVariables false
namespace Go.Proofs.YtehndgkmpdlccaaGreat
open Go.ChangeShapes Go.WideShapes Go.ChangeAt Go.RowKit

def Ext (w w' : World) : Prop := Below w.heap.size w w'
section
variable {a b c w w1 : World}
theorem Ext.below (h : Ext w w1) : Below w.heap.size w w1 := h
theorem Ext.refl (w : World) : Ext w w := Below.refl _ _
theorem Ext.trans (h : Ext a b) (k : Ext b c) : Ext a c := Below.trans h (Below.mono k h.below.size)
theorem Ext.alloc (h : Ext a w) (o : Obj) : Ext a (w.alloc o) := Below.alloc h h.below.size o
theorem Ext.drew (h : Ext a w) : Ext a w.drew := Below.drew h
theorem Ext.drewN (h : Ext a w) (n : Nat) : Ext a (w.drewN n) := Below.trans h ⟨rfl, rfl, rfl, Nat.le_refl _, fun _ _ => rfl⟩
theorem Ext.setCell (h : Ext a w) {p : Addr} (hp : a.heap.size ≤ p.block) (u : Value) : Ext a (w.setCell p u) := Below.setCell h hp u
theorem Ext.size (h : Ext w w1) : w.heap.size ≤ w1.heap.size := h.below.size
theorem Ext.cellSome (hb : Ext w w1) {p : Addr} {v : Value} (h : w.cell? p = some v) : w1.cell? p = some v :=
  (hb.below.cell (World.block_lt_of_cell? w p h)).trans h
end

section
variable {P : Program} {md : Region.Mode} {l : List Oper} {Q : Exit → Act → World → Prop} {S : World → Prop} {i : Nat} {oi : Oper} {tl : List Oper} {fuel : Nat} {listed : Array Bool} {a : Act} {w : World}
end

theorem take_snoc_get {α : Type} {xs : List α} {k : Nat} {x : α} (h : xs[k]? = some x) : xs.take (k + 1) = xs.take k ++ [x] := by
  obtain ⟨hl, rfl⟩ := List.getElem?_eq_some_iff.1 h
  exact List.take_succ_eq_append_getElem hl
def zSum {α : Type} (f : α → Nat) (xs : List α) (k : Nat) : Nat := ((xs.take k).map f).sum
theorem zSum_zero {α : Type} (f : α → Nat) (xs : List α) : zSum f xs 0 = 0 := by simp [zSum]
theorem zSum_succ {α : Type} (f : α → Nat) {xs : List α} {k : Nat} {x : α} (h : xs[k]? = some x) : zSum f xs (k + 1) = zSum f xs k + f x := by
  simp [zSum, take_snoc_get h]
theorem zSum_all {α : Type} (f : α → Nat) {xs : List α} {k : Nat} (h : xs.length ≤ k) : zSum f xs k = (xs.map f).sum := by
  rw [zSum, List.take_of_length_le h]
theorem zSum_le_all {α : Type} (f : α → Nat) (xs : List α) (k : Nat) : zSum f xs k ≤ (xs.map f).sum := by
  conv => rhs; rw [← List.take_append_drop k xs]
  rw [List.map_append, List.sum_append]
  exact Nat.le_add_right _ _
theorem sum_get {α : Type} (f : α → Nat) {xs : List α} {k : Nat} {x : α} (h : xs[k]? = some x) : f x ≤ (xs.map f).sum := by
  have h1 := zSum_succ f h
  have h2 := zSum_le_all f xs (k + 1)
  omega
theorem drop_nil {α : Type} {xs : List α} {k : Nat} (h : xs.length ≤ k) : xs.drop k = [] := List.drop_of_length_le h
theorem at_lt {α : Type} {xs : List α} {k : Nat} (h : k < xs.length) : ∃ x, xs[k]? = some x := ⟨xs[k], by simp [h]⟩

def I64 (n : Int) : Prop := -9223372036854775808 ≤ n ∧ n ≤ 9223372036854775807
theorem I64.lo {n : Int} (h : I64 n) : -9223372036854775808 ≤ n := h.1
theorem I64.hi {n : Int} (h : I64 n) : n ≤ 9223372036854775807 := h.2
def CellsAt (w : World) (b o : Nat) (cs : List Value) : Prop := ∀ j v, cs[j]? = some v → w.cell? ⟨b, o + j, none⟩ = some v
theorem CellsAt.keep {w w' : World} {b o : Nat} {cs : List Value} (hb : Ext w w') (h : CellsAt w b o cs) : CellsAt w' b o cs :=
  fun j v hj => hb.cellSome (h j v hj)

structure Cod (α : Type) where
  n : Nat
  rep : World → List Value → α → Prop
  own : World → List Nat → List Value → α → Prop
  len : ∀ w cs x, rep w cs x → cs.length = n
  keep : ∀ w w' cs x, Ext w w' → rep w cs x → rep w' cs x
  own_rep : ∀ w F cs x, own w F cs x → rep w cs x
  own_lt : ∀ w F cs x, own w F cs x → ∀ b ∈ F, b < w.heap.size
  own_keep : ∀ w w' F cs x, (∀ b ∈ F, w'.heap[b]? = w.heap[b]?) → own w F cs x → own w' F cs x

def Sl {α : Type} (c : Cod α) (w : World) (v : Value) (xs : List α) : Prop :=
  ∃ a cap, v = .slice a xs.length cap ∧ xs.length ≤ cap ∧ cap ≤ maxLen ∧ (a = none → cap = 0) ∧
    ∀ i x, xs[i]? = some x → ∃ b o cs, a = some ⟨b, o, none⟩ ∧ CellsAt w b (o + i * c.n) cs ∧ c.rep w cs x

theorem Sl.keep {α : Type} {c : Cod α} {w w' : World} {v : Value} {xs : List α} (h : Sl c w v xs) (hb : Ext w w') : Sl c w' v xs := by
  obtain ⟨a, cap, rfl, h1, h2, h3, h4⟩ := h
  refine ⟨a, cap, rfl, h1, h2, h3, fun i x hx => ?_⟩
  obtain ⟨b, o, cs, e, hc, hr⟩ := h4 i x hx
  exact ⟨b, o, cs, e, hc.keep hb, c.keep _ _ _ _ hb hr⟩

theorem Sl.nil_ {α : Type} {c : Cod α} {w : World} : Sl c w (.slice none 0 0) [] :=
  ⟨none, 0, rfl, Nat.le_refl _, Nat.zero_le _, fun _ => rfl, fun i x h => by simp at h⟩

def Fill {α : Type} (c : Cod α) (w : World) (g : Nat) (arr : Array Value) (Fs : List (List Nat)) (ys : List α) : Prop :=
  (∃ t, w.heap[g]? = some (.cells arr t (0, 0))) ∧ Fs.length = ys.length ∧
    ∀ i x, ys[i]? = some x → ∃ cs f, Fs[i]? = some f ∧ (∀ j v, cs[j]? = some v → arr[i * c.n + j]? = some v) ∧ c.own w f cs x

def OwnS {α : Type} (c : Cod α) (w : World) (F : List Nat) (v : Value) (xs : List α) : Prop :=
  ∃ a cap, v = .slice a xs.length cap ∧ xs.length ≤ cap ∧ cap ≤ maxLen ∧ (a = none → cap = 0) ∧
    ((xs = [] ∧ F = []) ∨ ∃ g arr Fs, a = some ⟨g, 0, none⟩ ∧ Fill c w g arr Fs xs ∧ F = g :: Fs.flatten)

theorem lt_of_heap {w : World} {b : Nat} {o : Obj} (h : w.heap[b]? = some o) : b < w.heap.size := by
  rcases Nat.lt_or_ge b w.heap.size with hlt | hge
  · exact hlt
  · rw [Array.getElem?_eq_none hge] at h; cases h

theorem OwnS.rep {α : Type} {c : Cod α} {w : World} {F : List Nat} {v : Value} {xs : List α} (h : OwnS c w F v xs) : Sl c w v xs := by
  obtain ⟨a, cap, rfl, h1, h2, h3, h4⟩ := h
  refine ⟨a, cap, rfl, h1, h2, h3, fun i x hx => ?_⟩
  rcases h4 with ⟨rfl, _⟩ | ⟨g, arr, Fs, rfl, ⟨⟨t, hg⟩, _, hf⟩, _⟩
  · simp at hx
  · obtain ⟨cs, f, _, hcs, ho⟩ := hf i x hx
    refine ⟨g, 0, cs, rfl, fun j v hj => ?_, c.own_rep _ _ _ _ ho⟩
    have := hcs j v hj
    simp [World.cell?, hg, this]

theorem mem_flatten_get {Fs : List (List Nat)} {b : Nat} (h : b ∈ Fs.flatten) : ∃ (i : Nat) (f : List Nat), Fs[i]? = some f ∧ b ∈ f := by
  obtain ⟨f, hf, hb⟩ := List.mem_flatten.1 h
  obtain ⟨i, hi⟩ := List.getElem?_of_mem hf
  exact ⟨i, f, hi, hb⟩
theorem mem_flatten_of {Fs : List (List Nat)} {b i : Nat} {f : List Nat} (h : Fs[i]? = some f) (hb : b ∈ f) : b ∈ Fs.flatten :=
  List.mem_flatten.2 ⟨f, List.mem_of_getElem? h, hb⟩

theorem Fill.lt {α : Type} {c : Cod α} {w : World} {g : Nat} {arr : Array Value} {Fs : List (List Nat)} {ys : List α} (h : Fill c w g arr Fs ys) : ∀ b ∈ Fs.flatten, b < w.heap.size := by
  obtain ⟨_, hl, hf⟩ := h
  intro b hb
  obtain ⟨i, f, hi, hb⟩ := mem_flatten_get hb
  have hlt : i < ys.length := by rw [← hl]; exact (List.getElem?_eq_some_iff.1 hi).1
  obtain ⟨x, hx⟩ := at_lt hlt
  obtain ⟨cs, f', hf', _, ho⟩ := hf i x hx
  rw [hi] at hf'
  cases hf'
  exact c.own_lt _ _ _ _ ho b hb

theorem OwnS.lt {α : Type} {c : Cod α} {w : World} {F : List Nat} {v : Value} {xs : List α} (h : OwnS c w F v xs) : ∀ b ∈ F, b < w.heap.size := by
  obtain ⟨a, cap, rfl, h1, h2, h3, h4⟩ := h
  rcases h4 with ⟨_, rfl⟩ | ⟨g, arr, Fs, rfl, hF, rfl⟩
  · intro b hb; cases hb
  · intro b hb
    rcases List.mem_cons.1 hb with rfl | hb
    · obtain ⟨⟨t, hg⟩, _⟩ := hF; exact lt_of_heap hg
    · exact hF.lt b hb

theorem Fill.keep {α : Type} {c : Cod α} {w w' : World} {g : Nat} {arr : Array Value} {Fs : List (List Nat)} {ys : List α} (h : Fill c w g arr Fs ys)
    (hk : ∀ b ∈ g :: Fs.flatten, w'.heap[b]? = w.heap[b]?) : Fill c w' g arr Fs ys := by
  obtain ⟨⟨t, hg⟩, hl, hf⟩ := h
  refine ⟨⟨t, by rw [hk g (by simp)]; exact hg⟩, hl, fun i x hx => ?_⟩
  obtain ⟨cs, f, h1, h2, h3⟩ := hf i x hx
  exact ⟨cs, f, h1, h2, c.own_keep _ _ _ _ _ (fun b hb => hk b (by simp only [List.mem_cons]; exact .inr (mem_flatten_of h1 hb))) h3⟩

theorem OwnS.keep {α : Type} {c : Cod α} {w w' : World} {F : List Nat} {v : Value} {xs : List α} (h : OwnS c w F v xs)
    (hk : ∀ b ∈ F, w'.heap[b]? = w.heap[b]?) : OwnS c w' F v xs := by
  obtain ⟨a, cap, rfl, h1, h2, h3, h4⟩ := h
  refine ⟨a, cap, rfl, h1, h2, h3, ?_⟩
  rcases h4 with h4 | ⟨g, arr, Fs, rfl, hF, rfl⟩
  · exact .inl h4
  · exact .inr ⟨g, arr, Fs, rfl, hF.keep hk, rfl⟩
theorem OwnS.ext {α : Type} {c : Cod α} {w w' : World} {F : List Nat} {v : Value} {xs : List α} (h : OwnS c w F v xs) (hb : Ext w w') : OwnS c w' F v xs :=
  h.keep fun b hF => hb.below.block b (h.lt b hF)

theorem OwnS.setCell {α : Type} {c : Cod α} {w : World} {F : List Nat} {v : Value} {xs : List α} (h : OwnS c w F v xs) {p : Addr} (hp : p.block ∉ F) (u : Value) : OwnS c (w.setCell p u) F v xs :=
  h.keep fun b hb => Below.heap_setCell _ _ _ _ (fun e => hp (by rw [← e]; exact hb))
theorem OwnS.alloc {α : Type} {c : Cod α} {w : World} {F : List Nat} {v : Value} {xs : List α} (h : OwnS c w F v xs) (o : Obj) : OwnS c (w.alloc o) F v xs := h.ext ((Ext.refl _).alloc _)

def slC {α : Type} (c : Cod α) : Cod (List α) where
  n := 1
  rep w cs xs := ∃ v, cs = [v] ∧ Sl c w v xs
  own w F cs xs := ∃ v, cs = [v] ∧ OwnS c w F v xs
  len := by rintro w cs x ⟨v, rfl, _⟩; rfl
  keep := by rintro w w' cs x hb ⟨v, rfl, h⟩; exact ⟨v, rfl, h.keep hb⟩
  own_rep := by rintro w F cs x ⟨v, rfl, h⟩; exact ⟨v, rfl, h.rep⟩
  own_lt := by rintro w F cs x ⟨v, rfl, h⟩; exact h.lt
  own_keep := by rintro w w' F cs x hk ⟨v, rfl, h⟩; exact ⟨v, rfl, h.keep hk⟩

def RSl {α : Type} (c : Cod α) (xs : List α) (mk : Value → Value) (w : World) (e : Ending) (w' : World) : Prop :=
  ∃ v, e = .returned (mk v) ∧ Sl c w' v xs ∧ Ext w w'
def ROwn {α : Type} (c : Cod α) (xs : List α) (mk : Value → Value) (w : World) (e : Ending) (w' : World) : Prop :=
  ∃ v F, e = .returned (mk v) ∧ OwnS c w' F v xs ∧ F.Nodup ∧ (∀ b ∈ F, w.heap.size ≤ b) ∧ Ext w w'
def RAgg {α : Type} (c : Cod α) (x : α) (mk : Value → Value) (w : World) (e : Ending) (w' : World) : Prop :=
  ∃ cs, e = .returned (mk (.agg cs.toArray)) ∧ c.rep w' cs x ∧ Ext w w'
def ROwnA {α : Type} (c : Cod α) (x : α) (mk : Value → Value) (w : World) (e : Ending) (w' : World) : Prop :=
  ∃ cs F, e = .returned (mk (.agg cs.toArray)) ∧ c.own w' F cs x ∧ F.Nodup ∧ (∀ b ∈ F, w.heap.size ≤ b) ∧ Ext w w'

section
variable {α : Type} {c : Cod α} {mk : Value → Value} {w w' : World}
theorem RSl.intro {xs : List α} {v : Value} (h : Sl c w' v xs) (hx : Ext w w') : RSl c xs mk w (.returned (mk v)) w' := ⟨v, rfl, h, hx⟩
theorem ROwn.intro {xs : List α} {v : Value} {F : List Nat} (h : OwnS c w' F v xs) (hn : F.Nodup) (hf : ∀ b ∈ F, w.heap.size ≤ b) (hx : Ext w w') : ROwn c xs mk w (.returned (mk v)) w' := ⟨v, F, rfl, h, hn, hf, hx⟩
theorem RAgg.intro {x : α} {cs : List Value} (h : c.rep w' cs x) (hx : Ext w w') : RAgg c x mk w (.returned (mk (.agg cs.toArray))) w' := ⟨cs, rfl, h, hx⟩
theorem ROwnA.intro {x : α} {cs : List Value} {F : List Nat} (h : c.own w' F cs x) (hn : F.Nodup) (hf : ∀ b ∈ F, w.heap.size ≤ b) (hx : Ext w w') : ROwnA c x mk w (.returned (mk (.agg cs.toArray))) w' := ⟨cs, F, rfl, h, hn, hf, hx⟩
end

def setCells (w : World) (g o : Nat) : List Value → World
  | [] => w
  | v :: vs => setCells (w.setCell ⟨g, o, none⟩ v) g (o + 1) vs
def ToInv {α : Type} (c : Cod α) (w0 : World) (g N : Nat) (ys : List α) (w : World) : Prop :=
  ∃ arr Fs, arr.size = N * c.n ∧ Fill c w g arr Fs ys ∧ (g :: Fs.flatten).Nodup ∧ w0.heap.size ≤ g ∧ (∀ b ∈ Fs.flatten, w0.heap.size ≤ b) ∧ Ext w0 w
section
variable {α : Type} {c : Cod α} {w0 w w2 : World} {g N : Nat} {ys : List α}
theorem ToInv.ext (h : ToInv c w0 g N ys w) : Ext w0 w := by
  obtain ⟨_, _, _, _, _, _, _, h⟩ := h
  exact h
theorem ToInv.start {E : TypeId} {arr : Array Value} (hsz : arr.size = N * c.n) (h : Ext w0 w) : ToInv c w0 w.heap.size N [] (w.alloc (.cells arr E)) :=
  ⟨arr, [], hsz, ⟨⟨E, heap_alloc_new w _⟩, rfl, fun i x hx => by simp at hx⟩, by simp, h.size, fun b hb => by simp at hb, h.alloc _⟩
theorem ToInv.room (h : ToInv c w0 g N ys w) {i j : Nat} (hi : i < N) (hj : j < c.n) : ∃ u, w.cell? ⟨g, i * c.n + j, none⟩ = some u ∧ w.frozen? ⟨g, i * c.n + j, none⟩ = false := by
  obtain ⟨arr, Fs, hsz, ⟨⟨t, hg⟩, _⟩, _⟩ := h
  have hroom : (i + 1) * c.n ≤ N * c.n := Nat.mul_le_mul_right _ hi
  rw [Nat.succ_mul] at hroom
  have hlt : i * c.n + j < arr.size := by omega
  exact ⟨arr[i * c.n + j], by simp [World.cell?, hg, hlt], by simp [World.frozen?, hg]⟩
theorem ToInv.done {xs : List α} (h : ToInv c w0 g N xs w) (hN : xs.length = N) (hl : N ≤ maxLen) : ROwn c xs id w0 (.returned (.slice (some ⟨g, 0, none⟩) N N)) w := by
  obtain ⟨arr, Fs, hsz, hF, hnd, hg, hfl, hx⟩ := h
  subst hN
  refine ⟨_, g :: Fs.flatten, rfl, ⟨_, _, rfl, Nat.le_refl _, hl, (fun h => by cases h), .inr ⟨g, arr, Fs, rfl, hF, rfl⟩⟩, hnd, fun b hb => ?_, hx⟩
  rcases List.mem_cons.1 hb with rfl | h
  · exact hg
  · exact hfl b h
end

def szR (left : Int) (z : Nat) : Int := if (z : Int) ≤ left then left - z else -1
theorem szR_le {left : Int} {z : Nat} (h : (z : Int) ≤ left) : szR left z = left - z := if_pos h
theorem szR_gt {left : Int} {z : Nat} (h : left < (z : Int)) : szR left z = -1 := if_neg (by omega)

def Reads {α : Type} (P : Program) (T : TypeId) (c : Cod α) : Prop :=
  P.cellsOf T = c.n ∧ ∀ (H : Type) (enc : TypeId × Value → H) (w : World) (fuel : Nat) (cs : List Value) (x : DataW H × List MemPlace),
    DataW.trod enc P w 0 (fun _ => true) true fuel T cs = some x → ∃ a, c.rep w cs a

theorem cell_spot {w : World} {a : Addr} {v : Value} (h : w.cell? a = some v) : a = ⟨a.block, a.off, none⟩ := by
  obtain ⟨b, o, s⟩ := a
  have : s = none := by simpa using World.cell?_spot h
  subst this
  rfl
theorem exists_list {α : Type} {n : Nat} {p : Nat → α → Prop} (h : ∀ i, i < n → ∃ x, p i x) : ∃ xs : List α, xs.length = n ∧ ∀ i x, xs[i]? = some x → p i x := by
  induction n with
  | zero => exact ⟨[], rfl, fun i x hx => by simp at hx⟩
  | succ n ih =>
    obtain ⟨xs, hl, hx⟩ := ih fun i hi => h i (Nat.lt_succ_of_lt hi)
    obtain ⟨y, hy⟩ := h n (Nat.lt_succ_self n)
    refine ⟨xs ++ [y], by simp [hl], fun i x hi => ?_⟩
    rcases Nat.lt_or_ge i xs.length with hlt | hge
    · rw [List.getElem?_append_left hlt] at hi; exact hx i x hi
    · rw [List.getElem?_append_right hge] at hi
      have : i - xs.length = 0 := by
        rcases Nat.eq_zero_or_pos (i - xs.length) with h0 | h0
        · exact h0
        · rw [List.getElem?_eq_none (by simp; omega)] at hi; cases hi
      rw [this] at hi
      simp at hi
      subst hi
      have : i = n := by omega
      subst this; exact hy
theorem addr_add (a : Addr) (i j : Nat) : (a.add i).add j = a.add (i + j) := by
  unfold Addr.add
  by_cases hi : i = 0 <;> by_cases hj : j = 0 <;> simp [hi, hj, Nat.add_assoc]
theorem addr_add_plain (b o i : Nat) : (⟨b, o, none⟩ : Addr).add i = ⟨b, o + i, none⟩ := by
  unfold Addr.add
  by_cases hi : i = 0 <;> simp [hi]

theorem reads_slice {α : Type} {P : Program} {T E : TypeId} {c : Cod α} (hT : P.underlying T = some (.slice E)) (hc : P.cellsOf T = 1) (hn : 0 < c.n) (hE : Reads P E c) : Reads P T (slC c) :=
  ⟨hc, fun H enc w fuel cs x h => by
    rcases Deep.open_slice hT h with ⟨rfl, _⟩ | ⟨a, len, cap, m, n, D, Pl, rfl, _, hl, hm, hmm, _, hel⟩
    · exact ⟨[], _, rfl, Sl.nil_⟩
    · simp only [if_true] at hmm
      obtain rfl := hmm.symm
      obtain ⟨xs, hxl, hxs⟩ := exists_list (n := len) (p := fun i (x : α) => ∃ b o cs, a = ⟨b, o, none⟩ ∧ CellsAt w b (o + i * c.n) cs ∧ c.rep w cs x) (fun i hi => by
        obtain ⟨cs', h1, h2⟩ := hel i (by omega)
        obtain ⟨y, hy⟩ := hE.2 _ _ _ _ _ _ h2
        obtain ⟨_, hcl, hat⟩ := World.cells?_some h1
        rw [hE.1] at hcl hat
        have h0 := hat 0 hn
        rw [List.getElem?_eq_getElem (by omega)] at h0
        have hsp := cell_spot h0
        have haa : a = ⟨a.block, a.off, none⟩ := by
          obtain ⟨b, o, s⟩ := a
          unfold Addr.add at hsp
          simp only [if_true] at hsp
          split at hsp
          · simpa using hsp
          · rename_i hne
            -- the element's address has no spot: the slice's own neither, as its first element shows
            obtain ⟨cs0, h10, h20⟩ := hel 0 (by omega)
            obtain ⟨_, hcl0, hat0⟩ := World.cells?_some h10
            rw [hE.1] at hcl0 hat0
            have h00 := hat0 0 hn
            rw [List.getElem?_eq_getElem (by omega)] at h00
            simpa [Addr.add] using cell_spot h00
        refine ⟨y, a.block, a.off, cs', haa, fun j v hj => ?_, hy⟩
        have hjl : j < cs'.length := (List.getElem?_eq_some_iff.1 hj).1
        have := hat j (by omega)
        rw [hj] at this
        rw [addr_add, haa, addr_add_plain] at this
        simpa [Nat.add_assoc] using this)
      refine ⟨xs, _, rfl, some a, _, by rw [hxl], by omega, hm, (fun h => by cases h), fun i x hx => ?_⟩
      obtain ⟨b, o, cs, e, h1, h2⟩ := hxs i x hx
      exact ⟨b, o, cs, by rw [e], h1, h2⟩⟩

section
variable {P : Program} {w : World} {r : Reach} {b : Nat} {T E : TypeId} {v : Value}
end

theorem trodAll_below {H : Type} {enc : TypeId × Value → H} {P : Program} (hl : laidOutB P = true) {W W' : World} (hb : Below W.heap.size W W') :
    ∀ (ts : List TypeId) (vs : List Value) (ds : List (DataW H)) (ps : List MemPlace), (∀ t ∈ ts, P.readableRec t = true ∧ t < P.types.size) →
      DataW.TrodAll enc P W 0 (fun _ => true) true ts vs ds ps → DataW.TrodAll enc P W' 0 (fun b => decide (b < W.heap.size)) true ts vs ds ps
  | [], [], [], _, _, h => h
  | t :: ts, v :: vs, d :: ds, _, ht, ⟨p, q, h1, h2, e⟩ =>
    ⟨p, q, Below.trod hl (ht t (by simp)).1 (ht t (by simp)).2 h1 hb (fun x hx => by obtain ⟨m, hm⟩ := h1; exact DataW.trod_lt m _ _ _ hm x hx),
      trodAll_below hl hb ts vs ds q (fun t' h' => ht t' (by simp [h'])) h2, e⟩
  | [], [], _ :: _, _, _, h => (h : False).elim
  | [], _ :: _, _, _, _, h => by cases ‹List (DataW H)› <;> exact (h : False).elim
  | _ :: _, [], _, _, _, h => by cases ‹List (DataW H)› <;> exact (h : False).elim
  | _ :: _, _ :: _, [], _, _, h => (h : False).elim

def LawCalls (P : Program) (f : FuncId) (ts : List TypeId) : Prop :=
  ∀ (H : Type) (enc : TypeId × Value → H) (W : World) (base : Nat) (args : List Value) (ds : List (DataW H)) (p : List MemPlace),
    (∀ (j : Nat) t v, ts[j]? = some t → args[j]? = some v → Value.okWide P W .any base t v) →
    DataW.TrodAll enc P W 0 (fun _ => true) true ts args ds p →
    Calls P f args.toArray W fun e W' => e = .returned (.bool true) ∧ Ext W W'

theorem law_lift {C : Checked} {f : FuncId} {fn : Func} {s : ChangeSpec} {ts : List TypeId} {T : TypeId} (own : ownKnob C.prog.godebug = none) (hl : laidOutB C.prog = true)
    (noInit : C.prog.inits.idxOf? f = none) (hfn : C.prog.funcs[f]? = some fn) (hp : fn.params.toList = ts) (hr : fn.resultTypes = #[T]) (hT : C.prog.underlying T = some .bool)
    (hts : ∀ t ∈ ts, C.prog.readableRec t = true ∧ t < C.prog.types.size) (hv : s.vars = [])
    (hs : ∀ (H : Type) (ds : List (DataW H)), ds.length = ts.length → (s.fn H ds).results = [.lit (.bool true)] ∧ (s.fn H ds).args = ds ∧ (s.fn H ds).vars = [])
    (hc : LawCalls C.prog f ts) (os : Os) (started : os.Started) (H : Type) (enc : TypeId × Value → H)
    (witness : ∃ (w : World) (tape : Tape) (i : Input), w.os = os ∧ (w.forCall tape i).Shaped C.prog ∧ i.vars = [] ∧ Input.okWide C.prog (w.forCall tape i) .any w.heap.size f i ∧
      s.pre6 enc C.prog fn [] false (w.forCall tape i).memory i.args ∧ ({} : Assume).holds C.prog (lone (Frame.enter C.prog f i.args .normal) [] (w.forCall tape i))) :
    ReturnsInHanded {} C os f .any (s.pre6 enc C.prog fn [] false) (s.post enc C.prog fn false true false false) := by
  refine returnsInHanded_of_change own started noInit hfn witness ?_
  intro W base args ds gs before hval hW _ _
  have hW' := hW
  obtain ⟨p, q, hA, hV, rfl, hfz, hnd⟩ := hW
  rw [hv] at hV
  obtain ⟨rfl, rfl⟩ := trodVars_none hV
  rw [hp] at hA
  have hlen : ∀ (ts : List TypeId) (vs : List Value) (ds : List (DataW H)) (ps : List MemPlace), DataW.TrodAll enc C.prog W 0 (fun _ => true) true ts vs ds ps → ds.length = ts.length := by
    intro ts
    induction ts with
    | nil => intro vs ds ps h; obtain ⟨_, rfl, _⟩ := trodAll_nil h; rfl
    | cons t ts ih =>
      intro vs ds ps h
      obtain ⟨v, vs', d, ds', p, q, _, rfl, _, _, h'⟩ := ChangeShapes.trodAll_cons h
      simp [ih _ _ _ h']
  have hd := hlen _ _ _ _ hA
  obtain ⟨hs1, hs2, hs3⟩ := hs H ds hd
  have hval' : ∀ (j : Nat) t v, ts[j]? = some t → args.toList[j]? = some v → Value.okWide C.prog W .any base t v := fun j t v h1 h2 => hval j t v (by rw [← hp] at h1; simpa using h1) (by simpa using h2)
  have hcall := hc H enc W base args.toList ds p hval' hA
  rw [Array.toArray_toList] at hcall
  refine hcall.mono fun e W' ⟨he, bel⟩ => ⟨_, he, ds, [], _, [], p, [], hW', ?_, ?_, ?_, bel.below.frame _, fun h => by cases h⟩
  · rw [List.append_nil, hs1, hr]
    exact trodAll_mk1 (shut_bool hT _)
  · rw [List.append_nil, hs2, hp]
    exact trodAll_below hl bel.below _ _ _ _ hts hA
  · rw [List.append_nil, hs3, hv]
    rfl

#print axioms law_lift
#print axioms reads_slice
end Go.Proofs.YtehndgkmpdlccaaGreat
