/- The laws' own marking functions: what each leaves. -/
import Derived.Test.YthpnobngoghhiaaDoorVMTac
import Derived.Test.YthpnobngoghhiaaDoorLVBase
import Derived.Test.YthpnobngoghhiaaDoorLV
set_option linter.unusedSimpArgs false
set_option linter.unusedVariables false
namespace Go.Proofs.YthpnobngoghhiaaDoor
open Go.RowKit
section
variable {α : Type} {g : Nat → α → α} {xs : List α}
def fillM (g : Nat → α → α) (xs : List α) (k : Nat) : List α := (xs.mapIdx g).take k ++ xs.drop k
theorem fillM_zero : fillM g xs 0 = xs := by simp [fillM]
theorem fillM_all : fillM g xs xs.length = xs.mapIdx g := by
  rw [fillM, List.drop_length, List.append_nil, List.take_of_length_le (by simp)]
theorem fillM_len (k : Nat) : (fillM g xs k).length = xs.length := by simp [fillM]; omega
theorem fillM_get {k : Nat} {x : α} (h : xs[k]? = some x) : (fillM g xs k)[k]? = some x := by
  have hk := (List.getElem?_eq_some_iff.1 h).1
  have hl : ((xs.mapIdx g).take k).length = k := by simp; omega
  rw [fillM, List.getElem?_append_right (by omega), hl, Nat.sub_self, List.getElem?_drop]
  simpa using h
theorem fillM_set {k : Nat} {x : α} (h : xs[k]? = some x) : (fillM g xs k).set k (g k x) = fillM g xs (k + 1) := by
  have hk := (List.getElem?_eq_some_iff.1 h).1
  have hl : ((xs.mapIdx g).take k).length = k := by simp; omega
  have hm : (xs.mapIdx g)[k]? = some (g k x) := by rw [List.getElem?_mapIdx, h]; rfl
  rw [fillM, fillM, List.set_append_right _ _ (by omega), hl, Nat.sub_self, drop_at h, List.set_cons_zero, take_snoc_get hm, List.append_assoc]
  rfl
end
section
variable {α : Type} (w : α → Nat) (g : Nat → α → α)
def wSum : List α → Nat
  | [] => 0
  | x :: xs => w x + wSum xs
variable {ys xs : List α}
end
theorem Rep.cov {B : World} {X : List Nat} {N : Nat} {M : MM} {e e' : Env} {h h' : List Blk} {a : Act} {w : World} (R : Rep B X N M e h a w) (h1 : cov e e') (h2 : covH h h') (h3 : (scE h' e' && scH h' h' && (match h' with | .gone :: _ => true | _ => false)) = true) : ∃ M', Rep B X N M' e' h' a w := Weak.cov h1 h2 h3 _ _ _ _ _ _ R
structure Tk where
  g : Nat
  cap : Nat
  sz : Nat
  t : TypeId
  n : Nat
def Tk.ok (τ : Tk) (n1 : Nat) (ys : List D) : Prop := (ys ≠ [] → τ.n = n1) ∧ (τ.cap = 0 ∨ τ.cap * τ.n < τ.sz)

def mkEAxisPoint (k : Nat) (_ : TAxisPoint) : TAxisPoint := ⟨((k : Nat) : Int), ((k + 1 : Nat) : Int)⟩
def mkLAxisPoint (k : Nat) (xs : List TAxisPoint) : List TAxisPoint := xs.mapIdx fun i x => mkEAxisPoint (k + 2 * i) x
theorem mkLAxisPoint_len (k : Nat) (xs : List TAxisPoint) : (mkLAxisPoint k xs).length = xs.length := by simp [mkLAxisPoint]
theorem mkAxisPointS_nil (k : Nat) : PC Tryd.prog 23 [.d (.lst []), .d (.int .i64 (k : Nat))] (.d (.int .i64 (k : Nat))) [] := by
  refine pc_intro ttOk (by kernel_rfl) Tryd.func23 rfl (by kernel_rfl) (by kernel_rfl) (by kernel_rfl) (fun hw => ?_)
  (conv => whnf)
  refine LoopW.go (α := Nat) (fun i => [(0, .d (.lst [])), (1, .d (.int .i64 (k : Nat))), (5, .d (.int .i64 (0 : Nat)))]) (fun _ => [.gone]) (fun _ => True) (fun i => i) 0 covT_ trivial (fun i _ => ?_)
  (conv => whnf)
  (repeat' (first | (refine stg_ ?_) | fail | (refine br_ (fun hbr => ?_) (fun hbr => ?_))))
  all_goals first | (exfalso; simp_all; done) | (refine RetOK.d rfl rfl ?_; conv => whnf)
set_option maxHeartbeats 2000000 in
theorem mkAxisPointS_pk (xs : List TAxisPoint) (k : Nat) (hb : k + 2 * xs.length ≤ 4611686018427387904) (h1 : 1 ≤ k) : PK Tryd.prog 23 2 (xs.map TAxisPoint.D) [.d (.int .i64 (k : Nat))] (.d (.int .i64 ((k + 2 * xs.length : Nat)))) ((mkLAxisPoint k xs).map TAxisPoint.D) := by
  have hL : (xs.map TAxisPoint.D).length = xs.length := List.length_map _
  refine pk_intro ttOk (by kernel_rfl) Tryd.func23 rfl (by kernel_rfl) (by kernel_rfl) (by kernel_rfl) (by simp [mkLAxisPoint]) rfl rfl (fun hx => ?_) (fun c s g sz t hw hm => ?_)
  · have hx : xs = [] := List.map_eq_nil_iff.1 hx
    subst hx
    refine pc_intro ttOk (by kernel_rfl) Tryd.func23 rfl (by kernel_rfl) (by kernel_rfl) (by kernel_rfl) (fun hw => ?_)
    (conv => whnf)
    refine LoopW.go (α := Nat) (fun i => [(0, .d (.lst [])), (1, .d (.int .i64 (k : Nat))), (5, .d (.int .i64 (0 : Nat)))]) (fun _ => [.gone]) (fun _ => True) (fun i => i) 0 covT_ trivial (fun i _ => ?_)
    (conv => whnf)
    (repeat' (first | (refine stg_ ?_) | fail | (refine br_ (fun hbr => ?_) (fun hbr => ?_))))
    all_goals first | (exfalso; simp_all; done) | ((refine RetOK.d rfl rfl ?_; conv => whnf); simp)
  · (conv => whnf)
    refine LoopW.go (α := Nat) (fun i => [(0, .own 2 0 (xs.map TAxisPoint.D).length), (1, .d (.int .i64 ((k + 2 * i : Nat)))), (5, .d (.int .i64 i))]) (fun i => [.gone, .gho c s g sz t, .arr 2 ((fillM (fun i x => mkEAxisPoint (k + 2 * i) x) xs i).map TAxisPoint.D) true]) (fun i => i ≤ xs.length) (fun i => xs.length - i) 0 (Weak.cov ⟨rfl, rfl, rfl, trivial⟩ ⟨trivial, rfl, by first | (rw [fillM_zero]; done) | (rw [fillM_zero]; rfl), trivial⟩ rfl) (by omega) (fun i hi => ?_)
    have hfl : ((fillM (fun i x => mkEAxisPoint (k + 2 * i) x) xs i).map TAxisPoint.D).length = xs.length := by rw [List.length_map, fillM_len]
    (conv => whnf)
    (refine br_ (fun h2 => ?_) (fun h2 => ?_))
    · obtain ⟨x, hx⟩ := at_lt' (xs := xs) (k := i) (by omega)
      have he0 : ((fillM (fun i x => mkEAxisPoint (k + 2 * i) x) xs i).map TAxisPoint.D)[i]? = some (TAxisPoint.D x) := by rw [List.getElem?_map, fillM_get hx]; rfl
      (try (refine ArW.i64e ((k + 2 * i : Nat) : Int) rfl (by omega) ?_; (conv => whnf)))
      refine IoW.at (by omega) (by omega) ?_
      (conv => whnf)
      (try (refine ArW.i64e ((k + 2 * i : Nat) : Int) rfl (by omega) ?_; (conv => whnf)))
      refine EoW.at he0 ?_
      (conv => whnf)
      refine ArW.i64e ((k + 2 * i + 1 : Nat) : Int) (by omega) (by omega) ?_
      (conv => whnf)
      (try (refine ArW.i64e ((k + 2 * i + 1 : Nat) : Int) rfl (by omega) ?_; (conv => whnf)))
      refine IoW.at (by omega) (by omega) ?_
      (conv => whnf)
      (try (refine ArW.i64e ((k + 2 * i + 1 : Nat) : Int) rfl (by omega) ?_; (conv => whnf)))
      refine EoW.at (List.getElem?_set_self (by (try simp only [List.length_set]); omega)) ?_
      (conv => whnf)
      refine ArW.i64e ((k + 2 * i + 2 : Nat) : Int) (by omega) (by omega) ?_
      (conv => whnf)
      (repeat (refine stg_ ?_))
      refine NextW.go (i + 1) (Weak.cov ⟨rfl, by rw [show k + 2 * (i + 1) = k + 2 * i + 2 by omega]; rfl, rfl, trivial⟩ ⟨trivial, rfl, ?_, trivial⟩ rfl) (by omega) (by omega)
      show Blk.arr 2 _ true = Blk.arr 2 _ true
      rw [← fillM_set hx, List.map_set]
      (try simp only [List.set_set])
      rfl
    · obtain rfl : i = xs.length := by omega
      (conv => whnf)
      refine ⟨rfl, [], ?_⟩
      rw [fillM_all]; rfl
set_option maxHeartbeats 2000000 in
theorem hdAxisPointS_v (xs : List TAxisPoint) (k : Nat) (hb : k + 2 * xs.length ≤ 4611686018427387904) (h1 : 1 ≤ k) : PC Tryd.prog 24 [.d (.lst ((mkLAxisPoint k xs).map TAxisPoint.D)), .d (.int .i64 (k : Nat))] (.d (.int .i64 ((k + 2 * xs.length : Nat)))) [] := by
  refine pc_intro ttOk (by kernel_rfl) Tryd.func24 rfl (by kernel_rfl) (by kernel_rfl) (by kernel_rfl) (fun hw => ?_)
  have hL : ((mkLAxisPoint k xs).map TAxisPoint.D).length = xs.length := by simp [mkLAxisPoint]
  (conv => whnf)
  refine LoopW.go (α := Nat) (fun i => [(0, .d (.lst ((mkLAxisPoint k xs).map TAxisPoint.D))), (1, .d (.int .i64 ((k + 2 * i : Nat)))), (5, .d (.int .i64 i))]) (fun _ => [.gone]) (fun i => i ≤ xs.length) (fun i => xs.length - i) 0 covT_ (by omega) (fun i hi => ?_)
  (conv => whnf)
  (refine br_ (fun h2 => ?_) (fun h2 => ?_))
  · obtain ⟨y, hy⟩ := at_lt' (xs := xs) (k := i) (by omega)
    have hx : (mkLAxisPoint k xs)[i]? = some (mkEAxisPoint (k + 2 * i) y) := by rw [mkLAxisPoint, List.getElem?_mapIdx, hy]; rfl
    (repeat (refine stg_ ?_))
    refine BIf.mk (fun h3 => ?_) (fun h3 => ?_)
    · exfalso; simp [mkEAxisPoint] at h3
    (conv => whnf)
    refine ArW.i64e ((k + 2 * i + 1 : Nat) : Int) (by omega) (by omega) ?_
    (conv => whnf)
    (repeat (refine stg_ ?_))
    refine BIf.mk (fun h3 => ?_) (fun h3 => ?_)
    · exfalso; simp [mkEAxisPoint] at h3
    (conv => whnf)
    refine ArW.i64e ((k + 2 * i + 2 : Nat) : Int) (by omega) (by omega) ?_
    (conv => whnf)
    (repeat (refine stg_ ?_))
    exact NextW.go (i + 1) (Weak.cov ⟨rfl, by rw [show k + 2 * (i + 1) = k + 2 * i + 2 by omega]; rfl, rfl, trivial⟩ ⟨trivial, trivial⟩ rfl) (by omega) (by omega)
  · obtain rfl : i = xs.length := by omega
    (conv => whnf)
    (refine RetOK.d rfl rfl ?_; conv => whnf)


end Go.Proofs.YthpnobngoghhiaaDoor
