/- The laws' own marking functions: what each leaves. -/
import Derived.Test.YtdjdkkacbkfmeaaVMIn
import Derived.Test.YtdjdkkacbkfmeaaDec
import Derived.Test.YtdjdkkacbkfmeaaDt
import Derived.Test.YtdjdkkacbkfmeaaLV
set_option linter.unusedSimpArgs false
set_option linter.unusedVariables false
namespace Go.Proofs.Ytdjdkkacbkfmeaa
open Go.RowKit
section
variable {α : Type} {g : Nat → α → α} {xs : List α}
def fillM (g : Nat → α → α) (xs : List α) (k : Nat) : List α := (xs.mapIdx g).take k ++ xs.drop k
theorem fillM_zero : fillM g xs 0 = xs := by simp [fillM]
theorem fillM_all : fillM g xs xs.length = xs.mapIdx g := by
  rw [fillM, List.drop_length, List.append_nil, List.take_of_length_le (by simp)]
theorem fillM_len (k : Nat) : (fillM g xs k).length = xs.length := by simp [fillM]; omega
theorem fillM_get {k : Nat} {x : α} (h : xs[k]? = some x) : (fillM g xs k)[k]? = some x := by
  have hk := (List.getElem?_eq_some_iff.1 h).1
  have hl : ((xs.mapIdx g).take k).length = k := by simp; omega
  rw [fillM, List.getElem?_append_right (by omega), hl, Nat.sub_self, List.getElem?_drop]
  simpa using h
theorem fillM_set {k : Nat} {x : α} (h : xs[k]? = some x) : (fillM g xs k).set k (g k x) = fillM g xs (k + 1) := by
  have hk := (List.getElem?_eq_some_iff.1 h).1
  have hl : ((xs.mapIdx g).take k).length = k := by simp; omega
  have hm : (xs.mapIdx g)[k]? = some (g k x) := by rw [List.getElem?_mapIdx, h]; rfl
  rw [fillM, fillM, List.set_append_right _ _ (by omega), hl, Nat.sub_self, drop_at h, List.set_cons_zero, take_snoc_get hm, List.append_assoc]
  rfl
end
/-! ### lists that are marked -/
section
variable {α : Type} (w : α → Nat) (g : Nat → α → α)
def wSum : List α → Nat
  | [] => 0
  | x :: xs => w x + wSum xs
def mkG : Nat → List α → List α
  | _, [] => []
  | k, x :: xs => g k x :: mkG (k + w x) xs
def fillG (ys xs : List α) (i : Nat) : List α := ys.take i ++ xs.drop i
theorem wSum_succ : ∀ (xs : List α) (i : Nat) (x : α), xs[i]? = some x → wSum w (xs.take (i + 1)) = wSum w (xs.take i) + w x
  | [], i, x, h => by simp at h
  | y :: xs, 0, x, h => by simp at h; subst h; simp [wSum]
  | y :: xs, i + 1, x, h => by
    have := wSum_succ xs i x (by simpa using h)
    simp only [List.take_succ_cons, wSum, this]
    omega
theorem wSum_le : ∀ (xs : List α) (i : Nat), wSum w (xs.take i) ≤ wSum w xs
  | [], i => by simp [wSum]
  | y :: xs, 0 => by simp [wSum]
  | y :: xs, i + 1 => by
    have := wSum_le xs i
    simp only [List.take_succ_cons, wSum]
    omega
theorem wSum_z {z : α → Nat} (h : ∀ x, w x ≤ 8 * z x + 8) : ∀ xs : List α, wSum w xs ≤ 8 * zL z xs
  | [] => by simp [wSum]
  | x :: xs => by
    have h1 := wSum_z h xs
    have h2 := h x
    simp only [wSum, zL, List.map_cons, List.sum_cons, List.length_cons] at *
    omega
theorem mkG_len : ∀ (xs : List α) (k : Nat), (mkG w g k xs).length = xs.length
  | [], k => rfl
  | x :: xs, k => by simp [mkG, mkG_len xs]
theorem mkG_get : ∀ (xs : List α) (k i : Nat) (x : α), xs[i]? = some x → (mkG w g k xs)[i]? = some (g (k + wSum w (xs.take i)) x)
  | [], k, i, x, h => by simp at h
  | y :: xs, k, 0, x, h => by simp at h; subst h; simp [mkG, wSum]
  | y :: xs, k, i + 1, x, h => by
    have := mkG_get xs (k + w y) i x (by simpa using h)
    simp only [mkG, List.getElem?_cons_succ, List.take_succ_cons, wSum, this]
    rw [Nat.add_assoc]
variable {ys xs : List α}
theorem fillG_zero : fillG ys xs 0 = xs := by simp [fillG]
theorem fillG_all (h : ys.length = xs.length) : fillG ys xs xs.length = ys := by
  rw [fillG, List.drop_length, List.append_nil, List.take_of_length_le (by omega)]
theorem fillG_len (h : ys.length = xs.length) (k : Nat) : (fillG ys xs k).length = xs.length := by simp [fillG]; omega
theorem fillG_get (h : ys.length = xs.length) {k : Nat} {x : α} (hx : xs[k]? = some x) : (fillG ys xs k)[k]? = some x := by
  have hk := (List.getElem?_eq_some_iff.1 hx).1
  have hl : (ys.take k).length = k := by simp; omega
  rw [fillG, List.getElem?_append_right (by omega), hl, Nat.sub_self, List.getElem?_drop]
  simpa using hx
theorem fillG_set (h : ys.length = xs.length) {k : Nat} {y : α} (hy : ys[k]? = some y) : (fillG ys xs k).set k y = fillG ys xs (k + 1) := by
  have hk := (List.getElem?_eq_some_iff.1 hy).1
  obtain ⟨x, hx⟩ := at_lt (xs := xs) (k := k) (by omega)
  have hl : (ys.take k).length = k := by simp; omega
  rw [fillG, fillG, List.set_append_right _ _ (by omega), hl, Nat.sub_self, drop_at hx, List.set_cons_zero, take_snoc_get hy, List.append_assoc]
  rfl
end
theorem Rep.cov {B : World} {X : List Nat} {N : Nat} {M : MM} {e e' : Env} {h h' : List Blk} {a : Act} {w : World} (R : Rep B X N M e h a w) (h1 : cov e e') (h2 : covH h h') (h3 : (scE h' e' && scH h' h' && (match h' with | .gone :: _ => true | _ => false)) = true) : ∃ M', Rep B X N M' e' h' a w := Weak.cov h1 h2 h3 _ _ _ _ _ _ R
/-- a loop whose state is chosen in the world -/
theorem LoopW.goX {F : Post → Env → List Blk → Prop} {Q : Post} {e : Env} {h : List Blk} {α : Type} (mkE : α → Env) (mkH : α → List Blk) (I : α → Prop) (μ : α → Nat)
    (h0 : ∀ (B : World) (X : List Nat) (N : Nat) (M : MM) (a : Act) (w : World), Rep B X N M e h a w → ∃ x0 M', Rep B X N M' (mkE x0) (mkH x0) a w ∧ I x0)
    (h1 : ∀ x, I x → ∀ E H, mkE x = E → mkH x = H → F (loopQ mkE mkH I μ Q x) E H) : LoopW F Q e h := ⟨⟨α, mkE, mkH, I, μ, h0, fun x hx => h1 x hx _ _ rfl rfl⟩⟩
/-- a row taken out of its element: where it lies, its room -/
structure Tk where
  g : Nat
  cap : Nat
  sz : Nat
  t : TypeId
  n : Nat
def Tk.ok (τ : Tk) (n1 : Nat) (ys : List D) : Prop := (ys ≠ [] → τ.n = n1) ∧ (τ.cap = 0 ∨ τ.cap * τ.n < τ.sz)

/-- the text of a mark -/
def mkT (k : Nat) : ByteArray := mkS (109 :: decL k)
theorem decS_preN {n k : Nat} {L : List UInt8} (h : (if k = 0 then [] else decL k) ++ L = decL n) (hk : k ≠ 0) : (if k / 10 = 0 then [] else decL (k / 10)) ++ (dgC (k % 10) :: L) = decL n := by
  rw [← h, if_neg hk]
  by_cases h1 : k < 10
  · rw [decL_lo h1, if_pos (by omega), Nat.mod_eq_of_lt h1]; rfl
  · rw [decL_hi h1, if_neg (by omega)]; simp
def mkEInt64 (k : Nat) (_ : Int) : Int := ((k : Nat) : Int)
/-- a marked list -/
def mkLInt64 (k : Nat) (xs : List Int) : List Int := xs.mapIdx fun i x => mkEInt64 (k + 1 * i) x
theorem mkLInt64_len (k : Nat) (xs : List Int) : (mkLInt64 k xs).length = xs.length := by simp [mkLInt64]
theorem mkInt64S_nil (k : Nat) : PC Try.prog 28 [.d (.lst []), .d (.int .i64 (k : Nat))] (.d (.int .i64 (k : Nat))) [] := by
  refine pc_intro ttOk (by kernel_rfl) Try.func28 rfl (by kernel_rfl) (by kernel_rfl) (by kernel_rfl) (fun hw => ?_)
  (conv => whnf)
  refine LoopW.go (α := Nat) (fun i => [(0, .d (.lst [])), (1, .d (.int .i64 (k : Nat))), (5, .d (.int .i64 (0 : Nat)))]) (fun _ => [.gone]) (fun _ => True) (fun i => i) 0 covT_ trivial (fun i _ => ?_)
  (conv => whnf)
  (repeat' (first | (refine stg_ ?_) | fail | (refine br_ (fun hbr => ?_) (fun hbr => ?_))))
  all_goals first | (exfalso; simp_all; done) | (refine RetOK.d rfl rfl ?_; conv => whnf)
set_option maxHeartbeats 2000000 in
theorem mkInt64S_pk (xs : List Int) (k : Nat) (hb : k + 1 * xs.length ≤ 4611686018427387904) (h1 : 1 ≤ k) : PK Try.prog 28 1 (xs.map (D.int .i64)) [.d (.int .i64 (k : Nat))] (.d (.int .i64 ((k + 1 * xs.length : Nat)))) ((mkLInt64 k xs).map (D.int .i64)) := by
  have hL : (xs.map (D.int .i64)).length = xs.length := List.length_map _
  refine pk_intro ttOk (by kernel_rfl) Try.func28 rfl (by kernel_rfl) (by kernel_rfl) (by kernel_rfl) (by simp [mkLInt64]) rfl rfl (fun hx => ?_) (fun c s g sz t hw hm => ?_)
  · have hx : xs = [] := List.map_eq_nil_iff.1 hx
    subst hx
    refine pc_intro ttOk (by kernel_rfl) Try.func28 rfl (by kernel_rfl) (by kernel_rfl) (by kernel_rfl) (fun hw => ?_)
    (conv => whnf)
    refine LoopW.go (α := Nat) (fun i => [(0, .d (.lst [])), (1, .d (.int .i64 (k : Nat))), (5, .d (.int .i64 (0 : Nat)))]) (fun _ => [.gone]) (fun _ => True) (fun i => i) 0 covT_ trivial (fun i _ => ?_)
    (conv => whnf)
    (repeat' (first | (refine stg_ ?_) | fail | (refine br_ (fun hbr => ?_) (fun hbr => ?_))))
    all_goals first | (exfalso; simp_all; done) | ((refine RetOK.d rfl rfl ?_; conv => whnf); simp)
  · (conv => whnf)
    refine LoopW.go (α := Nat) (fun i => [(0, .own 2 0 (xs.map (D.int .i64)).length), (1, .d (.int .i64 ((k + 1 * i : Nat)))), (5, .d (.int .i64 i))]) (fun i => [.gone, .gho c s g sz t, .arr 1 ((fillM (fun i x => mkEInt64 (k + 1 * i) x) xs i).map (D.int .i64)) true]) (fun i => i ≤ xs.length) (fun i => xs.length - i) 0 (Weak.cov ⟨rfl, rfl, rfl, trivial⟩ ⟨trivial, rfl, by first | (rw [fillM_zero]; done) | (rw [fillM_zero]; rfl), trivial⟩ rfl) (by omega) (fun i hi => ?_)
    have hfl : ((fillM (fun i x => mkEInt64 (k + 1 * i) x) xs i).map (D.int .i64)).length = xs.length := by rw [List.length_map, fillM_len]
    (conv => whnf)
    (refine br_ (fun h2 => ?_) (fun h2 => ?_))
    · obtain ⟨x, hx⟩ := at_lt' (xs := xs) (k := i) (by omega)
      have he0 : ((fillM (fun i x => mkEInt64 (k + 1 * i) x) xs i).map (D.int .i64))[i]? = some ((D.int .i64) x) := by rw [List.getElem?_map, fillM_get hx]; rfl
      (try (refine ArW.i64e ((k + 1 * i : Nat) : Int) rfl (by omega) ?_; (conv => whnf)))
      refine IoW.at (by omega) (by omega) ?_
      (conv => whnf)
      (try (refine ArW.i64e ((k + 1 * i : Nat) : Int) rfl (by omega) ?_; (conv => whnf)))
      refine EoW.at he0 ?_
      (conv => whnf)
      refine ArW.i64e ((k + 1 * i + 1 : Nat) : Int) (by omega) (by omega) ?_
      (conv => whnf)
      (repeat (refine stg_ ?_))
      refine NextW.go (i + 1) (Weak.cov ⟨rfl, by rw [show k + 1 * (i + 1) = k + 1 * i + 1 by omega]; rfl, rfl, trivial⟩ ⟨trivial, rfl, ?_, trivial⟩ rfl) (by omega) (by omega)
      show Blk.arr 1 _ true = Blk.arr 1 _ true
      rw [← fillM_set hx, List.map_set]
      (try simp only [List.set_set])
      rfl
    · obtain rfl : i = xs.length := by omega
      (conv => whnf)
      refine ⟨rfl, [], ?_⟩
      rw [fillM_all]; rfl
def mkEPt (k : Nat) (_ : TPt) : TPt := ⟨((k : Nat) : Int), ((k + 1 : Nat) : Int)⟩
/-- a marked list -/
def mkLPt (k : Nat) (xs : List TPt) : List TPt := xs.mapIdx fun i x => mkEPt (k + 2 * i) x
theorem mkLPt_len (k : Nat) (xs : List TPt) : (mkLPt k xs).length = xs.length := by simp [mkLPt]
theorem mkPtS_nil (k : Nat) : PC Try.prog 29 [.d (.lst []), .d (.int .i64 (k : Nat))] (.d (.int .i64 (k : Nat))) [] := by
  refine pc_intro ttOk (by kernel_rfl) Try.func29 rfl (by kernel_rfl) (by kernel_rfl) (by kernel_rfl) (fun hw => ?_)
  (conv => whnf)
  refine LoopW.go (α := Nat) (fun i => [(0, .d (.lst [])), (1, .d (.int .i64 (k : Nat))), (5, .d (.int .i64 (0 : Nat)))]) (fun _ => [.gone]) (fun _ => True) (fun i => i) 0 covT_ trivial (fun i _ => ?_)
  (conv => whnf)
  (repeat' (first | (refine stg_ ?_) | fail | (refine br_ (fun hbr => ?_) (fun hbr => ?_))))
  all_goals first | (exfalso; simp_all; done) | (refine RetOK.d rfl rfl ?_; conv => whnf)
set_option maxHeartbeats 2000000 in
theorem mkPtS_pk (xs : List TPt) (k : Nat) (hb : k + 2 * xs.length ≤ 4611686018427387904) (h1 : 1 ≤ k) : PK Try.prog 29 2 (xs.map TPt.D) [.d (.int .i64 (k : Nat))] (.d (.int .i64 ((k + 2 * xs.length : Nat)))) ((mkLPt k xs).map TPt.D) := by
  have hL : (xs.map TPt.D).length = xs.length := List.length_map _
  refine pk_intro ttOk (by kernel_rfl) Try.func29 rfl (by kernel_rfl) (by kernel_rfl) (by kernel_rfl) (by simp [mkLPt]) rfl rfl (fun hx => ?_) (fun c s g sz t hw hm => ?_)
  · have hx : xs = [] := List.map_eq_nil_iff.1 hx
    subst hx
    refine pc_intro ttOk (by kernel_rfl) Try.func29 rfl (by kernel_rfl) (by kernel_rfl) (by kernel_rfl) (fun hw => ?_)
    (conv => whnf)
    refine LoopW.go (α := Nat) (fun i => [(0, .d (.lst [])), (1, .d (.int .i64 (k : Nat))), (5, .d (.int .i64 (0 : Nat)))]) (fun _ => [.gone]) (fun _ => True) (fun i => i) 0 covT_ trivial (fun i _ => ?_)
    (conv => whnf)
    (repeat' (first | (refine stg_ ?_) | fail | (refine br_ (fun hbr => ?_) (fun hbr => ?_))))
    all_goals first | (exfalso; simp_all; done) | ((refine RetOK.d rfl rfl ?_; conv => whnf); simp)
  · (conv => whnf)
    refine LoopW.go (α := Nat) (fun i => [(0, .own 2 0 (xs.map TPt.D).length), (1, .d (.int .i64 ((k + 2 * i : Nat)))), (5, .d (.int .i64 i))]) (fun i => [.gone, .gho c s g sz t, .arr 2 ((fillM (fun i x => mkEPt (k + 2 * i) x) xs i).map TPt.D) true]) (fun i => i ≤ xs.length) (fun i => xs.length - i) 0 (Weak.cov ⟨rfl, rfl, rfl, trivial⟩ ⟨trivial, rfl, by first | (rw [fillM_zero]; done) | (rw [fillM_zero]; rfl), trivial⟩ rfl) (by omega) (fun i hi => ?_)
    have hfl : ((fillM (fun i x => mkEPt (k + 2 * i) x) xs i).map TPt.D).length = xs.length := by rw [List.length_map, fillM_len]
    (conv => whnf)
    (refine br_ (fun h2 => ?_) (fun h2 => ?_))
    · obtain ⟨x, hx⟩ := at_lt' (xs := xs) (k := i) (by omega)
      have he0 : ((fillM (fun i x => mkEPt (k + 2 * i) x) xs i).map TPt.D)[i]? = some (TPt.D x) := by rw [List.getElem?_map, fillM_get hx]; rfl
      (try (refine ArW.i64e ((k + 2 * i : Nat) : Int) rfl (by omega) ?_; (conv => whnf)))
      refine IoW.at (by omega) (by omega) ?_
      (conv => whnf)
      (try (refine ArW.i64e ((k + 2 * i : Nat) : Int) rfl (by omega) ?_; (conv => whnf)))
      refine EoW.at he0 ?_
      (conv => whnf)
      refine ArW.i64e ((k + 2 * i + 1 : Nat) : Int) (by omega) (by omega) ?_
      (conv => whnf)
      (try (refine ArW.i64e ((k + 2 * i + 1 : Nat) : Int) rfl (by omega) ?_; (conv => whnf)))
      refine IoW.at (by omega) (by omega) ?_
      (conv => whnf)
      (try (refine ArW.i64e ((k + 2 * i + 1 : Nat) : Int) rfl (by omega) ?_; (conv => whnf)))
      refine EoW.at (List.getElem?_set_self (by (try simp only [List.length_set]); omega)) ?_
      (conv => whnf)
      refine ArW.i64e ((k + 2 * i + 2 : Nat) : Int) (by omega) (by omega) ?_
      (conv => whnf)
      (repeat (refine stg_ ?_))
      refine NextW.go (i + 1) (Weak.cov ⟨rfl, by rw [show k + 2 * (i + 1) = k + 2 * i + 2 by omega]; rfl, rfl, trivial⟩ ⟨trivial, rfl, ?_, trivial⟩ rfl) (by omega) (by omega)
      show Blk.arr 2 _ true = Blk.arr 2 _ true
      rw [← fillM_set hx, List.map_set]
      (try simp only [List.set_set])
      rfl
    · obtain rfl : i = xs.length := by omega
      (conv => whnf)
      refine ⟨rfl, [], ?_⟩
      rw [fillM_all]; rfl
set_option maxHeartbeats 2000000 in
theorem hdPtS_v (xs : List TPt) (k : Nat) (hb : k + 2 * xs.length ≤ 4611686018427387904) (h1 : 1 ≤ k) : PC Try.prog 30 [.d (.lst ((mkLPt k xs).map TPt.D)), .d (.int .i64 (k : Nat))] (.d (.int .i64 ((k + 2 * xs.length : Nat)))) [] := by
  refine pc_intro ttOk (by kernel_rfl) Try.func30 rfl (by kernel_rfl) (by kernel_rfl) (by kernel_rfl) (fun hw => ?_)
  have hL : ((mkLPt k xs).map TPt.D).length = xs.length := by simp [mkLPt]
  (conv => whnf)
  refine LoopW.go (α := Nat) (fun i => [(0, .d (.lst ((mkLPt k xs).map TPt.D))), (1, .d (.int .i64 ((k + 2 * i : Nat)))), (5, .d (.int .i64 i))]) (fun _ => [.gone]) (fun i => i ≤ xs.length) (fun i => xs.length - i) 0 covT_ (by omega) (fun i hi => ?_)
  (conv => whnf)
  (refine br_ (fun h2 => ?_) (fun h2 => ?_))
  · obtain ⟨y, hy⟩ := at_lt' (xs := xs) (k := i) (by omega)
    have hx : (mkLPt k xs)[i]? = some (mkEPt (k + 2 * i) y) := by rw [mkLPt, List.getElem?_mapIdx, hy]; rfl
    (repeat (refine stg_ ?_))
    refine BIf.mk (fun h3 => ?_) (fun h3 => ?_)
    · exfalso; simp [mkEPt] at h3
    (conv => whnf)
    refine ArW.i64e ((k + 2 * i + 1 : Nat) : Int) (by omega) (by omega) ?_
    (conv => whnf)
    (repeat (refine stg_ ?_))
    refine BIf.mk (fun h3 => ?_) (fun h3 => ?_)
    · exfalso; simp [mkEPt] at h3
    (conv => whnf)
    refine ArW.i64e ((k + 2 * i + 2 : Nat) : Int) (by omega) (by omega) ?_
    (conv => whnf)
    (repeat (refine stg_ ?_))
    exact NextW.go (i + 1) (Weak.cov ⟨rfl, by rw [show k + 2 * (i + 1) = k + 2 * i + 2 by omega]; rfl, rfl, trivial⟩ ⟨trivial, trivial⟩ rfl) (by omega) (by omega)
  · obtain rfl : i = xs.length := by omega
    (conv => whnf)
    (refine RetOK.d rfl rfl ?_; conv => whnf)
def mkEKnot (k : Nat) (_ : TKnot) : TKnot := ⟨⟨((k : Nat) : Int), ((k + 1 : Nat) : Int)⟩, (((k + 2 : Nat) : Int).tmod 3 == 0)⟩
/-- a marked list -/
def mkLKnot (k : Nat) (xs : List TKnot) : List TKnot := xs.mapIdx fun i x => mkEKnot (k + 3 * i) x
theorem mkLKnot_len (k : Nat) (xs : List TKnot) : (mkLKnot k xs).length = xs.length := by simp [mkLKnot]
theorem mkKnotS_nil (k : Nat) : PC Try.prog 128 [.d (.lst []), .d (.int .i64 (k : Nat))] (.d (.int .i64 (k : Nat))) [] := by
  refine pc_intro ttOk (by kernel_rfl) Try.func128 rfl (by kernel_rfl) (by kernel_rfl) (by kernel_rfl) (fun hw => ?_)
  (conv => whnf)
  refine LoopW.go (α := Nat) (fun i => [(0, .d (.lst [])), (1, .d (.int .i64 (k : Nat))), (5, .d (.int .i64 (0 : Nat)))]) (fun _ => [.gone]) (fun _ => True) (fun i => i) 0 covT_ trivial (fun i _ => ?_)
  (conv => whnf)
  (repeat' (first | (refine stg_ ?_) | fail | (refine br_ (fun hbr => ?_) (fun hbr => ?_))))
  all_goals first | (exfalso; simp_all; done) | (refine RetOK.d rfl rfl ?_; conv => whnf)
set_option maxHeartbeats 2000000 in
theorem mkKnotS_pk (xs : List TKnot) (k : Nat) (hb : k + 3 * xs.length ≤ 4611686018427387904) (h1 : 1 ≤ k) : PK Try.prog 128 3 (xs.map TKnot.D) [.d (.int .i64 (k : Nat))] (.d (.int .i64 ((k + 3 * xs.length : Nat)))) ((mkLKnot k xs).map TKnot.D) := by
  have hL : (xs.map TKnot.D).length = xs.length := List.length_map _
  refine pk_intro ttOk (by kernel_rfl) Try.func128 rfl (by kernel_rfl) (by kernel_rfl) (by kernel_rfl) (by simp [mkLKnot]) rfl rfl (fun hx => ?_) (fun c s g sz t hw hm => ?_)
  · have hx : xs = [] := List.map_eq_nil_iff.1 hx
    subst hx
    refine pc_intro ttOk (by kernel_rfl) Try.func128 rfl (by kernel_rfl) (by kernel_rfl) (by kernel_rfl) (fun hw => ?_)
    (conv => whnf)
    refine LoopW.go (α := Nat) (fun i => [(0, .d (.lst [])), (1, .d (.int .i64 (k : Nat))), (5, .d (.int .i64 (0 : Nat)))]) (fun _ => [.gone]) (fun _ => True) (fun i => i) 0 covT_ trivial (fun i _ => ?_)
    (conv => whnf)
    (repeat' (first | (refine stg_ ?_) | fail | (refine br_ (fun hbr => ?_) (fun hbr => ?_))))
    all_goals first | (exfalso; simp_all; done) | ((refine RetOK.d rfl rfl ?_; conv => whnf); simp)
  · (conv => whnf)
    refine LoopW.go (α := Nat) (fun i => [(0, .own 2 0 (xs.map TKnot.D).length), (1, .d (.int .i64 ((k + 3 * i : Nat)))), (5, .d (.int .i64 i))]) (fun i => [.gone, .gho c s g sz t, .arr 3 ((fillM (fun i x => mkEKnot (k + 3 * i) x) xs i).map TKnot.D) true]) (fun i => i ≤ xs.length) (fun i => xs.length - i) 0 (Weak.cov ⟨rfl, rfl, rfl, trivial⟩ ⟨trivial, rfl, by first | (rw [fillM_zero]; done) | (rw [fillM_zero]; rfl), trivial⟩ rfl) (by omega) (fun i hi => ?_)
    have hfl : ((fillM (fun i x => mkEKnot (k + 3 * i) x) xs i).map TKnot.D).length = xs.length := by rw [List.length_map, fillM_len]
    (conv => whnf)
    (refine br_ (fun h2 => ?_) (fun h2 => ?_))
    · obtain ⟨x, hx⟩ := at_lt' (xs := xs) (k := i) (by omega)
      have he0 : ((fillM (fun i x => mkEKnot (k + 3 * i) x) xs i).map TKnot.D)[i]? = some (TKnot.D x) := by rw [List.getElem?_map, fillM_get hx]; rfl
      (try (refine ArW.i64e ((k + 3 * i : Nat) : Int) rfl (by omega) ?_; (conv => whnf)))
      refine IoW.at (by omega) (by omega) ?_
      (conv => whnf)
      (try (refine ArW.i64e ((k + 3 * i : Nat) : Int) rfl (by omega) ?_; (conv => whnf)))
      refine EoW.at he0 ?_
      (conv => whnf)
      refine ArW.i64e ((k + 3 * i + 1 : Nat) : Int) (by omega) (by omega) ?_
      (conv => whnf)
      (try (refine ArW.i64e ((k + 3 * i + 1 : Nat) : Int) rfl (by omega) ?_; (conv => whnf)))
      refine IoW.at (by omega) (by omega) ?_
      (conv => whnf)
      (try (refine ArW.i64e ((k + 3 * i + 1 : Nat) : Int) rfl (by omega) ?_; (conv => whnf)))
      refine EoW.at (List.getElem?_set_self (by (try simp only [List.length_set]); omega)) ?_
      (conv => whnf)
      refine ArW.i64e ((k + 3 * i + 2 : Nat) : Int) (by omega) (by omega) ?_
      (conv => whnf)
      (try (refine ArW.i64e ((k + 3 * i + 2 : Nat) : Int) rfl (by omega) ?_; (conv => whnf)))
      (try (refine NzW.mk' (by omega) ?_; (conv => whnf)))
      refine IoW.at (by omega) (by omega) ?_
      (conv => whnf)
      (try (refine ArW.i64e ((k + 3 * i + 2 : Nat) : Int) rfl (by omega) ?_; (conv => whnf)))
      refine EoW.at (List.getElem?_set_self (by (try simp only [List.length_set]); omega)) ?_
      (conv => whnf)
      refine ArW.i64e ((k + 3 * i + 3 : Nat) : Int) (by omega) (by omega) ?_
      (conv => whnf)
      (repeat (refine stg_ ?_))
      refine NextW.go (i + 1) (Weak.cov ⟨rfl, by rw [show k + 3 * (i + 1) = k + 3 * i + 3 by omega]; rfl, rfl, trivial⟩ ⟨trivial, rfl, ?_, trivial⟩ rfl) (by omega) (by omega)
      show Blk.arr 3 _ true = Blk.arr 3 _ true
      rw [← fillM_set hx, List.map_set]
      (try simp only [List.set_set])
      rfl
    · obtain rfl : i = xs.length := by omega
      (conv => whnf)
      refine ⟨rfl, [], ?_⟩
      rw [fillM_all]; rfl

def wgtLoop (x : TLoop) : Nat := 0 + 3 * x.fKnots.length
def mkELoop (k : Nat) (x : TLoop) : TLoop := ⟨mkLKnot (k) x.fKnots⟩
theorem wgtLoop_le (x : TLoop) : wgtLoop x ≤ 8 * zLoop x + 8 := by simp only [wgtLoop, zLoop, zL] at *; omega
def hoLoop (x : TLoop) (u0 : D) : D := .st [u0]
theorem mkLoopS_nil (k : Nat) : PC Try.prog 75 [.d (.lst []), .d (.int .i64 (k : Nat))] (.d (.int .i64 (k : Nat))) [] := by
  refine pc_intro ttOk (by kernel_rfl) Try.func75 rfl (by kernel_rfl) (by kernel_rfl) (by kernel_rfl) (fun hw => ?_)
  (conv => whnf)
  refine LoopW.go (α := Nat) (fun i => [(0, .d (.lst [])), (1, .d (.int .i64 (k : Nat))), (5, .d (.int .i64 (0 : Nat)))]) (fun _ => [.gone]) (fun _ => True) (fun i => i) 0 covT_ trivial (fun i _ => ?_)
  (conv => whnf)
  (repeat' (first | (refine stg_ ?_) | fail | (refine br_ (fun hbr => ?_) (fun hbr => ?_))))
  all_goals first | (exfalso; simp_all; done) | (refine RetOK.d rfl rfl ?_; conv => whnf)
set_option maxHeartbeats 4000000 in
theorem mkLoopS_pk (xs : List TLoop) (k : Nat) (hb : k + wSum wgtLoop xs ≤ 4611686018427387904) (h1 : 1 ≤ k) : PK Try.prog 75 1 (xs.map TLoop.D) [.d (.int .i64 (k : Nat))] (.d (.int .i64 ((k + wSum wgtLoop xs : Nat)))) ((mkG wgtLoop mkELoop k xs).map TLoop.D) := by
  have hL : (xs.map TLoop.D).length = xs.length := List.length_map _
  have hG : (mkG wgtLoop mkELoop k xs).length = xs.length := mkG_len _ _ _ _
  refine pk_intro ttOk (by kernel_rfl) Try.func75 rfl (by kernel_rfl) (by kernel_rfl) (by kernel_rfl) (by simp [hG]) rfl rfl (fun hx => ?_) (fun c s g sz t hw hm => ?_)
  · have hx : xs = [] := List.map_eq_nil_iff.1 hx
    subst hx
    refine pc_intro ttOk (by kernel_rfl) Try.func75 rfl (by kernel_rfl) (by kernel_rfl) (by kernel_rfl) (fun hw => ?_)
    (conv => whnf)
    refine LoopW.go (α := Nat) (fun i => [(0, .d (.lst [])), (1, .d (.int .i64 (k : Nat))), (5, .d (.int .i64 (0 : Nat)))]) (fun _ => [.gone]) (fun _ => True) (fun i => i) 0 covT_ trivial (fun i _ => ?_)
    (conv => whnf)
    (repeat' (first | (refine stg_ ?_) | fail | (refine br_ (fun hbr => ?_) (fun hbr => ?_))))
    all_goals first | (exfalso; simp_all; done) | ((refine RetOK.d rfl rfl ?_; conv => whnf); simp [wSum])
  · have hfl : ∀ i, ((fillG (mkG wgtLoop mkELoop k xs) xs i).map TLoop.D).length = xs.length := fun i => by rw [List.length_map, fillG_len hG]
    have hm' : xs.length ≤ 9223372036854775807 := by rw [hL] at hm; exact hm
    let E0 : Nat → Env := fun i => [(0, .own 2 0 (xs.map TLoop.D).length), (1, .d (.int .i64 ((k + wSum wgtLoop (xs.take i) : Nat)))), (5, .d (.int .i64 i))]
    let H0 : Nat → List Blk := fun i => [.gone, .gho c s g sz t, .arr 1 ((fillG (mkG wgtLoop mkELoop k xs) xs i).map TLoop.D) true]
    let mkH : Nat × Option (TLoop × Tk) → List Blk := fun p => match p with
      | (i, none) => H0 i
      | (i, some (x, τ0)) => [.gone, .gho c s g sz t, .arr 1 (((fillG (mkG wgtLoop mkELoop k xs) xs i).map TLoop.D).set i (hoLoop x (.hole τ0.g (x.fKnots.map TKnot.D).length τ0.cap))) true, .arr τ0.n (x.fKnots.map TKnot.D) true, .pin 3 τ0.g τ0.sz τ0.t]
    let I : Nat × Option (TLoop × Tk) → Prop := fun p => (p.2 = none ∧ p.1 = xs.length) ∨ ∃ x τ0, p.2 = some (x, τ0) ∧ xs[p.1]? = some x ∧ τ0.ok 3 (x.fKnots.map TKnot.D)
    have enter : ∀ i, i ≤ xs.length → ∀ (B : World) (X : List Nat) (N : Nat) (M : MM) (a : Act) (w : World), Rep B X N M (E0 i) (H0 i) a w → ∃ p M', Rep B X N M' (E0 p.1) (mkH p) a w ∧ I p ∧ p.1 = i := fun i hi B X N M a w R => by
      rcases Nat.lt_or_ge i xs.length with hlt | hge
      · obtain ⟨x, hx⟩ := at_lt' (xs := xs) (k := i) hlt
        have he : ((fillG (mkG wgtLoop mkELoop k xs) xs i).map TLoop.D)[i]? = some x.D := by rw [List.getElem?_map, fillG_get hG hx]; rfl
        have hf := hfl i
        obtain ⟨g0, cap0, sz0, t0, n0, M0, p0, q0, R0⟩ := R.out (b := 2) (k := i) (p := [0]) (U := fun u => hoLoop x u) (n1 := 3) (by decide) rfl he rfl (fun _ => rfl) (by intro y hy; obtain ⟨z, _, rfl⟩ := List.mem_map.1 hy; rfl)
        exact ⟨(i, some (x, ⟨g0, cap0, sz0, t0, n0⟩)), M0, R0, .inr ⟨x, _, rfl, hx, ⟨p0, q0⟩⟩, rfl⟩
      · exact ⟨(i, none), M, R, .inl ⟨rfl, by show i = _; omega⟩, rfl⟩
    (conv => whnf)
    refine LoopW.goX (fun p => E0 p.1) mkH I (fun p => xs.length - p.1) (fun B X N M a w R => ?_) (fun p hp E H hE hH => ?_)
    · obtain ⟨M1, R1⟩ := R.cov (e' := [(0, .own 2 0 (xs.map TLoop.D).length), (1, .d (.int .i64 ((k + wSum wgtLoop (xs.take 0) : Nat)))), (5, .d (.int .i64 (0 : Nat)))]) (h' := [.gone, .gho c s g sz t, .arr 1 ((fillG (mkG wgtLoop mkELoop k xs) xs 0).map TLoop.D) true]) ⟨rfl, rfl, rfl, trivial⟩ ⟨trivial, rfl, by rw [fillG_zero], trivial⟩ rfl
      obtain ⟨p, M2, R2, hI, _⟩ := enter 0 (by omega) _ _ _ _ _ _ R1
      exact ⟨p, M2, R2, hI⟩
    · rcases hp with ⟨hp, hl⟩ | ⟨x, τ0, hp, hx, hq0, hc0⟩
      · obtain ⟨i, q⟩ := p
        dsimp only at hp hl
        subst hp
        subst hl
        subst hE
        subst hH
        (conv => whnf)
        (refine br_ (fun h2 => ?_) (fun h2 => ?_))
        · exfalso; omega
        · (conv => whnf)
          refine ⟨?_, [], ?_⟩
          · show V.d (.int .i64 ((k + wSum wgtLoop (xs.take xs.length) : Nat))) = _
            rw [List.take_length]
          · show [Blk.gone, Blk.gho c s g sz t, Blk.arr 1 ((fillG (mkG wgtLoop mkELoop k xs) xs xs.length).map TLoop.D) true] = _
            rw [fillG_all hG]
      · obtain ⟨i, q⟩ := p
        dsimp only at hp hx
        subst hp
        have hi : i < xs.length := (List.getElem?_eq_some_iff.1 hx).1
        have hle := wSum_le wgtLoop xs (i + 1)
        rw [wSum_succ wgtLoop xs i x hx] at hle
        have hwx : wgtLoop x = 0 + 3 * x.fKnots.length := rfl
        have hR0l : ((fillG (mkG wgtLoop mkELoop k xs) xs i).map TLoop.D).length = xs.length := hfl i
        generalize hK : k + wSum wgtLoop (xs.take i) = K at *
        generalize hR0 : (fillG (mkG wgtLoop mkELoop k xs) xs i).map TLoop.D = RW at *
        have hE' : [(0, .own 2 0 (xs.map TLoop.D).length), (1, .d (.int .i64 (K : Nat))), (5, .d (.int .i64 i))] = E := by rw [← hK]; exact hE
        have hH' : [.gone, .gho c s g sz t, .arr 1 ((RW).set i (hoLoop x (.hole τ0.g (x.fKnots.map TKnot.D).length τ0.cap))) true, .arr τ0.n (x.fKnots.map TKnot.D) true, .pin 3 τ0.g τ0.sz τ0.t] = H := by rw [← hR0]; exact hH
        subst hE'
        subst hH'
        (conv => whnf)
        refine BIf.mk (fun h2 => ?_) (fun h2 => ?_) <;> (try simp only [decide_eq_true_eq, decide_eq_false_iff_not, Bool.not_eq_true', Bool.not_eq_false', bne_iff_ne, ne_eq, beq_iff_eq, bne_eq_false_iff_eq, beq_eq_false_iff_ne, Decidable.not_not, Nat.not_lt, Nat.not_le, Int.not_lt, Int.not_le, Bool.and_eq_true, Bool.and_eq_false_iff, Bool.or_eq_true, Bool.or_eq_false_iff] at h2)
        rotate_left
        · exfalso; simp only [hL] at h2; omega
        (conv => whnf)
        (try (refine ArW.i64e ((K : Nat) : Int) rfl (by omega) ?_; (conv => whnf)))
        refine IoW.at (by omega) (by omega) ?_
        (conv => whnf)
        refine EoW.at (List.getElem?_set_self (by (try simp only [List.length_set]); omega)) ?_
        (conv => whnf)
        refine ⟨⟨4, 3, _, _, _, _, _, rfl, rfl, hc0, ?_⟩⟩
        (conv => whnf)
        refine CallW.useK0 (mkKnotS_pk x.fKnots (K) (by omega) (by omega)) hq0 (b := 3) rfl rfl rfl rfl rfl ?_
        (conv => whnf)
        refine ArW.i64e ((i + 1 : Nat) : Int) (by omega) (by omega) ?_
        (conv => whnf)
        refine ⟨fun B X N M a w R => ?_⟩
        obtain ⟨M0, R0⟩ := R.inn (b := 2) (c := 3) (j := 4) (k := i) (p := [0]) (U := fun u => hoLoop (mkELoop K x) u) (by decide) (by decide) (by decide) rfl (List.getElem?_set_self (by (try simp only [List.length_set]); omega)) rfl (fun _ => rfl) rfl rfl (by simp only [List.length_map, mkLKnot_len]) hc0
        have hy : (mkG wgtLoop mkELoop k xs)[i]? = some (mkELoop K x) := by rw [mkG_get _ _ _ _ _ _ hx, hK]
        obtain ⟨MZ, RZ⟩ := R0.cov (e' := E0 (i + 1)) (h' := H0 (i + 1)) (show cov _ [_, _, _] from ⟨rfl, congrArg (fun z : Nat => V.d (.int .i64 (z : Int))) (by rw [wSum_succ wgtLoop xs i x hx, hwx]; omega), rfl, trivial⟩) (show covH _ [_, _, Blk.arr 1 _ true] from ⟨trivial, rfl, by
          have : ((fillG (mkG wgtLoop mkELoop k xs) xs (i + 1)).map TLoop.D) = RW.set i (mkELoop K x).D := by rw [← fillG_set hG hy, List.map_set, hR0]
          rw [this]
          simp only [Int.toNat_natCast, Nat.add_zero, List.set_set]
          rfl, trivial⟩) rfl
        obtain ⟨p, M3, R3, hI, hp⟩ := enter (i + 1) (by omega) _ _ _ _ _ _ RZ
        exact ⟨p, M3, R3, hI, by show xs.length - p.1 < xs.length - i; omega⟩

end Go.Proofs.Ytdjdkkacbkfmeaa
