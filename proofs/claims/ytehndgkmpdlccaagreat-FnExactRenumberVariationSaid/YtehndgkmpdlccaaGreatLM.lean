/- The laws' own marking functions: what each leaves. -/
import Derived.Test.YtehndgkmpdlccaaGreatVMTac
import Derived.Test.YtehndgkmpdlccaaGreatLVBase
import Derived.Test.YtehndgkmpdlccaaGreatLV
set_option linter.unusedSimpArgs false
set_option linter.unusedVariables false
namespace Go.Proofs.YtehndgkmpdlccaaGreat
open Go.RowKit
section
variable {α : Type} {g : Nat → α → α} {xs : List α}
def fillM (g : Nat → α → α) (xs : List α) (k : Nat) : List α := (xs.mapIdx g).take k ++ xs.drop k
theorem fillM_zero : fillM g xs 0 = xs := by simp [fillM]
theorem fillM_all : fillM g xs xs.length = xs.mapIdx g := by
  rw [fillM, List.drop_length, List.append_nil, List.take_of_length_le (by simp)]
theorem fillM_len (k : Nat) : (fillM g xs k).length = xs.length := by simp [fillM]; omega
theorem fillM_get {k : Nat} {x : α} (h : xs[k]? = some x) : (fillM g xs k)[k]? = some x := by
  have hk := (List.getElem?_eq_some_iff.1 h).1
  have hl : ((xs.mapIdx g).take k).length = k := by simp; omega
  rw [fillM, List.getElem?_append_right (by omega), hl, Nat.sub_self, List.getElem?_drop]
  simpa using h
theorem fillM_set {k : Nat} {x : α} (h : xs[k]? = some x) : (fillM g xs k).set k (g k x) = fillM g xs (k + 1) := by
  have hk := (List.getElem?_eq_some_iff.1 h).1
  have hl : ((xs.mapIdx g).take k).length = k := by simp; omega
  have hm : (xs.mapIdx g)[k]? = some (g k x) := by rw [List.getElem?_mapIdx, h]; rfl
  rw [fillM, fillM, List.set_append_right _ _ (by omega), hl, Nat.sub_self, drop_at h, List.set_cons_zero, take_snoc_get hm, List.append_assoc]
  rfl
end
section
variable {α : Type} (w : α → Nat) (g : Nat → α → α)
def wSum : List α → Nat
  | [] => 0
  | x :: xs => w x + wSum xs
def mkG : Nat → List α → List α
  | _, [] => []
  | k, x :: xs => g k x :: mkG (k + w x) xs
def fillG (ys xs : List α) (i : Nat) : List α := ys.take i ++ xs.drop i
theorem wSum_succ : ∀ (xs : List α) (i : Nat) (x : α), xs[i]? = some x → wSum w (xs.take (i + 1)) = wSum w (xs.take i) + w x
  | [], i, x, h => by simp at h
  | y :: xs, 0, x, h => by simp at h; subst h; simp [wSum]
  | y :: xs, i + 1, x, h => by
    have := wSum_succ xs i x (by simpa using h)
    simp only [List.take_succ_cons, wSum, this]
    omega
theorem wSum_le : ∀ (xs : List α) (i : Nat), wSum w (xs.take i) ≤ wSum w xs
  | [], i => by simp [wSum]
  | y :: xs, 0 => by simp [wSum]
  | y :: xs, i + 1 => by
    have := wSum_le xs i
    simp only [List.take_succ_cons, wSum]
    omega
theorem wSum_z {z : α → Nat} (h : ∀ x, w x ≤ 8 * z x + 8) : ∀ xs : List α, wSum w xs ≤ 8 * zL z xs
  | [] => by simp [wSum]
  | x :: xs => by
    have h1 := wSum_z h xs
    have h2 := h x
    simp only [wSum, zL, List.map_cons, List.sum_cons, List.length_cons] at *
    omega
theorem mkG_len : ∀ (xs : List α) (k : Nat), (mkG w g k xs).length = xs.length
  | [], k => rfl
  | x :: xs, k => by simp [mkG, mkG_len xs]
theorem mkG_get : ∀ (xs : List α) (k i : Nat) (x : α), xs[i]? = some x → (mkG w g k xs)[i]? = some (g (k + wSum w (xs.take i)) x)
  | [], k, i, x, h => by simp at h
  | y :: xs, k, 0, x, h => by simp at h; subst h; simp [mkG, wSum]
  | y :: xs, k, i + 1, x, h => by
    have := mkG_get xs (k + w y) i x (by simpa using h)
    simp only [mkG, List.getElem?_cons_succ, List.take_succ_cons, wSum, this]
    rw [Nat.add_assoc]
variable {ys xs : List α}
theorem fillG_zero : fillG ys xs 0 = xs := by simp [fillG]
theorem fillG_all (h : ys.length = xs.length) : fillG ys xs xs.length = ys := by
  rw [fillG, List.drop_length, List.append_nil, List.take_of_length_le (by omega)]
theorem fillG_len (h : ys.length = xs.length) (k : Nat) : (fillG ys xs k).length = xs.length := by simp [fillG]; omega
theorem fillG_get (h : ys.length = xs.length) {k : Nat} {x : α} (hx : xs[k]? = some x) : (fillG ys xs k)[k]? = some x := by
  have hk := (List.getElem?_eq_some_iff.1 hx).1
  have hl : (ys.take k).length = k := by simp; omega
  rw [fillG, List.getElem?_append_right (by omega), hl, Nat.sub_self, List.getElem?_drop]
  simpa using hx
theorem fillG_set (h : ys.length = xs.length) {k : Nat} {y : α} (hy : ys[k]? = some y) : (fillG ys xs k).set k y = fillG ys xs (k + 1) := by
  have hk := (List.getElem?_eq_some_iff.1 hy).1
  obtain ⟨x, hx⟩ := at_lt (xs := xs) (k := k) (by omega)
  have hl : (ys.take k).length = k := by simp; omega
  rw [fillG, fillG, List.set_append_right _ _ (by omega), hl, Nat.sub_self, drop_at hx, List.set_cons_zero, take_snoc_get hy, List.append_assoc]
  rfl
end
theorem Rep.cov {B : World} {X : List Nat} {N : Nat} {M : MM} {e e' : Env} {h h' : List Blk} {a : Act} {w : World} (R : Rep B X N M e h a w) (h1 : cov e e') (h2 : covH h h') (h3 : (scE h' e' && scH h' h' && (match h' with | .gone :: _ => true | _ => false)) = true) : ∃ M', Rep B X N M' e' h' a w := Weak.cov h1 h2 h3 _ _ _ _ _ _ R
theorem LoopW.goX {F : Post → Env → List Blk → Prop} {Q : Post} {e : Env} {h : List Blk} {α : Type} (mkE : α → Env) (mkH : α → List Blk) (I : α → Prop) (μ : α → Nat)
    (h0 : ∀ (B : World) (X : List Nat) (N : Nat) (M : MM) (a : Act) (w : World), Rep B X N M e h a w → ∃ x0 M', Rep B X N M' (mkE x0) (mkH x0) a w ∧ I x0)
    (h1 : ∀ x, I x → ∀ E H, mkE x = E → mkH x = H → F (loopQ mkE mkH I μ Q x) E H) : LoopW F Q e h := ⟨⟨α, mkE, mkH, I, μ, h0, fun x hx => h1 x hx _ _ rfl rfl⟩⟩
structure Tk where
  g : Nat
  cap : Nat
  sz : Nat
  t : TypeId
  n : Nat
def Tk.ok (τ : Tk) (n1 : Nat) (ys : List D) : Prop := (ys ≠ [] → τ.n = n1) ∧ (τ.cap = 0 ∨ τ.cap * τ.n < τ.sz)

def mkT (k : Nat) : ByteArray := mkS (109 :: decL k)
theorem decS_preN {n k : Nat} {L : List UInt8} (h : (if k = 0 then [] else decL k) ++ L = decL n) (hk : k ≠ 0) : (if k / 10 = 0 then [] else decL (k / 10)) ++ (dgC (k % 10) :: L) = decL n := by
  rw [← h, if_neg hk]
  by_cases h1 : k < 10
  · rw [decL_lo h1, if_pos (by omega), Nat.mod_eq_of_lt h1]; rfl
  · rw [decL_hi h1, if_neg (by omega)]; simp
theorem mkT_v (k : Nat) (h1 : 1 ≤ k) (h2 : k ≤ 4611686018427387904) : PC Tryz.prog 55 [.d (.int .i64 (k : Nat))] (.d (.str (mkT k))) [] := by
  refine pc_intro ttOk (by kernel_rfl) Tryz.func55 rfl (by kernel_rfl) (by kernel_rfl) (by kernel_rfl) (fun hw => ?_)
  have hlen : (decL k).length ≤ 20 := decL_len 19 _ (by omega)
  (conv => whnf)
  (refine br_ (fun h3 => ?_) (fun h3 => ?_))
  · exfalso; omega
  · refine LoopW.go (α := Nat × List UInt8) (fun p => [(0, .d (.int .i64 (p.1 : Nat))), (3, .d (.str (mkS p.2)))]) (fun _ => [.gone]) (fun p => (if p.1 = 0 then [] else decL p.1) ++ p.2 = decL k ∧ p.1 ≤ k) (fun p => p.1) (k, []) covT_ ⟨by rw [if_neg (by show ¬ k = 0; omega)]; simp, Nat.le_refl _⟩ ?_
    rintro ⟨u, L⟩ ⟨k1, k2⟩
    dsimp only at k1 k2 ⊢
    have k3 := congrArg List.length k1
    rw [List.length_append] at k3
    have ht : (u : Int).tmod 10 = ((u % 10 : Nat) : Int) := by rw [Int.tmod_eq_emod_of_nonneg (by omega)]; rfl
    have hd : (u : Int).tdiv 10 = ((u / 10 : Nat) : Int) := by rw [Int.tdiv_eq_ediv_of_nonneg (by omega)]; rfl
    have hc := (dgC (u % 10)).toNat_lt
    have hc2 := dgC_toNat (d := u % 10) (by omega)
    (conv => whnf)
    (refine br_ (fun h4 => ?_) (fun h4 => ?_))
    · (refine stg_ ?_)
      rw [ht]
      (refine stg_ ?_)
      refine ArW.u8e ((dgC (u % 10)).toNat : Int) (by omega) (by omega) ?_
      (conv => whnf)
      (repeat (refine stg_ ?_))
      refine StW.at (s := mkS [dgC (u % 10)]) (by rw [mkS_toList]; rfl) ?_
      (conv => whnf)
      refine CatW.at (by rw [mkS_size, mkS_size]; show 1 + L.length ≤ 9223372036854775807; omega) ?_
      (conv => whnf)
      (repeat (refine stg_ ?_))
      rw [hd]
      (repeat (refine stg_ ?_))
      refine NextW.go (u / 10, dgC (u % 10) :: L) (Weak.cov ⟨rfl, ?_, trivial⟩ ⟨trivial, trivial⟩ rfl) ⟨decS_preN k1 (by omega), by show u / 10 ≤ k; omega⟩ (by show u / 10 < u; omega)
      exact congrArg (fun z => V.d (D.str z)) (mkS_app [dgC (u % 10)] L)
    · obtain rfl : u = 0 := by omega
      rw [if_pos rfl, List.nil_append] at k1
      refine CatW.at (by rw [mkS_size]; show 1 + L.length ≤ 9223372036854775807; rw [k1]; omega) ?_
      (conv => whnf)
      (refine RetOK.d rfl rfl ?_; conv => whnf)
      rw [mkT, ← k1]
      exact congrArg D.str (mkS_app [109] L).symm
def mkEInt64 (k : Nat) (_ : Int) : Int := ((k : Nat) : Int)
def mkLInt64 (k : Nat) (xs : List Int) : List Int := xs.mapIdx fun i x => mkEInt64 (k + 1 * i) x
theorem mkLInt64_len (k : Nat) (xs : List Int) : (mkLInt64 k xs).length = xs.length := by simp [mkLInt64]
set_option maxHeartbeats 2000000 in
theorem mkInt64S_pk (xs : List Int) (k : Nat) (hb : k + 1 * xs.length ≤ 4611686018427387904) (h1 : 1 ≤ k) : PK Tryz.prog 12 1 (xs.map (D.int .i64)) [.d (.int .i64 (k : Nat))] (.d (.int .i64 ((k + 1 * xs.length : Nat)))) ((mkLInt64 k xs).map (D.int .i64)) := by
  have hL : (xs.map (D.int .i64)).length = xs.length := List.length_map _
  refine pk_intro ttOk (by kernel_rfl) Tryz.func12 rfl (by kernel_rfl) (by kernel_rfl) (by kernel_rfl) (by simp [mkLInt64]) rfl rfl (fun hx => ?_) (fun c s g sz t hw hm => ?_)
  · have hx : xs = [] := List.map_eq_nil_iff.1 hx
    subst hx
    refine pc_intro ttOk (by kernel_rfl) Tryz.func12 rfl (by kernel_rfl) (by kernel_rfl) (by kernel_rfl) (fun hw => ?_)
    (conv => whnf)
    refine LoopW.go (α := Nat) (fun i => [(0, .d (.lst [])), (1, .d (.int .i64 (k : Nat))), (5, .d (.int .i64 (0 : Nat)))]) (fun _ => [.gone]) (fun _ => True) (fun i => i) 0 covT_ trivial (fun i _ => ?_)
    (conv => whnf)
    (repeat' (first | (refine stg_ ?_) | fail | (refine br_ (fun hbr => ?_) (fun hbr => ?_))))
    all_goals first | (exfalso; simp_all; done) | ((refine RetOK.d rfl rfl ?_; conv => whnf); simp)
  · (conv => whnf)
    refine LoopW.go (α := Nat) (fun i => [(0, .own 2 0 (xs.map (D.int .i64)).length), (1, .d (.int .i64 ((k + 1 * i : Nat)))), (5, .d (.int .i64 i))]) (fun i => [.gone, .gho c s g sz t, .arr 1 ((fillM (fun i x => mkEInt64 (k + 1 * i) x) xs i).map (D.int .i64)) true]) (fun i => i ≤ xs.length) (fun i => xs.length - i) 0 (Weak.cov ⟨rfl, rfl, rfl, trivial⟩ ⟨trivial, rfl, by first | (rw [fillM_zero]; done) | (rw [fillM_zero]; rfl), trivial⟩ rfl) (by omega) (fun i hi => ?_)
    have hfl : ((fillM (fun i x => mkEInt64 (k + 1 * i) x) xs i).map (D.int .i64)).length = xs.length := by rw [List.length_map, fillM_len]
    (conv => whnf)
    (refine br_ (fun h2 => ?_) (fun h2 => ?_))
    · obtain ⟨x, hx⟩ := at_lt' (xs := xs) (k := i) (by omega)
      have he0 : ((fillM (fun i x => mkEInt64 (k + 1 * i) x) xs i).map (D.int .i64))[i]? = some ((D.int .i64) x) := by rw [List.getElem?_map, fillM_get hx]; rfl
      (try (refine ArW.i64e ((k + 1 * i : Nat) : Int) rfl (by omega) ?_; (conv => whnf)))
      refine IoW.at (by omega) (by omega) ?_
      (conv => whnf)
      (try (refine ArW.i64e ((k + 1 * i : Nat) : Int) rfl (by omega) ?_; (conv => whnf)))
      refine EoW.at he0 ?_
      (conv => whnf)
      refine ArW.i64e ((k + 1 * i + 1 : Nat) : Int) (by omega) (by omega) ?_
      (conv => whnf)
      (repeat (refine stg_ ?_))
      refine NextW.go (i + 1) (Weak.cov ⟨rfl, by rw [show k + 1 * (i + 1) = k + 1 * i + 1 by omega]; rfl, rfl, trivial⟩ ⟨trivial, rfl, ?_, trivial⟩ rfl) (by omega) (by omega)
      show Blk.arr 1 _ true = Blk.arr 1 _ true
      rw [← fillM_set hx, List.map_set]
      (try simp only [List.set_set])
      rfl
    · obtain rfl : i = xs.length := by omega
      (conv => whnf)
      refine ⟨rfl, [], ?_⟩
      rw [fillM_all]; rfl
set_option maxHeartbeats 2000000 in
theorem hdInt64S_v (xs : List Int) (k : Nat) (hb : k + 1 * xs.length ≤ 4611686018427387904) (h1 : 1 ≤ k) : PC Tryz.prog 87 [.d (.lst ((mkLInt64 k xs).map (D.int .i64))), .d (.int .i64 (k : Nat))] (.d (.int .i64 ((k + 1 * xs.length : Nat)))) [] := by
  refine pc_intro ttOk (by kernel_rfl) Tryz.func87 rfl (by kernel_rfl) (by kernel_rfl) (by kernel_rfl) (fun hw => ?_)
  have hL : ((mkLInt64 k xs).map (D.int .i64)).length = xs.length := by simp [mkLInt64]
  (conv => whnf)
  refine LoopW.go (α := Nat) (fun i => [(0, .d (.lst ((mkLInt64 k xs).map (D.int .i64)))), (1, .d (.int .i64 ((k + 1 * i : Nat)))), (5, .d (.int .i64 i))]) (fun _ => [.gone]) (fun i => i ≤ xs.length) (fun i => xs.length - i) 0 covT_ (by omega) (fun i hi => ?_)
  (conv => whnf)
  (refine br_ (fun h2 => ?_) (fun h2 => ?_))
  · obtain ⟨y, hy⟩ := at_lt' (xs := xs) (k := i) (by omega)
    have hx : (mkLInt64 k xs)[i]? = some (mkEInt64 (k + 1 * i) y) := by rw [mkLInt64, List.getElem?_mapIdx, hy]; rfl
    (repeat (refine stg_ ?_))
    refine BIf.mk (fun h3 => ?_) (fun h3 => ?_)
    · exfalso; simp [mkEInt64] at h3
    (conv => whnf)
    refine ArW.i64e ((k + 1 * i + 1 : Nat) : Int) (by omega) (by omega) ?_
    (conv => whnf)
    (repeat (refine stg_ ?_))
    exact NextW.go (i + 1) (Weak.cov ⟨rfl, by rw [show k + 1 * (i + 1) = k + 1 * i + 1 by omega]; rfl, rfl, trivial⟩ ⟨trivial, trivial⟩ rfl) (by omega) (by omega)
  · obtain rfl : i = xs.length := by omega
    (conv => whnf)
    (refine RetOK.d rfl rfl ?_; conv => whnf)
def mkEAxisPoint (k : Nat) (_ : TAxisPoint) : TAxisPoint := ⟨((k : Nat) : Int), ((k + 1 : Nat) : Int)⟩
def mkLAxisPoint (k : Nat) (xs : List TAxisPoint) : List TAxisPoint := xs.mapIdx fun i x => mkEAxisPoint (k + 2 * i) x
theorem mkLAxisPoint_len (k : Nat) (xs : List TAxisPoint) : (mkLAxisPoint k xs).length = xs.length := by simp [mkLAxisPoint]
set_option maxHeartbeats 2000000 in
theorem mkAxisPointS_pk (xs : List TAxisPoint) (k : Nat) (hb : k + 2 * xs.length ≤ 4611686018427387904) (h1 : 1 ≤ k) : PK Tryz.prog 56 2 (xs.map TAxisPoint.D) [.d (.int .i64 (k : Nat))] (.d (.int .i64 ((k + 2 * xs.length : Nat)))) ((mkLAxisPoint k xs).map TAxisPoint.D) := by
  have hL : (xs.map TAxisPoint.D).length = xs.length := List.length_map _
  refine pk_intro ttOk (by kernel_rfl) Tryz.func56 rfl (by kernel_rfl) (by kernel_rfl) (by kernel_rfl) (by simp [mkLAxisPoint]) rfl rfl (fun hx => ?_) (fun c s g sz t hw hm => ?_)
  · have hx : xs = [] := List.map_eq_nil_iff.1 hx
    subst hx
    refine pc_intro ttOk (by kernel_rfl) Tryz.func56 rfl (by kernel_rfl) (by kernel_rfl) (by kernel_rfl) (fun hw => ?_)
    (conv => whnf)
    refine LoopW.go (α := Nat) (fun i => [(0, .d (.lst [])), (1, .d (.int .i64 (k : Nat))), (5, .d (.int .i64 (0 : Nat)))]) (fun _ => [.gone]) (fun _ => True) (fun i => i) 0 covT_ trivial (fun i _ => ?_)
    (conv => whnf)
    (repeat' (first | (refine stg_ ?_) | fail | (refine br_ (fun hbr => ?_) (fun hbr => ?_))))
    all_goals first | (exfalso; simp_all; done) | ((refine RetOK.d rfl rfl ?_; conv => whnf); simp)
  · (conv => whnf)
    refine LoopW.go (α := Nat) (fun i => [(0, .own 2 0 (xs.map TAxisPoint.D).length), (1, .d (.int .i64 ((k + 2 * i : Nat)))), (5, .d (.int .i64 i))]) (fun i => [.gone, .gho c s g sz t, .arr 2 ((fillM (fun i x => mkEAxisPoint (k + 2 * i) x) xs i).map TAxisPoint.D) true]) (fun i => i ≤ xs.length) (fun i => xs.length - i) 0 (Weak.cov ⟨rfl, rfl, rfl, trivial⟩ ⟨trivial, rfl, by first | (rw [fillM_zero]; done) | (rw [fillM_zero]; rfl), trivial⟩ rfl) (by omega) (fun i hi => ?_)
    have hfl : ((fillM (fun i x => mkEAxisPoint (k + 2 * i) x) xs i).map TAxisPoint.D).length = xs.length := by rw [List.length_map, fillM_len]
    (conv => whnf)
    (refine br_ (fun h2 => ?_) (fun h2 => ?_))
    · obtain ⟨x, hx⟩ := at_lt' (xs := xs) (k := i) (by omega)
      have he0 : ((fillM (fun i x => mkEAxisPoint (k + 2 * i) x) xs i).map TAxisPoint.D)[i]? = some (TAxisPoint.D x) := by rw [List.getElem?_map, fillM_get hx]; rfl
      (try (refine ArW.i64e ((k + 2 * i : Nat) : Int) rfl (by omega) ?_; (conv => whnf)))
      refine IoW.at (by omega) (by omega) ?_
      (conv => whnf)
      (try (refine ArW.i64e ((k + 2 * i : Nat) : Int) rfl (by omega) ?_; (conv => whnf)))
      refine EoW.at he0 ?_
      (conv => whnf)
      refine ArW.i64e ((k + 2 * i + 1 : Nat) : Int) (by omega) (by omega) ?_
      (conv => whnf)
      (try (refine ArW.i64e ((k + 2 * i + 1 : Nat) : Int) rfl (by omega) ?_; (conv => whnf)))
      refine IoW.at (by omega) (by omega) ?_
      (conv => whnf)
      (try (refine ArW.i64e ((k + 2 * i + 1 : Nat) : Int) rfl (by omega) ?_; (conv => whnf)))
      refine EoW.at (List.getElem?_set_self (by (try simp only [List.length_set]); omega)) ?_
      (conv => whnf)
      refine ArW.i64e ((k + 2 * i + 2 : Nat) : Int) (by omega) (by omega) ?_
      (conv => whnf)
      (repeat (refine stg_ ?_))
      refine NextW.go (i + 1) (Weak.cov ⟨rfl, by rw [show k + 2 * (i + 1) = k + 2 * i + 2 by omega]; rfl, rfl, trivial⟩ ⟨trivial, rfl, ?_, trivial⟩ rfl) (by omega) (by omega)
      show Blk.arr 2 _ true = Blk.arr 2 _ true
      rw [← fillM_set hx, List.map_set]
      (try simp only [List.set_set])
      rfl
    · obtain rfl : i = xs.length := by omega
      (conv => whnf)
      refine ⟨rfl, [], ?_⟩
      rw [fillM_all]; rfl
set_option maxHeartbeats 2000000 in
theorem hdAxisPointS_v (xs : List TAxisPoint) (k : Nat) (hb : k + 2 * xs.length ≤ 4611686018427387904) (h1 : 1 ≤ k) : PC Tryz.prog 59 [.d (.lst ((mkLAxisPoint k xs).map TAxisPoint.D)), .d (.int .i64 (k : Nat))] (.d (.int .i64 ((k + 2 * xs.length : Nat)))) [] := by
  refine pc_intro ttOk (by kernel_rfl) Tryz.func59 rfl (by kernel_rfl) (by kernel_rfl) (by kernel_rfl) (fun hw => ?_)
  have hL : ((mkLAxisPoint k xs).map TAxisPoint.D).length = xs.length := by simp [mkLAxisPoint]
  (conv => whnf)
  refine LoopW.go (α := Nat) (fun i => [(0, .d (.lst ((mkLAxisPoint k xs).map TAxisPoint.D))), (1, .d (.int .i64 ((k + 2 * i : Nat)))), (5, .d (.int .i64 i))]) (fun _ => [.gone]) (fun i => i ≤ xs.length) (fun i => xs.length - i) 0 covT_ (by omega) (fun i hi => ?_)
  (conv => whnf)
  (refine br_ (fun h2 => ?_) (fun h2 => ?_))
  · obtain ⟨y, hy⟩ := at_lt' (xs := xs) (k := i) (by omega)
    have hx : (mkLAxisPoint k xs)[i]? = some (mkEAxisPoint (k + 2 * i) y) := by rw [mkLAxisPoint, List.getElem?_mapIdx, hy]; rfl
    (repeat (refine stg_ ?_))
    refine BIf.mk (fun h3 => ?_) (fun h3 => ?_)
    · exfalso; simp [mkEAxisPoint] at h3
    (conv => whnf)
    refine ArW.i64e ((k + 2 * i + 1 : Nat) : Int) (by omega) (by omega) ?_
    (conv => whnf)
    (repeat (refine stg_ ?_))
    refine BIf.mk (fun h3 => ?_) (fun h3 => ?_)
    · exfalso; simp [mkEAxisPoint] at h3
    (conv => whnf)
    refine ArW.i64e ((k + 2 * i + 2 : Nat) : Int) (by omega) (by omega) ?_
    (conv => whnf)
    (repeat (refine stg_ ?_))
    exact NextW.go (i + 1) (Weak.cov ⟨rfl, by rw [show k + 2 * (i + 1) = k + 2 * i + 2 by omega]; rfl, rfl, trivial⟩ ⟨trivial, trivial⟩ rfl) (by omega) (by omega)
  · obtain rfl : i = xs.length := by omega
    (conv => whnf)
    (refine RetOK.d rfl rfl ?_; conv => whnf)
def mkEPt (k : Nat) (_ : TPt) : TPt := ⟨((k : Nat) : Int), ((k + 1 : Nat) : Int)⟩
def mkLPt (k : Nat) (xs : List TPt) : List TPt := xs.mapIdx fun i x => mkEPt (k + 2 * i) x
theorem mkLPt_len (k : Nat) (xs : List TPt) : (mkLPt k xs).length = xs.length := by simp [mkLPt]
set_option maxHeartbeats 2000000 in
theorem mkPtS_pk (xs : List TPt) (k : Nat) (hb : k + 2 * xs.length ≤ 4611686018427387904) (h1 : 1 ≤ k) : PK Tryz.prog 86 2 (xs.map TPt.D) [.d (.int .i64 (k : Nat))] (.d (.int .i64 ((k + 2 * xs.length : Nat)))) ((mkLPt k xs).map TPt.D) := by
  have hL : (xs.map TPt.D).length = xs.length := List.length_map _
  refine pk_intro ttOk (by kernel_rfl) Tryz.func86 rfl (by kernel_rfl) (by kernel_rfl) (by kernel_rfl) (by simp [mkLPt]) rfl rfl (fun hx => ?_) (fun c s g sz t hw hm => ?_)
  · have hx : xs = [] := List.map_eq_nil_iff.1 hx
    subst hx
    refine pc_intro ttOk (by kernel_rfl) Tryz.func86 rfl (by kernel_rfl) (by kernel_rfl) (by kernel_rfl) (fun hw => ?_)
    (conv => whnf)
    refine LoopW.go (α := Nat) (fun i => [(0, .d (.lst [])), (1, .d (.int .i64 (k : Nat))), (5, .d (.int .i64 (0 : Nat)))]) (fun _ => [.gone]) (fun _ => True) (fun i => i) 0 covT_ trivial (fun i _ => ?_)
    (conv => whnf)
    (repeat' (first | (refine stg_ ?_) | fail | (refine br_ (fun hbr => ?_) (fun hbr => ?_))))
    all_goals first | (exfalso; simp_all; done) | ((refine RetOK.d rfl rfl ?_; conv => whnf); simp)
  · (conv => whnf)
    refine LoopW.go (α := Nat) (fun i => [(0, .own 2 0 (xs.map TPt.D).length), (1, .d (.int .i64 ((k + 2 * i : Nat)))), (5, .d (.int .i64 i))]) (fun i => [.gone, .gho c s g sz t, .arr 2 ((fillM (fun i x => mkEPt (k + 2 * i) x) xs i).map TPt.D) true]) (fun i => i ≤ xs.length) (fun i => xs.length - i) 0 (Weak.cov ⟨rfl, rfl, rfl, trivial⟩ ⟨trivial, rfl, by first | (rw [fillM_zero]; done) | (rw [fillM_zero]; rfl), trivial⟩ rfl) (by omega) (fun i hi => ?_)
    have hfl : ((fillM (fun i x => mkEPt (k + 2 * i) x) xs i).map TPt.D).length = xs.length := by rw [List.length_map, fillM_len]
    (conv => whnf)
    (refine br_ (fun h2 => ?_) (fun h2 => ?_))
    · obtain ⟨x, hx⟩ := at_lt' (xs := xs) (k := i) (by omega)
      have he0 : ((fillM (fun i x => mkEPt (k + 2 * i) x) xs i).map TPt.D)[i]? = some (TPt.D x) := by rw [List.getElem?_map, fillM_get hx]; rfl
      (try (refine ArW.i64e ((k + 2 * i : Nat) : Int) rfl (by omega) ?_; (conv => whnf)))
      refine IoW.at (by omega) (by omega) ?_
      (conv => whnf)
      (try (refine ArW.i64e ((k + 2 * i : Nat) : Int) rfl (by omega) ?_; (conv => whnf)))
      refine EoW.at he0 ?_
      (conv => whnf)
      refine ArW.i64e ((k + 2 * i + 1 : Nat) : Int) (by omega) (by omega) ?_
      (conv => whnf)
      (try (refine ArW.i64e ((k + 2 * i + 1 : Nat) : Int) rfl (by omega) ?_; (conv => whnf)))
      refine IoW.at (by omega) (by omega) ?_
      (conv => whnf)
      (try (refine ArW.i64e ((k + 2 * i + 1 : Nat) : Int) rfl (by omega) ?_; (conv => whnf)))
      refine EoW.at (List.getElem?_set_self (by (try simp only [List.length_set]); omega)) ?_
      (conv => whnf)
      refine ArW.i64e ((k + 2 * i + 2 : Nat) : Int) (by omega) (by omega) ?_
      (conv => whnf)
      (repeat (refine stg_ ?_))
      refine NextW.go (i + 1) (Weak.cov ⟨rfl, by rw [show k + 2 * (i + 1) = k + 2 * i + 2 by omega]; rfl, rfl, trivial⟩ ⟨trivial, rfl, ?_, trivial⟩ rfl) (by omega) (by omega)
      show Blk.arr 2 _ true = Blk.arr 2 _ true
      rw [← fillM_set hx, List.map_set]
      (try simp only [List.set_set])
      rfl
    · obtain rfl : i = xs.length := by omega
      (conv => whnf)
      refine ⟨rfl, [], ?_⟩
      rw [fillM_all]; rfl
set_option maxHeartbeats 2000000 in
theorem hdPtS_v (xs : List TPt) (k : Nat) (hb : k + 2 * xs.length ≤ 4611686018427387904) (h1 : 1 ≤ k) : PC Tryz.prog 88 [.d (.lst ((mkLPt k xs).map TPt.D)), .d (.int .i64 (k : Nat))] (.d (.int .i64 ((k + 2 * xs.length : Nat)))) [] := by
  refine pc_intro ttOk (by kernel_rfl) Tryz.func88 rfl (by kernel_rfl) (by kernel_rfl) (by kernel_rfl) (fun hw => ?_)
  have hL : ((mkLPt k xs).map TPt.D).length = xs.length := by simp [mkLPt]
  (conv => whnf)
  refine LoopW.go (α := Nat) (fun i => [(0, .d (.lst ((mkLPt k xs).map TPt.D))), (1, .d (.int .i64 ((k + 2 * i : Nat)))), (5, .d (.int .i64 i))]) (fun _ => [.gone]) (fun i => i ≤ xs.length) (fun i => xs.length - i) 0 covT_ (by omega) (fun i hi => ?_)
  (conv => whnf)
  (refine br_ (fun h2 => ?_) (fun h2 => ?_))
  · obtain ⟨y, hy⟩ := at_lt' (xs := xs) (k := i) (by omega)
    have hx : (mkLPt k xs)[i]? = some (mkEPt (k + 2 * i) y) := by rw [mkLPt, List.getElem?_mapIdx, hy]; rfl
    (repeat (refine stg_ ?_))
    refine BIf.mk (fun h3 => ?_) (fun h3 => ?_)
    · exfalso; simp [mkEPt] at h3
    (conv => whnf)
    refine ArW.i64e ((k + 2 * i + 1 : Nat) : Int) (by omega) (by omega) ?_
    (conv => whnf)
    (repeat (refine stg_ ?_))
    refine BIf.mk (fun h3 => ?_) (fun h3 => ?_)
    · exfalso; simp [mkEPt] at h3
    (conv => whnf)
    refine ArW.i64e ((k + 2 * i + 2 : Nat) : Int) (by omega) (by omega) ?_
    (conv => whnf)
    (repeat (refine stg_ ?_))
    exact NextW.go (i + 1) (Weak.cov ⟨rfl, by rw [show k + 2 * (i + 1) = k + 2 * i + 2 by omega]; rfl, rfl, trivial⟩ ⟨trivial, trivial⟩ rfl) (by omega) (by omega)
  · obtain rfl : i = xs.length := by omega
    (conv => whnf)
    (refine RetOK.d rfl rfl ?_; conv => whnf)
def mkEPeak (k : Nat) (_ : TPeak) : TPeak := ⟨((k : Nat) : Int), ((k + 1 : Nat) : Int), ((k + 2 : Nat) : Int)⟩
def mkLPeak (k : Nat) (xs : List TPeak) : List TPeak := xs.mapIdx fun i x => mkEPeak (k + 3 * i) x
theorem mkLPeak_len (k : Nat) (xs : List TPeak) : (mkLPeak k xs).length = xs.length := by simp [mkLPeak]
set_option maxHeartbeats 2000000 in
theorem mkPeakS_pk (xs : List TPeak) (k : Nat) (hb : k + 3 * xs.length ≤ 4611686018427387904) (h1 : 1 ≤ k) : PK Tryz.prog 57 3 (xs.map TPeak.D) [.d (.int .i64 (k : Nat))] (.d (.int .i64 ((k + 3 * xs.length : Nat)))) ((mkLPeak k xs).map TPeak.D) := by
  have hL : (xs.map TPeak.D).length = xs.length := List.length_map _
  refine pk_intro ttOk (by kernel_rfl) Tryz.func57 rfl (by kernel_rfl) (by kernel_rfl) (by kernel_rfl) (by simp [mkLPeak]) rfl rfl (fun hx => ?_) (fun c s g sz t hw hm => ?_)
  · have hx : xs = [] := List.map_eq_nil_iff.1 hx
    subst hx
    refine pc_intro ttOk (by kernel_rfl) Tryz.func57 rfl (by kernel_rfl) (by kernel_rfl) (by kernel_rfl) (fun hw => ?_)
    (conv => whnf)
    refine LoopW.go (α := Nat) (fun i => [(0, .d (.lst [])), (1, .d (.int .i64 (k : Nat))), (5, .d (.int .i64 (0 : Nat)))]) (fun _ => [.gone]) (fun _ => True) (fun i => i) 0 covT_ trivial (fun i _ => ?_)
    (conv => whnf)
    (repeat' (first | (refine stg_ ?_) | fail | (refine br_ (fun hbr => ?_) (fun hbr => ?_))))
    all_goals first | (exfalso; simp_all; done) | ((refine RetOK.d rfl rfl ?_; conv => whnf); simp)
  · (conv => whnf)
    refine LoopW.go (α := Nat) (fun i => [(0, .own 2 0 (xs.map TPeak.D).length), (1, .d (.int .i64 ((k + 3 * i : Nat)))), (5, .d (.int .i64 i))]) (fun i => [.gone, .gho c s g sz t, .arr 3 ((fillM (fun i x => mkEPeak (k + 3 * i) x) xs i).map TPeak.D) true]) (fun i => i ≤ xs.length) (fun i => xs.length - i) 0 (Weak.cov ⟨rfl, rfl, rfl, trivial⟩ ⟨trivial, rfl, by first | (rw [fillM_zero]; done) | (rw [fillM_zero]; rfl), trivial⟩ rfl) (by omega) (fun i hi => ?_)
    have hfl : ((fillM (fun i x => mkEPeak (k + 3 * i) x) xs i).map TPeak.D).length = xs.length := by rw [List.length_map, fillM_len]
    (conv => whnf)
    (refine br_ (fun h2 => ?_) (fun h2 => ?_))
    · obtain ⟨x, hx⟩ := at_lt' (xs := xs) (k := i) (by omega)
      have he0 : ((fillM (fun i x => mkEPeak (k + 3 * i) x) xs i).map TPeak.D)[i]? = some (TPeak.D x) := by rw [List.getElem?_map, fillM_get hx]; rfl
      (try (refine ArW.i64e ((k + 3 * i : Nat) : Int) rfl (by omega) ?_; (conv => whnf)))
      refine IoW.at (by omega) (by omega) ?_
      (conv => whnf)
      (try (refine ArW.i64e ((k + 3 * i : Nat) : Int) rfl (by omega) ?_; (conv => whnf)))
      refine EoW.at he0 ?_
      (conv => whnf)
      refine ArW.i64e ((k + 3 * i + 1 : Nat) : Int) (by omega) (by omega) ?_
      (conv => whnf)
      (try (refine ArW.i64e ((k + 3 * i + 1 : Nat) : Int) rfl (by omega) ?_; (conv => whnf)))
      refine IoW.at (by omega) (by omega) ?_
      (conv => whnf)
      (try (refine ArW.i64e ((k + 3 * i + 1 : Nat) : Int) rfl (by omega) ?_; (conv => whnf)))
      refine EoW.at (List.getElem?_set_self (by (try simp only [List.length_set]); omega)) ?_
      (conv => whnf)
      refine ArW.i64e ((k + 3 * i + 2 : Nat) : Int) (by omega) (by omega) ?_
      (conv => whnf)
      (try (refine ArW.i64e ((k + 3 * i + 2 : Nat) : Int) rfl (by omega) ?_; (conv => whnf)))
      refine IoW.at (by omega) (by omega) ?_
      (conv => whnf)
      (try (refine ArW.i64e ((k + 3 * i + 2 : Nat) : Int) rfl (by omega) ?_; (conv => whnf)))
      refine EoW.at (List.getElem?_set_self (by (try simp only [List.length_set]); omega)) ?_
      (conv => whnf)
      refine ArW.i64e ((k + 3 * i + 3 : Nat) : Int) (by omega) (by omega) ?_
      (conv => whnf)
      (repeat (refine stg_ ?_))
      refine NextW.go (i + 1) (Weak.cov ⟨rfl, by rw [show k + 3 * (i + 1) = k + 3 * i + 3 by omega]; rfl, rfl, trivial⟩ ⟨trivial, rfl, ?_, trivial⟩ rfl) (by omega) (by omega)
      show Blk.arr 3 _ true = Blk.arr 3 _ true
      rw [← fillM_set hx, List.map_set]
      (try simp only [List.set_set])
      rfl
    · obtain rfl : i = xs.length := by omega
      (conv => whnf)
      refine ⟨rfl, [], ?_⟩
      rw [fillM_all]; rfl
set_option maxHeartbeats 2000000 in
theorem hdPeakS_v (xs : List TPeak) (k : Nat) (hb : k + 3 * xs.length ≤ 4611686018427387904) (h1 : 1 ≤ k) : PC Tryz.prog 60 [.d (.lst ((mkLPeak k xs).map TPeak.D)), .d (.int .i64 (k : Nat))] (.d (.int .i64 ((k + 3 * xs.length : Nat)))) [] := by
  refine pc_intro ttOk (by kernel_rfl) Tryz.func60 rfl (by kernel_rfl) (by kernel_rfl) (by kernel_rfl) (fun hw => ?_)
  have hL : ((mkLPeak k xs).map TPeak.D).length = xs.length := by simp [mkLPeak]
  (conv => whnf)
  refine LoopW.go (α := Nat) (fun i => [(0, .d (.lst ((mkLPeak k xs).map TPeak.D))), (1, .d (.int .i64 ((k + 3 * i : Nat)))), (5, .d (.int .i64 i))]) (fun _ => [.gone]) (fun i => i ≤ xs.length) (fun i => xs.length - i) 0 covT_ (by omega) (fun i hi => ?_)
  (conv => whnf)
  (refine br_ (fun h2 => ?_) (fun h2 => ?_))
  · obtain ⟨y, hy⟩ := at_lt' (xs := xs) (k := i) (by omega)
    have hx : (mkLPeak k xs)[i]? = some (mkEPeak (k + 3 * i) y) := by rw [mkLPeak, List.getElem?_mapIdx, hy]; rfl
    (repeat (refine stg_ ?_))
    refine BIf.mk (fun h3 => ?_) (fun h3 => ?_)
    · exfalso; simp [mkEPeak] at h3
    (conv => whnf)
    refine ArW.i64e ((k + 3 * i + 1 : Nat) : Int) (by omega) (by omega) ?_
    (conv => whnf)
    (repeat (refine stg_ ?_))
    refine BIf.mk (fun h3 => ?_) (fun h3 => ?_)
    · exfalso; simp [mkEPeak] at h3
    (conv => whnf)
    refine ArW.i64e ((k + 3 * i + 2 : Nat) : Int) (by omega) (by omega) ?_
    (conv => whnf)
    (repeat (refine stg_ ?_))
    refine BIf.mk (fun h3 => ?_) (fun h3 => ?_)
    · exfalso; simp [mkEPeak] at h3
    (conv => whnf)
    refine ArW.i64e ((k + 3 * i + 3 : Nat) : Int) (by omega) (by omega) ?_
    (conv => whnf)
    (repeat (refine stg_ ?_))
    exact NextW.go (i + 1) (Weak.cov ⟨rfl, by rw [show k + 3 * (i + 1) = k + 3 * i + 3 by omega]; rfl, rfl, trivial⟩ ⟨trivial, trivial⟩ rfl) (by omega) (by omega)
  · obtain rfl : i = xs.length := by omega
    (conv => whnf)
    (refine RetOK.d rfl rfl ?_; conv => whnf)

def wgtAxis (x : TAxis) : Nat := 4 + 2 * x.fMap.length
def mkEAxis (k : Nat) (x : TAxis) : TAxis := ⟨mkT (k), ((k + 1 : Nat) : Int), ((k + 2 : Nat) : Int), ((k + 3 : Nat) : Int), mkLAxisPoint (k + 4) x.fMap⟩
theorem wgtAxis_le (x : TAxis) : wgtAxis x ≤ 8 * zAxis x + 8 := by simp only [wgtAxis, zAxis, zL] at *; omega
def hoAxis (x : TAxis) (u0 : D) : D := .st [.str x.fName, .int .i64 x.fMin, .int .i64 x.fDefault, .int .i64 x.fMax, u0]
theorem mkAxisS_nil (k : Nat) : PC Tryz.prog 27 [.d (.lst []), .d (.int .i64 (k : Nat))] (.d (.int .i64 (k : Nat))) [] := by
  refine pc_intro ttOk (by kernel_rfl) Tryz.func27 rfl (by kernel_rfl) (by kernel_rfl) (by kernel_rfl) (fun hw => ?_)
  (conv => whnf)
  refine LoopW.go (α := Nat) (fun i => [(0, .d (.lst [])), (1, .d (.int .i64 (k : Nat))), (5, .d (.int .i64 (0 : Nat)))]) (fun _ => [.gone]) (fun _ => True) (fun i => i) 0 covT_ trivial (fun i _ => ?_)
  (conv => whnf)
  (repeat' (first | (refine stg_ ?_) | fail | (refine br_ (fun hbr => ?_) (fun hbr => ?_))))
  all_goals first | (exfalso; simp_all; done) | (refine RetOK.d rfl rfl ?_; conv => whnf)
set_option maxHeartbeats 4000000 in
theorem mkAxisS_pk (xs : List TAxis) (k : Nat) (hb : k + wSum wgtAxis xs ≤ 4611686018427387904) (h1 : 1 ≤ k) : PK Tryz.prog 27 5 (xs.map TAxis.D) [.d (.int .i64 (k : Nat))] (.d (.int .i64 ((k + wSum wgtAxis xs : Nat)))) ((mkG wgtAxis mkEAxis k xs).map TAxis.D) := by
  have hL : (xs.map TAxis.D).length = xs.length := List.length_map _
  have hG : (mkG wgtAxis mkEAxis k xs).length = xs.length := mkG_len _ _ _ _
  refine pk_intro ttOk (by kernel_rfl) Tryz.func27 rfl (by kernel_rfl) (by kernel_rfl) (by kernel_rfl) (by simp [hG]) rfl rfl (fun hx => ?_) (fun c s g sz t hw hm => ?_)
  · have hx : xs = [] := List.map_eq_nil_iff.1 hx
    subst hx
    refine pc_intro ttOk (by kernel_rfl) Tryz.func27 rfl (by kernel_rfl) (by kernel_rfl) (by kernel_rfl) (fun hw => ?_)
    (conv => whnf)
    refine LoopW.go (α := Nat) (fun i => [(0, .d (.lst [])), (1, .d (.int .i64 (k : Nat))), (5, .d (.int .i64 (0 : Nat)))]) (fun _ => [.gone]) (fun _ => True) (fun i => i) 0 covT_ trivial (fun i _ => ?_)
    (conv => whnf)
    (repeat' (first | (refine stg_ ?_) | fail | (refine br_ (fun hbr => ?_) (fun hbr => ?_))))
    all_goals first | (exfalso; simp_all; done) | ((refine RetOK.d rfl rfl ?_; conv => whnf); simp [wSum])
  · have hfl : ∀ i, ((fillG (mkG wgtAxis mkEAxis k xs) xs i).map TAxis.D).length = xs.length := fun i => by rw [List.length_map, fillG_len hG]
    have hm' : xs.length ≤ 9223372036854775807 := by rw [hL] at hm; exact hm
    let E0 : Nat → Env := fun i => [(0, .own 2 0 (xs.map TAxis.D).length), (1, .d (.int .i64 ((k + wSum wgtAxis (xs.take i) : Nat)))), (5, .d (.int .i64 i))]
    let H0 : Nat → List Blk := fun i => [.gone, .gho c s g sz t, .arr 5 ((fillG (mkG wgtAxis mkEAxis k xs) xs i).map TAxis.D) true]
    let mkH : Nat × Option (TAxis × Tk) → List Blk := fun p => match p with
      | (i, none) => H0 i
      | (i, some (x, τ0)) => [.gone, .gho c s g sz t, .arr 5 (((fillG (mkG wgtAxis mkEAxis k xs) xs i).map TAxis.D).set i (hoAxis x (.hole τ0.g (x.fMap.map TAxisPoint.D).length τ0.cap))) true, .arr τ0.n (x.fMap.map TAxisPoint.D) true, .pin 3 τ0.g τ0.sz τ0.t]
    let I : Nat × Option (TAxis × Tk) → Prop := fun p => (p.2 = none ∧ p.1 = xs.length) ∨ ∃ x τ0, p.2 = some (x, τ0) ∧ xs[p.1]? = some x ∧ τ0.ok 2 (x.fMap.map TAxisPoint.D)
    have enter : ∀ i, i ≤ xs.length → ∀ (B : World) (X : List Nat) (N : Nat) (M : MM) (a : Act) (w : World), Rep B X N M (E0 i) (H0 i) a w → ∃ p M', Rep B X N M' (E0 p.1) (mkH p) a w ∧ I p ∧ p.1 = i := fun i hi B X N M a w R => by
      rcases Nat.lt_or_ge i xs.length with hlt | hge
      · obtain ⟨x, hx⟩ := at_lt' (xs := xs) (k := i) hlt
        have he : ((fillG (mkG wgtAxis mkEAxis k xs) xs i).map TAxis.D)[i]? = some x.D := by rw [List.getElem?_map, fillG_get hG hx]; rfl
        have hf := hfl i
        obtain ⟨g0, cap0, sz0, t0, n0, M0, p0, q0, R0⟩ := R.out (b := 2) (k := i) (p := [4]) (U := fun u => hoAxis x u) (n1 := 2) (by decide) rfl he rfl (fun _ => rfl) (by intro y hy; obtain ⟨z, _, rfl⟩ := List.mem_map.1 hy; rfl)
        exact ⟨(i, some (x, ⟨g0, cap0, sz0, t0, n0⟩)), M0, R0, .inr ⟨x, _, rfl, hx, ⟨p0, q0⟩⟩, rfl⟩
      · exact ⟨(i, none), M, R, .inl ⟨rfl, by show i = _; omega⟩, rfl⟩
    (conv => whnf)
    refine LoopW.goX (fun p => E0 p.1) mkH I (fun p => xs.length - p.1) (fun B X N M a w R => ?_) (fun p hp E H hE hH => ?_)
    · obtain ⟨M1, R1⟩ := R.cov (e' := [(0, .own 2 0 (xs.map TAxis.D).length), (1, .d (.int .i64 ((k + wSum wgtAxis (xs.take 0) : Nat)))), (5, .d (.int .i64 (0 : Nat)))]) (h' := [.gone, .gho c s g sz t, .arr 5 ((fillG (mkG wgtAxis mkEAxis k xs) xs 0).map TAxis.D) true]) ⟨rfl, rfl, rfl, trivial⟩ ⟨trivial, rfl, by rw [fillG_zero], trivial⟩ rfl
      obtain ⟨p, M2, R2, hI, _⟩ := enter 0 (by omega) _ _ _ _ _ _ R1
      exact ⟨p, M2, R2, hI⟩
    · rcases hp with ⟨hp, hl⟩ | ⟨x, τ0, hp, hx, hq0, hc0⟩
      · obtain ⟨i, q⟩ := p
        dsimp only at hp hl
        subst hp
        subst hl
        subst hE
        subst hH
        (conv => whnf)
        (refine br_ (fun h2 => ?_) (fun h2 => ?_))
        · exfalso; omega
        · (conv => whnf)
          refine ⟨?_, [], ?_⟩
          · show V.d (.int .i64 ((k + wSum wgtAxis (xs.take xs.length) : Nat))) = _
            rw [List.take_length]
          · show [Blk.gone, Blk.gho c s g sz t, Blk.arr 5 ((fillG (mkG wgtAxis mkEAxis k xs) xs xs.length).map TAxis.D) true] = _
            rw [fillG_all hG]
      · obtain ⟨i, q⟩ := p
        dsimp only at hp hx
        subst hp
        have hi : i < xs.length := (List.getElem?_eq_some_iff.1 hx).1
        have hle := wSum_le wgtAxis xs (i + 1)
        rw [wSum_succ wgtAxis xs i x hx] at hle
        have hwx : wgtAxis x = 4 + 2 * x.fMap.length := rfl
        have hR0l : ((fillG (mkG wgtAxis mkEAxis k xs) xs i).map TAxis.D).length = xs.length := hfl i
        generalize hK : k + wSum wgtAxis (xs.take i) = K at *
        generalize hR0 : (fillG (mkG wgtAxis mkEAxis k xs) xs i).map TAxis.D = RW at *
        have hE' : [(0, .own 2 0 (xs.map TAxis.D).length), (1, .d (.int .i64 (K : Nat))), (5, .d (.int .i64 i))] = E := by rw [← hK]; exact hE
        have hH' : [.gone, .gho c s g sz t, .arr 5 ((RW).set i (hoAxis x (.hole τ0.g (x.fMap.map TAxisPoint.D).length τ0.cap))) true, .arr τ0.n (x.fMap.map TAxisPoint.D) true, .pin 3 τ0.g τ0.sz τ0.t] = H := by rw [← hR0]; exact hH
        subst hE'
        subst hH'
        (conv => whnf)
        refine BIf.mk (fun h2 => ?_) (fun h2 => ?_) <;> (try simp only [decide_eq_true_eq, decide_eq_false_iff_not, Bool.not_eq_true', Bool.not_eq_false', bne_iff_ne, ne_eq, beq_iff_eq, bne_eq_false_iff_eq, beq_eq_false_iff_ne, Decidable.not_not, Nat.not_lt, Nat.not_le, Int.not_lt, Int.not_le, Bool.and_eq_true, Bool.and_eq_false_iff, Bool.or_eq_true, Bool.or_eq_false_iff] at h2)
        rotate_left
        · exfalso; simp only [hL] at h2; omega
        (conv => whnf)
        (try (refine ArW.i64e ((K : Nat) : Int) rfl (by omega) ?_; (conv => whnf)))
        (refine cl_ (mkT_v (K) (by omega) (by omega)) ?_)
        refine IoW.at (by omega) (by omega) ?_
        (conv => whnf)
        (try (refine ArW.i64e ((K : Nat) : Int) rfl (by omega) ?_; (conv => whnf)))
        refine EoW.at (List.getElem?_set_self (by (try simp only [List.length_set]); omega)) ?_
        (conv => whnf)
        refine ArW.i64e ((K + 1 : Nat) : Int) (by omega) (by omega) ?_
        (conv => whnf)
        (try (refine ArW.i64e ((K + 1 : Nat) : Int) rfl (by omega) ?_; (conv => whnf)))
        refine IoW.at (by omega) (by omega) ?_
        (conv => whnf)
        (try (refine ArW.i64e ((K + 1 : Nat) : Int) rfl (by omega) ?_; (conv => whnf)))
        refine EoW.at (List.getElem?_set_self (by (try simp only [List.length_set]); omega)) ?_
        (conv => whnf)
        refine ArW.i64e ((K + 2 : Nat) : Int) (by omega) (by omega) ?_
        (conv => whnf)
        (try (refine ArW.i64e ((K + 2 : Nat) : Int) rfl (by omega) ?_; (conv => whnf)))
        refine IoW.at (by omega) (by omega) ?_
        (conv => whnf)
        (try (refine ArW.i64e ((K + 2 : Nat) : Int) rfl (by omega) ?_; (conv => whnf)))
        refine EoW.at (List.getElem?_set_self (by (try simp only [List.length_set]); omega)) ?_
        (conv => whnf)
        refine ArW.i64e ((K + 3 : Nat) : Int) (by omega) (by omega) ?_
        (conv => whnf)
        (try (refine ArW.i64e ((K + 3 : Nat) : Int) rfl (by omega) ?_; (conv => whnf)))
        refine IoW.at (by omega) (by omega) ?_
        (conv => whnf)
        (try (refine ArW.i64e ((K + 3 : Nat) : Int) rfl (by omega) ?_; (conv => whnf)))
        refine EoW.at (List.getElem?_set_self (by (try simp only [List.length_set]); omega)) ?_
        (conv => whnf)
        refine ArW.i64e ((K + 4 : Nat) : Int) (by omega) (by omega) ?_
        (conv => whnf)
        (try (refine ArW.i64e ((K + 4 : Nat) : Int) rfl (by omega) ?_; (conv => whnf)))
        refine IoW.at (by omega) (by omega) ?_
        (conv => whnf)
        refine EoW.at (List.getElem?_set_self (by (try simp only [List.length_set]); omega)) ?_
        (conv => whnf)
        refine ⟨⟨4, 3, _, _, _, _, _, rfl, rfl, hc0, ?_⟩⟩
        (conv => whnf)
        refine CallW.useK0 (mkAxisPointS_pk x.fMap (K + 4) (by omega) (by omega)) hq0 (b := 3) rfl rfl rfl rfl rfl ?_
        (conv => whnf)
        refine ArW.i64e ((i + 1 : Nat) : Int) (by omega) (by omega) ?_
        (conv => whnf)
        refine ⟨fun B X N M a w R => ?_⟩
        obtain ⟨M0, R0⟩ := R.inn (b := 2) (c := 3) (j := 4) (k := i) (p := [4]) (U := fun u => hoAxis (mkEAxis K x) u) (by decide) (by decide) (by decide) rfl (List.getElem?_set_self (by (try simp only [List.length_set]); omega)) rfl (fun _ => rfl) rfl rfl (by simp only [List.length_map, mkLAxisPoint_len]) hc0
        have hy : (mkG wgtAxis mkEAxis k xs)[i]? = some (mkEAxis K x) := by rw [mkG_get _ _ _ _ _ _ hx, hK]
        obtain ⟨MZ, RZ⟩ := R0.cov (e' := E0 (i + 1)) (h' := H0 (i + 1)) (show cov _ [_, _, _] from ⟨rfl, congrArg (fun z : Nat => V.d (.int .i64 (z : Int))) (by rw [wSum_succ wgtAxis xs i x hx, hwx]; omega), rfl, trivial⟩) (show covH _ [_, _, Blk.arr 5 _ true] from ⟨trivial, rfl, by
          have : ((fillG (mkG wgtAxis mkEAxis k xs) xs (i + 1)).map TAxis.D) = RW.set i (mkEAxis K x).D := by rw [← fillG_set hG hy, List.map_set, hR0]
          rw [this]
          simp only [Int.toNat_natCast, Nat.add_zero, List.set_set]
          rfl, trivial⟩) rfl
        obtain ⟨p, M3, R3, hI, hp⟩ := enter (i + 1) (by omega) _ _ _ _ _ _ RZ
        exact ⟨p, M3, R3, hI, by show xs.length - p.1 < xs.length - i; omega⟩
set_option maxHeartbeats 4000000 in
theorem hdAxisS_v (xs : List TAxis) (k : Nat) (hb : k + wSum wgtAxis xs ≤ 4611686018427387904) (h1 : 1 ≤ k) : PC Tryz.prog 29 [.d (.lst ((mkG wgtAxis mkEAxis k xs).map TAxis.D)), .d (.int .i64 (k : Nat))] (.d (.int .i64 ((k + wSum wgtAxis xs : Nat)))) [] := by
  refine pc_intro ttOk (by kernel_rfl) Tryz.func29 rfl (by kernel_rfl) (by kernel_rfl) (by kernel_rfl) (fun hw => ?_)
  have hL : ((mkG wgtAxis mkEAxis k xs).map TAxis.D).length = xs.length := by rw [List.length_map, mkG_len]
  have hm' : xs.length ≤ 9223372036854775807 := by have := hw.1.1; rw [hL] at this; exact this
  (conv => whnf)
  refine LoopW.go (α := Nat) (fun i => [(0, .d (.lst ((mkG wgtAxis mkEAxis k xs).map TAxis.D))), (1, .d (.int .i64 ((k + wSum wgtAxis (xs.take i) : Nat)))), (5, .d (.int .i64 i))]) (fun _ => [.gone]) (fun i => i ≤ xs.length) (fun i => xs.length - i) 0 covT_ (by omega) (fun i hi => ?_)
  (conv => whnf)
  (refine br_ (fun h2 => ?_) (fun h2 => ?_))
  · obtain ⟨x, hx⟩ := at_lt' (xs := xs) (k := i) (by omega)
    have hle := wSum_le wgtAxis xs (i + 1)
    rw [wSum_succ wgtAxis xs i x hx] at hle
    have hwx : wgtAxis x = 4 + 2 * x.fMap.length := rfl
    have he : (mkG wgtAxis mkEAxis k xs)[i]? = some (mkEAxis (k + wSum wgtAxis (xs.take i)) x) := mkG_get _ _ _ _ _ _ hx
    (repeat (refine stg_ ?_))
    (refine cl_ (mkT_v (k + wSum wgtAxis (xs.take i)) (by omega) (by omega)) ?_)
    (repeat (refine stg_ ?_))
    refine BIf.mk (fun h3 => ?_) (fun h3 => ?_)
    · exfalso; simp [mkEAxis] at h3
    (conv => whnf)
    refine ArW.i64e ((k + wSum wgtAxis (xs.take i) + 1 : Nat) : Int) (by omega) (by omega) ?_
    (conv => whnf)
    (repeat (refine stg_ ?_))
    refine BIf.mk (fun h3 => ?_) (fun h3 => ?_)
    · exfalso; simp [mkEAxis] at h3
    (conv => whnf)
    refine ArW.i64e ((k + wSum wgtAxis (xs.take i) + 2 : Nat) : Int) (by omega) (by omega) ?_
    (conv => whnf)
    (repeat (refine stg_ ?_))
    refine BIf.mk (fun h3 => ?_) (fun h3 => ?_)
    · exfalso; simp [mkEAxis] at h3
    (conv => whnf)
    refine ArW.i64e ((k + wSum wgtAxis (xs.take i) + 3 : Nat) : Int) (by omega) (by omega) ?_
    (conv => whnf)
    (repeat (refine stg_ ?_))
    refine BIf.mk (fun h3 => ?_) (fun h3 => ?_)
    · exfalso; simp [mkEAxis] at h3
    (conv => whnf)
    refine ArW.i64e ((k + wSum wgtAxis (xs.take i) + 4 : Nat) : Int) (by omega) (by omega) ?_
    (conv => whnf)
    (repeat (refine stg_ ?_))
    (refine cla_ (hdAxisPointS_v x.fMap (k + wSum wgtAxis (xs.take i) + 4) (by omega) (by omega)) ?_)
    (repeat (refine stg_ ?_))
    (try (refine BIf.mk (fun h3 => ?_) (fun h3 => ?_); (focus (exfalso; (try simp only [decide_eq_true_eq, decide_eq_false_iff_not, Bool.not_eq_true', Bool.not_eq_false', bne_iff_ne, ne_eq, beq_iff_eq, bne_eq_false_iff_eq, beq_eq_false_iff_ne, Decidable.not_not, Nat.not_lt, Nat.not_le, Int.not_lt, Int.not_le, Bool.and_eq_true, Bool.and_eq_false_iff, Bool.or_eq_true, Bool.or_eq_false_iff] at h3); omega)); (conv => whnf)))
    (try (refine ArW.i64e ((i + 1 : Nat) : Int) (by omega) (by omega) ?_; (conv => whnf)))
    exact NextW.go (i + 1) (Weak.cov ⟨rfl, congrArg (fun z : Nat => V.d (.int .i64 (z : Int))) (by rw [wSum_succ wgtAxis xs i x hx, hwx]; omega), rfl, trivial⟩ ⟨trivial, trivial⟩ rfl) (by omega) (by omega)
  · obtain rfl : i = xs.length := by omega
    (conv => whnf)
    (refine RetOK.d rfl rfl ?_; conv => whnf)
    rw [List.take_length]
def wgtGlyphDelta (x : TGlyphDelta) : Nat := 2 + 1 * x.fKnots.length + 2 * x.fMoves.length
def mkEGlyphDelta (k : Nat) (x : TGlyphDelta) : TGlyphDelta := ⟨((k : Nat) : Int), mkLInt64 (k + 1) x.fKnots, mkLPt (k + 1 + 1 * x.fKnots.length) x.fMoves, ((k + 1 + 1 * x.fKnots.length + 2 * x.fMoves.length : Nat) : Int)⟩
theorem wgtGlyphDelta_le (x : TGlyphDelta) : wgtGlyphDelta x ≤ 8 * zGlyphDelta x + 8 := by simp only [wgtGlyphDelta, zGlyphDelta, zL] at *; omega
def hoGlyphDelta (x : TGlyphDelta) (u0 u1 : D) : D := .st [.int .i64 x.fGlyph, u0, u1, .int .i64 x.fAdvance]
set_option maxHeartbeats 4000000 in
theorem mkGlyphDeltaS_pk (xs : List TGlyphDelta) (k : Nat) (hb : k + wSum wgtGlyphDelta xs ≤ 4611686018427387904) (h1 : 1 ≤ k) : PK Tryz.prog 58 4 (xs.map TGlyphDelta.D) [.d (.int .i64 (k : Nat))] (.d (.int .i64 ((k + wSum wgtGlyphDelta xs : Nat)))) ((mkG wgtGlyphDelta mkEGlyphDelta k xs).map TGlyphDelta.D) := by
  have hL : (xs.map TGlyphDelta.D).length = xs.length := List.length_map _
  have hG : (mkG wgtGlyphDelta mkEGlyphDelta k xs).length = xs.length := mkG_len _ _ _ _
  refine pk_intro ttOk (by kernel_rfl) Tryz.func58 rfl (by kernel_rfl) (by kernel_rfl) (by kernel_rfl) (by simp [hG]) rfl rfl (fun hx => ?_) (fun c s g sz t hw hm => ?_)
  · have hx : xs = [] := List.map_eq_nil_iff.1 hx
    subst hx
    refine pc_intro ttOk (by kernel_rfl) Tryz.func58 rfl (by kernel_rfl) (by kernel_rfl) (by kernel_rfl) (fun hw => ?_)
    (conv => whnf)
    refine LoopW.go (α := Nat) (fun i => [(0, .d (.lst [])), (1, .d (.int .i64 (k : Nat))), (5, .d (.int .i64 (0 : Nat)))]) (fun _ => [.gone]) (fun _ => True) (fun i => i) 0 covT_ trivial (fun i _ => ?_)
    (conv => whnf)
    (repeat' (first | (refine stg_ ?_) | fail | (refine br_ (fun hbr => ?_) (fun hbr => ?_))))
    all_goals first | (exfalso; simp_all; done) | ((refine RetOK.d rfl rfl ?_; conv => whnf); simp [wSum])
  · have hfl : ∀ i, ((fillG (mkG wgtGlyphDelta mkEGlyphDelta k xs) xs i).map TGlyphDelta.D).length = xs.length := fun i => by rw [List.length_map, fillG_len hG]
    have hm' : xs.length ≤ 9223372036854775807 := by rw [hL] at hm; exact hm
    let E0 : Nat → Env := fun i => [(0, .own 2 0 (xs.map TGlyphDelta.D).length), (1, .d (.int .i64 ((k + wSum wgtGlyphDelta (xs.take i) : Nat)))), (5, .d (.int .i64 i))]
    let H0 : Nat → List Blk := fun i => [.gone, .gho c s g sz t, .arr 4 ((fillG (mkG wgtGlyphDelta mkEGlyphDelta k xs) xs i).map TGlyphDelta.D) true]
    let mkH : Nat × Option (TGlyphDelta × Tk × Tk) → List Blk := fun p => match p with
      | (i, none) => H0 i
      | (i, some (x, τ0, τ1)) => [.gone, .gho c s g sz t, .arr 4 ((((fillG (mkG wgtGlyphDelta mkEGlyphDelta k xs) xs i).map TGlyphDelta.D).set i (hoGlyphDelta x (.hole τ0.g (x.fKnots.map (D.int .i64)).length τ0.cap) (.lst (x.fMoves.map TPt.D)))).set i (hoGlyphDelta x (.hole τ0.g (x.fKnots.map (D.int .i64)).length τ0.cap) (.hole τ1.g (x.fMoves.map TPt.D).length τ1.cap))) true, .arr τ0.n (x.fKnots.map (D.int .i64)) true, .pin 3 τ0.g τ0.sz τ0.t, .arr τ1.n (x.fMoves.map TPt.D) true, .pin 5 τ1.g τ1.sz τ1.t]
    let I : Nat × Option (TGlyphDelta × Tk × Tk) → Prop := fun p => (p.2 = none ∧ p.1 = xs.length) ∨ ∃ x τ0 τ1, p.2 = some (x, τ0, τ1) ∧ xs[p.1]? = some x ∧ τ0.ok 1 (x.fKnots.map (D.int .i64)) ∧ τ1.ok 2 (x.fMoves.map TPt.D)
    have enter : ∀ i, i ≤ xs.length → ∀ (B : World) (X : List Nat) (N : Nat) (M : MM) (a : Act) (w : World), Rep B X N M (E0 i) (H0 i) a w → ∃ p M', Rep B X N M' (E0 p.1) (mkH p) a w ∧ I p ∧ p.1 = i := fun i hi B X N M a w R => by
      rcases Nat.lt_or_ge i xs.length with hlt | hge
      · obtain ⟨x, hx⟩ := at_lt' (xs := xs) (k := i) hlt
        have he : ((fillG (mkG wgtGlyphDelta mkEGlyphDelta k xs) xs i).map TGlyphDelta.D)[i]? = some x.D := by rw [List.getElem?_map, fillG_get hG hx]; rfl
        have hf := hfl i
        obtain ⟨g0, cap0, sz0, t0, n0, M0, p0, q0, R0⟩ := R.out (b := 2) (k := i) (p := [1]) (U := fun u => hoGlyphDelta x u (.lst (x.fMoves.map TPt.D))) (n1 := 1) (by decide) rfl he rfl (fun _ => rfl) (by intro y hy; obtain ⟨z, _, rfl⟩ := List.mem_map.1 hy; rfl)
        obtain ⟨g1, cap1, sz1, t1, n1, M1, p1, q1, R1⟩ := R0.out (b := 2) (k := i) (p := [2]) (U := fun u => hoGlyphDelta x (.hole g0 (x.fKnots.map (D.int .i64)).length cap0) u) (n1 := 2) (by decide) rfl (List.getElem?_set_self (by (try simp only [List.length_set]); omega)) rfl (fun _ => rfl) (by intro y hy; obtain ⟨z, _, rfl⟩ := List.mem_map.1 hy; rfl)
        exact ⟨(i, some (x, ⟨g0, cap0, sz0, t0, n0⟩, ⟨g1, cap1, sz1, t1, n1⟩)), M1, R1, .inr ⟨x, _, _, rfl, hx, ⟨p0, q0⟩, ⟨p1, q1⟩⟩, rfl⟩
      · exact ⟨(i, none), M, R, .inl ⟨rfl, by show i = _; omega⟩, rfl⟩
    (conv => whnf)
    refine LoopW.goX (fun p => E0 p.1) mkH I (fun p => xs.length - p.1) (fun B X N M a w R => ?_) (fun p hp E H hE hH => ?_)
    · obtain ⟨M1, R1⟩ := R.cov (e' := [(0, .own 2 0 (xs.map TGlyphDelta.D).length), (1, .d (.int .i64 ((k + wSum wgtGlyphDelta (xs.take 0) : Nat)))), (5, .d (.int .i64 (0 : Nat)))]) (h' := [.gone, .gho c s g sz t, .arr 4 ((fillG (mkG wgtGlyphDelta mkEGlyphDelta k xs) xs 0).map TGlyphDelta.D) true]) ⟨rfl, rfl, rfl, trivial⟩ ⟨trivial, rfl, by rw [fillG_zero], trivial⟩ rfl
      obtain ⟨p, M2, R2, hI, _⟩ := enter 0 (by omega) _ _ _ _ _ _ R1
      exact ⟨p, M2, R2, hI⟩
    · rcases hp with ⟨hp, hl⟩ | ⟨x, τ0, τ1, hp, hx, ⟨hq0, hc0⟩, ⟨hq1, hc1⟩⟩
      · obtain ⟨i, q⟩ := p
        dsimp only at hp hl
        subst hp
        subst hl
        subst hE
        subst hH
        (conv => whnf)
        (refine br_ (fun h2 => ?_) (fun h2 => ?_))
        · exfalso; omega
        · (conv => whnf)
          refine ⟨?_, [], ?_⟩
          · show V.d (.int .i64 ((k + wSum wgtGlyphDelta (xs.take xs.length) : Nat))) = _
            rw [List.take_length]
          · show [Blk.gone, Blk.gho c s g sz t, Blk.arr 4 ((fillG (mkG wgtGlyphDelta mkEGlyphDelta k xs) xs xs.length).map TGlyphDelta.D) true] = _
            rw [fillG_all hG]
      · obtain ⟨i, q⟩ := p
        dsimp only at hp hx
        subst hp
        have hi : i < xs.length := (List.getElem?_eq_some_iff.1 hx).1
        have hle := wSum_le wgtGlyphDelta xs (i + 1)
        rw [wSum_succ wgtGlyphDelta xs i x hx] at hle
        have hwx : wgtGlyphDelta x = 2 + 1 * x.fKnots.length + 2 * x.fMoves.length := rfl
        have hR0l : ((fillG (mkG wgtGlyphDelta mkEGlyphDelta k xs) xs i).map TGlyphDelta.D).length = xs.length := hfl i
        generalize hK : k + wSum wgtGlyphDelta (xs.take i) = K at *
        generalize hR0 : (fillG (mkG wgtGlyphDelta mkEGlyphDelta k xs) xs i).map TGlyphDelta.D = RW at *
        have hE' : [(0, .own 2 0 (xs.map TGlyphDelta.D).length), (1, .d (.int .i64 (K : Nat))), (5, .d (.int .i64 i))] = E := by rw [← hK]; exact hE
        have hH' : [.gone, .gho c s g sz t, .arr 4 (((RW).set i (hoGlyphDelta x (.hole τ0.g (x.fKnots.map (D.int .i64)).length τ0.cap) (.lst (x.fMoves.map TPt.D)))).set i (hoGlyphDelta x (.hole τ0.g (x.fKnots.map (D.int .i64)).length τ0.cap) (.hole τ1.g (x.fMoves.map TPt.D).length τ1.cap))) true, .arr τ0.n (x.fKnots.map (D.int .i64)) true, .pin 3 τ0.g τ0.sz τ0.t, .arr τ1.n (x.fMoves.map TPt.D) true, .pin 5 τ1.g τ1.sz τ1.t] = H := by rw [← hR0]; exact hH
        subst hE'
        subst hH'
        (conv => whnf)
        refine BIf.mk (fun h2 => ?_) (fun h2 => ?_) <;> (try simp only [decide_eq_true_eq, decide_eq_false_iff_not, Bool.not_eq_true', Bool.not_eq_false', bne_iff_ne, ne_eq, beq_iff_eq, bne_eq_false_iff_eq, beq_eq_false_iff_ne, Decidable.not_not, Nat.not_lt, Nat.not_le, Int.not_lt, Int.not_le, Bool.and_eq_true, Bool.and_eq_false_iff, Bool.or_eq_true, Bool.or_eq_false_iff] at h2)
        rotate_left
        · exfalso; simp only [hL] at h2; omega
        (conv => whnf)
        (try (refine ArW.i64e ((K : Nat) : Int) rfl (by omega) ?_; (conv => whnf)))
        refine IoW.at (by omega) (by omega) ?_
        (conv => whnf)
        (try (refine ArW.i64e ((K : Nat) : Int) rfl (by omega) ?_; (conv => whnf)))
        refine EoW.at (List.getElem?_set_self (by (try simp only [List.length_set]); omega)) ?_
        (conv => whnf)
        refine ArW.i64e ((K + 1 : Nat) : Int) (by omega) (by omega) ?_
        (conv => whnf)
        (try (refine ArW.i64e ((K + 1 : Nat) : Int) rfl (by omega) ?_; (conv => whnf)))
        refine IoW.at (by omega) (by omega) ?_
        (conv => whnf)
        refine EoW.at (List.getElem?_set_self (by (try simp only [List.length_set]); omega)) ?_
        (conv => whnf)
        refine ⟨⟨4, 3, _, _, _, _, _, rfl, rfl, hc0, ?_⟩⟩
        (conv => whnf)
        refine CallW.useK0 (mkInt64S_pk x.fKnots (K + 1) (by omega) (by omega)) hq0 (b := 3) rfl rfl rfl rfl rfl ?_
        (conv => whnf)
        (try (refine ArW.i64e ((K + 1 + 1 * x.fKnots.length : Nat) : Int) rfl (by omega) ?_; (conv => whnf)))
        refine IoW.at (by omega) (by omega) ?_
        (conv => whnf)
        refine EoW.at (List.getElem?_set_self (by (try simp only [List.length_set]); omega)) ?_
        (conv => whnf)
        refine ⟨⟨6, 5, _, _, _, _, _, rfl, rfl, hc1, ?_⟩⟩
        (conv => whnf)
        refine CallW.useK0 (mkPtS_pk x.fMoves (K + 1 + 1 * x.fKnots.length) (by omega) (by omega)) hq1 (b := 5) rfl rfl rfl rfl rfl ?_
        (conv => whnf)
        (try (refine ArW.i64e ((K + 1 + 1 * x.fKnots.length + 2 * x.fMoves.length : Nat) : Int) rfl (by omega) ?_; (conv => whnf)))
        refine IoW.at (by omega) (by omega) ?_
        (conv => whnf)
        (try (refine ArW.i64e ((K + 1 + 1 * x.fKnots.length + 2 * x.fMoves.length : Nat) : Int) rfl (by omega) ?_; (conv => whnf)))
        refine EoW.at (List.getElem?_set_self (by (try simp only [List.length_set]); omega)) ?_
        (conv => whnf)
        refine ArW.i64e ((K + 2 + 1 * x.fKnots.length + 2 * x.fMoves.length : Nat) : Int) (by omega) (by omega) ?_
        (conv => whnf)
        refine ArW.i64e ((i + 1 : Nat) : Int) (by omega) (by omega) ?_
        (conv => whnf)
        refine ⟨fun B X N M a w R => ?_⟩
        obtain ⟨M0, R0⟩ := R.inn (b := 2) (c := 3) (j := 4) (k := i) (p := [1]) (U := fun u => hoGlyphDelta (mkEGlyphDelta K x) u (.hole τ1.g (x.fMoves.map TPt.D).length τ1.cap)) (by decide) (by decide) (by decide) rfl (List.getElem?_set_self (by (try simp only [List.length_set]); omega)) rfl (fun _ => rfl) rfl rfl (by simp only [List.length_map, mkLInt64_len]) hc0
        obtain ⟨M1, R1⟩ := R0.inn (b := 2) (c := 5) (j := 6) (k := i) (p := [2]) (U := fun u => hoGlyphDelta (mkEGlyphDelta K x) (.lst ((mkLInt64 (K + 1) x.fKnots).map (D.int .i64))) u) (by decide) (by decide) (by decide) rfl (List.getElem?_set_self (by (try simp only [List.length_set]); omega)) rfl (fun _ => rfl) rfl rfl (by simp only [List.length_map, mkLPt_len]) hc1
        have hy : (mkG wgtGlyphDelta mkEGlyphDelta k xs)[i]? = some (mkEGlyphDelta K x) := by rw [mkG_get _ _ _ _ _ _ hx, hK]
        obtain ⟨MZ, RZ⟩ := R1.cov (e' := E0 (i + 1)) (h' := H0 (i + 1)) (show cov _ [_, _, _] from ⟨rfl, congrArg (fun z : Nat => V.d (.int .i64 (z : Int))) (by rw [wSum_succ wgtGlyphDelta xs i x hx, hwx]; omega), rfl, trivial⟩) (show covH _ [_, _, Blk.arr 4 _ true] from ⟨trivial, rfl, by
          have : ((fillG (mkG wgtGlyphDelta mkEGlyphDelta k xs) xs (i + 1)).map TGlyphDelta.D) = RW.set i (mkEGlyphDelta K x).D := by rw [← fillG_set hG hy, List.map_set, hR0]
          rw [this]
          simp only [Int.toNat_natCast, Nat.add_zero, List.set_set]
          rfl, trivial⟩) rfl
        obtain ⟨p, M3, R3, hI, hp⟩ := enter (i + 1) (by omega) _ _ _ _ _ _ RZ
        exact ⟨p, M3, R3, hI, by show xs.length - p.1 < xs.length - i; omega⟩
set_option maxHeartbeats 4000000 in
theorem hdGlyphDeltaS_v (xs : List TGlyphDelta) (k : Nat) (hb : k + wSum wgtGlyphDelta xs ≤ 4611686018427387904) (h1 : 1 ≤ k) : PC Tryz.prog 61 [.d (.lst ((mkG wgtGlyphDelta mkEGlyphDelta k xs).map TGlyphDelta.D)), .d (.int .i64 (k : Nat))] (.d (.int .i64 ((k + wSum wgtGlyphDelta xs : Nat)))) [] := by
  refine pc_intro ttOk (by kernel_rfl) Tryz.func61 rfl (by kernel_rfl) (by kernel_rfl) (by kernel_rfl) (fun hw => ?_)
  have hL : ((mkG wgtGlyphDelta mkEGlyphDelta k xs).map TGlyphDelta.D).length = xs.length := by rw [List.length_map, mkG_len]
  have hm' : xs.length ≤ 9223372036854775807 := by have := hw.1.1; rw [hL] at this; exact this
  (conv => whnf)
  refine LoopW.go (α := Nat) (fun i => [(0, .d (.lst ((mkG wgtGlyphDelta mkEGlyphDelta k xs).map TGlyphDelta.D))), (1, .d (.int .i64 ((k + wSum wgtGlyphDelta (xs.take i) : Nat)))), (5, .d (.int .i64 i))]) (fun _ => [.gone]) (fun i => i ≤ xs.length) (fun i => xs.length - i) 0 covT_ (by omega) (fun i hi => ?_)
  (conv => whnf)
  (refine br_ (fun h2 => ?_) (fun h2 => ?_))
  · obtain ⟨x, hx⟩ := at_lt' (xs := xs) (k := i) (by omega)
    have hle := wSum_le wgtGlyphDelta xs (i + 1)
    rw [wSum_succ wgtGlyphDelta xs i x hx] at hle
    have hwx : wgtGlyphDelta x = 2 + 1 * x.fKnots.length + 2 * x.fMoves.length := rfl
    have he : (mkG wgtGlyphDelta mkEGlyphDelta k xs)[i]? = some (mkEGlyphDelta (k + wSum wgtGlyphDelta (xs.take i)) x) := mkG_get _ _ _ _ _ _ hx
    (repeat (refine stg_ ?_))
    refine BIf.mk (fun h3 => ?_) (fun h3 => ?_)
    · exfalso; simp [mkEGlyphDelta] at h3
    (conv => whnf)
    refine ArW.i64e ((k + wSum wgtGlyphDelta (xs.take i) + 1 : Nat) : Int) (by omega) (by omega) ?_
    (conv => whnf)
    (repeat (refine stg_ ?_))
    (refine cla_ (hdInt64S_v x.fKnots (k + wSum wgtGlyphDelta (xs.take i) + 1) (by omega) (by omega)) ?_)
    (repeat (refine stg_ ?_))
    (try (refine BIf.mk (fun h3 => ?_) (fun h3 => ?_); (focus (exfalso; (try simp only [decide_eq_true_eq, decide_eq_false_iff_not, Bool.not_eq_true', Bool.not_eq_false', bne_iff_ne, ne_eq, beq_iff_eq, bne_eq_false_iff_eq, beq_eq_false_iff_ne, Decidable.not_not, Nat.not_lt, Nat.not_le, Int.not_lt, Int.not_le, Bool.and_eq_true, Bool.and_eq_false_iff, Bool.or_eq_true, Bool.or_eq_false_iff] at h3); omega)); (conv => whnf)))
    (repeat (refine stg_ ?_))
    (refine cla_ (hdPtS_v x.fMoves (k + wSum wgtGlyphDelta (xs.take i) + 1 + 1 * x.fKnots.length) (by omega) (by omega)) ?_)
    (repeat (refine stg_ ?_))
    (try (refine BIf.mk (fun h3 => ?_) (fun h3 => ?_); (focus (exfalso; (try simp only [decide_eq_true_eq, decide_eq_false_iff_not, Bool.not_eq_true', Bool.not_eq_false', bne_iff_ne, ne_eq, beq_iff_eq, bne_eq_false_iff_eq, beq_eq_false_iff_ne, Decidable.not_not, Nat.not_lt, Nat.not_le, Int.not_lt, Int.not_le, Bool.and_eq_true, Bool.and_eq_false_iff, Bool.or_eq_true, Bool.or_eq_false_iff] at h3); omega)); (conv => whnf)))
    (repeat (refine stg_ ?_))
    refine BIf.mk (fun h3 => ?_) (fun h3 => ?_)
    · exfalso; simp [mkEGlyphDelta] at h3
    (conv => whnf)
    refine ArW.i64e ((k + wSum wgtGlyphDelta (xs.take i) + 2 + 1 * x.fKnots.length + 2 * x.fMoves.length : Nat) : Int) (by omega) (by omega) ?_
    (conv => whnf)
    (try (refine ArW.i64e ((i + 1 : Nat) : Int) (by omega) (by omega) ?_; (conv => whnf)))
    exact NextW.go (i + 1) (Weak.cov ⟨rfl, congrArg (fun z : Nat => V.d (.int .i64 (z : Int))) (by rw [wSum_succ wgtGlyphDelta xs i x hx, hwx]; omega), rfl, trivial⟩ ⟨trivial, trivial⟩ rfl) (by omega) (by omega)
  · obtain rfl : i = xs.length := by omega
    (conv => whnf)
    (refine RetOK.d rfl rfl ?_; conv => whnf)
    rw [List.take_length]
def wgtMaster (x : TMaster) : Nat := 0 + 3 * x.fPeaks.length + wSum wgtGlyphDelta x.fDeltas
def mkEMaster (k : Nat) (x : TMaster) : TMaster := ⟨mkLPeak (k) x.fPeaks, mkG wgtGlyphDelta mkEGlyphDelta (k + 3 * x.fPeaks.length) x.fDeltas⟩
theorem wgtMaster_le (x : TMaster) : wgtMaster x ≤ 8 * zMaster x + 8 := by have h1 := wSum_z wgtGlyphDelta wgtGlyphDelta_le x.fDeltas; simp only [wgtMaster, zMaster, zL] at *; omega
def hoMaster (x : TMaster) (u0 u1 : D) : D := .st [u0, u1]
theorem mkMasterS_nil (k : Nat) : PC Tryz.prog 28 [.d (.lst []), .d (.int .i64 (k : Nat))] (.d (.int .i64 (k : Nat))) [] := by
  refine pc_intro ttOk (by kernel_rfl) Tryz.func28 rfl (by kernel_rfl) (by kernel_rfl) (by kernel_rfl) (fun hw => ?_)
  (conv => whnf)
  refine LoopW.go (α := Nat) (fun i => [(0, .d (.lst [])), (1, .d (.int .i64 (k : Nat))), (5, .d (.int .i64 (0 : Nat)))]) (fun _ => [.gone]) (fun _ => True) (fun i => i) 0 covT_ trivial (fun i _ => ?_)
  (conv => whnf)
  (repeat' (first | (refine stg_ ?_) | fail | (refine br_ (fun hbr => ?_) (fun hbr => ?_))))
  all_goals first | (exfalso; simp_all; done) | (refine RetOK.d rfl rfl ?_; conv => whnf)
set_option maxHeartbeats 4000000 in
theorem mkMasterS_pk (xs : List TMaster) (k : Nat) (hb : k + wSum wgtMaster xs ≤ 4611686018427387904) (h1 : 1 ≤ k) : PK Tryz.prog 28 2 (xs.map TMaster.D) [.d (.int .i64 (k : Nat))] (.d (.int .i64 ((k + wSum wgtMaster xs : Nat)))) ((mkG wgtMaster mkEMaster k xs).map TMaster.D) := by
  have hL : (xs.map TMaster.D).length = xs.length := List.length_map _
  have hG : (mkG wgtMaster mkEMaster k xs).length = xs.length := mkG_len _ _ _ _
  refine pk_intro ttOk (by kernel_rfl) Tryz.func28 rfl (by kernel_rfl) (by kernel_rfl) (by kernel_rfl) (by simp [hG]) rfl rfl (fun hx => ?_) (fun c s g sz t hw hm => ?_)
  · have hx : xs = [] := List.map_eq_nil_iff.1 hx
    subst hx
    refine pc_intro ttOk (by kernel_rfl) Tryz.func28 rfl (by kernel_rfl) (by kernel_rfl) (by kernel_rfl) (fun hw => ?_)
    (conv => whnf)
    refine LoopW.go (α := Nat) (fun i => [(0, .d (.lst [])), (1, .d (.int .i64 (k : Nat))), (5, .d (.int .i64 (0 : Nat)))]) (fun _ => [.gone]) (fun _ => True) (fun i => i) 0 covT_ trivial (fun i _ => ?_)
    (conv => whnf)
    (repeat' (first | (refine stg_ ?_) | fail | (refine br_ (fun hbr => ?_) (fun hbr => ?_))))
    all_goals first | (exfalso; simp_all; done) | ((refine RetOK.d rfl rfl ?_; conv => whnf); simp [wSum])
  · have hfl : ∀ i, ((fillG (mkG wgtMaster mkEMaster k xs) xs i).map TMaster.D).length = xs.length := fun i => by rw [List.length_map, fillG_len hG]
    have hm' : xs.length ≤ 9223372036854775807 := by rw [hL] at hm; exact hm
    let E0 : Nat → Env := fun i => [(0, .own 2 0 (xs.map TMaster.D).length), (1, .d (.int .i64 ((k + wSum wgtMaster (xs.take i) : Nat)))), (5, .d (.int .i64 i))]
    let H0 : Nat → List Blk := fun i => [.gone, .gho c s g sz t, .arr 2 ((fillG (mkG wgtMaster mkEMaster k xs) xs i).map TMaster.D) true]
    let mkH : Nat × Option (TMaster × Tk × Tk) → List Blk := fun p => match p with
      | (i, none) => H0 i
      | (i, some (x, τ0, τ1)) => [.gone, .gho c s g sz t, .arr 2 ((((fillG (mkG wgtMaster mkEMaster k xs) xs i).map TMaster.D).set i (hoMaster x (.hole τ0.g (x.fPeaks.map TPeak.D).length τ0.cap) (.lst (x.fDeltas.map TGlyphDelta.D)))).set i (hoMaster x (.hole τ0.g (x.fPeaks.map TPeak.D).length τ0.cap) (.hole τ1.g (x.fDeltas.map TGlyphDelta.D).length τ1.cap))) true, .arr τ0.n (x.fPeaks.map TPeak.D) true, .pin 3 τ0.g τ0.sz τ0.t, .arr τ1.n (x.fDeltas.map TGlyphDelta.D) true, .pin 5 τ1.g τ1.sz τ1.t]
    let I : Nat × Option (TMaster × Tk × Tk) → Prop := fun p => (p.2 = none ∧ p.1 = xs.length) ∨ ∃ x τ0 τ1, p.2 = some (x, τ0, τ1) ∧ xs[p.1]? = some x ∧ τ0.ok 3 (x.fPeaks.map TPeak.D) ∧ τ1.ok 4 (x.fDeltas.map TGlyphDelta.D)
    have enter : ∀ i, i ≤ xs.length → ∀ (B : World) (X : List Nat) (N : Nat) (M : MM) (a : Act) (w : World), Rep B X N M (E0 i) (H0 i) a w → ∃ p M', Rep B X N M' (E0 p.1) (mkH p) a w ∧ I p ∧ p.1 = i := fun i hi B X N M a w R => by
      rcases Nat.lt_or_ge i xs.length with hlt | hge
      · obtain ⟨x, hx⟩ := at_lt' (xs := xs) (k := i) hlt
        have he : ((fillG (mkG wgtMaster mkEMaster k xs) xs i).map TMaster.D)[i]? = some x.D := by rw [List.getElem?_map, fillG_get hG hx]; rfl
        have hf := hfl i
        obtain ⟨g0, cap0, sz0, t0, n0, M0, p0, q0, R0⟩ := R.out (b := 2) (k := i) (p := [0]) (U := fun u => hoMaster x u (.lst (x.fDeltas.map TGlyphDelta.D))) (n1 := 3) (by decide) rfl he rfl (fun _ => rfl) (by intro y hy; obtain ⟨z, _, rfl⟩ := List.mem_map.1 hy; rfl)
        obtain ⟨g1, cap1, sz1, t1, n1, M1, p1, q1, R1⟩ := R0.out (b := 2) (k := i) (p := [1]) (U := fun u => hoMaster x (.hole g0 (x.fPeaks.map TPeak.D).length cap0) u) (n1 := 4) (by decide) rfl (List.getElem?_set_self (by (try simp only [List.length_set]); omega)) rfl (fun _ => rfl) (by intro y hy; obtain ⟨z, _, rfl⟩ := List.mem_map.1 hy; rfl)
        exact ⟨(i, some (x, ⟨g0, cap0, sz0, t0, n0⟩, ⟨g1, cap1, sz1, t1, n1⟩)), M1, R1, .inr ⟨x, _, _, rfl, hx, ⟨p0, q0⟩, ⟨p1, q1⟩⟩, rfl⟩
      · exact ⟨(i, none), M, R, .inl ⟨rfl, by show i = _; omega⟩, rfl⟩
    (conv => whnf)
    refine LoopW.goX (fun p => E0 p.1) mkH I (fun p => xs.length - p.1) (fun B X N M a w R => ?_) (fun p hp E H hE hH => ?_)
    · obtain ⟨M1, R1⟩ := R.cov (e' := [(0, .own 2 0 (xs.map TMaster.D).length), (1, .d (.int .i64 ((k + wSum wgtMaster (xs.take 0) : Nat)))), (5, .d (.int .i64 (0 : Nat)))]) (h' := [.gone, .gho c s g sz t, .arr 2 ((fillG (mkG wgtMaster mkEMaster k xs) xs 0).map TMaster.D) true]) ⟨rfl, rfl, rfl, trivial⟩ ⟨trivial, rfl, by rw [fillG_zero], trivial⟩ rfl
      obtain ⟨p, M2, R2, hI, _⟩ := enter 0 (by omega) _ _ _ _ _ _ R1
      exact ⟨p, M2, R2, hI⟩
    · rcases hp with ⟨hp, hl⟩ | ⟨x, τ0, τ1, hp, hx, ⟨hq0, hc0⟩, ⟨hq1, hc1⟩⟩
      · obtain ⟨i, q⟩ := p
        dsimp only at hp hl
        subst hp
        subst hl
        subst hE
        subst hH
        (conv => whnf)
        (refine br_ (fun h2 => ?_) (fun h2 => ?_))
        · exfalso; omega
        · (conv => whnf)
          refine ⟨?_, [], ?_⟩
          · show V.d (.int .i64 ((k + wSum wgtMaster (xs.take xs.length) : Nat))) = _
            rw [List.take_length]
          · show [Blk.gone, Blk.gho c s g sz t, Blk.arr 2 ((fillG (mkG wgtMaster mkEMaster k xs) xs xs.length).map TMaster.D) true] = _
            rw [fillG_all hG]
      · obtain ⟨i, q⟩ := p
        dsimp only at hp hx
        subst hp
        have hi : i < xs.length := (List.getElem?_eq_some_iff.1 hx).1
        have hle := wSum_le wgtMaster xs (i + 1)
        rw [wSum_succ wgtMaster xs i x hx] at hle
        have hwx : wgtMaster x = 0 + 3 * x.fPeaks.length + wSum wgtGlyphDelta x.fDeltas := rfl
        have hR0l : ((fillG (mkG wgtMaster mkEMaster k xs) xs i).map TMaster.D).length = xs.length := hfl i
        generalize hK : k + wSum wgtMaster (xs.take i) = K at *
        generalize hR0 : (fillG (mkG wgtMaster mkEMaster k xs) xs i).map TMaster.D = RW at *
        have hE' : [(0, .own 2 0 (xs.map TMaster.D).length), (1, .d (.int .i64 (K : Nat))), (5, .d (.int .i64 i))] = E := by rw [← hK]; exact hE
        have hH' : [.gone, .gho c s g sz t, .arr 2 (((RW).set i (hoMaster x (.hole τ0.g (x.fPeaks.map TPeak.D).length τ0.cap) (.lst (x.fDeltas.map TGlyphDelta.D)))).set i (hoMaster x (.hole τ0.g (x.fPeaks.map TPeak.D).length τ0.cap) (.hole τ1.g (x.fDeltas.map TGlyphDelta.D).length τ1.cap))) true, .arr τ0.n (x.fPeaks.map TPeak.D) true, .pin 3 τ0.g τ0.sz τ0.t, .arr τ1.n (x.fDeltas.map TGlyphDelta.D) true, .pin 5 τ1.g τ1.sz τ1.t] = H := by rw [← hR0]; exact hH
        subst hE'
        subst hH'
        (conv => whnf)
        refine BIf.mk (fun h2 => ?_) (fun h2 => ?_) <;> (try simp only [decide_eq_true_eq, decide_eq_false_iff_not, Bool.not_eq_true', Bool.not_eq_false', bne_iff_ne, ne_eq, beq_iff_eq, bne_eq_false_iff_eq, beq_eq_false_iff_ne, Decidable.not_not, Nat.not_lt, Nat.not_le, Int.not_lt, Int.not_le, Bool.and_eq_true, Bool.and_eq_false_iff, Bool.or_eq_true, Bool.or_eq_false_iff] at h2)
        rotate_left
        · exfalso; simp only [hL] at h2; omega
        (conv => whnf)
        (try (refine ArW.i64e ((K : Nat) : Int) rfl (by omega) ?_; (conv => whnf)))
        refine IoW.at (by omega) (by omega) ?_
        (conv => whnf)
        refine EoW.at (List.getElem?_set_self (by (try simp only [List.length_set]); omega)) ?_
        (conv => whnf)
        refine ⟨⟨4, 3, _, _, _, _, _, rfl, rfl, hc0, ?_⟩⟩
        (conv => whnf)
        refine CallW.useK0 (mkPeakS_pk x.fPeaks (K) (by omega) (by omega)) hq0 (b := 3) rfl rfl rfl rfl rfl ?_
        (conv => whnf)
        (try (refine ArW.i64e ((K + 3 * x.fPeaks.length : Nat) : Int) rfl (by omega) ?_; (conv => whnf)))
        refine IoW.at (by omega) (by omega) ?_
        (conv => whnf)
        refine EoW.at (List.getElem?_set_self (by (try simp only [List.length_set]); omega)) ?_
        (conv => whnf)
        refine ⟨⟨6, 5, _, _, _, _, _, rfl, rfl, hc1, ?_⟩⟩
        (conv => whnf)
        refine CallW.useK0 (mkGlyphDeltaS_pk x.fDeltas (K + 3 * x.fPeaks.length) (by omega) (by omega)) hq1 (b := 5) rfl rfl rfl rfl rfl ?_
        (conv => whnf)
        refine ArW.i64e ((i + 1 : Nat) : Int) (by omega) (by omega) ?_
        (conv => whnf)
        refine ⟨fun B X N M a w R => ?_⟩
        obtain ⟨M0, R0⟩ := R.inn (b := 2) (c := 3) (j := 4) (k := i) (p := [0]) (U := fun u => hoMaster (mkEMaster K x) u (.hole τ1.g (x.fDeltas.map TGlyphDelta.D).length τ1.cap)) (by decide) (by decide) (by decide) rfl (List.getElem?_set_self (by (try simp only [List.length_set]); omega)) rfl (fun _ => rfl) rfl rfl (by simp only [List.length_map, mkLPeak_len]) hc0
        obtain ⟨M1, R1⟩ := R0.inn (b := 2) (c := 5) (j := 6) (k := i) (p := [1]) (U := fun u => hoMaster (mkEMaster K x) (.lst ((mkLPeak (K) x.fPeaks).map TPeak.D)) u) (by decide) (by decide) (by decide) rfl (List.getElem?_set_self (by (try simp only [List.length_set]); omega)) rfl (fun _ => rfl) rfl rfl (by simp only [List.length_map, mkG_len]) hc1
        have hy : (mkG wgtMaster mkEMaster k xs)[i]? = some (mkEMaster K x) := by rw [mkG_get _ _ _ _ _ _ hx, hK]
        obtain ⟨MZ, RZ⟩ := R1.cov (e' := E0 (i + 1)) (h' := H0 (i + 1)) (show cov _ [_, _, _] from ⟨rfl, congrArg (fun z : Nat => V.d (.int .i64 (z : Int))) (by rw [wSum_succ wgtMaster xs i x hx, hwx]; omega), rfl, trivial⟩) (show covH _ [_, _, Blk.arr 2 _ true] from ⟨trivial, rfl, by
          have : ((fillG (mkG wgtMaster mkEMaster k xs) xs (i + 1)).map TMaster.D) = RW.set i (mkEMaster K x).D := by rw [← fillG_set hG hy, List.map_set, hR0]
          rw [this]
          simp only [Int.toNat_natCast, Nat.add_zero, List.set_set]
          rfl, trivial⟩) rfl
        obtain ⟨p, M3, R3, hI, hp⟩ := enter (i + 1) (by omega) _ _ _ _ _ _ RZ
        exact ⟨p, M3, R3, hI, by show xs.length - p.1 < xs.length - i; omega⟩
set_option maxHeartbeats 4000000 in
theorem hdMasterS_v (xs : List TMaster) (k : Nat) (hb : k + wSum wgtMaster xs ≤ 4611686018427387904) (h1 : 1 ≤ k) : PC Tryz.prog 30 [.d (.lst ((mkG wgtMaster mkEMaster k xs).map TMaster.D)), .d (.int .i64 (k : Nat))] (.d (.int .i64 ((k + wSum wgtMaster xs : Nat)))) [] := by
  refine pc_intro ttOk (by kernel_rfl) Tryz.func30 rfl (by kernel_rfl) (by kernel_rfl) (by kernel_rfl) (fun hw => ?_)
  have hL : ((mkG wgtMaster mkEMaster k xs).map TMaster.D).length = xs.length := by rw [List.length_map, mkG_len]
  have hm' : xs.length ≤ 9223372036854775807 := by have := hw.1.1; rw [hL] at this; exact this
  (conv => whnf)
  refine LoopW.go (α := Nat) (fun i => [(0, .d (.lst ((mkG wgtMaster mkEMaster k xs).map TMaster.D))), (1, .d (.int .i64 ((k + wSum wgtMaster (xs.take i) : Nat)))), (5, .d (.int .i64 i))]) (fun _ => [.gone]) (fun i => i ≤ xs.length) (fun i => xs.length - i) 0 covT_ (by omega) (fun i hi => ?_)
  (conv => whnf)
  (refine br_ (fun h2 => ?_) (fun h2 => ?_))
  · obtain ⟨x, hx⟩ := at_lt' (xs := xs) (k := i) (by omega)
    have hle := wSum_le wgtMaster xs (i + 1)
    rw [wSum_succ wgtMaster xs i x hx] at hle
    have hwx : wgtMaster x = 0 + 3 * x.fPeaks.length + wSum wgtGlyphDelta x.fDeltas := rfl
    have he : (mkG wgtMaster mkEMaster k xs)[i]? = some (mkEMaster (k + wSum wgtMaster (xs.take i)) x) := mkG_get _ _ _ _ _ _ hx
    (repeat (refine stg_ ?_))
    (refine cla_ (hdPeakS_v x.fPeaks (k + wSum wgtMaster (xs.take i)) (by omega) (by omega)) ?_)
    (repeat (refine stg_ ?_))
    (try (refine BIf.mk (fun h3 => ?_) (fun h3 => ?_); (focus (exfalso; (try simp only [decide_eq_true_eq, decide_eq_false_iff_not, Bool.not_eq_true', Bool.not_eq_false', bne_iff_ne, ne_eq, beq_iff_eq, bne_eq_false_iff_eq, beq_eq_false_iff_ne, Decidable.not_not, Nat.not_lt, Nat.not_le, Int.not_lt, Int.not_le, Bool.and_eq_true, Bool.and_eq_false_iff, Bool.or_eq_true, Bool.or_eq_false_iff] at h3); omega)); (conv => whnf)))
    (repeat (refine stg_ ?_))
    (refine cla_ (hdGlyphDeltaS_v x.fDeltas (k + wSum wgtMaster (xs.take i) + 3 * x.fPeaks.length) (by omega) (by omega)) ?_)
    (repeat (refine stg_ ?_))
    (try (refine BIf.mk (fun h3 => ?_) (fun h3 => ?_); (focus (exfalso; (try simp only [decide_eq_true_eq, decide_eq_false_iff_not, Bool.not_eq_true', Bool.not_eq_false', bne_iff_ne, ne_eq, beq_iff_eq, bne_eq_false_iff_eq, beq_eq_false_iff_ne, Decidable.not_not, Nat.not_lt, Nat.not_le, Int.not_lt, Int.not_le, Bool.and_eq_true, Bool.and_eq_false_iff, Bool.or_eq_true, Bool.or_eq_false_iff] at h3); omega)); (conv => whnf)))
    (try (refine ArW.i64e ((i + 1 : Nat) : Int) (by omega) (by omega) ?_; (conv => whnf)))
    exact NextW.go (i + 1) (Weak.cov ⟨rfl, congrArg (fun z : Nat => V.d (.int .i64 (z : Int))) (by rw [wSum_succ wgtMaster xs i x hx, hwx]; omega), rfl, trivial⟩ ⟨trivial, trivial⟩ rfl) (by omega) (by omega)
  · obtain rfl : i = xs.length := by omega
    (conv => whnf)
    (refine RetOK.d rfl rfl ?_; conv => whnf)
    rw [List.take_length]

end Go.Proofs.YtehndgkmpdlccaaGreat
