/- The laws' own marking functions: what each leaves. -/
import Derived.Test.YtcachhipflibkaaGreatVMTac
import Derived.Test.YtcachhipflibkaaGreatLVBase
import Derived.Test.YtcachhipflibkaaGreatLV
set_option linter.unusedSimpArgs false
set_option linter.unusedVariables false
namespace Go.Proofs.YtcachhipflibkaaGreat
open Go.RowKit
section
variable {α : Type} {g : Nat → α → α} {xs : List α}
def fillM (g : Nat → α → α) (xs : List α) (k : Nat) : List α := (xs.mapIdx g).take k ++ xs.drop k
theorem fillM_zero : fillM g xs 0 = xs := by simp [fillM]
theorem fillM_all : fillM g xs xs.length = xs.mapIdx g := by
  rw [fillM, List.drop_length, List.append_nil, List.take_of_length_le (by simp)]
theorem fillM_len (k : Nat) : (fillM g xs k).length = xs.length := by simp [fillM]; omega
theorem fillM_get {k : Nat} {x : α} (h : xs[k]? = some x) : (fillM g xs k)[k]? = some x := by
  have hk := (List.getElem?_eq_some_iff.1 h).1
  have hl : ((xs.mapIdx g).take k).length = k := by simp; omega
  rw [fillM, List.getElem?_append_right (by omega), hl, Nat.sub_self, List.getElem?_drop]
  simpa using h
theorem fillM_set {k : Nat} {x : α} (h : xs[k]? = some x) : (fillM g xs k).set k (g k x) = fillM g xs (k + 1) := by
  have hk := (List.getElem?_eq_some_iff.1 h).1
  have hl : ((xs.mapIdx g).take k).length = k := by simp; omega
  have hm : (xs.mapIdx g)[k]? = some (g k x) := by rw [List.getElem?_mapIdx, h]; rfl
  rw [fillM, fillM, List.set_append_right _ _ (by omega), hl, Nat.sub_self, drop_at h, List.set_cons_zero, take_snoc_get hm, List.append_assoc]
  rfl
end
section
variable {α : Type} (w : α → Nat) (g : Nat → α → α)
def wSum : List α → Nat
  | [] => 0
  | x :: xs => w x + wSum xs
def mkG : Nat → List α → List α
  | _, [] => []
  | k, x :: xs => g k x :: mkG (k + w x) xs
def fillG (ys xs : List α) (i : Nat) : List α := ys.take i ++ xs.drop i
theorem wSum_succ : ∀ (xs : List α) (i : Nat) (x : α), xs[i]? = some x → wSum w (xs.take (i + 1)) = wSum w (xs.take i) + w x
  | [], i, x, h => by simp at h
  | y :: xs, 0, x, h => by simp at h; subst h; simp [wSum]
  | y :: xs, i + 1, x, h => by
    have := wSum_succ xs i x (by simpa using h)
    simp only [List.take_succ_cons, wSum, this]
    omega
theorem wSum_le : ∀ (xs : List α) (i : Nat), wSum w (xs.take i) ≤ wSum w xs
  | [], i => by simp [wSum]
  | y :: xs, 0 => by simp [wSum]
  | y :: xs, i + 1 => by
    have := wSum_le xs i
    simp only [List.take_succ_cons, wSum]
    omega
theorem wSum_z {z : α → Nat} (h : ∀ x, w x ≤ 8 * z x + 8) : ∀ xs : List α, wSum w xs ≤ 8 * zL z xs
  | [] => by simp [wSum]
  | x :: xs => by
    have h1 := wSum_z h xs
    have h2 := h x
    simp only [wSum, zL, List.map_cons, List.sum_cons, List.length_cons] at *
    omega
theorem mkG_len : ∀ (xs : List α) (k : Nat), (mkG w g k xs).length = xs.length
  | [], k => rfl
  | x :: xs, k => by simp [mkG, mkG_len xs]
theorem mkG_get : ∀ (xs : List α) (k i : Nat) (x : α), xs[i]? = some x → (mkG w g k xs)[i]? = some (g (k + wSum w (xs.take i)) x)
  | [], k, i, x, h => by simp at h
  | y :: xs, k, 0, x, h => by simp at h; subst h; simp [mkG, wSum]
  | y :: xs, k, i + 1, x, h => by
    have := mkG_get xs (k + w y) i x (by simpa using h)
    simp only [mkG, List.getElem?_cons_succ, List.take_succ_cons, wSum, this]
    rw [Nat.add_assoc]
variable {ys xs : List α}
theorem fillG_zero : fillG ys xs 0 = xs := by simp [fillG]
theorem fillG_all (h : ys.length = xs.length) : fillG ys xs xs.length = ys := by
  rw [fillG, List.drop_length, List.append_nil, List.take_of_length_le (by omega)]
theorem fillG_len (h : ys.length = xs.length) (k : Nat) : (fillG ys xs k).length = xs.length := by simp [fillG]; omega
theorem fillG_get (h : ys.length = xs.length) {k : Nat} {x : α} (hx : xs[k]? = some x) : (fillG ys xs k)[k]? = some x := by
  have hk := (List.getElem?_eq_some_iff.1 hx).1
  have hl : (ys.take k).length = k := by simp; omega
  rw [fillG, List.getElem?_append_right (by omega), hl, Nat.sub_self, List.getElem?_drop]
  simpa using hx
theorem fillG_set (h : ys.length = xs.length) {k : Nat} {y : α} (hy : ys[k]? = some y) : (fillG ys xs k).set k y = fillG ys xs (k + 1) := by
  have hk := (List.getElem?_eq_some_iff.1 hy).1
  obtain ⟨x, hx⟩ := at_lt (xs := xs) (k := k) (by omega)
  have hl : (ys.take k).length = k := by simp; omega
  rw [fillG, fillG, List.set_append_right _ _ (by omega), hl, Nat.sub_self, drop_at hx, List.set_cons_zero, take_snoc_get hy, List.append_assoc]
  rfl
end
theorem Rep.cov {B : World} {X : List Nat} {N : Nat} {M : MM} {e e' : Env} {h h' : List Blk} {a : Act} {w : World} (R : Rep B X N M e h a w) (h1 : cov e e') (h2 : covH h h') (h3 : (scE h' e' && scH h' h' && (match h' with | .gone :: _ => true | _ => false)) = true) : ∃ M', Rep B X N M' e' h' a w := Weak.cov h1 h2 h3 _ _ _ _ _ _ R
theorem LoopW.goX {F : Post → Env → List Blk → Prop} {Q : Post} {e : Env} {h : List Blk} {α : Type} (mkE : α → Env) (mkH : α → List Blk) (I : α → Prop) (μ : α → Nat)
    (h0 : ∀ (B : World) (X : List Nat) (N : Nat) (M : MM) (a : Act) (w : World), Rep B X N M e h a w → ∃ x0 M', Rep B X N M' (mkE x0) (mkH x0) a w ∧ I x0)
    (h1 : ∀ x, I x → ∀ E H, mkE x = E → mkH x = H → F (loopQ mkE mkH I μ Q x) E H) : LoopW F Q e h := ⟨⟨α, mkE, mkH, I, μ, h0, fun x hx => h1 x hx _ _ rfl rfl⟩⟩
structure Tk where
  g : Nat
  cap : Nat
  sz : Nat
  t : TypeId
  n : Nat
def Tk.ok (τ : Tk) (n1 : Nat) (ys : List D) : Prop := (ys ≠ [] → τ.n = n1) ∧ (τ.cap = 0 ∨ τ.cap * τ.n < τ.sz)

def mkT (k : Nat) : ByteArray := mkS (109 :: decL k)
theorem decS_preN {n k : Nat} {L : List UInt8} (h : (if k = 0 then [] else decL k) ++ L = decL n) (hk : k ≠ 0) : (if k / 10 = 0 then [] else decL (k / 10)) ++ (dgC (k % 10) :: L) = decL n := by
  rw [← h, if_neg hk]
  by_cases h1 : k < 10
  · rw [decL_lo h1, if_pos (by omega), Nat.mod_eq_of_lt h1]; rfl
  · rw [decL_hi h1, if_neg (by omega)]; simp
theorem mkT_v (k : Nat) (h1 : 1 ≤ k) (h2 : k ≤ 4611686018427387904) : PC Tryz.prog 116 [.d (.int .i64 (k : Nat))] (.d (.str (mkT k))) [] := by
  refine pc_intro ttOk (by kernel_rfl) Tryz.func116 rfl (by kernel_rfl) (by kernel_rfl) (by kernel_rfl) (fun hw => ?_)
  have hlen : (decL k).length ≤ 20 := decL_len 19 _ (by omega)
  (conv => whnf)
  (refine br_ (fun h3 => ?_) (fun h3 => ?_))
  · exfalso; omega
  · refine LoopW.go (α := Nat × List UInt8) (fun p => [(0, .d (.int .i64 (p.1 : Nat))), (3, .d (.str (mkS p.2)))]) (fun _ => [.gone]) (fun p => (if p.1 = 0 then [] else decL p.1) ++ p.2 = decL k ∧ p.1 ≤ k) (fun p => p.1) (k, []) covT_ ⟨by rw [if_neg (by show ¬ k = 0; omega)]; simp, Nat.le_refl _⟩ ?_
    rintro ⟨u, L⟩ ⟨k1, k2⟩
    dsimp only at k1 k2 ⊢
    have k3 := congrArg List.length k1
    rw [List.length_append] at k3
    have ht : (u : Int).tmod 10 = ((u % 10 : Nat) : Int) := by rw [Int.tmod_eq_emod_of_nonneg (by omega)]; rfl
    have hd : (u : Int).tdiv 10 = ((u / 10 : Nat) : Int) := by rw [Int.tdiv_eq_ediv_of_nonneg (by omega)]; rfl
    have hc := (dgC (u % 10)).toNat_lt
    have hc2 := dgC_toNat (d := u % 10) (by omega)
    (conv => whnf)
    (refine br_ (fun h4 => ?_) (fun h4 => ?_))
    · (refine stg_ ?_)
      rw [ht]
      (refine stg_ ?_)
      refine ArW.u8e ((dgC (u % 10)).toNat : Int) (by omega) (by omega) ?_
      (conv => whnf)
      (repeat (refine stg_ ?_))
      refine StW.at (s := mkS [dgC (u % 10)]) (by rw [mkS_toList]; rfl) ?_
      (conv => whnf)
      refine CatW.at (by rw [mkS_size, mkS_size]; show 1 + L.length ≤ 9223372036854775807; omega) ?_
      (conv => whnf)
      (repeat (refine stg_ ?_))
      rw [hd]
      (repeat (refine stg_ ?_))
      refine NextW.go (u / 10, dgC (u % 10) :: L) (Weak.cov ⟨rfl, ?_, trivial⟩ ⟨trivial, trivial⟩ rfl) ⟨decS_preN k1 (by omega), by show u / 10 ≤ k; omega⟩ (by show u / 10 < u; omega)
      exact congrArg (fun z => V.d (D.str z)) (mkS_app [dgC (u % 10)] L)
    · obtain rfl : u = 0 := by omega
      rw [if_pos rfl, List.nil_append] at k1
      refine CatW.at (by rw [mkS_size]; show 1 + L.length ≤ 9223372036854775807; rw [k1]; omega) ?_
      (conv => whnf)
      (refine RetOK.d rfl rfl ?_; conv => whnf)
      rw [mkT, ← k1]
      exact congrArg D.str (mkS_app [109] L).symm
def mkEInt64 (k : Nat) (_ : Int) : Int := ((k : Nat) : Int)
def mkLInt64 (k : Nat) (xs : List Int) : List Int := xs.mapIdx fun i x => mkEInt64 (k + 1 * i) x
theorem mkLInt64_len (k : Nat) (xs : List Int) : (mkLInt64 k xs).length = xs.length := by simp [mkLInt64]
theorem mkInt64S_nil (k : Nat) : PC Tryz.prog 16 [.d (.lst []), .d (.int .i64 (k : Nat))] (.d (.int .i64 (k : Nat))) [] := by
  refine pc_intro ttOk (by kernel_rfl) Tryz.func16 rfl (by kernel_rfl) (by kernel_rfl) (by kernel_rfl) (fun hw => ?_)
  (conv => whnf)
  refine LoopW.go (α := Nat) (fun i => [(0, .d (.lst [])), (1, .d (.int .i64 (k : Nat))), (5, .d (.int .i64 (0 : Nat)))]) (fun _ => [.gone]) (fun _ => True) (fun i => i) 0 covT_ trivial (fun i _ => ?_)
  (conv => whnf)
  (repeat' (first | (refine stg_ ?_) | fail | (refine br_ (fun hbr => ?_) (fun hbr => ?_))))
  all_goals first | (exfalso; simp_all; done) | (refine RetOK.d rfl rfl ?_; conv => whnf)
set_option maxHeartbeats 2000000 in
theorem mkInt64S_pk (xs : List Int) (k : Nat) (hb : k + 1 * xs.length ≤ 4611686018427387904) (h1 : 1 ≤ k) : PK Tryz.prog 16 1 (xs.map (D.int .i64)) [.d (.int .i64 (k : Nat))] (.d (.int .i64 ((k + 1 * xs.length : Nat)))) ((mkLInt64 k xs).map (D.int .i64)) := by
  have hL : (xs.map (D.int .i64)).length = xs.length := List.length_map _
  refine pk_intro ttOk (by kernel_rfl) Tryz.func16 rfl (by kernel_rfl) (by kernel_rfl) (by kernel_rfl) (by simp [mkLInt64]) rfl rfl (fun hx => ?_) (fun c s g sz t hw hm => ?_)
  · have hx : xs = [] := List.map_eq_nil_iff.1 hx
    subst hx
    refine pc_intro ttOk (by kernel_rfl) Tryz.func16 rfl (by kernel_rfl) (by kernel_rfl) (by kernel_rfl) (fun hw => ?_)
    (conv => whnf)
    refine LoopW.go (α := Nat) (fun i => [(0, .d (.lst [])), (1, .d (.int .i64 (k : Nat))), (5, .d (.int .i64 (0 : Nat)))]) (fun _ => [.gone]) (fun _ => True) (fun i => i) 0 covT_ trivial (fun i _ => ?_)
    (conv => whnf)
    (repeat' (first | (refine stg_ ?_) | fail | (refine br_ (fun hbr => ?_) (fun hbr => ?_))))
    all_goals first | (exfalso; simp_all; done) | ((refine RetOK.d rfl rfl ?_; conv => whnf); simp)
  · (conv => whnf)
    refine LoopW.go (α := Nat) (fun i => [(0, .own 2 0 (xs.map (D.int .i64)).length), (1, .d (.int .i64 ((k + 1 * i : Nat)))), (5, .d (.int .i64 i))]) (fun i => [.gone, .gho c s g sz t, .arr 1 ((fillM (fun i x => mkEInt64 (k + 1 * i) x) xs i).map (D.int .i64)) true]) (fun i => i ≤ xs.length) (fun i => xs.length - i) 0 (Weak.cov ⟨rfl, rfl, rfl, trivial⟩ ⟨trivial, rfl, by first | (rw [fillM_zero]; done) | (rw [fillM_zero]; rfl), trivial⟩ rfl) (by omega) (fun i hi => ?_)
    have hfl : ((fillM (fun i x => mkEInt64 (k + 1 * i) x) xs i).map (D.int .i64)).length = xs.length := by rw [List.length_map, fillM_len]
    (conv => whnf)
    (refine br_ (fun h2 => ?_) (fun h2 => ?_))
    · obtain ⟨x, hx⟩ := at_lt' (xs := xs) (k := i) (by omega)
      have he0 : ((fillM (fun i x => mkEInt64 (k + 1 * i) x) xs i).map (D.int .i64))[i]? = some ((D.int .i64) x) := by rw [List.getElem?_map, fillM_get hx]; rfl
      (try (refine ArW.i64e ((k + 1 * i : Nat) : Int) rfl (by omega) ?_; (conv => whnf)))
      refine IoW.at (by omega) (by omega) ?_
      (conv => whnf)
      (try (refine ArW.i64e ((k + 1 * i : Nat) : Int) rfl (by omega) ?_; (conv => whnf)))
      refine EoW.at he0 ?_
      (conv => whnf)
      refine ArW.i64e ((k + 1 * i + 1 : Nat) : Int) (by omega) (by omega) ?_
      (conv => whnf)
      (repeat (refine stg_ ?_))
      refine NextW.go (i + 1) (Weak.cov ⟨rfl, by rw [show k + 1 * (i + 1) = k + 1 * i + 1 by omega]; rfl, rfl, trivial⟩ ⟨trivial, rfl, ?_, trivial⟩ rfl) (by omega) (by omega)
      show Blk.arr 1 _ true = Blk.arr 1 _ true
      rw [← fillM_set hx, List.map_set]
      (try simp only [List.set_set])
      rfl
    · obtain rfl : i = xs.length := by omega
      (conv => whnf)
      refine ⟨rfl, [], ?_⟩
      rw [fillM_all]; rfl
set_option maxHeartbeats 2000000 in
theorem hdInt64S_v (xs : List Int) (k : Nat) (hb : k + 1 * xs.length ≤ 4611686018427387904) (h1 : 1 ≤ k) : PC Tryz.prog 17 [.d (.lst ((mkLInt64 k xs).map (D.int .i64))), .d (.int .i64 (k : Nat))] (.d (.int .i64 ((k + 1 * xs.length : Nat)))) [] := by
  refine pc_intro ttOk (by kernel_rfl) Tryz.func17 rfl (by kernel_rfl) (by kernel_rfl) (by kernel_rfl) (fun hw => ?_)
  have hL : ((mkLInt64 k xs).map (D.int .i64)).length = xs.length := by simp [mkLInt64]
  (conv => whnf)
  refine LoopW.go (α := Nat) (fun i => [(0, .d (.lst ((mkLInt64 k xs).map (D.int .i64)))), (1, .d (.int .i64 ((k + 1 * i : Nat)))), (5, .d (.int .i64 i))]) (fun _ => [.gone]) (fun i => i ≤ xs.length) (fun i => xs.length - i) 0 covT_ (by omega) (fun i hi => ?_)
  (conv => whnf)
  (refine br_ (fun h2 => ?_) (fun h2 => ?_))
  · obtain ⟨y, hy⟩ := at_lt' (xs := xs) (k := i) (by omega)
    have hx : (mkLInt64 k xs)[i]? = some (mkEInt64 (k + 1 * i) y) := by rw [mkLInt64, List.getElem?_mapIdx, hy]; rfl
    (repeat (refine stg_ ?_))
    refine BIf.mk (fun h3 => ?_) (fun h3 => ?_)
    · exfalso; simp [mkEInt64] at h3
    (conv => whnf)
    refine ArW.i64e ((k + 1 * i + 1 : Nat) : Int) (by omega) (by omega) ?_
    (conv => whnf)
    (repeat (refine stg_ ?_))
    exact NextW.go (i + 1) (Weak.cov ⟨rfl, by rw [show k + 1 * (i + 1) = k + 1 * i + 1 by omega]; rfl, rfl, trivial⟩ ⟨trivial, trivial⟩ rfl) (by omega) (by omega)
  · obtain rfl : i = xs.length := by omega
    (conv => whnf)
    (refine RetOK.d rfl rfl ?_; conv => whnf)
def mkEJoin (k : Nat) (_ : TJoin) : TJoin := ⟨((k : Nat) : Int), ((k + 1 : Nat) : Int), ((k + 2 : Nat) : Int), ((k + 3 : Nat) : Int), ((k + 4 : Nat) : Int)⟩
def mkLJoin (k : Nat) (xs : List TJoin) : List TJoin := xs.mapIdx fun i x => mkEJoin (k + 5 * i) x
set_option maxHeartbeats 2000000 in
theorem mkJoinS_pk (xs : List TJoin) (k : Nat) (hb : k + 5 * xs.length ≤ 4611686018427387904) (h1 : 1 ≤ k) : PK Tryz.prog 67 5 (xs.map TJoin.D) [.d (.int .i64 (k : Nat))] (.d (.int .i64 ((k + 5 * xs.length : Nat)))) ((mkLJoin k xs).map TJoin.D) := by
  have hL : (xs.map TJoin.D).length = xs.length := List.length_map _
  refine pk_intro ttOk (by kernel_rfl) Tryz.func67 rfl (by kernel_rfl) (by kernel_rfl) (by kernel_rfl) (by simp [mkLJoin]) rfl rfl (fun hx => ?_) (fun c s g sz t hw hm => ?_)
  · have hx : xs = [] := List.map_eq_nil_iff.1 hx
    subst hx
    refine pc_intro ttOk (by kernel_rfl) Tryz.func67 rfl (by kernel_rfl) (by kernel_rfl) (by kernel_rfl) (fun hw => ?_)
    (conv => whnf)
    refine LoopW.go (α := Nat) (fun i => [(0, .d (.lst [])), (1, .d (.int .i64 (k : Nat))), (5, .d (.int .i64 (0 : Nat)))]) (fun _ => [.gone]) (fun _ => True) (fun i => i) 0 covT_ trivial (fun i _ => ?_)
    (conv => whnf)
    (repeat' (first | (refine stg_ ?_) | fail | (refine br_ (fun hbr => ?_) (fun hbr => ?_))))
    all_goals first | (exfalso; simp_all; done) | ((refine RetOK.d rfl rfl ?_; conv => whnf); simp)
  · (conv => whnf)
    refine LoopW.go (α := Nat) (fun i => [(0, .own 2 0 (xs.map TJoin.D).length), (1, .d (.int .i64 ((k + 5 * i : Nat)))), (5, .d (.int .i64 i))]) (fun i => [.gone, .gho c s g sz t, .arr 5 ((fillM (fun i x => mkEJoin (k + 5 * i) x) xs i).map TJoin.D) true]) (fun i => i ≤ xs.length) (fun i => xs.length - i) 0 (Weak.cov ⟨rfl, rfl, rfl, trivial⟩ ⟨trivial, rfl, by first | (rw [fillM_zero]; done) | (rw [fillM_zero]; rfl), trivial⟩ rfl) (by omega) (fun i hi => ?_)
    have hfl : ((fillM (fun i x => mkEJoin (k + 5 * i) x) xs i).map TJoin.D).length = xs.length := by rw [List.length_map, fillM_len]
    (conv => whnf)
    (refine br_ (fun h2 => ?_) (fun h2 => ?_))
    · obtain ⟨x, hx⟩ := at_lt' (xs := xs) (k := i) (by omega)
      have he0 : ((fillM (fun i x => mkEJoin (k + 5 * i) x) xs i).map TJoin.D)[i]? = some (TJoin.D x) := by rw [List.getElem?_map, fillM_get hx]; rfl
      (try (refine ArW.i64e ((k + 5 * i : Nat) : Int) rfl (by omega) ?_; (conv => whnf)))
      refine IoW.at (by omega) (by omega) ?_
      (conv => whnf)
      (try (refine ArW.i64e ((k + 5 * i : Nat) : Int) rfl (by omega) ?_; (conv => whnf)))
      refine EoW.at he0 ?_
      (conv => whnf)
      refine ArW.i64e ((k + 5 * i + 1 : Nat) : Int) (by omega) (by omega) ?_
      (conv => whnf)
      (try (refine ArW.i64e ((k + 5 * i + 1 : Nat) : Int) rfl (by omega) ?_; (conv => whnf)))
      refine IoW.at (by omega) (by omega) ?_
      (conv => whnf)
      (try (refine ArW.i64e ((k + 5 * i + 1 : Nat) : Int) rfl (by omega) ?_; (conv => whnf)))
      refine EoW.at (List.getElem?_set_self (by (try simp only [List.length_set]); omega)) ?_
      (conv => whnf)
      refine ArW.i64e ((k + 5 * i + 2 : Nat) : Int) (by omega) (by omega) ?_
      (conv => whnf)
      (try (refine ArW.i64e ((k + 5 * i + 2 : Nat) : Int) rfl (by omega) ?_; (conv => whnf)))
      refine IoW.at (by omega) (by omega) ?_
      (conv => whnf)
      (try (refine ArW.i64e ((k + 5 * i + 2 : Nat) : Int) rfl (by omega) ?_; (conv => whnf)))
      refine EoW.at (List.getElem?_set_self (by (try simp only [List.length_set]); omega)) ?_
      (conv => whnf)
      refine ArW.i64e ((k + 5 * i + 3 : Nat) : Int) (by omega) (by omega) ?_
      (conv => whnf)
      (try (refine ArW.i64e ((k + 5 * i + 3 : Nat) : Int) rfl (by omega) ?_; (conv => whnf)))
      refine IoW.at (by omega) (by omega) ?_
      (conv => whnf)
      (try (refine ArW.i64e ((k + 5 * i + 3 : Nat) : Int) rfl (by omega) ?_; (conv => whnf)))
      refine EoW.at (List.getElem?_set_self (by (try simp only [List.length_set]); omega)) ?_
      (conv => whnf)
      refine ArW.i64e ((k + 5 * i + 4 : Nat) : Int) (by omega) (by omega) ?_
      (conv => whnf)
      (try (refine ArW.i64e ((k + 5 * i + 4 : Nat) : Int) rfl (by omega) ?_; (conv => whnf)))
      refine IoW.at (by omega) (by omega) ?_
      (conv => whnf)
      (try (refine ArW.i64e ((k + 5 * i + 4 : Nat) : Int) rfl (by omega) ?_; (conv => whnf)))
      refine EoW.at (List.getElem?_set_self (by (try simp only [List.length_set]); omega)) ?_
      (conv => whnf)
      refine ArW.i64e ((k + 5 * i + 5 : Nat) : Int) (by omega) (by omega) ?_
      (conv => whnf)
      (repeat (refine stg_ ?_))
      refine NextW.go (i + 1) (Weak.cov ⟨rfl, by rw [show k + 5 * (i + 1) = k + 5 * i + 5 by omega]; rfl, rfl, trivial⟩ ⟨trivial, rfl, ?_, trivial⟩ rfl) (by omega) (by omega)
      show Blk.arr 5 _ true = Blk.arr 5 _ true
      rw [← fillM_set hx, List.map_set]
      (try simp only [List.set_set])
      rfl
    · obtain rfl : i = xs.length := by omega
      (conv => whnf)
      refine ⟨rfl, [], ?_⟩
      rw [fillM_all]; rfl

abbrev TInt64S := List Int
abbrev TInt64S.D : TInt64S → D := lstD (D.int .i64)
abbrev zInt64S : TInt64S → Nat := List.length
def wgtInt64S (x : TInt64S) : Nat := 0 + 1 * x.length
def mkEInt64S (k : Nat) (x : TInt64S) : TInt64S := mkLInt64 (k) x
theorem wgtInt64S_le (x : TInt64S) : wgtInt64S x ≤ 8 * zInt64S x + 8 := by simp only [wgtInt64S, zInt64S, zL] at *; omega
def hoInt64S (x : TInt64S) (u0 : D) : D := u0
set_option maxHeartbeats 4000000 in
theorem mkInt64SS_pk (xs : List TInt64S) (k : Nat) (hb : k + wSum wgtInt64S xs ≤ 4611686018427387904) (h1 : 1 ≤ k) : PK Tryz.prog 163 1 (xs.map TInt64S.D) [.d (.int .i64 (k : Nat))] (.d (.int .i64 ((k + wSum wgtInt64S xs : Nat)))) ((mkG wgtInt64S mkEInt64S k xs).map TInt64S.D) := by
  have hL : (xs.map TInt64S.D).length = xs.length := List.length_map _
  have hG : (mkG wgtInt64S mkEInt64S k xs).length = xs.length := mkG_len _ _ _ _
  refine pk_intro ttOk (by kernel_rfl) Tryz.func163 rfl (by kernel_rfl) (by kernel_rfl) (by kernel_rfl) (by simp [hG]) rfl rfl (fun hx => ?_) (fun c s g sz t hw hm => ?_)
  · have hx : xs = [] := List.map_eq_nil_iff.1 hx
    subst hx
    refine pc_intro ttOk (by kernel_rfl) Tryz.func163 rfl (by kernel_rfl) (by kernel_rfl) (by kernel_rfl) (fun hw => ?_)
    (conv => whnf)
    refine LoopW.go (α := Nat) (fun i => [(0, .d (.lst [])), (1, .d (.int .i64 (k : Nat))), (5, .d (.int .i64 (0 : Nat)))]) (fun _ => [.gone]) (fun _ => True) (fun i => i) 0 covT_ trivial (fun i _ => ?_)
    (conv => whnf)
    (repeat' (first | (refine stg_ ?_) | fail | (refine br_ (fun hbr => ?_) (fun hbr => ?_))))
    all_goals first | (exfalso; simp_all; done) | ((refine RetOK.d rfl rfl ?_; conv => whnf); simp [wSum])
  · have hfl : ∀ i, ((fillG (mkG wgtInt64S mkEInt64S k xs) xs i).map TInt64S.D).length = xs.length := fun i => by rw [List.length_map, fillG_len hG]
    have hm' : xs.length ≤ 9223372036854775807 := by rw [hL] at hm; exact hm
    let E0 : Nat → Env := fun i => [(0, .own 2 0 (xs.map TInt64S.D).length), (1, .d (.int .i64 ((k + wSum wgtInt64S (xs.take i) : Nat)))), (5, .d (.int .i64 i))]
    let H0 : Nat → List Blk := fun i => [.gone, .gho c s g sz t, .arr 1 ((fillG (mkG wgtInt64S mkEInt64S k xs) xs i).map TInt64S.D) true]
    let mkH : Nat × Option (TInt64S × Tk) → List Blk := fun p => match p with
      | (i, none) => H0 i
      | (i, some (x, τ0)) => [.gone, .gho c s g sz t, .arr 1 (((fillG (mkG wgtInt64S mkEInt64S k xs) xs i).map TInt64S.D).set i (hoInt64S x (.hole τ0.g (x.map (D.int .i64)).length τ0.cap))) true, .arr τ0.n (x.map (D.int .i64)) true, .pin 3 τ0.g τ0.sz τ0.t]
    let I : Nat × Option (TInt64S × Tk) → Prop := fun p => (p.2 = none ∧ p.1 = xs.length) ∨ ∃ x τ0, p.2 = some (x, τ0) ∧ xs[p.1]? = some x ∧ τ0.ok 1 (x.map (D.int .i64))
    have enter : ∀ i, i ≤ xs.length → ∀ (B : World) (X : List Nat) (N : Nat) (M : MM) (a : Act) (w : World), Rep B X N M (E0 i) (H0 i) a w → ∃ p M', Rep B X N M' (E0 p.1) (mkH p) a w ∧ I p ∧ p.1 = i := fun i hi B X N M a w R => by
      rcases Nat.lt_or_ge i xs.length with hlt | hge
      · obtain ⟨x, hx⟩ := at_lt' (xs := xs) (k := i) hlt
        have he : ((fillG (mkG wgtInt64S mkEInt64S k xs) xs i).map TInt64S.D)[i]? = some x.D := by rw [List.getElem?_map, fillG_get hG hx]; rfl
        have hf := hfl i
        obtain ⟨g0, cap0, sz0, t0, n0, M0, p0, q0, R0⟩ := R.out (b := 2) (k := i) (p := []) (U := fun u => hoInt64S x u) (n1 := 1) (by decide) rfl he rfl (fun _ => rfl) (by intro y hy; obtain ⟨z, _, rfl⟩ := List.mem_map.1 hy; rfl)
        exact ⟨(i, some (x, ⟨g0, cap0, sz0, t0, n0⟩)), M0, R0, .inr ⟨x, _, rfl, hx, ⟨p0, q0⟩⟩, rfl⟩
      · exact ⟨(i, none), M, R, .inl ⟨rfl, by show i = _; omega⟩, rfl⟩
    (conv => whnf)
    refine LoopW.goX (fun p => E0 p.1) mkH I (fun p => xs.length - p.1) (fun B X N M a w R => ?_) (fun p hp E H hE hH => ?_)
    · obtain ⟨M1, R1⟩ := R.cov (e' := [(0, .own 2 0 (xs.map TInt64S.D).length), (1, .d (.int .i64 ((k + wSum wgtInt64S (xs.take 0) : Nat)))), (5, .d (.int .i64 (0 : Nat)))]) (h' := [.gone, .gho c s g sz t, .arr 1 ((fillG (mkG wgtInt64S mkEInt64S k xs) xs 0).map TInt64S.D) true]) ⟨rfl, rfl, rfl, trivial⟩ ⟨trivial, rfl, by rw [fillG_zero], trivial⟩ rfl
      obtain ⟨p, M2, R2, hI, _⟩ := enter 0 (by omega) _ _ _ _ _ _ R1
      exact ⟨p, M2, R2, hI⟩
    · rcases hp with ⟨hp, hl⟩ | ⟨x, τ0, hp, hx, hq0, hc0⟩
      · obtain ⟨i, q⟩ := p
        dsimp only at hp hl
        subst hp
        subst hl
        subst hE
        subst hH
        (conv => whnf)
        (refine br_ (fun h2 => ?_) (fun h2 => ?_))
        · exfalso; omega
        · (conv => whnf)
          refine ⟨?_, [], ?_⟩
          · show V.d (.int .i64 ((k + wSum wgtInt64S (xs.take xs.length) : Nat))) = _
            rw [List.take_length]
          · show [Blk.gone, Blk.gho c s g sz t, Blk.arr 1 ((fillG (mkG wgtInt64S mkEInt64S k xs) xs xs.length).map TInt64S.D) true] = _
            rw [fillG_all hG]
      · obtain ⟨i, q⟩ := p
        dsimp only at hp hx
        subst hp
        have hi : i < xs.length := (List.getElem?_eq_some_iff.1 hx).1
        have hle := wSum_le wgtInt64S xs (i + 1)
        rw [wSum_succ wgtInt64S xs i x hx] at hle
        have hwx : wgtInt64S x = 0 + 1 * x.length := rfl
        have hR0l : ((fillG (mkG wgtInt64S mkEInt64S k xs) xs i).map TInt64S.D).length = xs.length := hfl i
        generalize hK : k + wSum wgtInt64S (xs.take i) = K at *
        generalize hR0 : (fillG (mkG wgtInt64S mkEInt64S k xs) xs i).map TInt64S.D = RW at *
        have hE' : [(0, .own 2 0 (xs.map TInt64S.D).length), (1, .d (.int .i64 (K : Nat))), (5, .d (.int .i64 i))] = E := by rw [← hK]; exact hE
        have hH' : [.gone, .gho c s g sz t, .arr 1 ((RW).set i (hoInt64S x (.hole τ0.g (x.map (D.int .i64)).length τ0.cap))) true, .arr τ0.n (x.map (D.int .i64)) true, .pin 3 τ0.g τ0.sz τ0.t] = H := by rw [← hR0]; exact hH
        subst hE'
        subst hH'
        (conv => whnf)
        refine BIf.mk (fun h2 => ?_) (fun h2 => ?_) <;> (try simp only [decide_eq_true_eq, decide_eq_false_iff_not, Bool.not_eq_true', Bool.not_eq_false', bne_iff_ne, ne_eq, beq_iff_eq, bne_eq_false_iff_eq, beq_eq_false_iff_ne, Decidable.not_not, Nat.not_lt, Nat.not_le, Int.not_lt, Int.not_le, Bool.and_eq_true, Bool.and_eq_false_iff, Bool.or_eq_true, Bool.or_eq_false_iff] at h2)
        rotate_left
        · exfalso; simp only [hL] at h2; omega
        (conv => whnf)
        (try (refine ArW.i64e ((K : Nat) : Int) rfl (by omega) ?_; (conv => whnf)))
        refine IoW.at (by omega) (by omega) ?_
        (conv => whnf)
        refine EoW.at (List.getElem?_set_self (by (try simp only [List.length_set]); omega)) ?_
        (conv => whnf)
        refine ⟨⟨4, 3, _, _, _, _, _, rfl, rfl, hc0, ?_⟩⟩
        (conv => whnf)
        refine CallW.useK0 (mkInt64S_pk x (K) (by omega) (by omega)) hq0 (b := 3) rfl rfl rfl rfl rfl ?_
        (conv => whnf)
        refine ArW.i64e ((i + 1 : Nat) : Int) (by omega) (by omega) ?_
        (conv => whnf)
        refine ⟨fun B X N M a w R => ?_⟩
        obtain ⟨M0, R0⟩ := R.inn (b := 2) (c := 3) (j := 4) (k := i) (p := []) (U := fun u => hoInt64S (mkEInt64S K x) u) (by decide) (by decide) (by decide) rfl (List.getElem?_set_self (by (try simp only [List.length_set]); omega)) rfl (fun _ => rfl) rfl rfl (by simp only [List.length_map, mkLInt64_len]) hc0
        have hy : (mkG wgtInt64S mkEInt64S k xs)[i]? = some (mkEInt64S K x) := by rw [mkG_get _ _ _ _ _ _ hx, hK]
        obtain ⟨MZ, RZ⟩ := R0.cov (e' := E0 (i + 1)) (h' := H0 (i + 1)) (show cov _ [_, _, _] from ⟨rfl, congrArg (fun z : Nat => V.d (.int .i64 (z : Int))) (by rw [wSum_succ wgtInt64S xs i x hx, hwx]; omega), rfl, trivial⟩) (show covH _ [_, _, Blk.arr 1 _ true] from ⟨trivial, rfl, by
          have : ((fillG (mkG wgtInt64S mkEInt64S k xs) xs (i + 1)).map TInt64S.D) = RW.set i (mkEInt64S K x).D := by rw [← fillG_set hG hy, List.map_set, hR0]
          rw [this]
          simp only [Int.toNat_natCast, Nat.add_zero, List.set_set]
          rfl, trivial⟩) rfl
        obtain ⟨p, M3, R3, hI, hp⟩ := enter (i + 1) (by omega) _ _ _ _ _ _ RZ
        exact ⟨p, M3, R3, hI, by show xs.length - p.1 < xs.length - i; omega⟩
def wgtKern (x : TKern) : Nat := 1 + 1 * x.fLeft.length + 1 * x.fRight.length
def mkEKern (k : Nat) (x : TKern) : TKern := ⟨mkLInt64 (k) x.fLeft, mkLInt64 (k + 1 * x.fLeft.length) x.fRight, ((k + 1 * x.fLeft.length + 1 * x.fRight.length : Nat) : Int)⟩
theorem wgtKern_le (x : TKern) : wgtKern x ≤ 8 * zKern x + 8 := by simp only [wgtKern, zKern, zL] at *; omega
def hoKern (x : TKern) (u0 u1 : D) : D := .st [u0, u1, .int .i64 x.fValue]
set_option maxHeartbeats 4000000 in
theorem mkKernS_pk (xs : List TKern) (k : Nat) (hb : k + wSum wgtKern xs ≤ 4611686018427387904) (h1 : 1 ≤ k) : PK Tryz.prog 65 3 (xs.map TKern.D) [.d (.int .i64 (k : Nat))] (.d (.int .i64 ((k + wSum wgtKern xs : Nat)))) ((mkG wgtKern mkEKern k xs).map TKern.D) := by
  have hL : (xs.map TKern.D).length = xs.length := List.length_map _
  have hG : (mkG wgtKern mkEKern k xs).length = xs.length := mkG_len _ _ _ _
  refine pk_intro ttOk (by kernel_rfl) Tryz.func65 rfl (by kernel_rfl) (by kernel_rfl) (by kernel_rfl) (by simp [hG]) rfl rfl (fun hx => ?_) (fun c s g sz t hw hm => ?_)
  · have hx : xs = [] := List.map_eq_nil_iff.1 hx
    subst hx
    refine pc_intro ttOk (by kernel_rfl) Tryz.func65 rfl (by kernel_rfl) (by kernel_rfl) (by kernel_rfl) (fun hw => ?_)
    (conv => whnf)
    refine LoopW.go (α := Nat) (fun i => [(0, .d (.lst [])), (1, .d (.int .i64 (k : Nat))), (5, .d (.int .i64 (0 : Nat)))]) (fun _ => [.gone]) (fun _ => True) (fun i => i) 0 covT_ trivial (fun i _ => ?_)
    (conv => whnf)
    (repeat' (first | (refine stg_ ?_) | fail | (refine br_ (fun hbr => ?_) (fun hbr => ?_))))
    all_goals first | (exfalso; simp_all; done) | ((refine RetOK.d rfl rfl ?_; conv => whnf); simp [wSum])
  · have hfl : ∀ i, ((fillG (mkG wgtKern mkEKern k xs) xs i).map TKern.D).length = xs.length := fun i => by rw [List.length_map, fillG_len hG]
    have hm' : xs.length ≤ 9223372036854775807 := by rw [hL] at hm; exact hm
    let E0 : Nat → Env := fun i => [(0, .own 2 0 (xs.map TKern.D).length), (1, .d (.int .i64 ((k + wSum wgtKern (xs.take i) : Nat)))), (5, .d (.int .i64 i))]
    let H0 : Nat → List Blk := fun i => [.gone, .gho c s g sz t, .arr 3 ((fillG (mkG wgtKern mkEKern k xs) xs i).map TKern.D) true]
    let mkH : Nat × Option (TKern × Tk × Tk) → List Blk := fun p => match p with
      | (i, none) => H0 i
      | (i, some (x, τ0, τ1)) => [.gone, .gho c s g sz t, .arr 3 ((((fillG (mkG wgtKern mkEKern k xs) xs i).map TKern.D).set i (hoKern x (.hole τ0.g (x.fLeft.map (D.int .i64)).length τ0.cap) (.lst (x.fRight.map (D.int .i64))))).set i (hoKern x (.hole τ0.g (x.fLeft.map (D.int .i64)).length τ0.cap) (.hole τ1.g (x.fRight.map (D.int .i64)).length τ1.cap))) true, .arr τ0.n (x.fLeft.map (D.int .i64)) true, .pin 3 τ0.g τ0.sz τ0.t, .arr τ1.n (x.fRight.map (D.int .i64)) true, .pin 5 τ1.g τ1.sz τ1.t]
    let I : Nat × Option (TKern × Tk × Tk) → Prop := fun p => (p.2 = none ∧ p.1 = xs.length) ∨ ∃ x τ0 τ1, p.2 = some (x, τ0, τ1) ∧ xs[p.1]? = some x ∧ τ0.ok 1 (x.fLeft.map (D.int .i64)) ∧ τ1.ok 1 (x.fRight.map (D.int .i64))
    have enter : ∀ i, i ≤ xs.length → ∀ (B : World) (X : List Nat) (N : Nat) (M : MM) (a : Act) (w : World), Rep B X N M (E0 i) (H0 i) a w → ∃ p M', Rep B X N M' (E0 p.1) (mkH p) a w ∧ I p ∧ p.1 = i := fun i hi B X N M a w R => by
      rcases Nat.lt_or_ge i xs.length with hlt | hge
      · obtain ⟨x, hx⟩ := at_lt' (xs := xs) (k := i) hlt
        have he : ((fillG (mkG wgtKern mkEKern k xs) xs i).map TKern.D)[i]? = some x.D := by rw [List.getElem?_map, fillG_get hG hx]; rfl
        have hf := hfl i
        obtain ⟨g0, cap0, sz0, t0, n0, M0, p0, q0, R0⟩ := R.out (b := 2) (k := i) (p := [0]) (U := fun u => hoKern x u (.lst (x.fRight.map (D.int .i64)))) (n1 := 1) (by decide) rfl he rfl (fun _ => rfl) (by intro y hy; obtain ⟨z, _, rfl⟩ := List.mem_map.1 hy; rfl)
        obtain ⟨g1, cap1, sz1, t1, n1, M1, p1, q1, R1⟩ := R0.out (b := 2) (k := i) (p := [1]) (U := fun u => hoKern x (.hole g0 (x.fLeft.map (D.int .i64)).length cap0) u) (n1 := 1) (by decide) rfl (List.getElem?_set_self (by (try simp only [List.length_set]); omega)) rfl (fun _ => rfl) (by intro y hy; obtain ⟨z, _, rfl⟩ := List.mem_map.1 hy; rfl)
        exact ⟨(i, some (x, ⟨g0, cap0, sz0, t0, n0⟩, ⟨g1, cap1, sz1, t1, n1⟩)), M1, R1, .inr ⟨x, _, _, rfl, hx, ⟨p0, q0⟩, ⟨p1, q1⟩⟩, rfl⟩
      · exact ⟨(i, none), M, R, .inl ⟨rfl, by show i = _; omega⟩, rfl⟩
    (conv => whnf)
    refine LoopW.goX (fun p => E0 p.1) mkH I (fun p => xs.length - p.1) (fun B X N M a w R => ?_) (fun p hp E H hE hH => ?_)
    · obtain ⟨M1, R1⟩ := R.cov (e' := [(0, .own 2 0 (xs.map TKern.D).length), (1, .d (.int .i64 ((k + wSum wgtKern (xs.take 0) : Nat)))), (5, .d (.int .i64 (0 : Nat)))]) (h' := [.gone, .gho c s g sz t, .arr 3 ((fillG (mkG wgtKern mkEKern k xs) xs 0).map TKern.D) true]) ⟨rfl, rfl, rfl, trivial⟩ ⟨trivial, rfl, by rw [fillG_zero], trivial⟩ rfl
      obtain ⟨p, M2, R2, hI, _⟩ := enter 0 (by omega) _ _ _ _ _ _ R1
      exact ⟨p, M2, R2, hI⟩
    · rcases hp with ⟨hp, hl⟩ | ⟨x, τ0, τ1, hp, hx, ⟨hq0, hc0⟩, ⟨hq1, hc1⟩⟩
      · obtain ⟨i, q⟩ := p
        dsimp only at hp hl
        subst hp
        subst hl
        subst hE
        subst hH
        (conv => whnf)
        (refine br_ (fun h2 => ?_) (fun h2 => ?_))
        · exfalso; omega
        · (conv => whnf)
          refine ⟨?_, [], ?_⟩
          · show V.d (.int .i64 ((k + wSum wgtKern (xs.take xs.length) : Nat))) = _
            rw [List.take_length]
          · show [Blk.gone, Blk.gho c s g sz t, Blk.arr 3 ((fillG (mkG wgtKern mkEKern k xs) xs xs.length).map TKern.D) true] = _
            rw [fillG_all hG]
      · obtain ⟨i, q⟩ := p
        dsimp only at hp hx
        subst hp
        have hi : i < xs.length := (List.getElem?_eq_some_iff.1 hx).1
        have hle := wSum_le wgtKern xs (i + 1)
        rw [wSum_succ wgtKern xs i x hx] at hle
        have hwx : wgtKern x = 1 + 1 * x.fLeft.length + 1 * x.fRight.length := rfl
        have hR0l : ((fillG (mkG wgtKern mkEKern k xs) xs i).map TKern.D).length = xs.length := hfl i
        generalize hK : k + wSum wgtKern (xs.take i) = K at *
        generalize hR0 : (fillG (mkG wgtKern mkEKern k xs) xs i).map TKern.D = RW at *
        have hE' : [(0, .own 2 0 (xs.map TKern.D).length), (1, .d (.int .i64 (K : Nat))), (5, .d (.int .i64 i))] = E := by rw [← hK]; exact hE
        have hH' : [.gone, .gho c s g sz t, .arr 3 (((RW).set i (hoKern x (.hole τ0.g (x.fLeft.map (D.int .i64)).length τ0.cap) (.lst (x.fRight.map (D.int .i64))))).set i (hoKern x (.hole τ0.g (x.fLeft.map (D.int .i64)).length τ0.cap) (.hole τ1.g (x.fRight.map (D.int .i64)).length τ1.cap))) true, .arr τ0.n (x.fLeft.map (D.int .i64)) true, .pin 3 τ0.g τ0.sz τ0.t, .arr τ1.n (x.fRight.map (D.int .i64)) true, .pin 5 τ1.g τ1.sz τ1.t] = H := by rw [← hR0]; exact hH
        subst hE'
        subst hH'
        (conv => whnf)
        refine BIf.mk (fun h2 => ?_) (fun h2 => ?_) <;> (try simp only [decide_eq_true_eq, decide_eq_false_iff_not, Bool.not_eq_true', Bool.not_eq_false', bne_iff_ne, ne_eq, beq_iff_eq, bne_eq_false_iff_eq, beq_eq_false_iff_ne, Decidable.not_not, Nat.not_lt, Nat.not_le, Int.not_lt, Int.not_le, Bool.and_eq_true, Bool.and_eq_false_iff, Bool.or_eq_true, Bool.or_eq_false_iff] at h2)
        rotate_left
        · exfalso; simp only [hL] at h2; omega
        (conv => whnf)
        (try (refine ArW.i64e ((K : Nat) : Int) rfl (by omega) ?_; (conv => whnf)))
        refine IoW.at (by omega) (by omega) ?_
        (conv => whnf)
        refine EoW.at (List.getElem?_set_self (by (try simp only [List.length_set]); omega)) ?_
        (conv => whnf)
        refine ⟨⟨4, 3, _, _, _, _, _, rfl, rfl, hc0, ?_⟩⟩
        (conv => whnf)
        refine CallW.useK0 (mkInt64S_pk x.fLeft (K) (by omega) (by omega)) hq0 (b := 3) rfl rfl rfl rfl rfl ?_
        (conv => whnf)
        (try (refine ArW.i64e ((K + 1 * x.fLeft.length : Nat) : Int) rfl (by omega) ?_; (conv => whnf)))
        refine IoW.at (by omega) (by omega) ?_
        (conv => whnf)
        refine EoW.at (List.getElem?_set_self (by (try simp only [List.length_set]); omega)) ?_
        (conv => whnf)
        refine ⟨⟨6, 5, _, _, _, _, _, rfl, rfl, hc1, ?_⟩⟩
        (conv => whnf)
        refine CallW.useK0 (mkInt64S_pk x.fRight (K + 1 * x.fLeft.length) (by omega) (by omega)) hq1 (b := 5) rfl rfl rfl rfl rfl ?_
        (conv => whnf)
        (try (refine ArW.i64e ((K + 1 * x.fLeft.length + 1 * x.fRight.length : Nat) : Int) rfl (by omega) ?_; (conv => whnf)))
        refine IoW.at (by omega) (by omega) ?_
        (conv => whnf)
        (try (refine ArW.i64e ((K + 1 * x.fLeft.length + 1 * x.fRight.length : Nat) : Int) rfl (by omega) ?_; (conv => whnf)))
        refine EoW.at (List.getElem?_set_self (by (try simp only [List.length_set]); omega)) ?_
        (conv => whnf)
        refine ArW.i64e ((K + 1 + 1 * x.fLeft.length + 1 * x.fRight.length : Nat) : Int) (by omega) (by omega) ?_
        (conv => whnf)
        refine ArW.i64e ((i + 1 : Nat) : Int) (by omega) (by omega) ?_
        (conv => whnf)
        refine ⟨fun B X N M a w R => ?_⟩
        obtain ⟨M0, R0⟩ := R.inn (b := 2) (c := 3) (j := 4) (k := i) (p := [0]) (U := fun u => hoKern (mkEKern K x) u (.hole τ1.g (x.fRight.map (D.int .i64)).length τ1.cap)) (by decide) (by decide) (by decide) rfl (List.getElem?_set_self (by (try simp only [List.length_set]); omega)) rfl (fun _ => rfl) rfl rfl (by simp only [List.length_map, mkLInt64_len]) hc0
        obtain ⟨M1, R1⟩ := R0.inn (b := 2) (c := 5) (j := 6) (k := i) (p := [1]) (U := fun u => hoKern (mkEKern K x) (.lst ((mkLInt64 (K) x.fLeft).map (D.int .i64))) u) (by decide) (by decide) (by decide) rfl (List.getElem?_set_self (by (try simp only [List.length_set]); omega)) rfl (fun _ => rfl) rfl rfl (by simp only [List.length_map, mkLInt64_len]) hc1
        have hy : (mkG wgtKern mkEKern k xs)[i]? = some (mkEKern K x) := by rw [mkG_get _ _ _ _ _ _ hx, hK]
        obtain ⟨MZ, RZ⟩ := R1.cov (e' := E0 (i + 1)) (h' := H0 (i + 1)) (show cov _ [_, _, _] from ⟨rfl, congrArg (fun z : Nat => V.d (.int .i64 (z : Int))) (by rw [wSum_succ wgtKern xs i x hx, hwx]; omega), rfl, trivial⟩) (show covH _ [_, _, Blk.arr 3 _ true] from ⟨trivial, rfl, by
          have : ((fillG (mkG wgtKern mkEKern k xs) xs (i + 1)).map TKern.D) = RW.set i (mkEKern K x).D := by rw [← fillG_set hG hy, List.map_set, hR0]
          rw [this]
          simp only [Int.toNat_natCast, Nat.add_zero, List.set_set]
          rfl, trivial⟩) rfl
        obtain ⟨p, M3, R3, hI, hp⟩ := enter (i + 1) (by omega) _ _ _ _ _ _ RZ
        exact ⟨p, M3, R3, hI, by show xs.length - p.1 < xs.length - i; omega⟩
def wgtMarkRule (x : TMarkRule) : Nat := 1 + 1 * x.fMarks.length + 1 * x.fBases.length
def mkEMarkRule (k : Nat) (x : TMarkRule) : TMarkRule := ⟨mkLInt64 (k) x.fMarks, mkLInt64 (k + 1 * x.fMarks.length) x.fBases, mkT (k + 1 * x.fMarks.length + 1 * x.fBases.length)⟩
theorem wgtMarkRule_le (x : TMarkRule) : wgtMarkRule x ≤ 8 * zMarkRule x + 8 := by simp only [wgtMarkRule, zMarkRule, zL] at *; omega
def hoMarkRule (x : TMarkRule) (u0 u1 : D) : D := .st [u0, u1, .str x.fAnchor]
set_option maxHeartbeats 4000000 in
theorem mkMarkRuleS_pk (xs : List TMarkRule) (k : Nat) (hb : k + wSum wgtMarkRule xs ≤ 4611686018427387904) (h1 : 1 ≤ k) : PK Tryz.prog 66 3 (xs.map TMarkRule.D) [.d (.int .i64 (k : Nat))] (.d (.int .i64 ((k + wSum wgtMarkRule xs : Nat)))) ((mkG wgtMarkRule mkEMarkRule k xs).map TMarkRule.D) := by
  have hL : (xs.map TMarkRule.D).length = xs.length := List.length_map _
  have hG : (mkG wgtMarkRule mkEMarkRule k xs).length = xs.length := mkG_len _ _ _ _
  refine pk_intro ttOk (by kernel_rfl) Tryz.func66 rfl (by kernel_rfl) (by kernel_rfl) (by kernel_rfl) (by simp [hG]) rfl rfl (fun hx => ?_) (fun c s g sz t hw hm => ?_)
  · have hx : xs = [] := List.map_eq_nil_iff.1 hx
    subst hx
    refine pc_intro ttOk (by kernel_rfl) Tryz.func66 rfl (by kernel_rfl) (by kernel_rfl) (by kernel_rfl) (fun hw => ?_)
    (conv => whnf)
    refine LoopW.go (α := Nat) (fun i => [(0, .d (.lst [])), (1, .d (.int .i64 (k : Nat))), (5, .d (.int .i64 (0 : Nat)))]) (fun _ => [.gone]) (fun _ => True) (fun i => i) 0 covT_ trivial (fun i _ => ?_)
    (conv => whnf)
    (repeat' (first | (refine stg_ ?_) | fail | (refine br_ (fun hbr => ?_) (fun hbr => ?_))))
    all_goals first | (exfalso; simp_all; done) | ((refine RetOK.d rfl rfl ?_; conv => whnf); simp [wSum])
  · have hfl : ∀ i, ((fillG (mkG wgtMarkRule mkEMarkRule k xs) xs i).map TMarkRule.D).length = xs.length := fun i => by rw [List.length_map, fillG_len hG]
    have hm' : xs.length ≤ 9223372036854775807 := by rw [hL] at hm; exact hm
    let E0 : Nat → Env := fun i => [(0, .own 2 0 (xs.map TMarkRule.D).length), (1, .d (.int .i64 ((k + wSum wgtMarkRule (xs.take i) : Nat)))), (5, .d (.int .i64 i))]
    let H0 : Nat → List Blk := fun i => [.gone, .gho c s g sz t, .arr 3 ((fillG (mkG wgtMarkRule mkEMarkRule k xs) xs i).map TMarkRule.D) true]
    let mkH : Nat × Option (TMarkRule × Tk × Tk) → List Blk := fun p => match p with
      | (i, none) => H0 i
      | (i, some (x, τ0, τ1)) => [.gone, .gho c s g sz t, .arr 3 ((((fillG (mkG wgtMarkRule mkEMarkRule k xs) xs i).map TMarkRule.D).set i (hoMarkRule x (.hole τ0.g (x.fMarks.map (D.int .i64)).length τ0.cap) (.lst (x.fBases.map (D.int .i64))))).set i (hoMarkRule x (.hole τ0.g (x.fMarks.map (D.int .i64)).length τ0.cap) (.hole τ1.g (x.fBases.map (D.int .i64)).length τ1.cap))) true, .arr τ0.n (x.fMarks.map (D.int .i64)) true, .pin 3 τ0.g τ0.sz τ0.t, .arr τ1.n (x.fBases.map (D.int .i64)) true, .pin 5 τ1.g τ1.sz τ1.t]
    let I : Nat × Option (TMarkRule × Tk × Tk) → Prop := fun p => (p.2 = none ∧ p.1 = xs.length) ∨ ∃ x τ0 τ1, p.2 = some (x, τ0, τ1) ∧ xs[p.1]? = some x ∧ τ0.ok 1 (x.fMarks.map (D.int .i64)) ∧ τ1.ok 1 (x.fBases.map (D.int .i64))
    have enter : ∀ i, i ≤ xs.length → ∀ (B : World) (X : List Nat) (N : Nat) (M : MM) (a : Act) (w : World), Rep B X N M (E0 i) (H0 i) a w → ∃ p M', Rep B X N M' (E0 p.1) (mkH p) a w ∧ I p ∧ p.1 = i := fun i hi B X N M a w R => by
      rcases Nat.lt_or_ge i xs.length with hlt | hge
      · obtain ⟨x, hx⟩ := at_lt' (xs := xs) (k := i) hlt
        have he : ((fillG (mkG wgtMarkRule mkEMarkRule k xs) xs i).map TMarkRule.D)[i]? = some x.D := by rw [List.getElem?_map, fillG_get hG hx]; rfl
        have hf := hfl i
        obtain ⟨g0, cap0, sz0, t0, n0, M0, p0, q0, R0⟩ := R.out (b := 2) (k := i) (p := [0]) (U := fun u => hoMarkRule x u (.lst (x.fBases.map (D.int .i64)))) (n1 := 1) (by decide) rfl he rfl (fun _ => rfl) (by intro y hy; obtain ⟨z, _, rfl⟩ := List.mem_map.1 hy; rfl)
        obtain ⟨g1, cap1, sz1, t1, n1, M1, p1, q1, R1⟩ := R0.out (b := 2) (k := i) (p := [1]) (U := fun u => hoMarkRule x (.hole g0 (x.fMarks.map (D.int .i64)).length cap0) u) (n1 := 1) (by decide) rfl (List.getElem?_set_self (by (try simp only [List.length_set]); omega)) rfl (fun _ => rfl) (by intro y hy; obtain ⟨z, _, rfl⟩ := List.mem_map.1 hy; rfl)
        exact ⟨(i, some (x, ⟨g0, cap0, sz0, t0, n0⟩, ⟨g1, cap1, sz1, t1, n1⟩)), M1, R1, .inr ⟨x, _, _, rfl, hx, ⟨p0, q0⟩, ⟨p1, q1⟩⟩, rfl⟩
      · exact ⟨(i, none), M, R, .inl ⟨rfl, by show i = _; omega⟩, rfl⟩
    (conv => whnf)
    refine LoopW.goX (fun p => E0 p.1) mkH I (fun p => xs.length - p.1) (fun B X N M a w R => ?_) (fun p hp E H hE hH => ?_)
    · obtain ⟨M1, R1⟩ := R.cov (e' := [(0, .own 2 0 (xs.map TMarkRule.D).length), (1, .d (.int .i64 ((k + wSum wgtMarkRule (xs.take 0) : Nat)))), (5, .d (.int .i64 (0 : Nat)))]) (h' := [.gone, .gho c s g sz t, .arr 3 ((fillG (mkG wgtMarkRule mkEMarkRule k xs) xs 0).map TMarkRule.D) true]) ⟨rfl, rfl, rfl, trivial⟩ ⟨trivial, rfl, by rw [fillG_zero], trivial⟩ rfl
      obtain ⟨p, M2, R2, hI, _⟩ := enter 0 (by omega) _ _ _ _ _ _ R1
      exact ⟨p, M2, R2, hI⟩
    · rcases hp with ⟨hp, hl⟩ | ⟨x, τ0, τ1, hp, hx, ⟨hq0, hc0⟩, ⟨hq1, hc1⟩⟩
      · obtain ⟨i, q⟩ := p
        dsimp only at hp hl
        subst hp
        subst hl
        subst hE
        subst hH
        (conv => whnf)
        (refine br_ (fun h2 => ?_) (fun h2 => ?_))
        · exfalso; omega
        · (conv => whnf)
          refine ⟨?_, [], ?_⟩
          · show V.d (.int .i64 ((k + wSum wgtMarkRule (xs.take xs.length) : Nat))) = _
            rw [List.take_length]
          · show [Blk.gone, Blk.gho c s g sz t, Blk.arr 3 ((fillG (mkG wgtMarkRule mkEMarkRule k xs) xs xs.length).map TMarkRule.D) true] = _
            rw [fillG_all hG]
      · obtain ⟨i, q⟩ := p
        dsimp only at hp hx
        subst hp
        have hi : i < xs.length := (List.getElem?_eq_some_iff.1 hx).1
        have hle := wSum_le wgtMarkRule xs (i + 1)
        rw [wSum_succ wgtMarkRule xs i x hx] at hle
        have hwx : wgtMarkRule x = 1 + 1 * x.fMarks.length + 1 * x.fBases.length := rfl
        have hR0l : ((fillG (mkG wgtMarkRule mkEMarkRule k xs) xs i).map TMarkRule.D).length = xs.length := hfl i
        generalize hK : k + wSum wgtMarkRule (xs.take i) = K at *
        generalize hR0 : (fillG (mkG wgtMarkRule mkEMarkRule k xs) xs i).map TMarkRule.D = RW at *
        have hE' : [(0, .own 2 0 (xs.map TMarkRule.D).length), (1, .d (.int .i64 (K : Nat))), (5, .d (.int .i64 i))] = E := by rw [← hK]; exact hE
        have hH' : [.gone, .gho c s g sz t, .arr 3 (((RW).set i (hoMarkRule x (.hole τ0.g (x.fMarks.map (D.int .i64)).length τ0.cap) (.lst (x.fBases.map (D.int .i64))))).set i (hoMarkRule x (.hole τ0.g (x.fMarks.map (D.int .i64)).length τ0.cap) (.hole τ1.g (x.fBases.map (D.int .i64)).length τ1.cap))) true, .arr τ0.n (x.fMarks.map (D.int .i64)) true, .pin 3 τ0.g τ0.sz τ0.t, .arr τ1.n (x.fBases.map (D.int .i64)) true, .pin 5 τ1.g τ1.sz τ1.t] = H := by rw [← hR0]; exact hH
        subst hE'
        subst hH'
        (conv => whnf)
        refine BIf.mk (fun h2 => ?_) (fun h2 => ?_) <;> (try simp only [decide_eq_true_eq, decide_eq_false_iff_not, Bool.not_eq_true', Bool.not_eq_false', bne_iff_ne, ne_eq, beq_iff_eq, bne_eq_false_iff_eq, beq_eq_false_iff_ne, Decidable.not_not, Nat.not_lt, Nat.not_le, Int.not_lt, Int.not_le, Bool.and_eq_true, Bool.and_eq_false_iff, Bool.or_eq_true, Bool.or_eq_false_iff] at h2)
        rotate_left
        · exfalso; simp only [hL] at h2; omega
        (conv => whnf)
        (try (refine ArW.i64e ((K : Nat) : Int) rfl (by omega) ?_; (conv => whnf)))
        refine IoW.at (by omega) (by omega) ?_
        (conv => whnf)
        refine EoW.at (List.getElem?_set_self (by (try simp only [List.length_set]); omega)) ?_
        (conv => whnf)
        refine ⟨⟨4, 3, _, _, _, _, _, rfl, rfl, hc0, ?_⟩⟩
        (conv => whnf)
        refine CallW.useK0 (mkInt64S_pk x.fMarks (K) (by omega) (by omega)) hq0 (b := 3) rfl rfl rfl rfl rfl ?_
        (conv => whnf)
        (try (refine ArW.i64e ((K + 1 * x.fMarks.length : Nat) : Int) rfl (by omega) ?_; (conv => whnf)))
        refine IoW.at (by omega) (by omega) ?_
        (conv => whnf)
        refine EoW.at (List.getElem?_set_self (by (try simp only [List.length_set]); omega)) ?_
        (conv => whnf)
        refine ⟨⟨6, 5, _, _, _, _, _, rfl, rfl, hc1, ?_⟩⟩
        (conv => whnf)
        refine CallW.useK0 (mkInt64S_pk x.fBases (K + 1 * x.fMarks.length) (by omega) (by omega)) hq1 (b := 5) rfl rfl rfl rfl rfl ?_
        (conv => whnf)
        (try (refine ArW.i64e ((K + 1 * x.fMarks.length + 1 * x.fBases.length : Nat) : Int) rfl (by omega) ?_; (conv => whnf)))
        (refine cl_ (mkT_v (K + 1 * x.fMarks.length + 1 * x.fBases.length) (by omega) (by omega)) ?_)
        refine IoW.at (by omega) (by omega) ?_
        (conv => whnf)
        (try (refine ArW.i64e ((K + 1 * x.fMarks.length + 1 * x.fBases.length : Nat) : Int) rfl (by omega) ?_; (conv => whnf)))
        refine EoW.at (List.getElem?_set_self (by (try simp only [List.length_set]); omega)) ?_
        (conv => whnf)
        refine ArW.i64e ((K + 1 + 1 * x.fMarks.length + 1 * x.fBases.length : Nat) : Int) (by omega) (by omega) ?_
        (conv => whnf)
        refine ArW.i64e ((i + 1 : Nat) : Int) (by omega) (by omega) ?_
        (conv => whnf)
        refine ⟨fun B X N M a w R => ?_⟩
        obtain ⟨M0, R0⟩ := R.inn (b := 2) (c := 3) (j := 4) (k := i) (p := [0]) (U := fun u => hoMarkRule (mkEMarkRule K x) u (.hole τ1.g (x.fBases.map (D.int .i64)).length τ1.cap)) (by decide) (by decide) (by decide) rfl (List.getElem?_set_self (by (try simp only [List.length_set]); omega)) rfl (fun _ => rfl) rfl rfl (by simp only [List.length_map, mkLInt64_len]) hc0
        obtain ⟨M1, R1⟩ := R0.inn (b := 2) (c := 5) (j := 6) (k := i) (p := [1]) (U := fun u => hoMarkRule (mkEMarkRule K x) (.lst ((mkLInt64 (K) x.fMarks).map (D.int .i64))) u) (by decide) (by decide) (by decide) rfl (List.getElem?_set_self (by (try simp only [List.length_set]); omega)) rfl (fun _ => rfl) rfl rfl (by simp only [List.length_map, mkLInt64_len]) hc1
        have hy : (mkG wgtMarkRule mkEMarkRule k xs)[i]? = some (mkEMarkRule K x) := by rw [mkG_get _ _ _ _ _ _ hx, hK]
        obtain ⟨MZ, RZ⟩ := R1.cov (e' := E0 (i + 1)) (h' := H0 (i + 1)) (show cov _ [_, _, _] from ⟨rfl, congrArg (fun z : Nat => V.d (.int .i64 (z : Int))) (by rw [wSum_succ wgtMarkRule xs i x hx, hwx]; omega), rfl, trivial⟩) (show covH _ [_, _, Blk.arr 3 _ true] from ⟨trivial, rfl, by
          have : ((fillG (mkG wgtMarkRule mkEMarkRule k xs) xs (i + 1)).map TMarkRule.D) = RW.set i (mkEMarkRule K x).D := by rw [← fillG_set hG hy, List.map_set, hR0]
          rw [this]
          simp only [Int.toNat_natCast, Nat.add_zero, List.set_set]
          rfl, trivial⟩) rfl
        obtain ⟨p, M3, R3, hI, hp⟩ := enter (i + 1) (by omega) _ _ _ _ _ _ RZ
        exact ⟨p, M3, R3, hI, by show xs.length - p.1 < xs.length - i; omega⟩
def wgtRule (x : TRule) : Nat := 0 + wSum wgtInt64S x.fBefore + wSum wgtInt64S x.fInput + wSum wgtInt64S x.fAfter + 1 * x.fOutput.length
def mkERule (k : Nat) (x : TRule) : TRule := ⟨mkG wgtInt64S mkEInt64S (k) x.fBefore, mkG wgtInt64S mkEInt64S (k + wSum wgtInt64S x.fBefore) x.fInput, mkG wgtInt64S mkEInt64S (k + wSum wgtInt64S x.fBefore + wSum wgtInt64S x.fInput) x.fAfter, mkLInt64 (k + wSum wgtInt64S x.fBefore + wSum wgtInt64S x.fInput + wSum wgtInt64S x.fAfter) x.fOutput⟩
theorem wgtRule_le (x : TRule) : wgtRule x ≤ 8 * zRule x + 8 := by have h0 := wSum_z wgtInt64S wgtInt64S_le x.fBefore; have h1 := wSum_z wgtInt64S wgtInt64S_le x.fInput; have h2 := wSum_z wgtInt64S wgtInt64S_le x.fAfter; simp only [wgtRule, zRule, zL, zInt64S] at *; omega
def hoRule (x : TRule) (u0 u1 u2 u3 : D) : D := .st [u0, u1, u2, u3]
set_option maxHeartbeats 4000000 in
theorem mkRuleS_pk (xs : List TRule) (k : Nat) (hb : k + wSum wgtRule xs ≤ 4611686018427387904) (h1 : 1 ≤ k) : PK Tryz.prog 117 4 (xs.map TRule.D) [.d (.int .i64 (k : Nat))] (.d (.int .i64 ((k + wSum wgtRule xs : Nat)))) ((mkG wgtRule mkERule k xs).map TRule.D) := by
  have hL : (xs.map TRule.D).length = xs.length := List.length_map _
  have hG : (mkG wgtRule mkERule k xs).length = xs.length := mkG_len _ _ _ _
  refine pk_intro ttOk (by kernel_rfl) Tryz.func117 rfl (by kernel_rfl) (by kernel_rfl) (by kernel_rfl) (by simp [hG]) rfl rfl (fun hx => ?_) (fun c s g sz t hw hm => ?_)
  · have hx : xs = [] := List.map_eq_nil_iff.1 hx
    subst hx
    refine pc_intro ttOk (by kernel_rfl) Tryz.func117 rfl (by kernel_rfl) (by kernel_rfl) (by kernel_rfl) (fun hw => ?_)
    (conv => whnf)
    refine LoopW.go (α := Nat) (fun i => [(0, .d (.lst [])), (1, .d (.int .i64 (k : Nat))), (5, .d (.int .i64 (0 : Nat)))]) (fun _ => [.gone]) (fun _ => True) (fun i => i) 0 covT_ trivial (fun i _ => ?_)
    (conv => whnf)
    (repeat' (first | (refine stg_ ?_) | fail | (refine br_ (fun hbr => ?_) (fun hbr => ?_))))
    all_goals first | (exfalso; simp_all; done) | ((refine RetOK.d rfl rfl ?_; conv => whnf); simp [wSum])
  · have hfl : ∀ i, ((fillG (mkG wgtRule mkERule k xs) xs i).map TRule.D).length = xs.length := fun i => by rw [List.length_map, fillG_len hG]
    have hm' : xs.length ≤ 9223372036854775807 := by rw [hL] at hm; exact hm
    let E0 : Nat → Env := fun i => [(0, .own 2 0 (xs.map TRule.D).length), (1, .d (.int .i64 ((k + wSum wgtRule (xs.take i) : Nat)))), (5, .d (.int .i64 i))]
    let H0 : Nat → List Blk := fun i => [.gone, .gho c s g sz t, .arr 4 ((fillG (mkG wgtRule mkERule k xs) xs i).map TRule.D) true]
    let mkH : Nat × Option (TRule × Tk × Tk × Tk × Tk) → List Blk := fun p => match p with
      | (i, none) => H0 i
      | (i, some (x, τ0, τ1, τ2, τ3)) => [.gone, .gho c s g sz t, .arr 4 ((((((fillG (mkG wgtRule mkERule k xs) xs i).map TRule.D).set i (hoRule x (.hole τ0.g (x.fBefore.map TInt64S.D).length τ0.cap) (.lst (x.fInput.map TInt64S.D)) (.lst (x.fAfter.map TInt64S.D)) (.lst (x.fOutput.map (D.int .i64))))).set i (hoRule x (.hole τ0.g (x.fBefore.map TInt64S.D).length τ0.cap) (.hole τ1.g (x.fInput.map TInt64S.D).length τ1.cap) (.lst (x.fAfter.map TInt64S.D)) (.lst (x.fOutput.map (D.int .i64))))).set i (hoRule x (.hole τ0.g (x.fBefore.map TInt64S.D).length τ0.cap) (.hole τ1.g (x.fInput.map TInt64S.D).length τ1.cap) (.hole τ2.g (x.fAfter.map TInt64S.D).length τ2.cap) (.lst (x.fOutput.map (D.int .i64))))).set i (hoRule x (.hole τ0.g (x.fBefore.map TInt64S.D).length τ0.cap) (.hole τ1.g (x.fInput.map TInt64S.D).length τ1.cap) (.hole τ2.g (x.fAfter.map TInt64S.D).length τ2.cap) (.hole τ3.g (x.fOutput.map (D.int .i64)).length τ3.cap))) true, .arr τ0.n (x.fBefore.map TInt64S.D) true, .pin 3 τ0.g τ0.sz τ0.t, .arr τ1.n (x.fInput.map TInt64S.D) true, .pin 5 τ1.g τ1.sz τ1.t, .arr τ2.n (x.fAfter.map TInt64S.D) true, .pin 7 τ2.g τ2.sz τ2.t, .arr τ3.n (x.fOutput.map (D.int .i64)) true, .pin 9 τ3.g τ3.sz τ3.t]
    let I : Nat × Option (TRule × Tk × Tk × Tk × Tk) → Prop := fun p => (p.2 = none ∧ p.1 = xs.length) ∨ ∃ x τ0 τ1 τ2 τ3, p.2 = some (x, τ0, τ1, τ2, τ3) ∧ xs[p.1]? = some x ∧ τ0.ok 1 (x.fBefore.map TInt64S.D) ∧ τ1.ok 1 (x.fInput.map TInt64S.D) ∧ τ2.ok 1 (x.fAfter.map TInt64S.D) ∧ τ3.ok 1 (x.fOutput.map (D.int .i64))
    have enter : ∀ i, i ≤ xs.length → ∀ (B : World) (X : List Nat) (N : Nat) (M : MM) (a : Act) (w : World), Rep B X N M (E0 i) (H0 i) a w → ∃ p M', Rep B X N M' (E0 p.1) (mkH p) a w ∧ I p ∧ p.1 = i := fun i hi B X N M a w R => by
      rcases Nat.lt_or_ge i xs.length with hlt | hge
      · obtain ⟨x, hx⟩ := at_lt' (xs := xs) (k := i) hlt
        have he : ((fillG (mkG wgtRule mkERule k xs) xs i).map TRule.D)[i]? = some x.D := by rw [List.getElem?_map, fillG_get hG hx]; rfl
        have hf := hfl i
        obtain ⟨g0, cap0, sz0, t0, n0, M0, p0, q0, R0⟩ := R.out (b := 2) (k := i) (p := [0]) (U := fun u => hoRule x u (.lst (x.fInput.map TInt64S.D)) (.lst (x.fAfter.map TInt64S.D)) (.lst (x.fOutput.map (D.int .i64)))) (n1 := 1) (by decide) rfl he rfl (fun _ => rfl) (by intro y hy; obtain ⟨z, _, rfl⟩ := List.mem_map.1 hy; rfl)
        obtain ⟨g1, cap1, sz1, t1, n1, M1, p1, q1, R1⟩ := R0.out (b := 2) (k := i) (p := [1]) (U := fun u => hoRule x (.hole g0 (x.fBefore.map TInt64S.D).length cap0) u (.lst (x.fAfter.map TInt64S.D)) (.lst (x.fOutput.map (D.int .i64)))) (n1 := 1) (by decide) rfl (List.getElem?_set_self (by (try simp only [List.length_set]); omega)) rfl (fun _ => rfl) (by intro y hy; obtain ⟨z, _, rfl⟩ := List.mem_map.1 hy; rfl)
        obtain ⟨g2, cap2, sz2, t2, n2, M2, p2, q2, R2⟩ := R1.out (b := 2) (k := i) (p := [2]) (U := fun u => hoRule x (.hole g0 (x.fBefore.map TInt64S.D).length cap0) (.hole g1 (x.fInput.map TInt64S.D).length cap1) u (.lst (x.fOutput.map (D.int .i64)))) (n1 := 1) (by decide) rfl (List.getElem?_set_self (by (try simp only [List.length_set]); omega)) rfl (fun _ => rfl) (by intro y hy; obtain ⟨z, _, rfl⟩ := List.mem_map.1 hy; rfl)
        obtain ⟨g3, cap3, sz3, t3, n3, M3, p3, q3, R3⟩ := R2.out (b := 2) (k := i) (p := [3]) (U := fun u => hoRule x (.hole g0 (x.fBefore.map TInt64S.D).length cap0) (.hole g1 (x.fInput.map TInt64S.D).length cap1) (.hole g2 (x.fAfter.map TInt64S.D).length cap2) u) (n1 := 1) (by decide) rfl (List.getElem?_set_self (by (try simp only [List.length_set]); omega)) rfl (fun _ => rfl) (by intro y hy; obtain ⟨z, _, rfl⟩ := List.mem_map.1 hy; rfl)
        exact ⟨(i, some (x, ⟨g0, cap0, sz0, t0, n0⟩, ⟨g1, cap1, sz1, t1, n1⟩, ⟨g2, cap2, sz2, t2, n2⟩, ⟨g3, cap3, sz3, t3, n3⟩)), M3, R3, .inr ⟨x, _, _, _, _, rfl, hx, ⟨p0, q0⟩, ⟨p1, q1⟩, ⟨p2, q2⟩, ⟨p3, q3⟩⟩, rfl⟩
      · exact ⟨(i, none), M, R, .inl ⟨rfl, by show i = _; omega⟩, rfl⟩
    (conv => whnf)
    refine LoopW.goX (fun p => E0 p.1) mkH I (fun p => xs.length - p.1) (fun B X N M a w R => ?_) (fun p hp E H hE hH => ?_)
    · obtain ⟨M1, R1⟩ := R.cov (e' := [(0, .own 2 0 (xs.map TRule.D).length), (1, .d (.int .i64 ((k + wSum wgtRule (xs.take 0) : Nat)))), (5, .d (.int .i64 (0 : Nat)))]) (h' := [.gone, .gho c s g sz t, .arr 4 ((fillG (mkG wgtRule mkERule k xs) xs 0).map TRule.D) true]) ⟨rfl, rfl, rfl, trivial⟩ ⟨trivial, rfl, by rw [fillG_zero], trivial⟩ rfl
      obtain ⟨p, M2, R2, hI, _⟩ := enter 0 (by omega) _ _ _ _ _ _ R1
      exact ⟨p, M2, R2, hI⟩
    · rcases hp with ⟨hp, hl⟩ | ⟨x, τ0, τ1, τ2, τ3, hp, hx, ⟨hq0, hc0⟩, ⟨hq1, hc1⟩, ⟨hq2, hc2⟩, ⟨hq3, hc3⟩⟩
      · obtain ⟨i, q⟩ := p
        dsimp only at hp hl
        subst hp
        subst hl
        subst hE
        subst hH
        (conv => whnf)
        (refine br_ (fun h2 => ?_) (fun h2 => ?_))
        · exfalso; omega
        · (conv => whnf)
          refine ⟨?_, [], ?_⟩
          · show V.d (.int .i64 ((k + wSum wgtRule (xs.take xs.length) : Nat))) = _
            rw [List.take_length]
          · show [Blk.gone, Blk.gho c s g sz t, Blk.arr 4 ((fillG (mkG wgtRule mkERule k xs) xs xs.length).map TRule.D) true] = _
            rw [fillG_all hG]
      · obtain ⟨i, q⟩ := p
        dsimp only at hp hx
        subst hp
        have hi : i < xs.length := (List.getElem?_eq_some_iff.1 hx).1
        have hle := wSum_le wgtRule xs (i + 1)
        rw [wSum_succ wgtRule xs i x hx] at hle
        have hwx : wgtRule x = 0 + wSum wgtInt64S x.fBefore + wSum wgtInt64S x.fInput + wSum wgtInt64S x.fAfter + 1 * x.fOutput.length := rfl
        have hR0l : ((fillG (mkG wgtRule mkERule k xs) xs i).map TRule.D).length = xs.length := hfl i
        generalize hK : k + wSum wgtRule (xs.take i) = K at *
        generalize hR0 : (fillG (mkG wgtRule mkERule k xs) xs i).map TRule.D = RW at *
        have hE' : [(0, .own 2 0 (xs.map TRule.D).length), (1, .d (.int .i64 (K : Nat))), (5, .d (.int .i64 i))] = E := by rw [← hK]; exact hE
        have hH' : [.gone, .gho c s g sz t, .arr 4 (((((RW).set i (hoRule x (.hole τ0.g (x.fBefore.map TInt64S.D).length τ0.cap) (.lst (x.fInput.map TInt64S.D)) (.lst (x.fAfter.map TInt64S.D)) (.lst (x.fOutput.map (D.int .i64))))).set i (hoRule x (.hole τ0.g (x.fBefore.map TInt64S.D).length τ0.cap) (.hole τ1.g (x.fInput.map TInt64S.D).length τ1.cap) (.lst (x.fAfter.map TInt64S.D)) (.lst (x.fOutput.map (D.int .i64))))).set i (hoRule x (.hole τ0.g (x.fBefore.map TInt64S.D).length τ0.cap) (.hole τ1.g (x.fInput.map TInt64S.D).length τ1.cap) (.hole τ2.g (x.fAfter.map TInt64S.D).length τ2.cap) (.lst (x.fOutput.map (D.int .i64))))).set i (hoRule x (.hole τ0.g (x.fBefore.map TInt64S.D).length τ0.cap) (.hole τ1.g (x.fInput.map TInt64S.D).length τ1.cap) (.hole τ2.g (x.fAfter.map TInt64S.D).length τ2.cap) (.hole τ3.g (x.fOutput.map (D.int .i64)).length τ3.cap))) true, .arr τ0.n (x.fBefore.map TInt64S.D) true, .pin 3 τ0.g τ0.sz τ0.t, .arr τ1.n (x.fInput.map TInt64S.D) true, .pin 5 τ1.g τ1.sz τ1.t, .arr τ2.n (x.fAfter.map TInt64S.D) true, .pin 7 τ2.g τ2.sz τ2.t, .arr τ3.n (x.fOutput.map (D.int .i64)) true, .pin 9 τ3.g τ3.sz τ3.t] = H := by rw [← hR0]; exact hH
        subst hE'
        subst hH'
        (conv => whnf)
        refine BIf.mk (fun h2 => ?_) (fun h2 => ?_) <;> (try simp only [decide_eq_true_eq, decide_eq_false_iff_not, Bool.not_eq_true', Bool.not_eq_false', bne_iff_ne, ne_eq, beq_iff_eq, bne_eq_false_iff_eq, beq_eq_false_iff_ne, Decidable.not_not, Nat.not_lt, Nat.not_le, Int.not_lt, Int.not_le, Bool.and_eq_true, Bool.and_eq_false_iff, Bool.or_eq_true, Bool.or_eq_false_iff] at h2)
        rotate_left
        · exfalso; simp only [hL] at h2; omega
        (conv => whnf)
        (try (refine ArW.i64e ((K : Nat) : Int) rfl (by omega) ?_; (conv => whnf)))
        refine IoW.at (by omega) (by omega) ?_
        (conv => whnf)
        refine EoW.at (List.getElem?_set_self (by (try simp only [List.length_set]); omega)) ?_
        (conv => whnf)
        refine ⟨⟨4, 3, _, _, _, _, _, rfl, rfl, hc0, ?_⟩⟩
        (conv => whnf)
        refine CallW.useK0 (mkInt64SS_pk x.fBefore (K) (by omega) (by omega)) hq0 (b := 3) rfl rfl rfl rfl rfl ?_
        (conv => whnf)
        (try (refine ArW.i64e ((K + wSum wgtInt64S x.fBefore : Nat) : Int) rfl (by omega) ?_; (conv => whnf)))
        refine IoW.at (by omega) (by omega) ?_
        (conv => whnf)
        refine EoW.at (List.getElem?_set_self (by (try simp only [List.length_set]); omega)) ?_
        (conv => whnf)
        refine ⟨⟨6, 5, _, _, _, _, _, rfl, rfl, hc1, ?_⟩⟩
        (conv => whnf)
        refine CallW.useK0 (mkInt64SS_pk x.fInput (K + wSum wgtInt64S x.fBefore) (by omega) (by omega)) hq1 (b := 5) rfl rfl rfl rfl rfl ?_
        (conv => whnf)
        (try (refine ArW.i64e ((K + wSum wgtInt64S x.fBefore + wSum wgtInt64S x.fInput : Nat) : Int) rfl (by omega) ?_; (conv => whnf)))
        refine IoW.at (by omega) (by omega) ?_
        (conv => whnf)
        refine EoW.at (List.getElem?_set_self (by (try simp only [List.length_set]); omega)) ?_
        (conv => whnf)
        refine ⟨⟨8, 7, _, _, _, _, _, rfl, rfl, hc2, ?_⟩⟩
        (conv => whnf)
        refine CallW.useK0 (mkInt64SS_pk x.fAfter (K + wSum wgtInt64S x.fBefore + wSum wgtInt64S x.fInput) (by omega) (by omega)) hq2 (b := 7) rfl rfl rfl rfl rfl ?_
        (conv => whnf)
        (try (refine ArW.i64e ((K + wSum wgtInt64S x.fBefore + wSum wgtInt64S x.fInput + wSum wgtInt64S x.fAfter : Nat) : Int) rfl (by omega) ?_; (conv => whnf)))
        refine IoW.at (by omega) (by omega) ?_
        (conv => whnf)
        refine EoW.at (List.getElem?_set_self (by (try simp only [List.length_set]); omega)) ?_
        (conv => whnf)
        refine ⟨⟨10, 9, _, _, _, _, _, rfl, rfl, hc3, ?_⟩⟩
        (conv => whnf)
        refine CallW.useK0 (mkInt64S_pk x.fOutput (K + wSum wgtInt64S x.fBefore + wSum wgtInt64S x.fInput + wSum wgtInt64S x.fAfter) (by omega) (by omega)) hq3 (b := 9) rfl rfl rfl rfl rfl ?_
        (conv => whnf)
        refine ArW.i64e ((i + 1 : Nat) : Int) (by omega) (by omega) ?_
        (conv => whnf)
        refine ⟨fun B X N M a w R => ?_⟩
        obtain ⟨M0, R0⟩ := R.inn (b := 2) (c := 3) (j := 4) (k := i) (p := [0]) (U := fun u => hoRule (mkERule K x) u (.hole τ1.g (x.fInput.map TInt64S.D).length τ1.cap) (.hole τ2.g (x.fAfter.map TInt64S.D).length τ2.cap) (.hole τ3.g (x.fOutput.map (D.int .i64)).length τ3.cap)) (by decide) (by decide) (by decide) rfl (List.getElem?_set_self (by (try simp only [List.length_set]); omega)) rfl (fun _ => rfl) rfl rfl (by simp only [List.length_map, mkG_len]) hc0
        obtain ⟨M1, R1⟩ := R0.inn (b := 2) (c := 5) (j := 6) (k := i) (p := [1]) (U := fun u => hoRule (mkERule K x) (.lst ((mkG wgtInt64S mkEInt64S (K) x.fBefore).map TInt64S.D)) u (.hole τ2.g (x.fAfter.map TInt64S.D).length τ2.cap) (.hole τ3.g (x.fOutput.map (D.int .i64)).length τ3.cap)) (by decide) (by decide) (by decide) rfl (List.getElem?_set_self (by (try simp only [List.length_set]); omega)) rfl (fun _ => rfl) rfl rfl (by simp only [List.length_map, mkG_len]) hc1
        obtain ⟨M2, R2⟩ := R1.inn (b := 2) (c := 7) (j := 8) (k := i) (p := [2]) (U := fun u => hoRule (mkERule K x) (.lst ((mkG wgtInt64S mkEInt64S (K) x.fBefore).map TInt64S.D)) (.lst ((mkG wgtInt64S mkEInt64S (K + wSum wgtInt64S x.fBefore) x.fInput).map TInt64S.D)) u (.hole τ3.g (x.fOutput.map (D.int .i64)).length τ3.cap)) (by decide) (by decide) (by decide) rfl (List.getElem?_set_self (by (try simp only [List.length_set]); omega)) rfl (fun _ => rfl) rfl rfl (by simp only [List.length_map, mkG_len]) hc2
        obtain ⟨M3, R3⟩ := R2.inn (b := 2) (c := 9) (j := 10) (k := i) (p := [3]) (U := fun u => hoRule (mkERule K x) (.lst ((mkG wgtInt64S mkEInt64S (K) x.fBefore).map TInt64S.D)) (.lst ((mkG wgtInt64S mkEInt64S (K + wSum wgtInt64S x.fBefore) x.fInput).map TInt64S.D)) (.lst ((mkG wgtInt64S mkEInt64S (K + wSum wgtInt64S x.fBefore + wSum wgtInt64S x.fInput) x.fAfter).map TInt64S.D)) u) (by decide) (by decide) (by decide) rfl (List.getElem?_set_self (by (try simp only [List.length_set]); omega)) rfl (fun _ => rfl) rfl rfl (by simp only [List.length_map, mkLInt64_len]) hc3
        have hy : (mkG wgtRule mkERule k xs)[i]? = some (mkERule K x) := by rw [mkG_get _ _ _ _ _ _ hx, hK]
        obtain ⟨MZ, RZ⟩ := R3.cov (e' := E0 (i + 1)) (h' := H0 (i + 1)) (show cov _ [_, _, _] from ⟨rfl, congrArg (fun z : Nat => V.d (.int .i64 (z : Int))) (by rw [wSum_succ wgtRule xs i x hx, hwx]; omega), rfl, trivial⟩) (show covH _ [_, _, Blk.arr 4 _ true] from ⟨trivial, rfl, by
          have : ((fillG (mkG wgtRule mkERule k xs) xs (i + 1)).map TRule.D) = RW.set i (mkERule K x).D := by rw [← fillG_set hG hy, List.map_set, hR0]
          rw [this]
          simp only [Int.toNat_natCast, Nat.add_zero, List.set_set]
          rfl, trivial⟩) rfl
        obtain ⟨p, M3, R3, hI, hp⟩ := enter (i + 1) (by omega) _ _ _ _ _ _ RZ
        exact ⟨p, M3, R3, hI, by show xs.length - p.1 < xs.length - i; omega⟩
def wgtLookup (x : TLookup) : Nat := 1 + wSum wgtRule x.fRules
def mkELookup (k : Nat) (x : TLookup) : TLookup := ⟨mkT (k), mkG wgtRule mkERule (k + 1) x.fRules⟩
theorem wgtLookup_le (x : TLookup) : wgtLookup x ≤ 8 * zLookup x + 8 := by have h1 := wSum_z wgtRule wgtRule_le x.fRules; simp only [wgtLookup, zLookup, zL] at *; omega
def hoLookup (x : TLookup) (u0 : D) : D := .st [.str x.fName, u0]
set_option maxHeartbeats 4000000 in
theorem mkLookupS_pk (xs : List TLookup) (k : Nat) (hb : k + wSum wgtLookup xs ≤ 4611686018427387904) (h1 : 1 ≤ k) : PK Tryz.prog 64 2 (xs.map TLookup.D) [.d (.int .i64 (k : Nat))] (.d (.int .i64 ((k + wSum wgtLookup xs : Nat)))) ((mkG wgtLookup mkELookup k xs).map TLookup.D) := by
  have hL : (xs.map TLookup.D).length = xs.length := List.length_map _
  have hG : (mkG wgtLookup mkELookup k xs).length = xs.length := mkG_len _ _ _ _
  refine pk_intro ttOk (by kernel_rfl) Tryz.func64 rfl (by kernel_rfl) (by kernel_rfl) (by kernel_rfl) (by simp [hG]) rfl rfl (fun hx => ?_) (fun c s g sz t hw hm => ?_)
  · have hx : xs = [] := List.map_eq_nil_iff.1 hx
    subst hx
    refine pc_intro ttOk (by kernel_rfl) Tryz.func64 rfl (by kernel_rfl) (by kernel_rfl) (by kernel_rfl) (fun hw => ?_)
    (conv => whnf)
    refine LoopW.go (α := Nat) (fun i => [(0, .d (.lst [])), (1, .d (.int .i64 (k : Nat))), (5, .d (.int .i64 (0 : Nat)))]) (fun _ => [.gone]) (fun _ => True) (fun i => i) 0 covT_ trivial (fun i _ => ?_)
    (conv => whnf)
    (repeat' (first | (refine stg_ ?_) | fail | (refine br_ (fun hbr => ?_) (fun hbr => ?_))))
    all_goals first | (exfalso; simp_all; done) | ((refine RetOK.d rfl rfl ?_; conv => whnf); simp [wSum])
  · have hfl : ∀ i, ((fillG (mkG wgtLookup mkELookup k xs) xs i).map TLookup.D).length = xs.length := fun i => by rw [List.length_map, fillG_len hG]
    have hm' : xs.length ≤ 9223372036854775807 := by rw [hL] at hm; exact hm
    let E0 : Nat → Env := fun i => [(0, .own 2 0 (xs.map TLookup.D).length), (1, .d (.int .i64 ((k + wSum wgtLookup (xs.take i) : Nat)))), (5, .d (.int .i64 i))]
    let H0 : Nat → List Blk := fun i => [.gone, .gho c s g sz t, .arr 2 ((fillG (mkG wgtLookup mkELookup k xs) xs i).map TLookup.D) true]
    let mkH : Nat × Option (TLookup × Tk) → List Blk := fun p => match p with
      | (i, none) => H0 i
      | (i, some (x, τ0)) => [.gone, .gho c s g sz t, .arr 2 (((fillG (mkG wgtLookup mkELookup k xs) xs i).map TLookup.D).set i (hoLookup x (.hole τ0.g (x.fRules.map TRule.D).length τ0.cap))) true, .arr τ0.n (x.fRules.map TRule.D) true, .pin 3 τ0.g τ0.sz τ0.t]
    let I : Nat × Option (TLookup × Tk) → Prop := fun p => (p.2 = none ∧ p.1 = xs.length) ∨ ∃ x τ0, p.2 = some (x, τ0) ∧ xs[p.1]? = some x ∧ τ0.ok 4 (x.fRules.map TRule.D)
    have enter : ∀ i, i ≤ xs.length → ∀ (B : World) (X : List Nat) (N : Nat) (M : MM) (a : Act) (w : World), Rep B X N M (E0 i) (H0 i) a w → ∃ p M', Rep B X N M' (E0 p.1) (mkH p) a w ∧ I p ∧ p.1 = i := fun i hi B X N M a w R => by
      rcases Nat.lt_or_ge i xs.length with hlt | hge
      · obtain ⟨x, hx⟩ := at_lt' (xs := xs) (k := i) hlt
        have he : ((fillG (mkG wgtLookup mkELookup k xs) xs i).map TLookup.D)[i]? = some x.D := by rw [List.getElem?_map, fillG_get hG hx]; rfl
        have hf := hfl i
        obtain ⟨g0, cap0, sz0, t0, n0, M0, p0, q0, R0⟩ := R.out (b := 2) (k := i) (p := [1]) (U := fun u => hoLookup x u) (n1 := 4) (by decide) rfl he rfl (fun _ => rfl) (by intro y hy; obtain ⟨z, _, rfl⟩ := List.mem_map.1 hy; rfl)
        exact ⟨(i, some (x, ⟨g0, cap0, sz0, t0, n0⟩)), M0, R0, .inr ⟨x, _, rfl, hx, ⟨p0, q0⟩⟩, rfl⟩
      · exact ⟨(i, none), M, R, .inl ⟨rfl, by show i = _; omega⟩, rfl⟩
    (conv => whnf)
    refine LoopW.goX (fun p => E0 p.1) mkH I (fun p => xs.length - p.1) (fun B X N M a w R => ?_) (fun p hp E H hE hH => ?_)
    · obtain ⟨M1, R1⟩ := R.cov (e' := [(0, .own 2 0 (xs.map TLookup.D).length), (1, .d (.int .i64 ((k + wSum wgtLookup (xs.take 0) : Nat)))), (5, .d (.int .i64 (0 : Nat)))]) (h' := [.gone, .gho c s g sz t, .arr 2 ((fillG (mkG wgtLookup mkELookup k xs) xs 0).map TLookup.D) true]) ⟨rfl, rfl, rfl, trivial⟩ ⟨trivial, rfl, by rw [fillG_zero], trivial⟩ rfl
      obtain ⟨p, M2, R2, hI, _⟩ := enter 0 (by omega) _ _ _ _ _ _ R1
      exact ⟨p, M2, R2, hI⟩
    · rcases hp with ⟨hp, hl⟩ | ⟨x, τ0, hp, hx, hq0, hc0⟩
      · obtain ⟨i, q⟩ := p
        dsimp only at hp hl
        subst hp
        subst hl
        subst hE
        subst hH
        (conv => whnf)
        (refine br_ (fun h2 => ?_) (fun h2 => ?_))
        · exfalso; omega
        · (conv => whnf)
          refine ⟨?_, [], ?_⟩
          · show V.d (.int .i64 ((k + wSum wgtLookup (xs.take xs.length) : Nat))) = _
            rw [List.take_length]
          · show [Blk.gone, Blk.gho c s g sz t, Blk.arr 2 ((fillG (mkG wgtLookup mkELookup k xs) xs xs.length).map TLookup.D) true] = _
            rw [fillG_all hG]
      · obtain ⟨i, q⟩ := p
        dsimp only at hp hx
        subst hp
        have hi : i < xs.length := (List.getElem?_eq_some_iff.1 hx).1
        have hle := wSum_le wgtLookup xs (i + 1)
        rw [wSum_succ wgtLookup xs i x hx] at hle
        have hwx : wgtLookup x = 1 + wSum wgtRule x.fRules := rfl
        have hR0l : ((fillG (mkG wgtLookup mkELookup k xs) xs i).map TLookup.D).length = xs.length := hfl i
        generalize hK : k + wSum wgtLookup (xs.take i) = K at *
        generalize hR0 : (fillG (mkG wgtLookup mkELookup k xs) xs i).map TLookup.D = RW at *
        have hE' : [(0, .own 2 0 (xs.map TLookup.D).length), (1, .d (.int .i64 (K : Nat))), (5, .d (.int .i64 i))] = E := by rw [← hK]; exact hE
        have hH' : [.gone, .gho c s g sz t, .arr 2 ((RW).set i (hoLookup x (.hole τ0.g (x.fRules.map TRule.D).length τ0.cap))) true, .arr τ0.n (x.fRules.map TRule.D) true, .pin 3 τ0.g τ0.sz τ0.t] = H := by rw [← hR0]; exact hH
        subst hE'
        subst hH'
        (conv => whnf)
        refine BIf.mk (fun h2 => ?_) (fun h2 => ?_) <;> (try simp only [decide_eq_true_eq, decide_eq_false_iff_not, Bool.not_eq_true', Bool.not_eq_false', bne_iff_ne, ne_eq, beq_iff_eq, bne_eq_false_iff_eq, beq_eq_false_iff_ne, Decidable.not_not, Nat.not_lt, Nat.not_le, Int.not_lt, Int.not_le, Bool.and_eq_true, Bool.and_eq_false_iff, Bool.or_eq_true, Bool.or_eq_false_iff] at h2)
        rotate_left
        · exfalso; simp only [hL] at h2; omega
        (conv => whnf)
        (try (refine ArW.i64e ((K : Nat) : Int) rfl (by omega) ?_; (conv => whnf)))
        (refine cl_ (mkT_v (K) (by omega) (by omega)) ?_)
        refine IoW.at (by omega) (by omega) ?_
        (conv => whnf)
        (try (refine ArW.i64e ((K : Nat) : Int) rfl (by omega) ?_; (conv => whnf)))
        refine EoW.at (List.getElem?_set_self (by (try simp only [List.length_set]); omega)) ?_
        (conv => whnf)
        refine ArW.i64e ((K + 1 : Nat) : Int) (by omega) (by omega) ?_
        (conv => whnf)
        (try (refine ArW.i64e ((K + 1 : Nat) : Int) rfl (by omega) ?_; (conv => whnf)))
        refine IoW.at (by omega) (by omega) ?_
        (conv => whnf)
        refine EoW.at (List.getElem?_set_self (by (try simp only [List.length_set]); omega)) ?_
        (conv => whnf)
        refine ⟨⟨4, 3, _, _, _, _, _, rfl, rfl, hc0, ?_⟩⟩
        (conv => whnf)
        refine CallW.useK0 (mkRuleS_pk x.fRules (K + 1) (by omega) (by omega)) hq0 (b := 3) rfl rfl rfl rfl rfl ?_
        (conv => whnf)
        refine ArW.i64e ((i + 1 : Nat) : Int) (by omega) (by omega) ?_
        (conv => whnf)
        refine ⟨fun B X N M a w R => ?_⟩
        obtain ⟨M0, R0⟩ := R.inn (b := 2) (c := 3) (j := 4) (k := i) (p := [1]) (U := fun u => hoLookup (mkELookup K x) u) (by decide) (by decide) (by decide) rfl (List.getElem?_set_self (by (try simp only [List.length_set]); omega)) rfl (fun _ => rfl) rfl rfl (by simp only [List.length_map, mkG_len]) hc0
        have hy : (mkG wgtLookup mkELookup k xs)[i]? = some (mkELookup K x) := by rw [mkG_get _ _ _ _ _ _ hx, hK]
        obtain ⟨MZ, RZ⟩ := R0.cov (e' := E0 (i + 1)) (h' := H0 (i + 1)) (show cov _ [_, _, _] from ⟨rfl, congrArg (fun z : Nat => V.d (.int .i64 (z : Int))) (by rw [wSum_succ wgtLookup xs i x hx, hwx]; omega), rfl, trivial⟩) (show covH _ [_, _, Blk.arr 2 _ true] from ⟨trivial, rfl, by
          have : ((fillG (mkG wgtLookup mkELookup k xs) xs (i + 1)).map TLookup.D) = RW.set i (mkELookup K x).D := by rw [← fillG_set hG hy, List.map_set, hR0]
          rw [this]
          simp only [Int.toNat_natCast, Nat.add_zero, List.set_set]
          rfl, trivial⟩) rfl
        obtain ⟨p, M3, R3, hI, hp⟩ := enter (i + 1) (by omega) _ _ _ _ _ _ RZ
        exact ⟨p, M3, R3, hI, by show xs.length - p.1 < xs.length - i; omega⟩

end Go.Proofs.YtcachhipflibkaaGreat
