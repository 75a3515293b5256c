/- The laws' own marking functions: what each leaves. -/
import Derived.Test.YtdeafbgnbgihgaaVMIn
import Derived.Test.YtdeafbgnbgihgaaLVBase
import Derived.Test.YtdeafbgnbgihgaaLV
set_option linter.unusedSimpArgs false
set_option linter.unusedVariables false
namespace Go.Proofs.Ytdeafbgnbgihgaa
open Go.RowKit
section
variable {α : Type} {g : Nat → α → α} {xs : List α}
def fillM (g : Nat → α → α) (xs : List α) (k : Nat) : List α := (xs.mapIdx g).take k ++ xs.drop k
theorem fillM_zero : fillM g xs 0 = xs := by simp [fillM]
theorem fillM_all : fillM g xs xs.length = xs.mapIdx g := by
  rw [fillM, List.drop_length, List.append_nil, List.take_of_length_le (by simp)]
theorem fillM_len (k : Nat) : (fillM g xs k).length = xs.length := by simp [fillM]; omega
theorem fillM_get {k : Nat} {x : α} (h : xs[k]? = some x) : (fillM g xs k)[k]? = some x := by
  have hk := (List.getElem?_eq_some_iff.1 h).1
  have hl : ((xs.mapIdx g).take k).length = k := by simp; omega
  rw [fillM, List.getElem?_append_right (by omega), hl, Nat.sub_self, List.getElem?_drop]
  simpa using h
theorem fillM_set {k : Nat} {x : α} (h : xs[k]? = some x) : (fillM g xs k).set k (g k x) = fillM g xs (k + 1) := by
  have hk := (List.getElem?_eq_some_iff.1 h).1
  have hl : ((xs.mapIdx g).take k).length = k := by simp; omega
  have hm : (xs.mapIdx g)[k]? = some (g k x) := by rw [List.getElem?_mapIdx, h]; rfl
  rw [fillM, fillM, List.set_append_right _ _ (by omega), hl, Nat.sub_self, drop_at h, List.set_cons_zero, take_snoc_get hm, List.append_assoc]
  rfl
end
section
variable {α : Type} (w : α → Nat) (g : Nat → α → α)
def wSum : List α → Nat
  | [] => 0
  | x :: xs => w x + wSum xs
variable {ys xs : List α}
end
theorem Rep.cov {B : World} {X : List Nat} {N : Nat} {M : MM} {e e' : Env} {h h' : List Blk} {a : Act} {w : World} (R : Rep B X N M e h a w) (h1 : cov e e') (h2 : covH h h') (h3 : (scE h' e' && scH h' h' && (match h' with | .gone :: _ => true | _ => false)) = true) : ∃ M', Rep B X N M' e' h' a w := Weak.cov h1 h2 h3 _ _ _ _ _ _ R
structure Tk where
  g : Nat
  cap : Nat
  sz : Nat
  t : TypeId
  n : Nat
def Tk.ok (τ : Tk) (n1 : Nat) (ys : List D) : Prop := (ys ≠ [] → τ.n = n1) ∧ (τ.cap = 0 ∨ τ.cap * τ.n < τ.sz)

def mkT (k : Nat) : ByteArray := mkS (109 :: decL k)
theorem decS_preN {n k : Nat} {L : List UInt8} (h : (if k = 0 then [] else decL k) ++ L = decL n) (hk : k ≠ 0) : (if k / 10 = 0 then [] else decL (k / 10)) ++ (dgC (k % 10) :: L) = decL n := by
  rw [← h, if_neg hk]
  by_cases h1 : k < 10
  · rw [decL_lo h1, if_pos (by omega), Nat.mod_eq_of_lt h1]; rfl
  · rw [decL_hi h1, if_neg (by omega)]; simp
theorem mkT_v (k : Nat) (h1 : 1 ≤ k) (h2 : k ≤ 4611686018427387904) : PC Try.prog 26 [.d (.int .i64 (k : Nat))] (.d (.str (mkT k))) [] := by
  refine pc_intro ttOk (by kernel_rfl) Try.func26 rfl (by kernel_rfl) (by kernel_rfl) (by kernel_rfl) (fun hw => ?_)
  have hlen : (decL k).length ≤ 20 := decL_len 19 _ (by omega)
  (conv => whnf)
  (refine br_ (fun h3 => ?_) (fun h3 => ?_))
  · exfalso; omega
  · refine LoopW.go (α := Nat × List UInt8) (fun p => [(0, .d (.int .i64 (p.1 : Nat))), (3, .d (.str (mkS p.2)))]) (fun _ => [.gone]) (fun p => (if p.1 = 0 then [] else decL p.1) ++ p.2 = decL k ∧ p.1 ≤ k) (fun p => p.1) (k, []) covT_ ⟨by rw [if_neg (by show ¬ k = 0; omega)]; simp, Nat.le_refl _⟩ ?_
    rintro ⟨u, L⟩ ⟨k1, k2⟩
    dsimp only at k1 k2 ⊢
    have k3 := congrArg List.length k1
    rw [List.length_append] at k3
    have ht : (u : Int).tmod 10 = ((u % 10 : Nat) : Int) := by rw [Int.tmod_eq_emod_of_nonneg (by omega)]; rfl
    have hd : (u : Int).tdiv 10 = ((u / 10 : Nat) : Int) := by rw [Int.tdiv_eq_ediv_of_nonneg (by omega)]; rfl
    have hc := (dgC (u % 10)).toNat_lt
    have hc2 := dgC_toNat (d := u % 10) (by omega)
    (conv => whnf)
    (refine br_ (fun h4 => ?_) (fun h4 => ?_))
    · (refine stg_ ?_)
      rw [ht]
      (refine stg_ ?_)
      refine ArW.u8e ((dgC (u % 10)).toNat : Int) (by omega) (by omega) ?_
      (conv => whnf)
      (repeat (refine stg_ ?_))
      refine StW.at (s := mkS [dgC (u % 10)]) (by rw [mkS_toList]; rfl) ?_
      (conv => whnf)
      refine CatW.at (by rw [mkS_size, mkS_size]; show 1 + L.length ≤ 9223372036854775807; omega) ?_
      (conv => whnf)
      (repeat (refine stg_ ?_))
      rw [hd]
      (repeat (refine stg_ ?_))
      refine NextW.go (u / 10, dgC (u % 10) :: L) (Weak.cov ⟨rfl, ?_, trivial⟩ ⟨trivial, trivial⟩ rfl) ⟨decS_preN k1 (by omega), by show u / 10 ≤ k; omega⟩ (by show u / 10 < u; omega)
      exact congrArg (fun z => V.d (D.str z)) (mkS_app [dgC (u % 10)] L)
    · obtain rfl : u = 0 := by omega
      rw [if_pos rfl, List.nil_append] at k1
      refine CatW.at (by rw [mkS_size]; show 1 + L.length ≤ 9223372036854775807; rw [k1]; omega) ?_
      (conv => whnf)
      (refine RetOK.d rfl rfl ?_; conv => whnf)
      rw [mkT, ← k1]
      exact congrArg D.str (mkS_app [109] L).symm
def mkETable (k : Nat) (_ : TTable) : TTable := ⟨mkT (k), mkT (k + 1)⟩
def mkLTable (k : Nat) (xs : List TTable) : List TTable := xs.mapIdx fun i x => mkETable (k + 2 * i) x
theorem mkLTable_len (k : Nat) (xs : List TTable) : (mkLTable k xs).length = xs.length := by simp [mkLTable]
theorem mkTableS_nil (k : Nat) : PC Try.prog 11 [.d (.lst []), .d (.int .i64 (k : Nat))] (.d (.int .i64 (k : Nat))) [] := by
  refine pc_intro ttOk (by kernel_rfl) Try.func11 rfl (by kernel_rfl) (by kernel_rfl) (by kernel_rfl) (fun hw => ?_)
  (conv => whnf)
  refine LoopW.go (α := Nat) (fun i => [(0, .d (.lst [])), (1, .d (.int .i64 (k : Nat))), (5, .d (.int .i64 (0 : Nat)))]) (fun _ => [.gone]) (fun _ => True) (fun i => i) 0 covT_ trivial (fun i _ => ?_)
  (conv => whnf)
  (repeat' (first | (refine stg_ ?_) | fail | (refine br_ (fun hbr => ?_) (fun hbr => ?_))))
  all_goals first | (exfalso; simp_all; done) | (refine RetOK.d rfl rfl ?_; conv => whnf)
set_option maxHeartbeats 2000000 in
theorem mkTableS_pk (xs : List TTable) (k : Nat) (hb : k + 2 * xs.length ≤ 4611686018427387904) (h1 : 1 ≤ k) : PK Try.prog 11 2 (xs.map TTable.D) [.d (.int .i64 (k : Nat))] (.d (.int .i64 ((k + 2 * xs.length : Nat)))) ((mkLTable k xs).map TTable.D) := by
  have hL : (xs.map TTable.D).length = xs.length := List.length_map _
  refine pk_intro ttOk (by kernel_rfl) Try.func11 rfl (by kernel_rfl) (by kernel_rfl) (by kernel_rfl) (by simp [mkLTable]) rfl rfl (fun hx => ?_) (fun c s g sz t hw hm => ?_)
  · have hx : xs = [] := List.map_eq_nil_iff.1 hx
    subst hx
    refine pc_intro ttOk (by kernel_rfl) Try.func11 rfl (by kernel_rfl) (by kernel_rfl) (by kernel_rfl) (fun hw => ?_)
    (conv => whnf)
    refine LoopW.go (α := Nat) (fun i => [(0, .d (.lst [])), (1, .d (.int .i64 (k : Nat))), (5, .d (.int .i64 (0 : Nat)))]) (fun _ => [.gone]) (fun _ => True) (fun i => i) 0 covT_ trivial (fun i _ => ?_)
    (conv => whnf)
    (repeat' (first | (refine stg_ ?_) | fail | (refine br_ (fun hbr => ?_) (fun hbr => ?_))))
    all_goals first | (exfalso; simp_all; done) | ((refine RetOK.d rfl rfl ?_; conv => whnf); simp)
  · (conv => whnf)
    refine LoopW.go (α := Nat) (fun i => [(0, .own 2 0 (xs.map TTable.D).length), (1, .d (.int .i64 ((k + 2 * i : Nat)))), (5, .d (.int .i64 i))]) (fun i => [.gone, .gho c s g sz t, .arr 2 ((fillM (fun i x => mkETable (k + 2 * i) x) xs i).map TTable.D) true]) (fun i => i ≤ xs.length) (fun i => xs.length - i) 0 (Weak.cov ⟨rfl, rfl, rfl, trivial⟩ ⟨trivial, rfl, by first | (rw [fillM_zero]; done) | (rw [fillM_zero]; rfl), trivial⟩ rfl) (by omega) (fun i hi => ?_)
    have hfl : ((fillM (fun i x => mkETable (k + 2 * i) x) xs i).map TTable.D).length = xs.length := by rw [List.length_map, fillM_len]
    (conv => whnf)
    (refine br_ (fun h2 => ?_) (fun h2 => ?_))
    · obtain ⟨x, hx⟩ := at_lt' (xs := xs) (k := i) (by omega)
      have he0 : ((fillM (fun i x => mkETable (k + 2 * i) x) xs i).map TTable.D)[i]? = some (TTable.D x) := by rw [List.getElem?_map, fillM_get hx]; rfl
      (refine cl_ (mkT_v (k + 2 * i) (by omega) (by omega)) ?_)
      (try (refine ArW.i64e ((k + 2 * i : Nat) : Int) rfl (by omega) ?_; (conv => whnf)))
      refine IoW.at (by omega) (by omega) ?_
      (conv => whnf)
      (try (refine ArW.i64e ((k + 2 * i : Nat) : Int) rfl (by omega) ?_; (conv => whnf)))
      refine EoW.at he0 ?_
      (conv => whnf)
      refine ArW.i64e ((k + 2 * i + 1 : Nat) : Int) (by omega) (by omega) ?_
      (conv => whnf)
      (refine cl_ (mkT_v (k + 2 * i + 1) (by omega) (by omega)) ?_)
      (try (refine ArW.i64e ((k + 2 * i + 1 : Nat) : Int) rfl (by omega) ?_; (conv => whnf)))
      refine IoW.at (by omega) (by omega) ?_
      (conv => whnf)
      (try (refine ArW.i64e ((k + 2 * i + 1 : Nat) : Int) rfl (by omega) ?_; (conv => whnf)))
      refine EoW.at (List.getElem?_set_self (by (try simp only [List.length_set]); omega)) ?_
      (conv => whnf)
      refine ArW.i64e ((k + 2 * i + 2 : Nat) : Int) (by omega) (by omega) ?_
      (conv => whnf)
      (repeat (refine stg_ ?_))
      refine NextW.go (i + 1) (Weak.cov ⟨rfl, by rw [show k + 2 * (i + 1) = k + 2 * i + 2 by omega]; rfl, rfl, trivial⟩ ⟨trivial, rfl, ?_, trivial⟩ rfl) (by omega) (by omega)
      show Blk.arr 2 _ true = Blk.arr 2 _ true
      rw [← fillM_set hx, List.map_set]
      (try simp only [List.set_set])
      rfl
    · obtain rfl : i = xs.length := by omega
      (conv => whnf)
      refine ⟨rfl, [], ?_⟩
      rw [fillM_all]; rfl
set_option maxHeartbeats 2000000 in
theorem hdTableS_v (xs : List TTable) (k : Nat) (hb : k + 2 * xs.length ≤ 4611686018427387904) (h1 : 1 ≤ k) : PC Try.prog 12 [.d (.lst ((mkLTable k xs).map TTable.D)), .d (.int .i64 (k : Nat))] (.d (.int .i64 ((k + 2 * xs.length : Nat)))) [] := by
  refine pc_intro ttOk (by kernel_rfl) Try.func12 rfl (by kernel_rfl) (by kernel_rfl) (by kernel_rfl) (fun hw => ?_)
  have hL : ((mkLTable k xs).map TTable.D).length = xs.length := by simp [mkLTable]
  (conv => whnf)
  refine LoopW.go (α := Nat) (fun i => [(0, .d (.lst ((mkLTable k xs).map TTable.D))), (1, .d (.int .i64 ((k + 2 * i : Nat)))), (5, .d (.int .i64 i))]) (fun _ => [.gone]) (fun i => i ≤ xs.length) (fun i => xs.length - i) 0 covT_ (by omega) (fun i hi => ?_)
  (conv => whnf)
  (refine br_ (fun h2 => ?_) (fun h2 => ?_))
  · obtain ⟨y, hy⟩ := at_lt' (xs := xs) (k := i) (by omega)
    have hx : (mkLTable k xs)[i]? = some (mkETable (k + 2 * i) y) := by rw [mkLTable, List.getElem?_mapIdx, hy]; rfl
    (repeat (refine stg_ ?_))
    (refine cl_ (mkT_v (k + 2 * i) (by omega) (by omega)) ?_)
    (repeat (refine stg_ ?_))
    refine BIf.mk (fun h3 => ?_) (fun h3 => ?_)
    · exfalso; simp [mkETable] at h3
    (conv => whnf)
    refine ArW.i64e ((k + 2 * i + 1 : Nat) : Int) (by omega) (by omega) ?_
    (conv => whnf)
    (repeat (refine stg_ ?_))
    (refine cl_ (mkT_v (k + 2 * i + 1) (by omega) (by omega)) ?_)
    (repeat (refine stg_ ?_))
    refine BIf.mk (fun h3 => ?_) (fun h3 => ?_)
    · exfalso; simp [mkETable] at h3
    (conv => whnf)
    refine ArW.i64e ((k + 2 * i + 2 : Nat) : Int) (by omega) (by omega) ?_
    (conv => whnf)
    (repeat (refine stg_ ?_))
    exact NextW.go (i + 1) (Weak.cov ⟨rfl, by rw [show k + 2 * (i + 1) = k + 2 * i + 2 by omega]; rfl, rfl, trivial⟩ ⟨trivial, trivial⟩ rfl) (by omega) (by omega)
  · obtain rfl : i = xs.length := by omega
    (conv => whnf)
    (refine RetOK.d rfl rfl ?_; conv => whnf)


end Go.Proofs.Ytdeafbgnbgihgaa
