/- AxisText, both, by the machine. -/
import Derived.Test.YtdjdkkacbkfmeaaShelf
import Derived.Test.YtdjdkkacbkfmeaaVMLib
import Derived.Test.YtdjdkkacbkfmeaaDec
import Derived.Test.YtdjdkkacbkfmeaaAxN
set_option linter.unusedSimpArgs false
set_option linter.unusedVariables false
namespace Go.Proofs.Ytdjdkkacbkfmeaa
open Go.RowKit
theorem bs_ext {a b : ByteArray} (h : a.data.toList = b.data.toList) : a = b := ByteArray.ext (Array.toList_inj.mp h)
theorem bs_app (a b : ByteArray) : (a ++ b).data.toList = a.data.toList ++ b.data.toList := by simp
/-- strings with blanks between -/
def jn (xs : List ByteArray) : ByteArray := mkS (Lib.join (xs.map (·.data.toList)) [32])
theorem jn_one (x : ByteArray) : jn [x] = x := by
  rw [jn, List.map_cons, List.map_nil, Lib.join_one]; exact mkS_of x
theorem join_snoc (sep : List UInt8) : ∀ (xs : List (List UInt8)) (w : List UInt8), xs ≠ [] → Lib.join (xs ++ [w]) sep = Lib.join xs sep ++ (sep ++ w)
  | [], w, h => absurd rfl h
  | [x], w, _ => by simp [Lib.join, List.intercalate]
  | x :: y :: t, w, _ => by
    have := join_snoc sep (y :: t) w (by simp)
    simp only [Lib.join, List.intercalate, List.cons_append, List.intersperse_cons_cons, List.flatten_cons] at this ⊢
    rw [this]; simp
theorem jn_snoc {xs : List ByteArray} (w : ByteArray) (h : xs ≠ []) : jn (xs ++ [w]) = jn xs ++ ⟨#[32]⟩ ++ w := by
  apply bs_ext
  rw [bs_app, bs_app, jn, jn, mkS_toList, mkS_toList, List.map_append, List.map_cons, List.map_nil, join_snoc _ _ _ (by simpa using h)]
  simp
theorem join_v (xs : List ByteArray) (hN : xs.length ≤ 140737488355328) (hlen : (jn xs).size ≤ 140737488355328) : PC Try.prog 122 [.d (.lst (xs.map D.str)), .d (.str ⟨#[32]⟩)] (.d (.str (jn xs))) [] := by
  refine PC.of Try.func122 rfl rfl ?_
  rintro w X args ⟨c1, cs, rfl, h1, c2, cs2, rfl, h2, rfl⟩
  obtain ⟨a, cap, n, rfl, k1, k2, k3, k4⟩ := rep_lst.1 h1
  obtain ⟨rfl, h3⟩ := rep_str.1 h2
  rw [List.length_map] at k1 ⊢
  have hs : (jn xs).size ≤ maxLen := by unfold maxLen; omega
  by_cases h0 : xs = []
  · subst h0
    exact (Try.strings_Join_none a cap ⟨#[32]⟩ w).mono fun e w' ⟨r1, r2⟩ => ⟨_, r1, by rw [r2]; exact Ext.refl w, rep_str.2 ⟨rfl, hs⟩⟩
  · obtain ⟨b, o, rfl, hb, hc⟩ := str_cells k4 h0
    exact (Try.strings_Join b o cap xs ⟨#[32]⟩ w hc hb hN k1 (by rw [jn, mkS_size] at hlen; exact hlen)).mono fun e w' ⟨r1, r2⟩ => ⟨_, r1, r2, rep_str.2 ⟨rfl, hs⟩⟩
def ptB (p : TAxisPoint) : ByteArray := decB p.fFrom ++ ⟨#[58]⟩ ++ decB p.fTo
def wordsB (a : TAxis) : List ByteArray := [a.fName, decB a.fMin, decB a.fDefault, decB a.fMax] ++ a.fMap.map ptB
def textB (a : TAxis) : ByteArray := jn (wordsB a)
theorem sz32 : ByteArray.size ⟨#[32]⟩ = 1 := rfl
theorem sz58 : ByteArray.size ⟨#[58]⟩ = 1 := rfl
theorem lens_le {m : Nat} : ∀ (xs : List ByteArray), (∀ x ∈ xs, x.size ≤ m) → Lib.lens (xs.map (·.data.toList)) ≤ xs.length * m
  | [], _ => by simp [Lib.lens]
  | x :: t, h => by
    have := lens_le t (fun y hy => h y (by simp [hy]))
    have h1 : x.data.toList.length ≤ m := h x (by simp)
    simp only [Lib.lens, List.map_cons, List.sum_cons, List.length_cons, Nat.succ_mul] at this ⊢
    omega
theorem jn_size {m : Nat} {xs : List ByteArray} (h : ∀ x ∈ xs, x.size ≤ m) : (jn xs).size ≤ xs.length * (m + 1) := by
  cases xs with
  | nil => simp [jn, mkS_size, Lib.join]
  | cons x t =>
    have h2 := lens_le t (fun y hy => h y (by simp [hy]))
    have h1 : x.data.toList.length ≤ m := h x (by simp)
    rw [jn, mkS_size, List.map_cons, Lib.join_cons, List.length_append, Lib.joinTail_length, List.length_map, List.length_cons]
    simp only [List.length_cons, List.length_nil, Nat.zero_add, Nat.one_mul, Nat.add_mul, Nat.mul_add, Nat.mul_one]
    omega
theorem ax_sizes {a : TAxis} (h : axB a = true) : a.fName.size ≤ 12 ∧ a.fMap.length ≤ 6 := by
  simp only [axB, inB, Bool.and_eq_true, decide_eq_true_eq] at h
  refine ⟨?_, ?_⟩
  · have := h.1.1.1.1
    simp only [nameB, Bool.and_eq_true, decide_eq_true_eq] at this
    exact this.1
  · have := h.2
    cases hm : a.fMap with
    | nil => simp
    | cons x t =>
      rw [hm] at this
      simp only [mapB, List.isEmpty_cons, Bool.false_or, Bool.and_eq_true, decide_eq_true_eq] at this
      exact this.2
theorem decB_sz {n : Int} (h1 : -9223372036854775808 ≤ n) (h2 : n ≤ 9223372036854775807) : (decB n).size ≤ 21 := decB_size n (natAbs_bnd h1 h2)
theorem pt_in {a : TAxis} (h : axB a = true) {k : Nat} {p : TAxisPoint} (hp : a.fMap[k]? = some p) : (decB p.fFrom).size ≤ 21 ∧ (decB p.fTo).size ≤ 21 := by
  have := mp_ap _ _ (mapB_mp (axB_facts h).2.2.2.2.2) k p hp
  simp only [apB, nrm, Bool.and_eq_true, decide_eq_true_eq] at this
  exact ⟨decB_sz (by omega) (by omega), decB_sz (by omega) (by omega)⟩
theorem words_sz {a : TAxis} (h : axB a = true) : ∀ x ∈ wordsB a, x.size ≤ 43 := by
  obtain ⟨f1, f2, f3, f4, f5, -⟩ := axB_facts h
  have := ax_sizes h
  have d1 := decB_sz (n := a.fMin) (by omega) (by omega)
  have d2 := decB_sz (n := a.fDefault) (by omega) (by omega)
  have d3 := decB_sz (n := a.fMax) (by omega) (by omega)
  intro x hx
  simp only [wordsB, List.mem_append, List.mem_cons, List.not_mem_nil, or_false, List.mem_map] at hx
  rcases hx with (rfl | rfl | rfl | rfl) | ⟨p, hp, rfl⟩ <;> first | omega | skip
  obtain ⟨k, hk⟩ := List.getElem?_of_mem hp
  have := pt_in h hk
  rw [ptB, ByteArray.size_append, ByteArray.size_append, sz58]
  omega
theorem words_len (a : TAxis) : (wordsB a).length = 4 + a.fMap.length := by simp [wordsB]; omega
theorem words_at {a : TAxis} {k : Nat} {p : TAxisPoint} (hp : a.fMap[k]? = some p) : (wordsB a).take (4 + (k + 1)) = (wordsB a).take (4 + k) ++ [ptB p] := by
  have : (wordsB a)[4 + k]? = some (ptB p) := by
    rw [wordsB, List.getElem?_append_right (by simp)]
    simp [hp]
  exact take_snoc_get this
theorem words_4 (a : TAxis) : (wordsB a).take 4 = [a.fName, decB a.fMin, decB a.fDefault, decB a.fMax] := by simp [wordsB]
theorem words_ne (a : TAxis) (k : Nat) : (wordsB a).take (4 + k) ≠ [] := by simp [wordsB]
theorem take_sz {a : TAxis} (h : axB a = true) (k : Nat) : (jn ((wordsB a).take (4 + k))).size ≤ 1000 := by
  have h1 := jn_size (m := 43) (xs := (wordsB a).take (4 + k)) (fun x hx => words_sz h x (List.mem_of_mem_take hx))
  have h2 := ax_sizes h
  have h3 := words_len a
  rw [List.length_take] at h1
  have : min (4 + k) (wordsB a).length ≤ 10 := by omega
  have := Nat.mul_le_mul_right (43 + 1) this
  omega
set_option maxHeartbeats 2000000 in
theorem l29Text_v (a : TAxis) (hA : axB a = true) : PC Try.prog 112 [.pX a.D] (.d (.str (textB a))) [] := by
  refine pc_intro ttOk (by kernel_rfl) Try.func112 rfl (by kernel_rfl) (by kernel_rfl) (by kernel_rfl) (fun hw => ?_)
  obtain ⟨f1, f2, f3, f4, f5, f6⟩ := axB_facts hA
  obtain ⟨s1, s2⟩ := ax_sizes hA
  have d1 := decB_sz (n := a.fMin) (by omega) (by omega)
  have d2 := decB_sz (n := a.fDefault) (by omega) (by omega)
  have d3 := decB_sz (n := a.fMax) (by omega) (by omega)
  have hL : (a.fMap.map TAxisPoint.D).length = a.fMap.length := List.length_map _
  (conv => whnf)
  (repeat' (first | (refine stg_ ?_) | (refine cl_ (l01Dec_v _) ?_) | (refine CatW.at (by show _ ≤ 9223372036854775807; simp only [ByteArray.size_append, sz32, sz58]; omega) ?_; conv => whnf) | (refine br_ (fun hbr => ?_) (fun hbr => ?_))))
  have hJ : a.fName ++ ⟨#[32]⟩ ++ decB a.fMin ++ ⟨#[32]⟩ ++ decB a.fDefault ++ ⟨#[32]⟩ ++ decB a.fMax = jn ((wordsB a).take (4 + 0)) := by
    rw [Nat.add_zero, words_4, show [a.fName, decB a.fMin, decB a.fDefault, decB a.fMax] = [a.fName] ++ [decB a.fMin] ++ [decB a.fDefault] ++ [decB a.fMax] from rfl, jn_snoc _ (by simp), jn_snoc _ (by simp), jn_snoc _ (by simp), jn_one]
  refine LoopW.go (α := Nat) (fun k => [(0, .pX a.D), (3, .d (.str (jn ((wordsB a).take (4 + k))))), (4, .d (.int .i64 k))]) (fun _ => [.gone]) (fun k => k ≤ a.fMap.length) (fun k => a.fMap.length - k) 0 (Weak.cov ⟨rfl, by rw [← hJ]; rfl, rfl, trivial⟩ ⟨trivial, trivial⟩ rfl) (by omega) (fun k hk => ?_)
  have t0 := take_sz hA k
  (conv => whnf)
  (refine br_ (fun h2 => ?_) (fun h2 => ?_) <;> (repeat (refine stg_ ?_)))
  · obtain ⟨p, hx⟩ := at_lt' (xs := a.fMap) (k := k) (by omega)
    obtain ⟨q1, q2⟩ := pt_in hA hx
    have hS : jn ((wordsB a).take (4 + (k + 1))) = jn ((wordsB a).take (4 + k)) ++ (⟨#[32]⟩ ++ decB p.fFrom ++ ⟨#[58]⟩ ++ decB p.fTo) := by
      rw [words_at hx, jn_snoc _ (words_ne a k), ptB]
      apply bs_ext
      simp
    (repeat' (first | (refine stg_ ?_) | (refine cl_ (l01Dec_v _) ?_) | (refine CatW.at (by show _ ≤ 9223372036854775807; simp only [ByteArray.size_append, sz32, sz58]; omega) ?_; conv => whnf) | (refine br_ (fun hbr => ?_) (fun hbr => ?_))))
    exact NextW.go (k + 1) (Weak.cov ⟨rfl, by rw [hS]; rfl, rfl, trivial⟩ ⟨trivial, trivial⟩ rfl) (by omega) (by omega)
  · (refine RetOK.d rfl rfl ?_; conv => whnf)
    rw [textB, List.take_of_length_le (by rw [words_len]; omega)]
set_option maxHeartbeats 2000000 in
theorem AxisText_v (a : TAxis) : PC Try.prog 61 [.d a.D] (.d (.str (if axB a = true then textB a else .empty))) [] := by
  refine pc_intro ttOk (by kernel_rfl) Try.func61 rfl (by kernel_rfl) (by kernel_rfl) (by kernel_rfl) (fun hw => ?_)
  have hL : (a.fMap.map TAxisPoint.D).length = a.fMap.length := List.length_map _
  cases hA : axB a
  · (conv => whnf)
    (repeat' (first | (refine stg_ ?_) | (refine cla_ (ValidAxis_v a) ?_) | (refine br_ (fun hbr => ?_) (fun hbr => ?_))))
    all_goals first | (exfalso; simp_all; done) | ((refine RetOK.d rfl rfl ?_; conv => whnf); (try simp); (try rfl))
  · have hm : (a.fMap.map TAxisPoint.D).length ≤ 9223372036854775807 := hw.1.2.2.2.2.1.1
    obtain ⟨s1, s2⟩ := ax_sizes hA
    (conv => whnf)
    (repeat' (first | (refine stg_ ?_) | (refine cla_ (ValidAxis_v a) ?_) | (refine cl_ (Decimal_v _) ?_) | (refine br_ (fun hbr => ?_) (fun hbr => ?_))))
    all_goals first | (exfalso; simp_all; done) | skip
    refine LoopW.go (α := Nat) (fun k => [(1, .pB 1 [] 0), (3, .own 2 0 (4 + k)), (22, .d (.lst (a.fMap.map TAxisPoint.D))), (23, .d (.int .i64 (a.fMap.map TAxisPoint.D).length)), (24, .d (.int .i64 k))]) (fun k => [.gone, .box (.d a.D), .arr 1 (((wordsB a).take (4 + k)).map D.str) true]) (fun k => k ≤ a.fMap.length) (fun k => a.fMap.length - k) 0 (Weak.cov ⟨rfl, rfl, rfl, rfl, rfl, trivial⟩ ⟨trivial, rfl, by rw [Nat.add_zero, words_4]; rfl, trivial⟩ rfl) (by omega) (fun k hk => ?_)
    have hW : (((wordsB a).take (4 + k)).map D.str).length = 4 + k := by rw [List.length_map, List.length_take, words_len]; omega
    (conv => whnf)
    (refine br_ (fun h2 => ?_) (fun h2 => ?_) <;> (repeat (refine stg_ ?_)))
    · obtain ⟨p, hx⟩ := at_lt' (xs := a.fMap) (k := k) (by omega)
      obtain ⟨q1, q2⟩ := pt_in hA hx
      (repeat' (first | (refine stg_ ?_) | (refine cl_ (Decimal_v _) ?_) | (refine CatW.at (by show _ ≤ 9223372036854775807; simp only [ByteArray.size_append, sz32, sz58]; omega) ?_; conv => whnf) | (refine br_ (fun hbr => ?_) (fun hbr => ?_))))
      refine NextW.go (k + 1) (Weak.cov ⟨rfl, rfl, rfl, rfl, rfl, trivial⟩ ⟨trivial, rfl, ?_, trivial⟩ rfl) (by omega) (by omega)
      show Blk.arr 1 _ true = Blk.arr 1 _ true
      rw [List.take_of_length_le (Nat.le_of_eq hW), words_at hx, List.map_append]
      rfl
    · have hk2 : k = a.fMap.length := by omega
      subst hk2
      have hT : (wordsB a).take (4 + a.fMap.length) = wordsB a := List.take_of_length_le (by rw [words_len]; omega)
      have hW2 : ((wordsB a).map D.str).length = 4 + a.fMap.length := by rw [List.length_map, words_len]
      have t0 := take_sz hA a.fMap.length
      rw [hT] at t0 ⊢
      (repeat' (first | (refine stg_ ?_) | (refine cla_ (join_v (wordsB a) (by rw [words_len]; omega) (by omega)) ?_) | (refine br_ (fun hbr => ?_) (fun hbr => ?_))))
      (refine RetOK.d rfl rfl ?_; conv => whnf)
      rfl
end Go.Proofs.Ytdjdkkacbkfmeaa
